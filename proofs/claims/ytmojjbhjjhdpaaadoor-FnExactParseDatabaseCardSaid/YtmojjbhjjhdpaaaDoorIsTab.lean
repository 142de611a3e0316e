/- IsValidTable: both texts. No condition but the size that the laws let in. -/
import Derived.Test.YtmojjbhjjhdpaaaDoorEqI
namespace Go.Proofs.YtmojjbhjjhdpaaaDoor
open Go.RowKit Go.Deep

/-- A name: one letter from a to z. -/
def nameB (s : ByteArray) : Bool := match s.data.toList with | [b] => inB b.toNat 97 122 | _ => false
theorem nameB_not {s : ByteArray} (h : ¬ s.size = 1) : nameB s = false := by
  unfold nameB
  split
  · rename_i b hb
    exact absurd (by rw [← ByteArray.size_data, ← Array.length_toList, hb]; rfl) h
  · rfl
theorem nameB_one {s : ByteArray} (h : s.size = 1) (h0 : 0 < s.size) : nameB s = inB (s[0]'h0).toNat 97 122 := by
  obtain ⟨⟨l⟩⟩ := s
  match l, h with
  | [b], _ => rfl

/-- A row: values from 0 to 9, so many. -/
def rowB (r : List Int) (n : Int) : Bool := (r.all fun c => inB c 0 9) && ((r.length : Int) == n)
theorem rowB_no {zs : List Int} {n : Int} {k : Nat} {x : Int} (hx : zs[k]? = some x) (h : inB x 0 9 = false) : rowB zs n = false := by
  have : (zs.all fun c => inB c 0 9) = false := by
    rw [← Bool.not_eq_true, List.all_eq_true]
    intro hall
    have := hall x (List.mem_of_getElem? hx)
    rw [h] at this
    cases this
  rw [rowB, this]
  rfl
theorem rowB_step {zs : List Int} {k : Nat} {x : Int} (hx : zs[k]? = some x) (h : inB x 0 9 = true) (hp : (zs.take k).all (fun c => inB c 0 9) = true) : (zs.take (k + 1)).all (fun c => inB c 0 9) = true := by
  obtain ⟨h1, rfl⟩ := List.getElem?_eq_some_iff.1 hx
  rw [List.take_succ_eq_append_getElem h1, List.all_append, hp]
  simpa using h
theorem rowB_end {zs : List Int} {m : Int} {n : Nat} (hn : zs.length = n) (hp : (zs.take n).all (fun c => inB c 0 9) = true) : rowB zs m = ((n : Int) == m) := by
  rw [List.take_of_length_le (by omega)] at hp
  rw [rowB, hp, hn]
  rfl

/-- Strictly ascending rows. -/
def ascB : List (List Int) → Bool
  | a :: b :: l => decide (cmpL a b < 0) && ascB (b :: l)
  | _ => true
theorem ascB_iff : ∀ {rs : List (List Int)}, ascB rs = true ↔ ∀ j x y, rs[j]? = some x → rs[j + 1]? = some y → cmpL x y < 0
  | [] => by simp [ascB]
  | [a] => by simp [ascB]
  | a :: b :: l => by
    rw [ascB, Bool.and_eq_true, decide_eq_true_eq, ascB_iff]
    constructor
    · rintro ⟨h1, h2⟩ j x y hx hy
      cases j with
      | zero =>
        simp at hx hy
        rw [← hx, ← hy]
        exact h1
      | succ j => exact h2 j x y (by simpa using hx) (by simpa using hy)
    · intro h
      exact ⟨h 0 a b rfl rfl, fun j x y hx hy => h (j + 1) x y (by simpa using hx) (by simpa using hy)⟩
theorem ascB_no {rs : List (List Int)} {j : Nat} {x y : List Int} (hx : rs[j]? = some x) (hy : rs[j + 1]? = some y) (h : 0 ≤ cmpL x y) : ascB rs = false := by
  rw [← Bool.not_eq_true, ascB_iff]
  intro hall
  have := hall j x y hx hy
  omega
/-- Up to k the rows ascend. -/
def AscTo (rs : List (List Int)) (k : Nat) : Prop := ∀ j x y, j + 1 < k → rs[j]? = some x → rs[j + 1]? = some y → cmpL x y < 0
theorem AscTo.one (rs : List (List Int)) (k : Nat) (hk : k ≤ 1) : AscTo rs k := fun j x y h => by omega
theorem AscTo.step {rs : List (List Int)} {k : Nat} {x y : List Int} (h : AscTo rs (k + 1)) (hx : rs[k]? = some x) (hy : rs[k + 1]? = some y) (hc : cmpL x y < 0) : AscTo rs (k + 2) := fun j u v hj hu hv => by
  rcases Nat.lt_or_ge (j + 1) (k + 1) with h1 | h1
  · exact h j u v h1 hu hv
  · obtain rfl : j = k := by omega
    rw [hx] at hu
    rw [hy] at hv
    injection hu with hu
    injection hv with hv
    rw [← hu, ← hv]
    exact hc
theorem AscTo.done {rs : List (List Int)} {k : Nat} (h : AscTo rs k) (hk : rs.length ≤ k) : ascB rs = true := ascB_iff.2 fun j x y hx hy => h j x y (by have := (List.getElem?_eq_some_iff.1 hy).1; omega) hx hy

/-- A valid table. -/
def validT (nm : ByteArray) (ar : Int) (rs : List (List Int)) : Bool := nameB nm && (inB ar 1 3 && (decide (rs.length ≤ 8) && ((rs.all fun r => rowB r ar) && ascB rs)))

set_option maxRecDepth 100000 in
theorem nameOk_any (s : ByteArray) (w : World) :
    Calls Tryd.prog 114 #[.string s] w fun e w' => e = .returned (.bool (nameB s)) ∧ w = w' := by
  by_cases h : s.size = 1
  · have h0 : 0 < s.size := by omega
    have hf := Lib.hid (nameB_one h h0)
    have q1 : ((s.size : Int) == 1) = true := by simp [h]
    clear h
    by_cases h1 : 97 ≤ (s[0].toNat : Int)
    all_goals
      go_enter Tryd.func114, Tryd.ntmps114
      go_wp2
      go_ret
      exact ⟨by rw [hf.out]; unfold inB; first | (simp; done) | (simp; omega), rfl⟩
  · have hf := Lib.hid (nameB_not h)
    have q1 : ((s.size : Int) == 1) = false := by simp; omega
    clear h
    go_enter Tryd.func114, Tryd.ntmps114
    go_wp2
    go_ret
    exact ⟨by rw [hf.out] <;> rfl, rfl⟩
set_option maxRecDepth 100000 in
theorem l4Name_any (s : ByteArray) (w : World) :
    Calls Tryd.prog 109 #[.string s] w fun e w' => e = .returned (.bool (nameB s)) ∧ w = w' := by
  by_cases h : s.size = 1
  · have h0 : 0 < s.size := by omega
    have hf := Lib.hid (nameB_one h h0)
    have q1 : ((s.size : Int) == 1) = true := by simp [h]
    clear h
    by_cases h1 : 97 ≤ (s[0].toNat : Int)
    all_goals
      go_enter Tryd.func109, Tryd.ntmps109
      go_wp2
      go_ret
      exact ⟨by rw [hf.out]; unfold inB; first | (simp; done) | (simp; omega), rfl⟩
  · have hf := Lib.hid (nameB_not h)
    have q1 : ((s.size : Int) == 1) = false := by simp; omega
    clear h
    go_enter Tryd.func109, Tryd.ntmps109
    go_wp2
    go_ret
    exact ⟨by rw [hf.out] <;> rfl, rfl⟩

set_option maxHeartbeats 400000 in
theorem rowOk_any (A : Option Addr) (n c : Nat) (zs : List Int) (m : Int) (w : World) (hr : RdI w w.heap.size A n zs) (hn : n ≤ 9223372036854775807) :
    Calls Tryd.prog 113 #[.slice A n c, .int .i64 m] w fun e w' => e = .returned (.bool (rowB zs m)) ∧ w = w' := by
  go_enter Tryd.func113, Tryd.ntmps113
  go_wp2
  go_loop [9] (fun i => ∃ k : Nat, k ≤ n ∧ i = .int .i64 k ∧ Hid ((zs.take k).all (fun c => inB c 0 9) = true)) (fun i => n - (intOf i).toNat)
  case atStart => exact ⟨0, by omega, rfl, by show (zs.take 0).all _ = true; simp⟩
  case round =>
    obtain ⟨k, hk, rfl, hp⟩ := hrel
    by_cases hlt : k < n
    · obtain ⟨b, o, x, rfl, hb, hx, hc⟩ := hr.at_ hlt
      by_cases hin : inB x 0 9 = true
      · have hp' := Lib.hid (rowB_step hx hin hp.out)
        clear hx
        go_wp2_with (go_at_call 67; refine (within_any _ _ _ _).mono ?_; rintro e w' ⟨rfl, rfl⟩)
        go_round
        case rel => exact ⟨k + 1, by omega, by go_num, hp'⟩
        case measure => simp [intOf]; omega
      · have hin' : inB x 0 9 = false := by simpa using hin
        have hf := Lib.hid (rowB_no (n := m) hx hin')
        clear hx hin
        go_wp2_with (go_at_call 67; refine (within_any _ _ _ _).mono ?_; rintro e w' ⟨rfl, rfl⟩)
        go_ret
        exact ⟨by rw [hf.out] <;> rfl, rfl⟩
    · obtain rfl : k = n := by omega
      have hf := Lib.hid (rowB_end (m := m) hr.1 hp.out)
      go_wp2
      go_ret
      exact ⟨by rw [hf.out] <;> rfl, rfl⟩

set_option maxHeartbeats 400000 in
theorem l4Row_any (A : Option Addr) (n c : Nat) (zs : List Int) (m : Int) (w : World) (hr : RdI w w.heap.size A n zs) (hn : n ≤ 9223372036854775807) :
    Calls Tryd.prog 110 #[.slice A n c, .int .i64 m] w fun e w' => e = .returned (.bool (rowB zs m)) ∧ w = w' := by
  go_enter Tryd.func110, Tryd.ntmps110
  go_wp2
  go_loop [5] (fun i => ∃ k : Nat, k ≤ n ∧ i = .int .i64 k ∧ Hid ((zs.take k).all (fun c => inB c 0 9) = true)) (fun i => n - (intOf i).toNat)
  case atStart => exact ⟨0, by omega, rfl, by show (zs.take 0).all _ = true; simp⟩
  case round =>
    obtain ⟨k, hk, rfl, hp⟩ := hrel
    by_cases hlt : k < n
    · obtain ⟨b, o, x, rfl, hb, hx, hc⟩ := hr.at_ hlt
      by_cases hin : inB x 0 9 = true
      · have hp' := Lib.hid (rowB_step hx hin hp.out)
        clear hx
        go_wp2_with (go_at_call 96; refine (l1In_any _ _ _ _).mono ?_; rintro e w' ⟨rfl, rfl⟩)
        go_round
        case rel => exact ⟨k + 1, by omega, by go_num, hp'⟩
        case measure => simp [intOf]; omega
      · have hin' : inB x 0 9 = false := by simpa using hin
        have hf := Lib.hid (rowB_no (n := m) hx hin')
        clear hx hin
        go_wp2_with (go_at_call 96; refine (l1In_any _ _ _ _).mono ?_; rintro e w' ⟨rfl, rfl⟩)
        go_ret
        exact ⟨by rw [hf.out] <;> rfl, rfl⟩
    · obtain rfl : k = n := by omega
      have hf := Lib.hid (rowB_end (m := m) hr.1 hp.out)
      go_wp2
      go_ret
      exact ⟨by rw [hf.out] <;> rfl, rfl⟩

set_option maxRecDepth 100000 in
set_option maxHeartbeats 400000 in
theorem ascendingRows_q (A : Option Addr) (n c : Nat) (rs : List (List Int)) (w : World) (hr : RdR w w.heap.size A n rs) (hn : n ≤ 9223372036854775806) :
    Calls Tryd.prog 115 #[.slice A n c] w fun e w' => e = .returned (.bool (ascB rs)) ∧ Qt w w' := by
  have HL := Lib.hid hr.1
  go_enter Tryd.func115, Tryd.ntmps115
  go_wp2
  go_loopw [3] (fun i wr => ∃ k : Nat, k ≤ n ∧ i = .int .i64 (((k + 1 : Nat) : Int)) ∧ Hid (AscTo rs (k + 1)) ∧ Qt w wr) (fun i _ => n + 1 - (intOf i).toNat)
  case atStart => exact ⟨0, by omega, by go_num, AscTo.one _ _ (by omega), Qt.refl _⟩
  case round =>
    obtain ⟨k, hk, rfl, hp, hbel⟩ := hrel
    by_cases hlt : k + 1 < n
    · obtain ⟨b, o, x, A1, c1, rfl, _, hx, hc, hrd, hm⟩ := RdR.at_ hr (show k < n by omega)
      obtain ⟨b', o', x', A2, c2, hbb, _, hx', hc', hrd', hm'⟩ := RdR.at_ hr hlt
      injection hbb with hbb
      injection hbb with hb1 hb2
      subst hb1 hb2
      have e1 := (hbel.cell (p := ⟨b, o + k, none⟩)).trans hc
      have e2 := (hbel.cell (p := ⟨b, o + (k + 1), none⟩)).trans hc'
      have KE := Lib.hid (fun q => impl_CompareRows_any A1 A2 x.length c1 x'.length c2 x x' (wr.drewN q) (hbel.rdI hrd) (hbel.rdI hrd') (by unfold maxLen at hm; omega) (by unfold maxLen at hm'; omega))
      have g0 : IntKind.i64.wrap ((((k + 1 : Nat) : Int)) - 1) = (k : Int) := by rw [IntWalk.i64_in _ (by omega)]; omega
      have g1 : (0 : Int) ≤ (k : Int) := by omega
      have g2 : (k : Int) < (n : Int) := by omega
      have g3 : (k : Int).toNat = k := by omega
      have g4 : (0 : Int) ≤ (((k + 1 : Nat) : Int)) := by omega
      have g5 : (((k + 1 : Nat) : Int)) < (n : Int) := by omega
      have g6 : (((k + 1 : Nat) : Int)).toNat = k + 1 := by omega
      by_cases hcmp : cmpL x x' < 0
      · have hp' : Hid (AscTo rs (k + 1 + 1)) := hp.out.step hx hx' hcmp
        obtain ⟨y, hy⟩ : ∃ y, y = cmpL x x' := ⟨_, rfl⟩
        rw [← hy] at KE hcmp
        have hq : decide (0 ≤ y) = false := by simpa using hcmp
        clear hy hx hx' hc hc' hrd hrd' hm hm'
        go_wp2_with fail
        go_quiet ((go_at_call 134; exact Calls.quiet_of_same ((KE.out _).mono fun _ _ h => ⟨h.1, h.2.symm⟩)))
        clear g0 g3 g6
        go_wp2_with fail
        refine ⟨⟨k + 1, by omega, by go_num, hp', hbel.drewN _⟩, ?_⟩
        simp [intOf]
        omega
      · have hf := Lib.hid (ascB_no hx hx' (by omega))
        obtain ⟨y, hy⟩ : ∃ y, y = cmpL x x' := ⟨_, rfl⟩
        rw [← hy] at KE hcmp
        have hq : decide (0 ≤ y) = true := by simpa using hcmp
        clear hy hx hx' hc hc' hrd hrd' hm hm'
        go_wp2_with fail
        go_quiet ((go_at_call 134; exact Calls.quiet_of_same ((KE.out _).mono fun _ _ h => ⟨h.1, h.2.symm⟩)))
        clear g0 g3 g6
        go_wp2_with fail
        go_ret
        exact ⟨by rw [hf.out] <;> rfl, hbel.drewN _⟩
    · have hf := Lib.hid (hp.out.done (by rw [HL.out]; omega))
      go_wp2
      go_ret
      exact ⟨by rw [hf.out] <;> rfl, hbel⟩

theorem nameOk_is {s : ByteArray} {b : Bool} (h : nameB s = b) (w : World) : Calls Tryd.prog 114 #[.string s] w fun e w' => e = .returned (.bool b) ∧ w = w' := h ▸ nameOk_any s w
theorem l4Name_is {s : ByteArray} {b : Bool} (h : nameB s = b) (w : World) : Calls Tryd.prog 109 #[.string s] w fun e w' => e = .returned (.bool b) ∧ w = w' := h ▸ l4Name_any s w
theorem within_is {n a c : Int} {b : Bool} (h : inB n a c = b) (w : World) : Calls Tryd.prog 67 #[.int .i64 n, .int .i64 a, .int .i64 c] w fun e w' => e = .returned (.bool b) ∧ w = w' := h ▸ within_any n a c w
theorem l1In_is {n a c : Int} {b : Bool} (h : inB n a c = b) (w : World) : Calls Tryd.prog 96 #[.int .i64 n, .int .i64 a, .int .i64 c] w fun e w' => e = .returned (.bool b) ∧ w = w' := h ▸ l1In_any n a c w
theorem all_take_step {α : Type} {p : α → Bool} {l : List α} {k : Nat} {x : α} (hx : l[k]? = some x) (h : p x = true) (hp : (l.take k).all p = true) : (l.take (k + 1)).all p = true := by
  obtain ⟨h1, rfl⟩ := List.getElem?_eq_some_iff.1 hx
  rw [List.take_succ_eq_append_getElem h1, List.all_append, hp]
  simpa using h
theorem all_no {α : Type} {p : α → Bool} {l : List α} {k : Nat} {x : α} (hx : l[k]? = some x) (h : p x = false) : l.all p = false := by
  rw [← Bool.not_eq_true, List.all_eq_true]
  intro hall
  rw [hall x (List.mem_of_getElem? hx)] at h
  cases h

set_option maxRecDepth 100000 in
set_option maxHeartbeats 1000000 in
theorem impl_IsValidTable_any (nm : ByteArray) (ar : Int) (A : Option Addr) (n c B : Nat) (rs : List (List Int)) (w : World) (hr : RdR w B A n rs) (hB : B ≤ w.heap.size) (hn : n ≤ 9223372036854775806) :
    Calls Tryd.prog 75 #[.agg #[.string nm, .int .i64 ar, .slice A n c]] w fun e w' => e = .returned (.bool (validT nm ar rs)) ∧ Below w.heap.size w w' := by
  have HL := Lib.hid hr.1
  have HB := Lib.hid (Below.refl w.heap.size w)
  go_enter Tryd.func75, Tryd.ntmps75
  go_wp2_with fail
  generalize hW : w.alloc (.cells #[.string nm, .int .i64 ar, .slice A n c] 41) = W
  have hWb : Hid (Below w.heap.size w W) := by rw [← hW]; exact (HB.out).alloc (Nat.le_refl _) _
  have w0 : W.cell? ⟨w.heap.size, 0, none⟩ = some (.string nm) := by rw [← hW]; simp [go_sem]
  have w1 : W.cell? ⟨w.heap.size, 1, none⟩ = some (.int .i64 ar) := by rw [← hW]; simp [go_sem]
  have w2 : W.cell? ⟨w.heap.size, 2, none⟩ = some (.slice A n c) := by rw [← hW]; simp [go_sem]
  have hr1 : RdR W W.heap.size A n rs := by rw [← hW]; exact (RdR.belowB hr ((Below.refl B w).alloc hB _) (Nat.le_refl _)).more (by simp; omega)
  clear hW hr
  go_loop [8] (fun i => ∃ k : Nat, k ≤ n ∧ i = .int .i64 k ∧ Hid ((rs.take k).all (fun r => rowB r ar) = true)) (fun i => n - (intOf i).toNat)
  case atStart => exact ⟨0, by omega, rfl, by show (rs.take 0).all _ = true; simp⟩
  case round =>
    obtain ⟨k, hk, rfl, hp⟩ := hrel
    by_cases hlt : k < n
    · obtain ⟨b, o, x, A1, c1, rfl, _, hx, hc, hrd, hm⟩ := RdR.at_ hr1 hlt
      have hm' : x.length ≤ 9223372036854775807 := by unfold maxLen at hm; omega
      cases hin : rowB x ar with
      | true =>
        have hp' := Lib.hid (all_take_step (p := fun r => rowB r ar) hx hin hp.out)
        have KR := Lib.hid (rowOk_any A1 x.length c1 x ar W hrd hm')
        rw [hin] at KR
        clear hx hin hm
        go_wp2_with fail
        refine KR.out.mono ?_
        rintro e w' ⟨rfl, rfl⟩
        go_wp2_with fail
        go_round
        case rel => exact ⟨k + 1, by omega, by go_num, hp'⟩
        case measure => simp [intOf]; omega
      | false =>
        have hf : Hid (validT nm ar rs = false) := by show _ = _; rw [validT, all_no (p := fun r => rowB r ar) hx hin]; simp
        have KR := Lib.hid (rowOk_any A1 x.length c1 x ar W hrd hm')
        rw [hin] at KR
        clear hx hin hm
        go_wp2_with fail
        refine KR.out.mono ?_
        rintro e w' ⟨rfl, rfl⟩
        go_wp2_with fail
        go_ret
        exact ⟨by rw [hf.out] <;> rfl, hWb.out⟩
    · obtain rfl : k = n := by omega
      have hall : Hid (rs.all (fun r => rowB r ar) = true) := by
        have := hp.out
        rwa [List.take_of_length_le (Nat.le_of_eq HL.out)] at this
      cases h1 : nameB nm with
      | false =>
        have hf : Hid (validT nm ar rs = false) := by show _ = _; rw [validT, h1]; rfl
        have K1 := Lib.hid (nameOk_is h1)
        clear h1
        go_wp2_with fail
        refine (K1.out _).mono ?_
        rintro e w' ⟨rfl, rfl⟩
        go_wp2_with fail
        go_ret
        exact ⟨by rw [hf.out] <;> rfl, hWb.out⟩
      | true =>
        have K1 := Lib.hid (nameOk_is h1)
        cases h2 : inB ar 1 3 with
        | false =>
          have hf : Hid (validT nm ar rs = false) := by show _ = _; rw [validT, h1, h2]; rfl
          have K2 := Lib.hid (within_is h2)
          clear h1 h2
          go_wp2_with fail
          refine (K1.out _).mono ?_
          rintro e w' ⟨rfl, rfl⟩
          go_wp2_with fail
          refine (K2.out _).mono ?_
          rintro e w' ⟨rfl, rfl⟩
          go_wp2_with fail
          go_ret
          exact ⟨by rw [hf.out] <;> rfl, hWb.out⟩
        | true =>
          have K2 := Lib.hid (within_is h2)
          by_cases h3 : k ≤ 8
          · have hf : Hid (validT nm ar rs = ascB rs) := by show _ = _; rw [validT, h1, h2, hall.out, HL.out]; simp [h3]
            clear h1 h2
            go_wp2_with fail
            refine (K1.out _).mono ?_
            rintro e w' ⟨rfl, rfl⟩
            go_wp2_with fail
            refine (K2.out _).mono ?_
            rintro e w' ⟨rfl, rfl⟩
            go_wp2_with fail
            refine (ascendingRows_q A k c rs _ hr1 hn).mono ?_
            rintro e w' ⟨rfl, hq⟩
            have HQ := Lib.hid (hWb.out.trans (hq.below _))
            clear hq
            go_wp2_with fail
            go_ret
            exact ⟨by rw [hf.out] <;> rfl, HQ.out⟩
          · have hf : Hid (validT nm ar rs = false) := by show _ = _; rw [validT, HL.out]; simp [h3]
            clear h1 h2
            go_wp2_with fail
            refine (K1.out _).mono ?_
            rintro e w' ⟨rfl, rfl⟩
            go_wp2_with fail
            refine (K2.out _).mono ?_
            rintro e w' ⟨rfl, rfl⟩
            go_wp2_with fail
            go_ret
            exact ⟨by rw [hf.out] <;> rfl, hWb.out⟩
end Go.Proofs.YtmojjbhjjhdpaaaDoor
