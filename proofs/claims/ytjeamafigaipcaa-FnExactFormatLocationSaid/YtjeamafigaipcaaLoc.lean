/- IsLocation, DominatesLocation: both texts, and the laws' walks. No condition. -/
import Derived.Test.YtjeamafigaipcaaInts
namespace Go.Proofs.Ytjeamafigaipcaa
open Go.RowKit Go.Deep

def isLoc (zs : List Int) : Bool := (zs.all fun c => inB c 0 7) && decide (zs.length ≤ 16)
theorem isLoc_no {zs : List Int} {k : Nat} {x : Int} (hx : zs[k]? = some x) (h : inB x 0 7 = false) : isLoc zs = false := by
  unfold isLoc
  have : (zs.all fun c => inB c 0 7) = false := by
    rw [List.all_eq_false]
    exact ⟨x, List.mem_of_getElem? hx, by simp [h]⟩
  rw [this]
  rfl
theorem all_step {zs : List Int} {k : Nat} {x : Int} (hx : zs[k]? = some x) (h : inB x 0 7 = true) (hp : (zs.take k).all (fun c => inB c 0 7) = true) : (zs.take (k + 1)).all (fun c => inB c 0 7) = true := by
  rw [List.take_add_one, hx, List.all_append, hp]
  simp [h]
theorem isLoc_end {zs : List Int} {n : Nat} (hn : zs.length = n) (hp : (zs.take n).all (fun c => inB c 0 7) = true) : isLoc zs = decide ((n : Int) ≤ 16) := by
  subst hn
  rw [List.take_length] at hp
  unfold isLoc
  rw [hp, Bool.true_and]
  by_cases h : zs.length ≤ 16
  · rw [decide_eq_true h, decide_eq_true (by omega)]
  · rw [decide_eq_false h, decide_eq_false (by omega)]

set_option maxHeartbeats 400000 in
theorem impl_IsLocation_any (A : Option Addr) (n c : Nat) (zs : List Int) (w : World) (hr : RdI w w.heap.size A n zs) (hn : n ≤ 9223372036854775807) :
    Calls Try.prog 18 #[.slice A n c] w fun e w' => e = .returned (.bool (isLoc zs)) ∧ w = w' := by
  go_enter Try.func18, Try.ntmps18
  go_wp2
  go_loop [7] (fun i => ∃ k : Nat, k ≤ n ∧ i = .int .i64 k ∧ Hid ((zs.take k).all (fun c => inB c 0 7) = true)) (fun i => n - (intOf i).toNat)
  case atStart => exact ⟨0, by omega, rfl, by show (zs.take 0).all _ = true; simp⟩
  case round =>
    obtain ⟨k, hk, rfl, hp⟩ := hrel
    by_cases hlt : k < n
    · obtain ⟨b, o, x, rfl, hb, hx, hc⟩ := hr.at_ hlt
      by_cases hin : inB x 0 7 = true
      · have hp' := Lib.hid (all_step hx hin hp.out)
        clear hx
        go_wp2_with (go_at_call 43; refine (within_any _ _ _ _).mono ?_; rintro e w' ⟨rfl, rfl⟩)
        go_round
        case rel => exact ⟨k + 1, by omega, by go_num, hp'⟩
        case measure => simp [intOf]; omega
      · have hin' : inB x 0 7 = false := by simpa using hin
        have hf := Lib.hid (isLoc_no hx hin')
        clear hx hin
        go_wp2_with (go_at_call 43; refine (within_any _ _ _ _).mono ?_; rintro e w' ⟨rfl, rfl⟩)
        go_ret
        exact ⟨by rw [hf.out] <;> rfl, rfl⟩
    · obtain rfl : k = n := by omega
      have hf := Lib.hid (isLoc_end hr.1 hp.out)
      go_wp2
      go_ret
      exact ⟨by rw [hf.out] <;> rfl, rfl⟩

set_option maxHeartbeats 400000 in
theorem spec_IsLocation_any (A : Option Addr) (n c : Nat) (zs : List Int) (w : World) (hr : RdI w w.heap.size A n zs) (hn : n ≤ 9223372036854775807) :
    Calls Try.prog 16 #[.slice A n c] w fun e w' => e = .returned (.bool (isLoc zs)) ∧ w = w' := by
  go_enter Try.func16, Try.ntmps16
  go_wp2
  go_loop [3] (fun i => ∃ k : Nat, k ≤ n ∧ i = .int .i64 k ∧ Hid ((zs.take k).all (fun c => inB c 0 7) = true)) (fun i => n - (intOf i).toNat)
  case atStart => exact ⟨0, by omega, rfl, by show (zs.take 0).all _ = true; simp⟩
  case round =>
    obtain ⟨k, hk, rfl, hp⟩ := hrel
    by_cases hlt : k < n
    · obtain ⟨b, o, x, rfl, hb, hx, hc⟩ := hr.at_ hlt
      by_cases hin : inB x 0 7 = true
      · have hp' := Lib.hid (all_step hx hin hp.out)
        clear hx
        go_wp2_with (go_at_call 42; refine (l1In_any _ _ _ _).mono ?_; rintro e w' ⟨rfl, rfl⟩)
        go_round
        case rel => exact ⟨k + 1, by omega, by go_num, hp'⟩
        case measure => simp [intOf]; omega
      · have hin' : inB x 0 7 = false := by simpa using hin
        have hf := Lib.hid (isLoc_no hx hin')
        clear hx hin
        go_wp2_with (go_at_call 42; refine (l1In_any _ _ _ _).mono ?_; rintro e w' ⟨rfl, rfl⟩)
        go_ret
        exact ⟨by rw [hf.out] <;> rfl, rfl⟩
    · obtain rfl : k = n := by omega
      have hf := Lib.hid (isLoc_end hr.1 hp.out)
      go_wp2
      go_ret
      exact ⟨by rw [hf.out] <;> rfl, rfl⟩

/-- Each number of a is at least b's. -/
def Dom (a b : List Int) : Prop := a.length = b.length ∧ ∀ (j : Nat) (x y : Int), a[j]? = some x → b[j]? = some y → y ≤ x
theorem Dom.refl (a : List Int) : Dom a a := ⟨rfl, fun j x y hx hy => by rw [hx] at hy; injection hy with hy; omega⟩
theorem Dom.antisymm {a b : List Int} (h : Dom a b) (k : Dom b a) : a = b := by
  apply List.ext_getElem h.1
  intro i h1 h2
  have := h.2 i _ _ (List.getElem?_eq_getElem h1) (List.getElem?_eq_getElem h2)
  have := k.2 i _ _ (List.getElem?_eq_getElem h2) (List.getElem?_eq_getElem h1)
  omega
/-- A bool that says whether P, and nothing that was there has changed. -/
def BoolIff (P : Prop) (w : World) (e : Ending) (w' : World) : Prop := ∃ r : Bool, (r = true ↔ P) ∧ e = .returned (.bool r) ∧ Below w.heap.size w w'
theorem bool_eq {P : Prop} {r r' : Bool} (h : r = true ↔ P) (h' : r' = true ↔ P) : r = r' := by
  rw [Bool.eq_iff_iff, h, h']

set_option maxRecDepth 100000 in
set_option maxHeartbeats 400000 in
theorem impl_DominatesLocation_any (A A' : Option Addr) (n c n' c' : Nat) (zs zs' : List Int) (w : World) (hr : RdI w w.heap.size A n zs) (hr' : RdI w w.heap.size A' n' zs') (hn : n ≤ 9223372036854775807) (hn' : n' ≤ 9223372036854775807) :
    Calls Try.prog 21 #[.slice A n c, .slice A' n' c'] w (BoolIff (Dom zs zs') w) := by
  by_cases hne : n = n'
  · subst hne
    go_enter Try.func21, Try.ntmps21
    go_wp2
    go_loopw [13] (fun i wr => ∃ k : Nat, k ≤ n ∧ i = .int .i64 k ∧ Hid (∀ (j : Nat) (x y : Int), j < k → zs[j]? = some x → zs'[j]? = some y → y ≤ x) ∧ Below w.heap.size w wr) (fun i _ => n - (intOf i).toNat)
    case atStart => exact ⟨0, by omega, rfl, fun j x y h => absurd h (by omega), Below.refl _ _⟩
    case round =>
      obtain ⟨k, hk, rfl, hpre, hbel⟩ := hrel
      by_cases hlt : k < n
      · obtain ⟨b, o, x, rfl, hb, hx, hc⟩ := hr.at_ hlt
        obtain ⟨b', o', x', rfl, hb', hx', hc'⟩ := hr'.at_ hlt
        have hc1 := (hbel.cell (p := ⟨b, o + k, none⟩) hb).trans hc
        have hc2 := (hbel.cell (p := ⟨b', o' + k, none⟩) hb').trans hc'
        have g1 : (0 : Int) ≤ (k : Int) := by omega
        have g2 : (k : Int) < (n : Int) := by omega
        have g3 : (k : Int).toNat = k := by omega
        have HX := Lib.hid hx
        have HX' := Lib.hid hx'
        clear hx hx' hc hc'
        by_cases he : x < x'
        · have hfin : Hid (¬ Dom zs zs') := fun h => by
            have := h.2 k x x' HX.out HX'.out
            omega
          go_wp2_with fail
          go_quiet (fail)
          clear g3
          go_wp2
          go_ret
          exact ⟨false, by simp [hfin.out], rfl, below_drewN hbel _⟩
        · have hpre' : Hid (∀ (j : Nat) (x y : Int), j < k + 1 → zs[j]? = some x → zs'[j]? = some y → y ≤ x) := fun j p q hj hp hq => by
            rcases Nat.lt_or_ge j k with h | h
            · exact hpre.out j p q h hp hq
            · obtain rfl : j = k := by omega
              rw [HX.out] at hp
              rw [HX'.out] at hq
              injection hp with hp
              injection hq with hq
              omega
          have hbq : decide (x < x') = false := by simpa using he
          go_wp2_with fail
          go_quiet (fail)
          clear g3
          go_wp2
          refine ⟨⟨k + 1, by omega, by go_num, hpre', below_drewN hbel _⟩, ?_⟩
          simp [intOf]
          omega
      · obtain rfl : k = n := by omega
        have hfin : Hid (Dom zs zs') := ⟨hr.1.trans hr'.1.symm, fun j x y hx hy => hpre.out j x y (by have h1 := (List.getElem?_eq_some_iff.1 hx).1; have h2 := hr.1; omega) hx hy⟩
        go_wp2
        go_ret
        exact ⟨true, by simp [hfin.out], rfl, hbel⟩
  · have hfin : Hid (¬ Dom zs zs') := fun h => hne (by rw [← hr.1, ← hr'.1, h.1])
    have hbq : ((n : Int) != (n' : Int)) = true := by simp; omega
    clear hne
    go_enter Try.func21, Try.ntmps21
    go_wp2
    go_ret
    exact ⟨false, by simp [hfin.out], rfl, Below.refl _ _⟩

set_option maxRecDepth 100000 in
set_option maxHeartbeats 400000 in
theorem spec_DominatesLocation_any (A A' : Option Addr) (n c n' c' : Nat) (zs zs' : List Int) (w : World) (hr : RdI w w.heap.size A n zs) (hr' : RdI w w.heap.size A' n' zs') (hn : n ≤ 9223372036854775807) (hn' : n' ≤ 9223372036854775807) :
    Calls Try.prog 20 #[.slice A n c, .slice A' n' c'] w (BoolIff (Dom zs zs') w) := by
  by_cases hne : n = n'
  · subst hne
    go_enter Try.func20, Try.ntmps20
    go_wp2
    go_loopw [5] (fun i wr => ∃ k : Nat, k ≤ n ∧ i = .int .i64 k ∧ Hid (∀ (j : Nat) (x y : Int), j < k → zs[j]? = some x → zs'[j]? = some y → y ≤ x) ∧ Below w.heap.size w wr) (fun i _ => n - (intOf i).toNat)
    case atStart => exact ⟨0, by omega, rfl, fun j x y h => absurd h (by omega), Below.refl _ _⟩
    case round =>
      obtain ⟨k, hk, rfl, hpre, hbel⟩ := hrel
      by_cases hlt : k < n
      · obtain ⟨b, o, x, rfl, hb, hx, hc⟩ := hr.at_ hlt
        obtain ⟨b', o', x', rfl, hb', hx', hc'⟩ := hr'.at_ hlt
        have hc1 := (hbel.cell (p := ⟨b, o + k, none⟩) hb).trans hc
        have hc2 := (hbel.cell (p := ⟨b', o' + k, none⟩) hb').trans hc'
        have g1 : (0 : Int) ≤ (k : Int) := by omega
        have g2 : (k : Int) < (n : Int) := by omega
        have g3 : (k : Int).toNat = k := by omega
        have HX := Lib.hid hx
        have HX' := Lib.hid hx'
        clear hx hx' hc hc'
        by_cases he : x < x'
        · have hfin : Hid (¬ Dom zs zs') := fun h => by
            have := h.2 k x x' HX.out HX'.out
            omega
          go_wp2_with fail
          go_quiet (fail)
          clear g3
          go_wp2
          go_ret
          exact ⟨false, by simp [hfin.out], rfl, below_drewN hbel _⟩
        · have hpre' : Hid (∀ (j : Nat) (x y : Int), j < k + 1 → zs[j]? = some x → zs'[j]? = some y → y ≤ x) := fun j p q hj hp hq => by
            rcases Nat.lt_or_ge j k with h | h
            · exact hpre.out j p q h hp hq
            · obtain rfl : j = k := by omega
              rw [HX.out] at hp
              rw [HX'.out] at hq
              injection hp with hp
              injection hq with hq
              omega
          have hbq : decide (x < x') = false := by simpa using he
          go_wp2_with fail
          go_quiet (fail)
          clear g3
          go_wp2
          refine ⟨⟨k + 1, by omega, by go_num, hpre', below_drewN hbel _⟩, ?_⟩
          simp [intOf]
          omega
      · obtain rfl : k = n := by omega
        have hfin : Hid (Dom zs zs') := ⟨hr.1.trans hr'.1.symm, fun j x y hx hy => hpre.out j x y (by have h1 := (List.getElem?_eq_some_iff.1 hx).1; have h2 := hr.1; omega) hx hy⟩
        go_wp2
        go_ret
        exact ⟨true, by simp [hfin.out], rfl, hbel⟩
  · have hfin : Hid (¬ Dom zs zs') := fun h => hne (by rw [← hr.1, ← hr'.1, h.1])
    have hbq : ((n : Int) != (n' : Int)) = true := by simp; omega
    clear hne
    go_enter Try.func20, Try.ntmps20
    go_wp2
    go_ret
    exact ⟨false, by simp [hfin.out], rfl, Below.refl _ _⟩

end Go.Proofs.Ytjeamafigaipcaa
