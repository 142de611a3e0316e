/- CompareRows: both texts (the program's is slices.Compare). No condition. -/
import Derived.Test.YtmojjbhjjhdpaaaDoorInts
namespace Go.Proofs.YtmojjbhjjhdpaaaDoor
open Go.RowKit Go.Deep

/-- Which of two lists comes first: -1, 0, 1. -/
def cmpL : List Int → List Int → Int
  | [], [] => 0
  | [], _ :: _ => -1
  | _ :: _, [] => 1
  | x :: a, y :: b => if x < y then -1 else if y < x then 1 else cmpL a b
theorem cmpL_self : ∀ a : List Int, cmpL a a = 0
  | [] => rfl
  | x :: a => by rw [cmpL, if_neg (by omega), if_neg (by omega)]; exact cmpL_self a
theorem cmpL_eq : ∀ {a b : List Int}, cmpL a b = 0 → a = b
  | [], [], _ => rfl
  | [], y :: b, h => by simp [cmpL] at h
  | x :: a, [], h => by simp [cmpL] at h
  | x :: a, y :: b, h => by
    rw [cmpL] at h
    split at h
    · simp at h
    · split at h
      · simp at h
      · have hxy : x = y := by omega
        rw [hxy, cmpL_eq h]
theorem cmpL_zero {a b : List Int} : cmpL a b = 0 ↔ a = b := ⟨cmpL_eq, fun h => by rw [h, cmpL_self]⟩
theorem cmpL_drop {a b : List Int} {k : Nat} {x y : Int} (hx : a[k]? = some x) (hy : b[k]? = some y) :
    cmpL (a.drop k) (b.drop k) = if x < y then -1 else if y < x then 1 else cmpL (a.drop (k + 1)) (b.drop (k + 1)) := by
  obtain ⟨h1, rfl⟩ := List.getElem?_eq_some_iff.1 hx
  obtain ⟨h2, rfl⟩ := List.getElem?_eq_some_iff.1 hy
  rw [List.drop_eq_getElem_cons h1, List.drop_eq_getElem_cons h2, cmpL]
theorem cmpL_short {a b : List Int} {k : Nat} (h1 : a.length = k) (h2 : k < b.length) : cmpL (a.drop k) (b.drop k) = -1 := by
  rw [List.drop_of_length_le (by omega), List.drop_eq_getElem_cons h2, cmpL]
theorem cmpL_long {a b : List Int} {k : Nat} (h1 : k < a.length) (h2 : b.length = k) : cmpL (a.drop k) (b.drop k) = 1 := by
  rw [List.drop_eq_getElem_cons h1, List.drop_of_length_le (l := b) (by omega), cmpL]
theorem cmpL_same {a b : List Int} {k : Nat} (h1 : a.length = k) (h2 : b.length = k) : cmpL (a.drop k) (b.drop k) = 0 := by
  rw [List.drop_of_length_le (by omega), List.drop_of_length_le (by omega), cmpL]

theorem isNaN_any (x : Int) (w : World) : Calls Tryd.prog 170 #[.int .i64 x] w fun e w' => e = .returned (.bool false) ∧ w = w' := by
  go_enter Tryd.func170, Tryd.ntmps170
  go_wp2
  go_ret
  exact ⟨rfl, rfl⟩
def cmp1 (x y : Int) : Int := if x < y then -1 else if y < x then 1 else 0
theorem cmpCompare_any (x y : Int) (w : World) : Calls Tryd.prog 166 #[.int .i64 x, .int .i64 y] w fun e w' => e = .returned (.int .i64 (cmp1 x y)) ∧ w = w' := by
  by_cases h1 : x < y
  · have hy : Hid (cmp1 x y = -1) := by show cmp1 x y = -1; rw [cmp1, if_pos h1]
    go_enter Tryd.func166, Tryd.ntmps166
    go_wp2_with (go_at_call 170; refine (isNaN_any _ _).mono ?_; rintro e w' ⟨rfl, rfl⟩)
    go_ret
    exact ⟨by rw [hy.out] <;> rfl, rfl⟩
  · by_cases h2 : y < x
    · have hy : Hid (cmp1 x y = 1) := by show cmp1 x y = 1; rw [cmp1, if_neg h1, if_pos h2]
      go_enter Tryd.func166, Tryd.ntmps166
      go_wp2_with (go_at_call 170; refine (isNaN_any _ _).mono ?_; rintro e w' ⟨rfl, rfl⟩)
      go_ret
      exact ⟨by rw [hy.out] <;> rfl, rfl⟩
    · have hy : Hid (cmp1 x y = 0) := by show cmp1 x y = 0; rw [cmp1, if_neg h1, if_neg h2]
      go_enter Tryd.func166, Tryd.ntmps166
      go_wp2_with (go_at_call 170; refine (isNaN_any _ _).mono ?_; rintro e w' ⟨rfl, rfl⟩)
      go_ret
      exact ⟨by rw [hy.out] <;> rfl, rfl⟩

set_option maxRecDepth 100000 in
set_option maxHeartbeats 400000 in
theorem slicesCompare_any (A A' : Option Addr) (n c n' c' : Nat) (zs zs' : List Int) (w : World) (hr : RdI w w.heap.size A n zs) (hr' : RdI w w.heap.size A' n' zs') (hn : n ≤ 9223372036854775807) (hn' : n' ≤ 9223372036854775807) :
    Calls Tryd.prog 151 #[.slice A n c, .slice A' n' c'] w fun e w' => e = .returned (.int .i64 (cmpL zs zs')) ∧ w = w' := by
  go_enter Tryd.func151, Tryd.ntmps151
  go_wp2
  go_loop [11] (fun i => ∃ k : Nat, k ≤ n ∧ k ≤ n' ∧ i = .int .i64 k ∧ Hid (cmpL zs zs' = cmpL (zs.drop k) (zs'.drop k))) (fun i => n - (intOf i).toNat)
  case atStart => exact ⟨0, by omega, by omega, rfl, rfl⟩
  case round =>
    obtain ⟨k, hk, hk', rfl, hinv⟩ := hrel
    by_cases hlt : k < n
    · obtain ⟨b, o, x, rfl, hb, hx, hc⟩ := hr.at_ hlt
      by_cases hlt' : k < n'
      · obtain ⟨b', o', x', rfl, hb', hx', hc'⟩ := hr'.at_ hlt'
        have hst := Lib.hid (hinv.out.trans (cmpL_drop hx hx'))
        clear hx hx'
        by_cases h1 : x < x'
        · have hf : Hid (cmpL zs zs' = -1) := by show cmpL zs zs' = -1; rw [hst.out, if_pos h1]
          have hcp : Hid (cmp1 x x' = -1) := by show cmp1 x x' = -1; rw [cmp1, if_pos h1]
          go_wp2_with (go_at_call 166; refine (cmpCompare_any _ _ _).mono ?_; rintro e w' ⟨rfl, rfl⟩; rw [hcp.out])
          go_ret
          exact ⟨by rw [hf.out] <;> rfl, rfl⟩
        · by_cases h2 : x' < x
          · have hf : Hid (cmpL zs zs' = 1) := by show cmpL zs zs' = 1; rw [hst.out, if_neg h1, if_pos h2]
            have hcp : Hid (cmp1 x x' = 1) := by show cmp1 x x' = 1; rw [cmp1, if_neg h1, if_pos h2]
            go_wp2_with (go_at_call 166; refine (cmpCompare_any _ _ _).mono ?_; rintro e w' ⟨rfl, rfl⟩; rw [hcp.out])
            go_ret
            exact ⟨by rw [hf.out] <;> rfl, rfl⟩
          · have hf : Hid (cmpL zs zs' = cmpL (zs.drop (k + 1)) (zs'.drop (k + 1))) := by show cmpL zs zs' = _; rw [hst.out, if_neg h1, if_neg h2]
            have hcp : Hid (cmp1 x x' = 0) := by show cmp1 x x' = 0; rw [cmp1, if_neg h1, if_neg h2]
            go_wp2_with (go_at_call 166; refine (cmpCompare_any _ _ _).mono ?_; rintro e w' ⟨rfl, rfl⟩; rw [hcp.out])
            go_round
            case rel => exact ⟨k + 1, by omega, by omega, by go_num, hf⟩
            case measure => simp [intOf]; omega
      · have hf : Hid (cmpL zs zs' = 1) := hinv.out.trans (cmpL_long (by rw [hr.1]; exact hlt) (by rw [hr'.1]; omega))
        go_wp2
        go_ret
        exact ⟨by rw [hf.out] <;> rfl, rfl⟩
    · by_cases hlt' : k < n'
      · have hf : Hid (cmpL zs zs' = -1) := hinv.out.trans (cmpL_short (by rw [hr.1]; omega) (by rw [hr'.1]; exact hlt'))
        go_wp2
        go_ret
        exact ⟨by rw [hf.out] <;> rfl, rfl⟩
      · have hf : Hid (cmpL zs zs' = 0) := hinv.out.trans (cmpL_same (by rw [hr.1]; omega) (by rw [hr'.1]; omega))
        go_wp2
        go_ret
        exact ⟨by rw [hf.out] <;> rfl, rfl⟩
theorem impl_CompareRows_any (A A' : Option Addr) (n c n' c' : Nat) (zs zs' : List Int) (w : World) (hr : RdI w w.heap.size A n zs) (hr' : RdI w w.heap.size A' n' zs') (hn : n ≤ 9223372036854775807) (hn' : n' ≤ 9223372036854775807) :
    Calls Tryd.prog 134 #[.slice A n c, .slice A' n' c'] w fun e w' => e = .returned (.int .i64 (cmpL zs zs')) ∧ w = w' := by
  go_enter Tryd.func134, Tryd.ntmps134
  go_wp2_with fail
  refine (slicesCompare_any A A' n c n' c' zs zs' _ hr hr' hn hn').mono ?_
  rintro e w' ⟨rfl, rfl⟩
  go_wp2_with fail
  go_ret
  exact ⟨rfl, rfl⟩

set_option maxRecDepth 100000 in
set_option maxHeartbeats 400000 in
theorem spec_CompareRows_q (A A' : Option Addr) (n c n' c' : Nat) (zs zs' : List Int) (w : World) (hr : RdI w w.heap.size A n zs) (hr' : RdI w w.heap.size A' n' zs') (hn : n ≤ 9223372036854775807) (hn' : n' ≤ 9223372036854775807) :
    Calls Tryd.prog 111 #[.slice A n c, .slice A' n' c'] w fun e w' => e = .returned (.int .i64 (cmpL zs zs')) ∧ Qt w w' := by
  go_enter Tryd.func111, Tryd.ntmps111
  go_wp2
  go_loopw [5] (fun i wr => ∃ k : Nat, k ≤ n ∧ k ≤ n' ∧ i = .int .i64 k ∧ Hid (cmpL zs zs' = cmpL (zs.drop k) (zs'.drop k)) ∧ Qt w wr) (fun i _ => n - (intOf i).toNat)
  case atStart => exact ⟨0, by omega, by omega, rfl, rfl, Qt.refl _⟩
  case round =>
    obtain ⟨k, hk, hk', rfl, hinv, hbel⟩ := hrel
    by_cases hlt : k < n
    · by_cases hlt' : k < n'
      · obtain ⟨b, o, x, rfl, hb, hx, hc⟩ := hr.at_ hlt
        obtain ⟨b', o', x', rfl, hb', hx', hc'⟩ := hr'.at_ hlt'
        have hc1 := (hbel.cell (p := ⟨b, o + k, none⟩)).trans hc
        have hc2 := (hbel.cell (p := ⟨b', o' + k, none⟩)).trans hc'
        have g1 : (0 : Int) ≤ (k : Int) := by omega
        have g2 : (k : Int) < (n : Int) := by omega
        have g2' : (k : Int) < (n' : Int) := by omega
        have g3 : (k : Int).toNat = k := by omega
        have hst := Lib.hid (hinv.out.trans (cmpL_drop hx hx'))
        clear hx hx' hc hc'
        by_cases h1 : x < x'
        · have hf : Hid (cmpL zs zs' = -1) := by show cmpL zs zs' = -1; rw [hst.out, if_pos h1]
          go_wp2_with fail
          go_quiet (fail)
          clear g3
          go_wp2
          go_ret
          exact ⟨by rw [hf.out] <;> rfl, hbel.drewN _⟩
        · have q1 : decide (x < x') = false := by simpa using h1
          by_cases h2 : x' < x
          · have hf : Hid (cmpL zs zs' = 1) := by show cmpL zs zs' = 1; rw [hst.out, if_neg h1, if_pos h2]
            go_wp2_with fail
            go_quiet (fail)
            go_wp2_with fail
            go_quiet (fail)
            clear g3
            go_wp2
            go_ret
            exact ⟨by rw [hf.out] <;> rfl, (hbel.drewN _).drewN _⟩
          · have hf : Hid (cmpL zs zs' = cmpL (zs.drop (k + 1)) (zs'.drop (k + 1))) := by show cmpL zs zs' = _; rw [hst.out, if_neg h1, if_neg h2]
            have q2 : decide (x' < x) = false := by simpa using h2
            go_wp2_with fail
            go_quiet (fail)
            go_wp2_with fail
            go_quiet (fail)
            clear g3
            go_wp2
            refine ⟨⟨k + 1, by omega, by omega, by go_num, hf, hbel.drewN _⟩, ?_⟩
            simp [intOf]
            omega
      · have hf : Hid (cmpL zs zs' = 1) := hinv.out.trans (cmpL_long (by rw [hr.1]; exact hlt) (by rw [hr'.1]; omega))
        have hnn : n' < n := by omega
        go_wp2
        go_ret
        exact ⟨by rw [hf.out] <;> rfl, hbel⟩
    · by_cases hlt' : n < n'
      · have hf : Hid (cmpL zs zs' = -1) := hinv.out.trans (cmpL_short (by rw [hr.1]; omega) (by rw [hr'.1]; omega))
        go_wp2
        go_ret
        exact ⟨by rw [hf.out] <;> rfl, hbel⟩
      · have hf : Hid (cmpL zs zs' = 0) := hinv.out.trans (cmpL_same (by rw [hr.1]; omega) (by rw [hr'.1]; omega))
        have hnn : ¬ n' < n := by omega
        go_wp2
        go_ret
        exact ⟨by rw [hf.out] <;> rfl, hbel⟩
theorem spec_CompareRows_any (A A' : Option Addr) (n c n' c' : Nat) (zs zs' : List Int) (w : World) (hr : RdI w w.heap.size A n zs) (hr' : RdI w w.heap.size A' n' zs') (hn : n ≤ 9223372036854775807) (hn' : n' ≤ 9223372036854775807) :
    Calls Tryd.prog 111 #[.slice A n c, .slice A' n' c'] w fun e w' => e = .returned (.int .i64 (cmpL zs zs')) ∧ Below w.heap.size w w' :=
  (spec_CompareRows_q A A' n c n' c' zs zs' w hr hr' hn hn').mono fun _ _ ⟨he, hq⟩ => ⟨he, hq.below _⟩
end Go.Proofs.YtmojjbhjjhdpaaaDoor
