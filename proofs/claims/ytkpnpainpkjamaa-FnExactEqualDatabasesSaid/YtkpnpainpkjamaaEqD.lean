/- EqualDatabases: both texts. No condition but the size that the laws let in. -/
import Derived.Test.YtkpnpainpkjamaaDbW
import Derived.Test.YtkpnpainpkjamaaEqTab
namespace Go.Proofs.Ytkpnpainpkjamaa
open Go.RowKit Go.Deep

theorem tab_eq_iff {a b : Tab} : a = b ↔ a.nm = b.nm ∧ a.ar = b.ar ∧ a.rs = b.rs := by
  obtain ⟨n, r, s⟩ := a
  obtain ⟨n', r', s'⟩ := b
  simp
instance : DecidableEq Tab := fun _ _ => decidable_of_iff _ tab_eq_iff.symm
theorem eqT_yes {a b : Tab} (h : a = b) : eqT a.nm b.nm a.ar b.ar a.rs b.rs = true := decide_eq_true (tab_eq_iff.1 h)
theorem eqT_no {a b : Tab} (h : ¬ a = b) : eqT a.nm b.nm a.ar b.ar a.rs b.rs = false := decide_eq_false (mt tab_eq_iff.2 h)
theorem ne_of_get {ts ts' : List Tab} {k : Nat} {a b : Tab} (h : ts[k]? = some a) (h' : ts'[k]? = some b) (hne : ¬ a = b) : decide (ts = ts') = false := by
  rw [decide_eq_false_iff_not]
  rintro rfl
  rw [h] at h'
  injection h' with h'
  exact hne h'
/-- The six cells of two elements, at any later world. -/
def Six (b b' o o' : Nat) (k : Nat) (t t' : Tab) (A1 A2 : Option Addr) (c1 c2 : Nat) (W : World) : Prop :=
  W.cell? ⟨b, o + k * 3, none⟩ = some (.string t.nm) ∧ W.cell? ⟨b, o + k * 3 + 1, none⟩ = some (.int .i64 t.ar) ∧ W.cell? ⟨b, o + k * 3 + 2, none⟩ = some (.slice A1 t.rs.length c1) ∧ W.cell? ⟨b', o' + k * 3, none⟩ = some (.string t'.nm) ∧ W.cell? ⟨b', o' + k * 3 + 1, none⟩ = some (.int .i64 t'.ar) ∧ W.cell? ⟨b', o' + k * 3 + 2, none⟩ = some (.slice A2 t'.rs.length c2)
theorem Six.next {b b' o o' k : Nat} {t t' : Tab} {A1 A2 : Option Addr} {c1 c2 : Nat} {W W' : World} (h : Six b b' o o' k t t' A1 A2 c1 c2 W) (hb : Below W.heap.size W W') (h1 : b < W.heap.size) (h2 : b' < W.heap.size) : Six b b' o o' k t t' A1 A2 c1 c2 W' :=
  ⟨(hb.cell (p := ⟨b, o + k * 3, none⟩) h1).trans h.1, (hb.cell (p := ⟨b, o + k * 3 + 1, none⟩) h1).trans h.2.1, (hb.cell (p := ⟨b, o + k * 3 + 2, none⟩) h1).trans h.2.2.1, (hb.cell (p := ⟨b', o' + k * 3, none⟩) h2).trans h.2.2.2.1, (hb.cell (p := ⟨b', o' + k * 3 + 1, none⟩) h2).trans h.2.2.2.2.1, (hb.cell (p := ⟨b', o' + k * 3 + 2, none⟩) h2).trans h.2.2.2.2.2⟩

set_option maxRecDepth 100000 in
set_option maxHeartbeats 1000000 in
theorem equalFuncT_any (A A' : Option Addr) (n c n' c' B B' : Nat) (ts ts' : List Tab) (w : World) (hr : RdT w B A n ts) (hr' : RdT w B' A' n' ts') (hB : B ≤ w.heap.size) (hB' : B' ≤ w.heap.size) (hn : n ≤ 9223372036854775806) (hn' : n' ≤ 9223372036854775806) :
    Calls Try.prog 34 #[.slice A n c, .slice A' n' c', .func (.func 35) #[] #[]] w fun e w' => e = .returned (.bool (decide (ts = ts'))) ∧ Below w.heap.size w w' := by
  by_cases hne : n = n'
  · subst hne
    go_enter Try.func34, Try.ntmps34
    go_wp2_with fail
    go_loopw [7, 8, 9, 17] (fun _ _ _ i wr => ∃ k : Nat, k ≤ n ∧ i = .int .i64 k ∧ Hid (ts.take k = ts'.take k) ∧ Hid (Below w.heap.size w wr)) (fun _ _ _ i _ => n - (intOf i).toNat)
    case atStart => exact ⟨0, by omega, rfl, rfl, Below.refl _ _⟩
    case round =>
      obtain ⟨k, hk, rfl, hpre, hbel⟩ := hrel
      have hsz := hbel.out.size
      by_cases hlt : k < n
      · obtain ⟨b, o, t, A1, c1, rfl, hb, hx, hc0, hc1, hc2, hrd, hm, _⟩ := RdT.at_ hr hlt
        obtain ⟨b', o', t', A2, c2, rfl, hb', hx', hc0', hc1', hc2', hrd', hm', _⟩ := RdT.at_ hr' hlt
        have hb1 : b < wr.heap.size := by omega
        have hb1' : b' < wr.heap.size := by omega
        have d0 := (hbel.out.cell (p := ⟨b, o + k * 3, none⟩) (by show b < _; omega)).trans hc0
        have d1 := (hbel.out.cell (p := ⟨b, o + k * 3 + 1, none⟩) (by show b < _; omega)).trans hc1
        have d2 := (hbel.out.cell (p := ⟨b, o + k * 3 + 2, none⟩) (by show b < _; omega)).trans hc2
        have d3 := (hbel.out.cell (p := ⟨b', o' + k * 3, none⟩) (by show b' < _; omega)).trans hc0'
        have d4 := (hbel.out.cell (p := ⟨b', o' + k * 3 + 1, none⟩) (by show b' < _; omega)).trans hc1'
        have d5 := (hbel.out.cell (p := ⟨b', o' + k * 3 + 2, none⟩) (by show b' < _; omega)).trans hc2'
        have KE : Hid (∀ W, Below wr.heap.size wr W → Calls Try.prog 35 #[.agg #[.string t.nm, .int .i64 t.ar, .slice A1 t.rs.length c1], .agg #[.string t'.nm, .int .i64 t'.ar, .slice A2 t'.rs.length c2]] W fun e w' => e = .returned (.bool (eqT t.nm t'.nm t.ar t'.ar t.rs t'.rs)) ∧ Below W.heap.size W w') := fun W b1 =>
          impl_EqualTables_any t.nm t'.nm t.ar t'.ar A1 A2 t.rs.length c1 t'.rs.length c2 B B' t.rs t'.rs W (RdR.belowB hrd (hbel.out.trans (b1.mono hsz)) hB) (RdR.belowB hrd' (hbel.out.trans (b1.mono hsz)) hB') (Nat.le_trans hB (Nat.le_trans hsz b1.size)) (Nat.le_trans hB' (Nat.le_trans hsz b1.size)) (by unfold maxLen at hm; exact hm) (by unfold maxLen at hm'; exact hm')
        have HX := Lib.hid hx
        have HX' := Lib.hid hx'
        have BR := Lib.hid (Below.refl wr.heap.size wr)
        clear hx hx' hc0 hc1 hc2 hc0' hc1' hc2' hrd hrd' hm hm'
        by_cases he : t = t'
        · have hpre' : Hid (ts.take (k + 1) = ts'.take (k + 1)) := by
            show _ = _
            rw [List.take_add_one, List.take_add_one, HX.out, HX'.out, he, hpre.out]
          rw [eqT_yes he] at KE
          clear he
          obtain ⟨nm, ar, rs⟩ := t
          obtain ⟨nm', ar', rs'⟩ := t'
          go_wp2_with fail
          refine (KE.out _ ((BR.out.alloc (Nat.le_refl _) _).alloc (by simp) _)).mono ?_
          rintro e w1 ⟨rfl, hq⟩
          have HQ := Lib.hid (hbel.out.trans ((((BR.out.alloc (Nat.le_refl _) _).alloc (by simp) _).trans (hq.mono (by simp; omega))).mono hsz))
          clear hq
          go_wp2_with fail
          refine ⟨⟨k + 1, by omega, by go_num, hpre', HQ⟩, ?_⟩
          simp [intOf]
          omega
        · have hfin := Lib.hid (ne_of_get HX.out HX'.out he)
          rw [eqT_no he] at KE
          clear he
          obtain ⟨nm, ar, rs⟩ := t
          obtain ⟨nm', ar', rs'⟩ := t'
          go_wp2_with fail
          refine (KE.out _ ((BR.out.alloc (Nat.le_refl _) _).alloc (by simp) _)).mono ?_
          rintro e w1 ⟨rfl, hq⟩
          have HQ := Lib.hid (hbel.out.trans ((((BR.out.alloc (Nat.le_refl _) _).alloc (by simp) _).trans (hq.mono (by simp; omega))).mono hsz))
          clear hq
          go_wp2_with fail
          go_ret
          exact ⟨by rw [hfin.out] <;> rfl, HQ.out⟩
      · obtain rfl : k = n := by omega
        have hfin : Hid (decide (ts = ts') = true) := by
          show decide (ts = ts') = true
          rw [decide_eq_true_eq]
          have h1 := hpre.out
          rwa [List.take_of_length_le (Nat.le_of_eq hr.1), List.take_of_length_le (Nat.le_of_eq hr'.1)] at h1
        go_wp2_with fail
        go_ret
        exact ⟨by rw [hfin.out] <;> rfl, hbel.out⟩
  · have hfin : Hid (decide (ts = ts') = false) := by
      show decide (ts = ts') = false
      rw [decide_eq_false_iff_not]
      rintro rfl
      exact hne (hr.1.symm.trans hr'.1)
    have hbq : ((n : Int) != (n' : Int)) = true := by simp; omega
    clear hne
    go_enter Try.func34, Try.ntmps34
    go_wp2_with fail
    go_ret
    exact ⟨by rw [hfin.out] <;> rfl, Below.refl _ _⟩

set_option maxRecDepth 100000 in
set_option maxHeartbeats 400000 in
theorem impl_EqualDatabases_any (A A' : Option Addr) (n c n' c' B B' : Nat) (ts ts' : List Tab) (w : World) (hr : RdT w B A n ts) (hr' : RdT w B' A' n' ts') (hB : B ≤ w.heap.size) (hB' : B' ≤ w.heap.size) (hn : n ≤ 9223372036854775806) (hn' : n' ≤ 9223372036854775806) :
    Calls Try.prog 12 #[.agg #[.slice A n c], .agg #[.slice A' n' c']] w fun e w' => e = .returned (.bool (decide (ts = ts'))) ∧ Below w.heap.size w w' := by
  have HB := Lib.hid (Below.refl w.heap.size w)
  go_enter Try.func12, Try.ntmps12
  go_wp2_with fail
  refine (equalFuncT_any A A' n c n' c' B B' ts ts' _ (RdT.belowB hr (((Below.refl B w).alloc hB _).alloc (by simp; omega) _) (Nat.le_refl _)) (RdT.belowB hr' (((Below.refl B' w).alloc hB' _).alloc (by simp; omega) _) (Nat.le_refl _)) (by simp; omega) (by simp; omega) hn hn').mono ?_
  rintro e w1 ⟨rfl, hq⟩
  have hbel := Lib.hid ((((HB.out).alloc (Nat.le_refl _) _).alloc (by simp) _).trans (hq.mono (by simp; omega)))
  clear hq
  go_wp2_with fail
  go_ret
  exact ⟨rfl, hbel.out⟩
end Go.Proofs.Ytkpnpainpkjamaa
