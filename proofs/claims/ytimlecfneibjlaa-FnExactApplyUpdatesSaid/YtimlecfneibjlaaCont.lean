/- ContainsRow: both texts; rowIndex. No condition but the size that the laws let in. -/
import Derived.Test.YtimlecfneibjlaaIsTabS
import Derived.Test.YtimlecfneibjlaaNew
namespace Go.Proofs.Ytimlecfneibjlaa
open Go.RowKit Go.Deep

/-- Where a row stands first; -1. -/
def idxR (rs : List (List Int)) (r : List Int) : Int := match rs.findIdx? (fun x => decide (x = r)) with | some k => k | none => -1
theorem idxR_at {rs : List (List Int)} {r : List Int} {k : Nat} (h : rs[k]? = some r) (hno : ∀ j x, j < k → rs[j]? = some x → ¬ x = r) : idxR rs r = k := by
  obtain ⟨hk, hx⟩ := List.getElem?_eq_some_iff.1 h
  have : rs.findIdx? (fun x => decide (x = r)) = some k := List.findIdx?_eq_some_iff_getElem.2 ⟨hk, by simpa using hx, fun j hj => by simpa using hno j _ hj (List.getElem?_eq_getElem (by omega))⟩
  rw [idxR, this]
theorem idxR_none {rs : List (List Int)} {r : List Int} (hno : ∀ x ∈ rs, ¬ x = r) : idxR rs r = -1 := by
  have : rs.findIdx? (fun x => decide (x = r)) = none := List.findIdx?_eq_none_iff.2 fun x hx => by simpa using hno x hx
  rw [idxR, this]
theorem idxR_iff {rs : List (List Int)} {r : List Int} : 0 ≤ idxR rs r ↔ r ∈ rs := by
  unfold idxR
  split
  · rename_i k hk
    obtain ⟨h1, h2, _⟩ := List.findIdx?_eq_some_iff_getElem.1 hk
    simp at h2
    constructor
    · intro _
      rw [← h2]
      exact List.getElem_mem h1
    · intro _
      omega
  · rename_i hn
    have := List.findIdx?_eq_none_iff.1 hn
    constructor
    · intro h; omega
    · intro h
      have := this r h
      simp at this
theorem idxR_lt {rs : List (List Int)} {r : List Int} {k : Nat} (h : idxR rs r = k) : rs[k]? = some r := by
  unfold idxR at h
  split at h
  · rename_i j hj
    obtain ⟨h1, h2, _⟩ := List.findIdx?_eq_some_iff_getElem.1 hj
    simp at h2
    obtain rfl : j = k := by omega
    rw [List.getElem?_eq_getElem h1, h2]
  · omega

set_option maxRecDepth 100000 in
theorem rowIndex1_q (A A' : Option Addr) (n c n' c' g : Nat) (zs zs' : List Int) (w : World) (hc : w.cell? ⟨g, 0, none⟩ = some (.slice A' n' c')) (hr : RdI w w.heap.size A n zs) (hr' : RdI w w.heap.size A' n' zs') (hn : n ≤ 9223372036854775807) (hn' : n' ≤ 9223372036854775807) :
    Calls Try.prog 113 #[.slice A n c, .pointer (some ⟨g, 0, none⟩)] w fun e w' => e = .returned (.bool (decide (zs = zs'))) ∧ Qt w w' := by
  go_enter Try.func113, Try.ntmps113
  go_wp2_with fail
  refine (slicesEqual_q A A' n c n' c' zs zs' w hr hr' hn hn').mono ?_
  rintro e w' ⟨rfl, hq⟩
  have HQ := Lib.hid hq
  clear hq
  go_wp2_with fail
  go_ret
  exact ⟨rfl, HQ.out⟩

set_option maxRecDepth 100000 in
set_option maxHeartbeats 400000 in
theorem indexFunc_q (A A' : Option Addr) (n c n' c' g : Nat) (rs : List (List Int)) (r : List Int) (w : World) (hcell : w.cell? ⟨g, 0, none⟩ = some (.slice A' n' c')) (hr : RdR w w.heap.size A n rs) (hr' : RdI w w.heap.size A' n' r) (hn : n ≤ 9223372036854775807) (hn' : n' ≤ 9223372036854775807) :
    Calls Try.prog 112 #[.slice A n c, .func (.func 113) #[] #[.pointer (some ⟨g, 0, none⟩)]] w fun e w' => e = .returned (.int .i64 (idxR rs r)) ∧ Qt w w' := by
  have HL := Lib.hid hr.1
  go_enter Try.func112, Try.ntmps112
  go_wp2
  go_loopw [8] (fun i wr => ∃ k : Nat, k ≤ n ∧ i = .int .i64 k ∧ Hid (∀ j x, j < k → rs[j]? = some x → ¬ x = r) ∧ Qt w wr) (fun i _ => n - (intOf i).toNat)
  case atStart => exact ⟨0, by omega, rfl, fun j x h => by omega, Qt.refl _⟩
  case round =>
    obtain ⟨k, hk, rfl, hpre, hbel⟩ := hrel
    by_cases hlt : k < n
    · obtain ⟨b, o, x, A1, c1, rfl, _, hx, hc, hrd, hm⟩ := RdR.at_ hr hlt
      have hc1 := (hbel.cell (p := ⟨b, o + k, none⟩)).trans hc
      have HX := Lib.hid hx
      have KE := Lib.hid (rowIndex1_q A1 A' x.length c1 n' c' g x r wr (hbel.cell.trans hcell) (hbel.rdI hrd) (hbel.rdI hr') (by unfold maxLen at hm; omega) hn')
      clear hx hc hrd
      by_cases he : x = r
      · have hf : Hid (idxR rs r = k) := idxR_at (he ▸ HX.out) hpre.out
        have hd := Lib.hid (decide_eq_true he)
        clear he
        go_wp2_with fail
        refine KE.out.mono ?_
        rintro e w1 ⟨rfl, hq⟩
        rw [hd.out]
        have HQ := Lib.hid (hbel.trans hq)
        clear hq
        go_wp2_with fail
        go_ret
        exact ⟨by rw [hf.out] <;> rfl, HQ.out⟩
      · have hpre' : Hid (∀ j x, j < k + 1 → rs[j]? = some x → ¬ x = r) := fun j y hj hy => by
          rcases Nat.lt_or_ge j k with h | h
          · exact hpre.out j y h hy
          · obtain rfl : j = k := by omega
            rw [HX.out] at hy
            injection hy with hy
            rw [← hy]
            exact he
        have hd := Lib.hid (decide_eq_false he)
        clear he
        go_wp2_with fail
        refine KE.out.mono ?_
        rintro e w1 ⟨rfl, hq⟩
        rw [hd.out]
        have HQ := Lib.hid (hbel.trans hq)
        clear hq
        go_wp2_with fail
        refine ⟨⟨k + 1, by omega, by go_num, hpre', HQ.out⟩, ?_⟩
        simp [intOf]
        omega
    · obtain rfl : k = n := by omega
      have hf : Hid (idxR rs r = -1) := idxR_none fun x hx => by
        obtain ⟨j, hj⟩ := List.mem_iff_getElem?.1 hx
        exact hpre.out j x (by have := (List.getElem?_eq_some_iff.1 hj).1; rw [HL.out] at this; exact this) hj
      go_wp2
      go_ret
      exact ⟨by rw [hf.out] <;> rfl, hbel⟩

set_option maxRecDepth 100000 in
set_option maxHeartbeats 400000 in
theorem rowIndex_any (nm : ByteArray) (ar : Int) (A A' : Option Addr) (n c n' c' B : Nat) (rs : List (List Int)) (r : List Int) (w : World) (hr : RdR w B A n rs) (hr' : RdI w B A' n' r) (hB : B ≤ w.heap.size) (hn : n ≤ 9223372036854775806) (hn' : n' ≤ 9223372036854775806) :
    Calls Try.prog 107 #[.agg #[.string nm, .int .i64 ar, .slice A n c], .slice A' n' c'] w fun e w' => e = .returned (.int .i64 (idxR rs r)) ∧ Below w.heap.size w w' := by
  have HB := Lib.hid (Below.refl w.heap.size w)
  have HB2 := Lib.hid (((Below.refl B w).alloc hB (.cells #[.string nm, .int .i64 ar, .slice A n c] 36)).alloc (by simp; omega) (.cells #[.slice A' n' c'] 59))
  go_enter Try.func107, Try.ntmps107
  go_wp2_with fail
  refine (indexFunc_q A A' n c n' c' (w.heap.size + 1) rs r _ (by simp [go_sem]) ((RdR.belowB hr HB2.out (Nat.le_refl _)).more (by simp; omega)) ((hr'.belowB HB2.out (Nat.le_refl _)).more (by simp; omega)) (by omega) (by omega)).mono ?_
  rintro e w1 ⟨rfl, hq⟩
  have hbel := Lib.hid ((((HB.out).alloc (Nat.le_refl _) _).alloc (by simp) _).trans (hq.below _))
  clear hq
  go_wp2_with fail
  go_ret
  exact ⟨rfl, hbel.out⟩

/-- A valid table holds the row. -/
def contB (nm : ByteArray) (ar : Int) (rs : List (List Int)) (r : List Int) : Bool := validT nm ar rs && decide (r ∈ rs)

set_option maxRecDepth 100000 in
set_option maxHeartbeats 400000 in
theorem impl_ContainsRow_any (nm : ByteArray) (ar : Int) (A A' : Option Addr) (n c n' c' B : Nat) (rs : List (List Int)) (r : List Int) (w : World) (hr : RdR w B A n rs) (hr' : RdI w B A' n' r) (hB : B ≤ w.heap.size) (hn : n ≤ 9223372036854775806) (hn' : n' ≤ 9223372036854775806) :
    Calls Try.prog 109 #[.agg #[.string nm, .int .i64 ar, .slice A n c], .slice A' n' c'] w fun e w' => e = .returned (.bool (contB nm ar rs r)) ∧ Below w.heap.size w w' := by
  have HB := Lib.hid ((Below.refl w.heap.size w).alloc (Nat.le_refl _) (.cells #[.string nm, .int .i64 ar, .slice A n c] 36))
  have HB2 := Lib.hid ((Below.refl B w).alloc hB (.cells #[.string nm, .int .i64 ar, .slice A n c] 36))
  have KV := Lib.hid (impl_IsValidTable_any nm ar A n c B rs (w.alloc (.cells #[.string nm, .int .i64 ar, .slice A n c] 36)) (RdR.belowB hr HB2.out (Nat.le_refl _)) (by simp; omega) hn)
  cases hv : validT nm ar rs with
  | false =>
    have hf : Hid (contB nm ar rs r = false) := by show _ = _; rw [contB, hv]; rfl
    rw [hv] at KV
    clear hv
    go_enter Try.func109, Try.ntmps109
    go_wp2_with fail
    refine KV.out.mono ?_
    rintro e w1 ⟨rfl, hb⟩
    have hbel := Lib.hid (HB.out.trans (hb.mono (by simp)))
    clear hb
    go_wp2_with fail
    go_ret
    exact ⟨by rw [hf.out] <;> rfl, hbel.out⟩
  | true =>
    have hf : Hid (contB nm ar rs r = decide (0 ≤ idxR rs r)) := by show _ = _; rw [contB, hv, decide_eq_decide.2 idxR_iff]; rfl
    rw [hv] at KV
    clear hv
    go_enter Try.func109, Try.ntmps109
    go_wp2_with fail
    refine KV.out.mono ?_
    rintro e w1 ⟨rfl, hb⟩
    have hs := hb.size
    simp at hs
    obtain ⟨hc, hfz⟩ := bcells hb
    have hbel := Lib.hid (HB.out.trans (hb.mono (by simp)))
    have hrd := Lib.hid (RdR.belowB (RdR.belowB hr HB2.out (Nat.le_refl _)) hb (by simp; omega))
    have hrd' := Lib.hid ((hr'.belowB HB2.out (Nat.le_refl _)).belowB hb (by simp; omega))
    clear hb
    go_wp2_with fail
    refine (rowIndex_any nm ar A A' n c n' c' B rs r w1 hrd.out hrd'.out (by omega) hn hn').mono ?_
    rintro e w2 ⟨rfl, hb2⟩
    have hbel2 := Lib.hid (hbel.out.trans (hb2.mono (by omega)))
    clear hb2 hc hfz
    generalize idxR rs r = y at hf
    go_wp2_with fail
    go_ret
    exact ⟨by rw [hf.out] <;> rfl, hbel2.out⟩
end Go.Proofs.Ytimlecfneibjlaa
