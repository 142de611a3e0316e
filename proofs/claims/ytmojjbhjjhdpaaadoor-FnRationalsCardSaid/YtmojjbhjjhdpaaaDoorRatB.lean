/- CeilRational, CompareRationals: both texts; eqRational. No condition but that an int is an int. -/
import Derived.Test.YtmojjbhjjhdpaaaDoorRat
namespace Go.Proofs.YtmojjbhjjhdpaaaDoor
open Go.RowKit

theorem bcell {W w1 : World} (hb : Below W.heap.size W w1) : (∀ b o, b < W.heap.size → w1.cell? ⟨b, o, none⟩ = W.cell? ⟨b, o, none⟩) ∧ (∀ b o, b < W.heap.size → w1.frozen? ⟨b, o, none⟩ = W.frozen? ⟨b, o, none⟩) :=
  ⟨fun b o h => hb.cell (p := ⟨b, o, none⟩) h, fun b o h => hb.frozen (p := ⟨b, o, none⟩) h⟩
theorem valid_bd {n d : Int} (h : validR n d = true) : 1 ≤ d ∧ d ≤ 2147483647 ∧ -2147483647 ≤ n ∧ n ≤ 2147483647 := by
  unfold validR at h
  simp only [Bool.and_eq_true] at h
  have h1 := inB_iff.1 h.1
  have h2 := inB_iff.1 h.2.1
  omega
theorem mul_bd {a b : Int} (ha1 : -2147483647 ≤ a) (ha2 : a ≤ 2147483647) (hb1 : 0 ≤ b) (hb2 : b ≤ 2147483647) : -4611686014132420609 ≤ a * b ∧ a * b ≤ 4611686014132420609 := by
  constructor
  · have h1 : (-2147483647) * b ≤ a * b := Int.mul_le_mul_of_nonneg_right ha1 hb1
    omega
  · have h1 : a * b ≤ 2147483647 * b := Int.mul_le_mul_of_nonneg_right ha2 hb1
    omega

def ceilR (n d : Int) : Int := if validR n d = true then (if n.tdiv d * d < n then n.tdiv d + 1 else n.tdiv d) else 0
theorem ceilR_no {n d : Int} (h : validR n d = false) : ceilR n d = 0 := by rw [ceilR, h]; rfl

theorem tdiv_bd {n d : Int} (hn1 : -2147483647 ≤ n) (hn2 : n ≤ 2147483647) : -2147483647 ≤ n.tdiv d ∧ n.tdiv d ≤ 2147483647 := by
  have h1 : (n.tdiv d).natAbs ≤ n.natAbs := by rw [Int.natAbs_tdiv]; exact Nat.div_le_self _ _
  omega

set_option maxRecDepth 100000 in
set_option maxHeartbeats 400000 in
theorem impl_Ceil_any (n d : Int) (w : World) :
    Calls Tryd.prog 61 #[.agg #[.int .i64 n, .int .i64 d]] w fun e w' => e = .returned (.int .i64 (ceilR n d)) ∧ Below w.heap.size w w' := by
  cases hv : validR n d with
  | false =>
    have hf := Lib.hid (ceilR_no hv)
    go_enter Tryd.func61, Tryd.ntmps61
    go_wp2_with (go_at_call 60; refine (impl_IsValid_any _ _ _).mono ?_; rintro e w1 ⟨rfl, hb⟩; obtain ⟨hc, hf'⟩ := bcell hb)
    go_ret
    exact ⟨by rw [hf.out] <;> rfl, ((Below.refl _ _).alloc (Nat.le_refl _) _).trans (hb.mono (by simp))⟩
  | true =>
    obtain ⟨d1, d2, n1, n2⟩ := valid_bd hv
    obtain ⟨q1, q2⟩ := tdiv_bd (d := d) n1 n2
    obtain ⟨p1, p2⟩ := mul_bd q1 q2 (by omega) d2
    have hdz : (d == 0) = false := by simp; omega
    by_cases hlt : n.tdiv d * d < n
    · have hf : Hid (ceilR n d = n.tdiv d + 1) := by show _ = _; rw [ceilR, if_pos hv, if_pos hlt]
      go_enter Tryd.func61, Tryd.ntmps61
      go_wp2_with (go_at_call 60; refine (impl_IsValid_any _ _ _).mono ?_; rintro e w1 ⟨rfl, hb⟩; obtain ⟨hc, hf'⟩ := bcell hb)
      go_ret
      exact ⟨by rw [hf.out] <;> rfl, ((Below.refl _ _).alloc (Nat.le_refl _) _).trans (hb.mono (by simp))⟩
    · have hf : Hid (ceilR n d = n.tdiv d) := by show _ = _; rw [ceilR, if_pos hv, if_neg hlt]
      go_enter Tryd.func61, Tryd.ntmps61
      go_wp2_with (go_at_call 60; refine (impl_IsValid_any _ _ _).mono ?_; rintro e w1 ⟨rfl, hb⟩; obtain ⟨hc, hf'⟩ := bcell hb)
      go_ret
      exact ⟨by rw [hf.out] <;> rfl, ((Below.refl _ _).alloc (Nat.le_refl _) _).trans (hb.mono (by simp))⟩

def cmpR (n d n' d' : Int) : Int := if validR n d = true ∧ validR n' d' = true then (if n * d' < n' * d then -1 else if n' * d < n * d' then 1 else 0) else 0
theorem cmpR_1 {n d n' d' : Int} (h : validR n d = false) : cmpR n d n' d' = 0 := by rw [cmpR, if_neg (by simp [h])]
theorem cmpR_2 {n d n' d' : Int} (h : validR n' d' = false) : cmpR n d n' d' = 0 := by rw [cmpR, if_neg (by simp [h])]
theorem cmpR_3 {n d n' d' : Int} (h : validR n d = true) (h' : validR n' d' = true) : cmpR n d n' d' = if n * d' < n' * d then -1 else if n' * d < n * d' then 1 else 0 := by rw [cmpR, if_pos ⟨h, h'⟩]

set_option maxRecDepth 100000 in
set_option maxHeartbeats 400000 in
theorem impl_Compare_any (n d n' d' : Int) (w : World) :
    Calls Tryd.prog 58 #[.agg #[.int .i64 n, .int .i64 d], .agg #[.int .i64 n', .int .i64 d']] w fun e w' => e = .returned (.int .i64 (cmpR n d n' d')) ∧ Below w.heap.size w w' := by
  cases hv : validR n d with
  | false =>
    have hf := Lib.hid (cmpR_1 (n' := n') (d' := d') hv)
    go_enter Tryd.func58, Tryd.ntmps58
    go_wp2_with fail
    refine (impl_IsValid_any n d _).mono ?_
    rintro e w1 ⟨rfl, hb⟩
    obtain ⟨hc, hf'⟩ := bcell hb
    have hs := hb.size
    simp at hs
    go_wp2_with fail
    go_ret
    exact ⟨by rw [hf.out] <;> rfl, (((Below.refl _ _).alloc (Nat.le_refl _) _).alloc (by simp) _).trans (hb.mono (by simp; omega))⟩
  | true =>
    cases hv' : validR n' d' with
    | false =>
      have hf := Lib.hid (cmpR_2 (n := n) (d := d) hv')
      go_enter Tryd.func58, Tryd.ntmps58
      go_wp2_with fail
      refine (impl_IsValid_any n d _).mono ?_
      rintro e w1 ⟨rfl, hb⟩
      obtain ⟨hc, hf'⟩ := bcell hb
      have hs := hb.size
      simp at hs
      go_wp2_with fail
      refine (impl_IsValid_any n' d' _).mono ?_
      rintro e w2 ⟨rfl, hb2⟩
      obtain ⟨hc2, hf2'⟩ := bcell hb2
      have hs2 := hb2.size
      go_wp2_with fail
      go_ret
      exact ⟨by rw [hf.out] <;> rfl, ((((Below.refl _ _).alloc (Nat.le_refl _) _).alloc (by simp) _).trans (hb.mono (by simp; omega))).trans (hb2.mono (by omega))⟩
    | true =>
      obtain ⟨d1, d2, n1, n2⟩ := valid_bd hv
      obtain ⟨d1', d2', n1', n2'⟩ := valid_bd hv'
      obtain ⟨p1, p2⟩ := mul_bd n1 n2 (show 0 ≤ d' by omega) d2'
      obtain ⟨p1', p2'⟩ := mul_bd n1' n2' (show 0 ≤ d by omega) d2
      have g1 : IntKind.i64.wrap (n * d') = n * d' := IntWalk.i64_in _ (by omega)
      have g2 : IntKind.i64.wrap (n' * d) = n' * d := IntWalk.i64_in _ (by omega)
      have hf0 := Lib.hid (cmpR_3 hv hv')
      by_cases c1 : n * d' < n' * d
      · have hf : Hid (cmpR n d n' d' = -1) := by show _ = _; rw [hf0.out, if_pos c1]
        go_enter Tryd.func58, Tryd.ntmps58
        go_wp2_with fail
        refine (impl_IsValid_any n d _).mono ?_
        rintro e w1 ⟨rfl, hb⟩
        obtain ⟨hc, hf'⟩ := bcell hb
        have hs := hb.size
        simp at hs
        go_wp2_with fail
        refine (impl_IsValid_any n' d' _).mono ?_
        rintro e w2 ⟨rfl, hb2⟩
        obtain ⟨hc2, hf2'⟩ := bcell hb2
        have hs2 := hb2.size
        go_wp2_with fail
        have k00 : w2.cell? ⟨w.heap.size, 0, none⟩ = some (.int .i64 n) := by rw [hc2 _ _ (by omega), hc _ _ (by simp <;> omega)]; simp [go_sem]
        have k01 : w2.cell? ⟨w.heap.size, 1, none⟩ = some (.int .i64 d) := by rw [hc2 _ _ (by omega), hc _ _ (by simp <;> omega)]; simp [go_sem]
        have k10 : w2.cell? ⟨w.heap.size + 1, 0, none⟩ = some (.int .i64 n') := by rw [hc2 _ _ (by omega), hc _ _ (by simp <;> omega)]; simp [go_sem]
        have k11 : w2.cell? ⟨w.heap.size + 1, 1, none⟩ = some (.int .i64 d') := by rw [hc2 _ _ (by omega), hc _ _ (by simp <;> omega)]; simp [go_sem]
        clear hc hc2 hf' hf2'
        go_quiet (fail)
        go_wp2_with fail
        go_ret
        exact ⟨by rw [hf.out] <;> rfl, below_drewN (((((Below.refl _ _).alloc (Nat.le_refl _) _).alloc (by simp) _).trans (hb.mono (by simp; omega))).trans (hb2.mono (by omega))) _⟩
      · by_cases c2 : n' * d < n * d'
        · have hf : Hid (cmpR n d n' d' = 1) := by show _ = _; rw [hf0.out, if_neg c1, if_pos c2]
          go_enter Tryd.func58, Tryd.ntmps58
          go_wp2_with fail
          refine (impl_IsValid_any n d _).mono ?_
          rintro e w1 ⟨rfl, hb⟩
          obtain ⟨hc, hf'⟩ := bcell hb
          have hs := hb.size
          simp at hs
          go_wp2_with fail
          refine (impl_IsValid_any n' d' _).mono ?_
          rintro e w2 ⟨rfl, hb2⟩
          obtain ⟨hc2, hf2'⟩ := bcell hb2
          have hs2 := hb2.size
          go_wp2_with fail
          have k00 : w2.cell? ⟨w.heap.size, 0, none⟩ = some (.int .i64 n) := by rw [hc2 _ _ (by omega), hc _ _ (by simp <;> omega)]; simp [go_sem]
          have k01 : w2.cell? ⟨w.heap.size, 1, none⟩ = some (.int .i64 d) := by rw [hc2 _ _ (by omega), hc _ _ (by simp <;> omega)]; simp [go_sem]
          have k10 : w2.cell? ⟨w.heap.size + 1, 0, none⟩ = some (.int .i64 n') := by rw [hc2 _ _ (by omega), hc _ _ (by simp <;> omega)]; simp [go_sem]
          have k11 : w2.cell? ⟨w.heap.size + 1, 1, none⟩ = some (.int .i64 d') := by rw [hc2 _ _ (by omega), hc _ _ (by simp <;> omega)]; simp [go_sem]
          clear hc hc2 hf' hf2'
          go_quiet (fail)
          go_wp2_with fail
          go_ret
          exact ⟨by rw [hf.out] <;> rfl, below_drewN (((((Below.refl _ _).alloc (Nat.le_refl _) _).alloc (by simp) _).trans (hb.mono (by simp; omega))).trans (hb2.mono (by omega))) _⟩
        · have hf : Hid (cmpR n d n' d' = 0) := by show _ = _; rw [hf0.out, if_neg c1, if_neg c2]
          go_enter Tryd.func58, Tryd.ntmps58
          go_wp2_with fail
          refine (impl_IsValid_any n d _).mono ?_
          rintro e w1 ⟨rfl, hb⟩
          obtain ⟨hc, hf'⟩ := bcell hb
          have hs := hb.size
          simp at hs
          go_wp2_with fail
          refine (impl_IsValid_any n' d' _).mono ?_
          rintro e w2 ⟨rfl, hb2⟩
          obtain ⟨hc2, hf2'⟩ := bcell hb2
          have hs2 := hb2.size
          go_wp2_with fail
          have k00 : w2.cell? ⟨w.heap.size, 0, none⟩ = some (.int .i64 n) := by rw [hc2 _ _ (by omega), hc _ _ (by simp <;> omega)]; simp [go_sem]
          have k01 : w2.cell? ⟨w.heap.size, 1, none⟩ = some (.int .i64 d) := by rw [hc2 _ _ (by omega), hc _ _ (by simp <;> omega)]; simp [go_sem]
          have k10 : w2.cell? ⟨w.heap.size + 1, 0, none⟩ = some (.int .i64 n') := by rw [hc2 _ _ (by omega), hc _ _ (by simp <;> omega)]; simp [go_sem]
          have k11 : w2.cell? ⟨w.heap.size + 1, 1, none⟩ = some (.int .i64 d') := by rw [hc2 _ _ (by omega), hc _ _ (by simp <;> omega)]; simp [go_sem]
          clear hc hc2 hf' hf2'
          go_quiet (fail)
          go_wp2_with fail
          go_ret
          exact ⟨by rw [hf.out] <;> rfl, below_drewN (((((Below.refl _ _).alloc (Nat.le_refl _) _).alloc (by simp) _).trans (hb.mono (by simp; omega))).trans (hb2.mono (by omega))) _⟩

set_option maxRecDepth 100000 in
set_option maxHeartbeats 400000 in
theorem spec_Compare_any (n d n' d' : Int) (w : World) :
    Calls Tryd.prog 59 #[.agg #[.int .i64 n, .int .i64 d], .agg #[.int .i64 n', .int .i64 d']] w fun e w' => e = .returned (.int .i64 (cmpR n d n' d')) ∧ Below w.heap.size w w' := by
  cases hv : validR n d with
  | false =>
    have hf := Lib.hid (cmpR_1 (n' := n') (d' := d') hv)
    go_enter Tryd.func59, Tryd.ntmps59
    go_wp2_with fail
    refine (spec_IsValid_any n d _).mono ?_
    rintro e w1 ⟨rfl, hb⟩
    obtain ⟨hc, hf'⟩ := bcell hb
    have hs := hb.size
    simp at hs
    go_wp2_with fail
    go_ret
    exact ⟨by rw [hf.out] <;> rfl, (((Below.refl _ _).alloc (Nat.le_refl _) _).alloc (by simp) _).trans (hb.mono (by simp; omega))⟩
  | true =>
    cases hv' : validR n' d' with
    | false =>
      have hf := Lib.hid (cmpR_2 (n := n) (d := d) hv')
      go_enter Tryd.func59, Tryd.ntmps59
      go_wp2_with fail
      refine (spec_IsValid_any n d _).mono ?_
      rintro e w1 ⟨rfl, hb⟩
      obtain ⟨hc, hf'⟩ := bcell hb
      have hs := hb.size
      simp at hs
      go_wp2_with fail
      refine (spec_IsValid_any n' d' _).mono ?_
      rintro e w2 ⟨rfl, hb2⟩
      obtain ⟨hc2, hf2'⟩ := bcell hb2
      have hs2 := hb2.size
      have k00 : w2.cell? ⟨w.heap.size, 0, none⟩ = some (.int .i64 n) := by rw [hc2 _ _ (by omega), hc _ _ (by simp <;> omega)]; simp [go_sem]
      have k01 : w2.cell? ⟨w.heap.size, 1, none⟩ = some (.int .i64 d) := by rw [hc2 _ _ (by omega), hc _ _ (by simp <;> omega)]; simp [go_sem]
      have k10 : w2.cell? ⟨w.heap.size + 1, 0, none⟩ = some (.int .i64 n') := by rw [hc2 _ _ (by omega), hc _ _ (by simp <;> omega)]; simp [go_sem]
      have k11 : w2.cell? ⟨w.heap.size + 1, 1, none⟩ = some (.int .i64 d') := by rw [hc2 _ _ (by omega), hc _ _ (by simp <;> omega)]; simp [go_sem]
      clear hc hc2 hf' hf2'
      go_wp2_with fail
      go_ret
      exact ⟨by rw [hf.out] <;> rfl, ((((Below.refl _ _).alloc (Nat.le_refl _) _).alloc (by simp) _).trans (hb.mono (by simp; omega))).trans (hb2.mono (by omega))⟩
    | true =>
      obtain ⟨d1, d2, n1, n2⟩ := valid_bd hv
      obtain ⟨d1', d2', n1', n2'⟩ := valid_bd hv'
      obtain ⟨p1, p2⟩ := mul_bd n1 n2 (show 0 ≤ d' by omega) d2'
      obtain ⟨p1', p2'⟩ := mul_bd n1' n2' (show 0 ≤ d by omega) d2
      have g1 : IntKind.i64.wrap (n * d') = n * d' := IntWalk.i64_in _ (by omega)
      have g2 : IntKind.i64.wrap (n' * d) = n' * d := IntWalk.i64_in _ (by omega)
      have hf0 := Lib.hid (cmpR_3 hv hv')
      by_cases c1 : n * d' < n' * d
      · have hf : Hid (cmpR n d n' d' = -1) := by show _ = _; rw [hf0.out, if_pos c1]
        go_enter Tryd.func59, Tryd.ntmps59
        go_wp2_with fail
        refine (spec_IsValid_any n d _).mono ?_
        rintro e w1 ⟨rfl, hb⟩
        obtain ⟨hc, hf'⟩ := bcell hb
        have hs := hb.size
        simp at hs
        go_wp2_with fail
        refine (spec_IsValid_any n' d' _).mono ?_
        rintro e w2 ⟨rfl, hb2⟩
        obtain ⟨hc2, hf2'⟩ := bcell hb2
        have hs2 := hb2.size
        have k00 : w2.cell? ⟨w.heap.size, 0, none⟩ = some (.int .i64 n) := by rw [hc2 _ _ (by omega), hc _ _ (by simp <;> omega)]; simp [go_sem]
        have k01 : w2.cell? ⟨w.heap.size, 1, none⟩ = some (.int .i64 d) := by rw [hc2 _ _ (by omega), hc _ _ (by simp <;> omega)]; simp [go_sem]
        have k10 : w2.cell? ⟨w.heap.size + 1, 0, none⟩ = some (.int .i64 n') := by rw [hc2 _ _ (by omega), hc _ _ (by simp <;> omega)]; simp [go_sem]
        have k11 : w2.cell? ⟨w.heap.size + 1, 1, none⟩ = some (.int .i64 d') := by rw [hc2 _ _ (by omega), hc _ _ (by simp <;> omega)]; simp [go_sem]
        clear hc hc2 hf' hf2'
        go_wp2_with fail
        go_ret
        exact ⟨by rw [hf.out] <;> rfl, ((((Below.refl _ _).alloc (Nat.le_refl _) _).alloc (by simp) _).trans (hb.mono (by simp; omega))).trans (hb2.mono (by omega))⟩
      · by_cases c2 : n' * d < n * d'
        · have hf : Hid (cmpR n d n' d' = 1) := by show _ = _; rw [hf0.out, if_neg c1, if_pos c2]
          go_enter Tryd.func59, Tryd.ntmps59
          go_wp2_with fail
          refine (spec_IsValid_any n d _).mono ?_
          rintro e w1 ⟨rfl, hb⟩
          obtain ⟨hc, hf'⟩ := bcell hb
          have hs := hb.size
          simp at hs
          go_wp2_with fail
          refine (spec_IsValid_any n' d' _).mono ?_
          rintro e w2 ⟨rfl, hb2⟩
          obtain ⟨hc2, hf2'⟩ := bcell hb2
          have hs2 := hb2.size
          have k00 : w2.cell? ⟨w.heap.size, 0, none⟩ = some (.int .i64 n) := by rw [hc2 _ _ (by omega), hc _ _ (by simp <;> omega)]; simp [go_sem]
          have k01 : w2.cell? ⟨w.heap.size, 1, none⟩ = some (.int .i64 d) := by rw [hc2 _ _ (by omega), hc _ _ (by simp <;> omega)]; simp [go_sem]
          have k10 : w2.cell? ⟨w.heap.size + 1, 0, none⟩ = some (.int .i64 n') := by rw [hc2 _ _ (by omega), hc _ _ (by simp <;> omega)]; simp [go_sem]
          have k11 : w2.cell? ⟨w.heap.size + 1, 1, none⟩ = some (.int .i64 d') := by rw [hc2 _ _ (by omega), hc _ _ (by simp <;> omega)]; simp [go_sem]
          clear hc hc2 hf' hf2'
          go_wp2_with fail
          go_ret
          exact ⟨by rw [hf.out] <;> rfl, ((((Below.refl _ _).alloc (Nat.le_refl _) _).alloc (by simp) _).trans (hb.mono (by simp; omega))).trans (hb2.mono (by omega))⟩
        · have hf : Hid (cmpR n d n' d' = 0) := by show _ = _; rw [hf0.out, if_neg c1, if_neg c2]
          go_enter Tryd.func59, Tryd.ntmps59
          go_wp2_with fail
          refine (spec_IsValid_any n d _).mono ?_
          rintro e w1 ⟨rfl, hb⟩
          obtain ⟨hc, hf'⟩ := bcell hb
          have hs := hb.size
          simp at hs
          go_wp2_with fail
          refine (spec_IsValid_any n' d' _).mono ?_
          rintro e w2 ⟨rfl, hb2⟩
          obtain ⟨hc2, hf2'⟩ := bcell hb2
          have hs2 := hb2.size
          have k00 : w2.cell? ⟨w.heap.size, 0, none⟩ = some (.int .i64 n) := by rw [hc2 _ _ (by omega), hc _ _ (by simp <;> omega)]; simp [go_sem]
          have k01 : w2.cell? ⟨w.heap.size, 1, none⟩ = some (.int .i64 d) := by rw [hc2 _ _ (by omega), hc _ _ (by simp <;> omega)]; simp [go_sem]
          have k10 : w2.cell? ⟨w.heap.size + 1, 0, none⟩ = some (.int .i64 n') := by rw [hc2 _ _ (by omega), hc _ _ (by simp <;> omega)]; simp [go_sem]
          have k11 : w2.cell? ⟨w.heap.size + 1, 1, none⟩ = some (.int .i64 d') := by rw [hc2 _ _ (by omega), hc _ _ (by simp <;> omega)]; simp [go_sem]
          clear hc hc2 hf' hf2'
          go_wp2_with fail
          go_ret
          exact ⟨by rw [hf.out] <;> rfl, ((((Below.refl _ _).alloc (Nat.le_refl _) _).alloc (by simp) _).trans (hb.mono (by simp; omega))).trans (hb2.mono (by omega))⟩

set_option maxHeartbeats 400000 in
theorem eqRational_same (n d : Int) (w : World) :
    Calls Tryd.prog 22 #[.agg #[.int .i64 n, .int .i64 d], .agg #[.int .i64 n, .int .i64 d]] w fun e w' => e = .returned (.bool true) ∧ Below w.heap.size w w' := by
  go_enter Tryd.func22, Tryd.ntmps22
  go_wp2
  go_ret
  exact ⟨rfl, ((Below.refl _ _).alloc (Nat.le_refl _) _).alloc (by simp) _⟩
end Go.Proofs.YtmojjbhjjhdpaaaDoor
