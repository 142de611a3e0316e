/- impl.DeleteRow. No condition but the size that the laws let in. -/
import Derived.Test.YtimlecfneibjlaaPerm
import Derived.Test.YtimlecfneibjlaaCopy
import Derived.Test.YtimlecfneibjlaaContS
import Derived.Test.YtimlecfneibjlaaTabR
namespace Go.Proofs.Ytimlecfneibjlaa
open Go.RowKit Go.Deep

/-- What DeleteRow answers. -/
def delR (nm : ByteArray) (ar : Int) (rs : List (List Int)) (r : List Int) : TabR := if contB nm ar rs r = true then ⟨nm, ar, rs.filter fun x => decide (¬ x = r), true⟩ else ⟨nm, ar, rs, false⟩

set_option maxRecDepth 100000 in
set_option maxHeartbeats 2000000 in
theorem impl_DeleteRow_any (nm : ByteArray) (ar : Int) (A A' : Option Addr) (n c n' c' B : Nat) (rs : List (List Int)) (r : List Int) (w : World) (hr : RdR w B A n rs) (hr' : RdI w B A' n' r) (hB : B ≤ w.heap.size) (hn : n ≤ 5000000000) (hn' : n' ≤ 9223372036854775806) (hrow : ∀ r ∈ rs, r.length ≤ 17592186044416) :
    Calls Try.prog 100 #[.agg #[.string nm, .int .i64 ar, .slice A n c], .slice A' n' c'] w (TabBool (delR nm ar rs r) w) := by
  have HL := Lib.hid hr.1
  have hrow' := Lib.hid hrow
  clear hrow
  have kn0 : Kn w [(w.heap.size, 0, .string nm), (w.heap.size, 1, .int .i64 ar), (w.heap.size, 2, .slice A n c), (w.heap.size + 1, 0, .string { data := #[] }), (w.heap.size + 1, 1, .int .i64 0), (w.heap.size + 1, 2, .slice none 0 0)]
      ((w.alloc (.cells #[.string nm, .int .i64 ar, .slice A n c] 36)).alloc (.cells #[.string { data := #[] }, .int .i64 0, .slice none 0 0] 36)) := by
    simpa using ((Kn.start w).box3 (.string nm) (.int .i64 ar) (.slice A n c) 36).box3 (.string { data := #[] }) (.int .i64 0) (.slice none 0 0) 36
  go_enter Try.func100, Try.ntmps100
  go_wp2_with fail
  have s0 : w.heap.size + 2 ≤ ((w.alloc (.cells #[.string nm, .int .i64 ar, .slice A n c] 36)).alloc (.cells #[.string { data := #[] }, .int .i64 0, .slice none 0 0] 36)).heap.size := by simp
  generalize (w.alloc (.cells #[.string nm, .int .i64 ar, .slice A n c] 36)).alloc (.cells #[.string { data := #[] }, .int .i64 0, .slice none 0 0] 36) = w0 at kn0 s0 ⊢
  with_reducible refine (copyTable_any nm ar A n c B rs w0 (RdR.belowB hr kn0.bel hB) (Nat.le_trans hB kn0.bel.size) hn hrow'.out).mono ?_
  rintro e w1 ⟨Ao, co, rfl, oo, b1⟩
  have s1 := b1.size
  have kn1 := kn0.next b1
  clear kn0 b1
  obtain ⟨d0, d1, d2, d3, d4, d5, _⟩ := kn1.all
  have ne0 : w.heap.size < w1.heap.size := by omega
  have ne1 : w.heap.size + 1 < w1.heap.size := by omega
  go_wp2_with fail
  clear ne0 ne1
  have kn2 : Kn w [(w.heap.size, 0, .string nm), (w.heap.size, 1, .int .i64 ar), (w.heap.size, 2, .slice A n c), (w.heap.size + 1, 0, .string { data := #[] }), (w.heap.size + 1, 1, .int .i64 0), (w.heap.size + 1, 2, .slice none 0 0), (w1.heap.size, 0, .string nm), (w1.heap.size, 1, .int .i64 ar), (w1.heap.size, 2, .slice Ao rs.length co)]
      (w1.alloc (.cells #[.string nm, .int .i64 ar, .slice Ao rs.length co] 36)) := kn1.box3 (.string nm) (.int .i64 ar) (.slice Ao rs.length co) 36
  have s2 : w1.heap.size + 1 ≤ (w1.alloc (.cells #[.string nm, .int .i64 ar, .slice Ao rs.length co] 36)).heap.size := by simp
  have oo2 := oo.below ((Below.refl _ _).alloc (Nat.le_refl _) (.cells #[.string nm, .int .i64 ar, .slice Ao rs.length co] 36)) (Nat.le_refl _)
  clear oo kn1 d0 d1 d2 d3 d4 d5
  generalize w1.alloc (.cells #[.string nm, .int .i64 ar, .slice Ao rs.length co] 36) = w2 at kn2 s2 oo2 ⊢
  have KC := Lib.hid (impl_ContainsRow_any nm ar A A' n c n' c' B rs r w2 (RdR.belowB hr kn2.bel hB) (hr'.belowB kn2.bel hB) (Nat.le_trans hB kn2.bel.size) (by omega) hn')
  obtain ⟨d0, d1, d2, d3, d4, d5, d6, d7, d8, _⟩ := kn2.all
  cases hcont : contB nm ar rs r with
  | false =>
    have hf : Hid (delR nm ar rs r = ⟨nm, ar, rs, false⟩) := by show _ = _; rw [delR, if_neg (by simp [hcont])]
    rw [hcont] at KC
    clear hcont
    refine KC.out.mono ?_
    rintro e w3 ⟨rfl, b3⟩
    have s3 := b3.size
    have oo3 := oo2.below b3 (by omega)
    have kn3 := kn2.next b3
    clear kn2 b3 oo2 d0 d1 d2 d3 d4 d5 d6 d7 d8
    obtain ⟨d0, d1, d2, d3, d4, d5, d6, d7, d8, _⟩ := kn3.all
    obtain ⟨f0, f1, f2, f3, f4, f5, f6, f7, f8, _⟩ := kn3.fall
    have hbel := Lib.hid kn3.bel
    have HO := Lib.hid oo3
    have nn : ¬ w1.heap.size = w.heap.size + 1 := by omega
    clear kn3 oo3
    go_wp2_with fail
    refine bodyPost_ret (v := .tuple #[.agg #[.string nm, .int .i64 ar, .slice Ao rs.length co], .bool false]) (by simp [results, Try.results100, go_sem, *]) rfl (TabBool.of hf.out ?_ ?_)
    · refine OwnR.down (lo := w0.heap.size) (OwnR.wide (hi := w1.heap.size) ?_ (by simp; omega)) (by omega)
      repeat refine OwnR.setLow ?_ (by omega)
      exact HO.out
    · repeat first | exact hbel.out | (refine Below.setCell ?_ ?_ _; rotate_left; (simp; try omega))
  | true =>
    have hmem : r ∈ rs := of_decide_eq_true (Bool.and_eq_true _ _ ▸ hcont).2
    have hasc : AscP rs := validT_asc (Bool.and_eq_true _ _ ▸ hcont).1
    obtain ⟨k, hk⟩ := Int.eq_ofNat_of_zero_le (idxR_iff.2 hmem)
    have hkr := idxR_lt hk
    have hkn : k < n := by have := (List.getElem?_eq_some_iff.1 hkr).1; rw [HL.out] at this; exact this
    have HE := Lib.hid (eraseIdx_filter hasc hkr)
    have hf : Hid (delR nm ar rs r = ⟨nm, ar, rs.filter fun x => decide (¬ x = r), true⟩) := by show _ = _; rw [delR, if_pos hcont]
    have KX : Hid (∀ W, Below w.heap.size w W → Calls Try.prog 107 #[.agg #[.string nm, .int .i64 ar, .slice A n c], .slice A' n' c'] W fun e w' => e = .returned (.int .i64 (k : Int)) ∧ Below W.heap.size W w') := fun W b =>
      (rowIndex_any nm ar A A' n c n' c' B rs r W (RdR.belowB hr b hB) (hr'.belowB b hB) (Nat.le_trans hB b.size) (by omega) hn').mono fun _ _ ⟨he, hb⟩ => ⟨by rw [he, hk], hb⟩
    rw [hcont] at KC
    have g1 : IntKind.i64.wrap ((k : Int) + 1) = (k : Int) + 1 := IntWalk.i64_in _ (by omega)
    clear hcont hmem hasc hk hkr
    refine KC.out.mono ?_
    rintro e w3 ⟨rfl, b3⟩
    have s3 := b3.size
    have oo3 := oo2.below b3 (by omega)
    have kn3 := kn2.next b3
    clear kn2 b3 oo2 d0 d1 d2 d3 d4 d5 d6 d7 d8
    obtain ⟨d0, d1, d2, d3, d4, d5, d6, d7, d8, _⟩ := kn3.all
    go_wp2_with fail
    refine (KX.out _ kn3.bel).mono ?_
    rintro e w4 ⟨rfl, b4⟩
    have s4 := b4.size
    have oo4 := oo3.below b4 (by omega)
    have kn4 := kn3.next b4
    clear kn3 b4 oo3 d0 d1 d2 d3 d4 d5 d6 d7 d8
    obtain ⟨d0, d1, d2, d3, d4, d5, d6, d7, d8, _⟩ := kn4.all
    have hnr := HL.out
    subst hnr
    go_wp2_with fail
    refine (deleteRow_own Ao rs.length co w0.heap.size w1.heap.size k rs w4 oo4 hkn).mono ?_
    rintro e w5 ⟨rfl, oo5, c5⟩
    have s5 := c5.size
    have kn5 := kn4.chg c5 (by omega) (by simp only [List.forall_mem_cons]; simp; try omega)
    clear kn4 c5 oo4 d0 d1 d2 d3 d4 d5 d6 d7 d8
    obtain ⟨d0, d1, d2, d3, d4, d5, d6, d7, d8, _⟩ := kn5.all
    obtain ⟨f0, f1, f2, f3, f4, f5, f6, f7, f8, _⟩ := kn5.fall
    have hbel := Lib.hid kn5.bel
    rw [HE.out] at oo5
    have HO := Lib.hid oo5
    have nn : ¬ w1.heap.size = w.heap.size + 1 := by omega
    clear kn5 oo5
    go_wp2_with fail
    refine bodyPost_ret (v := .tuple #[.agg #[.string nm, .int .i64 ar, .slice Ao (rs.length - 1) co], .bool true]) (by simp [results, Try.results100, go_sem, *]) rfl (TabBool.of hf.out ?_ ?_)
    · refine OwnR.down (lo := w0.heap.size) (OwnR.wide (hi := w1.heap.size) ?_ (by simp; omega)) (by omega)
      repeat refine OwnR.setOff ?_ (by omega)
      exact HO.out
    · repeat first | exact hbel.out | (refine Below.setCell ?_ ?_ _; rotate_left; (simp; try omega))
end Go.Proofs.Ytimlecfneibjlaa
