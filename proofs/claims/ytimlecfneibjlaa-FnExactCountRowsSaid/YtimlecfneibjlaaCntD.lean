/- CountRows: both texts. No condition but the size that the laws let in. -/
import Derived.Test.YtimlecfneibjlaaIsDbS
import Derived.Test.YtimlecfneibjlaaIsDbI
import Derived.Test.YtimlecfneibjlaaDbOpP
namespace Go.Proofs.Ytimlecfneibjlaa
open Go.RowKit Go.Deep

theorem cntD_yes {ts : List Tab} (h : validD ts = true) : cntD ts = lenT ts := by rw [cntD, if_pos h]
theorem cntD_no {ts : List Tab} (h : validD ts = false) : cntD ts = 0 := by rw [cntD, if_neg (by simp [h])]

set_option maxRecDepth 100000 in
set_option maxHeartbeats 1000000 in
theorem spec_CountRows_any (A : Option Addr) (n c B : Nat) (ts : List Tab) (w : World) (hr : RdT w B A n ts) (hB : B ≤ w.heap.size) (hn : n ≤ 1000000000) (hs : sumT ts ≤ 4294967296) :
    Calls Try.prog 20 #[.agg #[.slice A n c]] w fun e w' => e = .returned (.int .i64 (cntD ts : Nat)) ∧ Below w.heap.size w w' := by
  have HL := Lib.hid hr.1
  have kn0 : Kn w [(w.heap.size, 0, .slice A n c)] (w.alloc (.cells #[.slice A n c] 29)) := by
    simpa using (Kn.start w).box1 (.slice A n c) 29
  have hle := Lib.hid (fun k => Nat.le_trans (lenT_take_le ts k) (Nat.le_trans (lenT_le ts) hs))
  have KV : Hid (∀ W, Below w.heap.size w W → Calls Try.prog 16 #[.agg #[.slice A n c]] W fun e w' => e = .returned (.bool (validD ts)) ∧ Below W.heap.size W w') := fun W bw =>
    spec_IsValidDatabase_any A n c B ts W (RdT.belowB hr bw hB) (Nat.le_trans hB bw.size) hn hs
  go_enter Try.func20, Try.ntmps20
  go_wp2_with fail
  generalize w.alloc (.cells #[.slice A n c] 29) = w0 at kn0 ⊢
  go_loopw [3, 4] (fun q i wr => ∃ k : Nat, k ≤ n ∧ i = .int .i64 k ∧ q = .int .i64 (lenT (ts.take k) : Nat) ∧ Hid (k = 0 ∨ validD ts = true) ∧ Kn w [(w.heap.size, 0, .slice A n c)] wr) (fun _ i _ => n - (intOf i).toNat)
  case atStart => exact ⟨0, by omega, rfl, rfl, .inl rfl, kn0⟩
  case round =>
    obtain ⟨k, hk, rfl, rfl, hv, kn⟩ := hrel
    clear kn0
    obtain ⟨x0, _⟩ := kn.all
    have hbel := Lib.hid kn.bel
    by_cases hlt : k < n
    · obtain ⟨b, o, t, A1, c1, rfl, hb, hx, hc0, hc1, hc2, hrd, hm, _⟩ := RdT.at_ hr hlt
      have KV1 := Lib.hid (KV.out wr hbel.out)
      have HX := Lib.hid (lenT_take_succ hx)
      have h1 := hle.out k
      have h2 := hle.out (k + 1)
      rw [HX.out] at h2
      have hb2 : b < w.heap.size := by omega
      clear hx hc0 hc1 hrd hm
      cases hvd : validD ts with
      | false =>
        have hf := Lib.hid (cntD_no hvd)
        have hk0 : k = 0 := by rcases hv.out with h | h; exact h; rw [hvd] at h; cases h
        rw [hvd] at KV1
        clear hvd
        subst hk0
        have hl0 : lenT (ts.take 0) = 0 := rfl
        rw [hl0] at h1 h2 ⊢
        go_wp2_with fail
        refine KV1.out.mono ?_
        rintro e w1 ⟨rfl, b1⟩
        have HF := Lib.hid (kn.next b1).bel
        clear b1 kn x0
        go_wp2_with fail
        go_ret
        exact ⟨by rw [hf.out] <;> rfl, HF.out⟩
      | true =>
        have HV := Lib.hid hvd
        rw [hvd] at KV1
        clear hvd
        generalize lenT (ts.take k) = L at HX h1 h2 ⊢
        go_wp2_with fail
        refine KV1.out.mono ?_
        rintro e w1 ⟨rfl, b1⟩
        have d2 := ((kn.next b1).bel.cell (p := ⟨b, o + k * 3 + 2, none⟩) hb2).trans hc2
        have kn1 := kn.next b1
        clear b1 kn x0 hc2
        obtain ⟨x0, _⟩ := kn1.all
        go_wp2_with fail
        refine ⟨⟨k + 1, by omega, by go_num, by rw [HX.out]; go_num, .inr (by first | exact HV.out | trivial), kn1⟩, ?_⟩
        simp [intOf]
        omega
    · obtain rfl : k = n := by omega
      have hf : Hid (lenT (ts.take k) = cntD ts) := by
        show _ = _
        rw [List.take_of_length_le (Nat.le_of_eq HL.out)]
        rcases hv.out with h | h
        · have : ts = [] := List.length_eq_zero_iff.1 (HL.out.trans h)
          subst this
          rfl
        · rw [cntD_yes h]
      go_wp2_with fail
      go_ret
      exact ⟨by rw [hf.out] <;> rfl, hbel.out⟩

set_option maxRecDepth 100000 in
set_option maxHeartbeats 1000000 in
theorem impl_CountRows_any (A : Option Addr) (n c B : Nat) (ts : List Tab) (w : World) (hr : RdT w B A n ts) (hB : B ≤ w.heap.size) (hn : n ≤ 1000000000) (hs : sumT ts ≤ 4294967296) :
    Calls Try.prog 21 #[.agg #[.slice A n c]] w fun e w' => e = .returned (.int .i64 (cntD ts : Nat)) ∧ Below w.heap.size w w' := by
  have HL := Lib.hid hr.1
  have kn0 : Kn w [(w.heap.size, 0, .slice A n c)] (w.alloc (.cells #[.slice A n c] 29)) := by
    simpa using (Kn.start w).box1 (.slice A n c) 29
  have hle := Lib.hid (fun k => Nat.le_trans (lenT_take_le ts k) (Nat.le_trans (lenT_le ts) hs))
  have KV : Hid (∀ W, Below w.heap.size w W → Calls Try.prog 18 #[.agg #[.slice A n c]] W fun e w' => e = .returned (.bool (validD ts)) ∧ Below W.heap.size W w') := fun W bw =>
    impl_IsValidDatabase_any A n c B ts W (RdT.belowB hr bw hB) (Nat.le_trans hB bw.size) hn hs
  go_enter Try.func21, Try.ntmps21
  go_wp2_with fail
  generalize w.alloc (.cells #[.slice A n c] 29) = w0 at kn0 ⊢
  have KV1 := Lib.hid (KV.out w0 kn0.bel)
  obtain ⟨x0, _⟩ := kn0.all
  cases hvd : validD ts with
  | false =>
    have hf := Lib.hid (cntD_no hvd)
    rw [hvd] at KV1
    clear hvd
    refine KV1.out.mono ?_
    rintro e w1 ⟨rfl, b1⟩
    have HF := Lib.hid (kn0.next b1).bel
    clear b1 kn0 x0
    go_wp2_with fail
    go_ret
    exact ⟨by rw [hf.out] <;> rfl, HF.out⟩
  | true =>
    have hf := Lib.hid (cntD_yes hvd)
    rw [hvd] at KV1
    clear hvd
    refine KV1.out.mono ?_
    rintro e w1 ⟨rfl, b1⟩
    have kn1 := kn0.next b1
    clear b1 kn0 x0
    obtain ⟨x0, _⟩ := kn1.all
    go_wp2_with fail
    go_loopw [3, 5, 12] (fun q _ i wr => ∃ k : Nat, k ≤ n ∧ i = .int .i64 k ∧ q = .int .i64 (lenT (ts.take k) : Nat) ∧ Hid (Below w.heap.size w wr)) (fun _ _ i _ => n - (intOf i).toNat)
    case atStart => exact ⟨0, by omega, rfl, rfl, kn1.bel⟩
    case round =>
      obtain ⟨k, hk, rfl, rfl, hbel⟩ := hrel
      clear kn1 x0
      have hsz := hbel.out.size
      by_cases hlt : k < n
      · obtain ⟨b, o, t, A1, c1, rfl, hb, hx, hc0, hc1, hc2, hrd, hm, _⟩ := RdT.at_ hr hlt
        obtain ⟨nm, ar, rs⟩ := t
        have HX : Hid (lenT (ts.take (k + 1)) = lenT (ts.take k) + rs.length) := lenT_take_succ hx
        have h1 := hle.out k
        have h2 := hle.out (k + 1)
        rw [HX.out] at h2
        have d0 := (hbel.out.cell (p := ⟨b, o + k * 3, none⟩) (by show b < _; omega)).trans hc0
        have d1 := (hbel.out.cell (p := ⟨b, o + k * 3 + 1, none⟩) (by show b < _; omega)).trans hc1
        have d2 := (hbel.out.cell (p := ⟨b, o + k * 3 + 2, none⟩) (by show b < _; omega)).trans hc2
        clear hx hc0 hc1 hc2 hrd hm
        generalize lenT (ts.take k) = L at HX h1 h2 ⊢
        have HB := Lib.hid (hbel.out.alloc hsz (.cells #[.string nm, .int .i64 ar, .slice A1 rs.length c1] 36))
        go_wp2_with fail
        refine ⟨⟨k + 1, by omega, by go_num, by rw [HX.out]; go_num, HB.out⟩, ?_⟩
        simp [intOf]
        omega
      · obtain rfl : k = n := by omega
        have hf2 := Lib.hid (show ts.take k = ts from List.take_of_length_le (Nat.le_of_eq HL.out))
        go_wp2_with fail
        go_ret
        exact ⟨by rw [hf.out, hf2.out] <;> rfl, hbel.out⟩
end Go.Proofs.Ytimlecfneibjlaa
