/- FormatRational, both texts. No condition but that an int is an int (and, of the program's, that the library's table is laid). -/
import Derived.Test.YtmojjbhjjhdpaaaDoorRat
import Derived.Test.YtmojjbhjjhdpaaaDoorCls
import Derived.Test.YtmojjbhjjhdpaaaDoorFmt
import Derived.Test.YtmojjbhjjhdpaaaDoorPow
namespace Go.Proofs.YtmojjbhjjhdpaaaDoor
open Go.RowKit

/-- The text of a rational that is valid. -/
def tR (n d : Int) : ByteArray := if d = 1 then tI n else tI n ++ ⟨#[47]⟩ ++ tI d
def fR (n d : Int) : ByteArray := if validR n d = true then tR n d else ⟨#[]⟩
theorem validR_bd {n d : Int} (h : validR n d = true) : (1 ≤ d ∧ d ≤ 2147483647) ∧ -2147483647 ≤ n ∧ n ≤ 2147483647 := by
  unfold validR at h
  simp only [Bool.and_eq_true] at h
  exact ⟨inB_iff.1 h.1, inB_iff.1 h.2.1⟩

set_option maxRecDepth 100000 in
set_option maxHeartbeats 1000000 in
theorem spec_FormatRational_any (n d : Int) (w : World) :
    Calls Tryd.prog 17 #[.agg #[.int .i64 n, .int .i64 d]] w fun e w' => e = .returned (.string (fR n d)) ∧ Below w.heap.size w w' := by
  cases hv : validR n d with
  | false =>
    have K0 : Hid (∀ W, Calls Tryd.prog 54 #[.agg #[.int .i64 n, .int .i64 d]] W fun e w' => e = .returned (.bool false) ∧ Below W.heap.size W w') := fun W => by have := spec_IsValid_any n d W; rw [hv] at this; exact this
    have hf : Hid (fR n d = ⟨#[]⟩) := by show _ = _; rw [fR, if_neg (by rw [hv]; simp)]
    clear hv
    go_enter Tryd.func17, Tryd.ntmps17
    go_wp2_with fail
    refine (K0.out _).mono ?_
    rintro e w1 ⟨rfl, b1⟩
    have b2 := Lib.hid (((Below.refl w.heap.size w).alloc (Nat.le_refl _) (.cells #[.int .i64 n, .int .i64 d] 30)).trans (b1.mono (by simp)))
    clear b1
    go_wp2_with fail
    go_ret
    exact ⟨by rw [hf.out] <;> rfl, b2.out⟩
  | true =>
    obtain ⟨⟨hd1, hd2⟩, hn1, hn2⟩ := validR_bd hv
    have K0 : Hid (∀ W, Calls Tryd.prog 54 #[.agg #[.int .i64 n, .int .i64 d]] W fun e w' => e = .returned (.bool true) ∧ Below W.heap.size W w') := fun W => by have := spec_IsValid_any n d W; rw [hv] at this; exact this
    have hf0 : Hid (fR n d = tR n d) := by show _ = _; rw [fR, if_pos hv]
    obtain ⟨T1, hT1⟩ : ∃ T1, tI n = T1 := ⟨_, rfl⟩
    obtain ⟨T2, hT2⟩ : ∃ T2, tI d = T2 := ⟨_, rfl⟩
    have K1 : Hid (∀ W, Calls Tryd.prog 13 #[.int .i64 n] W fun e w' => e = .returned (.string T1) ∧ Below W.heap.size W w') := fun W => by rw [← hT1]; exact spec_FormatInt_any n W (by omega) (by omega)
    have K2 : Hid (∀ W, Calls Tryd.prog 13 #[.int .i64 d] W fun e w' => e = .returned (.string T2) ∧ Below W.heap.size W w') := fun W => by rw [← hT2]; exact spec_FormatInt_any d W (by omega) (by omega)
    have z1 : T1.size ≤ 11 := by rw [← hT1]; exact tI_size (by omega)
    have z2 : T2.size ≤ 11 := by rw [← hT2]; exact tI_size (by omega)
    have hf1 : Hid (d = 1 → fR n d = T1) := fun e => by rw [hf0.out, tR, if_pos e, hT1]
    have hf2 : Hid (¬ d = 1 → fR n d = T1 ++ ⟨#[47]⟩ ++ T2) := fun e => by rw [hf0.out, tR, if_neg e, hT1, hT2]
    clear hv hf0 hT1 hT2
    go_enter Tryd.func17, Tryd.ntmps17
    go_wp2_with fail
    refine (K0.out _).mono ?_
    rintro e W ⟨rfl, b1⟩
    have hX : (w.alloc (.cells #[.int .i64 n, .int .i64 d] 30)).heap.size = w.heap.size + 1 := by simp
    have HB := Lib.hid (((Below.refl w.heap.size w).alloc (Nat.le_refl _) (.cells #[.int .i64 n, .int .i64 d] 30)).trans (b1.mono (by simp)))
    have hl : ∀ i, ({ block := w.heap.size, off := i } : Addr).block < (w.alloc (.cells #[.int .i64 n, .int .i64 d] 30)).heap.size := fun i => by rw [hX]; exact Nat.lt_succ_self _
    have c0 : W.cell? ⟨w.heap.size, 0, none⟩ = some (.int .i64 n) := (b1.cell (hl 0)).trans (by simp [go_sem])
    have c1 : W.cell? ⟨w.heap.size, 1, none⟩ = some (.int .i64 d) := (b1.cell (hl 1)).trans (by simp [go_sem])
    have l0 : w.heap.size < W.heap.size := by have := b1.size; omega
    clear b1 hX hl
    by_cases h1 : d = 1
    · have hf := Lib.hid (hf1.out h1)
      have hq : (d == 1) = true := by simpa using h1
      clear h1
      go_wp2_with fail
      refine (K1.out _).mono ?_
      rintro e w2 ⟨rfl, b2⟩
      have b3 := HB.out.trans (b2.mono HB.out.size)
      clear b2
      go_wp2_with fail
      go_ret
      exact ⟨by rw [hf.out] <;> rfl, b3⟩
    · have hf := Lib.hid (hf2.out h1)
      have hq : (d == 1) = false := by simpa using h1
      clear h1
      go_wp2_with fail
      refine wp_region_class (by kernel_rfl) (by kernel_rfl) (fun X => Below W.heap.size W X) ((Below.refl _ _).drew) (fun S _ f hG hS => ?_)
      have y0 : ∀ s, (f s).cell? ⟨w.heap.size, 0, none⟩ = some (.int .i64 n) := fun s => ((hG s).cell (p := ⟨w.heap.size, 0, none⟩) l0).trans c0
      have y1 : ∀ s, (f s).cell? ⟨w.heap.size, 1, none⟩ = some (.int .i64 d) := fun s => ((hG s).cell (p := ⟨w.heap.size, 1, none⟩) l0).trans c1
      have HG := Lib.hid hG
      have HS := Lib.hid hS
      clear hG hS
      repeat (first | go_big_quiet_step ((go_at_call 13; first | (with_reducible exact Calls.clsB HS.out (HG.out _) (K1.out _)) | (with_reducible exact Calls.clsB HS.out (HG.out _) (K2.out _)))) | quiet_step ((go_at_call 13; first | (with_reducible exact Calls.clsB HS.out (HG.out _) (K1.out _)) | (with_reducible exact Calls.clsB HS.out (HG.out _) (K2.out _)))))
      refine wpQuiet_nil ?_
      rintro _ ⟨s, rfl⟩
      go_wp2_with fail
      go_ret
      exact ⟨by rw [hf.out] <;> rfl, HB.out.trans ((HG.out s).mono HB.out.size)⟩

set_option maxRecDepth 100000 in
set_option maxHeartbeats 1000000 in
theorem impl_FormatRational_any (n d : Int) (w : World) (ht : Tb w) :
    Calls Tryd.prog 19 #[.agg #[.int .i64 n, .int .i64 d]] w fun e w' => e = .returned (.string (fR n d)) ∧ Below w.heap.size w w' := by
  cases hv : validR n d with
  | false =>
    have K0 : Hid (∀ W, Calls Tryd.prog 60 #[.agg #[.int .i64 n, .int .i64 d]] W fun e w' => e = .returned (.bool false) ∧ Below W.heap.size W w') := fun W => by have := impl_IsValid_any n d W; rw [hv] at this; exact this
    have hf : Hid (fR n d = ⟨#[]⟩) := by show _ = _; rw [fR, if_neg (by rw [hv]; simp)]
    clear hv
    go_enter Tryd.func19, Tryd.ntmps19
    go_wp2_with fail
    refine (K0.out _).mono ?_
    rintro e w1 ⟨rfl, b1⟩
    have b2 := Lib.hid (((Below.refl w.heap.size w).alloc (Nat.le_refl _) (.cells #[.int .i64 n, .int .i64 d] 30)).trans (b1.mono (by simp)))
    clear b1
    go_wp2_with fail
    go_ret
    exact ⟨by rw [hf.out] <;> rfl, b2.out⟩
  | true =>
    obtain ⟨⟨hd1, hd2⟩, hn1, hn2⟩ := validR_bd hv
    have K0 : Hid (∀ W, Calls Tryd.prog 60 #[.agg #[.int .i64 n, .int .i64 d]] W fun e w' => e = .returned (.bool true) ∧ Below W.heap.size W w') := fun W => by have := impl_IsValid_any n d W; rw [hv] at this; exact this
    have hf0 : Hid (fR n d = tR n d) := by show _ = _; rw [fR, if_pos hv]
    obtain ⟨T1, hT1⟩ : ∃ T1, tI n = T1 := ⟨_, rfl⟩
    obtain ⟨T2, hT2⟩ : ∃ T2, tI d = T2 := ⟨_, rfl⟩
    have K1 : Hid (∀ W, Tb W → Calls Tryd.prog 14 #[.int .i64 n] W fun e w' => e = .returned (.string T1) ∧ Below W.heap.size W w') := fun W t => by rw [← hT1]; exact impl_FormatInt_any n W (by omega) (by omega) t
    have K2 : Hid (∀ W, Tb W → Calls Tryd.prog 14 #[.int .i64 d] W fun e w' => e = .returned (.string T2) ∧ Below W.heap.size W w') := fun W t => by rw [← hT2]; exact impl_FormatInt_any d W (by omega) (by omega) t
    have z1 : T1.size ≤ 11 := by rw [← hT1]; exact tI_size (by omega)
    have z2 : T2.size ≤ 11 := by rw [← hT2]; exact tI_size (by omega)
    have hf1 : Hid (d = 1 → fR n d = T1) := fun e => by rw [hf0.out, tR, if_pos e, hT1]
    have hf2 : Hid (¬ d = 1 → fR n d = T1 ++ ⟨#[47]⟩ ++ T2) := fun e => by rw [hf0.out, tR, if_neg e, hT1, hT2]
    clear hv hf0 hT1 hT2
    go_enter Tryd.func19, Tryd.ntmps19
    go_wp2_with fail
    refine (K0.out _).mono ?_
    rintro e W ⟨rfl, b1⟩
    have hX : (w.alloc (.cells #[.int .i64 n, .int .i64 d] 30)).heap.size = w.heap.size + 1 := by simp
    have HB := Lib.hid (((Below.refl w.heap.size w).alloc (Nat.le_refl _) (.cells #[.int .i64 n, .int .i64 d] 30)).trans (b1.mono (by simp)))
    have hl : ∀ i, ({ block := w.heap.size, off := i } : Addr).block < (w.alloc (.cells #[.int .i64 n, .int .i64 d] 30)).heap.size := fun i => by rw [hX]; exact Nat.lt_succ_self _
    have c0 : W.cell? ⟨w.heap.size, 0, none⟩ = some (.int .i64 n) := (b1.cell (hl 0)).trans (by simp [go_sem])
    have c1 : W.cell? ⟨w.heap.size, 1, none⟩ = some (.int .i64 d) := (b1.cell (hl 1)).trans (by simp [go_sem])
    have l0 : w.heap.size < W.heap.size := by have := b1.size; omega
    clear b1 hX hl
    have HT : Hid (Tb W) := ht.on HB.out
    clear ht
    by_cases h1 : d = 1
    · have hf := Lib.hid (hf1.out h1)
      have hq : (d == 1) = true := by simpa using h1
      clear h1
      go_wp2_with fail
      refine (K1.out _ HT.out).mono ?_
      rintro e w2 ⟨rfl, b2⟩
      have b3 := HB.out.trans (b2.mono HB.out.size)
      clear b2
      go_wp2_with fail
      go_ret
      exact ⟨by rw [hf.out] <;> rfl, b3⟩
    · have hf := Lib.hid (hf2.out h1)
      have hq : (d == 1) = false := by simpa using h1
      clear h1
      go_wp2_with fail
      refine wp_region_class (by kernel_rfl) (by kernel_rfl) (fun X => Below W.heap.size W X) ((Below.refl _ _).drew) (fun S _ f hG hS => ?_)
      have y0 : ∀ s, (f s).cell? ⟨w.heap.size, 0, none⟩ = some (.int .i64 n) := fun s => ((hG s).cell (p := ⟨w.heap.size, 0, none⟩) l0).trans c0
      have y1 : ∀ s, (f s).cell? ⟨w.heap.size, 1, none⟩ = some (.int .i64 d) := fun s => ((hG s).cell (p := ⟨w.heap.size, 1, none⟩) l0).trans c1
      have HG := Lib.hid hG
      have HS := Lib.hid hS
      clear hG hS
      repeat (first | go_big_quiet_step ((go_at_call 14; first | (with_reducible exact Calls.clsB HS.out (HG.out _) (K1.out _ (HT.out.on (HG.out _)))) | (with_reducible exact Calls.clsB HS.out (HG.out _) (K2.out _ (HT.out.on (HG.out _)))))) | quiet_step ((go_at_call 14; first | (with_reducible exact Calls.clsB HS.out (HG.out _) (K1.out _ (HT.out.on (HG.out _)))) | (with_reducible exact Calls.clsB HS.out (HG.out _) (K2.out _ (HT.out.on (HG.out _)))))))
      refine wpQuiet_nil ?_
      rintro _ ⟨s, rfl⟩
      go_wp2_with fail
      go_ret
      exact ⟨by rw [hf.out] <;> rfl, HB.out.trans ((HG.out s).mono HB.out.size)⟩

end Go.Proofs.YtmojjbhjjhdpaaaDoor
