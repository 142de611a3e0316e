/- InvertUpdate: both texts; copyUpdate. No condition but the size that the laws let in. -/
import Derived.Test.YtimlecfneibjlaaCopy
import Derived.Test.YtimlecfneibjlaaCopyS
import Derived.Test.YtimlecfneibjlaaUpd
namespace Go.Proofs.Ytimlecfneibjlaa
open Go.RowKit Go.Deep

set_option maxRecDepth 100000 in
set_option maxHeartbeats 400000 in
theorem copyUpdate_any (nm : ByteArray) (ins : Bool) (A : Option Addr) (n c B : Nat) (zs : List Int) (w : World) (hr : RdI w B A n zs) (hB : B ≤ w.heap.size) (hn : n ≤ 17592186044416) :
    Calls Try.prog 85 #[.agg #[.string nm, .bool ins, .slice A n c]] w (UpdNew nm ins zs w) := by
  have HB := Lib.hid (Below.refl w.heap.size w)
  go_enter Try.func85, Try.ntmps85
  go_wp2_with fail
  refine (copyInts_any A n c B zs _ (RdI.belowB hr (((Below.refl B w).alloc hB _).alloc (by simp; omega) _) (Nat.le_refl _)) (by simp; omega) hn).mono ?_
  rintro e w1 ⟨A1, c1, rfl, ho, hb⟩
  have hs := hb.size
  simp at hs
  obtain ⟨hc, hf⟩ := bcells hb
  have e0 : w1.cell? ⟨w.heap.size, 0, none⟩ = some (.string nm) := (hb.cell (p := ⟨w.heap.size, 0, none⟩) (by simp; omega)).trans (by simp [go_sem])
  have e1 : w1.cell? ⟨w.heap.size, 1, none⟩ = some (.bool ins) := (hb.cell (p := ⟨w.heap.size, 1, none⟩) (by simp; omega)).trans (by simp [go_sem])
  have e2 : w1.cell? ⟨w.heap.size, 2, none⟩ = some (.slice A n c) := (hb.cell (p := ⟨w.heap.size, 2, none⟩) (by simp; omega)).trans (by simp [go_sem])
  have hbel := Lib.hid ((((HB.out).alloc (Nat.le_refl _) _).alloc (by simp) _).trans (hb.mono (by simp; omega)))
  have HO := Lib.hid ho
  clear hb ho
  go_wp2_with fail
  refine bodyPost_ret (v := .agg #[.string nm, .bool ins, .slice A1 zs.length c1]) (by simp [results, Try.results85, go_sem, *]) rfl (UpdNew.of ?_ ?_)
  · have h2 : OwnI w1 (w.heap.size + 2) w1.heap.size (.slice A1 zs.length c1) zs := by simpa using HO.out
    refine OwnI.downTo (lo := w.heap.size + 2) (OwnI.wide (hi := w1.heap.size) ?_ (by simp)) (by omega)
    repeat refine OwnI.setOff ?_ (by omega)
    exact h2
  · repeat first | exact hbel.out | (refine Below.setCell ?_ ?_ _; rotate_left; (simp; try omega))

set_option maxRecDepth 100000 in
set_option maxHeartbeats 400000 in
theorem impl_InvertUpdate_any (nm : ByteArray) (ins : Bool) (A : Option Addr) (n c B : Nat) (zs : List Int) (w : World) (hr : RdI w B A n zs) (hB : B ≤ w.heap.size) (hn : n ≤ 17592186044416) :
    Calls Try.prog 47 #[.agg #[.string nm, .bool ins, .slice A n c]] w (UpdNew nm (!ins) zs w) := by
  have HB := Lib.hid (Below.refl w.heap.size w)
  go_enter Try.func47, Try.ntmps47
  go_wp2_with fail
  refine (copyUpdate_any nm ins A n c B zs _ (RdI.belowB hr (((Below.refl B w).alloc hB _).alloc (by simp; omega) _) (Nat.le_refl _)) (by simp; omega) hn).mono ?_
  rintro e w1 ⟨A1, c1, rfl, ho, hb⟩
  have hs := hb.size
  simp at hs
  obtain ⟨hc, hf⟩ := bcells hb
  have e1 : w1.cell? ⟨w.heap.size, 1, none⟩ = some (.bool ins) := (hb.cell (p := ⟨w.heap.size, 1, none⟩) (by simp; omega)).trans (by simp [go_sem])
  have hbel := Lib.hid ((((HB.out).alloc (Nat.le_refl _) _).alloc (by simp) _).trans (hb.mono (by simp; omega)))
  have HO := Lib.hid ho
  have r0 : ∃ y, w1.cell? ⟨w.heap.size + 1, 0, none⟩ = some y := ⟨_, (hb.cell (p := ⟨w.heap.size + 1, 0, none⟩) (by simp)).trans (by simp [go_sem]; rfl)⟩
  have r1 : ∃ y, w1.cell? ⟨w.heap.size + 1, 1, none⟩ = some y := ⟨_, (hb.cell (p := ⟨w.heap.size + 1, 1, none⟩) (by simp)).trans (by simp [go_sem]; rfl)⟩
  have r2 : ∃ y, w1.cell? ⟨w.heap.size + 1, 2, none⟩ = some y := ⟨_, (hb.cell (p := ⟨w.heap.size + 1, 2, none⟩) (by simp)).trans (by simp [go_sem]; rfl)⟩
  obtain ⟨y0, r0⟩ := r0
  obtain ⟨y1, r1⟩ := r1
  obtain ⟨y2, r2⟩ := r2
  have t0 : w1.frozen? ⟨w.heap.size + 1, 0, none⟩ = false := (hb.frozen (p := ⟨w.heap.size + 1, 0, none⟩) (by simp)).trans (by simp [go_sem])
  have t1 : w1.frozen? ⟨w.heap.size + 1, 1, none⟩ = false := (hb.frozen (p := ⟨w.heap.size + 1, 1, none⟩) (by simp)).trans (by simp [go_sem])
  have t2 : w1.frozen? ⟨w.heap.size + 1, 2, none⟩ = false := (hb.frozen (p := ⟨w.heap.size + 1, 2, none⟩) (by simp)).trans (by simp [go_sem])
  clear hb ho hc hf
  have l0 : w.heap.size < w1.heap.size := by omega
  have l1 : w.heap.size + 1 < w1.heap.size := by omega
  go_wp2_with fail
  refine bodyPost_ret (v := .agg #[.string nm, .bool (!ins), .slice A1 zs.length c1]) (by simp [results, Try.results47, go_sem, *]) rfl (UpdNew.of ?_ ?_)
  · have h2 : OwnI w1 (w.heap.size + 2) w1.heap.size (.slice A1 zs.length c1) zs := by simpa using HO.out
    refine OwnI.downTo (lo := w.heap.size + 2) (OwnI.wide (hi := w1.heap.size) ?_ (by simp)) (by omega)
    repeat (with_reducible first | exact h2 | refine OwnI.alloc ?_ _ | refine OwnI.setOff ?_ (by first | omega | (simp; done) | (simp; omega)))
  · repeat first | exact hbel.out | (refine Below.setCell ?_ ?_ _; rotate_left; (simp; try omega)) | (refine Below.alloc ?_ ?_ _; rotate_left; (simp; try omega))

set_option maxRecDepth 100000 in
set_option maxHeartbeats 8000000 in
theorem spec_InvertUpdate_any (nm : ByteArray) (ins : Bool) (A : Option Addr) (n c B : Nat) (zs : List Int) (w : World) (hr : RdI w B A n zs) (hB : B ≤ w.heap.size) (hn : n ≤ 17592186044416) :
    Calls Try.prog 46 #[.agg #[.string nm, .bool ins, .slice A n c]] w (UpdNew nm (!ins) zs w) := by
  obtain ⟨i0, hi, hz0, hz1, hz2⟩ := info_parts info_int
  have hlen := hr.1
  subst hlen
  have HB := Lib.hid (Below.refl w.heap.size w)
  go_enter Try.func46, Try.ntmps46
  go_wp2_with fail
  generalize hW : (w.alloc (.cells #[.string nm, .bool ins, .slice A zs.length c] 64)).alloc _ = W
  have hrW : Hid (RdI W W.heap.size A zs.length zs) := by rw [← hW]; exact (RdI.belowB hr (((Below.refl B w).alloc hB _).alloc (by simp; omega) _) (Nat.le_refl _)).more (by simp; omega)
  have hbW : Hid (Below w.heap.size w W) := by rw [← hW]; exact ((HB.out).alloc (Nat.le_refl _) _).alloc (by simp) _
  have hsW : W.heap.size = w.heap.size + 2 := by rw [← hW]; simp
  have c0 : W.cell? ⟨w.heap.size, 0, none⟩ = some (.string nm) := by rw [← hW]; simp [go_sem]
  have c1 : W.cell? ⟨w.heap.size, 1, none⟩ = some (.bool ins) := by rw [← hW]; simp [go_sem]
  have c2 : W.cell? ⟨w.heap.size, 2, none⟩ = some (.slice A zs.length c) := by rw [← hW]; simp [go_sem]
  have k0 : (W.cell? ⟨w.heap.size + 1, 0, none⟩).isSome = true := by rw [← hW]; simp [go_sem]
  have k1 : (W.cell? ⟨w.heap.size + 1, 1, none⟩).isSome = true := by rw [← hW]; simp [go_sem]
  have k2 : (W.cell? ⟨w.heap.size + 1, 2, none⟩).isSome = true := by rw [← hW]; simp [go_sem]
  have f0 : W.frozen? ⟨w.heap.size + 1, 0, none⟩ = false := by rw [← hW]; simp [go_sem]
  have f1 : W.frozen? ⟨w.heap.size + 1, 1, none⟩ = false := by rw [← hW]; simp [go_sem]
  have f2 : W.frozen? ⟨w.heap.size + 1, 2, none⟩ = false := by rw [← hW]; simp [go_sem]
  have l0 : w.heap.size < W.heap.size := by omega
  have l1 : w.heap.size + 1 < W.heap.size := by omega
  clear hW hr HB hsW
  go_region_law (first
          | (refine step_append_src _ (by rfl) (.tmp 8) (.tmp 10) _ (by rfl) 3 i0 _ 8 Try.underlying59 hi hz0 hz1 hz2 (by rfl) (.slice (some ⟨W.heap.size, 0, none⟩) 0 0) 0 [] (by rfl) (own_at (heap_alloc_new W _)) A zs.length c (zs.map iv) (by rfl) (hrW.out.below ((Below.refl _ _).alloc (Nat.le_refl _) _)).src (by simp [iv, Value.oneCell']) (by unfold maxLen; omega) (by omega) ?_; intro v1 w1 hown1 hgrow1 hat1
             obtain ⟨A1, cc1, rfl, ho1⟩ := own_of_copy (w := W) hown1 (hat_ge hat1 (by simp))
             have hb1 : Below W.heap.size W w1 := ((Below.refl W.heap.size W).alloc (Nat.le_refl _) (.cells #[] 3)).drew.grown hgrow1 (by simp) (fun j hj => by simp [Value.ownBlock] at hj; omega)
             have m0 : w1.cell? ⟨w.heap.size, 0, none⟩ = some (.string nm) := (hb1.cell (p := ⟨w.heap.size, 0, none⟩) l0).trans c0
             have m1 : w1.cell? ⟨w.heap.size, 1, none⟩ = some (.bool ins) := (hb1.cell (p := ⟨w.heap.size, 1, none⟩) l0).trans c1
             have m2 : w1.cell? ⟨w.heap.size, 2, none⟩ = some (.slice A zs.length c) := (hb1.cell (p := ⟨w.heap.size, 2, none⟩) l0).trans c2
             obtain ⟨y0, r0⟩ := Option.isSome_iff_exists.1 k0
             obtain ⟨y1, r1⟩ := Option.isSome_iff_exists.1 k1
             obtain ⟨y2, r2⟩ := Option.isSome_iff_exists.1 k2
             have r0 := (hb1.cell (p := ⟨w.heap.size + 1, 0, none⟩) l1).trans r0
             have r1 := (hb1.cell (p := ⟨w.heap.size + 1, 1, none⟩) l1).trans r1
             have r2 := (hb1.cell (p := ⟨w.heap.size + 1, 2, none⟩) l1).trans r2
             have t0 := (hb1.frozen (p := ⟨w.heap.size + 1, 0, none⟩) l1).trans f0
             have t1 := (hb1.frozen (p := ⟨w.heap.size + 1, 1, none⟩) l1).trans f1
             have t2 := (hb1.frozen (p := ⟨w.heap.size + 1, 2, none⟩) l1).trans f2
             have hs1 := hb1.size
             have l2 : w.heap.size + 1 < w1.heap.size := by omega
             have HO := Lib.hid ho1
             have HB1 := Lib.hid (hbW.out.trans (hb1.mono (by omega)))
             clear hown1 hgrow1 hat1 ho1 hb1)
          | fail)
  all_goals (
    go_wp2_with fail
    refine bodyPost_ret (v := .agg #[.string nm, .bool (!ins), .slice A1 zs.length cc1]) (by simp [results, Try.results46, go_sem, *]) rfl (UpdNew.of ?_ ?_)
    · refine OwnI.downTo (lo := W.heap.size) (OwnI.wide (hi := w1.heap.size) ?_ (by simp)) (by omega)
      repeat refine OwnI.setOff ?_ (by first | omega | (simp; done) | (simp; omega))
      exact HO.out
    · repeat first | exact HB1.out | (refine Below.setCell ?_ ?_ _; rotate_left; (simp; try omega)))
end Go.Proofs.Ytimlecfneibjlaa
