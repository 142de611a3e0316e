/- What the law on updates draws: DrawApplyUpdate. What is drawn is not said, but for its bounds. No condition. -/
import Derived.Test.YtccnhocekgikiaaGreatDrU4
namespace Go.Proofs.YtccnhocekgikiaaGreat
open Go.RowKit Go.Deep

theorem sv_set {W : World} {xb ub g i : Nat} {a b c d x : Value} (h1 : g ≠ xb) (h2 : g ≠ ub) (h : (W.cell? ⟨xb, 0, none⟩ = some a ∧ W.cell? ⟨ub, 0, none⟩ = some b ∧ W.cell? ⟨ub, 1, none⟩ = some c ∧ W.cell? ⟨ub, 2, none⟩ = some d ∧ xb < W.heap.size ∧ ub < W.heap.size)) : ((W.setCell ⟨g, i, none⟩ x).cell? ⟨xb, 0, none⟩ = some a ∧ (W.setCell ⟨g, i, none⟩ x).cell? ⟨ub, 0, none⟩ = some b ∧ (W.setCell ⟨g, i, none⟩ x).cell? ⟨ub, 1, none⟩ = some c ∧ (W.setCell ⟨g, i, none⟩ x).cell? ⟨ub, 2, none⟩ = some d ∧ xb < (W.setCell ⟨g, i, none⟩ x).heap.size ∧ ub < (W.setCell ⟨g, i, none⟩ x).heap.size) :=
  ⟨(cell_set_other (by omega)).trans h.1, (cell_set_other (by omega)).trans h.2.1, (cell_set_other (by omega)).trans h.2.2.1, (cell_set_other (by omega)).trans h.2.2.2.1, by simpa [World.setCell] using h.2.2.2.2.1, by simpa [World.setCell] using h.2.2.2.2.2⟩
theorem sv_set3 {W : World} {xb ub g : Nat} {a b c d x y z : Value} (h1 : g ≠ xb) (h2 : g ≠ ub) (h : (W.cell? ⟨xb, 0, none⟩ = some a ∧ W.cell? ⟨ub, 0, none⟩ = some b ∧ W.cell? ⟨ub, 1, none⟩ = some c ∧ W.cell? ⟨ub, 2, none⟩ = some d ∧ xb < W.heap.size ∧ ub < W.heap.size)) : ((((W.setCell ⟨g, 0, none⟩ x).setCell ⟨g, 1, none⟩ y).setCell ⟨g, 2, none⟩ z).cell? ⟨xb, 0, none⟩ = some a ∧ (((W.setCell ⟨g, 0, none⟩ x).setCell ⟨g, 1, none⟩ y).setCell ⟨g, 2, none⟩ z).cell? ⟨ub, 0, none⟩ = some b ∧ (((W.setCell ⟨g, 0, none⟩ x).setCell ⟨g, 1, none⟩ y).setCell ⟨g, 2, none⟩ z).cell? ⟨ub, 1, none⟩ = some c ∧ (((W.setCell ⟨g, 0, none⟩ x).setCell ⟨g, 1, none⟩ y).setCell ⟨g, 2, none⟩ z).cell? ⟨ub, 2, none⟩ = some d ∧ xb < (((W.setCell ⟨g, 0, none⟩ x).setCell ⟨g, 1, none⟩ y).setCell ⟨g, 2, none⟩ z).heap.size ∧ ub < (((W.setCell ⟨g, 0, none⟩ x).setCell ⟨g, 1, none⟩ y).setCell ⟨g, 2, none⟩ z).heap.size) := sv_set h1 h2 (sv_set h1 h2 (sv_set h1 h2 h))

theorem sv_setd {W : World} {xb ub g i : Nat} {a b c d x : Value} (h1 : g ≠ xb) (h2 : g ≠ ub) (h : (W.drew.cell? ⟨xb, 0, none⟩ = some a ∧ W.drew.cell? ⟨ub, 0, none⟩ = some b ∧ W.drew.cell? ⟨ub, 1, none⟩ = some c ∧ W.drew.cell? ⟨ub, 2, none⟩ = some d ∧ xb < W.drew.heap.size ∧ ub < W.drew.heap.size)) : ((W.setCell ⟨g, i, none⟩ x).drew.cell? ⟨xb, 0, none⟩ = some a ∧ (W.setCell ⟨g, i, none⟩ x).drew.cell? ⟨ub, 0, none⟩ = some b ∧ (W.setCell ⟨g, i, none⟩ x).drew.cell? ⟨ub, 1, none⟩ = some c ∧ (W.setCell ⟨g, i, none⟩ x).drew.cell? ⟨ub, 2, none⟩ = some d ∧ xb < (W.setCell ⟨g, i, none⟩ x).drew.heap.size ∧ ub < (W.setCell ⟨g, i, none⟩ x).drew.heap.size) := sv_set (W := W) h1 h2 h
theorem sv_set3d {W : World} {xb ub g : Nat} {a b c d x y z : Value} (h1 : g ≠ xb) (h2 : g ≠ ub) (h : (W.drew.cell? ⟨xb, 0, none⟩ = some a ∧ W.drew.cell? ⟨ub, 0, none⟩ = some b ∧ W.drew.cell? ⟨ub, 1, none⟩ = some c ∧ W.drew.cell? ⟨ub, 2, none⟩ = some d ∧ xb < W.drew.heap.size ∧ ub < W.drew.heap.size)) : ((((W.setCell ⟨g, 0, none⟩ x).setCell ⟨g, 1, none⟩ y).setCell ⟨g, 2, none⟩ z).drew.cell? ⟨xb, 0, none⟩ = some a ∧ (((W.setCell ⟨g, 0, none⟩ x).setCell ⟨g, 1, none⟩ y).setCell ⟨g, 2, none⟩ z).drew.cell? ⟨ub, 0, none⟩ = some b ∧ (((W.setCell ⟨g, 0, none⟩ x).setCell ⟨g, 1, none⟩ y).setCell ⟨g, 2, none⟩ z).drew.cell? ⟨ub, 1, none⟩ = some c ∧ (((W.setCell ⟨g, 0, none⟩ x).setCell ⟨g, 1, none⟩ y).setCell ⟨g, 2, none⟩ z).drew.cell? ⟨ub, 2, none⟩ = some d ∧ xb < (((W.setCell ⟨g, 0, none⟩ x).setCell ⟨g, 1, none⟩ y).setCell ⟨g, 2, none⟩ z).drew.heap.size ∧ ub < (((W.setCell ⟨g, 0, none⟩ x).setCell ⟨g, 1, none⟩ y).setCell ⟨g, 2, none⟩ z).drew.heap.size) := sv_set3 (W := W) h1 h2 h
theorem drDU_two {w W : World} {lo n c n' c' lo1 hi1 rb : Nat} {A A' : Option Addr} {ts : List Tab} {nm : ByteArray} {ins : Bool} {zs : List Int} (rd : RdTw lo W A n ts) (bel : Below w.heap.size w W) (hs : OkT ts) (ht : nm.size ≤ 2000 ∧ n' ≤ 2000 ∧ zs.length = n') (ho : OwnI W lo1 hi1 (.slice A' n' c') zs)
    (hlo : w.heap.size + 1 < lo) (hlo1 : w.heap.size + 1 < lo1) (hhi : hi1 ≤ W.heap.size) (x y z u : Value) (hrb : rb = w.heap.size + 1) :
    DrDU false w (.returned (.tuple #[.agg #[.slice A n c], .agg #[.string nm, .bool ins, .slice A' n' c']])) ((((W.setCell ⟨w.heap.size, 0, none⟩ x).setCell ⟨rb, 0, none⟩ y).setCell ⟨rb, 1, none⟩ z).setCell ⟨rb, 2, none⟩ u).drew := by
  subst hrb
  have hsz : ((((W.setCell ⟨w.heap.size, 0, none⟩ x).setCell ⟨w.heap.size + 1, 0, none⟩ y).setCell ⟨w.heap.size + 1, 1, none⟩ z).setCell ⟨w.heap.size + 1, 2, none⟩ u).heap.size = W.heap.size := by simp [World.setCell]
  have a1 := ownI_set (b := w.heap.size) (i := 0) (x := x) ho (by omega)
  have a2 := ownI_set (b := w.heap.size + 1) (i := 0) (x := y) a1 (by omega)
  have a3 := ownI_set (b := w.heap.size + 1) (i := 1) (x := z) a2 (by omega)
  have h2 := ownI_set (b := w.heap.size + 1) (i := 2) (x := u) a3 (by omega)
  have r4 := ((((rd.setOff (b := w.heap.size) (i := 0) (x := x) (by omega)).setOff (b := w.heap.size + 1) (i := 0) (x := y) (by omega)).setOff (b := w.heap.size + 1) (i := 1) (x := z) (by omega)).setOff (b := w.heap.size + 1) (i := 2) (x := u) (by omega)).below (Below.refl _ _).drew
  refine ⟨0, A, n, c, ts, nm, ins, A', n', c', zs, rfl, hs, ht, r4.down (by omega), ?_, ((((bel.setCell (Nat.le_refl _) _).setCell (Nat.le_succ _) _).setCell (Nat.le_succ _) _).setCell (Nat.le_succ _) _).drew⟩
  have h3 : OwnI ((((W.setCell ⟨w.heap.size, 0, none⟩ x).setCell ⟨w.heap.size + 1, 0, none⟩ y).setCell ⟨w.heap.size + 1, 1, none⟩ z).setCell ⟨w.heap.size + 1, 2, none⟩ u).drew lo1 hi1 (.slice A' n' c') zs := h2
  exact h3.narrow fun g hg => ⟨by have := (h3.lt g hg).1; omega, by have := h3.2 g hg; show g < ((((W.setCell ⟨w.heap.size, 0, none⟩ x).setCell ⟨w.heap.size + 1, 0, none⟩ y).setCell ⟨w.heap.size + 1, 1, none⟩ z).setCell ⟨w.heap.size + 1, 2, none⟩ u).heap.size; rw [hsz]; omega⟩

set_option maxRecDepth 100000 in
set_option maxHeartbeats 4000000 in
theorem drawApply_any (A0 : Option Addr) (n0 c0 : Nat) (w : World) (hr : RdC w w.heap.size A0 n0) (hn0 : n0 ≤ 1048576) :
    Calls Tryz.prog 5 #[.slice A0 n0 c0] w (DrDU false w) := by
  have kn0 : Kn w [(w.heap.size, 0, .slice none 0 0), (w.heap.size + 1, 0, .string { data := #[] }), (w.heap.size + 1, 1, .bool false), (w.heap.size + 1, 2, .slice none 0 0)] ((w.alloc (.cells #[.slice none 0 0] 26)).alloc (.cells #[.string { data := #[] }, .bool false, .slice none 0 0] 29)) := by
    simpa using ((Kn.start w).box1 (.slice none 0 0) 26).box3 (.string { data := #[] }) (.bool false) (.slice none 0 0) 29
  go_enter Tryz.func5, Tryz.ntmps5
  go_upto_region 1 with fail
  have hs0 : w.heap.size + 1 < ((w.alloc (.cells #[.slice none 0 0] 26)).alloc (.cells #[.string { data := #[] }, .bool false, .slice none 0 0] 29)).heap.size := by simp
  generalize ((w.alloc (.cells #[.slice none 0 0] 26)).alloc (.cells #[.string { data := #[] }, .bool false, .slice none 0 0] 29)) = w0 at kn0 hs0 ⊢
  generalize hrb : w.heap.size + 1 = rb at kn0 hs0 ⊢
  have hr0 : RdC w0 w0.heap.size A0 n0 := (hr.keep kn0.bel.block).more kn0.bel.size
  clear hr
  go_wp2_with fail
  refine (l6Pair_any A0 n0 c0 w0 hr0 hn0).mono ?_
  rintro e w1 ⟨q, A, n, c, ts, nm, ins, A', n', c', zs, rfl, hok, hb, hrd, hoi, b1⟩
  have kn1 := kn0.next b1
  have hs1 := b1.size
  clear b1 kn0 hr0
  simp only [if_true] at *
  go_upto_region 2 with fail
  have kn2 : Kn w [(w.heap.size, 0, .slice none 0 0), (rb, 0, .string { data := #[] }), (rb, 1, .bool false), (rb, 2, .slice none 0 0), (w1.heap.size, 0, .slice A n c), (w1.heap.size + 1, 0, .string nm), (w1.heap.size + 1, 1, .bool ins), (w1.heap.size + 1, 2, .slice A' n' c')] ((w1.alloc (.cells #[.slice A n c] 26)).alloc (.cells #[.string nm, .bool ins, .slice A' n' c'] 29)) := by
    simpa using (kn1.box [.slice A n c] 26).box [.string nm, .bool ins, .slice A' n' c'] 29
  have hA1 := (Below.refl w1.heap.size w1).alloc (Nat.le_refl _) (.cells #[.slice A n c] 26)
  have hA2 := (Below.refl (w1.alloc (.cells #[.slice A n c] 26)).heap.size (w1.alloc (.cells #[.slice A n c] 26))).alloc (Nat.le_refl _) (.cells #[.string nm, .bool ins, .slice A' n' c'] 29)
  have hrd2 := (hrd.below hA1).below hA2
  have hoi2 := (hoi.below hA1 (Nat.le_refl _)).below hA2 hA1.size
  have hs2 : w1.heap.size + 1 < ((w1.alloc (.cells #[.slice A n c] 26)).alloc (.cells #[.string nm, .bool ins, .slice A' n' c'] 29)).heap.size := by simp
  clear hA1 hA2 hrd hoi kn1
  generalize ((w1.alloc (.cells #[.slice A n c] 26)).alloc (.cells #[.string nm, .bool ins, .slice A' n' c'] 29)) = w2 at kn2 hrd2 hoi2 hs2 ⊢
  generalize hub : w1.heap.size + 1 = ub at kn2 hs2 ⊢
  obtain ⟨d0, d1, d2, d3, x0, u0, u1, u2, _⟩ := kn2.all
  obtain ⟨f0, f1, f2, f3, y0, v0, v1, v2, _⟩ := kn2.fall
  have hS : (w2.drew.cell? ⟨w1.heap.size, 0, none⟩ = some (.slice A n c) ∧ w2.drew.cell? ⟨ub, 0, none⟩ = some (.string nm) ∧ w2.drew.cell? ⟨ub, 1, none⟩ = some (.bool ins) ∧ w2.drew.cell? ⟨ub, 2, none⟩ = some (.slice A' n' c') ∧ w1.heap.size < w2.drew.heap.size ∧ ub < w2.drew.heap.size) := ⟨x0, u0, u1, u2, by show w1.heap.size < w2.heap.size; omega, hs2⟩
  have hrx : w.heap.size ≠ w1.heap.size := by omega
  have hru : w.heap.size ≠ ub := by omega
  have hrx2 : rb ≠ w1.heap.size := by omega
  have hru2 : rb ≠ ub := by omega
  have HK := Lib.hid kn2
  have HR := Lib.hid hrd2
  have HI := Lib.hid hoi2
  have HO := Lib.hid hok
  clear kn2 hrd2 hoi2 hok
  go_region_held3 (fun W => (W.cell? ⟨w1.heap.size, 0, none⟩ = some (.slice A n c) ∧ W.cell? ⟨ub, 0, none⟩ = some (.string nm) ∧ W.cell? ⟨ub, 1, none⟩ = some (.bool ins) ∧ W.cell? ⟨ub, 2, none⟩ = some (.slice A' n' c') ∧ w1.heap.size < W.heap.size ∧ ub < W.heap.size))
    (with_reducible first | assumption | exact sv_set3d hrx2 hru2 (by assumption) | exact sv_setd hrx hru (by assumption) | exact sv_set3 hrx2 hru2 (by assumption) | exact sv_set hrx hru (by assumption))
    (fail)
  all_goals (
    go_wp2_with fail
    have HE := Lib.hid (fun x y z u => drDU_two (c := c) (ins := ins) (rb := rb) HR.out HK.out.bel HO.out hb HI.out (by omega) (by omega) (by omega) x y z u hrb.symm)
    exact bodyPost_ret (v := .tuple #[.agg #[.slice A n c], .agg #[.string nm, .bool ins, .slice A' n' c']]) (by simp [results, Tryz.results5, go_sem, *]) rfl (HE.out _ _ _ _))
end Go.Proofs.YtccnhocekgikiaaGreat
