/- What the law on tables draws: l4Both, DrawInsertRow. What is drawn is not said, but for its bounds. No condition. -/
import Derived.Test.YtmojjbhjjhdpaaaGreatDoorDrT3
import Derived.Deep.DeepMust
import Derived.Deep.RegionHeld3
namespace Go.Proofs.YtmojjbhjjhdpaaaGreatDoor
open Go.RowKit Go.Deep

theorem l4Some_at (q : Nat) (n : Int) (w : World) (hc : Cur w q) (hn : 0 ≤ n ∧ n ≤ 3) : Calls Tryz.prog 50 #[.pointer (some ⟨q, 0, none⟩), .int .i64 n] w (DrL 4 q w) := by
  obtain ⟨m, rfl⟩ := Int.eq_ofNat_of_zero_le hn.1
  exact (l4Some_any q m w hc (by omega)).mono fun e w' ⟨n', A, c, zs, h1, h2, h3⟩ => ⟨n', A, c, zs, h1, by omega, h3⟩
/-- A table and a row drawn. -/
def DrTL (w : World) (e : Ending) (w' : World) : Prop :=
  ∃ (nm : ByteArray) (ar : Int) (A : Option Addr) (c : Nat) (rs : List (List Int)) (A' : Option Addr) (n' c' : Nat) (zs : List Int), e = .returned (.tuple #[.agg #[.string nm, .int .i64 ar, .slice A rs.length c], .slice A' n' c']) ∧
    SmlT 9 nm ar rs ∧ (n' ≤ 16 ∧ zs.length = n') ∧ OwnR w' w.heap.size w'.heap.size (.slice A rs.length c) rs ∧ OwnI w' w.heap.size w'.heap.size (.slice A' n' c') zs ∧ Below w.heap.size w w'
/-- The rows, kept by a change of the cursor alone. -/
structure Kr (w : World) (q : Nat) (L : List (Nat × Nat × Value)) (lo hi : Nat) (v : Value) (R : List (List Int)) (W : World) : Prop where
  kn : Kn w L W
  cur : Cur W q
  own : OwnR W lo hi v R
  hhi : hi ≤ W.heap.size
  hq : w.heap.size ≤ q ∧ q < lo
  nL : ∀ t ∈ L, t.1 ≠ q
section
variable {w W W' : World} {q lo hi : Nat} {L : List (Nat × Nat × Value)} {v : Value} {R : List (List Int)}
theorem Kr.draw (h : Kr w q L lo hi v R W) (hc : Cur W' q) (hg : Chg q (q + 1) W W') : Kr w q L lo hi v R W' :=
  ⟨h.kn.chg hg h.hq.1 fun t ht => by have := h.nL t ht; omega, hc, h.own.chg hg (.inr (by have := h.hq; omega)), Nat.le_trans h.hhi hg.size, h.hq, h.nL⟩
theorem Kr.next (h : Kr w q L lo hi v R W) (b : Below W.heap.size W W') : Kr w q L lo hi v R W' := h.draw (h.cur.next b) ((Chg.refl _ _ _).after b)
theorem Kr.wide {lo' hi' : Nat} (h : Kr w q L lo hi v R W) (h1 : lo' ≤ lo) (h2 : hi ≤ hi') (h3 : hi' ≤ W.heap.size) (hq : q < lo') : Kr w q L lo' hi' v R W := ⟨h.kn, h.cur, (h.own.wide h2).down h1, h3, ⟨h.hq.1, hq⟩, h.nL⟩
/-- A block that is none of those known may change. -/
theorem Kr.grown {g : Nat} (h : Kr w q L lo hi v R W) (hg : W.grownBy W' (some g)) (hgh : hi ≤ g) (hgw : w.heap.size ≤ g) (hL : ∀ t ∈ L, t.1 < g) (hgq : q < g) : Kr w q L lo hi v R W' := by
  have hc : Chg g (g + 1) W W' := ⟨hg.os, hg.tape, hg.output, hg.size, fun k hk hn => hg.block k hk fun e => by injection e with e; omega⟩
  exact ⟨h.kn.chg hc hgw fun t ht => .inl (hL t ht), h.cur.keep (fun k hk => hc.block k (by have := h.cur.lt; omega) (.inl (by omega))) hc.size, h.own.chg hc (.inl hgh), Nat.le_trans h.hhi hc.size, h.hq, h.nL⟩
end
theorem drTL_of {w W : World} {L : List (Nat × Nat × Value)} {nm : ByteArray} {ar : Int} {A A' : Option Addr} {c n' c' lo hi lo2 hi2 : Nat} {R : List (List Int)} {zs : List Int} (hk : Kn w L W) (hs : SmlT 9 nm ar R) (ow : OwnR W lo hi (.slice A R.length c) R) (hhi : hi ≤ W.heap.size) (hlo : w.heap.size < lo)
    (oi : OwnI W lo2 hi2 (.slice A' n' c') zs) (hn : zs.length = n') (hn16 : n' ≤ 16) (hlo2 : w.heap.size < lo2) (hhi2 : hi2 ≤ W.heap.size) (x y z : Value) :
    DrTL w (.returned (.tuple #[.agg #[.string nm, .int .i64 ar, .slice A R.length c], .slice A' n' c'])) (((W.setCell ⟨w.heap.size, 0, none⟩ x).setCell ⟨w.heap.size, 1, none⟩ y).setCell ⟨w.heap.size, 2, none⟩ z) := by
  have hsz : (((W.setCell ⟨w.heap.size, 0, none⟩ x).setCell ⟨w.heap.size, 1, none⟩ y).setCell ⟨w.heap.size, 2, none⟩ z).heap.size = W.heap.size := by simp [World.setCell]
  have keep : ∀ (W0 : World) (i : Nat) (u : Value), OwnI W0 lo2 hi2 (.slice A' n' c') zs → OwnI (W0.setCell ⟨w.heap.size, i, none⟩ u) lo2 hi2 (.slice A' n' c') zs := fun W0 i u h => ⟨own_keep h.1 fun g hg => Below.heap_setCell _ _ _ g (by have := (h.1.lt g hg).1; show ¬ g = w.heap.size; omega), h.2⟩
  refine ⟨nm, ar, A, c, R, A', n', c', zs, rfl, hs, ⟨hn16, hn⟩, ?_, ?_, ((hk.bel.setCell (Nat.le_refl _) _).setCell (Nat.le_refl _) _).setCell (Nat.le_refl _) _⟩
  · exact ((((ow.setOff (.inl hlo)).setOff (.inl hlo)).setOff (.inl hlo)).wide (by rw [hsz]; exact hhi)).down (Nat.le_of_lt hlo)
  · have h := keep _ 2 z (keep _ 1 y (keep _ 0 x oi))
    exact h.narrow fun g hg => ⟨by have := (h.lt g hg).1; omega, by have := (h.lt g hg).2.1; rw [hsz]; omega⟩

theorem RdI.src2 {w : World} {B n : Nat} {A : Option Addr} {zs : List Int} (h : RdI w B A n zs) (_hn : zs.length = n) : SrcAt w A n (zs.map iv) := h.src
theorem own_of_copy2 {w w' : World} {zs : List Int} {v : Value} {m : Nat} (hm : zs.length = m) (h : w'.ownsRow 0 3 1 v (0 + m) (([] : List Value) ++ zs.map iv)) (hb : ∀ g, v.ownBlock = some g → w.heap.size ≤ g) : ∃ A c, v = .slice A m c ∧ OwnI w' w.heap.size w'.heap.size (.slice A m c) zs := by
  subst hm
  exact own_of_copy h hb
theorem sx_chg {W W' : World} {xb g n : Nat} {a b c : Value} {f : Nat → Option Addr × Nat × Nat} {q : Nat} (B : Chg q (q + 1) W W') (hx : q < xb) (hg : q < g) (h : (W.cell? ⟨xb, 0, none⟩ = some a ∧ W.cell? ⟨xb, 1, none⟩ = some b ∧ W.cell? ⟨xb, 2, none⟩ = some c ∧ (∀ k, k < n → W.cell? ⟨g, k, none⟩ = some (.slice (f k).1 (f k).2.1 (f k).2.2)) ∧ xb < W.heap.size ∧ g < W.heap.size)) : (W'.cell? ⟨xb, 0, none⟩ = some a ∧ W'.cell? ⟨xb, 1, none⟩ = some b ∧ W'.cell? ⟨xb, 2, none⟩ = some c ∧ (∀ k, k < n → W'.cell? ⟨g, k, none⟩ = some (.slice (f k).1 (f k).2.1 (f k).2.2)) ∧ xb < W'.heap.size ∧ g < W'.heap.size) := by
  have e1 := B.block xb h.2.2.2.2.1 (.inr hx)
  have e2 := B.block g h.2.2.2.2.2 (.inr hg)
  exact ⟨(World.cell?_of_block e1).trans h.1, (World.cell?_of_block e1).trans h.2.1, (World.cell?_of_block e1).trans h.2.2.1, fun k hk => (World.cell?_of_block e2).trans (h.2.2.2.1 k hk), Nat.lt_of_lt_of_le h.2.2.2.2.1 B.size, Nat.lt_of_lt_of_le h.2.2.2.2.2 B.size⟩
theorem sx_next {W W' : World} {xb g n : Nat} {a b c : Value} {f : Nat → Option Addr × Nat × Nat} (B : Below W.heap.size W W') (h : (W.cell? ⟨xb, 0, none⟩ = some a ∧ W.cell? ⟨xb, 1, none⟩ = some b ∧ W.cell? ⟨xb, 2, none⟩ = some c ∧ (∀ k, k < n → W.cell? ⟨g, k, none⟩ = some (.slice (f k).1 (f k).2.1 (f k).2.2)) ∧ xb < W.heap.size ∧ g < W.heap.size)) : (W'.cell? ⟨xb, 0, none⟩ = some a ∧ W'.cell? ⟨xb, 1, none⟩ = some b ∧ W'.cell? ⟨xb, 2, none⟩ = some c ∧ (∀ k, k < n → W'.cell? ⟨g, k, none⟩ = some (.slice (f k).1 (f k).2.1 (f k).2.2)) ∧ xb < W'.heap.size ∧ g < W'.heap.size) :=
  ⟨(B.cell (p := ⟨xb, 0, none⟩) h.2.2.2.2.1).trans h.1, (B.cell (p := ⟨xb, 1, none⟩) h.2.2.2.2.1).trans h.2.1, (B.cell (p := ⟨xb, 2, none⟩) h.2.2.2.2.1).trans h.2.2.1, fun k hk => (B.cell (p := ⟨g, k, none⟩) h.2.2.2.2.2).trans (h.2.2.2.1 k hk), Nat.lt_of_lt_of_le h.2.2.2.2.1 B.size, Nat.lt_of_lt_of_le h.2.2.2.2.2 B.size⟩
theorem sx_al {W : World} {xb g n : Nat} {a b c : Value} {f : Nat → Option Addr × Nat × Nat} {o : Obj} (h : (W.cell? ⟨xb, 0, none⟩ = some a ∧ W.cell? ⟨xb, 1, none⟩ = some b ∧ W.cell? ⟨xb, 2, none⟩ = some c ∧ (∀ k, k < n → W.cell? ⟨g, k, none⟩ = some (.slice (f k).1 (f k).2.1 (f k).2.2)) ∧ xb < W.heap.size ∧ g < W.heap.size)) : ((W.alloc o).cell? ⟨xb, 0, none⟩ = some a ∧ (W.alloc o).cell? ⟨xb, 1, none⟩ = some b ∧ (W.alloc o).cell? ⟨xb, 2, none⟩ = some c ∧ (∀ k, k < n → (W.alloc o).cell? ⟨g, k, none⟩ = some (.slice (f k).1 (f k).2.1 (f k).2.2)) ∧ xb < (W.alloc o).heap.size ∧ g < (W.alloc o).heap.size) := sx_next ((Below.refl _ _).alloc (Nat.le_refl _) o) h
theorem sx_drew {W : World} {xb g n : Nat} {a b c : Value} {f : Nat → Option Addr × Nat × Nat} (h : (W.cell? ⟨xb, 0, none⟩ = some a ∧ W.cell? ⟨xb, 1, none⟩ = some b ∧ W.cell? ⟨xb, 2, none⟩ = some c ∧ (∀ k, k < n → W.cell? ⟨g, k, none⟩ = some (.slice (f k).1 (f k).2.1 (f k).2.2)) ∧ xb < W.heap.size ∧ g < W.heap.size)) : (W.drew.cell? ⟨xb, 0, none⟩ = some a ∧ W.drew.cell? ⟨xb, 1, none⟩ = some b ∧ W.drew.cell? ⟨xb, 2, none⟩ = some c ∧ (∀ k, k < n → W.drew.cell? ⟨g, k, none⟩ = some (.slice (f k).1 (f k).2.1 (f k).2.2)) ∧ xb < W.drew.heap.size ∧ g < W.drew.heap.size) := h
theorem sx_grown {W W' : World} {xb g n : Nat} {a b c : Value} {f : Nat → Option Addr × Nat × Nat} {gg : Nat} (hg : W.grownBy W' (some gg)) (h1 : xb ≠ gg) (h2 : g ≠ gg) (h : (W.cell? ⟨xb, 0, none⟩ = some a ∧ W.cell? ⟨xb, 1, none⟩ = some b ∧ W.cell? ⟨xb, 2, none⟩ = some c ∧ (∀ k, k < n → W.cell? ⟨g, k, none⟩ = some (.slice (f k).1 (f k).2.1 (f k).2.2)) ∧ xb < W.heap.size ∧ g < W.heap.size)) : (W'.cell? ⟨xb, 0, none⟩ = some a ∧ W'.cell? ⟨xb, 1, none⟩ = some b ∧ W'.cell? ⟨xb, 2, none⟩ = some c ∧ (∀ k, k < n → W'.cell? ⟨g, k, none⟩ = some (.slice (f k).1 (f k).2.1 (f k).2.2)) ∧ xb < W'.heap.size ∧ g < W'.heap.size) := by
  have e1 := hg.block xb h.2.2.2.2.1 (fun e => h1 (Option.some.inj e))
  have e2 := hg.block g h.2.2.2.2.2 (fun e => h2 (Option.some.inj e))
  exact ⟨(World.cell?_of_block e1).trans h.1, (World.cell?_of_block e1).trans h.2.1, (World.cell?_of_block e1).trans h.2.2.1, fun k hk => (World.cell?_of_block e2).trans (h.2.2.2.1 k hk), Nat.lt_of_lt_of_le h.2.2.2.2.1 hg.size, Nat.lt_of_lt_of_le h.2.2.2.2.2 hg.size⟩
theorem sx_set {W : World} {xb g n : Nat} {a b c : Value} {f : Nat → Option Addr × Nat × Nat} {rb : Nat} {x y z : Value} (hn : rb < xb) (hn2 : rb < g) (h : (W.cell? ⟨xb, 0, none⟩ = some a ∧ W.cell? ⟨xb, 1, none⟩ = some b ∧ W.cell? ⟨xb, 2, none⟩ = some c ∧ (∀ k, k < n → W.cell? ⟨g, k, none⟩ = some (.slice (f k).1 (f k).2.1 (f k).2.2)) ∧ xb < W.heap.size ∧ g < W.heap.size)) : ((((W.setCell ⟨rb, 0, none⟩ x).setCell ⟨rb, 1, none⟩ y).setCell ⟨rb, 2, none⟩ z).cell? ⟨xb, 0, none⟩ = some a ∧ (((W.setCell ⟨rb, 0, none⟩ x).setCell ⟨rb, 1, none⟩ y).setCell ⟨rb, 2, none⟩ z).cell? ⟨xb, 1, none⟩ = some b ∧ (((W.setCell ⟨rb, 0, none⟩ x).setCell ⟨rb, 1, none⟩ y).setCell ⟨rb, 2, none⟩ z).cell? ⟨xb, 2, none⟩ = some c ∧ (∀ k, k < n → (((W.setCell ⟨rb, 0, none⟩ x).setCell ⟨rb, 1, none⟩ y).setCell ⟨rb, 2, none⟩ z).cell? ⟨g, k, none⟩ = some (.slice (f k).1 (f k).2.1 (f k).2.2)) ∧ xb < (((W.setCell ⟨rb, 0, none⟩ x).setCell ⟨rb, 1, none⟩ y).setCell ⟨rb, 2, none⟩ z).heap.size ∧ g < (((W.setCell ⟨rb, 0, none⟩ x).setCell ⟨rb, 1, none⟩ y).setCell ⟨rb, 2, none⟩ z).heap.size) := by
  have k : ∀ (W0 : World) (i j : Nat) (u : Value), (W0.setCell ⟨rb, i, none⟩ u).cell? ⟨xb, j, none⟩ = W0.cell? ⟨xb, j, none⟩ := fun W0 i j u => cell_set_other (by omega)
  have k2 : ∀ (W0 : World) (i j : Nat) (u : Value), (W0.setCell ⟨rb, i, none⟩ u).cell? ⟨g, j, none⟩ = W0.cell? ⟨g, j, none⟩ := fun W0 i j u => cell_set_other (by omega)
  simp only [k, k2]
  exact ⟨h.1, h.2.1, h.2.2.1, h.2.2.2.1, by simpa [World.setCell] using h.2.2.2.2.1, by simpa [World.setCell] using h.2.2.2.2.2⟩

set_option maxRecDepth 100000 in
set_option maxHeartbeats 8000000 in
theorem l4Both_any (A0 : Option Addr) (n0 c0 : Nat) (w : World) (hr : RdC w w.heap.size A0 n0) (hn0 : n0 ≤ 1048576) :
    Calls Tryz.prog 34 #[.slice A0 n0 c0] w (DrTL w) := by
  obtain ⟨i0, hi, hz0, hz1, hz2⟩ := info_parts info_int
  have kn0 : Kn w [(w.heap.size, 0, .string { data := #[] }), (w.heap.size, 1, .int .i64 0), (w.heap.size, 2, .slice none 0 0)] (w.alloc (.cells #[.string { data := #[] }, .int .i64 0, .slice none 0 0] 26)) := by
    simpa using (Kn.start w).box3 (.string { data := #[] }) (.int .i64 0) (.slice none 0 0) 26
  go_enter Tryz.func34, Tryz.ntmps34
  go_upto_region 1 with fail
  have hs0 : w.heap.size < (w.alloc (.cells #[.string { data := #[] }, .int .i64 0, .slice none 0 0] 26)).heap.size := by simp
  have hr0 : RdC (w.alloc (.cells #[.string { data := #[] }, .int .i64 0, .slice none 0 0] 26)) (w.alloc (.cells #[.string { data := #[] }, .int .i64 0, .slice none 0 0] 26)).heap.size A0 n0 := (hr.keep kn0.bel.block).more kn0.bel.size
  generalize w.alloc (.cells #[.string { data := #[] }, .int .i64 0, .slice none 0 0] 26) = w0 at kn0 hs0 hr0 ⊢
  go_wp2_with fail
  refine (l1New_any A0 n0 c0 w0 hr0 hn0).mono ?_
  rintro e w1 ⟨rfl, hc1, b1⟩
  have kn1 := kn0.next b1
  have hq1 := hc1.lt
  generalize w0.heap.size = q at *
  clear b1 kn0 hr0 hr
  go_wp2_with fail
  refine (l4Any_any q w1 hc1).mono ?_
  rintro e w2 ⟨nm, ar, A, c, R, rfl, hsm, ho2, hc2, hg2⟩
  have kn2 := kn1.chg hg2 (by omega) (by simp; omega)
  have hs2 := hg2.size
  have kr3 : Kr w q [(w.heap.size, 0, .string { data := #[] }), (w.heap.size, 1, .int .i64 0), (w.heap.size, 2, .slice none 0 0), (w2.heap.size, 0, .string nm), (w2.heap.size, 1, .int .i64 ar), (w2.heap.size, 2, .slice A R.length c)] w1.heap.size w2.heap.size (.slice A R.length c) R (w2.alloc (.cells #[.string nm, .int .i64 ar, .slice A R.length c] 26)) :=
    ⟨by simpa using kn2.box3 (.string nm) (.int .i64 ar) (.slice A R.length c) 26, hc2.al, ho2.alloc _, by simp, ⟨by omega, hq1⟩, by simp; omega⟩
  have HS := Lib.hid hsm
  clear hc1 kn1 hsm ho2 hc2 hg2 kn2
  go_upto_region 3 with fail
  generalize w2.alloc (.cells #[.string nm, .int .i64 ar, .slice A R.length c] 26) = w3 at kr3 ⊢
  generalize w2.heap.size = xb at kr3 hs2 ⊢
  generalize w1.heap.size = lo at kr3 hs2 hq1
  have hxq : q < xb := by omega
  have hwlo : w.heap.size < lo := by omega
  clear hs2 hq1
  have hRl := HS.out.2.2.1
  have hRr := Lib.hid HS.out.2.2.2
  have hrb : w.heap.size < xb := by omega
  go_cut [17] (fun b wx => ∃ bb : Bool, b = .bool bb ∧ Hid (bb = true → 0 < R.length) ∧ Kr w q [(w.heap.size, 0, .string { data := #[] }), (w.heap.size, 1, .int .i64 0), (w.heap.size, 2, .slice none 0 0), (xb, 0, .string nm), (xb, 1, .int .i64 ar), (xb, 2, .slice A R.length c)] lo xb (.slice A R.length c) R wx)
  case first =>
    obtain ⟨d0, d1, d2, d3, d4, d5, _⟩ := kr3.kn.all
    by_cases h0 : R.length = 0
    · have g0 : ¬ (0 : Int) < (R.length : Int) := by omega
      go_wp2_with fail
      go_meet
      exact ⟨false, rfl, Lib.hid (fun h => by cases h), kr3⟩
    · have g0 : (0 : Int) < (R.length : Int) := by omega
      have H0 := Lib.hid h0
      clear h0
      go_wp2_with fail
      refine (l1Once_any q 2 w3 kr3.cur (by omega)).mono ?_
      rintro e w4 ⟨b, rfl, hc4, hg4⟩
      have kr4 := kr3.draw hc4 hg4
      clear d0 d1 d2 d3 d4 d5
      obtain ⟨d0, d1, d2, d3, d4, d5, _⟩ := kr4.kn.all
      go_wp2_with fail
      go_meet
      exact ⟨b, rfl, Lib.hid (fun _ => by have := H0.out; omega), kr4⟩
  case rest =>
    obtain ⟨bb, rfl, hb, kr4⟩ := hcut
    clear kr3
    generalize wc = w4 at kr4 ⊢
    obtain ⟨d0, d1, d2, d3, d4, d5, _⟩ := kr4.kn.all
    obtain ⟨f0, f1, f2, f3, f4, f5, _⟩ := kr4.kn.fall
    have hlr : w.heap.size < w4.heap.size := (kr4.kn.cell (w.heap.size, 0, .string { data := #[] }) (by simp)).1
    have hlx : xb < w4.heap.size := (kr4.kn.cell (xb, 0, .string nm) (by simp)).1
    have hlq := kr4.cur.lt
    have HK := Lib.hid kr4
    clear kr4
    cases bb with
    | true =>
      have h0 := hb.out rfl
      obtain ⟨g, _, _, _, _, _, rfl, hgl, hgh, _⟩ := HK.out.own.at_ rfl h0
      have hwg : w.heap.size < g := by omega
      have hqg : q < g := by have := HK.out.hq; omega
      have hex : ∀ k, ∃ t : Option Addr × Nat × Nat, k < R.length → w4.cell? ⟨g, k, none⟩ = some (.slice t.1 t.2.1 t.2.2) := fun k => by
        by_cases hk : k < R.length
        · obtain ⟨g', r, A', c', lo', hi', e1, _, _, _, _, hcell, _⟩ := HK.out.own.at_ rfl hk
          injection e1 with e1
          injection e1 with e1
          subst e1
          exact ⟨(A', r.length, c'), fun _ => hcell⟩
        · exact ⟨(none, 0, 0), fun h => absurd h hk⟩
      obtain ⟨f, hf⟩ := Classical.axiomOfChoice hex
      have hS4 : (w4.cell? ⟨xb, 0, none⟩ = some (.string nm) ∧ w4.cell? ⟨xb, 1, none⟩ = some (.int .i64 ar) ∧ w4.cell? ⟨xb, 2, none⟩ = some (.slice (some ⟨g, 0, none⟩) R.length c) ∧ (∀ k, k < R.length → w4.cell? ⟨g, k, none⟩ = some (.slice (f k).1 (f k).2.1 (f k).2.2)) ∧ xb < w4.heap.size ∧ g < w4.heap.size) := ⟨d3, d4, d5, hf, hlx, Nat.lt_trans hgh hlx⟩
      clear hex hf d3 d4 d5 f3 f4 f5
      have K : Hid (∀ W, Kr w q [(w.heap.size, 0, .string { data := #[] }), (w.heap.size, 1, .int .i64 0), (w.heap.size, 2, .slice none 0 0), (xb, 0, .string nm), (xb, 1, .int .i64 ar), (xb, 2, .slice (some ⟨g, 0, none⟩) R.length c)] lo xb (.slice (some ⟨g, 0, none⟩) R.length c) R W → (W.cell? ⟨xb, 0, none⟩ = some (.string nm) ∧ W.cell? ⟨xb, 1, none⟩ = some (.int .i64 ar) ∧ W.cell? ⟨xb, 2, none⟩ = some (.slice (some ⟨g, 0, none⟩) R.length c) ∧ (∀ k, k < R.length → W.cell? ⟨g, k, none⟩ = some (.slice (f k).1 (f k).2.1 (f k).2.2)) ∧ xb < W.heap.size ∧ g < W.heap.size) →
          Calls Tryz.prog 49 #[.pointer (some ⟨q, 0, none⟩), .int .i64 R.length] W fun e w' => ∃ (k : Nat) (r : List Int), e = .returned (.int .i64 (k : Int)) ∧ (0 : Int) ≤ (k : Int) ∧ (k : Int) < (R.length : Int) ∧ (k : Int).toNat = k ∧ k < R.length ∧
            Hid (RdI w' w'.heap.size (f k).1 (f k).2.1 r ∧ r.length = (f k).2.1 ∧ (f k).2.1 ≤ 16) ∧ Hid (Kr w q [(w.heap.size, 0, .string { data := #[] }), (w.heap.size, 1, .int .i64 0), (w.heap.size, 2, .slice none 0 0), (xb, 0, .string nm), (xb, 1, .int .i64 ar), (xb, 2, .slice (some ⟨g, 0, none⟩) R.length c)] lo xb (.slice (some ⟨g, 0, none⟩) R.length c) R w') ∧ Hid (Chg q (q + 1) W w') ∧ (w'.cell? ⟨xb, 0, none⟩ = some (.string nm) ∧ w'.cell? ⟨xb, 1, none⟩ = some (.int .i64 ar) ∧ w'.cell? ⟨xb, 2, none⟩ = some (.slice (some ⟨g, 0, none⟩) R.length c) ∧ (∀ k, k < R.length → w'.cell? ⟨g, k, none⟩ = some (.slice (f k).1 (f k).2.1 (f k).2.2)) ∧ xb < w'.heap.size ∧ g < w'.heap.size)) := fun W h hS =>
          (l1Below_any q R.length W h.cur (by omega)).mono fun e w' ⟨x, he, ⟨hx0, hx1⟩, hc, hg⟩ => by
            obtain ⟨k, rfl⟩ := Int.eq_ofNat_of_zero_le hx0
            have hk : k < R.length := by omega
            have h' := h.draw hc hg
            have hS' := sx_chg hg hxq hqg hS
            obtain ⟨g', r, A', c', lo', hi', e1, _, _, _, hrk, hcell, _, hoI, _⟩ := h'.own.at_ rfl hk
            injection e1 with e1
            injection e1 with e1
            subst e1
            rw [hS'.2.2.2.1 k hk] at hcell
            injection hcell with hcell
            injection hcell with a1 a2 a3
            refine ⟨k, r, he, by omega, by omega, by omega, hk, ⟨?_, a2.symm, by rw [a2]; exact hRr.out r (List.mem_of_getElem? hrk)⟩, h', hg, hS'⟩
            rw [a1, a2]
            exact OwnI.rd (hoI.narrow (lo' := 0) (hi' := w'.heap.size) fun g hg => ⟨Nat.zero_le _, (hoI.lt g hg).2.2⟩) rfl
      have hkA := HK.out.next ((Below.refl w4.heap.size w4).alloc (Nat.le_refl _) (.cells #[] 3)).drew
      have hkB := HK.out.next (Below.refl _ w4).drew
      have hSA := sx_drew (sx_al (o := .cells #[] 3) hS4)
      have hSB := sx_drew hS4
      have HA := Lib.hid (K.out _ hkA hSA)
      have HB := Lib.hid (K.out _ hkB hSB)
      clear hkA hkB hSA hSB
      go_upto_region 4 with fail
      go_region_held3 (fun W => (W.cell? ⟨xb, 0, none⟩ = some (.string nm) ∧ W.cell? ⟨xb, 1, none⟩ = some (.int .i64 ar) ∧ W.cell? ⟨xb, 2, none⟩ = some (.slice (some ⟨g, 0, none⟩) R.length c) ∧ (∀ k, k < R.length → W.cell? ⟨g, k, none⟩ = some (.slice (f k).1 (f k).2.1 (f k).2.2)) ∧ xb < W.heap.size ∧ g < W.heap.size))
            (first | assumption | exact sx_drew (by assumption) | exact sx_al (by assumption) | exact sx_set hrb hwg (by assumption))
            (first
            | (go_at_call 49; (with_reducible refine HA.out.mono ?_); rintro e w5 ⟨k, r, rfl, k0, k1, k2, hkn, hrd, hk5, hg5, hS5⟩
               have hls5 : w4.heap.size ≤ w5.heap.size := Nat.le_trans (by show _ ≤ (w4.alloc _).heap.size; simp) hg5.out.size
               have hlx5 := Nat.lt_of_lt_of_le hlx hls5
               have hlr5 := Nat.lt_of_lt_of_le hlr hls5
               have hblk : Hid (w5.heap[w4.heap.size]? = some (.cells #[] 3 (0, 0))) := (hg5.out.block w4.heap.size (by show _ < (w4.alloc _).heap.size; simp) (.inr (by omega))).trans (heap_alloc_new w4 _)
               clear d0 d1 d2 f0 f1 f2
               obtain ⟨d0, d1, d2, _⟩ := (hk5.out.kn.sub (L' := [(w.heap.size, 0, .string { data := #[] }), (w.heap.size, 1, .int .i64 0), (w.heap.size, 2, .slice none 0 0)]) (by simp)).all
               obtain ⟨f0, f1, f2, _⟩ := (hk5.out.kn.sub (L' := [(w.heap.size, 0, .string { data := #[] }), (w.heap.size, 1, .int .i64 0), (w.heap.size, 2, .slice none 0 0)]) (by simp)).fall
               skip)
            | (go_at_call 49; (with_reducible refine HB.out.mono ?_); rintro e w5 ⟨k, r, rfl, k0, k1, k2, hkn, hrd, hk5, hg5, hS5⟩
               have hls5 : w4.heap.size ≤ w5.heap.size := hg5.out.size
               have hlx5 := Nat.lt_of_lt_of_le hlx hls5
               have hlr5 := Nat.lt_of_lt_of_le hlr hls5
               clear d0 d1 d2 f0 f1 f2
               obtain ⟨d0, d1, d2, _⟩ := (hk5.out.kn.sub (L' := [(w.heap.size, 0, .string { data := #[] }), (w.heap.size, 1, .int .i64 0), (w.heap.size, 2, .slice none 0 0)]) (by simp)).all
               obtain ⟨f0, f1, f2, _⟩ := (hk5.out.kn.sub (L' := [(w.heap.size, 0, .string { data := #[] }), (w.heap.size, 1, .int .i64 0), (w.heap.size, 2, .slice none 0 0)]) (by simp)).fall
               skip)
            | (refine step_append_src _ (by rfl) (.tmp 19) (.tmp 28) _ (by rfl) 3 i0 _ 8 Tryz.underlying27 hi hz0 hz1 hz2 (by rfl) (.slice (some ⟨w4.heap.size, 0, none⟩) 0 0) 0 [] (by rfl) (own_at hblk.out) (f k).1 (f k).2.1 (f k).2.2 (r.map iv) (by rfl) (RdI.src2 hrd.out.1 hrd.out.2.1) (by simp [iv, Value.oneCell']) (by have := hrd.out.2; unfold maxLen; omega) (by have := hrd.out.2; omega) ?_; intro v6 w6 hown6 hgrow6 hat6
               obtain ⟨A6, c6, rfl, ho6⟩ := own_of_copy2 (w := w4) hrd.out.2.1 hown6 (hat_ge hat6 (Nat.le_trans hls5 (Nat.le_refl _)))
               have hgr6 : w5.grownBy w6 (some w4.heap.size) := hgrow6
               have hk6 := (hk5.out).grown hgr6 (by omega) (by omega) (by simp; omega) (by omega)
               have hS6 := sx_grown hgr6 (by omega) (by omega) hS5
               clear d0 d1 d2 f0 f1 f2
               obtain ⟨d0, d1, d2, _⟩ := (hk6.kn.sub (L' := [(w.heap.size, 0, .string { data := #[] }), (w.heap.size, 1, .int .i64 0), (w.heap.size, 2, .slice none 0 0)]) (by simp)).all
               obtain ⟨f0, f1, f2, _⟩ := (hk6.kn.sub (L' := [(w.heap.size, 0, .string { data := #[] }), (w.heap.size, 1, .int .i64 0), (w.heap.size, 2, .slice none 0 0)]) (by simp)).fall
               have HK6 := Lib.hid hk6
               have HO6 := Lib.hid ho6
               clear hown6 hgrow6 hgr6 hat6 ho6 hk6)
            | (refine step_append_src _ (by rfl) (.tmp 19) (.tmp 28) _ (by rfl) 3 i0 _ 8 Tryz.underlying27 hi hz0 hz1 hz2 (by rfl) (.slice (some ⟨w5.heap.size, 0, none⟩) 0 0) 0 [] (by rfl) (own_at (heap_alloc_new w5 _)) (f k).1 (f k).2.1 (f k).2.2 (r.map iv) (by rfl) (RdI.src2 (hrd.out.1.below ((Below.refl _ _).alloc (Nat.le_refl _) (.cells #[] 3))) hrd.out.2.1) (by simp [iv, Value.oneCell']) (by have := hrd.out.2; unfold maxLen; omega) (by have := hrd.out.2; omega) ?_; intro v6 w6 hown6 hgrow6 hat6
               obtain ⟨A6, c6, rfl, ho6⟩ := own_of_copy2 (w := w5) hrd.out.2.1 hown6 (hat_ge hat6 (by simp))
               have hgr6 : (w5.alloc (.cells #[] 3)).grownBy w6 (some w5.heap.size) := hgrow6
               have hk6 := (hk5.out.next ((Below.refl _ _).alloc (Nat.le_refl _) (.cells #[] 3))).grown hgr6 (by omega) (by omega) (by simp; omega) (by omega)
               have hS6 := sx_grown hgr6 (by omega) (by omega) (sx_al hS5)
               clear d0 d1 d2 f0 f1 f2
               obtain ⟨d0, d1, d2, _⟩ := (hk6.kn.sub (L' := [(w.heap.size, 0, .string { data := #[] }), (w.heap.size, 1, .int .i64 0), (w.heap.size, 2, .slice none 0 0)]) (by simp)).all
               obtain ⟨f0, f1, f2, _⟩ := (hk6.kn.sub (L' := [(w.heap.size, 0, .string { data := #[] }), (w.heap.size, 1, .int .i64 0), (w.heap.size, 2, .slice none 0 0)]) (by simp)).fall
               have HK6 := Lib.hid hk6
               have HO6 := Lib.hid ho6
               clear hown6 hgrow6 hgr6 hat6 ho6 hk6)
            | fail)
      all_goals (
        go_wp2_with fail
        exact bodyPost_ret (v := .tuple #[.agg #[.string nm, .int .i64 ar, .slice (some ⟨g, 0, none⟩) R.length c], .slice A6 (f k).2.1 c6]) (by simp [results, Tryz.results34, go_sem, *]) rfl (drTL_of HK6.out.kn HS.out HK6.out.own HK6.out.hhi (by omega) HO6.out hrd.out.2.1 hrd.out.2.2 (by omega) (Nat.le_refl _) _ _ _))
    | false =>
      have hkB := HK.out.next (Below.refl _ w4).drew
      have hsm2 := HS.out.2.1
      have K : Hid (∀ W, Kr w q [(w.heap.size, 0, .string { data := #[] }), (w.heap.size, 1, .int .i64 0), (w.heap.size, 2, .slice none 0 0), (xb, 0, .string nm), (xb, 1, .int .i64 ar), (xb, 2, .slice A R.length c)] lo xb (.slice A R.length c) R W →
          Calls Tryz.prog 50 #[.pointer (some ⟨q, 0, none⟩), .int .i64 (max 0 (min 3 ar))] W fun e w' => ∃ (n5 : Nat) (A5 : Option Addr) (c5 : Nat) (z5 : List Int), e = .returned (.slice A5 n5 c5) ∧ Hid (n5 ≤ 4 ∧ z5.length = n5 ∧ OwnI w' W.heap.size w'.heap.size (.slice A5 n5 c5) z5) ∧
            Hid (Kr w q [(w.heap.size, 0, .string { data := #[] }), (w.heap.size, 1, .int .i64 0), (w.heap.size, 2, .slice none 0 0), (xb, 0, .string nm), (xb, 1, .int .i64 ar), (xb, 2, .slice A R.length c)] lo xb (.slice A R.length c) R w')) := fun W h =>
          (l4Some_at q _ W h.cur ⟨by omega, by omega⟩).mono fun e w' ⟨n5, A5, c5, z5, he, h1, h2, _, h3, hc, hg⟩ => ⟨n5, A5, c5, z5, he, ⟨h1, h2, h3⟩, h.draw hc hg⟩
      go_upto_region 5 with fail
      go_region_law (first
            | (go_simp; go_at_call 50; (with_reducible refine (K.out _ hkB).mono ?_); rintro e w5 ⟨n5, A5, c5, z5, rfl, hz5, hk5⟩
               clear d0 d1 d2 d3 d4 d5 f0 f1 f2 f3 f4 f5
               obtain ⟨d0, d1, d2, d3, d4, d5, _⟩ := hk5.out.kn.all
               obtain ⟨f0, f1, f2, f3, f4, f5, _⟩ := hk5.out.kn.fall
               dsimp only)
            | fail)
      all_goals (
        go_wp2_with fail
        exact bodyPost_ret (v := .tuple #[.agg #[.string nm, .int .i64 ar, .slice A R.length c], .slice A5 n5 c5]) (by simp [results, Tryz.results34, go_sem, *]) rfl (drTL_of hk5.out.kn HS.out hk5.out.own hk5.out.hhi (by omega) hz5.out.2.2 hz5.out.2.1 (by have := hz5.out.1; omega) (by show _ < w4.heap.size; omega) (Nat.le_refl _) _ _ _))
end Go.Proofs.YtmojjbhjjhdpaaaGreatDoor
