/- What the law on updates draws: l6Up. What is drawn is not said, but for its bounds. No condition. -/
import Derived.Test.YtccnhocekgikiaaGreatDrU1
import Derived.Deep.RegionHeld3
import Derived.Deep.DeepCutAuto
namespace Go.Proofs.YtccnhocekgikiaaGreat
open Go.RowKit Go.Deep

theorem su_keep {W W' : World} {xb g o n : Nat} {a : Value} {f : Nat → ByteArray × Int × Option Addr × Nat × Nat} (hs : W.heap.size ≤ W'.heap.size) (h1 : W'.heap[xb]? = W.heap[xb]?) (h2 : W'.heap[g]? = W.heap[g]?) (h : (W.cell? ⟨xb, 0, none⟩ = some a ∧ (∀ k, k < n → W.cell? ⟨g, o + k * 3, none⟩ = some (.string (f k).1)) ∧ (∀ k, k < n → W.cell? ⟨g, o + k * 3 + 1, none⟩ = some (.int .i64 (f k).2.1)) ∧ (∀ k, k < n → W.cell? ⟨g, o + k * 3 + 2, none⟩ = some (.slice (f k).2.2.1 (f k).2.2.2.1 (f k).2.2.2.2)) ∧ xb < W.heap.size ∧ g < W.heap.size)) : (W'.cell? ⟨xb, 0, none⟩ = some a ∧ (∀ k, k < n → W'.cell? ⟨g, o + k * 3, none⟩ = some (.string (f k).1)) ∧ (∀ k, k < n → W'.cell? ⟨g, o + k * 3 + 1, none⟩ = some (.int .i64 (f k).2.1)) ∧ (∀ k, k < n → W'.cell? ⟨g, o + k * 3 + 2, none⟩ = some (.slice (f k).2.2.1 (f k).2.2.2.1 (f k).2.2.2.2)) ∧ xb < W'.heap.size ∧ g < W'.heap.size) :=
  ⟨(World.cell?_of_block h1).trans h.1, fun k hk => (World.cell?_of_block h2).trans (h.2.1 k hk), fun k hk => (World.cell?_of_block h2).trans (h.2.2.1 k hk), fun k hk => (World.cell?_of_block h2).trans (h.2.2.2.1 k hk), Nat.lt_of_lt_of_le h.2.2.2.2.1 hs, Nat.lt_of_lt_of_le h.2.2.2.2.2 hs⟩
theorem su_chg {W W' : World} {xb g o n : Nat} {a : Value} {f : Nat → ByteArray × Int × Option Addr × Nat × Nat} {q : Nat} (B : Chg q (q + 1) W W') (hx : q < xb) (hg : q < g) (h : (W.cell? ⟨xb, 0, none⟩ = some a ∧ (∀ k, k < n → W.cell? ⟨g, o + k * 3, none⟩ = some (.string (f k).1)) ∧ (∀ k, k < n → W.cell? ⟨g, o + k * 3 + 1, none⟩ = some (.int .i64 (f k).2.1)) ∧ (∀ k, k < n → W.cell? ⟨g, o + k * 3 + 2, none⟩ = some (.slice (f k).2.2.1 (f k).2.2.2.1 (f k).2.2.2.2)) ∧ xb < W.heap.size ∧ g < W.heap.size)) : (W'.cell? ⟨xb, 0, none⟩ = some a ∧ (∀ k, k < n → W'.cell? ⟨g, o + k * 3, none⟩ = some (.string (f k).1)) ∧ (∀ k, k < n → W'.cell? ⟨g, o + k * 3 + 1, none⟩ = some (.int .i64 (f k).2.1)) ∧ (∀ k, k < n → W'.cell? ⟨g, o + k * 3 + 2, none⟩ = some (.slice (f k).2.2.1 (f k).2.2.2.1 (f k).2.2.2.2)) ∧ xb < W'.heap.size ∧ g < W'.heap.size) := su_keep B.size (B.block xb h.2.2.2.2.1 (.inr hx)) (B.block g h.2.2.2.2.2 (.inr hg)) h
theorem su_al {W : World} {xb g o n : Nat} {a : Value} {f : Nat → ByteArray × Int × Option Addr × Nat × Nat} {ob : Obj} (h : (W.cell? ⟨xb, 0, none⟩ = some a ∧ (∀ k, k < n → W.cell? ⟨g, o + k * 3, none⟩ = some (.string (f k).1)) ∧ (∀ k, k < n → W.cell? ⟨g, o + k * 3 + 1, none⟩ = some (.int .i64 (f k).2.1)) ∧ (∀ k, k < n → W.cell? ⟨g, o + k * 3 + 2, none⟩ = some (.slice (f k).2.2.1 (f k).2.2.2.1 (f k).2.2.2.2)) ∧ xb < W.heap.size ∧ g < W.heap.size)) : ((W.alloc ob).cell? ⟨xb, 0, none⟩ = some a ∧ (∀ k, k < n → (W.alloc ob).cell? ⟨g, o + k * 3, none⟩ = some (.string (f k).1)) ∧ (∀ k, k < n → (W.alloc ob).cell? ⟨g, o + k * 3 + 1, none⟩ = some (.int .i64 (f k).2.1)) ∧ (∀ k, k < n → (W.alloc ob).cell? ⟨g, o + k * 3 + 2, none⟩ = some (.slice (f k).2.2.1 (f k).2.2.2.1 (f k).2.2.2.2)) ∧ xb < (W.alloc ob).heap.size ∧ g < (W.alloc ob).heap.size) := su_keep (by simp) (heap_alloc_old W ob h.2.2.2.2.1) (heap_alloc_old W ob h.2.2.2.2.2) h
theorem su_ald {W : World} {xb g o n : Nat} {a : Value} {f : Nat → ByteArray × Int × Option Addr × Nat × Nat} {ob : Obj} (h : (W.cell? ⟨xb, 0, none⟩ = some a ∧ (∀ k, k < n → W.cell? ⟨g, o + k * 3, none⟩ = some (.string (f k).1)) ∧ (∀ k, k < n → W.cell? ⟨g, o + k * 3 + 1, none⟩ = some (.int .i64 (f k).2.1)) ∧ (∀ k, k < n → W.cell? ⟨g, o + k * 3 + 2, none⟩ = some (.slice (f k).2.2.1 (f k).2.2.2.1 (f k).2.2.2.2)) ∧ xb < W.heap.size ∧ g < W.heap.size)) : ((W.alloc ob).drew.cell? ⟨xb, 0, none⟩ = some a ∧ (∀ k, k < n → (W.alloc ob).drew.cell? ⟨g, o + k * 3, none⟩ = some (.string (f k).1)) ∧ (∀ k, k < n → (W.alloc ob).drew.cell? ⟨g, o + k * 3 + 1, none⟩ = some (.int .i64 (f k).2.1)) ∧ (∀ k, k < n → (W.alloc ob).drew.cell? ⟨g, o + k * 3 + 2, none⟩ = some (.slice (f k).2.2.1 (f k).2.2.2.1 (f k).2.2.2.2)) ∧ xb < (W.alloc ob).drew.heap.size ∧ g < (W.alloc ob).drew.heap.size) := su_al h
theorem su_set {W : World} {xb g o n : Nat} {a : Value} {f : Nat → ByteArray × Int × Option Addr × Nat × Nat} {b : Nat} {x y z : Value} (h1 : b ≠ xb) (h2 : b ≠ g) (h : (W.cell? ⟨xb, 0, none⟩ = some a ∧ (∀ k, k < n → W.cell? ⟨g, o + k * 3, none⟩ = some (.string (f k).1)) ∧ (∀ k, k < n → W.cell? ⟨g, o + k * 3 + 1, none⟩ = some (.int .i64 (f k).2.1)) ∧ (∀ k, k < n → W.cell? ⟨g, o + k * 3 + 2, none⟩ = some (.slice (f k).2.2.1 (f k).2.2.2.1 (f k).2.2.2.2)) ∧ xb < W.heap.size ∧ g < W.heap.size)) : ((((W.setCell ⟨b, 0, none⟩ x).setCell ⟨b, 1, none⟩ y).setCell ⟨b, 2, none⟩ z).cell? ⟨xb, 0, none⟩ = some a ∧ (∀ k, k < n → (((W.setCell ⟨b, 0, none⟩ x).setCell ⟨b, 1, none⟩ y).setCell ⟨b, 2, none⟩ z).cell? ⟨g, o + k * 3, none⟩ = some (.string (f k).1)) ∧ (∀ k, k < n → (((W.setCell ⟨b, 0, none⟩ x).setCell ⟨b, 1, none⟩ y).setCell ⟨b, 2, none⟩ z).cell? ⟨g, o + k * 3 + 1, none⟩ = some (.int .i64 (f k).2.1)) ∧ (∀ k, k < n → (((W.setCell ⟨b, 0, none⟩ x).setCell ⟨b, 1, none⟩ y).setCell ⟨b, 2, none⟩ z).cell? ⟨g, o + k * 3 + 2, none⟩ = some (.slice (f k).2.2.1 (f k).2.2.2.1 (f k).2.2.2.2)) ∧ xb < (((W.setCell ⟨b, 0, none⟩ x).setCell ⟨b, 1, none⟩ y).setCell ⟨b, 2, none⟩ z).heap.size ∧ g < (((W.setCell ⟨b, 0, none⟩ x).setCell ⟨b, 1, none⟩ y).setCell ⟨b, 2, none⟩ z).heap.size) := by
  have k : ∀ (W0 : World) (i j : Nat) (u : Value), j ≠ b → (W0.setCell ⟨b, i, none⟩ u).heap[j]? = W0.heap[j]? := fun W0 i j u hj => Below.heap_setCell _ _ _ j (by show ¬ j = b; exact hj)
  exact su_keep (by simp [World.setCell]) (((k _ _ _ _ h1.symm).trans (k _ _ _ _ h1.symm)).trans (k _ _ _ _ h1.symm)) (((k _ _ _ _ h2.symm).trans (k _ _ _ _ h2.symm)).trans (k _ _ _ _ h2.symm)) h
/-- W holds what w0 holds, from block lo on. -/
structure Ag (lo : Nat) (w0 W : World) : Prop where
  size : w0.heap.size ≤ W.heap.size
  block : ∀ j, lo ≤ j → j < w0.heap.size → W.heap[j]? = w0.heap[j]?
theorem Ag.refl (lo : Nat) (w0 : World) : Ag lo w0 w0 := ⟨Nat.le_refl _, fun _ _ _ => rfl⟩
theorem Ag.draw {lo q : Nat} {w0 W W' : World} (h : Ag lo w0 W) (hg : Chg q (q + 1) W W') (hq : q < lo) : Ag lo w0 W' := ⟨Nat.le_trans h.size hg.size, fun j h1 h2 => (hg.block j (Nat.lt_of_lt_of_le h2 h.size) (.inr (by omega))).trans (h.block j h1 h2)⟩
theorem Ag.next {lo : Nat} {w0 W W' : World} (h : Ag lo w0 W) (b : Below W.heap.size W W') : Ag lo w0 W' := ⟨Nat.le_trans h.size b.size, fun j h1 h2 => (b.block j (Nat.lt_of_lt_of_le h2 h.size)).trans (h.block j h1 h2)⟩
theorem Ag.setOff {lo b i : Nat} {w0 W : World} {x : Value} (h : Ag lo w0 W) (hb : w0.heap.size ≤ b) : Ag lo w0 (W.setCell ⟨b, i, none⟩ x) := ⟨by simpa [World.setCell] using h.size, fun j h1 h2 => (Below.heap_setCell _ _ _ j (by show ¬ j = b; omega)).trans (h.block j h1 h2)⟩
theorem Ag.rows {lo n : Nat} {w0 W : World} {A : Option Addr} {rs : List (List Int)} (h : Ag lo w0 W) (hr : RdRw lo w0 A n rs) : RdR W W.heap.size A n rs := hr W h.size h.block
/-- A box of three cells is filled anew. -/
theorem Dn.refill {q b : Nat} {w W : World} {L : List (Nat × Nat × Value)} {x0 x1 x2 y0 y1 y2 : Value} (h : Dn q w (L ++ [(b, 0, x0), (b, 1, x1), (b, 2, x2)]) W) (hL : ∀ t ∈ L, t.1 ≠ b) :
    Dn q w (L ++ [(b, 0, y0), (b, 1, y1), (b, 2, y2)]) (((W.setCell ⟨b, 0, none⟩ y0).setCell ⟨b, 1, none⟩ y1).setCell ⟨b, 2, none⟩ y2) := by
  have hb := (h.cell (b, 0, x0) (by simp)).1
  have h0 := ((((h.sub (L' := L) fun t ht => List.mem_append.2 (.inl ht)).setOff (i := 0) (x := y0) hb hL).setOff (i := 1) (x := y1) hb hL).setOff (i := 2) (x := y2) hb hL)
  have c0 := h.cell (b, 0, x0) (by simp)
  have c1 := h.cell (b, 1, x1) (by simp)
  have c2 := h.cell (b, 2, x2) (by simp)
  have e0 := h.frz (b, 0, x0) (by simp)
  have e1 := h.frz (b, 1, x1) (by simp)
  have e2 := h.frz (b, 2, x2) (by simp)
  have hs : (((W.setCell ⟨b, 0, none⟩ y0).setCell ⟨b, 1, none⟩ y1).setCell ⟨b, 2, none⟩ y2).heap.size = W.heap.size := by simp [World.setCell]
  refine ⟨h0.hq, h0.cur, h0.chg, fun t ht => ?_, fun t ht => ?_⟩
  · rcases List.mem_append.1 ht with ht | ht
    · exact h0.cell t ht
    · simp at ht
      rcases ht with rfl | rfl | rfl
      · exact ⟨hb, by rw [hs]; exact c0.2.1, (cell_set_other (by simp)).trans ((cell_set_other (by simp)).trans (cell_set_same c0.2.2))⟩
      · exact ⟨hb, by rw [hs]; exact c0.2.1, (cell_set_other (by simp)).trans (cell_set_same ((cell_set_other (by simp)).trans c1.2.2))⟩
      · exact ⟨hb, by rw [hs]; exact c0.2.1, cell_set_same ((cell_set_other (by simp)).trans ((cell_set_other (by simp)).trans c2.2.2))⟩
  · rcases List.mem_append.1 ht with ht | ht
    · exact h0.frz t ht
    · simp at ht
      rcases ht with rfl | rfl | rfl
      · exact frozen_set.trans (frozen_set.trans (frozen_set.trans e0))
      · exact frozen_set.trans (frozen_set.trans (frozen_set.trans e1))
      · exact frozen_set.trans (frozen_set.trans (frozen_set.trans e2))
theorem Dn.setOf3 {q b i : Nat} {w W : World} {L : List (Nat × Nat × Value)} {x0 x1 x2 y : Value} (h : Dn q w (L ++ [(b, 0, x0), (b, 1, x1), (b, 2, x2)]) W) (hL : ∀ t ∈ L, t.1 ≠ b) (hi : i < 3) :
    Dn q w (L ++ [(b, 0, if i = 0 then y else x0), (b, 1, if i = 1 then y else x1), (b, 2, if i = 2 then y else x2)]) (W.setCell ⟨b, i, none⟩ y) := by
  have c0 := h.cell (b, 0, x0) (by simp)
  have c1 := h.cell (b, 1, x1) (by simp)
  have c2 := h.cell (b, 2, x2) (by simp)
  have e0 := h.frz (b, 0, x0) (by simp)
  have e1 := h.frz (b, 1, x1) (by simp)
  have e2 := h.frz (b, 2, x2) (by simp)
  have h0 := (h.sub (L' := L) fun t ht => List.mem_append.2 (.inl ht)).setOff (i := i) (x := y) c0.1 hL
  have hs : (W.setCell ⟨b, i, none⟩ y).heap.size = W.heap.size := by simp [World.setCell]
  have key : ∀ (j : Nat) (x : Value), W.cell? ⟨b, j, none⟩ = some x → (W.setCell ⟨b, i, none⟩ y).cell? ⟨b, j, none⟩ = some (if i = j then y else x) := fun j x hx => by
    by_cases hij : i = j
    · subst hij
      rw [if_pos rfl]
      exact cell_set_same hx
    · rw [if_neg hij]
      exact (cell_set_other (by omega)).trans hx
  refine ⟨h0.hq, h0.cur, h0.chg, fun t ht => ?_, fun t ht => ?_⟩
  · rcases List.mem_append.1 ht with ht | ht
    · exact h0.cell t ht
    · simp only [List.mem_cons, List.not_mem_nil, or_false] at ht
      rcases ht with rfl | rfl | rfl
      · exact ⟨c0.1, by rw [hs]; exact c0.2.1, key 0 x0 c0.2.2⟩
      · exact ⟨c0.1, by rw [hs]; exact c0.2.1, key 1 x1 c1.2.2⟩
      · exact ⟨c0.1, by rw [hs]; exact c0.2.1, key 2 x2 c2.2.2⟩
  · rcases List.mem_append.1 ht with ht | ht
    · exact h0.frz t ht
    · simp only [List.mem_cons, List.not_mem_nil, or_false] at ht
      rcases ht with rfl | rfl | rfl
      · exact frozen_set.trans e0
      · exact frozen_set.trans e1
      · exact frozen_set.trans e2
theorem l4Some_at2 (q : Nat) (n : Int) (w : World) (hc : Cur w q) (hn : 0 ≤ n ∧ n ≤ 3) : Calls Tryz.prog 72 #[.pointer (some ⟨q, 0, none⟩), .int .i64 n] w (DrL 4 q w) := by
  obtain ⟨m, rfl⟩ := Int.eq_ofNat_of_zero_le hn.1
  exact (l4Some_any q m w hc (by omega)).mono fun e w' ⟨n', A, c, zs, h1, h2, h3⟩ => ⟨n', A, c, zs, h1, by omega, h3⟩
theorem sr_keep {W W' : World} {bt g o m : Nat} {a : Value} {f : Nat → Option Addr × Nat × Nat} (hs : W.heap.size ≤ W'.heap.size) (h1 : W'.heap[bt]? = W.heap[bt]?) (h2 : W'.heap[g]? = W.heap[g]?) (h : (W.cell? ⟨bt, 2, none⟩ = some a ∧ (∀ k, k < m → W.cell? ⟨g, o + k, none⟩ = some (.slice (f k).1 (f k).2.1 (f k).2.2)) ∧ bt < W.heap.size ∧ g < W.heap.size)) : (W'.cell? ⟨bt, 2, none⟩ = some a ∧ (∀ k, k < m → W'.cell? ⟨g, o + k, none⟩ = some (.slice (f k).1 (f k).2.1 (f k).2.2)) ∧ bt < W'.heap.size ∧ g < W'.heap.size) :=
  ⟨(World.cell?_of_block h1).trans h.1, fun k hk => (World.cell?_of_block h2).trans (h.2.1 k hk), Nat.lt_of_lt_of_le h.2.2.1 hs, Nat.lt_of_lt_of_le h.2.2.2 hs⟩
theorem sr_chg {W W' : World} {bt g o m : Nat} {a : Value} {f : Nat → Option Addr × Nat × Nat} {q : Nat} (B : Chg q (q + 1) W W') (hx : q < bt) (hg : q < g) (h : (W.cell? ⟨bt, 2, none⟩ = some a ∧ (∀ k, k < m → W.cell? ⟨g, o + k, none⟩ = some (.slice (f k).1 (f k).2.1 (f k).2.2)) ∧ bt < W.heap.size ∧ g < W.heap.size)) : (W'.cell? ⟨bt, 2, none⟩ = some a ∧ (∀ k, k < m → W'.cell? ⟨g, o + k, none⟩ = some (.slice (f k).1 (f k).2.1 (f k).2.2)) ∧ bt < W'.heap.size ∧ g < W'.heap.size) := sr_keep B.size (B.block bt h.2.2.1 (.inr hx)) (B.block g h.2.2.2 (.inr hg)) h
theorem sr_al {W : World} {bt g o m : Nat} {a : Value} {f : Nat → Option Addr × Nat × Nat} {ob : Obj} (h : (W.cell? ⟨bt, 2, none⟩ = some a ∧ (∀ k, k < m → W.cell? ⟨g, o + k, none⟩ = some (.slice (f k).1 (f k).2.1 (f k).2.2)) ∧ bt < W.heap.size ∧ g < W.heap.size)) : ((W.alloc ob).cell? ⟨bt, 2, none⟩ = some a ∧ (∀ k, k < m → (W.alloc ob).cell? ⟨g, o + k, none⟩ = some (.slice (f k).1 (f k).2.1 (f k).2.2)) ∧ bt < (W.alloc ob).heap.size ∧ g < (W.alloc ob).heap.size) := sr_keep (by simp) (heap_alloc_old W ob h.2.2.1) (heap_alloc_old W ob h.2.2.2) h
theorem sr_ald {W : World} {bt g o m : Nat} {a : Value} {f : Nat → Option Addr × Nat × Nat} {ob : Obj} (h : (W.cell? ⟨bt, 2, none⟩ = some a ∧ (∀ k, k < m → W.cell? ⟨g, o + k, none⟩ = some (.slice (f k).1 (f k).2.1 (f k).2.2)) ∧ bt < W.heap.size ∧ g < W.heap.size)) : ((W.alloc ob).drew.cell? ⟨bt, 2, none⟩ = some a ∧ (∀ k, k < m → (W.alloc ob).drew.cell? ⟨g, o + k, none⟩ = some (.slice (f k).1 (f k).2.1 (f k).2.2)) ∧ bt < (W.alloc ob).drew.heap.size ∧ g < (W.alloc ob).drew.heap.size) := sr_al h
theorem sr_low {W W' : World} {bt g o m : Nat} {a : Value} {f : Nat → Option Addr × Nat × Nat} {B : Nat} (hB : Below B W W') (h1 : bt < B) (h2 : g < B) (h : (W.cell? ⟨bt, 2, none⟩ = some a ∧ (∀ k, k < m → W.cell? ⟨g, o + k, none⟩ = some (.slice (f k).1 (f k).2.1 (f k).2.2)) ∧ bt < W.heap.size ∧ g < W.heap.size)) : (W'.cell? ⟨bt, 2, none⟩ = some a ∧ (∀ k, k < m → W'.cell? ⟨g, o + k, none⟩ = some (.slice (f k).1 (f k).2.1 (f k).2.2)) ∧ bt < W'.heap.size ∧ g < W'.heap.size) := sr_keep hB.size (hB.block bt h1) (hB.block g h2) h
theorem sr_set {W : World} {bt g o m : Nat} {a : Value} {f : Nat → Option Addr × Nat × Nat} {b i : Nat} {x : Value} (h1 : b ≠ bt) (h2 : b ≠ g) (h : (W.cell? ⟨bt, 2, none⟩ = some a ∧ (∀ k, k < m → W.cell? ⟨g, o + k, none⟩ = some (.slice (f k).1 (f k).2.1 (f k).2.2)) ∧ bt < W.heap.size ∧ g < W.heap.size)) : ((W.setCell ⟨b, i, none⟩ x).cell? ⟨bt, 2, none⟩ = some a ∧ (∀ k, k < m → (W.setCell ⟨b, i, none⟩ x).cell? ⟨g, o + k, none⟩ = some (.slice (f k).1 (f k).2.1 (f k).2.2)) ∧ bt < (W.setCell ⟨b, i, none⟩ x).heap.size ∧ g < (W.setCell ⟨b, i, none⟩ x).heap.size) :=
  sr_keep (by simp [World.setCell]) (Below.heap_setCell _ _ _ bt (by show ¬ bt = b; omega)) (Below.heap_setCell _ _ _ g (by show ¬ g = b; omega)) h
theorem Dn.setOff0 {q b i : Nat} {w W : World} {L : List (Nat × Nat × Value)} {x : Value} (h : Dn q w L W) (hb : w.heap.size ≤ b) : Dn q w [] (W.setCell ⟨b, i, none⟩ x) := (h.sub (L' := []) (by simp)).setOff hb (by simp)
theorem ownI_set {W : World} {lo2 hi2 b i : Nat} {v x : Value} {zs : List Int} (h : OwnI W lo2 hi2 v zs) (hb : b < lo2) : OwnI (W.setCell ⟨b, i, none⟩ x) lo2 hi2 v zs :=
  ⟨own_keep h.1 fun g hg => Below.heap_setCell _ _ _ g (by have := (h.1.lt g hg).1; show ¬ g = b; omega), h.2⟩
theorem Ag.low {lo B : Nat} {w0 W W' : World} (h : Ag lo w0 W) (hB : Below B W W') (hb : w0.heap.size ≤ B) : Ag lo w0 W' := ⟨Nat.le_trans h.size hB.size, fun j h1 h2 => (hB.block j (by omega)).trans (h.block j h1 h2)⟩
theorem own_of_copy3 {w w' : World} {zs : List Int} {v : Value} {m : Nat} (hm : zs.length = m) (h : w'.ownsRow 0 3 1 v (0 + m) (([] : List Value) ++ zs.map iv)) (hb : ∀ g, v.ownBlock = some g → w.heap.size ≤ g) : ∃ A c, v = .slice A m c ∧ OwnI w' w.heap.size w'.heap.size (.slice A m c) zs := by
  subst hm
  exact own_of_copy h hb
/-- The short answer: a row of constants. -/
theorem drU_al {q rb : Nat} {w W : World} {L : List (Nat × Nat × Value)} {nm : ByteArray} {ins : Bool} (l : List Int) (dn : Dn q w L W) (hnm : nm.size ≤ 2000) (hl : l.length ≤ 2000) (hrb : w.heap.size ≤ rb) (hrl : rb < W.heap.size) (x y z : Value) :
    DrU q w (.returned (.agg #[.string nm, .bool ins, .slice (some ⟨W.heap.size, 0, none⟩) l.length l.length])) ((((W.setCell ⟨rb, 0, none⟩ x).setCell ⟨rb, 1, none⟩ y).setCell ⟨rb, 2, none⟩ z).alloc (.cells (l.map iv).toArray 3)) := by
  have hsz : (((W.setCell ⟨rb, 0, none⟩ x).setCell ⟨rb, 1, none⟩ y).setCell ⟨rb, 2, none⟩ z).heap.size = W.heap.size := by simp [World.setCell]
  have hq := dn.hq
  have hcs := dn.chg.size
  have hc : Cur (((W.setCell ⟨rb, 0, none⟩ x).setCell ⟨rb, 1, none⟩ y).setCell ⟨rb, 2, none⟩ z) q := ((dn.cur.setOff (by omega)).setOff (by omega)).setOff (by omega)
  have hg : Chg q (q + 1) w (((W.setCell ⟨rb, 0, none⟩ x).setCell ⟨rb, 1, none⟩ y).setCell ⟨rb, 2, none⟩ z) := ((dn.chg.setOff hrb).setOff hrb).setOff hrb
  generalize ((W.setCell ⟨rb, 0, none⟩ x).setCell ⟨rb, 1, none⟩ y).setCell ⟨rb, 2, none⟩ z = W1 at hsz hc hg ⊢
  have hI : IBlk (W1.alloc (.cells (l.map iv).toArray 3)) W1.heap.size l := heap_alloc_new W1 _
  rw [hsz] at hI
  exact ⟨nm, ins, _, _, _, l, rfl, ⟨hnm, hl, rfl⟩, hI.ownI (by omega) (by simp; omega) (by unfold maxLen; omega), hc.al, hg.al⟩
end Go.Proofs.YtccnhocekgikiaaGreat
