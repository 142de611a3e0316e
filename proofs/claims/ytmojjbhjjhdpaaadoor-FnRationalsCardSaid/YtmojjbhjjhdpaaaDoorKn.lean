/- Cells that are known, kept by all that leaves the elder heap alone. Of no program. -/
import Derived.Test.YtmojjbhjjhdpaaaDoorTab
namespace Go.Proofs.YtmojjbhjjhdpaaaDoor
open Go.RowKit Go.Deep

/-- The cells L (block, place, value) are known in W; all that lay in w lies. -/
structure Kn (w : World) (L : List (Nat × Nat × Value)) (W : World) : Prop where
  bel : Below w.heap.size w W
  cell : ∀ t ∈ L, t.1 < W.heap.size ∧ W.cell? ⟨t.1, t.2.1, none⟩ = some t.2.2
  frz : ∀ t ∈ L, W.frozen? ⟨t.1, t.2.1, none⟩ = false
theorem Kn.start (w : World) : Kn w [] w := ⟨Below.refl _ _, by simp, by simp⟩
theorem Kn.next {w W W' : World} {L : List (Nat × Nat × Value)} (h : Kn w L W) (b : Below W.heap.size W W') : Kn w L W' :=
  ⟨h.bel.trans (b.mono h.bel.size), fun t ht => ⟨Nat.lt_of_lt_of_le (h.cell t ht).1 b.size, (b.cell (p := ⟨t.1, t.2.1, none⟩) (h.cell t ht).1).trans (h.cell t ht).2⟩, fun t ht => (b.frozen (p := ⟨t.1, t.2.1, none⟩) (h.cell t ht).1).trans (h.frz t ht)⟩
theorem Kn.drew {w W : World} {L : List (Nat × Nat × Value)} (h : Kn w L W) : Kn w L W.drew := h.next (Below.refl _ _).drew
theorem Kn.qt {w W W' : World} {L : List (Nat × Nat × Value)} (h : Kn w L W) (q : Qt W W') : Kn w L W' := h.next (q.below _)
theorem Kn.chg {w W W' : World} {L : List (Nat × Nat × Value)} {lo hi : Nat} (h : Kn w L W) (c : Chg lo hi W W') (hlo : w.heap.size ≤ lo) (hd : ∀ t ∈ L, t.1 < lo ∨ hi ≤ t.1) : Kn w L W' :=
  ⟨h.bel.trans (c.below hlo h.bel.size), fun t ht => ⟨Nat.lt_of_lt_of_le (h.cell t ht).1 c.size, (World.cell?_of_block (c.block t.1 (h.cell t ht).1 (hd t ht))).trans (h.cell t ht).2⟩, fun t ht => (World.frozen?_of_block (c.block t.1 (h.cell t ht).1 (hd t ht))).trans (h.frz t ht)⟩
/-- A new block, its first cells known. -/
theorem Kn.box {w W : World} {L : List (Nat × Nat × Value)} (h : Kn w L W) (cs : List Value) (t : TypeId) : Kn w (L ++ cs.zipIdx.map fun x => (W.heap.size, x.2, x.1)) (W.alloc (.cells cs.toArray t)) := by
  have h1 := h.next ((Below.refl _ _).alloc (Nat.le_refl _) (.cells cs.toArray t))
  refine ⟨h1.bel, fun x hx => ?_, fun x hx => ?_⟩
  · rcases List.mem_append.1 hx with hx | hx
    · exact h1.cell x hx
    · obtain ⟨y, hy, rfl⟩ := List.mem_map.1 hx
      refine ⟨by simp, ?_⟩
      have hy' := List.mem_zipIdx' hy
      rw [cell_of_row (W.alloc (.cells cs.toArray t)) W.heap.size y.2 cs.toArray t (0, 0) (heap_alloc_new W _)]
      simp [hy'.1, hy'.2]
  · rcases List.mem_append.1 hx with hx | hx
    · exact h1.frz x hx
    · obtain ⟨y, hy, rfl⟩ := List.mem_map.1 hx
      have hn := heap_alloc_new W (.cells cs.toArray t)
      unfold World.frozen?
      rw [hn]
      simp
theorem Kn.box3 {w W : World} {L : List (Nat × Nat × Value)} (h : Kn w L W) (x y z : Value) (t : TypeId) : Kn w (L ++ [(W.heap.size, 0, x), (W.heap.size, 1, y), (W.heap.size, 2, z)]) (W.alloc (.cells #[x, y, z] t)) := h.box [x, y, z] t
theorem Kn.box1 {w W : World} {L : List (Nat × Nat × Value)} (h : Kn w L W) (x : Value) (t : TypeId) : Kn w (L ++ [(W.heap.size, 0, x)]) (W.alloc (.cells #[x] t)) := h.box [x] t
/-- The cells, one by one. -/
@[reducible] def KAll (W : World) : List (Nat × Nat × Value) → Prop → Prop
  | [], P => P
  | t :: L, P => W.cell? ⟨t.1, t.2.1, none⟩ = some t.2.2 ∧ KAll W L P
theorem kall_of {W : World} {P : Prop} (hP : P) : ∀ {L : List (Nat × Nat × Value)}, (∀ t ∈ L, W.cell? ⟨t.1, t.2.1, none⟩ = some t.2.2) → KAll W L P
  | [], _ => hP
  | _ :: _, h => ⟨h _ (by simp), kall_of hP fun s hs => h s (by simp [hs])⟩
theorem Kn.all {w W : World} {L : List (Nat × Nat × Value)} (h : Kn w L W) : KAll W L True := kall_of trivial fun t ht => (h.cell t ht).2
theorem Kn.allAnd {w W : World} {L : List (Nat × Nat × Value)} {P : Prop} (h : Kn w L W) (hP : P) : KAll W L P := kall_of hP fun t ht => (h.cell t ht).2
/-- The marks, one by one. -/
@[reducible] def FAll (W : World) : List (Nat × Nat × Value) → Prop
  | [] => True
  | t :: L => W.frozen? ⟨t.1, t.2.1, none⟩ = false ∧ FAll W L
theorem fall_of {W : World} : ∀ {L : List (Nat × Nat × Value)}, (∀ t ∈ L, W.frozen? ⟨t.1, t.2.1, none⟩ = false) → FAll W L
  | [], _ => trivial
  | _ :: _, h => ⟨h _ (by simp), fall_of fun s hs => h s (by simp [hs])⟩
theorem Kn.fall {w W : World} {L : List (Nat × Nat × Value)} (h : Kn w L W) : FAll W L := fall_of h.frz
/-- Less is known. -/
theorem Kn.sub {w W : World} {L L' : List (Nat × Nat × Value)} (h : Kn w L W) (hs : ∀ t ∈ L', t ∈ L) : Kn w L' W := ⟨h.bel, fun t ht => h.cell t (hs t ht), fun t ht => h.frz t (hs t ht)⟩
theorem rdR_next {W w1 : World} {A : Option Addr} {n : Nat} {rs : List (List Int)} (b : Below W.heap.size W w1) (h : RdR W W.heap.size A n rs) : RdR w1 w1.heap.size A n rs := (RdR.belowB h b (Nat.le_refl _)).more b.size
theorem rdR_drew {W : World} {A : Option Addr} {n : Nat} {rs : List (List Int)} (h : RdR W W.heap.size A n rs) : RdR W.drew W.drew.heap.size A n rs := h
theorem Kn.allB {w wj W : World} {L : List (Nat × Nat × Value)} (h : Kn w L wj) (b : Below wj.heap.size wj W) : KAll W L (Below wj.heap.size wj W) := (h.next b).allAnd b
theorem bel_step {wj W w1 : World} (h : Below wj.heap.size wj W) (b1 : Below W.heap.size W w1) : Below wj.heap.size wj w1 := h.trans (b1.mono h.size)
theorem Kn.step {w W w1 : World} {L : List (Nat × Nat × Value)} (b : Below W.heap.size W w1) (h : Kn w L W) : Kn w L w1 := h.next b
end Go.Proofs.YtmojjbhjjhdpaaaDoor
