/- What the law on tables draws: l1Pick, l4Tab, l4Any. What is drawn is not said, but for its bounds. No condition. -/
import Derived.Test.YtccnhocekgikiaaGreatDrTab
namespace Go.Proofs.YtccnhocekgikiaaGreat
open Go.RowKit Go.Deep

theorem row_strs (w : World) (l : List ByteArray) (t : TypeId) (k : Nat) (hk : k < l.length) : (w.alloc (.cells (l.map Value.string).toArray t)).cell? ⟨w.heap.size, 0 + k, none⟩ = some (.string l[k]) := by
  simp [go_sem, hk]
theorem all_s (l : List ByteArray) (h : (l.all fun s => decide (s.size ≤ 8)) = true) : ∀ s ∈ l, s.size ≤ 8 := fun z hz => of_decide_eq_true (List.all_eq_true.1 h z hz)
/-- A text drawn. -/
def DrS (P : ByteArray → Prop) (q : Nat) (w : World) (e : Ending) (w' : World) : Prop := ∃ s : ByteArray, e = .returned (.string s) ∧ P s ∧ Cur w' q ∧ Chg q (q + 1) w w'

set_option maxRecDepth 100000 in
set_option maxHeartbeats 1000000 in
theorem l1Pick_any (q b o n c : Nat) (P : ByteArray → Prop) (w : World) (hc : Cur w q) (hb : b < w.heap.size) (hbq : b ≠ q) (hn : 0 < n) (hn2 : n ≤ 1048576) (hcell : ∀ k, k < n → ∃ z, w.cell? ⟨b, o + k, none⟩ = some (.string z) ∧ P z) :
    Calls Tryz.prog 69 #[.pointer (some ⟨q, 0, none⟩), .slice (some ⟨b, o, none⟩) n c] w (DrS P q w) := by
  go_enter Tryz.func69, Tryz.ntmps69
  go_wp2_with fail
  refine (l1Below_any q n w hc (by omega)).mono ?_
  rintro e w1 ⟨x, rfl, ⟨hx0, hx1⟩, hc1, hg1⟩
  obtain ⟨k, rfl⟩ := Int.eq_ofNat_of_zero_le hx0
  have hk : k < n := by omega
  have g2 : (k : Int) < (n : Int) := by omega
  have g3 : (k : Int).toNat = k := by omega
  obtain ⟨z, hz, hP⟩ := hcell k hk
  have d0 : w1.cell? ⟨b, o + k, none⟩ = some (.string z) := (World.cell?_of_block (hg1.block b hb (by omega))).trans hz
  go_wp2_with fail
  go_ret
  exact ⟨z, rfl, hP, hc1, hg1⟩

/-- What a drawing function knows: the cursor, and cells of its own. -/
structure Dn (q : Nat) (w : World) (L : List (Nat × Nat × Value)) (W : World) : Prop where
  hq : q < w.heap.size
  cur : Cur W q
  chg : Chg q (q + 1) w W
  cell : ∀ t ∈ L, w.heap.size ≤ t.1 ∧ t.1 < W.heap.size ∧ W.cell? ⟨t.1, t.2.1, none⟩ = some t.2.2
  frz : ∀ t ∈ L, W.frozen? ⟨t.1, t.2.1, none⟩ = false
theorem Dn.start {q : Nat} {w : World} (hc : Cur w q) : Dn q w [] w := ⟨hc.lt, hc, Chg.refl _ _ _, by simp, by simp⟩
theorem Dn.draw {q : Nat} {w W W' : World} {L : List (Nat × Nat × Value)} (h : Dn q w L W) (hc : Cur W' q) (hg : Chg q (q + 1) W W') : Dn q w L W' :=
  ⟨h.hq, hc, h.chg.trans hg, fun t ht => by
    obtain ⟨h1, h2, h3⟩ := h.cell t ht
    exact ⟨h1, Nat.lt_of_lt_of_le h2 hg.size, (World.cell?_of_block (hg.block t.1 h2 (.inr (by have := h.hq; omega)))).trans h3⟩,
   fun t ht => by
    obtain ⟨h1, h2, _⟩ := h.cell t ht
    exact (World.frozen?_of_block (hg.block t.1 h2 (.inr (by have := h.hq; omega)))).trans (h.frz t ht)⟩
theorem Dn.next {q : Nat} {w W W' : World} {L : List (Nat × Nat × Value)} (h : Dn q w L W) (b : Below W.heap.size W W') : Dn q w L W' := h.draw (h.cur.next b) ((Chg.refl _ _ _).after b)
theorem Dn.drew {q : Nat} {w W : World} {L : List (Nat × Nat × Value)} (h : Dn q w L W) : Dn q w L W.drew := h.next (Below.refl _ _).drew
theorem Dn.al {q : Nat} {w W : World} {L : List (Nat × Nat × Value)} (h : Dn q w L W) (o : Obj) : Dn q w L (W.alloc o) := h.next ((Below.refl _ _).alloc (Nat.le_refl _) o)
theorem Dn.box {q : Nat} {w W : World} {L : List (Nat × Nat × Value)} (h : Dn q w L W) (cs : List Value) (t : TypeId) : Dn q w (L ++ cs.zipIdx.map fun x => (W.heap.size, x.2, x.1)) (W.alloc (.cells cs.toArray t)) := by
  have k := (Kn.start W).box cs t
  have h1 := h.al (.cells cs.toArray t)
  refine ⟨h1.hq, h1.cur, h1.chg, fun x hx => ?_, fun x hx => ?_⟩
  · rcases List.mem_append.1 hx with hx | hx
    · exact h1.cell x hx
    · have := k.cell x (by simpa using hx)
      obtain ⟨y, hy, rfl⟩ := List.mem_map.1 hx
      exact ⟨h.chg.size, this⟩
  · rcases List.mem_append.1 hx with hx | hx
    · exact h1.frz x hx
    · exact k.frz x (by simpa using hx)
theorem Dn.sub {q : Nat} {w W : World} {L L' : List (Nat × Nat × Value)} (h : Dn q w L W) (hs : ∀ t ∈ L', t ∈ L) : Dn q w L' W := ⟨h.hq, h.cur, h.chg, fun t ht => h.cell t (hs t ht), fun t ht => h.frz t (hs t ht)⟩
theorem Dn.all {q : Nat} {w W : World} {L : List (Nat × Nat × Value)} (h : Dn q w L W) : KAll W L True := kall_of trivial fun t ht => (h.cell t ht).2.2
theorem Dn.fall {q : Nat} {w W : World} {L : List (Nat × Nat × Value)} (h : Dn q w L W) : FAll W L := fall_of h.frz
/-- A cell of a block of the call's own, no other than those known, is written. -/
theorem Dn.setOff {q b i : Nat} {w W : World} {L : List (Nat × Nat × Value)} {x : Value} (h : Dn q w L W) (hb : w.heap.size ≤ b) (hn : ∀ t ∈ L, t.1 ≠ b) : Dn q w L (W.setCell ⟨b, i, none⟩ x) :=
  ⟨h.hq, h.cur.setOff (by have := h.hq; omega), h.chg.setOff hb, fun t ht => by
    obtain ⟨h1, h2, h3⟩ := h.cell t ht
    have := hn t ht
    exact ⟨h1, by simpa [World.setCell] using h2, (cell_set_other (by omega)).trans h3⟩, fun t ht => frozen_set.trans (h.frz t ht)⟩

/-- Bounds of a table drawn. -/
def SmlT (M : Nat) (nm : ByteArray) (ar : Int) (rs : List (List Int)) : Prop := nm.size ≤ 8 ∧ (-1 ≤ ar ∧ ar ≤ 4) ∧ rs.length ≤ M ∧ ∀ r ∈ rs, r.length ≤ 16
/-- A table drawn. -/
def DrT (M q : Nat) (w : World) (e : Ending) (w' : World) : Prop :=
  ∃ (nm : ByteArray) (ar : Int) (A : Option Addr) (c : Nat) (rs : List (List Int)), e = .returned (.agg #[.string nm, .int .i64 ar, .slice A rs.length c]) ∧ SmlT M nm ar rs ∧ OwnR w' w.heap.size w'.heap.size (.slice A rs.length c) rs ∧ Cur w' q ∧ Chg q (q + 1) w w'

/-- A table that is being made: its box xb, its rows, other cells L. -/
structure TI (q : Nat) (w : World) (L : List (Nat × Nat × Value)) (xb : Nat) (nm : ByteArray) (ar : Int) (R : List (List Int)) (v : Value) (W : World) : Prop where
  dn : Dn q w L W
  own : ∃ F, OwnSl 27 1 ERow W F v R ∧ ∀ k, F k → w.heap.size ≤ k ∧ k ≠ xb ∧ ∀ t ∈ L, k ≠ t.1
  nL : ∀ t ∈ L, t.1 ≠ xb
  hx : w.heap.size ≤ xb
  lx : xb < W.heap.size
  x0 : W.cell? ⟨xb, 0, none⟩ = some (.string nm)
  x1 : W.cell? ⟨xb, 1, none⟩ = some (.int .i64 ar)
  x2 : W.cell? ⟨xb, 2, none⟩ = some v
  fx : ∀ i, W.frozen? ⟨xb, i, none⟩ = false
section
variable {q xb : Nat} {w W W' : World} {L : List (Nat × Nat × Value)} {nm : ByteArray} {ar : Int} {R R' : List (List Int)} {v v' : Value}
theorem TI.draw (h : TI q w L xb nm ar R v W) (hc : Cur W' q) (hg : Chg q (q + 1) W W') : TI q w L xb nm ar R v W' := by
  obtain ⟨F, h1, h2⟩ := h.own
  have hq := h.dn.hq
  have hx := h.hx
  have e := hg.block xb h.lx (.inr (by omega))
  exact ⟨h.dn.draw hc hg, ⟨F, h1.keep eRow_ok hg.size fun k hk => hg.block k (h1.bound k hk) (.inr (by have := (h2 k hk).1; omega)), h2⟩, h.nL, h.hx, Nat.lt_of_lt_of_le h.lx hg.size,
    (World.cell?_of_block e).trans h.x0, (World.cell?_of_block e).trans h.x1, (World.cell?_of_block e).trans h.x2, fun i => (World.frozen?_of_block e).trans (h.fx i)⟩
theorem TI.next (h : TI q w L xb nm ar R v W) (b : Below W.heap.size W W') : TI q w L xb nm ar R v W' := h.draw (h.dn.cur.next b) ((Chg.refl _ _ _).after b)
/-- Wholly new rows. -/
theorem TI.push (h : TI q w L xb nm ar R v W) (b : Below W.heap.size W W') (ho : OwnR W' W.heap.size W'.heap.size v' R') : TI q w L xb nm ar R' v' (W'.setCell ⟨xb, 2, none⟩ v') := by
  have h1 := h.next b
  have hs := h.dn.chg.size
  obtain ⟨F, h2, h3⟩ := ho
  have hlx := h.lx
  refine ⟨h1.dn.setOff h.hx h.nL, ⟨F, h2.chgF eRow_ok (chgF_setCell W' xb 2 v') fun k hk e => by have := (h3 k hk).1; omega, fun k hk => ?_⟩, h.nL, h.hx, by simpa [World.setCell] using h1.lx,
    (cell_set_other (by omega)).trans h1.x0, (cell_set_other (by omega)).trans h1.x1, cell_set_same h1.x2, fun i => frozen_set.trans (h1.fx i)⟩
  have h4 := (h3 k hk).1
  exact ⟨by omega, by omega, fun t ht => by have := (h.dn.cell t ht).2.1; omega⟩
theorem TI.setN (h : TI q w L xb nm ar R v W) (nm' : ByteArray) : TI q w L xb nm' ar R v (W.setCell ⟨xb, 0, none⟩ (.string nm')) := by
  obtain ⟨F, h1, h2⟩ := h.own
  exact ⟨h.dn.setOff h.hx h.nL, ⟨F, h1.chgF eRow_ok (chgF_setCell W xb 0 _) fun k hk e => (h2 k hk).2.1 e, h2⟩, h.nL, h.hx, by simpa [World.setCell] using h.lx,
    cell_set_same h.x0, (cell_set_other (by omega)).trans h.x1, (cell_set_other (by omega)).trans h.x2, fun i => frozen_set.trans (h.fx i)⟩
theorem TI.setA (h : TI q w L xb nm ar R v W) (ar' : Int) : TI q w L xb nm ar' R v (W.setCell ⟨xb, 1, none⟩ (.int .i64 ar')) := by
  obtain ⟨F, h1, h2⟩ := h.own
  exact ⟨h.dn.setOff h.hx h.nL, ⟨F, h1.chgF eRow_ok (chgF_setCell W xb 1 _) fun k hk e => (h2 k hk).2.1 e, h2⟩, h.nL, h.hx, by simpa [World.setCell] using h.lx,
    (cell_set_other (by omega)).trans h.x0, cell_set_same h.x1, (cell_set_other (by omega)).trans h.x2, fun i => frozen_set.trans (h.fx i)⟩
/-- A row of constants is pushed. -/
theorem TI.app (h : TI q w L xb nm ar R v W) (l : List Int) (hl : l.length ≤ maxLen) :
    ∃ xs : List Value, ((W.alloc (.cells (l.map iv).toArray 3)).alloc (.cells #[.slice (some ⟨W.heap.size, 0, none⟩) l.length l.length] 27)).ownsRow 0 27 1 v R.length xs ∧
      ∀ (g cap : Nat) (w2 : World), w2.ownsRow 0 27 1 (.slice (some ⟨g, 0, none⟩) (R.length + 1) cap) (R.length + 1) (xs ++ [.slice (some ⟨W.heap.size, 0, none⟩) l.length l.length]) →
        ((W.alloc (.cells (l.map iv).toArray 3)).alloc (.cells #[.slice (some ⟨W.heap.size, 0, none⟩) l.length l.length] 27)).grownBy w2 v.ownBlock → (v.ownBlock = some g ∨ g = W.heap.size + 1 + 1) →
        w2.cell? ⟨xb, 2, none⟩ = some v ∧ w2.frozen? ⟨xb, 2, none⟩ = false ∧ TI q w L xb nm ar (R ++ [l]) (.slice (some ⟨g, 0, none⟩) (R.length + 1) cap) (w2.setCell ⟨xb, 2, none⟩ (.slice (some ⟨g, 0, none⟩) (R.length + 1) cap)) := by
  obtain ⟨F, h1, h2⟩ := h.own
  obtain ⟨xs, k1, k2, k3⟩ := h1.open_ eRow_ok
  have hB1 : Below W.heap.size W (W.alloc (.cells (l.map iv).toArray 3)) := (Below.refl _ _).alloc (Nat.le_refl _) _
  have hB : Below W.heap.size W ((W.alloc (.cells (l.map iv).toArray 3)).alloc (.cells #[.slice (some ⟨W.heap.size, 0, none⟩) l.length l.length] 27)) := hB1.alloc hB1.size _
  have hI0 : IBlk (W.alloc (.cells (l.map iv).toArray 3)) W.heap.size l := heap_alloc_new W _
  have hI := (hI0.ownI (lo := W.heap.size) (hi := W.heap.size + 1) (Nat.le_refl _) (Nat.lt_succ_self _) hl).below ((Below.refl (W.alloc (.cells (l.map iv).toArray 3)).heap.size _).alloc (Nat.le_refl _) (.cells #[.slice (some ⟨W.heap.size, 0, none⟩) l.length l.length] 27)) (by simp)
  have hlx := h.lx
  refine ⟨xs, ownsRow_keep k1 fun g hg => hB.block g (h1.bound g (k2 g hg)), fun g cap w2 hown hgrow hat => ?_⟩
  have hF := k3 _ w2 (fun k => W.heap.size ≤ k ∧ k < W.heap.size + 1) [.slice (some ⟨W.heap.size, 0, none⟩) l.length l.length] l g cap ⟨hB.os, hB.tape, hB.output, hB.size, fun i hi _ => hB.block i hi⟩ (ERow.of hI (by simp)) rfl
    (fun k hk hk' => by have := h1.bound k hk; omega) hown hgrow (by rcases hat with h | h; exact .inl h; exact .inr (by simp; omega))
  have hxF : ∀ g, v.ownBlock = some g → g ≠ xb ∧ ∀ t ∈ L, g ≠ t.1 := fun g hg => (h2 g (k2 g hg)).2
  have hsz := hgrow.size
  simp at hsz
  have hblk : ∀ k, k < W.heap.size → v.ownBlock ≠ some k → w2.heap[k]? = W.heap[k]? := fun k hk hn => (hgrow.block k (by simp; omega) fun e => hn e.symm).trans (hB.block k hk)
  have ex := hblk xb hlx fun e => (hxF xb e).1 rfl
  have hqn : ∀ k, k ≤ q → w2.heap[k]? = W.heap[k]? := fun k hk => hblk k (by have := h.dn.hq; have := h.dn.chg.size; omega) fun e => by have := (h2 k (k2 k e)).1; have := h.dn.hq; omega
  have hd2 : Dn q w L w2 := ⟨h.dn.hq, h.dn.cur.keep hqn (by omega),
    ⟨hgrow.os.trans (hB.os.trans h.dn.chg.os), hgrow.tape.trans (hB.tape.trans h.dn.chg.tape), hgrow.output.trans (hB.output.trans h.dn.chg.output), by have := h.dn.chg.size; omega, fun k hk hn => (hblk k (Nat.lt_of_lt_of_le hk h.dn.chg.size) fun e => by have := (h2 k (k2 k e)).1; omega).trans (h.dn.chg.block k hk hn)⟩,
    fun t ht => by
      obtain ⟨a1, a2, a3⟩ := h.dn.cell t ht
      exact ⟨a1, by omega, (World.cell?_of_block (hblk t.1 a2 fun e => (hxF t.1 e).2 t ht rfl)).trans a3⟩,
    fun t ht => by
      obtain ⟨a1, a2, a3⟩ := h.dn.cell t ht
      exact (World.frozen?_of_block (hblk t.1 a2 fun e => (hxF t.1 e).2 t ht rfl)).trans (h.dn.frz t ht)⟩
  have hgg : w.heap.size ≤ g ∧ g ≠ xb ∧ ∀ t ∈ L, g ≠ t.1 := by
    rcases hat with hg | hg
    · exact h2 g (k2 g hg)
    · refine ⟨by have := h.hx; omega, by omega, fun t ht => by have := (h.dn.cell t ht).2.1; omega⟩
  refine ⟨(World.cell?_of_block ex).trans h.x2, (World.frozen?_of_block ex).trans (h.fx 2), hd2.setOff h.hx h.nL, ⟨_, hF.chgF eRow_ok (chgF_setCell w2 xb 2 _) fun k hk e => ?_, fun k hk => ?_⟩, h.nL, h.hx, by simp [World.setCell]; omega,
    (cell_set_other (by omega)).trans ((World.cell?_of_block ex).trans h.x0), (cell_set_other (by omega)).trans ((World.cell?_of_block ex).trans h.x1), cell_set_same ((World.cell?_of_block ex).trans h.x2), fun i => frozen_set.trans ((World.frozen?_of_block ex).trans (h.fx i))⟩
  · rcases hk with hk | hk | hk
    · exact (h2 k hk).2.1 e
    · omega
    · exact hgg.2.1 (hk ▸ e)
  · rcases hk with hk | hk | rfl
    · exact h2 k hk
    · exact ⟨by have := h.hx; omega, by omega, fun t ht => by have := (h.dn.cell t ht).2.1; omega⟩
    · exact hgg
/-- The box is copied into the result's box rb. -/
theorem TI.fin {rb : Nat} (h : TI q w L xb nm ar R v W) (hrb : ∃ t ∈ L, t.1 = rb) (a b c : Value) :
    OwnR (((W.setCell ⟨rb, 0, none⟩ a).setCell ⟨rb, 1, none⟩ b).setCell ⟨rb, 2, none⟩ c) w.heap.size (((W.setCell ⟨rb, 0, none⟩ a).setCell ⟨rb, 1, none⟩ b).setCell ⟨rb, 2, none⟩ c).heap.size v R ∧
      Cur (((W.setCell ⟨rb, 0, none⟩ a).setCell ⟨rb, 1, none⟩ b).setCell ⟨rb, 2, none⟩ c) q ∧ Chg q (q + 1) w (((W.setCell ⟨rb, 0, none⟩ a).setCell ⟨rb, 1, none⟩ b).setCell ⟨rb, 2, none⟩ c) := by
  obtain ⟨t, ht, rfl⟩ := hrb
  obtain ⟨F, h1, h2⟩ := h.own
  have hq := h.dn.hq
  have hr := (h.dn.cell t ht).1
  have k : ∀ (W0 : World) (i : Nat) (x : Value), OwnSl 27 1 ERow W0 F v R → OwnSl 27 1 ERow (W0.setCell ⟨t.1, i, none⟩ x) F v R := fun W0 i x h0 => h0.chgF eRow_ok (chgF_setCell W0 t.1 i x) fun k hk e => (h2 k hk).2.2 t ht e
  refine ⟨OwnR.of (k _ _ _ (k _ _ _ (k _ _ _ h1))) fun k hk => (h2 k hk).1, ((h.dn.cur.setOff (by omega)).setOff (by omega)).setOff (by omega), ((h.dn.chg.setOff hr).setOff hr).setOff hr⟩
end
theorem sml_put {m k : Nat} {R : List (List Int)} {p : List Int} (h : R.length + k ≤ 8 ∧ ∀ r ∈ R, r.length = m) (h0 : 0 < k) (hp : p.length = m) : (putA p false R).length + (k - 1) ≤ 8 ∧ ∀ r ∈ putA p false R, r.length = m := by
  have := (putA_len p R).2
  refine ⟨by omega, fun r hr => ?_⟩
  rcases (putA_mem p R r).1 hr with rfl | hr
  · exact hp
  · exact h.2 r hr

set_option maxRecDepth 100000 in
set_option maxHeartbeats 4000000 in
theorem l4Tab_any (q m most : Nat) (nm : ByteArray) (val : Int) (w : World) (hc : Cur w q) (hm : m ≤ 3) (hmost : most ≤ 8) (hval : 0 < val ∧ val ≤ 100) (hnm : nm.size ≤ 8) :
    Calls Tryz.prog 68 #[.pointer (some ⟨q, 0, none⟩), .string nm, .int .i64 m, .int .i64 most, .int .i64 val] w (DrT 8 q w) := by
  obtain ⟨i0, hi, hz0, hz1, hz2⟩ := info_parts info_int
  have hq := hc.lt
  have t0 : TI q w [(w.heap.size, 0, .string { data := #[] }), (w.heap.size, 1, .int .i64 0), (w.heap.size, 2, .slice none 0 0)] (w.heap.size + 1) nm m [] (.slice none 0 0)
      ((w.alloc (.cells #[.string { data := #[] }, .int .i64 0, .slice none 0 0] 51)).alloc (.cells #[.string nm, .int .i64 m, .slice none 0 0] 51)) := by
    have d1 : Dn q w [(w.heap.size, 0, .string { data := #[] }), (w.heap.size, 1, .int .i64 0), (w.heap.size, 2, .slice none 0 0)] (w.alloc (.cells #[.string { data := #[] }, .int .i64 0, .slice none 0 0] 51)) := by
      simpa using (Dn.start hc).box [.string { data := #[] }, .int .i64 0, .slice none 0 0] 51
    refine ⟨d1.al _, ⟨fun _ => False, OwnSl.nil _ _ (by simp), by simp⟩, by simp, by omega, by simp, by simp [go_sem], by simp [go_sem], by simp [go_sem], fun i => ?_⟩
    have hn := heap_alloc_new (w.alloc (.cells #[.string { data := #[] }, .int .i64 0, .slice none 0 0] 51)) (.cells #[.string nm, .int .i64 m, .slice none 0 0] 51)
    simp at hn
    unfold World.frozen?
    simp [hn]
  go_enter Tryz.func68, Tryz.ntmps68
  go_wp2_with fail
  generalize ((w.alloc (.cells #[.string { data := #[] }, .int .i64 0, .slice none 0 0] 51)).alloc (.cells #[.string nm, .int .i64 m, .slice none 0 0] 51)) = w0 at t0 ⊢
  refine (l1Below_any q (most + 1) w0 t0.dn.cur (by omega)).mono ?_
  rintro e w1 ⟨x, rfl, ⟨hx0, hx1⟩, hc1, hg1⟩
  obtain ⟨K, rfl⟩ := Int.eq_ofNat_of_zero_le hx0
  have hK : K ≤ 8 := by omega
  have t1 := t0.draw hc1 hg1
  clear t0 hc1 hg1 hx0 hx1 hc
  go_wp2_with fail
  go_loopw [12] (fun n wr => ∃ (k : Nat) (R : List (List Int)) (v : Value), n = .int .i64 k ∧ Hid (R.length + k ≤ 8 ∧ ∀ r ∈ R, r.length = m) ∧ Hid (TI q w [(w.heap.size, 0, .string { data := #[] }), (w.heap.size, 1, .int .i64 0), (w.heap.size, 2, .slice none 0 0)] (w.heap.size + 1) nm m R v wr)) (fun n _ => (intOf n).toNat)
  case atStart => exact ⟨K, [], _, rfl, ⟨by simp; omega, by simp⟩, t1⟩
  case round =>
    obtain ⟨k, R, v, rfl, hR, hT⟩ := hrel
    clear t1
    by_cases hk0 : k = 0
    · subst hk0
      obtain ⟨A, c, rfl⟩ := (OwnR.of hT.out.own.choose_spec.1 (lo := 0) fun _ _ => Nat.zero_le _).form
      have x0 := hT.out.x0
      have x1 := hT.out.x1
      have x2 := hT.out.x2
      obtain ⟨d0, d1, d2, _⟩ := hT.out.dn.all
      obtain ⟨f0, f1, f2, _⟩ := hT.out.dn.fall
      go_wp2_with fail
      have HF := Lib.hid (hT.out.fin (rb := w.heap.size) ⟨_, List.mem_cons_self, rfl⟩ (.string nm) (.int .i64 m) (.slice A R.length c))
      refine bodyPost_ret (v := .agg #[.string nm, .int .i64 m, .slice A R.length c]) (by simp [results, Tryz.results68, go_sem, *]) rfl ⟨nm, m, A, c, R, rfl, ⟨hnm, ⟨by omega, by omega⟩, by have := hR.out.1; omega, fun r hr => by have := hR.out.2 r hr; omega⟩, HF.out⟩
    · have g1 : (0 : Int) < (k : Int) := by omega
      have g0 : 0 < k := by omega
      have hk8 : k ≤ 8 := by have := hR.out.1; omega
      clear hk0
      obtain ⟨wo, hwo⟩ : ∃ wo, wo = wr := ⟨_, rfl⟩
      subst hwo
      have hcr := hT.out.dn.cur
      have hA := (Below.refl wo.heap.size wo).alloc (Nat.le_refl _) (.cells #[] 3)
      have hcA := hcr.next hA
      have hgA : Chg q (q + 1) wo (wo.alloc (.cells #[] 3)) := (Chg.refl _ _ _).after hA
      have hqr := hcr.lt
      go_wp2_with fail
      go_loopw [13, 14] (fun u i wr => ∃ p : List Int, p.length ≤ m ∧ i = .int .i64 p.length ∧ wr.ownsRow wo.heap.size 3 1 u p.length (p.map iv) ∧ Cur wr q ∧ Chg q (q + 1) wo wr) (fun _ i _ => m - (intOf i).toNat)
      case atStart => exact ⟨[], by simp, rfl, own_empty wo _ (Nat.le_refl _), hcA, hgA⟩
      case round =>
        obtain ⟨p, hk, rfl, hown, hci, hgi⟩ := hrel
        have hgs := hgi.size
        clear hcA hgA hA
        by_cases hlt : p.length < m
        · have g2 : (p.length : Int) < (m : Int) := by omega
          go_wp2_with fail
          refine (l1Below_any q val _ hci (by omega)).mono ?_
          rintro e w3 ⟨x, rfl, ⟨hx0, hx1⟩, hc3, hg3⟩
          have hown3 := own_keep hown fun g hg => hg3.block g (hown.lt g hg).2 (.inr (by have := (hown.lt g hg).1; omega))
          have hg4 := hgi.trans hg3
          have hgs4 := hg4.size
          clear hown hg3 hgi hci
          go_wp2_with (at_builtin; refine wpList_append_lies _ rfl _ _ _ rfl wo.heap.size 3 i0 _ 1 8 Tryz.underlying27 hi hz0 hz1 hz2 rfl (by omega) _ p.length _ rfl (hown3.alloc _) ⟨w3.heap.size, 0, none⟩ 1 1 [.int .i64 x] rfl rfl (World.news_of_block (cs := #[.int .i64 x]) (t := 3) (fr := (0, 0)) (heap_alloc_new w3 _)) (by simp [Value.oneCell']) (by omega) (by unfold maxLen; omega) (by omega) (by simp; omega) (w3.heap.size + 1) (by simp) ?_; intro g cap w4 hown4 hgrow _ _)
          have hB : Below wo.heap.size w3 w4 := ((Below.refl wo.heap.size w3).alloc (by omega) _).grown hgrow (by simp; omega) (fun j hj => (hown3.lt j hj).1)
          refine ⟨⟨p ++ [x], by simp; omega, by simp, own_snoc hown4, hc3.keep (fun k hk => hB.block k (by omega)) hB.size, hg4.after hB⟩, ?_⟩
          simp [intOf]
          omega
        · have hpn : Hid (p.length = m) := by show p.length = m; omega
          have g2 : ¬ (p.length : Int) < (m : Int) := by omega
          have hpl : p.length ≤ 17592186044416 := by omega
          obtain ⟨A', c', rfl⟩ := own_form hown
          obtain ⟨A, c, rfl⟩ := (OwnR.of hT.out.own.choose_spec.1 (lo := 0) fun _ _ => Nat.zero_le _).form
          have hTi := Lib.hid (hT.out.draw hci hgi)
          have hI := ownI_of hown
          have hRd := (OwnR.of hTi.out.own.choose_spec.1 (lo := 0) fun _ _ => Nat.zero_le _).rd rfl
          have x2 := hTi.out.x2
          have fx := hTi.out.fx 2
          have KP := Lib.hid (l4Put_any A A' R.length c p.length c' wr.heap.size R p wr hRd (hI.rd rfl) (Nat.le_refl _) (by have := hR.out.1; omega) hpl (fun r hr => by have := hR.out.2 r hr; omega))
          have hlx := hTi.out.lx
          clear hI hRd hown hci hgi
          go_wp2_with fail
          refine KP.out.mono ?_
          rintro e w5 ⟨A2, c2, rfl, ho5, b5⟩
          have n2 := (b5.cell (p := ⟨w.heap.size + 1, 2, none⟩) hlx).trans x2
          have n3 := (b5.frozen (p := ⟨w.heap.size + 1, 2, none⟩) hlx).trans fx
          have HF := Lib.hid (hTi.out.push b5 ho5)
          have HS := Lib.hid (sml_put hR.out g0 hpn.out)
          clear ho5 b5 x2 fx
          go_wp2_with fail
          refine ⟨⟨k - 1, _, _, (by show Value.int .i64 _ = Value.int .i64 _; congr 1; omega), HS, HF⟩, ?_⟩
          simp [intOf]
          omega
end Go.Proofs.YtccnhocekgikiaaGreat
