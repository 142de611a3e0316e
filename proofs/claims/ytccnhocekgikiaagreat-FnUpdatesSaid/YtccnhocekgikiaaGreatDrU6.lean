/- What the law on updates draws: l6List (draft). What is drawn is not said, but for its bounds. No condition. -/
import Derived.Test.YtccnhocekgikiaaGreatDrU5
namespace Go.Proofs.YtccnhocekgikiaaGreat
open Go.RowKit Go.Deep

/-- ApplyUpdate keeps the bounds. -/
theorem OkT.app {ts : List Tab} {nm : ByteArray} {ins : Bool} {r : List Int} (h : OkT ts) : OkT (appR ts nm ins r).1 := by
  cases hq : (appR ts nm ins r).2 with
  | false => rw [appR_idle hq]; exact h
  | true =>
    obtain ⟨xs, h1, h2, _⟩ := appR_back hq
    rw [h1]
    have hl : (lookR xs nm).ok = true := by
      cases hl : (lookR xs nm).ok with
      | true => rfl
      | false => rw [appR_none hl] at h2; injection h2 with _ h2
    exact .valid (lookR_ok hl).1
/-- A list of updates that is being drawn (blocks: none of the box bx, of L, of the database X, which lies from a to b). -/
structure LU (q : Nat) (w : World) (L : List (Nat × Nat × Value)) (bx a b : Nat) (us : List Upd) (v : Value) (A : Option Addr) (c : Nat) (X : List Tab) (W : World) : Prop where
  dn : Dn q w (L ++ [(bx, 0, .slice A X.length c)]) W
  own : ∃ F, OwnSl 29 3 EUpd W F v us ∧ ∀ k, F k → w.heap.size ≤ k ∧ k ≠ bx ∧ (k < a ∨ b ≤ k) ∧ ∀ t ∈ L, k ≠ t.1
  xo : OwnD W a b (.slice A X.length c) X
  ha : w.heap.size ≤ a
  hb : b ≤ W.heap.size
  hx : bx < a ∨ b ≤ bx
  nL : ∀ t ∈ L, t.1 ≠ bx ∧ (t.1 < a ∨ b ≤ t.1)
  hab : a ≤ b
section
variable {q bx a b c : Nat} {w W W' : World} {L : List (Nat × Nat × Value)} {us : List Upd} {v : Value} {A : Option Addr} {X : List Tab}
theorem LU.draw (h : LU q w L bx a b us v A c X W) (hc : Cur W' q) (hg : Chg q (q + 1) W W') : LU q w L bx a b us v A c X W' := by
  obtain ⟨F, h1, h2⟩ := h.own
  have hq := h.dn.hq
  have ha := h.ha
  exact ⟨h.dn.draw hc hg, ⟨F, h1.keep eUpd_ok hg.size fun k hk => hg.block k (h1.bound k hk) (.inr (by have := (h2 k hk).1; omega)), h2⟩, h.xo.chg hg (.inr (by omega)), h.ha, Nat.le_trans h.hb hg.size, h.hx, h.nL, h.hab⟩
theorem LU.next (h : LU q w L bx a b us v A c X W) (bl : Below W.heap.size W W') : LU q w L bx a b us v A c X W' := h.draw (h.dn.cur.next bl) ((Chg.refl _ _ _).after bl)
theorem LU.rdw (h : LU q w L bx a b us v A c X W) : RdTw a W A X.length X := h.xo.rdw h.hb
/-- One update more. -/
theorem LU.app {W1 : World} {lo1 hi1 c1 : Nat} {A1 : Option Addr} {nm : ByteArray} {ins : Bool} {zs : List Int} (h : LU q w L bx a b us v A c X W) (hc : Cur W1 q) (hg : Chg q (q + 1) W W1) (ho : OwnI W1 lo1 hi1 (.slice A1 zs.length c1) zs) (hlo1 : W.heap.size ≤ lo1) (hhi : hi1 ≤ W1.heap.size) (hnm : nm.size ≤ maxLen)
    (hbx : bx < W.heap.size) (hLW : ∀ t ∈ L, t.1 < W.heap.size) :
    ∃ xs : List Value, (W1.alloc (.cells #[.string nm, .bool ins, .slice A1 zs.length c1] 29)).ownsRow 0 29 3 v us.length xs ∧
      ∀ (g cap : Nat) (w2 : World), w2.ownsRow 0 29 3 (.slice (some ⟨g, 0, none⟩) (us.length + 1) cap) (us.length + 1) (xs ++ [.string nm, .bool ins, .slice A1 zs.length c1]) →
        (W1.alloc (.cells #[.string nm, .bool ins, .slice A1 zs.length c1] 29)).grownBy w2 v.ownBlock → (v.ownBlock = some g ∨ g = W1.heap.size + 1) → LU q w L bx a b (us ++ [⟨nm, ins, zs⟩]) (.slice (some ⟨g, 0, none⟩) (us.length + 1) cap) A c X w2 ∧ (∀ k, W.heap.size ≤ k → k < W1.heap.size → w2.heap[k]? = W1.heap[k]?) ∧ W1.heap.size ≤ w2.heap.size := by
  have h1 := h.draw hc hg
  have hq := h.dn.hq
  have hs := hg.size
  have hcs := h.dn.chg.size
  have hbW := h.hb
  have haW := h.ha
  obtain ⟨F, f1, f2⟩ := h.own
  have f3 := f1.keep eUpd_ok hs fun k hk => hg.block k (f1.bound k hk) (.inr (by have := (f2 k hk).1; omega))
  obtain ⟨xs, k1, k2, k3⟩ := f3.open_ eUpd_ok
  have hA : Below W1.heap.size W1 (W1.alloc (.cells #[.string nm, .bool ins, .slice A1 zs.length c1] 29)) := (Below.refl _ _).alloc (Nat.le_refl _) _
  refine ⟨xs, ownsRow_keep k1 fun g hg => hA.block g (f3.bound g (k2 g hg)), fun g cap w2 hown hgrow hat => ?_⟩
  have hF := k3 _ w2 (fun k => lo1 ≤ k ∧ k < hi1) [.string nm, .bool ins, .slice A1 zs.length c1] ⟨nm, ins, zs⟩ g cap ⟨hA.os, hA.tape, hA.output, hA.size, fun i hi _ => hA.block i hi⟩ (EUpd.of (ho.below hA hhi) hnm (by simp; omega)) rfl
    (fun k hk hk' => by have := f1.bound k hk; omega) hown hgrow (by rcases hat with h | h; exact .inl h; exact .inr (by simp; omega))
  have hsz := hgrow.size
  simp at hsz
  have hblk : ∀ k, k < W1.heap.size → (∀ g, v.ownBlock = some g → g ≠ k) → w2.heap[k]? = W1.heap[k]? := fun k hk hn => (hgrow.block k (by simp; omega) fun e => hn k e.symm rfl).trans (hA.block k hk)
  have hL : ∀ t ∈ L ++ [(bx, 0, Value.slice A X.length c)], ∀ g, v.ownBlock = some g → g ≠ t.1 := fun t ht g hg => by
    rcases List.mem_append.1 ht with ht | ht
    · exact (f2 g (k2 g hg)).2.2.2 t ht
    · obtain rfl := List.mem_singleton.1 ht
      exact (f2 g (k2 g hg)).2.1
  have hxa := h.hx
  refine ⟨?_, fun k hk hk2 => hblk k hk2 fun g hg e => by have := f1.bound g (k2 g hg); omega, by omega⟩
  refine ⟨⟨hq, h1.dn.cur.keep (fun k hk => hblk k (by omega) fun g hg => by have := (f2 g (k2 g hg)).1; omega) (by omega), ⟨hgrow.os.trans (hA.os.trans h1.dn.chg.os), hgrow.tape.trans (hA.tape.trans h1.dn.chg.tape), hgrow.output.trans (hA.output.trans h1.dn.chg.output), by omega, fun k hk hn => (hblk k (by omega) fun g hg => by have := (f2 g (k2 g hg)).1; omega).trans (h1.dn.chg.block k hk hn)⟩,
    fun t ht => ?_, fun t ht => ?_⟩, ⟨_, hF, fun k hk => ?_⟩, ?_, h.ha, by omega, h.hx, h.nL, h.hab⟩
  · obtain ⟨a1, a2, a3⟩ := h1.dn.cell t ht
    exact ⟨a1, by omega, (World.cell?_of_block (hblk t.1 a2 (hL t ht))).trans a3⟩
  · obtain ⟨a1, a2, a3⟩ := h1.dn.cell t ht
    exact (World.frozen?_of_block (hblk t.1 a2 (hL t ht))).trans (h1.dn.frz t ht)
  · have new : ∀ j, W.heap.size ≤ j → w.heap.size ≤ j ∧ j ≠ bx ∧ (j < a ∨ b ≤ j) ∧ ∀ t ∈ L, j ≠ t.1 := fun j hj => ⟨by omega, by omega, .inr (by omega), fun t ht e => by have := hLW t ht; omega⟩
    rcases hk with hk | hk | rfl
    · exact f2 k hk
    · exact new k (by omega)
    · rcases hat with h | h
      · exact f2 k (k2 k h)
      · exact new k (by omega)
  · obtain ⟨F2, g1, g2⟩ := h1.xo
    exact ⟨F2, g1.keep eTab_ok (by omega) fun k hk => hblk k (g1.bound k hk) fun g hg e => by have := (f2 g (k2 g hg)).2.2.1; have := g2 k hk; omega, g2⟩
/-- A new database in the box. -/
theorem LU.put {A2 : Option Addr} {c2 : Nat} {X2 : List Tab} (h : LU q w L bx a b us v A c X W) (bl : Below W.heap.size W W') (ho : OwnD W' W.heap.size W'.heap.size (.slice A2 X2.length c2) X2) (hbx : bx < W.heap.size) (hLW : ∀ t ∈ L, t.1 < W.heap.size) :
    LU q w L bx W.heap.size W'.heap.size us v A2 c2 X2 (W'.setCell ⟨bx, 0, none⟩ (.slice A2 X2.length c2)) := by
  have h1 := h.next bl
  have hcs := h.dn.chg.size
  obtain ⟨F, f1, f2⟩ := h.own
  have f3 := f1.keep eUpd_ok bl.size fun k hk => bl.block k (f1.bound k hk)
  have hb := h1.dn.cell (bx, 0, .slice A X.length c) (by simp)
  have hf := h1.dn.frz (bx, 0, .slice A X.length c) (by simp)
  have d2 := (h1.dn.sub (L' := L) fun t ht => List.mem_append.2 (.inl ht)).setOff (i := 0) (x := .slice A2 X2.length c2) hb.1 fun t ht => (h.nL t ht).1
  have hs : (W'.setCell ⟨bx, 0, none⟩ (.slice A2 X2.length c2)).heap.size = W'.heap.size := by simp [World.setCell]
  refine ⟨⟨d2.hq, d2.cur, d2.chg, fun t ht => ?_, fun t ht => ?_⟩, ⟨F, f3.chgF eUpd_ok (chgF_setCell W' bx 0 _) fun k hk e => (f2 k hk).2.1 e, fun k hk => ⟨(f2 k hk).1, (f2 k hk).2.1, .inl (f1.bound k hk), (f2 k hk).2.2.2⟩⟩, ho.setOff (.inl hbx), hcs, by rw [hs]; exact Nat.le_refl _, .inl hbx, fun t ht => ⟨(h.nL t ht).1, .inl (hLW t ht)⟩, bl.size⟩
  · rcases List.mem_append.1 ht with ht | ht
    · exact d2.cell t ht
    · obtain rfl := List.mem_singleton.1 ht
      exact ⟨hb.1, by rw [hs]; exact hb.2.1, cell_set_same hb.2.2⟩
  · rcases List.mem_append.1 ht with ht | ht
    · exact d2.frz t ht
    · obtain rfl := List.mem_singleton.1 ht
      exact frozen_set.trans hf
end
end Go.Proofs.YtccnhocekgikiaaGreat
