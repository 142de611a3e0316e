/- Several elements appended at once to an owned slice; a part of a slice that is read. Of no program but for the types' numbers. -/
import Derived.Test.YtccnhocekgikiaaGreatDrDb
namespace Go.Proofs.YtccnhocekgikiaaGreat
open Go.RowKit Go.Deep

theorem OwnSl.openL {α : Type} {e : TypeId} {size : Nat} {E : World → (Nat → Prop) → List Value → α → Prop} {w : World} {F : Nat → Prop} {v : Value} {ls : List α} (ok : OwnOk E) (h : OwnSl e size E w F v ls) : ∃ xs : List Value, w.ownsRow 0 e size v ls.length xs ∧ (∀ g, v.ownBlock = some g → F g) ∧
    ∀ (w1 w' : World) (ts2 : List (Item α)) (g cap : Nat), ChgF (fun _ => False) w w1 → (∀ t ∈ ts2, E w1 t.F t.cs t.a ∧ t.cs.length = size ∧ ∀ k, F k → ¬ t.F k) → (ts2.Pairwise fun s t => ∀ k, s.F k → ¬ t.F k) →
      w'.ownsRow 0 e size (.slice (some ⟨g, 0, none⟩) (ls.length + ts2.length) cap) (ls.length + ts2.length) (xs ++ ts2.flatMap (·.cs)) → w1.grownBy w' v.ownBlock → (v.ownBlock = some g ∨ w1.heap.size ≤ g) →
      OwnSl e size E w' (fun k => F k ∨ (∃ t ∈ ts2, t.F k) ∨ k = g) (.slice (some ⟨g, 0, none⟩) (ls.length + ts2.length) cap) (ls ++ ts2.map (·.a)) := by
  obtain ⟨ts, rfl, h⟩ := h
  refine ⟨ts.flatMap (·.cs), by rw [List.length_map]; exact h.row, fun g hg => (h.head g hg).1, fun w1 w' ts2 g cap hc hE hap hown hgrow hg => ?_⟩
  rw [List.length_map] at hown ⊢
  have h1 := h.keep ok hc.size fun k hk => hc.block k (h.bound k hk) (by simp)
  have hglt : g < w'.heap.size := (hown.lt g rfl).2
  have hold : ∀ t ∈ ts, E w' t.F t.cs t.a := fun t ht => ok.keep (h1.elem t ht) fun k hk => hgrow.block k (ok.bound (h1.elem t ht) k hk) fun hr => (h1.head k hr.symm).2 t ht hk
  have hnew : ∀ t ∈ ts2, E w' t.F t.cs t.a := fun t ht => ok.keep (hE t ht).1 fun k hk => hgrow.block k (ok.bound (hE t ht).1 k hk) fun hr => (hE t ht).2.2 k (h1.head k hr.symm).1 hk
  have hgn : ∀ t ∈ ts2, ¬ t.F g := fun t ht hgG => by
    rcases hg with hg | hg
    · exact (hE t ht).2.2 g (h1.head g hg).1 hgG
    · have := ok.bound (hE t ht).1 g hgG; omega
  have hgt : ∀ t ∈ ts, ¬ t.F g := fun t ht hf => by
    rcases hg with hg | hg
    · exact (h1.head g hg).2 t ht hf
    · have := ok.bound (h1.elem t ht) g hf; omega
  refine ⟨ts ++ ts2, by simp, ?_, ?_, ?_, ?_, ?_, ?_, ?_⟩
  · rw [List.length_append, List.flatMap_append]
    exact hown
  · intro t ht
    rcases List.mem_append.1 ht with ht | ht
    · exact h.len t ht
    · exact (hE t ht).2.1
  · intro t ht
    rcases List.mem_append.1 ht with ht | ht
    · exact hold t ht
    · exact hnew t ht
  · rw [List.pairwise_append]
    exact ⟨h.apart, hap, fun s hs t ht k hk => (hE t ht).2.2 k (h.inF s hs k hk)⟩
  · intro g' hg'
    simp [Value.ownBlock] at hg'
    subst hg'
    refine ⟨.inr (.inr rfl), fun t ht => ?_⟩
    rcases List.mem_append.1 ht with ht | ht
    · exact hgt t ht
    · exact hgn t ht
  · intro t ht k hk
    rcases List.mem_append.1 ht with ht | ht
    · exact .inl (h.inF t ht k hk)
    · exact .inr (.inl ⟨t, ht, hk⟩)
  · intro k hk
    rcases hk with hk | ⟨t, ht, hk⟩ | rfl
    · exact Nat.lt_of_lt_of_le (h1.bound k hk) hgrow.size
    · exact Nat.lt_of_lt_of_le (ok.bound (hE t ht).1 k hk) hgrow.size
    · exact hglt
/-- Tables appended to a database drawn. -/
theorem dA {q lo0 hi0 : Nat} {w W : World} {L : List (Nat × Nat × Value)} {ts : List Tab} {v : Value} (dn : Dn q w L W) (own : OwnD W lo0 hi0 v ts) (hlo : w.heap.size ≤ lo0) (hL : ∀ t ∈ L, t.1 < lo0 ∨ hi0 ≤ t.1) (hLW : ∀ t ∈ L, t.1 < W.heap.size)
    (ts2 : List (Item Tab)) (hts2 : ∀ t ∈ ts2, ETab W t.F t.cs t.a ∧ t.cs.length = 3 ∧ ∀ k, t.F k → hi0 ≤ k ∧ w.heap.size ≤ k ∧ ∀ s ∈ L, s.1 ≠ k) (hap : ts2.Pairwise fun s t => ∀ k, s.F k → ¬ t.F k) :
    ∃ xs : List Value, (W.alloc (.cells (ts2.flatMap (·.cs)).toArray 51)).ownsRow 0 51 3 v ts.length xs ∧
      ∀ (g cap : Nat) (w2 : World), w2.ownsRow 0 51 3 (.slice (some ⟨g, 0, none⟩) (ts.length + ts2.length) cap) (ts.length + ts2.length) (xs ++ ts2.flatMap (·.cs)) →
        (W.alloc (.cells (ts2.flatMap (·.cs)).toArray 51)).grownBy w2 v.ownBlock → (v.ownBlock = some g ∨ g = W.heap.size + 1) →
        Dn q w L w2 ∧ ∃ F, OwnSl 51 3 ETab w2 F (.slice (some ⟨g, 0, none⟩) (ts.length + ts2.length) cap) (ts ++ ts2.map (·.a)) ∧ ∀ k, F k → w.heap.size ≤ k ∧ ∀ t ∈ L, t.1 ≠ k := by
  obtain ⟨F, h1, h2⟩ := own
  obtain ⟨xs, k1, k2, k3⟩ := h1.openL eTab_ok
  have hA : Below W.heap.size W (W.alloc (.cells (ts2.flatMap (·.cs)).toArray 51)) := (Below.refl _ _).alloc (Nat.le_refl _) _
  refine ⟨xs, ownsRow_keep k1 fun g hg => hA.block g (h1.bound g (k2 g hg)), fun g cap w2 hown hgrow hat => ?_⟩
  have hF := k3 _ w2 ts2 g cap ⟨hA.os, hA.tape, hA.output, hA.size, fun i hi _ => hA.block i hi⟩ (fun t ht => ⟨eTab_ok.keep (hts2 t ht).1 fun k hk => hA.block k (eTab_ok.bound (hts2 t ht).1 k hk), (hts2 t ht).2.1, fun k hk hk' => by have := ((hts2 t ht).2.2 k hk').1; have := (h2 k hk).2; omega⟩) hap hown hgrow
    (by rcases hat with h | h; exact .inl h; exact .inr (by simp; omega))
  have hsz := hgrow.size
  simp at hsz
  have hq := dn.hq
  have hcs := dn.chg.size
  have hblk : ∀ k, k < W.heap.size → (∀ g, v.ownBlock = some g → g ≠ k) → w2.heap[k]? = W.heap[k]? := fun k hk hn => (hgrow.block k (by simp; omega) fun e => hn k e.symm rfl).trans (hA.block k hk)
  refine ⟨⟨hq, dn.cur.keep (fun k hk => hblk k (by omega) fun g hg => by have := (h2 g (k2 g hg)).1; omega) (by omega), ⟨hgrow.os.trans (hA.os.trans dn.chg.os), hgrow.tape.trans (hA.tape.trans dn.chg.tape), hgrow.output.trans (hA.output.trans dn.chg.output), by omega, fun k hk hn => (hblk k (Nat.lt_of_lt_of_le hk hcs) fun g hg => by have := (h2 g (k2 g hg)).1; omega).trans (dn.chg.block k hk hn)⟩,
    fun t ht => ?_, fun t ht => ?_⟩, _, hF, fun k hk => ?_⟩
  · obtain ⟨a1, a2, a3⟩ := dn.cell t ht
    exact ⟨a1, by omega, (World.cell?_of_block (hblk t.1 a2 fun g hg e => by have := h2 g (k2 g hg); have := hL t ht; omega)).trans a3⟩
  · obtain ⟨a1, a2, a3⟩ := dn.cell t ht
    exact (World.frozen?_of_block (hblk t.1 a2 fun g hg e => by have := h2 g (k2 g hg); have := hL t ht; omega)).trans (dn.frz t ht)
  · rcases hk with hk | ⟨t, ht, hk⟩ | rfl
    · exact ⟨by have := (h2 k hk).1; omega, fun t ht e => by have := h2 k hk; have := hL t ht; omega⟩
    · exact ((hts2 t ht).2.2 k hk).2
    · rcases hat with h | h
      · exact ⟨by have := (h2 k (k2 k h)).1; omega, fun t ht e => by have := h2 k (k2 k h); have := hL t ht; omega⟩
      · exact ⟨by omega, fun t ht e => by have := hLW t ht; omega⟩
/-- The same, the new cells written out. -/
theorem dA' {q lo0 hi0 : Nat} {w W : World} {L : List (Nat × Nat × Value)} {ts : List Tab} {v : Value} (dn : Dn q w L W) (own : OwnD W lo0 hi0 v ts) (hlo : w.heap.size ≤ lo0) (hL : ∀ t ∈ L, t.1 < lo0 ∨ hi0 ≤ t.1) (hLW : ∀ t ∈ L, t.1 < W.heap.size)
    (ts2 : List (Item Tab)) (hts2 : ∀ t ∈ ts2, ETab W t.F t.cs t.a ∧ t.cs.length = 3 ∧ ∀ k, t.F k → hi0 ≤ k ∧ w.heap.size ≤ k ∧ ∀ s ∈ L, s.1 ≠ k) (hap : ts2.Pairwise fun s t => ∀ k, s.F k → ¬ t.F k)
    (news : List Value) (m : Nat) (ls : List Tab) (h1 : ts2.flatMap (·.cs) = news) (h2 : ts2.length = m) (h3 : ts2.map (·.a) = ls) :
    ∃ xs : List Value, (W.alloc (.cells news.toArray 51)).ownsRow 0 51 3 v ts.length xs ∧
      ∀ (g cap : Nat) (w2 : World), w2.ownsRow 0 51 3 (.slice (some ⟨g, 0, none⟩) (ts.length + m) cap) (ts.length + m) (xs ++ news) →
        (W.alloc (.cells news.toArray 51)).grownBy w2 v.ownBlock → (v.ownBlock = some g ∨ g = W.heap.size + 1) →
        Dn q w L w2 ∧ ∃ F, OwnSl 51 3 ETab w2 F (.slice (some ⟨g, 0, none⟩) (ts.length + m) cap) (ts ++ ls) ∧ ∀ k, F k → w.heap.size ≤ k ∧ ∀ t ∈ L, t.1 ≠ k := by
  subst h1 h2 h3
  exact dA dn own hlo hL hLW ts2 hts2 hap
set_option maxHeartbeats 4000000 in
/-- Element k takes a whole table that lies elsewhere: how the whole reads then. -/
theorem rdw_put {W : World} {lo hi g n c k lo1 hi1 c1 : Nat} {ts : List Tab} {nm : ByteArray} {ar : Int} {rs : List (List Int)} {A1 : Option Addr} (h : OwnD W lo hi (.slice (some ⟨g, 0, none⟩) n c) ts) (hk : k < n) (ho : OwnR W lo1 hi1 (.slice A1 rs.length c1) rs)
    (hg : g < lo1 ∨ hi1 ≤ g) (hlo : lo ≤ lo1) (hh1 : hi1 ≤ W.heap.size) (hnm : nm.size ≤ maxLen) :
    RdTw lo (((W.setCell ⟨g, k * 3, none⟩ (.string nm)).setCell ⟨g, k * 3 + 1, none⟩ (.int .i64 ar)).setCell ⟨g, k * 3 + 2, none⟩ (.slice A1 rs.length c1)) (some ⟨g, 0, none⟩) n (ts.set k ⟨nm, ar, rs⟩) := ⟨fun g' o' s' hA => by
    injection hA with hA
    injection hA with e1 _ _
    subst e1
    obtain ⟨F, ⟨its, _, hT⟩, hF⟩ := h
    exact (hF g (hT.head g rfl).1).1, fun W' hs hb => by
  have hn := h.len_eq
  obtain ⟨F, ⟨its, rfl, hT⟩, hF⟩ := h
  rw [List.length_map] at hn
  have hsz : (((W.setCell ⟨g, k * 3, none⟩ (.string nm)).setCell ⟨g, k * 3 + 1, none⟩ (.int .i64 ar)).setCell ⟨g, k * 3 + 2, none⟩ (.slice A1 rs.length c1)).heap.size = W.heap.size := by simp [World.setCell]
  rw [hsz] at hs hb
  have hFg := hT.head g rfl
  have hgW := hT.bound g hFg.1
  have hgb := hb g (hF g hFg.1).1 hgW
  have oth : ∀ j, lo ≤ j → j < W.heap.size → j ≠ g → W'.heap[j]? = W.heap[j]? := fun j h1 h2 h3 => (hb j h1 h2).trans (((Below.heap_setCell _ _ _ j (by show ¬ j = g; exact h3)).trans (Below.heap_setCell _ _ _ j (by show ¬ j = g; exact h3))).trans (Below.heap_setCell _ _ _ j (by show ¬ j = g; exact h3)))
  have cellg : ∀ i, W'.cell? ⟨g, i, none⟩ = (((W.setCell ⟨g, k * 3, none⟩ (.string nm)).setCell ⟨g, k * 3 + 1, none⟩ (.int .i64 ar)).setCell ⟨g, k * 3 + 2, none⟩ (.slice A1 rs.length c1)).cell? ⟨g, i, none⟩ := fun i => World.cell?_of_block hgb
  have old : ∀ i, i < n * 3 → W.cell? ⟨g, i, none⟩ = (its.flatMap (·.cs))[i]? ∧ (W.cell? ⟨g, i, none⟩).isSome = true := fun i hi => by
    obtain ⟨g', c', hv, _, _, hc, _⟩ := ownsRow_cell hT.row (i := i) (by rw [hn]; exact hi)
    injection hv with e1 _ _
    injection e1 with e1
    injection e1 with e1
    subst e1
    refine ⟨hc, ?_⟩
    rw [hc, List.getElem?_eq_getElem (by rw [flat_len its hT.len, hn]; exact hi)]
    rfl
  have hk3 : k * 3 + 2 < n * 3 := by omega
  refine ⟨by rw [List.length_set, List.length_map, hn], fun _ => ⟨g, 0, rfl, Nat.lt_of_lt_of_le hgW hs, fun j a ha => ?_⟩⟩
  by_cases hj : j = k
  · subst hj
    rw [List.getElem?_set_self (by rw [List.length_map, hn]; exact hk)] at ha
    injection ha with ha
    subst ha
    obtain ⟨_, i0⟩ := old (j * 3) (by omega)
    obtain ⟨_, i1⟩ := old (j * 3 + 1) (by omega)
    obtain ⟨_, i2⟩ := old (j * 3 + 2) (by omega)
    obtain ⟨y0, i0⟩ := Option.isSome_iff_exists.1 i0
    obtain ⟨y1, i1⟩ := Option.isSome_iff_exists.1 i1
    obtain ⟨y2, i2⟩ := Option.isSome_iff_exists.1 i2
    refine ⟨[.string nm, .int .i64 ar, .slice A1 rs.length c1], rfl, fun i x hx => ?_, A1, c1, rfl, ?_, ho.len_max, hnm⟩
    · have hi : i = 0 ∨ i = 1 ∨ i = 2 := by have := (List.getElem?_eq_some_iff.1 hx).1; simp at this; omega
      rw [cellg]
      rcases hi with rfl | rfl | rfl
      · injection hx with hx; subst hx
        rw [show 0 + (j * 3 + 0) = j * 3 by omega, cell_set_other (by omega), cell_set_other (by omega)]
        exact cell_set_same i0
      · injection hx with hx; subst hx
        rw [show 0 + (j * 3 + 1) = j * 3 + 1 by omega, cell_set_other (by omega)]
        exact cell_set_same ((cell_set_other (by omega)).trans i1)
      · injection hx with hx; subst hx
        rw [show 0 + (j * 3 + 2) = j * 3 + 2 by omega]
        exact cell_set_same ((cell_set_other (by omega)).trans ((cell_set_other (by omega)).trans i2))
    · exact RdR.more ((ho.keepH fun i hi => oth i (by omega) (by omega) (by omega)).rd rfl) (Nat.le_trans hh1 hs)
  · rw [List.getElem?_set_ne (by omega), List.getElem?_map] at ha
    obtain ⟨t, ht, rfl⟩ := Option.map_eq_some_iff.1 ha
    have hjn : j < n := by rw [← hn]; exact (List.getElem?_eq_some_iff.1 ht).1
    have hm := List.mem_of_getElem? ht
    refine ⟨t.cs, hT.len t hm, fun i x hx => ?_, ?_⟩
    · have hi : i < 3 := by rw [← hT.len t hm]; exact (List.getElem?_eq_some_iff.1 hx).1
      rw [cellg, cell_set_other (by omega), cell_set_other (by omega), cell_set_other (by omega), Nat.zero_add, (old (j * 3 + i) (by omega)).1, flat_get its hT.len j i t ht hi]
      exact hx
    · have hE := eTab_ok.keep (hT.elem t hm) (w' := W') fun i hi => oth i (hF i (hT.inF t hm i hi)).1 (hT.bound i (hT.inF t hm i hi)) fun e => hFg.2 t hm (e ▸ hi)
      exact rTab_of hE fun i hi => Nat.lt_of_lt_of_le (hT.bound i (hT.inF t hm i hi)) hs⟩
theorem OwnSl.rdw {w : World} {F : Nat → Prop} {lo n c : Nat} {A : Option Addr} {ts : List Tab} (h : OwnSl 51 3 ETab w F (.slice A n c) ts) (hF : ∀ k, F k → lo ≤ k) : RdTw lo w A n ts :=
  OwnD.rdw (hi := w.heap.size) ⟨F, h, fun k hk => ⟨hF k hk, h.bound k hk⟩⟩ (Nat.le_refl _)
theorem RdTw.len {lo n : Nat} {w : World} {A : Option Addr} {ts : List Tab} (h : RdTw lo w A n ts) : ts.length = n := h.now.1
/-- The elements from k on. -/
theorem RdTw.drop {lo n g o k : Nat} {w : World} {ts : List Tab} (h : RdTw lo w (some ⟨g, o, none⟩) n ts) (hk : k < n) : RdTw lo w (some ⟨g, o + k * 3, none⟩) (n - k) (ts.drop k) := ⟨fun g' o' s' hA => by
    injection hA with hA
    injection hA with e1 _ _
    subst e1
    exact h.1 g o none rfl, fun W hs hb => by
  obtain ⟨h1, h2⟩ := h.2 W hs hb
  refine ⟨by rw [List.length_drop, h1], fun _ => ?_⟩
  obtain ⟨b, o', hA, hB, hc⟩ := h2 (by omega)
  injection hA with hA
  injection hA with e1 e2 _
  subst e1 e2
  refine ⟨g, o + k * 3, rfl, hB, fun j a ha => ?_⟩
  rw [List.getElem?_drop] at ha
  obtain ⟨cs, c1, c2, c3⟩ := hc (k + j) a ha
  refine ⟨cs, c1, fun i x hx => ?_, c3⟩
  have := c2 i x hx
  rwa [show o + ((k + j) * 3 + i) = o + k * 3 + (j * 3 + i) by rw [Nat.add_mul]; omega] at this⟩
/-- A database drawn that can be read. -/
def DrE (q : Nat) (w : World) (e : Ending) (w' : World) : Prop :=
  ∃ (A : Option Addr) (n c : Nat) (ts : List Tab), e = .returned (.agg #[.slice A n c]) ∧ SmlD ts ∧ RdTw w.heap.size w' A n ts ∧ Cur w' q ∧ Chg q (q + 1) w w'
theorem RdTw.setOff {lo n b i : Nat} {w : World} {A : Option Addr} {ts : List Tab} {x : Value} (h : RdTw lo w A n ts) (hb : b < lo) : RdTw lo (w.setCell ⟨b, i, none⟩ x) A n ts :=
  h.step (by simp [World.setCell]) fun k hk _ => Below.heap_setCell _ _ _ k (by show ¬ k = b; omega)
theorem RdTw.draw {lo q n : Nat} {w w' : World} {A : Option Addr} {ts : List Tab} (h : RdTw lo w A n ts) (hg : Chg q (q + 1) w w') (hq : q < lo) : RdTw lo w' A n ts := h.step hg.size fun k h1 h2 => hg.block k h2 (.inr (by omega))
theorem RdTw.below {lo n : Nat} {w w' : World} {A : Option Addr} {ts : List Tab} (h : RdTw lo w A n ts) (b : Below w.heap.size w w') : RdTw lo w' A n ts := h.step b.size fun k _ h2 => b.block k h2
theorem drE_of {q : Nat} {w W : World} {L : List (Nat × Nat × Value)} {ts : List Tab} {A : Option Addr} {n c : Nat} (dn : Dn q w L W) (hs : SmlD ts) (hr : RdTw (w.heap.size + 1) W A n ts) (x : Value) :
    DrE q w (.returned (.agg #[.slice A n c])) (W.setCell ⟨w.heap.size, 0, none⟩ x) :=
  ⟨A, n, c, ts, rfl, hs, (hr.setOff (Nat.lt_succ_self _)).down (Nat.le_succ _), dn.cur.setOff dn.hq, dn.chg.setOff (Nat.le_refl _)⟩
theorem Dn.setAny {q b i : Nat} {w W : World} {L : List (Nat × Nat × Value)} {x : Value} (h : Dn q w L W) (hb : w.heap.size ≤ b) : Dn q w [] (W.setCell ⟨b, i, none⟩ x) := (h.sub (L' := []) (by simp)).setOff hb (by simp)
theorem drE_app {q xb : Nat} {w W : World} {L : List (Nat × Nat × Value)} {ts : List Tab} {A : Option Addr} {n c : Nat} {F : Nat → Prop} (dn : Dn q w L W) (hF : OwnSl 51 3 ETab W F (.slice A n c) ts ∧ ∀ k, F k → w.heap.size ≤ k ∧ ∀ t ∈ L, t.1 ≠ k)
    (hrb : ∃ t ∈ L, t.1 = w.heap.size) (hxb : ∃ t ∈ L, t.1 = xb) (hs : SmlD ts) (x y : Value) : DrE q w (.returned (.agg #[.slice A n c])) ((W.setCell ⟨xb, 0, none⟩ x).setCell ⟨w.heap.size, 0, none⟩ y) := by
  obtain ⟨t, ht, hte⟩ := hrb
  obtain ⟨u, hu, rfl⟩ := hxb
  refine drE_of (dn.setAny (dn.cell u hu).1) hs ?_ y
  refine (hF.1.chgF eTab_ok (chgF_setCell W u.1 0 x) fun k hk e => (hF.2 k hk).2 u hu e.symm).rdw fun k hk => ?_
  have h1 := (hF.2 k hk).1
  have h2 := (hF.2 k hk).2 t ht
  omega
end Go.Proofs.YtccnhocekgikiaaGreat
