/- Tables as elements of a slice (three cells each), read and owned. Of no program but for the types' numbers. -/
import Derived.Test.YtmojjbhjjhdpaaaDoorTabR
import Derived.Test.YtmojjbhjjhdpaaaDoorLInv
namespace Go.Proofs.YtmojjbhjjhdpaaaDoor
open Go.RowKit Go.Deep

structure Tab where
  nm : ByteArray
  ar : Int
  rs : List (List Int)
/-- A table among the cells of a slice. -/
def RTab (w : World) (B : Nat) (cs : List Value) (t : Tab) : Prop := ∃ A c, cs = [.string t.nm, .int .i64 t.ar, .slice A t.rs.length c] ∧ RdR w B A t.rs.length t.rs ∧ t.rs.length ≤ maxLen ∧ t.nm.size ≤ maxLen
theorem rTab_ok : RdOk RTab where
  keep := fun ⟨A, c, h1, h2, h3, h4⟩ hk => ⟨A, c, h1, RdSl.keep rRow_ok h2 hk, h3, h4⟩
  more := fun ⟨A, c, h1, h2, h3, h4⟩ hB => ⟨A, c, h1, RdR.more h2 hB, h3, h4⟩
abbrev RdT (w : World) (B : Nat) (A : Option Addr) (n : Nat) (ts : List Tab) : Prop := RdSl 3 RTab w B A n ts
theorem RdT.at_ {w : World} {B n : Nat} {A : Option Addr} {ts : List Tab} (h : RdT w B A n ts) {k : Nat} (hk : k < n) :
    ∃ b o t A' c', A = some ⟨b, o, none⟩ ∧ b < B ∧ ts[k]? = some t ∧ w.cell? ⟨b, o + k * 3, none⟩ = some (.string t.nm) ∧ w.cell? ⟨b, o + k * 3 + 1, none⟩ = some (.int .i64 t.ar) ∧ w.cell? ⟨b, o + k * 3 + 2, none⟩ = some (.slice A' t.rs.length c') ∧
      RdR w B A' t.rs.length t.rs ∧ t.rs.length ≤ maxLen ∧ t.nm.size ≤ maxLen := by
  obtain ⟨b, o, t, cs, hA, hb, hr, _, hc, A', c', rfl, hrd, hm, hn⟩ := RdSl.at_ h hk
  refine ⟨b, o, t, A', c', hA, hb, hr, ?_, ?_, ?_, hrd, hm, hn⟩
  · have := hc 0 _ rfl
    rwa [Nat.add_zero] at this
  · have := hc 1 _ rfl
    rwa [← Nat.add_assoc] at this
  · have := hc 2 _ rfl
    rwa [← Nat.add_assoc] at this
theorem RdT.chg {w w' : World} {B n a b : Nat} {A : Option Addr} {ts : List Tab} (h : RdT w B A n ts) (c : Chg a b w w') (hB : B ≤ a) (hs : B ≤ w.heap.size) : RdT w' B A n ts := RdSl.keep rTab_ok h fun k hk => c.block k (by omega) (by omega)
theorem RdT.belowB {w w' : World} {B B' n : Nat} {A : Option Addr} {ts : List Tab} (h : RdT w B A n ts) (b : Below B' w w') (hB : B ≤ B') : RdT w' B A n ts := RdSl.below rTab_ok h b hB
theorem RdT.more {w : World} {B B' n : Nat} {A : Option Addr} {ts : List Tab} (h : RdT w B A n ts) (hB : B ≤ B') : RdT w B' A n ts := RdSl.more rTab_ok h hB
theorem Qt.rdT {w w' : World} {A : Option Addr} {n : Nat} {ts : List Tab} (hq : Qt w w') (h : RdT w w.heap.size A n ts) : RdT w' w'.heap.size A n ts := by
  have := RdT.belowB h (hq.below w.heap.size) (Nat.le_refl _)
  rwa [← hq.heap] at this

theorem rdT_next {W w1 : World} {A : Option Addr} {n : Nat} {ts : List Tab} (b : Below W.heap.size W w1) (h : RdT W W.heap.size A n ts) : RdT w1 w1.heap.size A n ts := (RdT.belowB h b (Nat.le_refl _)).more b.size
theorem OwnT.keepH {α : Type} {e : TypeId} {size : Nat} {E : World → (Nat → Prop) → List Value → α → Prop} {w w' : World} {F : Nat → Prop} {v : Value} {ts : List (Item α)} (ok : OwnOk E) (h : OwnT e size E w F v ts) (hk : ∀ k, F k → w'.heap[k]? = w.heap[k]?) : OwnT e size E w' F v ts :=
  ⟨ownsRow_keep h.row fun g hg => hk g (h.head g hg).1, h.len, fun t ht => ok.keep (h.elem t ht) fun k hf => hk k (h.inF t ht k hf), h.apart, h.head, h.inF, fun k hf => lt_of_heap_eq (hk k hf) (h.bound k hf)⟩
theorem OwnR.keepH {w w' : World} {lo hi : Nat} {v : Value} {rs : List (List Int)} (h : OwnR w lo hi v rs) (hk : ∀ k, lo ≤ k ∧ k < hi → w'.heap[k]? = w.heap[k]?) : OwnR w' lo hi v rs := by
  obtain ⟨F, ⟨ts, h0, h1⟩, h2⟩ := h
  exact ⟨F, ⟨ts, h0, h1.keepH eRow_ok fun k hf => hk k (h2 k hf)⟩, h2⟩
/-- A table of the call's own. -/
def ETab (w : World) (F : Nat → Prop) (cs : List Value) (t : Tab) : Prop :=
  ∃ A c lo hi, cs = [.string t.nm, .int .i64 t.ar, .slice A t.rs.length c] ∧ OwnR w lo hi (.slice A t.rs.length c) t.rs ∧ t.nm.size ≤ maxLen ∧ t.rs.length ≤ maxLen ∧ (∀ k, lo ≤ k ∧ k < hi → F k) ∧ ∀ k, F k → k < w.heap.size
theorem eTab_ok : OwnOk ETab where
  bound := fun ⟨_, _, _, _, _, _, _, _, _, h⟩ => h
  keep := fun ⟨A, c, lo, hi, h1, h2, h3, h3', h4, h5⟩ hk => ⟨A, c, lo, hi, h1, h2.keepH fun k hk' => hk k (h4 k hk'), h3, h3', h4, fun k hf => lt_of_heap_eq (hk k hf) (h5 k hf)⟩
theorem OwnR.len_max {w : World} {lo hi : Nat} {v : Value} {rs : List (List Int)} (h : OwnR w lo hi v rs) : rs.length ≤ maxLen := by
  obtain ⟨F, ⟨ts, rfl, h1⟩, _⟩ := h
  rw [List.length_map]
  exact ownsRow_max h1.row
theorem ETab.of {w : World} {lo hi c : Nat} {A : Option Addr} {nm : ByteArray} {ar : Int} {rs : List (List Int)} (h : OwnR w lo hi (.slice A rs.length c) rs) (hn : nm.size ≤ maxLen) (hh : hi ≤ w.heap.size) :
    ETab w (fun k => lo ≤ k ∧ k < hi) [.string nm, .int .i64 ar, .slice A rs.length c] ⟨nm, ar, rs⟩ :=
  ⟨A, c, lo, hi, rfl, h, hn, h.len_max, fun _ h => h, fun k hk => by omega⟩
theorem rTab_of {w : World} {G : Nat → Prop} {B : Nat} {cs : List Value} {t : Tab} (h : ETab w G cs t) (hB : ∀ k, G k → k < B) : RTab w B cs t := by
  obtain ⟨A, c, lo, hi, h1, h2, h3, h3', h4, h5⟩ := h
  obtain ⟨F, k1, k2⟩ := h2
  exact ⟨A, c, h1, k1.rd rfl (by omega) (fun k hk => hB k (h4 k (k2 k hk))) fun G cs a hE hG => rRow_of hE hG, h3', h3⟩

/-- A slice of tables of the call's own, in blocks from lo to hi. -/
def OwnD (w : World) (lo hi : Nat) (v : Value) (ts : List Tab) : Prop := ∃ F, OwnSl 41 3 ETab w F v ts ∧ ∀ k, F k → lo ≤ k ∧ k < hi
theorem OwnD.form {w : World} {lo hi : Nat} {v : Value} {ts : List Tab} (h : OwnD w lo hi v ts) : ∃ A c, v = .slice A ts.length c := by
  obtain ⟨F, h1, _⟩ := h
  exact h1.form
theorem OwnD.len_eq {w : World} {lo hi n c : Nat} {A : Option Addr} {ts : List Tab} (h : OwnD w lo hi (.slice A n c) ts) : ts.length = n := by
  obtain ⟨A', c', hv⟩ := h.form
  injection hv with _ hn _
  exact hn.symm
theorem OwnD.rd {w : World} {lo hi n c : Nat} {A : Option Addr} {ts : List Tab} (h : OwnD w lo hi (.slice A n c) ts) (hn : ts.length = n) : RdT w hi A n ts := by
  obtain ⟨F, h1, h2⟩ := h
  exact h1.rd hn (by omega) (fun k hk => (h2 k hk).2) fun G cs a hE hG => rTab_of hE hG
theorem OwnD.chg {w w' : World} {lo hi a b : Nat} {v : Value} {ts : List Tab} (h : OwnD w lo hi v ts) (c : Chg a b w w') (hd : hi ≤ a ∨ b ≤ lo) : OwnD w' lo hi v ts := by
  obtain ⟨F, h1, h2⟩ := h
  exact ⟨F, h1.keep eTab_ok c.size fun k hk => c.block k (h1.bound k hk) (by have := h2 k hk; omega), h2⟩
theorem OwnD.below {w w' : World} {lo hi B : Nat} {v : Value} {ts : List Tab} (h : OwnD w lo hi v ts) (b : Below B w w') (hd : hi ≤ B) : OwnD w' lo hi v ts := by
  obtain ⟨F, h1, h2⟩ := h
  exact ⟨F, h1.keep eTab_ok b.size fun k hk => b.block k (by have := h2 k hk; omega), h2⟩
theorem OwnD.wide {w : World} {lo hi hi' : Nat} {v : Value} {ts : List Tab} (h : OwnD w lo hi v ts) (hd : hi ≤ hi') : OwnD w lo hi' v ts := by
  obtain ⟨F, h1, h2⟩ := h
  exact ⟨F, h1, fun k hk => by have := h2 k hk; omega⟩
theorem OwnD.down {w : World} {lo lo' hi : Nat} {v : Value} {ts : List Tab} (h : OwnD w lo hi v ts) (hd : lo' ≤ lo) : OwnD w lo' hi v ts := by
  obtain ⟨F, h1, h2⟩ := h
  exact ⟨F, h1, fun k hk => by have := h2 k hk; omega⟩
theorem OwnD.nil (w : World) (lo hi : Nat) : OwnD w lo hi (.slice none 0 0) [] := ⟨fun _ => False, OwnSl.nil w _ (by simp), by simp⟩
theorem OwnD.setOff {w : World} {lo hi b i : Nat} {v x : Value} {ts : List Tab} (h : OwnD w lo hi v ts) (hb : b < lo ∨ hi ≤ b) : OwnD (w.setCell ⟨b, i, none⟩ x) lo hi v ts := by
  obtain ⟨F, h1, h2⟩ := h
  exact ⟨F, h1.chgF eTab_ok (chgF_setCell w b i x) fun k hk e => by have := h2 k hk; omega, h2⟩
theorem OwnD.drewN {w : World} {lo hi : Nat} {v : Value} {ts : List Tab} (h : OwnD w lo hi v ts) (q : Nat) : OwnD (w.drewN q) lo hi v ts := by
  obtain ⟨F, h1, h2⟩ := h
  exact ⟨F, h1.chgF eTab_ok (chgF_drewN w q fun _ => False) (fun _ _ => id), h2⟩
theorem OwnD.alloc {w : World} {lo hi : Nat} {v : Value} {ts : List Tab} (h : OwnD w lo hi v ts) (o : Obj) : OwnD (w.alloc o) lo hi v ts := by
  obtain ⟨F, h1, h2⟩ := h
  exact ⟨F, h1.chgF eTab_ok (chgF_alloc w o fun _ => False) (fun _ _ => id), h2⟩
/-- Owned tables, laid open for one table more. -/
theorem OwnD.open_ {w : World} {lo hi : Nat} {v : Value} {ts : List Tab} (h : OwnD w lo hi v ts) : ∃ xs : List Value, w.ownsRow 0 41 3 v ts.length xs ∧ (∀ g, v.ownBlock = some g → lo ≤ g ∧ g < hi ∧ g < w.heap.size) ∧
    ∀ (w1 w' : World) (A1 : Option Addr) (nm : ByteArray) (ar : Int) (rs : List (List Int)) (c1 lo1 hi1 g cap : Nat), Below w.heap.size w w1 → OwnR w1 lo1 hi1 (.slice A1 rs.length c1) rs → nm.size ≤ maxLen → hi ≤ lo1 → lo ≤ lo1 → hi1 ≤ w1.heap.size → lo ≤ w1.heap.size →
      w'.ownsRow 0 41 3 (.slice (some ⟨g, 0, none⟩) (ts.length + 1) cap) (ts.length + 1) (xs ++ [.string nm, .int .i64 ar, .slice A1 rs.length c1]) → w1.grownBy w' v.ownBlock → (v.ownBlock = some g ∨ g = w1.heap.size) →
      OwnD w' lo w'.heap.size (.slice (some ⟨g, 0, none⟩) (ts.length + 1) cap) (ts ++ [⟨nm, ar, rs⟩]) := by
  obtain ⟨F, h1, h2⟩ := h
  obtain ⟨xs, k1, k2, k3⟩ := h1.open_ eTab_ok
  refine ⟨xs, k1, fun g hg => ⟨(h2 g (k2 g hg)).1, (h2 g (k2 g hg)).2, h1.bound g (k2 g hg)⟩, fun w1 w' A1 nm ar rs c1 lo1 hi1 g cap hb ho hnm hlo hlo' hhi hl hown hgrow hat => ?_⟩
  have := k3 w1 w' (fun k => lo1 ≤ k ∧ k < hi1) [.string nm, .int .i64 ar, .slice A1 rs.length c1] ⟨nm, ar, rs⟩ g cap ⟨hb.os, hb.tape, hb.output, hb.size, fun i hi _ => hb.block i hi⟩ (ETab.of ho hnm hhi) rfl (fun k hk hk' => by have := h2 k hk; omega) hown hgrow (by rcases hat with h | h; exact .inl h; exact .inr (by omega))
  refine ⟨_, this, fun k hk => ⟨?_, this.bound k hk⟩⟩
  rcases hk with hk | hk | rfl
  · exact (h2 k hk).1
  · omega
  · rcases hat with h | h
    · exact (h2 k (k2 k h)).1
    · omega

/-- Element k of owned tables: its cells, its rows, and what becomes of the whole. -/
theorem OwnD.at_ {w : World} {lo hi n c k : Nat} {A : Option Addr} {ts : List Tab} (h : OwnD w lo hi (.slice A n c) ts) (hn : ts.length = n) (hk : k < n) :
    ∃ g t A' c' lo' hi', A = some ⟨g, 0, none⟩ ∧ lo ≤ g ∧ g < hi ∧ g < w.heap.size ∧ ts[k]? = some t ∧
      (w.cell? ⟨g, k * 3, none⟩ = some (.string t.nm) ∧ w.cell? ⟨g, k * 3 + 1, none⟩ = some (.int .i64 t.ar) ∧ w.cell? ⟨g, k * 3 + 2, none⟩ = some (.slice A' t.rs.length c')) ∧
      (w.frozen? ⟨g, k * 3, none⟩ = false ∧ w.frozen? ⟨g, k * 3 + 1, none⟩ = false ∧ w.frozen? ⟨g, k * 3 + 2, none⟩ = false) ∧ OwnR w lo' hi' (.slice A' t.rs.length c') t.rs ∧ t.rs.length ≤ maxLen ∧
      (∀ w' rs', rs'.length = t.rs.length → OwnR w' lo' hi' (.slice A' t.rs.length c') rs' → Chg lo' hi' w w' → OwnD w' lo hi (.slice A n c) (ts.set k ⟨t.nm, t.ar, rs'⟩) ∧ Chg lo hi w w') ∧
      (∀ w1 (nm : ByteArray), nm.size ≤ maxLen → Below w.heap.size w w1 → OwnD (w1.setCell ⟨g, k * 3, none⟩ (.string nm)) lo hi (.slice A n c) (ts.set k ⟨nm, t.ar, t.rs⟩)) ∧
      (∀ w1 (ar : Int), Below w.heap.size w w1 → OwnD (w1.setCell ⟨g, k * 3 + 1, none⟩ (.int .i64 ar)) lo hi (.slice A n c) (ts.set k ⟨t.nm, ar, t.rs⟩)) ∧
      (∀ w1 A1 (rs : List (List Int)) c1 lo1 hi1, Below w.heap.size w w1 → OwnR w1 lo1 hi1 (.slice A1 rs.length c1) rs → w.heap.size ≤ lo1 → hi1 ≤ w1.heap.size → lo ≤ w.heap.size → OwnD (w1.setCell ⟨g, k * 3 + 2, none⟩ (.slice A1 rs.length c1)) lo w1.heap.size (.slice A n c) (ts.set k ⟨t.nm, t.ar, rs⟩)) := by
  obtain ⟨F, h1, h2⟩ := h
  subst hn
  obtain ⟨g, cap, hv, hFg, cs, t, H, hr, hl, hE, hH, hc, hup, hput⟩ := h1.at_ eTab_ok hk (by omega)
  injection hv with hA _ _
  have hE0 := hE
  obtain ⟨A', c', lo', hi', rfl, ho, hnm, hrl, hiv, hHb⟩ := hE
  have c0 := hc 0 _ rfl
  have c1 := hc 1 _ rfl
  have c2 := hc 2 _ rfl
  rw [Nat.add_zero] at c0
  have cF : ∀ w1, Below w.heap.size w w1 → ChgF (fun _ => False) w w1 := fun w1 b => ⟨b.os, b.tape, b.output, b.size, fun i hi _ => b.block i hi⟩
  have fin : ∀ (w1 : World) (i : Nat) (x : Value) (ts' : List Tab), OwnSl 41 3 ETab (w1.setCell ⟨g, i, none⟩ x) (fun k => F k ∨ H k) (.slice A ts.length c) ts' → OwnD (w1.setCell ⟨g, i, none⟩ x) lo hi (.slice A ts.length c) ts' := fun w1 i x ts' hh =>
    ⟨_, hh, fun k hk => by rcases hk with hk | hk; exact h2 k hk; exact h2 k (hH k hk).1⟩
  refine ⟨g, t, A', c', lo', hi', hA, (h2 g hFg).1, (h2 g hFg).2, h1.bound g hFg, hr, ⟨c0.1, c1.1, c2.1⟩, ⟨c0.2, c1.2, c2.2⟩, ho, hrl, fun w' rs' hl' ho' hch => ?_, fun w1 nm hnm' b => ?_, fun w1 ar b => ?_, fun w1 A1 rs c1' lo1 hi1 b ho1 hlo1 hhi1 hlo => ?_⟩
  · have hcF : ChgF H w w' := ⟨hch.os, hch.tape, hch.output, hch.size, fun k hk hne => hch.block k hk (by
      rcases Nat.lt_or_ge k lo' with h | h
      · exact .inl h
      · rcases Nat.lt_or_ge k hi' with h' | h'
        · exact absurd (hiv k ⟨h, h'⟩) hne
        · exact .inr h')⟩
    have hE' : ETab w' H [.string t.nm, .int .i64 t.ar, .slice A' t.rs.length c'] ⟨t.nm, t.ar, rs'⟩ := ⟨A', c', lo', hi', by rw [hl'], by rw [hl']; exact ho', hnm, by rw [hl']; exact hrl, hiv, fun k hk => Nat.lt_of_lt_of_le (hHb k hk) hch.size⟩
    exact ⟨⟨F, hup w' _ hcF hE', h2⟩, ⟨hcF.os, hcF.tape, hcF.output, hcF.size, fun i hi hne => hcF.block i hi fun hHi => by have := h2 i (hH i hHi).1; omega⟩⟩
  · have := hput w1 H 0 (.string nm) ⟨nm, t.ar, t.rs⟩ (cF w1 b) (by omega) (eTab_ok.keep (w := w) (w' := w1) (cs := [.string nm, .int .i64 t.ar, .slice A' t.rs.length c']) (a := ⟨nm, t.ar, t.rs⟩) ⟨A', c', lo', hi', rfl, ho, hnm', hrl, hiv, hHb⟩ fun k hk => b.block k (hHb k hk)) (fun k hk => .inl hk)
    rw [Nat.add_zero] at this
    exact fin _ _ _ _ this
  · exact fin _ _ _ _ (hput w1 H 1 (.int .i64 ar) ⟨t.nm, ar, t.rs⟩ (cF w1 b) (by omega) (eTab_ok.keep (w := w) (w' := w1) (cs := [.string t.nm, .int .i64 ar, .slice A' t.rs.length c']) (a := ⟨t.nm, ar, t.rs⟩) ⟨A', c', lo', hi', rfl, ho, hnm, hrl, hiv, hHb⟩ fun k hk => b.block k (hHb k hk)) (fun k hk => .inl hk))
  · have := hput w1 (fun i => lo1 ≤ i ∧ i < hi1) 2 (.slice A1 rs.length c1') ⟨t.nm, t.ar, rs⟩ (cF w1 b) (by omega) (ETab.of ho1 hnm hhi1) (fun i hi => .inr (by omega))
    refine ⟨_, this, fun i hi => ?_⟩
    have hbd := this.bound i hi
    simp [World.setCell] at hbd
    rcases hi with hi | hi
    · exact ⟨(h2 i hi).1, hbd⟩
    · exact ⟨by omega, hbd⟩

theorem setCell_comm (w : World) (g i j : Nat) (x y : Value) (h : i ≠ j) : (w.setCell ⟨g, i, none⟩ x).setCell ⟨g, j, none⟩ y = (w.setCell ⟨g, j, none⟩ y).setCell ⟨g, i, none⟩ x := by
  have e : ∀ (c : Array Value), (c.setIfInBounds i x).setIfInBounds j y = (c.setIfInBounds j y).setIfInBounds i x := fun c => Array.setIfInBounds_comm x y h
  unfold World.setCell
  congr 1
  apply Array.ext_getElem?
  intro k
  simp only [Array.getElem?_modify]
  by_cases hk : g = k
  · simp only [if_pos hk]
    cases w.heap[k]? with
    | none => rfl
    | some o => cases o <;> simp [e]
  · simp only [if_neg hk]
/-- Element k takes a whole new table. -/
theorem OwnD.put3 {w : World} {lo hi n c k : Nat} {A : Option Addr} {ts : List Tab} (h : OwnD w lo hi (.slice A n c) ts) (hn : ts.length = n) (hk : k < n) :
    ∃ g, A = some ⟨g, 0, none⟩ ∧ lo ≤ g ∧ g < hi ∧ g < w.heap.size ∧ (∀ i, i < 3 → (w.cell? ⟨g, k * 3 + i, none⟩).isSome = true ∧ w.frozen? ⟨g, k * 3 + i, none⟩ = false) ∧
      ∀ (w1 : World) (nm : ByteArray) (ar : Int) (A1 : Option Addr) (rs : List (List Int)) (c1 lo1 hi1 : Nat), nm.size ≤ maxLen → Below w.heap.size w w1 → OwnR w1 lo1 hi1 (.slice A1 rs.length c1) rs → w.heap.size ≤ lo1 → hi1 ≤ w1.heap.size → lo ≤ w.heap.size →
        OwnD (((w1.setCell ⟨g, k * 3, none⟩ (.string nm)).setCell ⟨g, k * 3 + 1, none⟩ (.int .i64 ar)).setCell ⟨g, k * 3 + 2, none⟩ (.slice A1 rs.length c1)) lo w1.heap.size (.slice A n c) (ts.set k ⟨nm, ar, rs⟩) := by
  obtain ⟨g, t, A', c', lo', hi', hA, h1, h2, h3, ht, ⟨k0, k1, k2⟩, ⟨f0, f1, f2⟩, _, _, _, _, _, hp⟩ := h.at_ hn hk
  refine ⟨g, hA, h1, h2, h3, fun i hi => ?_, fun w1 nm ar A1 rs c1 lo1 hi1 hnm b ho hlo1 hhi1 hlo => ?_⟩
  · have : i = 0 ∨ i = 1 ∨ i = 2 := by omega
    rcases this with rfl | rfl | rfl
    · exact ⟨by rw [Nat.add_zero, k0]; rfl, by rw [Nat.add_zero]; exact f0⟩
    · exact ⟨by rw [k1]; rfl, f1⟩
    · exact ⟨by rw [k2]; rfl, f2⟩
  · rw [setCell_comm _ g (k * 3 + 1) (k * 3 + 2) _ _ (by omega), setCell_comm w1 g (k * 3) (k * 3 + 2) _ _ (by omega)]
    have d1 := hp w1 A1 rs c1 lo1 hi1 b ho hlo1 hhi1 hlo
    subst hA
    have hl1 : (ts.set k ⟨t.nm, t.ar, rs⟩).length = n := by rw [List.length_set, hn]
    have hkt : k < ts.length := by rw [hn]; exact hk
    obtain ⟨g2, t2, _, _, _, _, hA2, _, _, _, ht2, _, _, _, _, _, hs2, _, _⟩ := d1.at_ hl1 hk
    injection hA2 with hA2
    injection hA2 with hA2
    subst hA2
    rw [List.getElem?_set_self hkt] at ht2
    injection ht2 with ht2
    subst ht2
    have d2 := hs2 _ nm hnm (Below.refl _ _)
    rw [List.set_set] at d2
    have hl2 : (ts.set k ⟨nm, t.ar, rs⟩).length = n := by rw [List.length_set, hn]
    obtain ⟨g3, t3, _, _, _, _, hA3, _, _, _, ht3, _, _, _, _, _, _, hs3, _⟩ := d2.at_ hl2 hk
    injection hA3 with hA3
    injection hA3 with hA3
    subst hA3
    rw [List.getElem?_set_self hkt] at ht3
    injection ht3 with ht3
    subst ht3
    have d3 := hs3 _ ar (Below.refl _ _)
    rw [List.set_set] at d3
    exact d3
/-- Element k takes a new name and a new number; its rows may then change in place. -/
theorem OwnD.mark3 {w : World} {lo hi n c k : Nat} {A : Option Addr} {ts : List Tab} (h : OwnD w lo hi (.slice A n c) ts) (hn : ts.length = n) (hk : k < n) :
    ∃ g t A' c', A = some ⟨g, 0, none⟩ ∧ lo ≤ g ∧ g < hi ∧ g < w.heap.size ∧ ts[k]? = some t ∧
      (w.cell? ⟨g, k * 3, none⟩ = some (.string t.nm) ∧ w.cell? ⟨g, k * 3 + 1, none⟩ = some (.int .i64 t.ar) ∧ w.cell? ⟨g, k * 3 + 2, none⟩ = some (.slice A' t.rs.length c')) ∧
      (w.frozen? ⟨g, k * 3, none⟩ = false ∧ w.frozen? ⟨g, k * 3 + 1, none⟩ = false) ∧ t.rs.length ≤ maxLen ∧
      ∀ (w1 : World) (nm : ByteArray) (ar : Int), nm.size ≤ maxLen → Below w.heap.size w w1 →
        ∃ lo' hi', OwnR ((w1.setCell ⟨g, k * 3, none⟩ (.string nm)).setCell ⟨g, k * 3 + 1, none⟩ (.int .i64 ar)) lo' hi' (.slice A' t.rs.length c') t.rs ∧
          ∀ w' rs', rs'.length = t.rs.length → OwnR w' lo' hi' (.slice A' t.rs.length c') rs' → Chg lo' hi' ((w1.setCell ⟨g, k * 3, none⟩ (.string nm)).setCell ⟨g, k * 3 + 1, none⟩ (.int .i64 ar)) w' →
            OwnD w' lo hi (.slice A n c) (ts.set k ⟨nm, ar, rs'⟩) ∧ Chg lo hi ((w1.setCell ⟨g, k * 3, none⟩ (.string nm)).setCell ⟨g, k * 3 + 1, none⟩ (.int .i64 ar)) w' := by
  obtain ⟨g, t, A', c', lo', hi', hA, h1, h2, h3, ht, ⟨k0, k1, k2⟩, ⟨f0, f1, f2⟩, _, hrl, _, hs, _, _⟩ := h.at_ hn hk
  refine ⟨g, t, A', c', hA, h1, h2, h3, ht, ⟨k0, k1, k2⟩, ⟨f0, f1⟩, hrl, fun w1 nm ar hnm b => ?_⟩
  have d1 := hs w1 nm hnm b
  subst hA
  have hkt : k < ts.length := by rw [hn]; exact hk
  have hl1 : (ts.set k ⟨nm, t.ar, t.rs⟩).length = n := by rw [List.length_set, hn]
  obtain ⟨g2, t2, _, _, _, _, hA2, _, _, _, ht2, _, _, _, _, _, _, hs2, _⟩ := d1.at_ hl1 hk
  injection hA2 with hA2
  injection hA2 with hA2
  subst hA2
  rw [List.getElem?_set_self hkt] at ht2
  injection ht2 with ht2
  subst ht2
  have d2 := hs2 _ ar (Below.refl _ _)
  rw [List.set_set] at d2
  have hl2 : (ts.set k ⟨nm, ar, t.rs⟩).length = n := by rw [List.length_set, hn]
  obtain ⟨g3, t3, A3, c3, lo3, hi3, hA3, _, _, _, ht3, ⟨_, _, q2⟩, _, ho3, _, hup, _, _, _⟩ := d2.at_ hl2 hk
  injection hA3 with hA3
  injection hA3 with hA3
  subst hA3
  rw [List.getElem?_set_self hkt] at ht3
  injection ht3 with ht3
  subst ht3
  rw [cell_set_other (by omega), cell_set_other (by omega), b.cell (p := ⟨g, k * 3 + 2, none⟩) h3, k2] at q2
  injection q2 with q2
  injection q2 with q3 _ q4
  subst q3 q4
  refine ⟨lo3, hi3, ho3, fun w' rs' hl ho' hc => ?_⟩
  have := hup w' rs' hl ho' hc
  rw [List.set_set] at this
  exact this
end Go.Proofs.YtmojjbhjjhdpaaaDoor
