/- UTb, UPlain, ULaw, in one text (a claim has at most 60 files). -/
import Derived.Test.YtimlecfneibjlaaTb
import Derived.Test.YtimlecfneibjlaaUpd
import Derived.Test.YtimlecfneibjlaaDbPlain
import Derived.Test.YtimlecfneibjlaaDbLaw
namespace Go.Proofs.Ytimlecfneibjlaa
open Go.RowKit Go.Deep

structure Upd where
  nm : ByteArray
  ins : Bool
  zs : List Int
theorem OwnI.keepH {w w' : World} {lo hi : Nat} {v : Value} {zs : List Int} (h : OwnI w lo hi v zs) (hk : ∀ k, lo ≤ k ∧ k < hi → w'.heap[k]? = w.heap[k]?) : OwnI w' lo hi v zs :=
  ⟨own_keep h.1 fun g hg => hk g ⟨(h.lt g hg).1, (h.lt g hg).2.1⟩, h.2⟩
theorem OwnI.rdTo {w : World} {lo hi c B : Nat} {A : Option Addr} {zs : List Int} (h : OwnI w lo hi (.slice A zs.length c) zs) (hB : ∀ g, (Value.slice A zs.length c).ownBlock = some g → g < B) : RdI w B A zs.length zs :=
  OwnI.rd (lo := lo) (hi := B) ⟨h.1, fun g hg => hB g hg⟩ rfl
/-- A table among the cells of a slice. -/
def RUpd (w : World) (B : Nat) (cs : List Value) (t : Upd) : Prop := ∃ A c, cs = [.string t.nm, .bool t.ins, .slice A t.zs.length c] ∧ RdI w B A t.zs.length t.zs ∧ t.zs.length ≤ maxLen ∧ t.nm.size ≤ maxLen
theorem rUpd_ok : RdOk RUpd where
  keep := fun ⟨A, c, h1, h2, h3, h4⟩ hk => ⟨A, c, h1, RdI.keep h2 fun p hp => World.cell?_of_block (hk p.block hp), h3, h4⟩
  more := fun ⟨A, c, h1, h2, h3, h4⟩ hB => ⟨A, c, h1, RdI.more h2 hB, h3, h4⟩
abbrev RdU (w : World) (B : Nat) (A : Option Addr) (n : Nat) (ts : List Upd) : Prop := RdSl 3 RUpd w B A n ts
theorem RdU.at_ {w : World} {B n : Nat} {A : Option Addr} {ts : List Upd} (h : RdU w B A n ts) {k : Nat} (hk : k < n) :
    ∃ b o t A' c', A = some ⟨b, o, none⟩ ∧ b < B ∧ ts[k]? = some t ∧ w.cell? ⟨b, o + k * 3, none⟩ = some (.string t.nm) ∧ w.cell? ⟨b, o + k * 3 + 1, none⟩ = some (.bool t.ins) ∧ w.cell? ⟨b, o + k * 3 + 2, none⟩ = some (.slice A' t.zs.length c') ∧
      RdI w B A' t.zs.length t.zs ∧ t.zs.length ≤ maxLen ∧ t.nm.size ≤ maxLen := by
  obtain ⟨b, o, t, cs, hA, hb, hr, _, hc, A', c', rfl, hrd, hm, hn⟩ := RdSl.at_ h hk
  refine ⟨b, o, t, A', c', hA, hb, hr, ?_, ?_, ?_, hrd, hm, hn⟩
  · have := hc 0 _ rfl
    rwa [Nat.add_zero] at this
  · have := hc 1 _ rfl
    rwa [← Nat.add_assoc] at this
  · have := hc 2 _ rfl
    rwa [← Nat.add_assoc] at this
theorem RdU.chg {w w' : World} {B n a b : Nat} {A : Option Addr} {ts : List Upd} (h : RdU w B A n ts) (c : Chg a b w w') (hB : B ≤ a) (hs : B ≤ w.heap.size) : RdU w' B A n ts := RdSl.keep rUpd_ok h fun k hk => c.block k (by omega) (by omega)
theorem RdU.belowB {w w' : World} {B B' n : Nat} {A : Option Addr} {ts : List Upd} (h : RdU w B A n ts) (b : Below B' w w') (hB : B ≤ B') : RdU w' B A n ts := RdSl.below rUpd_ok h b hB
theorem RdU.more {w : World} {B B' n : Nat} {A : Option Addr} {ts : List Upd} (h : RdU w B A n ts) (hB : B ≤ B') : RdU w B' A n ts := RdSl.more rUpd_ok h hB
theorem Qt.rdU {w w' : World} {A : Option Addr} {n : Nat} {ts : List Upd} (hq : Qt w w') (h : RdU w w.heap.size A n ts) : RdU w' w'.heap.size A n ts := by
  have := RdU.belowB h (hq.below w.heap.size) (Nat.le_refl _)
  rwa [← hq.heap] at this

theorem rdU_next {W w1 : World} {A : Option Addr} {n : Nat} {ts : List Upd} (b : Below W.heap.size W w1) (h : RdU W W.heap.size A n ts) : RdU w1 w1.heap.size A n ts := (RdU.belowB h b (Nat.le_refl _)).more b.size
/-- A table of the call's own. -/
def EUpd (w : World) (F : Nat → Prop) (cs : List Value) (t : Upd) : Prop :=
  ∃ A c lo hi, cs = [.string t.nm, .bool t.ins, .slice A t.zs.length c] ∧ OwnI w lo hi (.slice A t.zs.length c) t.zs ∧ t.nm.size ≤ maxLen ∧ t.zs.length ≤ maxLen ∧ (∀ k, lo ≤ k ∧ k < hi → F k) ∧ ∀ k, F k → k < w.heap.size
theorem eUpd_ok : OwnOk EUpd where
  bound := fun ⟨_, _, _, _, _, _, _, _, _, h⟩ => h
  keep := fun ⟨A, c, lo, hi, h1, h2, h3, h3', h4, h5⟩ hk => ⟨A, c, lo, hi, h1, h2.keepH fun k hk' => hk k (h4 k hk'), h3, h3', h4, fun k hf => lt_of_heap_eq (hk k hf) (h5 k hf)⟩
theorem OwnI.len_max {w : World} {lo hi : Nat} {v : Value} {zs : List Int} (h : OwnI w lo hi v zs) : zs.length ≤ maxLen := ownsRow_max h.1
theorem EUpd.of {w : World} {lo hi c : Nat} {A : Option Addr} {nm : ByteArray} {ins : Bool} {rs : List Int} (h : OwnI w lo hi (.slice A rs.length c) rs) (hn : nm.size ≤ maxLen) (hh : hi ≤ w.heap.size) :
    EUpd w (fun k => lo ≤ k ∧ k < hi) [.string nm, .bool ins, .slice A rs.length c] ⟨nm, ins, rs⟩ :=
  ⟨A, c, lo, hi, rfl, h, hn, h.len_max, fun _ h => h, fun k hk => by omega⟩
theorem rUpd_of {w : World} {G : Nat → Prop} {B : Nat} {cs : List Value} {t : Upd} (h : EUpd w G cs t) (hB : ∀ k, G k → k < B) : RUpd w B cs t := by
  obtain ⟨A, c, lo, hi, h1, h2, h3, h3', h4, h5⟩ := h
  refine ⟨A, c, h1, ?_, h3', h3⟩
  have h6 := h2.rd rfl
  by_cases hlt : hi ≤ B
  · exact h6.more hlt
  · refine OwnI.rdTo h2 fun g hg => hB g (h4 g (by have := h2.lt g hg; omega))
/-- A slice of tables of the call's own, in blocks from lo to hi. -/
def OwnU (w : World) (lo hi : Nat) (v : Value) (ts : List Upd) : Prop := ∃ F, OwnSl 64 3 EUpd w F v ts ∧ ∀ k, F k → lo ≤ k ∧ k < hi
theorem OwnU.form {w : World} {lo hi : Nat} {v : Value} {ts : List Upd} (h : OwnU w lo hi v ts) : ∃ A c, v = .slice A ts.length c := by
  obtain ⟨F, h1, _⟩ := h
  exact h1.form
theorem OwnU.len_eq {w : World} {lo hi n c : Nat} {A : Option Addr} {ts : List Upd} (h : OwnU w lo hi (.slice A n c) ts) : ts.length = n := by
  obtain ⟨A', c', hv⟩ := h.form
  injection hv with _ hn _
  exact hn.symm
theorem OwnU.rd {w : World} {lo hi n c : Nat} {A : Option Addr} {ts : List Upd} (h : OwnU w lo hi (.slice A n c) ts) (hn : ts.length = n) : RdU w hi A n ts := by
  obtain ⟨F, h1, h2⟩ := h
  exact h1.rd hn (by omega) (fun k hk => (h2 k hk).2) fun G cs a hE hG => rUpd_of hE hG
theorem OwnU.chg {w w' : World} {lo hi a b : Nat} {v : Value} {ts : List Upd} (h : OwnU w lo hi v ts) (c : Chg a b w w') (hd : hi ≤ a ∨ b ≤ lo) : OwnU w' lo hi v ts := by
  obtain ⟨F, h1, h2⟩ := h
  exact ⟨F, h1.keep eUpd_ok c.size fun k hk => c.block k (h1.bound k hk) (by have := h2 k hk; omega), h2⟩
theorem OwnU.below {w w' : World} {lo hi B : Nat} {v : Value} {ts : List Upd} (h : OwnU w lo hi v ts) (b : Below B w w') (hd : hi ≤ B) : OwnU w' lo hi v ts := by
  obtain ⟨F, h1, h2⟩ := h
  exact ⟨F, h1.keep eUpd_ok b.size fun k hk => b.block k (by have := h2 k hk; omega), h2⟩
theorem OwnU.wide {w : World} {lo hi hi' : Nat} {v : Value} {ts : List Upd} (h : OwnU w lo hi v ts) (hd : hi ≤ hi') : OwnU w lo hi' v ts := by
  obtain ⟨F, h1, h2⟩ := h
  exact ⟨F, h1, fun k hk => by have := h2 k hk; omega⟩
theorem OwnU.down {w : World} {lo lo' hi : Nat} {v : Value} {ts : List Upd} (h : OwnU w lo hi v ts) (hd : lo' ≤ lo) : OwnU w lo' hi v ts := by
  obtain ⟨F, h1, h2⟩ := h
  exact ⟨F, h1, fun k hk => by have := h2 k hk; omega⟩
theorem OwnU.nil (w : World) (lo hi : Nat) : OwnU w lo hi (.slice none 0 0) [] := ⟨fun _ => False, OwnSl.nil w _ (by simp), by simp⟩
theorem OwnU.setOff {w : World} {lo hi b i : Nat} {v x : Value} {ts : List Upd} (h : OwnU w lo hi v ts) (hb : b < lo ∨ hi ≤ b) : OwnU (w.setCell ⟨b, i, none⟩ x) lo hi v ts := by
  obtain ⟨F, h1, h2⟩ := h
  exact ⟨F, h1.chgF eUpd_ok (chgF_setCell w b i x) fun k hk e => by have := h2 k hk; omega, h2⟩
theorem OwnU.drewN {w : World} {lo hi : Nat} {v : Value} {ts : List Upd} (h : OwnU w lo hi v ts) (q : Nat) : OwnU (w.drewN q) lo hi v ts := by
  obtain ⟨F, h1, h2⟩ := h
  exact ⟨F, h1.chgF eUpd_ok (chgF_drewN w q fun _ => False) (fun _ _ => id), h2⟩
theorem OwnU.alloc {w : World} {lo hi : Nat} {v : Value} {ts : List Upd} (h : OwnU w lo hi v ts) (o : Obj) : OwnU (w.alloc o) lo hi v ts := by
  obtain ⟨F, h1, h2⟩ := h
  exact ⟨F, h1.chgF eUpd_ok (chgF_alloc w o fun _ => False) (fun _ _ => id), h2⟩
/-- Owned tables, laid open for one table more. -/
theorem OwnU.open_ {w : World} {lo hi : Nat} {v : Value} {ts : List Upd} (h : OwnU w lo hi v ts) : ∃ xs : List Value, w.ownsRow 0 64 3 v ts.length xs ∧ (∀ g, v.ownBlock = some g → lo ≤ g ∧ g < hi ∧ g < w.heap.size) ∧
    ∀ (w1 w' : World) (A1 : Option Addr) (nm : ByteArray) (ins : Bool) (rs : List Int) (c1 lo1 hi1 g cap : Nat), Below w.heap.size w w1 → OwnI w1 lo1 hi1 (.slice A1 rs.length c1) rs → nm.size ≤ maxLen → hi ≤ lo1 → lo ≤ lo1 → hi1 ≤ w1.heap.size → lo ≤ w1.heap.size →
      w'.ownsRow 0 64 3 (.slice (some ⟨g, 0, none⟩) (ts.length + 1) cap) (ts.length + 1) (xs ++ [.string nm, .bool ins, .slice A1 rs.length c1]) → w1.grownBy w' v.ownBlock → (v.ownBlock = some g ∨ g = w1.heap.size) →
      OwnU w' lo w'.heap.size (.slice (some ⟨g, 0, none⟩) (ts.length + 1) cap) (ts ++ [⟨nm, ins, rs⟩]) := by
  obtain ⟨F, h1, h2⟩ := h
  obtain ⟨xs, k1, k2, k3⟩ := h1.open_ eUpd_ok
  refine ⟨xs, k1, fun g hg => ⟨(h2 g (k2 g hg)).1, (h2 g (k2 g hg)).2, h1.bound g (k2 g hg)⟩, fun w1 w' A1 nm ins rs c1 lo1 hi1 g cap hb ho hnm hlo hlo' hhi hl hown hgrow hat => ?_⟩
  have := k3 w1 w' (fun k => lo1 ≤ k ∧ k < hi1) [.string nm, .bool ins, .slice A1 rs.length c1] ⟨nm, ins, rs⟩ g cap ⟨hb.os, hb.tape, hb.output, hb.size, fun i hi _ => hb.block i hi⟩ (EUpd.of ho hnm hhi) rfl (fun k hk hk' => by have := h2 k hk; omega) hown hgrow (by rcases hat with h | h; exact .inl h; exact .inr (by omega))
  refine ⟨_, this, fun k hk => ⟨?_, this.bound k hk⟩⟩
  rcases hk with hk | hk | rfl
  · exact (h2 k hk).1
  · omega
  · rcases hat with h | h
    · exact (h2 k (k2 k h)).1
    · omega

/-- Element k of owned tables: its cells, its rows, and what becomes of the whole. -/
theorem OwnU.at_ {w : World} {lo hi n c k : Nat} {A : Option Addr} {ts : List Upd} (h : OwnU w lo hi (.slice A n c) ts) (hn : ts.length = n) (hk : k < n) :
    ∃ g t A' c' lo' hi', A = some ⟨g, 0, none⟩ ∧ lo ≤ g ∧ g < hi ∧ g < w.heap.size ∧ ts[k]? = some t ∧
      (w.cell? ⟨g, k * 3, none⟩ = some (.string t.nm) ∧ w.cell? ⟨g, k * 3 + 1, none⟩ = some (.bool t.ins) ∧ w.cell? ⟨g, k * 3 + 2, none⟩ = some (.slice A' t.zs.length c')) ∧
      (w.frozen? ⟨g, k * 3, none⟩ = false ∧ w.frozen? ⟨g, k * 3 + 1, none⟩ = false ∧ w.frozen? ⟨g, k * 3 + 2, none⟩ = false) ∧ OwnI w lo' hi' (.slice A' t.zs.length c') t.zs ∧ t.zs.length ≤ maxLen ∧
      (∀ w' rs', rs'.length = t.zs.length → OwnI w' lo' hi' (.slice A' t.zs.length c') rs' → Chg lo' hi' w w' → OwnU w' lo hi (.slice A n c) (ts.set k ⟨t.nm, t.ins, rs'⟩) ∧ Chg lo hi w w') ∧
      (∀ w1 (nm : ByteArray), nm.size ≤ maxLen → Below w.heap.size w w1 → OwnU (w1.setCell ⟨g, k * 3, none⟩ (.string nm)) lo hi (.slice A n c) (ts.set k ⟨nm, t.ins, t.zs⟩)) ∧
      (∀ w1 (ins : Bool), Below w.heap.size w w1 → OwnU (w1.setCell ⟨g, k * 3 + 1, none⟩ (.bool ins)) lo hi (.slice A n c) (ts.set k ⟨t.nm, ins, t.zs⟩)) ∧
      (∀ w1 A1 (rs : List Int) c1 lo1 hi1, Below w.heap.size w w1 → OwnI w1 lo1 hi1 (.slice A1 rs.length c1) rs → w.heap.size ≤ lo1 → hi1 ≤ w1.heap.size → lo ≤ w.heap.size → OwnU (w1.setCell ⟨g, k * 3 + 2, none⟩ (.slice A1 rs.length c1)) lo w1.heap.size (.slice A n c) (ts.set k ⟨t.nm, t.ins, rs⟩)) := by
  obtain ⟨F, h1, h2⟩ := h
  subst hn
  obtain ⟨g, cap, hv, hFg, cs, t, H, hr, hl, hE, hH, hc, hup, hput⟩ := h1.at_ eUpd_ok hk (by omega)
  injection hv with hA _ _
  have hE0 := hE
  obtain ⟨A', c', lo', hi', rfl, ho, hnm, hrl, hiv, hHb⟩ := hE
  have c0 := hc 0 _ rfl
  have c1 := hc 1 _ rfl
  have c2 := hc 2 _ rfl
  rw [Nat.add_zero] at c0
  have cF : ∀ w1, Below w.heap.size w w1 → ChgF (fun _ => False) w w1 := fun w1 b => ⟨b.os, b.tape, b.output, b.size, fun i hi _ => b.block i hi⟩
  have fin : ∀ (w1 : World) (i : Nat) (x : Value) (ts' : List Upd), OwnSl 64 3 EUpd (w1.setCell ⟨g, i, none⟩ x) (fun k => F k ∨ H k) (.slice A ts.length c) ts' → OwnU (w1.setCell ⟨g, i, none⟩ x) lo hi (.slice A ts.length c) ts' := fun w1 i x ts' hh =>
    ⟨_, hh, fun k hk => by rcases hk with hk | hk; exact h2 k hk; exact h2 k (hH k hk).1⟩
  refine ⟨g, t, A', c', lo', hi', hA, (h2 g hFg).1, (h2 g hFg).2, h1.bound g hFg, hr, ⟨c0.1, c1.1, c2.1⟩, ⟨c0.2, c1.2, c2.2⟩, ho, hrl, fun w' rs' hl' ho' hch => ?_, fun w1 nm hnm' b => ?_, fun w1 ins b => ?_, fun w1 A1 rs c1' lo1 hi1 b ho1 hlo1 hhi1 hlo => ?_⟩
  · have hcF : ChgF H w w' := ⟨hch.os, hch.tape, hch.output, hch.size, fun k hk hne => hch.block k hk (by
      rcases Nat.lt_or_ge k lo' with h | h
      · exact .inl h
      · rcases Nat.lt_or_ge k hi' with h' | h'
        · exact absurd (hiv k ⟨h, h'⟩) hne
        · exact .inr h')⟩
    have hE' : EUpd w' H [.string t.nm, .bool t.ins, .slice A' t.zs.length c'] ⟨t.nm, t.ins, rs'⟩ := ⟨A', c', lo', hi', by rw [hl'], by rw [hl']; exact ho', hnm, by rw [hl']; exact hrl, hiv, fun k hk => Nat.lt_of_lt_of_le (hHb k hk) hch.size⟩
    exact ⟨⟨F, hup w' _ hcF hE', h2⟩, ⟨hcF.os, hcF.tape, hcF.output, hcF.size, fun i hi hne => hcF.block i hi fun hHi => by have := h2 i (hH i hHi).1; omega⟩⟩
  · have := hput w1 H 0 (.string nm) ⟨nm, t.ins, t.zs⟩ (cF w1 b) (by omega) (eUpd_ok.keep (w := w) (w' := w1) (cs := [.string nm, .bool t.ins, .slice A' t.zs.length c']) (a := ⟨nm, t.ins, t.zs⟩) ⟨A', c', lo', hi', rfl, ho, hnm', hrl, hiv, hHb⟩ fun k hk => b.block k (hHb k hk)) (fun k hk => .inl hk)
    rw [Nat.add_zero] at this
    exact fin _ _ _ _ this
  · exact fin _ _ _ _ (hput w1 H 1 (.bool ins) ⟨t.nm, ins, t.zs⟩ (cF w1 b) (by omega) (eUpd_ok.keep (w := w) (w' := w1) (cs := [.string t.nm, .bool ins, .slice A' t.zs.length c']) (a := ⟨t.nm, ins, t.zs⟩) ⟨A', c', lo', hi', rfl, ho, hnm, hrl, hiv, hHb⟩ fun k hk => b.block k (hHb k hk)) (fun k hk => .inl hk))
  · have := hput w1 (fun i => lo1 ≤ i ∧ i < hi1) 2 (.slice A1 rs.length c1') ⟨t.nm, t.ins, rs⟩ (cF w1 b) (by omega) (EUpd.of ho1 hnm hhi1) (fun i hi => .inr (by omega))
    refine ⟨_, this, fun i hi => ?_⟩
    have hbd := this.bound i hi
    simp [World.setCell] at hbd
    rcases hi with hi | hi
    · exact ⟨(h2 i hi).1, hbd⟩
    · exact ⟨by omega, hbd⟩

/-- Element k takes a whole new table. -/
theorem OwnU.put3 {w : World} {lo hi n c k : Nat} {A : Option Addr} {ts : List Upd} (h : OwnU w lo hi (.slice A n c) ts) (hn : ts.length = n) (hk : k < n) :
    ∃ g, A = some ⟨g, 0, none⟩ ∧ lo ≤ g ∧ g < hi ∧ g < w.heap.size ∧ (∀ i, i < 3 → (w.cell? ⟨g, k * 3 + i, none⟩).isSome = true ∧ w.frozen? ⟨g, k * 3 + i, none⟩ = false) ∧
      ∀ (w1 : World) (nm : ByteArray) (ins : Bool) (A1 : Option Addr) (rs : List Int) (c1 lo1 hi1 : Nat), nm.size ≤ maxLen → Below w.heap.size w w1 → OwnI w1 lo1 hi1 (.slice A1 rs.length c1) rs → w.heap.size ≤ lo1 → hi1 ≤ w1.heap.size → lo ≤ w.heap.size →
        OwnU (((w1.setCell ⟨g, k * 3, none⟩ (.string nm)).setCell ⟨g, k * 3 + 1, none⟩ (.bool ins)).setCell ⟨g, k * 3 + 2, none⟩ (.slice A1 rs.length c1)) lo w1.heap.size (.slice A n c) (ts.set k ⟨nm, ins, rs⟩) := by
  obtain ⟨g, t, A', c', lo', hi', hA, h1, h2, h3, ht, ⟨k0, k1, k2⟩, ⟨f0, f1, f2⟩, _, _, _, _, _, hp⟩ := h.at_ hn hk
  refine ⟨g, hA, h1, h2, h3, fun i hi => ?_, fun w1 nm ins A1 rs c1 lo1 hi1 hnm b ho hlo1 hhi1 hlo => ?_⟩
  · have : i = 0 ∨ i = 1 ∨ i = 2 := by omega
    rcases this with rfl | rfl | rfl
    · exact ⟨by rw [Nat.add_zero, k0]; rfl, by rw [Nat.add_zero]; exact f0⟩
    · exact ⟨by rw [k1]; rfl, f1⟩
    · exact ⟨by rw [k2]; rfl, f2⟩
  · rw [setCell_comm _ g (k * 3 + 1) (k * 3 + 2) _ _ (by omega), setCell_comm w1 g (k * 3) (k * 3 + 2) _ _ (by omega)]
    have d1 := hp w1 A1 rs c1 lo1 hi1 b ho hlo1 hhi1 hlo
    subst hA
    have hl1 : (ts.set k ⟨t.nm, t.ins, rs⟩).length = n := by rw [List.length_set, hn]
    have hkt : k < ts.length := by rw [hn]; exact hk
    obtain ⟨g2, t2, _, _, _, _, hA2, _, _, _, ht2, _, _, _, _, _, hs2, _, _⟩ := d1.at_ hl1 hk
    injection hA2 with hA2
    injection hA2 with hA2
    subst hA2
    rw [List.getElem?_set_self hkt] at ht2
    injection ht2 with ht2
    subst ht2
    have d2 := hs2 _ nm hnm (Below.refl _ _)
    rw [List.set_set] at d2
    have hl2 : (ts.set k ⟨nm, t.ins, rs⟩).length = n := by rw [List.length_set, hn]
    obtain ⟨g3, t3, _, _, _, _, hA3, _, _, _, ht3, _, _, _, _, _, _, hs3, _⟩ := d2.at_ hl2 hk
    injection hA3 with hA3
    injection hA3 with hA3
    subst hA3
    rw [List.getElem?_set_self hkt] at ht3
    injection ht3 with ht3
    subst ht3
    have d3 := hs3 _ ins (Below.refl _ _)
    rw [List.set_set] at d3
    exact d3
/-- Element k takes a new name and a new number; its rows may then change in place. -/
theorem OwnU.mark3 {w : World} {lo hi n c k : Nat} {A : Option Addr} {ts : List Upd} (h : OwnU w lo hi (.slice A n c) ts) (hn : ts.length = n) (hk : k < n) :
    ∃ g t A' c', A = some ⟨g, 0, none⟩ ∧ lo ≤ g ∧ g < hi ∧ g < w.heap.size ∧ ts[k]? = some t ∧
      (w.cell? ⟨g, k * 3, none⟩ = some (.string t.nm) ∧ w.cell? ⟨g, k * 3 + 1, none⟩ = some (.bool t.ins) ∧ w.cell? ⟨g, k * 3 + 2, none⟩ = some (.slice A' t.zs.length c')) ∧
      (w.frozen? ⟨g, k * 3, none⟩ = false ∧ w.frozen? ⟨g, k * 3 + 1, none⟩ = false) ∧ t.zs.length ≤ maxLen ∧
      ∀ (w1 : World) (nm : ByteArray) (ins : Bool), nm.size ≤ maxLen → Below w.heap.size w w1 →
        ∃ lo' hi', OwnI ((w1.setCell ⟨g, k * 3, none⟩ (.string nm)).setCell ⟨g, k * 3 + 1, none⟩ (.bool ins)) lo' hi' (.slice A' t.zs.length c') t.zs ∧
          ∀ w' rs', rs'.length = t.zs.length → OwnI w' lo' hi' (.slice A' t.zs.length c') rs' → Chg lo' hi' ((w1.setCell ⟨g, k * 3, none⟩ (.string nm)).setCell ⟨g, k * 3 + 1, none⟩ (.bool ins)) w' →
            OwnU w' lo hi (.slice A n c) (ts.set k ⟨nm, ins, rs'⟩) ∧ Chg lo hi ((w1.setCell ⟨g, k * 3, none⟩ (.string nm)).setCell ⟨g, k * 3 + 1, none⟩ (.bool ins)) w' := by
  obtain ⟨g, t, A', c', lo', hi', hA, h1, h2, h3, ht, ⟨k0, k1, k2⟩, ⟨f0, f1, f2⟩, _, hrl, _, hs, _, _⟩ := h.at_ hn hk
  refine ⟨g, t, A', c', hA, h1, h2, h3, ht, ⟨k0, k1, k2⟩, ⟨f0, f1⟩, hrl, fun w1 nm ins hnm b => ?_⟩
  have d1 := hs w1 nm hnm b
  subst hA
  have hkt : k < ts.length := by rw [hn]; exact hk
  have hl1 : (ts.set k ⟨nm, t.ins, t.zs⟩).length = n := by rw [List.length_set, hn]
  obtain ⟨g2, t2, _, _, _, _, hA2, _, _, _, ht2, _, _, _, _, _, _, hs2, _⟩ := d1.at_ hl1 hk
  injection hA2 with hA2
  injection hA2 with hA2
  subst hA2
  rw [List.getElem?_set_self hkt] at ht2
  injection ht2 with ht2
  subst ht2
  have d2 := hs2 _ ins (Below.refl _ _)
  rw [List.set_set] at d2
  have hl2 : (ts.set k ⟨nm, ins, t.zs⟩).length = n := by rw [List.length_set, hn]
  obtain ⟨g3, t3, A3, c3, lo3, hi3, hA3, _, _, _, ht3, ⟨_, _, q2⟩, _, ho3, _, hup, _, _, _⟩ := d2.at_ hl2 hk
  injection hA3 with hA3
  injection hA3 with hA3
  subst hA3
  rw [List.getElem?_set_self hkt] at ht3
  injection ht3 with ht3
  subst ht3
  rw [cell_set_other (by omega), cell_set_other (by omega), b.cell (p := ⟨g, k * 3 + 2, none⟩) h3, k2] at q2
  injection q2 with q2
  injection q2 with q3 _ q4
  subst q3 q4
  refine ⟨lo3, hi3, ho3, fun w' rs' hl ho' hc => ?_⟩
  have := hup w' rs' hl ho' hc
  rw [List.set_set] at this
  exact this
end Go.Proofs.Ytimlecfneibjlaa
namespace Go.Proofs.Ytimlecfneibjlaa
open Go.RowKit Go.Deep

def b3 (k : Int) : Bool := (k % 3 == 0)
/-- All that a purse pays for tables. -/
def sumU (ts : List Upd) : Nat := (ts.map fun t => t.nm.size + t.zs.length).sum
theorem sumU_nil : sumU [] = 0 := rfl
theorem sumU_cons (t : Upd) (ts : List Upd) : sumU (t :: ts) = (t.nm.size + t.zs.length) + sumU ts := rfl
theorem sumU_append (a b : List Upd) : sumU (a ++ b) = sumU a + sumU b := by simp [sumU]
theorem sumU_mem {ts : List Upd} {t : Upd} (h : t ∈ ts) : t.nm.size + t.zs.length ≤ sumU ts := by
  induction ts with
  | nil => cases h
  | cons s ts ih =>
    rw [sumU_cons]
    rcases List.mem_cons.1 h with rfl | h
    · omega
    · have := ih h; omega
theorem sumU_take_succ {ts : List Upd} {j : Nat} {t : Upd} (h : ts[j]? = some t) : sumU (ts.take (j + 1)) = sumU (ts.take j) + (t.nm.size + t.zs.length) := by
  obtain ⟨hj, rfl⟩ := List.getElem?_eq_some_iff.1 h
  rw [List.take_succ_eq_append_getElem hj, sumU_append]
  simp [sumU]
/-- All that a mark counts in tables. -/
def mrkU (ts : List Upd) : Nat := (ts.map fun t => 2 + t.zs.length).sum
theorem mrkU_nil : mrkU [] = 0 := rfl
theorem mrkU_cons (t : Upd) (ts : List Upd) : mrkU (t :: ts) = (2 + t.zs.length) + mrkU ts := rfl
theorem mrkU_append (a b : List Upd) : mrkU (a ++ b) = mrkU a + mrkU b := by simp [mrkU]
theorem mrkU_take_succ {ts : List Upd} {j : Nat} {t : Upd} (h : ts[j]? = some t) : mrkU (ts.take (j + 1)) = mrkU (ts.take j) + (2 + t.zs.length) := by
  obtain ⟨hj, rfl⟩ := List.getElem?_eq_some_iff.1 h
  rw [List.take_succ_eq_append_getElem hj, mrkU_append]
  simp [mrkU]
theorem mrkU_take_le (ts : List Upd) (j : Nat) : mrkU (ts.take j) ≤ mrkU ts := by
  have := mrkU_append (ts.take j) (ts.drop j)
  rw [List.take_append_drop] at this
  omega
theorem mrkU_le (ts : List Upd) : mrkU ts ≤ 2 * ts.length + sumU ts := by
  induction ts with
  | nil => simp [mrkU, sumU]
  | cons t ts ih =>
    rw [mrkU_cons, sumU_cons, List.length_cons]
    omega
/-- Tables, marked from k on. -/
def cntU : Int → List Upd → List Upd
  | _, [] => []
  | k, t :: ts => ⟨mkT k, b3 (k + 1), cnt (k + 1 + 1) t.zs.length⟩ :: cntU (k + 1 + 1 + (t.zs.length : Nat)) ts
theorem cntU_length : ∀ (k : Int) (ts : List Upd), (cntU k ts).length = ts.length
  | _, [] => rfl
  | k, t :: ts => by rw [cntU, List.length_cons, List.length_cons, cntU_length]
theorem cntU_get : ∀ (k : Int) (ts : List Upd) (j : Nat) (t : Upd), ts[j]? = some t → (cntU k ts)[j]? = some ⟨mkT (k + (mrkU (ts.take j) : Nat)), b3 (k + (mrkU (ts.take j) : Nat) + 1), cnt (k + (mrkU (ts.take j) : Nat) + 1 + 1) t.zs.length⟩
  | k, [], j, t, h => by simp at h
  | k, s :: ts, 0, t, h => by
    simp at h
    subst h
    simp [cntU, mrkU]
  | k, s :: ts, j + 1, t, h => by
    have := cntU_get (k + 1 + 1 + (s.zs.length : Nat)) ts j t (by simpa using h)
    have e : k + 1 + 1 + (s.zs.length : Nat) + (mrkU (ts.take j) : Nat) = k + ((mrkU ((s :: ts).take (j + 1)) : Nat) : Int) := by
      rw [List.take_succ_cons, mrkU_cons]
      omega
    rw [cntU, List.getElem?_cons_succ, this, e]
/-- The first j tables marked, the rest as they were. -/
def markUTo (ts : List Upd) (k : Int) (j : Nat) : List Upd := (cntU k ts).take j ++ ts.drop j
theorem markUTo_zero (ts : List Upd) (k : Int) : markUTo ts k 0 = ts := by simp [markUTo]
theorem markUTo_full (ts : List Upd) (k : Int) : markUTo ts k ts.length = cntU k ts := by
  rw [markUTo, List.take_of_length_le (by rw [cntU_length]; exact Nat.le_refl _)]
  simp
theorem markUTo_length (ts : List Upd) (k : Int) (j : Nat) (hj : j ≤ ts.length) : (markUTo ts k j).length = ts.length := by
  rw [markUTo, List.length_append, List.length_take, List.length_drop, cntU_length]
  omega
theorem markUTo_get {ts : List Upd} {k : Int} {j : Nat} {t : Upd} (h : ts[j]? = some t) : (markUTo ts k j)[j]? = some t := by
  have hj := (List.getElem?_eq_some_iff.1 h).1
  rw [markUTo, List.getElem?_append_right (by rw [List.length_take, cntU_length]; omega), List.length_take, cntU_length, Nat.min_eq_left (by omega), Nat.sub_self, List.getElem?_drop, Nat.add_zero, h]
theorem markUTo_step {ts : List Upd} {k : Int} {j : Nat} {t : Upd} (h : ts[j]? = some t) : (markUTo ts k j).set j ⟨mkT (k + (mrkU (ts.take j) : Nat)), b3 (k + (mrkU (ts.take j) : Nat) + 1), cnt (k + (mrkU (ts.take j) : Nat) + 1 + 1) t.zs.length⟩ = markUTo ts k (j + 1) := by
  have hj := (List.getElem?_eq_some_iff.1 h).1
  have hg := cntU_get k ts j t h
  have hj' : j < (cntU k ts).length := by rw [cntU_length]; exact hj
  have hv : (cntU k ts)[j] = ⟨mkT (k + (mrkU (ts.take j) : Nat)), b3 (k + (mrkU (ts.take j) : Nat) + 1), cnt (k + (mrkU (ts.take j) : Nat) + 1 + 1) t.zs.length⟩ := by rw [List.getElem?_eq_getElem hj'] at hg; injection hg
  rw [markUTo, markUTo, List.set_append_right _ _ (by rw [List.length_take]; omega), List.length_take, Nat.min_eq_left (by omega), Nat.sub_self, List.drop_eq_getElem_cons hj, List.set_cons_zero, List.take_succ_eq_append_getElem hj', hv,
    List.append_assoc, List.singleton_append]
/-- An empty table. -/
def nilUpd : Upd := ⟨{ data := #[] }, false, []⟩
/-- The first k tables, then empty ones. -/
def fillU (ts : List Upd) (k : Nat) : List Upd := ts.take k ++ List.replicate (ts.length - k) nilUpd
theorem fillU_zero (ts : List Upd) : fillU ts 0 = List.replicate ts.length nilUpd := by simp [fillU]
theorem fillU_full (ts : List Upd) : fillU ts ts.length = ts := by simp [fillU]
theorem fillU_length (ts : List Upd) (k : Nat) (h : k ≤ ts.length) : (fillU ts k).length = ts.length := by simp [fillU]; omega
theorem fillU_step {ts : List Upd} {k : Nat} {t : Upd} (h : ts[k]? = some t) : (fillU ts k).set k t = fillU ts (k + 1) := by
  have hk : k < ts.length := (List.getElem?_eq_some_iff.1 h).1
  have hx : ts[k] = t := (List.getElem?_eq_some_iff.1 h).2
  unfold fillU
  obtain ⟨m, hm⟩ : ∃ m, ts.length - k = m + 1 := ⟨ts.length - k - 1, by omega⟩
  rw [List.set_append_right _ _ (by rw [List.length_take]; omega), List.length_take, Nat.min_eq_left (by omega), Nat.sub_self, hm, List.replicate_succ, List.set_cons_zero, List.take_succ_eq_append_getElem hk, hx,
    List.append_assoc, List.singleton_append, show ts.length - (k + 1) = m from by omega]

end Go.Proofs.Ytimlecfneibjlaa
namespace Go.Proofs.Ytimlecfneibjlaa
open Go.RowKit Go.Deep

set_option maxRecDepth 100000 in
set_option maxHeartbeats 400000 in
theorem eqUpdate_any (nm : ByteArray) (ins : Bool) (A A' : Option Addr) (n c n' c' B B' : Nat) (zs : List Int) (w : World) (hr : RdI w B A n zs) (hr' : RdI w B' A' n' zs) (hB : B ≤ w.heap.size) (hB' : B' ≤ w.heap.size) (hn : zs.length ≤ 9223372036854775807) :
    Calls Try.prog 45 #[.agg #[.string nm, .bool ins, .slice A n c], .agg #[.string nm, .bool ins, .slice A' n' c']] w fun e w' => e = .returned (.bool true) ∧ Below w.heap.size w w' := by
  have h1 : n ≤ 9223372036854775807 := by have := hr.1; omega
  have h2 : n' ≤ 9223372036854775807 := by have := hr'.1; omega
  have q2 : (ins != ins) = false := by simp
  have HB := Lib.hid (Below.refl w.heap.size w)
  go_enter Try.func45, Try.ntmps45
  go_wp2_with fail
  refine (eqIntS_any A A' n c n' c' zs zs _ ((RdI.belowB hr (((Below.refl B w).alloc hB _).alloc (by simp; omega) _) (Nat.le_refl _)).more (by simp; omega)) ((RdI.belowB hr' (((Below.refl B' w).alloc hB' _).alloc (by simp; omega) _) (Nat.le_refl _)).more (by simp; omega)) h1 h2).mono ?_
  rintro e w1 ⟨he, hq⟩
  rw [decide_eq_true rfl] at he
  subst he
  have hbel := Lib.hid ((((HB.out).alloc (Nat.le_refl _) _).alloc (by simp) _).trans (hq.mono (by simp; omega)))
  clear hq
  go_wp2_with fail
  go_ret
  exact ⟨rfl, hbel.out⟩

set_option maxRecDepth 100000 in
set_option maxHeartbeats 400000 in
theorem szUpdateS_any (A : Option Addr) (n c B : Nat) (left : Int) (ts : List Upd) (w : World) (hr : RdU w B A n ts) (hB : B ≤ w.heap.size) (h0 : 0 ≤ left) (hl : left ≤ 1048576) (hn : n ≤ 9223372036854775807) :
    Calls Try.prog 35 #[.slice A n c, .int .i64 left] w (SzPostB (n + sumU ts) left w) := by
  have HL := Lib.hid hr.1
  by_cases h : left - (n : Int) < 0
  · go_enter Try.func35, Try.ntmps35
    go_wp2_with fail
    go_ret
    exact ⟨_, rfl, .inl rfl, Below.refl _ _⟩
  · go_enter Try.func35, Try.ntmps35
    go_wp2_with fail
    go_loopw [1, 5] (fun q i wr => ∃ (j : Nat) (r : Int), j ≤ n ∧ i = .int .i64 j ∧ q = .int .i64 r ∧ 0 ≤ r ∧ r ≤ 1048576 ∧ Hid (r + ((n + sumU (ts.take j) : Nat) : Int) = left) ∧ Hid (Below w.heap.size w wr)) (fun _ i _ => n - (intOf i).toNat)
    case atStart => exact ⟨0, _, by omega, rfl, rfl, by omega, by omega, by show _ = _; simp [sumU], Below.refl _ _⟩
    case round =>
      obtain ⟨j, r, hj, rfl, rfl, hr0, hr1, hinv, hbel⟩ := hrel
      have hsz := hbel.out.size
      by_cases hlt : j < n
      · obtain ⟨b, o, t, A', c', rfl, hb, hx, hc0, hc1, hc2, hrd, hm, hnm⟩ := RdU.at_ hr hlt
        have d0 := (hbel.out.cell (p := ⟨b, o + j * 3, none⟩) (by show b < _; omega)).trans hc0
        have d1 := (hbel.out.cell (p := ⟨b, o + j * 3 + 1, none⟩) (by show b < _; omega)).trans hc1
        have d2 := (hbel.out.cell (p := ⟨b, o + j * 3 + 2, none⟩) (by show b < _; omega)).trans hc2
        have KZ := Lib.hid (szUpdate_any t.nm t.ins A' t.zs.length c' r wr hnm hr0 hr1 (by unfold maxLen at hm; omega))
        have HX := Lib.hid (sumU_take_succ hx)
        clear hx hc0 hc1 hc2 hrd hm hnm
        obtain ⟨nm, ins, rs⟩ := t
        go_wp2_with fail
        refine KZ.out.mono ?_
        rintro e w1 ⟨r', rfl, hh, hb1⟩
        have hbel1 := Lib.hid (hbel.out.trans (hb1.mono hsz))
        clear hb1 hbel
        rcases hh with rfl | ⟨hr2, hr3⟩
        · go_wp2_with fail
          go_ret
          exact ⟨_, rfl, .inl rfl, hbel1.out⟩
        · have hinv' : Hid (r' + ((n + sumU (ts.take (j + 1)) : Nat) : Int) = left) := by
            show _ = _
            have h1 := hinv.out
            have h2 := HX.out
            rw [h2]
            omega
          have hr4 : r' ≤ 1048576 := by omega
          clear hinv hr3
          have hr5 : ¬ r' < 0 := by omega
          go_wp2_with fail
          refine ⟨⟨j + 1, r', by omega, by go_num, rfl, hr2, hr4, hinv', hbel1⟩, ?_⟩
          simp [intOf]
          omega
      · obtain rfl : j = n := by omega
        have hf : Hid (r + ((j + sumU ts : Nat) : Int) = left) := by
          show _ = _
          have h1 := hinv.out
          rwa [List.take_of_length_le (Nat.le_of_eq HL.out)] at h1
        go_wp2_with fail
        go_ret
        exact ⟨_, rfl, .inr ⟨hr0, hf.out⟩, hbel.out⟩

set_option maxRecDepth 100000 in
set_option maxHeartbeats 400000 in
theorem eqUpdateS_same (A A' : Option Addr) (n c n' c' B B' : Nat) (ts : List Upd) (w : World) (hr : RdU w B A n ts) (hr' : RdU w B' A' n' ts) (hB : B ≤ w.heap.size) (hB' : B' ≤ w.heap.size) (hn : ts.length ≤ 1048576) :
    Calls Try.prog 39 #[.slice A n c, .slice A' n' c'] w fun e w' => e = .returned (.bool true) ∧ Below w.heap.size w w' := by
  have hnn : n' = n := hr'.1.symm.trans hr.1
  subst hnn
  have HL := Lib.hid hr.1
  have hn' : n' ≤ 1048576 := by rw [← hr.1]; exact hn
  have q2 : ((n' : Int) != (n' : Int)) = false := by simp
  clear hn
  go_enter Try.func39, Try.ntmps39
  go_wp2_with fail
  go_loopw [5] (fun i wr => ∃ k : Nat, k ≤ n' ∧ i = .int .i64 k ∧ Hid (Below w.heap.size w wr)) (fun i _ => n' - (intOf i).toNat)
  case atStart => exact ⟨0, by omega, rfl, Below.refl _ _⟩
  case round =>
    obtain ⟨k, hk, rfl, hbel⟩ := hrel
    have hsz := hbel.out.size
    by_cases hlt : k < n'
    · obtain ⟨b, o, t, A1, c1, rfl, hb, hx, hc0, hc1, hc2, hrd, hm, _⟩ := RdU.at_ hr hlt
      obtain ⟨b', o', t', A2, c2, rfl, hb', hx', hc0', hc1', hc2', hrd', _, _⟩ := RdU.at_ hr' hlt
      rw [hx] at hx'
      injection hx' with hx'
      subst hx'
      have d0 := (hbel.out.cell (p := ⟨b, o + k * 3, none⟩) (by show b < _; omega)).trans hc0
      have d1 := (hbel.out.cell (p := ⟨b, o + k * 3 + 1, none⟩) (by show b < _; omega)).trans hc1
      have d2 := (hbel.out.cell (p := ⟨b, o + k * 3 + 2, none⟩) (by show b < _; omega)).trans hc2
      have d3 := (hbel.out.cell (p := ⟨b', o' + k * 3, none⟩) (by show b' < _; omega)).trans hc0'
      have d4 := (hbel.out.cell (p := ⟨b', o' + k * 3 + 1, none⟩) (by show b' < _; omega)).trans hc1'
      have d5 := (hbel.out.cell (p := ⟨b', o' + k * 3 + 2, none⟩) (by show b' < _; omega)).trans hc2'
      have KE := Lib.hid (fun W (b1 : Below wr.heap.size wr W) => eqUpdate_any t.nm t.ins A1 A2 t.zs.length c1 t.zs.length c2 B B' t.zs W (RdI.belowB hrd (hbel.out.trans (b1.mono hsz)) hB) (RdI.belowB hrd' (hbel.out.trans (b1.mono hsz)) hB') (Nat.le_trans hB (Nat.le_trans hsz b1.size)) (Nat.le_trans hB' (Nat.le_trans hsz b1.size)) (by unfold maxLen at hm; exact hm))
      have g1 : (0 : Int) ≤ (k : Int) := by omega
      have g2 : (k : Int) < (n' : Int) := by omega
      have g3 : (k : Int).toNat = k := by omega
      clear hx hc0 hc1 hc2 hc0' hc1' hc2' hrd hrd' hm
      obtain ⟨nm, ins, rs⟩ := t
      go_wp2_with fail
      have bz : Below wr.heap.size wr wr.drew := (Below.refl _ _).drew
      have KB : Hid (∀ W, Below wr.heap.size wr W → W.cell? ⟨b, o + k * 3, none⟩ = some (.string nm) ∧ W.cell? ⟨b, o + k * 3 + 1, none⟩ = some (.bool ins) ∧ W.cell? ⟨b, o + k * 3 + 2, none⟩ = some (.slice A1 rs.length c1) ∧ W.cell? ⟨b', o' + k * 3, none⟩ = some (.string nm) ∧ W.cell? ⟨b', o' + k * 3 + 1, none⟩ = some (.bool ins) ∧ W.cell? ⟨b', o' + k * 3 + 2, none⟩ = some (.slice A2 rs.length c2) ∧ Below wr.heap.size wr W) := fun W bw =>
        ⟨(bw.cell (p := ⟨b, o + k * 3, none⟩) (by show b < _; omega)).trans d0, (bw.cell (p := ⟨b, o + k * 3 + 1, none⟩) (by show b < _; omega)).trans d1, (bw.cell (p := ⟨b, o + k * 3 + 2, none⟩) (by show b < _; omega)).trans d2, (bw.cell (p := ⟨b', o' + k * 3, none⟩) (by show b' < _; omega)).trans d3, (bw.cell (p := ⟨b', o' + k * 3 + 1, none⟩) (by show b' < _; omega)).trans d4, (bw.cell (p := ⟨b', o' + k * 3 + 2, none⟩) (by show b' < _; omega)).trans d5, bw⟩
      go_region_held3 (fun W => W.cell? ⟨b, o + k * 3, none⟩ = some (.string nm) ∧ W.cell? ⟨b, o + k * 3 + 1, none⟩ = some (.bool ins) ∧ W.cell? ⟨b, o + k * 3 + 2, none⟩ = some (.slice A1 rs.length c1) ∧ W.cell? ⟨b', o' + k * 3, none⟩ = some (.string nm) ∧ W.cell? ⟨b', o' + k * 3 + 1, none⟩ = some (.bool ins) ∧ W.cell? ⟨b', o' + k * 3 + 2, none⟩ = some (.slice A2 rs.length c2) ∧ Below wr.heap.size wr W)
        (first | assumption | exact KB.out _ (by assumption))
        (first | (go_at_call 45; ((with_reducible refine (KE.out _ (by assumption)).mono ?_); rintro e w1 ⟨rfl, b1⟩; have bz := bel_step (by assumption) b1)))
      have hbel1 := Lib.hid (hbel.out.trans (bz.mono hsz))
      clear bz hbel
      go_wp2_with fail
      refine ⟨⟨k + 1, by omega, by go_num, hbel1⟩, ?_⟩
      simp [intOf]
      omega
    · obtain rfl : k = n' := by omega
      go_wp2_with fail
      go_ret
      exact ⟨rfl, hbel.out⟩

theorem info_upd : (Try.prog.info? 64).map (fun i => (i.zero, i.size, i.bytes)) = some (some (.agg #[.string { data := #[] }, .bool false, .slice none 0 0]), 3, 48) := by kernel_rfl
def zerU (n : Nat) : Array Value := madeCells #[.string { data := #[] }, .bool false, .slice none 0 0] (n * 3)
theorem make_upds (n : Nat) (h : n ≤ 1048576) (W : World) : (Instr.makeSlice 54 (.int .i64 (n : Int)) (.int .i64 (n : Int))).run Try.prog W = .ok (.slice (some ⟨W.heap.size, 0, none⟩) n n) (W.alloc (.cells (zerU n) 64)) := by
  obtain ⟨i, hi, hz0, hz1, hz2⟩ := info_parts info_upd
  have := run_make (P := Try.prog) W 54 64 i _ Try.underlying54 hi hz0 .i64 .i64 n n (by omega) (by omega) (by rw [hz2]; omega) (by omega)
  rw [Int.toNat_natCast, hz1] at this
  exact this
theorem own_upds_made (n : Nat) (hn : n ≤ 1048576) (W : World) : OwnU (W.alloc (.cells (zerU n) 64)) W.heap.size (W.alloc (.cells (zerU n) 64)).heap.size (.slice (some ⟨W.heap.size, 0, none⟩) n n) (List.replicate n nilUpd) :=
  ⟨_, OwnSl.made W n [.string { data := #[] }, .bool false, .slice none 0 0] nilUpd (zerU n) rfl (by unfold maxLen; omega) (made_flat _ _ _ n) ⟨none, 0, 0, 0, rfl, OwnI.nil _ _ _, by show 0 ≤ _; exact Nat.zero_le _, by show 0 ≤ _; exact Nat.zero_le _, fun k hk => by omega, by simp⟩, fun k hk => by subst hk; simp⟩

set_option maxRecDepth 100000 in
set_option maxHeartbeats 400000 in
theorem toUpdateS_any (A : Option Addr) (n c B : Nat) (ts : List Upd) (w : World) (hr0 : RdU w B A n ts) (hB : B ≤ w.heap.size) (hn : n ≤ 1048576) (hts : ∀ t ∈ ts, t.zs.length ≤ 1048576) :
    Calls Try.prog 37 #[.slice A n c] w fun e w' => e = .returned (.slice (some ⟨w.heap.size, 0, none⟩) n n) ∧ OwnU w' w.heap.size w'.heap.size (.slice (some ⟨w.heap.size, 0, none⟩) n n) ts ∧ Below w.heap.size w w' := by
  have hr := RdU.more hr0 hB
  clear hr0
  have hmk := make_upds n hn
  have HL := Lib.hid hr.1
  have hts' := Lib.hid hts
  clear hts
  go_enter Try.func37, Try.ntmps37
  go_wp2
  go_loopw [4] (fun i wr => ∃ k : Nat, k ≤ n ∧ i = .int .i64 k ∧ OwnU wr w.heap.size wr.heap.size (.slice (some ⟨w.heap.size, 0, none⟩) n n) (fillU ts k) ∧ Below w.heap.size w wr) (fun i _ => n - (intOf i).toNat)
  case atStart => exact ⟨0, by omega, rfl, by rw [fillU_zero, HL.out]; exact own_upds_made n hn w, (Below.refl _ _).alloc (Nat.le_refl _) _⟩
  case round =>
    obtain ⟨k, hk, rfl, hown, hbel⟩ := hrel
    have hsz := hbel.size
    by_cases hlt : k < n
    · obtain ⟨b, o, t, A', c', rfl, hb, hx, hc0, hc1, hc2, hrd, hm, hnm⟩ := RdU.at_ hr hlt
      have d0 := (hbel.cell (p := ⟨b, o + k * 3, none⟩) hb).trans hc0
      have d1 := (hbel.cell (p := ⟨b, o + k * 3 + 1, none⟩) hb).trans hc1
      have d2 := (hbel.cell (p := ⟨b, o + k * 3 + 2, none⟩) hb).trans hc2
      have htt := hts'.out t (List.mem_of_getElem? hx)
      have KT := Lib.hid (toUpdate_any t.nm t.ins A' t.zs.length c' w.heap.size t.zs wr (RdI.belowB hrd hbel (Nat.le_refl _)) hsz htt)
      have hl := fillU_length ts k (by rw [HL.out]; omega)
      obtain ⟨g, hg0, _, _, hg1, hcw, hput⟩ := hown.put3 (hl.trans HL.out) hlt
      injection hg0 with hg0
      injection hg0 with hg0
      subst hg0
      have HX := Lib.hid (fillU_step hx)
      obtain ⟨y0, hy0⟩ := Option.isSome_iff_exists.1 (hcw 0 (by omega)).1
      obtain ⟨y1, hy1⟩ := Option.isSome_iff_exists.1 (hcw 1 (by omega)).1
      obtain ⟨y2, hy2⟩ := Option.isSome_iff_exists.1 (hcw 2 (by omega)).1
      have f0 := (hcw 0 (by omega)).2
      have f1 := (hcw 1 (by omega)).2
      have f2 := (hcw 2 (by omega)).2
      rw [Nat.add_zero] at hy0 f0
      have HP := Lib.hid hput
      have HN := Lib.hid hnm
      clear hx hl hc0 hc1 hc2 hrd hput hown hcw hm hnm htt
      obtain ⟨nm, ins, rs⟩ := t
      go_wp2_with fail
      refine KT.out.mono ?_
      rintro e w1 ⟨A1, c1, rfl, ho1, hb1⟩
      have e0 := (hb1.cell (p := ⟨w.heap.size, k * 3, none⟩) hg1).trans hy0
      have e1 := (hb1.cell (p := ⟨w.heap.size, k * 3 + 1, none⟩) hg1).trans hy1
      have e2 := (hb1.cell (p := ⟨w.heap.size, k * 3 + 2, none⟩) hg1).trans hy2
      have f0' := (hb1.frozen (p := ⟨w.heap.size, k * 3, none⟩) hg1).trans f0
      have f1' := (hb1.frozen (p := ⟨w.heap.size, k * 3 + 1, none⟩) hg1).trans f1
      have f2' := (hb1.frozen (p := ⟨w.heap.size, k * 3 + 2, none⟩) hg1).trans f2
      have hfin := Lib.hid (HP.out w1 nm ins A1 rs c1 _ _ HN.out hb1 ho1 (Nat.le_refl _) (Nat.le_refl _) hsz)
      have hbel1 := hbel.trans (hb1.mono hsz)
      clear ho1 HP
      go_wp2_with fail
      refine ⟨⟨k + 1, by omega, by go_num, by rw [← HX.out]; simpa [World.setCell] using hfin.out, ((hbel1.setCell (Nat.le_refl _) _).setCell (Nat.le_refl _) _).setCell (Nat.le_refl _) _⟩, ?_⟩
      simp [intOf]
      omega
    · obtain rfl : k = n := by omega
      go_wp2
      go_ret
      exact ⟨rfl, by rw [← HL.out, fillU_full] at hown; rw [← HL.out]; exact hown, hbel⟩

set_option maxRecDepth 100000 in
set_option maxHeartbeats 400000 in
theorem markUpdateS_any (A : Option Addr) (n c lo hi : Nat) (ts : List Upd) (k : Int) (w : World) (ho : OwnU w lo hi (.slice A n c) ts) (hn : n ≤ 1048576) (hrs : ∀ t ∈ ts, t.zs.length ≤ 1048576) (hk : 0 < k) (hkn : k + (mrkU ts : Nat) ≤ 1099511627776) :
    Calls Try.prog 40 #[.slice A n c, .int .i64 k] w fun e w' => e = .returned (.int .i64 (k + (mrkU ts : Nat))) ∧ OwnU w' lo hi (.slice A n c) (cntU k ts) ∧ Chg lo hi w w' := by
  have HL := Lib.hid ho.len_eq
  have hrs' := Lib.hid hrs
  clear hrs
  go_enter Try.func40, Try.ntmps40
  go_wp2
  go_loopw [1, 5] (fun q i wr => ∃ j : Nat, j ≤ n ∧ i = .int .i64 j ∧ q = .int .i64 (k + (mrkU (ts.take j) : Nat)) ∧ Hid (OwnU wr lo hi (.slice A n c) (markUTo ts k j) ∧ Chg lo hi w wr)) (fun _ i _ => n - (intOf i).toNat)
  case atStart => exact ⟨0, by omega, rfl, by simp [mrkU], by rw [markUTo_zero]; exact ho, Chg.refl _ _ _⟩
  case round =>
    obtain ⟨j, hj, rfl, rfl, hinv⟩ := hrel
    by_cases hlt : j < n
    · have hml : (markUTo ts k j).length = n := by rw [markUTo_length _ _ _ (by rw [HL.out]; omega), HL.out]
      obtain ⟨g, t, A', c', rfl, hlo, hhi, hg, ht, ⟨k0, k1, k2⟩, ⟨f0, f1⟩, hrm, hup⟩ := hinv.out.1.mark3 hml hlt
      obtain ⟨t1, ht1⟩ : ∃ t1, ts[j]? = some t1 := ⟨ts[j]'(by rw [HL.out]; exact hlt), List.getElem?_eq_getElem _⟩
      rw [markUTo_get ht1] at ht
      injection ht with ht
      subst ht
      have hsum := mrkU_take_succ ht1
      have hle := mrkU_take_le ts (j + 1)
      have b1 : (0 : Int) < k + (mrkU (ts.take j) : Nat) := by omega
      have b2 : k + (mrkU (ts.take j) : Nat) + 1 + 1 + (t1.zs.length : Nat) ≤ 1099511627776 := by omega
      have HQ := Lib.hid (show k + (mrkU (ts.take j) : Nat) + 1 + 1 + (t1.zs.length : Nat) = k + (mrkU (ts.take (j + 1)) : Nat) by omega)
      have hrl := hrs'.out t1 (List.mem_of_getElem? ht1)
      have HS := Lib.hid (markUTo_step (k := k) ht1)
      have hC := Lib.hid hinv.out.2
      have HU := Lib.hid hup
      clear hup ht1 hsum hle hinv hml hrm
      generalize k + (mrkU (ts.take j) : Nat) = K at *
      have e3 : ((K + 1) % 3 == 0) = b3 (K + 1) := rfl
      go_wp2_with fail
      refine (markText_any K wr b1 (by omega)).mono ?_
      rintro e w1 ⟨rfl, hb1⟩
      have c0 := (hb1.cell (p := ⟨g, j * 3, none⟩) hg).trans k0
      have c1 := (hb1.cell (p := ⟨g, j * 3 + 1, none⟩) hg).trans k1
      have c2 := (hb1.cell (p := ⟨g, j * 3 + 2, none⟩) hg).trans k2
      have e0 := (hb1.frozen (p := ⟨g, j * 3, none⟩) hg).trans f0
      have e1 := (hb1.frozen (p := ⟨g, j * 3 + 1, none⟩) hg).trans f1
      obtain ⟨lo', hi', ho1, hup⟩ := HU.out w1 (mkT K) (b3 (K + 1)) (mkT_size (by omega)) hb1
      have KM := Lib.hid (markIntS_any A' t1.zs.length c' lo' hi' t1.zs (K + 1 + 1) _ ho1 rfl (by omega) (by omega) (by omega))
      have h0 : Hid (Chg lo hi wr ((w1.setCell ⟨g, j * 3, none⟩ (.string (mkT K))).setCell ⟨g, j * 3 + 1, none⟩ (.bool (b3 (K + 1))))) :=
        ⟨hb1.os, hb1.tape, hb1.output, by simpa [World.setCell] using hb1.size, fun i hi2 hn2 => by
          have hne : ¬ i = g := by omega
          exact ((Below.heap_setCell _ _ _ i hne).trans (Below.heap_setCell _ _ _ i hne)).trans (hb1.block i (by omega))⟩
      have HU1 := Lib.hid hup
      clear hup ho1 k0 k1 k2 f0 f1 hb1
      go_wp2_with fail
      refine KM.out.mono ?_
      rintro e w2 ⟨rfl, ho2, hc2⟩
      obtain ⟨hD, hch⟩ := HU1.out w2 _ (cnt_length _ _) ho2 hc2
      rw [HS.out] at hD
      have hfin := Lib.hid (And.intro hD (hC.out.trans (h0.out.trans hch)))
      clear hD hch ho2 hc2 KM HU1
      go_wp2_with fail
      refine ⟨⟨j + 1, by omega, by go_num, by rw [HQ.out], hfin.out⟩, ?_⟩
      simp [intOf]
      omega
    · obtain rfl : j = n := by omega
      have h1 := hinv.out
      rw [← HL.out, markUTo_full, HL.out] at h1
      have H1 := Lib.hid h1
      have HT := Lib.hid (show ts.take j = ts from List.take_of_length_le (Nat.le_of_eq HL.out))
      clear h1
      go_wp2
      go_ret
      exact ⟨by rw [HT.out] <;> rfl, H1.out⟩
end Go.Proofs.Ytimlecfneibjlaa
