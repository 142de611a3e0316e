/- Memory that a call owns: slices whose elements own memory themselves; and slices that are read. Of no program. -/
import Derived.Test.YtmojjbhjjhdpaaaDoorWords
import Derived.OwnWalk
import Derived.Deep.OwnRows
namespace Go.Proofs.YtmojjbhjjhdpaaaDoor
open Go.RowKit Go.Deep

/-- Only the blocks of F may have changed, and blocks may have come. -/
structure ChgF (F : Nat → Prop) (w w' : World) : Prop where
  os : w'.os = w.os
  tape : w'.tape = w.tape
  output : w'.output = w.output
  size : w.heap.size ≤ w'.heap.size
  block : ∀ k, k < w.heap.size → ¬ F k → w'.heap[k]? = w.heap[k]?
theorem ChgF.refl (F : Nat → Prop) (w : World) : ChgF F w w := ⟨rfl, rfl, rfl, Nat.le_refl _, fun _ _ _ => rfl⟩
theorem ChgF.trans {F : Nat → Prop} {a b c : World} (h : ChgF F a b) (k : ChgF F b c) : ChgF F a c :=
  ⟨k.os.trans h.os, k.tape.trans h.tape, k.output.trans h.output, Nat.le_trans h.size k.size, fun i hi hn => (k.block i (Nat.lt_of_lt_of_le hi h.size) hn).trans (h.block i hi hn)⟩
theorem ChgF.mono {F G : Nat → Prop} {a b : World} (h : ChgF F a b) (hs : ∀ k, k < a.heap.size → F k → G k) : ChgF G a b :=
  ⟨h.os, h.tape, h.output, h.size, fun i hi hn => h.block i hi fun hf => hn (hs i hi hf)⟩
theorem ChgF.below {F : Nat → Prop} {B : Nat} {w w' : World} (h : ChgF F w w') (hB : ∀ k, F k → B ≤ k) (hs : B ≤ w.heap.size) : Below B w w' :=
  ⟨h.os, h.tape, h.output, h.size, fun k hk => h.block k (by omega) fun hf => by have := hB k hf; omega⟩
theorem chgF_of_below {B : Nat} {w w' : World} (h : Below B w w') : ChgF (fun k => B ≤ k) w w' :=
  ⟨h.os, h.tape, h.output, h.size, fun k _ hn => h.block k (by omega)⟩
theorem chgF_of_grown {w w' : World} {row : Option Nat} (h : w.grownBy w' row) : ChgF (fun k => row = some k) w w' :=
  ⟨h.os, h.tape, h.output, h.size, fun k hk hn => h.block k hk fun e => hn e.symm⟩
theorem chgF_setCell (w : World) (g i : Nat) (x : Value) : ChgF (fun k => k = g) w (w.setCell ⟨g, i, none⟩ x) :=
  ⟨rfl, rfl, rfl, by simp [World.setCell], fun k _ hn => Below.heap_setCell w _ _ k hn⟩
theorem chgF_alloc (w : World) (o : Obj) (F : Nat → Prop) : ChgF F w (w.alloc o) := ⟨rfl, rfl, rfl, by simp, fun k hk _ => heap_alloc_old w o hk⟩
theorem chgF_drew (w : World) (F : Nat → Prop) : ChgF F w w.drew := ⟨rfl, rfl, rfl, Nat.le_refl _, fun _ _ _ => rfl⟩
theorem chgF_drewN (w : World) (n : Nat) (F : Nat → Prop) : ChgF F w (w.drewN n) := ⟨rfl, rfl, rfl, Nat.le_refl _, fun _ _ _ => rfl⟩

/-- What a reading of one element's cells must obey: it hangs on the blocks below B alone. -/
structure RdOk {α : Type} (R : World → Nat → List Value → α → Prop) : Prop where
  keep : ∀ {w w' : World} {B : Nat} {cs : List Value} {a : α}, R w B cs a → (∀ k, k < B → w'.heap[k]? = w.heap[k]?) → R w' B cs a
  more : ∀ {w : World} {B B' : Nat} {cs : List Value} {a : α}, R w B cs a → B ≤ B' → R w B' cs a

/-- The slice at A with n elements of 'size' cells reads as a list, below block B. -/
def RdSl {α : Type} (size : Nat) (R : World → Nat → List Value → α → Prop) (w : World) (B : Nat) (A : Option Addr) (n : Nat) (ls : List α) : Prop :=
  ls.length = n ∧ (0 < n → ∃ b o, A = some ⟨b, o, none⟩ ∧ b < B ∧ ∀ j a, ls[j]? = some a → ∃ cs : List Value, cs.length = size ∧ (∀ i x, cs[i]? = some x → w.cell? ⟨b, o + (j * size + i), none⟩ = some x) ∧ R w B cs a)

section
variable {α : Type} {size : Nat} {R : World → Nat → List Value → α → Prop} {w w' : World} {B B' n : Nat} {A : Option Addr} {ls : List α}
theorem RdSl.len (h : RdSl size R w B A n ls) : ls.length = n := h.1
theorem cell_of_block_eq {w w' : World} {b : Nat} (h : w'.heap[b]? = w.heap[b]?) (i : Nat) : w'.cell? ⟨b, i, none⟩ = w.cell? ⟨b, i, none⟩ := World.cell?_of_block h
theorem frozen_of_block_eq {w w' : World} {b : Nat} (h : w'.heap[b]? = w.heap[b]?) (i : Nat) : w'.frozen? ⟨b, i, none⟩ = w.frozen? ⟨b, i, none⟩ := World.frozen?_of_block h
theorem RdSl.keep (ok : RdOk R) (h : RdSl size R w B A n ls) (hk : ∀ k, k < B → w'.heap[k]? = w.heap[k]?) : RdSl size R w' B A n ls :=
  ⟨h.1, fun hn => by
    obtain ⟨b, o, hA, hb, hc⟩ := h.2 hn
    refine ⟨b, o, hA, hb, fun j a ha => ?_⟩
    obtain ⟨cs, h1, h2, h3⟩ := hc j a ha
    exact ⟨cs, h1, fun i x hx => (cell_of_block_eq (hk b hb) _).trans (h2 i x hx), ok.keep h3 hk⟩⟩
theorem RdSl.more (ok : RdOk R) (h : RdSl size R w B A n ls) (hB : B ≤ B') : RdSl size R w B' A n ls :=
  ⟨h.1, fun hn => by
    obtain ⟨b, o, hA, hb, hc⟩ := h.2 hn
    refine ⟨b, o, hA, by omega, fun j a ha => ?_⟩
    obtain ⟨cs, h1, h2, h3⟩ := hc j a ha
    exact ⟨cs, h1, h2, ok.more h3 hB⟩⟩
theorem RdSl.below (ok : RdOk R) (h : RdSl size R w B A n ls) (hb : Below B' w w') (hB : B ≤ B') : RdSl size R w' B A n ls := h.keep ok fun k hk => hb.block k (by omega)
theorem RdSl.chgF (ok : RdOk R) {F : Nat → Prop} (h : RdSl size R w B A n ls) (hc : ChgF F w w') (hF : ∀ k, k < B → ¬ F k) (hs : B ≤ w.heap.size) : RdSl size R w' B A n ls := h.keep ok fun k hk => hc.block k (by omega) (hF k hk)
theorem RdSl.at_ (h : RdSl size R w B A n ls) {k : Nat} (hk : k < n) : ∃ b o a cs, A = some ⟨b, o, none⟩ ∧ b < B ∧ ls[k]? = some a ∧ cs.length = size ∧ (∀ i x, cs[i]? = some x → w.cell? ⟨b, o + (k * size + i), none⟩ = some x) ∧ R w B cs a := by
  obtain ⟨b, o, hA, hb, hc⟩ := h.2 (by omega)
  have hl : k < ls.length := by have := h.1; omega
  obtain ⟨cs, h1, h2, h3⟩ := hc k _ (List.getElem?_eq_getElem hl)
  exact ⟨b, o, ls[k], cs, hA, hb, List.getElem?_eq_getElem hl, h1, h2, h3⟩
end

/-- How one element owns memory ('E w F cs a': the cells cs read ls a and own the blocks F): it hangs on F alone. -/
structure OwnOk {α : Type} (E : World → (Nat → Prop) → List Value → α → Prop) : Prop where
  bound : ∀ {w : World} {F : Nat → Prop} {cs : List Value} {a : α}, E w F cs a → ∀ k, F k → k < w.heap.size
  keep : ∀ {w w' : World} {F : Nat → Prop} {cs : List Value} {a : α}, E w F cs a → (∀ k, F k → w'.heap[k]? = w.heap[k]?) → E w' F cs a
theorem OwnOk.chg {α : Type} {E : World → (Nat → Prop) → List Value → α → Prop} (ok : OwnOk E) {w w' : World} {F G : Nat → Prop} {cs : List Value} {a : α} (h : E w F cs a) (c : ChgF G w w') (hd : ∀ k, F k → ¬ G k) : E w' F cs a :=
  ok.keep h fun k hk => c.block k (ok.bound h k hk) (hd k hk)

/-- One element: its cells, its blocks, what it reads ls. -/
structure Item (α : Type) where
  cs : List Value
  F : Nat → Prop
  a : α

theorem flat_get {α : Type} {size : Nat} : ∀ (ts : List (Item α)) (_ : ∀ t ∈ ts, t.cs.length = size) (j i : Nat) (t : Item α), ts[j]? = some t → i < size → (ts.flatMap (·.cs))[j * size + i]? = t.cs[i]?
  | [], _, j, i, t, h, _ => by simp at h
  | s :: ts, hs, 0, i, t, h, hi => by
    have : s.cs.length = size := hs s (by simp)
    simp at h
    subst h
    rw [Nat.zero_mul, Nat.zero_add, List.flatMap_cons, List.getElem?_append_left (by omega)]
  | s :: ts, hs, j + 1, i, t, h, hi => by
    have h1 : s.cs.length = size := hs s (by simp)
    rw [List.flatMap_cons, List.getElem?_append_right (by rw [h1, Nat.succ_mul]; omega), h1, show (j + 1) * size + i - size = j * size + i by rw [Nat.succ_mul]; omega]
    exact flat_get ts (fun t ht => hs t (by simp [ht])) j i t (by simpa using h) hi
theorem flat_set {α : Type} {size : Nat} (x : Value) (F : Nat → Prop) (a : α) : ∀ (ts : List (Item α)) (_ : ∀ t ∈ ts, t.cs.length = size) (j i : Nat) (t : Item α), ts[j]? = some t → i < size →
    (ts.flatMap (·.cs)).set (j * size + i) x = (ts.set j ⟨t.cs.set i x, F, a⟩).flatMap (·.cs)
  | [], _, j, i, t, h, _ => by simp at h
  | s :: ts, hs, 0, i, t, h, hi => by
    have : s.cs.length = size := hs s (by simp)
    simp at h
    subst h
    rw [Nat.zero_mul, Nat.zero_add, List.flatMap_cons, List.set_append_left _ _ (by omega), List.set_cons_zero, List.flatMap_cons]
  | s :: ts, hs, j + 1, i, t, h, hi => by
    have h1 : s.cs.length = size := hs s (by simp)
    rw [List.flatMap_cons, List.set_append_right _ _ (by rw [h1, Nat.succ_mul]; omega), h1, show (j + 1) * size + i - size = j * size + i by rw [Nat.succ_mul]; omega, List.set_cons_succ, List.flatMap_cons,
      flat_set x F a ts (fun t ht => hs t (by simp [ht])) j i t (by simpa using h) hi]
theorem flat_len {α : Type} {size : Nat} : ∀ (ts : List (Item α)), (∀ t ∈ ts, t.cs.length = size) → (ts.flatMap (·.cs)).length = ts.length * size
  | [], _ => by simp
  | s :: ts, hs => by
    rw [List.flatMap_cons, List.length_append, hs s (by simp), flat_len ts (fun t ht => hs t (by simp [ht])), List.length_cons, Nat.succ_mul]
    omega

/-- One cell of an owned row is written. -/
theorem ownsRow_set {w : World} {base : Nat} {e : TypeId} {size : Nat} {v : Value} {n : Nat} {xs : List Value} (h : w.ownsRow base e size v n xs) {i : Nat} (hi : i < n * size) (x : Value) :
    ∃ g c, v = .slice (some ⟨g, 0, none⟩) n c ∧ base ≤ g ∧ g < w.heap.size ∧ w.cell? ⟨g, i, none⟩ = xs[i]? ∧ w.frozen? ⟨g, i, none⟩ = false ∧ (w.setCell ⟨g, i, none⟩ x).ownsRow base e size v n (xs.set i x) := by
  rcases h.2 with ⟨hv, h0⟩ | ⟨g, cap, cur, hv, hlo, hg, hnc, hcm, hsz, ht⟩
  · subst h0
    omega
  · have hle : n * size ≤ cap * size := Nat.mul_le_mul_right _ hnc
    refine ⟨g, cap, hv, hlo, (Array.getElem?_eq_some_iff.1 hg).1, ?_, by simp [World.frozen?, hg], ⟨by rw [List.length_set]; exact h.1, .inr ⟨g, cap, cur.setIfInBounds i x, hv, hlo, by simp [World.setCell, Array.getElem?_modify, hg], hnc, hcm, by simpa using hsz, ?_⟩⟩⟩
    · rw [cell_of_row w g i cur e (0, 0) hg, ← ht, List.getElem?_take, if_pos hi]
      simp
    · rw [Array.toList_setIfInBounds, ← ht, List.take_set]
theorem ownsRow_base {w : World} {base base' : Nat} {e : TypeId} {size : Nat} {v : Value} {n : Nat} {xs : List Value} (h : w.ownsRow base e size v n xs) (hb : ∀ g, v.ownBlock = some g → base' ≤ g) : w.ownsRow base' e size v n xs := by
  refine ⟨h.1, ?_⟩
  rcases h.2 with hn | ⟨g, cap, cur, rfl, hlo, rest⟩
  · exact .inl hn
  · exact .inr ⟨g, cap, cur, rfl, hb g rfl, rest⟩
theorem ownsRow_keep {w w' : World} {lo n size : Nat} {e : TypeId} {v : Value} {xs : List Value} (h : w.ownsRow lo e size v n xs) (hk : ∀ g, v.ownBlock = some g → w'.heap[g]? = w.heap[g]?) : w'.ownsRow lo e size v n xs := by
  refine ⟨h.1, ?_⟩
  rcases h.2 with hn | ⟨g, cap, cur, rfl, hb, hgg, rest⟩
  · exact .inl hn
  · exact .inr ⟨g, cap, cur, rfl, hb, (hk g rfl).trans hgg, rest⟩
theorem ownsRow_cell {w : World} {base : Nat} {e : TypeId} {size : Nat} {v : Value} {n : Nat} {xs : List Value} (h : w.ownsRow base e size v n xs) {i : Nat} (hi : i < n * size) :
    ∃ g c, v = .slice (some ⟨g, 0, none⟩) n c ∧ base ≤ g ∧ g < w.heap.size ∧ w.cell? ⟨g, i, none⟩ = xs[i]? ∧ w.frozen? ⟨g, i, none⟩ = false := by
  obtain ⟨g, c, h1, h2, h3, h4, h5, _⟩ := ownsRow_set h hi (.bool true)
  exact ⟨g, c, h1, h2, h3, h4, h5⟩

/-- The items ts lie in the slice v and in blocks of F; all apart. -/
structure OwnT {α : Type} (e : TypeId) (size : Nat) (E : World → (Nat → Prop) → List Value → α → Prop) (w : World) (F : Nat → Prop) (v : Value) (ts : List (Item α)) : Prop where
  row : w.ownsRow 0 e size v ts.length (ts.flatMap (·.cs))
  len : ∀ t ∈ ts, t.cs.length = size
  elem : ∀ t ∈ ts, E w t.F t.cs t.a
  apart : ts.Pairwise fun s t => ∀ k, s.F k → ¬ t.F k
  head : ∀ g, v.ownBlock = some g → F g ∧ ∀ t ∈ ts, ¬ t.F g
  inF : ∀ t ∈ ts, ∀ k, t.F k → F k
  bound : ∀ k, F k → k < w.heap.size

/-- The slice v reads as a list and owns the blocks F. -/
def OwnSl {α : Type} (e : TypeId) (size : Nat) (E : World → (Nat → Prop) → List Value → α → Prop) (w : World) (F : Nat → Prop) (v : Value) (ls : List α) : Prop := ∃ ts : List (Item α), ls = ts.map (·.a) ∧ OwnT e size E w F v ts

section
variable {α : Type} {e : TypeId} {size : Nat} {E : World → (Nat → Prop) → List Value → α → Prop} {w w' : World} {F G : Nat → Prop} {v : Value} {ts : List (Item α)} {ls : List α}

theorem OwnT.keep (ok : OwnOk E) (h : OwnT e size E w F v ts) (hs : w.heap.size ≤ w'.heap.size) (hk : ∀ k, F k → w'.heap[k]? = w.heap[k]?) : OwnT e size E w' F v ts :=
  ⟨ownsRow_keep h.row fun g hg => hk g (h.head g hg).1, h.len, fun t ht => ok.keep (h.elem t ht) fun k hf => hk k (h.inF t ht k hf), h.apart, h.head, h.inF, fun k hf => Nat.lt_of_lt_of_le (h.bound k hf) hs⟩
theorem OwnT.wide (h : OwnT e size E w F v ts) (hs : ∀ k, F k → G k) (hb : ∀ k, G k → k < w.heap.size) : OwnT e size E w G v ts :=
  ⟨h.row, h.len, h.elem, h.apart, fun g hg => ⟨hs g (h.head g hg).1, (h.head g hg).2⟩, fun t ht k hk => hs k (h.inF t ht k hk), hb⟩
theorem OwnSl.keep (ok : OwnOk E) (h : OwnSl e size E w F v ls) (hs : w.heap.size ≤ w'.heap.size) (hk : ∀ k, F k → w'.heap[k]? = w.heap[k]?) : OwnSl e size E w' F v ls := by
  obtain ⟨ts, h1, h2⟩ := h
  exact ⟨ts, h1, h2.keep ok hs hk⟩
theorem OwnSl.wide (h : OwnSl e size E w F v ls) (hs : ∀ k, F k → G k) (hb : ∀ k, G k → k < w.heap.size) : OwnSl e size E w G v ls := by
  obtain ⟨ts, h1, h2⟩ := h
  exact ⟨ts, h1, h2.wide hs hb⟩
theorem OwnSl.bound (h : OwnSl e size E w F v ls) : ∀ k, F k → k < w.heap.size := by
  obtain ⟨ts, h1, h2⟩ := h
  exact h2.bound
theorem OwnSl.chgF (ok : OwnOk E) (h : OwnSl e size E w F v ls) (c : ChgF G w w') (hd : ∀ k, F k → ¬ G k) : OwnSl e size E w' F v ls :=
  h.keep ok c.size fun k hk => c.block k (h.bound k hk) (hd k hk)
theorem OwnSl.form (h : OwnSl e size E w F v ls) : ∃ A c, v = .slice A ls.length c := by
  obtain ⟨ts, rfl, h2⟩ := h
  rw [List.length_map]
  rcases h2.row.2 with ⟨hv, h0⟩ | ⟨g, cap, cur, hv, _⟩
  · exact ⟨none, 0, by rw [hv, h0]⟩
  · exact ⟨_, _, hv⟩
theorem OwnSl.nil (w : World) (F : Nat → Prop) (hb : ∀ k, F k → k < w.heap.size) : OwnSl e size E w F (.slice none 0 0) ([] : List α) :=
  ⟨[], rfl, World.ownsRow_nil _ _ _ _, by simp, by simp, .nil, fun g hg => by simp [Value.ownBlock] at hg, by simp, hb⟩
/-- An empty slice in a new block. -/
theorem OwnSl.empty (w : World) : OwnSl e size E (w.alloc (.cells #[] e)) (fun k => k = w.heap.size) (.slice (some ⟨w.heap.size, 0, none⟩) 0 0) ([] : List α) :=
  ⟨[], rfl, World.ownsRow_made (base := 0) (e := e) (size := size) w #[] 0 (Nat.zero_le _) (by unfold maxLen; omega) (by simp), by simp, by simp, .nil, fun g hg => by
    simp [Value.ownBlock] at hg
    subst hg
    exact ⟨rfl, by simp⟩, by simp, fun k hk => by subst hk; simp⟩
/-- The row of cells, and what an element more makes of it. -/
theorem OwnSl.open_ (ok : OwnOk E) (h : OwnSl e size E w F v ls) : ∃ xs : List Value, w.ownsRow 0 e size v ls.length xs ∧ (∀ g, v.ownBlock = some g → F g) ∧
    ∀ (w1 w' : World) (G : Nat → Prop) (cs : List Value) (a : α) (g cap : Nat), ChgF (fun _ => False) w w1 → E w1 G cs a → cs.length = size → (∀ k, F k → ¬ G k) →
      w'.ownsRow 0 e size (.slice (some ⟨g, 0, none⟩) (ls.length + 1) cap) (ls.length + 1) (xs ++ cs) → w1.grownBy w' v.ownBlock → (v.ownBlock = some g ∨ w1.heap.size ≤ g) →
      OwnSl e size E w' (fun k => F k ∨ G k ∨ k = g) (.slice (some ⟨g, 0, none⟩) (ls.length + 1) cap) (ls ++ [a]) := by
  obtain ⟨ts, rfl, h⟩ := h
  refine ⟨ts.flatMap (·.cs), by rw [List.length_map]; exact h.row, fun g hg => (h.head g hg).1, fun w1 w' G cs a g cap hc hE hl hFG hown hgrow hg => ?_⟩
  rw [List.length_map] at hown ⊢
  have h1 := h.keep ok hc.size fun k hk => hc.block k (h.bound k hk) (by simp)
  have hglt : g < w'.heap.size := (hown.lt g rfl).2
  have hold : ∀ t ∈ ts, E w' t.F t.cs t.a := fun t ht => ok.keep (h1.elem t ht) fun k hk => hgrow.block k (ok.bound (h1.elem t ht) k hk) fun hr => (h1.head k hr.symm).2 t ht hk
  have hGE : E w' G cs a := ok.keep hE fun k hk => hgrow.block k (ok.bound hE k hk) fun hr => hFG k (h1.head k hr.symm).1 hk
  have hgn : ¬ G g := fun hgG => by
    rcases hg with hg | hg
    · exact hFG g (h1.head g hg).1 hgG
    · have := ok.bound hE g hgG; omega
  have hgt : ∀ t ∈ ts, ¬ t.F g := fun t ht hf => by
    rcases hg with hg | hg
    · exact (h1.head g hg).2 t ht hf
    · have := ok.bound (h1.elem t ht) g hf; omega
  refine ⟨ts ++ [⟨cs, G, a⟩], by simp, ?_, ?_, ?_, ?_, ?_, ?_, ?_⟩
  · rw [List.length_append, List.length_singleton, List.flatMap_append]
    simpa using hown
  · intro t ht
    rcases List.mem_append.1 ht with ht | ht
    · exact h.len t ht
    · obtain rfl := List.mem_singleton.1 ht
      exact hl
  · intro t ht
    rcases List.mem_append.1 ht with ht | ht
    · exact hold t ht
    · obtain rfl := List.mem_singleton.1 ht
      exact hGE
  · rw [List.pairwise_append]
    refine ⟨h.apart, by simp, fun s hs t ht k hk => ?_⟩
    obtain rfl := List.mem_singleton.1 ht
    exact hFG k (h.inF s hs k hk)
  · intro g' hg'
    simp [Value.ownBlock] at hg'
    subst hg'
    refine ⟨.inr (.inr rfl), fun t ht => ?_⟩
    rcases List.mem_append.1 ht with ht | ht
    · exact hgt t ht
    · obtain rfl := List.mem_singleton.1 ht
      exact hgn
  · intro t ht k hk
    rcases List.mem_append.1 ht with ht | ht
    · exact .inl (h.inF t ht k hk)
    · obtain rfl := List.mem_singleton.1 ht
      exact .inr (.inl hk)
  · intro k hk
    rcases hk with hk | hk | rfl
    · exact Nat.lt_of_lt_of_le (h1.bound k hk) hgrow.size
    · exact Nat.lt_of_lt_of_le (ok.bound hE k hk) hgrow.size
    · exact hglt
/-- Element j: its cells, its blocks, and what becomes of the whole when it changes. -/
theorem OwnSl.at_ (ok : OwnOk E) (h : OwnSl e size E w F v ls) {j : Nat} (hj : j < ls.length) (h0 : 0 < size) : ∃ g c, v = .slice (some ⟨g, 0, none⟩) ls.length c ∧ F g ∧ ∃ (cs : List Value) (a : α) (H : Nat → Prop),
    ls[j]? = some a ∧ cs.length = size ∧ E w H cs a ∧ (∀ k, H k → F k ∧ k ≠ g) ∧ (∀ i x, cs[i]? = some x → w.cell? ⟨g, j * size + i, none⟩ = some x ∧ w.frozen? ⟨g, j * size + i, none⟩ = false) ∧
    (∀ (w' : World) (a' : α), ChgF H w w' → E w' H cs a' → OwnSl e size E w' F v (ls.set j a')) ∧
    (∀ (w1 : World) (G : Nat → Prop) (i : Nat) (x : Value) (a' : α), ChgF (fun _ => False) w w1 → i < size → E w1 G (cs.set i x) a' → (∀ k, G k → H k ∨ w.heap.size ≤ k) → OwnSl e size E (w1.setCell ⟨g, j * size + i, none⟩ x) (fun k => F k ∨ G k) v (ls.set j a')) := by
  obtain ⟨ts, rfl, h⟩ := h
  rw [List.length_map] at hj ⊢
  have hm : ts[j] ∈ ts := List.getElem_mem hj
  have hge : ts[j]? = some ts[j] := List.getElem?_eq_getElem hj
  have hidx : ∀ i, i < size → j * size + i < ts.length * size := fun i hi => by
    have : (j + 1) * size ≤ ts.length * size := Nat.mul_le_mul_right _ hj
    rw [Nat.succ_mul] at this
    omega
  obtain ⟨g, c, hv, _, hglt, _, _⟩ := ownsRow_cell h.row (hidx 0 h0)
  have hgF := h.head g (by rw [hv]; rfl)
  have hdis : ∀ i s, ts[i]? = some s → i ≠ j → ∀ k, s.F k → ¬ ts[j].F k := by
    intro i s hs hne k hk hk'
    have hil : i < ts.length := (List.getElem?_eq_some_iff.1 hs).1
    have hse : ts[i] = s := (List.getElem?_eq_some_iff.1 hs).2
    subst hse
    rcases Nat.lt_or_gt_of_ne hne with hlt | hgt
    · exact List.pairwise_iff_getElem.1 h.apart i j hil hj hlt k hk hk'
    · exact List.pairwise_iff_getElem.1 h.apart j i hj hil hgt k hk' hk
  have mem_set : ∀ (t' : Item α) s, s ∈ ts.set j t' → s = t' ∨ ∃ i, i ≠ j ∧ ts[i]? = some s := by
    intro t' s hs
    obtain ⟨i, hi⟩ := List.mem_iff_getElem?.1 hs
    rw [List.getElem?_set] at hi
    split at hi
    · exact .inl (by injection hi with hi; exact hi.symm)
    · exact .inr ⟨i, by omega, hi⟩
  have pair_set : ∀ (t' : Item α), (∀ i s, ts[i]? = some s → i ≠ j → ∀ k, s.F k → ¬ t'.F k) → (ts.set j t').Pairwise fun s t => ∀ k, s.F k → ¬ t.F k := by
    intro t' ht'
    rw [List.pairwise_iff_getElem]
    intro a b ha hb hab k hk hk'
    rw [List.getElem_set] at hk hk'
    have ha' : a < ts.length := by simpa using ha
    have hb' : b < ts.length := by simpa using hb
    split at hk
    · split at hk'
      · omega
      · exact ht' b ts[b] (List.getElem?_eq_getElem hb') (by omega) k hk' hk
    · split at hk'
      · exact ht' a ts[a] (List.getElem?_eq_getElem ha') (by omega) k hk hk'
      · exact List.pairwise_iff_getElem.1 h.apart a b ha' hb' hab k hk hk'
  refine ⟨g, c, hv, hgF.1, ts[j].cs, ts[j].a, ts[j].F, by simp [hge], h.len _ hm, h.elem _ hm, fun k hk => ⟨h.inF _ hm k hk, fun e => hgF.2 _ hm (e ▸ hk)⟩, ?_, ?_, ?_⟩
  · intro i x hx
    have hi : i < size := by rw [← h.len _ hm]; exact (List.getElem?_eq_some_iff.1 hx).1
    obtain ⟨g', c', hv', _, _, hc, hf⟩ := ownsRow_cell h.row (hidx i hi)
    rw [hv] at hv'
    injection hv' with h1 _ _
    injection h1 with h1
    injection h1 with h1
    subst h1
    exact ⟨hc.trans ((flat_get ts h.len j i _ hge hi).trans hx), hf⟩
  · intro w' a' hc hE
    refine ⟨ts.set j ⟨ts[j].cs, ts[j].F, a'⟩, by rw [List.map_set], ?_, ?_, ?_, ?_, ?_, ?_, ?_⟩
    · have : (ts.set j ⟨ts[j].cs, ts[j].F, a'⟩).flatMap (·.cs) = ts.flatMap (·.cs) := by
        rw [List.flatMap_def, List.flatMap_def, List.map_set]
        congr 1
        apply List.ext_getElem?
        intro i
        rw [List.getElem?_set]
        split
        · rename_i hij
          subst hij
          simp [hj]
        · rfl
      rw [List.length_set, this]
      exact ownsRow_keep h.row fun g' hg' => hc.block g' (by have := h.row.lt g' hg'; omega) (fun hf => (h.head g' hg').2 _ hm hf)
    · intro s hs
      rcases mem_set _ s hs with rfl | ⟨i, _, hi⟩
      · exact h.len ts[j] hm
      · exact h.len s (List.mem_of_getElem? hi)
    · intro s hs
      rcases mem_set _ s hs with rfl | ⟨i, hij, hi⟩
      · exact hE
      · exact ok.chg (h.elem s (List.mem_of_getElem? hi)) hc fun k hk => hdis i s hi hij k hk
    · exact pair_set _ hdis
    · intro g' hg'
      refine ⟨(h.head g' hg').1, fun s hs => ?_⟩
      rcases mem_set _ s hs with rfl | ⟨i, _, hi⟩
      · exact (h.head g' hg').2 ts[j] hm
      · exact (h.head g' hg').2 s (List.mem_of_getElem? hi)
    · intro s hs k hk
      rcases mem_set _ s hs with rfl | ⟨i, _, hi⟩
      · exact h.inF ts[j] hm k hk
      · exact h.inF s (List.mem_of_getElem? hi) k hk
    · exact fun k hk => Nat.lt_of_lt_of_le (h.bound k hk) hc.size
  · intro w1 G i x a' hc hi hE hG
    have hk1 := h.keep ok hc.size fun k hk => hc.block k (h.bound k hk) (by simp)
    have hGg : ∀ k, G k → k ≠ g := fun k hk e => by
      rcases hG k hk with h1 | h1
      · exact hgF.2 _ hm (e ▸ h1)
      · omega
    have hGo : ∀ i s, ts[i]? = some s → i ≠ j → ∀ k, s.F k → ¬ G k := fun i s hs hij k hk hk' => by
      rcases hG k hk' with h1 | h1
      · exact hdis i s hs hij k hk h1
      · have := ok.bound (h.elem s (List.mem_of_getElem? hs)) k hk; omega
    have hset := chgF_setCell w1 g (j * size + i) x
    obtain ⟨g', c', hv', _, _, _, _, hrow⟩ := ownsRow_set hk1.row (hidx i hi) x
    rw [hv] at hv'
    injection hv' with h1 _ _
    injection h1 with h1
    injection h1 with h1
    subst h1
    refine ⟨ts.set j ⟨ts[j].cs.set i x, G, a'⟩, by rw [List.map_set], ?_, ?_, ?_, ?_, ?_, ?_, ?_⟩
    · rw [List.length_set, ← flat_set x G a' ts h.len j i _ hge hi]
      exact hrow
    · intro s hs
      rcases mem_set _ s hs with rfl | ⟨i, _, hi⟩
      · rw [List.length_set]
        exact h.len _ hm
      · exact h.len s (List.mem_of_getElem? hi)
    · intro s hs
      rcases mem_set _ s hs with rfl | ⟨i, hij, hi⟩
      · exact ok.chg hE hset fun k hk => hGg k hk
      · exact ok.chg (hk1.elem s (List.mem_of_getElem? hi)) hset fun k hk e => hgF.2 s (List.mem_of_getElem? hi) (e ▸ hk)
    · exact pair_set _ hGo
    · intro g' hg'
      have hgg : g' = g := by rw [hv] at hg'; simpa [Value.ownBlock, eq_comm] using hg'
      subst hgg
      refine ⟨.inl hgF.1, fun s hs => ?_⟩
      rcases mem_set _ s hs with rfl | ⟨i, _, hi⟩
      · exact fun hk => hGg _ hk rfl
      · exact hgF.2 s (List.mem_of_getElem? hi)
    · intro s hs k hk
      rcases mem_set _ s hs with rfl | ⟨i, _, hi⟩
      · exact .inr hk
      · exact .inl (h.inF s (List.mem_of_getElem? hi) k hk)
    · intro k hk
      rcases hk with hk | hk
      · exact Nat.lt_of_lt_of_le (hk1.bound k hk) hset.size
      · exact Nat.lt_of_lt_of_le (ok.bound hE k hk) hset.size
/-- A new block of n elements, all alike, that own nothing. -/
theorem OwnSl.made (w : World) (n : Nat) (zs : List Value) (a0 : α) (cur : Array Value) (hl : zs.length = size) (hm : n ≤ maxLen) (hcur : cur.toList = (List.replicate n zs).flatten)
    (hE : E (w.alloc (.cells cur e)) (fun _ => False) zs a0) : OwnSl e size E (w.alloc (.cells cur e)) (fun k => k = w.heap.size) (.slice (some ⟨w.heap.size, 0, none⟩) n n) (List.replicate n a0) := by
  have hfl : (List.replicate n (⟨zs, fun _ => False, a0⟩ : Item α)).flatMap (·.cs) = cur.toList := by rw [hcur, List.flatMap_def, List.map_replicate]
  have hmem : ∀ t ∈ List.replicate n (⟨zs, fun _ => False, a0⟩ : Item α), t = ⟨zs, fun _ => False, a0⟩ := fun t ht => List.eq_of_mem_replicate ht
  have hsz : cur.size = n * size := by rw [← Array.length_toList, ← hfl, flat_len _ (fun t ht => by rw [hmem t ht]; exact hl : ∀ t ∈ List.replicate n (⟨zs, fun _ => False, a0⟩ : Item α), t.cs.length = size), List.length_replicate]
  refine ⟨List.replicate n ⟨zs, fun _ => False, a0⟩, by rw [List.map_replicate], ⟨by rw [hfl, List.length_replicate, ← hsz]; simp, .inr ⟨w.heap.size, n, cur, by rw [List.length_replicate], Nat.zero_le _, heap_alloc_new w _, by rw [List.length_replicate]; exact Nat.le_refl _, hm, hsz, ?_⟩⟩, ?_, ?_, ?_, ?_, ?_, ?_⟩
  · rw [List.length_replicate, hfl]
    exact List.take_of_length_le (by simp [hsz])
  · exact fun t ht => by rw [hmem t ht]; exact hl
  · exact fun t ht => by rw [hmem t ht]; exact hE
  · rw [List.pairwise_iff_getElem]
    intro i j hi hj _ k hk
    simp at hk
  · intro g hg
    simp [Value.ownBlock] at hg
    exact ⟨hg.symm, fun t ht => by rw [hmem t ht]; simp⟩
  · intro t ht k hk
    rw [hmem t ht] at hk
    exact hk.elim
  · intro k hk
    subst hk
    simp
theorem OwnSl.rd {R : World → Nat → List Value → α → Prop} {B n c : Nat} {A : Option Addr} (h : OwnSl e size E w F (.slice A n c) ls) (hn : ls.length = n) (h0 : 0 < size) (hF : ∀ k, F k → k < B)
    (hR : ∀ G cs a, E w G cs a → (∀ k, G k → k < B) → R w B cs a) : RdSl size R w B A n ls := by
  subst hn
  refine ⟨rfl, fun hn => ?_⟩
  obtain ⟨ts, rfl, h⟩ := h
  rw [List.length_map] at hn
  obtain ⟨g, c', hv, _, hglt, _, _⟩ := ownsRow_cell h.row (i := 0) (Nat.mul_pos hn h0)
  injection hv with h1 _ _
  subst h1
  refine ⟨g, 0, rfl, hF g (h.head g rfl).1, fun j a ha => ?_⟩
  rw [List.getElem?_map] at ha
  obtain ⟨t, ht, rfl⟩ := Option.map_eq_some_iff.1 ha
  have hm := List.mem_of_getElem? ht
  have hj : j < ts.length := (List.getElem?_eq_some_iff.1 ht).1
  refine ⟨t.cs, h.len t hm, fun i x hx => ?_, hR t.F t.cs t.a (h.elem t hm) fun k hk => hF k (h.inF t hm k hk)⟩
  have hi : i < size := by rw [← h.len t hm]; exact (List.getElem?_eq_some_iff.1 hx).1
  have hidx : j * size + i < ts.length * size := by
    have : (j + 1) * size ≤ ts.length * size := Nat.mul_le_mul_right _ hj
    rw [Nat.succ_mul] at this
    omega
  obtain ⟨g', c', hv', _, _, hc, _⟩ := ownsRow_cell h.row hidx
  injection hv' with h1 _ _
  injection h1 with h1
  injection h1 with h1
  subst h1
  rw [Nat.zero_add]
  exact hc.trans ((flat_get ts h.len j i _ ht hi).trans hx)
end
end Go.Proofs.YtmojjbhjjhdpaaaDoor
