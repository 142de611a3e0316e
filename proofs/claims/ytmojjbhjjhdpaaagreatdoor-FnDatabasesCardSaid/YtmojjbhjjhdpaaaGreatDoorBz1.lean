/- Base, Words, Own, Ints, Mark, Row, LawR, Cmp, LawE, Tab, New, App, EqI, IsTab, Perm, Copy, IsTabS, Cont, Kn, ContS, TabR, Del, Srt, Cpt, Cell, LInv, Put, CopyS, DelS, NewP, in one text, as far as the seat's program has the functions (printed by tools/fit2.py). -/
import Derived.Test.YtmojjbhjjhdpaaaGreatDoorProg
import Derived.WalkKit
import Derived.WalkSpells
import Derived.WalkLawsBesides
import Derived.Lib.Hide
import Derived.Deep.QuietTactic
import Derived.BigQuiet
import Derived.Laws.BytesArg
import Derived.Maps.AppendAt
import Derived.Deep.AppendLies
import Derived.Deep.Draws
import Derived.OwnWalk
import Derived.Deep.OwnRows
import Derived.Outline
import Derived.Deep.RegionHeld3
import Derived.Deep.RegionLaw
import Derived.RegionTactic
import Derived.Test.YtmojjbhjjhdpaaaGreatDoorShelf
namespace Go.Proofs.YtmojjbhjjhdpaaaGreatDoor
section
open Go.RowKit

/-- n lies between a and b. -/
def inB (n a b : Int) : Bool := decide (a ≤ n) && decide (n ≤ b)

theorem inB_true {n a b : Int} (h1 : a ≤ n) (h2 : n ≤ b) : inB n a b = true := by simp [inB, h1, h2]

theorem inB_false {n a b : Int} (h : ¬ (a ≤ n ∧ n ≤ b)) : inB n a b = false := by
  unfold inB
  by_cases h1 : a ≤ n <;> by_cases h2 : n ≤ b <;> simp_all

theorem inB_iff {n a b : Int} : inB n a b = true ↔ a ≤ n ∧ n ≤ b := by simp [inB]

theorem int_wf {n : Int} (h : (Lit.int .i64 n).wf = true) : -9223372036854775808 ≤ n ∧ n ≤ 9223372036854775807 := by
  have h' : (decide (IntKind.i64.min ≤ n) && decide (n ≤ IntKind.i64.max)) = true := h
  have e1 : IntKind.i64.min = -9223372036854775808 := by decide
  have e2 : IntKind.i64.max = 9223372036854775807 := by decide
  rw [e1, e2] at h'
  simpa using h'

theorem below_drewN {B : Nat} {a w : World} (h : Below B a w) (n : Nat) : Below B a (w.drewN n) := ⟨h.os, h.tape, h.output, h.size, h.block⟩

/-- Only draws lie between. -/
def Qt (w w' : World) : Prop := ∃ q, w' = w.drewN q

theorem Qt.refl (w : World) : Qt w w := ⟨0, rfl⟩

theorem Qt.drewN {w w' : World} (h : Qt w w') (n : Nat) : Qt w (w'.drewN n) := by
  obtain ⟨q, rfl⟩ := h
  exact ⟨q + n, by rw [World.drewN_drewN]⟩

theorem Qt.trans {a b c : World} (h : Qt a b) (k : Qt b c) : Qt a c := by
  obtain ⟨q, rfl⟩ := k
  exact h.drewN q

theorem Qt.drew {w w' : World} (h : Qt w w') : Qt w w'.drew := h.drewN 1

theorem Qt.heap {w w' : World} (h : Qt w w') : w'.heap = w.heap := by
  obtain ⟨q, rfl⟩ := h
  rfl

theorem Qt.cell {w w' : World} (h : Qt w w') {p : Addr} : w'.cell? p = w.cell? p := by
  obtain ⟨q, rfl⟩ := h
  rfl

theorem Qt.below {w w' : World} (h : Qt w w') (B : Nat) : Below B w w' := by
  obtain ⟨q, rfl⟩ := h
  exact below_drewN (Below.refl _ _) q

theorem ret_int {k : IntKind} {a b : Int} (h : a = b) : Ending.returned (.int k a) = .returned (.int k b) := by rw [h]

theorem quiet_left {P : Program} {f : FuncId} {args : Array Value} {w : World} {n : Nat} {v : Value}
    (h : Calls P f args (w.drewN n) fun e w' => e = .returned v ∧ w.drewN n = w') : Calls P f args (w.drewN n) fun e w'' => e = .returned v ∧ ∃ m, w'' = w.drewN m :=
  h.mono fun _ _ ⟨he, hm⟩ => ⟨he, n, hm.symm⟩

theorem l1In_any (n a b : Int) (w : World) : Calls Tryz.prog 46 #[.int .i64 n, .int .i64 a, .int .i64 b] w fun e w' => e = .returned (.bool (inB n a b)) ∧ w = w' := by
  unfold inB
  by_cases h1 : a ≤ n
  all_goals
    go_enter Tryz.func46, Tryz.ntmps46
    go_wp2
    go_ret
    exact ⟨by first | (simp [h1]; done) | (simp; omega), rfl⟩

theorem within_any (n a b : Int) (w : World) : Calls Tryz.prog 54 #[.int .i64 n, .int .i64 a, .int .i64 b] w fun e w' => e = .returned (.bool (inB n a b)) ∧ w = w' := by
  unfold inB
  by_cases h1 : a ≤ n
  all_goals
    go_enter Tryz.func54, Tryz.ntmps54
    go_wp2
    go_ret
    exact ⟨by first | (simp [h1]; done) | (simp; omega), rfl⟩

end

section
open Go.RowKit

/-- A byte as a value. -/
def bv (b : UInt8) : Value := .int .u8 (b.toNat : Int)

/-- An int as a value. -/
def iv (n : Int) : Value := .int .i64 n

theorem strOf_bytes (l : List UInt8) : strOfNums (l.map fun b => (b.toNat : Int)) = ⟨l.toArray⟩ := by
  unfold strOfNums
  congr 2
  rw [List.map_map]
  conv => rhs; rw [← List.map_id l]
  apply List.map_congr_left
  intro b _
  simp

/-- 'string(out)', out a row of the call's own. -/
theorem own_string {P : Program} {w : World} {base n : Nat} {e : TypeId} {v : Value} {l : List UInt8} (h : w.ownsRow base e 1 v n (l.map bv)) {src dst : TypeId}
    (hs : P.underlying src = some (.slice e)) (he : P.underlying e = some (.int .u8)) (hd : P.underlying dst = some .string) :
    (convert src dst v).run P w = .ok (.string ⟨l.toArray⟩) w := by
  have hl := h.1
  rcases h.2 with ⟨rfl, rfl⟩ | ⟨g, cap, cur, rfl, hb, hg, hn, hc, hsz, ht⟩
  · have : l = [] := by cases l <;> simp_all
    subst this
    exact run_convert_bytes_nil w src e hs he _ _ dst hd
  · have := run_convert_bytes_arg (P := P) w src e hs he g 0 n cap (l.map fun b => (b.toNat : Int)) (by simpa using hl) (fun i hi => by
      rw [Nat.zero_add, cell_of_row w g i cur e (0, 0) hg]
      have hi' : i < l.length := by simp at hl; omega
      have h1 : (cur.toList.take (n * 1))[i]? = (l.map bv)[i]? := by rw [ht]
      rw [List.getElem?_take, if_pos (by omega)] at h1
      simp [List.getElem?_eq_getElem hi'] at h1
      simp [h1, bv, List.getElem?_eq_getElem hi']) dst hd
    rw [this, strOf_bytes]

theorem take_snoc (s : ByteArray) (k : Nat) (h : k < s.size) : s.data.toList.take (k + 1) = s.data.toList.take k ++ [s[k]] := by
  rw [List.take_succ_eq_append_getElem (by simpa using h)]; rfl

theorem take_all (s : ByteArray) : s.data.toList.take s.size = s.data.toList := List.take_of_length_le (by simp)

theorem bv_of (n : Nat) (h : n < 256) : Value.int .u8 (n : Int) = bv (UInt8.ofNat n) := by
  unfold bv
  congr 1
  have : (UInt8.ofNat n).toNat = n := by rw [UInt8.toNat_ofNat']; exact Nat.mod_eq_of_lt h
  omega

theorem bytes_append (a b : List UInt8) : ({ data := a.toArray } : ByteArray) ++ ({ data := b.toArray } : ByteArray) = { data := (a ++ b).toArray } := by
  apply ByteArray.ext
  simp

/-- 'string([]byte{x})': one new byte. -/
theorem one_byte {P : Program} (w : World) (src dst e : TypeId) (x : Int) (h0 : 0 ≤ x) (h1 : x < 256) (hs : P.underlying src = some (.slice e)) (he : P.underlying e = some (.int .u8)) (hd : P.underlying dst = some .string) :
    (convert src dst (.slice (some ⟨w.heap.size, 0, none⟩) 1 1)).run P (w.alloc (.cells #[.int .u8 x] e)) = .ok (.string ⟨#[UInt8.ofNat x.toNat]⟩) (w.alloc (.cells #[.int .u8 x] e)) := by
  have hx : Value.int .u8 x = bv (UInt8.ofNat x.toNat) := by rw [← bv_of x.toNat (by omega), Int.toNat_of_nonneg h0]
  rw [hx]
  exact own_string (l := [UInt8.ofNat x.toNat]) (base := 0) (n := 1) (e := e) ⟨rfl, .inr ⟨w.heap.size, 1, #[bv (UInt8.ofNat x.toNat)], rfl, Nat.zero_le _, heap_alloc_new w _, Nat.le_refl _, by unfold maxLen; omega, rfl, rfl⟩⟩ hs he hd

theorem str_of {s : ByteArray} {l : List UInt8} (h : s.data.toList = l) : s = ⟨l.toArray⟩ := by
  subst h
  apply ByteArray.ext
  simp

theorem str_ne {a b : ByteArray} (h : ¬ a = b) : ¬ a.toList = b.toList := fun e => h (WideShapes.bytes_inj (by rwa [ByteArray.toList_eq, ByteArray.toList_eq] at e))

theorem str_eq0 {a b : ByteArray} (h : ¬ a = b) : (a.toList == b.toList) = false := by simpa using str_ne h

theorem str_ne1 {a b : ByteArray} (h : ¬ a = b) : (a.toList != b.toList) = true := by simpa using str_ne h

end

section
open Go.RowKit Go.Deep

/-- Only the blocks of F may have changed, and blocks may have come. -/
structure ChgF (F : Nat → Prop) (w w' : World) : Prop where
  os : w'.os = w.os
  tape : w'.tape = w.tape
  output : w'.output = w.output
  size : w.heap.size ≤ w'.heap.size
  block : ∀ k, k < w.heap.size → ¬ F k → w'.heap[k]? = w.heap[k]?

theorem ChgF.refl (F : Nat → Prop) (w : World) : ChgF F w w := ⟨rfl, rfl, rfl, Nat.le_refl _, fun _ _ _ => rfl⟩

theorem ChgF.trans {F : Nat → Prop} {a b c : World} (h : ChgF F a b) (k : ChgF F b c) : ChgF F a c :=
  ⟨k.os.trans h.os, k.tape.trans h.tape, k.output.trans h.output, Nat.le_trans h.size k.size, fun i hi hn => (k.block i (Nat.lt_of_lt_of_le hi h.size) hn).trans (h.block i hi hn)⟩

theorem ChgF.mono {F G : Nat → Prop} {a b : World} (h : ChgF F a b) (hs : ∀ k, k < a.heap.size → F k → G k) : ChgF G a b :=
  ⟨h.os, h.tape, h.output, h.size, fun i hi hn => h.block i hi fun hf => hn (hs i hi hf)⟩

theorem ChgF.below {F : Nat → Prop} {B : Nat} {w w' : World} (h : ChgF F w w') (hB : ∀ k, F k → B ≤ k) (hs : B ≤ w.heap.size) : Below B w w' :=
  ⟨h.os, h.tape, h.output, h.size, fun k hk => h.block k (by omega) fun hf => by have := hB k hf; omega⟩

theorem chgF_of_below {B : Nat} {w w' : World} (h : Below B w w') : ChgF (fun k => B ≤ k) w w' :=
  ⟨h.os, h.tape, h.output, h.size, fun k _ hn => h.block k (by omega)⟩

theorem chgF_of_grown {w w' : World} {row : Option Nat} (h : w.grownBy w' row) : ChgF (fun k => row = some k) w w' :=
  ⟨h.os, h.tape, h.output, h.size, fun k hk hn => h.block k hk fun e => hn e.symm⟩

theorem chgF_setCell (w : World) (g i : Nat) (x : Value) : ChgF (fun k => k = g) w (w.setCell ⟨g, i, none⟩ x) :=
  ⟨rfl, rfl, rfl, by simp [World.setCell], fun k _ hn => Below.heap_setCell w _ _ k hn⟩

theorem chgF_alloc (w : World) (o : Obj) (F : Nat → Prop) : ChgF F w (w.alloc o) := ⟨rfl, rfl, rfl, by simp, fun k hk _ => heap_alloc_old w o hk⟩

theorem chgF_drew (w : World) (F : Nat → Prop) : ChgF F w w.drew := ⟨rfl, rfl, rfl, Nat.le_refl _, fun _ _ _ => rfl⟩

theorem chgF_drewN (w : World) (n : Nat) (F : Nat → Prop) : ChgF F w (w.drewN n) := ⟨rfl, rfl, rfl, Nat.le_refl _, fun _ _ _ => rfl⟩

/-- What a reading of one element's cells must obey: it hangs on the blocks below B alone. -/
structure RdOk {α : Type} (R : World → Nat → List Value → α → Prop) : Prop where
  keep : ∀ {w w' : World} {B : Nat} {cs : List Value} {a : α}, R w B cs a → (∀ k, k < B → w'.heap[k]? = w.heap[k]?) → R w' B cs a
  more : ∀ {w : World} {B B' : Nat} {cs : List Value} {a : α}, R w B cs a → B ≤ B' → R w B' cs a

/-- The slice at A with n elements of 'size' cells reads as a list, below block B. -/
def RdSl {α : Type} (size : Nat) (R : World → Nat → List Value → α → Prop) (w : World) (B : Nat) (A : Option Addr) (n : Nat) (ls : List α) : Prop :=
  ls.length = n ∧ (0 < n → ∃ b o, A = some ⟨b, o, none⟩ ∧ b < B ∧ ∀ j a, ls[j]? = some a → ∃ cs : List Value, cs.length = size ∧ (∀ i x, cs[i]? = some x → w.cell? ⟨b, o + (j * size + i), none⟩ = some x) ∧ R w B cs a)

section

variable {α : Type} {size : Nat} {R : World → Nat → List Value → α → Prop} {w w' : World} {B B' n : Nat} {A : Option Addr} {ls : List α}

theorem RdSl.len (h : RdSl size R w B A n ls) : ls.length = n := h.1

theorem cell_of_block_eq {w w' : World} {b : Nat} (h : w'.heap[b]? = w.heap[b]?) (i : Nat) : w'.cell? ⟨b, i, none⟩ = w.cell? ⟨b, i, none⟩ := World.cell?_of_block h

theorem frozen_of_block_eq {w w' : World} {b : Nat} (h : w'.heap[b]? = w.heap[b]?) (i : Nat) : w'.frozen? ⟨b, i, none⟩ = w.frozen? ⟨b, i, none⟩ := World.frozen?_of_block h

theorem RdSl.keep (ok : RdOk R) (h : RdSl size R w B A n ls) (hk : ∀ k, k < B → w'.heap[k]? = w.heap[k]?) : RdSl size R w' B A n ls :=
  ⟨h.1, fun hn => by
    obtain ⟨b, o, hA, hb, hc⟩ := h.2 hn
    refine ⟨b, o, hA, hb, fun j a ha => ?_⟩
    obtain ⟨cs, h1, h2, h3⟩ := hc j a ha
    exact ⟨cs, h1, fun i x hx => (cell_of_block_eq (hk b hb) _).trans (h2 i x hx), ok.keep h3 hk⟩⟩

theorem RdSl.more (ok : RdOk R) (h : RdSl size R w B A n ls) (hB : B ≤ B') : RdSl size R w B' A n ls :=
  ⟨h.1, fun hn => by
    obtain ⟨b, o, hA, hb, hc⟩ := h.2 hn
    refine ⟨b, o, hA, by omega, fun j a ha => ?_⟩
    obtain ⟨cs, h1, h2, h3⟩ := hc j a ha
    exact ⟨cs, h1, h2, ok.more h3 hB⟩⟩

theorem RdSl.below (ok : RdOk R) (h : RdSl size R w B A n ls) (hb : Below B' w w') (hB : B ≤ B') : RdSl size R w' B A n ls := h.keep ok fun k hk => hb.block k (by omega)

theorem RdSl.chgF (ok : RdOk R) {F : Nat → Prop} (h : RdSl size R w B A n ls) (hc : ChgF F w w') (hF : ∀ k, k < B → ¬ F k) (hs : B ≤ w.heap.size) : RdSl size R w' B A n ls := h.keep ok fun k hk => hc.block k (by omega) (hF k hk)

theorem RdSl.at_ (h : RdSl size R w B A n ls) {k : Nat} (hk : k < n) : ∃ b o a cs, A = some ⟨b, o, none⟩ ∧ b < B ∧ ls[k]? = some a ∧ cs.length = size ∧ (∀ i x, cs[i]? = some x → w.cell? ⟨b, o + (k * size + i), none⟩ = some x) ∧ R w B cs a := by
  obtain ⟨b, o, hA, hb, hc⟩ := h.2 (by omega)
  have hl : k < ls.length := by have := h.1; omega
  obtain ⟨cs, h1, h2, h3⟩ := hc k _ (List.getElem?_eq_getElem hl)
  exact ⟨b, o, ls[k], cs, hA, hb, List.getElem?_eq_getElem hl, h1, h2, h3⟩

end

/-- How one element owns memory ('E w F cs a': the cells cs read ls a and own the blocks F): it hangs on F alone. -/
structure OwnOk {α : Type} (E : World → (Nat → Prop) → List Value → α → Prop) : Prop where
  bound : ∀ {w : World} {F : Nat → Prop} {cs : List Value} {a : α}, E w F cs a → ∀ k, F k → k < w.heap.size
  keep : ∀ {w w' : World} {F : Nat → Prop} {cs : List Value} {a : α}, E w F cs a → (∀ k, F k → w'.heap[k]? = w.heap[k]?) → E w' F cs a

theorem OwnOk.chg {α : Type} {E : World → (Nat → Prop) → List Value → α → Prop} (ok : OwnOk E) {w w' : World} {F G : Nat → Prop} {cs : List Value} {a : α} (h : E w F cs a) (c : ChgF G w w') (hd : ∀ k, F k → ¬ G k) : E w' F cs a :=
  ok.keep h fun k hk => c.block k (ok.bound h k hk) (hd k hk)

/-- One element: its cells, its blocks, what it reads ls. -/
structure Item (α : Type) where
  cs : List Value
  F : Nat → Prop
  a : α

theorem flat_get {α : Type} {size : Nat} : ∀ (ts : List (Item α)) (_ : ∀ t ∈ ts, t.cs.length = size) (j i : Nat) (t : Item α), ts[j]? = some t → i < size → (ts.flatMap (·.cs))[j * size + i]? = t.cs[i]?
  | [], _, j, i, t, h, _ => by simp at h
  | s :: ts, hs, 0, i, t, h, hi => by
    have : s.cs.length = size := hs s (by simp)
    simp at h
    subst h
    rw [Nat.zero_mul, Nat.zero_add, List.flatMap_cons, List.getElem?_append_left (by omega)]
  | s :: ts, hs, j + 1, i, t, h, hi => by
    have h1 : s.cs.length = size := hs s (by simp)
    rw [List.flatMap_cons, List.getElem?_append_right (by rw [h1, Nat.succ_mul]; omega), h1, show (j + 1) * size + i - size = j * size + i by rw [Nat.succ_mul]; omega]
    exact flat_get ts (fun t ht => hs t (by simp [ht])) j i t (by simpa using h) hi

theorem flat_set {α : Type} {size : Nat} (x : Value) (F : Nat → Prop) (a : α) : ∀ (ts : List (Item α)) (_ : ∀ t ∈ ts, t.cs.length = size) (j i : Nat) (t : Item α), ts[j]? = some t → i < size →
    (ts.flatMap (·.cs)).set (j * size + i) x = (ts.set j ⟨t.cs.set i x, F, a⟩).flatMap (·.cs)
  | [], _, j, i, t, h, _ => by simp at h
  | s :: ts, hs, 0, i, t, h, hi => by
    have : s.cs.length = size := hs s (by simp)
    simp at h
    subst h
    rw [Nat.zero_mul, Nat.zero_add, List.flatMap_cons, List.set_append_left _ _ (by omega), List.set_cons_zero, List.flatMap_cons]
  | s :: ts, hs, j + 1, i, t, h, hi => by
    have h1 : s.cs.length = size := hs s (by simp)
    rw [List.flatMap_cons, List.set_append_right _ _ (by rw [h1, Nat.succ_mul]; omega), h1, show (j + 1) * size + i - size = j * size + i by rw [Nat.succ_mul]; omega, List.set_cons_succ, List.flatMap_cons,
      flat_set x F a ts (fun t ht => hs t (by simp [ht])) j i t (by simpa using h) hi]

theorem flat_len {α : Type} {size : Nat} : ∀ (ts : List (Item α)), (∀ t ∈ ts, t.cs.length = size) → (ts.flatMap (·.cs)).length = ts.length * size
  | [], _ => by simp
  | s :: ts, hs => by
    rw [List.flatMap_cons, List.length_append, hs s (by simp), flat_len ts (fun t ht => hs t (by simp [ht])), List.length_cons, Nat.succ_mul]
    omega

/-- One cell of an owned row is written. -/
theorem ownsRow_set {w : World} {base : Nat} {e : TypeId} {size : Nat} {v : Value} {n : Nat} {xs : List Value} (h : w.ownsRow base e size v n xs) {i : Nat} (hi : i < n * size) (x : Value) :
    ∃ g c, v = .slice (some ⟨g, 0, none⟩) n c ∧ base ≤ g ∧ g < w.heap.size ∧ w.cell? ⟨g, i, none⟩ = xs[i]? ∧ w.frozen? ⟨g, i, none⟩ = false ∧ (w.setCell ⟨g, i, none⟩ x).ownsRow base e size v n (xs.set i x) := by
  rcases h.2 with ⟨hv, h0⟩ | ⟨g, cap, cur, hv, hlo, hg, hnc, hcm, hsz, ht⟩
  · subst h0
    omega
  · have hle : n * size ≤ cap * size := Nat.mul_le_mul_right _ hnc
    refine ⟨g, cap, hv, hlo, (Array.getElem?_eq_some_iff.1 hg).1, ?_, by simp [World.frozen?, hg], ⟨by rw [List.length_set]; exact h.1, .inr ⟨g, cap, cur.setIfInBounds i x, hv, hlo, by simp [World.setCell, Array.getElem?_modify, hg], hnc, hcm, by simpa using hsz, ?_⟩⟩⟩
    · rw [cell_of_row w g i cur e (0, 0) hg, ← ht, List.getElem?_take, if_pos hi]
      simp
    · rw [Array.toList_setIfInBounds, ← ht, List.take_set]

theorem ownsRow_base {w : World} {base base' : Nat} {e : TypeId} {size : Nat} {v : Value} {n : Nat} {xs : List Value} (h : w.ownsRow base e size v n xs) (hb : ∀ g, v.ownBlock = some g → base' ≤ g) : w.ownsRow base' e size v n xs := by
  refine ⟨h.1, ?_⟩
  rcases h.2 with hn | ⟨g, cap, cur, rfl, hlo, rest⟩
  · exact .inl hn
  · exact .inr ⟨g, cap, cur, rfl, hb g rfl, rest⟩

theorem ownsRow_keep {w w' : World} {lo n size : Nat} {e : TypeId} {v : Value} {xs : List Value} (h : w.ownsRow lo e size v n xs) (hk : ∀ g, v.ownBlock = some g → w'.heap[g]? = w.heap[g]?) : w'.ownsRow lo e size v n xs := by
  refine ⟨h.1, ?_⟩
  rcases h.2 with hn | ⟨g, cap, cur, rfl, hb, hgg, rest⟩
  · exact .inl hn
  · exact .inr ⟨g, cap, cur, rfl, hb, (hk g rfl).trans hgg, rest⟩

theorem ownsRow_cell {w : World} {base : Nat} {e : TypeId} {size : Nat} {v : Value} {n : Nat} {xs : List Value} (h : w.ownsRow base e size v n xs) {i : Nat} (hi : i < n * size) :
    ∃ g c, v = .slice (some ⟨g, 0, none⟩) n c ∧ base ≤ g ∧ g < w.heap.size ∧ w.cell? ⟨g, i, none⟩ = xs[i]? ∧ w.frozen? ⟨g, i, none⟩ = false := by
  obtain ⟨g, c, h1, h2, h3, h4, h5, _⟩ := ownsRow_set h hi (.bool true)
  exact ⟨g, c, h1, h2, h3, h4, h5⟩

/-- The items ts lie in the slice v and in blocks of F; all apart. -/
structure OwnT {α : Type} (e : TypeId) (size : Nat) (E : World → (Nat → Prop) → List Value → α → Prop) (w : World) (F : Nat → Prop) (v : Value) (ts : List (Item α)) : Prop where
  row : w.ownsRow 0 e size v ts.length (ts.flatMap (·.cs))
  len : ∀ t ∈ ts, t.cs.length = size
  elem : ∀ t ∈ ts, E w t.F t.cs t.a
  apart : ts.Pairwise fun s t => ∀ k, s.F k → ¬ t.F k
  head : ∀ g, v.ownBlock = some g → F g ∧ ∀ t ∈ ts, ¬ t.F g
  inF : ∀ t ∈ ts, ∀ k, t.F k → F k
  bound : ∀ k, F k → k < w.heap.size

/-- The slice v reads as a list and owns the blocks F. -/
def OwnSl {α : Type} (e : TypeId) (size : Nat) (E : World → (Nat → Prop) → List Value → α → Prop) (w : World) (F : Nat → Prop) (v : Value) (ls : List α) : Prop := ∃ ts : List (Item α), ls = ts.map (·.a) ∧ OwnT e size E w F v ts

section

variable {α : Type} {e : TypeId} {size : Nat} {E : World → (Nat → Prop) → List Value → α → Prop} {w w' : World} {F G : Nat → Prop} {v : Value} {ts : List (Item α)} {ls : List α}

theorem OwnT.keep (ok : OwnOk E) (h : OwnT e size E w F v ts) (hs : w.heap.size ≤ w'.heap.size) (hk : ∀ k, F k → w'.heap[k]? = w.heap[k]?) : OwnT e size E w' F v ts :=
  ⟨ownsRow_keep h.row fun g hg => hk g (h.head g hg).1, h.len, fun t ht => ok.keep (h.elem t ht) fun k hf => hk k (h.inF t ht k hf), h.apart, h.head, h.inF, fun k hf => Nat.lt_of_lt_of_le (h.bound k hf) hs⟩

theorem OwnT.wide (h : OwnT e size E w F v ts) (hs : ∀ k, F k → G k) (hb : ∀ k, G k → k < w.heap.size) : OwnT e size E w G v ts :=
  ⟨h.row, h.len, h.elem, h.apart, fun g hg => ⟨hs g (h.head g hg).1, (h.head g hg).2⟩, fun t ht k hk => hs k (h.inF t ht k hk), hb⟩

theorem OwnSl.keep (ok : OwnOk E) (h : OwnSl e size E w F v ls) (hs : w.heap.size ≤ w'.heap.size) (hk : ∀ k, F k → w'.heap[k]? = w.heap[k]?) : OwnSl e size E w' F v ls := by
  obtain ⟨ts, h1, h2⟩ := h
  exact ⟨ts, h1, h2.keep ok hs hk⟩

theorem OwnSl.wide (h : OwnSl e size E w F v ls) (hs : ∀ k, F k → G k) (hb : ∀ k, G k → k < w.heap.size) : OwnSl e size E w G v ls := by
  obtain ⟨ts, h1, h2⟩ := h
  exact ⟨ts, h1, h2.wide hs hb⟩

theorem OwnSl.bound (h : OwnSl e size E w F v ls) : ∀ k, F k → k < w.heap.size := by
  obtain ⟨ts, h1, h2⟩ := h
  exact h2.bound

theorem OwnSl.chgF (ok : OwnOk E) (h : OwnSl e size E w F v ls) (c : ChgF G w w') (hd : ∀ k, F k → ¬ G k) : OwnSl e size E w' F v ls :=
  h.keep ok c.size fun k hk => c.block k (h.bound k hk) (hd k hk)

theorem OwnSl.form (h : OwnSl e size E w F v ls) : ∃ A c, v = .slice A ls.length c := by
  obtain ⟨ts, rfl, h2⟩ := h
  rw [List.length_map]
  rcases h2.row.2 with ⟨hv, h0⟩ | ⟨g, cap, cur, hv, _⟩
  · exact ⟨none, 0, by rw [hv, h0]⟩
  · exact ⟨_, _, hv⟩

theorem OwnSl.nil (w : World) (F : Nat → Prop) (hb : ∀ k, F k → k < w.heap.size) : OwnSl e size E w F (.slice none 0 0) ([] : List α) :=
  ⟨[], rfl, World.ownsRow_nil _ _ _ _, by simp, by simp, .nil, fun g hg => by simp [Value.ownBlock] at hg, by simp, hb⟩

/-- An empty slice in a new block. -/
theorem OwnSl.empty (w : World) : OwnSl e size E (w.alloc (.cells #[] e)) (fun k => k = w.heap.size) (.slice (some ⟨w.heap.size, 0, none⟩) 0 0) ([] : List α) :=
  ⟨[], rfl, World.ownsRow_made (base := 0) (e := e) (size := size) w #[] 0 (Nat.zero_le _) (by unfold maxLen; omega) (by simp), by simp, by simp, .nil, fun g hg => by
    simp [Value.ownBlock] at hg
    subst hg
    exact ⟨rfl, by simp⟩, by simp, fun k hk => by subst hk; simp⟩

/-- The row of cells, and what an element more makes of it. -/
theorem OwnSl.open_ (ok : OwnOk E) (h : OwnSl e size E w F v ls) : ∃ xs : List Value, w.ownsRow 0 e size v ls.length xs ∧ (∀ g, v.ownBlock = some g → F g) ∧
    ∀ (w1 w' : World) (G : Nat → Prop) (cs : List Value) (a : α) (g cap : Nat), ChgF (fun _ => False) w w1 → E w1 G cs a → cs.length = size → (∀ k, F k → ¬ G k) →
      w'.ownsRow 0 e size (.slice (some ⟨g, 0, none⟩) (ls.length + 1) cap) (ls.length + 1) (xs ++ cs) → w1.grownBy w' v.ownBlock → (v.ownBlock = some g ∨ w1.heap.size ≤ g) →
      OwnSl e size E w' (fun k => F k ∨ G k ∨ k = g) (.slice (some ⟨g, 0, none⟩) (ls.length + 1) cap) (ls ++ [a]) := by
  obtain ⟨ts, rfl, h⟩ := h
  refine ⟨ts.flatMap (·.cs), by rw [List.length_map]; exact h.row, fun g hg => (h.head g hg).1, fun w1 w' G cs a g cap hc hE hl hFG hown hgrow hg => ?_⟩
  rw [List.length_map] at hown ⊢
  have h1 := h.keep ok hc.size fun k hk => hc.block k (h.bound k hk) (by simp)
  have hglt : g < w'.heap.size := (hown.lt g rfl).2
  have hold : ∀ t ∈ ts, E w' t.F t.cs t.a := fun t ht => ok.keep (h1.elem t ht) fun k hk => hgrow.block k (ok.bound (h1.elem t ht) k hk) fun hr => (h1.head k hr.symm).2 t ht hk
  have hGE : E w' G cs a := ok.keep hE fun k hk => hgrow.block k (ok.bound hE k hk) fun hr => hFG k (h1.head k hr.symm).1 hk
  have hgn : ¬ G g := fun hgG => by
    rcases hg with hg | hg
    · exact hFG g (h1.head g hg).1 hgG
    · have := ok.bound hE g hgG; omega
  have hgt : ∀ t ∈ ts, ¬ t.F g := fun t ht hf => by
    rcases hg with hg | hg
    · exact (h1.head g hg).2 t ht hf
    · have := ok.bound (h1.elem t ht) g hf; omega
  refine ⟨ts ++ [⟨cs, G, a⟩], by simp, ?_, ?_, ?_, ?_, ?_, ?_, ?_⟩
  · rw [List.length_append, List.length_singleton, List.flatMap_append]
    simpa using hown
  · intro t ht
    rcases List.mem_append.1 ht with ht | ht
    · exact h.len t ht
    · obtain rfl := List.mem_singleton.1 ht
      exact hl
  · intro t ht
    rcases List.mem_append.1 ht with ht | ht
    · exact hold t ht
    · obtain rfl := List.mem_singleton.1 ht
      exact hGE
  · rw [List.pairwise_append]
    refine ⟨h.apart, by simp, fun s hs t ht k hk => ?_⟩
    obtain rfl := List.mem_singleton.1 ht
    exact hFG k (h.inF s hs k hk)
  · intro g' hg'
    simp [Value.ownBlock] at hg'
    subst hg'
    refine ⟨.inr (.inr rfl), fun t ht => ?_⟩
    rcases List.mem_append.1 ht with ht | ht
    · exact hgt t ht
    · obtain rfl := List.mem_singleton.1 ht
      exact hgn
  · intro t ht k hk
    rcases List.mem_append.1 ht with ht | ht
    · exact .inl (h.inF t ht k hk)
    · obtain rfl := List.mem_singleton.1 ht
      exact .inr (.inl hk)
  · intro k hk
    rcases hk with hk | hk | rfl
    · exact Nat.lt_of_lt_of_le (h1.bound k hk) hgrow.size
    · exact Nat.lt_of_lt_of_le (ok.bound hE k hk) hgrow.size
    · exact hglt

/-- Element j: its cells, its blocks, and what becomes of the whole when it changes. -/
theorem OwnSl.at_ (ok : OwnOk E) (h : OwnSl e size E w F v ls) {j : Nat} (hj : j < ls.length) (h0 : 0 < size) : ∃ g c, v = .slice (some ⟨g, 0, none⟩) ls.length c ∧ F g ∧ ∃ (cs : List Value) (a : α) (H : Nat → Prop),
    ls[j]? = some a ∧ cs.length = size ∧ E w H cs a ∧ (∀ k, H k → F k ∧ k ≠ g) ∧ (∀ i x, cs[i]? = some x → w.cell? ⟨g, j * size + i, none⟩ = some x ∧ w.frozen? ⟨g, j * size + i, none⟩ = false) ∧
    (∀ (w' : World) (a' : α), ChgF H w w' → E w' H cs a' → OwnSl e size E w' F v (ls.set j a')) ∧
    (∀ (w1 : World) (G : Nat → Prop) (i : Nat) (x : Value) (a' : α), ChgF (fun _ => False) w w1 → i < size → E w1 G (cs.set i x) a' → (∀ k, G k → H k ∨ w.heap.size ≤ k) → OwnSl e size E (w1.setCell ⟨g, j * size + i, none⟩ x) (fun k => F k ∨ G k) v (ls.set j a')) := by
  obtain ⟨ts, rfl, h⟩ := h
  rw [List.length_map] at hj ⊢
  have hm : ts[j] ∈ ts := List.getElem_mem hj
  have hge : ts[j]? = some ts[j] := List.getElem?_eq_getElem hj
  have hidx : ∀ i, i < size → j * size + i < ts.length * size := fun i hi => by
    have : (j + 1) * size ≤ ts.length * size := Nat.mul_le_mul_right _ hj
    rw [Nat.succ_mul] at this
    omega
  obtain ⟨g, c, hv, _, hglt, _, _⟩ := ownsRow_cell h.row (hidx 0 h0)
  have hgF := h.head g (by rw [hv]; rfl)
  have hdis : ∀ i s, ts[i]? = some s → i ≠ j → ∀ k, s.F k → ¬ ts[j].F k := by
    intro i s hs hne k hk hk'
    have hil : i < ts.length := (List.getElem?_eq_some_iff.1 hs).1
    have hse : ts[i] = s := (List.getElem?_eq_some_iff.1 hs).2
    subst hse
    rcases Nat.lt_or_gt_of_ne hne with hlt | hgt
    · exact List.pairwise_iff_getElem.1 h.apart i j hil hj hlt k hk hk'
    · exact List.pairwise_iff_getElem.1 h.apart j i hj hil hgt k hk' hk
  have mem_set : ∀ (t' : Item α) s, s ∈ ts.set j t' → s = t' ∨ ∃ i, i ≠ j ∧ ts[i]? = some s := by
    intro t' s hs
    obtain ⟨i, hi⟩ := List.mem_iff_getElem?.1 hs
    rw [List.getElem?_set] at hi
    split at hi
    · exact .inl (by injection hi with hi; exact hi.symm)
    · exact .inr ⟨i, by omega, hi⟩
  have pair_set : ∀ (t' : Item α), (∀ i s, ts[i]? = some s → i ≠ j → ∀ k, s.F k → ¬ t'.F k) → (ts.set j t').Pairwise fun s t => ∀ k, s.F k → ¬ t.F k := by
    intro t' ht'
    rw [List.pairwise_iff_getElem]
    intro a b ha hb hab k hk hk'
    rw [List.getElem_set] at hk hk'
    have ha' : a < ts.length := by simpa using ha
    have hb' : b < ts.length := by simpa using hb
    split at hk
    · split at hk'
      · omega
      · exact ht' b ts[b] (List.getElem?_eq_getElem hb') (by omega) k hk' hk
    · split at hk'
      · exact ht' a ts[a] (List.getElem?_eq_getElem ha') (by omega) k hk hk'
      · exact List.pairwise_iff_getElem.1 h.apart a b ha' hb' hab k hk hk'
  refine ⟨g, c, hv, hgF.1, ts[j].cs, ts[j].a, ts[j].F, by simp [hge], h.len _ hm, h.elem _ hm, fun k hk => ⟨h.inF _ hm k hk, fun e => hgF.2 _ hm (e ▸ hk)⟩, ?_, ?_, ?_⟩
  · intro i x hx
    have hi : i < size := by rw [← h.len _ hm]; exact (List.getElem?_eq_some_iff.1 hx).1
    obtain ⟨g', c', hv', _, _, hc, hf⟩ := ownsRow_cell h.row (hidx i hi)
    rw [hv] at hv'
    injection hv' with h1 _ _
    injection h1 with h1
    injection h1 with h1
    subst h1
    exact ⟨hc.trans ((flat_get ts h.len j i _ hge hi).trans hx), hf⟩
  · intro w' a' hc hE
    refine ⟨ts.set j ⟨ts[j].cs, ts[j].F, a'⟩, by rw [List.map_set], ?_, ?_, ?_, ?_, ?_, ?_, ?_⟩
    · have : (ts.set j ⟨ts[j].cs, ts[j].F, a'⟩).flatMap (·.cs) = ts.flatMap (·.cs) := by
        rw [List.flatMap_def, List.flatMap_def, List.map_set]
        congr 1
        apply List.ext_getElem?
        intro i
        rw [List.getElem?_set]
        split
        · rename_i hij
          subst hij
          simp [hj]
        · rfl
      rw [List.length_set, this]
      exact ownsRow_keep h.row fun g' hg' => hc.block g' (by have := h.row.lt g' hg'; omega) (fun hf => (h.head g' hg').2 _ hm hf)
    · intro s hs
      rcases mem_set _ s hs with rfl | ⟨i, _, hi⟩
      · exact h.len ts[j] hm
      · exact h.len s (List.mem_of_getElem? hi)
    · intro s hs
      rcases mem_set _ s hs with rfl | ⟨i, hij, hi⟩
      · exact hE
      · exact ok.chg (h.elem s (List.mem_of_getElem? hi)) hc fun k hk => hdis i s hi hij k hk
    · exact pair_set _ hdis
    · intro g' hg'
      refine ⟨(h.head g' hg').1, fun s hs => ?_⟩
      rcases mem_set _ s hs with rfl | ⟨i, _, hi⟩
      · exact (h.head g' hg').2 ts[j] hm
      · exact (h.head g' hg').2 s (List.mem_of_getElem? hi)
    · intro s hs k hk
      rcases mem_set _ s hs with rfl | ⟨i, _, hi⟩
      · exact h.inF ts[j] hm k hk
      · exact h.inF s (List.mem_of_getElem? hi) k hk
    · exact fun k hk => Nat.lt_of_lt_of_le (h.bound k hk) hc.size
  · intro w1 G i x a' hc hi hE hG
    have hk1 := h.keep ok hc.size fun k hk => hc.block k (h.bound k hk) (by simp)
    have hGg : ∀ k, G k → k ≠ g := fun k hk e => by
      rcases hG k hk with h1 | h1
      · exact hgF.2 _ hm (e ▸ h1)
      · omega
    have hGo : ∀ i s, ts[i]? = some s → i ≠ j → ∀ k, s.F k → ¬ G k := fun i s hs hij k hk hk' => by
      rcases hG k hk' with h1 | h1
      · exact hdis i s hs hij k hk h1
      · have := ok.bound (h.elem s (List.mem_of_getElem? hs)) k hk; omega
    have hset := chgF_setCell w1 g (j * size + i) x
    obtain ⟨g', c', hv', _, _, _, _, hrow⟩ := ownsRow_set hk1.row (hidx i hi) x
    rw [hv] at hv'
    injection hv' with h1 _ _
    injection h1 with h1
    injection h1 with h1
    subst h1
    refine ⟨ts.set j ⟨ts[j].cs.set i x, G, a'⟩, by rw [List.map_set], ?_, ?_, ?_, ?_, ?_, ?_, ?_⟩
    · rw [List.length_set, ← flat_set x G a' ts h.len j i _ hge hi]
      exact hrow
    · intro s hs
      rcases mem_set _ s hs with rfl | ⟨i, _, hi⟩
      · rw [List.length_set]
        exact h.len _ hm
      · exact h.len s (List.mem_of_getElem? hi)
    · intro s hs
      rcases mem_set _ s hs with rfl | ⟨i, hij, hi⟩
      · exact ok.chg hE hset fun k hk => hGg k hk
      · exact ok.chg (hk1.elem s (List.mem_of_getElem? hi)) hset fun k hk e => hgF.2 s (List.mem_of_getElem? hi) (e ▸ hk)
    · exact pair_set _ hGo
    · intro g' hg'
      have hgg : g' = g := by rw [hv] at hg'; simpa [Value.ownBlock, eq_comm] using hg'
      subst hgg
      refine ⟨.inl hgF.1, fun s hs => ?_⟩
      rcases mem_set _ s hs with rfl | ⟨i, _, hi⟩
      · exact fun hk => hGg _ hk rfl
      · exact hgF.2 s (List.mem_of_getElem? hi)
    · intro s hs k hk
      rcases mem_set _ s hs with rfl | ⟨i, _, hi⟩
      · exact .inr hk
      · exact .inl (h.inF s (List.mem_of_getElem? hi) k hk)
    · intro k hk
      rcases hk with hk | hk
      · exact Nat.lt_of_lt_of_le (hk1.bound k hk) hset.size
      · exact Nat.lt_of_lt_of_le (ok.bound hE k hk) hset.size

/-- A new block of n elements, all alike, that own nothing. -/
theorem OwnSl.made (w : World) (n : Nat) (zs : List Value) (a0 : α) (cur : Array Value) (hl : zs.length = size) (hm : n ≤ maxLen) (hcur : cur.toList = (List.replicate n zs).flatten)
    (hE : E (w.alloc (.cells cur e)) (fun _ => False) zs a0) : OwnSl e size E (w.alloc (.cells cur e)) (fun k => k = w.heap.size) (.slice (some ⟨w.heap.size, 0, none⟩) n n) (List.replicate n a0) := by
  have hfl : (List.replicate n (⟨zs, fun _ => False, a0⟩ : Item α)).flatMap (·.cs) = cur.toList := by rw [hcur, List.flatMap_def, List.map_replicate]
  have hmem : ∀ t ∈ List.replicate n (⟨zs, fun _ => False, a0⟩ : Item α), t = ⟨zs, fun _ => False, a0⟩ := fun t ht => List.eq_of_mem_replicate ht
  have hsz : cur.size = n * size := by rw [← Array.length_toList, ← hfl, flat_len _ (fun t ht => by rw [hmem t ht]; exact hl : ∀ t ∈ List.replicate n (⟨zs, fun _ => False, a0⟩ : Item α), t.cs.length = size), List.length_replicate]
  refine ⟨List.replicate n ⟨zs, fun _ => False, a0⟩, by rw [List.map_replicate], ⟨by rw [hfl, List.length_replicate, ← hsz]; simp, .inr ⟨w.heap.size, n, cur, by rw [List.length_replicate], Nat.zero_le _, heap_alloc_new w _, by rw [List.length_replicate]; exact Nat.le_refl _, hm, hsz, ?_⟩⟩, ?_, ?_, ?_, ?_, ?_, ?_⟩
  · rw [List.length_replicate, hfl]
    exact List.take_of_length_le (by simp [hsz])
  · exact fun t ht => by rw [hmem t ht]; exact hl
  · exact fun t ht => by rw [hmem t ht]; exact hE
  · rw [List.pairwise_iff_getElem]
    intro i j hi hj _ k hk
    simp at hk
  · intro g hg
    simp [Value.ownBlock] at hg
    exact ⟨hg.symm, fun t ht => by rw [hmem t ht]; simp⟩
  · intro t ht k hk
    rw [hmem t ht] at hk
    exact hk.elim
  · intro k hk
    subst hk
    simp

theorem OwnSl.rd {R : World → Nat → List Value → α → Prop} {B n c : Nat} {A : Option Addr} (h : OwnSl e size E w F (.slice A n c) ls) (hn : ls.length = n) (h0 : 0 < size) (hF : ∀ k, F k → k < B)
    (hR : ∀ G cs a, E w G cs a → (∀ k, G k → k < B) → R w B cs a) : RdSl size R w B A n ls := by
  subst hn
  refine ⟨rfl, fun hn => ?_⟩
  obtain ⟨ts, rfl, h⟩ := h
  rw [List.length_map] at hn
  obtain ⟨g, c', hv, _, hglt, _, _⟩ := ownsRow_cell h.row (i := 0) (Nat.mul_pos hn h0)
  injection hv with h1 _ _
  subst h1
  refine ⟨g, 0, rfl, hF g (h.head g rfl).1, fun j a ha => ?_⟩
  rw [List.getElem?_map] at ha
  obtain ⟨t, ht, rfl⟩ := Option.map_eq_some_iff.1 ha
  have hm := List.mem_of_getElem? ht
  have hj : j < ts.length := (List.getElem?_eq_some_iff.1 ht).1
  refine ⟨t.cs, h.len t hm, fun i x hx => ?_, hR t.F t.cs t.a (h.elem t hm) fun k hk => hF k (h.inF t hm k hk)⟩
  have hi : i < size := by rw [← h.len t hm]; exact (List.getElem?_eq_some_iff.1 hx).1
  have hidx : j * size + i < ts.length * size := by
    have : (j + 1) * size ≤ ts.length * size := Nat.mul_le_mul_right _ hj
    rw [Nat.succ_mul] at this
    omega
  obtain ⟨g', c', hv', _, _, hc, _⟩ := ownsRow_cell h.row hidx
  injection hv' with h1 _ _
  injection h1 with h1
  injection h1 with h1
  subst h1
  rw [Nat.zero_add]
  exact hc.trans ((flat_get ts h.len j i _ ht hi).trans hx)

end

end

section
open Go.RowKit Go.Deep

/-- A slice of integers that came in (all numbers up to the capacity). -/
def IsRow (k : IntKind) (w : World) (a : Option Addr) (len cap : Nat) (zs : List Int) : Prop :=
  (a = none ∧ len = 0 ∧ cap = 0 ∧ zs = []) ∨
  ∃ x, a = some x ∧ len ≤ cap ∧ cap ≤ maxLen ∧ zs.length = cap ∧ (∀ i, i < zs.length → w.cell? (x.add i) = some (.int k (zs.getD i 0))) ∧ ∀ n ∈ zs, (Lit.int k n).wf = true

/-- The slice at A with n elements reads as the ints zs, below block B. -/
def RdI (w : World) (B : Nat) (A : Option Addr) (n : Nat) (zs : List Int) : Prop :=
  zs.length = n ∧ (0 < n → ∃ b o, A = some ⟨b, o, none⟩ ∧ b < B ∧ ∀ j x, zs[j]? = some x → w.cell? ⟨b, o + j, none⟩ = some (.int .i64 x))

theorem addr_add (b o j : Nat) : (⟨b, o, none⟩ : Addr).add j = ⟨b, o + j, none⟩ := by unfold Addr.add; split <;> simp_all

theorem RdI.at_ {w : World} {B n k : Nat} {A : Option Addr} {zs : List Int} (h : RdI w B A n zs) (hk : k < n) :
    ∃ b o x, A = some ⟨b, o, none⟩ ∧ b < B ∧ zs[k]? = some x ∧ w.cell? ⟨b, o + k, none⟩ = some (.int .i64 x) := by
  obtain ⟨b, o, hA, hb, hc⟩ := h.2 (by omega)
  have hl : k < zs.length := by have := h.1; omega
  exact ⟨b, o, zs[k], hA, hb, List.getElem?_eq_getElem hl, hc k _ (List.getElem?_eq_getElem hl)⟩

theorem RdI.keep {w w' : World} {B n : Nat} {A : Option Addr} {zs : List Int} (h : RdI w B A n zs) (hk : ∀ p : Addr, p.block < B → w'.cell? p = w.cell? p) : RdI w' B A n zs :=
  ⟨h.1, fun hn => by
    obtain ⟨b, o, hA, hb, hc⟩ := h.2 hn
    exact ⟨b, o, hA, hb, fun j x hx => (hk _ hb).trans (hc j x hx)⟩⟩

theorem RdI.more {w : World} {B B' n : Nat} {A : Option Addr} {zs : List Int} (h : RdI w B A n zs) (hB : B ≤ B') : RdI w B' A n zs :=
  ⟨h.1, fun hn => by
    obtain ⟨b, o, hA, hb, hc⟩ := h.2 hn
    exact ⟨b, o, hA, by omega, hc⟩⟩

theorem RdI.below {w w' : World} {B n : Nat} {A : Option Addr} {zs : List Int} (h : RdI w B A n zs) (hb : Below B w w') : RdI w' B A n zs := h.keep fun _ hp => hb.cell hp

theorem RdI.go {w w' : World} {B B' n : Nat} {A : Option Addr} {zs : List Int} (h : RdI w B A n zs) (hb : Below B' w w') (hB : B ≤ B') : RdI w' B' A n zs := (h.more hB).below hb

theorem RdI.size_le {w : World} {B n : Nat} {A : Option Addr} {zs : List Int} (h : RdI w B A n zs) (_ : B ≤ w.heap.size) : RdI w w.heap.size A n zs :=
  ⟨h.1, fun hn => by
    obtain ⟨b, o, hA, hb, hc⟩ := h.2 hn
    exact ⟨b, o, hA, by omega, hc⟩⟩

theorem rdI_of_row {w : World} {a : Option Addr} {len cap : Nat} {zs : List Int} (h : IsRow .i64 w a len cap zs) : RdI w w.heap.size a len (zs.take len) ∧ len ≤ maxLen := by
  rcases h with ⟨rfl, rfl, rfl, rfl⟩ | ⟨x, rfl, hl, hm, hz, hcell, _⟩
  · exact ⟨⟨rfl, fun h => absurd h (by omega)⟩, by unfold maxLen; omega⟩
  · refine ⟨⟨by rw [List.length_take, hz]; omega, fun hn => ?_⟩, by omega⟩
    obtain ⟨b, off, spot⟩ := x
    have hc := hcell 0 (by omega)
    have hspot : spot = none := by simpa [Addr.add] using World.cell?_spot hc
    subst hspot
    refine ⟨b, off, rfl, ?_, fun j y hy => ?_⟩
    · have := World.block_lt_of_cell? w _ hc
      rw [addr_add] at this
      exact this
    · have hj : j < zs.length := by
        rw [List.getElem?_take] at hy
        split at hy
        · exact (List.getElem?_eq_some_iff.1 hy).1
        · cases hy
      rw [← addr_add, hcell j hj]
      rw [List.getElem?_take] at hy
      split at hy
      · rw [List.getD_eq_getElem?_getD, hy]
        rfl
      · cases hy

/-- Block g is just the ints zs. -/
def IBlk (w : World) (g : Nat) (zs : List Int) : Prop := w.heap[g]? = some (.cells (zs.map iv).toArray 3 (0, 0))

theorem IBlk.lt {w : World} {g : Nat} {zs : List Int} (h : IBlk w g zs) : g < w.heap.size := (Array.getElem?_eq_some_iff.1 h).1

theorem IBlk.cell {w : World} {g : Nat} {zs : List Int} (h : IBlk w g zs) (j : Nat) : w.cell? ⟨g, j, none⟩ = (zs[j]?).map iv := by
  unfold IBlk at h
  rw [cell_of_row w g j _ _ (0, 0) h]
  simp

theorem IBlk.frozen {w : World} {g : Nat} {zs : List Int} (h : IBlk w g zs) (j : Nat) : w.frozen? ⟨g, j, none⟩ = false := by
  unfold IBlk at h
  simp [World.frozen?, h]

theorem IBlk.below {w w' : World} {B g : Nat} {zs : List Int} (h : IBlk w g zs) (hb : Below B w w') (hg : g < B) : IBlk w' g zs := (hb.block g hg).trans h

theorem IBlk.set_ {w : World} {g : Nat} {zs : List Int} (h : IBlk w g zs) (i : Nat) (x : Int) : IBlk (w.setCell ⟨g, i, none⟩ (.int .i64 x)) g (zs.set i x) := by
  unfold IBlk at h ⊢
  simp [World.setCell, Array.getElem?_modify, h, List.map_set, iv]

theorem IBlk.rd {w : World} {g B : Nat} {zs : List Int} (h : IBlk w g zs) (hB : g < B) : RdI w B (some ⟨g, 0, none⟩) zs.length zs :=
  ⟨rfl, fun _ => ⟨g, 0, rfl, hB, fun j x hx => by rw [Nat.zero_add, h.cell, hx]; rfl⟩⟩

theorem IBlk.rd' {w : World} {g n : Nat} {zs : List Int} (h : IBlk w g zs) (hn : zs.length = n) : RdI w w.heap.size (some ⟨g, 0, none⟩) n zs := by
  subst hn
  exact h.rd h.lt

theorem IBlk.next {w w' : World} {g : Nat} {zs : List Int} (h : IBlk w g zs) (hb : Below w.heap.size w w') : IBlk w' g zs := h.below hb h.lt

theorem RdI.next {w w' : World} {n : Nat} {A : Option Addr} {zs : List Int} (h : RdI w w.heap.size A n zs) (hb : Below w.heap.size w w') : RdI w' w'.heap.size A n zs := (h.below hb).more hb.size

theorem below_chain {w w1 w2 : World} {B : Nat} (h : Below B w w1) (k : Below w1.heap.size w1 w2) (hB : B ≤ w1.heap.size) : Below B w w2 := h.trans (k.mono hB)

/-- A value that is a row of the call's own, in a block from lo to hi, and reads as the ints zs. -/
def OwnI (w : World) (lo hi : Nat) (v : Value) (zs : List Int) : Prop := w.ownsRow lo 3 1 v zs.length (zs.map iv) ∧ ∀ g, v.ownBlock = some g → g < hi

theorem own_form {w : World} {lo n : Nat} {v : Value} {e : TypeId} {size : Nat} {xs : List Value} (h : w.ownsRow lo e size v n xs) : ∃ A c, v = .slice A n c := by
  rcases h.2 with ⟨hv, h0⟩ | ⟨g, cap, cur, hv, _⟩
  · exact ⟨none, 0, by rw [hv, h0]⟩
  · exact ⟨_, _, hv⟩

theorem OwnI.form {w : World} {lo hi : Nat} {v : Value} {zs : List Int} (h : OwnI w lo hi v zs) : ∃ A c, v = .slice A zs.length c := own_form h.1

theorem OwnI.rd {w : World} {lo hi n c : Nat} {A : Option Addr} {zs : List Int} (h : OwnI w lo hi (.slice A n c) zs) (hn : zs.length = n) : RdI w hi A n zs := by
  subst hn
  refine ⟨rfl, fun hn => ?_⟩
  rcases h.1.2 with ⟨hv, h0⟩ | ⟨g, cap, cur, hv, _, hg, _, _, _, ht⟩
  · omega
  · injection hv with hA _ _
    subst hA
    refine ⟨g, 0, rfl, h.2 g rfl, fun j x hx => ?_⟩
    rw [Nat.zero_add, cell_of_row w g j _ _ (0, 0) hg]
    have hj : j < zs.length := (List.getElem?_eq_some_iff.1 hx).1
    have h1 : (cur.toList.take (zs.length * 1))[j]? = (zs.map iv)[j]? := by rw [ht]
    rw [List.getElem?_take, if_pos (by omega), List.getElem?_map, hx] at h1
    simpa [iv] using h1

theorem IBlk.ownI {w : World} {g lo hi : Nat} {zs : List Int} (h : IBlk w g zs) (hlo : lo ≤ g) (hhi : g < hi) (hl : zs.length ≤ maxLen) : OwnI w lo hi (.slice (some ⟨g, 0, none⟩) zs.length zs.length) zs :=
  ⟨⟨by simp, .inr ⟨g, zs.length, (zs.map iv).toArray, rfl, hlo, h, Nat.le_refl _, hl, by simp, by rw [Nat.mul_one]; exact List.take_of_length_le (by simp)⟩⟩, fun g' hg' => by
    simp [Value.ownBlock] at hg'
    omega⟩

theorem OwnI.nil (w : World) (lo hi : Nat) : OwnI w lo hi (.slice none 0 0) [] := ⟨World.ownsRow_nil _ _ _ _, fun g hg => by simp [Value.ownBlock] at hg⟩

theorem ownI_of {w : World} {lo : Nat} {v : Value} {zs : List Int} (h : w.ownsRow lo 3 1 v zs.length (zs.map iv)) : OwnI w lo w.heap.size v zs := ⟨h, fun g hg => (h.lt g hg).2⟩

theorem own_snoc {w : World} {lo : Nat} {v : Value} {zs : List Int} {x : Int} (h : w.ownsRow lo 3 1 v (zs.length + 1) (zs.map iv ++ [.int .i64 x])) : w.ownsRow lo 3 1 v (zs ++ [x]).length ((zs ++ [x]).map iv) := by
  rw [List.length_append, List.length_singleton, List.map_append]
  exact h

theorem own_empty (w : World) (lo : Nat) (h : lo ≤ w.heap.size) : (w.alloc (.cells #[] 3)).ownsRow lo 3 1 (.slice (some ⟨w.heap.size, 0, none⟩) 0 0) ([] : List Int).length (([] : List Int).map iv) :=
  World.ownsRow_made (base := lo) (e := 3) (size := 1) w #[] 0 h (by unfold maxLen; omega) rfl

/-- Blocks from lo to hi may have changed, and blocks may have come; all else is as it was. -/
structure Chg (lo hi : Nat) (w w' : World) : Prop where
  os : w'.os = w.os
  tape : w'.tape = w.tape
  output : w'.output = w.output
  size : w.heap.size ≤ w'.heap.size
  block : ∀ k, k < w.heap.size → (k < lo ∨ hi ≤ k) → w'.heap[k]? = w.heap[k]?

theorem Chg.below {lo hi B : Nat} {w w' : World} (h : Chg lo hi w w') (hB : B ≤ lo) (hs : B ≤ w.heap.size) : Below B w w' := ⟨h.os, h.tape, h.output, h.size, fun k hk => h.block k (by omega) (.inl (by omega))⟩

theorem Chg.trans {lo hi : Nat} {a b c : World} (h : Chg lo hi a b) (k : Chg lo hi b c) : Chg lo hi a c :=
  ⟨k.os.trans h.os, k.tape.trans h.tape, k.output.trans h.output, Nat.le_trans h.size k.size, fun i hi hne => (k.block i (Nat.lt_of_lt_of_le hi h.size) hne).trans (h.block i hi hne)⟩

theorem Chg.refl (lo hi : Nat) (w : World) : Chg lo hi w w := ⟨rfl, rfl, rfl, Nat.le_refl _, fun _ _ _ => rfl⟩

theorem OwnI.lt {w : World} {lo hi : Nat} {v : Value} {zs : List Int} (h : OwnI w lo hi v zs) : ∀ g, v.ownBlock = some g → lo ≤ g ∧ g < hi ∧ g < w.heap.size := fun g hg => ⟨(h.1.lt g hg).1, h.2 g hg, (h.1.lt g hg).2⟩

theorem own_keep {w w' : World} {lo n size : Nat} {e : TypeId} {v : Value} {xs : List Value} (h : w.ownsRow lo e size v n xs) (hk : ∀ g, v.ownBlock = some g → w'.heap[g]? = w.heap[g]?) : w'.ownsRow lo e size v n xs := by
  refine ⟨h.1, ?_⟩
  rcases h.2 with hn | ⟨g, cap, cur, rfl, hb, hgg, rest⟩
  · exact .inl hn
  · exact .inr ⟨g, cap, cur, rfl, hb, (hk g rfl).trans hgg, rest⟩

theorem OwnI.chg {w w' : World} {lo hi a b : Nat} {v : Value} {zs : List Int} (h : OwnI w lo hi v zs) (c : Chg a b w w') (hd : hi ≤ a ∨ b ≤ lo) : OwnI w' lo hi v zs :=
  ⟨own_keep h.1 fun g hg => c.block g (h.lt g hg).2.2 (by have := h.lt g hg; omega), h.2⟩

theorem OwnI.below {w w' : World} {lo hi B : Nat} {v : Value} {zs : List Int} (h : OwnI w lo hi v zs) (b : Below B w w') (hd : hi ≤ B) : OwnI w' lo hi v zs :=
  ⟨own_keep h.1 fun g hg => b.block g (by have := h.lt g hg; omega), h.2⟩

theorem OwnI.wide {w : World} {lo hi hi' : Nat} {v : Value} {zs : List Int} (h : OwnI w lo hi v zs) (hd : hi ≤ hi') : OwnI w lo hi' v zs := ⟨h.1, fun g hg => by have := h.2 g hg; omega⟩

theorem RdI.chg {w w' : World} {B n a b : Nat} {A : Option Addr} {zs : List Int} (h : RdI w B A n zs) (c : Chg a b w w') (hB : B ≤ a) (hs : B ≤ w.heap.size) : RdI w' B A n zs := h.below (c.below hB hs)

theorem RdI.belowB {w w' : World} {B B' n : Nat} {A : Option Addr} {zs : List Int} (h : RdI w B A n zs) (b : Below B' w w') (hB : B ≤ B') : RdI w' B A n zs := h.below (b.mono hB)

def zerI (d : Nat) : Array Value := ((List.replicate d (0 : Int)).map iv).toArray

theorem made_zerI (d : Nat) : madeCells #[.int .i64 0] d = zerI d := by
  unfold zerI madeCells
  apply Array.ext
  · simp
  · intro i h1 h2
    simp [iv, Nat.mod_one]

theorem info_int : (Tryz.prog.info? 3).map (fun i => (i.zero, i.size, i.bytes)) = some (some (.int .i64 0), 1, 8) := by kernel_rfl

theorem make_ints (n : Nat) (h : n ≤ 17592186044416) (W : World) : (Instr.makeSlice 27 (.int .i64 (n : Int)) (.int .i64 (n : Int))).run Tryz.prog W = .ok (.slice (some ⟨W.heap.size, 0, none⟩) n n) (W.alloc (.cells (zerI n) 3)) := by
  rw [← made_zerI]
  exact run_make_row' (P := Tryz.prog) 27 3 (.int .i64 0) 8 Tryz.underlying27 info_int rfl .i64 .i64 n (by omega) (by omega) W

/-- The first k of zs, then zeros. -/
def fillI (zs : List Int) (k : Nat) : List Int := zs.take k ++ List.replicate (zs.length - k) 0

theorem fillI_zero (zs : List Int) : fillI zs 0 = List.replicate zs.length 0 := by simp [fillI]

theorem fillI_full (zs : List Int) : fillI zs zs.length = zs := by simp [fillI]

theorem fillI_length (zs : List Int) (k : Nat) (h : k ≤ zs.length) : (fillI zs k).length = zs.length := by simp [fillI]; omega

theorem fillI_step {zs : List Int} {k : Nat} {x : Int} (h : zs[k]? = some x) : (fillI zs k).set k x = fillI zs (k + 1) := by
  have hk : k < zs.length := (List.getElem?_eq_some_iff.1 h).1
  have hx : zs[k] = x := (List.getElem?_eq_some_iff.1 h).2
  unfold fillI
  obtain ⟨m, hm⟩ : ∃ m, zs.length - k = m + 1 := ⟨zs.length - k - 1, by omega⟩
  rw [List.set_append_right _ _ (by rw [List.length_take]; omega), List.length_take, Nat.min_eq_left (by omega), Nat.sub_self, hm, List.replicate_succ, List.set_cons_zero, List.take_succ_eq_append_getElem hk, hx,
    List.append_assoc, List.singleton_append, show zs.length - (k + 1) = m from by omega]

end

section
open Go.RowKit Go.Deep

/-- k, k+1, ..: n numbers. -/
def cnt (k : Int) (n : Nat) : List Int := (List.range n).map fun (i : Nat) => k + (i : Int)

theorem cnt_length (k : Int) (n : Nat) : (cnt k n).length = n := by simp [cnt]

theorem cnt_get {k : Int} {n j : Nat} (h : j < n) : (cnt k n)[j]? = some (k + (j : Int)) := by simp [cnt, h]

/-- The first j counted, the rest of zs. -/
def markTo (zs : List Int) (k : Int) (j : Nat) : List Int := cnt k j ++ zs.drop j

theorem markTo_zero (zs : List Int) (k : Int) : markTo zs k 0 = zs := by simp [markTo, cnt]

theorem markTo_full (zs : List Int) (k : Int) : markTo zs k zs.length = cnt k zs.length := by simp [markTo]

theorem markTo_step {zs : List Int} {k : Int} {j : Nat} (h : j < zs.length) : (markTo zs k j).set j (k + (j : Int)) = markTo zs k (j + 1) := by
  unfold markTo
  rw [List.set_append_right _ _ (by rw [cnt_length]; omega), cnt_length, Nat.sub_self, List.drop_eq_getElem_cons h, List.set_cons_zero]
  unfold cnt
  rw [List.range_succ, List.map_append, List.append_assoc]
  rfl

/-- One element of an owned row is written. -/
theorem OwnI.set_ {w : World} {lo hi n c : Nat} {A : Option Addr} {zs : List Int} {i : Nat} (h : OwnI w lo hi (.slice A n c) zs) (hn : zs.length = n) (hin : i < n) (x : Int) :
    ∃ g y, A = some ⟨g, 0, none⟩ ∧ w.cell? ⟨g, i, none⟩ = some (.int .i64 y) ∧ w.frozen? ⟨g, i, none⟩ = false ∧
      OwnI (w.setCell ⟨g, i, none⟩ (.int .i64 x)) lo hi (.slice A n c) (zs.set i x) ∧ Chg lo hi w (w.setCell ⟨g, i, none⟩ (.int .i64 x)) := by
  rcases h.1.2 with ⟨hv, h0⟩ | ⟨g, cap, cur, hv, hlo, hg, hnc, hcm, hsz, ht⟩
  · omega
  · injection hv with hA hl hcap
    subst hA hcap
    have hi1 : i < cur.size := by omega
    have hghi : g < hi := h.2 g rfl
    have hy : cur[i]? = some (iv (zs[i]'(by omega))) := by
      have h1 : (cur.toList.take (zs.length * 1))[i]? = (zs.map iv)[i]? := by rw [ht]
      rw [List.getElem?_take, if_pos (by omega), List.getElem?_map, List.getElem?_eq_getElem (show i < zs.length by omega)] at h1
      simpa using h1
    refine ⟨g, zs[i]'(by omega), rfl, by rw [cell_of_row w g i _ _ (0, 0) hg]; exact hy, by simp [World.frozen?, hg], ⟨⟨by simp, .inr ⟨g, c, cur.setIfInBounds i (.int .i64 x), by rw [List.length_set, hn], hlo, by simp [World.setCell, Array.getElem?_modify, hg], by rw [List.length_set]; exact hnc, hcm, by simpa using hsz, ?_⟩⟩, h.2⟩,
      ⟨rfl, rfl, rfl, by simp [World.setCell], fun k hk hne => Below.heap_setCell w _ _ k (by show k ≠ g; omega)⟩⟩
    rw [List.length_set, Array.toList_setIfInBounds, List.map_set, ← ht, List.take_set]
    rfl

end

section
open Go.RowKit Go.Deep

/-- A row among the cells of a slice: one cell, the header of a slice of ints. -/
def RRow (w : World) (B : Nat) (cs : List Value) (r : List Int) : Prop := ∃ A c, cs = [.slice A r.length c] ∧ RdI w B A r.length r ∧ r.length ≤ maxLen

theorem rdI_keep {w w' : World} {B n : Nat} {A : Option Addr} {zs : List Int} (h : RdI w B A n zs) (hk : ∀ k, k < B → w'.heap[k]? = w.heap[k]?) : RdI w' B A n zs :=
  h.keep fun p hp => World.cell?_of_block (hk p.block hp)

theorem rRow_ok : RdOk RRow where
  keep := fun ⟨A, c, h1, h2, h3⟩ hk => ⟨A, c, h1, rdI_keep h2 hk, h3⟩
  more := fun ⟨A, c, h1, h2, h3⟩ hB => ⟨A, c, h1, h2.more hB, h3⟩

/-- The slice at A with n elements reads as the rows rs, below block B. -/
abbrev RdR (w : World) (B : Nat) (A : Option Addr) (n : Nat) (rs : List (List Int)) : Prop := RdSl 1 RRow w B A n rs

theorem RdR.at_ {w : World} {B n : Nat} {A : Option Addr} {rs : List (List Int)} (h : RdR w B A n rs) {k : Nat} (hk : k < n) :
    ∃ b o r A' c', A = some ⟨b, o, none⟩ ∧ b < B ∧ rs[k]? = some r ∧ w.cell? ⟨b, o + k, none⟩ = some (.slice A' r.length c') ∧ RdI w B A' r.length r ∧ r.length ≤ maxLen := by
  obtain ⟨b, o, r, cs, hA, hb, hr, _, hc, A', c', rfl, hrd, hm⟩ := RdSl.at_ h hk
  exact ⟨b, o, r, A', c', hA, hb, hr, by simpa using hc 0 _ rfl, hrd, hm⟩

/-- A row of the call's own. -/
def ERow (w : World) (F : Nat → Prop) (cs : List Value) (r : List Int) : Prop := ∃ v, cs = [v] ∧ OwnI w 0 w.heap.size v r ∧ (∀ g, v.ownBlock = some g → F g) ∧ ∀ k, F k → k < w.heap.size

theorem ownI_keep {w w' : World} {lo hi hi' : Nat} {v : Value} {zs : List Int} (h : OwnI w lo hi v zs) (hk : ∀ g, v.ownBlock = some g → w'.heap[g]? = w.heap[g]? ∧ g < hi') : OwnI w' lo hi' v zs :=
  ⟨own_keep h.1 fun g hg => (hk g hg).1, fun g hg => (hk g hg).2⟩

theorem OwnI.narrow {w : World} {lo hi lo' hi' : Nat} {v : Value} {zs : List Int} (h : OwnI w lo hi v zs) (hk : ∀ g, v.ownBlock = some g → lo' ≤ g ∧ g < hi') : OwnI w lo' hi' v zs :=
  ⟨ownsRow_base h.1 fun g hg => (hk g hg).1, fun g hg => (hk g hg).2⟩

theorem lt_of_heap_eq {w w' : World} {k : Nat} (h : w'.heap[k]? = w.heap[k]?) (hk : k < w.heap.size) : k < w'.heap.size := by
  rcases Nat.lt_or_ge k w'.heap.size with h1 | h1
  · exact h1
  · rw [Array.getElem?_eq_none h1, Array.getElem?_eq_getElem hk] at h
    cases h

theorem eRow_ok : OwnOk ERow where
  bound := fun ⟨_, _, _, _, h⟩ => h
  keep := fun ⟨v, h1, h2, h3, h4⟩ hk => ⟨v, h1, ownI_keep h2 fun g hg => ⟨hk g (h3 g hg), lt_of_heap_eq (hk g (h3 g hg)) (h4 g (h3 g hg))⟩, h3, fun k hf => lt_of_heap_eq (hk k hf) (h4 k hf)⟩

theorem ERow.of {w : World} {lo hi : Nat} {v : Value} {r : List Int} (h : OwnI w lo hi v r) (hh : hi ≤ w.heap.size) : ERow w (fun k => lo ≤ k ∧ k < hi) [v] r :=
  ⟨v, rfl, h.narrow fun g hg => ⟨Nat.zero_le _, by have := h.2 g hg; omega⟩, fun g hg => ⟨(h.1.lt g hg).1, h.2 g hg⟩, fun k hk => by omega⟩

/-- The block of a row, as an interval. -/
theorem ERow.iv {w : World} {F : Nat → Prop} {cs : List Value} {r : List Int} (h : ERow w F cs r) : ∃ A c lo hi, cs = [.slice A r.length c] ∧ OwnI w lo hi (.slice A r.length c) r ∧ ∀ k, lo ≤ k ∧ k < hi → F k := by
  obtain ⟨v, rfl, h2, h3, h4⟩ := h
  obtain ⟨A, c, rfl⟩ := h2.form
  cases hg : (Value.slice A r.length c).ownBlock with
  | none => exact ⟨A, c, 0, 0, rfl, h2.narrow (fun g hg' => by rw [hg] at hg'; cases hg'), fun k hk => by omega⟩
  | some g => exact ⟨A, c, g, g + 1, rfl, h2.narrow (fun g' hg' => by rw [hg] at hg'; injection hg' with hg'; omega), fun k hk => by
      obtain rfl : k = g := by omega
      exact h3 k hg⟩

theorem ERow.back {w w' : World} {F : Nat → Prop} {r r' : List Int} {A : Option Addr} {cap lo hi n : Nat} (h : ERow w F [.slice A n cap] r) (ho : OwnI w' lo hi (.slice A n cap) r') (c : Chg lo hi w w') (hF : ∀ k, lo ≤ k ∧ k < hi → F k) : ERow w' F [.slice A n cap] r' ∧ ChgF F w w' := by
  obtain ⟨v, h1, h2, h3, h4⟩ := h
  injection h1 with h1 _
  subst h1
  exact ⟨⟨_, rfl, ho.narrow fun g hg => ⟨Nat.zero_le _, Nat.lt_of_lt_of_le (h4 g (h3 g hg)) c.size⟩, h3, fun k hk => Nat.lt_of_lt_of_le (h4 k hk) c.size⟩,
    ⟨c.os, c.tape, c.output, c.size, fun k hk hn => c.block k hk (by
      by_cases hlo : lo ≤ k
      · by_cases hhi : k < hi
        · exact absurd (hF k ⟨hlo, hhi⟩) hn
        · omega
      · omega)⟩⟩

theorem ownsRow_max {w : World} {base : Nat} {e : TypeId} {size : Nat} {v : Value} {n : Nat} {xs : List Value} (h : w.ownsRow base e size v n xs) : n ≤ maxLen := by
  rcases h.2 with ⟨_, rfl⟩ | ⟨g, cap, cur, _, _, _, hnc, hcm, _⟩
  · exact Nat.zero_le _
  · omega

theorem rRow_of {w : World} {G : Nat → Prop} {B : Nat} {cs : List Value} {r : List Int} (h : ERow w G cs r) (hB : ∀ k, G k → k < B) : RRow w B cs r := by
  obtain ⟨v, rfl, h2, h3, h4⟩ := h
  obtain ⟨A, c, rfl⟩ := h2.form
  exact ⟨A, c, rfl, (h2.narrow (lo' := 0) (hi' := B) fun g hg => ⟨Nat.zero_le _, hB g (h3 g hg)⟩).rd rfl, ownsRow_max h2.1⟩

/-- A slice of rows of the call's own, in blocks from lo to hi. -/
def OwnR (w : World) (lo hi : Nat) (v : Value) (rs : List (List Int)) : Prop := ∃ F, OwnSl 27 1 ERow w F v rs ∧ ∀ k, F k → lo ≤ k ∧ k < hi

theorem OwnR.form {w : World} {lo hi : Nat} {v : Value} {rs : List (List Int)} (h : OwnR w lo hi v rs) : ∃ A c, v = .slice A rs.length c := by
  obtain ⟨F, h1, _⟩ := h
  exact h1.form

theorem OwnR.rd {w : World} {lo hi n c : Nat} {A : Option Addr} {rs : List (List Int)} (h : OwnR w lo hi (.slice A n c) rs) (hn : rs.length = n) : RdR w hi A n rs := by
  obtain ⟨F, h1, h2⟩ := h
  exact h1.rd hn (by omega) (fun k hk => (h2 k hk).2) fun G cs a hE hG => rRow_of hE hG

theorem OwnR.chg {w w' : World} {lo hi a b : Nat} {v : Value} {rs : List (List Int)} (h : OwnR w lo hi v rs) (c : Chg a b w w') (hd : hi ≤ a ∨ b ≤ lo) : OwnR w' lo hi v rs := by
  obtain ⟨F, h1, h2⟩ := h
  exact ⟨F, h1.keep eRow_ok c.size fun k hk => c.block k (h1.bound k hk) (by have := h2 k hk; omega), h2⟩

theorem OwnR.below {w w' : World} {lo hi B : Nat} {v : Value} {rs : List (List Int)} (h : OwnR w lo hi v rs) (b : Below B w w') (hd : hi ≤ B) : OwnR w' lo hi v rs := by
  obtain ⟨F, h1, h2⟩ := h
  exact ⟨F, h1.keep eRow_ok b.size fun k hk => b.block k (by have := h2 k hk; omega), h2⟩

theorem OwnR.wide {w : World} {lo hi hi' : Nat} {v : Value} {rs : List (List Int)} (h : OwnR w lo hi v rs) (hd : hi ≤ hi') : OwnR w lo hi' v rs := by
  obtain ⟨F, h1, h2⟩ := h
  exact ⟨F, h1, fun k hk => by have := h2 k hk; omega⟩

theorem OwnR.nil (w : World) (lo hi : Nat) : OwnR w lo hi (.slice none 0 0) [] := ⟨fun _ => False, OwnSl.nil w _ (by simp), by simp⟩

theorem OwnR.of {w : World} {lo : Nat} {F : Nat → Prop} {v : Value} {rs : List (List Int)} (h : OwnSl 27 1 ERow w F v rs) (hF : ∀ k, F k → lo ≤ k) : OwnR w lo w.heap.size v rs := ⟨F, h, fun k hk => ⟨hF k hk, h.bound k hk⟩⟩

theorem RdR.chg {w w' : World} {B n a b : Nat} {A : Option Addr} {rs : List (List Int)} (h : RdR w B A n rs) (c : Chg a b w w') (hB : B ≤ a) (hs : B ≤ w.heap.size) : RdR w' B A n rs := RdSl.keep rRow_ok h fun k hk => c.block k (by omega) (by omega)

theorem RdR.belowB {w w' : World} {B B' n : Nat} {A : Option Addr} {rs : List (List Int)} (h : RdR w B A n rs) (b : Below B' w w') (hB : B ≤ B') : RdR w' B A n rs := RdSl.below rRow_ok h b hB

theorem RdR.more {w : World} {B B' n : Nat} {A : Option Addr} {rs : List (List Int)} (h : RdR w B A n rs) (hB : B ≤ B') : RdR w B' A n rs := RdSl.more rRow_ok h hB

theorem RdR.drewN {w : World} {B n : Nat} {A : Option Addr} {rs : List (List Int)} (h : RdR w B A n rs) (q : Nat) : RdR (w.drewN q) B A n rs := h

theorem RdI.drewN {w : World} {B n : Nat} {A : Option Addr} {zs : List Int} (h : RdI w B A n zs) (q : Nat) : RdI (w.drewN q) B A n zs := h

/-- Element k of owned rows: its header, its block, and what becomes of the whole. -/
theorem OwnR.at_ {w : World} {lo hi n c k : Nat} {A : Option Addr} {rs : List (List Int)} (h : OwnR w lo hi (.slice A n c) rs) (hn : rs.length = n) (hk : k < n) :
    ∃ g r A' c' lo' hi', A = some ⟨g, 0, none⟩ ∧ lo ≤ g ∧ g < hi ∧ g < w.heap.size ∧ rs[k]? = some r ∧ w.cell? ⟨g, k, none⟩ = some (.slice A' r.length c') ∧ w.frozen? ⟨g, k, none⟩ = false ∧ OwnI w lo' hi' (.slice A' r.length c') r ∧ r.length ≤ maxLen ∧
      (∀ w' r', OwnI w' lo' hi' (.slice A' r.length c') r' → Chg lo' hi' w w' → OwnR w' lo hi (.slice A n c) (rs.set k r') ∧ Chg lo hi w w') ∧
      (∀ w1 x r' lo1 hi1, Below w.heap.size w w1 → OwnI w1 lo1 hi1 x r' → w.heap.size ≤ lo1 → hi1 ≤ w1.heap.size → lo ≤ w.heap.size → OwnR (w1.setCell ⟨g, k, none⟩ x) lo w1.heap.size (.slice A n c) (rs.set k r')) := by
  obtain ⟨F, h1, h2⟩ := h
  subst hn
  obtain ⟨g, cap, hv, hFg, cs, r, H, hr, hl, hE, hH, hc, hup, hput⟩ := h1.at_ eRow_ok hk (by omega)
  injection hv with hA _ _
  obtain ⟨A', c', lo', hi', rfl, ho, hiv⟩ := hE.iv
  obtain ⟨hc1, hf1⟩ := hc 0 _ rfl
  rw [Nat.mul_one, Nat.add_zero] at hc1 hf1
  refine ⟨g, r, A', c', lo', hi', hA, (h2 g hFg).1, (h2 g hFg).2, h1.bound g hFg, hr, hc1, hf1, ho, ownsRow_max ho.1, fun w' r' ho' hch => ?_, fun w1 x r' lo1 hi1 hb ho1 hlo1 hhi1 hlo => ?_⟩
  · obtain ⟨k1, k2⟩ := hE.back ho' hch hiv
    exact ⟨⟨F, hup w' r' k2 k1, h2⟩, ⟨k2.os, k2.tape, k2.output, k2.size, fun i hi hne => k2.block i hi fun hHi => by have := h2 i (hH i hHi).1; omega⟩⟩
  · have := hput w1 (fun i => lo1 ≤ i ∧ i < hi1) 0 x r' ⟨hb.os, hb.tape, hb.output, hb.size, fun i hi _ => hb.block i hi⟩ (by omega) (ERow.of ho1 hhi1) (fun i hi => .inr (by omega))
    rw [Nat.mul_one, Nat.add_zero] at this
    refine ⟨_, this, fun i hi => ?_⟩
    have hbd := this.bound i hi
    simp [World.setCell] at hbd
    rcases hi with hi | hi
    · exact ⟨(h2 i hi).1, hbd⟩
    · exact ⟨by omega, hbd⟩

theorem OwnR.len_eq {w : World} {lo hi n c : Nat} {A : Option Addr} {rs : List (List Int)} (h : OwnR w lo hi (.slice A n c) rs) : rs.length = n := by
  obtain ⟨A', c', hv⟩ := h.form
  injection hv with _ hn _
  exact hn.symm

theorem info_row : (Tryz.prog.info? 27).map (fun i => (i.zero, i.size, i.bytes)) = some (some (.slice none 0 0), 1, 24) := by kernel_rfl

/-- All elements counted. -/
def sumL (rs : List (List Int)) : Nat := (rs.map List.length).sum

theorem sumL_nil : sumL [] = 0 := rfl

theorem sumL_cons (r : List Int) (rs : List (List Int)) : sumL (r :: rs) = r.length + sumL rs := rfl

theorem sumL_append (a b : List (List Int)) : sumL (a ++ b) = sumL a + sumL b := by simp [sumL]

theorem sumL_mem {rs : List (List Int)} {r : List Int} (h : r ∈ rs) : r.length ≤ sumL rs := by
  induction rs with
  | nil => cases h
  | cons s rs ih =>
    rw [sumL_cons]
    rcases List.mem_cons.1 h with rfl | h
    · omega
    · have := ih h; omega

theorem sumL_take_succ {rs : List (List Int)} {j : Nat} {r : List Int} (h : rs[j]? = some r) : sumL (rs.take (j + 1)) = sumL (rs.take j) + r.length := by
  obtain ⟨hj, rfl⟩ := List.getElem?_eq_some_iff.1 h
  rw [List.take_succ_eq_append_getElem hj, sumL_append]
  simp [sumL]

theorem sumL_take_le (rs : List (List Int)) (j : Nat) : sumL (rs.take j) ≤ sumL rs := by
  have := sumL_append (rs.take j) (rs.drop j)
  rw [List.take_append_drop] at this
  omega

/-- Rows of the lengths of rs, counted from k on. -/
def cntR : Int → List (List Int) → List (List Int)
  | _, [] => []
  | k, r :: rs => cnt k r.length :: cntR (k + r.length) rs

theorem cntR_length : ∀ (k : Int) (rs : List (List Int)), (cntR k rs).length = rs.length
  | _, [] => rfl
  | k, r :: rs => by rw [cntR, List.length_cons, List.length_cons, cntR_length]

theorem cntR_get : ∀ (k : Int) (rs : List (List Int)) (j : Nat) (r : List Int), rs[j]? = some r → (cntR k rs)[j]? = some (cnt (k + (sumL (rs.take j) : Nat)) r.length)
  | k, [], j, r, h => by simp at h
  | k, s :: rs, 0, r, h => by
    simp at h
    subst h
    simp [cntR, sumL]
  | k, s :: rs, j + 1, r, h => by
    have := cntR_get (k + s.length) rs j r (by simpa using h)
    rw [cntR, List.getElem?_cons_succ, this, List.take_succ_cons, sumL_cons]
    congr 2
    omega

/-- The first j rows counted, the rest as they were. -/
def markRTo (rs : List (List Int)) (k : Int) (j : Nat) : List (List Int) := (cntR k rs).take j ++ rs.drop j

theorem markRTo_zero (rs : List (List Int)) (k : Int) : markRTo rs k 0 = rs := by simp [markRTo]

theorem markRTo_full (rs : List (List Int)) (k : Int) : markRTo rs k rs.length = cntR k rs := by
  rw [markRTo, List.take_of_length_le (by rw [cntR_length]; exact Nat.le_refl _)]
  simp

theorem markRTo_length (rs : List (List Int)) (k : Int) (j : Nat) (hj : j ≤ rs.length) : (markRTo rs k j).length = rs.length := by
  rw [markRTo, List.length_append, List.length_take, List.length_drop, cntR_length]
  omega

theorem markRTo_get {rs : List (List Int)} {k : Int} {j : Nat} {r : List Int} (h : rs[j]? = some r) : (markRTo rs k j)[j]? = some r := by
  have hj := (List.getElem?_eq_some_iff.1 h).1
  rw [markRTo, List.getElem?_append_right (by rw [List.length_take, cntR_length]; omega), List.length_take, cntR_length, Nat.min_eq_left (by omega), Nat.sub_self, List.getElem?_drop, Nat.add_zero, h]

theorem markRTo_step {rs : List (List Int)} {k : Int} {j : Nat} {r : List Int} (h : rs[j]? = some r) : (markRTo rs k j).set j (cnt (k + (sumL (rs.take j) : Nat)) r.length) = markRTo rs k (j + 1) := by
  have hj := (List.getElem?_eq_some_iff.1 h).1
  have hg := cntR_get k rs j r h
  have hj' : j < (cntR k rs).length := by rw [cntR_length]; exact hj
  have hv : (cntR k rs)[j] = cnt (k + (sumL (rs.take j) : Nat)) r.length := by rw [List.getElem?_eq_getElem hj'] at hg; injection hg
  rw [markRTo, markRTo, List.set_append_right _ _ (by rw [List.length_take]; omega), List.length_take, Nat.min_eq_left (by omega), Nat.sub_self, List.drop_eq_getElem_cons hj, List.set_cons_zero, List.take_succ_eq_append_getElem hj', hv,
    List.append_assoc, List.singleton_append]

end

section
open Go.RowKit Go.Deep

/-- What is left of a purse, behind a name. -/
def SzPost (tot : Nat) (left : Int) (w : World) (e : Ending) (w' : World) : Prop := ∃ r : Int, e = .returned (.int .i64 r) ∧ (r = -1 ∨ (0 ≤ r ∧ r + (tot : Int) = left)) ∧ w = w'

def zerR (d : Nat) : Array Value := (List.replicate d (Value.slice none 0 0)).toArray

theorem made_zerR (d : Nat) : madeCells #[.slice none 0 0] d = zerR d := by
  unfold zerR madeCells
  apply Array.ext
  · simp
  · intro i h1 h2
    simp [Nat.mod_one]

theorem make_rows (n : Nat) (h : n ≤ 1048576) (W : World) : (Instr.makeSlice 24 (.int .i64 (n : Int)) (.int .i64 (n : Int))).run Tryz.prog W = .ok (.slice (some ⟨W.heap.size, 0, none⟩) n n) (W.alloc (.cells (zerR n) 27)) := by
  rw [← made_zerR]
  exact run_make_row' (P := Tryz.prog) 24 27 (.slice none 0 0) 24 Tryz.underlying24 info_row rfl .i64 .i64 n (by omega) (by omega) W

theorem own_rows_made (n : Nat) (hn : n ≤ 1048576) (W : World) : OwnR (W.alloc (.cells (zerR n) 27)) W.heap.size (W.alloc (.cells (zerR n) 27)).heap.size (.slice (some ⟨W.heap.size, 0, none⟩) n n) (List.replicate n []) :=
  ⟨_, OwnSl.made W n [.slice none 0 0] [] (zerR n) rfl (by unfold maxLen; omega) (by simp [zerR]) ⟨_, rfl, OwnI.nil _ _ _, fun g hg => by simp [Value.ownBlock] at hg, by simp⟩, fun k hk => by subst hk; simp⟩

/-- The first k rows, then empty ones. -/
def fillR (rs : List (List Int)) (k : Nat) : List (List Int) := rs.take k ++ List.replicate (rs.length - k) []

theorem fillR_zero (rs : List (List Int)) : fillR rs 0 = List.replicate rs.length [] := by simp [fillR]

theorem fillR_full (rs : List (List Int)) : fillR rs rs.length = rs := by simp [fillR]

theorem fillR_length (rs : List (List Int)) (k : Nat) (h : k ≤ rs.length) : (fillR rs k).length = rs.length := by simp [fillR]; omega

theorem fillR_step {rs : List (List Int)} {k : Nat} {r : List Int} (h : rs[k]? = some r) : (fillR rs k).set k r = fillR rs (k + 1) := by
  have hk : k < rs.length := (List.getElem?_eq_some_iff.1 h).1
  have hx : rs[k] = r := (List.getElem?_eq_some_iff.1 h).2
  unfold fillR
  obtain ⟨m, hm⟩ : ∃ m, rs.length - k = m + 1 := ⟨rs.length - k - 1, by omega⟩
  rw [List.set_append_right _ _ (by rw [List.length_take]; omega), List.length_take, Nat.min_eq_left (by omega), Nat.sub_self, hm, List.replicate_succ, List.set_cons_zero, List.take_succ_eq_append_getElem hk, hx,
    List.append_assoc, List.singleton_append, show rs.length - (k + 1) = m from by omega]

end

section
open Go.RowKit Go.Deep

/-- Which of two lists comes first: -1, 0, 1. -/
def cmpL : List Int → List Int → Int
  | [], [] => 0
  | [], _ :: _ => -1
  | _ :: _, [] => 1
  | x :: a, y :: b => if x < y then -1 else if y < x then 1 else cmpL a b

theorem cmpL_self : ∀ a : List Int, cmpL a a = 0
  | [] => rfl
  | x :: a => by rw [cmpL, if_neg (by omega), if_neg (by omega)]; exact cmpL_self a

theorem cmpL_eq : ∀ {a b : List Int}, cmpL a b = 0 → a = b
  | [], [], _ => rfl
  | [], y :: b, h => by simp [cmpL] at h
  | x :: a, [], h => by simp [cmpL] at h
  | x :: a, y :: b, h => by
    rw [cmpL] at h
    split at h
    · simp at h
    · split at h
      · simp at h
      · have hxy : x = y := by omega
        rw [hxy, cmpL_eq h]

theorem cmpL_zero {a b : List Int} : cmpL a b = 0 ↔ a = b := ⟨cmpL_eq, fun h => by rw [h, cmpL_self]⟩

theorem cmpL_drop {a b : List Int} {k : Nat} {x y : Int} (hx : a[k]? = some x) (hy : b[k]? = some y) :
    cmpL (a.drop k) (b.drop k) = if x < y then -1 else if y < x then 1 else cmpL (a.drop (k + 1)) (b.drop (k + 1)) := by
  obtain ⟨h1, rfl⟩ := List.getElem?_eq_some_iff.1 hx
  obtain ⟨h2, rfl⟩ := List.getElem?_eq_some_iff.1 hy
  rw [List.drop_eq_getElem_cons h1, List.drop_eq_getElem_cons h2, cmpL]

theorem cmpL_short {a b : List Int} {k : Nat} (h1 : a.length = k) (h2 : k < b.length) : cmpL (a.drop k) (b.drop k) = -1 := by
  rw [List.drop_of_length_le (by omega), List.drop_eq_getElem_cons h2, cmpL]

theorem cmpL_long {a b : List Int} {k : Nat} (h1 : k < a.length) (h2 : b.length = k) : cmpL (a.drop k) (b.drop k) = 1 := by
  rw [List.drop_eq_getElem_cons h1, List.drop_of_length_le (l := b) (by omega), cmpL]

theorem cmpL_same {a b : List Int} {k : Nat} (h1 : a.length = k) (h2 : b.length = k) : cmpL (a.drop k) (b.drop k) = 0 := by
  rw [List.drop_of_length_le (by omega), List.drop_of_length_le (by omega), cmpL]

theorem isNaN_any (x : Int) (w : World) : Calls Tryz.prog 128 #[.int .i64 x] w fun e w' => e = .returned (.bool false) ∧ w = w' := by
  go_enter Tryz.func128, Tryz.ntmps128
  go_wp2
  go_ret
  exact ⟨rfl, rfl⟩

def cmp1 (x y : Int) : Int := if x < y then -1 else if y < x then 1 else 0

theorem cmpCompare_any (x y : Int) (w : World) : Calls Tryz.prog 115 #[.int .i64 x, .int .i64 y] w fun e w' => e = .returned (.int .i64 (cmp1 x y)) ∧ w = w' := by
  by_cases h1 : x < y
  · have hy : Hid (cmp1 x y = -1) := by show cmp1 x y = -1; rw [cmp1, if_pos h1]
    go_enter Tryz.func115, Tryz.ntmps115
    go_wp2_with (go_at_call 128; refine (isNaN_any _ _).mono ?_; rintro e w' ⟨rfl, rfl⟩)
    go_ret
    exact ⟨by rw [hy.out] <;> rfl, rfl⟩
  · by_cases h2 : y < x
    · have hy : Hid (cmp1 x y = 1) := by show cmp1 x y = 1; rw [cmp1, if_neg h1, if_pos h2]
      go_enter Tryz.func115, Tryz.ntmps115
      go_wp2_with (go_at_call 128; refine (isNaN_any _ _).mono ?_; rintro e w' ⟨rfl, rfl⟩)
      go_ret
      exact ⟨by rw [hy.out] <;> rfl, rfl⟩
    · have hy : Hid (cmp1 x y = 0) := by show cmp1 x y = 0; rw [cmp1, if_neg h1, if_neg h2]
      go_enter Tryz.func115, Tryz.ntmps115
      go_wp2_with (go_at_call 128; refine (isNaN_any _ _).mono ?_; rintro e w' ⟨rfl, rfl⟩)
      go_ret
      exact ⟨by rw [hy.out] <;> rfl, rfl⟩

set_option maxRecDepth 100000 in
set_option maxHeartbeats 400000 in
theorem slicesCompare_any (A A' : Option Addr) (n c n' c' : Nat) (zs zs' : List Int) (w : World) (hr : RdI w w.heap.size A n zs) (hr' : RdI w w.heap.size A' n' zs') (hn : n ≤ 9223372036854775807) (hn' : n' ≤ 9223372036854775807) :
    Calls Tryz.prog 98 #[.slice A n c, .slice A' n' c'] w fun e w' => e = .returned (.int .i64 (cmpL zs zs')) ∧ w = w' := by
  go_enter Tryz.func98, Tryz.ntmps98
  go_wp2
  go_loop [11] (fun i => ∃ k : Nat, k ≤ n ∧ k ≤ n' ∧ i = .int .i64 k ∧ Hid (cmpL zs zs' = cmpL (zs.drop k) (zs'.drop k))) (fun i => n - (intOf i).toNat)
  case atStart => exact ⟨0, by omega, by omega, rfl, rfl⟩
  case round =>
    obtain ⟨k, hk, hk', rfl, hinv⟩ := hrel
    by_cases hlt : k < n
    · obtain ⟨b, o, x, rfl, hb, hx, hc⟩ := hr.at_ hlt
      by_cases hlt' : k < n'
      · obtain ⟨b', o', x', rfl, hb', hx', hc'⟩ := hr'.at_ hlt'
        have hst := Lib.hid (hinv.out.trans (cmpL_drop hx hx'))
        clear hx hx'
        by_cases h1 : x < x'
        · have hf : Hid (cmpL zs zs' = -1) := by show cmpL zs zs' = -1; rw [hst.out, if_pos h1]
          have hcp : Hid (cmp1 x x' = -1) := by show cmp1 x x' = -1; rw [cmp1, if_pos h1]
          go_wp2_with (go_at_call 115; refine (cmpCompare_any _ _ _).mono ?_; rintro e w' ⟨rfl, rfl⟩; rw [hcp.out])
          go_ret
          exact ⟨by rw [hf.out] <;> rfl, rfl⟩
        · by_cases h2 : x' < x
          · have hf : Hid (cmpL zs zs' = 1) := by show cmpL zs zs' = 1; rw [hst.out, if_neg h1, if_pos h2]
            have hcp : Hid (cmp1 x x' = 1) := by show cmp1 x x' = 1; rw [cmp1, if_neg h1, if_pos h2]
            go_wp2_with (go_at_call 115; refine (cmpCompare_any _ _ _).mono ?_; rintro e w' ⟨rfl, rfl⟩; rw [hcp.out])
            go_ret
            exact ⟨by rw [hf.out] <;> rfl, rfl⟩
          · have hf : Hid (cmpL zs zs' = cmpL (zs.drop (k + 1)) (zs'.drop (k + 1))) := by show cmpL zs zs' = _; rw [hst.out, if_neg h1, if_neg h2]
            have hcp : Hid (cmp1 x x' = 0) := by show cmp1 x x' = 0; rw [cmp1, if_neg h1, if_neg h2]
            go_wp2_with (go_at_call 115; refine (cmpCompare_any _ _ _).mono ?_; rintro e w' ⟨rfl, rfl⟩; rw [hcp.out])
            go_round
            case rel => exact ⟨k + 1, by omega, by omega, by go_num, hf⟩
            case measure => simp [intOf]; omega
      · have hf : Hid (cmpL zs zs' = 1) := hinv.out.trans (cmpL_long (by rw [hr.1]; exact hlt) (by rw [hr'.1]; omega))
        go_wp2
        go_ret
        exact ⟨by rw [hf.out] <;> rfl, rfl⟩
    · by_cases hlt' : k < n'
      · have hf : Hid (cmpL zs zs' = -1) := hinv.out.trans (cmpL_short (by rw [hr.1]; omega) (by rw [hr'.1]; exact hlt'))
        go_wp2
        go_ret
        exact ⟨by rw [hf.out] <;> rfl, rfl⟩
      · have hf : Hid (cmpL zs zs' = 0) := hinv.out.trans (cmpL_same (by rw [hr.1]; omega) (by rw [hr'.1]; omega))
        go_wp2
        go_ret
        exact ⟨by rw [hf.out] <;> rfl, rfl⟩

theorem impl_CompareRows_any (A A' : Option Addr) (n c n' c' : Nat) (zs zs' : List Int) (w : World) (hr : RdI w w.heap.size A n zs) (hr' : RdI w w.heap.size A' n' zs') (hn : n ≤ 9223372036854775807) (hn' : n' ≤ 9223372036854775807) :
    Calls Tryz.prog 79 #[.slice A n c, .slice A' n' c'] w fun e w' => e = .returned (.int .i64 (cmpL zs zs')) ∧ w = w' := by
  go_enter Tryz.func79, Tryz.ntmps79
  go_wp2_with fail
  refine (slicesCompare_any A A' n c n' c' zs zs' _ hr hr' hn hn').mono ?_
  rintro e w' ⟨rfl, rfl⟩
  go_wp2_with fail
  go_ret
  exact ⟨rfl, rfl⟩

set_option maxRecDepth 100000 in
set_option maxHeartbeats 400000 in
theorem spec_CompareRows_q (A A' : Option Addr) (n c n' c' : Nat) (zs zs' : List Int) (w : World) (hr : RdI w w.heap.size A n zs) (hr' : RdI w w.heap.size A' n' zs') (hn : n ≤ 9223372036854775807) (hn' : n' ≤ 9223372036854775807) :
    Calls Tryz.prog 47 #[.slice A n c, .slice A' n' c'] w fun e w' => e = .returned (.int .i64 (cmpL zs zs')) ∧ Qt w w' := by
  go_enter Tryz.func47, Tryz.ntmps47
  go_wp2
  go_loopw [5] (fun i wr => ∃ k : Nat, k ≤ n ∧ k ≤ n' ∧ i = .int .i64 k ∧ Hid (cmpL zs zs' = cmpL (zs.drop k) (zs'.drop k)) ∧ Qt w wr) (fun i _ => n - (intOf i).toNat)
  case atStart => exact ⟨0, by omega, by omega, rfl, rfl, Qt.refl _⟩
  case round =>
    obtain ⟨k, hk, hk', rfl, hinv, hbel⟩ := hrel
    by_cases hlt : k < n
    · by_cases hlt' : k < n'
      · obtain ⟨b, o, x, rfl, hb, hx, hc⟩ := hr.at_ hlt
        obtain ⟨b', o', x', rfl, hb', hx', hc'⟩ := hr'.at_ hlt'
        have hc1 := (hbel.cell (p := ⟨b, o + k, none⟩)).trans hc
        have hc2 := (hbel.cell (p := ⟨b', o' + k, none⟩)).trans hc'
        have g1 : (0 : Int) ≤ (k : Int) := by omega
        have g2 : (k : Int) < (n : Int) := by omega
        have g2' : (k : Int) < (n' : Int) := by omega
        have g3 : (k : Int).toNat = k := by omega
        have hst := Lib.hid (hinv.out.trans (cmpL_drop hx hx'))
        clear hx hx' hc hc'
        by_cases h1 : x < x'
        · have hf : Hid (cmpL zs zs' = -1) := by show cmpL zs zs' = -1; rw [hst.out, if_pos h1]
          go_wp2_with fail
          go_quiet (fail)
          clear g3
          go_wp2
          go_ret
          exact ⟨by rw [hf.out] <;> rfl, hbel.drewN _⟩
        · have q1 : decide (x < x') = false := by simpa using h1
          by_cases h2 : x' < x
          · have hf : Hid (cmpL zs zs' = 1) := by show cmpL zs zs' = 1; rw [hst.out, if_neg h1, if_pos h2]
            go_wp2_with fail
            go_quiet (fail)
            go_wp2_with fail
            go_quiet (fail)
            clear g3
            go_wp2
            go_ret
            exact ⟨by rw [hf.out] <;> rfl, (hbel.drewN _).drewN _⟩
          · have hf : Hid (cmpL zs zs' = cmpL (zs.drop (k + 1)) (zs'.drop (k + 1))) := by show cmpL zs zs' = _; rw [hst.out, if_neg h1, if_neg h2]
            have q2 : decide (x' < x) = false := by simpa using h2
            go_wp2_with fail
            go_quiet (fail)
            go_wp2_with fail
            go_quiet (fail)
            clear g3
            go_wp2
            refine ⟨⟨k + 1, by omega, by omega, by go_num, hf, hbel.drewN _⟩, ?_⟩
            simp [intOf]
            omega
      · have hf : Hid (cmpL zs zs' = 1) := hinv.out.trans (cmpL_long (by rw [hr.1]; exact hlt) (by rw [hr'.1]; omega))
        have hnn : n' < n := by omega
        go_wp2
        go_ret
        exact ⟨by rw [hf.out] <;> rfl, hbel⟩
    · by_cases hlt' : n < n'
      · have hf : Hid (cmpL zs zs' = -1) := hinv.out.trans (cmpL_short (by rw [hr.1]; omega) (by rw [hr'.1]; omega))
        go_wp2
        go_ret
        exact ⟨by rw [hf.out] <;> rfl, hbel⟩
      · have hf : Hid (cmpL zs zs' = 0) := hinv.out.trans (cmpL_same (by rw [hr.1]; omega) (by rw [hr'.1]; omega))
        have hnn : ¬ n' < n := by omega
        go_wp2
        go_ret
        exact ⟨by rw [hf.out] <;> rfl, hbel⟩

theorem spec_CompareRows_any (A A' : Option Addr) (n c n' c' : Nat) (zs zs' : List Int) (w : World) (hr : RdI w w.heap.size A n zs) (hr' : RdI w w.heap.size A' n' zs') (hn : n ≤ 9223372036854775807) (hn' : n' ≤ 9223372036854775807) :
    Calls Tryz.prog 47 #[.slice A n c, .slice A' n' c'] w fun e w' => e = .returned (.int .i64 (cmpL zs zs')) ∧ Below w.heap.size w w' :=
  (spec_CompareRows_q A A' n c n' c' zs zs' w hr hr' hn hn').mono fun _ _ ⟨he, hq⟩ => ⟨he, hq.below _⟩

end

section
open Go.RowKit Go.Deep

theorem bcells {W w1 : World} (hb : Below W.heap.size W w1) : (∀ b o, b < W.heap.size → w1.cell? ⟨b, o, none⟩ = W.cell? ⟨b, o, none⟩) ∧ (∀ b o, b < W.heap.size → w1.frozen? ⟨b, o, none⟩ = W.frozen? ⟨b, o, none⟩) :=
  ⟨fun b o h => hb.cell (p := ⟨b, o, none⟩) h, fun b o h => hb.frozen (p := ⟨b, o, none⟩) h⟩

theorem OwnR.setLow {w : World} {lo hi b i : Nat} {v x : Value} {rs : List (List Int)} (h : OwnR w lo hi v rs) (hb : b < lo) : OwnR (w.setCell ⟨b, i, none⟩ x) lo hi v rs := by
  obtain ⟨F, h1, h2⟩ := h
  exact ⟨F, h1.chgF eRow_ok (chgF_setCell w b i x) fun k hk e => by have := h2 k hk; omega, h2⟩

theorem OwnR.down {w : World} {lo lo' hi : Nat} {v : Value} {rs : List (List Int)} (h : OwnR w lo hi v rs) (hd : lo' ≤ lo) : OwnR w lo' hi v rs := by
  obtain ⟨F, h1, h2⟩ := h
  exact ⟨F, h1, fun k hk => by have := h2 k hk; omega⟩

theorem OwnR.drewN {w : World} {lo hi : Nat} {v : Value} {rs : List (List Int)} (h : OwnR w lo hi v rs) (q : Nat) : OwnR (w.drewN q) lo hi v rs := by
  obtain ⟨F, h1, h2⟩ := h
  exact ⟨F, h1.chgF eRow_ok (chgF_drewN w q fun _ => False) (fun _ _ => id), h2⟩

theorem OwnR.alloc {w : World} {lo hi : Nat} {v : Value} {rs : List (List Int)} (h : OwnR w lo hi v rs) (o : Obj) : OwnR (w.alloc o) lo hi v rs := by
  obtain ⟨F, h1, h2⟩ := h
  exact ⟨F, h1.chgF eRow_ok (chgF_alloc w o fun _ => False) (fun _ _ => id), h2⟩

theorem chg_alloc {w w' : World} {lo hi : Nat} {o : Obj} (h : Chg lo hi (w.alloc o) w') : Chg lo hi w w' :=
  ⟨h.os, h.tape, h.output, Nat.le_trans (by simp) h.size, fun k hk hn => (h.block k (by simp; omega) hn).trans (heap_alloc_old w o hk)⟩

/-- A new table, behind a name. -/
def TabNew (nm : ByteArray) (ar : Int) (rs : List (List Int)) (w : World) (e : Ending) (w' : World) : Prop :=
  ∃ (A : Option Addr) (c : Nat), e = .returned (.agg #[.string nm, .int .i64 ar, .slice A rs.length c]) ∧ OwnR w' w.heap.size w'.heap.size (.slice A rs.length c) rs ∧ Below w.heap.size w w'

theorem TabNew.of {nm : ByteArray} {ar : Int} {rs : List (List Int)} {w w' : World} {A : Option Addr} {n c : Nat} (h : OwnR w' w.heap.size w'.heap.size (.slice A n c) rs) (hb : Below w.heap.size w w') :
    TabNew nm ar rs w (.returned (.agg #[.string nm, .int .i64 ar, .slice A n c])) w' := by
  have hn := h.len_eq
  subst hn
  exact ⟨A, c, rfl, h, hb⟩

/-- What is left of a purse, and new blocks, behind a name. -/
def SzPostB (tot : Nat) (left : Int) (w : World) (e : Ending) (w' : World) : Prop := ∃ r : Int, e = .returned (.int .i64 r) ∧ (r = -1 ∨ (0 ≤ r ∧ r + (tot : Int) = left)) ∧ Below w.heap.size w w'

end

section
open Go.RowKit Go.Deep

/-- New ints and a bool, behind a name. -/
def IntsBool (R : List Int × Bool) (w : World) (e : Ending) (w' : World) : Prop :=
  ∃ (A : Option Addr) (c : Nat), e = .returned (.tuple #[.slice A R.1.length c, .bool R.2]) ∧ OwnI w' w.heap.size w'.heap.size (.slice A R.1.length c) R.1 ∧ Below w.heap.size w w'

theorem IntsBool.of {R : List Int × Bool} {w w' : World} {A : Option Addr} {n c : Nat} {zs : List Int} {b : Bool} (hR : R = (zs, b)) (h : OwnI w' w.heap.size w'.heap.size (.slice A n c) zs) (hb : Below w.heap.size w w') :
    IntsBool R w (.returned (.tuple #[.slice A n c, .bool b])) w' := by
  subst hR
  have hn : zs.length = n := by have := own_form h.1; obtain ⟨A1, c1, h1⟩ := this; injection h1 with _ h2 _; exact h2.symm
  subst hn
  exact ⟨A, c, rfl, h, hb⟩

/-- New ints, behind a name. -/
def IntsNew (R : List Int) (w : World) (e : Ending) (w' : World) : Prop :=
  ∃ (A : Option Addr) (c : Nat), e = .returned (.slice A R.length c) ∧ OwnI w' w.heap.size w'.heap.size (.slice A R.length c) R ∧ Below w.heap.size w w'

theorem IntsNew.of {R : List Int} {w w' : World} {A : Option Addr} {n c : Nat} {zs : List Int} (hR : R = zs) (h : OwnI w' w.heap.size w'.heap.size (.slice A n c) zs) (hb : Below w.heap.size w w') :
    IntsNew R w (.returned (.slice A n c)) w' := by
  subst hR
  have hn : R.length = n := by have := own_form h.1; obtain ⟨A1, c1, h1⟩ := this; injection h1 with _ h2 _; exact h2.symm
  subst hn
  exact ⟨A, c, rfl, h, hb⟩

end

section
open Go.RowKit Go.Deep

/-- A source of m one-cell elements: nil, empty or not. -/
def SrcAt (w : World) (A : Option Addr) (m : Nat) (us : List Value) : Prop := us.length = m ∧ (0 < m → ∃ b o, A = some ⟨b, o, none⟩ ∧ ∀ j u, us[j]? = some u → w.cell? ⟨b, o + j, none⟩ = some u)

theorem RdI.src {w : World} {B n : Nat} {A : Option Addr} {zs : List Int} (h : RdI w B A n zs) : SrcAt w A n (zs.map iv) :=
  ⟨by rw [List.length_map]; exact h.1, fun hn => by
    obtain ⟨b, o, hA, _, hc⟩ := h.2 hn
    refine ⟨b, o, hA, fun j u hu => ?_⟩
    rw [List.getElem?_map] at hu
    obtain ⟨x, hx, rfl⟩ := Option.map_eq_some_iff.1 hu
    exact hc j x hx⟩

theorem run_append_src {P : Program} (w : World) (t ty e : TypeId) (i : TypeInfo) (z : Value) (bytes : Nat) (ht : P.underlying t = some (.slice e)) (hi : P.info? e = some i) (hz : i.zero = some z) (hsize : i.size = 1) (hby : i.bytes = bytes) (hzs : z.cells.size = 1)
    (v : Value) (n : Nat) (xs : List Value) (hown : w.ownsRow 0 e 1 v n xs) (A : Option Addr) (m c : Nat) (us : List Value) (hs : SrcAt w A m us) (h1 : ∀ u ∈ us, u.oneCell' = true) (h63 : n + m ≤ maxLen) (hbytes : (n + m) * bytes ≤ 140737488355328) :
    ∃ v' w', (Builtin.append_ #[t, t] ty #[v, .slice A m c]).run P w = .ok v' w' ∧ w'.ownsRow 0 e 1 v' (n + m) (xs ++ us) ∧ w.grownBy w' v.ownBlock ∧ (v'.ownBlock = v.ownBlock ∨ v'.ownBlock = some w.heap.size) := by
  cases A with
  | none =>
    obtain rfl : m = 0 := by
      rcases Nat.eq_zero_or_pos m with h | h
      · exact h
      · obtain ⟨_, _, hA, _⟩ := hs.2 h
        cases hA
    obtain rfl : us = [] := List.eq_nil_of_length_eq_zero hs.1
    refine ⟨v, w, ?_, by simpa using hown, World.grownBy.refl w _, .inl rfl⟩
    rcases hown.2 with ⟨rfl, rfl⟩ | ⟨g, cap, cur, rfl, _, _, hnc, _⟩
    · simp [Builtin.append_, run_underlying ht, sizeOf, typeInfo, hi, Builtin.lenOf, Builtin.firstCells]
    · simp [Builtin.append_, run_underlying ht, sizeOf, typeInfo, hi, Builtin.lenOf, Builtin.firstCells, hnc, storeCells]
  | some ad =>
    have hc : ∀ j u, us[j]? = some u → w.cell? (ad.add j) = some u := fun j u hu => by
      have hj := (List.getElem?_eq_some_iff.1 hu).1
      obtain ⟨b, o, hA, hcell⟩ := hs.2 (by have := hs.1; omega)
      injection hA with hA
      subst hA
      rw [addr_add]
      exact hcell j u hu
    obtain ⟨v', w', hr, h2, h3, _, h5⟩ := run_append_own_at (P := P) w 0 t ty e i z 1 bytes ht hi hz hsize hby hzs (by omega) v n xs hown ad m c us (by rw [hs.1, Nat.mul_one]) hc h1 h63 hbytes (Nat.zero_le _)
    exact ⟨v', w', hr, h2, h3, h5⟩

theorem wp_append_src {P : Program} (w : World) {o : Oper} {a : Act} {K : Act → World → Prop} {Q : Exit → Act → World → Prop} (s x : Operand) (t : TypeId) (ho : o.op = .call { callee := .builtin .append, args := #[s, x], argTypes := #[t, t] })
    (e : TypeId) (i : TypeInfo) (z : Value) (bytes : Nat) (ht : P.underlying t = some (.slice e)) (hi : P.info? e = some i) (hz : i.zero = some z) (hsize : i.size = 1) (hby : i.bytes = bytes) (hzs : z.cells.size = 1)
    (v : Value) (n : Nat) (xs : List Value) (hv : a.eval s = v) (hown : w.ownsRow 0 e 1 v n xs) (A : Option Addr) (m c : Nat) (us : List Value) (hx : a.eval x = .slice A m c) (hs : SrcAt w A m us) (h1 : ∀ u ∈ us, u.oneCell' = true) (h63 : n + m ≤ maxLen) (hbytes : (n + m) * bytes ≤ 140737488355328)
    (h : ∀ v' w', w'.ownsRow 0 e 1 v' (n + m) (xs ++ us) → w.grownBy w' v.ownBlock → (v'.ownBlock = v.ownBlock ∨ v'.ownBlock = some w.heap.size) → K (a.put o.dst v') w') : o.wp P a w K Q := by
  obtain ⟨v', w', hr, h2, h3, h4⟩ := run_append_src (P := P) w t o.type e i z bytes ht hi hz hsize hby hzs v n xs hown A m c us hs h1 h63 hbytes
  unfold Oper.wp execOp
  simp only [ho, resolve, invoke, builtin, Sem.run_bind, Sem.run_pure, Result.andThen_ok, List.map_toArray, List.map_cons, List.map_nil, hv, hx, hr]
  exact h v' w' h2 h3 h4

theorem wpList_append_src {P : Program} (w : World) {ops : Array Oper} {rest : List Oper} {o : Oper} {a : Act} {Q : Exit → Act → World → Prop} (hgd : o.guard = none) (s x : Operand) (t : TypeId) (ho : o.op = .call { callee := .builtin .append, args := #[s, x], argTypes := #[t, t] })
    (e : TypeId) (i : TypeInfo) (z : Value) (bytes : Nat) (ht : P.underlying t = some (.slice e)) (hi : P.info? e = some i) (hz : i.zero = some z) (hsize : i.size = 1) (hby : i.bytes = bytes) (hzs : z.cells.size = 1)
    (v : Value) (n : Nat) (xs : List Value) (hv : a.eval s = v) (hown : w.ownsRow 0 e 1 v n xs) (A : Option Addr) (m c : Nat) (us : List Value) (hx : a.eval x = .slice A m c) (hs : SrcAt w A m us) (h1 : ∀ u ∈ us, u.oneCell' = true) (h63 : n + m ≤ maxLen) (hbytes : (n + m) * bytes ≤ 140737488355328)
    (h : ∀ v' w', w'.ownsRow 0 e 1 v' (n + m) (xs ++ us) → w.grownBy w' v.ownBlock → (v'.ownBlock = v.ownBlock ∨ v'.ownBlock = some w.heap.size) → wpList P ops Q rest (a.put o.dst v') w') : wpList P ops Q (o :: rest) a w :=
  wpList_plain hgd fun _ hK => wp_append_src w s x t ho e i z bytes ht hi hz hsize hby hzs v n xs hv hown A m c us hx hs h1 h63 hbytes fun v' w' h2 h3 h4 => hK _ _ (h v' w' h2 h3 h4)

theorem step_append_src {P : Program} (w : World) {ops : Array Oper} {o : Oper} {a : Act} {K : Act → World → Prop} {Q : Exit → Act → World → Prop} {E : Prop} (hgd : o.guard = none) (s x : Operand) (t : TypeId) (ho : o.op = .call { callee := .builtin .append, args := #[s, x], argTypes := #[t, t] })
    (e : TypeId) (i : TypeInfo) (z : Value) (bytes : Nat) (ht : P.underlying t = some (.slice e)) (hi : P.info? e = some i) (hz : i.zero = some z) (hsize : i.size = 1) (hby : i.bytes = bytes) (hzs : z.cells.size = 1)
    (v : Value) (n : Nat) (xs : List Value) (hv : a.eval s = v) (hown : w.ownsRow 0 e 1 v n xs) (A : Option Addr) (m c : Nat) (us : List Value) (hx : a.eval x = .slice A m c) (hs : SrcAt w A m us) (h1 : ∀ u ∈ us, u.oneCell' = true) (h63 : n + m ≤ maxLen) (hbytes : (n + m) * bytes ≤ 140737488355328)
    (h : ∀ v' w', w'.ownsRow 0 e 1 v' (n + m) (xs ++ us) → w.grownBy w' v.ownBlock → (v'.ownBlock = v.ownBlock ∨ v'.ownBlock = some w.heap.size) → K (a.put o.dst v') w') :
    if Region.wanted o (yielded ops a.tmps) = true then Oper.wp P o a w K Q else E := by
  have hw : Region.wanted o (yielded ops a.tmps) = true := by simp [Region.wanted, hgd]
  rw [if_pos hw]
  exact wp_append_src w s x t ho e i z bytes ht hi hz hsize hby hzs v n xs hv hown A m c us hx hs h1 h63 hbytes h

/-- What was appended to a new, empty slice. -/
theorem own_of_copy {w w' : World} {zs : List Int} {v : Value} (h : w'.ownsRow 0 3 1 v (0 + zs.length) (([] : List Value) ++ zs.map iv)) (hb : ∀ g, v.ownBlock = some g → w.heap.size ≤ g) : ∃ A c, v = .slice A zs.length c ∧ OwnI w' w.heap.size w'.heap.size (.slice A zs.length c) zs := by
  rw [Nat.zero_add, List.nil_append] at h
  obtain ⟨A, c, rfl⟩ := own_form h
  exact ⟨A, c, rfl, ownsRow_base h hb, fun g hg => (h.lt g hg).2⟩

/-- New rows, behind a name. -/
def RowsNew (R : List (List Int)) (w : World) (e : Ending) (w' : World) : Prop :=
  ∃ (A : Option Addr) (c : Nat), e = .returned (.slice A R.length c) ∧ OwnR w' w.heap.size w'.heap.size (.slice A R.length c) R ∧ Below w.heap.size w w'

theorem RowsNew.of {R : List (List Int)} {w w' : World} {v : Value} (h : OwnR w' w.heap.size w'.heap.size v R) (hb : Below w.heap.size w w') : RowsNew R w (.returned v) w' := by
  obtain ⟨A, c, rfl⟩ := h.form
  exact ⟨A, c, rfl, h, hb⟩

/-- Owned rows, laid open for one row more. -/
theorem OwnR.open_ {w : World} {lo hi : Nat} {v : Value} {rs : List (List Int)} (h : OwnR w lo hi v rs) : ∃ xs : List Value, w.ownsRow 0 27 1 v rs.length xs ∧ (∀ g, v.ownBlock = some g → lo ≤ g ∧ g < hi ∧ g < w.heap.size) ∧
    ∀ (w1 w' : World) (A1 : Option Addr) (r : List Int) (c1 lo1 hi1 g cap : Nat), Below w.heap.size w w1 → OwnI w1 lo1 hi1 (.slice A1 r.length c1) r → hi ≤ lo1 → lo ≤ lo1 → hi1 ≤ w1.heap.size → lo ≤ w1.heap.size →
      w'.ownsRow 0 27 1 (.slice (some ⟨g, 0, none⟩) (rs.length + 1) cap) (rs.length + 1) (xs ++ [.slice A1 r.length c1]) → w1.grownBy w' v.ownBlock → (v.ownBlock = some g ∨ g = w1.heap.size) →
      OwnR w' lo w'.heap.size (.slice (some ⟨g, 0, none⟩) (rs.length + 1) cap) (rs ++ [r]) := by
  obtain ⟨F, h1, h2⟩ := h
  obtain ⟨xs, k1, k2, k3⟩ := h1.open_ eRow_ok
  refine ⟨xs, k1, fun g hg => ⟨(h2 g (k2 g hg)).1, (h2 g (k2 g hg)).2, h1.bound g (k2 g hg)⟩, fun w1 w' A1 r c1 lo1 hi1 g cap hb ho hlo hlo' hhi hl hown hgrow hat => ?_⟩
  have := k3 w1 w' (fun k => lo1 ≤ k ∧ k < hi1) [.slice A1 r.length c1] r g cap ⟨hb.os, hb.tape, hb.output, hb.size, fun i hi _ => hb.block i hi⟩ (ERow.of ho hhi) rfl (fun k hk hk' => by have := h2 k hk; omega) hown hgrow (by rcases hat with h | h; exact .inl h; exact .inr (by omega))
  refine ⟨_, this, fun k hk => ⟨?_, this.bound k hk⟩⟩
  rcases hk with hk | hk | rfl
  · exact (h2 k hk).1
  · omega
  · rcases hat with h | h
    · exact (h2 k (k2 k h)).1
    · omega

theorem OwnR.empty (w : World) {lo : Nat} (h : lo ≤ w.heap.size) : OwnR (w.alloc (.cells #[] 27)) lo (w.alloc (.cells #[] 27)).heap.size (.slice (some ⟨w.heap.size, 0, none⟩) 0 0) [] :=
  ⟨_, OwnSl.empty w, fun k hk => by subst hk; simp; exact h⟩

end

section
open Go.RowKit Go.Deep

set_option maxRecDepth 100000 in
set_option maxHeartbeats 400000 in
theorem slicesEqual_q (A A' : Option Addr) (n c n' c' : Nat) (zs zs' : List Int) (w : World) (hr : RdI w w.heap.size A n zs) (hr' : RdI w w.heap.size A' n' zs') (hn : n ≤ 9223372036854775807) (hn' : n' ≤ 9223372036854775807) :
    Calls Tryz.prog 77 #[.slice A n c, .slice A' n' c'] w fun e w' => e = .returned (.bool (decide (zs = zs'))) ∧ Qt w w' := by
  by_cases hne : n = n'
  · subst hne
    go_enter Tryz.func77, Tryz.ntmps77
    go_wp2
    go_loopw [13] (fun i wr => ∃ k : Nat, k ≤ n ∧ i = .int .i64 k ∧ Hid (zs.take k = zs'.take k) ∧ Qt w wr) (fun i _ => n - (intOf i).toNat)
    case atStart => exact ⟨0, by omega, rfl, rfl, Qt.refl _⟩
    case round =>
      obtain ⟨k, hk, rfl, hpre, hbel⟩ := hrel
      by_cases hlt : k < n
      · obtain ⟨b, o, x, rfl, _, hx, hc⟩ := hr.at_ hlt
        obtain ⟨b', o', x', rfl, _, hx', hc'⟩ := hr'.at_ hlt
        have hc1 := (hbel.cell (p := ⟨b, o + k, none⟩)).trans hc
        have hc2 := (hbel.cell (p := ⟨b', o' + k, none⟩)).trans hc'
        have g1 : (0 : Int) ≤ (k : Int) := by omega
        have g2 : (k : Int) < (n : Int) := by omega
        have g3 : (k : Int).toNat = k := by omega
        have HX := Lib.hid hx
        have HX' := Lib.hid hx'
        clear hx hx' hc hc'
        by_cases he : x = x'
        · have hpre' : Hid (zs.take (k + 1) = zs'.take (k + 1)) := by
            show zs.take (k + 1) = zs'.take (k + 1)
            rw [List.take_add_one, List.take_add_one, HX.out, HX'.out, he, hpre.out]
          have hbq : (x != x') = false := by simp [he]
          clear he
          go_wp2_with fail
          go_quiet (fail)
          clear g3
          go_wp2
          refine ⟨⟨k + 1, by omega, by go_num, hpre', hbel.drewN _⟩, ?_⟩
          simp [intOf]
          omega
        · have hfin : Hid (decide (zs = zs') = false) := by
            show decide (zs = zs') = false
            rw [decide_eq_false_iff_not]
            rintro rfl
            have h1 := HX.out
            rw [HX'.out] at h1
            exact he (by injection h1 with h1; exact h1.symm)
          have hbq : (x != x') = true := by simpa using he
          clear he
          go_wp2_with fail
          go_quiet (fail)
          clear g3
          go_wp2
          go_ret
          exact ⟨by rw [hfin.out] <;> rfl, hbel.drewN _⟩
      · obtain rfl : k = n := by omega
        have hfin : Hid (decide (zs = zs') = true) := by
          show decide (zs = zs') = true
          rw [decide_eq_true_eq]
          have h1 := hpre.out
          rwa [List.take_of_length_le (Nat.le_of_eq hr.1), List.take_of_length_le (Nat.le_of_eq hr'.1)] at h1
        go_wp2
        go_ret
        exact ⟨by rw [hfin.out] <;> rfl, hbel⟩
  · have hfin : Hid (decide (zs = zs') = false) := by
      show decide (zs = zs') = false
      rw [decide_eq_false_iff_not]
      rintro rfl
      exact hne (hr.1.symm.trans hr'.1)
    have hbq : ((n : Int) != (n' : Int)) = true := by simp; omega
    clear hne
    go_enter Tryz.func77, Tryz.ntmps77
    go_wp2
    go_ret
    exact ⟨by rw [hfin.out] <;> rfl, Qt.refl _⟩

theorem Qt.rdI {w w' : World} {A : Option Addr} {n : Nat} {zs : List Int} (hq : Qt w w') (h : RdI w w.heap.size A n zs) : RdI w' w'.heap.size A n zs := by
  have := h.below (hq.below _)
  rwa [← hq.heap] at this

theorem Qt.rdR {w w' : World} {A : Option Addr} {n : Nat} {zs : List (List Int)} (hq : Qt w w') (h : RdR w w.heap.size A n zs) : RdR w' w'.heap.size A n zs := by
  have := RdR.belowB h (hq.below w.heap.size) (Nat.le_refl _)
  rwa [← hq.heap] at this

end

section
open Go.RowKit Go.Deep

/-- A name: one letter from a to z. -/
def nameB (s : ByteArray) : Bool := match s.data.toList with | [b] => inB b.toNat 97 122 | _ => false

theorem nameB_data {s : ByteArray} (h : nameB s = true) : ∃ b : UInt8, s = ⟨#[b]⟩ := by
  obtain ⟨⟨l⟩⟩ := s
  match l, h with
  | [b], _ => exact ⟨b, rfl⟩

theorem nameB_not {s : ByteArray} (h : ¬ s.size = 1) : nameB s = false := by
  unfold nameB
  split
  · rename_i b hb
    exact absurd (by rw [← ByteArray.size_data, ← Array.length_toList, hb]; rfl) h
  · rfl

theorem nameB_one {s : ByteArray} (h : s.size = 1) (h0 : 0 < s.size) : nameB s = inB (s[0]'h0).toNat 97 122 := by
  obtain ⟨⟨l⟩⟩ := s
  match l, h with
  | [b], _ => rfl

/-- A row: values from 0 to 9, so many. -/
def rowB (r : List Int) (n : Int) : Bool := (r.all fun c => inB c 0 9) && ((r.length : Int) == n)

theorem rowB_no {zs : List Int} {n : Int} {k : Nat} {x : Int} (hx : zs[k]? = some x) (h : inB x 0 9 = false) : rowB zs n = false := by
  have : (zs.all fun c => inB c 0 9) = false := by
    rw [← Bool.not_eq_true, List.all_eq_true]
    intro hall
    have := hall x (List.mem_of_getElem? hx)
    rw [h] at this
    cases this
  rw [rowB, this]
  rfl

theorem rowB_step {zs : List Int} {k : Nat} {x : Int} (hx : zs[k]? = some x) (h : inB x 0 9 = true) (hp : (zs.take k).all (fun c => inB c 0 9) = true) : (zs.take (k + 1)).all (fun c => inB c 0 9) = true := by
  obtain ⟨h1, rfl⟩ := List.getElem?_eq_some_iff.1 hx
  rw [List.take_succ_eq_append_getElem h1, List.all_append, hp]
  simpa using h

theorem rowB_end {zs : List Int} {m : Int} {n : Nat} (hn : zs.length = n) (hp : (zs.take n).all (fun c => inB c 0 9) = true) : rowB zs m = ((n : Int) == m) := by
  rw [List.take_of_length_le (by omega)] at hp
  rw [rowB, hp, hn]
  rfl

/-- Strictly ascending rows. -/
def ascB : List (List Int) → Bool
  | a :: b :: l => decide (cmpL a b < 0) && ascB (b :: l)
  | _ => true

theorem ascB_iff : ∀ {rs : List (List Int)}, ascB rs = true ↔ ∀ j x y, rs[j]? = some x → rs[j + 1]? = some y → cmpL x y < 0
  | [] => by simp [ascB]
  | [a] => by simp [ascB]
  | a :: b :: l => by
    rw [ascB, Bool.and_eq_true, decide_eq_true_eq, ascB_iff]
    constructor
    · rintro ⟨h1, h2⟩ j x y hx hy
      cases j with
      | zero =>
        simp at hx hy
        rw [← hx, ← hy]
        exact h1
      | succ j => exact h2 j x y (by simpa using hx) (by simpa using hy)
    · intro h
      exact ⟨h 0 a b rfl rfl, fun j x y hx hy => h (j + 1) x y (by simpa using hx) (by simpa using hy)⟩

theorem ascB_no {rs : List (List Int)} {j : Nat} {x y : List Int} (hx : rs[j]? = some x) (hy : rs[j + 1]? = some y) (h : 0 ≤ cmpL x y) : ascB rs = false := by
  rw [← Bool.not_eq_true, ascB_iff]
  intro hall
  have := hall j x y hx hy
  omega

/-- Up to k the rows ascend. -/
def AscTo (rs : List (List Int)) (k : Nat) : Prop := ∀ j x y, j + 1 < k → rs[j]? = some x → rs[j + 1]? = some y → cmpL x y < 0

theorem AscTo.one (rs : List (List Int)) (k : Nat) (hk : k ≤ 1) : AscTo rs k := fun j x y h => by omega

theorem AscTo.step {rs : List (List Int)} {k : Nat} {x y : List Int} (h : AscTo rs (k + 1)) (hx : rs[k]? = some x) (hy : rs[k + 1]? = some y) (hc : cmpL x y < 0) : AscTo rs (k + 2) := fun j u v hj hu hv => by
  rcases Nat.lt_or_ge (j + 1) (k + 1) with h1 | h1
  · exact h j u v h1 hu hv
  · obtain rfl : j = k := by omega
    rw [hx] at hu
    rw [hy] at hv
    injection hu with hu
    injection hv with hv
    rw [← hu, ← hv]
    exact hc

theorem AscTo.done {rs : List (List Int)} {k : Nat} (h : AscTo rs k) (hk : rs.length ≤ k) : ascB rs = true := ascB_iff.2 fun j x y hx hy => h j x y (by have := (List.getElem?_eq_some_iff.1 hy).1; omega) hx hy

/-- A valid table. -/
def validT (nm : ByteArray) (ar : Int) (rs : List (List Int)) : Bool := nameB nm && (inB ar 1 3 && (decide (rs.length ≤ 8) && ((rs.all fun r => rowB r ar) && ascB rs)))

set_option maxRecDepth 100000 in
theorem nameOk_any (s : ByteArray) (w : World) :
    Calls Tryz.prog 53 #[.string s] w fun e w' => e = .returned (.bool (nameB s)) ∧ w = w' := by
  by_cases h : s.size = 1
  · have h0 : 0 < s.size := by omega
    have hf := Lib.hid (nameB_one h h0)
    have q1 : ((s.size : Int) == 1) = true := by simp [h]
    clear h
    by_cases h1 : 97 ≤ (s[0].toNat : Int)
    all_goals
      go_enter Tryz.func53, Tryz.ntmps53
      go_wp2
      go_ret
      exact ⟨by rw [hf.out]; unfold inB; first | (simp; done) | (simp; omega), rfl⟩
  · have hf := Lib.hid (nameB_not h)
    have q1 : ((s.size : Int) == 1) = false := by simp; omega
    clear h
    go_enter Tryz.func53, Tryz.ntmps53
    go_wp2
    go_ret
    exact ⟨by rw [hf.out] <;> rfl, rfl⟩

set_option maxRecDepth 100000 in
theorem l4Name_any (s : ByteArray) (w : World) :
    Calls Tryz.prog 45 #[.string s] w fun e w' => e = .returned (.bool (nameB s)) ∧ w = w' := by
  by_cases h : s.size = 1
  · have h0 : 0 < s.size := by omega
    have hf := Lib.hid (nameB_one h h0)
    have q1 : ((s.size : Int) == 1) = true := by simp [h]
    clear h
    by_cases h1 : 97 ≤ (s[0].toNat : Int)
    all_goals
      go_enter Tryz.func45, Tryz.ntmps45
      go_wp2
      go_ret
      exact ⟨by rw [hf.out]; unfold inB; first | (simp; done) | (simp; omega), rfl⟩
  · have hf := Lib.hid (nameB_not h)
    have q1 : ((s.size : Int) == 1) = false := by simp; omega
    clear h
    go_enter Tryz.func45, Tryz.ntmps45
    go_wp2
    go_ret
    exact ⟨by rw [hf.out] <;> rfl, rfl⟩

set_option maxHeartbeats 400000 in
theorem rowOk_any (A : Option Addr) (n c : Nat) (zs : List Int) (m : Int) (w : World) (hr : RdI w w.heap.size A n zs) (hn : n ≤ 9223372036854775807) :
    Calls Tryz.prog 36 #[.slice A n c, .int .i64 m] w fun e w' => e = .returned (.bool (rowB zs m)) ∧ w = w' := by
  go_enter Tryz.func36, Tryz.ntmps36
  go_wp2
  go_loop [9] (fun i => ∃ k : Nat, k ≤ n ∧ i = .int .i64 k ∧ Hid ((zs.take k).all (fun c => inB c 0 9) = true)) (fun i => n - (intOf i).toNat)
  case atStart => exact ⟨0, by omega, rfl, by show (zs.take 0).all _ = true; simp⟩
  case round =>
    obtain ⟨k, hk, rfl, hp⟩ := hrel
    by_cases hlt : k < n
    · obtain ⟨b, o, x, rfl, hb, hx, hc⟩ := hr.at_ hlt
      by_cases hin : inB x 0 9 = true
      · have hp' := Lib.hid (rowB_step hx hin hp.out)
        clear hx
        go_wp2_with (go_at_call 54; refine (within_any _ _ _ _).mono ?_; rintro e w' ⟨rfl, rfl⟩)
        go_round
        case rel => exact ⟨k + 1, by omega, by go_num, hp'⟩
        case measure => simp [intOf]; omega
      · have hin' : inB x 0 9 = false := by simpa using hin
        have hf := Lib.hid (rowB_no (n := m) hx hin')
        clear hx hin
        go_wp2_with (go_at_call 54; refine (within_any _ _ _ _).mono ?_; rintro e w' ⟨rfl, rfl⟩)
        go_ret
        exact ⟨by rw [hf.out] <;> rfl, rfl⟩
    · obtain rfl : k = n := by omega
      have hf := Lib.hid (rowB_end (m := m) hr.1 hp.out)
      go_wp2
      go_ret
      exact ⟨by rw [hf.out] <;> rfl, rfl⟩

set_option maxHeartbeats 400000 in
theorem l4Row_any (A : Option Addr) (n c : Nat) (zs : List Int) (m : Int) (w : World) (hr : RdI w w.heap.size A n zs) (hn : n ≤ 9223372036854775807) :
    Calls Tryz.prog 40 #[.slice A n c, .int .i64 m] w fun e w' => e = .returned (.bool (rowB zs m)) ∧ w = w' := by
  go_enter Tryz.func40, Tryz.ntmps40
  go_wp2
  go_loop [5] (fun i => ∃ k : Nat, k ≤ n ∧ i = .int .i64 k ∧ Hid ((zs.take k).all (fun c => inB c 0 9) = true)) (fun i => n - (intOf i).toNat)
  case atStart => exact ⟨0, by omega, rfl, by show (zs.take 0).all _ = true; simp⟩
  case round =>
    obtain ⟨k, hk, rfl, hp⟩ := hrel
    by_cases hlt : k < n
    · obtain ⟨b, o, x, rfl, hb, hx, hc⟩ := hr.at_ hlt
      by_cases hin : inB x 0 9 = true
      · have hp' := Lib.hid (rowB_step hx hin hp.out)
        clear hx
        go_wp2_with (go_at_call 46; refine (l1In_any _ _ _ _).mono ?_; rintro e w' ⟨rfl, rfl⟩)
        go_round
        case rel => exact ⟨k + 1, by omega, by go_num, hp'⟩
        case measure => simp [intOf]; omega
      · have hin' : inB x 0 9 = false := by simpa using hin
        have hf := Lib.hid (rowB_no (n := m) hx hin')
        clear hx hin
        go_wp2_with (go_at_call 46; refine (l1In_any _ _ _ _).mono ?_; rintro e w' ⟨rfl, rfl⟩)
        go_ret
        exact ⟨by rw [hf.out] <;> rfl, rfl⟩
    · obtain rfl : k = n := by omega
      have hf := Lib.hid (rowB_end (m := m) hr.1 hp.out)
      go_wp2
      go_ret
      exact ⟨by rw [hf.out] <;> rfl, rfl⟩

set_option maxRecDepth 100000 in
set_option maxHeartbeats 400000 in
theorem ascendingRows_q (A : Option Addr) (n c : Nat) (rs : List (List Int)) (w : World) (hr : RdR w w.heap.size A n rs) (hn : n ≤ 9223372036854775806) :
    Calls Tryz.prog 55 #[.slice A n c] w fun e w' => e = .returned (.bool (ascB rs)) ∧ Qt w w' := by
  have HL := Lib.hid hr.1
  go_enter Tryz.func55, Tryz.ntmps55
  go_wp2
  go_loopw [3] (fun i wr => ∃ k : Nat, k ≤ n ∧ i = .int .i64 (((k + 1 : Nat) : Int)) ∧ Hid (AscTo rs (k + 1)) ∧ Qt w wr) (fun i _ => n + 1 - (intOf i).toNat)
  case atStart => exact ⟨0, by omega, by go_num, AscTo.one _ _ (by omega), Qt.refl _⟩
  case round =>
    obtain ⟨k, hk, rfl, hp, hbel⟩ := hrel
    by_cases hlt : k + 1 < n
    · obtain ⟨b, o, x, A1, c1, rfl, _, hx, hc, hrd, hm⟩ := RdR.at_ hr (show k < n by omega)
      obtain ⟨b', o', x', A2, c2, hbb, _, hx', hc', hrd', hm'⟩ := RdR.at_ hr hlt
      injection hbb with hbb
      injection hbb with hb1 hb2
      subst hb1 hb2
      have e1 := (hbel.cell (p := ⟨b, o + k, none⟩)).trans hc
      have e2 := (hbel.cell (p := ⟨b, o + (k + 1), none⟩)).trans hc'
      have KE := Lib.hid (fun q => impl_CompareRows_any A1 A2 x.length c1 x'.length c2 x x' (wr.drewN q) (hbel.rdI hrd) (hbel.rdI hrd') (by unfold maxLen at hm; omega) (by unfold maxLen at hm'; omega))
      have g0 : IntKind.i64.wrap ((((k + 1 : Nat) : Int)) - 1) = (k : Int) := by rw [IntWalk.i64_in _ (by omega)]; omega
      have g1 : (0 : Int) ≤ (k : Int) := by omega
      have g2 : (k : Int) < (n : Int) := by omega
      have g3 : (k : Int).toNat = k := by omega
      have g4 : (0 : Int) ≤ (((k + 1 : Nat) : Int)) := by omega
      have g5 : (((k + 1 : Nat) : Int)) < (n : Int) := by omega
      have g6 : (((k + 1 : Nat) : Int)).toNat = k + 1 := by omega
      by_cases hcmp : cmpL x x' < 0
      · have hp' : Hid (AscTo rs (k + 1 + 1)) := hp.out.step hx hx' hcmp
        obtain ⟨y, hy⟩ : ∃ y, y = cmpL x x' := ⟨_, rfl⟩
        rw [← hy] at KE hcmp
        have hq : decide (0 ≤ y) = false := by simpa using hcmp
        clear hy hx hx' hc hc' hrd hrd' hm hm'
        go_wp2_with fail
        go_quiet ((go_at_call 79; exact Calls.quiet_of_same ((KE.out _).mono fun _ _ h => ⟨h.1, h.2.symm⟩)))
        clear g0 g3 g6
        go_wp2_with fail
        refine ⟨⟨k + 1, by omega, by go_num, hp', hbel.drewN _⟩, ?_⟩
        simp [intOf]
        omega
      · have hf := Lib.hid (ascB_no hx hx' (by omega))
        obtain ⟨y, hy⟩ : ∃ y, y = cmpL x x' := ⟨_, rfl⟩
        rw [← hy] at KE hcmp
        have hq : decide (0 ≤ y) = true := by simpa using hcmp
        clear hy hx hx' hc hc' hrd hrd' hm hm'
        go_wp2_with fail
        go_quiet ((go_at_call 79; exact Calls.quiet_of_same ((KE.out _).mono fun _ _ h => ⟨h.1, h.2.symm⟩)))
        clear g0 g3 g6
        go_wp2_with fail
        go_ret
        exact ⟨by rw [hf.out] <;> rfl, hbel.drewN _⟩
    · have hf := Lib.hid (hp.out.done (by rw [HL.out]; omega))
      go_wp2
      go_ret
      exact ⟨by rw [hf.out] <;> rfl, hbel⟩

theorem nameOk_is {s : ByteArray} {b : Bool} (h : nameB s = b) (w : World) : Calls Tryz.prog 53 #[.string s] w fun e w' => e = .returned (.bool b) ∧ w = w' := h ▸ nameOk_any s w

theorem l4Name_is {s : ByteArray} {b : Bool} (h : nameB s = b) (w : World) : Calls Tryz.prog 45 #[.string s] w fun e w' => e = .returned (.bool b) ∧ w = w' := h ▸ l4Name_any s w

theorem within_is {n a c : Int} {b : Bool} (h : inB n a c = b) (w : World) : Calls Tryz.prog 54 #[.int .i64 n, .int .i64 a, .int .i64 c] w fun e w' => e = .returned (.bool b) ∧ w = w' := h ▸ within_any n a c w

theorem l1In_is {n a c : Int} {b : Bool} (h : inB n a c = b) (w : World) : Calls Tryz.prog 46 #[.int .i64 n, .int .i64 a, .int .i64 c] w fun e w' => e = .returned (.bool b) ∧ w = w' := h ▸ l1In_any n a c w

theorem all_take_step {α : Type} {p : α → Bool} {l : List α} {k : Nat} {x : α} (hx : l[k]? = some x) (h : p x = true) (hp : (l.take k).all p = true) : (l.take (k + 1)).all p = true := by
  obtain ⟨h1, rfl⟩ := List.getElem?_eq_some_iff.1 hx
  rw [List.take_succ_eq_append_getElem h1, List.all_append, hp]
  simpa using h

theorem all_no {α : Type} {p : α → Bool} {l : List α} {k : Nat} {x : α} (hx : l[k]? = some x) (h : p x = false) : l.all p = false := by
  rw [← Bool.not_eq_true, List.all_eq_true]
  intro hall
  rw [hall x (List.mem_of_getElem? hx)] at h
  cases h

set_option maxRecDepth 100000 in
set_option maxHeartbeats 1000000 in
theorem impl_IsValidTable_any (nm : ByteArray) (ar : Int) (A : Option Addr) (n c B : Nat) (rs : List (List Int)) (w : World) (hr : RdR w B A n rs) (hB : B ≤ w.heap.size) (hn : n ≤ 9223372036854775806) :
    Calls Tryz.prog 16 #[.agg #[.string nm, .int .i64 ar, .slice A n c]] w fun e w' => e = .returned (.bool (validT nm ar rs)) ∧ Below w.heap.size w w' := by
  have HL := Lib.hid hr.1
  have HB := Lib.hid (Below.refl w.heap.size w)
  go_enter Tryz.func16, Tryz.ntmps16
  go_wp2_with fail
  generalize hW : w.alloc (.cells #[.string nm, .int .i64 ar, .slice A n c] 26) = W
  have hWb : Hid (Below w.heap.size w W) := by rw [← hW]; exact (HB.out).alloc (Nat.le_refl _) _
  have w0 : W.cell? ⟨w.heap.size, 0, none⟩ = some (.string nm) := by rw [← hW]; simp [go_sem]
  have w1 : W.cell? ⟨w.heap.size, 1, none⟩ = some (.int .i64 ar) := by rw [← hW]; simp [go_sem]
  have w2 : W.cell? ⟨w.heap.size, 2, none⟩ = some (.slice A n c) := by rw [← hW]; simp [go_sem]
  have hr1 : RdR W W.heap.size A n rs := by rw [← hW]; exact (RdR.belowB hr ((Below.refl B w).alloc hB _) (Nat.le_refl _)).more (by simp; omega)
  clear hW hr
  go_loop [8] (fun i => ∃ k : Nat, k ≤ n ∧ i = .int .i64 k ∧ Hid ((rs.take k).all (fun r => rowB r ar) = true)) (fun i => n - (intOf i).toNat)
  case atStart => exact ⟨0, by omega, rfl, by show (rs.take 0).all _ = true; simp⟩
  case round =>
    obtain ⟨k, hk, rfl, hp⟩ := hrel
    by_cases hlt : k < n
    · obtain ⟨b, o, x, A1, c1, rfl, _, hx, hc, hrd, hm⟩ := RdR.at_ hr1 hlt
      have hm' : x.length ≤ 9223372036854775807 := by unfold maxLen at hm; omega
      cases hin : rowB x ar with
      | true =>
        have hp' := Lib.hid (all_take_step (p := fun r => rowB r ar) hx hin hp.out)
        have KR := Lib.hid (rowOk_any A1 x.length c1 x ar W hrd hm')
        rw [hin] at KR
        clear hx hin hm
        go_wp2_with fail
        refine KR.out.mono ?_
        rintro e w' ⟨rfl, rfl⟩
        go_wp2_with fail
        go_round
        case rel => exact ⟨k + 1, by omega, by go_num, hp'⟩
        case measure => simp [intOf]; omega
      | false =>
        have hf : Hid (validT nm ar rs = false) := by show _ = _; rw [validT, all_no (p := fun r => rowB r ar) hx hin]; simp
        have KR := Lib.hid (rowOk_any A1 x.length c1 x ar W hrd hm')
        rw [hin] at KR
        clear hx hin hm
        go_wp2_with fail
        refine KR.out.mono ?_
        rintro e w' ⟨rfl, rfl⟩
        go_wp2_with fail
        go_ret
        exact ⟨by rw [hf.out] <;> rfl, hWb.out⟩
    · obtain rfl : k = n := by omega
      have hall : Hid (rs.all (fun r => rowB r ar) = true) := by
        have := hp.out
        rwa [List.take_of_length_le (Nat.le_of_eq HL.out)] at this
      cases h1 : nameB nm with
      | false =>
        have hf : Hid (validT nm ar rs = false) := by show _ = _; rw [validT, h1]; rfl
        have K1 := Lib.hid (nameOk_is h1)
        clear h1
        go_wp2_with fail
        refine (K1.out _).mono ?_
        rintro e w' ⟨rfl, rfl⟩
        go_wp2_with fail
        go_ret
        exact ⟨by rw [hf.out] <;> rfl, hWb.out⟩
      | true =>
        have K1 := Lib.hid (nameOk_is h1)
        cases h2 : inB ar 1 3 with
        | false =>
          have hf : Hid (validT nm ar rs = false) := by show _ = _; rw [validT, h1, h2]; rfl
          have K2 := Lib.hid (within_is h2)
          clear h1 h2
          go_wp2_with fail
          refine (K1.out _).mono ?_
          rintro e w' ⟨rfl, rfl⟩
          go_wp2_with fail
          refine (K2.out _).mono ?_
          rintro e w' ⟨rfl, rfl⟩
          go_wp2_with fail
          go_ret
          exact ⟨by rw [hf.out] <;> rfl, hWb.out⟩
        | true =>
          have K2 := Lib.hid (within_is h2)
          by_cases h3 : k ≤ 8
          · have hf : Hid (validT nm ar rs = ascB rs) := by show _ = _; rw [validT, h1, h2, hall.out, HL.out]; simp [h3]
            clear h1 h2
            go_wp2_with fail
            refine (K1.out _).mono ?_
            rintro e w' ⟨rfl, rfl⟩
            go_wp2_with fail
            refine (K2.out _).mono ?_
            rintro e w' ⟨rfl, rfl⟩
            go_wp2_with fail
            refine (ascendingRows_q A k c rs _ hr1 hn).mono ?_
            rintro e w' ⟨rfl, hq⟩
            have HQ := Lib.hid (hWb.out.trans (hq.below _))
            clear hq
            go_wp2_with fail
            go_ret
            exact ⟨by rw [hf.out] <;> rfl, HQ.out⟩
          · have hf : Hid (validT nm ar rs = false) := by show _ = _; rw [validT, HL.out]; simp [h3]
            clear h1 h2
            go_wp2_with fail
            refine (K1.out _).mono ?_
            rintro e w' ⟨rfl, rfl⟩
            go_wp2_with fail
            refine (K2.out _).mono ?_
            rintro e w' ⟨rfl, rfl⟩
            go_wp2_with fail
            go_ret
            exact ⟨by rw [hf.out] <;> rfl, hWb.out⟩

end

section
open Go.RowKit Go.Deep Go.Sort Go.Lib

theorem putRow_block {α : Type} [Inhabited α] (enc : α → Value) {w : World} {g q : Nat} {cur : Array Value} {e : TypeId} (d : Array α) (h : w.heap[g]? = some (.cells cur e (0, 0))) :
    (putRow enc (Sort.ahead w q) g 0 d).heap[g]? = some (.cells (putCells enc 0 d cur) e (0, 0)) := by
  show (w.heap.modify g (onCells (putCells enc 0 d)))[g]? = _
  rw [Array.getElem?_modify, if_pos rfl, h]
  rfl

theorem putRow_other {α : Type} [Inhabited α] (enc : α → Value) (w : World) {g q k : Nat} (d : Array α) (h : k ≠ g) : (putRow enc (Sort.ahead w q) g 0 d).heap[k]? = w.heap[k]? := by
  show (w.heap.modify g (onCells (putCells enc 0 d)))[k]? = _
  rw [Array.getElem?_modify, if_neg (fun e => h e.symm)]

theorem putCells_take {α : Type} [Inhabited α] (enc : α → Value) (d : Array α) (cur : Array Value) {m : Nat} (hm : m ≤ d.size) (hd : d.size ≤ cur.size) : (putCells enc 0 d cur).toList.take m = (d.toList.map enc).take m := by
  apply List.ext_getElem?
  intro i
  rw [List.getElem?_take, List.getElem?_take]
  split
  · rename_i hi
    have h1 : i < cur.size := by omega
    have h2 : i < d.size := by omega
    simp [putCells, h1, h2]
  · rfl

theorem ownsRow_put {α : Type} [Inhabited α] (enc : α → Value) {w : World} {base g n c q m : Nat} {e : TypeId} {xs : List Value} (h : w.ownsRow base e 1 (.slice (some ⟨g, 0, none⟩) n c) n xs) (d : Array α) (hd : d.size = n) (hm : m ≤ n) :
    (putRow enc (Sort.ahead w q) g 0 d).ownsRow base e 1 (.slice (some ⟨g, 0, none⟩) m c) m ((d.toList.map enc).take m) := by
  rcases h.2 with ⟨hv, _⟩ | ⟨g', cap, cur, hv, hlo, hg, hnc, hcm, hsz, _⟩
  · cases hv
  · injection hv with h1 _ h3
    injection h1 with h1
    injection h1 with h1
    subst h1 h3
    refine ⟨by simp; omega, .inr ⟨g, c, putCells enc 0 d cur, rfl, hlo, putRow_block enc d hg, by omega, hcm, by simp [putCells, hsz], ?_⟩⟩
    rw [Nat.mul_one]
    exact putCells_take enc d cur (by omega) (by omega)

/-- A header. -/
def hd (t : Item (List Int)) : Value := t.cs.headD (.slice none 0 0)

def oc (v : Value) : { v : Value // v.oneCell' = true } := if h : v.oneCell' = true then ⟨v, h⟩ else ⟨.slice none 0 0, rfl⟩

theorem oc_val {v : Value} (h : v.oneCell' = true) : (oc v).1 = v := by rw [oc, dif_pos h]

instance : Inhabited { v : Value // v.oneCell' = true } := ⟨⟨.slice none 0 0, rfl⟩⟩

theorem flat_hd : ∀ {ts : List (Item (List Int))}, (∀ t ∈ ts, t.cs.length = 1) → ts.flatMap (·.cs) = ts.map hd
  | [], _ => rfl
  | t :: ts, h => by
    have h1 := h t (by simp)
    rw [List.flatMap_cons, List.map_cons, flat_hd fun s hs => h s (by simp [hs])]
    obtain ⟨cs, F, a⟩ := t
    match cs, h1 with
    | [v], _ => rfl

theorem eRow_hd {w : World} {F : Nat → Prop} {t : Item (List Int)} (h : ERow w F t.cs t.a) : ∃ A c, hd t = .slice A t.a.length c ∧ t.cs = [.slice A t.a.length c] := by
  obtain ⟨A, c, _, _, h1, _, _⟩ := h.iv
  exact ⟨A, c, by rw [hd, h1]; rfl, h1⟩

theorem OwnT.reorder {α : Type} {e : TypeId} {size : Nat} {E : World → (Nat → Prop) → List Value → α → Prop} {w w' : World} {F : Nat → Prop} {v v' : Value} {ts ts' : List (Item α)} (ok : OwnOk E) (h : OwnT e size E w F v ts) (hsub : ∀ t ∈ ts', t ∈ ts)
    (hp : ts'.Pairwise fun s t => ∀ k, s.F k → ¬ t.F k) (hrow : w'.ownsRow 0 e size v' ts'.length (ts'.flatMap (·.cs))) (hv : ∀ g, v'.ownBlock = some g → v.ownBlock = some g) (hs : w.heap.size ≤ w'.heap.size)
    (hk : ∀ k, k < w.heap.size → v.ownBlock ≠ some k → w'.heap[k]? = w.heap[k]?) : OwnT e size E w' F v' ts' :=
  ⟨hrow, fun t ht => h.len t (hsub t ht), fun t ht => ok.keep (h.elem t (hsub t ht)) fun k hf => hk k (ok.bound (h.elem t (hsub t ht)) k hf) fun hvk => (h.head k hvk).2 t (hsub t ht) hf, hp,
    fun g hg => ⟨(h.head g (hv g hg)).1, fun t ht => (h.head g (hv g hg)).2 t (hsub t ht)⟩, fun t ht => h.inF t (hsub t ht), fun k hf => Nat.lt_of_lt_of_le (h.bound k hf) hs⟩

theorem holds_row {w : World} {base g n c : Nat} {e : TypeId} {ts : List (Item (List Int))} (h : w.ownsRow base e 1 (.slice (some ⟨g, 0, none⟩) n c) n (ts.map hd)) (hn : ts.length = n) {α : Type} [Inhabited α] (enc : α → Value) (d : Array α) (hd' : d.toList.map enc = ts.map hd) : Holds enc w g 0 d := by
  intro j hj
  have hjn : j < n * 1 := by
    have := congrArg List.length hd'
    simp at this
    omega
  obtain ⟨g', c', hv, _, _, hc, hf⟩ := ownsRow_cell h hjn
  injection hv with h1 _ _
  injection h1 with h1
  injection h1 with h1
  subst h1
  rw [Nat.zero_add]
  refine ⟨hc.trans ?_, hf⟩
  rw [← hd', List.getElem?_map, Array.getElem?_toList, Array.getElem?_eq_getElem hj, Option.map_some, getElem!_pos d j hj]

set_option maxRecDepth 100000 in
theorem deleteRow_own (A : Option Addr) (n c lo hi k : Nat) (rs : List (List Int)) (w : World) (ho : OwnR w lo hi (.slice A n c) rs) (hk : k < n) :
    Calls Tryz.prog 43 #[.slice A n c, .int .i64 k, .int .i64 ((k : Int) + 1)] w fun e w' => e = .returned (.slice A (n - 1) c) ∧ OwnR w' lo hi (.slice A (n - 1) c) (rs.eraseIdx k) ∧ Chg lo hi w w' := by
  have hlen := ho.len_eq
  obtain ⟨F, ⟨ts, rfl, hT⟩, hF⟩ := ho
  rw [List.length_map] at hlen
  have hrow := hT.row
  rw [flat_hd hT.len, hlen] at hrow
  have hone : ∀ t ∈ ts, (hd t).oneCell' = true := fun t ht => by
    obtain ⟨A', c', h, _⟩ := eRow_hd (hT.elem t ht)
    rw [h]
    rfl
  obtain ⟨g, c', hv, _, hglt, _, _⟩ := ownsRow_cell hrow (i := 0) (by omega)
  injection hv with hA _ hcc
  subst hA hcc
  have hcap : n ≤ c ∧ c ≤ maxLen := by
    rcases hrow.2 with ⟨hv, _⟩ | ⟨g', cap, cur, hv, _, _, hnc, hcm, _⟩
    · cases hv
    · injection hv with _ _ h3
      subst h3
      exact ⟨hnc, hcm⟩
  have hdm : ((ts.map fun t => oc (hd t)).toArray.toList.map Subtype.val) = ts.map hd := by
    rw [List.map_map]
    exact List.map_congr_left fun t ht => oc_val (hone t ht)
  have hsz : (ts.map fun t => oc (hd t)).toArray.size = n := by simp [hlen]
  obtain ⟨i0, hi0, hz0, hz1, _⟩ := info_parts info_row
  have hcon := Tryz.slices_Delete (α := { v : Value // v.oneCell' = true }) Subtype.val (fun x => x.2) ⟨.slice none 0 0, rfl⟩ (fun w => by kernel_rfl) i0 hi0 hz1 g 0 c k (k + 1) (ts.map fun t => oc (hd t)).toArray w (holds_row hrow hlen Subtype.val _ hdm) (by rw [hsz]; exact hcap.1) (by have := hcap.2; unfold maxLen at this; omega) (by omega) (by rw [hsz]; omega)
  rw [hsz, show (((k + 1 : Nat)) : Int) = (k : Int) + 1 from by omega] at hcon
  refine hcon.mono ?_
  rintro e w' ⟨rfl, q, rfl⟩
  have hg : F g := (hT.head g rfl).1
  generalize hdd : ((ts.map fun t => oc (hd t)).toArray.toList.take k ++ (ts.map fun t => oc (hd t)).toArray.toList.drop (k + 1) ++ List.replicate (k + 1 - k) (⟨.slice none 0 0, rfl⟩ : { v : Value // v.oneCell' = true })).toArray = d'
  have hd1 : d'.size = n := by rw [← hdd]; simp [hlen]; omega
  have hval : (d'.toList.map Subtype.val).take (n - 1) = (ts.eraseIdx k).map hd := by
    rw [← hdd, List.eraseIdx_eq_take_drop_succ]
    simp only [List.map_append, List.map_take, List.map_drop] at hdm ⊢
    rw [hdm, List.take_left' (by simp [hlen]; omega)]
  have hchg : Chg lo hi w (putRow Subtype.val (Sort.ahead w q) g 0 d') :=
    ⟨rfl, rfl, rfl, by simp [putRow, mapBlock], fun j _ hne => putRow_other _ w _ (by have := hF g hg; omega)⟩
  have hel : (ts.eraseIdx k).length = n - 1 := by rw [List.length_eraseIdx, if_pos (by omega), hlen]
  refine ⟨by rw [Nat.add_sub_cancel_left], ⟨F, ⟨ts.eraseIdx k, by rw [List.eraseIdx_eq_take_drop_succ, List.eraseIdx_eq_take_drop_succ, List.map_append, List.map_take, List.map_drop], OwnT.reorder eRow_ok hT (fun t ht => (List.eraseIdx_sublist ts k).subset ht) (hT.apart.sublist (List.eraseIdx_sublist ts k)) ?_ (fun g' hg' => hg') (by simp [putRow, mapBlock]) (fun j _ hne => putRow_other _ w _ (fun e => hne (by rw [e]; rfl)))⟩, hF⟩, hchg⟩
  rw [flat_hd fun t ht => hT.len t ((List.eraseIdx_sublist ts k).subset ht), hel, ← hval]
  exact ownsRow_base (ownsRow_put Subtype.val hrow d' hd1 (by omega)) fun _ _ => Nat.zero_le _

theorem cmpL_swap : ∀ a b : List Int, cmpL b a = -cmpL a b
  | [], [] => rfl
  | [], _ :: _ => rfl
  | _ :: _, [] => rfl
  | x :: a, y :: b => by
    rw [cmpL, cmpL]
    by_cases h1 : x < y
    · rw [if_pos h1, if_neg (by omega), if_pos h1]
      rfl
    · rw [if_neg h1]
      by_cases h2 : y < x
      · rw [if_pos h2, if_neg h1, if_pos h2]
      · rw [if_neg h2, if_neg h2, if_neg h1]
        exact cmpL_swap a b

theorem cmpL_trans : ∀ {a b c : List Int}, cmpL a b < 0 → cmpL b c < 0 → cmpL a c < 0
  | _, [], [], _, h => by simp [cmpL] at h
  | [], [], _ :: _, h, _ => by simp [cmpL] at h
  | _ :: _, [], _, h, _ => by simp [cmpL] at h
  | _, _ :: _, [], _, h => by simp [cmpL] at h
  | [], _ :: _, _ :: _, _, _ => by simp [cmpL]
  | x :: a, y :: b, z :: c, h, k => by
    rw [cmpL] at h k ⊢
    by_cases h1 : x < y
    · by_cases k1 : y < z
      · rw [if_pos (by omega)]; omega
      · rw [if_neg k1] at k
        by_cases k2 : z < y
        · rw [if_pos k2] at k; omega
        · rw [if_pos (by omega)]; omega
    · rw [if_neg h1] at h
      by_cases h2 : y < x
      · rw [if_pos h2] at h; omega
      · rw [if_neg h2] at h
        have hxy : x = y := by omega
        subst hxy
        by_cases k1 : x < z
        · rw [if_pos k1]; omega
        · rw [if_neg k1] at k ⊢
          by_cases k2 : z < x
          · rw [if_pos k2] at k; omega
          · rw [if_neg k2] at k ⊢
            exact cmpL_trans h k

/-- Strictly ascending. -/
abbrev AscP (rs : List (List Int)) : Prop := rs.Pairwise fun a b => cmpL a b < 0

theorem ascP_of : ∀ {rs : List (List Int)}, ascB rs = true → AscP rs
  | [], _ => .nil
  | [a], _ => by simp
  | a :: b :: l, h => by
    rw [ascB, Bool.and_eq_true, decide_eq_true_eq] at h
    have ih := ascP_of h.2
    refine List.pairwise_cons.2 ⟨fun y hy => ?_, ih⟩
    rcases List.mem_cons.1 hy with rfl | hy
    · exact h.1
    · exact cmpL_trans h.1 ((List.pairwise_cons.1 ih).1 y hy)

theorem ascB_of : ∀ {rs : List (List Int)}, AscP rs → ascB rs = true
  | [], _ => rfl
  | [a], _ => rfl
  | a :: b :: l, h => by
    have h' := List.pairwise_cons.1 h
    rw [ascB, Bool.and_eq_true, decide_eq_true_eq]
    exact ⟨h'.1 b (by simp), ascB_of h'.2⟩

theorem ascP_nodup {rs : List (List Int)} (h : AscP rs) : rs.Nodup := h.imp fun {a b} hab e => by
  subst e
  rw [cmpL_self] at hab
  omega

/-- Two ascending lists of the same rows are one. -/
theorem ascP_unique : ∀ {a b : List (List Int)}, AscP a → AscP b → (∀ x, x ∈ a ↔ x ∈ b) → a = b
  | [], [], _, _, _ => rfl
  | [], y :: b, _, _, h => by have := (h y).2 (by simp); cases this
  | x :: a, [], _, _, h => by have := (h x).1 (by simp); cases this
  | x :: a, y :: b, ha, hb, h => by
    have ha' := List.pairwise_cons.1 ha
    have hb' := List.pairwise_cons.1 hb
    have hxy : x = y := by
      rcases List.mem_cons.1 ((h x).1 (by simp)) with e | hx
      · exact e
      · rcases List.mem_cons.1 ((h y).2 (by simp)) with e | hy
        · exact e.symm
        · have h1 := hb'.1 x hx
          have h2 := ha'.1 y hy
          rw [cmpL_swap] at h1
          omega
    subst hxy
    congr 1
    refine ascP_unique ha'.2 hb'.2 fun z => ⟨fun hz => ?_, fun hz => ?_⟩
    · rcases List.mem_cons.1 ((h z).1 (List.mem_cons_of_mem _ hz)) with e | h1
      · subst e
        have := ha'.1 z hz
        rw [cmpL_self] at this
        omega
      · exact h1
    · rcases List.mem_cons.1 ((h z).2 (List.mem_cons_of_mem _ hz)) with e | h1
      · subst e
        have := hb'.1 z hz
        rw [cmpL_self] at this
        omega
      · exact h1

theorem eraseIdx_filter {rs : List (List Int)} {r : List Int} {k : Nat} (h : AscP rs) (hk : rs[k]? = some r) : rs.eraseIdx k = rs.filter fun x => decide (¬ x = r) := by
  have hnd := ascP_nodup h
  refine ascP_unique (h.sublist (List.eraseIdx_sublist rs k)) (h.sublist List.filter_sublist) fun x => ?_
  obtain ⟨hlt, hx⟩ := List.getElem?_eq_some_iff.1 hk
  rw [List.mem_eraseIdx_iff_getElem?, List.mem_filter, decide_eq_true_eq]
  constructor
  · rintro ⟨i, hne, hi⟩
    refine ⟨List.mem_of_getElem? hi, fun e => hne ?_⟩
    obtain ⟨hil, hix⟩ := List.getElem?_eq_some_iff.1 hi
    rcases Nat.lt_trichotomy i k with hlt' | heq | hgt
    · exact absurd (by rw [hix, hx, e]) (List.pairwise_iff_getElem.1 hnd i k hil hlt hlt')
    · exact heq
    · exact absurd (by rw [hix, hx, e]) (List.pairwise_iff_getElem.1 hnd k i hlt hil hgt)
  · rintro ⟨hm, hne⟩
    obtain ⟨i, hi⟩ := List.mem_iff_getElem?.1 hm
    exact ⟨i, fun e => hne (by subst e; rw [hk] at hi; injection hi with hi; exact hi.symm), hi⟩

theorem validT_asc {nm : ByteArray} {ar : Int} {rs : List (List Int)} (h : validT nm ar rs = true) : AscP rs := by
  unfold validT at h
  simp only [Bool.and_eq_true] at h
  exact ascP_of h.2.2.2.2

end

section
open Go.RowKit Go.Deep

set_option maxRecDepth 100000 in
set_option maxHeartbeats 400000 in
theorem copyInts_any (A : Option Addr) (n c B : Nat) (zs : List Int) (w : World) (hr : RdI w B A n zs) (hB : B ≤ w.heap.size) (hn : n ≤ 17592186044416) :
    Calls Tryz.prog 95 #[.slice A n c] w (IntsNew zs w) := by
  obtain ⟨i0, hi, hz0, hz1, hz2⟩ := info_parts info_int
  have hlen := hr.1
  subst hlen
  have hs := (hr.below ((Below.refl B w).alloc hB (.cells #[] 3))).src
  have h0 : (w.alloc (.cells #[] 3)).ownsRow 0 3 1 (.slice (some ⟨w.heap.size, 0, none⟩) 0 0) 0 [] := own_empty w 0 (Nat.zero_le _)
  have HB := Lib.hid (Below.refl w.heap.size w)
  go_enter Tryz.func95, Tryz.ntmps95
  go_wp2_with (at_builtin; refine wpList_append_src _ rfl _ _ _ rfl 3 i0 _ 8 Tryz.underlying27 hi hz0 hz1 hz2 rfl (.slice (some ⟨w.heap.size, 0, none⟩) 0 0) 0 [] rfl h0 A zs.length c (zs.map iv) rfl hs (by simp [iv, Value.oneCell']) (by unfold maxLen; omega) (by omega) ?_; intro v w1 hown1 hgrow hat)
  have hge : ∀ g, v.ownBlock = some g → w.heap.size ≤ g := fun g hg => by
    rcases hat with h | h
    · rw [h] at hg
      simp [Value.ownBlock] at hg
      omega
    · rw [h] at hg
      simp at hg
      omega
  obtain ⟨A1, c1, rfl, ho⟩ := own_of_copy (w := w) hown1 hge
  have hbel := Lib.hid ((HB.out.alloc (Nat.le_refl _) (.cells #[] 3)).grown hgrow (by simp) (fun j hj => by simp [Value.ownBlock] at hj; omega))
  clear hat hge hown1 hgrow
  go_ret
  exact IntsNew.of rfl ho hbel.out

set_option maxRecDepth 100000 in
set_option maxHeartbeats 400000 in
theorem copyRows_any (A : Option Addr) (n c B : Nat) (rs : List (List Int)) (w : World) (hr0 : RdR w B A n rs) (hB : B ≤ w.heap.size) (hn : n ≤ 5000000000) (hrow : ∀ r ∈ rs, r.length ≤ 17592186044416) :
    Calls Tryz.prog 74 #[.slice A n c] w (RowsNew rs w) := by
  obtain ⟨i0, hi, hz0, hz1, hz2⟩ := info_parts info_row
  have hr := RdR.more hr0 hB
  clear hr0
  have HL := Lib.hid hr.1
  have hrow' := Lib.hid hrow
  clear hrow
  go_enter Tryz.func74, Tryz.ntmps74
  go_wp2
  go_loopw [3, 9] (fun v i wr => ∃ k : Nat, k ≤ n ∧ i = .int .i64 k ∧ Hid (OwnR wr w.heap.size wr.heap.size v (rs.take k)) ∧ Below w.heap.size w wr) (fun _ i _ => n - (intOf i).toNat)
  case atStart => exact ⟨0, by omega, rfl, OwnR.empty w (Nat.le_refl _), (Below.refl _ _).alloc (Nat.le_refl _) _⟩
  case round =>
    obtain ⟨k, hk, rfl, hown, hbel⟩ := hrel
    have hsz := hbel.size
    by_cases hlt : k < n
    · obtain ⟨b, o, x, A', c', rfl, hb, hx, hc, hrd, _⟩ := RdR.at_ hr hlt
      have hc1 := (hbel.cell (p := ⟨b, o + k, none⟩) hb).trans hc
      have hxl := hrow'.out x (List.mem_of_getElem? hx)
      have hrd1 := hrd.below hbel
      have HX := Lib.hid (show rs.take k ++ [x] = rs.take (k + 1) by rw [List.take_add_one, hx]; rfl)
      have hlk : (rs.take k).length = k := by rw [List.length_take, HL.out]; omega
      clear hx hc hrd
      go_wp2_with fail
      refine (copyInts_any A' x.length c' w.heap.size x wr hrd1 hsz hxl).mono ?_
      rintro e w1 ⟨A1, c1, rfl, ho1, hb1⟩
      obtain ⟨xs, hrow1, hblk, hclose⟩ := (hown.out.below hb1 (Nat.le_refl _)).open_
      have hs1 := hb1.size
      have HC := Lib.hid hclose
      have HBK := Lib.hid hblk
      have HO := Lib.hid ho1
      rw [hlk] at hrow1
      clear hclose hblk ho1 hown
      have hrow2 := hrow1.alloc (.cells #[.slice A1 x.length c1] 27)
      have HK := Lib.hid hlk
      clear hlk hrow1
      go_wp2_with (at_builtin; refine wpList_append_lies _ rfl _ _ _ rfl 0 27 i0 _ 1 24 Tryz.underlying24 hi hz0 hz1 hz2 rfl (by omega) _ k _ rfl hrow2 ⟨w1.heap.size, 0, none⟩ 1 1 [.slice A1 x.length c1] rfl rfl (World.news_of_block (cs := #[.slice A1 x.length c1]) (t := 27) (fr := (0, 0)) (heap_alloc_new w1 _)) (by simp [Value.oneCell']) (by omega) (by unfold maxLen; omega) (by omega) (Nat.zero_le _) (w1.heap.size + 1) (by simp) ?_; intro g cap w2 hown2 hgrow hat hlt2)
      have hbel2 : Below w.heap.size w w2 := ((hbel.trans (hb1.mono hsz)).alloc (by omega) (.cells #[.slice A1 x.length c1] 27)).grown hgrow (by simp; omega) (fun j hj => (HBK.out j hj).1)
      have hfin := HC.out (w1.alloc (.cells #[.slice A1 x.length c1] 27)) w2 A1 x c1 wr.heap.size w1.heap.size g cap ((Below.refl _ _).alloc (Nat.le_refl _) _) (HO.out.below ((Below.refl w1.heap.size w1).alloc (Nat.le_refl _) _) (Nat.le_refl _)) (Nat.le_refl _) hsz (by simp) (by simp; omega) (by rw [HK.out]; exact hown2) hgrow (hat.imp (fun h => h) (fun h => by rw [h]; simp))
      rw [HX.out, HK.out] at hfin
      have HF := Lib.hid hfin
      clear hfin hown2 hgrow hat
      refine ⟨⟨k + 1, by omega, by go_num, HF.out, hbel2⟩, ?_⟩
      simp [intOf]
      omega
    · obtain rfl : k = n := by omega
      have hf := hown.out
      rw [List.take_of_length_le (Nat.le_of_eq HL.out)] at hf
      have HF := Lib.hid hf
      clear hown hf
      go_wp2
      go_ret
      exact RowsNew.of HF.out hbel

set_option maxRecDepth 100000 in
set_option maxHeartbeats 400000 in
theorem copyTable_any (nm : ByteArray) (ar : Int) (A : Option Addr) (n c B : Nat) (rs : List (List Int)) (w : World) (hr : RdR w B A n rs) (hB : B ≤ w.heap.size) (hn : n ≤ 5000000000) (hrow : ∀ r ∈ rs, r.length ≤ 17592186044416) :
    Calls Tryz.prog 35 #[.agg #[.string nm, .int .i64 ar, .slice A n c]] w (TabNew nm ar rs w) := by
  have hrow' := Lib.hid hrow
  clear hrow
  have HB := Lib.hid (Below.refl w.heap.size w)
  go_enter Tryz.func35, Tryz.ntmps35
  go_wp2_with fail
  refine (copyRows_any A n c B rs _ (RdR.belowB hr (((Below.refl B w).alloc hB _).alloc (by simp; omega) _) (Nat.le_refl _)) (by simp; omega) hn hrow'.out).mono ?_
  rintro e w1 ⟨A1, c1, rfl, ho, hb⟩
  have hs := hb.size
  simp at hs
  obtain ⟨hc, hf⟩ := bcells hb
  have e0 : w1.cell? ⟨w.heap.size, 0, none⟩ = some (.string nm) := (hb.cell (p := ⟨w.heap.size, 0, none⟩) (by simp; omega)).trans (by simp [go_sem])
  have e1 : w1.cell? ⟨w.heap.size, 1, none⟩ = some (.int .i64 ar) := (hb.cell (p := ⟨w.heap.size, 1, none⟩) (by simp; omega)).trans (by simp [go_sem])
  have e2 : w1.cell? ⟨w.heap.size, 2, none⟩ = some (.slice A n c) := (hb.cell (p := ⟨w.heap.size, 2, none⟩) (by simp; omega)).trans (by simp [go_sem])
  have hbel := Lib.hid ((((HB.out).alloc (Nat.le_refl _) _).alloc (by simp) _).trans (hb.mono (by simp; omega)))
  have HO := Lib.hid ho
  clear hb ho
  go_wp2_with fail
  refine bodyPost_ret (v := .agg #[.string nm, .int .i64 ar, .slice A1 rs.length c1]) (by simp [results, Tryz.results35, go_sem, *]) rfl (TabNew.of ?_ ?_)
  · have h2 : OwnR w1 (w.heap.size + 2) w1.heap.size (.slice A1 rs.length c1) rs := by simpa using HO.out
    refine OwnR.down (lo := w.heap.size + 2) (OwnR.wide (hi := w1.heap.size) ?_ (by simp)) (by omega)
    repeat refine OwnR.setLow ?_ (by omega)
    exact h2
  · repeat first | exact hbel.out | (refine Below.setCell ?_ ?_ _; rotate_left; (simp; try omega))

end

section
open Go.RowKit Go.Deep

set_option maxRecDepth 100000 in
set_option maxHeartbeats 2000000 in
theorem spec_IsValidTable_any (nm : ByteArray) (ar : Int) (A : Option Addr) (n c B : Nat) (rs : List (List Int)) (w : World) (hr : RdR w B A n rs) (hB : B ≤ w.heap.size) (hn : n ≤ 9223372036854775806) :
    Calls Tryz.prog 12 #[.agg #[.string nm, .int .i64 ar, .slice A n c]] w fun e w' => e = .returned (.bool (validT nm ar rs)) ∧ Below w.heap.size w w' := by
  have HL := Lib.hid hr.1
  have HB := Lib.hid (Below.refl w.heap.size w)
  cases h1 : nameB nm with
  | false =>
    have hf : Hid (validT nm ar rs = false) := by show _ = _; rw [validT, h1]; rfl
    have K1 := Lib.hid (l4Name_is h1)
    clear h1
    go_enter Tryz.func12, Tryz.ntmps12
    go_wp2_with fail
    refine (K1.out _).mono ?_
    rintro e w' ⟨rfl, rfl⟩
    go_wp2_with fail
    go_ret
    exact ⟨by rw [hf.out] <;> rfl, (HB.out).alloc (Nat.le_refl _) _⟩
  | true =>
    have K1 := Lib.hid (l4Name_is h1)
    cases h2 : inB ar 1 3 with
    | false =>
      have hf : Hid (validT nm ar rs = false) := by show _ = _; rw [validT, h1, h2]; rfl
      have K2 := Lib.hid (l1In_is h2)
      clear h1 h2
      go_enter Tryz.func12, Tryz.ntmps12
      go_wp2_with fail
      refine (K1.out _).mono ?_
      rintro e w' ⟨rfl, rfl⟩
      go_wp2_with fail
      refine (K2.out _).mono ?_
      rintro e w' ⟨rfl, rfl⟩
      go_wp2_with fail
      go_ret
      exact ⟨by rw [hf.out] <;> rfl, (HB.out).alloc (Nat.le_refl _) _⟩
    | true =>
      have K2 := Lib.hid (l1In_is h2)
      by_cases h3 : n ≤ 8
      · have hf : Hid (validT nm ar rs = (rs.all (fun r => rowB r ar) && ascB rs)) := by show _ = _; rw [validT, h1, h2, HL.out]; simp [h3]
        clear h1 h2
        go_enter Tryz.func12, Tryz.ntmps12
        go_wp2_with fail
        refine (K1.out _).mono ?_
        rintro e w' ⟨rfl, rfl⟩
        go_wp2_with fail
        refine (K2.out _).mono ?_
        rintro e w' ⟨rfl, rfl⟩
        go_wp2_with fail
        generalize hW : w.alloc (.cells #[.string nm, .int .i64 ar, .slice A n c] 26) = W
        have hWb : Hid (Below w.heap.size w W) := by rw [← hW]; exact (HB.out).alloc (Nat.le_refl _) _
        have w1 : W.cell? ⟨w.heap.size, 1, none⟩ = some (.int .i64 ar) := by rw [← hW]; simp [go_sem]
        have w2 : W.cell? ⟨w.heap.size, 2, none⟩ = some (.slice A n c) := by rw [← hW]; simp [go_sem]
        have hr1 : RdR W W.heap.size A n rs := by rw [← hW]; exact (RdR.belowB hr ((Below.refl B w).alloc hB _) (Nat.le_refl _)).more (by simp; omega)
        clear hW hr
        go_loopw [3] (fun i wr => ∃ k : Nat, k ≤ n ∧ i = .int .i64 k ∧ Hid ((rs.take k).all (fun r => rowB r ar) = true ∧ AscTo rs k) ∧ Qt W wr) (fun i _ => n - (intOf i).toNat)
        case atStart => exact ⟨0, by omega, rfl, ⟨by show (rs.take 0).all _ = true; simp, AscTo.one _ _ (by omega)⟩, Qt.refl _⟩
        case round =>
          obtain ⟨k, hk, rfl, hp, hbel⟩ := hrel
          have c1 := (hbel.cell (p := ⟨w.heap.size, 1, none⟩)).trans w1
          have c2 := (hbel.cell (p := ⟨w.heap.size, 2, none⟩)).trans w2
          by_cases hlt : k < n
          · obtain ⟨b, o, x, A1, cc1, rfl, _, hx, hc, hrd, hm⟩ := RdR.at_ hr1 hlt
            have hm' : x.length ≤ 9223372036854775807 := by unfold maxLen at hm; omega
            have hc1 := (hbel.cell (p := ⟨b, o + k, none⟩)).trans hc
            have g1 : (0 : Int) ≤ (k : Int) := by omega
            have g2 : (k : Int) < (n : Int) := by omega
            have g3 : (k : Int).toNat = k := by omega
            have KR := Lib.hid (fun q => l4Row_any A1 x.length cc1 x ar (wr.drewN q) (hbel.rdI hrd) hm')
            cases hin : rowB x ar with
            | false =>
              have hf2 : Hid ((rs.all (fun r => rowB r ar) && ascB rs) = false) := by show _ = _; rw [all_no (p := fun r => rowB r ar) hx hin]; rfl
              rw [hin] at KR
              clear hx hc hrd hm hin
              go_wp2_with fail
              go_quiet ((go_at_call 40; exact Calls.quiet_of_same ((KR.out _).mono fun _ _ h => ⟨h.1, h.2.symm⟩)))
              clear g3
              go_wp2_with fail
              go_ret
              exact ⟨by rw [hf.out, hf2.out] <;> rfl, hWb.out.trans ((hbel.drewN _).below _)⟩
            | true =>
              have hp1 := Lib.hid (all_take_step (p := fun r => rowB r ar) hx hin hp.out.1)
              rw [hin] at KR
              rcases Nat.eq_zero_or_pos k with hk0 | hk0
              · subst hk0
                have hp2 : Hid ((rs.take 1).all (fun r => rowB r ar) = true ∧ AscTo rs 1) := ⟨hp1.out, AscTo.one _ _ (by omega)⟩
                rw [Nat.add_zero] at hc1
                have g2' : (0 : Int) < (n : Int) := by omega
                clear hx hc hrd hm hin hp1 g1 g2 g3
                go_wp2_with fail
                go_quiet ((go_at_call 40; exact Calls.quiet_of_same ((KR.out _).mono fun _ _ h => ⟨h.1, h.2.symm⟩)))
                go_wp2_with fail
                refine ⟨⟨1, by omega, by go_num, hp2, hbel.drewN _⟩, ?_⟩
                simp [intOf]
                omega
              · obtain ⟨j, rfl⟩ : ∃ j, k = j + 1 := ⟨k - 1, by omega⟩
                obtain ⟨b', o', x', A2, cc2, hbb, _, hx', hc', hrd', hm2⟩ := RdR.at_ hr1 (show j < n by omega)
                injection hbb with hbb
                injection hbb with hb1 hb2
                subst hb1 hb2
                have hc2 := (hbel.cell (p := ⟨b, o + j, none⟩)).trans hc'
                have KE := Lib.hid (fun q => spec_CompareRows_q A2 A1 x'.length cc2 x.length cc1 x' x (wr.drewN q) (hbel.rdI hrd') (hbel.rdI hrd) (by unfold maxLen at hm2; omega) hm')
                have g4 : IntKind.i64.wrap ((((j + 1 : Nat) : Int)) - 1) = (j : Int) := by rw [IntWalk.i64_in _ (by omega)]; omega
                have g5 : (0 : Int) ≤ (j : Int) := by omega
                have g6 : (j : Int) < (n : Int) := by omega
                have g7 : (j : Int).toNat = j := by omega
                have g8 : decide ((0 : Int) < (((j + 1 : Nat) : Int))) = true := decide_eq_true (by omega)
                by_cases hcmp : cmpL x' x < 0
                · have hp2 : Hid ((rs.take (j + 1 + 1)).all (fun r => rowB r ar) = true ∧ AscTo rs (j + 1 + 1)) := ⟨hp1.out, hp.out.2.step hx' hx hcmp⟩
                  obtain ⟨y, hy⟩ : ∃ y, y = cmpL x' x := ⟨_, rfl⟩
                  rw [← hy] at KE hcmp
                  have hq : decide (0 ≤ y) = false := by simpa using hcmp
                  clear hy hx hx' hc hc' hrd hrd' hm hm2 hin hp1
                  go_wp2_with fail
                  go_quiet (first | (go_at_call 40; exact Calls.quiet_of_same ((KR.out _).mono fun _ _ h => ⟨h.1, h.2.symm⟩)) | (go_at_call 47; exact Calls.quiet_of (KE.out _)))
                  clear g3 g4 g7
                  go_wp2_with fail
                  refine ⟨⟨j + 1 + 1, by omega, by go_num, hp2, hbel.drewN _⟩, ?_⟩
                  simp [intOf]
                  omega
                · have hf2 : Hid ((rs.all (fun r => rowB r ar) && ascB rs) = false) := by show _ = _; rw [ascB_no hx' hx (by omega)]; simp
                  obtain ⟨y, hy⟩ : ∃ y, y = cmpL x' x := ⟨_, rfl⟩
                  rw [← hy] at KE hcmp
                  have hq : decide (0 ≤ y) = true := by simpa using hcmp
                  clear hy hx hx' hc hc' hrd hrd' hm hm2 hin hp1
                  go_wp2_with fail
                  go_quiet (first | (go_at_call 40; exact Calls.quiet_of_same ((KR.out _).mono fun _ _ h => ⟨h.1, h.2.symm⟩)) | (go_at_call 47; exact Calls.quiet_of (KE.out _)))
                  clear g3 g4 g7
                  go_wp2_with fail
                  go_ret
                  exact ⟨by rw [hf.out, hf2.out] <;> rfl, hWb.out.trans ((hbel.drewN _).below _)⟩
          · obtain rfl : k = n := by omega
            have hf2 : Hid ((rs.all (fun r => rowB r ar) && ascB rs) = true) := by
              show _ = _
              have h4 := hp.out.1
              rw [List.take_of_length_le (Nat.le_of_eq HL.out)] at h4
              rw [h4, hp.out.2.done (Nat.le_of_eq HL.out)]
              rfl
            go_wp2_with fail
            go_ret
            exact ⟨by rw [hf.out, hf2.out] <;> rfl, hWb.out.trans (hbel.below _)⟩
      · have hf : Hid (validT nm ar rs = false) := by show _ = _; rw [validT, HL.out]; simp [h3]
        clear h1 h2
        go_enter Tryz.func12, Tryz.ntmps12
        go_wp2_with fail
        refine (K1.out _).mono ?_
        rintro e w' ⟨rfl, rfl⟩
        go_wp2_with fail
        refine (K2.out _).mono ?_
        rintro e w' ⟨rfl, rfl⟩
        go_wp2_with fail
        go_ret
        exact ⟨by rw [hf.out] <;> rfl, (HB.out).alloc (Nat.le_refl _) _⟩

end

section
open Go.RowKit Go.Deep

/-- Where a row stands first; -1. -/
def idxR (rs : List (List Int)) (r : List Int) : Int := match rs.findIdx? (fun x => decide (x = r)) with | some k => k | none => -1

theorem idxR_at {rs : List (List Int)} {r : List Int} {k : Nat} (h : rs[k]? = some r) (hno : ∀ j x, j < k → rs[j]? = some x → ¬ x = r) : idxR rs r = k := by
  obtain ⟨hk, hx⟩ := List.getElem?_eq_some_iff.1 h
  have : rs.findIdx? (fun x => decide (x = r)) = some k := List.findIdx?_eq_some_iff_getElem.2 ⟨hk, by simpa using hx, fun j hj => by simpa using hno j _ hj (List.getElem?_eq_getElem (by omega))⟩
  rw [idxR, this]

theorem idxR_none {rs : List (List Int)} {r : List Int} (hno : ∀ x ∈ rs, ¬ x = r) : idxR rs r = -1 := by
  have : rs.findIdx? (fun x => decide (x = r)) = none := List.findIdx?_eq_none_iff.2 fun x hx => by simpa using hno x hx
  rw [idxR, this]

theorem idxR_iff {rs : List (List Int)} {r : List Int} : 0 ≤ idxR rs r ↔ r ∈ rs := by
  unfold idxR
  split
  · rename_i k hk
    obtain ⟨h1, h2, _⟩ := List.findIdx?_eq_some_iff_getElem.1 hk
    simp at h2
    constructor
    · intro _
      rw [← h2]
      exact List.getElem_mem h1
    · intro _
      omega
  · rename_i hn
    have := List.findIdx?_eq_none_iff.1 hn
    constructor
    · intro h; omega
    · intro h
      have := this r h
      simp at this

theorem idxR_lt {rs : List (List Int)} {r : List Int} {k : Nat} (h : idxR rs r = k) : rs[k]? = some r := by
  unfold idxR at h
  split at h
  · rename_i j hj
    obtain ⟨h1, h2, _⟩ := List.findIdx?_eq_some_iff_getElem.1 hj
    simp at h2
    obtain rfl : j = k := by omega
    rw [List.getElem?_eq_getElem h1, h2]
  · omega

set_option maxRecDepth 100000 in
theorem rowIndex1_q (A A' : Option Addr) (n c n' c' g : Nat) (zs zs' : List Int) (w : World) (hc : w.cell? ⟨g, 0, none⟩ = some (.slice A' n' c')) (hr : RdI w w.heap.size A n zs) (hr' : RdI w w.heap.size A' n' zs') (hn : n ≤ 9223372036854775807) (hn' : n' ≤ 9223372036854775807) :
    Calls Tryz.prog 76 #[.slice A n c, .pointer (some ⟨g, 0, none⟩)] w fun e w' => e = .returned (.bool (decide (zs = zs'))) ∧ Qt w w' := by
  go_enter Tryz.func76, Tryz.ntmps76
  go_wp2_with fail
  refine (slicesEqual_q A A' n c n' c' zs zs' w hr hr' hn hn').mono ?_
  rintro e w' ⟨rfl, hq⟩
  have HQ := Lib.hid hq
  clear hq
  go_wp2_with fail
  go_ret
  exact ⟨rfl, HQ.out⟩

set_option maxRecDepth 100000 in
set_option maxHeartbeats 400000 in
theorem indexFunc_q (A A' : Option Addr) (n c n' c' g : Nat) (rs : List (List Int)) (r : List Int) (w : World) (hcell : w.cell? ⟨g, 0, none⟩ = some (.slice A' n' c')) (hr : RdR w w.heap.size A n rs) (hr' : RdI w w.heap.size A' n' r) (hn : n ≤ 9223372036854775807) (hn' : n' ≤ 9223372036854775807) :
    Calls Tryz.prog 75 #[.slice A n c, .func (.func 76) #[] #[.pointer (some ⟨g, 0, none⟩)]] w fun e w' => e = .returned (.int .i64 (idxR rs r)) ∧ Qt w w' := by
  have HL := Lib.hid hr.1
  go_enter Tryz.func75, Tryz.ntmps75
  go_wp2
  go_loopw [8] (fun i wr => ∃ k : Nat, k ≤ n ∧ i = .int .i64 k ∧ Hid (∀ j x, j < k → rs[j]? = some x → ¬ x = r) ∧ Qt w wr) (fun i _ => n - (intOf i).toNat)
  case atStart => exact ⟨0, by omega, rfl, fun j x h => by omega, Qt.refl _⟩
  case round =>
    obtain ⟨k, hk, rfl, hpre, hbel⟩ := hrel
    by_cases hlt : k < n
    · obtain ⟨b, o, x, A1, c1, rfl, _, hx, hc, hrd, hm⟩ := RdR.at_ hr hlt
      have hc1 := (hbel.cell (p := ⟨b, o + k, none⟩)).trans hc
      have HX := Lib.hid hx
      have KE := Lib.hid (rowIndex1_q A1 A' x.length c1 n' c' g x r wr (hbel.cell.trans hcell) (hbel.rdI hrd) (hbel.rdI hr') (by unfold maxLen at hm; omega) hn')
      clear hx hc hrd
      by_cases he : x = r
      · have hf : Hid (idxR rs r = k) := idxR_at (he ▸ HX.out) hpre.out
        have hd := Lib.hid (decide_eq_true he)
        clear he
        go_wp2_with fail
        refine KE.out.mono ?_
        rintro e w1 ⟨rfl, hq⟩
        rw [hd.out]
        have HQ := Lib.hid (hbel.trans hq)
        clear hq
        go_wp2_with fail
        go_ret
        exact ⟨by rw [hf.out] <;> rfl, HQ.out⟩
      · have hpre' : Hid (∀ j x, j < k + 1 → rs[j]? = some x → ¬ x = r) := fun j y hj hy => by
          rcases Nat.lt_or_ge j k with h | h
          · exact hpre.out j y h hy
          · obtain rfl : j = k := by omega
            rw [HX.out] at hy
            injection hy with hy
            rw [← hy]
            exact he
        have hd := Lib.hid (decide_eq_false he)
        clear he
        go_wp2_with fail
        refine KE.out.mono ?_
        rintro e w1 ⟨rfl, hq⟩
        rw [hd.out]
        have HQ := Lib.hid (hbel.trans hq)
        clear hq
        go_wp2_with fail
        refine ⟨⟨k + 1, by omega, by go_num, hpre', HQ.out⟩, ?_⟩
        simp [intOf]
        omega
    · obtain rfl : k = n := by omega
      have hf : Hid (idxR rs r = -1) := idxR_none fun x hx => by
        obtain ⟨j, hj⟩ := List.mem_iff_getElem?.1 hx
        exact hpre.out j x (by have := (List.getElem?_eq_some_iff.1 hj).1; rw [HL.out] at this; exact this) hj
      go_wp2
      go_ret
      exact ⟨by rw [hf.out] <;> rfl, hbel⟩

set_option maxRecDepth 100000 in
set_option maxHeartbeats 400000 in
theorem rowIndex_any (nm : ByteArray) (ar : Int) (A A' : Option Addr) (n c n' c' B : Nat) (rs : List (List Int)) (r : List Int) (w : World) (hr : RdR w B A n rs) (hr' : RdI w B A' n' r) (hB : B ≤ w.heap.size) (hn : n ≤ 9223372036854775806) (hn' : n' ≤ 9223372036854775806) :
    Calls Tryz.prog 37 #[.agg #[.string nm, .int .i64 ar, .slice A n c], .slice A' n' c'] w fun e w' => e = .returned (.int .i64 (idxR rs r)) ∧ Below w.heap.size w w' := by
  have HB := Lib.hid (Below.refl w.heap.size w)
  have HB2 := Lib.hid (((Below.refl B w).alloc hB (.cells #[.string nm, .int .i64 ar, .slice A n c] 26)).alloc (by simp; omega) (.cells #[.slice A' n' c'] 27))
  go_enter Tryz.func37, Tryz.ntmps37
  go_wp2_with fail
  refine (indexFunc_q A A' n c n' c' (w.heap.size + 1) rs r _ (by simp [go_sem]) ((RdR.belowB hr HB2.out (Nat.le_refl _)).more (by simp; omega)) ((hr'.belowB HB2.out (Nat.le_refl _)).more (by simp; omega)) (by omega) (by omega)).mono ?_
  rintro e w1 ⟨rfl, hq⟩
  have hbel := Lib.hid ((((HB.out).alloc (Nat.le_refl _) _).alloc (by simp) _).trans (hq.below _))
  clear hq
  go_wp2_with fail
  go_ret
  exact ⟨rfl, hbel.out⟩

/-- A valid table holds the row. -/
def contB (nm : ByteArray) (ar : Int) (rs : List (List Int)) (r : List Int) : Bool := validT nm ar rs && decide (r ∈ rs)

set_option maxRecDepth 100000 in
set_option maxHeartbeats 400000 in
theorem impl_ContainsRow_any (nm : ByteArray) (ar : Int) (A A' : Option Addr) (n c n' c' B : Nat) (rs : List (List Int)) (r : List Int) (w : World) (hr : RdR w B A n rs) (hr' : RdI w B A' n' r) (hB : B ≤ w.heap.size) (hn : n ≤ 9223372036854775806) (hn' : n' ≤ 9223372036854775806) :
    Calls Tryz.prog 10 #[.agg #[.string nm, .int .i64 ar, .slice A n c], .slice A' n' c'] w fun e w' => e = .returned (.bool (contB nm ar rs r)) ∧ Below w.heap.size w w' := by
  have HB := Lib.hid ((Below.refl w.heap.size w).alloc (Nat.le_refl _) (.cells #[.string nm, .int .i64 ar, .slice A n c] 26))
  have HB2 := Lib.hid ((Below.refl B w).alloc hB (.cells #[.string nm, .int .i64 ar, .slice A n c] 26))
  have KV := Lib.hid (impl_IsValidTable_any nm ar A n c B rs (w.alloc (.cells #[.string nm, .int .i64 ar, .slice A n c] 26)) (RdR.belowB hr HB2.out (Nat.le_refl _)) (by simp; omega) hn)
  cases hv : validT nm ar rs with
  | false =>
    have hf : Hid (contB nm ar rs r = false) := by show _ = _; rw [contB, hv]; rfl
    rw [hv] at KV
    clear hv
    go_enter Tryz.func10, Tryz.ntmps10
    go_wp2_with fail
    refine KV.out.mono ?_
    rintro e w1 ⟨rfl, hb⟩
    have hbel := Lib.hid (HB.out.trans (hb.mono (by simp)))
    clear hb
    go_wp2_with fail
    go_ret
    exact ⟨by rw [hf.out] <;> rfl, hbel.out⟩
  | true =>
    have hf : Hid (contB nm ar rs r = decide (0 ≤ idxR rs r)) := by show _ = _; rw [contB, hv, decide_eq_decide.2 idxR_iff]; rfl
    rw [hv] at KV
    clear hv
    go_enter Tryz.func10, Tryz.ntmps10
    go_wp2_with fail
    refine KV.out.mono ?_
    rintro e w1 ⟨rfl, hb⟩
    have hs := hb.size
    simp at hs
    obtain ⟨hc, hfz⟩ := bcells hb
    have hbel := Lib.hid (HB.out.trans (hb.mono (by simp)))
    have hrd := Lib.hid (RdR.belowB (RdR.belowB hr HB2.out (Nat.le_refl _)) hb (by simp; omega))
    have hrd' := Lib.hid ((hr'.belowB HB2.out (Nat.le_refl _)).belowB hb (by simp; omega))
    clear hb
    go_wp2_with fail
    refine (rowIndex_any nm ar A A' n c n' c' B rs r w1 hrd.out hrd'.out (by omega) hn hn').mono ?_
    rintro e w2 ⟨rfl, hb2⟩
    have hbel2 := Lib.hid (hbel.out.trans (hb2.mono (by omega)))
    clear hb2 hc hfz
    generalize idxR rs r = y at hf
    go_wp2_with fail
    go_ret
    exact ⟨by rw [hf.out] <;> rfl, hbel2.out⟩

end

section
open Go.RowKit Go.Deep

/-- The cells L (block, place, value) are known in W; all that lay in w lies. -/
structure Kn (w : World) (L : List (Nat × Nat × Value)) (W : World) : Prop where
  bel : Below w.heap.size w W
  cell : ∀ t ∈ L, t.1 < W.heap.size ∧ W.cell? ⟨t.1, t.2.1, none⟩ = some t.2.2
  frz : ∀ t ∈ L, W.frozen? ⟨t.1, t.2.1, none⟩ = false

theorem Kn.start (w : World) : Kn w [] w := ⟨Below.refl _ _, by simp, by simp⟩

theorem Kn.next {w W W' : World} {L : List (Nat × Nat × Value)} (h : Kn w L W) (b : Below W.heap.size W W') : Kn w L W' :=
  ⟨h.bel.trans (b.mono h.bel.size), fun t ht => ⟨Nat.lt_of_lt_of_le (h.cell t ht).1 b.size, (b.cell (p := ⟨t.1, t.2.1, none⟩) (h.cell t ht).1).trans (h.cell t ht).2⟩, fun t ht => (b.frozen (p := ⟨t.1, t.2.1, none⟩) (h.cell t ht).1).trans (h.frz t ht)⟩

theorem Kn.drew {w W : World} {L : List (Nat × Nat × Value)} (h : Kn w L W) : Kn w L W.drew := h.next (Below.refl _ _).drew

theorem Kn.qt {w W W' : World} {L : List (Nat × Nat × Value)} (h : Kn w L W) (q : Qt W W') : Kn w L W' := h.next (q.below _)

theorem Kn.chg {w W W' : World} {L : List (Nat × Nat × Value)} {lo hi : Nat} (h : Kn w L W) (c : Chg lo hi W W') (hlo : w.heap.size ≤ lo) (hd : ∀ t ∈ L, t.1 < lo ∨ hi ≤ t.1) : Kn w L W' :=
  ⟨h.bel.trans (c.below hlo h.bel.size), fun t ht => ⟨Nat.lt_of_lt_of_le (h.cell t ht).1 c.size, (World.cell?_of_block (c.block t.1 (h.cell t ht).1 (hd t ht))).trans (h.cell t ht).2⟩, fun t ht => (World.frozen?_of_block (c.block t.1 (h.cell t ht).1 (hd t ht))).trans (h.frz t ht)⟩

/-- A new block, its first cells known. -/
theorem Kn.box {w W : World} {L : List (Nat × Nat × Value)} (h : Kn w L W) (cs : List Value) (t : TypeId) : Kn w (L ++ cs.zipIdx.map fun x => (W.heap.size, x.2, x.1)) (W.alloc (.cells cs.toArray t)) := by
  have h1 := h.next ((Below.refl _ _).alloc (Nat.le_refl _) (.cells cs.toArray t))
  refine ⟨h1.bel, fun x hx => ?_, fun x hx => ?_⟩
  · rcases List.mem_append.1 hx with hx | hx
    · exact h1.cell x hx
    · obtain ⟨y, hy, rfl⟩ := List.mem_map.1 hx
      refine ⟨by simp, ?_⟩
      have hy' := List.mem_zipIdx' hy
      rw [cell_of_row (W.alloc (.cells cs.toArray t)) W.heap.size y.2 cs.toArray t (0, 0) (heap_alloc_new W _)]
      simp [hy'.1, hy'.2]
  · rcases List.mem_append.1 hx with hx | hx
    · exact h1.frz x hx
    · obtain ⟨y, hy, rfl⟩ := List.mem_map.1 hx
      have hn := heap_alloc_new W (.cells cs.toArray t)
      unfold World.frozen?
      rw [hn]
      simp

theorem Kn.box3 {w W : World} {L : List (Nat × Nat × Value)} (h : Kn w L W) (x y z : Value) (t : TypeId) : Kn w (L ++ [(W.heap.size, 0, x), (W.heap.size, 1, y), (W.heap.size, 2, z)]) (W.alloc (.cells #[x, y, z] t)) := h.box [x, y, z] t

theorem Kn.box1 {w W : World} {L : List (Nat × Nat × Value)} (h : Kn w L W) (x : Value) (t : TypeId) : Kn w (L ++ [(W.heap.size, 0, x)]) (W.alloc (.cells #[x] t)) := h.box [x] t

/-- The cells, one by one. -/
@[reducible] def KAll (W : World) : List (Nat × Nat × Value) → Prop → Prop
  | [], P => P
  | t :: L, P => W.cell? ⟨t.1, t.2.1, none⟩ = some t.2.2 ∧ KAll W L P

theorem kall_of {W : World} {P : Prop} (hP : P) : ∀ {L : List (Nat × Nat × Value)}, (∀ t ∈ L, W.cell? ⟨t.1, t.2.1, none⟩ = some t.2.2) → KAll W L P
  | [], _ => hP
  | _ :: _, h => ⟨h _ (by simp), kall_of hP fun s hs => h s (by simp [hs])⟩

theorem Kn.all {w W : World} {L : List (Nat × Nat × Value)} (h : Kn w L W) : KAll W L True := kall_of trivial fun t ht => (h.cell t ht).2

theorem Kn.allAnd {w W : World} {L : List (Nat × Nat × Value)} {P : Prop} (h : Kn w L W) (hP : P) : KAll W L P := kall_of hP fun t ht => (h.cell t ht).2

/-- The marks, one by one. -/
@[reducible] def FAll (W : World) : List (Nat × Nat × Value) → Prop
  | [] => True
  | t :: L => W.frozen? ⟨t.1, t.2.1, none⟩ = false ∧ FAll W L

theorem fall_of {W : World} : ∀ {L : List (Nat × Nat × Value)}, (∀ t ∈ L, W.frozen? ⟨t.1, t.2.1, none⟩ = false) → FAll W L
  | [], _ => trivial
  | _ :: _, h => ⟨h _ (by simp), fall_of fun s hs => h s (by simp [hs])⟩

theorem Kn.fall {w W : World} {L : List (Nat × Nat × Value)} (h : Kn w L W) : FAll W L := fall_of h.frz

/-- Less is known. -/
theorem Kn.sub {w W : World} {L L' : List (Nat × Nat × Value)} (h : Kn w L W) (hs : ∀ t ∈ L', t ∈ L) : Kn w L' W := ⟨h.bel, fun t ht => h.cell t (hs t ht), fun t ht => h.frz t (hs t ht)⟩

theorem rdR_next {W w1 : World} {A : Option Addr} {n : Nat} {rs : List (List Int)} (b : Below W.heap.size W w1) (h : RdR W W.heap.size A n rs) : RdR w1 w1.heap.size A n rs := (RdR.belowB h b (Nat.le_refl _)).more b.size

theorem rdR_drew {W : World} {A : Option Addr} {n : Nat} {rs : List (List Int)} (h : RdR W W.heap.size A n rs) : RdR W.drew W.drew.heap.size A n rs := h

theorem Kn.allB {w wj W : World} {L : List (Nat × Nat × Value)} (h : Kn w L wj) (b : Below wj.heap.size wj W) : KAll W L (Below wj.heap.size wj W) := (h.next b).allAnd b

theorem bel_step {wj W w1 : World} (h : Below wj.heap.size wj W) (b1 : Below W.heap.size W w1) : Below wj.heap.size wj w1 := h.trans (b1.mono h.size)

theorem Kn.step {w W w1 : World} {L : List (Nat × Nat × Value)} (b : Below W.heap.size W w1) (h : Kn w L W) : Kn w L w1 := h.next b

end

section
open Go.RowKit Go.Deep

set_option maxRecDepth 100000 in
set_option maxHeartbeats 1000000 in
theorem spec_ContainsRow_any (nm : ByteArray) (ar : Int) (A A' : Option Addr) (n c n' c' B : Nat) (rs : List (List Int)) (r : List Int) (w : World) (hr : RdR w B A n rs) (hr' : RdI w B A' n' r) (hB : B ≤ w.heap.size) (hn : n ≤ 9223372036854775806) (hn' : n' ≤ 9223372036854775806) :
    Calls Tryz.prog 41 #[.agg #[.string nm, .int .i64 ar, .slice A n c], .slice A' n' c'] w fun e w' => e = .returned (.bool (contB nm ar rs r)) ∧ Below w.heap.size w w' := by
  have HL := Lib.hid hr.1
  have kn0 : Kn w [(w.heap.size, 0, .string nm), (w.heap.size, 1, .int .i64 ar), (w.heap.size, 2, .slice A n c)] (w.alloc (.cells #[.string nm, .int .i64 ar, .slice A n c] 26)) := by simpa using (Kn.start w).box3 (.string nm) (.int .i64 ar) (.slice A n c) 26
  have KV := Lib.hid (fun W (kn : Kn w [(w.heap.size, 0, .string nm), (w.heap.size, 1, .int .i64 ar), (w.heap.size, 2, .slice A n c)] W) => spec_IsValidTable_any nm ar A n c B rs W (RdR.belowB hr kn.bel hB) (Nat.le_trans hB kn.bel.size) hn)
  cases hv : validT nm ar rs with
  | false =>
    have hf : Hid (contB nm ar rs r = false) := by show _ = _; rw [contB, hv]; rfl
    rw [hv] at KV
    clear hv
    go_enter Tryz.func41, Tryz.ntmps41
    go_wp2_with fail
    generalize w.alloc (.cells #[.string nm, .int .i64 ar, .slice A n c] 26) = W at kn0 ⊢
    go_loopw [5] (fun i wr => i = .int .i64 0 ∧ wr = W) (fun i _ => 0)
    case atStart => exact ⟨rfl, rfl⟩
    case round =>
      obtain ⟨rfl, rfl⟩ := hrel
      obtain ⟨d0, d1, d2, _⟩ := kn0.all
      by_cases h0 : 0 < n
      · have h0' : (0 : Int) < (n : Int) := by omega
        go_wp2_with fail
        refine (KV.out _ kn0).mono ?_
        rintro e w1 ⟨rfl, hb⟩
        have hbel := Lib.hid (kn0.next hb).bel
        clear hb
        go_wp2_with fail
        go_ret
        exact ⟨by rw [hf.out] <;> rfl, hbel.out⟩
      · obtain rfl : n = 0 := by omega
        have hbel := kn0.bel
        go_wp2_with fail
        go_ret
        exact ⟨by rw [hf.out] <;> rfl, hbel⟩
  | true =>
    have hf : Hid (contB nm ar rs r = decide (r ∈ rs)) := by show _ = _; rw [contB, hv]; rfl
    rw [hv] at KV
    clear hv
    go_enter Tryz.func41, Tryz.ntmps41
    go_wp2_with fail
    generalize w.alloc (.cells #[.string nm, .int .i64 ar, .slice A n c] 26) = W at kn0 ⊢
    go_loopw [5] (fun i wr => ∃ k : Nat, k ≤ n ∧ i = .int .i64 k ∧ Hid (∀ j x, j < k → rs[j]? = some x → ¬ x = r) ∧ Kn w [(w.heap.size, 0, .string nm), (w.heap.size, 1, .int .i64 ar), (w.heap.size, 2, .slice A n c)] wr) (fun i _ => n - (intOf i).toNat)
    case atStart => exact ⟨0, by omega, rfl, fun j x h => by omega, kn0⟩
    case round =>
      obtain ⟨k, hk, rfl, hpre, kn⟩ := hrel
      clear kn0
      obtain ⟨d0, d1, d2, _⟩ := kn.all
      by_cases hlt : k < n
      · go_wp2_with fail
        refine (KV.out _ kn).mono ?_
        rintro e w1 ⟨rfl, hb⟩
        have kn1 := kn.next hb
        clear kn hb d0 d1 d2
        obtain ⟨d0, d1, d2, _⟩ := kn1.all
        have hbel := kn1.bel
        obtain ⟨b, o, x, A1, c1, rfl, hb0, hx, hc, hrd, hm⟩ := RdR.at_ (RdR.belowB hr hbel hB) hlt
        have HX := Lib.hid hx
        have hs := hbel.size
        have KE := Lib.hid (spec_CompareRows_q A1 A' x.length c1 n' c' x r w1 (hrd.more (by omega)) ((hr'.belowB hbel hB).more (by omega)) (by unfold maxLen at hm; omega) (by omega))
        clear hx hrd hbel
        by_cases he : x = r
        · have hfin : Hid (decide (r ∈ rs) = true) := by
            show _ = _
            rw [decide_eq_true_eq, ← he]
            exact List.mem_of_getElem? HX.out
          have hcz := Lib.hid (cmpL_zero.2 he)
          clear he
          go_wp2_with fail
          refine KE.out.mono ?_
          rintro e w2 ⟨rfl, hq⟩
          rw [hcz.out]
          have HQ := Lib.hid (kn1.next (hq.below _)).bel
          clear hq
          go_wp2_with fail
          go_ret
          exact ⟨by rw [hf.out, hfin.out] <;> rfl, HQ.out⟩
        · have hpre' : Hid (∀ j x, j < k + 1 → rs[j]? = some x → ¬ x = r) := fun j y hj hy => by
            rcases Nat.lt_or_ge j k with h | h
            · exact hpre.out j y h hy
            · obtain rfl : j = k := by omega
              rw [HX.out] at hy
              injection hy with hy
              rw [← hy]
              exact he
          obtain ⟨y, hy⟩ : ∃ y, y = cmpL x r := ⟨_, rfl⟩
          have hy0 : (y == 0) = false := by rw [hy]; simpa using mt cmpL_zero.1 he
          rw [← hy] at KE
          clear hy he
          go_wp2_with fail
          refine KE.out.mono ?_
          rintro e w2 ⟨rfl, hq⟩
          have HQ := Lib.hid (kn1.next (hq.below _))
          clear hq
          go_wp2_with fail
          refine ⟨⟨k + 1, by omega, by go_num, hpre', HQ.out⟩, ?_⟩
          simp [intOf]
          omega
      · obtain rfl : k = n := by omega
        have hfin : Hid (decide (r ∈ rs) = false) := by
          show _ = _
          rw [decide_eq_false_iff_not]
          intro hmem
          obtain ⟨j, hj⟩ := List.mem_iff_getElem?.1 hmem
          exact hpre.out j r (by have := (List.getElem?_eq_some_iff.1 hj).1; rw [HL.out] at this; exact this) hj rfl
        have hbel := kn.bel
        go_wp2_with fail
        go_ret
        exact ⟨by rw [hf.out, hfin.out] <;> rfl, hbel⟩

end

section
open Go.RowKit Go.Deep

theorem OwnR.setOff {w : World} {lo hi b i : Nat} {v x : Value} {rs : List (List Int)} (h : OwnR w lo hi v rs) (hb : b < lo ∨ hi ≤ b) : OwnR (w.setCell ⟨b, i, none⟩ x) lo hi v rs := by
  obtain ⟨F, h1, h2⟩ := h
  exact ⟨F, h1.chgF eRow_ok (chgF_setCell w b i x) fun k hk e => by have := h2 k hk; omega, h2⟩

/-- A table and a bool. -/
structure TabR where
  nm : ByteArray
  ar : Int
  rs : List (List Int)
  ok : Bool

/-- A new table and a bool, behind a name. -/
def TabBool (R : TabR) (w : World) (e : Ending) (w' : World) : Prop :=
  ∃ (A : Option Addr) (c : Nat), e = .returned (.tuple #[.agg #[.string R.nm, .int .i64 R.ar, .slice A R.rs.length c], .bool R.ok]) ∧ OwnR w' w.heap.size w'.heap.size (.slice A R.rs.length c) R.rs ∧ Below w.heap.size w w'

theorem TabBool.of {R : TabR} {nm : ByteArray} {ar : Int} {rs : List (List Int)} {b : Bool} {w w' : World} {A : Option Addr} {n c : Nat} (hR : R = ⟨nm, ar, rs, b⟩) (h : OwnR w' w.heap.size w'.heap.size (.slice A n c) rs) (hb : Below w.heap.size w w') :
    TabBool R w (.returned (.tuple #[.agg #[.string nm, .int .i64 ar, .slice A n c], .bool b])) w' := by
  subst hR
  have hn := h.len_eq
  subst hn
  exact ⟨A, c, rfl, h, hb⟩

/-- TabBool, its parts apart. -/
def TabAns (nm : ByteArray) (ar : Int) (rs : List (List Int)) (ok : Bool) (w : World) (e : Ending) (w' : World) : Prop :=
  ∃ (A : Option Addr) (c : Nat), e = .returned (.tuple #[.agg #[.string nm, .int .i64 ar, .slice A rs.length c], .bool ok]) ∧ OwnR w' w.heap.size w'.heap.size (.slice A rs.length c) rs ∧ Below w.heap.size w w'

end

section
open Go.RowKit Go.Deep

/-- What DeleteRow answers. -/
def delR (nm : ByteArray) (ar : Int) (rs : List (List Int)) (r : List Int) : TabR := if contB nm ar rs r = true then ⟨nm, ar, rs.filter fun x => decide (¬ x = r), true⟩ else ⟨nm, ar, rs, false⟩

set_option maxRecDepth 100000 in
set_option maxHeartbeats 2000000 in
theorem impl_DeleteRow_any (nm : ByteArray) (ar : Int) (A A' : Option Addr) (n c n' c' B : Nat) (rs : List (List Int)) (r : List Int) (w : World) (hr : RdR w B A n rs) (hr' : RdI w B A' n' r) (hB : B ≤ w.heap.size) (hn : n ≤ 5000000000) (hn' : n' ≤ 9223372036854775806) (hrow : ∀ r ∈ rs, r.length ≤ 17592186044416) :
    Calls Tryz.prog 9 #[.agg #[.string nm, .int .i64 ar, .slice A n c], .slice A' n' c'] w (TabBool (delR nm ar rs r) w) := by
  have HL := Lib.hid hr.1
  have hrow' := Lib.hid hrow
  clear hrow
  have kn0 : Kn w [(w.heap.size, 0, .string nm), (w.heap.size, 1, .int .i64 ar), (w.heap.size, 2, .slice A n c), (w.heap.size + 1, 0, .string { data := #[] }), (w.heap.size + 1, 1, .int .i64 0), (w.heap.size + 1, 2, .slice none 0 0)]
      ((w.alloc (.cells #[.string nm, .int .i64 ar, .slice A n c] 26)).alloc (.cells #[.string { data := #[] }, .int .i64 0, .slice none 0 0] 26)) := by
    simpa using ((Kn.start w).box3 (.string nm) (.int .i64 ar) (.slice A n c) 26).box3 (.string { data := #[] }) (.int .i64 0) (.slice none 0 0) 26
  go_enter Tryz.func9, Tryz.ntmps9
  go_wp2_with fail
  have s0 : w.heap.size + 2 ≤ ((w.alloc (.cells #[.string nm, .int .i64 ar, .slice A n c] 26)).alloc (.cells #[.string { data := #[] }, .int .i64 0, .slice none 0 0] 26)).heap.size := by simp
  generalize (w.alloc (.cells #[.string nm, .int .i64 ar, .slice A n c] 26)).alloc (.cells #[.string { data := #[] }, .int .i64 0, .slice none 0 0] 26) = w0 at kn0 s0 ⊢
  with_reducible refine (copyTable_any nm ar A n c B rs w0 (RdR.belowB hr kn0.bel hB) (Nat.le_trans hB kn0.bel.size) hn hrow'.out).mono ?_
  rintro e w1 ⟨Ao, co, rfl, oo, b1⟩
  have s1 := b1.size
  have kn1 := kn0.next b1
  clear kn0 b1
  obtain ⟨d0, d1, d2, d3, d4, d5, _⟩ := kn1.all
  have ne0 : w.heap.size < w1.heap.size := by omega
  have ne1 : w.heap.size + 1 < w1.heap.size := by omega
  go_wp2_with fail
  clear ne0 ne1
  have kn2 : Kn w [(w.heap.size, 0, .string nm), (w.heap.size, 1, .int .i64 ar), (w.heap.size, 2, .slice A n c), (w.heap.size + 1, 0, .string { data := #[] }), (w.heap.size + 1, 1, .int .i64 0), (w.heap.size + 1, 2, .slice none 0 0), (w1.heap.size, 0, .string nm), (w1.heap.size, 1, .int .i64 ar), (w1.heap.size, 2, .slice Ao rs.length co)]
      (w1.alloc (.cells #[.string nm, .int .i64 ar, .slice Ao rs.length co] 26)) := kn1.box3 (.string nm) (.int .i64 ar) (.slice Ao rs.length co) 26
  have s2 : w1.heap.size + 1 ≤ (w1.alloc (.cells #[.string nm, .int .i64 ar, .slice Ao rs.length co] 26)).heap.size := by simp
  have oo2 := oo.below ((Below.refl _ _).alloc (Nat.le_refl _) (.cells #[.string nm, .int .i64 ar, .slice Ao rs.length co] 26)) (Nat.le_refl _)
  clear oo kn1 d0 d1 d2 d3 d4 d5
  generalize w1.alloc (.cells #[.string nm, .int .i64 ar, .slice Ao rs.length co] 26) = w2 at kn2 s2 oo2 ⊢
  have KC := Lib.hid (impl_ContainsRow_any nm ar A A' n c n' c' B rs r w2 (RdR.belowB hr kn2.bel hB) (hr'.belowB kn2.bel hB) (Nat.le_trans hB kn2.bel.size) (by omega) hn')
  obtain ⟨d0, d1, d2, d3, d4, d5, d6, d7, d8, _⟩ := kn2.all
  cases hcont : contB nm ar rs r with
  | false =>
    have hf : Hid (delR nm ar rs r = ⟨nm, ar, rs, false⟩) := by show _ = _; rw [delR, if_neg (by simp [hcont])]
    rw [hcont] at KC
    clear hcont
    refine KC.out.mono ?_
    rintro e w3 ⟨rfl, b3⟩
    have s3 := b3.size
    have oo3 := oo2.below b3 (by omega)
    have kn3 := kn2.next b3
    clear kn2 b3 oo2 d0 d1 d2 d3 d4 d5 d6 d7 d8
    obtain ⟨d0, d1, d2, d3, d4, d5, d6, d7, d8, _⟩ := kn3.all
    obtain ⟨f0, f1, f2, f3, f4, f5, f6, f7, f8, _⟩ := kn3.fall
    have hbel := Lib.hid kn3.bel
    have HO := Lib.hid oo3
    have nn : ¬ w1.heap.size = w.heap.size + 1 := by omega
    clear kn3 oo3
    go_wp2_with fail
    refine bodyPost_ret (v := .tuple #[.agg #[.string nm, .int .i64 ar, .slice Ao rs.length co], .bool false]) (by simp [results, Tryz.results9, go_sem, *]) rfl (TabBool.of hf.out ?_ ?_)
    · refine OwnR.down (lo := w0.heap.size) (OwnR.wide (hi := w1.heap.size) ?_ (by simp; omega)) (by omega)
      repeat refine OwnR.setLow ?_ (by omega)
      exact HO.out
    · repeat first | exact hbel.out | (refine Below.setCell ?_ ?_ _; rotate_left; (simp; try omega))
  | true =>
    have hmem : r ∈ rs := of_decide_eq_true (Bool.and_eq_true _ _ ▸ hcont).2
    have hasc : AscP rs := validT_asc (Bool.and_eq_true _ _ ▸ hcont).1
    obtain ⟨k, hk⟩ := Int.eq_ofNat_of_zero_le (idxR_iff.2 hmem)
    have hkr := idxR_lt hk
    have hkn : k < n := by have := (List.getElem?_eq_some_iff.1 hkr).1; rw [HL.out] at this; exact this
    have HE := Lib.hid (eraseIdx_filter hasc hkr)
    have hf : Hid (delR nm ar rs r = ⟨nm, ar, rs.filter fun x => decide (¬ x = r), true⟩) := by show _ = _; rw [delR, if_pos hcont]
    have KX : Hid (∀ W, Below w.heap.size w W → Calls Tryz.prog 37 #[.agg #[.string nm, .int .i64 ar, .slice A n c], .slice A' n' c'] W fun e w' => e = .returned (.int .i64 (k : Int)) ∧ Below W.heap.size W w') := fun W b =>
      (rowIndex_any nm ar A A' n c n' c' B rs r W (RdR.belowB hr b hB) (hr'.belowB b hB) (Nat.le_trans hB b.size) (by omega) hn').mono fun _ _ ⟨he, hb⟩ => ⟨by rw [he, hk], hb⟩
    rw [hcont] at KC
    have g1 : IntKind.i64.wrap ((k : Int) + 1) = (k : Int) + 1 := IntWalk.i64_in _ (by omega)
    clear hcont hmem hasc hk hkr
    refine KC.out.mono ?_
    rintro e w3 ⟨rfl, b3⟩
    have s3 := b3.size
    have oo3 := oo2.below b3 (by omega)
    have kn3 := kn2.next b3
    clear kn2 b3 oo2 d0 d1 d2 d3 d4 d5 d6 d7 d8
    obtain ⟨d0, d1, d2, d3, d4, d5, d6, d7, d8, _⟩ := kn3.all
    go_wp2_with fail
    refine (KX.out _ kn3.bel).mono ?_
    rintro e w4 ⟨rfl, b4⟩
    have s4 := b4.size
    have oo4 := oo3.below b4 (by omega)
    have kn4 := kn3.next b4
    clear kn3 b4 oo3 d0 d1 d2 d3 d4 d5 d6 d7 d8
    obtain ⟨d0, d1, d2, d3, d4, d5, d6, d7, d8, _⟩ := kn4.all
    have hnr := HL.out
    subst hnr
    go_wp2_with fail
    refine (deleteRow_own Ao rs.length co w0.heap.size w1.heap.size k rs w4 oo4 hkn).mono ?_
    rintro e w5 ⟨rfl, oo5, c5⟩
    have s5 := c5.size
    have kn5 := kn4.chg c5 (by omega) (by simp only [List.forall_mem_cons]; simp; try omega)
    clear kn4 c5 oo4 d0 d1 d2 d3 d4 d5 d6 d7 d8
    obtain ⟨d0, d1, d2, d3, d4, d5, d6, d7, d8, _⟩ := kn5.all
    obtain ⟨f0, f1, f2, f3, f4, f5, f6, f7, f8, _⟩ := kn5.fall
    have hbel := Lib.hid kn5.bel
    rw [HE.out] at oo5
    have HO := Lib.hid oo5
    have nn : ¬ w1.heap.size = w.heap.size + 1 := by omega
    clear kn5 oo5
    go_wp2_with fail
    refine bodyPost_ret (v := .tuple #[.agg #[.string nm, .int .i64 ar, .slice Ao (rs.length - 1) co], .bool true]) (by simp [results, Tryz.results9, go_sem, *]) rfl (TabBool.of hf.out ?_ ?_)
    · refine OwnR.down (lo := w0.heap.size) (OwnR.wide (hi := w1.heap.size) ?_ (by simp; omega)) (by omega)
      repeat refine OwnR.setOff ?_ (by omega)
      exact HO.out
    · repeat first | exact hbel.out | (refine Below.setCell ?_ ?_ _; rotate_left; (simp; try omega))

end

section
open Go.RowKit Go.Deep Go.Sort Go.Lib

/-- The first of each run of one key. -/
def ddA {β : Type} (key : β → List Int) : β → List β → List β
  | _, [] => []
  | p, x :: l => if key x = key p then ddA key x l else x :: ddA key x l

def dd {β : Type} (key : β → List Int) : List β → List β
  | [] => []
  | x :: l => x :: ddA key x l

section

variable {β : Type} (key : β → List Int)

theorem ddA_snoc (x y : β) : ∀ (l : List β) (p : β), ddA key p (l ++ [x, y]) = ddA key p (l ++ [x]) ++ if key y = key x then [] else [y]
  | [], p => by
    simp only [List.nil_append, ddA]
    by_cases h : key x = key p
    · rw [if_pos h, if_pos h]
      simp
    · rw [if_neg h, if_neg h]
      simp
  | z :: l, p => by
    rw [List.cons_append, List.cons_append, ddA, ddA, ddA_snoc x y l z]
    by_cases h : key z = key p
    · rw [if_pos h, if_pos h]
    · rw [if_neg h, if_neg h, List.cons_append]

theorem dd_snoc (x y : β) : ∀ (l : List β), dd key (l ++ [x, y]) = dd key (l ++ [x]) ++ if key y = key x then [] else [y]
  | [] => by simp [dd, ddA]
  | z :: l => by rw [List.cons_append, List.cons_append, dd, dd, ddA_snoc, List.cons_append]

theorem ddA_sub : ∀ (l : List β) (p : β), (ddA key p l).Sublist l
  | [], _ => .slnil
  | x :: l, p => by
    rw [ddA]
    by_cases h : key x = key p
    · rw [if_pos h]
      exact (ddA_sub l x).cons x
    · rw [if_neg h]
      exact (ddA_sub l x).cons_cons x

theorem dd_sub : ∀ (l : List β), (dd key l).Sublist l
  | [] => .slnil
  | x :: l => (ddA_sub key l x).cons_cons x

theorem ddA_asc : ∀ (l : List β) (p : β), (p :: l).Pairwise (fun a b => ¬ cmpL (key b) (key a) < 0) → (∀ y ∈ ddA key p l, cmpL (key p) (key y) < 0) ∧ (ddA key p l).Pairwise (fun a b => cmpL (key a) (key b) < 0)
  | [], _, _ => ⟨by simp [ddA], .nil⟩
  | x :: l, p, h => by
    obtain ⟨h1, h2⟩ := List.pairwise_cons.1 h
    obtain ⟨i1, i2⟩ := ddA_asc l x h2
    rw [ddA]
    by_cases e : key x = key p
    · rw [if_pos e, ← e]
      exact ⟨i1, i2⟩
    · rw [if_neg e]
      have hlt : cmpL (key p) (key x) < 0 := by
        have := h1 x (by simp)
        rw [cmpL_swap] at this
        rcases Int.lt_or_eq_of_le (show cmpL (key p) (key x) ≤ 0 by omega) with h | h
        · exact h
        · exact absurd (cmpL_eq h).symm e
      refine ⟨fun y hy => ?_, List.pairwise_cons.2 ⟨i1, i2⟩⟩
      rcases List.mem_cons.1 hy with rfl | hy
      · exact hlt
      · exact cmpL_trans hlt (i1 y hy)

theorem dd_asc : ∀ (l : List β), l.Pairwise (fun a b => ¬ cmpL (key b) (key a) < 0) → (dd key l).Pairwise (fun a b => cmpL (key a) (key b) < 0)
  | [], _ => .nil
  | x :: l, h => by
    obtain ⟨i1, i2⟩ := ddA_asc key l x h
    exact List.pairwise_cons.2 ⟨i1, i2⟩

theorem ddA_mem : ∀ (l : List β) (p x : β), x ∈ l → key x = key p ∨ ∃ y ∈ ddA key p l, key y = key x
  | z :: l, p, x, h => by
    rw [ddA]
    rcases List.mem_cons.1 h with rfl | h
    · by_cases e : key x = key p
      · exact .inl e
      · rw [if_neg e]
        exact .inr ⟨x, by simp, rfl⟩
    · by_cases e : key z = key p
      · rw [if_pos e, ← e]
        exact ddA_mem l z x h
      · rw [if_neg e]
        rcases ddA_mem l z x h with h1 | ⟨y, hy, h1⟩
        · exact .inr ⟨z, by simp, h1.symm⟩
        · exact .inr ⟨y, by simp [hy], h1⟩

theorem dd_mem : ∀ (l : List β) (x : β), x ∈ l → ∃ y ∈ dd key l, key y = key x
  | z :: l, x, h => by
    rcases List.mem_cons.1 h with rfl | h
    · exact ⟨x, by simp [dd], rfl⟩
    · rcases ddA_mem key l z x h with h1 | ⟨y, hy, h1⟩
      · exact ⟨z, by simp [dd], h1.symm⟩
      · exact ⟨y, by simp [dd, hy], h1⟩

theorem dd_take [Inhabited β] (d : Array β) {i : Nat} (h2 : i + 1 < d.size) : dd key (d.toList.take (i + 1 + 1)) = dd key (d.toList.take (i + 1)) ++ if key d[i + 1]! = key d[i]! then [] else [d[i + 1]!] := by
  have e1 : d.toList.take (i + 1) = d.toList.take i ++ [d[i]!] := by
    rw [List.take_add_one, Array.getElem?_toList, Array.getElem?_eq_getElem (by omega), getElem!_pos d i (by omega)]
    rfl
  have e2 : d.toList.take (i + 1 + 1) = d.toList.take i ++ [d[i]!, d[i + 1]!] := by
    rw [List.take_add_one, e1, Array.getElem?_toList, Array.getElem?_eq_getElem h2, getElem!_pos d (i + 1) h2, List.append_assoc]
    rfl
  rw [e1, e2, dd_snoc]

end

/-- What a sort moves: the items ts (and the nil row, which clear lays). -/
def nilT : Item (List Int) := ⟨[.slice none 0 0], fun _ => False, []⟩

abbrev Mv (ts : List (Item (List Int))) := { t : Item (List Int) // t = nilT ∨ t ∈ ts }

instance (ts : List (Item (List Int))) : Inhabited (Mv ts) := ⟨⟨nilT, .inl rfl⟩⟩

def encM {ts : List (Item (List Int))} (x : Mv ts) : Value := hd x.1

def keyM {ts : List (Item (List Int))} (x : Mv ts) : List Int := x.1.a

def cfM {ts : List (Item (List Int))} (x y : Mv ts) : Int := cmpL (keyM x) (keyM y)

def arrM (ts : List (Item (List Int))) : Array (Mv ts) := (ts.attach.map fun t => (⟨t.1, .inr t.2⟩ : Mv ts)).toArray

theorem arrM_size (ts : List (Item (List Int))) : (arrM ts).size = ts.length := by simp [arrM]

theorem arrM_val (ts : List (Item (List Int))) : (arrM ts).toList.map (·.1) = ts := by simp [arrM, List.map_map, Function.comp_def]

theorem arrM_enc (ts : List (Item (List Int))) : (arrM ts).toList.map encM = ts.map hd := by
  have : (arrM ts).toList.map encM = ((arrM ts).toList.map (·.1)).map hd := by rw [List.map_map]; rfl
  rw [this, arrM_val]

section

variable {w W : World} {F : Nat → Prop} {v : Value} {ts : List (Item (List Int))} {g : Nat}

theorem mv_one (hT : OwnT 27 1 ERow w F v ts) : ∀ x : Mv ts, (encM x).oneCell' = true := fun x => by
  obtain ⟨t, rfl | ht⟩ := x
  · rfl
  · obtain ⟨A, c, h, _⟩ := eRow_hd (hT.elem t ht)
    rw [encM, h]
    rfl

theorem mv_rd (hT : OwnT 27 1 ERow w F v ts) (hv : v.ownBlock = some g) (hs : w.heap.size ≤ W.heap.size) (hk : ∀ k, k < w.heap.size → k ≠ g → W.heap[k]? = w.heap[k]?) (x : Mv ts) :
    ∃ A c, encM x = .slice A (keyM x).length c ∧ RdI W W.heap.size A (keyM x).length (keyM x) ∧ (keyM x).length ≤ 9223372036854775807 := by
  obtain ⟨t, rfl | ht⟩ := x
  · exact ⟨none, 0, rfl, (OwnI.nil W 0 W.heap.size).rd rfl, by simp [keyM, nilT]⟩
  · have hb := eRow_ok.bound (hT.elem t ht)
    obtain ⟨A, c, h1, h2, h3⟩ := rRow_of (B := W.heap.size) (eRow_ok.keep (w' := W) (hT.elem t ht) fun k hf => hk k (hb k hf) fun e => (hT.head g hv).2 t ht (e ▸ hf)) fun k hf => Nat.lt_of_lt_of_le (hb k hf) hs
    unfold maxLen at h3
    exact ⟨A, c, by rw [encM, hd, h1]; rfl, h2, h3⟩

end

theorem cfM_swo (ts : List (Item (List Int))) : SWO (ltOf (cfM (ts := ts))) where
  irrefl x := by simp [ltOf, cfM, cmpL_self]
  trans x y z h1 h2 := by
    unfold ltOf cfM at *
    exact decide_eq_true (cmpL_trans (of_decide_eq_true h1) (of_decide_eq_true h2))
  ntrans x y z h1 h2 := by
    unfold ltOf cfM at *
    replace h1 := of_decide_eq_false h1
    replace h2 := of_decide_eq_false h2
    refine decide_eq_false fun h => ?_
    have h3 : cmpL (keyM y) (keyM x) ≤ 0 := by rw [cmpL_swap]; omega
    rcases Int.lt_or_eq_of_le h3 with h4 | h4
    · exact h2 (cmpL_trans h4 h)
    · exact h2 (by rw [cmpL_eq h4]; exact h)

theorem sortWorld_other {α : Type} [Inhabited α] (enc : α → Value) (w : World) (g m : Nat) (d : Array α) (os : Array Obj) {k : Nat} (h1 : k < w.heap.size) (h2 : k ≠ g) : (sortWorld enc w g 0 m d os).heap[k]? = w.heap[k]? := by
  unfold sortWorld
  rw [heap_grow_old _ _ (by simp [putRow, mapBlock]; omega)]
  exact putRow_other enc w d h2

theorem sortWorld_size {α : Type} [Inhabited α] (enc : α → Value) (w : World) (g m : Nat) (d : Array α) (os : Array Obj) : w.heap.size ≤ (sortWorld enc w g 0 m d os).heap.size := by
  unfold sortWorld
  simp [putRow, mapBlock, grow]

theorem sortWorld_chg {α : Type} [Inhabited α] (enc : α → Value) (w : World) (g m lo hi : Nat) (d : Array α) (os : Array Obj) (h1 : lo ≤ g) (h2 : g < hi) : Chg lo hi w (sortWorld enc w g 0 m d os) :=
  ⟨rfl, rfl, rfl, sortWorld_size enc w g m d os, fun k hk hn => sortWorld_other enc w g m d os hk (by omega)⟩

/-- Items moved about by putRow and new blocks. -/
theorem ownT_put {w : World} {F : Nat → Prop} {g n c q m : Nat} {ts : List (Item (List Int))} (hT : OwnT 27 1 ERow w F (.slice (some ⟨g, 0, none⟩) n c) ts) (hn : ts.length = n) (d : Array (Mv ts)) (hd1 : d.size = n) (hm : m ≤ n) (os : Array Obj)
    (hsub : ∀ t ∈ (d.toList.take m).map (·.1), t ∈ ts) (hp : ((d.toList.take m).map (·.1)).Pairwise fun s t => ∀ k, s.F k → ¬ t.F k) :
    OwnT 27 1 ERow (sortWorld encM w g 0 q d os) F (.slice (some ⟨g, 0, none⟩) m c) ((d.toList.take m).map (·.1)) := by
  have hrow := hT.row
  rw [flat_hd hT.len, hn] at hrow
  have hgl := (hrow.lt g rfl).2
  refine OwnT.reorder eRow_ok hT hsub hp ?_ (fun g' hg' => hg') (sortWorld_size _ _ _ _ _ _) (fun k hk hne => sortWorld_other _ _ _ _ _ _ hk fun e => hne (by rw [e]; rfl))
  have hl : ((d.toList.take m).map (·.1)).length = m := by simp; omega
  rw [hl, flat_hd fun t ht => hT.len t (hsub t ht), List.map_map]
  have h1 := ownsRow_put encM (q := q) hrow d hd1 hm
  have h2 : (d.toList.map encM).take m = (d.toList.take m).map (hd ∘ fun x => x.1) := by rw [← List.map_take]; rfl
  rw [h2] at h1
  refine ownsRow_keep (ownsRow_base h1 fun _ _ => Nat.zero_le _) fun g' hg' => ?_
  unfold sortWorld
  rw [heap_grow_old _ _ ?_]
  simp [Value.ownBlock] at hg'
  subst hg'
  simp [putRow, mapBlock]
  exact hgl

set_option maxRecDepth 100000 in
theorem sortRows_own (A : Option Addr) (n c lo hi : Nat) (rs : List (List Int)) (w : World) (ho : OwnR w lo hi (.slice A n c) rs) (hn62 : n < 4611686018427387904) :
    Calls Tryz.prog 78 #[.slice A n c, .func (.func 79) #[] #[]] w fun e w' => e = .returned (.tuple #[]) ∧ ∃ rs', OwnR w' lo hi (.slice A n c) rs' ∧ rs'.Perm rs ∧ rs'.Pairwise (fun a b => ¬ cmpL b a < 0) ∧ Chg lo hi w w' := by
  have hlen := ho.len_eq
  by_cases h0 : n = 0
  · subst h0
    obtain rfl := List.length_eq_zero_iff.1 hlen
    refine (Tryz.slices_SortFunc_none (α := Nat) A c (.func (.func 79) #[] #[]) w).mono ?_
    rintro e w' ⟨rfl, rfl⟩
    exact ⟨rfl, [], ho, .refl _, .nil, ⟨rfl, rfl, rfl, Nat.le_refl _, fun _ _ _ => rfl⟩⟩
  obtain ⟨F, ⟨ts, rfl, hT⟩, hF⟩ := ho
  rw [List.length_map] at hlen
  have hrow := hT.row
  rw [flat_hd hT.len, hlen] at hrow
  obtain ⟨g, c', hv, _, hglt, _, _⟩ := ownsRow_cell hrow (i := 0) (by omega)
  injection hv with hA _ hcc
  subst hA hcc
  have hcap : n ≤ c ∧ c ≤ maxLen := by
    rcases hrow.2 with ⟨hv, _⟩ | ⟨g', cap, cur, hv, _, _, hnc, hcm, _⟩
    · cases hv
    · injection hv with _ _ h3
      subst h3
      exact ⟨hnc, hcm⟩
  have hsz : (arrM ts).size = n := by rw [arrM_size, hlen]
  have hg := hF g (hT.head g rfl).1
  have eg : ∀ args w, (callFunc 79 args).run Tryz.prog w = .ok (.enter 79 args) w := enters_of Tryz.func79 (by kernel_rfl) rfl
  have hcmp : CmpReads Tryz.prog 79 #[] (encM (ts := ts)) cfM g 0 (arrM ts).size w := fun m os dk hs x y => by
    obtain ⟨A1, c1, e1, r1, m1⟩ := mv_rd (W := sortWorld encM w g 0 m dk os) hT rfl (sortWorld_size _ _ _ _ _ _) (fun k hk hne => sortWorld_other _ _ _ _ _ _ hk hne) x
    obtain ⟨A2, c2, e2, r2, m2⟩ := mv_rd (W := sortWorld encM w g 0 m dk os) hT rfl (sortWorld_size _ _ _ _ _ _) (fun k hk hne => sortWorld_other _ _ _ _ _ _ hk hne) y
    rw [Array.append_empty, e1, e2]
    exact (impl_CompareRows_any A1 A2 _ c1 _ c2 _ _ _ r1 r2 m1 m2).mono fun _ _ ⟨he, hw⟩ => ⟨he, 0, hw.symm⟩
  have hcon := Tryz.slices_SortFunc (encM (ts := ts)) (mv_one hT) cfM (cfM_swo ts) 79 #[] g 0 c (arrM ts) w eg hcmp.lays (holds_row hrow hlen encM _ (arrM_enc ts)) hglt (by rw [hsz]; exact hn62)
  rw [hsz] at hcon
  refine hcon.mono ?_
  rintro e w' ⟨rfl, d', q, os, hp, hso, rfl⟩
  have hd1 : d'.size = n := by rw [hp.1, hsz]
  have hperm : d'.toList.Perm (arrM ts).toList := by
    have := hp.2.2
    rwa [show (arrM ts).extract 0 n = arrM ts by rw [← hsz]; simp, show d'.extract 0 n = d' by rw [← hd1]; simp] at this
  have hpt : (d'.toList.map (·.1)).Perm ts := by have := hperm.map (fun x : Mv ts => x.1); rwa [arrM_val] at this
  have htk : d'.toList.take n = d'.toList := List.take_of_length_le (by simp [hd1])
  have hmain := ownT_put (q := q) (m := n) hT hlen d' hd1 (Nat.le_refl _) os (by rw [htk]; exact fun t ht => hpt.mem_iff.1 ht) (by rw [htk]; exact (List.Perm.pairwise_iff (fun {x y} h k hy hx => h k hx hy) hpt).2 hT.apart)
  rw [htk] at hmain
  refine ⟨rfl, (d'.toList.map (·.1)).map (·.a), ⟨F, ⟨_, rfl, hmain⟩, hF⟩, hpt.map _, ?_, sortWorld_chg _ _ _ _ _ _ _ _ hg.1 hg.2⟩
  rw [List.pairwise_iff_getElem]
  intro i j hi hj hij
  simp at hi hj
  have := hso i j (Nat.zero_le _) hij (by omega)
  unfold ltOf cfM at this
  replace this := of_decide_eq_false this
  rw [getElem!_pos d' j hj, getElem!_pos d' i hi] at this
  simpa [keyM] using this

end

section
open Go.RowKit Go.Deep Go.Sort Go.Lib

theorem sorted1_q (A A' : Option Addr) (n c n' c' : Nat) (zs zs' : List Int) (w : World) (hr : RdI w w.heap.size A n zs) (hr' : RdI w w.heap.size A' n' zs') (hn : n ≤ 9223372036854775807) (hn' : n' ≤ 9223372036854775807) :
    Calls Tryz.prog 81 #[.slice A n c, .slice A' n' c'] w fun e w' => e = .returned (.bool (decide (zs = zs'))) ∧ Qt w w' := by
  go_enter Tryz.func81, Tryz.ntmps81
  go_wp2_with fail
  refine (slicesEqual_q A A' n c n' c' zs zs' w hr hr' hn hn').mono ?_
  rintro e w' ⟨rfl, hq⟩
  have HQ := Lib.hid hq
  clear hq
  go_wp2_with fail
  go_ret
  exact ⟨rfl, HQ.out⟩

theorem take_set_succ {α : Type} (d : Array α) (k : Nat) (x : α) (h : k < d.size) : (d.setIfInBounds k x).toList.take (k + 1) = d.toList.take k ++ [x] := by
  rw [Array.toList_setIfInBounds, List.set_eq_take_append_cons_drop, if_pos (by simpa using h)]
  have hl : (d.toList.take k).length = k := by simp; omega
  rw [List.take_append, hl, List.take_of_length_le (by omega), Nat.add_sub_cancel_left]
  rfl

/-- j places have been looked at; what is kept of them, k items, lies at the head; behind place k - 1 all is as it was. -/
structure CI {ts : List (Item (List Int))} (d : Array (Mv ts)) (j k : Nat) (dk : Array (Mv ts)) : Prop where
  size : dk.size = d.size
  lt : k < j
  low : dk.toList.take k = dd keyM (d.toList.take j)
  high : ∀ i, k ≤ i → dk[i]! = d[i]!

section

variable {ts : List (Item (List Int))} {d dk : Array (Mv ts)} {j k : Nat}

theorem CI.start (h : dd keyM (d.toList.take (j + 1)) = d.toList.take (j + 1)) (h2 : j + 1 < d.size) (he : keyM d[j + 1]! = keyM d[j]!) : CI d (j + 1 + 1) (j + 1) d :=
  ⟨rfl, by omega, by rw [dd_take keyM d h2, if_pos he, h, List.append_nil], fun _ _ => rfl⟩

theorem CI.skip (h : CI d (j + 1) k dk) (h2 : j + 1 < d.size) (he : keyM d[j + 1]! = keyM d[j]!) : CI d (j + 1 + 1) k dk :=
  ⟨h.size, by have := h.lt; omega, by rw [dd_take keyM d h2, if_pos he, h.low, List.append_nil], h.high⟩

theorem CI.keep (h : CI d (j + 1) k dk) (h2 : j + 1 < d.size) (he : ¬ keyM d[j + 1]! = keyM d[j]!) : CI d (j + 1 + 1) (k + 1) (dk.setIfInBounds k d[j + 1]!) :=
  ⟨by simp [h.size], by have := h.lt; omega, by rw [take_set_succ _ _ _ (by have := h.lt; have := h.size; omega), dd_take keyM d h2, if_neg he, h.low], fun i hi => by
    rw [getElem!_set_other dk k i _ (by omega), h.high i (by omega)]⟩

end

set_option maxRecDepth 100000 in
set_option maxHeartbeats 1000000 in
theorem compact_any {F : Nat → Prop} {ts : List (Item (List Int))} (g n c : Nat) (d : Array (Mv ts)) (w : World) (hT : OwnT 27 1 ERow w F (.slice (some ⟨g, 0, none⟩) n c) ts) (hcap : n ≤ c) (hmax : c ≤ 9223372036854775807) (hd : d.size = n) (hH : Holds encM w g 0 d) :
    Calls Tryz.prog 80 #[.slice (some ⟨g, 0, none⟩) n c, .func (.func 81) #[] #[]] w fun e w' =>
      ∃ (m q : Nat) (dk : Array (Mv ts)), e = .returned (.slice (some ⟨g, 0, none⟩) m c) ∧ w' = putRow encM (Sort.ahead w q) g 0 dk ∧ dk.size = n ∧ m ≤ n ∧ dk.toList.take m = dd keyM d.toList := by
  have HD := Lib.hid hd
  have same : Hid (∀ w', Qt w w' → dd keyM d.toList = d.toList → ∃ (m q : Nat) (dk : Array (Mv ts)), Ending.returned (.slice (some ⟨g, 0, none⟩) n c) = .returned (.slice (some ⟨g, 0, none⟩) m c) ∧ w' = putRow encM (Sort.ahead w q) g 0 dk ∧ dk.size = n ∧ m ≤ n ∧ dk.toList.take m = dd keyM d.toList) := fun w' ⟨q, hq⟩ hall =>
    ⟨n, q, d, rfl, hq.trans (putRow_self encM (Sort.ahead w q) g 0 d (holds_ahead encM w q g 0 d hH)).symm, hd, Nat.le_refl _, by rw [hall]; exact List.take_of_length_le (by simp [hd])⟩
  clear hd
  by_cases h2 : n < 2
  · have hall : Hid (dd keyM d.toList = d.toList) := by
      show _ = _
      have hl : d.toList.length < 2 := by simpa [HD.out] using h2
      match h : d.toList with
      | [] => rfl
      | [x] => rfl
      | x :: y :: l => rw [h] at hl; simp at hl; omega
    clear hH
    go_enter Tryz.func80, Tryz.ntmps80
    go_wp2_with fail
    go_ret
    exact same.out w (Qt.refl _) hall.out
  have KS : Hid (∀ (W : World) (x y : Mv ts), w.heap.size ≤ W.heap.size → (∀ k, k < w.heap.size → k ≠ g → W.heap[k]? = w.heap[k]?) → Calls Tryz.prog 81 #[encM x, encM y] W fun e w' => e = .returned (.bool (decide (keyM x = keyM y))) ∧ Qt W w') := fun W x y hs hk => by
    obtain ⟨A1, c1, e1, r1, m1⟩ := mv_rd (W := W) hT rfl hs hk x
    obtain ⟨A2, c2, e2, r2, m2⟩ := mv_rd (W := W) hT rfl hs hk y
    rw [e1, e2]
    exact sorted1_q A1 A2 _ c1 _ c2 _ _ W r1 r2 m1 m2
  have KF : Hid (∀ x : Mv ts, ∃ A c, encM x = .slice A (keyM x).length c) := fun x => by
    obtain ⟨A1, c1, e1, _⟩ := mv_rd (W := w) hT rfl (Nat.le_refl _) (fun _ _ _ => rfl) x
    exact ⟨A1, c1, e1⟩
  have HH := Lib.hid hH
  have HC : Hid (∀ j, j < n → w.cell? ⟨g, j, none⟩ = some (encM d[j]!) ∧ w.frozen? ⟨g, j, none⟩ = false) := fun j hj => by have := HH.out j (by rw [HD.out]; exact hj); rwa [Nat.zero_add] at this
  clear hH
  go_enter Tryz.func80, Tryz.ntmps80
  go_wp2_with fail
  go_loopw [5] (fun i wr => ∃ k : Nat, k + 1 ≤ n ∧ i = .int .i64 (((k + 1 : Nat) : Int)) ∧ Hid (dd keyM (d.toList.take (k + 1)) = d.toList.take (k + 1)) ∧ Qt w wr) (fun i _ => n - (intOf i).toNat)
  case atStart =>
    refine ⟨0, by omega, by go_num, ?_, Qt.refl _⟩
    show _ = _
    match h : d.toList with
    | [] => rfl
    | x :: l => rfl
  case round =>
    obtain ⟨k, hk, rfl, hall, hqt⟩ := hrel
    by_cases hlt : k + 1 < n
    · have hc1 := (hqt.cell (p := ⟨g, k + 1, none⟩)).trans (HC.out (k + 1) hlt).1
      have hc0 := (hqt.cell (p := ⟨g, k, none⟩)).trans (HC.out k (by omega)).1
      have KE := fun q => KS.out (wr.drewN q) d[k + 1]! d[k]! (by show _ ≤ wr.heap.size; rw [hqt.heap]; exact Nat.le_refl _) (fun j _ _ => by show wr.heap[j]? = _; rw [hqt.heap])
      obtain ⟨A1, l1, e1⟩ := KF.out d[k + 1]!
      obtain ⟨A0, l0, e0⟩ := KF.out d[k]!
      rw [e1] at hc1
      rw [e0] at hc0
      rw [e1, e0] at KE
      generalize (keyM d[k + 1]!).length = n1 at hc1 KE
      generalize (keyM d[k]!).length = n0 at hc0 KE
      clear e1 e0
      have g0 : IntKind.i64.wrap ((((k + 1 : Nat) : Int)) - 1) = (k : Int) := by rw [IntWalk.i64_in _ (by omega)]; omega
      have g1 : (0 : Int) ≤ (k : Int) := by omega
      have g2 : (k : Int) < (n : Int) := by omega
      have g3 : (k : Int).toNat = k := by omega
      have g4 : (0 : Int) ≤ (((k + 1 : Nat) : Int)) := by omega
      have g5 : (((k + 1 : Nat) : Int)) < (n : Int) := by omega
      have g6 : (((k + 1 : Nat) : Int)).toNat = k + 1 := by omega
      by_cases hdup : keyM d[k + 1]! = keyM d[k]!
      · have HE := Lib.hid hdup
        have KE' : Hid (∀ q, Calls Tryz.prog 81 #[.slice A1 n1 l1, .slice A0 n0 l0] (wr.drewN q) fun e w' => e = .returned (.bool true) ∧ Qt (wr.drewN q) w') := fun q => by have := KE q; rwa [decide_eq_true hdup] at this
        clear KE hdup
        go_wp2_with fail
        go_quiet ((go_at_call 81; exact Calls.quiet_of (KE'.out _)))
        clear g0 g3 g6
        go_wp2_with fail
        go_loopw [5, 7] (fun s5 s7 wr => ∃ (kk k2 : Nat) (dk : Array (Mv ts)), s5 = .int .i64 (kk : Int) ∧ s7 = .int .i64 (((k2 + 1 : Nat) : Int)) ∧ k + 1 + (k2 + 1) ≤ n ∧ Hid (∃ q, wr = putRow encM (Sort.ahead w q) g 0 dk) ∧ Hid (CI d (k + 1 + (k2 + 1)) kk dk)) (fun _ s7 _ => n - (intOf s7).toNat)
        case atStart =>
          refine ⟨k + 1, 0, d, by go_num, by go_num, by omega, ?_, CI.start hall.out (by rw [HD.out]; omega) HE.out⟩
          obtain ⟨q, hq⟩ := hqt.drewN nq
          exact ⟨q, hq.trans (putRow_self encM (Sort.ahead w q) g 0 d (holds_ahead encM w q g 0 d HH.out)).symm⟩
        case round =>
          clear hc1 hc0 KE' g1 g2 g4 g5
          obtain ⟨kk, k2, dk, rfl, rfl, hle, hw, hI⟩ := hrel
          have hkk := hI.out.lt
          have hds := hI.out.size
          rw [HD.out] at hds
          have HS := Lib.hid hds
          have hHk : ∀ j, j < n → wr.cell? ⟨g, j, none⟩ = some (encM dk[j]!) ∧ wr.frozen? ⟨g, j, none⟩ = false := fun j hj => by
            obtain ⟨q, hq⟩ := hw.out
            have := holds_putRow encM (Sort.ahead w q) g 0 d dk (holds_ahead encM w q g 0 d HH.out) hI.out.size j (by rw [HS.out]; exact hj)
            rw [← hq] at this
            rwa [Nat.zero_add] at this
          by_cases hlt2 : k + 1 + (k2 + 1) < n
          · have hc1 := (hHk (k + 1 + (k2 + 1)) hlt2).1
            have hc0 := (hHk (k + 1 + k2) (by omega)).1
            have hcs := hHk kk (by omega)
            have hcs0 := hcs.1
            have hcs1 := hcs.2
            rw [hI.out.high _ (by omega)] at hc1 hc0
            have KE := fun q => KS.out (wr.drewN q) d[k + 1 + (k2 + 1)]! d[k + 1 + k2]! (by obtain ⟨q', hq'⟩ := hw.out; rw [hq']; simp [putRow, mapBlock, Sort.ahead, World.drewN]) (fun j _ hne => by obtain ⟨q', hq'⟩ := hw.out; show wr.heap[j]? = _; rw [hq']; exact putRow_other encM w dk hne)
            obtain ⟨A1, l1, e1⟩ := KF.out d[k + 1 + (k2 + 1)]!
            obtain ⟨A0, l0, e0⟩ := KF.out d[k + 1 + k2]!
            have E1 := Lib.hid e1
            rw [e1] at hc1
            rw [e0] at hc0
            rw [e1, e0] at KE
            generalize (keyM d[k + 1 + (k2 + 1)]!).length = n1 at hc1 KE E1
            generalize (keyM d[k + 1 + k2]!).length = n0 at hc0 KE
            generalize encM dk[kk]! = old at hcs0
            clear e1 e0 hcs hHk hds
            have g0 : IntKind.i64.wrap ((((k2 + 1 : Nat) : Int)) - 1) = (k2 : Int) := by rw [IntWalk.i64_in _ (by omega)]; omega
            have g1 : (0 : Int) ≤ (k2 : Int) := by omega
            have g2 : (k2 : Int) < ((n - (k + 1) : Nat) : Int) := by omega
            have g3 : (k2 : Int).toNat = k2 := by omega
            have g4 : (0 : Int) ≤ (((k2 + 1 : Nat) : Int)) := by omega
            have g5 : (((k2 + 1 : Nat) : Int)) < ((n - (k + 1) : Nat) : Int) := by omega
            have g6 : (((k2 + 1 : Nat) : Int)).toNat = k2 + 1 := by omega
            have g7 : (0 : Int) ≤ (kk : Int) := by omega
            have g8 : (kk : Int) < (n : Int) := by omega
            have g9 : (kk : Int).toNat = kk := by omega
            have HI2 := Lib.hid (show k + 1 + (k2 + 1) < d.size by rw [HD.out]; exact hlt2)
            by_cases hdup2 : keyM d[k + 1 + (k2 + 1)]! = keyM d[k + 1 + k2]!
            · have HE2 := Lib.hid hdup2
              have KE' : Hid (∀ q, Calls Tryz.prog 81 #[.slice A1 n1 l1, .slice A0 n0 l0] (wr.drewN q) fun e w' => e = .returned (.bool true) ∧ Qt (wr.drewN q) w') := fun q => by have := KE q; rwa [decide_eq_true hdup2] at this
              clear KE hdup2
              go_wp2_with fail
              go_quiet ((go_at_call 81; exact Calls.quiet_of (KE'.out _)))
              clear g0 g3 g6 g9
              go_wp2_with fail
              refine ⟨⟨kk, k2 + 1, dk, by go_num, by go_num, by omega, ?_, hI.out.skip HI2.out HE2.out⟩, ?_⟩
              · obtain ⟨q', hq'⟩ := hw.out
                exact ⟨q' + _, by rw [hq', putRow_drewN]⟩
              · simp [intOf]
                omega
            · have HE2 := Lib.hid hdup2
              have KE' : Hid (∀ q, Calls Tryz.prog 81 #[.slice A1 n1 l1, .slice A0 n0 l0] (wr.drewN q) fun e w' => e = .returned (.bool false) ∧ Qt (wr.drewN q) w') := fun q => by have := KE q; rwa [decide_eq_false hdup2] at this
              clear KE hdup2
              go_wp2_with fail
              go_quiet ((go_at_call 81; exact Calls.quiet_of (KE'.out _)))
              clear g0 g3 g6
              go_wp2_with fail
              refine ⟨⟨kk + 1, k2 + 1, dk.setIfInBounds kk d[k + 1 + (k2 + 1)]!, by go_num, by go_num, by omega, ?_, hI.out.keep HI2.out HE2.out⟩, ?_⟩
              · obtain ⟨q', hq'⟩ := hw.out
                refine ⟨q' + nq, ?_⟩
                rw [← E1.out, hq', putRow_drewN]
                have := putRow_set encM (Sort.ahead w (q' + nq)) g 0 dk kk d[k + 1 + (k2 + 1)]! (by rw [HS.out]; omega)
                rwa [Nat.zero_add] at this
              · simp [intOf]
                omega
          · have hend : k + 1 + (k2 + 1) = n := by omega
            have hkn : kk < n := by omega
            have hcl : ∀ ty, (Builtin.clear_ #[24] ty #[.slice (some ⟨g, kk, none⟩) (n - kk) (c - kk)]).run Tryz.prog wr = .ok (.tuple #[]) (wr.setCells g kk (List.replicate (n - kk) (.slice none 0 0))) := fun ty =>
              Lib.run_clear_slice wr _ 27 ty (.slice none 0 0) Tryz.underlying24 (fun w => by kernel_rfl) rfl rfl g kk _ _ (by omega) (fun j hj => by rw [(hHk (kk + j) (by omega)).1]; rfl) (fun j hj => (hHk (kk + j) (by omega)).2)
            have HE := Lib.hid hend
            have g7 : (0 : Int) ≤ (kk : Int) := by omega
            have g8 : (kk : Int) < (n : Int) := by omega
            have hfin : Hid (∃ q, wr.setCells g kk (List.replicate (n - kk) (.slice none 0 0)) = putRow encM (Sort.ahead w q) g 0 (lay dk kk (List.replicate (n - kk) (⟨nilT, .inl rfl⟩ : Mv ts)))) := by
              obtain ⟨q, hq⟩ := hw.out
              refine ⟨q, ?_⟩
              have := putRow_setCells encM (Sort.ahead w q) g 0 (List.replicate (n - kk) (⟨nilT, .inl rfl⟩ : Mv ts)) dk kk (by rw [HS.out]; simp; omega)
              rw [Nat.zero_add, List.map_replicate, ← hq] at this
              exact this
            clear hHk hend hds
            go_wp2_with fail
            go_ret
            obtain ⟨q, hq⟩ := hfin.out
            have hI2 := hI.out
            rw [HE.out] at hI2
            refine ⟨kk, q, _, rfl, hq, ?_, by omega, ?_⟩
            · rw [lay_size, HS.out]
            · have hz : (List.replicate (n - kk) (⟨nilT, .inl rfl⟩ : Mv ts)).length = n - kk := by simp
              have h1 : (lay dk kk (List.replicate (n - kk) (⟨nilT, .inl rfl⟩ : Mv ts))).toList.take kk = dk.toList.take kk := by
                apply List.ext_getElem?
                intro i
                rw [List.getElem?_take, List.getElem?_take]
                split
                · rename_i hi
                  rw [Array.getElem?_toList, Array.getElem?_toList, lay_get? _ _ _ _ (by rw [hz, HS.out]; omega), if_neg (by omega)]
                · rfl
              rw [h1, hI2.low, List.take_of_length_le (by simp [HD.out])]
      · have HE := Lib.hid hdup
        have KE' : Hid (∀ q, Calls Tryz.prog 81 #[.slice A1 n1 l1, .slice A0 n0 l0] (wr.drewN q) fun e w' => e = .returned (.bool false) ∧ Qt (wr.drewN q) w') := fun q => by have := KE q; rwa [decide_eq_false hdup] at this
        clear KE hdup
        go_wp2_with fail
        go_quiet ((go_at_call 81; exact Calls.quiet_of (KE'.out _)))
        clear g0 g3 g6
        go_wp2_with fail
        refine ⟨⟨k + 1, by omega, by go_num, ?_, hqt.drewN _⟩, ?_⟩
        · show _ = _
          rw [dd_take keyM d (by rw [HD.out]; exact hlt), if_neg HE.out, hall.out, List.take_add_one (i := k + 1), Array.getElem?_toList, Array.getElem?_eq_getElem (by rw [HD.out]; exact hlt), getElem!_pos d (k + 1) (by rw [HD.out]; exact hlt)]
          rfl
        · simp [intOf]
          omega
    · obtain rfl : k + 1 = n := by omega
      have hf := hall.out
      rw [List.take_of_length_le (by simp [HD.out])] at hf
      have HF := Lib.hid hf
      clear hf hall
      go_wp2_with fail
      go_ret
      exact same.out _ hqt HF.out

theorem putRow_sort {α : Type} [Inhabited α] (enc : α → Value) (w : World) (g q : Nat) (d : Array α) : putRow enc (Sort.ahead w q) g 0 d = sortWorld enc w g 0 q d #[] := by
  unfold sortWorld
  rw [grow_empty]

set_option maxRecDepth 100000 in
theorem compactRows_own (A : Option Addr) (n c lo hi : Nat) (rs : List (List Int)) (w : World) (ho : OwnR w lo hi (.slice A n c) rs) (hs : rs.Pairwise (fun a b => ¬ cmpL b a < 0)) :
    Calls Tryz.prog 80 #[.slice A n c, .func (.func 81) #[] #[]] w fun e w' => ∃ (m : Nat) (rs' : List (List Int)), e = .returned (.slice A m c) ∧ OwnR w' lo hi (.slice A m c) rs' ∧ AscP rs' ∧ (∀ x, x ∈ rs' ↔ x ∈ rs) ∧ Chg lo hi w w' := by
  have hlen := ho.len_eq
  by_cases h0 : n = 0
  · subst h0
    obtain rfl := List.length_eq_zero_iff.1 hlen
    have HO := Lib.hid ho
    clear ho hs
    go_enter Tryz.func80, Tryz.ntmps80
    go_wp2_with fail
    go_ret
    exact ⟨0, [], rfl, HO.out, .nil, fun _ => Iff.rfl, ⟨rfl, rfl, rfl, Nat.le_refl _, fun _ _ _ => rfl⟩⟩
  obtain ⟨F, ⟨ts, rfl, hT⟩, hF⟩ := ho
  rw [List.length_map] at hlen
  have hrow := hT.row
  rw [flat_hd hT.len, hlen] at hrow
  obtain ⟨g, c', hv, _, hglt, _, _⟩ := ownsRow_cell hrow (i := 0) (by omega)
  injection hv with hA _ hcc
  subst hA hcc
  have hcap : n ≤ c ∧ c ≤ maxLen := by
    rcases hrow.2 with ⟨hv, _⟩ | ⟨g', cap, cur, hv, _, _, hnc, hcm, _⟩
    · cases hv
    · injection hv with _ _ h3
      subst h3
      exact ⟨hnc, hcm⟩
  have hsz : (arrM ts).size = n := by rw [arrM_size, hlen]
  have hg := hF g (hT.head g rfl).1
  refine (compact_any g n c (arrM ts) w hT hcap.1 (by have := hcap.2; unfold maxLen at this; omega) hsz (holds_row hrow hlen encM _ (arrM_enc ts))).mono ?_
  rintro e w' ⟨m, q, dk, rfl, rfl, hd1, hm, hlow⟩
  rw [putRow_sort]
  have hsub : ((dd keyM (arrM ts).toList).map (·.1)).Sublist ts := by have := (dd_sub keyM (arrM ts).toList).map (fun x : Mv ts => x.1); rwa [arrM_val] at this
  have hmain := ownT_put (q := q) hT hlen dk hd1 hm #[] (by rw [hlow]; exact fun t ht => hsub.subset ht) (by rw [hlow]; exact hT.apart.sublist hsub)
  rw [hlow] at hmain
  have hmm : ((dd keyM (arrM ts).toList).map (·.1)).map (·.a) = (dd keyM (arrM ts).toList).map keyM := by rw [List.map_map]; rfl
  have hall : ts.map (·.a) = (arrM ts).toList.map keyM := by
    have : (arrM ts).toList.map keyM = ((arrM ts).toList.map (·.1)).map (·.a) := by rw [List.map_map]; rfl
    rw [this, arrM_val]
  rw [hall] at hs ⊢
  refine ⟨m, (dd keyM (arrM ts).toList).map keyM, rfl, ⟨F, ⟨_, hmm.symm, hmain⟩, hF⟩, List.pairwise_map.2 (dd_asc keyM _ (List.pairwise_map.1 hs)), fun x => ⟨fun hx => ?_, fun hx => ?_⟩, sortWorld_chg _ _ _ _ _ _ _ _ hg.1 hg.2⟩
  · obtain ⟨y, hy, rfl⟩ := List.mem_map.1 hx
    exact List.mem_map.2 ⟨y, (dd_sub keyM _).subset hy, rfl⟩
  · obtain ⟨y, hy, rfl⟩ := List.mem_map.1 hx
    obtain ⟨z, hz, he⟩ := dd_mem keyM _ y hy
    exact List.mem_map.2 ⟨z, hz, he⟩

end

section
open Go.RowKit

theorem cell_set_other {W : World} {b i b' i' : Nat} {x : Value} (h : ¬ (b = b' ∧ i = i')) : (W.setCell ⟨b', i', none⟩ x).cell? ⟨b, i, none⟩ = W.cell? ⟨b, i, none⟩ := World.cell?_setCell_other W _ _ x (fun e => h (by injection e with h1 h2; exact ⟨h1.symm, h2.symm⟩))

theorem cell_set_same {W : World} {b i : Nat} {x y : Value} (h : W.cell? ⟨b, i, none⟩ = some y) : (W.setCell ⟨b, i, none⟩ x).cell? ⟨b, i, none⟩ = some x := by simp [go_sem, h]

theorem frozen_set {W : World} {b i b' i' : Nat} {x : Value} : (W.setCell ⟨b', i', none⟩ x).frozen? ⟨b, i, none⟩ = W.frozen? ⟨b, i, none⟩ := by simp [go_sem]

end

section
open Go.RowKit Go.Deep

theorem own_at {W : World} {g : Nat} {e : TypeId} (h : W.heap[g]? = some (.cells #[] e (0, 0))) : W.ownsRow 0 e 1 (.slice (some ⟨g, 0, none⟩) 0 0) 0 [] := ⟨by simp, .inr ⟨g, 0, #[], rfl, Nat.zero_le _, h, Nat.le_refl _, by unfold maxLen; omega, rfl, by simp⟩⟩

theorem hat_ge {wr : World} {v1 : Value} {H : Nat} (hat : v1.ownBlock = (Value.slice (some ⟨wr.heap.size, 0, none⟩) 0 0).ownBlock ∨ v1.ownBlock = some H) (hH : wr.heap.size ≤ H) : ∀ g, v1.ownBlock = some g → wr.heap.size ≤ g := fun g hg => by
  rcases hat with h | h
  · rw [h] at hg
    simp [Value.ownBlock] at hg
    omega
  · rw [h] at hg
    simp at hg
    omega

/-- Behind the argument's box tb, the result's cell rb and the table's own box xb, all below lo, lie the rows R in the slice v, which xb's third cell holds. -/
structure LInv (w : World) (tb rb xb lo : Nat) (t0 t1 t2 x0 x1 : Value) (R : List (List Int)) (v : Value) (W : World) : Prop where
  own : OwnR W lo W.heap.size v R
  bel : Below w.heap.size w W
  size : lo ≤ W.heap.size
  hw : w.heap.size ≤ xb
  htb : tb < lo
  hrb : rb < lo
  hxb : xb < lo
  ntb : tb ≠ xb
  nrb : rb ≠ xb
  c0 : W.cell? ⟨tb, 0, none⟩ = some t0
  c1 : W.cell? ⟨tb, 1, none⟩ = some t1
  c2 : W.cell? ⟨tb, 2, none⟩ = some t2
  x0 : W.cell? ⟨xb, 0, none⟩ = some x0
  x1 : W.cell? ⟨xb, 1, none⟩ = some x1
  x2 : W.cell? ⟨xb, 2, none⟩ = some v
  fx : W.frozen? ⟨xb, 2, none⟩ = false
  res : ∀ i, i < 3 → (W.cell? ⟨rb, i, none⟩).isSome = true ∧ W.frozen? ⟨rb, i, none⟩ = false

theorem LInv.push {w W w2 : World} {tb rb xb lo : Nat} {t0 t1 t2 x0 x1 v v' : Value} {R R' : List (List Int)} (h : LInv w tb rb xb lo t0 t1 t2 x0 x1 R v W) (hB : Below lo W w2) (ho : OwnR w2 lo w2.heap.size v' R') :
    LInv w tb rb xb lo t0 t1 t2 x0 x1 R' v' (w2.setCell ⟨xb, 2, none⟩ v') := by
  have c := fun b i (hb : b < lo) => hB.cell (p := ⟨b, i, none⟩) hb
  have f := fun b i (hb : b < lo) => hB.frozen (p := ⟨b, i, none⟩) hb
  have hhs : ∀ u : Value, (w2.setCell ⟨xb, 2, none⟩ u).heap.size = w2.heap.size := fun u => by simp [World.setCell]
  have n0 := h.ntb
  have n1 := h.nrb
  refine ⟨by rw [hhs]; exact ho.setLow h.hxb, (h.bel.trans (hB.mono (by have := h.hw; have := h.hxb; omega))).setCell h.hw _, by rw [hhs]; exact Nat.le_trans h.size hB.size, h.hw, h.htb, h.hrb, h.hxb, h.ntb, h.nrb,
    (cell_set_other (by omega)).trans ((c tb 0 h.htb).trans h.c0), (cell_set_other (by omega)).trans ((c tb 1 h.htb).trans h.c1), (cell_set_other (by omega)).trans ((c tb 2 h.htb).trans h.c2),
    (cell_set_other (by omega)).trans ((c xb 0 h.hxb).trans h.x0), (cell_set_other (by omega)).trans ((c xb 1 h.hxb).trans h.x1), cell_set_same ((c xb 2 h.hxb).trans h.x2), frozen_set.trans ((f xb 2 h.hxb).trans h.fx), fun i hi => ⟨?_, frozen_set.trans ((f rb i h.hrb).trans (h.res i hi).2)⟩⟩
  rw [cell_set_other (by omega), c rb i h.hrb]
  exact (h.res i hi).1

theorem LInv.drewN {w W : World} {tb rb xb lo : Nat} {t0 t1 t2 x0 x1 v : Value} {R : List (List Int)} (h : LInv w tb rb xb lo t0 t1 t2 x0 x1 R v W) (q : Nat) : LInv w tb rb xb lo t0 t1 t2 x0 x1 R v (W.drewN q) :=
  ⟨h.own.drewN q, below_drewN h.bel q, h.size, h.hw, h.htb, h.hrb, h.hxb, h.ntb, h.nrb, h.c0, h.c1, h.c2, h.x0, h.x1, h.x2, h.fx, h.res⟩

theorem LInv.drew {w W : World} {tb rb xb lo : Nat} {t0 t1 t2 x0 x1 v : Value} {R : List (List Int)} (h : LInv w tb rb xb lo t0 t1 t2 x0 x1 R v W) : LInv w tb rb xb lo t0 t1 t2 x0 x1 R v W.drew := h.drewN 1

theorem LInv.next {w W W' : World} {tb rb xb lo : Nat} {t0 t1 t2 x0 x1 v : Value} {R : List (List Int)} (h : LInv w tb rb xb lo t0 t1 t2 x0 x1 R v W) (b : Below W.heap.size W W') : LInv w tb rb xb lo t0 t1 t2 x0 x1 R v W' := by
  have c := fun k i (hk : k < lo) => b.cell (p := ⟨k, i, none⟩) (Nat.lt_of_lt_of_le hk h.size)
  have f := fun k i (hk : k < lo) => b.frozen (p := ⟨k, i, none⟩) (Nat.lt_of_lt_of_le hk h.size)
  exact ⟨(h.own.below b (Nat.le_refl _)).wide b.size, h.bel.trans (b.mono h.bel.size), Nat.le_trans h.size b.size, h.hw, h.htb, h.hrb, h.hxb, h.ntb, h.nrb, (c tb 0 h.htb).trans h.c0, (c tb 1 h.htb).trans h.c1, (c tb 2 h.htb).trans h.c2,
    (c xb 0 h.hxb).trans h.x0, (c xb 1 h.hxb).trans h.x1, (c xb 2 h.hxb).trans h.x2, (f xb 2 h.hxb).trans h.fx, fun i hi => ⟨by rw [c rb i h.hrb]; exact (h.res i hi).1, (f rb i h.hrb).trans (h.res i hi).2⟩⟩

/-- The rows R are done; the result's cell takes the table. -/
theorem LInv.fin {w W : World} {tb rb xb lo : Nat} {t0 t1 t2 x0 x1 v : Value} {R : List (List Int)} (h : LInv w tb rb xb lo t0 t1 t2 x0 x1 R v W) (hlo : w.heap.size ≤ lo) (hrb : w.heap.size ≤ rb) (a b c : Value) :
    OwnR (((W.setCell ⟨rb, 0, none⟩ a).setCell ⟨rb, 1, none⟩ b).setCell ⟨rb, 2, none⟩ c) w.heap.size (((W.setCell ⟨rb, 0, none⟩ a).setCell ⟨rb, 1, none⟩ b).setCell ⟨rb, 2, none⟩ c).heap.size v R ∧ Below w.heap.size w (((W.setCell ⟨rb, 0, none⟩ a).setCell ⟨rb, 1, none⟩ b).setCell ⟨rb, 2, none⟩ c) :=
  ⟨by
    have := ((h.own.setLow (i := 0) (x := a) h.hrb).setLow (i := 1) (x := b) h.hrb).setLow (i := 2) (x := c) h.hrb
    exact (this.down hlo).wide (by simp [World.setCell]), ((h.bel.setCell hrb _).setCell hrb _).setCell hrb _⟩

end

section
open Go.RowKit Go.Deep
open Go.RowKit Go.Deep

/-- What spec.l4Put lays behind the rows it has seen ('put': the new row lies already). -/
def putA (r : List Int) : Bool → List (List Int) → List (List Int)
  | put, [] => if put then [] else [r]
  | put, x :: l => if 0 < cmpL x r ∧ put = false then r :: x :: putA r true l else x :: putA r (put || decide (cmpL x r = 0)) l

theorem putA_true (r : List Int) : ∀ l : List (List Int), putA r true l = l
  | [] => rfl
  | x :: l => by rw [putA, if_neg (by simp), Bool.true_or, putA_true r l]

theorem putA_mem (r : List Int) : ∀ (l : List (List Int)) (x : List Int), x ∈ putA r false l ↔ x = r ∨ x ∈ l
  | [], x => by simp [putA]
  | y :: l, x => by
    rw [putA]
    by_cases h : 0 < cmpL y r
    · rw [if_pos ⟨h, rfl⟩, putA_true]
      simp
    · rw [if_neg (by simp [h]), Bool.false_or]
      by_cases e : cmpL y r = 0
      · rw [decide_eq_true e, putA_true, cmpL_eq e]
        simp
      · rw [decide_eq_false e, List.mem_cons, putA_mem r l x, List.mem_cons]
        constructor
        · rintro (h | h | h)
          · exact .inr (.inl h)
          · exact .inl h
          · exact .inr (.inr h)
        · rintro (h | h | h)
          · exact .inr (.inl h)
          · exact .inl h
          · exact .inr (.inr h)

theorem putA_asc (r : List Int) : ∀ (l : List (List Int)), AscP l → AscP (putA r false l)
  | [], _ => by simp [putA]
  | y :: l, h => by
    obtain ⟨h1, h2⟩ := List.pairwise_cons.1 h
    rw [putA]
    by_cases hp : 0 < cmpL y r
    · rw [if_pos ⟨hp, rfl⟩, putA_true]
      have hr : cmpL r y < 0 := by rw [cmpL_swap]; omega
      refine List.pairwise_cons.2 ⟨fun z hz => ?_, h⟩
      rcases List.mem_cons.1 hz with rfl | hz
      · exact hr
      · exact cmpL_trans hr (h1 z hz)
    · rw [if_neg (by simp [hp]), Bool.false_or]
      by_cases e : cmpL y r = 0
      · rw [decide_eq_true e, putA_true]
        exact h
      · rw [decide_eq_false e]
        refine List.pairwise_cons.2 ⟨fun z hz => ?_, putA_asc r l h2⟩
        rcases (putA_mem r l z).1 hz with rfl | hz
        · omega
        · exact h1 z hz

theorem putA_len (r : List Int) : ∀ (l : List (List Int)), l.length ≤ (putA r false l).length ∧ (putA r false l).length ≤ l.length + 1
  | [] => by simp [putA]
  | y :: l => by
    rw [putA]
    by_cases hp : 0 < cmpL y r
    · rw [if_pos ⟨hp, rfl⟩, putA_true]
      simp
    · rw [if_neg (by simp [hp]), Bool.false_or]
      by_cases e : cmpL y r = 0
      · rw [decide_eq_true e, putA_true]
        simp
      · rw [decide_eq_false e]
        have := putA_len r l
        simp only [List.length_cons]
        omega

theorem putA_sum (r : List Int) : ∀ (l : List (List Int)), sumL (putA r false l) ≤ sumL l + r.length
  | [] => by simp [putA, sumL]
  | y :: l => by
    rw [putA]
    by_cases hp : 0 < cmpL y r
    · rw [if_pos ⟨hp, rfl⟩, putA_true]
      simp only [sumL_cons]
      omega
    · rw [if_neg (by simp [hp]), Bool.false_or]
      by_cases e : cmpL y r = 0
      · rw [decide_eq_true e, putA_true]
        simp only [sumL_cons]
        omega
      · rw [decide_eq_false e]
        have := putA_sum r l
        simp only [sumL_cons]
        omega

/-- Rows put one by one. -/
def putAll (acc : List (List Int)) (rs : List (List Int)) : List (List Int) := rs.foldl (fun a r => putA r false a) acc

/-- Rows in order, each once. -/
def sortL (rs : List (List Int)) : List (List Int) := putAll [] rs

theorem putAll_mem : ∀ (rs acc : List (List Int)) (x : List Int), x ∈ putAll acc rs ↔ x ∈ acc ∨ x ∈ rs
  | [], acc, x => by simp [putAll]
  | r :: rs, acc, x => by
    show x ∈ putAll (putA r false acc) rs ↔ _
    rw [putAll_mem rs, putA_mem, List.mem_cons]
    constructor
    · rintro ((h | h) | h)
      · exact .inr (.inl h)
      · exact .inl h
      · exact .inr (.inr h)
    · rintro (h | h | h)
      · exact .inl (.inr h)
      · exact .inl (.inl h)
      · exact .inr h

theorem putAll_asc : ∀ (rs acc : List (List Int)), AscP acc → AscP (putAll acc rs)
  | [], _, h => h
  | r :: rs, acc, h => putAll_asc rs _ (putA_asc r acc h)

theorem putAll_len : ∀ (rs acc : List (List Int)), acc.length ≤ (putAll acc rs).length ∧ (putAll acc rs).length ≤ acc.length + rs.length
  | [], acc => by simp [putAll]
  | r :: rs, acc => by
    have h1 := putAll_len rs (putA r false acc)
    have h2 := putA_len r acc
    show _ ≤ (putAll (putA r false acc) rs).length ∧ (putAll (putA r false acc) rs).length ≤ _
    simp only [List.length_cons]
    omega

theorem putAll_sum : ∀ (rs acc : List (List Int)), sumL (putAll acc rs) ≤ sumL acc + sumL rs
  | [], acc => by simp [putAll, sumL]
  | r :: rs, acc => by
    have h1 := putAll_sum rs (putA r false acc)
    have h2 := putA_sum r acc
    show sumL (putAll (putA r false acc) rs) ≤ _
    rw [sumL_cons]
    omega

theorem putAll_append (acc a b : List (List Int)) : putAll acc (a ++ b) = putAll (putAll acc a) b := List.foldl_append

theorem sortL_asc (rs : List (List Int)) : AscP (sortL rs) := putAll_asc rs [] .nil

theorem sortL_mem (rs : List (List Int)) (x : List Int) : x ∈ sortL rs ↔ x ∈ rs := by rw [sortL, putAll_mem]; simp

theorem sortL_len (rs : List (List Int)) : (sortL rs).length ≤ rs.length := by have := (putAll_len rs []).2; rw [List.length_nil, Nat.zero_add] at this; exact this

theorem sortL_sum (rs : List (List Int)) : sumL (sortL rs) ≤ sumL rs := by have := putAll_sum rs []; rw [sumL_nil, Nat.zero_add] at this; exact this

theorem sortL_take (rs : List (List Int)) (j : Nat) : (sortL (rs.take j)).length ≤ (sortL rs).length := by
  have h := putAll_append [] (rs.take j) (rs.drop j)
  rw [List.take_append_drop] at h
  rw [sortL, sortL, h]
  exact (putAll_len _ _).1

theorem sortL_of {rs rs' : List (List Int)} (h : AscP rs') (hm : ∀ x, x ∈ rs' ↔ x ∈ rs) : rs' = sortL rs := ascP_unique h (sortL_asc rs) fun x => by rw [hm, sortL_mem]

theorem sortL_snoc {rs : List (List Int)} (h : AscP rs) (r : List Int) : sortL (rs ++ [r]) = putA r false rs := (sortL_of (putA_asc r rs h) fun x => by rw [putA_mem, List.mem_append, List.mem_singleton]; exact or_comm).symm

set_option maxRecDepth 100000 in
theorem sorted_any (A : Option Addr) (n c B : Nat) (rs : List (List Int)) (w : World) (hr : RdR w B A n rs) (hB : B ≤ w.heap.size) (hn : n ≤ 5000000000) (hrow : ∀ r ∈ rs, r.length ≤ 17592186044416) :
    Calls Tryz.prog 38 #[.slice A n c] w (RowsNew (sortL rs) w) := by
  have HN := Lib.hid hr.1
  have hrow' := Lib.hid hrow
  clear hrow
  go_enter Tryz.func38, Tryz.ntmps38
  go_wp2_with fail
  refine (copyRows_any A n c B rs w hr hB hn hrow'.out).mono ?_
  rintro e w1 ⟨A1, c1, rfl, o1, b1⟩
  go_wp2_with fail
  refine (sortRows_own A1 rs.length c1 _ _ rs w1 o1 (by rw [HN.out]; omega)).mono ?_
  rintro e w2 ⟨rfl, rs2, o2, p2, s2, k2⟩
  have S2 := Lib.hid s2
  clear s2
  go_wp2_with fail
  refine (compactRows_own A1 rs.length c1 _ _ rs2 w2 o2 (List.Pairwise.imp (fun {_ _} h => by omega) S2.out)).mono ?_
  rintro e w3 ⟨m, rs3, rfl, o3, a3, m3, k3⟩
  have HF : Hid (rs3 = sortL rs) := sortL_of a3 fun x => by rw [m3, p2.mem_iff]
  have hb := Lib.hid ((b1.trans ((k2.below (Nat.le_refl _) b1.size))).trans ((k3.below (Nat.le_refl _) (Nat.le_trans b1.size k2.size))))
  have ho := Lib.hid (o3.wide (Nat.le_trans k2.size k3.size))
  clear o1 b1 o2 p2 k2 o3 a3 m3 k3
  go_wp2_with fail
  go_ret
  refine RowsNew.of ?_ hb.out
  rw [← HF.out]
  exact ho.out

set_option maxRecDepth 100000 in
set_option maxHeartbeats 4000000 in
theorem l4Put_any (A A' : Option Addr) (n c n' c' B : Nat) (rs : List (List Int)) (r : List Int) (w : World) (hr : RdR w B A n rs) (hr' : RdI w B A' n' r) (hB : B ≤ w.heap.size) (hn : n ≤ 5000000000) (hn' : n' ≤ 17592186044416) (hrow : ∀ r ∈ rs, r.length ≤ 17592186044416) :
    Calls Tryz.prog 42 #[.slice A n c, .slice A' n' c'] w (RowsNew (putA r false rs) w) := by
  obtain ⟨i0, hi, hz0, hz1, hz2⟩ := info_parts info_int
  obtain ⟨i1, hi', hz0', hz1', hz2'⟩ := info_parts info_row
  have hl' := hr'.1
  subst hl'
  have HL := Lib.hid hr.1
  have hrow' := Lib.hid hrow
  clear hrow
  go_enter Tryz.func42, Tryz.ntmps42
  go_wp2_with fail
  go_loopw [5, 6, 7, 8] (fun v put i _ wr => ∃ (k : Nat) (pb : Bool) (R : List (List Int)), k ≤ n ∧ i = .int .i64 k ∧ put = .bool pb ∧ Hid (R ++ putA r pb (rs.drop k) = putA r false rs) ∧ R.length ≤ 2 * k + 1 ∧ Hid (OwnR wr w.heap.size wr.heap.size v R) ∧ Hid (Below w.heap.size w wr)) (fun _ _ i _ _ => n - (intOf i).toNat)
  case atStart => exact ⟨0, false, [], by omega, rfl, rfl, rfl, by simp, OwnR.empty w (Nat.le_refl _), (Below.refl _ _).alloc (Nat.le_refl _) _⟩
  case round =>
    obtain ⟨k, pb, R, hk, rfl, rfl, hput, hRk, hown, hbel⟩ := hrel
    have hsz := hbel.out.size
    obtain ⟨m, hm⟩ : ∃ m, R.length = m := ⟨_, rfl⟩
    have mH := Lib.hid hm
    rw [hm] at hRk
    clear hm
    by_cases hlt : k < n
    · obtain ⟨b, o, x, A1, c1, rfl, hb, hx, hc, hrd, _⟩ := RdR.at_ (RdR.more hr hB) hlt
      have hc1 := (hbel.out.cell (p := ⟨b, o + k, none⟩) hb).trans hc
      have hxl := hrow'.out x (List.mem_of_getElem? hx)
      have hrd1 := (hrd.below hbel.out).more (show w.heap.size ≤ wr.heap.size by omega)
      have hrr1 := (hr'.belowB hbel.out hB).more (show B ≤ wr.heap.size by omega)
      have KE := Lib.hid (spec_CompareRows_q A1 A' x.length c1 r.length c' x r wr hrd1 hrr1 (by omega) (by omega))
      have HD := Lib.hid (show rs.drop k = x :: rs.drop (k + 1) from by
        obtain ⟨h1, h2⟩ := List.getElem?_eq_some_iff.1 hx
        rw [List.drop_eq_getElem_cons h1, h2])
      have g1 : (0 : Int) ≤ (k : Int) := by omega
      have g2 : (k : Int) < (n : Int) := by omega
      have g3 : (k : Int).toNat = k := by omega
      have RD := Lib.hid (show ∀ W, Below w.heap.size w W → RdI W W.heap.size A1 x.length x from fun W b => (hrd.below b).more b.size)
      have RR := Lib.hid (show ∀ W, Below w.heap.size w W → RdI W W.heap.size A' r.length r from fun W b => (hr'.belowB b hB).more (Nat.le_trans hB b.size))
      clear hx hc hrd hrd1 hrr1
      obtain ⟨y, hy⟩ : ∃ y, y = cmpL x r := ⟨_, rfl⟩
      rw [← hy] at KE
      have HY := Lib.hid hy
      clear hy
      by_cases h0 : y = 0
      · subst h0
        have gz := Lib.hid (show cmpL x r = 0 from HY.out.symm)
        have HP : Hid (R ++ [x] ++ putA r true (rs.drop (k + 1)) = putA r false rs) := by
          show _ = _
          rw [← hput.out, HD.out, putA, if_neg (by rw [gz.out]; simp), decide_eq_true gz.out, Bool.or_true]
          simp
        go_wp2_with fail
        refine KE.out.mono ?_
        rintro e w4 ⟨rfl, hq⟩
        have hb4 := hq.below wr.heap.size
        have hs4 := hb4.size
        have own4 := Lib.hid ((hown.out.below hb4 (Nat.le_refl _)).wide hs4)
        have bel4 := Lib.hid (hbel.out.trans (hb4.mono hsz))
        have hc4 := (hb4.cell (p := ⟨b, o + k, none⟩) (by show b < _; omega)).trans hc1
        have l4 : b < w4.heap.size := by omega
        replace hsz : w.heap.size ≤ w4.heap.size := by omega
        clear hc1 hq hb4 hown hbel
        go_wp2_with (first
          | (at_builtin; refine wpList_append_src _ rfl _ _ _ rfl 3 i0 _ 8 Tryz.underlying27 hi hz0 hz1 hz2 rfl (.slice (some ⟨w4.heap.size, 0, none⟩) 0 0) 0 [] rfl (own_at (heap_alloc_new w4 _)) A1 x.length c1 (x.map iv) rfl ((RD.out _ bel4.out).below ((Below.refl _ _).alloc (Nat.le_refl _) _)).src (by simp [iv, Value.oneCell']) (by unfold maxLen; omega) (by omega) ?_; intro v1 w5 hown1 hgrow1 hat1
             obtain ⟨A2, c2', rfl, ho1⟩ := own_of_copy (w := w4) hown1 (hat_ge hat1 (by simp))
             have hb1 : Below w4.heap.size w4 w5 := ((Below.refl w4.heap.size w4).alloc (Nat.le_refl _) (.cells #[] 3)).grown hgrow1 (by simp) (fun j hj => by simp [Value.ownBlock] at hj; omega)
             obtain ⟨xs, hrow1, hblk, hclose⟩ := (own4.out.below hb1 (Nat.le_refl _)).open_
             rw [mH.out] at hrow1
             have hs1 := hb1.size
             have HC := Lib.hid hclose
             have HBK := Lib.hid hblk
             have HO := Lib.hid ho1
             have HB1 := Lib.hid hb1
             have hrow2 := hrow1.alloc (.cells #[.slice A2 x.length c2'] 27)
             clear hown1 hgrow1 hat1 hclose hblk ho1 hb1 hrow1)
          | (at_builtin; refine wpList_append_lies _ rfl _ _ _ rfl 0 27 i1 _ 1 24 Tryz.underlying24 hi' hz0' hz1' hz2' rfl (by omega) _ m xs rfl hrow2 ⟨w5.heap.size, 0, none⟩ 1 1 [.slice A2 x.length c2'] rfl rfl (World.news_of_block (cs := #[.slice A2 x.length c2']) (t := 27) (fr := (0, 0)) (heap_alloc_new w5 _)) (by simp [Value.oneCell']) (by omega) (by unfold maxLen; omega) (by omega) (Nat.zero_le _) (w5.heap.size + 1) (by simp) ?_; intro g cap w6 hown2 hgrow hat hlt2
             have hB2 : Below w.heap.size w4 w6 := ((HB1.out.mono hsz).alloc (by omega) (.cells #[.slice A2 x.length c2'] 27)).grown hgrow (by simp; omega) (fun j hj => (HBK.out j hj).1)
             have hfin := HC.out (w5.alloc (.cells #[.slice A2 x.length c2'] 27)) w6 A2 x c2' w4.heap.size w5.heap.size g cap ((Below.refl _ _).alloc (Nat.le_refl _) _) (HO.out.below ((Below.refl w5.heap.size w5).alloc (Nat.le_refl _) _) (Nat.le_refl _)) (Nat.le_refl _) hsz (by simp) (by simp; omega) (by rw [mH.out]; exact hown2) hgrow (hat.imp (fun h => h) (fun h => by rw [h]; simp))
             rw [mH.out] at hfin
             have HF := Lib.hid (And.intro hfin hB2)
             clear hown2 hgrow hat hB2 hfin HC HBK HO HB1 hrow2 hlt2 hs1)
          | fail)
        refine ⟨⟨k + 1, true, R ++ [x], by omega, by go_num, rfl, HP, by rw [List.length_append, mH.out]; simp; omega, HF.out.1, bel4.out.trans HF.out.2⟩, ?_⟩
        simp [intOf]
        omega
      have q0 : (y == 0) = false := by simpa using h0
      have gz := Lib.hid (show ¬ cmpL x r = 0 from by rw [← HY.out]; exact h0)
      by_cases h1 : 0 < y
      · have q1 : decide (0 < y) = true := decide_eq_true h1
        have gz1 := Lib.hid (show 0 < cmpL x r from by rw [← HY.out]; exact h1)
        clear h0 h1
        cases pb
        · have HP : Hid ((R ++ [r]) ++ [x] ++ putA r true (rs.drop (k + 1)) = putA r false rs) := by
            show _ = _
            rw [← hput.out, HD.out, putA, if_pos ⟨gz1.out, rfl⟩]
            simp
          go_wp2_with fail
          refine KE.out.mono ?_
          rintro e w4 ⟨rfl, hq⟩
          have hb4 := hq.below wr.heap.size
          have hs4 := hb4.size
          have own4 := Lib.hid ((hown.out.below hb4 (Nat.le_refl _)).wide hs4)
          have bel4 := Lib.hid (hbel.out.trans (hb4.mono hsz))
          have hc4 := (hb4.cell (p := ⟨b, o + k, none⟩) (by show b < _; omega)).trans hc1
          have l4 : b < w4.heap.size := by omega
          replace hsz : w.heap.size ≤ w4.heap.size := by omega
          clear hc1 hq hb4 hown hbel
          have mH2 := Lib.hid (show (R ++ [r]).length = m + 1 by rw [List.length_append, mH.out]; rfl)
          go_wp2_with (first
            | (at_builtin; refine wpList_append_src _ rfl _ _ _ rfl 3 i0 _ 8 Tryz.underlying27 hi hz0 hz1 hz2 rfl (.slice (some ⟨w4.heap.size, 0, none⟩) 0 0) 0 [] rfl (own_at (heap_alloc_new w4 _)) A' r.length c' (r.map iv) rfl ((RR.out _ bel4.out).below ((Below.refl _ _).alloc (Nat.le_refl _) _)).src (by simp [iv, Value.oneCell']) (by unfold maxLen; omega) (by omega) ?_; intro v1 w5 hown1 hgrow1 hat1
               obtain ⟨A2, c2', rfl, ho1⟩ := own_of_copy (w := w4) hown1 (hat_ge hat1 (by simp))
               have hb1 : Below w4.heap.size w4 w5 := ((Below.refl w4.heap.size w4).alloc (Nat.le_refl _) (.cells #[] 3)).grown hgrow1 (by simp) (fun j hj => by simp [Value.ownBlock] at hj; omega)
               obtain ⟨xs, hrow1, hblk, hclose⟩ := (own4.out.below hb1 (Nat.le_refl _)).open_
               rw [mH.out] at hrow1
               have hs1 := hb1.size
               have HC := Lib.hid hclose
               have HBK := Lib.hid hblk
               have HO := Lib.hid ho1
               have HB1 := Lib.hid hb1
               have hrow2 := hrow1.alloc (.cells #[.slice A2 r.length c2'] 27)
               clear hown1 hgrow1 hat1 hclose hblk ho1 hb1 hrow1)
            | (at_builtin; refine wpList_append_lies _ rfl _ _ _ rfl 0 27 i1 _ 1 24 Tryz.underlying24 hi' hz0' hz1' hz2' rfl (by omega) _ m xs rfl hrow2 ⟨w5.heap.size, 0, none⟩ 1 1 [.slice A2 r.length c2'] rfl rfl (World.news_of_block (cs := #[.slice A2 r.length c2']) (t := 27) (fr := (0, 0)) (heap_alloc_new w5 _)) (by simp [Value.oneCell']) (by omega) (by unfold maxLen; omega) (by omega) (Nat.zero_le _) (w5.heap.size + 1) (by simp) ?_; intro g cap w6 hown2 hgrow hat hlt2
               have hB2 : Below w.heap.size w4 w6 := ((HB1.out.mono hsz).alloc (by omega) (.cells #[.slice A2 r.length c2'] 27)).grown hgrow (by simp; omega) (fun j hj => (HBK.out j hj).1)
               have hfin := HC.out (w5.alloc (.cells #[.slice A2 r.length c2'] 27)) w6 A2 r c2' w4.heap.size w5.heap.size g cap ((Below.refl _ _).alloc (Nat.le_refl _) _) (HO.out.below ((Below.refl w5.heap.size w5).alloc (Nat.le_refl _) _) (Nat.le_refl _)) (Nat.le_refl _) hsz (by simp) (by simp; omega) (by rw [mH.out]; exact hown2) hgrow (hat.imp (fun h => h) (fun h => by rw [h]; simp))
               rw [mH.out] at hfin
               have HF0 := Lib.hid (And.intro hfin hB2)
               clear hown2 hgrow hat hB2 hfin HC HBK HO HB1 hrow2 hlt2 hs1
               have own6 := Lib.hid HF0.out.1
               have bel6 := Lib.hid (bel4.out.trans HF0.out.2)
               have hc6 := (HF0.out.2.cell (p := ⟨b, o + k, none⟩) hb).trans hc4
               have hs6 := HF0.out.2.size
               have l6 : b < w6.heap.size := by omega
               clear hc4
               replace hsz : w.heap.size ≤ w6.heap.size := by omega)
            | (at_builtin; refine wpList_append_src _ rfl _ _ _ rfl 3 i0 _ 8 Tryz.underlying27 hi hz0 hz1 hz2 rfl (.slice (some ⟨w6.heap.size, 0, none⟩) 0 0) 0 [] rfl (own_at (heap_alloc_new w6 _)) A1 x.length c1 (x.map iv) rfl ((RD.out _ bel6.out).below ((Below.refl _ _).alloc (Nat.le_refl _) _)).src (by simp [iv, Value.oneCell']) (by unfold maxLen; omega) (by omega) ?_; intro v1 w7 hown1 hgrow1 hat1
               obtain ⟨A2, c2', rfl, ho1⟩ := own_of_copy (w := w6) hown1 (hat_ge hat1 (by simp))
               have hb1 : Below w6.heap.size w6 w7 := ((Below.refl w6.heap.size w6).alloc (Nat.le_refl _) (.cells #[] 3)).grown hgrow1 (by simp) (fun j hj => by simp [Value.ownBlock] at hj; omega)
               obtain ⟨xs, hrow1, hblk, hclose⟩ := (own6.out.below hb1 (Nat.le_refl _)).open_
               rw [mH2.out] at hrow1
               have hs1 := hb1.size
               have HC := Lib.hid hclose
               have HBK := Lib.hid hblk
               have HO := Lib.hid ho1
               have HB1 := Lib.hid hb1
               have hrow2 := hrow1.alloc (.cells #[.slice A2 x.length c2'] 27)
               clear hown1 hgrow1 hat1 hclose hblk ho1 hb1 hrow1)
            | (at_builtin; refine wpList_append_lies _ rfl _ _ _ rfl 0 27 i1 _ 1 24 Tryz.underlying24 hi' hz0' hz1' hz2' rfl (by omega) _ (m + 1) xs rfl hrow2 ⟨w7.heap.size, 0, none⟩ 1 1 [.slice A2 x.length c2'] rfl rfl (World.news_of_block (cs := #[.slice A2 x.length c2']) (t := 27) (fr := (0, 0)) (heap_alloc_new w7 _)) (by simp [Value.oneCell']) (by omega) (by unfold maxLen; omega) (by omega) (Nat.zero_le _) (w7.heap.size + 1) (by simp) ?_; intro g cap w8 hown2 hgrow hat hlt2
               have hB2 : Below w.heap.size w6 w8 := ((HB1.out.mono hsz).alloc (by omega) (.cells #[.slice A2 x.length c2'] 27)).grown hgrow (by simp; omega) (fun j hj => (HBK.out j hj).1)
               have hfin := HC.out (w7.alloc (.cells #[.slice A2 x.length c2'] 27)) w8 A2 x c2' w6.heap.size w7.heap.size g cap ((Below.refl _ _).alloc (Nat.le_refl _) _) (HO.out.below ((Below.refl w7.heap.size w7).alloc (Nat.le_refl _) _) (Nat.le_refl _)) (Nat.le_refl _) hsz (by simp) (by simp; omega) (by rw [mH2.out]; exact hown2) hgrow (hat.imp (fun h => h) (fun h => by rw [h]; simp))
               rw [mH2.out] at hfin
               have HF := Lib.hid (And.intro hfin hB2)
               clear hown2 hgrow hat hB2 hfin HC HBK HO HB1 hrow2 hlt2 hs1)
            | fail)
          refine ⟨⟨k + 1, true, (R ++ [r]) ++ [x], by omega, by go_num, rfl, HP, by rw [List.length_append, mH2.out]; simp; omega, HF.out.1, bel6.out.trans HF.out.2⟩, ?_⟩
          simp [intOf]
          omega
        · have HP : Hid (R ++ [x] ++ putA r true (rs.drop (k + 1)) = putA r false rs) := by
            show _ = _
            rw [← hput.out, HD.out, putA, if_neg (by simp), Bool.true_or]
            simp
          go_wp2_with fail
          refine KE.out.mono ?_
          rintro e w4 ⟨rfl, hq⟩
          have hb4 := hq.below wr.heap.size
          have hs4 := hb4.size
          have own4 := Lib.hid ((hown.out.below hb4 (Nat.le_refl _)).wide hs4)
          have bel4 := Lib.hid (hbel.out.trans (hb4.mono hsz))
          have hc4 := (hb4.cell (p := ⟨b, o + k, none⟩) (by show b < _; omega)).trans hc1
          have l4 : b < w4.heap.size := by omega
          replace hsz : w.heap.size ≤ w4.heap.size := by omega
          clear hc1 hq hb4 hown hbel
          go_wp2_with (first
            | (at_builtin; refine wpList_append_src _ rfl _ _ _ rfl 3 i0 _ 8 Tryz.underlying27 hi hz0 hz1 hz2 rfl (.slice (some ⟨w4.heap.size, 0, none⟩) 0 0) 0 [] rfl (own_at (heap_alloc_new w4 _)) A1 x.length c1 (x.map iv) rfl ((RD.out _ bel4.out).below ((Below.refl _ _).alloc (Nat.le_refl _) _)).src (by simp [iv, Value.oneCell']) (by unfold maxLen; omega) (by omega) ?_; intro v1 w5 hown1 hgrow1 hat1
               obtain ⟨A2, c2', rfl, ho1⟩ := own_of_copy (w := w4) hown1 (hat_ge hat1 (by simp))
               have hb1 : Below w4.heap.size w4 w5 := ((Below.refl w4.heap.size w4).alloc (Nat.le_refl _) (.cells #[] 3)).grown hgrow1 (by simp) (fun j hj => by simp [Value.ownBlock] at hj; omega)
               obtain ⟨xs, hrow1, hblk, hclose⟩ := (own4.out.below hb1 (Nat.le_refl _)).open_
               rw [mH.out] at hrow1
               have hs1 := hb1.size
               have HC := Lib.hid hclose
               have HBK := Lib.hid hblk
               have HO := Lib.hid ho1
               have HB1 := Lib.hid hb1
               have hrow2 := hrow1.alloc (.cells #[.slice A2 x.length c2'] 27)
               clear hown1 hgrow1 hat1 hclose hblk ho1 hb1 hrow1)
            | (at_builtin; refine wpList_append_lies _ rfl _ _ _ rfl 0 27 i1 _ 1 24 Tryz.underlying24 hi' hz0' hz1' hz2' rfl (by omega) _ m xs rfl hrow2 ⟨w5.heap.size, 0, none⟩ 1 1 [.slice A2 x.length c2'] rfl rfl (World.news_of_block (cs := #[.slice A2 x.length c2']) (t := 27) (fr := (0, 0)) (heap_alloc_new w5 _)) (by simp [Value.oneCell']) (by omega) (by unfold maxLen; omega) (by omega) (Nat.zero_le _) (w5.heap.size + 1) (by simp) ?_; intro g cap w6 hown2 hgrow hat hlt2
               have hB2 : Below w.heap.size w4 w6 := ((HB1.out.mono hsz).alloc (by omega) (.cells #[.slice A2 x.length c2'] 27)).grown hgrow (by simp; omega) (fun j hj => (HBK.out j hj).1)
               have hfin := HC.out (w5.alloc (.cells #[.slice A2 x.length c2'] 27)) w6 A2 x c2' w4.heap.size w5.heap.size g cap ((Below.refl _ _).alloc (Nat.le_refl _) _) (HO.out.below ((Below.refl w5.heap.size w5).alloc (Nat.le_refl _) _) (Nat.le_refl _)) (Nat.le_refl _) hsz (by simp) (by simp; omega) (by rw [mH.out]; exact hown2) hgrow (hat.imp (fun h => h) (fun h => by rw [h]; simp))
               rw [mH.out] at hfin
               have HF := Lib.hid (And.intro hfin hB2)
               clear hown2 hgrow hat hB2 hfin HC HBK HO HB1 hrow2 hlt2 hs1)
            | fail)
          refine ⟨⟨k + 1, true, R ++ [x], by omega, by go_num, rfl, HP, by rw [List.length_append, mH.out]; simp; omega, HF.out.1, bel4.out.trans HF.out.2⟩, ?_⟩
          simp [intOf]
          omega
      · have q1 : decide (0 < y) = false := decide_eq_false h1
        have gz1 := Lib.hid (show ¬ 0 < cmpL x r from by rw [← HY.out]; exact h1)
        clear h0 h1
        have HP : Hid (R ++ [x] ++ putA r pb (rs.drop (k + 1)) = putA r false rs) := by
          show _ = _
          rw [← hput.out, HD.out, putA, if_neg (by simp [gz1.out]), decide_eq_false gz.out, Bool.or_false]
          simp
        go_wp2_with fail
        refine KE.out.mono ?_
        rintro e w4 ⟨rfl, hq⟩
        have hb4 := hq.below wr.heap.size
        have hs4 := hb4.size
        have own4 := Lib.hid ((hown.out.below hb4 (Nat.le_refl _)).wide hs4)
        have bel4 := Lib.hid (hbel.out.trans (hb4.mono hsz))
        have hc4 := (hb4.cell (p := ⟨b, o + k, none⟩) (by show b < _; omega)).trans hc1
        have l4 : b < w4.heap.size := by omega
        replace hsz : w.heap.size ≤ w4.heap.size := by omega
        clear hc1 hq hb4 hown hbel
        go_wp2_with (first
          | (at_builtin; refine wpList_append_src _ rfl _ _ _ rfl 3 i0 _ 8 Tryz.underlying27 hi hz0 hz1 hz2 rfl (.slice (some ⟨w4.heap.size, 0, none⟩) 0 0) 0 [] rfl (own_at (heap_alloc_new w4 _)) A1 x.length c1 (x.map iv) rfl ((RD.out _ bel4.out).below ((Below.refl _ _).alloc (Nat.le_refl _) _)).src (by simp [iv, Value.oneCell']) (by unfold maxLen; omega) (by omega) ?_; intro v1 w5 hown1 hgrow1 hat1
             obtain ⟨A2, c2', rfl, ho1⟩ := own_of_copy (w := w4) hown1 (hat_ge hat1 (by simp))
             have hb1 : Below w4.heap.size w4 w5 := ((Below.refl w4.heap.size w4).alloc (Nat.le_refl _) (.cells #[] 3)).grown hgrow1 (by simp) (fun j hj => by simp [Value.ownBlock] at hj; omega)
             obtain ⟨xs, hrow1, hblk, hclose⟩ := (own4.out.below hb1 (Nat.le_refl _)).open_
             rw [mH.out] at hrow1
             have hs1 := hb1.size
             have HC := Lib.hid hclose
             have HBK := Lib.hid hblk
             have HO := Lib.hid ho1
             have HB1 := Lib.hid hb1
             have hrow2 := hrow1.alloc (.cells #[.slice A2 x.length c2'] 27)
             clear hown1 hgrow1 hat1 hclose hblk ho1 hb1 hrow1)
          | (at_builtin; refine wpList_append_lies _ rfl _ _ _ rfl 0 27 i1 _ 1 24 Tryz.underlying24 hi' hz0' hz1' hz2' rfl (by omega) _ m xs rfl hrow2 ⟨w5.heap.size, 0, none⟩ 1 1 [.slice A2 x.length c2'] rfl rfl (World.news_of_block (cs := #[.slice A2 x.length c2']) (t := 27) (fr := (0, 0)) (heap_alloc_new w5 _)) (by simp [Value.oneCell']) (by omega) (by unfold maxLen; omega) (by omega) (Nat.zero_le _) (w5.heap.size + 1) (by simp) ?_; intro g cap w6 hown2 hgrow hat hlt2
             have hB2 : Below w.heap.size w4 w6 := ((HB1.out.mono hsz).alloc (by omega) (.cells #[.slice A2 x.length c2'] 27)).grown hgrow (by simp; omega) (fun j hj => (HBK.out j hj).1)
             have hfin := HC.out (w5.alloc (.cells #[.slice A2 x.length c2'] 27)) w6 A2 x c2' w4.heap.size w5.heap.size g cap ((Below.refl _ _).alloc (Nat.le_refl _) _) (HO.out.below ((Below.refl w5.heap.size w5).alloc (Nat.le_refl _) _) (Nat.le_refl _)) (Nat.le_refl _) hsz (by simp) (by simp; omega) (by rw [mH.out]; exact hown2) hgrow (hat.imp (fun h => h) (fun h => by rw [h]; simp))
             rw [mH.out] at hfin
             have HF := Lib.hid (And.intro hfin hB2)
             clear hown2 hgrow hat hB2 hfin HC HBK HO HB1 hrow2 hlt2 hs1)
          | fail)
        refine ⟨⟨k + 1, pb, R ++ [x], by omega, by go_num, rfl, HP, by rw [List.length_append, mH.out]; simp; omega, HF.out.1, bel4.out.trans HF.out.2⟩, ?_⟩
        simp [intOf]
        omega
    · obtain rfl : k = n := by omega
      have hd := Lib.hid (show rs.drop k = [] from List.drop_of_length_le (Nat.le_of_eq HL.out))
      have RR := Lib.hid (show ∀ W, Below w.heap.size w W → RdI W W.heap.size A' r.length r from fun W b => (hr'.belowB b hB).more (Nat.le_trans hB b.size))
      cases pb
      · have HP : Hid (R ++ [r] = putA r false rs) := by
          show _ = _
          rw [← hput.out, hd.out]
          rfl
        go_wp2_with (first
          | (at_builtin; refine wpList_append_src _ rfl _ _ _ rfl 3 i0 _ 8 Tryz.underlying27 hi hz0 hz1 hz2 rfl (.slice (some ⟨wr.heap.size, 0, none⟩) 0 0) 0 [] rfl (own_at (heap_alloc_new wr _)) A' r.length c' (r.map iv) rfl ((RR.out _ hbel.out).below ((Below.refl _ _).alloc (Nat.le_refl _) _)).src (by simp [iv, Value.oneCell']) (by unfold maxLen; omega) (by omega) ?_; intro v1 w5 hown1 hgrow1 hat1
             obtain ⟨A2, c2', rfl, ho1⟩ := own_of_copy (w := wr) hown1 (hat_ge hat1 (by simp))
             have hb1 : Below wr.heap.size wr w5 := ((Below.refl wr.heap.size wr).alloc (Nat.le_refl _) (.cells #[] 3)).grown hgrow1 (by simp) (fun j hj => by simp [Value.ownBlock] at hj; omega)
             obtain ⟨xs, hrow1, hblk, hclose⟩ := (hown.out.below hb1 (Nat.le_refl _)).open_
             rw [mH.out] at hrow1
             have hs1 := hb1.size
             have HC := Lib.hid hclose
             have HBK := Lib.hid hblk
             have HO := Lib.hid ho1
             have HB1 := Lib.hid hb1
             have hrow2 := hrow1.alloc (.cells #[.slice A2 r.length c2'] 27)
             clear hown1 hgrow1 hat1 hclose hblk ho1 hb1 hrow1)
          | (at_builtin; refine wpList_append_lies _ rfl _ _ _ rfl 0 27 i1 _ 1 24 Tryz.underlying24 hi' hz0' hz1' hz2' rfl (by omega) _ m xs rfl hrow2 ⟨w5.heap.size, 0, none⟩ 1 1 [.slice A2 r.length c2'] rfl rfl (World.news_of_block (cs := #[.slice A2 r.length c2']) (t := 27) (fr := (0, 0)) (heap_alloc_new w5 _)) (by simp [Value.oneCell']) (by omega) (by unfold maxLen; omega) (by omega) (Nat.zero_le _) (w5.heap.size + 1) (by simp) ?_; intro g cap w6 hown2 hgrow hat hlt2
             have hB2 : Below w.heap.size wr w6 := ((HB1.out.mono hsz).alloc (by omega) (.cells #[.slice A2 r.length c2'] 27)).grown hgrow (by simp; omega) (fun j hj => (HBK.out j hj).1)
             have hfin := HC.out (w5.alloc (.cells #[.slice A2 r.length c2'] 27)) w6 A2 r c2' wr.heap.size w5.heap.size g cap ((Below.refl _ _).alloc (Nat.le_refl _) _) (HO.out.below ((Below.refl w5.heap.size w5).alloc (Nat.le_refl _) _) (Nat.le_refl _)) (Nat.le_refl _) hsz (by simp) (by simp; omega) (by rw [mH.out]; exact hown2) hgrow (hat.imp (fun h => h) (fun h => by rw [h]; simp))
             rw [mH.out] at hfin
             have HF := Lib.hid (And.intro hfin hB2)
             clear hown2 hgrow hat hB2 hfin HC HBK HO HB1 hrow2 hlt2 hs1)
          | fail)
        go_ret
        refine RowsNew.of ?_ (hbel.out.trans HF.out.2)
        rw [← HP.out]
        exact HF.out.1
      · have HP : Hid (R = putA r false rs) := by
          show _ = _
          rw [← hput.out, hd.out, putA, if_pos rfl, List.append_nil]
        go_wp2_with fail
        go_ret
        refine RowsNew.of ?_ hbel.out
        rw [← HP.out]
        exact hown.out

end

section
open Go.RowKit Go.Deep

set_option maxRecDepth 100000 in
set_option maxHeartbeats 4000000 in
theorem l4Copy_any (nm : ByteArray) (ar : Int) (A : Option Addr) (n c B : Nat) (rs : List (List Int)) (w : World) (hr : RdR w B A n rs) (hB : B ≤ w.heap.size) (hn : n ≤ 5000000000) (hrow : ∀ r ∈ rs, r.length ≤ 17592186044416) :
    Calls Tryz.prog 39 #[.agg #[.string nm, .int .i64 ar, .slice A n c]] w (TabNew nm ar rs w) := by
  obtain ⟨i0, hi, hz0, hz1, hz2⟩ := info_parts info_int
  obtain ⟨i1, hi', hz0', hz1', hz2'⟩ := info_parts info_row
  have HL := Lib.hid hr.1
  have hrow' := Lib.hid hrow
  clear hrow
  go_enter Tryz.func39, Tryz.ntmps39
  go_wp2_with fail
  go_loopw [4] (fun i wr => ∃ (k : Nat) (v : Value), k ≤ n ∧ i = .int .i64 k ∧ LInv w w.heap.size (w.heap.size + 1) (w.heap.size + 1 + 1) (w.heap.size + 1 + 1 + 1) (.string nm) (.int .i64 ar) (.slice A n c) (.string nm) (.int .i64 ar) (rs.take k) v wr) (fun i _ => n - (intOf i).toNat)
  case atStart =>
    refine ⟨0, .slice none 0 0, by omega, rfl, OwnR.nil _ _ _, (((Below.refl _ _).alloc (Nat.le_refl _) _).alloc (by simp) _).alloc (by simp; omega) _, by simp, by omega, by omega, by omega, by omega, by omega, by omega, by simp [go_sem], by simp [go_sem], by simp [go_sem], by simp [go_sem], by simp [go_sem], by simp [go_sem], by simp [go_sem], fun i hi => ?_⟩
    have : i = 0 ∨ i = 1 ∨ i = 2 := by omega
    rcases this with rfl | rfl | rfl <;> simp [go_sem]
  case round =>
    obtain ⟨k, v, hk, rfl, hinv⟩ := hrel
    have c2 := hinv.c2
    by_cases hlt : k < n
    · obtain ⟨b, o, x, A', c', rfl, hb, hx, hc, hrd, _⟩ := RdR.at_ (RdR.more hr hB) hlt
      have hbel := hinv.bel
      have hsz := hinv.size
      have x2 := hinv.x2
      have fx := hinv.fx
      have hc1 := (hbel.cell (p := ⟨b, o + k, none⟩) hb).trans hc
      have hxl := hrow'.out x (List.mem_of_getElem? hx)
      have hrd1 := Lib.hid ((hrd.below hbel).more (show w.heap.size ≤ wr.heap.size by omega))
      have HX := Lib.hid (show rs.take k ++ [x] = rs.take (k + 1) by rw [List.take_add_one, hx]; rfl)
      have HK := Lib.hid (show (rs.take k).length = k by rw [List.length_take, HL.out]; omega)
      have HI := Lib.hid hinv
      have g1 : (0 : Int) ≤ (k : Int) := by omega
      have g2 : (k : Int) < (n : Int) := by omega
      have g3 : (k : Int).toNat = k := by omega
      have l0 : b < wr.heap.size := by omega
      have l1 : w.heap.size < wr.heap.size := by omega
      have l2 : w.heap.size + 1 + 1 < wr.heap.size := by omega
      clear hx hc hrd hinv hbel
      go_wp2_with fail
      go_region_law (first
          | (refine step_append_src _ (by rfl) (.tmp 19) (.tmp 24) _ (by rfl) 3 i0 _ 8 Tryz.underlying27 hi hz0 hz1 hz2 (by rfl) (.slice (some ⟨wr.heap.size, 0, none⟩) 0 0) 0 [] (by rfl) (own_at (heap_alloc_new wr _)) A' x.length c' (x.map iv) (by rfl) (hrd1.out.below ((Below.refl _ _).alloc (Nat.le_refl _) _)).src (by simp [iv, Value.oneCell']) (by unfold maxLen; omega) (by omega) ?_; intro v1 w1 hown1 hgrow1 hat1
             obtain ⟨A1, c1, rfl, ho1⟩ := own_of_copy (w := wr) hown1 (hat_ge hat1 (by simp))
             have hb1 : Below wr.heap.size wr w1 := ((Below.refl wr.heap.size wr).alloc (Nat.le_refl _) (.cells #[] 3)).drew.grown hgrow1 (by simp) (fun j hj => by simp [Value.ownBlock] at hj; omega)
             obtain ⟨xs, hrow1, hblk, hclose⟩ := (HI.out.own.below hb1 (Nat.le_refl _)).open_
             rw [HK.out] at hrow1
             have m1 : w1.cell? ⟨w.heap.size, 2, none⟩ = some (.slice (some ⟨b, o, none⟩) n c) := (hb1.cell (p := ⟨w.heap.size, 2, none⟩) l1).trans c2
             have m2 : w1.cell? ⟨b, o + k, none⟩ = some (.slice A' x.length c') := (hb1.cell (p := ⟨b, o + k, none⟩) l0).trans hc1
             have m3 : w1.cell? ⟨w.heap.size + 1 + 1, 2, none⟩ = some v := (hb1.cell (p := ⟨w.heap.size + 1 + 1, 2, none⟩) l2).trans x2
             have hs1 := hb1.size
             have l0' : b < w1.heap.size := by omega
             have l1' : w.heap.size < w1.heap.size := by omega
             have l2' : w.heap.size + 1 + 1 < w1.heap.size := by omega
             have HC := Lib.hid hclose
             have HBK := Lib.hid hblk
             have HO := Lib.hid ho1
             have HB1 := Lib.hid hb1
             have hrow2 := hrow1.alloc (.cells #[.slice A1 x.length c1] 27)
             clear hown1 hgrow1 hat1 hclose hblk ho1 hb1 hrow1)
          | (refine step_append_lies _ (by rfl) (.tmp 18) (.tmp 26) _ (by rfl) 0 27 i1 _ 1 24 Tryz.underlying24 hi' hz0' hz1' hz2' (by rfl) (by omega) v k xs (by rfl) hrow2 ⟨w1.heap.size, 0, none⟩ 1 1 [.slice A1 x.length c1] (by rfl) rfl (World.news_of_block (cs := #[.slice A1 x.length c1]) (t := 27) (fr := (0, 0)) (heap_alloc_new w1 _)) (by simp [Value.oneCell']) (by omega) (by unfold maxLen; omega) (by omega) (Nat.zero_le _) (w1.heap.size + 1) (by simp) ?_; intro g cap w2 hown2 hgrow hat hlt2
             have hB2 : Below (w.heap.size + 1 + 1 + 1) wr w2 := ((HB1.out.mono hsz).alloc (by omega) (.cells #[.slice A1 x.length c1] 27)).grown hgrow (by simp; omega) (fun j hj => (HBK.out j hj).1)
             have hfin := HC.out (w1.alloc (.cells #[.slice A1 x.length c1] 27)) w2 A1 x c1 wr.heap.size w1.heap.size g cap ((Below.refl _ _).alloc (Nat.le_refl _) _) (HO.out.below ((Below.refl w1.heap.size w1).alloc (Nat.le_refl _) _) (Nat.le_refl _)) (Nat.le_refl _) hsz (by simp) (by simp; omega) (by rw [HK.out]; exact hown2) hgrow (hat.imp (fun h => h) (fun h => by rw [h]; simp))
             have n2 : w2.cell? ⟨w.heap.size + 1 + 1, 2, none⟩ = some v := (hB2.cell (p := ⟨w.heap.size + 1 + 1, 2, none⟩) (Nat.lt_succ_self _)).trans x2
             have n3 : w2.frozen? ⟨w.heap.size + 1 + 1, 2, none⟩ = false := (hB2.frozen (p := ⟨w.heap.size + 1 + 1, 2, none⟩) (Nat.lt_succ_self _)).trans fx
             rw [HX.out, HK.out] at hfin
             have HF := Lib.hid (HI.out.push hB2 hfin)
             clear hown2 hgrow hat hB2 hfin)
          | fail)
      all_goals (
        go_wp2_with fail
        refine ⟨⟨k + 1, _, by omega, by go_num, HF.out⟩, ?_⟩
        simp [intOf]
        omega)
    · obtain rfl : k = n := by omega
      have x0 := hinv.x0
      have x1 := hinv.x1
      have x2 := hinv.x2
      have hr0 := hinv.res 0 (by omega)
      have hr1 := hinv.res 1 (by omega)
      have hr2 := hinv.res 2 (by omega)
      obtain ⟨y0, hy0⟩ := Option.isSome_iff_exists.1 hr0.1
      obtain ⟨y1, hy1⟩ := Option.isSome_iff_exists.1 hr1.1
      obtain ⟨y2, hy2⟩ := Option.isSome_iff_exists.1 hr2.1
      have e0 := hr0.2
      have e1 := hr1.2
      have e2 := hr2.2
      have HT := Lib.hid (show rs.take k = rs from List.take_of_length_le (Nat.le_of_eq HL.out))
      rw [HT.out] at hinv
      obtain ⟨A1, c1, rfl⟩ := hinv.own.form
      have HF := Lib.hid (hinv.fin (by omega) (by omega) (.string nm) (.int .i64 ar) (.slice A1 rs.length c1))
      clear hinv hr0 hr1 hr2
      go_wp2_with fail
      exact bodyPost_ret (v := .agg #[.string nm, .int .i64 ar, .slice A1 rs.length c1]) (by simp [results, Tryz.results39, go_sem, *]) rfl (TabNew.of HF.out.1 HF.out.2)

end

section
open Go.RowKit Go.Deep

theorem LInv.qt {w W W' : World} {tb rb xb lo : Nat} {t0 t1 t2 x0 x1 v : Value} {R : List (List Int)} (h : LInv w tb rb xb lo t0 t1 t2 x0 x1 R v W) (q : Qt W W') : LInv w tb rb xb lo t0 t1 t2 x0 x1 R v W' := h.next (q.below _)

end

section
open Go.RowKit Go.Deep
open Go.RowKit Go.Deep
open Go.RowKit Go.Deep

theorem sumL_filter (p : List Int → Bool) (rs : List (List Int)) : sumL (rs.filter p) ≤ sumL rs := by
  induction rs with
  | nil => exact Nat.le_refl _
  | cons r rs ih =>
    rw [sumL_cons, List.filter_cons]
    by_cases h : p r = true
    · rw [if_pos h, sumL_cons]
      omega
    · rw [if_neg h]
      omega

theorem delR_small (nm : ByteArray) (ar : Int) (rs : List (List Int)) (r : List Int) (hb : rs.length ≤ 1048576) (hs : sumL rs ≤ 1048576) : (delR nm ar rs r).rs.length ≤ 1048576 ∧ sumL (delR nm ar rs r).rs ≤ 4294967296 := by
  unfold delR
  by_cases h : contB nm ar rs r = true
  · rw [if_pos h]
    exact ⟨Nat.le_trans (List.length_filter_le _ _) hb, Nat.le_trans (sumL_filter _ _) (by omega)⟩
  · rw [if_neg h]
    exact ⟨hb, by show sumL rs ≤ _; omega⟩

/-- What NewTable answers. -/
def newR (nm : ByteArray) (ar : Int) (rs : List (List Int)) : TabR := if validT nm ar (sortL rs) = true then ⟨nm, ar, sortL rs, true⟩ else ⟨{ data := #[] }, 0, [], false⟩

theorem validT_long {nm : ByteArray} {ar : Int} {rs : List (List Int)} (h : 8 < rs.length) : validT nm ar rs = false := by
  unfold validT
  rw [decide_eq_false (by omega)]
  simp

theorem newR_of {nm : ByteArray} {ar : Int} {rs R : List (List Int)} {b : Bool} (h : R = sortL rs ∨ (8 < R.length ∧ 8 < (sortL rs).length)) (hb : validT nm ar R = b) : newR nm ar rs = if b = true then ⟨nm, ar, R, true⟩ else ⟨{ data := #[] }, 0, [], false⟩ := by
  rcases h with rfl | ⟨h1, h2⟩
  · rw [newR, hb]
  · rw [newR, validT_long h2, ← hb, validT_long h1]
    rfl

theorem newR_small (nm : ByteArray) (ar : Int) (rs : List (List Int)) (hb : rs.length ≤ 1048576) (hs : sumL rs ≤ 1048576) : (newR nm ar rs).rs.length ≤ 1048576 ∧ sumL (newR nm ar rs).rs ≤ 4294967296 := by
  unfold newR
  by_cases h : validT nm ar (sortL rs) = true
  · rw [if_pos h]
    exact ⟨Nat.le_trans (sortL_len rs) hb, Nat.le_trans (sortL_sum rs) (by omega)⟩
  · rw [if_neg h]
    exact ⟨Nat.zero_le _, Nat.zero_le _⟩

end
end Go.Proofs.YtmojjbhjjhdpaaaGreatDoor
