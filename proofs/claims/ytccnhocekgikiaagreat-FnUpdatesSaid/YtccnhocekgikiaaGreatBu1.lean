/- Base, Words, Own, Ints, Mark, Row, LawR, Cmp, LawE, Tab, EqI, IsTab, IsTabS, TabR, New, App, Cell, Kn, LInv, Tb, FmtP, DbPlain, DbLaw, DbW, IsDbP, DbOpP, DInv, Cls, IsDbS, IsDbI, Copy, CopyS, Look, in one text, as far as the seat's program has the functions (printed by tools/fit2.py). -/
import Derived.Test.YtccnhocekgikiaaGreatProg
import Derived.WalkKit
import Derived.WalkSpells
import Derived.WalkLawsBesides
import Derived.Lib.Hide
import Derived.Deep.QuietTactic
import Derived.BigQuiet
import Derived.Laws.BytesArg
import Derived.Maps.AppendAt
import Derived.Deep.AppendLies
import Derived.Deep.Draws
import Derived.OwnWalk
import Derived.Deep.OwnRows
import Derived.Outline
import Derived.Deep.RegionHeld3
import Derived.Deep.RegionLaw
import Derived.RegionTactic
namespace Go.Proofs.YtccnhocekgikiaaGreat
section
open Go.RowKit

/-- n lies between a and b. -/
def inB (n a b : Int) : Bool := decide (a ≤ n) && decide (n ≤ b)

theorem inB_true {n a b : Int} (h1 : a ≤ n) (h2 : n ≤ b) : inB n a b = true := by simp [inB, h1, h2]

theorem inB_false {n a b : Int} (h : ¬ (a ≤ n ∧ n ≤ b)) : inB n a b = false := by
  unfold inB
  by_cases h1 : a ≤ n <;> by_cases h2 : n ≤ b <;> simp_all

theorem inB_iff {n a b : Int} : inB n a b = true ↔ a ≤ n ∧ n ≤ b := by simp [inB]

theorem int_wf {n : Int} (h : (Lit.int .i64 n).wf = true) : -9223372036854775808 ≤ n ∧ n ≤ 9223372036854775807 := by
  have h' : (decide (IntKind.i64.min ≤ n) && decide (n ≤ IntKind.i64.max)) = true := h
  have e1 : IntKind.i64.min = -9223372036854775808 := by decide
  have e2 : IntKind.i64.max = 9223372036854775807 := by decide
  rw [e1, e2] at h'
  simpa using h'

theorem below_drewN {B : Nat} {a w : World} (h : Below B a w) (n : Nat) : Below B a (w.drewN n) := ⟨h.os, h.tape, h.output, h.size, h.block⟩

/-- Only draws lie between. -/
def Qt (w w' : World) : Prop := ∃ q, w' = w.drewN q

theorem Qt.refl (w : World) : Qt w w := ⟨0, rfl⟩

theorem Qt.drewN {w w' : World} (h : Qt w w') (n : Nat) : Qt w (w'.drewN n) := by
  obtain ⟨q, rfl⟩ := h
  exact ⟨q + n, by rw [World.drewN_drewN]⟩

theorem Qt.trans {a b c : World} (h : Qt a b) (k : Qt b c) : Qt a c := by
  obtain ⟨q, rfl⟩ := k
  exact h.drewN q

theorem Qt.drew {w w' : World} (h : Qt w w') : Qt w w'.drew := h.drewN 1

theorem Qt.heap {w w' : World} (h : Qt w w') : w'.heap = w.heap := by
  obtain ⟨q, rfl⟩ := h
  rfl

theorem Qt.cell {w w' : World} (h : Qt w w') {p : Addr} : w'.cell? p = w.cell? p := by
  obtain ⟨q, rfl⟩ := h
  rfl

theorem Qt.below {w w' : World} (h : Qt w w') (B : Nat) : Below B w w' := by
  obtain ⟨q, rfl⟩ := h
  exact below_drewN (Below.refl _ _) q

theorem ret_int {k : IntKind} {a b : Int} (h : a = b) : Ending.returned (.int k a) = .returned (.int k b) := by rw [h]

theorem quiet_left {P : Program} {f : FuncId} {args : Array Value} {w : World} {n : Nat} {v : Value}
    (h : Calls P f args (w.drewN n) fun e w' => e = .returned v ∧ w.drewN n = w') : Calls P f args (w.drewN n) fun e w'' => e = .returned v ∧ ∃ m, w'' = w.drewN m :=
  h.mono fun _ _ ⟨he, hm⟩ => ⟨he, n, hm.symm⟩

theorem l1In_any (n a b : Int) (w : World) : Calls Tryz.prog 44 #[.int .i64 n, .int .i64 a, .int .i64 b] w fun e w' => e = .returned (.bool (inB n a b)) ∧ w = w' := by
  unfold inB
  by_cases h1 : a ≤ n
  all_goals
    go_enter Tryz.func44, Tryz.ntmps44
    go_wp2
    go_ret
    exact ⟨by first | (simp [h1]; done) | (simp; omega), rfl⟩

theorem within_any (n a b : Int) (w : World) : Calls Tryz.prog 37 #[.int .i64 n, .int .i64 a, .int .i64 b] w fun e w' => e = .returned (.bool (inB n a b)) ∧ w = w' := by
  unfold inB
  by_cases h1 : a ≤ n
  all_goals
    go_enter Tryz.func37, Tryz.ntmps37
    go_wp2
    go_ret
    exact ⟨by first | (simp [h1]; done) | (simp; omega), rfl⟩

end

section
open Go.RowKit

/-- A byte as a value. -/
def bv (b : UInt8) : Value := .int .u8 (b.toNat : Int)

/-- An int as a value. -/
def iv (n : Int) : Value := .int .i64 n

theorem strOf_bytes (l : List UInt8) : strOfNums (l.map fun b => (b.toNat : Int)) = ⟨l.toArray⟩ := by
  unfold strOfNums
  congr 2
  rw [List.map_map]
  conv => rhs; rw [← List.map_id l]
  apply List.map_congr_left
  intro b _
  simp

/-- 'string(out)', out a row of the call's own. -/
theorem own_string {P : Program} {w : World} {base n : Nat} {e : TypeId} {v : Value} {l : List UInt8} (h : w.ownsRow base e 1 v n (l.map bv)) {src dst : TypeId}
    (hs : P.underlying src = some (.slice e)) (he : P.underlying e = some (.int .u8)) (hd : P.underlying dst = some .string) :
    (convert src dst v).run P w = .ok (.string ⟨l.toArray⟩) w := by
  have hl := h.1
  rcases h.2 with ⟨rfl, rfl⟩ | ⟨g, cap, cur, rfl, hb, hg, hn, hc, hsz, ht⟩
  · have : l = [] := by cases l <;> simp_all
    subst this
    exact run_convert_bytes_nil w src e hs he _ _ dst hd
  · have := run_convert_bytes_arg (P := P) w src e hs he g 0 n cap (l.map fun b => (b.toNat : Int)) (by simpa using hl) (fun i hi => by
      rw [Nat.zero_add, cell_of_row w g i cur e (0, 0) hg]
      have hi' : i < l.length := by simp at hl; omega
      have h1 : (cur.toList.take (n * 1))[i]? = (l.map bv)[i]? := by rw [ht]
      rw [List.getElem?_take, if_pos (by omega)] at h1
      simp [List.getElem?_eq_getElem hi'] at h1
      simp [h1, bv, List.getElem?_eq_getElem hi']) dst hd
    rw [this, strOf_bytes]

theorem take_snoc (s : ByteArray) (k : Nat) (h : k < s.size) : s.data.toList.take (k + 1) = s.data.toList.take k ++ [s[k]] := by
  rw [List.take_succ_eq_append_getElem (by simpa using h)]; rfl

theorem take_all (s : ByteArray) : s.data.toList.take s.size = s.data.toList := List.take_of_length_le (by simp)

theorem bv_of (n : Nat) (h : n < 256) : Value.int .u8 (n : Int) = bv (UInt8.ofNat n) := by
  unfold bv
  congr 1
  have : (UInt8.ofNat n).toNat = n := by rw [UInt8.toNat_ofNat']; exact Nat.mod_eq_of_lt h
  omega

theorem bytes_append (a b : List UInt8) : ({ data := a.toArray } : ByteArray) ++ ({ data := b.toArray } : ByteArray) = { data := (a ++ b).toArray } := by
  apply ByteArray.ext
  simp

/-- 'string([]byte{x})': one new byte. -/
theorem one_byte {P : Program} (w : World) (src dst e : TypeId) (x : Int) (h0 : 0 ≤ x) (h1 : x < 256) (hs : P.underlying src = some (.slice e)) (he : P.underlying e = some (.int .u8)) (hd : P.underlying dst = some .string) :
    (convert src dst (.slice (some ⟨w.heap.size, 0, none⟩) 1 1)).run P (w.alloc (.cells #[.int .u8 x] e)) = .ok (.string ⟨#[UInt8.ofNat x.toNat]⟩) (w.alloc (.cells #[.int .u8 x] e)) := by
  have hx : Value.int .u8 x = bv (UInt8.ofNat x.toNat) := by rw [← bv_of x.toNat (by omega), Int.toNat_of_nonneg h0]
  rw [hx]
  exact own_string (l := [UInt8.ofNat x.toNat]) (base := 0) (n := 1) (e := e) ⟨rfl, .inr ⟨w.heap.size, 1, #[bv (UInt8.ofNat x.toNat)], rfl, Nat.zero_le _, heap_alloc_new w _, Nat.le_refl _, by unfold maxLen; omega, rfl, rfl⟩⟩ hs he hd

theorem str_of {s : ByteArray} {l : List UInt8} (h : s.data.toList = l) : s = ⟨l.toArray⟩ := by
  subst h
  apply ByteArray.ext
  simp

theorem str_ne {a b : ByteArray} (h : ¬ a = b) : ¬ a.toList = b.toList := fun e => h (WideShapes.bytes_inj (by rwa [ByteArray.toList_eq, ByteArray.toList_eq] at e))

theorem str_eq0 {a b : ByteArray} (h : ¬ a = b) : (a.toList == b.toList) = false := by simpa using str_ne h

theorem str_ne1 {a b : ByteArray} (h : ¬ a = b) : (a.toList != b.toList) = true := by simpa using str_ne h

end

section
open Go.RowKit Go.Deep

/-- Only the blocks of F may have changed, and blocks may have come. -/
structure ChgF (F : Nat → Prop) (w w' : World) : Prop where
  os : w'.os = w.os
  tape : w'.tape = w.tape
  output : w'.output = w.output
  size : w.heap.size ≤ w'.heap.size
  block : ∀ k, k < w.heap.size → ¬ F k → w'.heap[k]? = w.heap[k]?

theorem ChgF.refl (F : Nat → Prop) (w : World) : ChgF F w w := ⟨rfl, rfl, rfl, Nat.le_refl _, fun _ _ _ => rfl⟩

theorem ChgF.trans {F : Nat → Prop} {a b c : World} (h : ChgF F a b) (k : ChgF F b c) : ChgF F a c :=
  ⟨k.os.trans h.os, k.tape.trans h.tape, k.output.trans h.output, Nat.le_trans h.size k.size, fun i hi hn => (k.block i (Nat.lt_of_lt_of_le hi h.size) hn).trans (h.block i hi hn)⟩

theorem ChgF.mono {F G : Nat → Prop} {a b : World} (h : ChgF F a b) (hs : ∀ k, k < a.heap.size → F k → G k) : ChgF G a b :=
  ⟨h.os, h.tape, h.output, h.size, fun i hi hn => h.block i hi fun hf => hn (hs i hi hf)⟩

theorem ChgF.below {F : Nat → Prop} {B : Nat} {w w' : World} (h : ChgF F w w') (hB : ∀ k, F k → B ≤ k) (hs : B ≤ w.heap.size) : Below B w w' :=
  ⟨h.os, h.tape, h.output, h.size, fun k hk => h.block k (by omega) fun hf => by have := hB k hf; omega⟩

theorem chgF_of_below {B : Nat} {w w' : World} (h : Below B w w') : ChgF (fun k => B ≤ k) w w' :=
  ⟨h.os, h.tape, h.output, h.size, fun k _ hn => h.block k (by omega)⟩

theorem chgF_of_grown {w w' : World} {row : Option Nat} (h : w.grownBy w' row) : ChgF (fun k => row = some k) w w' :=
  ⟨h.os, h.tape, h.output, h.size, fun k hk hn => h.block k hk fun e => hn e.symm⟩

theorem chgF_setCell (w : World) (g i : Nat) (x : Value) : ChgF (fun k => k = g) w (w.setCell ⟨g, i, none⟩ x) :=
  ⟨rfl, rfl, rfl, by simp [World.setCell], fun k _ hn => Below.heap_setCell w _ _ k hn⟩

theorem chgF_alloc (w : World) (o : Obj) (F : Nat → Prop) : ChgF F w (w.alloc o) := ⟨rfl, rfl, rfl, by simp, fun k hk _ => heap_alloc_old w o hk⟩

theorem chgF_drew (w : World) (F : Nat → Prop) : ChgF F w w.drew := ⟨rfl, rfl, rfl, Nat.le_refl _, fun _ _ _ => rfl⟩

theorem chgF_drewN (w : World) (n : Nat) (F : Nat → Prop) : ChgF F w (w.drewN n) := ⟨rfl, rfl, rfl, Nat.le_refl _, fun _ _ _ => rfl⟩

/-- What a reading of one element's cells must obey: it hangs on the blocks below B alone. -/
structure RdOk {α : Type} (R : World → Nat → List Value → α → Prop) : Prop where
  keep : ∀ {w w' : World} {B : Nat} {cs : List Value} {a : α}, R w B cs a → (∀ k, k < B → w'.heap[k]? = w.heap[k]?) → R w' B cs a
  more : ∀ {w : World} {B B' : Nat} {cs : List Value} {a : α}, R w B cs a → B ≤ B' → R w B' cs a

/-- The slice at A with n elements of 'size' cells reads as a list, below block B. -/
def RdSl {α : Type} (size : Nat) (R : World → Nat → List Value → α → Prop) (w : World) (B : Nat) (A : Option Addr) (n : Nat) (ls : List α) : Prop :=
  ls.length = n ∧ (0 < n → ∃ b o, A = some ⟨b, o, none⟩ ∧ b < B ∧ ∀ j a, ls[j]? = some a → ∃ cs : List Value, cs.length = size ∧ (∀ i x, cs[i]? = some x → w.cell? ⟨b, o + (j * size + i), none⟩ = some x) ∧ R w B cs a)

section

variable {α : Type} {size : Nat} {R : World → Nat → List Value → α → Prop} {w w' : World} {B B' n : Nat} {A : Option Addr} {ls : List α}

theorem RdSl.len (h : RdSl size R w B A n ls) : ls.length = n := h.1

theorem cell_of_block_eq {w w' : World} {b : Nat} (h : w'.heap[b]? = w.heap[b]?) (i : Nat) : w'.cell? ⟨b, i, none⟩ = w.cell? ⟨b, i, none⟩ := World.cell?_of_block h

theorem frozen_of_block_eq {w w' : World} {b : Nat} (h : w'.heap[b]? = w.heap[b]?) (i : Nat) : w'.frozen? ⟨b, i, none⟩ = w.frozen? ⟨b, i, none⟩ := World.frozen?_of_block h

theorem RdSl.keep (ok : RdOk R) (h : RdSl size R w B A n ls) (hk : ∀ k, k < B → w'.heap[k]? = w.heap[k]?) : RdSl size R w' B A n ls :=
  ⟨h.1, fun hn => by
    obtain ⟨b, o, hA, hb, hc⟩ := h.2 hn
    refine ⟨b, o, hA, hb, fun j a ha => ?_⟩
    obtain ⟨cs, h1, h2, h3⟩ := hc j a ha
    exact ⟨cs, h1, fun i x hx => (cell_of_block_eq (hk b hb) _).trans (h2 i x hx), ok.keep h3 hk⟩⟩

theorem RdSl.more (ok : RdOk R) (h : RdSl size R w B A n ls) (hB : B ≤ B') : RdSl size R w B' A n ls :=
  ⟨h.1, fun hn => by
    obtain ⟨b, o, hA, hb, hc⟩ := h.2 hn
    refine ⟨b, o, hA, by omega, fun j a ha => ?_⟩
    obtain ⟨cs, h1, h2, h3⟩ := hc j a ha
    exact ⟨cs, h1, h2, ok.more h3 hB⟩⟩

theorem RdSl.below (ok : RdOk R) (h : RdSl size R w B A n ls) (hb : Below B' w w') (hB : B ≤ B') : RdSl size R w' B A n ls := h.keep ok fun k hk => hb.block k (by omega)

theorem RdSl.chgF (ok : RdOk R) {F : Nat → Prop} (h : RdSl size R w B A n ls) (hc : ChgF F w w') (hF : ∀ k, k < B → ¬ F k) (hs : B ≤ w.heap.size) : RdSl size R w' B A n ls := h.keep ok fun k hk => hc.block k (by omega) (hF k hk)

theorem RdSl.at_ (h : RdSl size R w B A n ls) {k : Nat} (hk : k < n) : ∃ b o a cs, A = some ⟨b, o, none⟩ ∧ b < B ∧ ls[k]? = some a ∧ cs.length = size ∧ (∀ i x, cs[i]? = some x → w.cell? ⟨b, o + (k * size + i), none⟩ = some x) ∧ R w B cs a := by
  obtain ⟨b, o, hA, hb, hc⟩ := h.2 (by omega)
  have hl : k < ls.length := by have := h.1; omega
  obtain ⟨cs, h1, h2, h3⟩ := hc k _ (List.getElem?_eq_getElem hl)
  exact ⟨b, o, ls[k], cs, hA, hb, List.getElem?_eq_getElem hl, h1, h2, h3⟩

end

/-- How one element owns memory ('E w F cs a': the cells cs read ls a and own the blocks F): it hangs on F alone. -/
structure OwnOk {α : Type} (E : World → (Nat → Prop) → List Value → α → Prop) : Prop where
  bound : ∀ {w : World} {F : Nat → Prop} {cs : List Value} {a : α}, E w F cs a → ∀ k, F k → k < w.heap.size
  keep : ∀ {w w' : World} {F : Nat → Prop} {cs : List Value} {a : α}, E w F cs a → (∀ k, F k → w'.heap[k]? = w.heap[k]?) → E w' F cs a

theorem OwnOk.chg {α : Type} {E : World → (Nat → Prop) → List Value → α → Prop} (ok : OwnOk E) {w w' : World} {F G : Nat → Prop} {cs : List Value} {a : α} (h : E w F cs a) (c : ChgF G w w') (hd : ∀ k, F k → ¬ G k) : E w' F cs a :=
  ok.keep h fun k hk => c.block k (ok.bound h k hk) (hd k hk)

/-- One element: its cells, its blocks, what it reads ls. -/
structure Item (α : Type) where
  cs : List Value
  F : Nat → Prop
  a : α

theorem flat_get {α : Type} {size : Nat} : ∀ (ts : List (Item α)) (_ : ∀ t ∈ ts, t.cs.length = size) (j i : Nat) (t : Item α), ts[j]? = some t → i < size → (ts.flatMap (·.cs))[j * size + i]? = t.cs[i]?
  | [], _, j, i, t, h, _ => by simp at h
  | s :: ts, hs, 0, i, t, h, hi => by
    have : s.cs.length = size := hs s (by simp)
    simp at h
    subst h
    rw [Nat.zero_mul, Nat.zero_add, List.flatMap_cons, List.getElem?_append_left (by omega)]
  | s :: ts, hs, j + 1, i, t, h, hi => by
    have h1 : s.cs.length = size := hs s (by simp)
    rw [List.flatMap_cons, List.getElem?_append_right (by rw [h1, Nat.succ_mul]; omega), h1, show (j + 1) * size + i - size = j * size + i by rw [Nat.succ_mul]; omega]
    exact flat_get ts (fun t ht => hs t (by simp [ht])) j i t (by simpa using h) hi

theorem flat_set {α : Type} {size : Nat} (x : Value) (F : Nat → Prop) (a : α) : ∀ (ts : List (Item α)) (_ : ∀ t ∈ ts, t.cs.length = size) (j i : Nat) (t : Item α), ts[j]? = some t → i < size →
    (ts.flatMap (·.cs)).set (j * size + i) x = (ts.set j ⟨t.cs.set i x, F, a⟩).flatMap (·.cs)
  | [], _, j, i, t, h, _ => by simp at h
  | s :: ts, hs, 0, i, t, h, hi => by
    have : s.cs.length = size := hs s (by simp)
    simp at h
    subst h
    rw [Nat.zero_mul, Nat.zero_add, List.flatMap_cons, List.set_append_left _ _ (by omega), List.set_cons_zero, List.flatMap_cons]
  | s :: ts, hs, j + 1, i, t, h, hi => by
    have h1 : s.cs.length = size := hs s (by simp)
    rw [List.flatMap_cons, List.set_append_right _ _ (by rw [h1, Nat.succ_mul]; omega), h1, show (j + 1) * size + i - size = j * size + i by rw [Nat.succ_mul]; omega, List.set_cons_succ, List.flatMap_cons,
      flat_set x F a ts (fun t ht => hs t (by simp [ht])) j i t (by simpa using h) hi]

theorem flat_len {α : Type} {size : Nat} : ∀ (ts : List (Item α)), (∀ t ∈ ts, t.cs.length = size) → (ts.flatMap (·.cs)).length = ts.length * size
  | [], _ => by simp
  | s :: ts, hs => by
    rw [List.flatMap_cons, List.length_append, hs s (by simp), flat_len ts (fun t ht => hs t (by simp [ht])), List.length_cons, Nat.succ_mul]
    omega

/-- One cell of an owned row is written. -/
theorem ownsRow_set {w : World} {base : Nat} {e : TypeId} {size : Nat} {v : Value} {n : Nat} {xs : List Value} (h : w.ownsRow base e size v n xs) {i : Nat} (hi : i < n * size) (x : Value) :
    ∃ g c, v = .slice (some ⟨g, 0, none⟩) n c ∧ base ≤ g ∧ g < w.heap.size ∧ w.cell? ⟨g, i, none⟩ = xs[i]? ∧ w.frozen? ⟨g, i, none⟩ = false ∧ (w.setCell ⟨g, i, none⟩ x).ownsRow base e size v n (xs.set i x) := by
  rcases h.2 with ⟨hv, h0⟩ | ⟨g, cap, cur, hv, hlo, hg, hnc, hcm, hsz, ht⟩
  · subst h0
    omega
  · have hle : n * size ≤ cap * size := Nat.mul_le_mul_right _ hnc
    refine ⟨g, cap, hv, hlo, (Array.getElem?_eq_some_iff.1 hg).1, ?_, by simp [World.frozen?, hg], ⟨by rw [List.length_set]; exact h.1, .inr ⟨g, cap, cur.setIfInBounds i x, hv, hlo, by simp [World.setCell, Array.getElem?_modify, hg], hnc, hcm, by simpa using hsz, ?_⟩⟩⟩
    · rw [cell_of_row w g i cur e (0, 0) hg, ← ht, List.getElem?_take, if_pos hi]
      simp
    · rw [Array.toList_setIfInBounds, ← ht, List.take_set]

theorem ownsRow_base {w : World} {base base' : Nat} {e : TypeId} {size : Nat} {v : Value} {n : Nat} {xs : List Value} (h : w.ownsRow base e size v n xs) (hb : ∀ g, v.ownBlock = some g → base' ≤ g) : w.ownsRow base' e size v n xs := by
  refine ⟨h.1, ?_⟩
  rcases h.2 with hn | ⟨g, cap, cur, rfl, hlo, rest⟩
  · exact .inl hn
  · exact .inr ⟨g, cap, cur, rfl, hb g rfl, rest⟩

theorem ownsRow_keep {w w' : World} {lo n size : Nat} {e : TypeId} {v : Value} {xs : List Value} (h : w.ownsRow lo e size v n xs) (hk : ∀ g, v.ownBlock = some g → w'.heap[g]? = w.heap[g]?) : w'.ownsRow lo e size v n xs := by
  refine ⟨h.1, ?_⟩
  rcases h.2 with hn | ⟨g, cap, cur, rfl, hb, hgg, rest⟩
  · exact .inl hn
  · exact .inr ⟨g, cap, cur, rfl, hb, (hk g rfl).trans hgg, rest⟩

theorem ownsRow_cell {w : World} {base : Nat} {e : TypeId} {size : Nat} {v : Value} {n : Nat} {xs : List Value} (h : w.ownsRow base e size v n xs) {i : Nat} (hi : i < n * size) :
    ∃ g c, v = .slice (some ⟨g, 0, none⟩) n c ∧ base ≤ g ∧ g < w.heap.size ∧ w.cell? ⟨g, i, none⟩ = xs[i]? ∧ w.frozen? ⟨g, i, none⟩ = false := by
  obtain ⟨g, c, h1, h2, h3, h4, h5, _⟩ := ownsRow_set h hi (.bool true)
  exact ⟨g, c, h1, h2, h3, h4, h5⟩

/-- The items ts lie in the slice v and in blocks of F; all apart. -/
structure OwnT {α : Type} (e : TypeId) (size : Nat) (E : World → (Nat → Prop) → List Value → α → Prop) (w : World) (F : Nat → Prop) (v : Value) (ts : List (Item α)) : Prop where
  row : w.ownsRow 0 e size v ts.length (ts.flatMap (·.cs))
  len : ∀ t ∈ ts, t.cs.length = size
  elem : ∀ t ∈ ts, E w t.F t.cs t.a
  apart : ts.Pairwise fun s t => ∀ k, s.F k → ¬ t.F k
  head : ∀ g, v.ownBlock = some g → F g ∧ ∀ t ∈ ts, ¬ t.F g
  inF : ∀ t ∈ ts, ∀ k, t.F k → F k
  bound : ∀ k, F k → k < w.heap.size

/-- The slice v reads as a list and owns the blocks F. -/
def OwnSl {α : Type} (e : TypeId) (size : Nat) (E : World → (Nat → Prop) → List Value → α → Prop) (w : World) (F : Nat → Prop) (v : Value) (ls : List α) : Prop := ∃ ts : List (Item α), ls = ts.map (·.a) ∧ OwnT e size E w F v ts

section

variable {α : Type} {e : TypeId} {size : Nat} {E : World → (Nat → Prop) → List Value → α → Prop} {w w' : World} {F G : Nat → Prop} {v : Value} {ts : List (Item α)} {ls : List α}

theorem OwnT.keep (ok : OwnOk E) (h : OwnT e size E w F v ts) (hs : w.heap.size ≤ w'.heap.size) (hk : ∀ k, F k → w'.heap[k]? = w.heap[k]?) : OwnT e size E w' F v ts :=
  ⟨ownsRow_keep h.row fun g hg => hk g (h.head g hg).1, h.len, fun t ht => ok.keep (h.elem t ht) fun k hf => hk k (h.inF t ht k hf), h.apart, h.head, h.inF, fun k hf => Nat.lt_of_lt_of_le (h.bound k hf) hs⟩

theorem OwnT.wide (h : OwnT e size E w F v ts) (hs : ∀ k, F k → G k) (hb : ∀ k, G k → k < w.heap.size) : OwnT e size E w G v ts :=
  ⟨h.row, h.len, h.elem, h.apart, fun g hg => ⟨hs g (h.head g hg).1, (h.head g hg).2⟩, fun t ht k hk => hs k (h.inF t ht k hk), hb⟩

theorem OwnSl.keep (ok : OwnOk E) (h : OwnSl e size E w F v ls) (hs : w.heap.size ≤ w'.heap.size) (hk : ∀ k, F k → w'.heap[k]? = w.heap[k]?) : OwnSl e size E w' F v ls := by
  obtain ⟨ts, h1, h2⟩ := h
  exact ⟨ts, h1, h2.keep ok hs hk⟩

theorem OwnSl.wide (h : OwnSl e size E w F v ls) (hs : ∀ k, F k → G k) (hb : ∀ k, G k → k < w.heap.size) : OwnSl e size E w G v ls := by
  obtain ⟨ts, h1, h2⟩ := h
  exact ⟨ts, h1, h2.wide hs hb⟩

theorem OwnSl.bound (h : OwnSl e size E w F v ls) : ∀ k, F k → k < w.heap.size := by
  obtain ⟨ts, h1, h2⟩ := h
  exact h2.bound

theorem OwnSl.chgF (ok : OwnOk E) (h : OwnSl e size E w F v ls) (c : ChgF G w w') (hd : ∀ k, F k → ¬ G k) : OwnSl e size E w' F v ls :=
  h.keep ok c.size fun k hk => c.block k (h.bound k hk) (hd k hk)

theorem OwnSl.form (h : OwnSl e size E w F v ls) : ∃ A c, v = .slice A ls.length c := by
  obtain ⟨ts, rfl, h2⟩ := h
  rw [List.length_map]
  rcases h2.row.2 with ⟨hv, h0⟩ | ⟨g, cap, cur, hv, _⟩
  · exact ⟨none, 0, by rw [hv, h0]⟩
  · exact ⟨_, _, hv⟩

theorem OwnSl.nil (w : World) (F : Nat → Prop) (hb : ∀ k, F k → k < w.heap.size) : OwnSl e size E w F (.slice none 0 0) ([] : List α) :=
  ⟨[], rfl, World.ownsRow_nil _ _ _ _, by simp, by simp, .nil, fun g hg => by simp [Value.ownBlock] at hg, by simp, hb⟩

/-- An empty slice in a new block. -/
theorem OwnSl.empty (w : World) : OwnSl e size E (w.alloc (.cells #[] e)) (fun k => k = w.heap.size) (.slice (some ⟨w.heap.size, 0, none⟩) 0 0) ([] : List α) :=
  ⟨[], rfl, World.ownsRow_made (base := 0) (e := e) (size := size) w #[] 0 (Nat.zero_le _) (by unfold maxLen; omega) (by simp), by simp, by simp, .nil, fun g hg => by
    simp [Value.ownBlock] at hg
    subst hg
    exact ⟨rfl, by simp⟩, by simp, fun k hk => by subst hk; simp⟩

/-- The row of cells, and what an element more makes of it. -/
theorem OwnSl.open_ (ok : OwnOk E) (h : OwnSl e size E w F v ls) : ∃ xs : List Value, w.ownsRow 0 e size v ls.length xs ∧ (∀ g, v.ownBlock = some g → F g) ∧
    ∀ (w1 w' : World) (G : Nat → Prop) (cs : List Value) (a : α) (g cap : Nat), ChgF (fun _ => False) w w1 → E w1 G cs a → cs.length = size → (∀ k, F k → ¬ G k) →
      w'.ownsRow 0 e size (.slice (some ⟨g, 0, none⟩) (ls.length + 1) cap) (ls.length + 1) (xs ++ cs) → w1.grownBy w' v.ownBlock → (v.ownBlock = some g ∨ w1.heap.size ≤ g) →
      OwnSl e size E w' (fun k => F k ∨ G k ∨ k = g) (.slice (some ⟨g, 0, none⟩) (ls.length + 1) cap) (ls ++ [a]) := by
  obtain ⟨ts, rfl, h⟩ := h
  refine ⟨ts.flatMap (·.cs), by rw [List.length_map]; exact h.row, fun g hg => (h.head g hg).1, fun w1 w' G cs a g cap hc hE hl hFG hown hgrow hg => ?_⟩
  rw [List.length_map] at hown ⊢
  have h1 := h.keep ok hc.size fun k hk => hc.block k (h.bound k hk) (by simp)
  have hglt : g < w'.heap.size := (hown.lt g rfl).2
  have hold : ∀ t ∈ ts, E w' t.F t.cs t.a := fun t ht => ok.keep (h1.elem t ht) fun k hk => hgrow.block k (ok.bound (h1.elem t ht) k hk) fun hr => (h1.head k hr.symm).2 t ht hk
  have hGE : E w' G cs a := ok.keep hE fun k hk => hgrow.block k (ok.bound hE k hk) fun hr => hFG k (h1.head k hr.symm).1 hk
  have hgn : ¬ G g := fun hgG => by
    rcases hg with hg | hg
    · exact hFG g (h1.head g hg).1 hgG
    · have := ok.bound hE g hgG; omega
  have hgt : ∀ t ∈ ts, ¬ t.F g := fun t ht hf => by
    rcases hg with hg | hg
    · exact (h1.head g hg).2 t ht hf
    · have := ok.bound (h1.elem t ht) g hf; omega
  refine ⟨ts ++ [⟨cs, G, a⟩], by simp, ?_, ?_, ?_, ?_, ?_, ?_, ?_⟩
  · rw [List.length_append, List.length_singleton, List.flatMap_append]
    simpa using hown
  · intro t ht
    rcases List.mem_append.1 ht with ht | ht
    · exact h.len t ht
    · obtain rfl := List.mem_singleton.1 ht
      exact hl
  · intro t ht
    rcases List.mem_append.1 ht with ht | ht
    · exact hold t ht
    · obtain rfl := List.mem_singleton.1 ht
      exact hGE
  · rw [List.pairwise_append]
    refine ⟨h.apart, by simp, fun s hs t ht k hk => ?_⟩
    obtain rfl := List.mem_singleton.1 ht
    exact hFG k (h.inF s hs k hk)
  · intro g' hg'
    simp [Value.ownBlock] at hg'
    subst hg'
    refine ⟨.inr (.inr rfl), fun t ht => ?_⟩
    rcases List.mem_append.1 ht with ht | ht
    · exact hgt t ht
    · obtain rfl := List.mem_singleton.1 ht
      exact hgn
  · intro t ht k hk
    rcases List.mem_append.1 ht with ht | ht
    · exact .inl (h.inF t ht k hk)
    · obtain rfl := List.mem_singleton.1 ht
      exact .inr (.inl hk)
  · intro k hk
    rcases hk with hk | hk | rfl
    · exact Nat.lt_of_lt_of_le (h1.bound k hk) hgrow.size
    · exact Nat.lt_of_lt_of_le (ok.bound hE k hk) hgrow.size
    · exact hglt

/-- Element j: its cells, its blocks, and what becomes of the whole when it changes. -/
theorem OwnSl.at_ (ok : OwnOk E) (h : OwnSl e size E w F v ls) {j : Nat} (hj : j < ls.length) (h0 : 0 < size) : ∃ g c, v = .slice (some ⟨g, 0, none⟩) ls.length c ∧ F g ∧ ∃ (cs : List Value) (a : α) (H : Nat → Prop),
    ls[j]? = some a ∧ cs.length = size ∧ E w H cs a ∧ (∀ k, H k → F k ∧ k ≠ g) ∧ (∀ i x, cs[i]? = some x → w.cell? ⟨g, j * size + i, none⟩ = some x ∧ w.frozen? ⟨g, j * size + i, none⟩ = false) ∧
    (∀ (w' : World) (a' : α), ChgF H w w' → E w' H cs a' → OwnSl e size E w' F v (ls.set j a')) ∧
    (∀ (w1 : World) (G : Nat → Prop) (i : Nat) (x : Value) (a' : α), ChgF (fun _ => False) w w1 → i < size → E w1 G (cs.set i x) a' → (∀ k, G k → H k ∨ w.heap.size ≤ k) → OwnSl e size E (w1.setCell ⟨g, j * size + i, none⟩ x) (fun k => F k ∨ G k) v (ls.set j a')) := by
  obtain ⟨ts, rfl, h⟩ := h
  rw [List.length_map] at hj ⊢
  have hm : ts[j] ∈ ts := List.getElem_mem hj
  have hge : ts[j]? = some ts[j] := List.getElem?_eq_getElem hj
  have hidx : ∀ i, i < size → j * size + i < ts.length * size := fun i hi => by
    have : (j + 1) * size ≤ ts.length * size := Nat.mul_le_mul_right _ hj
    rw [Nat.succ_mul] at this
    omega
  obtain ⟨g, c, hv, _, hglt, _, _⟩ := ownsRow_cell h.row (hidx 0 h0)
  have hgF := h.head g (by rw [hv]; rfl)
  have hdis : ∀ i s, ts[i]? = some s → i ≠ j → ∀ k, s.F k → ¬ ts[j].F k := by
    intro i s hs hne k hk hk'
    have hil : i < ts.length := (List.getElem?_eq_some_iff.1 hs).1
    have hse : ts[i] = s := (List.getElem?_eq_some_iff.1 hs).2
    subst hse
    rcases Nat.lt_or_gt_of_ne hne with hlt | hgt
    · exact List.pairwise_iff_getElem.1 h.apart i j hil hj hlt k hk hk'
    · exact List.pairwise_iff_getElem.1 h.apart j i hj hil hgt k hk' hk
  have mem_set : ∀ (t' : Item α) s, s ∈ ts.set j t' → s = t' ∨ ∃ i, i ≠ j ∧ ts[i]? = some s := by
    intro t' s hs
    obtain ⟨i, hi⟩ := List.mem_iff_getElem?.1 hs
    rw [List.getElem?_set] at hi
    split at hi
    · exact .inl (by injection hi with hi; exact hi.symm)
    · exact .inr ⟨i, by omega, hi⟩
  have pair_set : ∀ (t' : Item α), (∀ i s, ts[i]? = some s → i ≠ j → ∀ k, s.F k → ¬ t'.F k) → (ts.set j t').Pairwise fun s t => ∀ k, s.F k → ¬ t.F k := by
    intro t' ht'
    rw [List.pairwise_iff_getElem]
    intro a b ha hb hab k hk hk'
    rw [List.getElem_set] at hk hk'
    have ha' : a < ts.length := by simpa using ha
    have hb' : b < ts.length := by simpa using hb
    split at hk
    · split at hk'
      · omega
      · exact ht' b ts[b] (List.getElem?_eq_getElem hb') (by omega) k hk' hk
    · split at hk'
      · exact ht' a ts[a] (List.getElem?_eq_getElem ha') (by omega) k hk hk'
      · exact List.pairwise_iff_getElem.1 h.apart a b ha' hb' hab k hk hk'
  refine ⟨g, c, hv, hgF.1, ts[j].cs, ts[j].a, ts[j].F, by simp [hge], h.len _ hm, h.elem _ hm, fun k hk => ⟨h.inF _ hm k hk, fun e => hgF.2 _ hm (e ▸ hk)⟩, ?_, ?_, ?_⟩
  · intro i x hx
    have hi : i < size := by rw [← h.len _ hm]; exact (List.getElem?_eq_some_iff.1 hx).1
    obtain ⟨g', c', hv', _, _, hc, hf⟩ := ownsRow_cell h.row (hidx i hi)
    rw [hv] at hv'
    injection hv' with h1 _ _
    injection h1 with h1
    injection h1 with h1
    subst h1
    exact ⟨hc.trans ((flat_get ts h.len j i _ hge hi).trans hx), hf⟩
  · intro w' a' hc hE
    refine ⟨ts.set j ⟨ts[j].cs, ts[j].F, a'⟩, by rw [List.map_set], ?_, ?_, ?_, ?_, ?_, ?_, ?_⟩
    · have : (ts.set j ⟨ts[j].cs, ts[j].F, a'⟩).flatMap (·.cs) = ts.flatMap (·.cs) := by
        rw [List.flatMap_def, List.flatMap_def, List.map_set]
        congr 1
        apply List.ext_getElem?
        intro i
        rw [List.getElem?_set]
        split
        · rename_i hij
          subst hij
          simp [hj]
        · rfl
      rw [List.length_set, this]
      exact ownsRow_keep h.row fun g' hg' => hc.block g' (by have := h.row.lt g' hg'; omega) (fun hf => (h.head g' hg').2 _ hm hf)
    · intro s hs
      rcases mem_set _ s hs with rfl | ⟨i, _, hi⟩
      · exact h.len ts[j] hm
      · exact h.len s (List.mem_of_getElem? hi)
    · intro s hs
      rcases mem_set _ s hs with rfl | ⟨i, hij, hi⟩
      · exact hE
      · exact ok.chg (h.elem s (List.mem_of_getElem? hi)) hc fun k hk => hdis i s hi hij k hk
    · exact pair_set _ hdis
    · intro g' hg'
      refine ⟨(h.head g' hg').1, fun s hs => ?_⟩
      rcases mem_set _ s hs with rfl | ⟨i, _, hi⟩
      · exact (h.head g' hg').2 ts[j] hm
      · exact (h.head g' hg').2 s (List.mem_of_getElem? hi)
    · intro s hs k hk
      rcases mem_set _ s hs with rfl | ⟨i, _, hi⟩
      · exact h.inF ts[j] hm k hk
      · exact h.inF s (List.mem_of_getElem? hi) k hk
    · exact fun k hk => Nat.lt_of_lt_of_le (h.bound k hk) hc.size
  · intro w1 G i x a' hc hi hE hG
    have hk1 := h.keep ok hc.size fun k hk => hc.block k (h.bound k hk) (by simp)
    have hGg : ∀ k, G k → k ≠ g := fun k hk e => by
      rcases hG k hk with h1 | h1
      · exact hgF.2 _ hm (e ▸ h1)
      · omega
    have hGo : ∀ i s, ts[i]? = some s → i ≠ j → ∀ k, s.F k → ¬ G k := fun i s hs hij k hk hk' => by
      rcases hG k hk' with h1 | h1
      · exact hdis i s hs hij k hk h1
      · have := ok.bound (h.elem s (List.mem_of_getElem? hs)) k hk; omega
    have hset := chgF_setCell w1 g (j * size + i) x
    obtain ⟨g', c', hv', _, _, _, _, hrow⟩ := ownsRow_set hk1.row (hidx i hi) x
    rw [hv] at hv'
    injection hv' with h1 _ _
    injection h1 with h1
    injection h1 with h1
    subst h1
    refine ⟨ts.set j ⟨ts[j].cs.set i x, G, a'⟩, by rw [List.map_set], ?_, ?_, ?_, ?_, ?_, ?_, ?_⟩
    · rw [List.length_set, ← flat_set x G a' ts h.len j i _ hge hi]
      exact hrow
    · intro s hs
      rcases mem_set _ s hs with rfl | ⟨i, _, hi⟩
      · rw [List.length_set]
        exact h.len _ hm
      · exact h.len s (List.mem_of_getElem? hi)
    · intro s hs
      rcases mem_set _ s hs with rfl | ⟨i, hij, hi⟩
      · exact ok.chg hE hset fun k hk => hGg k hk
      · exact ok.chg (hk1.elem s (List.mem_of_getElem? hi)) hset fun k hk e => hgF.2 s (List.mem_of_getElem? hi) (e ▸ hk)
    · exact pair_set _ hGo
    · intro g' hg'
      have hgg : g' = g := by rw [hv] at hg'; simpa [Value.ownBlock, eq_comm] using hg'
      subst hgg
      refine ⟨.inl hgF.1, fun s hs => ?_⟩
      rcases mem_set _ s hs with rfl | ⟨i, _, hi⟩
      · exact fun hk => hGg _ hk rfl
      · exact hgF.2 s (List.mem_of_getElem? hi)
    · intro s hs k hk
      rcases mem_set _ s hs with rfl | ⟨i, _, hi⟩
      · exact .inr hk
      · exact .inl (h.inF s (List.mem_of_getElem? hi) k hk)
    · intro k hk
      rcases hk with hk | hk
      · exact Nat.lt_of_lt_of_le (hk1.bound k hk) hset.size
      · exact Nat.lt_of_lt_of_le (ok.bound hE k hk) hset.size

/-- A new block of n elements, all alike, that own nothing. -/
theorem OwnSl.made (w : World) (n : Nat) (zs : List Value) (a0 : α) (cur : Array Value) (hl : zs.length = size) (hm : n ≤ maxLen) (hcur : cur.toList = (List.replicate n zs).flatten)
    (hE : E (w.alloc (.cells cur e)) (fun _ => False) zs a0) : OwnSl e size E (w.alloc (.cells cur e)) (fun k => k = w.heap.size) (.slice (some ⟨w.heap.size, 0, none⟩) n n) (List.replicate n a0) := by
  have hfl : (List.replicate n (⟨zs, fun _ => False, a0⟩ : Item α)).flatMap (·.cs) = cur.toList := by rw [hcur, List.flatMap_def, List.map_replicate]
  have hmem : ∀ t ∈ List.replicate n (⟨zs, fun _ => False, a0⟩ : Item α), t = ⟨zs, fun _ => False, a0⟩ := fun t ht => List.eq_of_mem_replicate ht
  have hsz : cur.size = n * size := by rw [← Array.length_toList, ← hfl, flat_len _ (fun t ht => by rw [hmem t ht]; exact hl : ∀ t ∈ List.replicate n (⟨zs, fun _ => False, a0⟩ : Item α), t.cs.length = size), List.length_replicate]
  refine ⟨List.replicate n ⟨zs, fun _ => False, a0⟩, by rw [List.map_replicate], ⟨by rw [hfl, List.length_replicate, ← hsz]; simp, .inr ⟨w.heap.size, n, cur, by rw [List.length_replicate], Nat.zero_le _, heap_alloc_new w _, by rw [List.length_replicate]; exact Nat.le_refl _, hm, hsz, ?_⟩⟩, ?_, ?_, ?_, ?_, ?_, ?_⟩
  · rw [List.length_replicate, hfl]
    exact List.take_of_length_le (by simp [hsz])
  · exact fun t ht => by rw [hmem t ht]; exact hl
  · exact fun t ht => by rw [hmem t ht]; exact hE
  · rw [List.pairwise_iff_getElem]
    intro i j hi hj _ k hk
    simp at hk
  · intro g hg
    simp [Value.ownBlock] at hg
    exact ⟨hg.symm, fun t ht => by rw [hmem t ht]; simp⟩
  · intro t ht k hk
    rw [hmem t ht] at hk
    exact hk.elim
  · intro k hk
    subst hk
    simp

theorem OwnSl.rd {R : World → Nat → List Value → α → Prop} {B n c : Nat} {A : Option Addr} (h : OwnSl e size E w F (.slice A n c) ls) (hn : ls.length = n) (h0 : 0 < size) (hF : ∀ k, F k → k < B)
    (hR : ∀ G cs a, E w G cs a → (∀ k, G k → k < B) → R w B cs a) : RdSl size R w B A n ls := by
  subst hn
  refine ⟨rfl, fun hn => ?_⟩
  obtain ⟨ts, rfl, h⟩ := h
  rw [List.length_map] at hn
  obtain ⟨g, c', hv, _, hglt, _, _⟩ := ownsRow_cell h.row (i := 0) (Nat.mul_pos hn h0)
  injection hv with h1 _ _
  subst h1
  refine ⟨g, 0, rfl, hF g (h.head g rfl).1, fun j a ha => ?_⟩
  rw [List.getElem?_map] at ha
  obtain ⟨t, ht, rfl⟩ := Option.map_eq_some_iff.1 ha
  have hm := List.mem_of_getElem? ht
  have hj : j < ts.length := (List.getElem?_eq_some_iff.1 ht).1
  refine ⟨t.cs, h.len t hm, fun i x hx => ?_, hR t.F t.cs t.a (h.elem t hm) fun k hk => hF k (h.inF t hm k hk)⟩
  have hi : i < size := by rw [← h.len t hm]; exact (List.getElem?_eq_some_iff.1 hx).1
  have hidx : j * size + i < ts.length * size := by
    have : (j + 1) * size ≤ ts.length * size := Nat.mul_le_mul_right _ hj
    rw [Nat.succ_mul] at this
    omega
  obtain ⟨g', c', hv', _, _, hc, _⟩ := ownsRow_cell h.row hidx
  injection hv' with h1 _ _
  injection h1 with h1
  injection h1 with h1
  subst h1
  rw [Nat.zero_add]
  exact hc.trans ((flat_get ts h.len j i _ ht hi).trans hx)

end

end

section
open Go.RowKit Go.Deep

/-- A slice of integers that came in (all numbers up to the capacity). -/
def IsRow (k : IntKind) (w : World) (a : Option Addr) (len cap : Nat) (zs : List Int) : Prop :=
  (a = none ∧ len = 0 ∧ cap = 0 ∧ zs = []) ∨
  ∃ x, a = some x ∧ len ≤ cap ∧ cap ≤ maxLen ∧ zs.length = cap ∧ (∀ i, i < zs.length → w.cell? (x.add i) = some (.int k (zs.getD i 0))) ∧ ∀ n ∈ zs, (Lit.int k n).wf = true

/-- The slice at A with n elements reads as the ints zs, below block B. -/
def RdI (w : World) (B : Nat) (A : Option Addr) (n : Nat) (zs : List Int) : Prop :=
  zs.length = n ∧ (0 < n → ∃ b o, A = some ⟨b, o, none⟩ ∧ b < B ∧ ∀ j x, zs[j]? = some x → w.cell? ⟨b, o + j, none⟩ = some (.int .i64 x))

theorem addr_add (b o j : Nat) : (⟨b, o, none⟩ : Addr).add j = ⟨b, o + j, none⟩ := by unfold Addr.add; split <;> simp_all

theorem RdI.at_ {w : World} {B n k : Nat} {A : Option Addr} {zs : List Int} (h : RdI w B A n zs) (hk : k < n) :
    ∃ b o x, A = some ⟨b, o, none⟩ ∧ b < B ∧ zs[k]? = some x ∧ w.cell? ⟨b, o + k, none⟩ = some (.int .i64 x) := by
  obtain ⟨b, o, hA, hb, hc⟩ := h.2 (by omega)
  have hl : k < zs.length := by have := h.1; omega
  exact ⟨b, o, zs[k], hA, hb, List.getElem?_eq_getElem hl, hc k _ (List.getElem?_eq_getElem hl)⟩

theorem RdI.keep {w w' : World} {B n : Nat} {A : Option Addr} {zs : List Int} (h : RdI w B A n zs) (hk : ∀ p : Addr, p.block < B → w'.cell? p = w.cell? p) : RdI w' B A n zs :=
  ⟨h.1, fun hn => by
    obtain ⟨b, o, hA, hb, hc⟩ := h.2 hn
    exact ⟨b, o, hA, hb, fun j x hx => (hk _ hb).trans (hc j x hx)⟩⟩

theorem RdI.more {w : World} {B B' n : Nat} {A : Option Addr} {zs : List Int} (h : RdI w B A n zs) (hB : B ≤ B') : RdI w B' A n zs :=
  ⟨h.1, fun hn => by
    obtain ⟨b, o, hA, hb, hc⟩ := h.2 hn
    exact ⟨b, o, hA, by omega, hc⟩⟩

theorem RdI.below {w w' : World} {B n : Nat} {A : Option Addr} {zs : List Int} (h : RdI w B A n zs) (hb : Below B w w') : RdI w' B A n zs := h.keep fun _ hp => hb.cell hp

theorem RdI.go {w w' : World} {B B' n : Nat} {A : Option Addr} {zs : List Int} (h : RdI w B A n zs) (hb : Below B' w w') (hB : B ≤ B') : RdI w' B' A n zs := (h.more hB).below hb

theorem RdI.size_le {w : World} {B n : Nat} {A : Option Addr} {zs : List Int} (h : RdI w B A n zs) (_ : B ≤ w.heap.size) : RdI w w.heap.size A n zs :=
  ⟨h.1, fun hn => by
    obtain ⟨b, o, hA, hb, hc⟩ := h.2 hn
    exact ⟨b, o, hA, by omega, hc⟩⟩

theorem rdI_of_row {w : World} {a : Option Addr} {len cap : Nat} {zs : List Int} (h : IsRow .i64 w a len cap zs) : RdI w w.heap.size a len (zs.take len) ∧ len ≤ maxLen := by
  rcases h with ⟨rfl, rfl, rfl, rfl⟩ | ⟨x, rfl, hl, hm, hz, hcell, _⟩
  · exact ⟨⟨rfl, fun h => absurd h (by omega)⟩, by unfold maxLen; omega⟩
  · refine ⟨⟨by rw [List.length_take, hz]; omega, fun hn => ?_⟩, by omega⟩
    obtain ⟨b, off, spot⟩ := x
    have hc := hcell 0 (by omega)
    have hspot : spot = none := by simpa [Addr.add] using World.cell?_spot hc
    subst hspot
    refine ⟨b, off, rfl, ?_, fun j y hy => ?_⟩
    · have := World.block_lt_of_cell? w _ hc
      rw [addr_add] at this
      exact this
    · have hj : j < zs.length := by
        rw [List.getElem?_take] at hy
        split at hy
        · exact (List.getElem?_eq_some_iff.1 hy).1
        · cases hy
      rw [← addr_add, hcell j hj]
      rw [List.getElem?_take] at hy
      split at hy
      · rw [List.getD_eq_getElem?_getD, hy]
        rfl
      · cases hy

/-- Block g is just the ints zs. -/
def IBlk (w : World) (g : Nat) (zs : List Int) : Prop := w.heap[g]? = some (.cells (zs.map iv).toArray 3 (0, 0))

theorem IBlk.lt {w : World} {g : Nat} {zs : List Int} (h : IBlk w g zs) : g < w.heap.size := (Array.getElem?_eq_some_iff.1 h).1

theorem IBlk.cell {w : World} {g : Nat} {zs : List Int} (h : IBlk w g zs) (j : Nat) : w.cell? ⟨g, j, none⟩ = (zs[j]?).map iv := by
  unfold IBlk at h
  rw [cell_of_row w g j _ _ (0, 0) h]
  simp

theorem IBlk.frozen {w : World} {g : Nat} {zs : List Int} (h : IBlk w g zs) (j : Nat) : w.frozen? ⟨g, j, none⟩ = false := by
  unfold IBlk at h
  simp [World.frozen?, h]

theorem IBlk.below {w w' : World} {B g : Nat} {zs : List Int} (h : IBlk w g zs) (hb : Below B w w') (hg : g < B) : IBlk w' g zs := (hb.block g hg).trans h

theorem IBlk.set_ {w : World} {g : Nat} {zs : List Int} (h : IBlk w g zs) (i : Nat) (x : Int) : IBlk (w.setCell ⟨g, i, none⟩ (.int .i64 x)) g (zs.set i x) := by
  unfold IBlk at h ⊢
  simp [World.setCell, Array.getElem?_modify, h, List.map_set, iv]

theorem IBlk.rd {w : World} {g B : Nat} {zs : List Int} (h : IBlk w g zs) (hB : g < B) : RdI w B (some ⟨g, 0, none⟩) zs.length zs :=
  ⟨rfl, fun _ => ⟨g, 0, rfl, hB, fun j x hx => by rw [Nat.zero_add, h.cell, hx]; rfl⟩⟩

theorem IBlk.rd' {w : World} {g n : Nat} {zs : List Int} (h : IBlk w g zs) (hn : zs.length = n) : RdI w w.heap.size (some ⟨g, 0, none⟩) n zs := by
  subst hn
  exact h.rd h.lt

theorem IBlk.next {w w' : World} {g : Nat} {zs : List Int} (h : IBlk w g zs) (hb : Below w.heap.size w w') : IBlk w' g zs := h.below hb h.lt

theorem RdI.next {w w' : World} {n : Nat} {A : Option Addr} {zs : List Int} (h : RdI w w.heap.size A n zs) (hb : Below w.heap.size w w') : RdI w' w'.heap.size A n zs := (h.below hb).more hb.size

theorem below_chain {w w1 w2 : World} {B : Nat} (h : Below B w w1) (k : Below w1.heap.size w1 w2) (hB : B ≤ w1.heap.size) : Below B w w2 := h.trans (k.mono hB)

/-- A value that is a row of the call's own, in a block from lo to hi, and reads as the ints zs. -/
def OwnI (w : World) (lo hi : Nat) (v : Value) (zs : List Int) : Prop := w.ownsRow lo 3 1 v zs.length (zs.map iv) ∧ ∀ g, v.ownBlock = some g → g < hi

theorem own_form {w : World} {lo n : Nat} {v : Value} {e : TypeId} {size : Nat} {xs : List Value} (h : w.ownsRow lo e size v n xs) : ∃ A c, v = .slice A n c := by
  rcases h.2 with ⟨hv, h0⟩ | ⟨g, cap, cur, hv, _⟩
  · exact ⟨none, 0, by rw [hv, h0]⟩
  · exact ⟨_, _, hv⟩

theorem OwnI.form {w : World} {lo hi : Nat} {v : Value} {zs : List Int} (h : OwnI w lo hi v zs) : ∃ A c, v = .slice A zs.length c := own_form h.1

theorem OwnI.rd {w : World} {lo hi n c : Nat} {A : Option Addr} {zs : List Int} (h : OwnI w lo hi (.slice A n c) zs) (hn : zs.length = n) : RdI w hi A n zs := by
  subst hn
  refine ⟨rfl, fun hn => ?_⟩
  rcases h.1.2 with ⟨hv, h0⟩ | ⟨g, cap, cur, hv, _, hg, _, _, _, ht⟩
  · omega
  · injection hv with hA _ _
    subst hA
    refine ⟨g, 0, rfl, h.2 g rfl, fun j x hx => ?_⟩
    rw [Nat.zero_add, cell_of_row w g j _ _ (0, 0) hg]
    have hj : j < zs.length := (List.getElem?_eq_some_iff.1 hx).1
    have h1 : (cur.toList.take (zs.length * 1))[j]? = (zs.map iv)[j]? := by rw [ht]
    rw [List.getElem?_take, if_pos (by omega), List.getElem?_map, hx] at h1
    simpa [iv] using h1

theorem IBlk.ownI {w : World} {g lo hi : Nat} {zs : List Int} (h : IBlk w g zs) (hlo : lo ≤ g) (hhi : g < hi) (hl : zs.length ≤ maxLen) : OwnI w lo hi (.slice (some ⟨g, 0, none⟩) zs.length zs.length) zs :=
  ⟨⟨by simp, .inr ⟨g, zs.length, (zs.map iv).toArray, rfl, hlo, h, Nat.le_refl _, hl, by simp, by rw [Nat.mul_one]; exact List.take_of_length_le (by simp)⟩⟩, fun g' hg' => by
    simp [Value.ownBlock] at hg'
    omega⟩

theorem OwnI.nil (w : World) (lo hi : Nat) : OwnI w lo hi (.slice none 0 0) [] := ⟨World.ownsRow_nil _ _ _ _, fun g hg => by simp [Value.ownBlock] at hg⟩

theorem ownI_of {w : World} {lo : Nat} {v : Value} {zs : List Int} (h : w.ownsRow lo 3 1 v zs.length (zs.map iv)) : OwnI w lo w.heap.size v zs := ⟨h, fun g hg => (h.lt g hg).2⟩

theorem own_snoc {w : World} {lo : Nat} {v : Value} {zs : List Int} {x : Int} (h : w.ownsRow lo 3 1 v (zs.length + 1) (zs.map iv ++ [.int .i64 x])) : w.ownsRow lo 3 1 v (zs ++ [x]).length ((zs ++ [x]).map iv) := by
  rw [List.length_append, List.length_singleton, List.map_append]
  exact h

theorem own_empty (w : World) (lo : Nat) (h : lo ≤ w.heap.size) : (w.alloc (.cells #[] 3)).ownsRow lo 3 1 (.slice (some ⟨w.heap.size, 0, none⟩) 0 0) ([] : List Int).length (([] : List Int).map iv) :=
  World.ownsRow_made (base := lo) (e := 3) (size := 1) w #[] 0 h (by unfold maxLen; omega) rfl

/-- Blocks from lo to hi may have changed, and blocks may have come; all else is as it was. -/
structure Chg (lo hi : Nat) (w w' : World) : Prop where
  os : w'.os = w.os
  tape : w'.tape = w.tape
  output : w'.output = w.output
  size : w.heap.size ≤ w'.heap.size
  block : ∀ k, k < w.heap.size → (k < lo ∨ hi ≤ k) → w'.heap[k]? = w.heap[k]?

theorem Chg.below {lo hi B : Nat} {w w' : World} (h : Chg lo hi w w') (hB : B ≤ lo) (hs : B ≤ w.heap.size) : Below B w w' := ⟨h.os, h.tape, h.output, h.size, fun k hk => h.block k (by omega) (.inl (by omega))⟩

theorem Chg.trans {lo hi : Nat} {a b c : World} (h : Chg lo hi a b) (k : Chg lo hi b c) : Chg lo hi a c :=
  ⟨k.os.trans h.os, k.tape.trans h.tape, k.output.trans h.output, Nat.le_trans h.size k.size, fun i hi hne => (k.block i (Nat.lt_of_lt_of_le hi h.size) hne).trans (h.block i hi hne)⟩

theorem Chg.refl (lo hi : Nat) (w : World) : Chg lo hi w w := ⟨rfl, rfl, rfl, Nat.le_refl _, fun _ _ _ => rfl⟩

theorem OwnI.lt {w : World} {lo hi : Nat} {v : Value} {zs : List Int} (h : OwnI w lo hi v zs) : ∀ g, v.ownBlock = some g → lo ≤ g ∧ g < hi ∧ g < w.heap.size := fun g hg => ⟨(h.1.lt g hg).1, h.2 g hg, (h.1.lt g hg).2⟩

theorem own_keep {w w' : World} {lo n size : Nat} {e : TypeId} {v : Value} {xs : List Value} (h : w.ownsRow lo e size v n xs) (hk : ∀ g, v.ownBlock = some g → w'.heap[g]? = w.heap[g]?) : w'.ownsRow lo e size v n xs := by
  refine ⟨h.1, ?_⟩
  rcases h.2 with hn | ⟨g, cap, cur, rfl, hb, hgg, rest⟩
  · exact .inl hn
  · exact .inr ⟨g, cap, cur, rfl, hb, (hk g rfl).trans hgg, rest⟩

theorem OwnI.chg {w w' : World} {lo hi a b : Nat} {v : Value} {zs : List Int} (h : OwnI w lo hi v zs) (c : Chg a b w w') (hd : hi ≤ a ∨ b ≤ lo) : OwnI w' lo hi v zs :=
  ⟨own_keep h.1 fun g hg => c.block g (h.lt g hg).2.2 (by have := h.lt g hg; omega), h.2⟩

theorem OwnI.below {w w' : World} {lo hi B : Nat} {v : Value} {zs : List Int} (h : OwnI w lo hi v zs) (b : Below B w w') (hd : hi ≤ B) : OwnI w' lo hi v zs :=
  ⟨own_keep h.1 fun g hg => b.block g (by have := h.lt g hg; omega), h.2⟩

theorem OwnI.wide {w : World} {lo hi hi' : Nat} {v : Value} {zs : List Int} (h : OwnI w lo hi v zs) (hd : hi ≤ hi') : OwnI w lo hi' v zs := ⟨h.1, fun g hg => by have := h.2 g hg; omega⟩

theorem RdI.chg {w w' : World} {B n a b : Nat} {A : Option Addr} {zs : List Int} (h : RdI w B A n zs) (c : Chg a b w w') (hB : B ≤ a) (hs : B ≤ w.heap.size) : RdI w' B A n zs := h.below (c.below hB hs)

theorem RdI.belowB {w w' : World} {B B' n : Nat} {A : Option Addr} {zs : List Int} (h : RdI w B A n zs) (b : Below B' w w') (hB : B ≤ B') : RdI w' B A n zs := h.below (b.mono hB)

def zerI (d : Nat) : Array Value := ((List.replicate d (0 : Int)).map iv).toArray

theorem made_zerI (d : Nat) : madeCells #[.int .i64 0] d = zerI d := by
  unfold zerI madeCells
  apply Array.ext
  · simp
  · intro i h1 h2
    simp [iv, Nat.mod_one]

theorem info_int : (Tryz.prog.info? 3).map (fun i => (i.zero, i.size, i.bytes)) = some (some (.int .i64 0), 1, 8) := by kernel_rfl

theorem make_ints (n : Nat) (h : n ≤ 17592186044416) (W : World) : (Instr.makeSlice 27 (.int .i64 (n : Int)) (.int .i64 (n : Int))).run Tryz.prog W = .ok (.slice (some ⟨W.heap.size, 0, none⟩) n n) (W.alloc (.cells (zerI n) 3)) := by
  rw [← made_zerI]
  exact run_make_row' (P := Tryz.prog) 27 3 (.int .i64 0) 8 Tryz.underlying27 info_int rfl .i64 .i64 n (by omega) (by omega) W

/-- The first k of zs, then zeros. -/
def fillI (zs : List Int) (k : Nat) : List Int := zs.take k ++ List.replicate (zs.length - k) 0

theorem fillI_zero (zs : List Int) : fillI zs 0 = List.replicate zs.length 0 := by simp [fillI]

theorem fillI_full (zs : List Int) : fillI zs zs.length = zs := by simp [fillI]

theorem fillI_length (zs : List Int) (k : Nat) (h : k ≤ zs.length) : (fillI zs k).length = zs.length := by simp [fillI]; omega

theorem fillI_step {zs : List Int} {k : Nat} {x : Int} (h : zs[k]? = some x) : (fillI zs k).set k x = fillI zs (k + 1) := by
  have hk : k < zs.length := (List.getElem?_eq_some_iff.1 h).1
  have hx : zs[k] = x := (List.getElem?_eq_some_iff.1 h).2
  unfold fillI
  obtain ⟨m, hm⟩ : ∃ m, zs.length - k = m + 1 := ⟨zs.length - k - 1, by omega⟩
  rw [List.set_append_right _ _ (by rw [List.length_take]; omega), List.length_take, Nat.min_eq_left (by omega), Nat.sub_self, hm, List.replicate_succ, List.set_cons_zero, List.take_succ_eq_append_getElem hk, hx,
    List.append_assoc, List.singleton_append, show zs.length - (k + 1) = m from by omega]

end

section
open Go.RowKit Go.Deep

/-- k, k+1, ..: n numbers. -/
def cnt (k : Int) (n : Nat) : List Int := (List.range n).map fun (i : Nat) => k + (i : Int)

theorem cnt_length (k : Int) (n : Nat) : (cnt k n).length = n := by simp [cnt]

theorem cnt_get {k : Int} {n j : Nat} (h : j < n) : (cnt k n)[j]? = some (k + (j : Int)) := by simp [cnt, h]

/-- The first j counted, the rest of zs. -/
def markTo (zs : List Int) (k : Int) (j : Nat) : List Int := cnt k j ++ zs.drop j

theorem markTo_zero (zs : List Int) (k : Int) : markTo zs k 0 = zs := by simp [markTo, cnt]

theorem markTo_full (zs : List Int) (k : Int) : markTo zs k zs.length = cnt k zs.length := by simp [markTo]

theorem markTo_step {zs : List Int} {k : Int} {j : Nat} (h : j < zs.length) : (markTo zs k j).set j (k + (j : Int)) = markTo zs k (j + 1) := by
  unfold markTo
  rw [List.set_append_right _ _ (by rw [cnt_length]; omega), cnt_length, Nat.sub_self, List.drop_eq_getElem_cons h, List.set_cons_zero]
  unfold cnt
  rw [List.range_succ, List.map_append, List.append_assoc]
  rfl

/-- One element of an owned row is written. -/
theorem OwnI.set_ {w : World} {lo hi n c : Nat} {A : Option Addr} {zs : List Int} {i : Nat} (h : OwnI w lo hi (.slice A n c) zs) (hn : zs.length = n) (hin : i < n) (x : Int) :
    ∃ g y, A = some ⟨g, 0, none⟩ ∧ w.cell? ⟨g, i, none⟩ = some (.int .i64 y) ∧ w.frozen? ⟨g, i, none⟩ = false ∧
      OwnI (w.setCell ⟨g, i, none⟩ (.int .i64 x)) lo hi (.slice A n c) (zs.set i x) ∧ Chg lo hi w (w.setCell ⟨g, i, none⟩ (.int .i64 x)) := by
  rcases h.1.2 with ⟨hv, h0⟩ | ⟨g, cap, cur, hv, hlo, hg, hnc, hcm, hsz, ht⟩
  · omega
  · injection hv with hA hl hcap
    subst hA hcap
    have hi1 : i < cur.size := by omega
    have hghi : g < hi := h.2 g rfl
    have hy : cur[i]? = some (iv (zs[i]'(by omega))) := by
      have h1 : (cur.toList.take (zs.length * 1))[i]? = (zs.map iv)[i]? := by rw [ht]
      rw [List.getElem?_take, if_pos (by omega), List.getElem?_map, List.getElem?_eq_getElem (show i < zs.length by omega)] at h1
      simpa using h1
    refine ⟨g, zs[i]'(by omega), rfl, by rw [cell_of_row w g i _ _ (0, 0) hg]; exact hy, by simp [World.frozen?, hg], ⟨⟨by simp, .inr ⟨g, c, cur.setIfInBounds i (.int .i64 x), by rw [List.length_set, hn], hlo, by simp [World.setCell, Array.getElem?_modify, hg], by rw [List.length_set]; exact hnc, hcm, by simpa using hsz, ?_⟩⟩, h.2⟩,
      ⟨rfl, rfl, rfl, by simp [World.setCell], fun k hk hne => Below.heap_setCell w _ _ k (by show k ≠ g; omega)⟩⟩
    rw [List.length_set, Array.toList_setIfInBounds, List.map_set, ← ht, List.take_set]
    rfl

end

section
open Go.RowKit Go.Deep

/-- A row among the cells of a slice: one cell, the header of a slice of ints. -/
def RRow (w : World) (B : Nat) (cs : List Value) (r : List Int) : Prop := ∃ A c, cs = [.slice A r.length c] ∧ RdI w B A r.length r ∧ r.length ≤ maxLen

theorem rdI_keep {w w' : World} {B n : Nat} {A : Option Addr} {zs : List Int} (h : RdI w B A n zs) (hk : ∀ k, k < B → w'.heap[k]? = w.heap[k]?) : RdI w' B A n zs :=
  h.keep fun p hp => World.cell?_of_block (hk p.block hp)

theorem rRow_ok : RdOk RRow where
  keep := fun ⟨A, c, h1, h2, h3⟩ hk => ⟨A, c, h1, rdI_keep h2 hk, h3⟩
  more := fun ⟨A, c, h1, h2, h3⟩ hB => ⟨A, c, h1, h2.more hB, h3⟩

/-- The slice at A with n elements reads as the rows rs, below block B. -/
abbrev RdR (w : World) (B : Nat) (A : Option Addr) (n : Nat) (rs : List (List Int)) : Prop := RdSl 1 RRow w B A n rs

theorem RdR.at_ {w : World} {B n : Nat} {A : Option Addr} {rs : List (List Int)} (h : RdR w B A n rs) {k : Nat} (hk : k < n) :
    ∃ b o r A' c', A = some ⟨b, o, none⟩ ∧ b < B ∧ rs[k]? = some r ∧ w.cell? ⟨b, o + k, none⟩ = some (.slice A' r.length c') ∧ RdI w B A' r.length r ∧ r.length ≤ maxLen := by
  obtain ⟨b, o, r, cs, hA, hb, hr, _, hc, A', c', rfl, hrd, hm⟩ := RdSl.at_ h hk
  exact ⟨b, o, r, A', c', hA, hb, hr, by simpa using hc 0 _ rfl, hrd, hm⟩

/-- A row of the call's own. -/
def ERow (w : World) (F : Nat → Prop) (cs : List Value) (r : List Int) : Prop := ∃ v, cs = [v] ∧ OwnI w 0 w.heap.size v r ∧ (∀ g, v.ownBlock = some g → F g) ∧ ∀ k, F k → k < w.heap.size

theorem ownI_keep {w w' : World} {lo hi hi' : Nat} {v : Value} {zs : List Int} (h : OwnI w lo hi v zs) (hk : ∀ g, v.ownBlock = some g → w'.heap[g]? = w.heap[g]? ∧ g < hi') : OwnI w' lo hi' v zs :=
  ⟨own_keep h.1 fun g hg => (hk g hg).1, fun g hg => (hk g hg).2⟩

theorem OwnI.narrow {w : World} {lo hi lo' hi' : Nat} {v : Value} {zs : List Int} (h : OwnI w lo hi v zs) (hk : ∀ g, v.ownBlock = some g → lo' ≤ g ∧ g < hi') : OwnI w lo' hi' v zs :=
  ⟨ownsRow_base h.1 fun g hg => (hk g hg).1, fun g hg => (hk g hg).2⟩

theorem lt_of_heap_eq {w w' : World} {k : Nat} (h : w'.heap[k]? = w.heap[k]?) (hk : k < w.heap.size) : k < w'.heap.size := by
  rcases Nat.lt_or_ge k w'.heap.size with h1 | h1
  · exact h1
  · rw [Array.getElem?_eq_none h1, Array.getElem?_eq_getElem hk] at h
    cases h

theorem eRow_ok : OwnOk ERow where
  bound := fun ⟨_, _, _, _, h⟩ => h
  keep := fun ⟨v, h1, h2, h3, h4⟩ hk => ⟨v, h1, ownI_keep h2 fun g hg => ⟨hk g (h3 g hg), lt_of_heap_eq (hk g (h3 g hg)) (h4 g (h3 g hg))⟩, h3, fun k hf => lt_of_heap_eq (hk k hf) (h4 k hf)⟩

theorem ERow.of {w : World} {lo hi : Nat} {v : Value} {r : List Int} (h : OwnI w lo hi v r) (hh : hi ≤ w.heap.size) : ERow w (fun k => lo ≤ k ∧ k < hi) [v] r :=
  ⟨v, rfl, h.narrow fun g hg => ⟨Nat.zero_le _, by have := h.2 g hg; omega⟩, fun g hg => ⟨(h.1.lt g hg).1, h.2 g hg⟩, fun k hk => by omega⟩

/-- The block of a row, as an interval. -/
theorem ERow.iv {w : World} {F : Nat → Prop} {cs : List Value} {r : List Int} (h : ERow w F cs r) : ∃ A c lo hi, cs = [.slice A r.length c] ∧ OwnI w lo hi (.slice A r.length c) r ∧ ∀ k, lo ≤ k ∧ k < hi → F k := by
  obtain ⟨v, rfl, h2, h3, h4⟩ := h
  obtain ⟨A, c, rfl⟩ := h2.form
  cases hg : (Value.slice A r.length c).ownBlock with
  | none => exact ⟨A, c, 0, 0, rfl, h2.narrow (fun g hg' => by rw [hg] at hg'; cases hg'), fun k hk => by omega⟩
  | some g => exact ⟨A, c, g, g + 1, rfl, h2.narrow (fun g' hg' => by rw [hg] at hg'; injection hg' with hg'; omega), fun k hk => by
      obtain rfl : k = g := by omega
      exact h3 k hg⟩

theorem ERow.back {w w' : World} {F : Nat → Prop} {r r' : List Int} {A : Option Addr} {cap lo hi n : Nat} (h : ERow w F [.slice A n cap] r) (ho : OwnI w' lo hi (.slice A n cap) r') (c : Chg lo hi w w') (hF : ∀ k, lo ≤ k ∧ k < hi → F k) : ERow w' F [.slice A n cap] r' ∧ ChgF F w w' := by
  obtain ⟨v, h1, h2, h3, h4⟩ := h
  injection h1 with h1 _
  subst h1
  exact ⟨⟨_, rfl, ho.narrow fun g hg => ⟨Nat.zero_le _, Nat.lt_of_lt_of_le (h4 g (h3 g hg)) c.size⟩, h3, fun k hk => Nat.lt_of_lt_of_le (h4 k hk) c.size⟩,
    ⟨c.os, c.tape, c.output, c.size, fun k hk hn => c.block k hk (by
      by_cases hlo : lo ≤ k
      · by_cases hhi : k < hi
        · exact absurd (hF k ⟨hlo, hhi⟩) hn
        · omega
      · omega)⟩⟩

theorem ownsRow_max {w : World} {base : Nat} {e : TypeId} {size : Nat} {v : Value} {n : Nat} {xs : List Value} (h : w.ownsRow base e size v n xs) : n ≤ maxLen := by
  rcases h.2 with ⟨_, rfl⟩ | ⟨g, cap, cur, _, _, _, hnc, hcm, _⟩
  · exact Nat.zero_le _
  · omega

theorem rRow_of {w : World} {G : Nat → Prop} {B : Nat} {cs : List Value} {r : List Int} (h : ERow w G cs r) (hB : ∀ k, G k → k < B) : RRow w B cs r := by
  obtain ⟨v, rfl, h2, h3, h4⟩ := h
  obtain ⟨A, c, rfl⟩ := h2.form
  exact ⟨A, c, rfl, (h2.narrow (lo' := 0) (hi' := B) fun g hg => ⟨Nat.zero_le _, hB g (h3 g hg)⟩).rd rfl, ownsRow_max h2.1⟩

/-- A slice of rows of the call's own, in blocks from lo to hi. -/
def OwnR (w : World) (lo hi : Nat) (v : Value) (rs : List (List Int)) : Prop := ∃ F, OwnSl 27 1 ERow w F v rs ∧ ∀ k, F k → lo ≤ k ∧ k < hi

theorem OwnR.form {w : World} {lo hi : Nat} {v : Value} {rs : List (List Int)} (h : OwnR w lo hi v rs) : ∃ A c, v = .slice A rs.length c := by
  obtain ⟨F, h1, _⟩ := h
  exact h1.form

theorem OwnR.rd {w : World} {lo hi n c : Nat} {A : Option Addr} {rs : List (List Int)} (h : OwnR w lo hi (.slice A n c) rs) (hn : rs.length = n) : RdR w hi A n rs := by
  obtain ⟨F, h1, h2⟩ := h
  exact h1.rd hn (by omega) (fun k hk => (h2 k hk).2) fun G cs a hE hG => rRow_of hE hG

theorem OwnR.chg {w w' : World} {lo hi a b : Nat} {v : Value} {rs : List (List Int)} (h : OwnR w lo hi v rs) (c : Chg a b w w') (hd : hi ≤ a ∨ b ≤ lo) : OwnR w' lo hi v rs := by
  obtain ⟨F, h1, h2⟩ := h
  exact ⟨F, h1.keep eRow_ok c.size fun k hk => c.block k (h1.bound k hk) (by have := h2 k hk; omega), h2⟩

theorem OwnR.below {w w' : World} {lo hi B : Nat} {v : Value} {rs : List (List Int)} (h : OwnR w lo hi v rs) (b : Below B w w') (hd : hi ≤ B) : OwnR w' lo hi v rs := by
  obtain ⟨F, h1, h2⟩ := h
  exact ⟨F, h1.keep eRow_ok b.size fun k hk => b.block k (by have := h2 k hk; omega), h2⟩

theorem OwnR.wide {w : World} {lo hi hi' : Nat} {v : Value} {rs : List (List Int)} (h : OwnR w lo hi v rs) (hd : hi ≤ hi') : OwnR w lo hi' v rs := by
  obtain ⟨F, h1, h2⟩ := h
  exact ⟨F, h1, fun k hk => by have := h2 k hk; omega⟩

theorem OwnR.nil (w : World) (lo hi : Nat) : OwnR w lo hi (.slice none 0 0) [] := ⟨fun _ => False, OwnSl.nil w _ (by simp), by simp⟩

theorem OwnR.of {w : World} {lo : Nat} {F : Nat → Prop} {v : Value} {rs : List (List Int)} (h : OwnSl 27 1 ERow w F v rs) (hF : ∀ k, F k → lo ≤ k) : OwnR w lo w.heap.size v rs := ⟨F, h, fun k hk => ⟨hF k hk, h.bound k hk⟩⟩

theorem RdR.chg {w w' : World} {B n a b : Nat} {A : Option Addr} {rs : List (List Int)} (h : RdR w B A n rs) (c : Chg a b w w') (hB : B ≤ a) (hs : B ≤ w.heap.size) : RdR w' B A n rs := RdSl.keep rRow_ok h fun k hk => c.block k (by omega) (by omega)

theorem RdR.belowB {w w' : World} {B B' n : Nat} {A : Option Addr} {rs : List (List Int)} (h : RdR w B A n rs) (b : Below B' w w') (hB : B ≤ B') : RdR w' B A n rs := RdSl.below rRow_ok h b hB

theorem RdR.more {w : World} {B B' n : Nat} {A : Option Addr} {rs : List (List Int)} (h : RdR w B A n rs) (hB : B ≤ B') : RdR w B' A n rs := RdSl.more rRow_ok h hB

theorem RdR.drewN {w : World} {B n : Nat} {A : Option Addr} {rs : List (List Int)} (h : RdR w B A n rs) (q : Nat) : RdR (w.drewN q) B A n rs := h

theorem RdI.drewN {w : World} {B n : Nat} {A : Option Addr} {zs : List Int} (h : RdI w B A n zs) (q : Nat) : RdI (w.drewN q) B A n zs := h

/-- Element k of owned rows: its header, its block, and what becomes of the whole. -/
theorem OwnR.at_ {w : World} {lo hi n c k : Nat} {A : Option Addr} {rs : List (List Int)} (h : OwnR w lo hi (.slice A n c) rs) (hn : rs.length = n) (hk : k < n) :
    ∃ g r A' c' lo' hi', A = some ⟨g, 0, none⟩ ∧ lo ≤ g ∧ g < hi ∧ g < w.heap.size ∧ rs[k]? = some r ∧ w.cell? ⟨g, k, none⟩ = some (.slice A' r.length c') ∧ w.frozen? ⟨g, k, none⟩ = false ∧ OwnI w lo' hi' (.slice A' r.length c') r ∧ r.length ≤ maxLen ∧
      (∀ w' r', OwnI w' lo' hi' (.slice A' r.length c') r' → Chg lo' hi' w w' → OwnR w' lo hi (.slice A n c) (rs.set k r') ∧ Chg lo hi w w') ∧
      (∀ w1 x r' lo1 hi1, Below w.heap.size w w1 → OwnI w1 lo1 hi1 x r' → w.heap.size ≤ lo1 → hi1 ≤ w1.heap.size → lo ≤ w.heap.size → OwnR (w1.setCell ⟨g, k, none⟩ x) lo w1.heap.size (.slice A n c) (rs.set k r')) := by
  obtain ⟨F, h1, h2⟩ := h
  subst hn
  obtain ⟨g, cap, hv, hFg, cs, r, H, hr, hl, hE, hH, hc, hup, hput⟩ := h1.at_ eRow_ok hk (by omega)
  injection hv with hA _ _
  obtain ⟨A', c', lo', hi', rfl, ho, hiv⟩ := hE.iv
  obtain ⟨hc1, hf1⟩ := hc 0 _ rfl
  rw [Nat.mul_one, Nat.add_zero] at hc1 hf1
  refine ⟨g, r, A', c', lo', hi', hA, (h2 g hFg).1, (h2 g hFg).2, h1.bound g hFg, hr, hc1, hf1, ho, ownsRow_max ho.1, fun w' r' ho' hch => ?_, fun w1 x r' lo1 hi1 hb ho1 hlo1 hhi1 hlo => ?_⟩
  · obtain ⟨k1, k2⟩ := hE.back ho' hch hiv
    exact ⟨⟨F, hup w' r' k2 k1, h2⟩, ⟨k2.os, k2.tape, k2.output, k2.size, fun i hi hne => k2.block i hi fun hHi => by have := h2 i (hH i hHi).1; omega⟩⟩
  · have := hput w1 (fun i => lo1 ≤ i ∧ i < hi1) 0 x r' ⟨hb.os, hb.tape, hb.output, hb.size, fun i hi _ => hb.block i hi⟩ (by omega) (ERow.of ho1 hhi1) (fun i hi => .inr (by omega))
    rw [Nat.mul_one, Nat.add_zero] at this
    refine ⟨_, this, fun i hi => ?_⟩
    have hbd := this.bound i hi
    simp [World.setCell] at hbd
    rcases hi with hi | hi
    · exact ⟨(h2 i hi).1, hbd⟩
    · exact ⟨by omega, hbd⟩

theorem OwnR.len_eq {w : World} {lo hi n c : Nat} {A : Option Addr} {rs : List (List Int)} (h : OwnR w lo hi (.slice A n c) rs) : rs.length = n := by
  obtain ⟨A', c', hv⟩ := h.form
  injection hv with _ hn _
  exact hn.symm

theorem info_row : (Tryz.prog.info? 27).map (fun i => (i.zero, i.size, i.bytes)) = some (some (.slice none 0 0), 1, 24) := by kernel_rfl

/-- All elements counted. -/
def sumL (rs : List (List Int)) : Nat := (rs.map List.length).sum

theorem sumL_nil : sumL [] = 0 := rfl

theorem sumL_cons (r : List Int) (rs : List (List Int)) : sumL (r :: rs) = r.length + sumL rs := rfl

theorem sumL_append (a b : List (List Int)) : sumL (a ++ b) = sumL a + sumL b := by simp [sumL]

theorem sumL_mem {rs : List (List Int)} {r : List Int} (h : r ∈ rs) : r.length ≤ sumL rs := by
  induction rs with
  | nil => cases h
  | cons s rs ih =>
    rw [sumL_cons]
    rcases List.mem_cons.1 h with rfl | h
    · omega
    · have := ih h; omega

theorem sumL_take_succ {rs : List (List Int)} {j : Nat} {r : List Int} (h : rs[j]? = some r) : sumL (rs.take (j + 1)) = sumL (rs.take j) + r.length := by
  obtain ⟨hj, rfl⟩ := List.getElem?_eq_some_iff.1 h
  rw [List.take_succ_eq_append_getElem hj, sumL_append]
  simp [sumL]

theorem sumL_take_le (rs : List (List Int)) (j : Nat) : sumL (rs.take j) ≤ sumL rs := by
  have := sumL_append (rs.take j) (rs.drop j)
  rw [List.take_append_drop] at this
  omega

/-- Rows of the lengths of rs, counted from k on. -/
def cntR : Int → List (List Int) → List (List Int)
  | _, [] => []
  | k, r :: rs => cnt k r.length :: cntR (k + r.length) rs

theorem cntR_length : ∀ (k : Int) (rs : List (List Int)), (cntR k rs).length = rs.length
  | _, [] => rfl
  | k, r :: rs => by rw [cntR, List.length_cons, List.length_cons, cntR_length]

theorem cntR_get : ∀ (k : Int) (rs : List (List Int)) (j : Nat) (r : List Int), rs[j]? = some r → (cntR k rs)[j]? = some (cnt (k + (sumL (rs.take j) : Nat)) r.length)
  | k, [], j, r, h => by simp at h
  | k, s :: rs, 0, r, h => by
    simp at h
    subst h
    simp [cntR, sumL]
  | k, s :: rs, j + 1, r, h => by
    have := cntR_get (k + s.length) rs j r (by simpa using h)
    rw [cntR, List.getElem?_cons_succ, this, List.take_succ_cons, sumL_cons]
    congr 2
    omega

/-- The first j rows counted, the rest as they were. -/
def markRTo (rs : List (List Int)) (k : Int) (j : Nat) : List (List Int) := (cntR k rs).take j ++ rs.drop j

theorem markRTo_zero (rs : List (List Int)) (k : Int) : markRTo rs k 0 = rs := by simp [markRTo]

theorem markRTo_full (rs : List (List Int)) (k : Int) : markRTo rs k rs.length = cntR k rs := by
  rw [markRTo, List.take_of_length_le (by rw [cntR_length]; exact Nat.le_refl _)]
  simp

theorem markRTo_length (rs : List (List Int)) (k : Int) (j : Nat) (hj : j ≤ rs.length) : (markRTo rs k j).length = rs.length := by
  rw [markRTo, List.length_append, List.length_take, List.length_drop, cntR_length]
  omega

theorem markRTo_get {rs : List (List Int)} {k : Int} {j : Nat} {r : List Int} (h : rs[j]? = some r) : (markRTo rs k j)[j]? = some r := by
  have hj := (List.getElem?_eq_some_iff.1 h).1
  rw [markRTo, List.getElem?_append_right (by rw [List.length_take, cntR_length]; omega), List.length_take, cntR_length, Nat.min_eq_left (by omega), Nat.sub_self, List.getElem?_drop, Nat.add_zero, h]

theorem markRTo_step {rs : List (List Int)} {k : Int} {j : Nat} {r : List Int} (h : rs[j]? = some r) : (markRTo rs k j).set j (cnt (k + (sumL (rs.take j) : Nat)) r.length) = markRTo rs k (j + 1) := by
  have hj := (List.getElem?_eq_some_iff.1 h).1
  have hg := cntR_get k rs j r h
  have hj' : j < (cntR k rs).length := by rw [cntR_length]; exact hj
  have hv : (cntR k rs)[j] = cnt (k + (sumL (rs.take j) : Nat)) r.length := by rw [List.getElem?_eq_getElem hj'] at hg; injection hg
  rw [markRTo, markRTo, List.set_append_right _ _ (by rw [List.length_take]; omega), List.length_take, Nat.min_eq_left (by omega), Nat.sub_self, List.drop_eq_getElem_cons hj, List.set_cons_zero, List.take_succ_eq_append_getElem hj', hv,
    List.append_assoc, List.singleton_append]

end

section
open Go.RowKit Go.Deep

/-- What is left of a purse, behind a name. -/
def SzPost (tot : Nat) (left : Int) (w : World) (e : Ending) (w' : World) : Prop := ∃ r : Int, e = .returned (.int .i64 r) ∧ (r = -1 ∨ (0 ≤ r ∧ r + (tot : Int) = left)) ∧ w = w'

def zerR (d : Nat) : Array Value := (List.replicate d (Value.slice none 0 0)).toArray

theorem made_zerR (d : Nat) : madeCells #[.slice none 0 0] d = zerR d := by
  unfold zerR madeCells
  apply Array.ext
  · simp
  · intro i h1 h2
    simp [Nat.mod_one]

theorem make_rows (n : Nat) (h : n ≤ 1048576) (W : World) : (Instr.makeSlice 49 (.int .i64 (n : Int)) (.int .i64 (n : Int))).run Tryz.prog W = .ok (.slice (some ⟨W.heap.size, 0, none⟩) n n) (W.alloc (.cells (zerR n) 27)) := by
  rw [← made_zerR]
  exact run_make_row' (P := Tryz.prog) 49 27 (.slice none 0 0) 24 Tryz.underlying49 info_row rfl .i64 .i64 n (by omega) (by omega) W

theorem own_rows_made (n : Nat) (hn : n ≤ 1048576) (W : World) : OwnR (W.alloc (.cells (zerR n) 27)) W.heap.size (W.alloc (.cells (zerR n) 27)).heap.size (.slice (some ⟨W.heap.size, 0, none⟩) n n) (List.replicate n []) :=
  ⟨_, OwnSl.made W n [.slice none 0 0] [] (zerR n) rfl (by unfold maxLen; omega) (by simp [zerR]) ⟨_, rfl, OwnI.nil _ _ _, fun g hg => by simp [Value.ownBlock] at hg, by simp⟩, fun k hk => by subst hk; simp⟩

/-- The first k rows, then empty ones. -/
def fillR (rs : List (List Int)) (k : Nat) : List (List Int) := rs.take k ++ List.replicate (rs.length - k) []

theorem fillR_zero (rs : List (List Int)) : fillR rs 0 = List.replicate rs.length [] := by simp [fillR]

theorem fillR_full (rs : List (List Int)) : fillR rs rs.length = rs := by simp [fillR]

theorem fillR_length (rs : List (List Int)) (k : Nat) (h : k ≤ rs.length) : (fillR rs k).length = rs.length := by simp [fillR]; omega

theorem fillR_step {rs : List (List Int)} {k : Nat} {r : List Int} (h : rs[k]? = some r) : (fillR rs k).set k r = fillR rs (k + 1) := by
  have hk : k < rs.length := (List.getElem?_eq_some_iff.1 h).1
  have hx : rs[k] = r := (List.getElem?_eq_some_iff.1 h).2
  unfold fillR
  obtain ⟨m, hm⟩ : ∃ m, rs.length - k = m + 1 := ⟨rs.length - k - 1, by omega⟩
  rw [List.set_append_right _ _ (by rw [List.length_take]; omega), List.length_take, Nat.min_eq_left (by omega), Nat.sub_self, hm, List.replicate_succ, List.set_cons_zero, List.take_succ_eq_append_getElem hk, hx,
    List.append_assoc, List.singleton_append, show rs.length - (k + 1) = m from by omega]

end

section
open Go.RowKit Go.Deep

/-- Which of two lists comes first: -1, 0, 1. -/
def cmpL : List Int → List Int → Int
  | [], [] => 0
  | [], _ :: _ => -1
  | _ :: _, [] => 1
  | x :: a, y :: b => if x < y then -1 else if y < x then 1 else cmpL a b

theorem cmpL_self : ∀ a : List Int, cmpL a a = 0
  | [] => rfl
  | x :: a => by rw [cmpL, if_neg (by omega), if_neg (by omega)]; exact cmpL_self a

theorem cmpL_eq : ∀ {a b : List Int}, cmpL a b = 0 → a = b
  | [], [], _ => rfl
  | [], y :: b, h => by simp [cmpL] at h
  | x :: a, [], h => by simp [cmpL] at h
  | x :: a, y :: b, h => by
    rw [cmpL] at h
    split at h
    · simp at h
    · split at h
      · simp at h
      · have hxy : x = y := by omega
        rw [hxy, cmpL_eq h]

theorem cmpL_zero {a b : List Int} : cmpL a b = 0 ↔ a = b := ⟨cmpL_eq, fun h => by rw [h, cmpL_self]⟩

theorem cmpL_drop {a b : List Int} {k : Nat} {x y : Int} (hx : a[k]? = some x) (hy : b[k]? = some y) :
    cmpL (a.drop k) (b.drop k) = if x < y then -1 else if y < x then 1 else cmpL (a.drop (k + 1)) (b.drop (k + 1)) := by
  obtain ⟨h1, rfl⟩ := List.getElem?_eq_some_iff.1 hx
  obtain ⟨h2, rfl⟩ := List.getElem?_eq_some_iff.1 hy
  rw [List.drop_eq_getElem_cons h1, List.drop_eq_getElem_cons h2, cmpL]

theorem cmpL_short {a b : List Int} {k : Nat} (h1 : a.length = k) (h2 : k < b.length) : cmpL (a.drop k) (b.drop k) = -1 := by
  rw [List.drop_of_length_le (by omega), List.drop_eq_getElem_cons h2, cmpL]

theorem cmpL_long {a b : List Int} {k : Nat} (h1 : k < a.length) (h2 : b.length = k) : cmpL (a.drop k) (b.drop k) = 1 := by
  rw [List.drop_eq_getElem_cons h1, List.drop_of_length_le (l := b) (by omega), cmpL]

theorem cmpL_same {a b : List Int} {k : Nat} (h1 : a.length = k) (h2 : b.length = k) : cmpL (a.drop k) (b.drop k) = 0 := by
  rw [List.drop_of_length_le (by omega), List.drop_of_length_le (by omega), cmpL]

theorem isNaN_any (x : Int) (w : World) : Calls Tryz.prog 104 #[.int .i64 x] w fun e w' => e = .returned (.bool false) ∧ w = w' := by
  go_enter Tryz.func104, Tryz.ntmps104
  go_wp2
  go_ret
  exact ⟨rfl, rfl⟩

def cmp1 (x y : Int) : Int := if x < y then -1 else if y < x then 1 else 0

theorem cmpCompare_any (x y : Int) (w : World) : Calls Tryz.prog 98 #[.int .i64 x, .int .i64 y] w fun e w' => e = .returned (.int .i64 (cmp1 x y)) ∧ w = w' := by
  by_cases h1 : x < y
  · have hy : Hid (cmp1 x y = -1) := by show cmp1 x y = -1; rw [cmp1, if_pos h1]
    go_enter Tryz.func98, Tryz.ntmps98
    go_wp2_with (go_at_call 104; refine (isNaN_any _ _).mono ?_; rintro e w' ⟨rfl, rfl⟩)
    go_ret
    exact ⟨by rw [hy.out] <;> rfl, rfl⟩
  · by_cases h2 : y < x
    · have hy : Hid (cmp1 x y = 1) := by show cmp1 x y = 1; rw [cmp1, if_neg h1, if_pos h2]
      go_enter Tryz.func98, Tryz.ntmps98
      go_wp2_with (go_at_call 104; refine (isNaN_any _ _).mono ?_; rintro e w' ⟨rfl, rfl⟩)
      go_ret
      exact ⟨by rw [hy.out] <;> rfl, rfl⟩
    · have hy : Hid (cmp1 x y = 0) := by show cmp1 x y = 0; rw [cmp1, if_neg h1, if_neg h2]
      go_enter Tryz.func98, Tryz.ntmps98
      go_wp2_with (go_at_call 104; refine (isNaN_any _ _).mono ?_; rintro e w' ⟨rfl, rfl⟩)
      go_ret
      exact ⟨by rw [hy.out] <;> rfl, rfl⟩

set_option maxRecDepth 100000 in
set_option maxHeartbeats 400000 in
theorem slicesCompare_any (A A' : Option Addr) (n c n' c' : Nat) (zs zs' : List Int) (w : World) (hr : RdI w w.heap.size A n zs) (hr' : RdI w w.heap.size A' n' zs') (hn : n ≤ 9223372036854775807) (hn' : n' ≤ 9223372036854775807) :
    Calls Tryz.prog 87 #[.slice A n c, .slice A' n' c'] w fun e w' => e = .returned (.int .i64 (cmpL zs zs')) ∧ w = w' := by
  go_enter Tryz.func87, Tryz.ntmps87
  go_wp2
  go_loop [11] (fun i => ∃ k : Nat, k ≤ n ∧ k ≤ n' ∧ i = .int .i64 k ∧ Hid (cmpL zs zs' = cmpL (zs.drop k) (zs'.drop k))) (fun i => n - (intOf i).toNat)
  case atStart => exact ⟨0, by omega, by omega, rfl, rfl⟩
  case round =>
    obtain ⟨k, hk, hk', rfl, hinv⟩ := hrel
    by_cases hlt : k < n
    · obtain ⟨b, o, x, rfl, hb, hx, hc⟩ := hr.at_ hlt
      by_cases hlt' : k < n'
      · obtain ⟨b', o', x', rfl, hb', hx', hc'⟩ := hr'.at_ hlt'
        have hst := Lib.hid (hinv.out.trans (cmpL_drop hx hx'))
        clear hx hx'
        by_cases h1 : x < x'
        · have hf : Hid (cmpL zs zs' = -1) := by show cmpL zs zs' = -1; rw [hst.out, if_pos h1]
          have hcp : Hid (cmp1 x x' = -1) := by show cmp1 x x' = -1; rw [cmp1, if_pos h1]
          go_wp2_with (go_at_call 98; refine (cmpCompare_any _ _ _).mono ?_; rintro e w' ⟨rfl, rfl⟩; rw [hcp.out])
          go_ret
          exact ⟨by rw [hf.out] <;> rfl, rfl⟩
        · by_cases h2 : x' < x
          · have hf : Hid (cmpL zs zs' = 1) := by show cmpL zs zs' = 1; rw [hst.out, if_neg h1, if_pos h2]
            have hcp : Hid (cmp1 x x' = 1) := by show cmp1 x x' = 1; rw [cmp1, if_neg h1, if_pos h2]
            go_wp2_with (go_at_call 98; refine (cmpCompare_any _ _ _).mono ?_; rintro e w' ⟨rfl, rfl⟩; rw [hcp.out])
            go_ret
            exact ⟨by rw [hf.out] <;> rfl, rfl⟩
          · have hf : Hid (cmpL zs zs' = cmpL (zs.drop (k + 1)) (zs'.drop (k + 1))) := by show cmpL zs zs' = _; rw [hst.out, if_neg h1, if_neg h2]
            have hcp : Hid (cmp1 x x' = 0) := by show cmp1 x x' = 0; rw [cmp1, if_neg h1, if_neg h2]
            go_wp2_with (go_at_call 98; refine (cmpCompare_any _ _ _).mono ?_; rintro e w' ⟨rfl, rfl⟩; rw [hcp.out])
            go_round
            case rel => exact ⟨k + 1, by omega, by omega, by go_num, hf⟩
            case measure => simp [intOf]; omega
      · have hf : Hid (cmpL zs zs' = 1) := hinv.out.trans (cmpL_long (by rw [hr.1]; exact hlt) (by rw [hr'.1]; omega))
        go_wp2
        go_ret
        exact ⟨by rw [hf.out] <;> rfl, rfl⟩
    · by_cases hlt' : k < n'
      · have hf : Hid (cmpL zs zs' = -1) := hinv.out.trans (cmpL_short (by rw [hr.1]; omega) (by rw [hr'.1]; exact hlt'))
        go_wp2
        go_ret
        exact ⟨by rw [hf.out] <;> rfl, rfl⟩
      · have hf : Hid (cmpL zs zs' = 0) := hinv.out.trans (cmpL_same (by rw [hr.1]; omega) (by rw [hr'.1]; omega))
        go_wp2
        go_ret
        exact ⟨by rw [hf.out] <;> rfl, rfl⟩

theorem impl_CompareRows_any (A A' : Option Addr) (n c n' c' : Nat) (zs zs' : List Int) (w : World) (hr : RdI w w.heap.size A n zs) (hr' : RdI w w.heap.size A' n' zs') (hn : n ≤ 9223372036854775807) (hn' : n' ≤ 9223372036854775807) :
    Calls Tryz.prog 78 #[.slice A n c, .slice A' n' c'] w fun e w' => e = .returned (.int .i64 (cmpL zs zs')) ∧ w = w' := by
  go_enter Tryz.func78, Tryz.ntmps78
  go_wp2_with fail
  refine (slicesCompare_any A A' n c n' c' zs zs' _ hr hr' hn hn').mono ?_
  rintro e w' ⟨rfl, rfl⟩
  go_wp2_with fail
  go_ret
  exact ⟨rfl, rfl⟩

set_option maxRecDepth 100000 in
set_option maxHeartbeats 400000 in
theorem spec_CompareRows_q (A A' : Option Addr) (n c n' c' : Nat) (zs zs' : List Int) (w : World) (hr : RdI w w.heap.size A n zs) (hr' : RdI w w.heap.size A' n' zs') (hn : n ≤ 9223372036854775807) (hn' : n' ≤ 9223372036854775807) :
    Calls Tryz.prog 62 #[.slice A n c, .slice A' n' c'] w fun e w' => e = .returned (.int .i64 (cmpL zs zs')) ∧ Qt w w' := by
  go_enter Tryz.func62, Tryz.ntmps62
  go_wp2
  go_loopw [5] (fun i wr => ∃ k : Nat, k ≤ n ∧ k ≤ n' ∧ i = .int .i64 k ∧ Hid (cmpL zs zs' = cmpL (zs.drop k) (zs'.drop k)) ∧ Qt w wr) (fun i _ => n - (intOf i).toNat)
  case atStart => exact ⟨0, by omega, by omega, rfl, rfl, Qt.refl _⟩
  case round =>
    obtain ⟨k, hk, hk', rfl, hinv, hbel⟩ := hrel
    by_cases hlt : k < n
    · by_cases hlt' : k < n'
      · obtain ⟨b, o, x, rfl, hb, hx, hc⟩ := hr.at_ hlt
        obtain ⟨b', o', x', rfl, hb', hx', hc'⟩ := hr'.at_ hlt'
        have hc1 := (hbel.cell (p := ⟨b, o + k, none⟩)).trans hc
        have hc2 := (hbel.cell (p := ⟨b', o' + k, none⟩)).trans hc'
        have g1 : (0 : Int) ≤ (k : Int) := by omega
        have g2 : (k : Int) < (n : Int) := by omega
        have g2' : (k : Int) < (n' : Int) := by omega
        have g3 : (k : Int).toNat = k := by omega
        have hst := Lib.hid (hinv.out.trans (cmpL_drop hx hx'))
        clear hx hx' hc hc'
        by_cases h1 : x < x'
        · have hf : Hid (cmpL zs zs' = -1) := by show cmpL zs zs' = -1; rw [hst.out, if_pos h1]
          go_wp2_with fail
          go_quiet (fail)
          clear g3
          go_wp2
          go_ret
          exact ⟨by rw [hf.out] <;> rfl, hbel.drewN _⟩
        · have q1 : decide (x < x') = false := by simpa using h1
          by_cases h2 : x' < x
          · have hf : Hid (cmpL zs zs' = 1) := by show cmpL zs zs' = 1; rw [hst.out, if_neg h1, if_pos h2]
            go_wp2_with fail
            go_quiet (fail)
            go_wp2_with fail
            go_quiet (fail)
            clear g3
            go_wp2
            go_ret
            exact ⟨by rw [hf.out] <;> rfl, (hbel.drewN _).drewN _⟩
          · have hf : Hid (cmpL zs zs' = cmpL (zs.drop (k + 1)) (zs'.drop (k + 1))) := by show cmpL zs zs' = _; rw [hst.out, if_neg h1, if_neg h2]
            have q2 : decide (x' < x) = false := by simpa using h2
            go_wp2_with fail
            go_quiet (fail)
            go_wp2_with fail
            go_quiet (fail)
            clear g3
            go_wp2
            refine ⟨⟨k + 1, by omega, by omega, by go_num, hf, hbel.drewN _⟩, ?_⟩
            simp [intOf]
            omega
      · have hf : Hid (cmpL zs zs' = 1) := hinv.out.trans (cmpL_long (by rw [hr.1]; exact hlt) (by rw [hr'.1]; omega))
        have hnn : n' < n := by omega
        go_wp2
        go_ret
        exact ⟨by rw [hf.out] <;> rfl, hbel⟩
    · by_cases hlt' : n < n'
      · have hf : Hid (cmpL zs zs' = -1) := hinv.out.trans (cmpL_short (by rw [hr.1]; omega) (by rw [hr'.1]; omega))
        go_wp2
        go_ret
        exact ⟨by rw [hf.out] <;> rfl, hbel⟩
      · have hf : Hid (cmpL zs zs' = 0) := hinv.out.trans (cmpL_same (by rw [hr.1]; omega) (by rw [hr'.1]; omega))
        have hnn : ¬ n' < n := by omega
        go_wp2
        go_ret
        exact ⟨by rw [hf.out] <;> rfl, hbel⟩

theorem spec_CompareRows_any (A A' : Option Addr) (n c n' c' : Nat) (zs zs' : List Int) (w : World) (hr : RdI w w.heap.size A n zs) (hr' : RdI w w.heap.size A' n' zs') (hn : n ≤ 9223372036854775807) (hn' : n' ≤ 9223372036854775807) :
    Calls Tryz.prog 62 #[.slice A n c, .slice A' n' c'] w fun e w' => e = .returned (.int .i64 (cmpL zs zs')) ∧ Below w.heap.size w w' :=
  (spec_CompareRows_q A A' n c n' c' zs zs' w hr hr' hn hn').mono fun _ _ ⟨he, hq⟩ => ⟨he, hq.below _⟩

end

section
open Go.RowKit Go.Deep

theorem bcells {W w1 : World} (hb : Below W.heap.size W w1) : (∀ b o, b < W.heap.size → w1.cell? ⟨b, o, none⟩ = W.cell? ⟨b, o, none⟩) ∧ (∀ b o, b < W.heap.size → w1.frozen? ⟨b, o, none⟩ = W.frozen? ⟨b, o, none⟩) :=
  ⟨fun b o h => hb.cell (p := ⟨b, o, none⟩) h, fun b o h => hb.frozen (p := ⟨b, o, none⟩) h⟩

theorem OwnR.setLow {w : World} {lo hi b i : Nat} {v x : Value} {rs : List (List Int)} (h : OwnR w lo hi v rs) (hb : b < lo) : OwnR (w.setCell ⟨b, i, none⟩ x) lo hi v rs := by
  obtain ⟨F, h1, h2⟩ := h
  exact ⟨F, h1.chgF eRow_ok (chgF_setCell w b i x) fun k hk e => by have := h2 k hk; omega, h2⟩

theorem OwnR.down {w : World} {lo lo' hi : Nat} {v : Value} {rs : List (List Int)} (h : OwnR w lo hi v rs) (hd : lo' ≤ lo) : OwnR w lo' hi v rs := by
  obtain ⟨F, h1, h2⟩ := h
  exact ⟨F, h1, fun k hk => by have := h2 k hk; omega⟩

theorem OwnR.drewN {w : World} {lo hi : Nat} {v : Value} {rs : List (List Int)} (h : OwnR w lo hi v rs) (q : Nat) : OwnR (w.drewN q) lo hi v rs := by
  obtain ⟨F, h1, h2⟩ := h
  exact ⟨F, h1.chgF eRow_ok (chgF_drewN w q fun _ => False) (fun _ _ => id), h2⟩

theorem OwnR.alloc {w : World} {lo hi : Nat} {v : Value} {rs : List (List Int)} (h : OwnR w lo hi v rs) (o : Obj) : OwnR (w.alloc o) lo hi v rs := by
  obtain ⟨F, h1, h2⟩ := h
  exact ⟨F, h1.chgF eRow_ok (chgF_alloc w o fun _ => False) (fun _ _ => id), h2⟩

theorem chg_alloc {w w' : World} {lo hi : Nat} {o : Obj} (h : Chg lo hi (w.alloc o) w') : Chg lo hi w w' :=
  ⟨h.os, h.tape, h.output, Nat.le_trans (by simp) h.size, fun k hk hn => (h.block k (by simp; omega) hn).trans (heap_alloc_old w o hk)⟩

/-- A new table, behind a name. -/
def TabNew (nm : ByteArray) (ar : Int) (rs : List (List Int)) (w : World) (e : Ending) (w' : World) : Prop :=
  ∃ (A : Option Addr) (c : Nat), e = .returned (.agg #[.string nm, .int .i64 ar, .slice A rs.length c]) ∧ OwnR w' w.heap.size w'.heap.size (.slice A rs.length c) rs ∧ Below w.heap.size w w'

theorem TabNew.of {nm : ByteArray} {ar : Int} {rs : List (List Int)} {w w' : World} {A : Option Addr} {n c : Nat} (h : OwnR w' w.heap.size w'.heap.size (.slice A n c) rs) (hb : Below w.heap.size w w') :
    TabNew nm ar rs w (.returned (.agg #[.string nm, .int .i64 ar, .slice A n c])) w' := by
  have hn := h.len_eq
  subst hn
  exact ⟨A, c, rfl, h, hb⟩

/-- What is left of a purse, and new blocks, behind a name. -/
def SzPostB (tot : Nat) (left : Int) (w : World) (e : Ending) (w' : World) : Prop := ∃ r : Int, e = .returned (.int .i64 r) ∧ (r = -1 ∨ (0 ≤ r ∧ r + (tot : Int) = left)) ∧ Below w.heap.size w w'

end

section
open Go.RowKit Go.Deep

set_option maxRecDepth 100000 in
set_option maxHeartbeats 400000 in
theorem slicesEqual_q (A A' : Option Addr) (n c n' c' : Nat) (zs zs' : List Int) (w : World) (hr : RdI w w.heap.size A n zs) (hr' : RdI w w.heap.size A' n' zs') (hn : n ≤ 9223372036854775807) (hn' : n' ≤ 9223372036854775807) :
    Calls Tryz.prog 46 #[.slice A n c, .slice A' n' c'] w fun e w' => e = .returned (.bool (decide (zs = zs'))) ∧ Qt w w' := by
  by_cases hne : n = n'
  · subst hne
    go_enter Tryz.func46, Tryz.ntmps46
    go_wp2
    go_loopw [13] (fun i wr => ∃ k : Nat, k ≤ n ∧ i = .int .i64 k ∧ Hid (zs.take k = zs'.take k) ∧ Qt w wr) (fun i _ => n - (intOf i).toNat)
    case atStart => exact ⟨0, by omega, rfl, rfl, Qt.refl _⟩
    case round =>
      obtain ⟨k, hk, rfl, hpre, hbel⟩ := hrel
      by_cases hlt : k < n
      · obtain ⟨b, o, x, rfl, _, hx, hc⟩ := hr.at_ hlt
        obtain ⟨b', o', x', rfl, _, hx', hc'⟩ := hr'.at_ hlt
        have hc1 := (hbel.cell (p := ⟨b, o + k, none⟩)).trans hc
        have hc2 := (hbel.cell (p := ⟨b', o' + k, none⟩)).trans hc'
        have g1 : (0 : Int) ≤ (k : Int) := by omega
        have g2 : (k : Int) < (n : Int) := by omega
        have g3 : (k : Int).toNat = k := by omega
        have HX := Lib.hid hx
        have HX' := Lib.hid hx'
        clear hx hx' hc hc'
        by_cases he : x = x'
        · have hpre' : Hid (zs.take (k + 1) = zs'.take (k + 1)) := by
            show zs.take (k + 1) = zs'.take (k + 1)
            rw [List.take_add_one, List.take_add_one, HX.out, HX'.out, he, hpre.out]
          have hbq : (x != x') = false := by simp [he]
          clear he
          go_wp2_with fail
          go_quiet (fail)
          clear g3
          go_wp2
          refine ⟨⟨k + 1, by omega, by go_num, hpre', hbel.drewN _⟩, ?_⟩
          simp [intOf]
          omega
        · have hfin : Hid (decide (zs = zs') = false) := by
            show decide (zs = zs') = false
            rw [decide_eq_false_iff_not]
            rintro rfl
            have h1 := HX.out
            rw [HX'.out] at h1
            exact he (by injection h1 with h1; exact h1.symm)
          have hbq : (x != x') = true := by simpa using he
          clear he
          go_wp2_with fail
          go_quiet (fail)
          clear g3
          go_wp2
          go_ret
          exact ⟨by rw [hfin.out] <;> rfl, hbel.drewN _⟩
      · obtain rfl : k = n := by omega
        have hfin : Hid (decide (zs = zs') = true) := by
          show decide (zs = zs') = true
          rw [decide_eq_true_eq]
          have h1 := hpre.out
          rwa [List.take_of_length_le (Nat.le_of_eq hr.1), List.take_of_length_le (Nat.le_of_eq hr'.1)] at h1
        go_wp2
        go_ret
        exact ⟨by rw [hfin.out] <;> rfl, hbel⟩
  · have hfin : Hid (decide (zs = zs') = false) := by
      show decide (zs = zs') = false
      rw [decide_eq_false_iff_not]
      rintro rfl
      exact hne (hr.1.symm.trans hr'.1)
    have hbq : ((n : Int) != (n' : Int)) = true := by simp; omega
    clear hne
    go_enter Tryz.func46, Tryz.ntmps46
    go_wp2
    go_ret
    exact ⟨by rw [hfin.out] <;> rfl, Qt.refl _⟩

theorem Qt.rdI {w w' : World} {A : Option Addr} {n : Nat} {zs : List Int} (hq : Qt w w') (h : RdI w w.heap.size A n zs) : RdI w' w'.heap.size A n zs := by
  have := h.below (hq.below _)
  rwa [← hq.heap] at this

theorem Qt.rdR {w w' : World} {A : Option Addr} {n : Nat} {zs : List (List Int)} (hq : Qt w w') (h : RdR w w.heap.size A n zs) : RdR w' w'.heap.size A n zs := by
  have := RdR.belowB h (hq.below w.heap.size) (Nat.le_refl _)
  rwa [← hq.heap] at this

end

section
open Go.RowKit Go.Deep

/-- A name: one letter from a to z. -/
def nameB (s : ByteArray) : Bool := match s.data.toList with | [b] => inB b.toNat 97 122 | _ => false

theorem nameB_data {s : ByteArray} (h : nameB s = true) : ∃ b : UInt8, s = ⟨#[b]⟩ := by
  obtain ⟨⟨l⟩⟩ := s
  match l, h with
  | [b], _ => exact ⟨b, rfl⟩

theorem nameB_not {s : ByteArray} (h : ¬ s.size = 1) : nameB s = false := by
  unfold nameB
  split
  · rename_i b hb
    exact absurd (by rw [← ByteArray.size_data, ← Array.length_toList, hb]; rfl) h
  · rfl

theorem nameB_one {s : ByteArray} (h : s.size = 1) (h0 : 0 < s.size) : nameB s = inB (s[0]'h0).toNat 97 122 := by
  obtain ⟨⟨l⟩⟩ := s
  match l, h with
  | [b], _ => rfl

/-- A row: values from 0 to 9, so many. -/
def rowB (r : List Int) (n : Int) : Bool := (r.all fun c => inB c 0 9) && ((r.length : Int) == n)

theorem rowB_no {zs : List Int} {n : Int} {k : Nat} {x : Int} (hx : zs[k]? = some x) (h : inB x 0 9 = false) : rowB zs n = false := by
  have : (zs.all fun c => inB c 0 9) = false := by
    rw [← Bool.not_eq_true, List.all_eq_true]
    intro hall
    have := hall x (List.mem_of_getElem? hx)
    rw [h] at this
    cases this
  rw [rowB, this]
  rfl

theorem rowB_step {zs : List Int} {k : Nat} {x : Int} (hx : zs[k]? = some x) (h : inB x 0 9 = true) (hp : (zs.take k).all (fun c => inB c 0 9) = true) : (zs.take (k + 1)).all (fun c => inB c 0 9) = true := by
  obtain ⟨h1, rfl⟩ := List.getElem?_eq_some_iff.1 hx
  rw [List.take_succ_eq_append_getElem h1, List.all_append, hp]
  simpa using h

theorem rowB_end {zs : List Int} {m : Int} {n : Nat} (hn : zs.length = n) (hp : (zs.take n).all (fun c => inB c 0 9) = true) : rowB zs m = ((n : Int) == m) := by
  rw [List.take_of_length_le (by omega)] at hp
  rw [rowB, hp, hn]
  rfl

/-- Strictly ascending rows. -/
def ascB : List (List Int) → Bool
  | a :: b :: l => decide (cmpL a b < 0) && ascB (b :: l)
  | _ => true

theorem ascB_iff : ∀ {rs : List (List Int)}, ascB rs = true ↔ ∀ j x y, rs[j]? = some x → rs[j + 1]? = some y → cmpL x y < 0
  | [] => by simp [ascB]
  | [a] => by simp [ascB]
  | a :: b :: l => by
    rw [ascB, Bool.and_eq_true, decide_eq_true_eq, ascB_iff]
    constructor
    · rintro ⟨h1, h2⟩ j x y hx hy
      cases j with
      | zero =>
        simp at hx hy
        rw [← hx, ← hy]
        exact h1
      | succ j => exact h2 j x y (by simpa using hx) (by simpa using hy)
    · intro h
      exact ⟨h 0 a b rfl rfl, fun j x y hx hy => h (j + 1) x y (by simpa using hx) (by simpa using hy)⟩

theorem ascB_no {rs : List (List Int)} {j : Nat} {x y : List Int} (hx : rs[j]? = some x) (hy : rs[j + 1]? = some y) (h : 0 ≤ cmpL x y) : ascB rs = false := by
  rw [← Bool.not_eq_true, ascB_iff]
  intro hall
  have := hall j x y hx hy
  omega

/-- Up to k the rows ascend. -/
def AscTo (rs : List (List Int)) (k : Nat) : Prop := ∀ j x y, j + 1 < k → rs[j]? = some x → rs[j + 1]? = some y → cmpL x y < 0

theorem AscTo.one (rs : List (List Int)) (k : Nat) (hk : k ≤ 1) : AscTo rs k := fun j x y h => by omega

theorem AscTo.step {rs : List (List Int)} {k : Nat} {x y : List Int} (h : AscTo rs (k + 1)) (hx : rs[k]? = some x) (hy : rs[k + 1]? = some y) (hc : cmpL x y < 0) : AscTo rs (k + 2) := fun j u v hj hu hv => by
  rcases Nat.lt_or_ge (j + 1) (k + 1) with h1 | h1
  · exact h j u v h1 hu hv
  · obtain rfl : j = k := by omega
    rw [hx] at hu
    rw [hy] at hv
    injection hu with hu
    injection hv with hv
    rw [← hu, ← hv]
    exact hc

theorem AscTo.done {rs : List (List Int)} {k : Nat} (h : AscTo rs k) (hk : rs.length ≤ k) : ascB rs = true := ascB_iff.2 fun j x y hx hy => h j x y (by have := (List.getElem?_eq_some_iff.1 hy).1; omega) hx hy

/-- A valid table. -/
def validT (nm : ByteArray) (ar : Int) (rs : List (List Int)) : Bool := nameB nm && (inB ar 1 3 && (decide (rs.length ≤ 8) && ((rs.all fun r => rowB r ar) && ascB rs)))

set_option maxRecDepth 100000 in
theorem nameOk_any (s : ByteArray) (w : World) :
    Calls Tryz.prog 36 #[.string s] w fun e w' => e = .returned (.bool (nameB s)) ∧ w = w' := by
  by_cases h : s.size = 1
  · have h0 : 0 < s.size := by omega
    have hf := Lib.hid (nameB_one h h0)
    have q1 : ((s.size : Int) == 1) = true := by simp [h]
    clear h
    by_cases h1 : 97 ≤ (s[0].toNat : Int)
    all_goals
      go_enter Tryz.func36, Tryz.ntmps36
      go_wp2
      go_ret
      exact ⟨by rw [hf.out]; unfold inB; first | (simp; done) | (simp; omega), rfl⟩
  · have hf := Lib.hid (nameB_not h)
    have q1 : ((s.size : Int) == 1) = false := by simp; omega
    clear h
    go_enter Tryz.func36, Tryz.ntmps36
    go_wp2
    go_ret
    exact ⟨by rw [hf.out] <;> rfl, rfl⟩

set_option maxRecDepth 100000 in
theorem l4Name_any (s : ByteArray) (w : World) :
    Calls Tryz.prog 42 #[.string s] w fun e w' => e = .returned (.bool (nameB s)) ∧ w = w' := by
  by_cases h : s.size = 1
  · have h0 : 0 < s.size := by omega
    have hf := Lib.hid (nameB_one h h0)
    have q1 : ((s.size : Int) == 1) = true := by simp [h]
    clear h
    by_cases h1 : 97 ≤ (s[0].toNat : Int)
    all_goals
      go_enter Tryz.func42, Tryz.ntmps42
      go_wp2
      go_ret
      exact ⟨by rw [hf.out]; unfold inB; first | (simp; done) | (simp; omega), rfl⟩
  · have hf := Lib.hid (nameB_not h)
    have q1 : ((s.size : Int) == 1) = false := by simp; omega
    clear h
    go_enter Tryz.func42, Tryz.ntmps42
    go_wp2
    go_ret
    exact ⟨by rw [hf.out] <;> rfl, rfl⟩

set_option maxHeartbeats 400000 in
theorem rowOk_any (A : Option Addr) (n c : Nat) (zs : List Int) (m : Int) (w : World) (hr : RdI w w.heap.size A n zs) (hn : n ≤ 9223372036854775807) :
    Calls Tryz.prog 38 #[.slice A n c, .int .i64 m] w fun e w' => e = .returned (.bool (rowB zs m)) ∧ w = w' := by
  go_enter Tryz.func38, Tryz.ntmps38
  go_wp2
  go_loop [9] (fun i => ∃ k : Nat, k ≤ n ∧ i = .int .i64 k ∧ Hid ((zs.take k).all (fun c => inB c 0 9) = true)) (fun i => n - (intOf i).toNat)
  case atStart => exact ⟨0, by omega, rfl, by show (zs.take 0).all _ = true; simp⟩
  case round =>
    obtain ⟨k, hk, rfl, hp⟩ := hrel
    by_cases hlt : k < n
    · obtain ⟨b, o, x, rfl, hb, hx, hc⟩ := hr.at_ hlt
      by_cases hin : inB x 0 9 = true
      · have hp' := Lib.hid (rowB_step hx hin hp.out)
        clear hx
        go_wp2_with (go_at_call 37; refine (within_any _ _ _ _).mono ?_; rintro e w' ⟨rfl, rfl⟩)
        go_round
        case rel => exact ⟨k + 1, by omega, by go_num, hp'⟩
        case measure => simp [intOf]; omega
      · have hin' : inB x 0 9 = false := by simpa using hin
        have hf := Lib.hid (rowB_no (n := m) hx hin')
        clear hx hin
        go_wp2_with (go_at_call 37; refine (within_any _ _ _ _).mono ?_; rintro e w' ⟨rfl, rfl⟩)
        go_ret
        exact ⟨by rw [hf.out] <;> rfl, rfl⟩
    · obtain rfl : k = n := by omega
      have hf := Lib.hid (rowB_end (m := m) hr.1 hp.out)
      go_wp2
      go_ret
      exact ⟨by rw [hf.out] <;> rfl, rfl⟩

set_option maxHeartbeats 400000 in
theorem l4Row_any (A : Option Addr) (n c : Nat) (zs : List Int) (m : Int) (w : World) (hr : RdI w w.heap.size A n zs) (hn : n ≤ 9223372036854775807) :
    Calls Tryz.prog 43 #[.slice A n c, .int .i64 m] w fun e w' => e = .returned (.bool (rowB zs m)) ∧ w = w' := by
  go_enter Tryz.func43, Tryz.ntmps43
  go_wp2
  go_loop [5] (fun i => ∃ k : Nat, k ≤ n ∧ i = .int .i64 k ∧ Hid ((zs.take k).all (fun c => inB c 0 9) = true)) (fun i => n - (intOf i).toNat)
  case atStart => exact ⟨0, by omega, rfl, by show (zs.take 0).all _ = true; simp⟩
  case round =>
    obtain ⟨k, hk, rfl, hp⟩ := hrel
    by_cases hlt : k < n
    · obtain ⟨b, o, x, rfl, hb, hx, hc⟩ := hr.at_ hlt
      by_cases hin : inB x 0 9 = true
      · have hp' := Lib.hid (rowB_step hx hin hp.out)
        clear hx
        go_wp2_with (go_at_call 44; refine (l1In_any _ _ _ _).mono ?_; rintro e w' ⟨rfl, rfl⟩)
        go_round
        case rel => exact ⟨k + 1, by omega, by go_num, hp'⟩
        case measure => simp [intOf]; omega
      · have hin' : inB x 0 9 = false := by simpa using hin
        have hf := Lib.hid (rowB_no (n := m) hx hin')
        clear hx hin
        go_wp2_with (go_at_call 44; refine (l1In_any _ _ _ _).mono ?_; rintro e w' ⟨rfl, rfl⟩)
        go_ret
        exact ⟨by rw [hf.out] <;> rfl, rfl⟩
    · obtain rfl : k = n := by omega
      have hf := Lib.hid (rowB_end (m := m) hr.1 hp.out)
      go_wp2
      go_ret
      exact ⟨by rw [hf.out] <;> rfl, rfl⟩

set_option maxRecDepth 100000 in
set_option maxHeartbeats 400000 in
theorem ascendingRows_q (A : Option Addr) (n c : Nat) (rs : List (List Int)) (w : World) (hr : RdR w w.heap.size A n rs) (hn : n ≤ 9223372036854775806) :
    Calls Tryz.prog 74 #[.slice A n c] w fun e w' => e = .returned (.bool (ascB rs)) ∧ Qt w w' := by
  have HL := Lib.hid hr.1
  go_enter Tryz.func74, Tryz.ntmps74
  go_wp2
  go_loopw [3] (fun i wr => ∃ k : Nat, k ≤ n ∧ i = .int .i64 (((k + 1 : Nat) : Int)) ∧ Hid (AscTo rs (k + 1)) ∧ Qt w wr) (fun i _ => n + 1 - (intOf i).toNat)
  case atStart => exact ⟨0, by omega, by go_num, AscTo.one _ _ (by omega), Qt.refl _⟩
  case round =>
    obtain ⟨k, hk, rfl, hp, hbel⟩ := hrel
    by_cases hlt : k + 1 < n
    · obtain ⟨b, o, x, A1, c1, rfl, _, hx, hc, hrd, hm⟩ := RdR.at_ hr (show k < n by omega)
      obtain ⟨b', o', x', A2, c2, hbb, _, hx', hc', hrd', hm'⟩ := RdR.at_ hr hlt
      injection hbb with hbb
      injection hbb with hb1 hb2
      subst hb1 hb2
      have e1 := (hbel.cell (p := ⟨b, o + k, none⟩)).trans hc
      have e2 := (hbel.cell (p := ⟨b, o + (k + 1), none⟩)).trans hc'
      have KE := Lib.hid (fun q => impl_CompareRows_any A1 A2 x.length c1 x'.length c2 x x' (wr.drewN q) (hbel.rdI hrd) (hbel.rdI hrd') (by unfold maxLen at hm; omega) (by unfold maxLen at hm'; omega))
      have g0 : IntKind.i64.wrap ((((k + 1 : Nat) : Int)) - 1) = (k : Int) := by rw [IntWalk.i64_in _ (by omega)]; omega
      have g1 : (0 : Int) ≤ (k : Int) := by omega
      have g2 : (k : Int) < (n : Int) := by omega
      have g3 : (k : Int).toNat = k := by omega
      have g4 : (0 : Int) ≤ (((k + 1 : Nat) : Int)) := by omega
      have g5 : (((k + 1 : Nat) : Int)) < (n : Int) := by omega
      have g6 : (((k + 1 : Nat) : Int)).toNat = k + 1 := by omega
      by_cases hcmp : cmpL x x' < 0
      · have hp' : Hid (AscTo rs (k + 1 + 1)) := hp.out.step hx hx' hcmp
        obtain ⟨y, hy⟩ : ∃ y, y = cmpL x x' := ⟨_, rfl⟩
        rw [← hy] at KE hcmp
        have hq : decide (0 ≤ y) = false := by simpa using hcmp
        clear hy hx hx' hc hc' hrd hrd' hm hm'
        go_wp2_with fail
        go_quiet ((go_at_call 78; exact Calls.quiet_of_same ((KE.out _).mono fun _ _ h => ⟨h.1, h.2.symm⟩)))
        clear g0 g3 g6
        go_wp2_with fail
        refine ⟨⟨k + 1, by omega, by go_num, hp', hbel.drewN _⟩, ?_⟩
        simp [intOf]
        omega
      · have hf := Lib.hid (ascB_no hx hx' (by omega))
        obtain ⟨y, hy⟩ : ∃ y, y = cmpL x x' := ⟨_, rfl⟩
        rw [← hy] at KE hcmp
        have hq : decide (0 ≤ y) = true := by simpa using hcmp
        clear hy hx hx' hc hc' hrd hrd' hm hm'
        go_wp2_with fail
        go_quiet ((go_at_call 78; exact Calls.quiet_of_same ((KE.out _).mono fun _ _ h => ⟨h.1, h.2.symm⟩)))
        clear g0 g3 g6
        go_wp2_with fail
        go_ret
        exact ⟨by rw [hf.out] <;> rfl, hbel.drewN _⟩
    · have hf := Lib.hid (hp.out.done (by rw [HL.out]; omega))
      go_wp2
      go_ret
      exact ⟨by rw [hf.out] <;> rfl, hbel⟩

theorem nameOk_is {s : ByteArray} {b : Bool} (h : nameB s = b) (w : World) : Calls Tryz.prog 36 #[.string s] w fun e w' => e = .returned (.bool b) ∧ w = w' := h ▸ nameOk_any s w

theorem l4Name_is {s : ByteArray} {b : Bool} (h : nameB s = b) (w : World) : Calls Tryz.prog 42 #[.string s] w fun e w' => e = .returned (.bool b) ∧ w = w' := h ▸ l4Name_any s w

theorem within_is {n a c : Int} {b : Bool} (h : inB n a c = b) (w : World) : Calls Tryz.prog 37 #[.int .i64 n, .int .i64 a, .int .i64 c] w fun e w' => e = .returned (.bool b) ∧ w = w' := h ▸ within_any n a c w

theorem l1In_is {n a c : Int} {b : Bool} (h : inB n a c = b) (w : World) : Calls Tryz.prog 44 #[.int .i64 n, .int .i64 a, .int .i64 c] w fun e w' => e = .returned (.bool b) ∧ w = w' := h ▸ l1In_any n a c w

theorem all_take_step {α : Type} {p : α → Bool} {l : List α} {k : Nat} {x : α} (hx : l[k]? = some x) (h : p x = true) (hp : (l.take k).all p = true) : (l.take (k + 1)).all p = true := by
  obtain ⟨h1, rfl⟩ := List.getElem?_eq_some_iff.1 hx
  rw [List.take_succ_eq_append_getElem h1, List.all_append, hp]
  simpa using h

theorem all_no {α : Type} {p : α → Bool} {l : List α} {k : Nat} {x : α} (hx : l[k]? = some x) (h : p x = false) : l.all p = false := by
  rw [← Bool.not_eq_true, List.all_eq_true]
  intro hall
  rw [hall x (List.mem_of_getElem? hx)] at h
  cases h

set_option maxRecDepth 100000 in
set_option maxHeartbeats 1000000 in
theorem impl_IsValidTable_any (nm : ByteArray) (ar : Int) (A : Option Addr) (n c B : Nat) (rs : List (List Int)) (w : World) (hr : RdR w B A n rs) (hB : B ≤ w.heap.size) (hn : n ≤ 9223372036854775806) :
    Calls Tryz.prog 52 #[.agg #[.string nm, .int .i64 ar, .slice A n c]] w fun e w' => e = .returned (.bool (validT nm ar rs)) ∧ Below w.heap.size w w' := by
  have HL := Lib.hid hr.1
  have HB := Lib.hid (Below.refl w.heap.size w)
  go_enter Tryz.func52, Tryz.ntmps52
  go_wp2_with fail
  generalize hW : w.alloc (.cells #[.string nm, .int .i64 ar, .slice A n c] 51) = W
  have hWb : Hid (Below w.heap.size w W) := by rw [← hW]; exact (HB.out).alloc (Nat.le_refl _) _
  have w0 : W.cell? ⟨w.heap.size, 0, none⟩ = some (.string nm) := by rw [← hW]; simp [go_sem]
  have w1 : W.cell? ⟨w.heap.size, 1, none⟩ = some (.int .i64 ar) := by rw [← hW]; simp [go_sem]
  have w2 : W.cell? ⟨w.heap.size, 2, none⟩ = some (.slice A n c) := by rw [← hW]; simp [go_sem]
  have hr1 : RdR W W.heap.size A n rs := by rw [← hW]; exact (RdR.belowB hr ((Below.refl B w).alloc hB _) (Nat.le_refl _)).more (by simp; omega)
  clear hW hr
  go_loop [8] (fun i => ∃ k : Nat, k ≤ n ∧ i = .int .i64 k ∧ Hid ((rs.take k).all (fun r => rowB r ar) = true)) (fun i => n - (intOf i).toNat)
  case atStart => exact ⟨0, by omega, rfl, by show (rs.take 0).all _ = true; simp⟩
  case round =>
    obtain ⟨k, hk, rfl, hp⟩ := hrel
    by_cases hlt : k < n
    · obtain ⟨b, o, x, A1, c1, rfl, _, hx, hc, hrd, hm⟩ := RdR.at_ hr1 hlt
      have hm' : x.length ≤ 9223372036854775807 := by unfold maxLen at hm; omega
      cases hin : rowB x ar with
      | true =>
        have hp' := Lib.hid (all_take_step (p := fun r => rowB r ar) hx hin hp.out)
        have KR := Lib.hid (rowOk_any A1 x.length c1 x ar W hrd hm')
        rw [hin] at KR
        clear hx hin hm
        go_wp2_with fail
        refine KR.out.mono ?_
        rintro e w' ⟨rfl, rfl⟩
        go_wp2_with fail
        go_round
        case rel => exact ⟨k + 1, by omega, by go_num, hp'⟩
        case measure => simp [intOf]; omega
      | false =>
        have hf : Hid (validT nm ar rs = false) := by show _ = _; rw [validT, all_no (p := fun r => rowB r ar) hx hin]; simp
        have KR := Lib.hid (rowOk_any A1 x.length c1 x ar W hrd hm')
        rw [hin] at KR
        clear hx hin hm
        go_wp2_with fail
        refine KR.out.mono ?_
        rintro e w' ⟨rfl, rfl⟩
        go_wp2_with fail
        go_ret
        exact ⟨by rw [hf.out] <;> rfl, hWb.out⟩
    · obtain rfl : k = n := by omega
      have hall : Hid (rs.all (fun r => rowB r ar) = true) := by
        have := hp.out
        rwa [List.take_of_length_le (Nat.le_of_eq HL.out)] at this
      cases h1 : nameB nm with
      | false =>
        have hf : Hid (validT nm ar rs = false) := by show _ = _; rw [validT, h1]; rfl
        have K1 := Lib.hid (nameOk_is h1)
        clear h1
        go_wp2_with fail
        refine (K1.out _).mono ?_
        rintro e w' ⟨rfl, rfl⟩
        go_wp2_with fail
        go_ret
        exact ⟨by rw [hf.out] <;> rfl, hWb.out⟩
      | true =>
        have K1 := Lib.hid (nameOk_is h1)
        cases h2 : inB ar 1 3 with
        | false =>
          have hf : Hid (validT nm ar rs = false) := by show _ = _; rw [validT, h1, h2]; rfl
          have K2 := Lib.hid (within_is h2)
          clear h1 h2
          go_wp2_with fail
          refine (K1.out _).mono ?_
          rintro e w' ⟨rfl, rfl⟩
          go_wp2_with fail
          refine (K2.out _).mono ?_
          rintro e w' ⟨rfl, rfl⟩
          go_wp2_with fail
          go_ret
          exact ⟨by rw [hf.out] <;> rfl, hWb.out⟩
        | true =>
          have K2 := Lib.hid (within_is h2)
          by_cases h3 : k ≤ 8
          · have hf : Hid (validT nm ar rs = ascB rs) := by show _ = _; rw [validT, h1, h2, hall.out, HL.out]; simp [h3]
            clear h1 h2
            go_wp2_with fail
            refine (K1.out _).mono ?_
            rintro e w' ⟨rfl, rfl⟩
            go_wp2_with fail
            refine (K2.out _).mono ?_
            rintro e w' ⟨rfl, rfl⟩
            go_wp2_with fail
            refine (ascendingRows_q A k c rs _ hr1 hn).mono ?_
            rintro e w' ⟨rfl, hq⟩
            have HQ := Lib.hid (hWb.out.trans (hq.below _))
            clear hq
            go_wp2_with fail
            go_ret
            exact ⟨by rw [hf.out] <;> rfl, HQ.out⟩
          · have hf : Hid (validT nm ar rs = false) := by show _ = _; rw [validT, HL.out]; simp [h3]
            clear h1 h2
            go_wp2_with fail
            refine (K1.out _).mono ?_
            rintro e w' ⟨rfl, rfl⟩
            go_wp2_with fail
            refine (K2.out _).mono ?_
            rintro e w' ⟨rfl, rfl⟩
            go_wp2_with fail
            go_ret
            exact ⟨by rw [hf.out] <;> rfl, hWb.out⟩

end

section
open Go.RowKit Go.Deep

set_option maxRecDepth 100000 in
set_option maxHeartbeats 2000000 in
theorem spec_IsValidTable_any (nm : ByteArray) (ar : Int) (A : Option Addr) (n c B : Nat) (rs : List (List Int)) (w : World) (hr : RdR w B A n rs) (hB : B ≤ w.heap.size) (hn : n ≤ 9223372036854775806) :
    Calls Tryz.prog 59 #[.agg #[.string nm, .int .i64 ar, .slice A n c]] w fun e w' => e = .returned (.bool (validT nm ar rs)) ∧ Below w.heap.size w w' := by
  have HL := Lib.hid hr.1
  have HB := Lib.hid (Below.refl w.heap.size w)
  cases h1 : nameB nm with
  | false =>
    have hf : Hid (validT nm ar rs = false) := by show _ = _; rw [validT, h1]; rfl
    have K1 := Lib.hid (l4Name_is h1)
    clear h1
    go_enter Tryz.func59, Tryz.ntmps59
    go_wp2_with fail
    refine (K1.out _).mono ?_
    rintro e w' ⟨rfl, rfl⟩
    go_wp2_with fail
    go_ret
    exact ⟨by rw [hf.out] <;> rfl, (HB.out).alloc (Nat.le_refl _) _⟩
  | true =>
    have K1 := Lib.hid (l4Name_is h1)
    cases h2 : inB ar 1 3 with
    | false =>
      have hf : Hid (validT nm ar rs = false) := by show _ = _; rw [validT, h1, h2]; rfl
      have K2 := Lib.hid (l1In_is h2)
      clear h1 h2
      go_enter Tryz.func59, Tryz.ntmps59
      go_wp2_with fail
      refine (K1.out _).mono ?_
      rintro e w' ⟨rfl, rfl⟩
      go_wp2_with fail
      refine (K2.out _).mono ?_
      rintro e w' ⟨rfl, rfl⟩
      go_wp2_with fail
      go_ret
      exact ⟨by rw [hf.out] <;> rfl, (HB.out).alloc (Nat.le_refl _) _⟩
    | true =>
      have K2 := Lib.hid (l1In_is h2)
      by_cases h3 : n ≤ 8
      · have hf : Hid (validT nm ar rs = (rs.all (fun r => rowB r ar) && ascB rs)) := by show _ = _; rw [validT, h1, h2, HL.out]; simp [h3]
        clear h1 h2
        go_enter Tryz.func59, Tryz.ntmps59
        go_wp2_with fail
        refine (K1.out _).mono ?_
        rintro e w' ⟨rfl, rfl⟩
        go_wp2_with fail
        refine (K2.out _).mono ?_
        rintro e w' ⟨rfl, rfl⟩
        go_wp2_with fail
        generalize hW : w.alloc (.cells #[.string nm, .int .i64 ar, .slice A n c] 51) = W
        have hWb : Hid (Below w.heap.size w W) := by rw [← hW]; exact (HB.out).alloc (Nat.le_refl _) _
        have w1 : W.cell? ⟨w.heap.size, 1, none⟩ = some (.int .i64 ar) := by rw [← hW]; simp [go_sem]
        have w2 : W.cell? ⟨w.heap.size, 2, none⟩ = some (.slice A n c) := by rw [← hW]; simp [go_sem]
        have hr1 : RdR W W.heap.size A n rs := by rw [← hW]; exact (RdR.belowB hr ((Below.refl B w).alloc hB _) (Nat.le_refl _)).more (by simp; omega)
        clear hW hr
        go_loopw [3] (fun i wr => ∃ k : Nat, k ≤ n ∧ i = .int .i64 k ∧ Hid ((rs.take k).all (fun r => rowB r ar) = true ∧ AscTo rs k) ∧ Qt W wr) (fun i _ => n - (intOf i).toNat)
        case atStart => exact ⟨0, by omega, rfl, ⟨by show (rs.take 0).all _ = true; simp, AscTo.one _ _ (by omega)⟩, Qt.refl _⟩
        case round =>
          obtain ⟨k, hk, rfl, hp, hbel⟩ := hrel
          have c1 := (hbel.cell (p := ⟨w.heap.size, 1, none⟩)).trans w1
          have c2 := (hbel.cell (p := ⟨w.heap.size, 2, none⟩)).trans w2
          by_cases hlt : k < n
          · obtain ⟨b, o, x, A1, cc1, rfl, _, hx, hc, hrd, hm⟩ := RdR.at_ hr1 hlt
            have hm' : x.length ≤ 9223372036854775807 := by unfold maxLen at hm; omega
            have hc1 := (hbel.cell (p := ⟨b, o + k, none⟩)).trans hc
            have g1 : (0 : Int) ≤ (k : Int) := by omega
            have g2 : (k : Int) < (n : Int) := by omega
            have g3 : (k : Int).toNat = k := by omega
            have KR := Lib.hid (fun q => l4Row_any A1 x.length cc1 x ar (wr.drewN q) (hbel.rdI hrd) hm')
            cases hin : rowB x ar with
            | false =>
              have hf2 : Hid ((rs.all (fun r => rowB r ar) && ascB rs) = false) := by show _ = _; rw [all_no (p := fun r => rowB r ar) hx hin]; rfl
              rw [hin] at KR
              clear hx hc hrd hm hin
              go_wp2_with fail
              go_quiet ((go_at_call 43; exact Calls.quiet_of_same ((KR.out _).mono fun _ _ h => ⟨h.1, h.2.symm⟩)))
              clear g3
              go_wp2_with fail
              go_ret
              exact ⟨by rw [hf.out, hf2.out] <;> rfl, hWb.out.trans ((hbel.drewN _).below _)⟩
            | true =>
              have hp1 := Lib.hid (all_take_step (p := fun r => rowB r ar) hx hin hp.out.1)
              rw [hin] at KR
              rcases Nat.eq_zero_or_pos k with hk0 | hk0
              · subst hk0
                have hp2 : Hid ((rs.take 1).all (fun r => rowB r ar) = true ∧ AscTo rs 1) := ⟨hp1.out, AscTo.one _ _ (by omega)⟩
                rw [Nat.add_zero] at hc1
                have g2' : (0 : Int) < (n : Int) := by omega
                clear hx hc hrd hm hin hp1 g1 g2 g3
                go_wp2_with fail
                go_quiet ((go_at_call 43; exact Calls.quiet_of_same ((KR.out _).mono fun _ _ h => ⟨h.1, h.2.symm⟩)))
                go_wp2_with fail
                refine ⟨⟨1, by omega, by go_num, hp2, hbel.drewN _⟩, ?_⟩
                simp [intOf]
                omega
              · obtain ⟨j, rfl⟩ : ∃ j, k = j + 1 := ⟨k - 1, by omega⟩
                obtain ⟨b', o', x', A2, cc2, hbb, _, hx', hc', hrd', hm2⟩ := RdR.at_ hr1 (show j < n by omega)
                injection hbb with hbb
                injection hbb with hb1 hb2
                subst hb1 hb2
                have hc2 := (hbel.cell (p := ⟨b, o + j, none⟩)).trans hc'
                have KE := Lib.hid (fun q => spec_CompareRows_q A2 A1 x'.length cc2 x.length cc1 x' x (wr.drewN q) (hbel.rdI hrd') (hbel.rdI hrd) (by unfold maxLen at hm2; omega) hm')
                have g4 : IntKind.i64.wrap ((((j + 1 : Nat) : Int)) - 1) = (j : Int) := by rw [IntWalk.i64_in _ (by omega)]; omega
                have g5 : (0 : Int) ≤ (j : Int) := by omega
                have g6 : (j : Int) < (n : Int) := by omega
                have g7 : (j : Int).toNat = j := by omega
                have g8 : decide ((0 : Int) < (((j + 1 : Nat) : Int))) = true := decide_eq_true (by omega)
                by_cases hcmp : cmpL x' x < 0
                · have hp2 : Hid ((rs.take (j + 1 + 1)).all (fun r => rowB r ar) = true ∧ AscTo rs (j + 1 + 1)) := ⟨hp1.out, hp.out.2.step hx' hx hcmp⟩
                  obtain ⟨y, hy⟩ : ∃ y, y = cmpL x' x := ⟨_, rfl⟩
                  rw [← hy] at KE hcmp
                  have hq : decide (0 ≤ y) = false := by simpa using hcmp
                  clear hy hx hx' hc hc' hrd hrd' hm hm2 hin hp1
                  go_wp2_with fail
                  go_quiet (first | (go_at_call 43; exact Calls.quiet_of_same ((KR.out _).mono fun _ _ h => ⟨h.1, h.2.symm⟩)) | (go_at_call 62; exact Calls.quiet_of (KE.out _)))
                  clear g3 g4 g7
                  go_wp2_with fail
                  refine ⟨⟨j + 1 + 1, by omega, by go_num, hp2, hbel.drewN _⟩, ?_⟩
                  simp [intOf]
                  omega
                · have hf2 : Hid ((rs.all (fun r => rowB r ar) && ascB rs) = false) := by show _ = _; rw [ascB_no hx' hx (by omega)]; simp
                  obtain ⟨y, hy⟩ : ∃ y, y = cmpL x' x := ⟨_, rfl⟩
                  rw [← hy] at KE hcmp
                  have hq : decide (0 ≤ y) = true := by simpa using hcmp
                  clear hy hx hx' hc hc' hrd hrd' hm hm2 hin hp1
                  go_wp2_with fail
                  go_quiet (first | (go_at_call 43; exact Calls.quiet_of_same ((KR.out _).mono fun _ _ h => ⟨h.1, h.2.symm⟩)) | (go_at_call 62; exact Calls.quiet_of (KE.out _)))
                  clear g3 g4 g7
                  go_wp2_with fail
                  go_ret
                  exact ⟨by rw [hf.out, hf2.out] <;> rfl, hWb.out.trans ((hbel.drewN _).below _)⟩
          · obtain rfl : k = n := by omega
            have hf2 : Hid ((rs.all (fun r => rowB r ar) && ascB rs) = true) := by
              show _ = _
              have h4 := hp.out.1
              rw [List.take_of_length_le (Nat.le_of_eq HL.out)] at h4
              rw [h4, hp.out.2.done (Nat.le_of_eq HL.out)]
              rfl
            go_wp2_with fail
            go_ret
            exact ⟨by rw [hf.out, hf2.out] <;> rfl, hWb.out.trans (hbel.below _)⟩
      · have hf : Hid (validT nm ar rs = false) := by show _ = _; rw [validT, HL.out]; simp [h3]
        clear h1 h2
        go_enter Tryz.func59, Tryz.ntmps59
        go_wp2_with fail
        refine (K1.out _).mono ?_
        rintro e w' ⟨rfl, rfl⟩
        go_wp2_with fail
        refine (K2.out _).mono ?_
        rintro e w' ⟨rfl, rfl⟩
        go_wp2_with fail
        go_ret
        exact ⟨by rw [hf.out] <;> rfl, (HB.out).alloc (Nat.le_refl _) _⟩

end

section
open Go.RowKit Go.Deep

theorem OwnR.setOff {w : World} {lo hi b i : Nat} {v x : Value} {rs : List (List Int)} (h : OwnR w lo hi v rs) (hb : b < lo ∨ hi ≤ b) : OwnR (w.setCell ⟨b, i, none⟩ x) lo hi v rs := by
  obtain ⟨F, h1, h2⟩ := h
  exact ⟨F, h1.chgF eRow_ok (chgF_setCell w b i x) fun k hk e => by have := h2 k hk; omega, h2⟩

/-- A table and a bool. -/
structure TabR where
  nm : ByteArray
  ar : Int
  rs : List (List Int)
  ok : Bool

/-- A new table and a bool, behind a name. -/
def TabBool (R : TabR) (w : World) (e : Ending) (w' : World) : Prop :=
  ∃ (A : Option Addr) (c : Nat), e = .returned (.tuple #[.agg #[.string R.nm, .int .i64 R.ar, .slice A R.rs.length c], .bool R.ok]) ∧ OwnR w' w.heap.size w'.heap.size (.slice A R.rs.length c) R.rs ∧ Below w.heap.size w w'

theorem TabBool.of {R : TabR} {nm : ByteArray} {ar : Int} {rs : List (List Int)} {b : Bool} {w w' : World} {A : Option Addr} {n c : Nat} (hR : R = ⟨nm, ar, rs, b⟩) (h : OwnR w' w.heap.size w'.heap.size (.slice A n c) rs) (hb : Below w.heap.size w w') :
    TabBool R w (.returned (.tuple #[.agg #[.string nm, .int .i64 ar, .slice A n c], .bool b])) w' := by
  subst hR
  have hn := h.len_eq
  subst hn
  exact ⟨A, c, rfl, h, hb⟩

/-- TabBool, its parts apart. -/
def TabAns (nm : ByteArray) (ar : Int) (rs : List (List Int)) (ok : Bool) (w : World) (e : Ending) (w' : World) : Prop :=
  ∃ (A : Option Addr) (c : Nat), e = .returned (.tuple #[.agg #[.string nm, .int .i64 ar, .slice A rs.length c], .bool ok]) ∧ OwnR w' w.heap.size w'.heap.size (.slice A rs.length c) rs ∧ Below w.heap.size w w'

end

section
open Go.RowKit Go.Deep

/-- New ints and a bool, behind a name. -/
def IntsBool (R : List Int × Bool) (w : World) (e : Ending) (w' : World) : Prop :=
  ∃ (A : Option Addr) (c : Nat), e = .returned (.tuple #[.slice A R.1.length c, .bool R.2]) ∧ OwnI w' w.heap.size w'.heap.size (.slice A R.1.length c) R.1 ∧ Below w.heap.size w w'

theorem IntsBool.of {R : List Int × Bool} {w w' : World} {A : Option Addr} {n c : Nat} {zs : List Int} {b : Bool} (hR : R = (zs, b)) (h : OwnI w' w.heap.size w'.heap.size (.slice A n c) zs) (hb : Below w.heap.size w w') :
    IntsBool R w (.returned (.tuple #[.slice A n c, .bool b])) w' := by
  subst hR
  have hn : zs.length = n := by have := own_form h.1; obtain ⟨A1, c1, h1⟩ := this; injection h1 with _ h2 _; exact h2.symm
  subst hn
  exact ⟨A, c, rfl, h, hb⟩

/-- New ints, behind a name. -/
def IntsNew (R : List Int) (w : World) (e : Ending) (w' : World) : Prop :=
  ∃ (A : Option Addr) (c : Nat), e = .returned (.slice A R.length c) ∧ OwnI w' w.heap.size w'.heap.size (.slice A R.length c) R ∧ Below w.heap.size w w'

theorem IntsNew.of {R : List Int} {w w' : World} {A : Option Addr} {n c : Nat} {zs : List Int} (hR : R = zs) (h : OwnI w' w.heap.size w'.heap.size (.slice A n c) zs) (hb : Below w.heap.size w w') :
    IntsNew R w (.returned (.slice A n c)) w' := by
  subst hR
  have hn : R.length = n := by have := own_form h.1; obtain ⟨A1, c1, h1⟩ := this; injection h1 with _ h2 _; exact h2.symm
  subst hn
  exact ⟨A, c, rfl, h, hb⟩

end

section
open Go.RowKit Go.Deep

/-- A source of m one-cell elements: nil, empty or not. -/
def SrcAt (w : World) (A : Option Addr) (m : Nat) (us : List Value) : Prop := us.length = m ∧ (0 < m → ∃ b o, A = some ⟨b, o, none⟩ ∧ ∀ j u, us[j]? = some u → w.cell? ⟨b, o + j, none⟩ = some u)

theorem RdI.src {w : World} {B n : Nat} {A : Option Addr} {zs : List Int} (h : RdI w B A n zs) : SrcAt w A n (zs.map iv) :=
  ⟨by rw [List.length_map]; exact h.1, fun hn => by
    obtain ⟨b, o, hA, _, hc⟩ := h.2 hn
    refine ⟨b, o, hA, fun j u hu => ?_⟩
    rw [List.getElem?_map] at hu
    obtain ⟨x, hx, rfl⟩ := Option.map_eq_some_iff.1 hu
    exact hc j x hx⟩

theorem run_append_src {P : Program} (w : World) (t ty e : TypeId) (i : TypeInfo) (z : Value) (bytes : Nat) (ht : P.underlying t = some (.slice e)) (hi : P.info? e = some i) (hz : i.zero = some z) (hsize : i.size = 1) (hby : i.bytes = bytes) (hzs : z.cells.size = 1)
    (v : Value) (n : Nat) (xs : List Value) (hown : w.ownsRow 0 e 1 v n xs) (A : Option Addr) (m c : Nat) (us : List Value) (hs : SrcAt w A m us) (h1 : ∀ u ∈ us, u.oneCell' = true) (h63 : n + m ≤ maxLen) (hbytes : (n + m) * bytes ≤ 140737488355328) :
    ∃ v' w', (Builtin.append_ #[t, t] ty #[v, .slice A m c]).run P w = .ok v' w' ∧ w'.ownsRow 0 e 1 v' (n + m) (xs ++ us) ∧ w.grownBy w' v.ownBlock ∧ (v'.ownBlock = v.ownBlock ∨ v'.ownBlock = some w.heap.size) := by
  cases A with
  | none =>
    obtain rfl : m = 0 := by
      rcases Nat.eq_zero_or_pos m with h | h
      · exact h
      · obtain ⟨_, _, hA, _⟩ := hs.2 h
        cases hA
    obtain rfl : us = [] := List.eq_nil_of_length_eq_zero hs.1
    refine ⟨v, w, ?_, by simpa using hown, World.grownBy.refl w _, .inl rfl⟩
    rcases hown.2 with ⟨rfl, rfl⟩ | ⟨g, cap, cur, rfl, _, _, hnc, _⟩
    · simp [Builtin.append_, run_underlying ht, sizeOf, typeInfo, hi, Builtin.lenOf, Builtin.firstCells]
    · simp [Builtin.append_, run_underlying ht, sizeOf, typeInfo, hi, Builtin.lenOf, Builtin.firstCells, hnc, storeCells]
  | some ad =>
    have hc : ∀ j u, us[j]? = some u → w.cell? (ad.add j) = some u := fun j u hu => by
      have hj := (List.getElem?_eq_some_iff.1 hu).1
      obtain ⟨b, o, hA, hcell⟩ := hs.2 (by have := hs.1; omega)
      injection hA with hA
      subst hA
      rw [addr_add]
      exact hcell j u hu
    obtain ⟨v', w', hr, h2, h3, _, h5⟩ := run_append_own_at (P := P) w 0 t ty e i z 1 bytes ht hi hz hsize hby hzs (by omega) v n xs hown ad m c us (by rw [hs.1, Nat.mul_one]) hc h1 h63 hbytes (Nat.zero_le _)
    exact ⟨v', w', hr, h2, h3, h5⟩

theorem wp_append_src {P : Program} (w : World) {o : Oper} {a : Act} {K : Act → World → Prop} {Q : Exit → Act → World → Prop} (s x : Operand) (t : TypeId) (ho : o.op = .call { callee := .builtin .append, args := #[s, x], argTypes := #[t, t] })
    (e : TypeId) (i : TypeInfo) (z : Value) (bytes : Nat) (ht : P.underlying t = some (.slice e)) (hi : P.info? e = some i) (hz : i.zero = some z) (hsize : i.size = 1) (hby : i.bytes = bytes) (hzs : z.cells.size = 1)
    (v : Value) (n : Nat) (xs : List Value) (hv : a.eval s = v) (hown : w.ownsRow 0 e 1 v n xs) (A : Option Addr) (m c : Nat) (us : List Value) (hx : a.eval x = .slice A m c) (hs : SrcAt w A m us) (h1 : ∀ u ∈ us, u.oneCell' = true) (h63 : n + m ≤ maxLen) (hbytes : (n + m) * bytes ≤ 140737488355328)
    (h : ∀ v' w', w'.ownsRow 0 e 1 v' (n + m) (xs ++ us) → w.grownBy w' v.ownBlock → (v'.ownBlock = v.ownBlock ∨ v'.ownBlock = some w.heap.size) → K (a.put o.dst v') w') : o.wp P a w K Q := by
  obtain ⟨v', w', hr, h2, h3, h4⟩ := run_append_src (P := P) w t o.type e i z bytes ht hi hz hsize hby hzs v n xs hown A m c us hs h1 h63 hbytes
  unfold Oper.wp execOp
  simp only [ho, resolve, invoke, builtin, Sem.run_bind, Sem.run_pure, Result.andThen_ok, List.map_toArray, List.map_cons, List.map_nil, hv, hx, hr]
  exact h v' w' h2 h3 h4

theorem wpList_append_src {P : Program} (w : World) {ops : Array Oper} {rest : List Oper} {o : Oper} {a : Act} {Q : Exit → Act → World → Prop} (hgd : o.guard = none) (s x : Operand) (t : TypeId) (ho : o.op = .call { callee := .builtin .append, args := #[s, x], argTypes := #[t, t] })
    (e : TypeId) (i : TypeInfo) (z : Value) (bytes : Nat) (ht : P.underlying t = some (.slice e)) (hi : P.info? e = some i) (hz : i.zero = some z) (hsize : i.size = 1) (hby : i.bytes = bytes) (hzs : z.cells.size = 1)
    (v : Value) (n : Nat) (xs : List Value) (hv : a.eval s = v) (hown : w.ownsRow 0 e 1 v n xs) (A : Option Addr) (m c : Nat) (us : List Value) (hx : a.eval x = .slice A m c) (hs : SrcAt w A m us) (h1 : ∀ u ∈ us, u.oneCell' = true) (h63 : n + m ≤ maxLen) (hbytes : (n + m) * bytes ≤ 140737488355328)
    (h : ∀ v' w', w'.ownsRow 0 e 1 v' (n + m) (xs ++ us) → w.grownBy w' v.ownBlock → (v'.ownBlock = v.ownBlock ∨ v'.ownBlock = some w.heap.size) → wpList P ops Q rest (a.put o.dst v') w') : wpList P ops Q (o :: rest) a w :=
  wpList_plain hgd fun _ hK => wp_append_src w s x t ho e i z bytes ht hi hz hsize hby hzs v n xs hv hown A m c us hx hs h1 h63 hbytes fun v' w' h2 h3 h4 => hK _ _ (h v' w' h2 h3 h4)

theorem step_append_src {P : Program} (w : World) {ops : Array Oper} {o : Oper} {a : Act} {K : Act → World → Prop} {Q : Exit → Act → World → Prop} {E : Prop} (hgd : o.guard = none) (s x : Operand) (t : TypeId) (ho : o.op = .call { callee := .builtin .append, args := #[s, x], argTypes := #[t, t] })
    (e : TypeId) (i : TypeInfo) (z : Value) (bytes : Nat) (ht : P.underlying t = some (.slice e)) (hi : P.info? e = some i) (hz : i.zero = some z) (hsize : i.size = 1) (hby : i.bytes = bytes) (hzs : z.cells.size = 1)
    (v : Value) (n : Nat) (xs : List Value) (hv : a.eval s = v) (hown : w.ownsRow 0 e 1 v n xs) (A : Option Addr) (m c : Nat) (us : List Value) (hx : a.eval x = .slice A m c) (hs : SrcAt w A m us) (h1 : ∀ u ∈ us, u.oneCell' = true) (h63 : n + m ≤ maxLen) (hbytes : (n + m) * bytes ≤ 140737488355328)
    (h : ∀ v' w', w'.ownsRow 0 e 1 v' (n + m) (xs ++ us) → w.grownBy w' v.ownBlock → (v'.ownBlock = v.ownBlock ∨ v'.ownBlock = some w.heap.size) → K (a.put o.dst v') w') :
    if Region.wanted o (yielded ops a.tmps) = true then Oper.wp P o a w K Q else E := by
  have hw : Region.wanted o (yielded ops a.tmps) = true := by simp [Region.wanted, hgd]
  rw [if_pos hw]
  exact wp_append_src w s x t ho e i z bytes ht hi hz hsize hby hzs v n xs hv hown A m c us hx hs h1 h63 hbytes h

/-- What was appended to a new, empty slice. -/
theorem own_of_copy {w w' : World} {zs : List Int} {v : Value} (h : w'.ownsRow 0 3 1 v (0 + zs.length) (([] : List Value) ++ zs.map iv)) (hb : ∀ g, v.ownBlock = some g → w.heap.size ≤ g) : ∃ A c, v = .slice A zs.length c ∧ OwnI w' w.heap.size w'.heap.size (.slice A zs.length c) zs := by
  rw [Nat.zero_add, List.nil_append] at h
  obtain ⟨A, c, rfl⟩ := own_form h
  exact ⟨A, c, rfl, ownsRow_base h hb, fun g hg => (h.lt g hg).2⟩

/-- New rows, behind a name. -/
def RowsNew (R : List (List Int)) (w : World) (e : Ending) (w' : World) : Prop :=
  ∃ (A : Option Addr) (c : Nat), e = .returned (.slice A R.length c) ∧ OwnR w' w.heap.size w'.heap.size (.slice A R.length c) R ∧ Below w.heap.size w w'

theorem RowsNew.of {R : List (List Int)} {w w' : World} {v : Value} (h : OwnR w' w.heap.size w'.heap.size v R) (hb : Below w.heap.size w w') : RowsNew R w (.returned v) w' := by
  obtain ⟨A, c, rfl⟩ := h.form
  exact ⟨A, c, rfl, h, hb⟩

/-- Owned rows, laid open for one row more. -/
theorem OwnR.open_ {w : World} {lo hi : Nat} {v : Value} {rs : List (List Int)} (h : OwnR w lo hi v rs) : ∃ xs : List Value, w.ownsRow 0 27 1 v rs.length xs ∧ (∀ g, v.ownBlock = some g → lo ≤ g ∧ g < hi ∧ g < w.heap.size) ∧
    ∀ (w1 w' : World) (A1 : Option Addr) (r : List Int) (c1 lo1 hi1 g cap : Nat), Below w.heap.size w w1 → OwnI w1 lo1 hi1 (.slice A1 r.length c1) r → hi ≤ lo1 → lo ≤ lo1 → hi1 ≤ w1.heap.size → lo ≤ w1.heap.size →
      w'.ownsRow 0 27 1 (.slice (some ⟨g, 0, none⟩) (rs.length + 1) cap) (rs.length + 1) (xs ++ [.slice A1 r.length c1]) → w1.grownBy w' v.ownBlock → (v.ownBlock = some g ∨ g = w1.heap.size) →
      OwnR w' lo w'.heap.size (.slice (some ⟨g, 0, none⟩) (rs.length + 1) cap) (rs ++ [r]) := by
  obtain ⟨F, h1, h2⟩ := h
  obtain ⟨xs, k1, k2, k3⟩ := h1.open_ eRow_ok
  refine ⟨xs, k1, fun g hg => ⟨(h2 g (k2 g hg)).1, (h2 g (k2 g hg)).2, h1.bound g (k2 g hg)⟩, fun w1 w' A1 r c1 lo1 hi1 g cap hb ho hlo hlo' hhi hl hown hgrow hat => ?_⟩
  have := k3 w1 w' (fun k => lo1 ≤ k ∧ k < hi1) [.slice A1 r.length c1] r g cap ⟨hb.os, hb.tape, hb.output, hb.size, fun i hi _ => hb.block i hi⟩ (ERow.of ho hhi) rfl (fun k hk hk' => by have := h2 k hk; omega) hown hgrow (by rcases hat with h | h; exact .inl h; exact .inr (by omega))
  refine ⟨_, this, fun k hk => ⟨?_, this.bound k hk⟩⟩
  rcases hk with hk | hk | rfl
  · exact (h2 k hk).1
  · omega
  · rcases hat with h | h
    · exact (h2 k (k2 k h)).1
    · omega

theorem OwnR.empty (w : World) {lo : Nat} (h : lo ≤ w.heap.size) : OwnR (w.alloc (.cells #[] 27)) lo (w.alloc (.cells #[] 27)).heap.size (.slice (some ⟨w.heap.size, 0, none⟩) 0 0) [] :=
  ⟨_, OwnSl.empty w, fun k hk => by subst hk; simp; exact h⟩

end

section
open Go.RowKit

theorem cell_set_other {W : World} {b i b' i' : Nat} {x : Value} (h : ¬ (b = b' ∧ i = i')) : (W.setCell ⟨b', i', none⟩ x).cell? ⟨b, i, none⟩ = W.cell? ⟨b, i, none⟩ := World.cell?_setCell_other W _ _ x (fun e => h (by injection e with h1 h2; exact ⟨h1.symm, h2.symm⟩))

theorem cell_set_same {W : World} {b i : Nat} {x y : Value} (h : W.cell? ⟨b, i, none⟩ = some y) : (W.setCell ⟨b, i, none⟩ x).cell? ⟨b, i, none⟩ = some x := by simp [go_sem, h]

theorem frozen_set {W : World} {b i b' i' : Nat} {x : Value} : (W.setCell ⟨b', i', none⟩ x).frozen? ⟨b, i, none⟩ = W.frozen? ⟨b, i, none⟩ := by simp [go_sem]

end

section
open Go.RowKit Go.Deep

/-- The cells L (block, place, value) are known in W; all that lay in w lies. -/
structure Kn (w : World) (L : List (Nat × Nat × Value)) (W : World) : Prop where
  bel : Below w.heap.size w W
  cell : ∀ t ∈ L, t.1 < W.heap.size ∧ W.cell? ⟨t.1, t.2.1, none⟩ = some t.2.2
  frz : ∀ t ∈ L, W.frozen? ⟨t.1, t.2.1, none⟩ = false

theorem Kn.start (w : World) : Kn w [] w := ⟨Below.refl _ _, by simp, by simp⟩

theorem Kn.next {w W W' : World} {L : List (Nat × Nat × Value)} (h : Kn w L W) (b : Below W.heap.size W W') : Kn w L W' :=
  ⟨h.bel.trans (b.mono h.bel.size), fun t ht => ⟨Nat.lt_of_lt_of_le (h.cell t ht).1 b.size, (b.cell (p := ⟨t.1, t.2.1, none⟩) (h.cell t ht).1).trans (h.cell t ht).2⟩, fun t ht => (b.frozen (p := ⟨t.1, t.2.1, none⟩) (h.cell t ht).1).trans (h.frz t ht)⟩

theorem Kn.drew {w W : World} {L : List (Nat × Nat × Value)} (h : Kn w L W) : Kn w L W.drew := h.next (Below.refl _ _).drew

theorem Kn.qt {w W W' : World} {L : List (Nat × Nat × Value)} (h : Kn w L W) (q : Qt W W') : Kn w L W' := h.next (q.below _)

theorem Kn.chg {w W W' : World} {L : List (Nat × Nat × Value)} {lo hi : Nat} (h : Kn w L W) (c : Chg lo hi W W') (hlo : w.heap.size ≤ lo) (hd : ∀ t ∈ L, t.1 < lo ∨ hi ≤ t.1) : Kn w L W' :=
  ⟨h.bel.trans (c.below hlo h.bel.size), fun t ht => ⟨Nat.lt_of_lt_of_le (h.cell t ht).1 c.size, (World.cell?_of_block (c.block t.1 (h.cell t ht).1 (hd t ht))).trans (h.cell t ht).2⟩, fun t ht => (World.frozen?_of_block (c.block t.1 (h.cell t ht).1 (hd t ht))).trans (h.frz t ht)⟩

/-- A new block, its first cells known. -/
theorem Kn.box {w W : World} {L : List (Nat × Nat × Value)} (h : Kn w L W) (cs : List Value) (t : TypeId) : Kn w (L ++ cs.zipIdx.map fun x => (W.heap.size, x.2, x.1)) (W.alloc (.cells cs.toArray t)) := by
  have h1 := h.next ((Below.refl _ _).alloc (Nat.le_refl _) (.cells cs.toArray t))
  refine ⟨h1.bel, fun x hx => ?_, fun x hx => ?_⟩
  · rcases List.mem_append.1 hx with hx | hx
    · exact h1.cell x hx
    · obtain ⟨y, hy, rfl⟩ := List.mem_map.1 hx
      refine ⟨by simp, ?_⟩
      have hy' := List.mem_zipIdx' hy
      rw [cell_of_row (W.alloc (.cells cs.toArray t)) W.heap.size y.2 cs.toArray t (0, 0) (heap_alloc_new W _)]
      simp [hy'.1, hy'.2]
  · rcases List.mem_append.1 hx with hx | hx
    · exact h1.frz x hx
    · obtain ⟨y, hy, rfl⟩ := List.mem_map.1 hx
      have hn := heap_alloc_new W (.cells cs.toArray t)
      unfold World.frozen?
      rw [hn]
      simp

theorem Kn.box3 {w W : World} {L : List (Nat × Nat × Value)} (h : Kn w L W) (x y z : Value) (t : TypeId) : Kn w (L ++ [(W.heap.size, 0, x), (W.heap.size, 1, y), (W.heap.size, 2, z)]) (W.alloc (.cells #[x, y, z] t)) := h.box [x, y, z] t

theorem Kn.box1 {w W : World} {L : List (Nat × Nat × Value)} (h : Kn w L W) (x : Value) (t : TypeId) : Kn w (L ++ [(W.heap.size, 0, x)]) (W.alloc (.cells #[x] t)) := h.box [x] t

/-- The cells, one by one. -/
@[reducible] def KAll (W : World) : List (Nat × Nat × Value) → Prop → Prop
  | [], P => P
  | t :: L, P => W.cell? ⟨t.1, t.2.1, none⟩ = some t.2.2 ∧ KAll W L P

theorem kall_of {W : World} {P : Prop} (hP : P) : ∀ {L : List (Nat × Nat × Value)}, (∀ t ∈ L, W.cell? ⟨t.1, t.2.1, none⟩ = some t.2.2) → KAll W L P
  | [], _ => hP
  | _ :: _, h => ⟨h _ (by simp), kall_of hP fun s hs => h s (by simp [hs])⟩

theorem Kn.all {w W : World} {L : List (Nat × Nat × Value)} (h : Kn w L W) : KAll W L True := kall_of trivial fun t ht => (h.cell t ht).2

theorem Kn.allAnd {w W : World} {L : List (Nat × Nat × Value)} {P : Prop} (h : Kn w L W) (hP : P) : KAll W L P := kall_of hP fun t ht => (h.cell t ht).2

/-- The marks, one by one. -/
@[reducible] def FAll (W : World) : List (Nat × Nat × Value) → Prop
  | [] => True
  | t :: L => W.frozen? ⟨t.1, t.2.1, none⟩ = false ∧ FAll W L

theorem fall_of {W : World} : ∀ {L : List (Nat × Nat × Value)}, (∀ t ∈ L, W.frozen? ⟨t.1, t.2.1, none⟩ = false) → FAll W L
  | [], _ => trivial
  | _ :: _, h => ⟨h _ (by simp), fall_of fun s hs => h s (by simp [hs])⟩

theorem Kn.fall {w W : World} {L : List (Nat × Nat × Value)} (h : Kn w L W) : FAll W L := fall_of h.frz

/-- Less is known. -/
theorem Kn.sub {w W : World} {L L' : List (Nat × Nat × Value)} (h : Kn w L W) (hs : ∀ t ∈ L', t ∈ L) : Kn w L' W := ⟨h.bel, fun t ht => h.cell t (hs t ht), fun t ht => h.frz t (hs t ht)⟩

theorem rdR_next {W w1 : World} {A : Option Addr} {n : Nat} {rs : List (List Int)} (b : Below W.heap.size W w1) (h : RdR W W.heap.size A n rs) : RdR w1 w1.heap.size A n rs := (RdR.belowB h b (Nat.le_refl _)).more b.size

theorem rdR_drew {W : World} {A : Option Addr} {n : Nat} {rs : List (List Int)} (h : RdR W W.heap.size A n rs) : RdR W.drew W.drew.heap.size A n rs := h

theorem Kn.allB {w wj W : World} {L : List (Nat × Nat × Value)} (h : Kn w L wj) (b : Below wj.heap.size wj W) : KAll W L (Below wj.heap.size wj W) := (h.next b).allAnd b

theorem bel_step {wj W w1 : World} (h : Below wj.heap.size wj W) (b1 : Below W.heap.size W w1) : Below wj.heap.size wj w1 := h.trans (b1.mono h.size)

theorem Kn.step {w W w1 : World} {L : List (Nat × Nat × Value)} (b : Below W.heap.size W w1) (h : Kn w L W) : Kn w L w1 := h.next b

end

section
open Go.RowKit Go.Deep

theorem own_at {W : World} {g : Nat} {e : TypeId} (h : W.heap[g]? = some (.cells #[] e (0, 0))) : W.ownsRow 0 e 1 (.slice (some ⟨g, 0, none⟩) 0 0) 0 [] := ⟨by simp, .inr ⟨g, 0, #[], rfl, Nat.zero_le _, h, Nat.le_refl _, by unfold maxLen; omega, rfl, by simp⟩⟩

theorem hat_ge {wr : World} {v1 : Value} {H : Nat} (hat : v1.ownBlock = (Value.slice (some ⟨wr.heap.size, 0, none⟩) 0 0).ownBlock ∨ v1.ownBlock = some H) (hH : wr.heap.size ≤ H) : ∀ g, v1.ownBlock = some g → wr.heap.size ≤ g := fun g hg => by
  rcases hat with h | h
  · rw [h] at hg
    simp [Value.ownBlock] at hg
    omega
  · rw [h] at hg
    simp at hg
    omega

/-- Behind the argument's box tb, the result's cell rb and the table's own box xb, all below lo, lie the rows R in the slice v, which xb's third cell holds. -/
structure LInv (w : World) (tb rb xb lo : Nat) (t0 t1 t2 x0 x1 : Value) (R : List (List Int)) (v : Value) (W : World) : Prop where
  own : OwnR W lo W.heap.size v R
  bel : Below w.heap.size w W
  size : lo ≤ W.heap.size
  hw : w.heap.size ≤ xb
  htb : tb < lo
  hrb : rb < lo
  hxb : xb < lo
  ntb : tb ≠ xb
  nrb : rb ≠ xb
  c0 : W.cell? ⟨tb, 0, none⟩ = some t0
  c1 : W.cell? ⟨tb, 1, none⟩ = some t1
  c2 : W.cell? ⟨tb, 2, none⟩ = some t2
  x0 : W.cell? ⟨xb, 0, none⟩ = some x0
  x1 : W.cell? ⟨xb, 1, none⟩ = some x1
  x2 : W.cell? ⟨xb, 2, none⟩ = some v
  fx : W.frozen? ⟨xb, 2, none⟩ = false
  res : ∀ i, i < 3 → (W.cell? ⟨rb, i, none⟩).isSome = true ∧ W.frozen? ⟨rb, i, none⟩ = false

theorem LInv.push {w W w2 : World} {tb rb xb lo : Nat} {t0 t1 t2 x0 x1 v v' : Value} {R R' : List (List Int)} (h : LInv w tb rb xb lo t0 t1 t2 x0 x1 R v W) (hB : Below lo W w2) (ho : OwnR w2 lo w2.heap.size v' R') :
    LInv w tb rb xb lo t0 t1 t2 x0 x1 R' v' (w2.setCell ⟨xb, 2, none⟩ v') := by
  have c := fun b i (hb : b < lo) => hB.cell (p := ⟨b, i, none⟩) hb
  have f := fun b i (hb : b < lo) => hB.frozen (p := ⟨b, i, none⟩) hb
  have hhs : ∀ u : Value, (w2.setCell ⟨xb, 2, none⟩ u).heap.size = w2.heap.size := fun u => by simp [World.setCell]
  have n0 := h.ntb
  have n1 := h.nrb
  refine ⟨by rw [hhs]; exact ho.setLow h.hxb, (h.bel.trans (hB.mono (by have := h.hw; have := h.hxb; omega))).setCell h.hw _, by rw [hhs]; exact Nat.le_trans h.size hB.size, h.hw, h.htb, h.hrb, h.hxb, h.ntb, h.nrb,
    (cell_set_other (by omega)).trans ((c tb 0 h.htb).trans h.c0), (cell_set_other (by omega)).trans ((c tb 1 h.htb).trans h.c1), (cell_set_other (by omega)).trans ((c tb 2 h.htb).trans h.c2),
    (cell_set_other (by omega)).trans ((c xb 0 h.hxb).trans h.x0), (cell_set_other (by omega)).trans ((c xb 1 h.hxb).trans h.x1), cell_set_same ((c xb 2 h.hxb).trans h.x2), frozen_set.trans ((f xb 2 h.hxb).trans h.fx), fun i hi => ⟨?_, frozen_set.trans ((f rb i h.hrb).trans (h.res i hi).2)⟩⟩
  rw [cell_set_other (by omega), c rb i h.hrb]
  exact (h.res i hi).1

theorem LInv.drewN {w W : World} {tb rb xb lo : Nat} {t0 t1 t2 x0 x1 v : Value} {R : List (List Int)} (h : LInv w tb rb xb lo t0 t1 t2 x0 x1 R v W) (q : Nat) : LInv w tb rb xb lo t0 t1 t2 x0 x1 R v (W.drewN q) :=
  ⟨h.own.drewN q, below_drewN h.bel q, h.size, h.hw, h.htb, h.hrb, h.hxb, h.ntb, h.nrb, h.c0, h.c1, h.c2, h.x0, h.x1, h.x2, h.fx, h.res⟩

theorem LInv.drew {w W : World} {tb rb xb lo : Nat} {t0 t1 t2 x0 x1 v : Value} {R : List (List Int)} (h : LInv w tb rb xb lo t0 t1 t2 x0 x1 R v W) : LInv w tb rb xb lo t0 t1 t2 x0 x1 R v W.drew := h.drewN 1

theorem LInv.next {w W W' : World} {tb rb xb lo : Nat} {t0 t1 t2 x0 x1 v : Value} {R : List (List Int)} (h : LInv w tb rb xb lo t0 t1 t2 x0 x1 R v W) (b : Below W.heap.size W W') : LInv w tb rb xb lo t0 t1 t2 x0 x1 R v W' := by
  have c := fun k i (hk : k < lo) => b.cell (p := ⟨k, i, none⟩) (Nat.lt_of_lt_of_le hk h.size)
  have f := fun k i (hk : k < lo) => b.frozen (p := ⟨k, i, none⟩) (Nat.lt_of_lt_of_le hk h.size)
  exact ⟨(h.own.below b (Nat.le_refl _)).wide b.size, h.bel.trans (b.mono h.bel.size), Nat.le_trans h.size b.size, h.hw, h.htb, h.hrb, h.hxb, h.ntb, h.nrb, (c tb 0 h.htb).trans h.c0, (c tb 1 h.htb).trans h.c1, (c tb 2 h.htb).trans h.c2,
    (c xb 0 h.hxb).trans h.x0, (c xb 1 h.hxb).trans h.x1, (c xb 2 h.hxb).trans h.x2, (f xb 2 h.hxb).trans h.fx, fun i hi => ⟨by rw [c rb i h.hrb]; exact (h.res i hi).1, (f rb i h.hrb).trans (h.res i hi).2⟩⟩

/-- The rows R are done; the result's cell takes the table. -/
theorem LInv.fin {w W : World} {tb rb xb lo : Nat} {t0 t1 t2 x0 x1 v : Value} {R : List (List Int)} (h : LInv w tb rb xb lo t0 t1 t2 x0 x1 R v W) (hlo : w.heap.size ≤ lo) (hrb : w.heap.size ≤ rb) (a b c : Value) :
    OwnR (((W.setCell ⟨rb, 0, none⟩ a).setCell ⟨rb, 1, none⟩ b).setCell ⟨rb, 2, none⟩ c) w.heap.size (((W.setCell ⟨rb, 0, none⟩ a).setCell ⟨rb, 1, none⟩ b).setCell ⟨rb, 2, none⟩ c).heap.size v R ∧ Below w.heap.size w (((W.setCell ⟨rb, 0, none⟩ a).setCell ⟨rb, 1, none⟩ b).setCell ⟨rb, 2, none⟩ c) :=
  ⟨by
    have := ((h.own.setLow (i := 0) (x := a) h.hrb).setLow (i := 1) (x := b) h.hrb).setLow (i := 2) (x := c) h.hrb
    exact (this.down hlo).wide (by simp [World.setCell]), ((h.bel.setCell hrb _).setCell hrb _).setCell hrb _⟩

end

section
open Go.RowKit Go.Deep

structure Tab where
  nm : ByteArray
  ar : Int
  rs : List (List Int)

/-- A table among the cells of a slice. -/
def RTab (w : World) (B : Nat) (cs : List Value) (t : Tab) : Prop := ∃ A c, cs = [.string t.nm, .int .i64 t.ar, .slice A t.rs.length c] ∧ RdR w B A t.rs.length t.rs ∧ t.rs.length ≤ maxLen ∧ t.nm.size ≤ maxLen

theorem rTab_ok : RdOk RTab where
  keep := fun ⟨A, c, h1, h2, h3, h4⟩ hk => ⟨A, c, h1, RdSl.keep rRow_ok h2 hk, h3, h4⟩
  more := fun ⟨A, c, h1, h2, h3, h4⟩ hB => ⟨A, c, h1, RdR.more h2 hB, h3, h4⟩

abbrev RdT (w : World) (B : Nat) (A : Option Addr) (n : Nat) (ts : List Tab) : Prop := RdSl 3 RTab w B A n ts

theorem RdT.at_ {w : World} {B n : Nat} {A : Option Addr} {ts : List Tab} (h : RdT w B A n ts) {k : Nat} (hk : k < n) :
    ∃ b o t A' c', A = some ⟨b, o, none⟩ ∧ b < B ∧ ts[k]? = some t ∧ w.cell? ⟨b, o + k * 3, none⟩ = some (.string t.nm) ∧ w.cell? ⟨b, o + k * 3 + 1, none⟩ = some (.int .i64 t.ar) ∧ w.cell? ⟨b, o + k * 3 + 2, none⟩ = some (.slice A' t.rs.length c') ∧
      RdR w B A' t.rs.length t.rs ∧ t.rs.length ≤ maxLen ∧ t.nm.size ≤ maxLen := by
  obtain ⟨b, o, t, cs, hA, hb, hr, _, hc, A', c', rfl, hrd, hm, hn⟩ := RdSl.at_ h hk
  refine ⟨b, o, t, A', c', hA, hb, hr, ?_, ?_, ?_, hrd, hm, hn⟩
  · have := hc 0 _ rfl
    rwa [Nat.add_zero] at this
  · have := hc 1 _ rfl
    rwa [← Nat.add_assoc] at this
  · have := hc 2 _ rfl
    rwa [← Nat.add_assoc] at this

theorem RdT.chg {w w' : World} {B n a b : Nat} {A : Option Addr} {ts : List Tab} (h : RdT w B A n ts) (c : Chg a b w w') (hB : B ≤ a) (hs : B ≤ w.heap.size) : RdT w' B A n ts := RdSl.keep rTab_ok h fun k hk => c.block k (by omega) (by omega)

theorem RdT.belowB {w w' : World} {B B' n : Nat} {A : Option Addr} {ts : List Tab} (h : RdT w B A n ts) (b : Below B' w w') (hB : B ≤ B') : RdT w' B A n ts := RdSl.below rTab_ok h b hB

theorem RdT.more {w : World} {B B' n : Nat} {A : Option Addr} {ts : List Tab} (h : RdT w B A n ts) (hB : B ≤ B') : RdT w B' A n ts := RdSl.more rTab_ok h hB

theorem Qt.rdT {w w' : World} {A : Option Addr} {n : Nat} {ts : List Tab} (hq : Qt w w') (h : RdT w w.heap.size A n ts) : RdT w' w'.heap.size A n ts := by
  have := RdT.belowB h (hq.below w.heap.size) (Nat.le_refl _)
  rwa [← hq.heap] at this

theorem rdT_next {W w1 : World} {A : Option Addr} {n : Nat} {ts : List Tab} (b : Below W.heap.size W w1) (h : RdT W W.heap.size A n ts) : RdT w1 w1.heap.size A n ts := (RdT.belowB h b (Nat.le_refl _)).more b.size

theorem OwnT.keepH {α : Type} {e : TypeId} {size : Nat} {E : World → (Nat → Prop) → List Value → α → Prop} {w w' : World} {F : Nat → Prop} {v : Value} {ts : List (Item α)} (ok : OwnOk E) (h : OwnT e size E w F v ts) (hk : ∀ k, F k → w'.heap[k]? = w.heap[k]?) : OwnT e size E w' F v ts :=
  ⟨ownsRow_keep h.row fun g hg => hk g (h.head g hg).1, h.len, fun t ht => ok.keep (h.elem t ht) fun k hf => hk k (h.inF t ht k hf), h.apart, h.head, h.inF, fun k hf => lt_of_heap_eq (hk k hf) (h.bound k hf)⟩

theorem OwnR.keepH {w w' : World} {lo hi : Nat} {v : Value} {rs : List (List Int)} (h : OwnR w lo hi v rs) (hk : ∀ k, lo ≤ k ∧ k < hi → w'.heap[k]? = w.heap[k]?) : OwnR w' lo hi v rs := by
  obtain ⟨F, ⟨ts, h0, h1⟩, h2⟩ := h
  exact ⟨F, ⟨ts, h0, h1.keepH eRow_ok fun k hf => hk k (h2 k hf)⟩, h2⟩

/-- A table of the call's own. -/
def ETab (w : World) (F : Nat → Prop) (cs : List Value) (t : Tab) : Prop :=
  ∃ A c lo hi, cs = [.string t.nm, .int .i64 t.ar, .slice A t.rs.length c] ∧ OwnR w lo hi (.slice A t.rs.length c) t.rs ∧ t.nm.size ≤ maxLen ∧ t.rs.length ≤ maxLen ∧ (∀ k, lo ≤ k ∧ k < hi → F k) ∧ ∀ k, F k → k < w.heap.size

theorem eTab_ok : OwnOk ETab where
  bound := fun ⟨_, _, _, _, _, _, _, _, _, h⟩ => h
  keep := fun ⟨A, c, lo, hi, h1, h2, h3, h3', h4, h5⟩ hk => ⟨A, c, lo, hi, h1, h2.keepH fun k hk' => hk k (h4 k hk'), h3, h3', h4, fun k hf => lt_of_heap_eq (hk k hf) (h5 k hf)⟩

theorem OwnR.len_max {w : World} {lo hi : Nat} {v : Value} {rs : List (List Int)} (h : OwnR w lo hi v rs) : rs.length ≤ maxLen := by
  obtain ⟨F, ⟨ts, rfl, h1⟩, _⟩ := h
  rw [List.length_map]
  exact ownsRow_max h1.row

theorem ETab.of {w : World} {lo hi c : Nat} {A : Option Addr} {nm : ByteArray} {ar : Int} {rs : List (List Int)} (h : OwnR w lo hi (.slice A rs.length c) rs) (hn : nm.size ≤ maxLen) (hh : hi ≤ w.heap.size) :
    ETab w (fun k => lo ≤ k ∧ k < hi) [.string nm, .int .i64 ar, .slice A rs.length c] ⟨nm, ar, rs⟩ :=
  ⟨A, c, lo, hi, rfl, h, hn, h.len_max, fun _ h => h, fun k hk => by omega⟩

theorem rTab_of {w : World} {G : Nat → Prop} {B : Nat} {cs : List Value} {t : Tab} (h : ETab w G cs t) (hB : ∀ k, G k → k < B) : RTab w B cs t := by
  obtain ⟨A, c, lo, hi, h1, h2, h3, h3', h4, h5⟩ := h
  obtain ⟨F, k1, k2⟩ := h2
  exact ⟨A, c, h1, k1.rd rfl (by omega) (fun k hk => hB k (h4 k (k2 k hk))) fun G cs a hE hG => rRow_of hE hG, h3', h3⟩

/-- A slice of tables of the call's own, in blocks from lo to hi. -/
def OwnD (w : World) (lo hi : Nat) (v : Value) (ts : List Tab) : Prop := ∃ F, OwnSl 51 3 ETab w F v ts ∧ ∀ k, F k → lo ≤ k ∧ k < hi

theorem OwnD.form {w : World} {lo hi : Nat} {v : Value} {ts : List Tab} (h : OwnD w lo hi v ts) : ∃ A c, v = .slice A ts.length c := by
  obtain ⟨F, h1, _⟩ := h
  exact h1.form

theorem OwnD.len_eq {w : World} {lo hi n c : Nat} {A : Option Addr} {ts : List Tab} (h : OwnD w lo hi (.slice A n c) ts) : ts.length = n := by
  obtain ⟨A', c', hv⟩ := h.form
  injection hv with _ hn _
  exact hn.symm

theorem OwnD.rd {w : World} {lo hi n c : Nat} {A : Option Addr} {ts : List Tab} (h : OwnD w lo hi (.slice A n c) ts) (hn : ts.length = n) : RdT w hi A n ts := by
  obtain ⟨F, h1, h2⟩ := h
  exact h1.rd hn (by omega) (fun k hk => (h2 k hk).2) fun G cs a hE hG => rTab_of hE hG

theorem OwnD.chg {w w' : World} {lo hi a b : Nat} {v : Value} {ts : List Tab} (h : OwnD w lo hi v ts) (c : Chg a b w w') (hd : hi ≤ a ∨ b ≤ lo) : OwnD w' lo hi v ts := by
  obtain ⟨F, h1, h2⟩ := h
  exact ⟨F, h1.keep eTab_ok c.size fun k hk => c.block k (h1.bound k hk) (by have := h2 k hk; omega), h2⟩

theorem OwnD.below {w w' : World} {lo hi B : Nat} {v : Value} {ts : List Tab} (h : OwnD w lo hi v ts) (b : Below B w w') (hd : hi ≤ B) : OwnD w' lo hi v ts := by
  obtain ⟨F, h1, h2⟩ := h
  exact ⟨F, h1.keep eTab_ok b.size fun k hk => b.block k (by have := h2 k hk; omega), h2⟩

theorem OwnD.wide {w : World} {lo hi hi' : Nat} {v : Value} {ts : List Tab} (h : OwnD w lo hi v ts) (hd : hi ≤ hi') : OwnD w lo hi' v ts := by
  obtain ⟨F, h1, h2⟩ := h
  exact ⟨F, h1, fun k hk => by have := h2 k hk; omega⟩

theorem OwnD.down {w : World} {lo lo' hi : Nat} {v : Value} {ts : List Tab} (h : OwnD w lo hi v ts) (hd : lo' ≤ lo) : OwnD w lo' hi v ts := by
  obtain ⟨F, h1, h2⟩ := h
  exact ⟨F, h1, fun k hk => by have := h2 k hk; omega⟩

theorem OwnD.nil (w : World) (lo hi : Nat) : OwnD w lo hi (.slice none 0 0) [] := ⟨fun _ => False, OwnSl.nil w _ (by simp), by simp⟩

theorem OwnD.setOff {w : World} {lo hi b i : Nat} {v x : Value} {ts : List Tab} (h : OwnD w lo hi v ts) (hb : b < lo ∨ hi ≤ b) : OwnD (w.setCell ⟨b, i, none⟩ x) lo hi v ts := by
  obtain ⟨F, h1, h2⟩ := h
  exact ⟨F, h1.chgF eTab_ok (chgF_setCell w b i x) fun k hk e => by have := h2 k hk; omega, h2⟩

theorem OwnD.drewN {w : World} {lo hi : Nat} {v : Value} {ts : List Tab} (h : OwnD w lo hi v ts) (q : Nat) : OwnD (w.drewN q) lo hi v ts := by
  obtain ⟨F, h1, h2⟩ := h
  exact ⟨F, h1.chgF eTab_ok (chgF_drewN w q fun _ => False) (fun _ _ => id), h2⟩

theorem OwnD.alloc {w : World} {lo hi : Nat} {v : Value} {ts : List Tab} (h : OwnD w lo hi v ts) (o : Obj) : OwnD (w.alloc o) lo hi v ts := by
  obtain ⟨F, h1, h2⟩ := h
  exact ⟨F, h1.chgF eTab_ok (chgF_alloc w o fun _ => False) (fun _ _ => id), h2⟩

/-- Owned tables, laid open for one table more. -/
theorem OwnD.open_ {w : World} {lo hi : Nat} {v : Value} {ts : List Tab} (h : OwnD w lo hi v ts) : ∃ xs : List Value, w.ownsRow 0 51 3 v ts.length xs ∧ (∀ g, v.ownBlock = some g → lo ≤ g ∧ g < hi ∧ g < w.heap.size) ∧
    ∀ (w1 w' : World) (A1 : Option Addr) (nm : ByteArray) (ar : Int) (rs : List (List Int)) (c1 lo1 hi1 g cap : Nat), Below w.heap.size w w1 → OwnR w1 lo1 hi1 (.slice A1 rs.length c1) rs → nm.size ≤ maxLen → hi ≤ lo1 → lo ≤ lo1 → hi1 ≤ w1.heap.size → lo ≤ w1.heap.size →
      w'.ownsRow 0 51 3 (.slice (some ⟨g, 0, none⟩) (ts.length + 1) cap) (ts.length + 1) (xs ++ [.string nm, .int .i64 ar, .slice A1 rs.length c1]) → w1.grownBy w' v.ownBlock → (v.ownBlock = some g ∨ g = w1.heap.size) →
      OwnD w' lo w'.heap.size (.slice (some ⟨g, 0, none⟩) (ts.length + 1) cap) (ts ++ [⟨nm, ar, rs⟩]) := by
  obtain ⟨F, h1, h2⟩ := h
  obtain ⟨xs, k1, k2, k3⟩ := h1.open_ eTab_ok
  refine ⟨xs, k1, fun g hg => ⟨(h2 g (k2 g hg)).1, (h2 g (k2 g hg)).2, h1.bound g (k2 g hg)⟩, fun w1 w' A1 nm ar rs c1 lo1 hi1 g cap hb ho hnm hlo hlo' hhi hl hown hgrow hat => ?_⟩
  have := k3 w1 w' (fun k => lo1 ≤ k ∧ k < hi1) [.string nm, .int .i64 ar, .slice A1 rs.length c1] ⟨nm, ar, rs⟩ g cap ⟨hb.os, hb.tape, hb.output, hb.size, fun i hi _ => hb.block i hi⟩ (ETab.of ho hnm hhi) rfl (fun k hk hk' => by have := h2 k hk; omega) hown hgrow (by rcases hat with h | h; exact .inl h; exact .inr (by omega))
  refine ⟨_, this, fun k hk => ⟨?_, this.bound k hk⟩⟩
  rcases hk with hk | hk | rfl
  · exact (h2 k hk).1
  · omega
  · rcases hat with h | h
    · exact (h2 k (k2 k h)).1
    · omega

/-- Element k of owned tables: its cells, its rows, and what becomes of the whole. -/
theorem OwnD.at_ {w : World} {lo hi n c k : Nat} {A : Option Addr} {ts : List Tab} (h : OwnD w lo hi (.slice A n c) ts) (hn : ts.length = n) (hk : k < n) :
    ∃ g t A' c' lo' hi', A = some ⟨g, 0, none⟩ ∧ lo ≤ g ∧ g < hi ∧ g < w.heap.size ∧ ts[k]? = some t ∧
      (w.cell? ⟨g, k * 3, none⟩ = some (.string t.nm) ∧ w.cell? ⟨g, k * 3 + 1, none⟩ = some (.int .i64 t.ar) ∧ w.cell? ⟨g, k * 3 + 2, none⟩ = some (.slice A' t.rs.length c')) ∧
      (w.frozen? ⟨g, k * 3, none⟩ = false ∧ w.frozen? ⟨g, k * 3 + 1, none⟩ = false ∧ w.frozen? ⟨g, k * 3 + 2, none⟩ = false) ∧ OwnR w lo' hi' (.slice A' t.rs.length c') t.rs ∧ t.rs.length ≤ maxLen ∧
      (∀ w' rs', rs'.length = t.rs.length → OwnR w' lo' hi' (.slice A' t.rs.length c') rs' → Chg lo' hi' w w' → OwnD w' lo hi (.slice A n c) (ts.set k ⟨t.nm, t.ar, rs'⟩) ∧ Chg lo hi w w') ∧
      (∀ w1 (nm : ByteArray), nm.size ≤ maxLen → Below w.heap.size w w1 → OwnD (w1.setCell ⟨g, k * 3, none⟩ (.string nm)) lo hi (.slice A n c) (ts.set k ⟨nm, t.ar, t.rs⟩)) ∧
      (∀ w1 (ar : Int), Below w.heap.size w w1 → OwnD (w1.setCell ⟨g, k * 3 + 1, none⟩ (.int .i64 ar)) lo hi (.slice A n c) (ts.set k ⟨t.nm, ar, t.rs⟩)) ∧
      (∀ w1 A1 (rs : List (List Int)) c1 lo1 hi1, Below w.heap.size w w1 → OwnR w1 lo1 hi1 (.slice A1 rs.length c1) rs → w.heap.size ≤ lo1 → hi1 ≤ w1.heap.size → lo ≤ w.heap.size → OwnD (w1.setCell ⟨g, k * 3 + 2, none⟩ (.slice A1 rs.length c1)) lo w1.heap.size (.slice A n c) (ts.set k ⟨t.nm, t.ar, rs⟩)) := by
  obtain ⟨F, h1, h2⟩ := h
  subst hn
  obtain ⟨g, cap, hv, hFg, cs, t, H, hr, hl, hE, hH, hc, hup, hput⟩ := h1.at_ eTab_ok hk (by omega)
  injection hv with hA _ _
  have hE0 := hE
  obtain ⟨A', c', lo', hi', rfl, ho, hnm, hrl, hiv, hHb⟩ := hE
  have c0 := hc 0 _ rfl
  have c1 := hc 1 _ rfl
  have c2 := hc 2 _ rfl
  rw [Nat.add_zero] at c0
  have cF : ∀ w1, Below w.heap.size w w1 → ChgF (fun _ => False) w w1 := fun w1 b => ⟨b.os, b.tape, b.output, b.size, fun i hi _ => b.block i hi⟩
  have fin : ∀ (w1 : World) (i : Nat) (x : Value) (ts' : List Tab), OwnSl 51 3 ETab (w1.setCell ⟨g, i, none⟩ x) (fun k => F k ∨ H k) (.slice A ts.length c) ts' → OwnD (w1.setCell ⟨g, i, none⟩ x) lo hi (.slice A ts.length c) ts' := fun w1 i x ts' hh =>
    ⟨_, hh, fun k hk => by rcases hk with hk | hk; exact h2 k hk; exact h2 k (hH k hk).1⟩
  refine ⟨g, t, A', c', lo', hi', hA, (h2 g hFg).1, (h2 g hFg).2, h1.bound g hFg, hr, ⟨c0.1, c1.1, c2.1⟩, ⟨c0.2, c1.2, c2.2⟩, ho, hrl, fun w' rs' hl' ho' hch => ?_, fun w1 nm hnm' b => ?_, fun w1 ar b => ?_, fun w1 A1 rs c1' lo1 hi1 b ho1 hlo1 hhi1 hlo => ?_⟩
  · have hcF : ChgF H w w' := ⟨hch.os, hch.tape, hch.output, hch.size, fun k hk hne => hch.block k hk (by
      rcases Nat.lt_or_ge k lo' with h | h
      · exact .inl h
      · rcases Nat.lt_or_ge k hi' with h' | h'
        · exact absurd (hiv k ⟨h, h'⟩) hne
        · exact .inr h')⟩
    have hE' : ETab w' H [.string t.nm, .int .i64 t.ar, .slice A' t.rs.length c'] ⟨t.nm, t.ar, rs'⟩ := ⟨A', c', lo', hi', by rw [hl'], by rw [hl']; exact ho', hnm, by rw [hl']; exact hrl, hiv, fun k hk => Nat.lt_of_lt_of_le (hHb k hk) hch.size⟩
    exact ⟨⟨F, hup w' _ hcF hE', h2⟩, ⟨hcF.os, hcF.tape, hcF.output, hcF.size, fun i hi hne => hcF.block i hi fun hHi => by have := h2 i (hH i hHi).1; omega⟩⟩
  · have := hput w1 H 0 (.string nm) ⟨nm, t.ar, t.rs⟩ (cF w1 b) (by omega) (eTab_ok.keep (w := w) (w' := w1) (cs := [.string nm, .int .i64 t.ar, .slice A' t.rs.length c']) (a := ⟨nm, t.ar, t.rs⟩) ⟨A', c', lo', hi', rfl, ho, hnm', hrl, hiv, hHb⟩ fun k hk => b.block k (hHb k hk)) (fun k hk => .inl hk)
    rw [Nat.add_zero] at this
    exact fin _ _ _ _ this
  · exact fin _ _ _ _ (hput w1 H 1 (.int .i64 ar) ⟨t.nm, ar, t.rs⟩ (cF w1 b) (by omega) (eTab_ok.keep (w := w) (w' := w1) (cs := [.string t.nm, .int .i64 ar, .slice A' t.rs.length c']) (a := ⟨t.nm, ar, t.rs⟩) ⟨A', c', lo', hi', rfl, ho, hnm, hrl, hiv, hHb⟩ fun k hk => b.block k (hHb k hk)) (fun k hk => .inl hk))
  · have := hput w1 (fun i => lo1 ≤ i ∧ i < hi1) 2 (.slice A1 rs.length c1') ⟨t.nm, t.ar, rs⟩ (cF w1 b) (by omega) (ETab.of ho1 hnm hhi1) (fun i hi => .inr (by omega))
    refine ⟨_, this, fun i hi => ?_⟩
    have hbd := this.bound i hi
    simp [World.setCell] at hbd
    rcases hi with hi | hi
    · exact ⟨(h2 i hi).1, hbd⟩
    · exact ⟨by omega, hbd⟩

theorem setCell_comm (w : World) (g i j : Nat) (x y : Value) (h : i ≠ j) : (w.setCell ⟨g, i, none⟩ x).setCell ⟨g, j, none⟩ y = (w.setCell ⟨g, j, none⟩ y).setCell ⟨g, i, none⟩ x := by
  have e : ∀ (c : Array Value), (c.setIfInBounds i x).setIfInBounds j y = (c.setIfInBounds j y).setIfInBounds i x := fun c => Array.setIfInBounds_comm x y h
  unfold World.setCell
  congr 1
  apply Array.ext_getElem?
  intro k
  simp only [Array.getElem?_modify]
  by_cases hk : g = k
  · simp only [if_pos hk]
    cases w.heap[k]? with
    | none => rfl
    | some o => cases o <;> simp [e]
  · simp only [if_neg hk]

/-- Element k takes a whole new table. -/
theorem OwnD.put3 {w : World} {lo hi n c k : Nat} {A : Option Addr} {ts : List Tab} (h : OwnD w lo hi (.slice A n c) ts) (hn : ts.length = n) (hk : k < n) :
    ∃ g, A = some ⟨g, 0, none⟩ ∧ lo ≤ g ∧ g < hi ∧ g < w.heap.size ∧ (∀ i, i < 3 → (w.cell? ⟨g, k * 3 + i, none⟩).isSome = true ∧ w.frozen? ⟨g, k * 3 + i, none⟩ = false) ∧
      ∀ (w1 : World) (nm : ByteArray) (ar : Int) (A1 : Option Addr) (rs : List (List Int)) (c1 lo1 hi1 : Nat), nm.size ≤ maxLen → Below w.heap.size w w1 → OwnR w1 lo1 hi1 (.slice A1 rs.length c1) rs → w.heap.size ≤ lo1 → hi1 ≤ w1.heap.size → lo ≤ w.heap.size →
        OwnD (((w1.setCell ⟨g, k * 3, none⟩ (.string nm)).setCell ⟨g, k * 3 + 1, none⟩ (.int .i64 ar)).setCell ⟨g, k * 3 + 2, none⟩ (.slice A1 rs.length c1)) lo w1.heap.size (.slice A n c) (ts.set k ⟨nm, ar, rs⟩) := by
  obtain ⟨g, t, A', c', lo', hi', hA, h1, h2, h3, ht, ⟨k0, k1, k2⟩, ⟨f0, f1, f2⟩, _, _, _, _, _, hp⟩ := h.at_ hn hk
  refine ⟨g, hA, h1, h2, h3, fun i hi => ?_, fun w1 nm ar A1 rs c1 lo1 hi1 hnm b ho hlo1 hhi1 hlo => ?_⟩
  · have : i = 0 ∨ i = 1 ∨ i = 2 := by omega
    rcases this with rfl | rfl | rfl
    · exact ⟨by rw [Nat.add_zero, k0]; rfl, by rw [Nat.add_zero]; exact f0⟩
    · exact ⟨by rw [k1]; rfl, f1⟩
    · exact ⟨by rw [k2]; rfl, f2⟩
  · rw [setCell_comm _ g (k * 3 + 1) (k * 3 + 2) _ _ (by omega), setCell_comm w1 g (k * 3) (k * 3 + 2) _ _ (by omega)]
    have d1 := hp w1 A1 rs c1 lo1 hi1 b ho hlo1 hhi1 hlo
    subst hA
    have hl1 : (ts.set k ⟨t.nm, t.ar, rs⟩).length = n := by rw [List.length_set, hn]
    have hkt : k < ts.length := by rw [hn]; exact hk
    obtain ⟨g2, t2, _, _, _, _, hA2, _, _, _, ht2, _, _, _, _, _, hs2, _, _⟩ := d1.at_ hl1 hk
    injection hA2 with hA2
    injection hA2 with hA2
    subst hA2
    rw [List.getElem?_set_self hkt] at ht2
    injection ht2 with ht2
    subst ht2
    have d2 := hs2 _ nm hnm (Below.refl _ _)
    rw [List.set_set] at d2
    have hl2 : (ts.set k ⟨nm, t.ar, rs⟩).length = n := by rw [List.length_set, hn]
    obtain ⟨g3, t3, _, _, _, _, hA3, _, _, _, ht3, _, _, _, _, _, _, hs3, _⟩ := d2.at_ hl2 hk
    injection hA3 with hA3
    injection hA3 with hA3
    subst hA3
    rw [List.getElem?_set_self hkt] at ht3
    injection ht3 with ht3
    subst ht3
    have d3 := hs3 _ ar (Below.refl _ _)
    rw [List.set_set] at d3
    exact d3

/-- Element k takes a new name and a new number; its rows may then change in place. -/
theorem OwnD.mark3 {w : World} {lo hi n c k : Nat} {A : Option Addr} {ts : List Tab} (h : OwnD w lo hi (.slice A n c) ts) (hn : ts.length = n) (hk : k < n) :
    ∃ g t A' c', A = some ⟨g, 0, none⟩ ∧ lo ≤ g ∧ g < hi ∧ g < w.heap.size ∧ ts[k]? = some t ∧
      (w.cell? ⟨g, k * 3, none⟩ = some (.string t.nm) ∧ w.cell? ⟨g, k * 3 + 1, none⟩ = some (.int .i64 t.ar) ∧ w.cell? ⟨g, k * 3 + 2, none⟩ = some (.slice A' t.rs.length c')) ∧
      (w.frozen? ⟨g, k * 3, none⟩ = false ∧ w.frozen? ⟨g, k * 3 + 1, none⟩ = false) ∧ t.rs.length ≤ maxLen ∧
      ∀ (w1 : World) (nm : ByteArray) (ar : Int), nm.size ≤ maxLen → Below w.heap.size w w1 →
        ∃ lo' hi', OwnR ((w1.setCell ⟨g, k * 3, none⟩ (.string nm)).setCell ⟨g, k * 3 + 1, none⟩ (.int .i64 ar)) lo' hi' (.slice A' t.rs.length c') t.rs ∧
          ∀ w' rs', rs'.length = t.rs.length → OwnR w' lo' hi' (.slice A' t.rs.length c') rs' → Chg lo' hi' ((w1.setCell ⟨g, k * 3, none⟩ (.string nm)).setCell ⟨g, k * 3 + 1, none⟩ (.int .i64 ar)) w' →
            OwnD w' lo hi (.slice A n c) (ts.set k ⟨nm, ar, rs'⟩) ∧ Chg lo hi ((w1.setCell ⟨g, k * 3, none⟩ (.string nm)).setCell ⟨g, k * 3 + 1, none⟩ (.int .i64 ar)) w' := by
  obtain ⟨g, t, A', c', lo', hi', hA, h1, h2, h3, ht, ⟨k0, k1, k2⟩, ⟨f0, f1, f2⟩, _, hrl, _, hs, _, _⟩ := h.at_ hn hk
  refine ⟨g, t, A', c', hA, h1, h2, h3, ht, ⟨k0, k1, k2⟩, ⟨f0, f1⟩, hrl, fun w1 nm ar hnm b => ?_⟩
  have d1 := hs w1 nm hnm b
  subst hA
  have hkt : k < ts.length := by rw [hn]; exact hk
  have hl1 : (ts.set k ⟨nm, t.ar, t.rs⟩).length = n := by rw [List.length_set, hn]
  obtain ⟨g2, t2, _, _, _, _, hA2, _, _, _, ht2, _, _, _, _, _, _, hs2, _⟩ := d1.at_ hl1 hk
  injection hA2 with hA2
  injection hA2 with hA2
  subst hA2
  rw [List.getElem?_set_self hkt] at ht2
  injection ht2 with ht2
  subst ht2
  have d2 := hs2 _ ar (Below.refl _ _)
  rw [List.set_set] at d2
  have hl2 : (ts.set k ⟨nm, ar, t.rs⟩).length = n := by rw [List.length_set, hn]
  obtain ⟨g3, t3, A3, c3, lo3, hi3, hA3, _, _, _, ht3, ⟨_, _, q2⟩, _, ho3, _, hup, _, _, _⟩ := d2.at_ hl2 hk
  injection hA3 with hA3
  injection hA3 with hA3
  subst hA3
  rw [List.getElem?_set_self hkt] at ht3
  injection ht3 with ht3
  subst ht3
  rw [cell_set_other (by omega), cell_set_other (by omega), b.cell (p := ⟨g, k * 3 + 2, none⟩) h3, k2] at q2
  injection q2 with q2
  injection q2 with q3 _ q4
  subst q3 q4
  refine ⟨lo3, hi3, ho3, fun w' rs' hl ho' hc => ?_⟩
  have := hup w' rs' hl ho' hc
  rw [List.set_set] at this
  exact this

end

section
open Go.RowKit

/-- The decimal digits of a number. -/
def decD (n : Nat) : List UInt8 := if n < 10 then [UInt8.ofNat (48 + n)] else decD (n / 10) ++ [UInt8.ofNat (48 + n % 10)]
  termination_by n
  decreasing_by omega

theorem decD_small {n : Nat} (h : n < 10) : decD n = [UInt8.ofNat (48 + n)] := by rw [decD, if_pos h]

theorem decD_big {n : Nat} (h : ¬ n < 10) : decD n = decD (n / 10) ++ [UInt8.ofNat (48 + n % 10)] := by rw [decD, if_neg h]

/-- The text of an int. -/
def fmtI (n : Int) : List UInt8 := if n < 0 then 45 :: decD n.natAbs else decD n.natAbs

theorem fmtI_pos (N : Nat) : fmtI N = decD N := by rw [fmtI, if_neg (by omega), Int.natAbs_natCast]

theorem fmtI_neg {N : Nat} (h : 0 < N) : fmtI (-(N : Int)) = 45 :: decD N := by rw [fmtI, if_pos (by omega), Int.natAbs_neg, Int.natAbs_natCast]

theorem dig_byte (k : Nat) : (48 + UInt8.ofNat k : UInt8) = UInt8.ofNat (48 + k) := by simp

/-- m is left to be written, o is written. -/
def FInv (N m : Nat) (o : List UInt8) : Prop := (m = 0 → decD N = o) ∧ (m ≠ 0 → decD N = decD m ++ o) ∧ m ≤ N ∧ o.length ≤ 20 ∧ (m ≠ 0 → m * 10 ^ o.length ≤ N)

theorem FInv.start {N : Nat} (h : 0 < N) : FInv N N [] := ⟨fun h' => by omega, fun _ => by simp, Nat.le_refl _, by simp, fun _ => by simp⟩

theorem FInv.step {N m : Nat} {o : List UInt8} (h : FInv N m o) (hm : m ≠ 0) (hN : N ≤ 9223372036854775808) : FInv N (m / 10) (UInt8.ofNat (48 + m % 10) :: o) := by
  obtain ⟨_, h2, h3, h4, h5⟩ := h
  have hl : o.length ≤ 19 := by
    rcases Nat.lt_or_ge 19 o.length with hh | hh
    · have h6 := h5 hm
      have h7 : 10 ^ 20 ≤ 10 ^ o.length := Nat.pow_le_pow_right (by omega) hh
      have h8 : 1 * 10 ^ o.length ≤ m * 10 ^ o.length := Nat.mul_le_mul_right _ (by omega)
      omega
    · exact hh
  refine ⟨fun h0 => ?_, fun h0 => ?_, by omega, by simp; omega, fun h0 => ?_⟩
  · rw [h2 hm, decD_small (by omega), show m % 10 = m from by omega]
    rfl
  · rw [h2 hm, decD_big (by omega), List.append_assoc]
    rfl
  · have h6 := h5 hm
    rw [List.length_cons, Nat.pow_succ, Nat.mul_comm (10 ^ o.length) 10, ← Nat.mul_assoc]
    have h9 : m / 10 * 10 * 10 ^ o.length ≤ m * 10 ^ o.length := Nat.mul_le_mul_right _ (by omega)
    omega

end

section
open Go.RowKit Go.Deep

/-- All that a purse pays for tables. -/
def sumT (ts : List Tab) : Nat := (ts.map fun t => t.nm.size + (t.rs.length + sumL t.rs)).sum

theorem sumT_nil : sumT [] = 0 := rfl

theorem sumT_cons (t : Tab) (ts : List Tab) : sumT (t :: ts) = (t.nm.size + (t.rs.length + sumL t.rs)) + sumT ts := rfl

theorem sumT_append (a b : List Tab) : sumT (a ++ b) = sumT a + sumT b := by simp [sumT]

theorem sumT_mem {ts : List Tab} {t : Tab} (h : t ∈ ts) : t.nm.size + (t.rs.length + sumL t.rs) ≤ sumT ts := by
  induction ts with
  | nil => cases h
  | cons s ts ih =>
    rw [sumT_cons]
    rcases List.mem_cons.1 h with rfl | h
    · omega
    · have := ih h; omega

theorem sumT_take_succ {ts : List Tab} {j : Nat} {t : Tab} (h : ts[j]? = some t) : sumT (ts.take (j + 1)) = sumT (ts.take j) + (t.nm.size + (t.rs.length + sumL t.rs)) := by
  obtain ⟨hj, rfl⟩ := List.getElem?_eq_some_iff.1 h
  rw [List.take_succ_eq_append_getElem hj, sumT_append]
  simp [sumT]

/-- All that a mark counts in tables. -/
def mrkT (ts : List Tab) : Nat := (ts.map fun t => 2 + sumL t.rs).sum

theorem mrkT_nil : mrkT [] = 0 := rfl

theorem mrkT_cons (t : Tab) (ts : List Tab) : mrkT (t :: ts) = (2 + sumL t.rs) + mrkT ts := rfl

theorem mrkT_append (a b : List Tab) : mrkT (a ++ b) = mrkT a + mrkT b := by simp [mrkT]

theorem mrkT_take_succ {ts : List Tab} {j : Nat} {t : Tab} (h : ts[j]? = some t) : mrkT (ts.take (j + 1)) = mrkT (ts.take j) + (2 + sumL t.rs) := by
  obtain ⟨hj, rfl⟩ := List.getElem?_eq_some_iff.1 h
  rw [List.take_succ_eq_append_getElem hj, mrkT_append]
  simp [mrkT]

theorem mrkT_take_le (ts : List Tab) (j : Nat) : mrkT (ts.take j) ≤ mrkT ts := by
  have := mrkT_append (ts.take j) (ts.drop j)
  rw [List.take_append_drop] at this
  omega

theorem mrkT_le (ts : List Tab) : mrkT ts ≤ 2 * ts.length + sumT ts := by
  induction ts with
  | nil => simp [mrkT, sumT]
  | cons t ts ih =>
    rw [mrkT_cons, sumT_cons, List.length_cons]
    omega

/-- The text that a mark writes. -/
def mkT (k : Int) : ByteArray := ⟨(109 :: decD k.toNat).toArray⟩

theorem decD_len1 (n : Nat) : (decD n).length ≤ n + 1 := by
  induction n using decD.induct with
  | case1 n h => rw [decD_small h]; simp
  | case2 n h ih => rw [decD_big h, List.length_append, List.length_singleton]; omega

theorem mkT_size {k : Int} (h : k ≤ 1099511627776) : (mkT k).size ≤ maxLen := by
  have h1 := decD_len1 k.toNat
  have h2 : (mkT k).size = (decD k.toNat).length + 1 := by simp [mkT, ByteArray.size]
  unfold maxLen
  omega

/-- Tables, marked from k on. -/
def cntT : Int → List Tab → List Tab
  | _, [] => []
  | k, t :: ts => ⟨mkT k, k + 1, cntR (k + 1 + 1) t.rs⟩ :: cntT (k + 1 + 1 + (sumL t.rs : Nat)) ts

theorem cntT_length : ∀ (k : Int) (ts : List Tab), (cntT k ts).length = ts.length
  | _, [] => rfl
  | k, t :: ts => by rw [cntT, List.length_cons, List.length_cons, cntT_length]

theorem cntT_get : ∀ (k : Int) (ts : List Tab) (j : Nat) (t : Tab), ts[j]? = some t → (cntT k ts)[j]? = some ⟨mkT (k + (mrkT (ts.take j) : Nat)), k + (mrkT (ts.take j) : Nat) + 1, cntR (k + (mrkT (ts.take j) : Nat) + 1 + 1) t.rs⟩
  | k, [], j, t, h => by simp at h
  | k, s :: ts, 0, t, h => by
    simp at h
    subst h
    simp [cntT, mrkT]
  | k, s :: ts, j + 1, t, h => by
    have := cntT_get (k + 1 + 1 + (sumL s.rs : Nat)) ts j t (by simpa using h)
    have e : k + 1 + 1 + (sumL s.rs : Nat) + (mrkT (ts.take j) : Nat) = k + ((mrkT ((s :: ts).take (j + 1)) : Nat) : Int) := by
      rw [List.take_succ_cons, mrkT_cons]
      omega
    rw [cntT, List.getElem?_cons_succ, this, e]

/-- The first j tables marked, the rest as they were. -/
def markTTo (ts : List Tab) (k : Int) (j : Nat) : List Tab := (cntT k ts).take j ++ ts.drop j

theorem markTTo_zero (ts : List Tab) (k : Int) : markTTo ts k 0 = ts := by simp [markTTo]

theorem markTTo_full (ts : List Tab) (k : Int) : markTTo ts k ts.length = cntT k ts := by
  rw [markTTo, List.take_of_length_le (by rw [cntT_length]; exact Nat.le_refl _)]
  simp

theorem markTTo_length (ts : List Tab) (k : Int) (j : Nat) (hj : j ≤ ts.length) : (markTTo ts k j).length = ts.length := by
  rw [markTTo, List.length_append, List.length_take, List.length_drop, cntT_length]
  omega

theorem markTTo_get {ts : List Tab} {k : Int} {j : Nat} {t : Tab} (h : ts[j]? = some t) : (markTTo ts k j)[j]? = some t := by
  have hj := (List.getElem?_eq_some_iff.1 h).1
  rw [markTTo, List.getElem?_append_right (by rw [List.length_take, cntT_length]; omega), List.length_take, cntT_length, Nat.min_eq_left (by omega), Nat.sub_self, List.getElem?_drop, Nat.add_zero, h]

theorem markTTo_step {ts : List Tab} {k : Int} {j : Nat} {t : Tab} (h : ts[j]? = some t) : (markTTo ts k j).set j ⟨mkT (k + (mrkT (ts.take j) : Nat)), k + (mrkT (ts.take j) : Nat) + 1, cntR (k + (mrkT (ts.take j) : Nat) + 1 + 1) t.rs⟩ = markTTo ts k (j + 1) := by
  have hj := (List.getElem?_eq_some_iff.1 h).1
  have hg := cntT_get k ts j t h
  have hj' : j < (cntT k ts).length := by rw [cntT_length]; exact hj
  have hv : (cntT k ts)[j] = ⟨mkT (k + (mrkT (ts.take j) : Nat)), k + (mrkT (ts.take j) : Nat) + 1, cntR (k + (mrkT (ts.take j) : Nat) + 1 + 1) t.rs⟩ := by rw [List.getElem?_eq_getElem hj'] at hg; injection hg
  rw [markTTo, markTTo, List.set_append_right _ _ (by rw [List.length_take]; omega), List.length_take, Nat.min_eq_left (by omega), Nat.sub_self, List.drop_eq_getElem_cons hj, List.set_cons_zero, List.take_succ_eq_append_getElem hj', hv,
    List.append_assoc, List.singleton_append]

/-- An empty table. -/
def nilTab : Tab := ⟨{ data := #[] }, 0, []⟩

/-- The first k tables, then empty ones. -/
def fillT (ts : List Tab) (k : Nat) : List Tab := ts.take k ++ List.replicate (ts.length - k) nilTab

theorem fillT_zero (ts : List Tab) : fillT ts 0 = List.replicate ts.length nilTab := by simp [fillT]

theorem fillT_full (ts : List Tab) : fillT ts ts.length = ts := by simp [fillT]

theorem fillT_length (ts : List Tab) (k : Nat) (h : k ≤ ts.length) : (fillT ts k).length = ts.length := by simp [fillT]; omega

theorem fillT_step {ts : List Tab} {k : Nat} {t : Tab} (h : ts[k]? = some t) : (fillT ts k).set k t = fillT ts (k + 1) := by
  have hk : k < ts.length := (List.getElem?_eq_some_iff.1 h).1
  have hx : ts[k] = t := (List.getElem?_eq_some_iff.1 h).2
  unfold fillT
  obtain ⟨m, hm⟩ : ∃ m, ts.length - k = m + 1 := ⟨ts.length - k - 1, by omega⟩
  rw [List.set_append_right _ _ (by rw [List.length_take]; omega), List.length_take, Nat.min_eq_left (by omega), Nat.sub_self, hm, List.replicate_succ, List.set_cons_zero, List.take_succ_eq_append_getElem hk, hx,
    List.append_assoc, List.singleton_append, show ts.length - (k + 1) = m from by omega]

end

section
open Go.RowKit Go.Deep

theorem info_tab : (Tryz.prog.info? 51).map (fun i => (i.zero, i.size, i.bytes)) = some (some (.agg #[.string { data := #[] }, .int .i64 0, .slice none 0 0]), 3, 48) := by kernel_rfl

theorem made_flat (a b c : Value) : ∀ n, (madeCells #[a, b, c] (n * 3)).toList = (List.replicate n [a, b, c]).flatten
  | 0 => by simp [madeCells]
  | n + 1 => by
    have ih := made_flat a b c n
    unfold madeCells at ih ⊢
    simp only [Array.toList_map, Array.toList_range] at ih ⊢
    have m0 : n * 3 % 3 = 0 := by omega
    have m1 : (n * 3 + 1) % 3 = 1 := by omega
    have m2 : (n * 3 + 1 + 1) % 3 = 2 := by omega
    rw [show (n + 1) * 3 = n * 3 + 1 + 1 + 1 from by omega, List.range_succ, List.range_succ, List.range_succ, List.map_append, List.map_append, List.map_append, ih, List.replicate_succ', List.flatten_append]
    simp [m0, m1, m2]

def zerT (n : Nat) : Array Value := madeCells #[.string { data := #[] }, .int .i64 0, .slice none 0 0] (n * 3)

theorem make_tabs (n : Nat) (h : n ≤ 1048576) (W : World) : (Instr.makeSlice 24 (.int .i64 (n : Int)) (.int .i64 (n : Int))).run Tryz.prog W = .ok (.slice (some ⟨W.heap.size, 0, none⟩) n n) (W.alloc (.cells (zerT n) 51)) := by
  obtain ⟨i, hi, hz0, hz1, hz2⟩ := info_parts info_tab
  have := run_make (P := Tryz.prog) W 24 51 i _ Tryz.underlying24 hi hz0 .i64 .i64 n n (by omega) (by omega) (by rw [hz2]; omega) (by omega)
  rw [Int.toNat_natCast, hz1] at this
  exact this

theorem own_tabs_made (n : Nat) (hn : n ≤ 1048576) (W : World) : OwnD (W.alloc (.cells (zerT n) 51)) W.heap.size (W.alloc (.cells (zerT n) 51)).heap.size (.slice (some ⟨W.heap.size, 0, none⟩) n n) (List.replicate n nilTab) :=
  ⟨_, OwnSl.made W n [.string { data := #[] }, .int .i64 0, .slice none 0 0] nilTab (zerT n) rfl (by unfold maxLen; omega) (made_flat _ _ _ n) ⟨none, 0, 0, 0, rfl, OwnR.nil _ _ _, by show 0 ≤ _; exact Nat.zero_le _, by show 0 ≤ _; exact Nat.zero_le _, fun k hk => by omega, by simp⟩, fun k hk => by subst hk; simp⟩

end

section
open Go.RowKit Go.Deep

/-- A new database, behind a name. -/
def DbNew (ts : List Tab) (w : World) (e : Ending) (w' : World) : Prop :=
  ∃ (A : Option Addr) (c : Nat), e = .returned (.agg #[.slice A ts.length c]) ∧ OwnD w' w.heap.size w'.heap.size (.slice A ts.length c) ts ∧ Below w.heap.size w w'

theorem DbNew.of {ts : List Tab} {w w' : World} {A : Option Addr} {n c : Nat} (h : OwnD w' w.heap.size w'.heap.size (.slice A n c) ts) (hb : Below w.heap.size w w') : DbNew ts w (.returned (.agg #[.slice A n c])) w' := by
  have hn := h.len_eq
  subst hn
  exact ⟨A, c, rfl, h, hb⟩

theorem sumT_small {ts : List Tab} (h : sumT ts ≤ 1048576) : ∀ t ∈ ts, t.rs.length ≤ 1048576 ∧ ∀ r ∈ t.rs, r.length ≤ 1048576 := fun t ht => by
  have h1 := sumT_mem ht
  exact ⟨by omega, fun r hr => by have := sumL_mem hr; omega⟩

end

section
open Go.RowKit Go.Deep

/-- The model's order of names. -/
def ltN (a b : ByteArray) : Bool := Op.bytesLess a.toList b.toList

def ascN : List Tab → Bool
  | a :: b :: l => ltN a.nm b.nm && ascN (b :: l)
  | _ => true

def validTb (t : Tab) : Bool := validT t.nm t.ar t.rs

def validD (ts : List Tab) : Bool := (ts.all validTb && ascN ts) && decide (ts.length ≤ 6)

theorem ascN_iff : ∀ {ts : List Tab}, ascN ts = true ↔ ∀ j x y, ts[j]? = some x → ts[j + 1]? = some y → ltN x.nm y.nm = true
  | [] => by simp [ascN]
  | [a] => by simp [ascN]
  | a :: b :: l => by
    rw [ascN, Bool.and_eq_true, ascN_iff]
    constructor
    · rintro ⟨h1, h2⟩ j x y hx hy
      cases j with
      | zero =>
        simp at hx hy
        subst hx hy
        exact h1
      | succ j => exact h2 j x y (by simpa using hx) (by simpa using hy)
    · intro h
      exact ⟨h 0 a b rfl rfl, fun j x y hx hy => h (j + 1) x y (by simpa using hx) (by simpa using hy)⟩

/-- Ascending up to place k. -/
def AscN (ts : List Tab) (k : Nat) : Prop := ∀ j x y, j + 1 < k → ts[j]? = some x → ts[j + 1]? = some y → ltN x.nm y.nm = true

theorem AscN.one (ts : List Tab) {k : Nat} (h : k ≤ 1) : AscN ts k := fun j _ _ hj => by omega

theorem AscN.step {ts : List Tab} {j : Nat} {x y : Tab} (h : AscN ts (j + 1)) (hx : ts[j]? = some x) (hy : ts[j + 1]? = some y) (hl : ltN x.nm y.nm = true) : AscN ts (j + 1 + 1) := fun i a b hi ha hb => by
  rcases Nat.lt_or_ge (i + 1) (j + 1) with h1 | h1
  · exact h i a b h1 ha hb
  · obtain rfl : i = j := by omega
    rw [hx] at ha
    rw [hy] at hb
    injection ha with ha
    injection hb with hb
    subst ha hb
    exact hl

theorem AscN.done {ts : List Tab} {k : Nat} (h : AscN ts k) (hk : ts.length ≤ k) : ascN ts = true := ascN_iff.2 fun j x y hx hy => h j x y (by have := (List.getElem?_eq_some_iff.1 hy).1; omega) hx hy

theorem ascN_no {ts : List Tab} {j : Nat} {x y : Tab} (hx : ts[j]? = some x) (hy : ts[j + 1]? = some y) (hl : ltN x.nm y.nm = false) : ascN ts = false := by
  rw [← Bool.not_eq_true]
  intro h
  rw [ascN_iff.1 h j x y hx hy] at hl
  cases hl

theorem validD_no {ts : List Tab} {k : Nat} {t : Tab} (h : ts[k]? = some t) (hv : validTb t = false) : validD ts = false := by
  have : ts.all validTb = false := by
    rw [← Bool.not_eq_true, List.all_eq_true]
    intro hall
    rw [hall t (List.mem_of_getElem? h)] at hv
    cases hv
  rw [validD, this]
  rfl

theorem validD_no2 {ts : List Tab} {j : Nat} {x y : Tab} (hx : ts[j]? = some x) (hy : ts[j + 1]? = some y) (hl : ltN x.nm y.nm = false) : validD ts = false := by
  rw [validD, ascN_no hx hy hl, Bool.and_false]
  rfl

theorem validD_end {ts : List Tab} {k : Nat} (h1 : (ts.take k).all validTb = true) (h2 : AscN ts k) (hk : ts.length ≤ k) : validD ts = decide (ts.length ≤ 6) := by
  rw [List.take_of_length_le hk] at h1
  rw [validD, h1, h2.done hk]
  rfl

theorem tabs_take {ts : List Tab} {k : Nat} {t : Tab} (h : (ts.take k).all validTb = true) (hx : ts[k]? = some t) (hv : validTb t = true) : (ts.take (k + 1)).all validTb = true := by
  rw [List.take_add_one, hx, List.all_append, h]
  simp [hv]

end

section
open Go.RowKit Go.Deep

/-- A name's first letter. -/
def keyB (s : ByteArray) : Nat := match s.data.toList with | b :: _ => b.toNat | [] => 0

theorem toList_one (b : UInt8) : ByteArray.toList ⟨#[b]⟩ = [b] := by
  unfold ByteArray.toList
  unfold ByteArray.toList.loop
  rw [if_pos (show 0 < ByteArray.size ⟨#[b]⟩ from Nat.zero_lt_one)]
  unfold ByteArray.toList.loop
  rw [if_neg (show ¬ 0 + 1 < ByteArray.size ⟨#[b]⟩ from Nat.lt_irrefl 1)]
  rfl

theorem ltN_key {a b : ByteArray} (ha : nameB a = true) (hb : nameB b = true) : ltN a b = decide (keyB a < keyB b) := by
  obtain ⟨x, rfl⟩ := nameB_data ha
  obtain ⟨y, rfl⟩ := nameB_data hb
  unfold ltN
  rw [toList_one, toList_one]
  show Op.bytesLess [x] [y] = decide (x.toNat < y.toNat)
  simp only [Op.bytesLess]
  by_cases h1 : x.toNat < y.toNat
  · simp [h1, UInt8.lt_iff_toNat_lt]
  · simp [h1, UInt8.lt_iff_toNat_lt]

theorem eq_key {a b : ByteArray} (ha : nameB a = true) (hb : nameB b = true) : a = b ↔ keyB a = keyB b := by
  obtain ⟨x, rfl⟩ := nameB_data ha
  obtain ⟨y, rfl⟩ := nameB_data hb
  constructor
  · intro h
    rw [h]
  · intro h
    have : x = y := UInt8.toNat_inj.1 h
    rw [this]

theorem validTb_name {t : Tab} (h : validTb t = true) : nameB t.nm = true := by
  unfold validTb validT at h
  simp only [Bool.and_eq_true] at h
  exact h.1

/-- The tables' letters ascend. -/
abbrev AscK (ts : List Tab) : Prop := ts.Pairwise fun a b => keyB a.nm < keyB b.nm

theorem ascK_of : ∀ {ts : List Tab}, (∀ t ∈ ts, nameB t.nm = true) → ascN ts = true → AscK ts
  | [], _, _ => .nil
  | [a], _, _ => List.pairwise_singleton _ _
  | a :: b :: l, hn, h => by
    rw [ascN, Bool.and_eq_true] at h
    have ih := ascK_of (fun t ht => hn t (by simp [ht])) h.2
    have hab : keyB a.nm < keyB b.nm := by
      have := h.1
      rw [ltN_key (hn a (by simp)) (hn b (by simp))] at this
      simpa using this
    refine .cons (fun x hx => ?_) ih
    rcases List.mem_cons.1 hx with rfl | hx
    · exact hab
    · have := (List.pairwise_cons.1 ih).1 x hx
      omega

theorem ascN_of : ∀ {ts : List Tab}, (∀ t ∈ ts, nameB t.nm = true) → AscK ts → ascN ts = true
  | [], _, _ => rfl
  | [a], _, _ => rfl
  | a :: b :: l, hn, h => by
    rw [ascN, Bool.and_eq_true]
    have h' := List.pairwise_cons.1 h
    refine ⟨?_, ascN_of (fun t ht => hn t (by simp [ht])) h'.2⟩
    rw [ltN_key (hn a (by simp)) (hn b (by simp))]
    simpa using h'.1 b (by simp)

theorem validD_parts {ts : List Tab} (h : validD ts = true) : (∀ t ∈ ts, validTb t = true) ∧ AscK ts ∧ ts.length ≤ 6 := by
  unfold validD at h
  simp only [Bool.and_eq_true, List.all_eq_true, decide_eq_true_eq] at h
  exact ⟨h.1.1, ascK_of (fun t ht => validTb_name (h.1.1 t ht)) h.1.2, h.2⟩

theorem validD_of {ts : List Tab} (h1 : ∀ t ∈ ts, validTb t = true) (h2 : AscK ts) : validD ts = decide (ts.length ≤ 6) := by
  unfold validD
  rw [ascN_of (fun t ht => validTb_name (h1 t ht)) h2, List.all_eq_true.2 h1]
  rfl

/-- LookupTable's answer. -/
def nilR : TabR := ⟨{ data := #[] }, 0, [], false⟩

def lookR (ts : List Tab) (nm : ByteArray) : TabR := match ts.find? fun t => decide (t.nm = nm) with | some t => if validD ts = true then ⟨t.nm, t.ar, t.rs, true⟩ else nilR | none => nilR

theorem find_at {ts : List Tab} {nm : ByteArray} {k : Nat} {t : Tab} (h : ts[k]? = some t) (ht : t.nm = nm) (hno : ∀ j x, j < k → ts[j]? = some x → ¬ x.nm = nm) : ts.find? (fun t => decide (t.nm = nm)) = some t := by
  obtain ⟨hk, rfl⟩ := List.getElem?_eq_some_iff.1 h
  rw [List.find?_eq_some_iff_getElem]
  refine ⟨by simpa using ht, k, hk, rfl, fun j hj => ?_⟩
  have := hno j ts[j] hj (List.getElem?_eq_getElem (by omega))
  simpa using this

theorem find_none {ts : List Tab} {nm : ByteArray} (hno : ∀ x ∈ ts, ¬ x.nm = nm) : ts.find? (fun t => decide (t.nm = nm)) = none := by
  rw [List.find?_eq_none]
  intro x hx
  simpa using hno x hx

/-- No name below k. -/
def NoN (ts : List Tab) (nm : ByteArray) (k : Nat) : Prop := ∀ j x, j < k → ts[j]? = some x → ¬ x.nm = nm

theorem NoN.zero (ts : List Tab) (nm : ByteArray) : NoN ts nm 0 := fun j _ h => by omega

theorem NoN.step {ts : List Tab} {nm : ByteArray} {k : Nat} {t : Tab} (h : NoN ts nm k) (hx : ts[k]? = some t) (ht : ¬ t.nm = nm) : NoN ts nm (k + 1) := fun j x hj hjx => by
  rcases Nat.lt_or_ge j k with h1 | h1
  · exact h j x h1 hjx
  · obtain rfl : j = k := by omega
    rw [hx] at hjx
    injection hjx with hjx
    subst hjx
    exact ht

theorem NoN.all {ts : List Tab} {nm : ByteArray} {k : Nat} (h : NoN ts nm k) (hk : ts.length ≤ k) : ∀ x ∈ ts, ¬ x.nm = nm := fun x hx => by
  obtain ⟨j, hj⟩ := List.mem_iff_getElem?.1 hx
  exact h j x (by have := (List.getElem?_eq_some_iff.1 hj).1; omega) hj

theorem lookR_at {ts : List Tab} {nm : ByteArray} {k : Nat} {t : Tab} (h : ts[k]? = some t) (ht : t.nm = nm) (hno : NoN ts nm k) (hv : validD ts = true) : lookR ts nm = ⟨t.nm, t.ar, t.rs, true⟩ := by
  unfold lookR
  rw [find_at h ht hno]
  simp [hv]

theorem lookR_none {ts : List Tab} {nm : ByteArray} {k : Nat} (hno : NoN ts nm k) (hk : ts.length ≤ k) : lookR ts nm = nilR := by
  unfold lookR
  rw [find_none (hno.all hk)]

theorem lookR_bad {ts : List Tab} (nm : ByteArray) (hv : validD ts = false) : lookR ts nm = nilR := by
  unfold lookR
  cases ts.find? fun t => decide (t.nm = nm) with
  | none => rfl
  | some t => simp [hv]

theorem lookR_ok {ts : List Tab} {nm : ByteArray} (h : (lookR ts nm).ok = true) : validD ts = true ∧ ∃ t ∈ ts, t.nm = nm ∧ lookR ts nm = ⟨t.nm, t.ar, t.rs, true⟩ := by
  unfold lookR at h ⊢
  cases hf : ts.find? fun t => decide (t.nm = nm) with
  | none => rw [hf] at h; cases h
  | some t =>
    rw [hf] at h
    by_cases hv : validD ts = true
    · refine ⟨hv, t, List.mem_of_find?_eq_some hf, ?_, by simp [hv]⟩
      have := List.find?_some hf
      simpa using this
    · simp [hv, nilR] at h

theorem lookR_small {ts : List Tab} (nm : ByteArray) (h : sumT ts ≤ 1048576) : (lookR ts nm).rs.length ≤ 1048576 ∧ sumL (lookR ts nm).rs ≤ 4294967296 := by
  unfold lookR
  cases hf : ts.find? fun t => decide (t.nm = nm) with
  | none => exact ⟨Nat.zero_le _, Nat.zero_le _⟩
  | some t =>
    have hm := sumT_mem (List.mem_of_find?_eq_some hf)
    dsimp only
    split
    · exact ⟨by show t.rs.length ≤ _; omega, by show sumL t.rs ≤ _; omega⟩
    · exact ⟨Nat.zero_le _, Nat.zero_le _⟩

/-- SetTable's round, and its answer. -/
def setF (t : Tab) (s : Bool × List Tab) (x : Tab) : Bool × List Tab :=
  ⟨s.1 || !ltN x.nm t.nm, (s.2 ++ if (!s.1 && !ltN x.nm t.nm) = true then [t] else []) ++ if x.nm = t.nm then [] else [x]⟩

def setS (t : Tab) (ts : List Tab) : Bool × List Tab := ts.foldl (setF t) (false, [])

def setT (ts : List Tab) (t : Tab) : List Tab := (setS t ts).2 ++ if (setS t ts).1 = true then [] else [t]

def setR (ts : List Tab) (t : Tab) : List Tab × Bool := if validD ts = true ∧ validTb t = true ∧ (setT ts t).length ≤ 6 then (setT ts t, true) else (ts, false)

theorem setS_take {t : Tab} {ts : List Tab} {k : Nat} {x : Tab} (h : ts[k]? = some x) : setS t (ts.take (k + 1)) = setF t (setS t (ts.take k)) x := by
  unfold setS
  rw [List.take_add_one, h, List.foldl_append]
  rfl

theorem setS_done (t : Tab) (ht : nameB t.nm = true) : ∀ (ts acc : List Tab), (∀ x ∈ ts, nameB x.nm = true) → (∀ x ∈ ts, keyB t.nm < keyB x.nm) → ts.foldl (setF t) (true, acc) = (true, acc ++ ts)
  | [], acc, _, _ => by simp
  | x :: l, acc, hn, hk => by
    have hx := hk x (by simp)
    have hne : ¬ x.nm = t.nm := fun e => by rw [e] at hx; omega
    rw [List.foldl_cons, show setF t (true, acc) x = (true, acc ++ [x]) by simp [setF, hne], setS_done t ht l _ (fun y hy => hn y (by simp [hy])) (fun y hy => hk y (by simp [hy]))]
    simp

theorem setS_norm (t : Tab) (ht : nameB t.nm = true) : ∀ (ts acc : List Tab), (∀ x ∈ ts, nameB x.nm = true) → AscK ts →
    (ts.foldl (setF t) (false, acc)).2 ++ (if (ts.foldl (setF t) (false, acc)).1 = true then [] else [t]) = acc ++ (ts.filter (fun x => decide (keyB x.nm < keyB t.nm)) ++ t :: ts.filter fun x => decide (keyB t.nm < keyB x.nm))
  | [], acc, _, _ => by simp
  | x :: l, acc, hn, ha => by
    have ha' := List.pairwise_cons.1 ha
    have hx := hn x (by simp)
    have hl : ∀ y ∈ l, nameB y.nm = true := fun y hy => hn y (by simp [hy])
    have hlt := ltN_key hx ht
    rw [List.foldl_cons]
    rcases Nat.lt_trichotomy (keyB x.nm) (keyB t.nm) with h | h | h
    · have hne : ¬ x.nm = t.nm := fun e => by rw [e] at h; omega
      rw [show setF t (false, acc) x = (false, acc ++ [x]) by simp [setF, hne, hlt, h], setS_norm t ht l _ hl ha'.2]
      simp [h, Nat.lt_asymm h]
    · have he : x.nm = t.nm := (eq_key hx ht).2 h
      have hgt : ∀ y ∈ l, keyB t.nm < keyB y.nm := fun y hy => by have := ha'.1 y hy; omega
      rw [show setF t (false, acc) x = (true, acc ++ [t]) by simp [setF, he, ltN_key ht ht], setS_done t ht l _ hl hgt]
      have f1 : l.filter (fun y => decide (keyB y.nm < keyB t.nm)) = [] := List.filter_eq_nil_iff.2 fun y hy => by have := hgt y hy; simp; omega
      have f2 : l.filter (fun y => decide (keyB t.nm < keyB y.nm)) = l := List.filter_eq_self.2 fun y hy => by simpa using hgt y hy
      simp [h, f1, f2]
    · have hne : ¬ x.nm = t.nm := fun e => by rw [e] at h; omega
      have hgt : ∀ y ∈ l, keyB t.nm < keyB y.nm := fun y hy => by have := ha'.1 y hy; omega
      rw [show setF t (false, acc) x = (true, acc ++ [t] ++ [x]) by simp [setF, hne, hlt, Nat.lt_asymm h], setS_done t ht l _ hl hgt]
      have f1 : l.filter (fun y => decide (keyB y.nm < keyB t.nm)) = [] := List.filter_eq_nil_iff.2 fun y hy => by have := hgt y hy; simp; omega
      have f2 : l.filter (fun y => decide (keyB t.nm < keyB y.nm)) = l := List.filter_eq_self.2 fun y hy => by simpa using hgt y hy
      simp [h, f1, f2, Nat.lt_asymm h]

theorem setT_norm {ts : List Tab} {t : Tab} (hv : validD ts = true) (ht : validTb t = true) : setT ts t = ts.filter (fun x => decide (keyB x.nm < keyB t.nm)) ++ t :: ts.filter fun x => decide (keyB t.nm < keyB x.nm) := by
  obtain ⟨h1, h2, _⟩ := validD_parts hv
  have := setS_norm t (validTb_name ht) ts [] (fun x hx => validTb_name (h1 x hx)) h2
  rw [List.nil_append] at this
  exact this

theorem setT_parts {ts : List Tab} {t : Tab} (hv : validD ts = true) (ht : validTb t = true) : (∀ x ∈ setT ts t, validTb x = true) ∧ AscK (setT ts t) := by
  obtain ⟨h1, h2, _⟩ := validD_parts hv
  rw [setT_norm hv ht]
  refine ⟨fun x hx => ?_, ?_⟩
  · rcases List.mem_append.1 hx with hx | hx
    · exact h1 x (List.mem_filter.1 hx).1
    · rcases List.mem_cons.1 hx with rfl | hx
      · exact ht
      · exact h1 x (List.mem_filter.1 hx).1
  · rw [AscK, List.pairwise_append]
    refine ⟨h2.filter _, List.pairwise_cons.2 ⟨fun x hx => by simpa using (List.mem_filter.1 hx).2, h2.filter _⟩, fun a ha b hb => ?_⟩
    have h3 : keyB a.nm < keyB t.nm := by simpa using (List.mem_filter.1 ha).2
    rcases List.mem_cons.1 hb with rfl | hb
    · exact h3
    · have h4 : keyB t.nm < keyB b.nm := by simpa using (List.mem_filter.1 hb).2
      omega

theorem setT_valid {ts : List Tab} {t : Tab} (hv : validD ts = true) (ht : validTb t = true) : validD (setT ts t) = decide ((setT ts t).length ≤ 6) :=
  validD_of (setT_parts hv ht).1 (setT_parts hv ht).2

theorem sumL_three : ∀ {rs : List (List Int)}, (∀ r ∈ rs, r.length ≤ 3) → sumL rs ≤ 3 * rs.length
  | [], _ => Nat.zero_le _
  | r :: rs, h => by
    rw [sumL_cons, List.length_cons]
    have h1 := h r (by simp)
    have h2 := sumL_three (rs := rs) fun x hx => h x (by simp [hx])
    omega

theorem validTb_size {t : Tab} (h : validTb t = true) : t.nm.size + (t.rs.length + sumL t.rs) ≤ 33 := by
  have hn := validTb_name h
  obtain ⟨b, hb⟩ := nameB_data hn
  have h1 : t.nm.size = 1 := by rw [hb]; rfl
  unfold validTb validT at h
  simp only [Bool.and_eq_true, decide_eq_true_eq, List.all_eq_true] at h
  obtain ⟨_, har, hl, hrow, _⟩ := h
  have ha := inB_iff.1 har
  have h2 : sumL t.rs ≤ 3 * t.rs.length := sumL_three fun r hr => by
    have := hrow r hr
    unfold rowB at this
    simp only [Bool.and_eq_true, beq_iff_eq] at this
    omega
  omega

theorem sumT_valid : ∀ {ts : List Tab}, (∀ t ∈ ts, validTb t = true) → sumT ts ≤ 33 * ts.length
  | [], _ => Nat.zero_le _
  | t :: ts, h => by
    rw [sumT_cons, List.length_cons]
    have h1 := validTb_size (h t (by simp))
    have h2 := sumT_valid (ts := ts) fun x hx => h x (by simp [hx])
    omega

theorem setT_small {ts : List Tab} {t : Tab} (hv : validD ts = true) (ht : validTb t = true) : (setT ts t).length ≤ 13 ∧ sumT (setT ts t) ≤ 429 := by
  have h1 := sumT_valid (setT_parts hv ht).1
  have h2 := (validD_parts hv).2.2
  have h3 : (setT ts t).length ≤ 13 := by
    rw [setT_norm hv ht, List.length_append, List.length_cons]
    have a1 := List.length_filter_le (fun x : Tab => decide (keyB x.nm < keyB t.nm)) ts
    have a2 := List.length_filter_le (fun x : Tab => decide (keyB t.nm < keyB x.nm)) ts
    omega
  exact ⟨h3, by omega⟩

theorem setR_small {ts : List Tab} {t : Tab} (hl : ts.length ≤ 1048576) (hs : sumT ts ≤ 1048576) : (setR ts t).1.length ≤ 1048576 ∧ sumT (setR ts t).1 ≤ 1048576 := by
  unfold setR
  split
  · rename_i h
    have := setT_small h.1 h.2.1
    exact ⟨by show (setT ts t).length ≤ _; omega, by show sumT (setT ts t) ≤ _; omega⟩
  · exact ⟨hl, hs⟩

theorem setF_len (t : Tab) (s : Bool × List Tab) (x : Tab) : (setF t s x).2.length ≤ s.2.length + 2 := by
  unfold setF
  simp only [List.length_append]
  split <;> split <;> simp

theorem setS_len (t : Tab) : ∀ (l : List Tab) (s : Bool × List Tab), (l.foldl (setF t) s).2.length ≤ s.2.length + 2 * l.length
  | [], s => by simp
  | x :: l, s => by
    rw [List.foldl_cons, List.length_cons]
    have h1 := setS_len t l (setF t s x)
    have h2 := setF_len t s x
    omega

theorem setS_len2 (t : Tab) (l : List Tab) : (setS t l).2.length ≤ 2 * l.length := by
  have := setS_len t l (false, [])
  rw [List.length_nil, Nat.zero_add] at this
  exact this

/-- RemoveTable's answer, CountRows's. -/
def remR (ts : List Tab) (nm : ByteArray) : List Tab × Bool := if (lookR ts nm).ok = true then (ts.filter fun t => decide (¬ t.nm = nm), true) else (ts, false)

def lenT (ts : List Tab) : Nat := (ts.map fun t => t.rs.length).sum

theorem lenT_append (a b : List Tab) : lenT (a ++ b) = lenT a + lenT b := by simp [lenT]

theorem lenT_cons (t : Tab) (ts : List Tab) : lenT (t :: ts) = t.rs.length + lenT ts := by simp [lenT]

theorem lenT_take_succ {ts : List Tab} {j : Nat} {t : Tab} (h : ts[j]? = some t) : lenT (ts.take (j + 1)) = lenT (ts.take j) + t.rs.length := by
  obtain ⟨hj, rfl⟩ := List.getElem?_eq_some_iff.1 h
  rw [List.take_succ_eq_append_getElem hj, lenT_append, lenT_cons]
  rfl

theorem lenT_le (ts : List Tab) : lenT ts ≤ sumT ts := by
  induction ts with
  | nil => exact Nat.le_refl _
  | cons t ts ih =>
    rw [sumT_cons]
    rw [lenT_cons]
    omega

theorem lenT_take_le (ts : List Tab) (j : Nat) : lenT (ts.take j) ≤ lenT ts := by
  have := lenT_append (ts.take j) (ts.drop j)
  rw [List.take_append_drop] at this
  omega

def cntD (ts : List Tab) : Nat := if validD ts = true then lenT ts else 0

end

section
open Go.RowKit Go.Deep

/-- Beside the known cells L lie the tables ts in the slice v, which the box xb holds; all boxes lie below lo. -/
structure DInv (w : World) (L : List (Nat × Nat × Value)) (xb lo : Nat) (ts : List Tab) (v : Value) (W : World) : Prop where
  kn : Kn w L W
  own : OwnD W lo W.heap.size v ts
  size : lo ≤ W.heap.size
  hw : w.heap.size ≤ xb
  hxb : xb < lo
  nL : ∀ t ∈ L, t.1 ≠ xb ∧ t.1 < lo
  x0 : W.cell? ⟨xb, 0, none⟩ = some v
  fx : W.frozen? ⟨xb, 0, none⟩ = false

theorem DInv.next {w W W' : World} {L : List (Nat × Nat × Value)} {xb lo : Nat} {ts : List Tab} {v : Value} (h : DInv w L xb lo ts v W) (b : Below W.heap.size W W') : DInv w L xb lo ts v W' :=
  ⟨h.kn.next b, (h.own.below b (Nat.le_refl _)).wide b.size, Nat.le_trans h.size b.size, h.hw, h.hxb, h.nL,
    (b.cell (p := ⟨xb, 0, none⟩) (Nat.lt_of_lt_of_le h.hxb h.size)).trans h.x0, (b.frozen (p := ⟨xb, 0, none⟩) (Nat.lt_of_lt_of_le h.hxb h.size)).trans h.fx⟩

theorem DInv.drew {w W : World} {L : List (Nat × Nat × Value)} {xb lo : Nat} {ts : List Tab} {v : Value} (h : DInv w L xb lo ts v W) : DInv w L xb lo ts v W.drew := h.next (Below.refl _ _).drew

theorem DInv.drewN {w W : World} {L : List (Nat × Nat × Value)} {xb lo : Nat} {ts : List Tab} {v : Value} (h : DInv w L xb lo ts v W) (q : Nat) : DInv w L xb lo ts v (W.drewN q) := h.next (below_drewN (Below.refl _ _) q)

theorem DInv.push {w W w2 : World} {L : List (Nat × Nat × Value)} {xb lo : Nat} {ts ts' : List Tab} {v v' : Value} (h : DInv w L xb lo ts v W) (hB : Below lo W w2) (ho : OwnD w2 lo w2.heap.size v' ts') :
    DInv w L xb lo ts' v' (w2.setCell ⟨xb, 0, none⟩ v') := by
  have hhs : (w2.setCell ⟨xb, 0, none⟩ v').heap.size = w2.heap.size := by simp [World.setCell]
  have hlo : w.heap.size ≤ lo := Nat.le_of_lt (Nat.lt_of_le_of_lt h.hw h.hxb)
  refine ⟨⟨(h.kn.bel.trans (hB.mono hlo)).setCell h.hw _, fun t ht => ⟨?_, ?_⟩, fun t ht => ?_⟩, ?_, ?_, h.hw, h.hxb, h.nL, ?_, ?_⟩
  · rw [hhs]
    exact Nat.lt_of_lt_of_le (h.kn.cell t ht).1 hB.size
  · have hn := h.nL t ht
    rw [cell_set_other (by omega)]
    exact (hB.cell (p := ⟨t.1, t.2.1, none⟩) hn.2).trans (h.kn.cell t ht).2
  · have hn := h.nL t ht
    rw [frozen_set]
    exact (hB.frozen (p := ⟨t.1, t.2.1, none⟩) hn.2).trans (h.kn.frz t ht)
  · rw [hhs]
    exact ho.setOff (.inl h.hxb)
  · rw [hhs]
    exact Nat.le_trans h.size hB.size
  · exact cell_set_same ((hB.cell (p := ⟨xb, 0, none⟩) h.hxb).trans h.x0)
  · rw [frozen_set]
    exact (hB.frozen (p := ⟨xb, 0, none⟩) h.hxb).trans h.fx

/-- One table more: what the append asks, and what it leaves. -/
theorem DInv.app {w W w1 : World} {L : List (Nat × Nat × Value)} {xb lo lo1 hi c1 : Nat} {ts : List Tab} {v : Value} {A1 : Option Addr} {nm : ByteArray} {ar : Int} {rs : List (List Int)} (h : DInv w L xb lo ts v W) (hb1 : Below W.heap.size W w1)
    (ho : OwnR w1 lo1 hi (.slice A1 rs.length c1) rs) (hlo1 : W.heap.size ≤ lo1) (hhi : hi ≤ w1.heap.size) (hnm : nm.size ≤ maxLen) :
    ∃ xs : List Value, (w1.alloc (.cells #[.string nm, .int .i64 ar, .slice A1 rs.length c1] 51)).ownsRow 0 51 3 v ts.length xs ∧ w1.cell? ⟨xb, 0, none⟩ = some v ∧
      ∀ (g cap : Nat) (w2 : World), w2.ownsRow 0 51 3 (.slice (some ⟨g, 0, none⟩) (ts.length + 1) cap) (ts.length + 1) (xs ++ [.string nm, .int .i64 ar, .slice A1 rs.length c1]) →
        (w1.alloc (.cells #[.string nm, .int .i64 ar, .slice A1 rs.length c1] 51)).grownBy w2 v.ownBlock → (v.ownBlock = some g ∨ g = w1.heap.size + 1) →
        w2.cell? ⟨xb, 0, none⟩ = some v ∧ w2.frozen? ⟨xb, 0, none⟩ = false ∧ DInv w L xb lo (ts ++ [⟨nm, ar, rs⟩]) (.slice (some ⟨g, 0, none⟩) (ts.length + 1) cap) (w2.setCell ⟨xb, 0, none⟩ (.slice (some ⟨g, 0, none⟩) (ts.length + 1) cap)) ∧
          (∀ X i, W.heap.size ≤ X → X < w1.heap.size → (w2.setCell ⟨xb, 0, none⟩ (.slice (some ⟨g, 0, none⟩) (ts.length + 1) cap)).cell? ⟨X, i, none⟩ = w1.cell? ⟨X, i, none⟩) ∧ w1.heap.size ≤ (w2.setCell ⟨xb, 0, none⟩ (.slice (some ⟨g, 0, none⟩) (ts.length + 1) cap)).heap.size := by
  obtain ⟨xs, k1, k2, k3⟩ := h.own.open_
  have hxW := Nat.lt_of_lt_of_le h.hxb h.size
  have hs1 := hb1.size
  have hA : Below w1.heap.size w1 (w1.alloc (.cells #[.string nm, .int .i64 ar, .slice A1 rs.length c1] 51)) := (Below.refl _ _).alloc (Nat.le_refl _) _
  have hB1 : Below W.heap.size W (w1.alloc (.cells #[.string nm, .int .i64 ar, .slice A1 rs.length c1] 51)) := hb1.trans (hA.mono hs1)
  refine ⟨xs, ownsRow_keep k1 fun g hg => hB1.block g (k2 g hg).2.2, (hb1.cell (p := ⟨xb, 0, none⟩) hxW).trans h.x0, fun g cap w2 hown hgrow hat => ?_⟩
  have hB2 : Below lo W w2 := (hB1.mono h.size).grown hgrow (by simp; exact Nat.le_trans h.size (Nat.le_succ_of_le hs1)) (fun j hj => (k2 j hj).1)
  have hD := k3 _ w2 A1 nm ar rs c1 lo1 hi g cap hB1 (ho.below hA (by omega)) hnm hlo1 (Nat.le_trans h.size hlo1) (by simp; omega) (by simp; exact Nat.le_succ_of_le (Nat.le_trans h.size hs1)) hown hgrow (by simpa using hat)
  refine ⟨(hB2.cell (p := ⟨xb, 0, none⟩) h.hxb).trans h.x0, (hB2.frozen (p := ⟨xb, 0, none⟩) h.hxb).trans h.fx, h.push hB2 hD, fun X i hX hX1 => ?_, ?_⟩
  · rw [cell_set_other (by omega)]
    have e1 : w2.heap[X]? = (w1.alloc (.cells #[.string nm, .int .i64 ar, .slice A1 rs.length c1] 51)).heap[X]? := hgrow.block X (by simp; omega) fun e => by have := k2 X e.symm; omega
    exact (World.cell?_of_block e1).trans (hA.cell (p := ⟨X, i, none⟩) hX1)
  · have := hgrow.size
    simp at this
    simp [World.setCell]
    omega

theorem tab_small {ts : List Tab} {k : Nat} {t : Tab} (hx : ts[k]? = some t) (hs : sumT ts ≤ 4294967296) : t.rs.length ≤ 5000000000 ∧ ∀ r ∈ t.rs, r.length ≤ 17592186044416 := by
  have h1 := sumT_mem (List.mem_of_getElem? hx)
  exact ⟨by omega, fun r hr => by have := sumL_mem hr; omega⟩

/-- A new database and a bool, behind a name. -/
def DbBool (R : List Tab × Bool) (w : World) (e : Ending) (w' : World) : Prop :=
  ∃ (A : Option Addr) (c : Nat), e = .returned (.tuple #[.agg #[.slice A R.1.length c], .bool R.2]) ∧ OwnD w' w.heap.size w'.heap.size (.slice A R.1.length c) R.1 ∧ Below w.heap.size w w'

theorem DbBool.of {R : List Tab × Bool} {ts : List Tab} {b : Bool} {w w' : World} {A : Option Addr} {n c : Nat} (hR : R = (ts, b)) (h : OwnD w' w.heap.size w'.heap.size (.slice A n c) ts) (hb : Below w.heap.size w w') :
    DbBool R w (.returned (.tuple #[.agg #[.slice A n c], .bool b])) w' := by
  subst hR
  have hn := h.len_eq
  subst hn
  exact ⟨A, c, rfl, h, hb⟩

/-- DbBool, its parts apart. -/
def DbAns (ts : List Tab) (ok : Bool) (w : World) (e : Ending) (w' : World) : Prop :=
  ∃ (A : Option Addr) (c : Nat), e = .returned (.tuple #[.agg #[.slice A ts.length c], .bool ok]) ∧ OwnD w' w.heap.size w'.heap.size (.slice A ts.length c) ts ∧ Below w.heap.size w w'

end

section
open Go.RowKit

/-- One walk of the text's order serves every order, where each operation yields one value in every world of the class 'Good' and leaves a world of it. The class is handed over as the image of a function that is a letter, so that the walk's facts on cells bear no condition. -/
theorem wp_region_class {P : Program} {id : Nat} {Q : Exit → Act → World → Prop} {a : Act} {w : World} {l : List Oper} (hm : P.follows .mixedOrders = true) (hB : Region.lexB .any l.toArray = true) (Good : World → Prop) (h0 : Good w.drew)
    (h : ∀ (S : Type) [Nonempty S] (f : S → World), (∀ s, Good (f s)) → (∀ W, Good W → ∃ s, W = f s) → wpQuiet P l.toArray (fun w' => ∃ s, w' = f s) (fun a' => ∀ w', (∃ s, w' = f s) → Q .normal a' w') l a) : (Code.region id l.toArray true).wp P Q a w :=
  wp_region_quiet (C := fun w' => ∃ s : {W : World // Good W}, w' = s.1) hm hB ⟨⟨_, h0⟩, rfl⟩ (by simpa using @h {W : World // Good W} ⟨⟨_, h0⟩⟩ (fun s => s.1) (fun s => s.2) (fun W hW => ⟨⟨W, hW⟩, rfl⟩))

theorem Calls.cls {P : Program} {f : FuncId} {args : Array Value} {w : World} {v : Value} {S : Type} {g : S → World} {Good : World → Prop} (hS : ∀ W, Good W → ∃ s, W = g s)
    (h : Calls P f args w fun e w' => e = .returned v ∧ Good w') : Calls P f args w fun e w'' => e = .returned v ∧ ∃ s, w'' = g s := h.mono fun _ _ ⟨he, hg⟩ => ⟨he, hS _ hg⟩

/-- .. for a callee that leaves all that was there. -/
theorem Calls.clsB {P : Program} {f : FuncId} {args : Array Value} {w w0 : World} {v : Value} {S : Type} {g : S → World} (hS : ∀ W, Below w0.heap.size w0 W → ∃ s, W = g s) (hw : Below w0.heap.size w0 w)
    (h : Calls P f args w fun e w' => e = .returned v ∧ Below w.heap.size w w') : Calls P f args w fun e w'' => e = .returned v ∧ ∃ s, w'' = g s := h.mono fun _ _ ⟨he, hg⟩ => ⟨he, hS _ (hw.trans (hg.mono hw.size))⟩

theorem Calls.clsQ {P : Program} {f : FuncId} {args : Array Value} {w w0 : World} {v : Value} {S : Type} {g : S → World} (hS : ∀ W, Below w0.heap.size w0 W → ∃ s, W = g s) (hw : Below w0.heap.size w0 w)
    (h : Calls P f args w fun e w' => e = .returned v ∧ Qt w w') : Calls P f args w fun e w'' => e = .returned v ∧ ∃ s, w'' = g s := Calls.clsB hS hw (h.mono fun _ _ ⟨he, hq⟩ => ⟨he, hq.below _⟩)

theorem Calls.clsE {P : Program} {f : FuncId} {args : Array Value} {w w0 : World} {v : Value} {S : Type} {g : S → World} (hS : ∀ W, Below w0.heap.size w0 W → ∃ s, W = g s) (hw : Below w0.heap.size w0 w)
    (h : Calls P f args w fun e w' => e = .returned v ∧ w = w') : Calls P f args w fun e w'' => e = .returned v ∧ ∃ s, w'' = g s := Calls.clsB hS hw (h.mono fun _ _ ⟨he, hq⟩ => ⟨he, hq ▸ Below.refl _ _⟩)

end

section
open Go.RowKit Go.Deep

set_option maxRecDepth 100000 in
set_option maxHeartbeats 1000000 in
theorem spec_IsValidDatabase_any (A : Option Addr) (n c B : Nat) (ts : List Tab) (w : World) (hr : RdT w B A n ts) (hB : B ≤ w.heap.size) (hn : n ≤ 1000000000) (hs : sumT ts ≤ 4294967296) :
    Calls Tryz.prog 57 #[.agg #[.slice A n c]] w fun e w' => e = .returned (.bool (validD ts)) ∧ Below w.heap.size w w' := by
  have HL := Lib.hid hr.1
  have hsm := Lib.hid hs
  clear hs
  have kn0 : Kn w [(w.heap.size, 0, .slice A n c)] (w.alloc (.cells #[.slice A n c] 26)) := by
    simpa using (Kn.start w).box1 (.slice A n c) 26
  go_enter Tryz.func57, Tryz.ntmps57
  go_wp2_with fail
  generalize w.alloc (.cells #[.slice A n c] 26) = w0 at kn0 ⊢
  go_loopw [3] (fun i wr => ∃ k : Nat, k ≤ n ∧ i = .int .i64 k ∧ Hid ((ts.take k).all validTb = true ∧ AscN ts k) ∧ Kn w [(w.heap.size, 0, .slice A n c)] wr) (fun i _ => n - (intOf i).toNat)
  case atStart => exact ⟨0, by omega, rfl, ⟨by simp, AscN.one _ (by omega)⟩, kn0⟩
  case round =>
    obtain ⟨k, hk, rfl, hp, kn⟩ := hrel
    clear kn0
    obtain ⟨x0, _⟩ := kn.all
    have hbel := Lib.hid kn.bel
    have hsz := hbel.out.size
    by_cases hlt : k < n
    · obtain ⟨b, o, t, A1, c1, rfl, hb, hx, hc0, hc1, hc2, hrd, hm, _⟩ := RdT.at_ hr hlt
      have bz0 := Lib.hid (Below.refl wr.heap.size wr)
      have KV : Hid (∀ W, Below wr.heap.size wr W → Calls Tryz.prog 59 #[.agg #[.string t.nm, .int .i64 t.ar, .slice A1 t.rs.length c1]] W fun e w' => e = .returned (.bool (validTb t)) ∧ Below W.heap.size W w') := fun W bw =>
        spec_IsValidTable_any t.nm t.ar A1 t.rs.length c1 B t.rs W (RdR.belowB hrd (hbel.out.trans (bw.mono hsz)) hB) (Nat.le_trans hB (Nat.le_trans hsz bw.size)) (by have := sumT_mem (List.mem_of_getElem? hx); have := hsm.out; omega)
      have HX := Lib.hid hx
      have g1 : (0 : Int) ≤ (k : Int) := by omega
      have g2 : (k : Int) < (n : Int) := by omega
      have g3 : (k : Int).toNat = k := by omega
      have KN := Lib.hid kn
      have KB : Hid (∀ W, Below wr.heap.size wr W → W.cell? ⟨w.heap.size, 0, none⟩ = some (.slice (some ⟨b, o, none⟩) n c) ∧ W.cell? ⟨b, o + k * 3, none⟩ = some (.string t.nm) ∧ W.cell? ⟨b, o + k * 3 + 1, none⟩ = some (.int .i64 t.ar) ∧ W.cell? ⟨b, o + k * 3 + 2, none⟩ = some (.slice A1 t.rs.length c1)) := fun W bw => by
        obtain ⟨z0, _⟩ := (KN.out.next bw).all
        exact ⟨z0, (bw.cell (p := ⟨b, o + k * 3, none⟩) (by show b < _; omega)).trans ((hbel.out.cell (p := ⟨b, o + k * 3, none⟩) (by show b < _; omega)).trans hc0), (bw.cell (p := ⟨b, o + k * 3 + 1, none⟩) (by show b < _; omega)).trans ((hbel.out.cell (p := ⟨b, o + k * 3 + 1, none⟩) (by show b < _; omega)).trans hc1),
          (bw.cell (p := ⟨b, o + k * 3 + 2, none⟩) (by show b < _; omega)).trans ((hbel.out.cell (p := ⟨b, o + k * 3 + 2, none⟩) (by show b < _; omega)).trans hc2)⟩
      clear hx hc0 hc1 hc2 hrd hm kn
      cases hv : validTb t with
      | false =>
        have hf := Lib.hid (validD_no HX.out hv)
        rw [hv] at KV
        clear hv
        obtain ⟨nm, ar, rs⟩ := t
        go_wp2_with fail
        refine wp_region_class (by kernel_rfl) (by kernel_rfl) (fun W => Below wr.heap.size wr W) ((bz0.out).drew) (fun S _ f hG hS => ?_)
        have y0 : ∀ s, (f s).cell? ⟨w.heap.size, 0, none⟩ = some (.slice (some ⟨b, o, none⟩) n c) := fun s => (KB.out _ (hG s)).1
        have y1 : ∀ s, (f s).cell? ⟨b, o + k * 3, none⟩ = some (.string nm) := fun s => (KB.out _ (hG s)).2.1
        have y2 : ∀ s, (f s).cell? ⟨b, o + k * 3 + 1, none⟩ = some (.int .i64 ar) := fun s => (KB.out _ (hG s)).2.2.1
        have y3 : ∀ s, (f s).cell? ⟨b, o + k * 3 + 2, none⟩ = some (.slice A1 rs.length c1) := fun s => (KB.out _ (hG s)).2.2.2
        have HG := Lib.hid hG
        have HS := Lib.hid hS
        clear hG hS
        repeat (first | go_big_quiet_step ((first | (go_at_call 59; exact Calls.clsB HS.out (HG.out _) (KV.out _ (HG.out _))))) | quiet_step ((first | (go_at_call 59; exact Calls.clsB HS.out (HG.out _) (KV.out _ (HG.out _))))))
        refine wpQuiet_nil ?_
        rintro _ ⟨s, rfl⟩
        have HF := Lib.hid (KN.out.next (HG.out s)).bel
        clear y0 y1 y2 y3 g3 HG HS
        go_wp2_with fail
        go_ret
        exact ⟨by rw [hf.out] <;> rfl, HF.out⟩
      | true =>
        have hp1 := Lib.hid (tabs_take hp.out.1 HX.out hv)
        rw [hv] at KV
        clear hv
        rcases Nat.eq_zero_or_pos k with hk0 | hk0
        · subst hk0
          have hp2 : Hid ((ts.take 1).all validTb = true ∧ AscN ts 1) := ⟨hp1.out, AscN.one _ (by omega)⟩
          obtain ⟨nm, ar, rs⟩ := t
          have g2' : (0 : Int) < (n : Int) := by omega
          simp only [Nat.zero_mul, Nat.add_zero] at KB
          clear g1 g2 g3 hp1
          go_wp2_with fail
          refine wp_region_class (by kernel_rfl) (by kernel_rfl) (fun W => Below wr.heap.size wr W) ((bz0.out).drew) (fun S _ f hG hS => ?_)
          have y0 : ∀ s, (f s).cell? ⟨w.heap.size, 0, none⟩ = some (.slice (some ⟨b, o, none⟩) n c) := fun s => (KB.out _ (hG s)).1
          have y1 : ∀ s, (f s).cell? ⟨b, o, none⟩ = some (.string nm) := fun s => (KB.out _ (hG s)).2.1
          have y2 : ∀ s, (f s).cell? ⟨b, o + 1, none⟩ = some (.int .i64 ar) := fun s => (KB.out _ (hG s)).2.2.1
          have y3 : ∀ s, (f s).cell? ⟨b, o + 2, none⟩ = some (.slice A1 rs.length c1) := fun s => (KB.out _ (hG s)).2.2.2
          have HG := Lib.hid hG
          have HS := Lib.hid hS
          clear hG hS
          repeat (first | go_big_quiet_step ((first | (go_at_call 59; exact Calls.clsB HS.out (HG.out _) (KV.out _ (HG.out _))))) | quiet_step ((first | (go_at_call 59; exact Calls.clsB HS.out (HG.out _) (KV.out _ (HG.out _))))))
          refine wpQuiet_nil ?_
          rintro _ ⟨s, rfl⟩
          have HF := Lib.hid (KN.out.next (HG.out s))
          clear y0 y1 y2 y3 HG HS
          go_wp2_with fail
          refine ⟨⟨1, by omega, by go_num, hp2, HF.out⟩, ?_⟩
          simp [intOf]
          omega
        · obtain ⟨j, rfl⟩ : ∃ j, k = j + 1 := ⟨k - 1, by omega⟩
          obtain ⟨b', o', x, A2, c2, hbb, _, hx', hc0', _, _, _, _, _⟩ := RdT.at_ hr (show j < n by omega)
          injection hbb with hbb
          injection hbb with hb1 hb2
          subst hb1 hb2
          have KX : Hid (∀ W, Below wr.heap.size wr W → W.cell? ⟨b, o + j * 3, none⟩ = some (.string x.nm)) := fun W bw => (bw.cell (p := ⟨b, o + j * 3, none⟩) (by show b < _; omega)).trans ((hbel.out.cell (p := ⟨b, o + j * 3, none⟩) (by show b < _; omega)).trans hc0')
          have HX' := Lib.hid hx'
          clear hx' hc0'
          have g4 : IntKind.i64.wrap ((((j + 1 : Nat) : Int)) - 1) = (j : Int) := by rw [IntWalk.i64_in _ (by omega)]; omega
          have g5 : (0 : Int) ≤ (j : Int) := by omega
          have g6 : (j : Int) < (n : Int) := by omega
          have g7 : (j : Int).toNat = j := by omega
          have g8 : decide ((0 : Int) < (((j + 1 : Nat) : Int))) = true := decide_eq_true (by omega)
          cases hlt2 : ltN x.nm t.nm with
          | true =>
            have hp2 : Hid ((ts.take (j + 1 + 1)).all validTb = true ∧ AscN ts (j + 1 + 1)) := ⟨hp1.out, hp.out.2.step HX'.out HX.out hlt2⟩
            unfold ltN at hlt2
            clear hp1
            obtain ⟨nm, ar, rs⟩ := t
            go_wp2_with fail
            refine wp_region_class (by kernel_rfl) (by kernel_rfl) (fun W => Below wr.heap.size wr W) ((bz0.out).drew) (fun S _ f hG hS => ?_)
            have y0 : ∀ s, (f s).cell? ⟨w.heap.size, 0, none⟩ = some (.slice (some ⟨b, o, none⟩) n c) := fun s => (KB.out _ (hG s)).1
            have y1 : ∀ s, (f s).cell? ⟨b, o + (j + 1) * 3, none⟩ = some (.string nm) := fun s => (KB.out _ (hG s)).2.1
            have y2 : ∀ s, (f s).cell? ⟨b, o + (j + 1) * 3 + 1, none⟩ = some (.int .i64 ar) := fun s => (KB.out _ (hG s)).2.2.1
            have y3 : ∀ s, (f s).cell? ⟨b, o + (j + 1) * 3 + 2, none⟩ = some (.slice A1 rs.length c1) := fun s => (KB.out _ (hG s)).2.2.2
            have y4 : ∀ s, (f s).cell? ⟨b, o + j * 3, none⟩ = some (.string x.nm) := fun s => KX.out _ (hG s)
            have HG := Lib.hid hG
            have HS := Lib.hid hS
            clear hG hS
            repeat (first | go_big_quiet_step ((first | (go_at_call 59; exact Calls.clsB HS.out (HG.out _) (KV.out _ (HG.out _))))) | quiet_step ((first | (go_at_call 59; exact Calls.clsB HS.out (HG.out _) (KV.out _ (HG.out _))))))
            refine wpQuiet_nil ?_
            rintro _ ⟨s, rfl⟩
            have HF := Lib.hid (KN.out.next (HG.out s))
            clear y0 y1 y2 y3 y4 g3 g4 g7 HG HS
            go_wp2_with fail
            refine ⟨⟨j + 1 + 1, by omega, by go_num, hp2, HF.out⟩, ?_⟩
            simp [intOf]
            omega
          | false =>
            have hf := Lib.hid (validD_no2 HX'.out HX.out hlt2)
            unfold ltN at hlt2
            clear hp1
            obtain ⟨nm, ar, rs⟩ := t
            go_wp2_with fail
            refine wp_region_class (by kernel_rfl) (by kernel_rfl) (fun W => Below wr.heap.size wr W) ((bz0.out).drew) (fun S _ f hG hS => ?_)
            have y0 : ∀ s, (f s).cell? ⟨w.heap.size, 0, none⟩ = some (.slice (some ⟨b, o, none⟩) n c) := fun s => (KB.out _ (hG s)).1
            have y1 : ∀ s, (f s).cell? ⟨b, o + (j + 1) * 3, none⟩ = some (.string nm) := fun s => (KB.out _ (hG s)).2.1
            have y2 : ∀ s, (f s).cell? ⟨b, o + (j + 1) * 3 + 1, none⟩ = some (.int .i64 ar) := fun s => (KB.out _ (hG s)).2.2.1
            have y3 : ∀ s, (f s).cell? ⟨b, o + (j + 1) * 3 + 2, none⟩ = some (.slice A1 rs.length c1) := fun s => (KB.out _ (hG s)).2.2.2
            have y4 : ∀ s, (f s).cell? ⟨b, o + j * 3, none⟩ = some (.string x.nm) := fun s => KX.out _ (hG s)
            have HG := Lib.hid hG
            have HS := Lib.hid hS
            clear hG hS
            repeat (first | go_big_quiet_step ((first | (go_at_call 59; exact Calls.clsB HS.out (HG.out _) (KV.out _ (HG.out _))))) | quiet_step ((first | (go_at_call 59; exact Calls.clsB HS.out (HG.out _) (KV.out _ (HG.out _))))))
            refine wpQuiet_nil ?_
            rintro _ ⟨s, rfl⟩
            have HF := Lib.hid (KN.out.next (HG.out s)).bel
            clear y0 y1 y2 y3 y4 g3 g4 g7 HG HS
            go_wp2_with fail
            go_ret
            exact ⟨by rw [hf.out] <;> rfl, HF.out⟩
    · obtain rfl : k = n := by omega
      have hf := Lib.hid (validD_end hp.out.1 hp.out.2 (by rw [HL.out]; exact Nat.le_refl _))
      rw [HL.out] at hf
      have hq := Lib.hid (show decide ((k : Int) ≤ 6) = decide (k ≤ 6) by by_cases h6 : k ≤ 6 <;> simp [h6] <;> omega)
      go_wp2_with fail
      go_ret
      exact ⟨by rw [hf.out, ← hq.out] <;> rfl, hbel.out⟩

end

section
open Go.RowKit Go.Deep

set_option maxRecDepth 100000 in
set_option maxHeartbeats 1000000 in
theorem impl_IsValidDatabase_any (A : Option Addr) (n c B : Nat) (ts : List Tab) (w : World) (hr : RdT w B A n ts) (hB : B ≤ w.heap.size) (hn : n ≤ 1000000000) (hs : sumT ts ≤ 4294967296) :
    Calls Tryz.prog 50 #[.agg #[.slice A n c]] w fun e w' => e = .returned (.bool (validD ts)) ∧ Below w.heap.size w w' := by
  have HL := Lib.hid hr.1
  have hsm := Lib.hid hs
  clear hs
  have kn0 : Kn w [(w.heap.size, 0, .slice A n c)] (w.alloc (.cells #[.slice A n c] 26)) := by
    simpa using (Kn.start w).box1 (.slice A n c) 26
  go_enter Tryz.func50, Tryz.ntmps50
  go_wp2_with fail
  have s0 : w.heap.size + 1 ≤ (w.alloc (.cells #[.slice A n c] 26)).heap.size := by simp
  generalize w.alloc (.cells #[.slice A n c] 26) = w0 at kn0 s0 ⊢
  go_loopw [3, 4, 8] (fun _ _ i wr => ∃ k : Nat, k ≤ n ∧ i = .int .i64 k ∧ Hid ((ts.take k).all validTb = true ∧ AscN ts k) ∧ Kn w [(w.heap.size, 0, .slice A n c)] wr ∧ w.heap.size + 1 ≤ wr.heap.size) (fun _ _ i _ => n - (intOf i).toNat)
  case atStart => exact ⟨0, by omega, rfl, ⟨by simp, AscN.one _ (by omega)⟩, kn0, s0⟩
  case round =>
    obtain ⟨k, hk, rfl, hp, kn, hsr⟩ := hrel
    clear kn0 s0
    obtain ⟨x0, _⟩ := kn.all
    have hbel := Lib.hid kn.bel
    have hsz := hbel.out.size
    by_cases hlt : k < n
    · obtain ⟨b, o, t, A1, c1, rfl, hb, hx, hc0, hc1, hc2, hrd, hm, _⟩ := RdT.at_ hr hlt
      have d0 := (hbel.out.cell (p := ⟨b, o + k * 3, none⟩) (by show b < _; omega)).trans hc0
      have d1 := (hbel.out.cell (p := ⟨b, o + k * 3 + 1, none⟩) (by show b < _; omega)).trans hc1
      have d2 := (hbel.out.cell (p := ⟨b, o + k * 3 + 2, none⟩) (by show b < _; omega)).trans hc2
      have hW : ∀ v0 v1 v2, Hid (Below wr.heap.size wr (wr.alloc (.cells #[v0, v1, v2] 51))) := fun v0 v1 v2 => (Below.refl _ _).alloc (Nat.le_refl _) _
      have KV : Hid (∀ W, Below wr.heap.size wr W → Calls Tryz.prog 52 #[.agg #[.string t.nm, .int .i64 t.ar, .slice A1 t.rs.length c1]] W fun e w' => e = .returned (.bool (validTb t)) ∧ Below W.heap.size W w') := fun W bw =>
        impl_IsValidTable_any t.nm t.ar A1 t.rs.length c1 B t.rs W (RdR.belowB hrd (hbel.out.trans (bw.mono hsz)) hB) (Nat.le_trans hB (Nat.le_trans hsz bw.size)) (by have := sumT_mem (List.mem_of_getElem? hx); have := hsm.out; omega)
      have HX := Lib.hid hx
      have g1 : (0 : Int) ≤ (k : Int) := by omega
      have g2 : (k : Int) < (n : Int) := by omega
      have g3 : (k : Int).toNat = k := by omega
      have HW := Lib.hid hW
      clear hx hc0 hc1 hc2 hrd hm hW
      cases hv : validTb t with
      | false =>
        have hf := Lib.hid (validD_no HX.out hv)
        rw [hv] at KV
        clear hv
        obtain ⟨nm, ar, rs⟩ := t
        go_wp2_with fail
        have knb : Kn w [(w.heap.size, 0, .slice (some ⟨b, o, none⟩) n c), (wr.heap.size, 0, .string nm), (wr.heap.size, 1, .int .i64 ar), (wr.heap.size, 2, .slice A1 rs.length c1)] (wr.alloc (.cells #[.string nm, .int .i64 ar, .slice A1 rs.length c1] 51)) := kn.box3 (.string nm) (.int .i64 ar) (.slice A1 rs.length c1) 51
        have hwb := (HW.out (.string nm) (.int .i64 ar) (.slice A1 rs.length c1)).out
        have hs1 : wr.heap.size + 1 ≤ (wr.alloc (.cells #[.string nm, .int .i64 ar, .slice A1 rs.length c1] 51)).heap.size := by simp
        generalize wr.alloc (.cells #[.string nm, .int .i64 ar, .slice A1 rs.length c1] 51) = W1 at knb hwb hs1 ⊢
        have KN := Lib.hid knb
        have HWB := Lib.hid hwb
        have bz0 := Lib.hid (Below.refl W1.heap.size W1)
        clear kn knb hwb HW x0 d0 d1 d2
        refine wp_region_class (by kernel_rfl) (by kernel_rfl) (fun W => Below W1.heap.size W1 W) ((bz0.out).drew) (fun S _ f hG hS => ?_)
        have y0 : ∀ s, (f s).cell? ⟨w.heap.size, 0, none⟩ = some (.slice (some ⟨b, o, none⟩) n c) := fun s => ((KN.out.next (hG s)).all).1
        have y1 : ∀ s, (f s).cell? ⟨wr.heap.size, 0, none⟩ = some (.string nm) := fun s => ((KN.out.next (hG s)).all).2.1
        have y2 : ∀ s, (f s).cell? ⟨wr.heap.size, 1, none⟩ = some (.int .i64 ar) := fun s => ((KN.out.next (hG s)).all).2.2.1
        have y3 : ∀ s, (f s).cell? ⟨wr.heap.size, 2, none⟩ = some (.slice A1 rs.length c1) := fun s => ((KN.out.next (hG s)).all).2.2.2.1
        have HG := Lib.hid hG
        have HS := Lib.hid hS
        clear hG hS
        repeat (first | go_big_quiet_step ((first | (go_at_call 52; exact Calls.clsB HS.out (HG.out _) (KV.out _ (HWB.out.trans ((HG.out _).mono HWB.out.size)))))) | quiet_step ((first | (go_at_call 52; exact Calls.clsB HS.out (HG.out _) (KV.out _ (HWB.out.trans ((HG.out _).mono HWB.out.size)))))))
        refine wpQuiet_nil ?_
        rintro _ ⟨s, rfl⟩
        have HF := Lib.hid (((KN.out.next (HG.out s)).sub (L' := [(w.heap.size, 0, .slice (some ⟨b, o, none⟩) n c)]) (by simp)).bel)
        clear y0 y1 y2 y3 g3 HG HS
        go_wp2_with fail
        go_ret
        exact ⟨by rw [hf.out] <;> rfl, HF.out⟩
      | true =>
        have hp1 := Lib.hid (tabs_take hp.out.1 HX.out hv)
        rw [hv] at KV
        clear hv
        rcases Nat.eq_zero_or_pos k with hk0 | hk0
        · subst hk0
          have hp2 : Hid ((ts.take 1).all validTb = true ∧ AscN ts 1) := ⟨hp1.out, AscN.one _ (by omega)⟩
          have g2' : (0 : Int) < (n : Int) := by omega
          simp only [Nat.zero_mul, Nat.add_zero] at d0 d1 d2
          clear g1 g2 g3 hp1
          obtain ⟨nm, ar, rs⟩ := t
          go_wp2_with fail
          have knb : Kn w [(w.heap.size, 0, .slice (some ⟨b, o, none⟩) n c), (wr.heap.size, 0, .string nm), (wr.heap.size, 1, .int .i64 ar), (wr.heap.size, 2, .slice A1 rs.length c1)] (wr.alloc (.cells #[.string nm, .int .i64 ar, .slice A1 rs.length c1] 51)) := kn.box3 (.string nm) (.int .i64 ar) (.slice A1 rs.length c1) 51
          have hwb := (HW.out (.string nm) (.int .i64 ar) (.slice A1 rs.length c1)).out
          have hs1 : wr.heap.size + 1 ≤ (wr.alloc (.cells #[.string nm, .int .i64 ar, .slice A1 rs.length c1] 51)).heap.size := by simp
          generalize wr.alloc (.cells #[.string nm, .int .i64 ar, .slice A1 rs.length c1] 51) = W1 at knb hwb hs1 ⊢
          have KN := Lib.hid knb
          have HWB := Lib.hid hwb
          have bz0 := Lib.hid (Below.refl W1.heap.size W1)
          clear kn knb hwb HW x0 d0 d1 d2
          refine wp_region_class (by kernel_rfl) (by kernel_rfl) (fun W => Below W1.heap.size W1 W) ((bz0.out).drew) (fun S _ f hG hS => ?_)
          have y0 : ∀ s, (f s).cell? ⟨w.heap.size, 0, none⟩ = some (.slice (some ⟨b, o, none⟩) n c) := fun s => ((KN.out.next (hG s)).all).1
          have y1 : ∀ s, (f s).cell? ⟨wr.heap.size, 0, none⟩ = some (.string nm) := fun s => ((KN.out.next (hG s)).all).2.1
          have y2 : ∀ s, (f s).cell? ⟨wr.heap.size, 1, none⟩ = some (.int .i64 ar) := fun s => ((KN.out.next (hG s)).all).2.2.1
          have y3 : ∀ s, (f s).cell? ⟨wr.heap.size, 2, none⟩ = some (.slice A1 rs.length c1) := fun s => ((KN.out.next (hG s)).all).2.2.2.1
          have HG := Lib.hid hG
          have HS := Lib.hid hS
          clear hG hS
          repeat (first | go_big_quiet_step ((first | (go_at_call 52; exact Calls.clsB HS.out (HG.out _) (KV.out _ (HWB.out.trans ((HG.out _).mono HWB.out.size)))))) | quiet_step ((first | (go_at_call 52; exact Calls.clsB HS.out (HG.out _) (KV.out _ (HWB.out.trans ((HG.out _).mono HWB.out.size)))))))
          refine wpQuiet_nil ?_
          rintro _ ⟨s, rfl⟩
          have HF := Lib.hid (((KN.out.next (HG.out s)).sub (L' := [(w.heap.size, 0, .slice (some ⟨b, o, none⟩) n c)]) (by simp)))
          have hsf : w.heap.size + 1 ≤ (f s).heap.size := by have := (HG.out s).size; omega
          clear y0 y1 y2 y3 HG HS
          go_wp2_with fail
          refine ⟨⟨1, by omega, by go_num, hp2, HF.out, hsf⟩, ?_⟩
          simp [intOf]
          omega
        · obtain ⟨j, rfl⟩ : ∃ j, k = j + 1 := ⟨k - 1, by omega⟩
          obtain ⟨b', o', x, A2, c2, hbb, _, hx', hc0', _, _, _, _, _⟩ := RdT.at_ hr (show j < n by omega)
          injection hbb with hbb
          injection hbb with hb1 hb2
          subst hb1 hb2
          have KX : Hid (∀ W, Below wr.heap.size wr W → W.cell? ⟨b, o + j * 3, none⟩ = some (.string x.nm)) := fun W bw => (bw.cell (p := ⟨b, o + j * 3, none⟩) (by show b < _; omega)).trans ((hbel.out.cell (p := ⟨b, o + j * 3, none⟩) (by show b < _; omega)).trans hc0')
          have HX' := Lib.hid hx'
          clear hx' hc0'
          have g4 : IntKind.i64.wrap ((((j + 1 : Nat) : Int)) - 1) = (j : Int) := by rw [IntWalk.i64_in _ (by omega)]; omega
          have g5 : (0 : Int) ≤ (j : Int) := by omega
          have g6 : (j : Int) < (n : Int) := by omega
          have g7 : (j : Int).toNat = j := by omega
          have g8 : decide ((0 : Int) < (((j + 1 : Nat) : Int))) = true := decide_eq_true (by omega)
          cases hlt2 : ltN x.nm t.nm with
          | true =>
            have hp2 : Hid ((ts.take (j + 1 + 1)).all validTb = true ∧ AscN ts (j + 1 + 1)) := ⟨hp1.out, hp.out.2.step HX'.out HX.out hlt2⟩
            unfold ltN at hlt2
            clear hp1
            obtain ⟨nm, ar, rs⟩ := t
            go_wp2_with fail
            have knb : Kn w [(w.heap.size, 0, .slice (some ⟨b, o, none⟩) n c), (wr.heap.size, 0, .string nm), (wr.heap.size, 1, .int .i64 ar), (wr.heap.size, 2, .slice A1 rs.length c1)] (wr.alloc (.cells #[.string nm, .int .i64 ar, .slice A1 rs.length c1] 51)) := kn.box3 (.string nm) (.int .i64 ar) (.slice A1 rs.length c1) 51
            have hwb := (HW.out (.string nm) (.int .i64 ar) (.slice A1 rs.length c1)).out
            have hs1 : wr.heap.size + 1 ≤ (wr.alloc (.cells #[.string nm, .int .i64 ar, .slice A1 rs.length c1] 51)).heap.size := by simp
            generalize wr.alloc (.cells #[.string nm, .int .i64 ar, .slice A1 rs.length c1] 51) = W1 at knb hwb hs1 ⊢
            have KN := Lib.hid knb
            have HWB := Lib.hid hwb
            have bz0 := Lib.hid (Below.refl W1.heap.size W1)
            clear kn knb hwb HW x0 d0 d1 d2
            refine wp_region_class (by kernel_rfl) (by kernel_rfl) (fun W => Below W1.heap.size W1 W) ((bz0.out).drew) (fun S _ f hG hS => ?_)
            have y0 : ∀ s, (f s).cell? ⟨w.heap.size, 0, none⟩ = some (.slice (some ⟨b, o, none⟩) n c) := fun s => ((KN.out.next (hG s)).all).1
            have y1 : ∀ s, (f s).cell? ⟨wr.heap.size, 0, none⟩ = some (.string nm) := fun s => ((KN.out.next (hG s)).all).2.1
            have y2 : ∀ s, (f s).cell? ⟨wr.heap.size, 1, none⟩ = some (.int .i64 ar) := fun s => ((KN.out.next (hG s)).all).2.2.1
            have y3 : ∀ s, (f s).cell? ⟨wr.heap.size, 2, none⟩ = some (.slice A1 rs.length c1) := fun s => ((KN.out.next (hG s)).all).2.2.2.1
            have y4 : ∀ s, (f s).cell? ⟨b, o + j * 3, none⟩ = some (.string x.nm) := fun s => KX.out _ (HWB.out.trans ((hG s).mono HWB.out.size))
            have HG := Lib.hid hG
            have HS := Lib.hid hS
            clear hG hS
            repeat (first | go_big_quiet_step ((first | (go_at_call 52; exact Calls.clsB HS.out (HG.out _) (KV.out _ (HWB.out.trans ((HG.out _).mono HWB.out.size)))))) | quiet_step ((first | (go_at_call 52; exact Calls.clsB HS.out (HG.out _) (KV.out _ (HWB.out.trans ((HG.out _).mono HWB.out.size)))))))
            refine wpQuiet_nil ?_
            rintro _ ⟨s, rfl⟩
            have HF := Lib.hid (((KN.out.next (HG.out s)).sub (L' := [(w.heap.size, 0, .slice (some ⟨b, o, none⟩) n c)]) (by simp)))
            have hsf : w.heap.size + 1 ≤ (f s).heap.size := by have := (HG.out s).size; omega
            clear y0 y1 y2 y3 y4 g3 g4 g7 HG HS
            go_wp2_with fail
            refine ⟨⟨j + 1 + 1, by omega, by go_num, hp2, HF.out, hsf⟩, ?_⟩
            simp [intOf]
            omega
          | false =>
            have hf := Lib.hid (validD_no2 HX'.out HX.out hlt2)
            unfold ltN at hlt2
            clear hp1
            obtain ⟨nm, ar, rs⟩ := t
            go_wp2_with fail
            have knb : Kn w [(w.heap.size, 0, .slice (some ⟨b, o, none⟩) n c), (wr.heap.size, 0, .string nm), (wr.heap.size, 1, .int .i64 ar), (wr.heap.size, 2, .slice A1 rs.length c1)] (wr.alloc (.cells #[.string nm, .int .i64 ar, .slice A1 rs.length c1] 51)) := kn.box3 (.string nm) (.int .i64 ar) (.slice A1 rs.length c1) 51
            have hwb := (HW.out (.string nm) (.int .i64 ar) (.slice A1 rs.length c1)).out
            have hs1 : wr.heap.size + 1 ≤ (wr.alloc (.cells #[.string nm, .int .i64 ar, .slice A1 rs.length c1] 51)).heap.size := by simp
            generalize wr.alloc (.cells #[.string nm, .int .i64 ar, .slice A1 rs.length c1] 51) = W1 at knb hwb hs1 ⊢
            have KN := Lib.hid knb
            have HWB := Lib.hid hwb
            have bz0 := Lib.hid (Below.refl W1.heap.size W1)
            clear kn knb hwb HW x0 d0 d1 d2
            refine wp_region_class (by kernel_rfl) (by kernel_rfl) (fun W => Below W1.heap.size W1 W) ((bz0.out).drew) (fun S _ f hG hS => ?_)
            have y0 : ∀ s, (f s).cell? ⟨w.heap.size, 0, none⟩ = some (.slice (some ⟨b, o, none⟩) n c) := fun s => ((KN.out.next (hG s)).all).1
            have y1 : ∀ s, (f s).cell? ⟨wr.heap.size, 0, none⟩ = some (.string nm) := fun s => ((KN.out.next (hG s)).all).2.1
            have y2 : ∀ s, (f s).cell? ⟨wr.heap.size, 1, none⟩ = some (.int .i64 ar) := fun s => ((KN.out.next (hG s)).all).2.2.1
            have y3 : ∀ s, (f s).cell? ⟨wr.heap.size, 2, none⟩ = some (.slice A1 rs.length c1) := fun s => ((KN.out.next (hG s)).all).2.2.2.1
            have y4 : ∀ s, (f s).cell? ⟨b, o + j * 3, none⟩ = some (.string x.nm) := fun s => KX.out _ (HWB.out.trans ((hG s).mono HWB.out.size))
            have HG := Lib.hid hG
            have HS := Lib.hid hS
            clear hG hS
            repeat (first | go_big_quiet_step ((first | (go_at_call 52; exact Calls.clsB HS.out (HG.out _) (KV.out _ (HWB.out.trans ((HG.out _).mono HWB.out.size)))))) | quiet_step ((first | (go_at_call 52; exact Calls.clsB HS.out (HG.out _) (KV.out _ (HWB.out.trans ((HG.out _).mono HWB.out.size)))))))
            refine wpQuiet_nil ?_
            rintro _ ⟨s, rfl⟩
            have HF := Lib.hid (((KN.out.next (HG.out s)).sub (L' := [(w.heap.size, 0, .slice (some ⟨b, o, none⟩) n c)]) (by simp)).bel)
            clear y0 y1 y2 y3 y4 g3 g4 g7 HG HS
            go_wp2_with fail
            go_ret
            exact ⟨by rw [hf.out] <;> rfl, HF.out⟩
    · obtain rfl : k = n := by omega
      have hf := Lib.hid (validD_end hp.out.1 hp.out.2 (by rw [HL.out]; exact Nat.le_refl _))
      rw [HL.out] at hf
      have hq := Lib.hid (show decide ((k : Int) ≤ 6) = decide (k ≤ 6) by by_cases h6 : k ≤ 6 <;> simp [h6] <;> omega)
      go_wp2_with fail
      go_ret
      exact ⟨by rw [hf.out, ← hq.out] <;> rfl, hbel.out⟩

end

section
open Go.RowKit Go.Deep

set_option maxRecDepth 100000 in
set_option maxHeartbeats 400000 in
theorem copyInts_any (A : Option Addr) (n c B : Nat) (zs : List Int) (w : World) (hr : RdI w B A n zs) (hB : B ≤ w.heap.size) (hn : n ≤ 17592186044416) :
    Calls Tryz.prog 63 #[.slice A n c] w (IntsNew zs w) := by
  obtain ⟨i0, hi, hz0, hz1, hz2⟩ := info_parts info_int
  have hlen := hr.1
  subst hlen
  have hs := (hr.below ((Below.refl B w).alloc hB (.cells #[] 3))).src
  have h0 : (w.alloc (.cells #[] 3)).ownsRow 0 3 1 (.slice (some ⟨w.heap.size, 0, none⟩) 0 0) 0 [] := own_empty w 0 (Nat.zero_le _)
  have HB := Lib.hid (Below.refl w.heap.size w)
  go_enter Tryz.func63, Tryz.ntmps63
  go_wp2_with (at_builtin; refine wpList_append_src _ rfl _ _ _ rfl 3 i0 _ 8 Tryz.underlying27 hi hz0 hz1 hz2 rfl (.slice (some ⟨w.heap.size, 0, none⟩) 0 0) 0 [] rfl h0 A zs.length c (zs.map iv) rfl hs (by simp [iv, Value.oneCell']) (by unfold maxLen; omega) (by omega) ?_; intro v w1 hown1 hgrow hat)
  have hge : ∀ g, v.ownBlock = some g → w.heap.size ≤ g := fun g hg => by
    rcases hat with h | h
    · rw [h] at hg
      simp [Value.ownBlock] at hg
      omega
    · rw [h] at hg
      simp at hg
      omega
  obtain ⟨A1, c1, rfl, ho⟩ := own_of_copy (w := w) hown1 hge
  have hbel := Lib.hid ((HB.out.alloc (Nat.le_refl _) (.cells #[] 3)).grown hgrow (by simp) (fun j hj => by simp [Value.ownBlock] at hj; omega))
  clear hat hge hown1 hgrow
  go_ret
  exact IntsNew.of rfl ho hbel.out

set_option maxRecDepth 100000 in
set_option maxHeartbeats 400000 in
theorem copyRows_any (A : Option Addr) (n c B : Nat) (rs : List (List Int)) (w : World) (hr0 : RdR w B A n rs) (hB : B ≤ w.heap.size) (hn : n ≤ 5000000000) (hrow : ∀ r ∈ rs, r.length ≤ 17592186044416) :
    Calls Tryz.prog 73 #[.slice A n c] w (RowsNew rs w) := by
  obtain ⟨i0, hi, hz0, hz1, hz2⟩ := info_parts info_row
  have hr := RdR.more hr0 hB
  clear hr0
  have HL := Lib.hid hr.1
  have hrow' := Lib.hid hrow
  clear hrow
  go_enter Tryz.func73, Tryz.ntmps73
  go_wp2
  go_loopw [3, 9] (fun v i wr => ∃ k : Nat, k ≤ n ∧ i = .int .i64 k ∧ Hid (OwnR wr w.heap.size wr.heap.size v (rs.take k)) ∧ Below w.heap.size w wr) (fun _ i _ => n - (intOf i).toNat)
  case atStart => exact ⟨0, by omega, rfl, OwnR.empty w (Nat.le_refl _), (Below.refl _ _).alloc (Nat.le_refl _) _⟩
  case round =>
    obtain ⟨k, hk, rfl, hown, hbel⟩ := hrel
    have hsz := hbel.size
    by_cases hlt : k < n
    · obtain ⟨b, o, x, A', c', rfl, hb, hx, hc, hrd, _⟩ := RdR.at_ hr hlt
      have hc1 := (hbel.cell (p := ⟨b, o + k, none⟩) hb).trans hc
      have hxl := hrow'.out x (List.mem_of_getElem? hx)
      have hrd1 := hrd.below hbel
      have HX := Lib.hid (show rs.take k ++ [x] = rs.take (k + 1) by rw [List.take_add_one, hx]; rfl)
      have hlk : (rs.take k).length = k := by rw [List.length_take, HL.out]; omega
      clear hx hc hrd
      go_wp2_with fail
      refine (copyInts_any A' x.length c' w.heap.size x wr hrd1 hsz hxl).mono ?_
      rintro e w1 ⟨A1, c1, rfl, ho1, hb1⟩
      obtain ⟨xs, hrow1, hblk, hclose⟩ := (hown.out.below hb1 (Nat.le_refl _)).open_
      have hs1 := hb1.size
      have HC := Lib.hid hclose
      have HBK := Lib.hid hblk
      have HO := Lib.hid ho1
      rw [hlk] at hrow1
      clear hclose hblk ho1 hown
      have hrow2 := hrow1.alloc (.cells #[.slice A1 x.length c1] 27)
      have HK := Lib.hid hlk
      clear hlk hrow1
      go_wp2_with (at_builtin; refine wpList_append_lies _ rfl _ _ _ rfl 0 27 i0 _ 1 24 Tryz.underlying49 hi hz0 hz1 hz2 rfl (by omega) _ k _ rfl hrow2 ⟨w1.heap.size, 0, none⟩ 1 1 [.slice A1 x.length c1] rfl rfl (World.news_of_block (cs := #[.slice A1 x.length c1]) (t := 27) (fr := (0, 0)) (heap_alloc_new w1 _)) (by simp [Value.oneCell']) (by omega) (by unfold maxLen; omega) (by omega) (Nat.zero_le _) (w1.heap.size + 1) (by simp) ?_; intro g cap w2 hown2 hgrow hat hlt2)
      have hbel2 : Below w.heap.size w w2 := ((hbel.trans (hb1.mono hsz)).alloc (by omega) (.cells #[.slice A1 x.length c1] 27)).grown hgrow (by simp; omega) (fun j hj => (HBK.out j hj).1)
      have hfin := HC.out (w1.alloc (.cells #[.slice A1 x.length c1] 27)) w2 A1 x c1 wr.heap.size w1.heap.size g cap ((Below.refl _ _).alloc (Nat.le_refl _) _) (HO.out.below ((Below.refl w1.heap.size w1).alloc (Nat.le_refl _) _) (Nat.le_refl _)) (Nat.le_refl _) hsz (by simp) (by simp; omega) (by rw [HK.out]; exact hown2) hgrow (hat.imp (fun h => h) (fun h => by rw [h]; simp))
      rw [HX.out, HK.out] at hfin
      have HF := Lib.hid hfin
      clear hfin hown2 hgrow hat
      refine ⟨⟨k + 1, by omega, by go_num, HF.out, hbel2⟩, ?_⟩
      simp [intOf]
      omega
    · obtain rfl : k = n := by omega
      have hf := hown.out
      rw [List.take_of_length_le (Nat.le_of_eq HL.out)] at hf
      have HF := Lib.hid hf
      clear hown hf
      go_wp2
      go_ret
      exact RowsNew.of HF.out hbel

set_option maxRecDepth 100000 in
set_option maxHeartbeats 400000 in
theorem copyTable_any (nm : ByteArray) (ar : Int) (A : Option Addr) (n c B : Nat) (rs : List (List Int)) (w : World) (hr : RdR w B A n rs) (hB : B ≤ w.heap.size) (hn : n ≤ 5000000000) (hrow : ∀ r ∈ rs, r.length ≤ 17592186044416) :
    Calls Tryz.prog 51 #[.agg #[.string nm, .int .i64 ar, .slice A n c]] w (TabNew nm ar rs w) := by
  have hrow' := Lib.hid hrow
  clear hrow
  have HB := Lib.hid (Below.refl w.heap.size w)
  go_enter Tryz.func51, Tryz.ntmps51
  go_wp2_with fail
  refine (copyRows_any A n c B rs _ (RdR.belowB hr (((Below.refl B w).alloc hB _).alloc (by simp; omega) _) (Nat.le_refl _)) (by simp; omega) hn hrow'.out).mono ?_
  rintro e w1 ⟨A1, c1, rfl, ho, hb⟩
  have hs := hb.size
  simp at hs
  obtain ⟨hc, hf⟩ := bcells hb
  have e0 : w1.cell? ⟨w.heap.size, 0, none⟩ = some (.string nm) := (hb.cell (p := ⟨w.heap.size, 0, none⟩) (by simp; omega)).trans (by simp [go_sem])
  have e1 : w1.cell? ⟨w.heap.size, 1, none⟩ = some (.int .i64 ar) := (hb.cell (p := ⟨w.heap.size, 1, none⟩) (by simp; omega)).trans (by simp [go_sem])
  have e2 : w1.cell? ⟨w.heap.size, 2, none⟩ = some (.slice A n c) := (hb.cell (p := ⟨w.heap.size, 2, none⟩) (by simp; omega)).trans (by simp [go_sem])
  have hbel := Lib.hid ((((HB.out).alloc (Nat.le_refl _) _).alloc (by simp) _).trans (hb.mono (by simp; omega)))
  have HO := Lib.hid ho
  clear hb ho
  go_wp2_with fail
  refine bodyPost_ret (v := .agg #[.string nm, .int .i64 ar, .slice A1 rs.length c1]) (by simp [results, Tryz.results51, go_sem, *]) rfl (TabNew.of ?_ ?_)
  · have h2 : OwnR w1 (w.heap.size + 2) w1.heap.size (.slice A1 rs.length c1) rs := by simpa using HO.out
    refine OwnR.down (lo := w.heap.size + 2) (OwnR.wide (hi := w1.heap.size) ?_ (by simp)) (by omega)
    repeat refine OwnR.setLow ?_ (by omega)
    exact h2
  · repeat first | exact hbel.out | (refine Below.setCell ?_ ?_ _; rotate_left; (simp; try omega))

end

section
open Go.RowKit Go.Deep

set_option maxRecDepth 100000 in
set_option maxHeartbeats 4000000 in
theorem l4Copy_any (nm : ByteArray) (ar : Int) (A : Option Addr) (n c B : Nat) (rs : List (List Int)) (w : World) (hr : RdR w B A n rs) (hB : B ≤ w.heap.size) (hn : n ≤ 5000000000) (hrow : ∀ r ∈ rs, r.length ≤ 17592186044416) :
    Calls Tryz.prog 58 #[.agg #[.string nm, .int .i64 ar, .slice A n c]] w (TabNew nm ar rs w) := by
  obtain ⟨i0, hi, hz0, hz1, hz2⟩ := info_parts info_int
  obtain ⟨i1, hi', hz0', hz1', hz2'⟩ := info_parts info_row
  have HL := Lib.hid hr.1
  have hrow' := Lib.hid hrow
  clear hrow
  go_enter Tryz.func58, Tryz.ntmps58
  go_wp2_with fail
  go_loopw [4] (fun i wr => ∃ (k : Nat) (v : Value), k ≤ n ∧ i = .int .i64 k ∧ LInv w w.heap.size (w.heap.size + 1) (w.heap.size + 1 + 1) (w.heap.size + 1 + 1 + 1) (.string nm) (.int .i64 ar) (.slice A n c) (.string nm) (.int .i64 ar) (rs.take k) v wr) (fun i _ => n - (intOf i).toNat)
  case atStart =>
    refine ⟨0, .slice none 0 0, by omega, rfl, OwnR.nil _ _ _, (((Below.refl _ _).alloc (Nat.le_refl _) _).alloc (by simp) _).alloc (by simp; omega) _, by simp, by omega, by omega, by omega, by omega, by omega, by omega, by simp [go_sem], by simp [go_sem], by simp [go_sem], by simp [go_sem], by simp [go_sem], by simp [go_sem], by simp [go_sem], fun i hi => ?_⟩
    have : i = 0 ∨ i = 1 ∨ i = 2 := by omega
    rcases this with rfl | rfl | rfl <;> simp [go_sem]
  case round =>
    obtain ⟨k, v, hk, rfl, hinv⟩ := hrel
    have c2 := hinv.c2
    by_cases hlt : k < n
    · obtain ⟨b, o, x, A', c', rfl, hb, hx, hc, hrd, _⟩ := RdR.at_ (RdR.more hr hB) hlt
      have hbel := hinv.bel
      have hsz := hinv.size
      have x2 := hinv.x2
      have fx := hinv.fx
      have hc1 := (hbel.cell (p := ⟨b, o + k, none⟩) hb).trans hc
      have hxl := hrow'.out x (List.mem_of_getElem? hx)
      have hrd1 := Lib.hid ((hrd.below hbel).more (show w.heap.size ≤ wr.heap.size by omega))
      have HX := Lib.hid (show rs.take k ++ [x] = rs.take (k + 1) by rw [List.take_add_one, hx]; rfl)
      have HK := Lib.hid (show (rs.take k).length = k by rw [List.length_take, HL.out]; omega)
      have HI := Lib.hid hinv
      have g1 : (0 : Int) ≤ (k : Int) := by omega
      have g2 : (k : Int) < (n : Int) := by omega
      have g3 : (k : Int).toNat = k := by omega
      have l0 : b < wr.heap.size := by omega
      have l1 : w.heap.size < wr.heap.size := by omega
      have l2 : w.heap.size + 1 + 1 < wr.heap.size := by omega
      clear hx hc hrd hinv hbel
      go_wp2_with fail
      go_region_law (first
          | (refine step_append_src _ (by rfl) (.tmp 19) (.tmp 24) _ (by rfl) 3 i0 _ 8 Tryz.underlying27 hi hz0 hz1 hz2 (by rfl) (.slice (some ⟨wr.heap.size, 0, none⟩) 0 0) 0 [] (by rfl) (own_at (heap_alloc_new wr _)) A' x.length c' (x.map iv) (by rfl) (hrd1.out.below ((Below.refl _ _).alloc (Nat.le_refl _) _)).src (by simp [iv, Value.oneCell']) (by unfold maxLen; omega) (by omega) ?_; intro v1 w1 hown1 hgrow1 hat1
             obtain ⟨A1, c1, rfl, ho1⟩ := own_of_copy (w := wr) hown1 (hat_ge hat1 (by simp))
             have hb1 : Below wr.heap.size wr w1 := ((Below.refl wr.heap.size wr).alloc (Nat.le_refl _) (.cells #[] 3)).drew.grown hgrow1 (by simp) (fun j hj => by simp [Value.ownBlock] at hj; omega)
             obtain ⟨xs, hrow1, hblk, hclose⟩ := (HI.out.own.below hb1 (Nat.le_refl _)).open_
             rw [HK.out] at hrow1
             have m1 : w1.cell? ⟨w.heap.size, 2, none⟩ = some (.slice (some ⟨b, o, none⟩) n c) := (hb1.cell (p := ⟨w.heap.size, 2, none⟩) l1).trans c2
             have m2 : w1.cell? ⟨b, o + k, none⟩ = some (.slice A' x.length c') := (hb1.cell (p := ⟨b, o + k, none⟩) l0).trans hc1
             have m3 : w1.cell? ⟨w.heap.size + 1 + 1, 2, none⟩ = some v := (hb1.cell (p := ⟨w.heap.size + 1 + 1, 2, none⟩) l2).trans x2
             have hs1 := hb1.size
             have l0' : b < w1.heap.size := by omega
             have l1' : w.heap.size < w1.heap.size := by omega
             have l2' : w.heap.size + 1 + 1 < w1.heap.size := by omega
             have HC := Lib.hid hclose
             have HBK := Lib.hid hblk
             have HO := Lib.hid ho1
             have HB1 := Lib.hid hb1
             have hrow2 := hrow1.alloc (.cells #[.slice A1 x.length c1] 27)
             clear hown1 hgrow1 hat1 hclose hblk ho1 hb1 hrow1)
          | (refine step_append_lies _ (by rfl) (.tmp 18) (.tmp 26) _ (by rfl) 0 27 i1 _ 1 24 Tryz.underlying49 hi' hz0' hz1' hz2' (by rfl) (by omega) v k xs (by rfl) hrow2 ⟨w1.heap.size, 0, none⟩ 1 1 [.slice A1 x.length c1] (by rfl) rfl (World.news_of_block (cs := #[.slice A1 x.length c1]) (t := 27) (fr := (0, 0)) (heap_alloc_new w1 _)) (by simp [Value.oneCell']) (by omega) (by unfold maxLen; omega) (by omega) (Nat.zero_le _) (w1.heap.size + 1) (by simp) ?_; intro g cap w2 hown2 hgrow hat hlt2
             have hB2 : Below (w.heap.size + 1 + 1 + 1) wr w2 := ((HB1.out.mono hsz).alloc (by omega) (.cells #[.slice A1 x.length c1] 27)).grown hgrow (by simp; omega) (fun j hj => (HBK.out j hj).1)
             have hfin := HC.out (w1.alloc (.cells #[.slice A1 x.length c1] 27)) w2 A1 x c1 wr.heap.size w1.heap.size g cap ((Below.refl _ _).alloc (Nat.le_refl _) _) (HO.out.below ((Below.refl w1.heap.size w1).alloc (Nat.le_refl _) _) (Nat.le_refl _)) (Nat.le_refl _) hsz (by simp) (by simp; omega) (by rw [HK.out]; exact hown2) hgrow (hat.imp (fun h => h) (fun h => by rw [h]; simp))
             have n2 : w2.cell? ⟨w.heap.size + 1 + 1, 2, none⟩ = some v := (hB2.cell (p := ⟨w.heap.size + 1 + 1, 2, none⟩) (Nat.lt_succ_self _)).trans x2
             have n3 : w2.frozen? ⟨w.heap.size + 1 + 1, 2, none⟩ = false := (hB2.frozen (p := ⟨w.heap.size + 1 + 1, 2, none⟩) (Nat.lt_succ_self _)).trans fx
             rw [HX.out, HK.out] at hfin
             have HF := Lib.hid (HI.out.push hB2 hfin)
             clear hown2 hgrow hat hB2 hfin)
          | fail)
      all_goals (
        go_wp2_with fail
        refine ⟨⟨k + 1, _, by omega, by go_num, HF.out⟩, ?_⟩
        simp [intOf]
        omega)
    · obtain rfl : k = n := by omega
      have x0 := hinv.x0
      have x1 := hinv.x1
      have x2 := hinv.x2
      have hr0 := hinv.res 0 (by omega)
      have hr1 := hinv.res 1 (by omega)
      have hr2 := hinv.res 2 (by omega)
      obtain ⟨y0, hy0⟩ := Option.isSome_iff_exists.1 hr0.1
      obtain ⟨y1, hy1⟩ := Option.isSome_iff_exists.1 hr1.1
      obtain ⟨y2, hy2⟩ := Option.isSome_iff_exists.1 hr2.1
      have e0 := hr0.2
      have e1 := hr1.2
      have e2 := hr2.2
      have HT := Lib.hid (show rs.take k = rs from List.take_of_length_le (Nat.le_of_eq HL.out))
      rw [HT.out] at hinv
      obtain ⟨A1, c1, rfl⟩ := hinv.own.form
      have HF := Lib.hid (hinv.fin (by omega) (by omega) (.string nm) (.int .i64 ar) (.slice A1 rs.length c1))
      clear hinv hr0 hr1 hr2
      go_wp2_with fail
      exact bodyPost_ret (v := .agg #[.string nm, .int .i64 ar, .slice A1 rs.length c1]) (by simp [results, Tryz.results58, go_sem, *]) rfl (TabNew.of HF.out.1 HF.out.2)

end

section
open Go.RowKit Go.Deep
open Go.RowKit Go.Deep

def idxN (ts : List Tab) (nm : ByteArray) : Int := match ts.findIdx? (fun t => decide (t.nm = nm)) with | some k => k | none => -1

theorem idxN_at {ts : List Tab} {nm : ByteArray} {k : Nat} {t : Tab} (h : ts[k]? = some t) (ht : t.nm = nm) (hno : NoN ts nm k) : idxN ts nm = k := by
  obtain ⟨hk, rfl⟩ := List.getElem?_eq_some_iff.1 h
  have : ts.findIdx? (fun t => decide (t.nm = nm)) = some k := by
    rw [List.findIdx?_eq_some_iff_getElem]
    exact ⟨hk, by simpa using ht, fun j hj => by simpa using hno j ts[j] hj (List.getElem?_eq_getElem (by omega))⟩
  unfold idxN
  rw [this]

theorem idxN_none {ts : List Tab} {nm : ByteArray} {k : Nat} (hno : NoN ts nm k) (hk : ts.length ≤ k) : idxN ts nm = -1 := by
  have : ts.findIdx? (fun t => decide (t.nm = nm)) = none := by
    rw [List.findIdx?_eq_none_iff]
    intro x hx
    simpa using hno.all hk x hx
  unfold idxN
  rw [this]

theorem noN_or (ts : List Tab) (nm : ByteArray) : ∀ k, NoN ts nm k ∨ ∃ j t, ts[j]? = some t ∧ t.nm = nm ∧ NoN ts nm j
  | 0 => .inl (NoN.zero ts nm)
  | k + 1 => by
    rcases noN_or ts nm k with h | h
    · cases hx : ts[k]? with
      | none =>
        refine .inl fun j x hj hjx => ?_
        rcases Nat.lt_or_ge j k with h1 | h1
        · exact h j x h1 hjx
        · obtain rfl : j = k := by omega
          rw [hx] at hjx
          cases hjx
      | some t =>
        by_cases ht : t.nm = nm
        · exact .inr ⟨k, t, hx, ht, h⟩
        · exact .inl (h.step hx ht)
    · exact .inr h

set_option maxRecDepth 100000 in
theorem predLook_any (nm nm' : ByteArray) (ar : Int) (A : Option Addr) (n c g : Nat) (w : World) (hc : w.cell? ⟨g, 0, none⟩ = some (.string nm')) :
    Calls Tryz.prog 49 #[.agg #[.string nm, .int .i64 ar, .slice A n c], .pointer (some ⟨g, 0, none⟩)] w fun e w' => e = .returned (.bool (decide (nm = nm'))) ∧ Below w.heap.size w w' := by
  have HB := Lib.hid ((Below.refl w.heap.size w).alloc (Nat.le_refl _) (.cells #[.string nm, .int .i64 ar, .slice A n c] 51))
  have hc' := (HB.out.cell (p := ⟨g, 0, none⟩) (World.block_lt_of_cell? w _ hc)).trans hc
  clear hc
  by_cases h : nm = nm'
  · subst h
    go_enter Tryz.func49, Tryz.ntmps49
    go_wp2_with fail
    go_ret
    exact ⟨by simp, HB.out⟩
  · have hf : Hid (decide (nm = nm') = false) := decide_eq_false h
    have q1 := str_eq0 h
    clear h
    go_enter Tryz.func49, Tryz.ntmps49
    go_wp2_with fail
    go_ret
    exact ⟨by rw [hf.out] <;> rfl, HB.out⟩

set_option maxRecDepth 100000 in
set_option maxHeartbeats 400000 in
theorem indexFuncLook_any (A : Option Addr) (n c g B : Nat) (ts : List Tab) (nm' : ByteArray) (w : World) (hcell : w.cell? ⟨g, 0, none⟩ = some (.string nm')) (hg : g < w.heap.size) (hr : RdT w B A n ts) (hB : B ≤ w.heap.size) (hn : n ≤ 1000000000) :
    Calls Tryz.prog 48 #[.slice A n c, .func (.func 49) #[] #[.pointer (some ⟨g, 0, none⟩)]] w fun e w' => e = .returned (.int .i64 (idxN ts nm')) ∧ Below w.heap.size w w' := by
  have HL := Lib.hid hr.1
  have HG := Lib.hid hcell
  clear hcell
  go_enter Tryz.func48, Tryz.ntmps48
  go_wp2
  go_loopw [5, 8] (fun _ i wr => ∃ k : Nat, k ≤ n ∧ i = .int .i64 k ∧ Hid (NoN ts nm' k) ∧ Hid (Below w.heap.size w wr)) (fun _ i _ => n - (intOf i).toNat)
  case atStart => exact ⟨0, by omega, rfl, NoN.zero _ _, Below.refl _ _⟩
  case round =>
    obtain ⟨k, hk, rfl, hpre, hbel⟩ := hrel
    have hsz := hbel.out.size
    by_cases hlt : k < n
    · obtain ⟨b, o, t, A1, c1, rfl, hb, hx, hc0, hc1, hc2, hrd, hm, _⟩ := RdT.at_ hr hlt
      have d0 := (hbel.out.cell (p := ⟨b, o + k * 3, none⟩) (by show b < _; omega)).trans hc0
      have d1 := (hbel.out.cell (p := ⟨b, o + k * 3 + 1, none⟩) (by show b < _; omega)).trans hc1
      have d2 := (hbel.out.cell (p := ⟨b, o + k * 3 + 2, none⟩) (by show b < _; omega)).trans hc2
      have KE := Lib.hid (predLook_any t.nm nm' t.ar A1 t.rs.length c1 g wr ((hbel.out.cell (p := ⟨g, 0, none⟩) hg).trans HG.out))
      have HX := Lib.hid hx
      clear hx hc0 hc1 hc2 hrd hm
      by_cases he : t.nm = nm'
      · have hf : Hid (idxN ts nm' = k) := idxN_at HX.out he hpre.out
        have hd := Lib.hid (decide_eq_true he)
        clear he
        obtain ⟨nm, ar, rs⟩ := t
        go_wp2_with fail
        refine KE.out.mono ?_
        rintro e w1 ⟨rfl, hq⟩
        rw [hd.out]
        have HQ := Lib.hid (hbel.out.trans (hq.mono hsz))
        clear hq
        go_wp2_with fail
        go_ret
        exact ⟨by rw [hf.out] <;> rfl, HQ.out⟩
      · have hpre' : Hid (NoN ts nm' (k + 1)) := hpre.out.step HX.out he
        have hd := Lib.hid (decide_eq_false he)
        clear he
        obtain ⟨nm, ar, rs⟩ := t
        go_wp2_with fail
        refine KE.out.mono ?_
        rintro e w1 ⟨rfl, hq⟩
        rw [hd.out]
        have HQ := Lib.hid (hbel.out.trans (hq.mono hsz))
        clear hq
        go_wp2_with fail
        refine ⟨⟨k + 1, by omega, by go_num, hpre', HQ⟩, ?_⟩
        simp [intOf]
        omega
    · obtain rfl : k = n := by omega
      have hf : Hid (idxN ts nm' = -1) := idxN_none hpre.out (by rw [HL.out]; exact Nat.le_refl _)
      go_wp2
      go_ret
      exact ⟨by rw [hf.out] <;> rfl, hbel.out⟩

set_option maxRecDepth 100000 in
set_option maxHeartbeats 1000000 in
theorem impl_LookupTable_any (A : Option Addr) (n c B : Nat) (ts : List Tab) (nm : ByteArray) (w : World) (hr : RdT w B A n ts) (hB : B ≤ w.heap.size) (hn : n ≤ 1000000000) (hs : sumT ts ≤ 4294967296) :
    Calls Tryz.prog 20 #[.agg #[.slice A n c], .string nm] w (TabBool (lookR ts nm) w) := by
  have HL := Lib.hid hr.1
  have hsm := Lib.hid hs
  have kn0 : Kn w [(w.heap.size, 0, .slice A n c), (w.heap.size + 1, 0, .string nm), (w.heap.size + 2, 0, .string { data := #[] }), (w.heap.size + 2, 1, .int .i64 0), (w.heap.size + 2, 2, .slice none 0 0)] (((w.alloc (.cells #[.slice A n c] 26)).alloc (.cells #[.string nm] 9)).alloc (.cells #[.string { data := #[] }, .int .i64 0, .slice none 0 0] 51)) := by
    simpa using ((((Kn.start w).box1 (.slice A n c) 26).box1 (.string nm) 9).box3 (.string { data := #[] }) (.int .i64 0) (.slice none 0 0) 51)
  go_enter Tryz.func20, Tryz.ntmps20
  go_wp2_with fail
  have s0 : w.heap.size + 3 ≤ (((w.alloc (.cells #[.slice A n c] 26)).alloc (.cells #[.string nm] 9)).alloc (.cells #[.string { data := #[] }, .int .i64 0, .slice none 0 0] 51)).heap.size := by simp
  generalize ((w.alloc (.cells #[.slice A n c] 26)).alloc (.cells #[.string nm] 9)).alloc (.cells #[.string { data := #[] }, .int .i64 0, .slice none 0 0] 51) = w0 at kn0 s0 ⊢
  have KIX := Lib.hid (indexFuncLook_any A n c (w.heap.size + 1) B ts nm w0 kn0.all.2.1 (by omega) (RdT.belowB hr kn0.bel hB) (Nat.le_trans hB kn0.bel.size) hn)
  rcases noN_or ts nm n with hno | ⟨k, t, hx, ht, hno⟩
  · have hf : Hid (lookR ts nm = nilR) := lookR_none hno (by rw [HL.out]; exact Nat.le_refl _)
    rw [idxN_none hno (by rw [HL.out]; exact Nat.le_refl _)] at KIX
    clear hno
    refine KIX.out.mono ?_
    rintro e w1 ⟨rfl, b1⟩
    have s1 := b1.size
    have kn1 := kn0.next b1
    clear kn0 b1
    obtain ⟨d0, d1, d2, d3, d4, _⟩ := kn1.all
    obtain ⟨f0, f1, f2, f3, f4, _⟩ := kn1.fall
    have HF := Lib.hid kn1.bel
    clear kn1
    go_wp2_with fail
    refine bodyPost_ret (v := .tuple #[.agg #[.string { data := #[] }, .int .i64 0, .slice none 0 0], .bool false]) (by simp [results, Tryz.results20, go_sem, *]) rfl (TabBool.of hf.out (OwnR.nil _ _ _) ?_)
    repeat first | exact HF.out | (refine Below.setCell ?_ ?_ _; rotate_left; (simp; try omega))
  · have hkn : k < n := by have := (List.getElem?_eq_some_iff.1 hx).1; rw [HL.out] at this; exact this
    rw [idxN_at hx ht hno] at KIX
    have hq : decide ((k : Int) < 0) = false := decide_eq_false (by omega)
    refine KIX.out.mono ?_
    rintro e w1 ⟨rfl, b1⟩
    have s1 := b1.size
    have kn1 := kn0.next b1
    clear kn0 b1
    obtain ⟨d0, d1, d2, d3, d4, _⟩ := kn1.all
    have KV := Lib.hid (impl_IsValidDatabase_any A n c B ts w1 (RdT.belowB hr kn1.bel hB) (Nat.le_trans hB kn1.bel.size) hn hs)
    cases hv : validD ts with
    | false =>
      have hf : Hid (lookR ts nm = nilR) := lookR_bad nm hv
      rw [hv] at KV
      clear hv hx ht hno
      go_wp2_with fail
      refine KV.out.mono ?_
      rintro e w2 ⟨rfl, b2⟩
      have s2 := b2.size
      have kn2 := kn1.next b2
      clear kn1 b2 d0 d1 d2 d3 d4
      obtain ⟨d0, d1, d2, d3, d4, _⟩ := kn2.all
      obtain ⟨f0, f1, f2, f3, f4, _⟩ := kn2.fall
      have HF := Lib.hid kn2.bel
      clear kn2
      go_wp2_with fail
      refine bodyPost_ret (v := .tuple #[.agg #[.string { data := #[] }, .int .i64 0, .slice none 0 0], .bool false]) (by simp [results, Tryz.results20, go_sem, *]) rfl (TabBool.of hf.out (OwnR.nil _ _ _) ?_)
      repeat first | exact HF.out | (refine Below.setCell ?_ ?_ _; rotate_left; (simp; try omega))
    | true =>
      have hf := Lib.hid (lookR_at hx ht hno hv)
      rw [hv] at KV
      have hts := Lib.hid (tab_small hx hs)
      obtain ⟨b, o, t', A1, c1, rfl, hb, hx', hc0, hc1, hc2, hrd, hm, _⟩ := RdT.at_ hr hkn
      rw [hx] at hx'
      injection hx' with hx'
      subst hx'
      clear hv hx ht hno hm
      go_wp2_with fail
      refine KV.out.mono ?_
      rintro e w2 ⟨rfl, b2⟩
      have s2 := b2.size
      have kn2 := kn1.next b2
      clear kn1 b2 d0 d1 d2 d3 d4
      have hbel := kn2.bel
      have e0 := (hbel.cell (p := ⟨b, o + k * 3, none⟩) (by show b < _; omega)).trans hc0
      have e1 := (hbel.cell (p := ⟨b, o + k * 3 + 1, none⟩) (by show b < _; omega)).trans hc1
      have e2 := (hbel.cell (p := ⟨b, o + k * 3 + 2, none⟩) (by show b < _; omega)).trans hc2
      have KC := Lib.hid (copyTable_any t.nm t.ar A1 t.rs.length c1 B t.rs w2 (RdR.belowB hrd hbel hB) (Nat.le_trans hB hbel.size) hts.out.1 hts.out.2)
      obtain ⟨d0, d1, d2, d3, d4, _⟩ := kn2.all
      clear hc0 hc1 hc2 hrd hbel
      go_wp2_with fail
      refine KC.out.mono ?_
      rintro e w3 ⟨Ao, co, rfl, oo, b3⟩
      have s3 := b3.size
      have kn3 := kn2.next b3
      have HO := Lib.hid oo
      clear kn2 b3 d0 d1 d2 d3 d4 oo e0 e1 e2
      obtain ⟨d0, d1, d2, d3, d4, _⟩ := kn3.all
      obtain ⟨f0, f1, f2, f3, f4, _⟩ := kn3.fall
      have HF := Lib.hid kn3.bel
      clear kn3
      go_wp2_with fail
      refine bodyPost_ret (v := .tuple #[.agg #[.string t.nm, .int .i64 t.ar, .slice Ao t.rs.length co], .bool true]) (by simp [results, Tryz.results20, go_sem, *]) rfl (TabBool.of hf.out ?_ ?_)
      · refine OwnR.down (lo := w2.heap.size) (OwnR.wide (hi := w3.heap.size) ?_ (by simp)) (by omega)
        repeat refine OwnR.setOff ?_ (by omega)
        exact HO.out
      · repeat first | exact HF.out | (refine Below.setCell ?_ ?_ _; rotate_left; (simp; try omega))

set_option maxRecDepth 100000 in
set_option maxHeartbeats 1000000 in
theorem spec_LookupTable_any (A : Option Addr) (n c B : Nat) (ts : List Tab) (nm : ByteArray) (w : World) (hr : RdT w B A n ts) (hB : B ≤ w.heap.size) (hn : n ≤ 1000000000) (hs : sumT ts ≤ 4294967296) :
    Calls Tryz.prog 25 #[.agg #[.slice A n c], .string nm] w (TabBool (lookR ts nm) w) := by
  have HL := Lib.hid hr.1
  have hsm := Lib.hid hs
  have kn0 : Kn w [(w.heap.size, 0, .slice A n c), (w.heap.size + 1, 0, .string { data := #[] }), (w.heap.size + 1, 1, .int .i64 0), (w.heap.size + 1, 2, .slice none 0 0)] ((w.alloc (.cells #[.slice A n c] 26)).alloc (.cells #[.string { data := #[] }, .int .i64 0, .slice none 0 0] 51)) := by
    simpa using (((Kn.start w).box1 (.slice A n c) 26).box3 (.string { data := #[] }) (.int .i64 0) (.slice none 0 0) 51)
  have KV : Hid (∀ W, Below w.heap.size w W → Calls Tryz.prog 57 #[.agg #[.slice A n c]] W fun e w' => e = .returned (.bool (validD ts)) ∧ Below W.heap.size W w') := fun W bw =>
    spec_IsValidDatabase_any A n c B ts W (RdT.belowB hr bw hB) (Nat.le_trans hB bw.size) hn hs
  clear hs
  go_enter Tryz.func25, Tryz.ntmps25
  go_wp2_with fail
  have s0 : w.heap.size + 2 ≤ ((w.alloc (.cells #[.slice A n c] 26)).alloc (.cells #[.string { data := #[] }, .int .i64 0, .slice none 0 0] 51)).heap.size := by simp
  generalize (w.alloc (.cells #[.slice A n c] 26)).alloc (.cells #[.string { data := #[] }, .int .i64 0, .slice none 0 0] 51) = w0 at kn0 s0 ⊢
  go_loopw [6] (fun i wr => ∃ k : Nat, k ≤ n ∧ i = .int .i64 k ∧ Hid (NoN ts nm k) ∧ Kn w [(w.heap.size, 0, .slice A n c), (w.heap.size + 1, 0, .string { data := #[] }), (w.heap.size + 1, 1, .int .i64 0), (w.heap.size + 1, 2, .slice none 0 0)] wr ∧ w.heap.size + 2 ≤ wr.heap.size) (fun i _ => n - (intOf i).toNat)
  case atStart => exact ⟨0, by omega, rfl, NoN.zero _ _, kn0, s0⟩
  case round =>
    obtain ⟨k, hk, rfl, hno, kn, hsr⟩ := hrel
    clear kn0 s0
    obtain ⟨d0, d1, d2, d3, _⟩ := kn.all
    by_cases hlt : k < n
    · obtain ⟨b, o, t, A1, c1, rfl, hb, hx, hc0, hc1, hc2, hrd, hm, _⟩ := RdT.at_ hr hlt
      have KV1 := Lib.hid (KV.out wr kn.bel)
      have HX := Lib.hid hx
      have hts := Lib.hid (tab_small hx hsm.out)
      have hb2 : b < w.heap.size := by omega
      clear hx hm
      cases hv : validD ts with
      | false =>
        have hf : Hid (lookR ts nm = nilR) := lookR_bad nm hv
        rw [hv] at KV1
        clear hv hc0 hc1 hc2 hrd
        go_wp2_with fail
        refine KV1.out.mono ?_
        rintro e w1 ⟨rfl, b1⟩
        have s1 := b1.size
        have kn1 := kn.next b1
        clear kn b1 d0 d1 d2 d3
        obtain ⟨d0, d1, d2, d3, _⟩ := kn1.all
        obtain ⟨f0, f1, f2, f3, _⟩ := kn1.fall
        have HF := Lib.hid kn1.bel
        clear kn1
        go_wp2_with fail
        refine bodyPost_ret (v := .tuple #[.agg #[.string { data := #[] }, .int .i64 0, .slice none 0 0], .bool false]) (by simp [results, Tryz.results25, go_sem, *]) rfl (TabBool.of hf.out (OwnR.nil _ _ _) ?_)
        repeat first | exact HF.out | (refine Below.setCell ?_ ?_ _; rotate_left; (simp; try omega))
      | true =>
        have HV := Lib.hid hv
        rw [hv] at KV1
        clear hv
        go_wp2_with fail
        refine KV1.out.mono ?_
        rintro e w1 ⟨rfl, b1⟩
        have s1 := b1.size
        have kn1 := kn.next b1
        clear kn b1 d0 d1 d2 d3
        obtain ⟨d0, d1, d2, d3, _⟩ := kn1.all
        have hbel := kn1.bel
        have e0 := (hbel.cell (p := ⟨b, o + k * 3, none⟩) hb2).trans hc0
        have e1 := (hbel.cell (p := ⟨b, o + k * 3 + 1, none⟩) hb2).trans hc1
        have e2 := (hbel.cell (p := ⟨b, o + k * 3 + 2, none⟩) hb2).trans hc2
        have KC := Lib.hid (l4Copy_any t.nm t.ar A1 t.rs.length c1 B t.rs w1 (RdR.belowB hrd hbel hB) (Nat.le_trans hB hbel.size) hts.out.1 hts.out.2)
        clear hc0 hc1 hc2 hrd hbel
        by_cases he : t.nm = nm
        · have hf := Lib.hid (lookR_at HX.out he hno.out HV.out)
          have HE := Lib.hid he
          have qe : (t.nm.toList == nm.toList) = true := by rw [he]; simp
          clear he
          go_wp2_with fail
          refine KC.out.mono ?_
          rintro e w3 ⟨Ao, co, rfl, oo, b3⟩
          have s3 := b3.size
          have kn3 := kn1.next b3
          have HO := Lib.hid oo
          clear kn1 b3 d0 d1 d2 d3 oo e0 e1 e2
          obtain ⟨d0, d1, d2, d3, _⟩ := kn3.all
          obtain ⟨f0, f1, f2, f3, _⟩ := kn3.fall
          have HF := Lib.hid kn3.bel
          clear kn3
          go_wp2_with fail
          refine bodyPost_ret (v := .tuple #[.agg #[.string t.nm, .int .i64 t.ar, .slice Ao t.rs.length co], .bool true]) (by simp [results, Tryz.results25, go_sem, *]) rfl (TabBool.of hf.out ?_ ?_)
          · refine OwnR.down (lo := w1.heap.size) (OwnR.wide (hi := w3.heap.size) ?_ (by simp)) (by omega)
            repeat refine OwnR.setOff ?_ (by omega)
            exact HO.out
          · repeat first | exact HF.out | (refine Below.setCell ?_ ?_ _; rotate_left; (simp; try omega))
        · have hno' : Hid (NoN ts nm (k + 1)) := hno.out.step HX.out he
          have qe := str_eq0 he
          clear he
          go_wp2_with fail
          refine ⟨⟨k + 1, by omega, by go_num, hno', kn1, by omega⟩, ?_⟩
          simp [intOf]
          omega
    · obtain rfl : k = n := by omega
      have hf : Hid (lookR ts nm = nilR) := lookR_none hno.out (by rw [HL.out]; exact Nat.le_refl _)
      obtain ⟨f0, f1, f2, f3, _⟩ := kn.fall
      have HF := Lib.hid kn.bel
      clear kn
      go_wp2_with fail
      refine bodyPost_ret (v := .tuple #[.agg #[.string { data := #[] }, .int .i64 0, .slice none 0 0], .bool false]) (by simp [results, Tryz.results25, go_sem, *]) rfl (TabBool.of hf.out (OwnR.nil _ _ _) ?_)
      repeat first | exact HF.out | (refine Below.setCell ?_ ?_ _; rotate_left; (simp; try omega))

end
end Go.Proofs.YtccnhocekgikiaaGreat
