/- Plain laws of valid databases. Of no program. -/
import Derived.Test.YtmojjbhjjhdpaaaDoorIsTabS
import Derived.Test.YtmojjbhjjhdpaaaDoorDbW
namespace Go.Proofs.YtmojjbhjjhdpaaaDoor
open Go.RowKit Go.Deep

/-- The model's order of names. -/
def ltN (a b : ByteArray) : Bool := Op.bytesLess a.toList b.toList
def ascN : List Tab → Bool
  | a :: b :: l => ltN a.nm b.nm && ascN (b :: l)
  | _ => true
def validTb (t : Tab) : Bool := validT t.nm t.ar t.rs
def validD (ts : List Tab) : Bool := (ts.all validTb && ascN ts) && decide (ts.length ≤ 6)
theorem ascN_iff : ∀ {ts : List Tab}, ascN ts = true ↔ ∀ j x y, ts[j]? = some x → ts[j + 1]? = some y → ltN x.nm y.nm = true
  | [] => by simp [ascN]
  | [a] => by simp [ascN]
  | a :: b :: l => by
    rw [ascN, Bool.and_eq_true, ascN_iff]
    constructor
    · rintro ⟨h1, h2⟩ j x y hx hy
      cases j with
      | zero =>
        simp at hx hy
        subst hx hy
        exact h1
      | succ j => exact h2 j x y (by simpa using hx) (by simpa using hy)
    · intro h
      exact ⟨h 0 a b rfl rfl, fun j x y hx hy => h (j + 1) x y (by simpa using hx) (by simpa using hy)⟩
/-- Ascending up to place k. -/
def AscN (ts : List Tab) (k : Nat) : Prop := ∀ j x y, j + 1 < k → ts[j]? = some x → ts[j + 1]? = some y → ltN x.nm y.nm = true
theorem AscN.one (ts : List Tab) {k : Nat} (h : k ≤ 1) : AscN ts k := fun j _ _ hj => by omega
theorem AscN.step {ts : List Tab} {j : Nat} {x y : Tab} (h : AscN ts (j + 1)) (hx : ts[j]? = some x) (hy : ts[j + 1]? = some y) (hl : ltN x.nm y.nm = true) : AscN ts (j + 1 + 1) := fun i a b hi ha hb => by
  rcases Nat.lt_or_ge (i + 1) (j + 1) with h1 | h1
  · exact h i a b h1 ha hb
  · obtain rfl : i = j := by omega
    rw [hx] at ha
    rw [hy] at hb
    injection ha with ha
    injection hb with hb
    subst ha hb
    exact hl
theorem AscN.done {ts : List Tab} {k : Nat} (h : AscN ts k) (hk : ts.length ≤ k) : ascN ts = true := ascN_iff.2 fun j x y hx hy => h j x y (by have := (List.getElem?_eq_some_iff.1 hy).1; omega) hx hy
theorem ascN_no {ts : List Tab} {j : Nat} {x y : Tab} (hx : ts[j]? = some x) (hy : ts[j + 1]? = some y) (hl : ltN x.nm y.nm = false) : ascN ts = false := by
  rw [← Bool.not_eq_true]
  intro h
  rw [ascN_iff.1 h j x y hx hy] at hl
  cases hl
theorem validD_no {ts : List Tab} {k : Nat} {t : Tab} (h : ts[k]? = some t) (hv : validTb t = false) : validD ts = false := by
  have : ts.all validTb = false := by
    rw [← Bool.not_eq_true, List.all_eq_true]
    intro hall
    rw [hall t (List.mem_of_getElem? h)] at hv
    cases hv
  rw [validD, this]
  rfl
theorem validD_no2 {ts : List Tab} {j : Nat} {x y : Tab} (hx : ts[j]? = some x) (hy : ts[j + 1]? = some y) (hl : ltN x.nm y.nm = false) : validD ts = false := by
  rw [validD, ascN_no hx hy hl, Bool.and_false]
  rfl
theorem validD_end {ts : List Tab} {k : Nat} (h1 : (ts.take k).all validTb = true) (h2 : AscN ts k) (hk : ts.length ≤ k) : validD ts = decide (ts.length ≤ 6) := by
  rw [List.take_of_length_le hk] at h1
  rw [validD, h1, h2.done hk]
  rfl
theorem tabs_take {ts : List Tab} {k : Nat} {t : Tab} (h : (ts.take k).all validTb = true) (hx : ts[k]? = some t) (hv : validTb t = true) : (ts.take (k + 1)).all validTb = true := by
  rw [List.take_add_one, hx, List.all_append, h]
  simp [hv]
end Go.Proofs.YtmojjbhjjhdpaaaDoor
