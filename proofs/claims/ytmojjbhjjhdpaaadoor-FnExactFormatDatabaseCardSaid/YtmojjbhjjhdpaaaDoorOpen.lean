/- Arguments that are slices of anything: from the row's reading to 'RdSl'. Of no program but for the types' numbers. -/
import Derived.Test.YtmojjbhjjhdpaaaDoorRow
import Derived.Deep.Slices
import Derived.ChangeSame
import Derived.OpenShut
import Derived.ProofKit
namespace Go.Proofs.YtmojjbhjjhdpaaaDoor
open Go.RowKit Go.Deep Go.ChangeShapes Go.WideShapes

theorem list_of_each {α : Type} {Q : Nat → α → Prop} : ∀ n : Nat, (∀ i, i < n → ∃ a, Q i a) → ∃ ls : List α, ls.length = n ∧ ∀ j a, ls[j]? = some a → Q j a
  | 0, _ => ⟨[], rfl, fun j a h => by simp at h⟩
  | n + 1, h => by
    obtain ⟨ls, h1, h2⟩ := list_of_each n fun i hi => h i (by omega)
    obtain ⟨a, ha⟩ := h n (by omega)
    refine ⟨ls ++ [a], by simp [h1], fun j b hb => ?_⟩
    rw [List.getElem?_append] at hb
    split at hb
    · exact h2 j b hb
    · rename_i hj
      have hj' : j < (ls ++ [a]).length := by
        rcases Nat.lt_or_ge j (ls ++ [a]).length with h3 | h3
        · exact h3
        · rw [List.getElem?_eq_none (by simp at h3 ⊢; omega)] at hb
          cases hb
      have : j = n := by simp at hj'; omega
      subst this
      rw [h1, Nat.sub_self] at hb
      simp at hb
      exact hb ▸ ha

section
variable {H : Type} {enc : TypeId × Value → H} {W : World}
theorem open_rdSl {α : Type} {R : World → Nat → List Value → α → Prop} {t e : TypeId} {size fuel : Nat} {cs : List Value} {x : DataW H × List MemPlace}
    (ht : Tryd.prog.underlying t = some (.slice e)) (hC : Tryd.prog.cellsOf e = size) (h0 : 0 < size)
    (hR : ∀ (n : Nat) (cs' : List Value) (y : DataW H × List MemPlace), cs'.length = size → DataW.trod enc Tryd.prog W 0 (fun _ => true) true n e cs' = some y → ∃ a, R W W.heap.size cs' a)
    (h : DataW.trod enc Tryd.prog W 0 (fun _ => true) true fuel t cs = some x) :
    ∃ (A : Option Addr) (len cap : Nat) (ls : List α), cs = [.slice A len cap] ∧ len ≤ maxLen ∧ RdSl size R W W.heap.size A len ls := by
  rcases open_slice ht h with ⟨hcs, _⟩ | ⟨a, len, cap, m, n, D, Pl, hcs, _, hl, hm, hmm, _, hi⟩
  · exact ⟨none, 0, 0, [], hcs, by unfold maxLen; omega, rfl, fun h => absurd h (by omega)⟩
  · simp only [if_true] at hmm
    subst hmm
    obtain ⟨b, off, spot⟩ := a
    obtain ⟨ls, h1, h2⟩ := list_of_each (α := α) (Q := fun i a' => ∃ cs' : List Value, cs'.length = size ∧ (∀ j y, cs'[j]? = some y → W.cell? (((⟨b, off, spot⟩ : Addr).add (i * size)).add j) = some y) ∧ R W W.heap.size cs' a') len fun i hil => by
      obtain ⟨cs', hc, htr⟩ := hi i (by omega)
      rw [hC] at hc
      obtain ⟨_, hcl, hat⟩ := World.cells?_some hc
      obtain ⟨a', ha'⟩ := hR n cs' _ hcl htr
      exact ⟨a', cs', hcl, fun j y hy => by rw [hat j (by rw [← hcl]; exact (List.getElem?_eq_some_iff.1 hy).1)]; exact hy, ha'⟩
    refine ⟨some ⟨b, off, spot⟩, len, m, ls, hcs, by omega, h1, fun hn => ?_⟩
    obtain ⟨cs0, hl0, hc0, _⟩ := h2 0 ls[0] (List.getElem?_eq_getElem (by omega))
    have hc := hc0 0 cs0[0] (List.getElem?_eq_getElem (by omega))
    have hspot : spot = none := by simpa [Addr.add] using World.cell?_spot hc
    subst hspot
    rw [addr_add, addr_add] at hc
    refine ⟨b, off, rfl, World.block_lt_of_cell? W _ hc, fun j a' ha' => ?_⟩
    obtain ⟨cs', k1, k2, k3⟩ := h2 j a' ha'
    exact ⟨cs', k1, fun i y hy => by
      have := k2 i y hy
      rwa [addr_add, addr_add, Nat.add_assoc] at this, k3⟩

/-- A slice of ints among the cells. -/
theorem open_rRow {n : Nat} {cs' : List Value} {y : DataW H × List MemPlace} (h : DataW.trod enc Tryd.prog W 0 (fun _ => true) true n 92 cs' = some y) : ∃ r, RRow W W.heap.size cs' r := by
  rcases open_ints Tryd.underlying92 Tryd.underlying3 (by kernel_rfl) h with ⟨hcs, _⟩ | ⟨x, l, c, zs, hcs, _, hl, hm, hz, _, hcell, hwz⟩
  · exact ⟨[], none, 0, hcs, ⟨rfl, fun h => absurd h (by simp)⟩, by unfold maxLen; simp⟩
  · have hr := (rdI_of_row (w := W) (a := some x) (len := l) (cap := c) (zs := zs) (.inr ⟨_, rfl, hl, hm, by simpa using hz, hcell, hwz⟩)).1
    have hlen := hr.1
    refine ⟨zs.take l, some x, c, by rw [hlen]; exact hcs, by rw [hlen]; exact hr, by omega⟩
/-- An argument of type [][]int. -/
theorem open_rows {fuel : Nat} {cs : List Value} {x : DataW H × List MemPlace} (h : DataW.trod enc Tryd.prog W 0 (fun _ => true) true fuel 36 cs = some x) :
    ∃ (A : Option Addr) (len cap : Nat) (rs : List (List Int)), cs = [.slice A len cap] ∧ len ≤ maxLen ∧ RdR W W.heap.size A len rs :=
  open_rdSl Tryd.underlying36 (by kernel_rfl) (by omega) (fun _ _ _ _ ht => open_rRow ht) h
end
end Go.Proofs.YtmojjbhjjhdpaaaDoor
