/- Arguments that hold tables: from their reading to RdT. Of no program but for the types' numbers. -/
import Derived.Test.YtmojjbhjjhdpaaaDoorOpen
import Derived.Test.YtmojjbhjjhdpaaaDoorTb
import Derived.Lib.SmallJoins
namespace Go.Proofs.YtmojjbhjjhdpaaaDoor
open Go.RowKit Go.Deep Go.ChangeShapes Go.WideShapes Go.Joins

section
variable {H : Type} {enc : TypeId × Value → H} {P : Program} {w : World} {base : Nat} {spare : Nat → Bool} {held : Bool}
theorem array1 {α : Type} {cs : Array α} (h : cs.size = 1) : ∃ c0, cs = #[c0] := by
  obtain ⟨l⟩ := cs
  match l, h with
  | [c0], _ => exact ⟨c0, rfl⟩
/-- A struct of one one-cell field, by value, opened. -/
theorem open_agg1 {r : Reach} {b0 : Nat} {t : TypeId} {f0 : Field} {v : Value} {d : DataW H} {p : List MemPlace} (hs : P.underlying t = some (.struct #[f0])) (hone : oneCellFields P #[f0] = true) (hC : P.cellsOf t = 1)
    (hv : Value.okWide P w r b0 t v) (h : DataW.Trod enc P w base spare held t v d p) :
    ∃ (v0 : Value) (y0 : DataW H × List MemPlace) (n : Nat), v = .agg #[v0] ∧ d = .agg [y0.1] ∧ p = y0.2 ∧ DataW.trod enc P w base spare held n f0.type [v0] = some y0 := by
  obtain ⟨cs, rfl, hsz⟩ := okWide_struct hs hv
  obtain ⟨c0, rfl⟩ := array1 (hsz.trans hC)
  obtain ⟨fuel, hf⟩ := h
  obtain ⟨xs, n, _, hx, _, hlen, hff⟩ := DataW.trod_struct hs hf
  obtain ⟨o0, k0⟩ := hone_of hone 0 f0 rfl
  match xs, hlen with
  | [y0], _ =>
    simp only [Prod.mk.injEq] at hx
    exact ⟨c0, y0, n, rfl, by simpa using hx.1, by simpa using hx.2, by simpa [Value.cells, o0, k0] using hff 0 f0 rfl⟩
/-- Three cells of a struct of three one-cell fields. -/
theorem trod_three {t : TypeId} {f0 f1 f2 : Field} {fuel : Nat} {c0 c1 c2 : Value} {x : DataW H × List MemPlace} (hs : P.underlying t = some (.struct #[f0, f1, f2])) (hone : oneCellFields P #[f0, f1, f2] = true)
    (h : DataW.trod enc P w base spare held fuel t [c0, c1, c2] = some x) :
    ∃ (y0 y1 y2 : DataW H × List MemPlace) (n : Nat), DataW.trod enc P w base spare held n f0.type [c0] = some y0 ∧ DataW.trod enc P w base spare held n f1.type [c1] = some y1 ∧ DataW.trod enc P w base spare held n f2.type [c2] = some y2 := by
  obtain ⟨y0, y1, y2, n, _, _, h0, h1, h2⟩ := trod_struct3 hs h
  obtain ⟨o0, k0⟩ := hone_of hone 0 f0 rfl
  obtain ⟨o1, k1⟩ := hone_of hone 1 f1 rfl
  obtain ⟨o2, k2⟩ := hone_of hone 2 f2 rfl
  exact ⟨y0, y1, y2, n, by simpa [o0, k0] using h0, by simpa [o1, k1] using h1, by simpa [o2, k2] using h2⟩
end

section
variable {H : Type} {enc : TypeId × Value → H} {W : World}
theorem open_rTab {n : Nat} {cs' : List Value} {y : DataW H × List MemPlace} (hl : cs'.length = 3) (h : DataW.trod enc Tryd.prog W 0 (fun _ => true) true n 38 cs' = some y) : ∃ t, RTab W W.heap.size cs' t := by
  match cs', hl with
  | [c0, c1, c2], _ =>
    obtain ⟨y0, y1, y2, m, h0, h1, h2⟩ := trod_three Tryd.underlying38 (by kernel_rfl) h
    obtain ⟨s, e0, _, hs⟩ := DataW.trod_string Tryd.underlying9 h0
    obtain ⟨k, e1, _, _⟩ := DataW.trod_int Tryd.underlying3 h1
    obtain ⟨A, len, cap, rs, e2, hm, hr⟩ := open_rows h2
    simp at e0 e1 e2
    subst e0 e1 e2
    have hlen := hr.1
    subst hlen
    exact ⟨⟨s, k, rs⟩, A, cap, rfl, hr, hm, hs⟩
theorem open_tabs {fuel : Nat} {cs : List Value} {x : DataW H × List MemPlace} (h : DataW.trod enc Tryd.prog W 0 (fun _ => true) true fuel 48 cs = some x) :
    ∃ (A : Option Addr) (len cap : Nat) (ts : List Tab), cs = [.slice A len cap] ∧ len ≤ maxLen ∧ RdT W W.heap.size A len ts :=
  open_rdSl Tryd.underlying48 (by kernel_rfl) (by omega) (fun _ _ _ hl ht => open_rTab hl ht) h
end
end Go.Proofs.YtmojjbhjjhdpaaaDoor
