/- What a tied row's condition gives the walks: the library's two errors. -/
import Derived.Test.YtmojjbhjjhdpaaaDoorDoor
namespace Go.Proofs.YtmojjbhjjhdpaaaDoor
open Go.RowKit

theorem gSyn : Tryd.prog.globalNamed "strconv.ErrSyntax" = some 0 := by kernel_rfl
theorem gRan : Tryd.prog.globalNamed "strconv.ErrRange" = some 1 := by kernel_rfl
theorem tSyn : (Tryd.prog.globals[0]?).map (·.type) = some 82 := by kernel_rfl
theorem tRan : (Tryd.prog.globals[1]?).map (·.type) = some 82 := by kernel_rfl
theorem cellsES : Tryd.prog.cellsOf 171 = 1 := by kernel_rfl
theorem cellsStr : Tryd.prog.cellsOf 9 = 1 := by kernel_rfl
theorem starES : "*" ++ "errors.errorString" = "*errors.errorString" := by decide
theorem rowES (u : TypeId) (h : Tryd.prog.typeName? 3 u = some "*errors.errorString") : u = 169 :=
  typeName_ptr_named (nm := "errors.errorString") (by rw [starES]; kernel_rfl) (by kernel_rfl) (by decide) u (by rw [starES]; exact h)
theorem ev_of_laid {W : World} {rest : List (String × DataW Unit)} (h : laidMet Tryd.prog (("strconv.ErrRange", Rows.laid_strconv_ErrRange) :: ("strconv.ErrSyntax", Rows.laid_strconv_ErrSyntax) :: rest) W) : Ev W := by
  obtain ⟨a0, s0, hv0, -, -, -⟩ := laid_sentinel h gRan tRan Tryd.underlying82 rowES Tryd.underlying169 Tryd.underlying171 rfl rfl Tryd.underlying9 cellsES cellsStr
  obtain ⟨a1, s1, hv1, -, -, -⟩ := laid_sentinel (laidMet.tail h) gSyn tSyn Tryd.underlying82 rowES Tryd.underlying169 Tryd.underlying171 rfl rfl Tryd.underlying9 cellsES cellsStr
  exact ⟨⟨_, _, hv1⟩, _, _, hv0⟩
end Go.Proofs.YtmojjbhjjhdpaaaDoor
