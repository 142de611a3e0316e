/- VariableName: both texts, and the law's walk. No condition. -/
import Derived.Test.YtpcjcjemfjhkcaaBase
namespace Go.Proofs.Ytpcjcjemfjhkcaa
open Go.RowKit
def vname (v : Int) : ByteArray := if 0 ≤ v ∧ v ≤ 3 then (⟨#[88, 89, 90, 85]⟩ : ByteArray).extract v.toNat (v.toNat + 1) else ⟨#[]⟩
theorem vname_no {v : Int} (h : ¬ (0 ≤ v ∧ v ≤ 3)) : vname v = ⟨#[]⟩ := by rw [vname, if_neg h]

theorem impl_VariableName_any (v : Int) (w : World) : Calls Try.prog 14 #[.int .i64 v] w fun e w' => e = .returned (.string (vname v)) ∧ w = w' := by
  by_cases h : 0 ≤ v ∧ v ≤ 3
  · have hc : v = 0 ∨ v = 1 ∨ v = 2 ∨ v = 3 := by omega
    rcases hc with rfl | rfl | rfl | rfl
    all_goals
      go_enter Try.func14, Try.ntmps14
      go_wp2
      go_ret
      exact ⟨rfl, rfl⟩
  · have hb := inB_false h
    have hn := Lib.hid (vname_no h)
    go_enter Try.func14, Try.ntmps14
    go_wp2_with fail
    refine (within_any _ _ _ _).mono ?_
    rintro e w' ⟨rfl, rfl⟩
    go_wp2_with fail
    go_ret
    exact ⟨by rw [hn.out] <;> rfl, rfl⟩

theorem spec_VariableName_any (v : Int) (w : World) : Calls Try.prog 13 #[.int .i64 v] w fun e w' => e = .returned (.string (vname v)) ∧ w = w' := by
  by_cases h : 0 ≤ v ∧ v ≤ 3
  · have hc : v = 0 ∨ v = 1 ∨ v = 2 ∨ v = 3 := by omega
    rcases hc with rfl | rfl | rfl | rfl
    all_goals
      go_enter Try.func13, Try.ntmps13
      go_wp2
      go_ret
      exact ⟨rfl, rfl⟩
  · have hb := inB_false h
    have hn := Lib.hid (vname_no h)
    go_enter Try.func13, Try.ntmps13
    go_wp2_with fail
    refine (l1In_any _ _ _ _).mono ?_
    rintro e w' ⟨rfl, rfl⟩
    go_wp2_with fail
    go_ret
    exact ⟨by rw [hn.out] <;> rfl, rfl⟩

theorem variableName_walk (v : Int) (w : World) (_hv : (Lit.int .i64 v).wf = true) : Calls Try.prog 5 #[.int .i64 v] w fun e w' => e = .returned (.bool true) ∧ Below w.heap.size w w' := by
  go_enter Try.func5, Try.ntmps5
  go_wp2_with fail
  refine (spec_VariableName_any _ _).mono ?_
  rintro e w1 ⟨rfl, rfl⟩
  go_wp2_with fail
  refine (impl_VariableName_any _ _).mono ?_
  rintro e w1 ⟨rfl, rfl⟩
  go_wp2_with fail
  go_ret
  exact ⟨rfl, Below.refl _ _⟩
end Go.Proofs.Ytpcjcjemfjhkcaa
