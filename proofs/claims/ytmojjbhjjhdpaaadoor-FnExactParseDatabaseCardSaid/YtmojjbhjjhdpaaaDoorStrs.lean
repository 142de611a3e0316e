/- Slices of strings: words for memory. Of no program but for the types' numbers. -/
import Derived.Test.YtmojjbhjjhdpaaaDoorInts
import Derived.Deep.AppendLies
namespace Go.Proofs.YtmojjbhjjhdpaaaDoor
open Go.RowKit Go.Deep

theorem info_str : (Tryd.prog.info? 9).map (fun i => (i.zero, i.size, i.bytes)) = some (some (.string ByteArray.empty), 1, 16) := by kernel_rfl
/-- New strings, behind a name. -/
def StrsNew (ws : List ByteArray) (w : World) (e : Ending) (w' : World) : Prop :=
  ∃ (A : Option Addr) (c : Nat), e = .returned (.slice A ws.length c) ∧ w'.ownsRow w.heap.size 9 1 (.slice A ws.length c) ws.length (ws.map Value.string) ∧ Below w.heap.size w w'
theorem StrsNew.of {R ws : List ByteArray} {w w' : World} {A : Option Addr} {n c : Nat} (hR : R = ws) (h : w'.ownsRow w.heap.size 9 1 (.slice A n c) ws.length (ws.map Value.string)) (hb : Below w.heap.size w w') :
    StrsNew R w (.returned (.slice A n c)) w' := by
  subst hR
  have hn : R.length = n := by obtain ⟨A1, c1, h1⟩ := own_form h; injection h1 with _ h2 _; exact h2.symm
  subst hn
  exact ⟨A, c, rfl, h, hb⟩
/-- Element k of a row of strings. -/
theorem strs_at {w : World} {lo : Nat} {A : Option Addr} {n c k : Nat} {ws : List ByteArray} {x : ByteArray} (h : w.ownsRow lo 9 1 (.slice A n c) n (ws.map Value.string)) (hn : ws.length = n) (hx : ws[k]? = some x) :
    ∃ g, A = some ⟨g, 0, none⟩ ∧ lo ≤ g ∧ g < w.heap.size ∧ w.cell? ⟨g, k, none⟩ = some (.string x) := by
  have hk : k < ws.length := (List.getElem?_eq_some_iff.1 hx).1
  rcases h.2 with ⟨_, h0⟩ | ⟨g, cap, cur, hv, hlo, hg, hnc, hcm, hsz, ht⟩
  · omega
  · injection hv with hA _ _
    refine ⟨g, hA, hlo, (Array.getElem?_eq_some_iff.1 hg).1, ?_⟩
    rw [cell_of_row w g k cur _ (0, 0) hg]
    have h1 : (cur.toList.take (n * 1))[k]? = (ws.map Value.string)[k]? := by rw [ht]
    rw [List.getElem?_take, if_pos (by omega), List.getElem?_map, hx] at h1
    simpa using h1
end Go.Proofs.YtmojjbhjjhdpaaaDoor
