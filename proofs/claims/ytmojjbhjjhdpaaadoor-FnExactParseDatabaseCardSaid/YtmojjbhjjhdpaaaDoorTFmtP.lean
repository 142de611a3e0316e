/- The text of a table: plain laws. Of no program but for the types' numbers. -/
import Derived.Test.YtmojjbhjjhdpaaaDoorNumT
import Derived.Test.YtmojjbhjjhdpaaaDoorCutT
import Derived.Test.YtmojjbhjjhdpaaaDoorIsTab
import Derived.Test.YtmojjbhjjhdpaaaDoorDig
namespace Go.Proofs.YtmojjbhjjhdpaaaDoor
open Go.RowKit

/-- The rows' text. -/
def rowsL (rs : List (List Int)) : List UInt8 := Lib.join (rs.map dtext) [32]
/-- The text of a table. -/
def fmtT (nm : ByteArray) (ar : Int) (rs : List (List Int)) : ByteArray := if validT nm ar rs = true then ((nm ++ tI ar) ++ ⟨#[58]⟩) ++ ⟨(rowsL rs).toArray⟩ else ⟨#[]⟩
theorem rowB_dig9 {zs : List Int} {m : Int} (h : rowB zs m = true) : ∀ x ∈ zs, 0 ≤ x ∧ x ≤ 9 := fun x hx => by
  unfold rowB at h
  simp [inB] at h
  exact h.1 x hx
theorem rowB_len {zs : List Int} {m : Int} (h : rowB zs m = true) : (zs.length : Int) = m := by
  unfold rowB at h
  simp at h
  exact h.2
theorem nameB_size {s : ByteArray} (h : nameB s = true) : s.size = 1 := by
  by_cases hs : s.size = 1
  · exact hs
  · rw [nameB_not hs] at h; cases h
structure VT (nm : ByteArray) (ar : Int) (rs : List (List Int)) : Prop where
  nm1 : nm.size = 1
  ar1 : 1 ≤ ar
  ar3 : ar ≤ 3
  len : rs.length ≤ 8
  row : ∀ r ∈ rs, (r.length : Int) = ar ∧ ∀ x ∈ r, 0 ≤ x ∧ x ≤ 9
theorem validT_vt {nm : ByteArray} {ar : Int} {rs : List (List Int)} (h : validT nm ar rs = true) : VT nm ar rs := by
  unfold validT at h
  simp only [Bool.and_eq_true, decide_eq_true_eq, List.all_eq_true] at h
  obtain ⟨h1, h2, h3, h4, _⟩ := h
  obtain ⟨a1, a2⟩ := inB_iff.1 h2
  exact ⟨nameB_size h1, a1, a2, h3, fun r hr => ⟨rowB_len (h4 r hr), rowB_dig9 (h4 r hr)⟩⟩
theorem join_snoc (c : UInt8) (x : List UInt8) : ∀ ws : List (List UInt8), ws ≠ [] → Lib.join (ws ++ [x]) [c] = Lib.join ws [c] ++ c :: x
  | [], h => absurd rfl h
  | [y], _ => by rw [List.singleton_append, join_c, Lib.join_one, Lib.join_one]
  | y :: z :: ws, _ => by
    rw [List.cons_append, List.cons_append, join_c, join_c, ← List.cons_append, join_snoc c x (z :: ws) (by simp)]
    simp
theorem rowsL_snoc {rs : List (List Int)} {k : Nat} {r : List Int} (h : rs[k]? = some r) (hk : 0 < k) : rowsL (rs.take (k + 1)) = rowsL (rs.take k) ++ 32 :: dtext r := by
  have hl := (List.getElem?_eq_some_iff.1 h).1
  unfold rowsL
  rw [List.take_add_one, h, List.map_append]
  exact join_snoc 32 _ _ (by
    intro e
    have h0 : ((rs.take k).map dtext).length = 0 := by rw [e]; rfl
    rw [List.length_map, List.length_take] at h0
    omega)
theorem rowsL_one {rs : List (List Int)} {r : List Int} (h : rs[0]? = some r) : rowsL (rs.take (0 + 1)) = dtext r := by
  unfold rowsL
  rw [List.take_add_one, h]
  exact Lib.join_one _ _
theorem dtext_len (zs : List Int) : (dtext zs).length = zs.length := by simp [dtext]
theorem bsize_append (a b : ByteArray) : (a ++ b).size = a.size + b.size := by
  show (a ++ b).data.size = _
  simp
theorem tI_size3 {ar : Int} (h1 : 1 ≤ ar) (h3 : ar ≤ 3) : (tI ar).size ≤ 11 := tI_size (by omega)

theorem rowsL_lens : ∀ l : List (List Int), (∀ r ∈ l, r.length ≤ 3) → Lib.lens (l.map dtext) ≤ 3 * l.length := by
  intro l
  induction l with
  | nil => intro _; simp [Lib.lens]
  | cons a l ih =>
    intro h
    have h1 := ih fun r hr => h r (by simp [hr])
    have h2 := h a (by simp)
    have h3 := dtext_len a
    simp only [Lib.lens, List.map_cons, List.sum_cons, List.length_cons] at h1 ⊢
    omega
theorem rowsL_len {rs : List (List Int)} (h : ∀ r ∈ rs, r.length ≤ 3) : (rowsL rs).length ≤ 4 * rs.length := by
  have h1 := join_len 32 (rs.map dtext)
  have h2 := rowsL_lens rs h
  rw [List.length_map] at h1
  unfold rowsL
  omega

/-- Head and k rows are written. -/
def TInv (H : ByteArray) (rs : List (List Int)) (k : Nat) (V : ByteArray) : Prop := V = H ++ ⟨(rowsL (rs.take k)).toArray⟩ ∧ V.size ≤ 13 + 4 * k
theorem TInv.start {H : ByteArray} {rs : List (List Int)} (h : H.size ≤ 13) : TInv H rs 0 H := by
  refine ⟨?_, by omega⟩
  show H = H ++ ⟨(Lib.join [] [32]).toArray⟩
  rw [Lib.join_nil]
  apply ByteArray.ext
  simp
theorem TInv.one {H V : ByteArray} {rs : List (List Int)} {r : List Int} (h : TInv H rs 0 V) (hr : rs[0]? = some r) (h3 : r.length ≤ 3) : TInv H rs (0 + 1) (V ++ ⟨(dtext r).toArray⟩) := by
  obtain ⟨rfl, hs⟩ := h
  refine ⟨?_, ?_⟩
  · rw [rowsL_one hr]
    show H ++ ⟨(Lib.join [] [32]).toArray⟩ ++ _ = _
    rw [Lib.join_nil]
    apply ByteArray.ext
    simp
  · rw [bsize_append]
    have : (⟨(dtext r).toArray⟩ : ByteArray).size = r.length := dtext_len r
    omega
theorem TInv.more {H V : ByteArray} {rs : List (List Int)} {r : List Int} {k : Nat} (h : TInv H rs k V) (hr : rs[k]? = some r) (hk : 0 < k) (h3 : r.length ≤ 3) : TInv H rs (k + 1) ((V ++ ⟨#[32]⟩) ++ ⟨(dtext r).toArray⟩) := by
  obtain ⟨rfl, hs⟩ := h
  refine ⟨?_, ?_⟩
  · rw [rowsL_snoc hr hk]
    apply ByteArray.ext
    simp
  · rw [bsize_append, bsize_append]
    have : (⟨(dtext r).toArray⟩ : ByteArray).size = r.length := dtext_len r
    have e1 : (⟨#[32]⟩ : ByteArray).size = 1 := rfl
    omega
end Go.Proofs.YtmojjbhjjhdpaaaDoor
