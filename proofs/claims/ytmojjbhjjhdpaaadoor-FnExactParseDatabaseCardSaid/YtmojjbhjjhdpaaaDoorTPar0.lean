/- ParseTable: the plain law; what stands behind the making of a boxed table whose order is drawn. No condition. -/
import Derived.Test.YtmojjbhjjhdpaaaDoorRowsOf
import Derived.Test.YtmojjbhjjhdpaaaDoorTFmtP
import Derived.Test.YtmojjbhjjhdpaaaDoorTabR
import Derived.Test.YtmojjbhjjhdpaaaDoorBox3
namespace Go.Proofs.YtmojjbhjjhdpaaaDoor
open Go.RowKit Go.Deep

def nmT (s : ByteArray) : ByteArray := s.extract 0 1
def arT (s : ByteArray) : Int := match s.data.toList with | _ :: b :: _ => (b.toNat : Int) - 48 | _ => 0
theorem arT_eq {s : ByteArray} (h : 1 < s.size) : arT s = (s[1].toNat : Int) - 48 := by
  obtain ⟨⟨l⟩⟩ := s
  match l, h with
  | _ :: b :: _, _ => rfl
/-- The rows of the words, as the reference reads them. -/
def rowsS (t : ByteArray) : List (List Int) := if t.size = 0 then [] else (cutL 32 t.data.toList).map ploc
theorem rowsS_nil {s : ByteArray} (h : s.size = 0) : rowsS s = [] := by rw [rowsS, if_pos h]
theorem rowsS_cut {s : ByteArray} (h : ¬ s.size = 0) : rowsS s = (cutB 32 s).map fun b => ploc b.data.toList := by
  rw [rowsS, if_neg h, cutB, List.map_map]
  rfl
theorem rowsS_len (t : ByteArray) : (rowsS t).length ≤ t.size + 1 := by
  unfold rowsS
  split
  · simp
  · rw [List.length_map]
    have := cutL_len 32 t.data.toList
    simpa using this
theorem rowsI_len (t : ByteArray) : (rowsI t).length ≤ t.size + 1 := by
  unfold rowsI
  split
  · simp
  · rw [List.length_map]
    have := cutL_len 32 t.data.toList
    simpa using this
theorem dig_of_ploc {p : List UInt8} (h : ∀ x ∈ ploc p, 0 ≤ x ∧ x ≤ 9) : p.all isDig = true := by
  rw [List.all_eq_true]
  intro b hb
  have := h ((b.toNat : Int) - 48) (List.mem_map.2 ⟨b, hb, rfl⟩)
  exact inB_true (by omega) (by omega)
theorem rows_alike {nm : ByteArray} {ar : Int} {t : ByteArray} (h : validT nm ar (rowsI t) = true ∨ validT nm ar (rowsS t) = true) : rowsI t = rowsS t := by
  by_cases h0 : t.size = 0
  · rw [rowsI_nil h0, rowsS_nil h0]
  · rw [rowsI_cut h0] at h ⊢
    rw [rowsS, if_neg h0] at h ⊢
    have key : ∀ p ∈ cutL 32 t.data.toList, p.all isDig = true := by
      rcases h with h | h
      · have hv := validT_vt h
        intro p hp
        have h1 := (hv.row (digR p).1 (List.mem_map.2 ⟨p, hp, rfl⟩)).1
        have h2 := hv.ar1
        unfold digR at h1
        by_cases hd : p.all isDig = true
        · exact hd
        · rw [if_neg hd] at h1
          simp at h1
          omega
      · have hv := validT_vt h
        intro p hp
        exact dig_of_ploc (hv.row (ploc p) (List.mem_map.2 ⟨p, hp, rfl⟩)).2
    refine List.map_congr_left fun p hp => ?_
    rw [digR, if_pos (key p hp)]
/-- What a text reads as. -/
def parT (s : ByteArray) : TabR := if 3 ≤ s.size ∧ fmtT (nmT s) (arT s) (rowsS (s.extract 3 s.size)) = s then ⟨nmT s, arT s, rowsS (s.extract 3 s.size), true⟩ else ⟨⟨#[]⟩, 0, [], false⟩
theorem parT_no {s : ByteArray} (h : s.size < 3) : parT s = ⟨⟨#[]⟩, 0, [], false⟩ := by rw [parT, if_neg (by omega)]
theorem parT_yes {s : ByteArray} (h : 3 ≤ s.size) (hf : fmtT (nmT s) (arT s) (rowsS (s.extract 3 s.size)) = s) : parT s = ⟨nmT s, arT s, rowsS (s.extract 3 s.size), true⟩ := by rw [parT, if_pos ⟨h, hf⟩]
theorem parT_not {s : ByteArray} (hf : ¬ fmtT (nmT s) (arT s) (rowsS (s.extract 3 s.size)) = s) : parT s = ⟨⟨#[]⟩, 0, [], false⟩ := by rw [parT, if_neg fun h => hf h.2]
theorem fmtT_valid {nm : ByteArray} {ar : Int} {rs : List (List Int)} {s : ByteArray} (h : fmtT nm ar rs = s) (h3 : 3 ≤ s.size) : validT nm ar rs = true := by
  unfold fmtT at h
  split at h
  · assumption
  · subst h; simp [ByteArray.size] at h3
theorem tI_size1 {ar : Int} (h1 : 1 ≤ ar) (h3 : ar ≤ 3) : (tI ar).size ≤ 1 := by
  obtain ⟨N, rfl⟩ := Int.eq_ofNat_of_zero_le (show 0 ≤ ar by omega)
  unfold tI
  rw [fmtI_pos]
  exact decD_len 0 N (by omega)
theorem fmtT_size {nm : ByteArray} {ar : Int} {rs : List (List Int)} (h : validT nm ar rs = true) : (fmtT nm ar rs).size ≤ 35 := by
  have hv := validT_vt h
  rw [fmtT, if_pos h, bsize_append, bsize_append, bsize_append]
  have h1 := tI_size1 hv.ar1 hv.ar3
  have h2 := rowsL_len (rs := rs) fun r hr => by have := (hv.row r hr).1; have := hv.ar3; omega
  have h3 : (⟨(rowsL rs).toArray⟩ : ByteArray).size = (rowsL rs).length := rfl
  have h4 : (⟨#[58]⟩ : ByteArray).size = 1 := rfl
  have := hv.nm1
  have := hv.len
  omega
theorem parT_short {s : ByteArray} (h3 : 3 ≤ s.size) (hf : fmtT (nmT s) (arT s) (rowsS (s.extract 3 s.size)) = s) : s.size ≤ 35 := by
  have := fmtT_size (fmtT_valid hf h3)
  rw [hf] at this
  exact this
/-- The program's rows and the reference's say the same. -/
theorem fmtT_rows {s : ByteArray} (h3 : 3 ≤ s.size) : (fmtT (nmT s) (arT s) (rowsI (s.extract 3 s.size)) = s → rowsI (s.extract 3 s.size) = rowsS (s.extract 3 s.size)) ∧ (fmtT (nmT s) (arT s) (rowsS (s.extract 3 s.size)) = s → rowsI (s.extract 3 s.size) = rowsS (s.extract 3 s.size)) :=
  ⟨fun h => rows_alike (.inl (fmtT_valid h h3)), fun h => rows_alike (.inr (fmtT_valid h h3))⟩
theorem parT_small (s : ByteArray) : (parT s).rs.length ≤ 1048576 ∧ sumL (parT s).rs ≤ 4294967296 := by
  unfold parT
  split
  · rename_i h
    have hv := validT_vt (fmtT_valid h.2 h.1)
    refine ⟨by have := hv.len; show (rowsS _).length ≤ _; omega, ?_⟩
    have key : ∀ l : List (List Int), (∀ r ∈ l, r.length ≤ 3) → sumL l ≤ 3 * l.length := by
      intro l
      induction l with
      | nil => intro _; simp [sumL]
      | cons a l ih =>
        intro h
        have h1 := ih fun r hr => h r (by simp [hr])
        have h2 := h a (by simp)
        simp only [sumL, List.map_cons, List.sum_cons, List.length_cons] at h1 ⊢
        omega
    have h1 := key (rowsS (s.extract 3 s.size)) fun r hr => by have := (hv.row r hr).1; have := hv.ar3; omega
    have h2 := hv.len
    show sumL (rowsS _) ≤ _
    omega
  · simp [sumL]

/-- Behind the world c: p is a new box that holds a table of the call's own. -/
def CutTb (L : Nat) (c : World) (nm : ByteArray) (ar : Int) (rs : List (List Int)) (p : Value) (wx : World) : Prop :=
  ∃ (A : Option Addr) (cc B lo hi : Nat), p = .pointer (some ⟨B, 0, none⟩) ∧ (wx.cell? ⟨B, 0, none⟩ = some (.string nm) ∧ wx.cell? ⟨B, 1, none⟩ = some (.int .i64 ar) ∧ wx.cell? ⟨B, 2, none⟩ = some (.slice A rs.length cc)) ∧
    OwnR wx lo hi (.slice A rs.length cc) rs ∧ hi ≤ wx.heap.size ∧ B < wx.heap.size ∧ c.heap.size ≤ B ∧ L ≤ lo ∧ Below c.heap.size c wx
/-- The box is made last. -/
theorem CutTb.last {L : Nat} {c w1 : World} {nm : ByteArray} {ar : Int} {rs : List (List Int)} {A : Option Addr} {cc lo hi : Nat} (b1 : Below c.heap.size c w1) (ow : OwnR w1 lo hi (.slice A rs.length cc) rs) (hhi : hi ≤ w1.heap.size) (hL : L ≤ lo) :
    CutTb L c nm ar rs (.pointer (some ⟨w1.heap.size, 0, none⟩)) (w1.alloc (.cells #[.string nm, .int .i64 ar, .slice A rs.length cc] 41)) :=
  ⟨A, cc, w1.heap.size, lo, hi, rfl, ⟨by simp [go_sem], by simp [go_sem], by simp [go_sem]⟩, ow.alloc _, by simp; omega, by simp, b1.size, hL, b1.alloc b1.size _⟩
/-- The box is made first, behind the draw. -/
theorem CutTb.first {L : Nat} {c w1 : World} {nm : ByteArray} {ar : Int} {rs : List (List Int)} {A : Option Addr} {cc : Nat} {x y z : Value} {t : TypeId} (b1 : Below (c.alloc (.cells #[x, y, z] t)).drew.heap.size (c.alloc (.cells #[x, y, z] t)).drew w1)
    (ow : OwnR w1 (c.alloc (.cells #[x, y, z] t)).drew.heap.size w1.heap.size (.slice A rs.length cc) rs) (hL : L ≤ c.heap.size) :
    CutTb L c nm ar rs (.pointer (some ⟨c.heap.size, 0, none⟩)) (((w1.setCell ⟨c.heap.size, 0, none⟩ (.string nm)).setCell ⟨c.heap.size, 1, none⟩ (.int .i64 ar)).setCell ⟨c.heap.size, 2, none⟩ (.slice A rs.length cc)) := by
  have hX : (c.alloc (.cells #[x, y, z] t)).drew.heap.size = c.heap.size + 1 := by show (c.alloc _).heap.size = _; simp
  have hs := b1.size
  rw [hX] at hs ow
  have e : ∀ i, (i < 3) → ∃ v, w1.cell? ⟨c.heap.size, i, none⟩ = some v := fun i hi => by
    have := (b1.cell (p := ⟨c.heap.size, i, none⟩) (by rw [hX]; exact Nat.lt_succ_self _))
    rcases i with _ | _ | _ | i
    · exact ⟨x, this.trans (by simp [go_sem])⟩
    · exact ⟨y, this.trans (by simp [go_sem])⟩
    · exact ⟨z, this.trans (by simp [go_sem])⟩
    · omega
  obtain ⟨v0, e0⟩ := e 0 (by omega)
  obtain ⟨v1, e1⟩ := e 1 (by omega)
  obtain ⟨v2, e2⟩ := e 2 (by omega)
  refine ⟨A, cc, c.heap.size, c.heap.size + 1, w1.heap.size, rfl, ⟨?_, ?_, ?_⟩, ((ow.setOff (.inl (by omega))).setOff (.inl (by omega))).setOff (.inl (by omega)), by simp, by simp; omega, Nat.le_refl _, by omega, ?_⟩
  · simp [go_sem, e0]
  · simp [go_sem, e1]
  · simp [go_sem, e2]
  · have h1 : Below c.heap.size c w1 := (((Below.refl _ _).alloc (Nat.le_refl _) (.cells #[x, y, z] t)).drew).trans (b1.mono (by rw [hX]; omega))
    exact ((h1.setCell (Nat.le_refl _) _).setCell (Nat.le_refl _) _).setCell (Nat.le_refl _) _
theorem CutTb.drew {L : Nat} {c wx : World} {nm : ByteArray} {ar : Int} {rs : List (List Int)} {p : Value} (h : CutTb L c nm ar rs p wx) : CutTb L c nm ar rs p wx.drew := by
  obtain ⟨A, cc, B, lo, hi, h1, h2, h3, h4, h5, h6, h7, h8⟩ := h
  exact ⟨A, cc, B, lo, hi, h1, h2, h3.drewN 1, h4, h5, h6, h7, h8.drew⟩
theorem ext_le {s : ByteArray} {k : Nat} (hs : s.size ≤ 1048576) : (s.extract k s.size).size ≤ 1048576 := by rw [ByteArray.size_extract]; omega
end Go.Proofs.YtmojjbhjjhdpaaaDoor
