/- ParseUpdate: the plain law; spec.l4Values; what stands behind the making of a boxed update whose order is drawn. No condition but the size that the laws let in. -/
import Derived.Test.YtimlecfneibjlaaUFmt
import Derived.Deep.RegionHeld3
import Derived.Deep.DeepCutAuto
namespace Go.Proofs.Ytimlecfneibjlaa
open Go.RowKit Go.Deep

set_option maxRecDepth 100000 in
set_option maxHeartbeats 400000 in
theorem l4Values_any (s : ByteArray) (w : World) (hs : s.size ≤ 1048576) :
    Calls Try.prog 95 #[.string s] w (IntsNew (ploc s.data.toList) w) := by
  obtain ⟨i0, hi, hz0, hz1, hz2⟩ := info_parts info_int
  go_enter Try.func95, Try.ntmps95
  go_wp2
  go_loopw [3, 4] (fun v i wr => ∃ (k : Nat) (p : List Int), k ≤ s.size ∧ p.length ≤ k ∧ i = .int .i64 k ∧ wr.ownsRow w.heap.size 3 1 v p.length (p.map iv) ∧ Below w.heap.size w wr ∧ Hid (p = ploc (s.data.toList.take k))) (fun _ i _ => s.size - (intOf i).toNat)
  case atStart => exact ⟨0, [], by omega, by simp, rfl, own_empty w _ (Nat.le_refl _), (Below.refl _ _).alloc (Nat.le_refl _) _, rfl⟩
  case round =>
    obtain ⟨k, p, hk, hpk, rfl, hown, hbel, hinv⟩ := hrel
    have hsz := hbel.size
    by_cases hlt : k < s.size
    · obtain ⟨x, hx⟩ : ∃ x, s[k].toNat = x := ⟨_, rfl⟩
      have hx256 : x < 256 := by have := s[k].toNat_lt; omega
      have hst : Hid (p ++ [(x : Int) - 48] = ploc (s.data.toList.take (k + 1))) := by
        show _ = _
        rw [take_snoc s k hlt, ploc_snoc, ← hinv.out, hx]
      go_wp2_with (at_builtin; refine wpList_append_lies _ rfl _ _ _ rfl w.heap.size 3 i0 _ 1 8 Try.underlying59 hi hz0 hz1 hz2 rfl (by omega) _ p.length _ rfl (hown.alloc _) ⟨wr.heap.size, 0, none⟩ 1 1 [.int .i64 ((x : Int) - 48)] rfl rfl (World.news_of_block (cs := #[.int .i64 ((x : Int) - 48)]) (t := 3) (fr := (0, 0)) (heap_alloc_new wr _)) (by simp [Value.oneCell']) (by omega) (by unfold maxLen; omega) (by omega) (by simp; omega) (wr.heap.size + 1) (by simp) ?_; intro g cap w1 hown1 hgrow _ _)
      have hown2 := own_snoc hown1
      clear hown1
      refine ⟨⟨k + 1, p ++ [(x : Int) - 48], by omega, by simp; omega, by go_num, by simpa using hown2, (hbel.alloc (by omega) _).grown hgrow (by simp; omega) (fun j hj => (hown.lt j hj).1), hst⟩, ?_⟩
      simp [intOf]
      omega
    · obtain rfl : k = s.size := by omega
      obtain ⟨A0, c0, rfl⟩ := own_form hown
      have hf : Hid (ploc s.data.toList = p) := by
        show _ = p
        have h1 := hinv.out
        rw [take_all] at h1
        exact h1.symm
      go_wp2
      go_ret
      exact IntsNew.of hf.out (ownI_of hown) hbel

/-- The first byte is a plus. -/
def insU (s : ByteArray) : Bool := match s.data.toList with | b :: _ => ((b.toNat : Int) == 43) | [] => false
theorem insU_eq {s : ByteArray} (h : 0 < s.size) : insU s = ((s[0].toNat : Int) == 43) := by
  have h1 : ∃ b l, s.data.toList = b :: l ∧ s[0] = b := by
    have hl : 0 < s.data.toList.length := by simpa using h
    have h2 : s.data.toList[0]'hl = s[0] := rfl
    cases hd : s.data.toList with
    | nil => rw [hd] at hl; simp at hl
    | cons b l => exact ⟨b, l, rfl, by rw [← h2]; simp [hd]⟩
  obtain ⟨b, l, h2, h3⟩ := h1
  rw [insU, h2, h3]
def rowU (s : ByteArray) : List Int := ploc (s.extract 2 s.size).data.toList
/-- What a text reads as. -/
def parU (s : ByteArray) : (ByteArray × Bool × List Int) × Bool := if 3 ≤ s.size ∧ fmtU (s.extract 1 2) (insU s) (rowU s) = s then ((s.extract 1 2, insU s, rowU s), true) else ((⟨#[]⟩, false, []), false)
theorem fmtU_row {nm : ByteArray} {ins : Bool} {zs : List Int} {s : ByteArray} (h : fmtU nm ins zs = s) (h3 : 3 ≤ s.size) : okU nm zs = true := by
  unfold fmtU at h
  split at h
  · assumption
  · subst h; simp [ByteArray.size] at h3
theorem okU_row {nm : ByteArray} {zs : List Int} (h : okU nm zs = true) : zs.length ≤ 3 ∧ rowB zs zs.length = true := by
  simp [okU, inB] at h
  exact ⟨by omega, h.2.2⟩
theorem okU_nil (nm : ByteArray) : okU nm [] = false := by simp [okU, inB]
theorem parU_no {s : ByteArray} (h : s.size < 3) : parU s = ((⟨#[]⟩, false, []), false) := by rw [parU, if_neg (by omega)]
theorem parU_yes {s : ByteArray} (h : 3 ≤ s.size) (hf : fmtU (s.extract 1 2) (insU s) (rowU s) = s) : parU s = ((s.extract 1 2, insU s, rowU s), true) := by rw [parU, if_pos ⟨h, hf⟩]
theorem parU_not {s : ByteArray} (hf : ¬ fmtU (s.extract 1 2) (insU s) (rowU s) = s) : parU s = ((⟨#[]⟩, false, []), false) := by rw [parU, if_neg fun h => hf h.2]
theorem ploc_rowB {l : List UInt8} {m : Int} (h : rowB (ploc l) m = true) : l.all isDig = true := by
  rw [List.all_eq_true]
  intro b hb
  have := rowB_dig h ((b.toNat : Int) - 48) (List.mem_map.2 ⟨b, hb, rfl⟩)
  exact inB_true (by omega) (by omega)
theorem ploc_len (l : List UInt8) : (ploc l).length = l.length := by simp [ploc]
theorem rowU_len {s : ByteArray} (h : 2 ≤ s.size) : (rowU s).length = s.size - 2 := by
  rw [rowU, ploc_len]
  have : (s.extract 2 s.size).data.toList.length = (s.extract 2 s.size).size := by simp
  rw [this, ByteArray.size_extract]
  omega
/-- A text that reads is short. -/
theorem parU_short {s : ByteArray} (h3 : 3 ≤ s.size) (hf : fmtU (s.extract 1 2) (insU s) (rowU s) = s) : s.size ≤ 5 := by
  have := (okU_row (fmtU_row hf h3)).1
  have h2 := rowU_len (s := s) (by omega)
  omega
/-- The program's digits and the reference's bytes say the same. -/
theorem fmtU_digR {s : ByteArray} (h3 : 3 ≤ s.size) : ((fmtU (s.extract 1 2) (insU s) (digR (s.extract 2 s.size).data.toList).1 = s) ↔ (fmtU (s.extract 1 2) (insU s) (rowU s) = s)) ∧
    (fmtU (s.extract 1 2) (insU s) (rowU s) = s → (digR (s.extract 2 s.size).data.toList).1 = rowU s) := by
  by_cases hd : (s.extract 2 s.size).data.toList.all isDig = true
  · have : (digR (s.extract 2 s.size).data.toList).1 = rowU s := by rw [digR, if_pos hd, rowU]
    rw [this]
    exact ⟨Iff.rfl, fun _ => rfl⟩
  · have h0 : (digR (s.extract 2 s.size).data.toList).1 = [] := by rw [digR, if_neg hd]
    have hno : ¬ fmtU (s.extract 1 2) (insU s) (rowU s) = s := fun h => hd (ploc_rowB (okU_row (fmtU_row h h3)).2)
    rw [h0]
    exact ⟨⟨fun h => absurd (fmtU_row h h3) (by rw [okU_nil]; simp), fun h => absurd h hno⟩, fun h => absurd h hno⟩
theorem parU_small {s : ByteArray} : (parU s).1.2.2.length ≤ 1048576 := by
  unfold parU
  split
  · rename_i h
    have := (okU_row (fmtU_row h.2 h.1)).1
    show (rowU s).length ≤ _
    omega
  · simp

/-- Behind the world c: p is a new box that holds an update of the call's own. -/
def CutU (L : Nat) (c : World) (nm : ByteArray) (ins : Bool) (zs : List Int) (p : Value) (wx : World) : Prop :=
  ∃ (A : Option Addr) (cc B lo hi : Nat), p = .pointer (some ⟨B, 0, none⟩) ∧ (wx.cell? ⟨B, 0, none⟩ = some (.string nm) ∧ wx.cell? ⟨B, 1, none⟩ = some (.bool ins) ∧ wx.cell? ⟨B, 2, none⟩ = some (.slice A zs.length cc)) ∧
    OwnI wx lo hi (.slice A zs.length cc) zs ∧ hi ≤ wx.heap.size ∧ B < wx.heap.size ∧ c.heap.size ≤ B ∧ L ≤ lo ∧ Below c.heap.size c wx
/-- The box is made last. -/
theorem CutU.last {L : Nat} {c w1 : World} {nm : ByteArray} {ins : Bool} {zs : List Int} {A : Option Addr} {cc lo hi : Nat} (b1 : Below c.heap.size c w1) (ow : OwnI w1 lo hi (.slice A zs.length cc) zs) (hhi : hi ≤ w1.heap.size) (hL : L ≤ lo) :
    CutU L c nm ins zs (.pointer (some ⟨w1.heap.size, 0, none⟩)) (w1.alloc (.cells #[.string nm, .bool ins, .slice A zs.length cc] 64)) :=
  ⟨A, cc, w1.heap.size, lo, hi, rfl, ⟨by simp [go_sem], by simp [go_sem], by simp [go_sem]⟩, ow.alloc _, by simp; omega, by simp, b1.size, hL, b1.alloc b1.size _⟩
/-- The box is made first, behind the draw. -/
theorem CutU.first {L : Nat} {c w1 : World} {nm : ByteArray} {ins : Bool} {zs : List Int} {A : Option Addr} {cc : Nat} {x y z : Value} {t : TypeId} (b1 : Below (c.alloc (.cells #[x, y, z] t)).drew.heap.size (c.alloc (.cells #[x, y, z] t)).drew w1)
    (ow : OwnI w1 (c.alloc (.cells #[x, y, z] t)).drew.heap.size w1.heap.size (.slice A zs.length cc) zs) (hL : L ≤ c.heap.size) :
    CutU L c nm ins zs (.pointer (some ⟨c.heap.size, 0, none⟩)) (((w1.setCell ⟨c.heap.size, 0, none⟩ (.string nm)).setCell ⟨c.heap.size, 1, none⟩ (.bool ins)).setCell ⟨c.heap.size, 2, none⟩ (.slice A zs.length cc)) := by
  have hX : (c.alloc (.cells #[x, y, z] t)).drew.heap.size = c.heap.size + 1 := by show (c.alloc _).heap.size = _; simp
  have hs := b1.size
  rw [hX] at hs ow
  have e : ∀ i, (i < 3) → ∃ v, w1.cell? ⟨c.heap.size, i, none⟩ = some v := fun i hi => by
    have := (b1.cell (p := ⟨c.heap.size, i, none⟩) (by rw [hX]; exact Nat.lt_succ_self _))
    rcases i with _ | _ | _ | i
    · exact ⟨x, this.trans (by simp [go_sem])⟩
    · exact ⟨y, this.trans (by simp [go_sem])⟩
    · exact ⟨z, this.trans (by simp [go_sem])⟩
    · omega
  obtain ⟨v0, e0⟩ := e 0 (by omega)
  obtain ⟨v1, e1⟩ := e 1 (by omega)
  obtain ⟨v2, e2⟩ := e 2 (by omega)
  refine ⟨A, cc, c.heap.size, c.heap.size + 1, w1.heap.size, rfl, ⟨?_, ?_, ?_⟩, ((ow.setOff (.inl (by omega))).setOff (.inl (by omega))).setOff (.inl (by omega)), by simp, by simp; omega, Nat.le_refl _, by omega, ?_⟩
  · simp [go_sem, e0]
  · simp [go_sem, e1]
  · simp [go_sem, e2]
  · have h1 : Below c.heap.size c w1 := (((Below.refl _ _).alloc (Nat.le_refl _) (.cells #[x, y, z] t)).drew).trans (b1.mono (by rw [hX]; omega))
    exact ((h1.setCell (Nat.le_refl _) _).setCell (Nat.le_refl _) _).setCell (Nat.le_refl _) _
theorem CutU.drew {L : Nat} {c wx : World} {nm : ByteArray} {ins : Bool} {zs : List Int} {p : Value} (h : CutU L c nm ins zs p wx) : CutU L c nm ins zs p wx.drew := by
  obtain ⟨A, cc, B, lo, hi, h1, h2, h3, h4, h5, h6, h7, h8⟩ := h
  exact ⟨A, cc, B, lo, hi, h1, h2, h3.below ((Below.refl wx.heap.size wx).drew) h4, h4, h5, h6, h7, h8.drew⟩
end Go.Proofs.Ytimlecfneibjlaa
