/- spec.l4Cut: a text cut at a byte. No condition but the size that the laws let in. -/
import Derived.Test.YtmojjbhjjhdpaaaDoorStrs
import Derived.Test.YtmojjbhjjhdpaaaDoorCutT
import Derived.Lib.IndexBytes
namespace Go.Proofs.YtmojjbhjjhdpaaaDoor
open Go.RowKit Go.Deep

def cutB (c : UInt8) (s : ByteArray) : List ByteArray := (cutL c s.data.toList).map fun p => ⟨p.toArray⟩
theorem cutB_len (c : UInt8) (s : ByteArray) : (cutB c s).length ≤ s.size + 1 := by
  unfold cutB
  rw [List.length_map]
  have := cutL_len c s.data.toList
  simpa using this
theorem cutB_mem {c : UInt8} {s x : ByteArray} (h : x ∈ cutB c s) : x.size ≤ s.size := by
  unfold cutB at h
  obtain ⟨p, hp, rfl⟩ := List.mem_map.1 h
  have := (cutL_pieces c _ s.data.toList (Nat.le_refl _) p hp).2
  have h1 : (⟨p.toArray⟩ : ByteArray).size = p.length := rfl
  have h2 : s.data.toList.length = s.size := by simp
  omega
/-- From place f to place k no byte c; the pieces p are done. -/
def CInv (c : UInt8) (s : ByteArray) (f k : Nat) (p : List ByteArray) : Prop :=
  cutB c s = p ++ (cutL c (s.data.toList.drop f)).map (fun q => ⟨q.toArray⟩) ∧ ∀ b ∈ (s.data.toList.drop f).take (k - f), b ≠ c
theorem CInv.start (c : UInt8) (s : ByteArray) : CInv c s 0 0 [] := ⟨by simp [cutB], by simp⟩
theorem drop_split {s : ByteArray} {f k : Nat} (hk : k < s.size) (hf : f ≤ k) : s.data.toList.drop f = (s.data.toList.drop f).take (k - f) ++ s[k] :: s.data.toList.drop (k + 1) := by
  have hl : k < s.data.toList.length := by simpa using hk
  have h1 : s.data.toList[k] = s[k] := rfl
  have h2 := List.take_append_drop (k - f) (s.data.toList.drop f)
  rw [List.drop_drop, show f + (k - f) = k by omega, List.drop_eq_getElem_cons hl, h1] at h2
  exact h2.symm
theorem CInv.cut {c : UInt8} {s : ByteArray} {f k : Nat} {p : List ByteArray} (h : CInv c s f k p) (hk : k < s.size) (hf : f ≤ k) (hc : s[k] = c) : CInv c s (k + 1) (k + 1) (p ++ [s.extract f k]) := by
  refine ⟨?_, by simp⟩
  rw [h.1, drop_split hk hf, hc, cutL_step c _ _ h.2, List.append_assoc, Lib.extract_eq]
  rfl
theorem CInv.go {c : UInt8} {s : ByteArray} {f k : Nat} {p : List ByteArray} (h : CInv c s f k p) (hk : k < s.size) (hf : f ≤ k) (hc : ¬ s[k] = c) : CInv c s f (k + 1) p := by
  refine ⟨h.1, fun b hb => ?_⟩
  have hl : k - f < (s.data.toList.drop f).length := by rw [List.length_drop]; simp; omega
  rw [show k + 1 - f = (k - f) + 1 by omega, List.take_succ_eq_append_getElem hl, List.mem_append, List.mem_singleton] at hb
  rcases hb with hb | rfl
  · exact h.2 b hb
  · rw [List.getElem_drop]
    have : s.data.toList[f + (k - f)]'(by simp; omega) = s[k] := by
      have e : f + (k - f) = k := by omega
      simp only [e]
      rfl
    rw [this]
    exact hc
theorem CInv.fin {c : UInt8} {s : ByteArray} {f : Nat} {p : List ByteArray} (h : CInv c s f s.size p) : cutB c s = p ++ [s.extract f s.size] := by
  have hl : s.data.toList.length = s.size := by simp
  have ht : (s.data.toList.drop f).take (s.size - f) = s.data.toList.drop f := List.take_of_length_le (by rw [List.length_drop]; omega)
  have h2 := h.2
  rw [ht] at h2
  rw [h.1, cutL_none c _ h2, Lib.extract_eq, ht]
  rfl

set_option maxRecDepth 100000 in
set_option maxHeartbeats 1000000 in
theorem l4Cut_any (s : ByteArray) (m : Int) (c : UInt8) (w : World) (hs : s.size ≤ 1048576) (hm : (c.toNat : Int) = m) :
    Calls Tryd.prog 78 #[.string s, .int .u8 m] w (StrsNew (cutB c s) w) := by
  obtain ⟨i0, hi, hz0, hz1, hz2⟩ := info_parts info_str
  have HM := Lib.hid hm
  clear hm
  go_enter Tryd.func78, Tryd.ntmps78
  go_wp2
  go_loopw [5, 6, 7] (fun v fr i wr => ∃ (k f : Nat) (p : List ByteArray), k ≤ s.size ∧ f ≤ k ∧ p.length ≤ k ∧ i = .int .i64 k ∧ fr = .int .i64 f ∧ wr.ownsRow w.heap.size 9 1 v p.length (p.map Value.string) ∧ Below w.heap.size w wr ∧ Hid (CInv c s f k p)) (fun _ _ i _ => s.size - (intOf i).toNat)
  case atStart => exact ⟨0, 0, [], by omega, by omega, by simp, rfl, rfl, World.ownsRow_made (base := w.heap.size) (e := 9) (size := 1) w #[] 0 (Nat.le_refl _) (by unfold maxLen; omega) rfl, (Below.refl _ _).alloc (Nat.le_refl _) _, CInv.start c s⟩
  case round =>
    obtain ⟨k, f, p, hk, hfk, hpk, rfl, rfl, hown, hbel, hinv⟩ := hrel
    have hsz := hbel.size
    by_cases hlt : k < s.size
    · obtain ⟨x, hx⟩ : ∃ x, s[k].toNat = x := ⟨_, rfl⟩
      have hx256 : x < 256 := by have := s[k].toNat_lt; omega
      by_cases hc : s[k] = c
      · have q0 : (((x : Nat) : Int) == m) = true := by have := HM.out; rw [← hc, hx] at this; simpa using this
        have hst := Lib.hid (hinv.out.cut hlt hfk hc)
        have g1 : (f : Int) ≤ (k : Int) := by omega
        have g2 : (k : Int) ≤ (s.size : Int) := by omega
        clear hc hinv
        go_wp2_with (at_builtin; refine wpList_append_lies _ rfl _ _ _ rfl w.heap.size 9 i0 _ 1 16 Tryd.underlying96 hi hz0 hz1 hz2 rfl (by omega) _ p.length _ rfl (hown.alloc _) ⟨wr.heap.size, 0, none⟩ 1 1 [.string (s.extract f k)] rfl rfl (World.news_of_block (cs := #[.string (s.extract f k)]) (t := 9) (fr := (0, 0)) (heap_alloc_new wr _)) (by simp [Value.oneCell']) (by omega) (by unfold maxLen; omega) (by omega) (by simp; omega) (wr.heap.size + 1) (by simp) ?_; intro g cap w2 hown2 hgrow _ _)
        have hown3 : w2.ownsRow w.heap.size 9 1 (.slice (some ⟨g, 0, none⟩) (p.length + 1) cap) (p ++ [s.extract f k]).length ((p ++ [s.extract f k]).map Value.string) := by simpa using hown2
        clear hown2
        refine ⟨⟨k + 1, k + 1, p ++ [s.extract f k], by omega, by omega, by simp; omega, by go_num, by go_num, hown3, (hbel.alloc (by omega) _).grown hgrow (by simp; omega) (fun j hj => (hown.lt j hj).1), hst⟩, ?_⟩
        simp [intOf]
        omega
      · have q0 : (((x : Nat) : Int) == m) = false := by
          have := HM.out
          rw [beq_eq_false_iff_ne]
          intro e
          apply hc
          rw [← UInt8.toNat_inj]
          omega
        have hst := Lib.hid (hinv.out.go hlt hfk hc)
        clear hc hinv
        go_wp2
        refine ⟨⟨k + 1, f, p, by omega, by omega, by omega, by go_num, rfl, hown, hbel, hst⟩, ?_⟩
        simp [intOf]
        omega
    · obtain rfl : k = s.size := by omega
      have hf := Lib.hid hinv.out.fin
      have g1 : (f : Int) ≤ (s.size : Int) := by omega
      clear hinv
      go_wp2_with (at_builtin; refine wpList_append_lies _ rfl _ _ _ rfl w.heap.size 9 i0 _ 1 16 Tryd.underlying96 hi hz0 hz1 hz2 rfl (by omega) _ p.length _ rfl (hown.alloc _) ⟨wr.heap.size, 0, none⟩ 1 1 [.string (s.extract f s.size)] rfl rfl (World.news_of_block (cs := #[.string (s.extract f s.size)]) (t := 9) (fr := (0, 0)) (heap_alloc_new wr _)) (by simp [Value.oneCell']) (by omega) (by unfold maxLen; omega) (by omega) (by simp; omega) (wr.heap.size + 1) (by simp) ?_; intro g cap w2 hown2 hgrow _ _)
      have hown3 : w2.ownsRow w.heap.size 9 1 (.slice (some ⟨g, 0, none⟩) (p.length + 1) cap) (p ++ [s.extract f s.size]).length ((p ++ [s.extract f s.size]).map Value.string) := by simpa using hown2
      have hb2 := (hbel.alloc (by omega) (.cells #[.string (s.extract f s.size)] 9)).grown hgrow (by simp; omega) (fun j hj => (hown.lt j hj).1)
      clear hown2
      go_ret
      exact StrsNew.of hf.out hown3 hb2
end Go.Proofs.YtmojjbhjjhdpaaaDoor
