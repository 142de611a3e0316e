/- ParseLocation, FormatLocation: both texts. No condition but the size that the laws let in. -/
import Derived.Test.YtjeamafigaipcaaLoc
import Derived.Test.YtjeamafigaipcaaDig
namespace Go.Proofs.Ytjeamafigaipcaa
open Go.RowKit Go.Deep

def plocR (l : List UInt8) : List Int × Bool := if isLoc (ploc l) = true then (ploc l, true) else ([], false)
theorem isLoc_len {zs : List Int} (h : isLoc zs = true) : zs.length ≤ 16 := by
  unfold isLoc at h
  simp only [Bool.and_eq_true, decide_eq_true_eq] at h
  exact h.2
theorem isLoc_mem {zs : List Int} (h : isLoc zs = true) : ∀ x ∈ zs, 0 ≤ x ∧ x ≤ 7 := by
  unfold isLoc at h
  simp only [Bool.and_eq_true, List.all_eq_true] at h
  exact fun x hx => inB_iff.1 (h.1 x hx)
theorem plocR_len (l : List UInt8) : (plocR l).1.length ≤ 16 := by
  unfold plocR
  split
  · rename_i h; exact isLoc_len h
  · simp
theorem ploc_digits {l : List UInt8} (h : isLoc (ploc l) = true) : l.all isDig = true := by
  rw [List.all_eq_true]
  intro b hb
  have := isLoc_mem h ((b.toNat : Int) - 48) (List.mem_map.2 ⟨b, hb, rfl⟩)
  exact inB_true (by omega) (by omega)

set_option maxRecDepth 100000 in
set_option maxHeartbeats 400000 in
theorem impl_ParseLocation_any (s : ByteArray) (w : World) (hs : s.size ≤ 1048576) :
    Calls Try.prog 31 #[.string s] w (IntsBool (plocR s.data.toList) w) := by
  go_enter Try.func31, Try.ntmps31
  go_wp2_with fail
  refine (digitsOf_any s _ hs).mono ?_
  rintro e w1 ⟨A, c, rfl, ho, hb⟩
  have hlen := digR_len s.data.toList
  have hlen2 : s.data.toList.length ≤ 1048576 := by simpa using hs
  by_cases hd : s.data.toList.all isDig = true
  · have hR : digR s.data.toList = (ploc s.data.toList, true) := by rw [digR, if_pos hd]
    rw [hR] at ho hlen ⊢
    simp only at ho hlen ⊢
    by_cases hloc : isLoc (ploc s.data.toList) = true
    · have hf := Lib.hid (show plocR s.data.toList = (ploc s.data.toList, true) by rw [plocR, if_pos hloc])
      clear hR hd
      generalize ploc s.data.toList = P at *
      go_wp2_with (go_at_call 18; refine (impl_IsLocation_any _ _ _ P _ (ho.rd rfl) (by omega)).mono ?_; rintro e w' ⟨rfl, rfl⟩)
      go_ret2
      exact IntsBool.of hf.out ho hb
    · have hloc' : isLoc (ploc s.data.toList) = false := by simpa using hloc
      have hf := Lib.hid (show plocR s.data.toList = ([], false) by rw [plocR, if_neg hloc])
      clear hR hd hloc
      generalize ploc s.data.toList = P at *
      go_wp2_with (go_at_call 18; refine (impl_IsLocation_any _ _ _ P _ (ho.rd rfl) (by omega)).mono ?_; rintro e w' ⟨rfl, rfl⟩)
      go_ret2
      exact IntsBool.of hf.out (OwnI.nil _ _ _) hb
  · have hR : digR s.data.toList = ([], false) := by rw [digR, if_neg hd]
    have hf := Lib.hid (show plocR s.data.toList = ([], false) by rw [plocR, if_neg (fun h => hd (ploc_digits h))])
    rw [hR] at ho ⊢
    simp only at ho ⊢
    clear hR hd
    go_wp2_with fail
    go_ret2
    exact IntsBool.of hf.out (OwnI.nil _ _ _) hb

set_option maxRecDepth 100000 in
set_option maxHeartbeats 400000 in
theorem spec_ParseLocation_any (s : ByteArray) (w : World) (hs : s.size ≤ 1048576) :
    Calls Try.prog 30 #[.string s] w (IntsBool (plocR s.data.toList) w) := by
  obtain ⟨i0, hi, hz0, hz1, hz2⟩ := info_parts info_int
  go_enter Try.func30, Try.ntmps30
  go_wp2
  go_loopw [4, 5] (fun v i wr => ∃ (k : Nat) (p : List Int), k ≤ s.size ∧ k ≤ 17 ∧ p.length ≤ k ∧ k ≤ p.length ∧ i = .int .i64 k ∧ wr.ownsRow w.heap.size 3 1 v p.length (p.map iv) ∧ Below w.heap.size w wr ∧ Hid (p = ploc (s.data.toList.take k))) (fun _ i _ => s.size - (intOf i).toNat)
  case atStart => exact ⟨0, [], by omega, by omega, by simp, by simp, rfl, own_empty w _ (Nat.le_refl _), (Below.refl _ _).alloc (Nat.le_refl _) _, rfl⟩
  case round =>
    obtain ⟨k, p, hk, hk17, hpk, hkp, rfl, hown, hbel, hinv⟩ := hrel
    have hsz := hbel.size
    by_cases hlt : k < s.size
    · by_cases h16 : k ≤ 16
      · obtain ⟨x, hx⟩ : ∃ x, s[k].toNat = x := ⟨_, rfl⟩
        have hx256 : x < 256 := by have := s[k].toNat_lt; omega
        have hst : Hid (p ++ [(x : Int) - 48] = ploc (s.data.toList.take (k + 1))) := by
          show _ = _
          rw [take_snoc s k hlt, ploc_snoc, ← hinv.out, hx]
        go_wp2_with (at_builtin; refine wpList_append_lies _ rfl _ _ _ rfl w.heap.size 3 i0 _ 1 8 Try.underlying24 hi hz0 hz1 hz2 rfl (by omega) _ p.length _ rfl (hown.alloc _) ⟨wr.heap.size, 0, none⟩ 1 1 [.int .i64 ((x : Int) - 48)] rfl rfl (World.news_of_block (cs := #[.int .i64 ((x : Int) - 48)]) (t := 3) (fr := (0, 0)) (heap_alloc_new wr _)) (by simp [Value.oneCell']) (by omega) (by unfold maxLen; omega) (by omega) (by simp; omega) (wr.heap.size + 1) (by simp) ?_; intro g cap w1 hown1 hgrow _ _)
        have hown2 := own_snoc hown1
        clear hown1
        refine ⟨⟨k + 1, p ++ [(x : Int) - 48], by omega, by omega, by simp; omega, by simp; omega, by go_num, by simpa using hown2, (hbel.alloc (by omega) _).grown hgrow (by simp; omega) (fun j hj => (hown.lt j hj).1), hst⟩, ?_⟩
        simp [intOf]
        omega
      · obtain rfl : k = 17 := by omega
        obtain ⟨A0, c0, rfl⟩ := own_form hown
        have hloc : isLoc p = false := by
          have : ¬ isLoc p = true := fun h => by have := isLoc_len h; omega
          simpa using this
        have hf := Lib.hid (show plocR s.data.toList = ([], false) by
          rw [plocR, if_neg]
          intro h
          have := isLoc_len h
          simp [ploc] at this
          omega)
        go_wp2_with (go_at_call 16; refine (spec_IsLocation_any _ _ _ p _ ((ownI_of hown).rd rfl) (by omega)).mono ?_; rintro e w' ⟨rfl, rfl⟩)
        go_ret2
        exact IntsBool.of hf.out (ownI_of (own_empty wr _ hsz)) (hbel.alloc hsz _)
    · obtain rfl : k = s.size := by omega
      obtain ⟨A0, c0, rfl⟩ := own_form hown
      have hp : Hid (p = ploc s.data.toList) := by show _ = _; rw [hinv.out, take_all]
      by_cases hloc : isLoc p = true
      · have hf := Lib.hid (show plocR s.data.toList = (p, true) by rw [plocR, ← hp.out, if_pos hloc])
        go_wp2_with (go_at_call 16; refine (spec_IsLocation_any _ _ _ p _ ((ownI_of hown).rd rfl) (by omega)).mono ?_; rintro e w' ⟨rfl, rfl⟩)
        go_ret2
        exact IntsBool.of hf.out (ownI_of hown) hbel
      · have hloc' : isLoc p = false := by simpa using hloc
        have hf := Lib.hid (show plocR s.data.toList = ([], false) by rw [plocR, ← hp.out, if_neg hloc])
        clear hloc
        go_wp2_with (go_at_call 16; refine (spec_IsLocation_any _ _ _ p _ ((ownI_of hown).rd rfl) (by omega)).mono ?_; rintro e w' ⟨rfl, rfl⟩)
        go_ret2
        exact IntsBool.of hf.out (ownI_of (own_empty wr _ hsz)) (hbel.alloc hsz _)
end Go.Proofs.Ytjeamafigaipcaa
