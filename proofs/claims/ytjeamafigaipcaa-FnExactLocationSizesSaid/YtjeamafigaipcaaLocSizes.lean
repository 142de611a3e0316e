/- LocationSizes: both texts. No condition but the size that the law lets in. -/
import Derived.Test.YtjeamafigaipcaaLoc
import Derived.Test.YtjeamafigaipcaaSize
import Derived.Test.YtjeamafigaipcaaNew
import Derived.Deep.AppendLies
namespace Go.Proofs.Ytjeamafigaipcaa
open Go.RowKit Go.Deep

def lsizes (zs : List Int) : List Int := if isLoc zs = true then zs.map csize else []
theorem lsizes_len (zs : List Int) : (lsizes zs).length ≤ zs.length := by
  unfold lsizes
  split <;> simp
set_option maxRecDepth 100000 in
set_option maxHeartbeats 400000 in
theorem impl_LocationSizes_any (A : Option Addr) (n c : Nat) (zs : List Int) (w : World) (hr : RdI w w.heap.size A n zs) (hn : n ≤ 1048576) :
    Calls Try.prog 37 #[.slice A n c] w (IntsNew (lsizes zs) w) := by
  obtain ⟨i0, hi, hz0, hz1, hz2⟩ := info_parts info_int
  have HL := Lib.hid hr.1
  go_enter Try.func37, Try.ntmps37
  go_wp2
  go_loopw [3, 9] (fun v i wr => ∃ (k : Nat) (p : List Int), k ≤ n ∧ p.length ≤ k ∧ i = .int .i64 k ∧ wr.ownsRow w.heap.size 3 1 v p.length (p.map iv) ∧ Below w.heap.size w wr ∧ Hid (p = (zs.take k).map csize)) (fun _ i _ => n - (intOf i).toNat)
  case atStart => exact ⟨0, [], by omega, by simp, rfl, own_empty w _ (Nat.le_refl _), (Below.refl _ _).alloc (Nat.le_refl _) _, rfl⟩
  case round =>
    obtain ⟨k, p, hk, hpk, rfl, hown, hbel, hinv⟩ := hrel
    have hsz := hbel.size
    by_cases hlt : k < n
    · obtain ⟨b', o', x, rfl, hb', hx, hc'⟩ := hr.at_ hlt
      have hc2 := (hbel.cell (p := ⟨b', o' + k, none⟩) hb').trans hc'
      have hst : Hid (p ++ [csize x] = (zs.take (k + 1)).map csize) := by show _ = _; rw [List.take_add_one, hx, List.map_append, ← hinv.out]; rfl
      clear hc' hx
      go_wp2_with (first | (go_at_call 15; refine (impl_ClassSize_any _ _).mono ?_; rintro e w' ⟨rfl, rfl⟩) | (at_builtin; refine wpList_append_lies _ rfl _ _ _ rfl w.heap.size 3 i0 _ 1 8 Try.underlying24 hi hz0 hz1 hz2 rfl (by omega) _ p.length _ rfl (hown.alloc _) ⟨wr.heap.size, 0, none⟩ 1 1 [.int .i64 (csize x)] rfl rfl (World.news_of_block (cs := #[.int .i64 (csize x)]) (t := 3) (fr := (0, 0)) (heap_alloc_new wr _)) (by simp [Value.oneCell']) (by omega) (by unfold maxLen; omega) (by omega) (by simp; omega) (wr.heap.size + 1) (by simp) ?_; intro g cap w1 hown1 hgrow _ _))
      have hown2 := own_snoc hown1
      clear hown1
      refine ⟨⟨k + 1, p ++ [csize x], by omega, by simp; omega, by go_num, by simpa using hown2, (hbel.alloc (by omega) _).grown hgrow (by simp; omega) (fun j hj => (hown.lt j hj).1), hst⟩, ?_⟩
      simp [intOf]
      omega
    · obtain rfl : k = n := by omega
      obtain ⟨A0, c0, rfl⟩ := own_form hown
      by_cases hloc : isLoc zs = true
      · have hf : Hid (lsizes zs = p) := by show lsizes zs = p; rw [lsizes, if_pos hloc, hinv.out, List.take_of_length_le (Nat.le_of_eq HL.out)]
        go_wp2_with (go_at_call 18; refine (impl_IsLocation_any _ _ _ zs _ (hr.next hbel) (by omega)).mono ?_; rintro e w' ⟨rfl, rfl⟩)
        go_ret
        exact IntsNew.of hf.out (ownI_of hown) hbel
      · have hloc' : isLoc zs = false := by simpa using hloc
        have hf : Hid (lsizes zs = []) := by show lsizes zs = []; rw [lsizes, if_neg hloc]
        clear hloc
        go_wp2_with (go_at_call 18; refine (impl_IsLocation_any _ _ _ zs _ (hr.next hbel) (by omega)).mono ?_; rintro e w' ⟨rfl, rfl⟩)
        go_ret
        exact IntsNew.of hf.out (OwnI.nil _ _ _) hbel

set_option maxRecDepth 100000 in
set_option maxHeartbeats 400000 in
theorem spec_LocationSizes_any (A : Option Addr) (n c : Nat) (zs : List Int) (w : World) (hr : RdI w w.heap.size A n zs) (hn : n ≤ 1048576) :
    Calls Try.prog 36 #[.slice A n c] w (IntsNew (lsizes zs) w) := by
  obtain ⟨i0, hi, hz0, hz1, hz2⟩ := info_parts info_int
  have HL := Lib.hid hr.1
  by_cases hloc : isLoc zs = true
  · have hll := Lib.hid (show lsizes zs = zs.map csize by rw [lsizes, if_pos hloc])
    go_enter Try.func36, Try.ntmps36
    go_wp2_with fail
    go_loopw [3, 4] (fun v i wr => ∃ (k : Nat) (p : List Int), k ≤ n ∧ p.length ≤ k ∧ i = .int .i64 k ∧ wr.ownsRow w.heap.size 3 1 v p.length (p.map iv) ∧ Below w.heap.size w wr ∧ Hid (p = (zs.take k).map csize)) (fun _ i _ => n - (intOf i).toNat)
    case atStart => exact ⟨0, [], by omega, by simp, rfl, own_empty w _ (Nat.le_refl _), (Below.refl _ _).alloc (Nat.le_refl _) _, rfl⟩
    case round =>
      obtain ⟨k, p, hk, hpk, rfl, hown, hbel, hinv⟩ := hrel
      have hsz := hbel.size
      by_cases hlt : k < n
      · obtain ⟨b', o', x, hA, hb', hx, hc'⟩ := hr.at_ hlt
        have hrr := hr.next hbel
        subst hA
        have hc2 := (hbel.cell (p := ⟨b', o' + k, none⟩) hb').trans hc'
        have hst : Hid (p ++ [csize x] = (zs.take (k + 1)).map csize) := by show _ = _; rw [List.take_add_one, hx, List.map_append, ← hinv.out]; rfl
        clear hc' hx
        go_wp2_with (first | (go_at_call 16; refine (spec_IsLocation_any _ _ _ zs _ hrr (by omega)).mono ?_; rintro e w' ⟨rfl, rfl⟩) | (go_at_call 14; refine (spec_ClassSize_any _ _).mono ?_; rintro e w' ⟨rfl, rfl⟩) | (at_builtin; refine wpList_append_lies _ rfl _ _ _ rfl w.heap.size 3 i0 _ 1 8 Try.underlying24 hi hz0 hz1 hz2 rfl (by omega) _ p.length _ rfl (hown.alloc _) ⟨wr.heap.size, 0, none⟩ 1 1 [.int .i64 (csize x)] rfl rfl (World.news_of_block (cs := #[.int .i64 (csize x)]) (t := 3) (fr := (0, 0)) (heap_alloc_new wr _)) (by simp [Value.oneCell']) (by omega) (by unfold maxLen; omega) (by omega) (by simp; omega) (wr.heap.size + 1) (by simp) ?_; intro g cap w1 hown1 hgrow _ _))
        have hown2 := own_snoc hown1
        clear hown1
        refine ⟨⟨k + 1, p ++ [csize x], by omega, by simp; omega, by go_num, by simpa using hown2, (hbel.alloc (by omega) _).grown hgrow (by simp; omega) (fun j hj => (hown.lt j hj).1), hst⟩, ?_⟩
        simp [intOf]
        omega
      · obtain rfl : k = n := by omega
        obtain ⟨A0, c0, rfl⟩ := own_form hown
        have hf : Hid (lsizes zs = p) := by show lsizes zs = p; rw [hll.out, hinv.out, List.take_of_length_le (Nat.le_of_eq HL.out)]
        go_wp2_with fail
        go_ret
        exact IntsNew.of hf.out (ownI_of hown) hbel
  · have hloc' : isLoc zs = false := by simpa using hloc
    have hf : Hid (lsizes zs = []) := by show lsizes zs = []; rw [lsizes, if_neg hloc]
    clear hloc
    by_cases h0 : 0 < n
    · have hrr := hr.next ((Below.refl w.heap.size w).alloc (Nat.le_refl _) (.cells #[] 3))
      go_enter Try.func36, Try.ntmps36
      go_wp2_with fail
      refine wp_loop_rounds 1 ?_
      rw [rounds_succ]
      go_wp2_with (go_at_call 16; refine (spec_IsLocation_any _ _ _ zs _ hrr (by omega)).mono ?_; rintro e w' ⟨rfl, rfl⟩)
      go_ret
      exact IntsNew.of hf.out (ownI_of (own_empty w _ (Nat.le_refl _))) ((Below.refl _ _).alloc (Nat.le_refl _) _)
    · go_enter Try.func36, Try.ntmps36
      go_wp2_with fail
      refine wp_loop_rounds 1 ?_
      rw [rounds_succ]
      go_wp2_with fail
      go_ret
      exact IntsNew.of hf.out (ownI_of (own_empty w _ (Nat.le_refl _))) ((Below.refl _ _).alloc (Nat.le_refl _) _)
end Go.Proofs.Ytjeamafigaipcaa
