/- SelectColumns: both texts. No condition but the size that the law lets in. -/
import Derived.Test.YtjeamafigaipcaaInts
import Derived.Test.YtjeamafigaipcaaNew
import Derived.Deep.AppendLies
namespace Go.Proofs.Ytjeamafigaipcaa
open Go.RowKit Go.Deep

def selL (row : List Int) : List Int → Option (List Int)
  | [] => some []
  | c :: cs => if 0 ≤ c ∧ c ≤ (row.length : Int) - 1 then (selL row cs).map (row.getD c.toNat 0 :: ·) else none
def selR (row cols : List Int) : List Int × Bool := match selL row cols with | some l => (l, true) | none => ([], false)
theorem selL_len (row : List Int) : ∀ (cols l : List Int), selL row cols = some l → l.length ≤ cols.length
  | [], l, h => by simp [selL] at h; subst h; simp
  | c :: cs, l, h => by
    rw [selL] at h
    split at h
    · obtain ⟨l', h1, rfl⟩ := Option.map_eq_some_iff.1 h
      have := selL_len row cs l' h1
      simp
      omega
    · cases h
theorem selR_len (row cols : List Int) : (selR row cols).1.length ≤ cols.length := by
  unfold selR
  split
  · rename_i l h
    exact selL_len row cols l h
  · simp
def SInv (row cols : List Int) (k : Nat) (p : List Int) : Prop := selL row cols = (selL row (cols.drop k)).map (p ++ ·)
theorem SInv.start (row cols : List Int) : SInv row cols 0 [] := by simp [SInv]
theorem SInv.step {row cols p : List Int} {k m : Nat} {y : Int} (h : SInv row cols k p) (hx : cols[k]? = some (m : Int)) (hy : row[m]? = some y) (hm : m < row.length) : SInv row cols (k + 1) (p ++ [y]) := by
  unfold SInv at h ⊢
  obtain ⟨h1, h2⟩ := List.getElem?_eq_some_iff.1 hx
  rw [h, List.drop_eq_getElem_cons h1, h2, selL, if_pos ⟨by omega, by omega⟩, Int.toNat_natCast, List.getD_eq_getElem?_getD, hy]
  cases selL row (cols.drop (k + 1)) <;> simp
theorem SInv.fail {row cols p : List Int} {k : Nat} {x : Int} (h : SInv row cols k p) (hx : cols[k]? = some x) (hn : ¬ (0 ≤ x ∧ x ≤ (row.length : Int) - 1)) : selR row cols = ([], false) := by
  unfold SInv at h
  obtain ⟨h1, h2⟩ := List.getElem?_eq_some_iff.1 hx
  rw [selR, h, List.drop_eq_getElem_cons h1, h2, selL, if_neg hn]
  rfl
theorem SInv.stop {row cols p : List Int} {k : Nat} (h : SInv row cols k p) (hk : cols.length = k) : selR row cols = (p, true) := by
  unfold SInv at h
  rw [selR, h, List.drop_of_length_le (by omega)]
  simp [selL]

set_option maxRecDepth 100000 in
set_option maxHeartbeats 400000 in
theorem impl_SelectColumns_any (A A' : Option Addr) (n c n' c' : Nat) (row cols : List Int) (w : World) (hr : RdI w w.heap.size A n row) (hr' : RdI w w.heap.size A' n' cols) (hn : n ≤ 1048576) (hn' : n' ≤ 1048576) :
    Calls Try.prog 27 #[.slice A n c, .slice A' n' c'] w (IntsBool (selR row cols) w) := by
  obtain ⟨i0, hi, hz0, hz1, hz2⟩ := info_parts info_int
  have HL := Lib.hid hr.1
  have HL' := Lib.hid hr'.1
  go_enter Try.func27, Try.ntmps27
  go_wp2
  go_loopw [6, 12] (fun v i wr => ∃ (k : Nat) (p : List Int), k ≤ n' ∧ p.length ≤ k ∧ i = .int .i64 k ∧ wr.ownsRow w.heap.size 3 1 v p.length (p.map iv) ∧ Below w.heap.size w wr ∧ SInv row cols k p) (fun _ i _ => n' - (intOf i).toNat)
  case atStart => exact ⟨0, [], by omega, by simp, rfl, own_empty w _ (Nat.le_refl _), (Below.refl _ _).alloc (Nat.le_refl _) _, SInv.start _ _⟩
  case round =>
    obtain ⟨k, p, hk, hpk, rfl, hown, hbel, hinv⟩ := hrel
    have hsz := hbel.size
    by_cases hlt : k < n'
    · obtain ⟨b', o', x, rfl, hb', hx, hc'⟩ := hr'.at_ hlt
      have hc2 := (hbel.cell (p := ⟨b', o' + k, none⟩) hb').trans hc'
      clear hc'
      by_cases hin : 0 ≤ x ∧ x ≤ (n : Int) - 1
      · have hin' := inB_true hin.1 hin.2
        obtain ⟨m, rfl⟩ := Int.eq_ofNat_of_zero_le hin.1
        have hm : m < n := by omega
        obtain ⟨b, o, y, rfl, hb, hy, hc⟩ := hr.at_ hm
        have hc1 := (hbel.cell (p := ⟨b, o + m, none⟩) hb).trans hc
        have hst := hinv.step hx hy (by rw [HL.out]; exact hm)
        clear hc hx hy hin
        go_wp2_with (first | (go_at_call 43; refine (within_any _ _ _ _).mono ?_; rintro e w' ⟨rfl, rfl⟩) | (at_builtin; refine wpList_append_lies _ rfl _ _ _ rfl w.heap.size 3 i0 _ 1 8 Try.underlying24 hi hz0 hz1 hz2 rfl (by omega) _ p.length _ rfl (hown.alloc _) ⟨wr.heap.size, 0, none⟩ 1 1 [.int .i64 y] rfl rfl (World.news_of_block (cs := #[.int .i64 y]) (t := 3) (fr := (0, 0)) (heap_alloc_new wr _)) (by simp [Value.oneCell']) (by omega) (by unfold maxLen; omega) (by omega) (by simp; omega) (wr.heap.size + 1) (by simp) ?_; intro g cap w1 hown1 hgrow _ _))
        have hown2 := own_snoc hown1
        clear hown1
        refine ⟨⟨k + 1, p ++ [y], by omega, by simp; omega, by go_num, by simpa using hown2, (hbel.alloc (by omega) _).grown hgrow (by simp; omega) (fun j hj => (hown.lt j hj).1), hst⟩, ?_⟩
        simp [intOf]
        omega
      · have hin' := inB_false hin
        have hf := Lib.hid (hinv.fail hx (by rw [HL.out]; exact hin))
        clear hx hin
        go_wp2_with (go_at_call 43; refine (within_any _ _ _ _).mono ?_; rintro e w' ⟨rfl, rfl⟩)
        go_ret2
        exact IntsBool.of hf.out (OwnI.nil _ _ _) hbel
    · obtain rfl : k = n' := by omega
      have hf := Lib.hid (hinv.stop HL'.out)
      obtain ⟨A0, c0, rfl⟩ := own_form hown
      go_wp2
      go_ret2
      exact IntsBool.of hf.out (ownI_of hown) hbel

set_option maxRecDepth 100000 in
set_option maxHeartbeats 400000 in
theorem spec_SelectColumns_any (A A' : Option Addr) (n c n' c' : Nat) (row cols : List Int) (w : World) (hr : RdI w w.heap.size A n row) (hr' : RdI w w.heap.size A' n' cols) (hn : n ≤ 1048576) (hn' : n' ≤ 1048576) :
    Calls Try.prog 26 #[.slice A n c, .slice A' n' c'] w (IntsBool (selR row cols) w) := by
  obtain ⟨i0, hi, hz0, hz1, hz2⟩ := info_parts info_int
  have HL := Lib.hid hr.1
  have HL' := Lib.hid hr'.1
  go_enter Try.func26, Try.ntmps26
  go_wp2
  go_loopw [6, 7] (fun v i wr => ∃ (k : Nat) (p : List Int), k ≤ n' ∧ p.length ≤ k ∧ i = .int .i64 k ∧ wr.ownsRow w.heap.size 3 1 v p.length (p.map iv) ∧ Below w.heap.size w wr ∧ SInv row cols k p) (fun _ i _ => n' - (intOf i).toNat)
  case atStart => exact ⟨0, [], by omega, by simp, rfl, own_empty w _ (Nat.le_refl _), (Below.refl _ _).alloc (Nat.le_refl _) _, SInv.start _ _⟩
  case round =>
    obtain ⟨k, p, hk, hpk, rfl, hown, hbel, hinv⟩ := hrel
    have hsz := hbel.size
    by_cases hlt : k < n'
    · obtain ⟨b', o', x, rfl, hb', hx, hc'⟩ := hr'.at_ hlt
      have hc2 := (hbel.cell (p := ⟨b', o' + k, none⟩) hb').trans hc'
      clear hc'
      by_cases hin : 0 ≤ x ∧ x ≤ (n : Int) - 1
      · have hin' := inB_true hin.1 hin.2
        obtain ⟨m, rfl⟩ := Int.eq_ofNat_of_zero_le hin.1
        have hm : m < n := by omega
        obtain ⟨b, o, y, rfl, hb, hy, hc⟩ := hr.at_ hm
        have hc1 := (hbel.cell (p := ⟨b, o + m, none⟩) hb).trans hc
        have hst := hinv.step hx hy (by rw [HL.out]; exact hm)
        clear hc hx hy hin
        go_wp2_with (first | (go_at_call 42; refine (l1In_any _ _ _ _).mono ?_; rintro e w' ⟨rfl, rfl⟩) | (at_builtin; refine wpList_append_lies _ rfl _ _ _ rfl w.heap.size 3 i0 _ 1 8 Try.underlying24 hi hz0 hz1 hz2 rfl (by omega) _ p.length _ rfl (hown.alloc _) ⟨wr.heap.size, 0, none⟩ 1 1 [.int .i64 y] rfl rfl (World.news_of_block (cs := #[.int .i64 y]) (t := 3) (fr := (0, 0)) (heap_alloc_new wr _)) (by simp [Value.oneCell']) (by omega) (by unfold maxLen; omega) (by omega) (by simp; omega) (wr.heap.size + 1) (by simp) ?_; intro g cap w1 hown1 hgrow _ _))
        have hown2 := own_snoc hown1
        clear hown1
        refine ⟨⟨k + 1, p ++ [y], by omega, by simp; omega, by go_num, by simpa using hown2, (hbel.alloc (by omega) _).grown hgrow (by simp; omega) (fun j hj => (hown.lt j hj).1), hst⟩, ?_⟩
        simp [intOf]
        omega
      · have hin' := inB_false hin
        have hf := Lib.hid (hinv.fail hx (by rw [HL.out]; exact hin))
        clear hx hin
        go_wp2_with (go_at_call 42; refine (l1In_any _ _ _ _).mono ?_; rintro e w' ⟨rfl, rfl⟩)
        go_ret2
        exact IntsBool.of hf.out (ownI_of (own_empty wr _ hsz)) (hbel.alloc hsz _)
    · obtain rfl : k = n' := by omega
      have hf := Lib.hid (hinv.stop HL'.out)
      obtain ⟨A0, c0, rfl⟩ := own_form hown
      go_wp2
      go_ret2
      exact IntsBool.of hf.out (ownI_of hown) hbel
end Go.Proofs.Ytjeamafigaipcaa
