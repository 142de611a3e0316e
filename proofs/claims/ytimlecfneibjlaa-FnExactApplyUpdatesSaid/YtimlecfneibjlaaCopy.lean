/- Copies: impl.copyInts, copyRows, copyTable. No condition but the size that the laws let in. -/
import Derived.Test.YtimlecfneibjlaaApp
namespace Go.Proofs.Ytimlecfneibjlaa
open Go.RowKit Go.Deep

set_option maxRecDepth 100000 in
set_option maxHeartbeats 400000 in
theorem copyInts_any (A : Option Addr) (n c B : Nat) (zs : List Int) (w : World) (hr : RdI w B A n zs) (hB : B ≤ w.heap.size) (hn : n ≤ 17592186044416) :
    Calls Try.prog 103 #[.slice A n c] w (IntsNew zs w) := by
  obtain ⟨i0, hi, hz0, hz1, hz2⟩ := info_parts info_int
  have hlen := hr.1
  subst hlen
  have hs := (hr.below ((Below.refl B w).alloc hB (.cells #[] 3))).src
  have h0 : (w.alloc (.cells #[] 3)).ownsRow 0 3 1 (.slice (some ⟨w.heap.size, 0, none⟩) 0 0) 0 [] := own_empty w 0 (Nat.zero_le _)
  have HB := Lib.hid (Below.refl w.heap.size w)
  go_enter Try.func103, Try.ntmps103
  go_wp2_with (at_builtin; refine wpList_append_src _ rfl _ _ _ rfl 3 i0 _ 8 Try.underlying59 hi hz0 hz1 hz2 rfl (.slice (some ⟨w.heap.size, 0, none⟩) 0 0) 0 [] rfl h0 A zs.length c (zs.map iv) rfl hs (by simp [iv, Value.oneCell']) (by unfold maxLen; omega) (by omega) ?_; intro v w1 hown1 hgrow hat)
  have hge : ∀ g, v.ownBlock = some g → w.heap.size ≤ g := fun g hg => by
    rcases hat with h | h
    · rw [h] at hg
      simp [Value.ownBlock] at hg
      omega
    · rw [h] at hg
      simp at hg
      omega
  obtain ⟨A1, c1, rfl, ho⟩ := own_of_copy (w := w) hown1 hge
  have hbel := Lib.hid ((HB.out.alloc (Nat.le_refl _) (.cells #[] 3)).grown hgrow (by simp) (fun j hj => by simp [Value.ownBlock] at hj; omega))
  clear hat hge hown1 hgrow
  go_ret
  exact IntsNew.of rfl ho hbel.out

set_option maxRecDepth 100000 in
set_option maxHeartbeats 400000 in
theorem copyRows_any (A : Option Addr) (n c B : Nat) (rs : List (List Int)) (w : World) (hr0 : RdR w B A n rs) (hB : B ≤ w.heap.size) (hn : n ≤ 5000000000) (hrow : ∀ r ∈ rs, r.length ≤ 17592186044416) :
    Calls Try.prog 102 #[.slice A n c] w (RowsNew rs w) := by
  obtain ⟨i0, hi, hz0, hz1, hz2⟩ := info_parts info_row
  have hr := RdR.more hr0 hB
  clear hr0
  have HL := Lib.hid hr.1
  have hrow' := Lib.hid hrow
  clear hrow
  go_enter Try.func102, Try.ntmps102
  go_wp2
  go_loopw [3, 9] (fun v i wr => ∃ k : Nat, k ≤ n ∧ i = .int .i64 k ∧ Hid (OwnR wr w.heap.size wr.heap.size v (rs.take k)) ∧ Below w.heap.size w wr) (fun _ i _ => n - (intOf i).toNat)
  case atStart => exact ⟨0, by omega, rfl, OwnR.empty w (Nat.le_refl _), (Below.refl _ _).alloc (Nat.le_refl _) _⟩
  case round =>
    obtain ⟨k, hk, rfl, hown, hbel⟩ := hrel
    have hsz := hbel.size
    by_cases hlt : k < n
    · obtain ⟨b, o, x, A', c', rfl, hb, hx, hc, hrd, _⟩ := RdR.at_ hr hlt
      have hc1 := (hbel.cell (p := ⟨b, o + k, none⟩) hb).trans hc
      have hxl := hrow'.out x (List.mem_of_getElem? hx)
      have hrd1 := hrd.below hbel
      have HX := Lib.hid (show rs.take k ++ [x] = rs.take (k + 1) by rw [List.take_add_one, hx]; rfl)
      have hlk : (rs.take k).length = k := by rw [List.length_take, HL.out]; omega
      clear hx hc hrd
      go_wp2_with fail
      refine (copyInts_any A' x.length c' w.heap.size x wr hrd1 hsz hxl).mono ?_
      rintro e w1 ⟨A1, c1, rfl, ho1, hb1⟩
      obtain ⟨xs, hrow1, hblk, hclose⟩ := (hown.out.below hb1 (Nat.le_refl _)).open_
      have hs1 := hb1.size
      have HC := Lib.hid hclose
      have HBK := Lib.hid hblk
      have HO := Lib.hid ho1
      rw [hlk] at hrow1
      clear hclose hblk ho1 hown
      have hrow2 := hrow1.alloc (.cells #[.slice A1 x.length c1] 59)
      have HK := Lib.hid hlk
      clear hlk hrow1
      go_wp2_with (at_builtin; refine wpList_append_lies _ rfl _ _ _ rfl 0 59 i0 _ 1 24 Try.underlying34 hi hz0 hz1 hz2 rfl (by omega) _ k _ rfl hrow2 ⟨w1.heap.size, 0, none⟩ 1 1 [.slice A1 x.length c1] rfl rfl (World.news_of_block (cs := #[.slice A1 x.length c1]) (t := 59) (fr := (0, 0)) (heap_alloc_new w1 _)) (by simp [Value.oneCell']) (by omega) (by unfold maxLen; omega) (by omega) (Nat.zero_le _) (w1.heap.size + 1) (by simp) ?_; intro g cap w2 hown2 hgrow hat hlt2)
      have hbel2 : Below w.heap.size w w2 := ((hbel.trans (hb1.mono hsz)).alloc (by omega) (.cells #[.slice A1 x.length c1] 59)).grown hgrow (by simp; omega) (fun j hj => (HBK.out j hj).1)
      have hfin := HC.out (w1.alloc (.cells #[.slice A1 x.length c1] 59)) w2 A1 x c1 wr.heap.size w1.heap.size g cap ((Below.refl _ _).alloc (Nat.le_refl _) _) (HO.out.below ((Below.refl w1.heap.size w1).alloc (Nat.le_refl _) _) (Nat.le_refl _)) (Nat.le_refl _) hsz (by simp) (by simp; omega) (by rw [HK.out]; exact hown2) hgrow (hat.imp (fun h => h) (fun h => by rw [h]; simp))
      rw [HX.out, HK.out] at hfin
      have HF := Lib.hid hfin
      clear hfin hown2 hgrow hat
      refine ⟨⟨k + 1, by omega, by go_num, HF.out, hbel2⟩, ?_⟩
      simp [intOf]
      omega
    · obtain rfl : k = n := by omega
      have hf := hown.out
      rw [List.take_of_length_le (Nat.le_of_eq HL.out)] at hf
      have HF := Lib.hid hf
      clear hown hf
      go_wp2
      go_ret
      exact RowsNew.of HF.out hbel

set_option maxRecDepth 100000 in
set_option maxHeartbeats 400000 in
theorem copyTable_any (nm : ByteArray) (ar : Int) (A : Option Addr) (n c B : Nat) (rs : List (List Int)) (w : World) (hr : RdR w B A n rs) (hB : B ≤ w.heap.size) (hn : n ≤ 5000000000) (hrow : ∀ r ∈ rs, r.length ≤ 17592186044416) :
    Calls Try.prog 66 #[.agg #[.string nm, .int .i64 ar, .slice A n c]] w (TabNew nm ar rs w) := by
  have hrow' := Lib.hid hrow
  clear hrow
  have HB := Lib.hid (Below.refl w.heap.size w)
  go_enter Try.func66, Try.ntmps66
  go_wp2_with fail
  refine (copyRows_any A n c B rs _ (RdR.belowB hr (((Below.refl B w).alloc hB _).alloc (by simp; omega) _) (Nat.le_refl _)) (by simp; omega) hn hrow'.out).mono ?_
  rintro e w1 ⟨A1, c1, rfl, ho, hb⟩
  have hs := hb.size
  simp at hs
  obtain ⟨hc, hf⟩ := bcells hb
  have e0 : w1.cell? ⟨w.heap.size, 0, none⟩ = some (.string nm) := (hb.cell (p := ⟨w.heap.size, 0, none⟩) (by simp; omega)).trans (by simp [go_sem])
  have e1 : w1.cell? ⟨w.heap.size, 1, none⟩ = some (.int .i64 ar) := (hb.cell (p := ⟨w.heap.size, 1, none⟩) (by simp; omega)).trans (by simp [go_sem])
  have e2 : w1.cell? ⟨w.heap.size, 2, none⟩ = some (.slice A n c) := (hb.cell (p := ⟨w.heap.size, 2, none⟩) (by simp; omega)).trans (by simp [go_sem])
  have hbel := Lib.hid ((((HB.out).alloc (Nat.le_refl _) _).alloc (by simp) _).trans (hb.mono (by simp; omega)))
  have HO := Lib.hid ho
  clear hb ho
  go_wp2_with fail
  refine bodyPost_ret (v := .agg #[.string nm, .int .i64 ar, .slice A1 rs.length c1]) (by simp [results, Try.results66, go_sem, *]) rfl (TabNew.of ?_ ?_)
  · have h2 : OwnR w1 (w.heap.size + 2) w1.heap.size (.slice A1 rs.length c1) rs := by simpa using HO.out
    refine OwnR.down (lo := w.heap.size + 2) (OwnR.wide (hi := w1.heap.size) ?_ (by simp)) (by omega)
    repeat refine OwnR.setLow ?_ (by omega)
    exact h2
  · repeat first | exact hbel.out | (refine Below.setCell ?_ ?_ _; rotate_left; (simp; try omega))
end Go.Proofs.Ytimlecfneibjlaa
