/- spec.l4Copy. No condition but the size that the laws let in. -/
import Derived.Test.YtimlecfneibjlaaLInv
namespace Go.Proofs.Ytimlecfneibjlaa
open Go.RowKit Go.Deep

set_option maxRecDepth 100000 in
set_option maxHeartbeats 4000000 in
theorem l4Copy_any (nm : ByteArray) (ar : Int) (A : Option Addr) (n c B : Nat) (rs : List (List Int)) (w : World) (hr : RdR w B A n rs) (hB : B ≤ w.heap.size) (hn : n ≤ 5000000000) (hrow : ∀ r ∈ rs, r.length ≤ 17592186044416) :
    Calls Try.prog 63 #[.agg #[.string nm, .int .i64 ar, .slice A n c]] w (TabNew nm ar rs w) := by
  obtain ⟨i0, hi, hz0, hz1, hz2⟩ := info_parts info_int
  obtain ⟨i1, hi', hz0', hz1', hz2'⟩ := info_parts info_row
  have HL := Lib.hid hr.1
  have hrow' := Lib.hid hrow
  clear hrow
  go_enter Try.func63, Try.ntmps63
  go_wp2_with fail
  go_loopw [4] (fun i wr => ∃ (k : Nat) (v : Value), k ≤ n ∧ i = .int .i64 k ∧ LInv w w.heap.size (w.heap.size + 1) (w.heap.size + 1 + 1) (w.heap.size + 1 + 1 + 1) (.string nm) (.int .i64 ar) (.slice A n c) (.string nm) (.int .i64 ar) (rs.take k) v wr) (fun i _ => n - (intOf i).toNat)
  case atStart =>
    refine ⟨0, .slice none 0 0, by omega, rfl, OwnR.nil _ _ _, (((Below.refl _ _).alloc (Nat.le_refl _) _).alloc (by simp) _).alloc (by simp; omega) _, by simp, by omega, by omega, by omega, by omega, by omega, by omega, by simp [go_sem], by simp [go_sem], by simp [go_sem], by simp [go_sem], by simp [go_sem], by simp [go_sem], by simp [go_sem], fun i hi => ?_⟩
    have : i = 0 ∨ i = 1 ∨ i = 2 := by omega
    rcases this with rfl | rfl | rfl <;> simp [go_sem]
  case round =>
    obtain ⟨k, v, hk, rfl, hinv⟩ := hrel
    have c2 := hinv.c2
    by_cases hlt : k < n
    · obtain ⟨b, o, x, A', c', rfl, hb, hx, hc, hrd, _⟩ := RdR.at_ (RdR.more hr hB) hlt
      have hbel := hinv.bel
      have hsz := hinv.size
      have x2 := hinv.x2
      have fx := hinv.fx
      have hc1 := (hbel.cell (p := ⟨b, o + k, none⟩) hb).trans hc
      have hxl := hrow'.out x (List.mem_of_getElem? hx)
      have hrd1 := Lib.hid ((hrd.below hbel).more (show w.heap.size ≤ wr.heap.size by omega))
      have HX := Lib.hid (show rs.take k ++ [x] = rs.take (k + 1) by rw [List.take_add_one, hx]; rfl)
      have HK := Lib.hid (show (rs.take k).length = k by rw [List.length_take, HL.out]; omega)
      have HI := Lib.hid hinv
      have g1 : (0 : Int) ≤ (k : Int) := by omega
      have g2 : (k : Int) < (n : Int) := by omega
      have g3 : (k : Int).toNat = k := by omega
      have l0 : b < wr.heap.size := by omega
      have l1 : w.heap.size < wr.heap.size := by omega
      have l2 : w.heap.size + 1 + 1 < wr.heap.size := by omega
      clear hx hc hrd hinv hbel
      go_wp2_with fail
      go_region_law (first
          | (refine step_append_src _ (by rfl) (.tmp 19) (.tmp 24) _ (by rfl) 3 i0 _ 8 Try.underlying59 hi hz0 hz1 hz2 (by rfl) (.slice (some ⟨wr.heap.size, 0, none⟩) 0 0) 0 [] (by rfl) (own_at (heap_alloc_new wr _)) A' x.length c' (x.map iv) (by rfl) (hrd1.out.below ((Below.refl _ _).alloc (Nat.le_refl _) _)).src (by simp [iv, Value.oneCell']) (by unfold maxLen; omega) (by omega) ?_; intro v1 w1 hown1 hgrow1 hat1
             obtain ⟨A1, c1, rfl, ho1⟩ := own_of_copy (w := wr) hown1 (hat_ge hat1 (by simp))
             have hb1 : Below wr.heap.size wr w1 := ((Below.refl wr.heap.size wr).alloc (Nat.le_refl _) (.cells #[] 3)).drew.grown hgrow1 (by simp) (fun j hj => by simp [Value.ownBlock] at hj; omega)
             obtain ⟨xs, hrow1, hblk, hclose⟩ := (HI.out.own.below hb1 (Nat.le_refl _)).open_
             rw [HK.out] at hrow1
             have m1 : w1.cell? ⟨w.heap.size, 2, none⟩ = some (.slice (some ⟨b, o, none⟩) n c) := (hb1.cell (p := ⟨w.heap.size, 2, none⟩) l1).trans c2
             have m2 : w1.cell? ⟨b, o + k, none⟩ = some (.slice A' x.length c') := (hb1.cell (p := ⟨b, o + k, none⟩) l0).trans hc1
             have m3 : w1.cell? ⟨w.heap.size + 1 + 1, 2, none⟩ = some v := (hb1.cell (p := ⟨w.heap.size + 1 + 1, 2, none⟩) l2).trans x2
             have hs1 := hb1.size
             have l0' : b < w1.heap.size := by omega
             have l1' : w.heap.size < w1.heap.size := by omega
             have l2' : w.heap.size + 1 + 1 < w1.heap.size := by omega
             have HC := Lib.hid hclose
             have HBK := Lib.hid hblk
             have HO := Lib.hid ho1
             have HB1 := Lib.hid hb1
             have hrow2 := hrow1.alloc (.cells #[.slice A1 x.length c1] 59)
             clear hown1 hgrow1 hat1 hclose hblk ho1 hb1 hrow1)
          | (refine step_append_lies _ (by rfl) (.tmp 18) (.tmp 26) _ (by rfl) 0 59 i1 _ 1 24 Try.underlying34 hi' hz0' hz1' hz2' (by rfl) (by omega) v k xs (by rfl) hrow2 ⟨w1.heap.size, 0, none⟩ 1 1 [.slice A1 x.length c1] (by rfl) rfl (World.news_of_block (cs := #[.slice A1 x.length c1]) (t := 59) (fr := (0, 0)) (heap_alloc_new w1 _)) (by simp [Value.oneCell']) (by omega) (by unfold maxLen; omega) (by omega) (Nat.zero_le _) (w1.heap.size + 1) (by simp) ?_; intro g cap w2 hown2 hgrow hat hlt2
             have hB2 : Below (w.heap.size + 1 + 1 + 1) wr w2 := ((HB1.out.mono hsz).alloc (by omega) (.cells #[.slice A1 x.length c1] 59)).grown hgrow (by simp; omega) (fun j hj => (HBK.out j hj).1)
             have hfin := HC.out (w1.alloc (.cells #[.slice A1 x.length c1] 59)) w2 A1 x c1 wr.heap.size w1.heap.size g cap ((Below.refl _ _).alloc (Nat.le_refl _) _) (HO.out.below ((Below.refl w1.heap.size w1).alloc (Nat.le_refl _) _) (Nat.le_refl _)) (Nat.le_refl _) hsz (by simp) (by simp; omega) (by rw [HK.out]; exact hown2) hgrow (hat.imp (fun h => h) (fun h => by rw [h]; simp))
             have n2 : w2.cell? ⟨w.heap.size + 1 + 1, 2, none⟩ = some v := (hB2.cell (p := ⟨w.heap.size + 1 + 1, 2, none⟩) (Nat.lt_succ_self _)).trans x2
             have n3 : w2.frozen? ⟨w.heap.size + 1 + 1, 2, none⟩ = false := (hB2.frozen (p := ⟨w.heap.size + 1 + 1, 2, none⟩) (Nat.lt_succ_self _)).trans fx
             rw [HX.out, HK.out] at hfin
             have HF := Lib.hid (HI.out.push hB2 hfin)
             clear hown2 hgrow hat hB2 hfin)
          | fail)
      all_goals (
        go_wp2_with fail
        refine ⟨⟨k + 1, _, by omega, by go_num, HF.out⟩, ?_⟩
        simp [intOf]
        omega)
    · obtain rfl : k = n := by omega
      have x0 := hinv.x0
      have x1 := hinv.x1
      have x2 := hinv.x2
      have hr0 := hinv.res 0 (by omega)
      have hr1 := hinv.res 1 (by omega)
      have hr2 := hinv.res 2 (by omega)
      obtain ⟨y0, hy0⟩ := Option.isSome_iff_exists.1 hr0.1
      obtain ⟨y1, hy1⟩ := Option.isSome_iff_exists.1 hr1.1
      obtain ⟨y2, hy2⟩ := Option.isSome_iff_exists.1 hr2.1
      have e0 := hr0.2
      have e1 := hr1.2
      have e2 := hr2.2
      have HT := Lib.hid (show rs.take k = rs from List.take_of_length_le (Nat.le_of_eq HL.out))
      rw [HT.out] at hinv
      obtain ⟨A1, c1, rfl⟩ := hinv.own.form
      have HF := Lib.hid (hinv.fin (by omega) (by omega) (.string nm) (.int .i64 ar) (.slice A1 rs.length c1))
      clear hinv hr0 hr1 hr2
      go_wp2_with fail
      exact bodyPost_ret (v := .agg #[.string nm, .int .i64 ar, .slice A1 rs.length c1]) (by simp [results, Try.results63, go_sem, *]) rfl (TabNew.of HF.out.1 HF.out.2)
end Go.Proofs.Ytimlecfneibjlaa
