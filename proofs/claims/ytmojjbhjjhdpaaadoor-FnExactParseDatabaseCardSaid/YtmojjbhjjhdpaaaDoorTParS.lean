/- spec.ParseTable. No condition but the size that the laws let in. -/
import Derived.Test.YtmojjbhjjhdpaaaDoorTPar0
import Derived.Test.YtmojjbhjjhdpaaaDoorTFmt
import Derived.Test.YtmojjbhjjhdpaaaDoorLInv
import Derived.Test.YtmojjbhjjhdpaaaDoorL4V
import Derived.Deep.RegionHeld3
import Derived.Deep.DeepCutAuto
namespace Go.Proofs.YtmojjbhjjhdpaaaDoor
open Go.RowKit Go.Deep

theorem linv_start (w : World) (a b : Value) (t t' : TypeId) : LInv w w.heap.size w.heap.size (w.heap.size + 1) (w.heap.size + 1 + 1) (.string ⟨#[]⟩) (.int .i64 0) (.slice none 0 0) a b [] (.slice none 0 0)
    ((w.alloc (.cells #[.string ⟨#[]⟩, .int .i64 0, .slice none 0 0] t)).alloc (.cells #[a, b, .slice none 0 0] t')) := by
  refine ⟨OwnR.nil _ _ _, ((Below.refl _ _).alloc (Nat.le_refl _) _).alloc (by simp) _, by simp, by omega, by omega, by omega, by omega, by omega, by omega, by simp [go_sem], by simp [go_sem], by simp [go_sem], by simp [go_sem], by simp [go_sem], by simp [go_sem], by simp [go_sem], fun i hi => ?_⟩
  have : i = 0 ∨ i = 1 ∨ i = 2 := by omega
  rcases this with rfl | rfl | rfl <;> simp [go_sem]
/-- While there are no rows yet, the bound may rise. -/
theorem LInv.lift {w W : World} {tb rb xb lo : Nat} {t0 t1 t2 x0 x1 : Value} (h : LInv w tb rb xb lo t0 t1 t2 x0 x1 [] (.slice none 0 0) W) : LInv w tb rb xb W.heap.size t0 t1 t2 x0 x1 [] (.slice none 0 0) W :=
  ⟨OwnR.nil _ _ _, h.bel, Nat.le_refl _, h.hw, Nat.lt_of_lt_of_le h.htb h.size, Nat.lt_of_lt_of_le h.hrb h.size, Nat.lt_of_lt_of_le h.hxb h.size, h.ntb, h.nrb, h.c0, h.c1, h.c2, h.x0, h.x1, h.x2, h.fx, h.res⟩

set_option maxRecDepth 100000 in
set_option maxHeartbeats 4000000 in
theorem spec_ParseTable_any (s : ByteArray) (w : World) (hs : s.size ≤ 1048576) :
    Calls Tryd.prog 28 #[.string s] w (TabBool (parT s) w) := by
  by_cases h3 : 3 ≤ s.size
  · by_cases h40 : s.size ≤ 40
    · obtain ⟨i1, hi', hz0', hz1', hz2'⟩ := info_parts info_row
      obtain ⟨x, hx⟩ : ∃ x, s[1].toNat = x := ⟨_, rfl⟩
      have hx256 : x < 256 := by have := s[1].toNat_lt; omega
      have har : Hid (arT s = (x : Int) - 48) := by show _ = _; rw [arT_eq (by omega), hx]
      go_enter Tryd.func28, Tryd.ntmps28
      go_upto_region 3 with fail
      go_cut [4] (fun p wx => p = .pointer (some ⟨w.heap.size + 1, 0, none⟩) ∧ LInv w w.heap.size w.heap.size (w.heap.size + 1) (w.heap.size + 1 + 1) (.string ⟨#[]⟩) (.int .i64 0) (.slice none 0 0) (.string (nmT s)) (.int .i64 ((x : Int) - 48)) [] (.slice none 0 0) wx)
      case first =>
        have g0 : (0 : Int) < (s.size : Int) := by omega
        have g2 : 1 < s.size := by omega
        have g3 : (1 : Int) < (s.size : Int) := by omega
        have g4 : (1 : Int) ≤ (s.size : Int) := by omega
        have gw0 : IntKind.i64.wrap (x : Int) = (x : Int) := IntWalk.i64_in _ (by omega)
        have gw : IntKind.i64.wrap ((x : Int) - 48) = (x : Int) - 48 := IntWalk.i64_in _ (by omega)
        go_region_held3 (fun _ => True) (trivial) (fail)
        all_goals (go_wp2_with fail)
        all_goals (go_meet; exact ⟨by first | rfl | trivial, (linv_start w _ _ _ _).drew⟩)
      case rest =>
        generalize wc = w2 at hcut ⊢
        obtain ⟨rfl, hL⟩ := hcut
        by_cases h4 : 3 < s.size
        · have hn0 : ¬ (s.extract 3 s.size).size = 0 := by rw [ByteArray.size_extract]; omega
          have HR := Lib.hid (rowsS_cut hn0)
          have hnl : (cutB 32 (s.extract 3 s.size)).length ≤ 40 := by have := cutB_len 32 (s.extract 3 s.size); rw [ByteArray.size_extract] at this; omega
          have HS : Hid (∀ y ∈ cutB 32 (s.extract 3 s.size), y.size ≤ 1048576) := fun y hy => Nat.le_trans (cutB_mem hy) (ext_le hs)
          have KC : Hid (∀ W, Calls Tryd.prog 78 #[.string (s.extract 3 s.size), .int .u8 32] W (StrsNew (cutB 32 (s.extract 3 s.size)) W)) := fun W => l4Cut_any (s.extract 3 s.size) 32 32 W (ext_le hs) rfl
          clear hn0
          generalize cutB 32 (s.extract 3 s.size) = ws at HR hnl HS KC
          go_wp2_with fail
          refine (KC.out _).mono ?_
          rintro e w3 ⟨A3, c3, rfl, hown3, hb3⟩
          have hL3 := (hL.next hb3).lift
          have hcell : Hid (∀ (j : Nat) y, ws[j]? = some y → ∃ g, A3 = some ⟨g, 0, none⟩ ∧ w2.heap.size ≤ g ∧ g < w3.heap.size ∧ w3.cell? ⟨g, j, none⟩ = some (.string y)) := fun j y hy => strs_at hown3 rfl hy
          have hxb : w.heap.size + 1 < w2.heap.size := Nat.lt_of_lt_of_le hL.hxb hL.size
          have hs3 := hb3.size
          obtain ⟨n, hn⟩ : ∃ n, ws.length = n := ⟨_, rfl⟩
          rw [hn] at hnl ⊢
          have HL := Lib.hid hn
          clear hown3 hb3 hL hn
          go_wp2_with fail
          go_loopw [6] (fun i wr => ∃ (k : Nat) (v : Value), k ≤ n ∧ i = .int .i64 k ∧ LInv w w.heap.size w.heap.size (w.heap.size + 1) w3.heap.size (.string ⟨#[]⟩) (.int .i64 0) (.slice none 0 0) (.string (nmT s)) (.int .i64 ((x : Int) - 48)) ((ws.map fun b => ploc b.data.toList).take k) v wr ∧ Hid (∀ g j, w2.heap.size ≤ g → g < w3.heap.size → wr.cell? ⟨g, j, none⟩ = w3.cell? ⟨g, j, none⟩)) (fun i _ => n - (intOf i).toNat)
          case atStart => exact ⟨0, .slice none 0 0, by omega, rfl, hL3, fun _ _ _ _ => rfl⟩
          case round =>
            obtain ⟨k, v, hk, rfl, hinv, hsame⟩ := hrel
            by_cases hlt : k < n
            · obtain ⟨y, hy⟩ : ∃ y, ws[k]? = some y := ⟨ws[k]'(by rw [HL.out]; exact hlt), List.getElem?_eq_getElem _⟩
              obtain ⟨g, rfl, hg1, hg2, hgc⟩ := hcell.out k y hy
              have hc1 := (hsame.out g k hg1 hg2).trans hgc
              have hys := HS.out y (List.mem_of_getElem? hy)
              have KV : Hid (∀ W, Calls Tryd.prog 79 #[.string y] W (IntsNew (ploc y.data.toList) W)) := fun W => l4Values_any y W hys
              have hpl : (ploc y.data.toList).length ≤ 1048576 := by
                have h1 : (ploc y.data.toList).length = y.data.toList.length := by simp [ploc]
                have h2 : y.data.toList.length = y.size := by simp
                omega
              have HX : Hid ((ws.map fun b => ploc b.data.toList).take k ++ [ploc y.data.toList] = (ws.map fun b => ploc b.data.toList).take (k + 1)) := by
                show _ = _
                rw [List.take_add_one, List.getElem?_map, hy]
                rfl
              have HK : Hid (((ws.map fun b => ploc b.data.toList).take k).length = k) := by show _ = _; rw [List.length_take, List.length_map, HL.out]; omega
              generalize ploc y.data.toList = D at KV hpl HX
              have hbel := hinv.bel
              have hsz := hinv.size
              have x2 := hinv.x2
              have fx := hinv.fx
              have HI := Lib.hid hinv
              have g1 : (0 : Int) ≤ (k : Int) := by omega
              have g2 : (k : Int) < (n : Int) := by omega
              have g3 : (k : Int).toNat = k := by omega
              have hx3 : w.heap.size + 1 < w3.heap.size := by omega
              have l0 : g < wr.heap.size := by omega
              have l2 : w.heap.size + 1 < wr.heap.size := by omega
              clear hy hgc hinv hbel hys
              go_wp2_with fail
              go_region_law (first
                  | (go_simp; go_at_call 79; refine (KV.out _).mono ?_; rintro e w4 ⟨A1, c1, rfl, ho1, hb0⟩
                     have hb1 : Below wr.heap.size wr w4 := ((Below.refl _ _).drew).trans hb0
                     have ho2 : OwnI w4 wr.heap.size w4.heap.size (.slice A1 D.length c1) D := ho1
                     obtain ⟨xs, hrow1, hblk, hclose⟩ := (HI.out.own.below hb1 (Nat.le_refl _)).open_
                     rw [HK.out] at hrow1
                     have m2 : w4.cell? ⟨g, k, none⟩ = some (.string y) := (hb1.cell (p := ⟨g, k, none⟩) l0).trans hc1
                     have m3 : w4.cell? ⟨w.heap.size + 1, 2, none⟩ = some v := (hb1.cell (p := ⟨w.heap.size + 1, 2, none⟩) l2).trans x2
                     have hs1 := hb1.size
                     have l0' : g < w4.heap.size := by omega
                     have l2' : w.heap.size + 1 < w4.heap.size := by omega
                     have HC := Lib.hid hclose
                     have HBK := Lib.hid hblk
                     have HO := Lib.hid ho2
                     have HB1 := Lib.hid hb1
                     have hrow2 := hrow1.alloc (.cells #[.slice A1 D.length c1] 92)
                     clear hclose hblk ho1 ho2 hb0 hb1 hrow1
                     dsimp only)
                  | (refine step_append_lies _ (by rfl) (.tmp 36) (.tmp 42) _ (by rfl) 0 92 i1 _ 1 24 Tryd.underlying36 hi' hz0' hz1' hz2' (by rfl) (by omega) v k xs (by rfl) hrow2 ⟨w4.heap.size, 0, none⟩ 1 1 [.slice A1 D.length c1] (by rfl) rfl (World.news_of_block (cs := #[.slice A1 D.length c1]) (t := 92) (fr := (0, 0)) (heap_alloc_new w4 _)) (by simp [Value.oneCell']) (by omega) (by unfold maxLen; omega) (by omega) (Nat.zero_le _) (w4.heap.size + 1) (by simp) ?_; intro g' cap w5 hown2 hgrow hat hlt2
                     have hB2 : Below w3.heap.size wr w5 := ((HB1.out.mono hsz).alloc (by omega) (.cells #[.slice A1 D.length c1] 92)).grown hgrow (by simp; omega) (fun j hj => (HBK.out j hj).1)
                     have hfin := HC.out (w4.alloc (.cells #[.slice A1 D.length c1] 92)) w5 A1 D c1 wr.heap.size w4.heap.size g' cap ((Below.refl _ _).alloc (Nat.le_refl _) _) (HO.out.below ((Below.refl w4.heap.size w4).alloc (Nat.le_refl _) _) (Nat.le_refl _)) (Nat.le_refl _) hsz (by simp) (by simp; omega) (by rw [HK.out]; exact hown2) hgrow (hat.imp (fun h => h) (fun h => by rw [h]; simp))
                     have n2 : w5.cell? ⟨w.heap.size + 1, 2, none⟩ = some v := (hB2.cell (p := ⟨w.heap.size + 1, 2, none⟩) hx3).trans x2
                     have n3 : w5.frozen? ⟨w.heap.size + 1, 2, none⟩ = false := (hB2.frozen (p := ⟨w.heap.size + 1, 2, none⟩) hx3).trans fx
                     rw [HX.out, HK.out] at hfin
                     have HF := Lib.hid (HI.out.push hB2 hfin)
                     have HM : Hid (∀ g j, w2.heap.size ≤ g → g < w3.heap.size → (w5.setCell ⟨w.heap.size + 1, 2, none⟩ (.slice (some ⟨g', 0, none⟩) (k + 1) cap)).cell? ⟨g, j, none⟩ = w3.cell? ⟨g, j, none⟩) := fun g j h1 h2 => (cell_set_other (by omega)).trans ((hB2.cell (p := ⟨g, j, none⟩) h2).trans (hsame.out g j h1 h2))
                     clear hown2 hgrow hat hB2 hfin)
                  | fail)
              all_goals (
                go_wp2_with fail
                refine ⟨⟨k + 1, _, by omega, by go_num, HF.out, HM.out⟩, ?_⟩
                simp [intOf]
                omega)
            · obtain rfl : k = n := by omega
              have HRS : Hid ((ws.map fun b => ploc b.data.toList).take k = rowsS (s.extract 3 s.size)) := by show _ = _; rw [HR.out, List.take_of_length_le (by rw [List.length_map, HL.out]; exact Nat.le_refl _)]
              have hRl : (rowsS (s.extract 3 s.size)).length ≤ 40 := by rw [HR.out, List.length_map, HL.out]; exact hnl
              rw [HRS.out] at hinv
              have hnx : w.heap.size + 2 ≤ w3.heap.size := by omega
              generalize w3.heap.size = lo at hinv hnx
              clear hsame HR HS KC hcell HRS
              obtain ⟨A2, cc, rfl⟩ := hinv.own.form
              have y0 := hinv.x0
              have y1 := hinv.x1
              have y2 := hinv.x2
              have hsz := hinv.size
              have HI := Lib.hid hinv
              have KF : Hid (Calls Tryd.prog 24 #[.agg #[.string (nmT s), .int .i64 ((x : Int) - 48), .slice A2 (rowsS (s.extract 3 s.size)).length cc]] wr fun e w' => e = .returned (.string (fmtT (nmT s) ((x : Int) - 48) (rowsS (s.extract 3 s.size)))) ∧ Below wr.heap.size wr w') := spec_FormatTable_any _ _ A2 _ cc _ _ wr (hinv.own.rd rfl) (Nat.le_refl _) (by omega)
              clear hinv
              have hf1 : Hid (fmtT (nmT s) ((x : Int) - 48) (rowsS (s.extract 3 s.size)) = s → parT s = ⟨nmT s, (x : Int) - 48, rowsS (s.extract 3 s.size), true⟩) := fun h => by
                have h' := parT_yes h3 (by rw [har.out]; exact h)
                rw [har.out] at h'
                exact h'
              have hf2 : Hid (¬ fmtT (nmT s) ((x : Int) - 48) (rowsS (s.extract 3 s.size)) = s → parT s = ⟨⟨#[]⟩, 0, [], false⟩) := fun h => parT_not (by rw [har.out]; exact h)
              generalize rowsS (s.extract 3 s.size) = R at *
              generalize fmtT (nmT s) ((x : Int) - 48) R = T at KF hf1 hf2
              go_wp2_with fail
              refine KF.out.mono ?_
              rintro e w6 ⟨rfl, b6⟩
              have h6 := HI.out.next b6
              have d0 := h6.x0
              have d1 := h6.x1
              have d2 := h6.x2
              have e0 := (h6.res 0 (by omega)).2
              have e1 := (h6.res 1 (by omega)).2
              have e2 := (h6.res 2 (by omega)).2
              have q0 := h6.c0
              have q1 := h6.c1
              have q2 := h6.c2
              have HQ := Lib.hid h6
              clear b6 h6 y0 y1 y2 HI KF
              by_cases hq : T = s
              · have hf := Lib.hid (hf1.out hq)
                have z1 : (T.toList == s.toList) = true := by rw [hq]; simp
                clear hq hf1 hf2
                have HF := Lib.hid (HQ.out.fin (by omega) (by omega) (.string (nmT s)) (.int .i64 ((x : Int) - 48)) (.slice A2 R.length cc))
                go_wp2_with fail
                exact bodyPost_ret (v := .tuple #[.agg #[.string (nmT s), .int .i64 ((x : Int) - 48), .slice A2 R.length cc], .bool true]) (by simp [results, Tryd.results28, go_sem, *]) rfl (TabBool.of hf.out HF.out.1 HF.out.2)
              · have hf := Lib.hid (hf2.out hq)
                have z1 := str_eq0 hq
                clear hq hf1 hf2
                have hbel := Lib.hid HQ.out.bel
                go_wp2_with fail
                refine bodyPost_ret (v := .tuple #[.agg #[.string ⟨#[]⟩, .int .i64 0, .slice none 0 0], .bool false]) (by simp [results, Tryd.results28, go_sem, *]) rfl (TabBool.of hf.out (OwnR.nil _ _ _) ?_)
                repeat first | exact hbel.out | (refine Below.setCell ?_ ?_ _; rotate_left; (simp; try omega))
        · have hn0 : (s.extract 3 s.size).size = 0 := by rw [ByteArray.size_extract]; omega
          have HRS := Lib.hid (rowsS_nil hn0)
          have hRl : (rowsS (s.extract 3 s.size)).length ≤ 40 := by rw [HRS.out]; simp
          rw [← HRS.out] at hL
          have hinv := hL
          obtain ⟨lo, hlo⟩ : ∃ lo, w.heap.size + 1 + 1 = lo := ⟨_, rfl⟩
          rw [hlo] at hinv
          have hnx : w.heap.size + 2 ≤ lo := by omega
          clear hL HRS hn0 hlo
          generalize w2 = wr at hinv ⊢
          generalize hv0 : (Value.slice none 0 0) = v at hinv
          obtain ⟨A2, cc, rfl⟩ := hinv.own.form
          have y0 := hinv.x0
          have y1 := hinv.x1
          have y2 := hinv.x2
          have hsz := hinv.size
          have HI := Lib.hid hinv
          have KF : Hid (Calls Tryd.prog 24 #[.agg #[.string (nmT s), .int .i64 ((x : Int) - 48), .slice A2 (rowsS (s.extract 3 s.size)).length cc]] wr fun e w' => e = .returned (.string (fmtT (nmT s) ((x : Int) - 48) (rowsS (s.extract 3 s.size)))) ∧ Below wr.heap.size wr w') := spec_FormatTable_any _ _ A2 _ cc _ _ wr (hinv.own.rd rfl) (Nat.le_refl _) (by omega)
          clear hinv
          have hf1 : Hid (fmtT (nmT s) ((x : Int) - 48) (rowsS (s.extract 3 s.size)) = s → parT s = ⟨nmT s, (x : Int) - 48, rowsS (s.extract 3 s.size), true⟩) := fun h => by
            have h' := parT_yes h3 (by rw [har.out]; exact h)
            rw [har.out] at h'
            exact h'
          have hf2 : Hid (¬ fmtT (nmT s) ((x : Int) - 48) (rowsS (s.extract 3 s.size)) = s → parT s = ⟨⟨#[]⟩, 0, [], false⟩) := fun h => parT_not (by rw [har.out]; exact h)
          generalize rowsS (s.extract 3 s.size) = R at *
          generalize fmtT (nmT s) ((x : Int) - 48) R = T at KF hf1 hf2
          go_wp2_with fail
          refine KF.out.mono ?_
          rintro e w6 ⟨rfl, b6⟩
          have h6 := HI.out.next b6
          have d0 := h6.x0
          have d1 := h6.x1
          have d2 := h6.x2
          have e0 := (h6.res 0 (by omega)).2
          have e1 := (h6.res 1 (by omega)).2
          have e2 := (h6.res 2 (by omega)).2
          have q0 := h6.c0
          have q1 := h6.c1
          have q2 := h6.c2
          have HQ := Lib.hid h6
          clear b6 h6 y0 y1 y2 HI KF
          by_cases hq : T = s
          · have hf := Lib.hid (hf1.out hq)
            have z1 : (T.toList == s.toList) = true := by rw [hq]; simp
            clear hq hf1 hf2
            have HF := Lib.hid (HQ.out.fin (by omega) (by omega) (.string (nmT s)) (.int .i64 ((x : Int) - 48)) (.slice A2 R.length cc))
            go_wp2_with fail
            exact bodyPost_ret (v := .tuple #[.agg #[.string (nmT s), .int .i64 ((x : Int) - 48), .slice A2 R.length cc], .bool true]) (by simp [results, Tryd.results28, go_sem, *]) rfl (TabBool.of hf.out HF.out.1 HF.out.2)
          · have hf := Lib.hid (hf2.out hq)
            have z1 := str_eq0 hq
            clear hq hf1 hf2
            have hbel := Lib.hid HQ.out.bel
            go_wp2_with fail
            refine bodyPost_ret (v := .tuple #[.agg #[.string ⟨#[]⟩, .int .i64 0, .slice none 0 0], .bool false]) (by simp [results, Tryd.results28, go_sem, *]) rfl (TabBool.of hf.out (OwnR.nil _ _ _) ?_)
            repeat first | exact hbel.out | (refine Below.setCell ?_ ?_ _; rotate_left; (simp; try omega))
    · have h8' : 40 < s.size := by omega
      have hf := Lib.hid (parT_not (s := s) fun h => by have := parT_short h3 h; omega)
      clear h40
      go_enter Tryd.func28, Tryd.ntmps28
      go_wp2_with fail
      refine bodyPost_ret (v := .tuple #[.agg #[.string ⟨#[]⟩, .int .i64 0, .slice none 0 0], .bool false]) (by simp [results, Tryd.results28, go_sem, *]) rfl (TabBool.of hf.out (OwnR.nil _ _ _) ?_)
      repeat (first | exact (Below.refl _ _).alloc (Nat.le_refl _) _ | (refine Below.setCell ?_ ?_ _; rotate_left; (simp; try omega)))
  · have h3' : s.size < 3 := by omega
    have hf := Lib.hid (parT_no h3')
    clear h3
    go_enter Tryd.func28, Tryd.ntmps28
    go_wp2_with fail
    refine bodyPost_ret (v := .tuple #[.agg #[.string ⟨#[]⟩, .int .i64 0, .slice none 0 0], .bool false]) (by simp [results, Tryd.results28, go_sem, *]) rfl (TabBool.of hf.out (OwnR.nil _ _ _) ?_)
    repeat (first | exact (Below.refl _ _).alloc (Nat.le_refl _) _ | (refine Below.setCell ?_ ?_ _; rotate_left; (simp; try omega)))
end Go.Proofs.YtmojjbhjjhdpaaaDoor
