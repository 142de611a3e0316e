/- spec.DeleteRow. No condition but the size that the laws let in. -/
import Derived.Test.YtimlecfneibjlaaCopyS
import Derived.Test.YtimlecfneibjlaaDel
namespace Go.Proofs.Ytimlecfneibjlaa
open Go.RowKit Go.Deep

theorem LInv.qt {w W W' : World} {tb rb xb lo : Nat} {t0 t1 t2 x0 x1 v : Value} {R : List (List Int)} (h : LInv w tb rb xb lo t0 t1 t2 x0 x1 R v W) (q : Qt W W') : LInv w tb rb xb lo t0 t1 t2 x0 x1 R v W' := h.next (q.below _)

set_option maxRecDepth 100000 in
set_option maxHeartbeats 4000000 in
theorem spec_DeleteRow_any (nm : ByteArray) (ar : Int) (A A' : Option Addr) (n c n' c' B : Nat) (rs : List (List Int)) (r : List Int) (w : World) (hr : RdR w B A n rs) (hr' : RdI w B A' n' r) (hB : B ≤ w.heap.size) (hn : n ≤ 5000000000) (hn' : n' ≤ 9223372036854775806) (hrow : ∀ r ∈ rs, r.length ≤ 17592186044416) :
    Calls Try.prog 98 #[.agg #[.string nm, .int .i64 ar, .slice A n c], .slice A' n' c'] w (TabBool (delR nm ar rs r) w) := by
  obtain ⟨i0, hi, hz0, hz1, hz2⟩ := info_parts info_int
  obtain ⟨i1, hi', hz0', hz1', hz2'⟩ := info_parts info_row
  have HL := Lib.hid hr.1
  have hrow' := Lib.hid hrow
  clear hrow
  have kn0 : Kn w [(w.heap.size, 0, .string nm), (w.heap.size, 1, .int .i64 ar), (w.heap.size, 2, .slice A n c), (w.heap.size + 1, 0, .string { data := #[] }), (w.heap.size + 1, 1, .int .i64 0), (w.heap.size + 1, 2, .slice none 0 0)]
      ((w.alloc (.cells #[.string nm, .int .i64 ar, .slice A n c] 36)).alloc (.cells #[.string { data := #[] }, .int .i64 0, .slice none 0 0] 36)) := by
    simpa using ((Kn.start w).box3 (.string nm) (.int .i64 ar) (.slice A n c) 36).box3 (.string { data := #[] }) (.int .i64 0) (.slice none 0 0) 36
  go_enter Try.func98, Try.ntmps98
  go_wp2_with fail
  have s0 : w.heap.size + 2 ≤ ((w.alloc (.cells #[.string nm, .int .i64 ar, .slice A n c] 36)).alloc (.cells #[.string { data := #[] }, .int .i64 0, .slice none 0 0] 36)).heap.size := by simp
  generalize (w.alloc (.cells #[.string nm, .int .i64 ar, .slice A n c] 36)).alloc (.cells #[.string { data := #[] }, .int .i64 0, .slice none 0 0] 36) = w0 at kn0 s0 ⊢
  with_reducible refine (l4Copy_any nm ar A n c B rs w0 (RdR.belowB hr kn0.bel hB) (Nat.le_trans hB kn0.bel.size) hn hrow'.out).mono ?_
  rintro e w1 ⟨Ao, co, rfl, oo, b1⟩
  have s1 := b1.size
  have kn1 := kn0.next b1
  clear kn0 b1
  obtain ⟨d0, d1, d2, d3, d4, d5, _⟩ := kn1.all
  have ne0 : w.heap.size < w1.heap.size := by omega
  have ne1 : w.heap.size + 1 < w1.heap.size := by omega
  go_wp2_with fail
  clear ne0 ne1
  have kn2 : Kn w [(w.heap.size, 0, .string nm), (w.heap.size, 1, .int .i64 ar), (w.heap.size, 2, .slice A n c), (w.heap.size + 1, 0, .string { data := #[] }), (w.heap.size + 1, 1, .int .i64 0), (w.heap.size + 1, 2, .slice none 0 0), (w1.heap.size, 0, .string nm), (w1.heap.size, 1, .int .i64 ar), (w1.heap.size, 2, .slice Ao rs.length co)]
      (w1.alloc (.cells #[.string nm, .int .i64 ar, .slice Ao rs.length co] 36)) := kn1.box3 (.string nm) (.int .i64 ar) (.slice Ao rs.length co) 36
  have s2 : w1.heap.size + 1 ≤ (w1.alloc (.cells #[.string nm, .int .i64 ar, .slice Ao rs.length co] 36)).heap.size := by simp
  have oo2 := oo.below ((Below.refl _ _).alloc (Nat.le_refl _) (.cells #[.string nm, .int .i64 ar, .slice Ao rs.length co] 36)) (Nat.le_refl _)
  clear oo kn1 d0 d1 d2 d3 d4 d5
  generalize w1.alloc (.cells #[.string nm, .int .i64 ar, .slice Ao rs.length co] 36) = w2 at kn2 s2 oo2 ⊢
  have KC := Lib.hid (spec_ContainsRow_any nm ar A A' n c n' c' B rs r w2 (RdR.belowB hr kn2.bel hB) (hr'.belowB kn2.bel hB) (Nat.le_trans hB kn2.bel.size) (by omega) hn')
  obtain ⟨d0, d1, d2, d3, d4, d5, d6, d7, d8, _⟩ := kn2.all
  cases hcont : contB nm ar rs r with
  | false =>
    have hf : Hid (delR nm ar rs r = ⟨nm, ar, rs, false⟩) := by show _ = _; rw [delR, if_neg (by simp [hcont])]
    rw [hcont] at KC
    clear hcont
    refine KC.out.mono ?_
    rintro e w3 ⟨rfl, b3⟩
    have s3 := b3.size
    have oo3 := oo2.below b3 (by omega)
    have kn3 := kn2.next b3
    clear kn2 b3 oo2 d0 d1 d2 d3 d4 d5 d6 d7 d8
    obtain ⟨d0, d1, d2, d3, d4, d5, d6, d7, d8, _⟩ := kn3.all
    obtain ⟨f0, f1, f2, f3, f4, f5, f6, f7, f8, _⟩ := kn3.fall
    have hbel := Lib.hid kn3.bel
    have HO := Lib.hid oo3
    have nn : ¬ w1.heap.size = w.heap.size + 1 := by omega
    clear kn3 oo3
    go_wp2_with fail
    refine bodyPost_ret (v := .tuple #[.agg #[.string nm, .int .i64 ar, .slice Ao rs.length co], .bool false]) (by simp [results, Try.results98, go_sem, *]) rfl (TabBool.of hf.out ?_ ?_)
    · refine OwnR.down (lo := w0.heap.size) (OwnR.wide (hi := w1.heap.size) ?_ (by simp; omega)) (by omega)
      repeat refine OwnR.setLow ?_ (by omega)
      exact HO.out
    · repeat first | exact hbel.out | (refine Below.setCell ?_ ?_ _; rotate_left; (simp; try omega))
  | true =>
    have hf : Hid (delR nm ar rs r = ⟨nm, ar, rs.filter fun x => decide (¬ x = r), true⟩) := by show _ = _; rw [delR, if_pos hcont]
    rw [hcont] at KC
    clear hcont oo2
    refine KC.out.mono ?_
    rintro e w3 ⟨rfl, b3⟩
    have s3 := b3.size
    have kn3 := kn2.next b3
    clear kn2 b3 d0 d1 d2 d3 d4 d5 d6 d7 d8
    obtain ⟨d0, d1, d2, d3, d4, d5, d6, d7, d8, _⟩ := kn3.all
    obtain ⟨f0, f1, f2, f3, f4, f5, f6, f7, f8, _⟩ := kn3.fall
    have hbel := Lib.hid kn3.bel
    have ne0 : w.heap.size < w3.heap.size := by omega
    have ne1 : w.heap.size + 1 < w3.heap.size := by omega
    have ne2 : w1.heap.size < w3.heap.size := by omega
    have nn : ¬ w1.heap.size = w.heap.size + 1 := by omega
    have nm' : ¬ w1.heap.size = w.heap.size := by omega
    clear kn3
    go_wp2_with fail
    go_loopw [7] (fun i wr => ∃ (k : Nat) (v : Value), k ≤ n ∧ i = .int .i64 k ∧ LInv w w.heap.size (w.heap.size + 1) w1.heap.size (w1.heap.size + 1) (.string nm) (.int .i64 ar) (.slice A n c) (.string nm) (.int .i64 ar) ((rs.take k).filter fun x => decide (¬ x = r)) v wr) (fun i _ => n - (intOf i).toNat)
    case atStart =>
      refine ⟨0, .slice (some ⟨w3.heap.size, 0, none⟩) 0 0, by omega, rfl, ?_⟩
      have hhs : (w3.setCell ⟨w1.heap.size, 2, none⟩ (.slice (some ⟨w3.heap.size, 0, none⟩) 0 0)).heap.size = w3.heap.size := by simp [World.setCell]
      have hO := OwnR.empty (w3.setCell ⟨w1.heap.size, 2, none⟩ (.slice (some ⟨w3.heap.size, 0, none⟩) 0 0)) (lo := w1.heap.size + 1) (by rw [hhs]; omega)
      rw [hhs] at hO
      refine ⟨hO, (hbel.out.setCell (show w.heap.size ≤ w1.heap.size by omega) _).alloc (by rw [hhs]; omega) _, by simp [World.setCell]; omega, by omega, by omega, by omega, by omega, by omega, by omega, ?_, ?_, ?_, ?_, ?_, ?_, ?_, fun i hi => ?_⟩
      all_goals first
        | (have : i = 0 ∨ i = 1 ∨ i = 2 := by omega
           rcases this with rfl | rfl | rfl <;> simp [go_sem, *])
        | simp [go_sem, *]
    case round =>
      obtain ⟨k, v, hk, rfl, hinv⟩ := hrel
      have c2 := hinv.c2
      by_cases hlt : k < n
      · obtain ⟨b, o, x, A1, c1, rfl, hb, hx, hc, hrd, _⟩ := RdR.at_ (RdR.more hr hB) hlt
        have hbel' := hinv.bel
        have hsz := hinv.size
        have hc1 := (hbel'.cell (p := ⟨b, o + k, none⟩) hb).trans hc
        have hrd1 := (hrd.below hbel').more (show w.heap.size ≤ wr.heap.size by omega)
        have KE := Lib.hid (spec_CompareRows_q A1 A' x.length c1 n' c' x r wr hrd1 ((hr'.belowB hbel' hB).more (by omega)) (by have := hrow'.out x (List.mem_of_getElem? hx); omega) (by omega))
        have g1 : (0 : Int) ≤ (k : Int) := by omega
        have g2 : (k : Int) < (n : Int) := by omega
        have g3 : (k : Int).toNat = k := by omega
        have hxl := hrow'.out x (List.mem_of_getElem? hx)
        have HX := Lib.hid (show rs.take (k + 1) = rs.take k ++ [x] by rw [List.take_add_one, hx]; rfl)
        have HK := Lib.hid (show ((rs.take k).filter fun x => decide (¬ x = r)).length ≤ k from Nat.le_trans (List.length_filter_le _ _) (by rw [List.length_take]; omega))
        by_cases he : x = r
        · have hcz := Lib.hid (cmpL_zero.2 he)
          have HE : Hid ((rs.take (k + 1)).filter (fun x => decide (¬ x = r)) = (rs.take k).filter fun x => decide (¬ x = r)) := by
            show _ = _
            rw [HX.out, List.filter_append, List.filter_cons_of_neg (by simp [he]), List.filter_nil, List.append_nil]
          have HI := Lib.hid hinv
          clear he hx hc hrd hrd1 hbel' hinv
          go_wp2_with fail
          refine KE.out.mono ?_
          rintro e w4 ⟨rfl, hq⟩
          rw [hcz.out]
          have HF := Lib.hid (HI.out.qt hq)
          clear hq
          go_wp2_with fail
          refine ⟨⟨k + 1, v, by omega, by go_num, by rw [HE.out]; exact HF.out⟩, ?_⟩
          simp [intOf]
          omega
        · obtain ⟨y, hy⟩ : ∃ y, y = cmpL x r := ⟨_, rfl⟩
          have hy0 : (y != 0) = true := by rw [hy]; simpa using mt cmpL_zero.1 he
          have HE : Hid ((rs.take (k + 1)).filter (fun x => decide (¬ x = r)) = ((rs.take k).filter fun x => decide (¬ x = r)) ++ [x]) := by
            show _ = _
            rw [HX.out, List.filter_append, List.filter_cons_of_pos (by simp [he]), List.filter_nil]
          rw [← hy] at KE
          clear hy he hx hc hrd hbel'
          generalize hR : ((rs.take k).filter fun x => decide (¬ x = r)) = R at hinv HE HK
          obtain ⟨m, hm⟩ : ∃ m, R.length = m := ⟨_, rfl⟩
          have hmk : m ≤ k := by rw [← hm]; exact HK.out
          have HM := Lib.hid hm
          clear hR hm
          go_wp2_with fail
          refine KE.out.mono ?_
          rintro e w4 ⟨rfl, hq⟩
          have hb4 := hq.below wr.heap.size
          have hinv4 := hinv.next hb4
          have hrd4 := Lib.hid (hrd1.below hb4 |>.more hb4.size)
          have hc4 := (hb4.cell (p := ⟨b, o + k, none⟩) (by show b < _; omega)).trans hc1
          clear hinv hq hb4 hrd1 hc1 c2 hsz
          have hsz := hinv4.size
          have c2 := hinv4.c2
          have x2 := hinv4.x2
          have fx := hinv4.fx
          have l0 : b < w4.heap.size := by omega
          have l1 : w.heap.size < w4.heap.size := by omega
          have l2 : w1.heap.size < w4.heap.size := by omega
          have HI := Lib.hid hinv4
          clear hinv4
          go_wp2_with fail
          go_region_law (first
              | (refine step_append_src _ (by rfl) (.tmp 34) (.tmp 39) _ (by rfl) 3 i0 _ 8 Try.underlying59 hi hz0 hz1 hz2 (by rfl) (.slice (some ⟨w4.heap.size, 0, none⟩) 0 0) 0 [] (by rfl) (own_at (heap_alloc_new w4 _)) A1 x.length c1 (x.map iv) (by rfl) (hrd4.out.below ((Below.refl _ _).alloc (Nat.le_refl _) _)).src (by simp [iv, Value.oneCell']) (by unfold maxLen; omega) (by omega) ?_; intro v1 w5 hown1 hgrow1 hat1
                 obtain ⟨A2, c2', rfl, ho1⟩ := own_of_copy (w := w4) hown1 (hat_ge hat1 (by simp))
                 have hb1 : Below w4.heap.size w4 w5 := ((Below.refl w4.heap.size w4).alloc (Nat.le_refl _) (.cells #[] 3)).drew.grown hgrow1 (by simp) (fun j hj => by simp [Value.ownBlock] at hj; omega)
                 obtain ⟨xs, hrow1, hblk, hclose⟩ := (HI.out.own.below hb1 (Nat.le_refl _)).open_
                 rw [HM.out] at hrow1
                 have m1 : w5.cell? ⟨w.heap.size, 2, none⟩ = some (.slice (some ⟨b, o, none⟩) n c) := (hb1.cell (p := ⟨w.heap.size, 2, none⟩) l1).trans c2
                 have m2 : w5.cell? ⟨b, o + k, none⟩ = some (.slice A1 x.length c1) := (hb1.cell (p := ⟨b, o + k, none⟩) l0).trans hc4
                 have m3 : w5.cell? ⟨w1.heap.size, 2, none⟩ = some v := (hb1.cell (p := ⟨w1.heap.size, 2, none⟩) l2).trans x2
                 have hs1 := hb1.size
                 have l0' : b < w5.heap.size := by omega
                 have l1' : w.heap.size < w5.heap.size := by omega
                 have l2' : w1.heap.size < w5.heap.size := by omega
                 have HC := Lib.hid hclose
                 have HBK := Lib.hid hblk
                 have HO := Lib.hid ho1
                 have HB1 := Lib.hid hb1
                 have hrow2 := hrow1.alloc (.cells #[.slice A2 x.length c2'] 59)
                 clear hown1 hgrow1 hat1 hclose hblk ho1 hb1 hrow1)
              | (refine step_append_lies _ (by rfl) (.tmp 33) (.tmp 41) _ (by rfl) 0 59 i1 _ 1 24 Try.underlying34 hi' hz0' hz1' hz2' (by rfl) (by omega) v m xs (by rfl) hrow2 ⟨w5.heap.size, 0, none⟩ 1 1 [.slice A2 x.length c2'] (by rfl) rfl (World.news_of_block (cs := #[.slice A2 x.length c2']) (t := 59) (fr := (0, 0)) (heap_alloc_new w5 _)) (by simp [Value.oneCell']) (by omega) (by unfold maxLen; omega) (by omega) (Nat.zero_le _) (w5.heap.size + 1) (by simp) ?_; intro g cap w6 hown2 hgrow hat hlt2
                 have hB2 : Below (w1.heap.size + 1) w4 w6 := ((HB1.out.mono hsz).alloc (by omega) (.cells #[.slice A2 x.length c2'] 59)).grown hgrow (by simp; omega) (fun j hj => (HBK.out j hj).1)
                 have hfin := HC.out (w5.alloc (.cells #[.slice A2 x.length c2'] 59)) w6 A2 x c2' w4.heap.size w5.heap.size g cap ((Below.refl _ _).alloc (Nat.le_refl _) _) (HO.out.below ((Below.refl w5.heap.size w5).alloc (Nat.le_refl _) _) (Nat.le_refl _)) (Nat.le_refl _) hsz (by simp) (by simp; omega) (by rw [HM.out]; exact hown2) hgrow (hat.imp (fun h => h) (fun h => by rw [h]; simp))
                 have n2 : w6.cell? ⟨w1.heap.size, 2, none⟩ = some v := (hB2.cell (p := ⟨w1.heap.size, 2, none⟩) (Nat.lt_succ_self _)).trans x2
                 have n3 : w6.frozen? ⟨w1.heap.size, 2, none⟩ = false := (hB2.frozen (p := ⟨w1.heap.size, 2, none⟩) (Nat.lt_succ_self _)).trans fx
                 rw [← HE.out, HM.out] at hfin
                 have HF := Lib.hid (HI.out.push hB2 hfin)
                 clear hown2 hgrow hat hB2 hfin)
              | fail)
          all_goals (
            go_wp2_with fail
            refine ⟨⟨k + 1, _, by omega, by go_num, HF.out⟩, ?_⟩
            simp [intOf]
            omega)
      · obtain rfl : k = n := by omega
        have x0 := hinv.x0
        have x1 := hinv.x1
        have x2 := hinv.x2
        have hr0 := hinv.res 0 (by omega)
        have hr1 := hinv.res 1 (by omega)
        have hr2 := hinv.res 2 (by omega)
        obtain ⟨y0, hy0⟩ := Option.isSome_iff_exists.1 hr0.1
        obtain ⟨y1, hy1⟩ := Option.isSome_iff_exists.1 hr1.1
        obtain ⟨y2, hy2⟩ := Option.isSome_iff_exists.1 hr2.1
        have e0 := hr0.2
        have e1 := hr1.2
        have e2 := hr2.2
        have HT := Lib.hid (show rs.take k = rs from List.take_of_length_le (Nat.le_of_eq HL.out))
        rw [HT.out] at hinv
        obtain ⟨A1, c1, rfl⟩ := hinv.own.form
        have HF := Lib.hid (hinv.fin (by omega) (by omega) (.string nm) (.int .i64 ar) (.slice A1 (rs.filter fun x => decide (¬ x = r)).length c1))
        clear hinv hr0 hr1 hr2
        generalize hG : (rs.filter fun x => decide (¬ x = r)) = G at HF hf x2
        clear hG
        go_wp2_with fail
        exact bodyPost_ret (v := .tuple #[.agg #[.string nm, .int .i64 ar, .slice A1 G.length c1], .bool true]) (by simp [results, Try.results98, go_sem, *]) rfl (TabBool.of hf.out HF.out.1 HF.out.2)
end Go.Proofs.Ytimlecfneibjlaa
