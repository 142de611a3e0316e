/- impl.SetTable. No condition but the size that the laws let in. -/
import Derived.Test.YtimlecfneibjlaaCopyD
import Derived.Test.YtimlecfneibjlaaIsDbI
import Derived.Test.YtimlecfneibjlaaDbOpP
import Derived.Deep.DeepCutAuto
namespace Go.Proofs.Ytimlecfneibjlaa
open Go.RowKit Go.Deep

set_option maxRecDepth 100000 in
set_option maxHeartbeats 4000000 in
theorem impl_SetTable_any (A A2 : Option Addr) (n c c2 B : Nat) (ts : List Tab) (tn : ByteArray) (ta : Int) (tr : List (List Int)) (w : World) (hr : RdT w B A n ts) (hB : B ≤ w.heap.size) (hn : n ≤ 1000000000) (hs : sumT ts ≤ 4294967296)
    (hr2 : RdR w B A2 tr.length tr) (hn2 : tr.length ≤ 5000000000) (hrow : ∀ r ∈ tr, r.length ≤ 17592186044416) (htn : tn.size ≤ maxLen) :
    Calls Try.prog 31 #[.agg #[.slice A n c], .agg #[.string tn, .int .i64 ta, .slice A2 tr.length c2]] w (DbBool (setR ts ⟨tn, ta, tr⟩) w) := by
  obtain ⟨i1, hi1, hz0, hz1, hz2⟩ := info_parts info_tab
  have HL := Lib.hid hr.1
  have hsm := Lib.hid hs
  have hrow' := Lib.hid hrow
  have KV : Hid (∀ W, Below w.heap.size w W → Calls Try.prog 18 #[.agg #[.slice A n c]] W fun e w' => e = .returned (.bool (validD ts)) ∧ Below W.heap.size W w') := fun W b => impl_IsValidDatabase_any A n c B ts W (RdT.belowB hr b hB) (Nat.le_trans hB b.size) hn hs
  have KT : Hid (∀ W, Below w.heap.size w W → Calls Try.prog 61 #[.agg #[.string tn, .int .i64 ta, .slice A2 tr.length c2]] W fun e w' => e = .returned (.bool (validTb ⟨tn, ta, tr⟩)) ∧ Below W.heap.size W w') := fun W b => impl_IsValidTable_any tn ta A2 tr.length c2 B tr W (RdR.belowB hr2 b hB) (Nat.le_trans hB b.size) (by omega)
  have KP : Hid (∀ W, Below w.heap.size w W → Calls Try.prog 74 #[.agg #[.slice A n c]] W (DbNew ts W)) := fun W b => copyDatabase_any A n c B ts W (RdT.belowB hr b hB) (Nat.le_trans hB b.size) hn hs
  have kn0 : Kn w [(w.heap.size, 0, .slice A n c), (w.heap.size + 1, 0, .string tn), (w.heap.size + 1, 1, .int .i64 ta), (w.heap.size + 1, 2, .slice A2 tr.length c2), (w.heap.size + 2, 0, .slice none 0 0)] (((w.alloc (.cells #[.slice A n c] 29)).alloc (.cells #[.string tn, .int .i64 ta, .slice A2 tr.length c2] 36)).alloc (.cells #[.slice none 0 0] 29)) := by
    simpa using ((((Kn.start w).box1 (.slice A n c) 29).box3 (.string tn) (.int .i64 ta) (.slice A2 tr.length c2) 36).box1 (.slice none 0 0) 29)
  clear hs hrow
  go_enter Try.func31, Try.ntmps31
  go_wp2_with fail
  have s0 : w.heap.size + 3 ≤ (((w.alloc (.cells #[.slice A n c] 29)).alloc (.cells #[.string tn, .int .i64 ta, .slice A2 tr.length c2] 36)).alloc (.cells #[.slice none 0 0] 29)).heap.size := by simp
  generalize ((w.alloc (.cells #[.slice A n c] 29)).alloc (.cells #[.string tn, .int .i64 ta, .slice A2 tr.length c2] 36)).alloc (.cells #[.slice none 0 0] 29) = w0 at kn0 s0 ⊢
  have KV0 := Lib.hid (KV.out w0 kn0.bel)
  cases hv : validD ts with
  | false =>
    have hf : Hid (setR ts ⟨tn, ta, tr⟩ = (ts, false)) := by show _ = _; rw [setR, if_neg (by rw [hv]; simp)]
    rw [hv] at KV0
    clear hv
    refine KV0.out.mono ?_
    rintro e w1 ⟨rfl, b1⟩
    have s1 := b1.size
    have kn1 := kn0.next b1
    clear kn0 b1
    obtain ⟨d0, d1, d2, d3, d4, _⟩ := kn1.all
    have KP1 := Lib.hid (KP.out w1 kn1.bel)
    go_wp2_with fail
    refine KP1.out.mono ?_
    rintro e w2 ⟨Ao, co, rfl, oo, b2⟩
    have s2 := b2.size
    have kn2 := kn1.next b2
    have HO := Lib.hid oo
    clear kn1 b2 oo d0 d1 d2 d3 d4
    obtain ⟨d0, d1, d2, d3, d4, _⟩ := kn2.all
    obtain ⟨f0, f1, f2, f3, f4, _⟩ := kn2.fall
    have HF := Lib.hid kn2.bel
    clear kn2
    go_wp2_with fail
    refine bodyPost_ret (v := .tuple #[.agg #[.slice Ao ts.length co], .bool false]) (by simp [results, Try.results31, go_sem, *]) rfl (DbBool.of hf.out ?_ ?_)
    · refine OwnD.down (lo := w1.heap.size) (OwnD.wide (hi := w2.heap.size) ?_ (by simp)) (by omega)
      repeat refine OwnD.setOff ?_ (by omega)
      exact HO.out
    · repeat first | exact HF.out | (refine Below.setCell ?_ ?_ _; rotate_left; (simp; try omega))
  | true =>
    have HV := Lib.hid hv
    rw [hv] at KV0
    clear hv
    refine KV0.out.mono ?_
    rintro e w1 ⟨rfl, b1⟩
    have s1 := b1.size
    have kn1 := kn0.next b1
    clear kn0 b1
    obtain ⟨d0, d1, d2, d3, d4, _⟩ := kn1.all
    have KT1 := Lib.hid (KT.out w1 kn1.bel)
    go_wp2_with fail
    cases hvt : validTb ⟨tn, ta, tr⟩ with
    | false =>
      have hf : Hid (setR ts ⟨tn, ta, tr⟩ = (ts, false)) := by show _ = _; rw [setR, if_neg (by rw [hvt]; simp)]
      rw [hvt] at KT1
      clear hvt
      refine KT1.out.mono ?_
      rintro e w2 ⟨rfl, b2⟩
      have s2 := b2.size
      have kn2 := kn1.next b2
      clear kn1 b2 d0 d1 d2 d3 d4
      obtain ⟨d0, d1, d2, d3, d4, _⟩ := kn2.all
      have KP2 := Lib.hid (KP.out w2 kn2.bel)
      go_wp2_with fail
      refine KP2.out.mono ?_
      rintro e w3 ⟨Ao, co, rfl, oo, b3⟩
      have s3 := b3.size
      have kn3 := kn2.next b3
      have HO := Lib.hid oo
      clear kn2 b3 oo d0 d1 d2 d3 d4
      obtain ⟨d0, d1, d2, d3, d4, _⟩ := kn3.all
      obtain ⟨f0, f1, f2, f3, f4, _⟩ := kn3.fall
      have HF := Lib.hid kn3.bel
      clear kn3
      go_wp2_with fail
      refine bodyPost_ret (v := .tuple #[.agg #[.slice Ao ts.length co], .bool false]) (by simp [results, Try.results31, go_sem, *]) rfl (DbBool.of hf.out ?_ ?_)
      · refine OwnD.down (lo := w2.heap.size) (OwnD.wide (hi := w3.heap.size) ?_ (by simp)) (by omega)
        repeat refine OwnD.setOff ?_ (by omega)
        exact HO.out
      · repeat first | exact HF.out | (refine Below.setCell ?_ ?_ _; rotate_left; (simp; try omega))
    | true =>
      have HVT := Lib.hid hvt
      rw [hvt] at KT1
      clear hvt
      refine KT1.out.mono ?_
      rintro e w2 ⟨rfl, b2⟩
      have s2 := b2.size
      have kn2 := kn1.next b2
      clear kn1 b2 d0 d1 d2 d3 d4 KT1 KV0
      obtain ⟨d0, d1, d2, d3, d4, _⟩ := kn2.all
      have ne0 : w.heap.size < w2.heap.size := by omega
      go_wp2_with fail
      clear ne0
      have hd0 : DInv w [(w.heap.size, 0, .slice A n c), (w.heap.size + 1, 0, .string tn), (w.heap.size + 1, 1, .int .i64 ta), (w.heap.size + 1, 2, .slice A2 tr.length c2), (w.heap.size + 2, 0, .slice none 0 0)] w2.heap.size (w2.heap.size + 1) [] (.slice none 0 0) (w2.alloc (.cells #[.slice none 0 0] 29)) :=
        ⟨kn2.next ((Below.refl _ _).alloc (Nat.le_refl _) (.cells #[.slice none 0 0] 29)), OwnD.nil _ _ _, by simp, by omega, by omega, by simp only [List.forall_mem_cons]; simp; omega, by simp [go_sem], by simp [go_sem]⟩
      have hsx : Hid (w.heap.size + 3 ≤ w2.heap.size) := by show _ ≤ _; omega
      clear kn2 d0 d1 d2 d3 d4
      generalize w2.alloc (.cells #[.slice none 0 0] 29) = w3 at hd0 ⊢
      go_loopw [7, 9, 24] (fun d _ i wr => ∃ (k : Nat) (v : Value), k ≤ n ∧ i = .int .i64 k ∧ d = .bool (setS ⟨tn, ta, tr⟩ (ts.take k)).1 ∧ Hid (DInv w [(w.heap.size, 0, .slice A n c), (w.heap.size + 1, 0, .string tn), (w.heap.size + 1, 1, .int .i64 ta), (w.heap.size + 1, 2, .slice A2 tr.length c2), (w.heap.size + 2, 0, .slice none 0 0)] w2.heap.size (w2.heap.size + 1) (setS ⟨tn, ta, tr⟩ (ts.take k)).2 v wr)) (fun _ _ i _ => n - (intOf i).toNat)
      case atStart => exact ⟨0, _, by omega, rfl, rfl, hd0⟩
      case round =>
        obtain ⟨k, v, hk, rfl, rfl, hinv⟩ := hrel
        clear hd0
        have hbel := Lib.hid hinv.out.kn.bel
        have hsz := hbel.out.size
        have hsl : (setS ⟨tn, ta, tr⟩ (ts.take k)).2.length ≤ 2000000000 := by
          have h1 := setS_len2 ⟨tn, ta, tr⟩ (ts.take k)
          rw [List.length_take] at h1
          omega
        by_cases hlt : k < n
        · obtain ⟨b, o, x, A', c', rfl, hb, hx, hc0, hc1, hc2, hrd, hm, hnm⟩ := RdT.at_ hr hlt
          have hts := Lib.hid (tab_small hx hsm.out)
          have HX0 := Lib.hid (setS_take (t := ⟨tn, ta, tr⟩) hx)
          have m0 := (hbel.out.cell (p := ⟨b, o + k * 3, none⟩) (by show b < _; omega)).trans hc0
          have m1 := (hbel.out.cell (p := ⟨b, o + k * 3 + 1, none⟩) (by show b < _; omega)).trans hc1
          have m2 := (hbel.out.cell (p := ⟨b, o + k * 3 + 2, none⟩) (by show b < _; omega)).trans hc2
          obtain ⟨xn, xa, xr⟩ := x
          have hrdx : Hid (RdR w B A' xr.length xr) := hrd
          have HX : Hid (setS ⟨tn, ta, tr⟩ (ts.take (k + 1)) = setF ⟨tn, ta, tr⟩ (setS ⟨tn, ta, tr⟩ (ts.take k)) ⟨xn, xa, xr⟩) := HX0
          generalize setS ⟨tn, ta, tr⟩ (ts.take k) = S at hinv hsl HX ⊢
          obtain ⟨d, acc⟩ := S
          have hW : Hid (Below wr.heap.size wr (wr.alloc (.cells #[.string xn, .int .i64 xa, .slice A' xr.length c'] 36))) := (Below.refl wr.heap.size wr).alloc (Nat.le_refl _) _
          have HI1 := Lib.hid (hinv.out.next hW.out)
          obtain ⟨d0, d1, d2, d3, d4, _⟩ := HI1.out.kn.all
          have x0 := HI1.out.x0
          have e0 : (wr.alloc (.cells #[.string xn, .int .i64 xa, .slice A' xr.length c'] 36)).cell? ⟨wr.heap.size, 0, none⟩ = some (.string xn) := by simp [go_sem]
          have e1 : (wr.alloc (.cells #[.string xn, .int .i64 xa, .slice A' xr.length c'] 36)).cell? ⟨wr.heap.size, 1, none⟩ = some (.int .i64 xa) := by simp [go_sem]
          have e2 : (wr.alloc (.cells #[.string xn, .int .i64 xa, .slice A' xr.length c'] 36)).cell? ⟨wr.heap.size, 2, none⟩ = some (.slice A' xr.length c') := by simp [go_sem]
          have hlt1 : wr.heap.size < (wr.alloc (.cells #[.string xn, .int .i64 xa, .slice A' xr.length c'] 36)).heap.size := by simp
          clear hx hc0 hc1 hc2 hrd hm HX0 HI1
          cases hl : ltN xn tn with
          | true =>
            by_cases he : xn = tn
            · cases d with
              | true =>
                have HN : Hid (setS ⟨tn, ta, tr⟩ (ts.take (k + 1)) = (true, acc)) := by show _ = _; rw [HX.out]; simp only [setF, hl]; rw [if_pos he]; simp
                have qe := (show (xn.toList == tn.toList) = true by rw [he]; simp)
                unfold ltN at hl
                clear he
                have hla0 : acc.length ≤ 2000000000 := hsl
                have HF := Lib.hid (hinv.out.next hW.out)
                go_wp2_with fail
                refine ⟨⟨k + 1, _, by omega, by go_num, by rw [HN.out], by rw [HN.out]; exact HF⟩, ?_⟩
                simp [intOf]
                omega
              | false =>
                have HN : Hid (setS ⟨tn, ta, tr⟩ (ts.take (k + 1)) = (false, acc)) := by show _ = _; rw [HX.out]; simp only [setF, hl]; rw [if_pos he]; simp
                have qe := (show (xn.toList == tn.toList) = true by rw [he]; simp)
                unfold ltN at hl
                clear he
                have hla0 : acc.length ≤ 2000000000 := hsl
                have HF := Lib.hid (hinv.out.next hW.out)
                go_wp2_with fail
                refine ⟨⟨k + 1, _, by omega, by go_num, by rw [HN.out], by rw [HN.out]; exact HF⟩, ?_⟩
                simp [intOf]
                omega
            · cases d with
              | true =>
                have HN : Hid (setS ⟨tn, ta, tr⟩ (ts.take (k + 1)) = (true, acc ++ [⟨xn, xa, xr⟩])) := by show _ = _; rw [HX.out]; simp only [setF, hl]; rw [if_neg he]; simp
                have qe := str_eq0 he
                unfold ltN at hl
                clear he
                have hla0 : acc.length ≤ 2000000000 := hsl
                have KX : Hid (∀ U, Below (wr.alloc (.cells #[.string xn, .int .i64 xa, .slice A' xr.length c'] 36)).heap.size (wr.alloc (.cells #[.string xn, .int .i64 xa, .slice A' xr.length c'] 36)) U → Calls Try.prog 66 #[.agg #[.string xn, .int .i64 xa, .slice A' xr.length c']] U (TabNew xn xa xr U)) := fun U b =>
                  copyTable_any xn xa A' xr.length c' B xr U (RdR.belowB hrdx.out (((hbel.out.trans (hW.out.mono hsz))).trans (b.mono ((hbel.out.trans (hW.out.mono hsz))).size)) hB) (Nat.le_trans hB (Nat.le_trans ((hbel.out.trans (hW.out.mono hsz))).size b.size)) hts.out.1 hts.out.2
                go_wp2_with fail
                generalize wr.alloc (.cells #[.string xn, .int .i64 xa, .slice A' xr.length c'] 36) = W1 at hW e0 e1 e2 hlt1 d0 d1 d2 d3 d4 x0 KX ⊢
                go_region_law (first
                    | (go_simp; go_at_call 66; refine (KX.out _ ((Below.refl _ _).drew)).mono ?_; rintro e w1 ⟨A1, c1, rfl, ho1, hb1⟩
                       have hb2 : Below W1.heap.size W1 w1 := ((Below.refl _ _).drew).trans hb1
                       have hb3 : Below wr.heap.size wr w1 := (hW.out).trans (hb2.mono (hW.out).size)
                       have hsw := Lib.hid hb2.size
                       obtain ⟨xs, hrow, n2, happ⟩ := hinv.out.app (nm := xn) (ar := xa) hb3 ho1 (hW.out).size (Nat.le_refl _) hnm
                       have hx1 : w2.heap.size < w1.heap.size := Nat.lt_of_lt_of_le (Nat.lt_of_lt_of_le hinv.out.hxb hinv.out.size) hb3.size
                       have HA := Lib.hid happ
                       clear hb3 hb2 ho1 hb1 happ)
                    | (refine step_append_lies _ (by rfl) (.tmp 50) (.tmp 53) _ (by rfl) 0 36 i1 _ 3 48 Try.underlying27 hi1 hz0 hz1 hz2 (by rfl) (by omega) _ (acc).length xs (by rfl) hrow ⟨w1.heap.size, 0, none⟩ 1 1 [.string xn, .int .i64 xa, .slice A1 xr.length c1] (by rfl) rfl (World.news_of_block (cs := #[.string xn, .int .i64 xa, .slice A1 xr.length c1]) (t := 36) (fr := (0, 0)) (heap_alloc_new w1 _)) (by simp [Value.oneCell']) (by omega) (by unfold maxLen; omega) (by omega) (Nat.zero_le _) (w1.heap.size + 1) (by simp) ?_; intro g cap w2 hown2 hgrow hat hlt2
                       obtain ⟨n2, n3, hF, hcl, hsz2⟩ := HA.out g cap w2 hown2 hgrow hat
                       have HF := Lib.hid hF
                       have hsZ := Lib.hid (Nat.le_trans hsw.out hsz2)
                       clear hown2 hgrow hat hF hcl hsz2)
                    | fail)
                all_goals (
                  go_wp2_with fail
                  refine ⟨⟨k + 1, _, by omega, by go_num, by rw [HN.out], by rw [HN.out]; exact HF⟩, ?_⟩
                  simp [intOf]
                  omega)
              | false =>
                have HN : Hid (setS ⟨tn, ta, tr⟩ (ts.take (k + 1)) = (false, acc ++ [⟨xn, xa, xr⟩])) := by show _ = _; rw [HX.out]; simp only [setF, hl]; rw [if_neg he]; simp
                have qe := str_eq0 he
                unfold ltN at hl
                clear he
                have hla0 : acc.length ≤ 2000000000 := hsl
                have KX : Hid (∀ U, Below (wr.alloc (.cells #[.string xn, .int .i64 xa, .slice A' xr.length c'] 36)).heap.size (wr.alloc (.cells #[.string xn, .int .i64 xa, .slice A' xr.length c'] 36)) U → Calls Try.prog 66 #[.agg #[.string xn, .int .i64 xa, .slice A' xr.length c']] U (TabNew xn xa xr U)) := fun U b =>
                  copyTable_any xn xa A' xr.length c' B xr U (RdR.belowB hrdx.out (((hbel.out.trans (hW.out.mono hsz))).trans (b.mono ((hbel.out.trans (hW.out.mono hsz))).size)) hB) (Nat.le_trans hB (Nat.le_trans ((hbel.out.trans (hW.out.mono hsz))).size b.size)) hts.out.1 hts.out.2
                go_wp2_with fail
                generalize wr.alloc (.cells #[.string xn, .int .i64 xa, .slice A' xr.length c'] 36) = W1 at hW e0 e1 e2 hlt1 d0 d1 d2 d3 d4 x0 KX ⊢
                go_region_law (first
                    | (go_simp; go_at_call 66; refine (KX.out _ ((Below.refl _ _).drew)).mono ?_; rintro e w1 ⟨A1, c1, rfl, ho1, hb1⟩
                       have hb2 : Below W1.heap.size W1 w1 := ((Below.refl _ _).drew).trans hb1
                       have hb3 : Below wr.heap.size wr w1 := (hW.out).trans (hb2.mono (hW.out).size)
                       have hsw := Lib.hid hb2.size
                       obtain ⟨xs, hrow, n2, happ⟩ := hinv.out.app (nm := xn) (ar := xa) hb3 ho1 (hW.out).size (Nat.le_refl _) hnm
                       have hx1 : w2.heap.size < w1.heap.size := Nat.lt_of_lt_of_le (Nat.lt_of_lt_of_le hinv.out.hxb hinv.out.size) hb3.size
                       have HA := Lib.hid happ
                       clear hb3 hb2 ho1 hb1 happ)
                    | (refine step_append_lies _ (by rfl) (.tmp 50) (.tmp 53) _ (by rfl) 0 36 i1 _ 3 48 Try.underlying27 hi1 hz0 hz1 hz2 (by rfl) (by omega) _ (acc).length xs (by rfl) hrow ⟨w1.heap.size, 0, none⟩ 1 1 [.string xn, .int .i64 xa, .slice A1 xr.length c1] (by rfl) rfl (World.news_of_block (cs := #[.string xn, .int .i64 xa, .slice A1 xr.length c1]) (t := 36) (fr := (0, 0)) (heap_alloc_new w1 _)) (by simp [Value.oneCell']) (by omega) (by unfold maxLen; omega) (by omega) (Nat.zero_le _) (w1.heap.size + 1) (by simp) ?_; intro g cap w2 hown2 hgrow hat hlt2
                       obtain ⟨n2, n3, hF, hcl, hsz2⟩ := HA.out g cap w2 hown2 hgrow hat
                       have HF := Lib.hid hF
                       have hsZ := Lib.hid (Nat.le_trans hsw.out hsz2)
                       clear hown2 hgrow hat hF hcl hsz2)
                    | fail)
                all_goals (
                  go_wp2_with fail
                  refine ⟨⟨k + 1, _, by omega, by go_num, by rw [HN.out], by rw [HN.out]; exact HF⟩, ?_⟩
                  simp [intOf]
                  omega)
          | false =>
            by_cases he : xn = tn
            · cases d with
              | true =>
                have HN : Hid (setS ⟨tn, ta, tr⟩ (ts.take (k + 1)) = (true, acc)) := by show _ = _; rw [HX.out]; simp only [setF, hl]; rw [if_pos he]; simp
                have qe := (show (xn.toList == tn.toList) = true by rw [he]; simp)
                unfold ltN at hl
                clear he
                have hla0 : acc.length ≤ 2000000000 := hsl
                have HF := Lib.hid (hinv.out.next hW.out)
                go_wp2_with fail
                refine ⟨⟨k + 1, _, by omega, by go_num, by rw [HN.out], by rw [HN.out]; exact HF⟩, ?_⟩
                simp [intOf]
                omega
              | false =>
                have HN : Hid (setS ⟨tn, ta, tr⟩ (ts.take (k + 1)) = (true, acc ++ [⟨tn, ta, tr⟩])) := by show _ = _; rw [HX.out]; simp only [setF, hl]; rw [if_pos he]; simp
                have qe := (show (xn.toList == tn.toList) = true by rw [he]; simp)
                unfold ltN at hl
                clear he
                have hla0 : acc.length ≤ 2000000000 := hsl
                have KC : Hid (∀ U, Below (wr.alloc (.cells #[.string xn, .int .i64 xa, .slice A' xr.length c'] 36)).heap.size (wr.alloc (.cells #[.string xn, .int .i64 xa, .slice A' xr.length c'] 36)) U → Calls Try.prog 66 #[.agg #[.string tn, .int .i64 ta, .slice A2 tr.length c2]] U (TabNew tn ta tr U)) := fun U b =>
                  copyTable_any tn ta A2 tr.length c2 B tr U (RdR.belowB hr2 (((hbel.out.trans (hW.out.mono hsz))).trans (b.mono ((hbel.out.trans (hW.out.mono hsz))).size)) hB) (Nat.le_trans hB (Nat.le_trans ((hbel.out.trans (hW.out.mono hsz))).size b.size)) hn2 hrow'.out
                go_upto_region 9 with fail
                generalize wr.alloc (.cells #[.string xn, .int .i64 xa, .slice A' xr.length c'] 36) = W1 at hW e0 e1 e2 hlt1 d0 d1 d2 d3 d4 x0 KC ⊢
                go_cut [] (fun wx => ∃ v', Hid (DInv w [(w.heap.size, 0, .slice (some ⟨b, o, none⟩) n c), (w.heap.size + 1, 0, .string tn), (w.heap.size + 1, 1, .int .i64 ta), (w.heap.size + 1, 2, .slice A2 tr.length c2), (w.heap.size + 2, 0, .slice none 0 0)] w2.heap.size (w2.heap.size + 1) (acc ++ [⟨tn, ta, tr⟩]) v' wx) ∧ Hid (wx.cell? ⟨wr.heap.size, 0, none⟩ = some (.string xn)) ∧ Hid (wx.cell? ⟨wr.heap.size, 1, none⟩ = some (.int .i64 xa)) ∧ Hid (wx.cell? ⟨wr.heap.size, 2, none⟩ = some (.slice A' xr.length c')) ∧ Hid (wr.heap.size < wx.heap.size))
                case first =>
                  go_region_law (first
                      | (go_simp; go_at_call 66; refine (KC.out _ ((Below.refl _ _).drew)).mono ?_; rintro e w1 ⟨A1, c1, rfl, ho1, hb1⟩
                         have hb2 : Below W1.heap.size W1 w1 := ((Below.refl _ _).drew).trans hb1
                         have hb3 : Below wr.heap.size wr w1 := (hW.out).trans (hb2.mono (hW.out).size)
                         have q0 : Hid (w1.cell? ⟨wr.heap.size, 0, none⟩ = some (.string xn)) := (hb2.cell (p := ⟨wr.heap.size, 0, none⟩) hlt1).trans e0
                         have q1 : Hid (w1.cell? ⟨wr.heap.size, 1, none⟩ = some (.int .i64 xa)) := (hb2.cell (p := ⟨wr.heap.size, 1, none⟩) hlt1).trans e1
                         have q2 : Hid (w1.cell? ⟨wr.heap.size, 2, none⟩ = some (.slice A' xr.length c')) := (hb2.cell (p := ⟨wr.heap.size, 2, none⟩) hlt1).trans e2
                         have hsw := Lib.hid hb2.size
                         obtain ⟨xs, hrow, n2, happ⟩ := hinv.out.app (nm := tn) (ar := ta) hb3 ho1 (hW.out).size (Nat.le_refl _) htn
                         have hx1 : w2.heap.size < w1.heap.size := Nat.lt_of_lt_of_le (Nat.lt_of_lt_of_le hinv.out.hxb hinv.out.size) hb3.size
                         have HA := Lib.hid happ
                         clear hb3 hb2 ho1 hb1 happ)
                      | (refine step_append_lies _ (by rfl) (.tmp 38) (.tmp 41) _ (by rfl) 0 36 i1 _ 3 48 Try.underlying27 hi1 hz0 hz1 hz2 (by rfl) (by omega) _ (acc).length xs (by rfl) hrow ⟨w1.heap.size, 0, none⟩ 1 1 [.string tn, .int .i64 ta, .slice A1 tr.length c1] (by rfl) rfl (World.news_of_block (cs := #[.string tn, .int .i64 ta, .slice A1 tr.length c1]) (t := 36) (fr := (0, 0)) (heap_alloc_new w1 _)) (by simp [Value.oneCell']) (by omega) (by unfold maxLen; omega) (by omega) (Nat.zero_le _) (w1.heap.size + 1) (by simp) ?_; intro g cap w2 hown2 hgrow hat hlt2
                         obtain ⟨n2, n3, hF, hcl, hsz2⟩ := HA.out g cap w2 hown2 hgrow hat
                         have q0 := Lib.hid ((hcl (wr.heap.size) 0 (Nat.le_refl _) (Nat.lt_of_lt_of_le hlt1 hsw.out)).trans q0.out)
                         have q1 := Lib.hid ((hcl (wr.heap.size) 1 (Nat.le_refl _) (Nat.lt_of_lt_of_le hlt1 hsw.out)).trans q1.out)
                         have q2 := Lib.hid ((hcl (wr.heap.size) 2 (Nat.le_refl _) (Nat.lt_of_lt_of_le hlt1 hsw.out)).trans q2.out)
                         have HF := Lib.hid hF
                         have hsZ := Lib.hid (Nat.le_trans hsw.out hsz2)
                         clear hown2 hgrow hat hF hcl hsz2)
                      | fail)
                  all_goals (go_wp2_with fail)
                  all_goals (go_meet; exact ⟨_, HF, q0, q1, q2, Nat.lt_of_lt_of_le hlt1 hsZ.out⟩)
                case rest =>
                  generalize wc = w5 at hcut ⊢
                  obtain ⟨v5, hD5, p0, p1, p2, hlt5⟩ := hcut
                  clear d0 d1 d2 d3 d4 x0 e0 e1 e2 KC
                  have HF := hD5
                  obtain ⟨d0, d1, d2, d3, d4, _⟩ := hD5.out.kn.all
                  have x0 := hD5.out.x0
                  have e0 := p0.out
                  go_wp2_with fail
                  refine ⟨⟨k + 1, _, by omega, by go_num, by rw [HN.out], by rw [HN.out]; exact HF⟩, ?_⟩
                  simp [intOf]
                  omega
            · cases d with
              | true =>
                have HN : Hid (setS ⟨tn, ta, tr⟩ (ts.take (k + 1)) = (true, acc ++ [⟨xn, xa, xr⟩])) := by show _ = _; rw [HX.out]; simp only [setF, hl]; rw [if_neg he]; simp
                have qe := str_eq0 he
                unfold ltN at hl
                clear he
                have hla0 : acc.length ≤ 2000000000 := hsl
                have KX : Hid (∀ U, Below (wr.alloc (.cells #[.string xn, .int .i64 xa, .slice A' xr.length c'] 36)).heap.size (wr.alloc (.cells #[.string xn, .int .i64 xa, .slice A' xr.length c'] 36)) U → Calls Try.prog 66 #[.agg #[.string xn, .int .i64 xa, .slice A' xr.length c']] U (TabNew xn xa xr U)) := fun U b =>
                  copyTable_any xn xa A' xr.length c' B xr U (RdR.belowB hrdx.out (((hbel.out.trans (hW.out.mono hsz))).trans (b.mono ((hbel.out.trans (hW.out.mono hsz))).size)) hB) (Nat.le_trans hB (Nat.le_trans ((hbel.out.trans (hW.out.mono hsz))).size b.size)) hts.out.1 hts.out.2
                go_wp2_with fail
                generalize wr.alloc (.cells #[.string xn, .int .i64 xa, .slice A' xr.length c'] 36) = W1 at hW e0 e1 e2 hlt1 d0 d1 d2 d3 d4 x0 KX ⊢
                go_region_law (first
                    | (go_simp; go_at_call 66; refine (KX.out _ ((Below.refl _ _).drew)).mono ?_; rintro e w1 ⟨A1, c1, rfl, ho1, hb1⟩
                       have hb2 : Below W1.heap.size W1 w1 := ((Below.refl _ _).drew).trans hb1
                       have hb3 : Below wr.heap.size wr w1 := (hW.out).trans (hb2.mono (hW.out).size)
                       have hsw := Lib.hid hb2.size
                       obtain ⟨xs, hrow, n2, happ⟩ := hinv.out.app (nm := xn) (ar := xa) hb3 ho1 (hW.out).size (Nat.le_refl _) hnm
                       have hx1 : w2.heap.size < w1.heap.size := Nat.lt_of_lt_of_le (Nat.lt_of_lt_of_le hinv.out.hxb hinv.out.size) hb3.size
                       have HA := Lib.hid happ
                       clear hb3 hb2 ho1 hb1 happ)
                    | (refine step_append_lies _ (by rfl) (.tmp 50) (.tmp 53) _ (by rfl) 0 36 i1 _ 3 48 Try.underlying27 hi1 hz0 hz1 hz2 (by rfl) (by omega) _ (acc).length xs (by rfl) hrow ⟨w1.heap.size, 0, none⟩ 1 1 [.string xn, .int .i64 xa, .slice A1 xr.length c1] (by rfl) rfl (World.news_of_block (cs := #[.string xn, .int .i64 xa, .slice A1 xr.length c1]) (t := 36) (fr := (0, 0)) (heap_alloc_new w1 _)) (by simp [Value.oneCell']) (by omega) (by unfold maxLen; omega) (by omega) (Nat.zero_le _) (w1.heap.size + 1) (by simp) ?_; intro g cap w2 hown2 hgrow hat hlt2
                       obtain ⟨n2, n3, hF, hcl, hsz2⟩ := HA.out g cap w2 hown2 hgrow hat
                       have HF := Lib.hid hF
                       have hsZ := Lib.hid (Nat.le_trans hsw.out hsz2)
                       clear hown2 hgrow hat hF hcl hsz2)
                    | fail)
                all_goals (
                  go_wp2_with fail
                  refine ⟨⟨k + 1, _, by omega, by go_num, by rw [HN.out], by rw [HN.out]; exact HF⟩, ?_⟩
                  simp [intOf]
                  omega)
              | false =>
                have HN : Hid (setS ⟨tn, ta, tr⟩ (ts.take (k + 1)) = (true, acc ++ [⟨tn, ta, tr⟩] ++ [⟨xn, xa, xr⟩])) := by show _ = _; rw [HX.out]; simp only [setF, hl]; rw [if_neg he]; simp
                have qe := str_eq0 he
                unfold ltN at hl
                clear he
                have hla0 : acc.length ≤ 2000000000 := hsl
                have KC : Hid (∀ U, Below (wr.alloc (.cells #[.string xn, .int .i64 xa, .slice A' xr.length c'] 36)).heap.size (wr.alloc (.cells #[.string xn, .int .i64 xa, .slice A' xr.length c'] 36)) U → Calls Try.prog 66 #[.agg #[.string tn, .int .i64 ta, .slice A2 tr.length c2]] U (TabNew tn ta tr U)) := fun U b =>
                  copyTable_any tn ta A2 tr.length c2 B tr U (RdR.belowB hr2 (((hbel.out.trans (hW.out.mono hsz))).trans (b.mono ((hbel.out.trans (hW.out.mono hsz))).size)) hB) (Nat.le_trans hB (Nat.le_trans ((hbel.out.trans (hW.out.mono hsz))).size b.size)) hn2 hrow'.out
                have KX : Hid (∀ U, Below (wr.alloc (.cells #[.string xn, .int .i64 xa, .slice A' xr.length c'] 36)).heap.size (wr.alloc (.cells #[.string xn, .int .i64 xa, .slice A' xr.length c'] 36)) U → Calls Try.prog 66 #[.agg #[.string xn, .int .i64 xa, .slice A' xr.length c']] U (TabNew xn xa xr U)) := fun U b =>
                  copyTable_any xn xa A' xr.length c' B xr U (RdR.belowB hrdx.out (((hbel.out.trans (hW.out.mono hsz))).trans (b.mono ((hbel.out.trans (hW.out.mono hsz))).size)) hB) (Nat.le_trans hB (Nat.le_trans ((hbel.out.trans (hW.out.mono hsz))).size b.size)) hts.out.1 hts.out.2
                go_upto_region 9 with fail
                generalize wr.alloc (.cells #[.string xn, .int .i64 xa, .slice A' xr.length c'] 36) = W1 at hW e0 e1 e2 hlt1 d0 d1 d2 d3 d4 x0 KC KX ⊢
                go_cut [] (fun wx => ∃ v', Hid (DInv w [(w.heap.size, 0, .slice (some ⟨b, o, none⟩) n c), (w.heap.size + 1, 0, .string tn), (w.heap.size + 1, 1, .int .i64 ta), (w.heap.size + 1, 2, .slice A2 tr.length c2), (w.heap.size + 2, 0, .slice none 0 0)] w2.heap.size (w2.heap.size + 1) (acc ++ [⟨tn, ta, tr⟩]) v' wx) ∧ Hid (wx.cell? ⟨wr.heap.size, 0, none⟩ = some (.string xn)) ∧ Hid (wx.cell? ⟨wr.heap.size, 1, none⟩ = some (.int .i64 xa)) ∧ Hid (wx.cell? ⟨wr.heap.size, 2, none⟩ = some (.slice A' xr.length c')) ∧ Hid (wr.heap.size < wx.heap.size))
                case first =>
                  go_region_law (first
                      | (go_simp; go_at_call 66; refine (KC.out _ ((Below.refl _ _).drew)).mono ?_; rintro e w1 ⟨A1, c1, rfl, ho1, hb1⟩
                         have hb2 : Below W1.heap.size W1 w1 := ((Below.refl _ _).drew).trans hb1
                         have hb3 : Below wr.heap.size wr w1 := (hW.out).trans (hb2.mono (hW.out).size)
                         have q0 : Hid (w1.cell? ⟨wr.heap.size, 0, none⟩ = some (.string xn)) := (hb2.cell (p := ⟨wr.heap.size, 0, none⟩) hlt1).trans e0
                         have q1 : Hid (w1.cell? ⟨wr.heap.size, 1, none⟩ = some (.int .i64 xa)) := (hb2.cell (p := ⟨wr.heap.size, 1, none⟩) hlt1).trans e1
                         have q2 : Hid (w1.cell? ⟨wr.heap.size, 2, none⟩ = some (.slice A' xr.length c')) := (hb2.cell (p := ⟨wr.heap.size, 2, none⟩) hlt1).trans e2
                         have hsw := Lib.hid hb2.size
                         obtain ⟨xs, hrow, n2, happ⟩ := hinv.out.app (nm := tn) (ar := ta) hb3 ho1 (hW.out).size (Nat.le_refl _) htn
                         have hx1 : w2.heap.size < w1.heap.size := Nat.lt_of_lt_of_le (Nat.lt_of_lt_of_le hinv.out.hxb hinv.out.size) hb3.size
                         have HA := Lib.hid happ
                         clear hb3 hb2 ho1 hb1 happ)
                      | (refine step_append_lies _ (by rfl) (.tmp 38) (.tmp 41) _ (by rfl) 0 36 i1 _ 3 48 Try.underlying27 hi1 hz0 hz1 hz2 (by rfl) (by omega) _ (acc).length xs (by rfl) hrow ⟨w1.heap.size, 0, none⟩ 1 1 [.string tn, .int .i64 ta, .slice A1 tr.length c1] (by rfl) rfl (World.news_of_block (cs := #[.string tn, .int .i64 ta, .slice A1 tr.length c1]) (t := 36) (fr := (0, 0)) (heap_alloc_new w1 _)) (by simp [Value.oneCell']) (by omega) (by unfold maxLen; omega) (by omega) (Nat.zero_le _) (w1.heap.size + 1) (by simp) ?_; intro g cap w2 hown2 hgrow hat hlt2
                         obtain ⟨n2, n3, hF, hcl, hsz2⟩ := HA.out g cap w2 hown2 hgrow hat
                         have q0 := Lib.hid ((hcl (wr.heap.size) 0 (Nat.le_refl _) (Nat.lt_of_lt_of_le hlt1 hsw.out)).trans q0.out)
                         have q1 := Lib.hid ((hcl (wr.heap.size) 1 (Nat.le_refl _) (Nat.lt_of_lt_of_le hlt1 hsw.out)).trans q1.out)
                         have q2 := Lib.hid ((hcl (wr.heap.size) 2 (Nat.le_refl _) (Nat.lt_of_lt_of_le hlt1 hsw.out)).trans q2.out)
                         have HF := Lib.hid hF
                         have hsZ := Lib.hid (Nat.le_trans hsw.out hsz2)
                         clear hown2 hgrow hat hF hcl hsz2)
                      | fail)
                  all_goals (go_wp2_with fail)
                  all_goals (go_meet; exact ⟨_, HF, q0, q1, q2, Nat.lt_of_lt_of_le hlt1 hsZ.out⟩)
                case rest =>
                  generalize wc = w5 at hcut ⊢
                  obtain ⟨v5, hD5, p0, p1, p2, hlt5⟩ := hcut
                  clear d0 d1 d2 d3 d4 x0 e0 e1 e2 KC KX
                  have hbel5 := Lib.hid hD5.out.kn.bel
                  have hla : (acc ++ [(⟨tn, ta, tr⟩ : Tab)]).length ≤ 2000000001 := by rw [List.length_append]; simp; omega
                  generalize acc ++ [(⟨tn, ta, tr⟩ : Tab)] = acc2 at hD5 HN hla
                  have KX : Hid (∀ U, Below w5.heap.size w5 U → Calls Try.prog 66 #[.agg #[.string xn, .int .i64 xa, .slice A' xr.length c']] U (TabNew xn xa xr U)) := fun U b =>
                    copyTable_any xn xa A' xr.length c' B xr U (RdR.belowB hrdx.out ((hbel5.out).trans (b.mono (hbel5.out).size)) hB) (Nat.le_trans hB (Nat.le_trans (hbel5.out).size b.size)) hts.out.1 hts.out.2
                  obtain ⟨d0, d1, d2, d3, d4, _⟩ := hD5.out.kn.all
                  have x0 := hD5.out.x0
                  have e0 := p0.out
                  have e1 := p1.out
                  have e2 := p2.out
                  have hlt1' := hlt5.out
                  go_wp2_with fail
                  go_region_law (first
                      | (go_simp; go_at_call 66; refine (KX.out _ ((Below.refl _ _).drew)).mono ?_; rintro e w1 ⟨A1, c1, rfl, ho1, hb1⟩
                         have hb2 : Below w5.heap.size w5 w1 := ((Below.refl _ _).drew).trans hb1
                         have hb3 : Below w5.heap.size w5 w1 := hb2
                         have hsw := Lib.hid hb2.size
                         obtain ⟨xs, hrow, n2, happ⟩ := hD5.out.app (nm := xn) (ar := xa) hb3 ho1 (Nat.le_refl _) (Nat.le_refl _) hnm
                         have hx1 : w2.heap.size < w1.heap.size := Nat.lt_of_lt_of_le (Nat.lt_of_lt_of_le hD5.out.hxb hD5.out.size) hb3.size
                         have HA := Lib.hid happ
                         clear hb3 hb2 ho1 hb1 happ)
                      | (refine step_append_lies _ (by rfl) (.tmp 50) (.tmp 53) _ (by rfl) 0 36 i1 _ 3 48 Try.underlying27 hi1 hz0 hz1 hz2 (by rfl) (by omega) _ (acc2).length xs (by rfl) hrow ⟨w1.heap.size, 0, none⟩ 1 1 [.string xn, .int .i64 xa, .slice A1 xr.length c1] (by rfl) rfl (World.news_of_block (cs := #[.string xn, .int .i64 xa, .slice A1 xr.length c1]) (t := 36) (fr := (0, 0)) (heap_alloc_new w1 _)) (by simp [Value.oneCell']) (by omega) (by unfold maxLen; omega) (by omega) (Nat.zero_le _) (w1.heap.size + 1) (by simp) ?_; intro g cap w2 hown2 hgrow hat hlt2
                         obtain ⟨n2, n3, hF, hcl, hsz2⟩ := HA.out g cap w2 hown2 hgrow hat
                         have HF := Lib.hid hF
                         have hsZ := Lib.hid (Nat.le_trans hsw.out hsz2)
                         clear hown2 hgrow hat hF hcl hsz2)
                      | fail)
                  all_goals (
                    go_wp2_with fail
                    refine ⟨⟨k + 1, _, by omega, by go_num, by rw [HN.out], by rw [HN.out]; exact HF⟩, ?_⟩
                    simp [intOf]
                    omega)
        · obtain rfl : k = n := by omega
          have HT := Lib.hid (show ts.take k = ts from List.take_of_length_le (Nat.le_of_eq HL.out))
          rw [HT.out] at hinv hsl ⊢
          obtain ⟨S, hS⟩ : ∃ S, S = setS ⟨tn, ta, tr⟩ ts := ⟨_, rfl⟩
          have HS := Lib.hid hS
          rw [← hS] at hinv hsl ⊢
          clear hS
          obtain ⟨d, acc⟩ := S
          have hsl : acc.length ≤ 2000000000 := hsl
          cases d with
          | true =>
            have HTs : Hid (setT ts ⟨tn, ta, tr⟩ = acc) := by show _ = _; rw [setT, ← HS.out]; simp
            generalize acc = Fl at hinv HTs hsl
            generalize wr = w6 at *
            obtain ⟨AF, cF, rfl⟩ := hinv.out.own.form
            have hD := hinv.out
            have hszD := hD.size
            obtain ⟨d0, d1, d2, d3, d4, _⟩ := hD.kn.all
            obtain ⟨f0, f1, f2, f3, f4, _⟩ := hD.kn.fall
            have x0 := hD.x0
            have hbelD := Lib.hid hD.kn.bel
            have hb3 := hsx.out
            by_cases h6 : Fl.length ≤ 6
            · have hf : Hid (setR ts ⟨tn, ta, tr⟩ = (Fl, true)) := by show _ = _; rw [setR, if_pos ⟨HV.out, HVT.out, by rw [HTs.out]; exact h6⟩, HTs.out]
              have HD := Lib.hid hD
              clear hD
              go_wp2_with fail
              refine bodyPost_ret (v := .tuple #[.agg #[.slice AF Fl.length cF], .bool true]) (by simp [results, Try.results31, go_sem, *]) rfl (DbBool.of hf.out ?_ ?_)
              · refine OwnD.down (lo := w2.heap.size + 1) (OwnD.wide (hi := w6.heap.size) ?_ (by simp)) (by omega)
                repeat refine OwnD.setOff ?_ (by omega)
                exact HD.out.own
              · repeat first | exact hbelD.out | (refine Below.setCell ?_ ?_ _; rotate_left; (simp; try omega))
            · have hf : Hid (setR ts ⟨tn, ta, tr⟩ = (ts, false)) := by show _ = _; rw [setR, if_neg (by rw [HTs.out]; omega)]
              have KP6 := Lib.hid (KP.out w6 hbelD.out)
              have kn6 := hD.kn
              clear hD
              go_wp2_with fail
              refine KP6.out.mono ?_
              rintro e w7 ⟨Ao, co, rfl, oo, b7⟩
              have s7 := b7.size
              have kn7 := kn6.next b7
              have HO := Lib.hid oo
              clear kn6 b7 oo d0 d1 d2 d3 d4 f0 f1 f2 f3 f4 x0
              obtain ⟨d0, d1, d2, d3, d4, _⟩ := kn7.all
              obtain ⟨f0, f1, f2, f3, f4, _⟩ := kn7.fall
              have HF := Lib.hid kn7.bel
              clear kn7
              go_wp2_with fail
              refine bodyPost_ret (v := .tuple #[.agg #[.slice Ao ts.length co], .bool false]) (by simp [results, Try.results31, go_sem, *]) rfl (DbBool.of hf.out ?_ ?_)
              · refine OwnD.down (lo := w6.heap.size) (OwnD.wide (hi := w7.heap.size) ?_ (by simp)) (by omega)
                repeat refine OwnD.setOff ?_ (by omega)
                exact HO.out
              · repeat first | exact HF.out | (refine Below.setCell ?_ ?_ _; rotate_left; (simp; try omega))
          | false =>
            have HTs : Hid (setT ts ⟨tn, ta, tr⟩ = acc ++ [⟨tn, ta, tr⟩]) := by show _ = _; rw [setT, ← HS.out]; simp
            have KC : Hid (∀ U, Below wr.heap.size wr U → Calls Try.prog 66 #[.agg #[.string tn, .int .i64 ta, .slice A2 tr.length c2]] U (TabNew tn ta tr U)) := fun U b =>
              copyTable_any tn ta A2 tr.length c2 B tr U (RdR.belowB hr2 ((hbel.out).trans (b.mono (hbel.out).size)) hB) (Nat.le_trans hB (Nat.le_trans (hbel.out).size b.size)) hn2 hrow'.out
            obtain ⟨d0, d1, d2, d3, d4, _⟩ := hinv.out.kn.all
            have x0 := hinv.out.x0
            go_upto_region 15 with fail
            go_cut [] (fun wx => ∃ v', Hid (DInv w [(w.heap.size, 0, .slice A k c), (w.heap.size + 1, 0, .string tn), (w.heap.size + 1, 1, .int .i64 ta), (w.heap.size + 1, 2, .slice A2 tr.length c2), (w.heap.size + 2, 0, .slice none 0 0)] w2.heap.size (w2.heap.size + 1) (acc ++ [⟨tn, ta, tr⟩]) v' wx))
            case first =>
              go_region_law (first
                  | (go_simp; go_at_call 66; refine (KC.out _ ((Below.refl _ _).drew)).mono ?_; rintro e w1 ⟨A1, c1, rfl, ho1, hb1⟩
                     have hb2 : Below wr.heap.size wr w1 := ((Below.refl _ _).drew).trans hb1
                     have hb3 : Below wr.heap.size wr w1 := hb2
                     have hsw := Lib.hid hb2.size
                     obtain ⟨xs, hrow, n2, happ⟩ := hinv.out.app (nm := tn) (ar := ta) hb3 ho1 (Nat.le_refl _) (Nat.le_refl _) htn
                     have hx1 : w2.heap.size < w1.heap.size := Nat.lt_of_lt_of_le (Nat.lt_of_lt_of_le hinv.out.hxb hinv.out.size) hb3.size
                     have HA := Lib.hid happ
                     clear hb3 hb2 ho1 hb1 happ)
                  | (refine step_append_lies _ (by rfl) (.tmp 60) (.tmp 63) _ (by rfl) 0 36 i1 _ 3 48 Try.underlying27 hi1 hz0 hz1 hz2 (by rfl) (by omega) _ (acc).length xs (by rfl) hrow ⟨w1.heap.size, 0, none⟩ 1 1 [.string tn, .int .i64 ta, .slice A1 tr.length c1] (by rfl) rfl (World.news_of_block (cs := #[.string tn, .int .i64 ta, .slice A1 tr.length c1]) (t := 36) (fr := (0, 0)) (heap_alloc_new w1 _)) (by simp [Value.oneCell']) (by omega) (by unfold maxLen; omega) (by omega) (Nat.zero_le _) (w1.heap.size + 1) (by simp) ?_; intro g cap w2 hown2 hgrow hat hlt2
                     obtain ⟨n2, n3, hF, hcl, hsz2⟩ := HA.out g cap w2 hown2 hgrow hat
                     have HF := Lib.hid hF
                     have hsZ := Lib.hid (Nat.le_trans hsw.out hsz2)
                     clear hown2 hgrow hat hF hcl hsz2)
                  | fail)
              all_goals (go_wp2_with fail)
              all_goals (go_meet; exact ⟨_, HF⟩)
            case rest =>
              generalize wc = w6 at hcut ⊢
              obtain ⟨v6, hD6⟩ := hcut
              clear d0 d1 d2 d3 d4 x0
              generalize acc ++ [(⟨tn, ta, tr⟩ : Tab)] = Fl at hD6 HTs
              obtain ⟨AF, cF, rfl⟩ := hD6.out.own.form
              have hD := hD6.out
              have hszD := hD.size
              obtain ⟨d0, d1, d2, d3, d4, _⟩ := hD.kn.all
              obtain ⟨f0, f1, f2, f3, f4, _⟩ := hD.kn.fall
              have x0 := hD.x0
              have hbelD := Lib.hid hD.kn.bel
              have hb3 := hsx.out
              by_cases h6 : Fl.length ≤ 6
              · have hf : Hid (setR ts ⟨tn, ta, tr⟩ = (Fl, true)) := by show _ = _; rw [setR, if_pos ⟨HV.out, HVT.out, by rw [HTs.out]; exact h6⟩, HTs.out]
                have HD := Lib.hid hD
                clear hD
                go_wp2_with fail
                refine bodyPost_ret (v := .tuple #[.agg #[.slice AF Fl.length cF], .bool true]) (by simp [results, Try.results31, go_sem, *]) rfl (DbBool.of hf.out ?_ ?_)
                · refine OwnD.down (lo := w2.heap.size + 1) (OwnD.wide (hi := w6.heap.size) ?_ (by simp)) (by omega)
                  repeat refine OwnD.setOff ?_ (by omega)
                  exact HD.out.own
                · repeat first | exact hbelD.out | (refine Below.setCell ?_ ?_ _; rotate_left; (simp; try omega))
              · have hf : Hid (setR ts ⟨tn, ta, tr⟩ = (ts, false)) := by show _ = _; rw [setR, if_neg (by rw [HTs.out]; omega)]
                have KP6 := Lib.hid (KP.out w6 hbelD.out)
                have kn6 := hD.kn
                clear hD
                go_wp2_with fail
                refine KP6.out.mono ?_
                rintro e w7 ⟨Ao, co, rfl, oo, b7⟩
                have s7 := b7.size
                have kn7 := kn6.next b7
                have HO := Lib.hid oo
                clear kn6 b7 oo d0 d1 d2 d3 d4 f0 f1 f2 f3 f4 x0
                obtain ⟨d0, d1, d2, d3, d4, _⟩ := kn7.all
                obtain ⟨f0, f1, f2, f3, f4, _⟩ := kn7.fall
                have HF := Lib.hid kn7.bel
                clear kn7
                go_wp2_with fail
                refine bodyPost_ret (v := .tuple #[.agg #[.slice Ao ts.length co], .bool false]) (by simp [results, Try.results31, go_sem, *]) rfl (DbBool.of hf.out ?_ ?_)
                · refine OwnD.down (lo := w6.heap.size) (OwnD.wide (hi := w7.heap.size) ?_ (by simp)) (by omega)
                  repeat refine OwnD.setOff ?_ (by omega)
                  exact HO.out
                · repeat first | exact HF.out | (refine Below.setCell ?_ ?_ _; rotate_left; (simp; try omega))
end Go.Proofs.Ytimlecfneibjlaa
