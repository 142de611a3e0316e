/- spec.SetTable. No condition but the size that the laws let in. -/
import Derived.Test.YtimlecfneibjlaaCopyD
import Derived.Test.YtimlecfneibjlaaIsDbS
import Derived.Test.YtimlecfneibjlaaDbOpP
namespace Go.Proofs.Ytimlecfneibjlaa
open Go.RowKit Go.Deep

set_option maxRecDepth 100000 in
set_option maxHeartbeats 4000000 in
theorem spec_SetTable_any (A A2 : Option Addr) (n c c2 B : Nat) (ts : List Tab) (tn : ByteArray) (ta : Int) (tr : List (List Int)) (w : World) (hr : RdT w B A n ts) (hB : B ≤ w.heap.size) (hn : n ≤ 1000000000) (hs : sumT ts ≤ 4294967296)
    (hr2 : RdR w B A2 tr.length tr) (hn2 : tr.length ≤ 5000000000) (hrow : ∀ r ∈ tr, r.length ≤ 17592186044416) (htn : tn.size ≤ maxLen) :
    Calls Try.prog 29 #[.agg #[.slice A n c], .agg #[.string tn, .int .i64 ta, .slice A2 tr.length c2]] w (DbBool (setR ts ⟨tn, ta, tr⟩) w) := by
  obtain ⟨i1, hi1, hz0, hz1, hz2⟩ := info_parts info_tab
  have HL := Lib.hid hr.1
  have hsm := Lib.hid hs
  have hrow' := Lib.hid hrow
  have KV : Hid (∀ W, Below w.heap.size w W → Calls Try.prog 16 #[.agg #[.slice A n c]] W fun e w' => e = .returned (.bool (validD ts)) ∧ Below W.heap.size W w') := fun W b => spec_IsValidDatabase_any A n c B ts W (RdT.belowB hr b hB) (Nat.le_trans hB b.size) hn hs
  have KT : Hid (∀ W, Below w.heap.size w W → Calls Try.prog 59 #[.agg #[.string tn, .int .i64 ta, .slice A2 tr.length c2]] W fun e w' => e = .returned (.bool (validTb ⟨tn, ta, tr⟩)) ∧ Below W.heap.size W w') := fun W b => spec_IsValidTable_any tn ta A2 tr.length c2 B tr W (RdR.belowB hr2 b hB) (Nat.le_trans hB b.size) (by omega)
  have KP : Hid (∀ W, Below w.heap.size w W → Calls Try.prog 72 #[.agg #[.slice A n c]] W (DbNew ts W)) := fun W b => l5Copy_any A n c B ts W (RdT.belowB hr b hB) (Nat.le_trans hB b.size) hn hs
  have kn0 : Kn w [(w.heap.size, 0, .slice A n c), (w.heap.size + 1, 0, .string tn), (w.heap.size + 1, 1, .int .i64 ta), (w.heap.size + 1, 2, .slice A2 tr.length c2), (w.heap.size + 2, 0, .slice none 0 0)] (((w.alloc (.cells #[.slice A n c] 29)).alloc (.cells #[.string tn, .int .i64 ta, .slice A2 tr.length c2] 36)).alloc (.cells #[.slice none 0 0] 29)) := by
    simpa using ((((Kn.start w).box1 (.slice A n c) 29).box3 (.string tn) (.int .i64 ta) (.slice A2 tr.length c2) 36).box1 (.slice none 0 0) 29)
  clear hs hrow
  go_enter Try.func29, Try.ntmps29
  go_wp2_with fail
  have s0 : w.heap.size + 3 ≤ (((w.alloc (.cells #[.slice A n c] 29)).alloc (.cells #[.string tn, .int .i64 ta, .slice A2 tr.length c2] 36)).alloc (.cells #[.slice none 0 0] 29)).heap.size := by simp
  generalize ((w.alloc (.cells #[.slice A n c] 29)).alloc (.cells #[.string tn, .int .i64 ta, .slice A2 tr.length c2] 36)).alloc (.cells #[.slice none 0 0] 29) = w0 at kn0 s0 ⊢
  have KV0 := Lib.hid (KV.out w0 kn0.bel)
  cases hv : validD ts with
  | false =>
    have hf : Hid (setR ts ⟨tn, ta, tr⟩ = (ts, false)) := by show _ = _; rw [setR, if_neg (by rw [hv]; simp)]
    rw [hv] at KV0
    clear hv
    refine KV0.out.mono ?_
    rintro e w1 ⟨rfl, b1⟩
    have s1 := b1.size
    have kn1 := kn0.next b1
    clear kn0 b1
    obtain ⟨d0, d1, d2, d3, d4, _⟩ := kn1.all
    have KP1 := Lib.hid (KP.out w1 kn1.bel)
    go_wp2_with fail
    refine KP1.out.mono ?_
    rintro e w2 ⟨Ao, co, rfl, oo, b2⟩
    have s2 := b2.size
    have kn2 := kn1.next b2
    have HO := Lib.hid oo
    clear kn1 b2 oo d0 d1 d2 d3 d4
    obtain ⟨d0, d1, d2, d3, d4, _⟩ := kn2.all
    obtain ⟨f0, f1, f2, f3, f4, _⟩ := kn2.fall
    have HF := Lib.hid kn2.bel
    clear kn2
    go_wp2_with fail
    refine bodyPost_ret (v := .tuple #[.agg #[.slice Ao ts.length co], .bool false]) (by simp [results, Try.results29, go_sem, *]) rfl (DbBool.of hf.out ?_ ?_)
    · refine OwnD.down (lo := w1.heap.size) (OwnD.wide (hi := w2.heap.size) ?_ (by simp)) (by omega)
      repeat refine OwnD.setOff ?_ (by omega)
      exact HO.out
    · repeat first | exact HF.out | (refine Below.setCell ?_ ?_ _; rotate_left; (simp; try omega))
  | true =>
    have HV := Lib.hid hv
    rw [hv] at KV0
    clear hv
    refine KV0.out.mono ?_
    rintro e w1 ⟨rfl, b1⟩
    have s1 := b1.size
    have kn1 := kn0.next b1
    clear kn0 b1
    obtain ⟨d0, d1, d2, d3, d4, _⟩ := kn1.all
    have KT1 := Lib.hid (KT.out w1 kn1.bel)
    go_wp2_with fail
    cases hvt : validTb ⟨tn, ta, tr⟩ with
    | false =>
      have hf : Hid (setR ts ⟨tn, ta, tr⟩ = (ts, false)) := by show _ = _; rw [setR, if_neg (by rw [hvt]; simp)]
      rw [hvt] at KT1
      clear hvt
      refine KT1.out.mono ?_
      rintro e w2 ⟨rfl, b2⟩
      have s2 := b2.size
      have kn2 := kn1.next b2
      clear kn1 b2 d0 d1 d2 d3 d4
      obtain ⟨d0, d1, d2, d3, d4, _⟩ := kn2.all
      have KP2 := Lib.hid (KP.out w2 kn2.bel)
      go_wp2_with fail
      refine KP2.out.mono ?_
      rintro e w3 ⟨Ao, co, rfl, oo, b3⟩
      have s3 := b3.size
      have kn3 := kn2.next b3
      have HO := Lib.hid oo
      clear kn2 b3 oo d0 d1 d2 d3 d4
      obtain ⟨d0, d1, d2, d3, d4, _⟩ := kn3.all
      obtain ⟨f0, f1, f2, f3, f4, _⟩ := kn3.fall
      have HF := Lib.hid kn3.bel
      clear kn3
      go_wp2_with fail
      refine bodyPost_ret (v := .tuple #[.agg #[.slice Ao ts.length co], .bool false]) (by simp [results, Try.results29, go_sem, *]) rfl (DbBool.of hf.out ?_ ?_)
      · refine OwnD.down (lo := w2.heap.size) (OwnD.wide (hi := w3.heap.size) ?_ (by simp)) (by omega)
        repeat refine OwnD.setOff ?_ (by omega)
        exact HO.out
      · repeat first | exact HF.out | (refine Below.setCell ?_ ?_ _; rotate_left; (simp; try omega))
    | true =>
      have HVT := Lib.hid hvt
      rw [hvt] at KT1
      clear hvt
      refine KT1.out.mono ?_
      rintro e w2 ⟨rfl, b2⟩
      have s2 := b2.size
      have kn2 := kn1.next b2
      clear kn1 b2 d0 d1 d2 d3 d4 KT1 KV0
      obtain ⟨d0, d1, d2, d3, d4, _⟩ := kn2.all
      have ne0 : w.heap.size < w2.heap.size := by omega
      go_wp2_with fail
      clear ne0
      have hd0 : DInv w [(w.heap.size, 0, .slice A n c), (w.heap.size + 1, 0, .string tn), (w.heap.size + 1, 1, .int .i64 ta), (w.heap.size + 1, 2, .slice A2 tr.length c2), (w.heap.size + 2, 0, .slice none 0 0)] w2.heap.size (w2.heap.size + 1) [] (.slice none 0 0) (w2.alloc (.cells #[.slice none 0 0] 29)) :=
        ⟨kn2.next ((Below.refl _ _).alloc (Nat.le_refl _) (.cells #[.slice none 0 0] 29)), OwnD.nil _ _ _, by simp, by omega, by omega, by simp only [List.forall_mem_cons]; simp; omega, by simp [go_sem], by simp [go_sem]⟩
      have hsx : Hid (w.heap.size + 3 ≤ w2.heap.size) := by show _ ≤ _; omega
      clear kn2 d0 d1 d2 d3 d4
      generalize w2.alloc (.cells #[.slice none 0 0] 29) = w3 at hd0 ⊢
      go_loopw [7, 8] (fun d i wr => ∃ (k : Nat) (v : Value), k ≤ n ∧ i = .int .i64 k ∧ d = .bool (setS ⟨tn, ta, tr⟩ (ts.take k)).1 ∧ Hid (DInv w [(w.heap.size, 0, .slice A n c), (w.heap.size + 1, 0, .string tn), (w.heap.size + 1, 1, .int .i64 ta), (w.heap.size + 1, 2, .slice A2 tr.length c2), (w.heap.size + 2, 0, .slice none 0 0)] w2.heap.size (w2.heap.size + 1) (setS ⟨tn, ta, tr⟩ (ts.take k)).2 v wr)) (fun _ i _ => n - (intOf i).toNat)
      case atStart => exact ⟨0, _, by omega, rfl, rfl, hd0⟩
      case round =>
        obtain ⟨k, v, hk, rfl, rfl, hinv⟩ := hrel
        clear hd0
        have hbel := Lib.hid hinv.out.kn.bel
        have hsz := hbel.out.size
        have hsl : (setS ⟨tn, ta, tr⟩ (ts.take k)).2.length ≤ 2000000000 := by
          have h1 := setS_len2 ⟨tn, ta, tr⟩ (ts.take k)
          rw [List.length_take] at h1
          omega
        obtain ⟨d0, d1, d2, d3, d4, _⟩ := hinv.out.kn.all
        have x0 := hinv.out.x0
        by_cases hlt : k < n
        · obtain ⟨b, o, x, A', c', rfl, hb, hx, hc0, hc1, hc2, hrd, hm, hnm⟩ := RdT.at_ hr hlt
          have hts := Lib.hid (tab_small hx hsm.out)
          have HX0 := Lib.hid (setS_take (t := ⟨tn, ta, tr⟩) hx)
          have hb2 : b < w.heap.size := by omega
          obtain ⟨xn, xa, xr⟩ := x
          have hm0 : Hid (w.cell? ⟨b, o + k * 3, none⟩ = some (.string xn)) := hc0
          have hm1 : Hid (w.cell? ⟨b, o + k * 3 + 1, none⟩ = some (.int .i64 xa)) := hc1
          have hm2 : Hid (w.cell? ⟨b, o + k * 3 + 2, none⟩ = some (.slice A' xr.length c')) := hc2
          have m0 := (hbel.out.cell (p := ⟨b, o + k * 3, none⟩) hb2).trans hm0.out
          have m1 := (hbel.out.cell (p := ⟨b, o + k * 3 + 1, none⟩) hb2).trans hm1.out
          have m2 := (hbel.out.cell (p := ⟨b, o + k * 3 + 2, none⟩) hb2).trans hm2.out
          have hrdx : Hid (RdR w B A' xr.length xr) := hrd
          have hnm : xn.size ≤ maxLen := hnm
          have HX : Hid (setS ⟨tn, ta, tr⟩ (ts.take (k + 1)) = setF ⟨tn, ta, tr⟩ (setS ⟨tn, ta, tr⟩ (ts.take k)) ⟨xn, xa, xr⟩) := HX0
          generalize setS ⟨tn, ta, tr⟩ (ts.take k) = S at hinv hsl HX ⊢
          obtain ⟨d, acc⟩ := S
          have g1 : (0 : Int) ≤ (k : Int) := by omega
          have g2 : (k : Int) < (n : Int) := by omega
          have g3 : (k : Int).toNat = k := by omega
          clear hx hc0 hc1 hc2 hrd hm HX0
          cases hl : ltN xn tn with
          | true =>
            by_cases he : xn = tn
            · cases d with
              | true =>
                have HN : Hid (setS ⟨tn, ta, tr⟩ (ts.take (k + 1)) = (true, acc)) := by show _ = _; rw [HX.out]; simp only [setF, hl]; rw [if_pos he]; simp
                have qe := (show (xn.toList == tn.toList) = true by rw [he]; simp)
                unfold ltN at hl
                clear he
                have hla0 : acc.length ≤ 2000000000 := hsl
                have HI0 : Hid (DInv w [(w.heap.size, 0, .slice (some ⟨b, o, none⟩) n c), (w.heap.size + 1, 0, .string tn), (w.heap.size + 1, 1, .int .i64 ta), (w.heap.size + 1, 2, .slice A2 tr.length c2), (w.heap.size + 2, 0, .slice none 0 0)] w2.heap.size (w2.heap.size + 1) acc v wr) := hinv
                clear hinv
                go_wp2_with fail
                go_quiet (fail)
                have HI4 := Lib.hid (HI0.out.drewN nq)
                generalize wr.drewN nq = w4 at HI4 ⊢
                clear d0 d1 d2 d3 d4 x0 m0 m1 m2 HI0
                obtain ⟨d0, d1, d2, d3, d4, _⟩ := HI4.out.kn.all
                have x0 := HI4.out.x0
                have hbl4 := Lib.hid HI4.out.kn.bel
                have m0 := (hbl4.out.cell (p := ⟨b, o + k * 3, none⟩) hb2).trans hm0.out
                have m1 := (hbl4.out.cell (p := ⟨b, o + k * 3 + 1, none⟩) hb2).trans hm1.out
                have m2 := (hbl4.out.cell (p := ⟨b, o + k * 3 + 2, none⟩) hb2).trans hm2.out
                go_wp2_with fail
                go_quiet (fail)
                have HI7 := Lib.hid (HI4.out.drewN nq)
                generalize w4.drewN nq = w7 at HI7 ⊢
                clear d0 d1 d2 d3 d4 x0 m0 m1 m2 HI4
                obtain ⟨d0, d1, d2, d3, d4, _⟩ := HI7.out.kn.all
                have x0 := HI7.out.x0
                have hbl7 := Lib.hid HI7.out.kn.bel
                have m0 := (hbl7.out.cell (p := ⟨b, o + k * 3, none⟩) hb2).trans hm0.out
                have m1 := (hbl7.out.cell (p := ⟨b, o + k * 3 + 1, none⟩) hb2).trans hm1.out
                have m2 := (hbl7.out.cell (p := ⟨b, o + k * 3 + 2, none⟩) hb2).trans hm2.out
                go_wp2_with fail
                refine ⟨⟨k + 1, _, by omega, by go_num, by rw [HN.out], by rw [HN.out]; exact HI7⟩, ?_⟩
                simp [intOf]
                omega
              | false =>
                have HN : Hid (setS ⟨tn, ta, tr⟩ (ts.take (k + 1)) = (false, acc)) := by show _ = _; rw [HX.out]; simp only [setF, hl]; rw [if_pos he]; simp
                have qe := (show (xn.toList == tn.toList) = true by rw [he]; simp)
                unfold ltN at hl
                clear he
                have hla0 : acc.length ≤ 2000000000 := hsl
                have HI0 : Hid (DInv w [(w.heap.size, 0, .slice (some ⟨b, o, none⟩) n c), (w.heap.size + 1, 0, .string tn), (w.heap.size + 1, 1, .int .i64 ta), (w.heap.size + 1, 2, .slice A2 tr.length c2), (w.heap.size + 2, 0, .slice none 0 0)] w2.heap.size (w2.heap.size + 1) acc v wr) := hinv
                clear hinv
                go_wp2_with fail
                go_quiet (fail)
                have HI4 := Lib.hid (HI0.out.drewN nq)
                generalize wr.drewN nq = w4 at HI4 ⊢
                clear d0 d1 d2 d3 d4 x0 m0 m1 m2 HI0
                obtain ⟨d0, d1, d2, d3, d4, _⟩ := HI4.out.kn.all
                have x0 := HI4.out.x0
                have hbl4 := Lib.hid HI4.out.kn.bel
                have m0 := (hbl4.out.cell (p := ⟨b, o + k * 3, none⟩) hb2).trans hm0.out
                have m1 := (hbl4.out.cell (p := ⟨b, o + k * 3 + 1, none⟩) hb2).trans hm1.out
                have m2 := (hbl4.out.cell (p := ⟨b, o + k * 3 + 2, none⟩) hb2).trans hm2.out
                go_wp2_with fail
                go_quiet (fail)
                have HI7 := Lib.hid (HI4.out.drewN nq)
                generalize w4.drewN nq = w7 at HI7 ⊢
                clear d0 d1 d2 d3 d4 x0 m0 m1 m2 HI4
                obtain ⟨d0, d1, d2, d3, d4, _⟩ := HI7.out.kn.all
                have x0 := HI7.out.x0
                have hbl7 := Lib.hid HI7.out.kn.bel
                have m0 := (hbl7.out.cell (p := ⟨b, o + k * 3, none⟩) hb2).trans hm0.out
                have m1 := (hbl7.out.cell (p := ⟨b, o + k * 3 + 1, none⟩) hb2).trans hm1.out
                have m2 := (hbl7.out.cell (p := ⟨b, o + k * 3 + 2, none⟩) hb2).trans hm2.out
                go_wp2_with fail
                refine ⟨⟨k + 1, _, by omega, by go_num, by rw [HN.out], by rw [HN.out]; exact HI7⟩, ?_⟩
                simp [intOf]
                omega
            · cases d with
              | true =>
                have HN : Hid (setS ⟨tn, ta, tr⟩ (ts.take (k + 1)) = (true, acc ++ [⟨xn, xa, xr⟩])) := by show _ = _; rw [HX.out]; simp only [setF, hl]; rw [if_neg he]; simp
                have qe := str_eq0 he
                unfold ltN at hl
                clear he
                have hla0 : acc.length ≤ 2000000000 := hsl
                have HI0 : Hid (DInv w [(w.heap.size, 0, .slice (some ⟨b, o, none⟩) n c), (w.heap.size + 1, 0, .string tn), (w.heap.size + 1, 1, .int .i64 ta), (w.heap.size + 1, 2, .slice A2 tr.length c2), (w.heap.size + 2, 0, .slice none 0 0)] w2.heap.size (w2.heap.size + 1) acc v wr) := hinv
                clear hinv
                go_wp2_with fail
                go_quiet (fail)
                have HI4 := Lib.hid (HI0.out.drewN nq)
                generalize wr.drewN nq = w4 at HI4 ⊢
                clear d0 d1 d2 d3 d4 x0 m0 m1 m2 HI0
                obtain ⟨d0, d1, d2, d3, d4, _⟩ := HI4.out.kn.all
                have x0 := HI4.out.x0
                have hbl4 := Lib.hid HI4.out.kn.bel
                have m0 := (hbl4.out.cell (p := ⟨b, o + k * 3, none⟩) hb2).trans hm0.out
                have m1 := (hbl4.out.cell (p := ⟨b, o + k * 3 + 1, none⟩) hb2).trans hm1.out
                have m2 := (hbl4.out.cell (p := ⟨b, o + k * 3 + 2, none⟩) hb2).trans hm2.out
                go_wp2_with fail
                go_quiet (fail)
                have HI7 := Lib.hid (HI4.out.drewN nq)
                generalize w4.drewN nq = w7 at HI7 ⊢
                clear d0 d1 d2 d3 d4 x0 m0 m1 m2 HI4
                obtain ⟨d0, d1, d2, d3, d4, _⟩ := HI7.out.kn.all
                have x0 := HI7.out.x0
                have hbl7 := Lib.hid HI7.out.kn.bel
                have m0 := (hbl7.out.cell (p := ⟨b, o + k * 3, none⟩) hb2).trans hm0.out
                have m1 := (hbl7.out.cell (p := ⟨b, o + k * 3 + 1, none⟩) hb2).trans hm1.out
                have m2 := (hbl7.out.cell (p := ⟨b, o + k * 3 + 2, none⟩) hb2).trans hm2.out
                have KX7 := Lib.hid (l4Copy_any xn xa A' xr.length c' B xr w7 (RdR.belowB hrdx.out hbl7.out hB) (Nat.le_trans hB hbl7.out.size) hts.out.1 hts.out.2)
                go_wp2_with fail
                refine KX7.out.mono ?_
                rintro e w1 ⟨A1, c1, rfl, ho1, hb1⟩
                clear d0 d1 d2 d3 d4 x0 m0 m1 m2 KX7
                obtain ⟨xs, hrow, n2, happ⟩ := HI7.out.app (nm := xn) (ar := xa) (w1 := w1.alloc (.cells #[.string xn, .int .i64 xa, .slice A1 xr.length c1] 36)) (hb1.alloc hb1.size (.cells #[.string xn, .int .i64 xa, .slice A1 xr.length c1] 36)) (ho1.below ((Below.refl w1.heap.size w1).alloc (Nat.le_refl _) (.cells #[.string xn, .int .i64 xa, .slice A1 xr.length c1] 36)) (Nat.le_refl _)) (Nat.le_refl _) (by simp) hnm
                have hnb : (w1.alloc (.cells #[.string xn, .int .i64 xa, .slice A1 xr.length c1] 36)).heap.size = w1.heap.size + 1 := by simp
                have hgn := heap_alloc_new (w1.alloc (.cells #[.string xn, .int .i64 xa, .slice A1 xr.length c1] 36)) (.cells #[.string xn, .int .i64 xa, .slice A1 xr.length c1] 36)
                have hx1 : w2.heap.size < w1.heap.size := Nat.lt_of_lt_of_le (Nat.lt_of_lt_of_le HI7.out.hxb HI7.out.size) hb1.size
                rw [hnb] at hgn happ
                have n3 : w1.cell? ⟨w2.heap.size, 0, none⟩ = some (v) := (hb1.cell (p := ⟨w2.heap.size, 0, none⟩) (Nat.lt_of_lt_of_le HI7.out.hxb HI7.out.size)).trans HI7.out.x0
                have HA := Lib.hid happ
                have HR := Lib.hid hrow
                have HGN := Lib.hid hgn
                clear happ ho1 hb1 hrow hgn n2
                go_wp2_with (at_builtin; refine wpList_append_lies _ rfl _ _ _ rfl 0 36 i1 _ 3 48 Try.underlying27 hi1 hz0 hz1 hz2 rfl (by omega) _ (acc).length _ rfl HR.out ⟨w1.heap.size + 1, 0, none⟩ 1 1 [.string xn, .int .i64 xa, .slice A1 xr.length c1] rfl rfl (World.news_of_block (cs := #[.string xn, .int .i64 xa, .slice A1 xr.length c1]) (t := 36) (fr := (0, 0)) HGN.out) (by simp [Value.oneCell']) (by omega) (by unfold maxLen; omega) (by omega) (Nat.zero_le _) (w1.heap.size + 1 + 1) (by simp) ?_; intro g cap w2_1 hown2 hgrow hat hlt2; obtain ⟨m2, m3, hF, hcl, hsz2⟩ := HA.out g cap w2_1 hown2 hgrow hat; have HF := Lib.hid hF; clear hown2 hgrow hat hF hcl hsz2)
                refine ⟨⟨k + 1, _, by omega, by go_num, by rw [HN.out], by rw [HN.out]; exact HF⟩, ?_⟩
                simp [intOf]
                omega
              | false =>
                have HN : Hid (setS ⟨tn, ta, tr⟩ (ts.take (k + 1)) = (false, acc ++ [⟨xn, xa, xr⟩])) := by show _ = _; rw [HX.out]; simp only [setF, hl]; rw [if_neg he]; simp
                have qe := str_eq0 he
                unfold ltN at hl
                clear he
                have hla0 : acc.length ≤ 2000000000 := hsl
                have HI0 : Hid (DInv w [(w.heap.size, 0, .slice (some ⟨b, o, none⟩) n c), (w.heap.size + 1, 0, .string tn), (w.heap.size + 1, 1, .int .i64 ta), (w.heap.size + 1, 2, .slice A2 tr.length c2), (w.heap.size + 2, 0, .slice none 0 0)] w2.heap.size (w2.heap.size + 1) acc v wr) := hinv
                clear hinv
                go_wp2_with fail
                go_quiet (fail)
                have HI4 := Lib.hid (HI0.out.drewN nq)
                generalize wr.drewN nq = w4 at HI4 ⊢
                clear d0 d1 d2 d3 d4 x0 m0 m1 m2 HI0
                obtain ⟨d0, d1, d2, d3, d4, _⟩ := HI4.out.kn.all
                have x0 := HI4.out.x0
                have hbl4 := Lib.hid HI4.out.kn.bel
                have m0 := (hbl4.out.cell (p := ⟨b, o + k * 3, none⟩) hb2).trans hm0.out
                have m1 := (hbl4.out.cell (p := ⟨b, o + k * 3 + 1, none⟩) hb2).trans hm1.out
                have m2 := (hbl4.out.cell (p := ⟨b, o + k * 3 + 2, none⟩) hb2).trans hm2.out
                go_wp2_with fail
                go_quiet (fail)
                have HI7 := Lib.hid (HI4.out.drewN nq)
                generalize w4.drewN nq = w7 at HI7 ⊢
                clear d0 d1 d2 d3 d4 x0 m0 m1 m2 HI4
                obtain ⟨d0, d1, d2, d3, d4, _⟩ := HI7.out.kn.all
                have x0 := HI7.out.x0
                have hbl7 := Lib.hid HI7.out.kn.bel
                have m0 := (hbl7.out.cell (p := ⟨b, o + k * 3, none⟩) hb2).trans hm0.out
                have m1 := (hbl7.out.cell (p := ⟨b, o + k * 3 + 1, none⟩) hb2).trans hm1.out
                have m2 := (hbl7.out.cell (p := ⟨b, o + k * 3 + 2, none⟩) hb2).trans hm2.out
                have KX7 := Lib.hid (l4Copy_any xn xa A' xr.length c' B xr w7 (RdR.belowB hrdx.out hbl7.out hB) (Nat.le_trans hB hbl7.out.size) hts.out.1 hts.out.2)
                go_wp2_with fail
                refine KX7.out.mono ?_
                rintro e w1 ⟨A1, c1, rfl, ho1, hb1⟩
                clear d0 d1 d2 d3 d4 x0 m0 m1 m2 KX7
                obtain ⟨xs, hrow, n2, happ⟩ := HI7.out.app (nm := xn) (ar := xa) (w1 := w1.alloc (.cells #[.string xn, .int .i64 xa, .slice A1 xr.length c1] 36)) (hb1.alloc hb1.size (.cells #[.string xn, .int .i64 xa, .slice A1 xr.length c1] 36)) (ho1.below ((Below.refl w1.heap.size w1).alloc (Nat.le_refl _) (.cells #[.string xn, .int .i64 xa, .slice A1 xr.length c1] 36)) (Nat.le_refl _)) (Nat.le_refl _) (by simp) hnm
                have hnb : (w1.alloc (.cells #[.string xn, .int .i64 xa, .slice A1 xr.length c1] 36)).heap.size = w1.heap.size + 1 := by simp
                have hgn := heap_alloc_new (w1.alloc (.cells #[.string xn, .int .i64 xa, .slice A1 xr.length c1] 36)) (.cells #[.string xn, .int .i64 xa, .slice A1 xr.length c1] 36)
                have hx1 : w2.heap.size < w1.heap.size := Nat.lt_of_lt_of_le (Nat.lt_of_lt_of_le HI7.out.hxb HI7.out.size) hb1.size
                rw [hnb] at hgn happ
                have n3 : w1.cell? ⟨w2.heap.size, 0, none⟩ = some (v) := (hb1.cell (p := ⟨w2.heap.size, 0, none⟩) (Nat.lt_of_lt_of_le HI7.out.hxb HI7.out.size)).trans HI7.out.x0
                have HA := Lib.hid happ
                have HR := Lib.hid hrow
                have HGN := Lib.hid hgn
                clear happ ho1 hb1 hrow hgn n2
                go_wp2_with (at_builtin; refine wpList_append_lies _ rfl _ _ _ rfl 0 36 i1 _ 3 48 Try.underlying27 hi1 hz0 hz1 hz2 rfl (by omega) _ (acc).length _ rfl HR.out ⟨w1.heap.size + 1, 0, none⟩ 1 1 [.string xn, .int .i64 xa, .slice A1 xr.length c1] rfl rfl (World.news_of_block (cs := #[.string xn, .int .i64 xa, .slice A1 xr.length c1]) (t := 36) (fr := (0, 0)) HGN.out) (by simp [Value.oneCell']) (by omega) (by unfold maxLen; omega) (by omega) (Nat.zero_le _) (w1.heap.size + 1 + 1) (by simp) ?_; intro g cap w2_1 hown2 hgrow hat hlt2; obtain ⟨m2, m3, hF, hcl, hsz2⟩ := HA.out g cap w2_1 hown2 hgrow hat; have HF := Lib.hid hF; clear hown2 hgrow hat hF hcl hsz2)
                refine ⟨⟨k + 1, _, by omega, by go_num, by rw [HN.out], by rw [HN.out]; exact HF⟩, ?_⟩
                simp [intOf]
                omega
          | false =>
            by_cases he : xn = tn
            · cases d with
              | true =>
                have HN : Hid (setS ⟨tn, ta, tr⟩ (ts.take (k + 1)) = (true, acc)) := by show _ = _; rw [HX.out]; simp only [setF, hl]; rw [if_pos he]; simp
                have qe := (show (xn.toList == tn.toList) = true by rw [he]; simp)
                unfold ltN at hl
                clear he
                have hla0 : acc.length ≤ 2000000000 := hsl
                have HI0 : Hid (DInv w [(w.heap.size, 0, .slice (some ⟨b, o, none⟩) n c), (w.heap.size + 1, 0, .string tn), (w.heap.size + 1, 1, .int .i64 ta), (w.heap.size + 1, 2, .slice A2 tr.length c2), (w.heap.size + 2, 0, .slice none 0 0)] w2.heap.size (w2.heap.size + 1) acc v wr) := hinv
                clear hinv
                go_wp2_with fail
                go_quiet (fail)
                have HI4 := Lib.hid (HI0.out.drewN nq)
                generalize wr.drewN nq = w4 at HI4 ⊢
                clear d0 d1 d2 d3 d4 x0 m0 m1 m2 HI0
                obtain ⟨d0, d1, d2, d3, d4, _⟩ := HI4.out.kn.all
                have x0 := HI4.out.x0
                have hbl4 := Lib.hid HI4.out.kn.bel
                have m0 := (hbl4.out.cell (p := ⟨b, o + k * 3, none⟩) hb2).trans hm0.out
                have m1 := (hbl4.out.cell (p := ⟨b, o + k * 3 + 1, none⟩) hb2).trans hm1.out
                have m2 := (hbl4.out.cell (p := ⟨b, o + k * 3 + 2, none⟩) hb2).trans hm2.out
                go_wp2_with fail
                go_quiet (fail)
                have HI7 := Lib.hid (HI4.out.drewN nq)
                generalize w4.drewN nq = w7 at HI7 ⊢
                clear d0 d1 d2 d3 d4 x0 m0 m1 m2 HI4
                obtain ⟨d0, d1, d2, d3, d4, _⟩ := HI7.out.kn.all
                have x0 := HI7.out.x0
                have hbl7 := Lib.hid HI7.out.kn.bel
                have m0 := (hbl7.out.cell (p := ⟨b, o + k * 3, none⟩) hb2).trans hm0.out
                have m1 := (hbl7.out.cell (p := ⟨b, o + k * 3 + 1, none⟩) hb2).trans hm1.out
                have m2 := (hbl7.out.cell (p := ⟨b, o + k * 3 + 2, none⟩) hb2).trans hm2.out
                go_wp2_with fail
                refine ⟨⟨k + 1, _, by omega, by go_num, by rw [HN.out], by rw [HN.out]; exact HI7⟩, ?_⟩
                simp [intOf]
                omega
              | false =>
                have HN : Hid (setS ⟨tn, ta, tr⟩ (ts.take (k + 1)) = (true, acc ++ [⟨tn, ta, tr⟩])) := by show _ = _; rw [HX.out]; simp only [setF, hl]; rw [if_pos he]; simp
                have qe := (show (xn.toList == tn.toList) = true by rw [he]; simp)
                unfold ltN at hl
                clear he
                have hla0 : acc.length ≤ 2000000000 := hsl
                have HI0 : Hid (DInv w [(w.heap.size, 0, .slice (some ⟨b, o, none⟩) n c), (w.heap.size + 1, 0, .string tn), (w.heap.size + 1, 1, .int .i64 ta), (w.heap.size + 1, 2, .slice A2 tr.length c2), (w.heap.size + 2, 0, .slice none 0 0)] w2.heap.size (w2.heap.size + 1) acc v wr) := hinv
                clear hinv
                go_wp2_with fail
                go_quiet (fail)
                have HI4 := Lib.hid (HI0.out.drewN nq)
                generalize wr.drewN nq = w4 at HI4 ⊢
                clear d0 d1 d2 d3 d4 x0 m0 m1 m2 HI0
                obtain ⟨d0, d1, d2, d3, d4, _⟩ := HI4.out.kn.all
                have x0 := HI4.out.x0
                have hbl4 := Lib.hid HI4.out.kn.bel
                have m0 := (hbl4.out.cell (p := ⟨b, o + k * 3, none⟩) hb2).trans hm0.out
                have m1 := (hbl4.out.cell (p := ⟨b, o + k * 3 + 1, none⟩) hb2).trans hm1.out
                have m2 := (hbl4.out.cell (p := ⟨b, o + k * 3 + 2, none⟩) hb2).trans hm2.out
                have KT4 := Lib.hid (l4Copy_any tn ta A2 tr.length c2 B tr w4 (RdR.belowB hr2 hbl4.out hB) (Nat.le_trans hB hbl4.out.size) hn2 hrow'.out)
                go_wp2_with fail
                refine KT4.out.mono ?_
                rintro e w1 ⟨A1, c1, rfl, ho1, hb1⟩
                clear d0 d1 d2 d3 d4 x0 m0 m1 m2 KT4
                obtain ⟨xs, hrow, n2, happ⟩ := HI4.out.app (nm := tn) (ar := ta) (w1 := w1.alloc (.cells #[.string tn, .int .i64 ta, .slice A1 tr.length c1] 36)) (hb1.alloc hb1.size (.cells #[.string tn, .int .i64 ta, .slice A1 tr.length c1] 36)) (ho1.below ((Below.refl w1.heap.size w1).alloc (Nat.le_refl _) (.cells #[.string tn, .int .i64 ta, .slice A1 tr.length c1] 36)) (Nat.le_refl _)) (Nat.le_refl _) (by simp) htn
                have hnb : (w1.alloc (.cells #[.string tn, .int .i64 ta, .slice A1 tr.length c1] 36)).heap.size = w1.heap.size + 1 := by simp
                have hgn := heap_alloc_new (w1.alloc (.cells #[.string tn, .int .i64 ta, .slice A1 tr.length c1] 36)) (.cells #[.string tn, .int .i64 ta, .slice A1 tr.length c1] 36)
                have hx1 : w2.heap.size < w1.heap.size := Nat.lt_of_lt_of_le (Nat.lt_of_lt_of_le HI4.out.hxb HI4.out.size) hb1.size
                rw [hnb] at hgn happ
                have n3 : w1.cell? ⟨w2.heap.size, 0, none⟩ = some (v) := (hb1.cell (p := ⟨w2.heap.size, 0, none⟩) (Nat.lt_of_lt_of_le HI4.out.hxb HI4.out.size)).trans HI4.out.x0
                have HA := Lib.hid happ
                have HR := Lib.hid hrow
                have HGN := Lib.hid hgn
                clear happ ho1 hb1 hrow hgn n2
                go_wp2_with (at_builtin; refine wpList_append_lies _ rfl _ _ _ rfl 0 36 i1 _ 3 48 Try.underlying27 hi1 hz0 hz1 hz2 rfl (by omega) _ (acc).length _ rfl HR.out ⟨w1.heap.size + 1, 0, none⟩ 1 1 [.string tn, .int .i64 ta, .slice A1 tr.length c1] rfl rfl (World.news_of_block (cs := #[.string tn, .int .i64 ta, .slice A1 tr.length c1]) (t := 36) (fr := (0, 0)) HGN.out) (by simp [Value.oneCell']) (by omega) (by unfold maxLen; omega) (by omega) (Nat.zero_le _) (w1.heap.size + 1 + 1) (by simp) ?_; intro g cap w2_1 hown2 hgrow hat hlt2; obtain ⟨m2, m3, hF, hcl, hsz2⟩ := HA.out g cap w2_1 hown2 hgrow hat; have HF := Lib.hid hF; clear hown2 hgrow hat hF hcl hsz2)
                have hla : (acc ++ [(⟨tn, ta, tr⟩ : Tab)]).length ≤ 2000000001 := by rw [List.length_append]; simp; omega
                generalize w2_1.setCell ⟨w2.heap.size, 0, none⟩ (.slice (some ⟨g, 0, none⟩) (acc.length + 1) cap) = w5 at HF ⊢
                generalize (Value.slice (some ⟨g, 0, none⟩) (acc.length + 1) cap) = v5 at HF
                clear HI4 hbl4
                clear m2 m3 n3 hx1 hnb HR HGN HA
                generalize acc ++ [(⟨tn, ta, tr⟩ : Tab)] = acc2 at HF HN hla
                obtain ⟨d0, d1, d2, d3, d4, _⟩ := HF.out.kn.all
                have x0 := HF.out.x0
                have hbl5 := Lib.hid HF.out.kn.bel
                have m0 := (hbl5.out.cell (p := ⟨b, o + k * 3, none⟩) hb2).trans hm0.out
                have m1 := (hbl5.out.cell (p := ⟨b, o + k * 3 + 1, none⟩) hb2).trans hm1.out
                have m2 := (hbl5.out.cell (p := ⟨b, o + k * 3 + 2, none⟩) hb2).trans hm2.out
                go_wp2_with fail
                go_quiet (fail)
                have HI7 := Lib.hid (HF.out.drewN nq)
                generalize w5.drewN nq = w7 at HI7 ⊢
                clear d0 d1 d2 d3 d4 x0 m0 m1 m2 HF
                obtain ⟨d0, d1, d2, d3, d4, _⟩ := HI7.out.kn.all
                have x0 := HI7.out.x0
                have hbl7 := Lib.hid HI7.out.kn.bel
                have m0 := (hbl7.out.cell (p := ⟨b, o + k * 3, none⟩) hb2).trans hm0.out
                have m1 := (hbl7.out.cell (p := ⟨b, o + k * 3 + 1, none⟩) hb2).trans hm1.out
                have m2 := (hbl7.out.cell (p := ⟨b, o + k * 3 + 2, none⟩) hb2).trans hm2.out
                go_wp2_with fail
                refine ⟨⟨k + 1, _, by omega, by go_num, by rw [HN.out], by rw [HN.out]; exact HI7⟩, ?_⟩
                simp [intOf]
                omega
            · cases d with
              | true =>
                have HN : Hid (setS ⟨tn, ta, tr⟩ (ts.take (k + 1)) = (true, acc ++ [⟨xn, xa, xr⟩])) := by show _ = _; rw [HX.out]; simp only [setF, hl]; rw [if_neg he]; simp
                have qe := str_eq0 he
                unfold ltN at hl
                clear he
                have hla0 : acc.length ≤ 2000000000 := hsl
                have HI0 : Hid (DInv w [(w.heap.size, 0, .slice (some ⟨b, o, none⟩) n c), (w.heap.size + 1, 0, .string tn), (w.heap.size + 1, 1, .int .i64 ta), (w.heap.size + 1, 2, .slice A2 tr.length c2), (w.heap.size + 2, 0, .slice none 0 0)] w2.heap.size (w2.heap.size + 1) acc v wr) := hinv
                clear hinv
                go_wp2_with fail
                go_quiet (fail)
                have HI4 := Lib.hid (HI0.out.drewN nq)
                generalize wr.drewN nq = w4 at HI4 ⊢
                clear d0 d1 d2 d3 d4 x0 m0 m1 m2 HI0
                obtain ⟨d0, d1, d2, d3, d4, _⟩ := HI4.out.kn.all
                have x0 := HI4.out.x0
                have hbl4 := Lib.hid HI4.out.kn.bel
                have m0 := (hbl4.out.cell (p := ⟨b, o + k * 3, none⟩) hb2).trans hm0.out
                have m1 := (hbl4.out.cell (p := ⟨b, o + k * 3 + 1, none⟩) hb2).trans hm1.out
                have m2 := (hbl4.out.cell (p := ⟨b, o + k * 3 + 2, none⟩) hb2).trans hm2.out
                go_wp2_with fail
                go_quiet (fail)
                have HI7 := Lib.hid (HI4.out.drewN nq)
                generalize w4.drewN nq = w7 at HI7 ⊢
                clear d0 d1 d2 d3 d4 x0 m0 m1 m2 HI4
                obtain ⟨d0, d1, d2, d3, d4, _⟩ := HI7.out.kn.all
                have x0 := HI7.out.x0
                have hbl7 := Lib.hid HI7.out.kn.bel
                have m0 := (hbl7.out.cell (p := ⟨b, o + k * 3, none⟩) hb2).trans hm0.out
                have m1 := (hbl7.out.cell (p := ⟨b, o + k * 3 + 1, none⟩) hb2).trans hm1.out
                have m2 := (hbl7.out.cell (p := ⟨b, o + k * 3 + 2, none⟩) hb2).trans hm2.out
                have KX7 := Lib.hid (l4Copy_any xn xa A' xr.length c' B xr w7 (RdR.belowB hrdx.out hbl7.out hB) (Nat.le_trans hB hbl7.out.size) hts.out.1 hts.out.2)
                go_wp2_with fail
                refine KX7.out.mono ?_
                rintro e w1 ⟨A1, c1, rfl, ho1, hb1⟩
                clear d0 d1 d2 d3 d4 x0 m0 m1 m2 KX7
                obtain ⟨xs, hrow, n2, happ⟩ := HI7.out.app (nm := xn) (ar := xa) (w1 := w1.alloc (.cells #[.string xn, .int .i64 xa, .slice A1 xr.length c1] 36)) (hb1.alloc hb1.size (.cells #[.string xn, .int .i64 xa, .slice A1 xr.length c1] 36)) (ho1.below ((Below.refl w1.heap.size w1).alloc (Nat.le_refl _) (.cells #[.string xn, .int .i64 xa, .slice A1 xr.length c1] 36)) (Nat.le_refl _)) (Nat.le_refl _) (by simp) hnm
                have hnb : (w1.alloc (.cells #[.string xn, .int .i64 xa, .slice A1 xr.length c1] 36)).heap.size = w1.heap.size + 1 := by simp
                have hgn := heap_alloc_new (w1.alloc (.cells #[.string xn, .int .i64 xa, .slice A1 xr.length c1] 36)) (.cells #[.string xn, .int .i64 xa, .slice A1 xr.length c1] 36)
                have hx1 : w2.heap.size < w1.heap.size := Nat.lt_of_lt_of_le (Nat.lt_of_lt_of_le HI7.out.hxb HI7.out.size) hb1.size
                rw [hnb] at hgn happ
                have n3 : w1.cell? ⟨w2.heap.size, 0, none⟩ = some (v) := (hb1.cell (p := ⟨w2.heap.size, 0, none⟩) (Nat.lt_of_lt_of_le HI7.out.hxb HI7.out.size)).trans HI7.out.x0
                have HA := Lib.hid happ
                have HR := Lib.hid hrow
                have HGN := Lib.hid hgn
                clear happ ho1 hb1 hrow hgn n2
                go_wp2_with (at_builtin; refine wpList_append_lies _ rfl _ _ _ rfl 0 36 i1 _ 3 48 Try.underlying27 hi1 hz0 hz1 hz2 rfl (by omega) _ (acc).length _ rfl HR.out ⟨w1.heap.size + 1, 0, none⟩ 1 1 [.string xn, .int .i64 xa, .slice A1 xr.length c1] rfl rfl (World.news_of_block (cs := #[.string xn, .int .i64 xa, .slice A1 xr.length c1]) (t := 36) (fr := (0, 0)) HGN.out) (by simp [Value.oneCell']) (by omega) (by unfold maxLen; omega) (by omega) (Nat.zero_le _) (w1.heap.size + 1 + 1) (by simp) ?_; intro g cap w2_1 hown2 hgrow hat hlt2; obtain ⟨m2, m3, hF, hcl, hsz2⟩ := HA.out g cap w2_1 hown2 hgrow hat; have HF := Lib.hid hF; clear hown2 hgrow hat hF hcl hsz2)
                refine ⟨⟨k + 1, _, by omega, by go_num, by rw [HN.out], by rw [HN.out]; exact HF⟩, ?_⟩
                simp [intOf]
                omega
              | false =>
                have HN : Hid (setS ⟨tn, ta, tr⟩ (ts.take (k + 1)) = (true, acc ++ [⟨tn, ta, tr⟩] ++ [⟨xn, xa, xr⟩])) := by show _ = _; rw [HX.out]; simp only [setF, hl]; rw [if_neg he]; simp
                have qe := str_eq0 he
                unfold ltN at hl
                clear he
                have hla0 : acc.length ≤ 2000000000 := hsl
                have HI0 : Hid (DInv w [(w.heap.size, 0, .slice (some ⟨b, o, none⟩) n c), (w.heap.size + 1, 0, .string tn), (w.heap.size + 1, 1, .int .i64 ta), (w.heap.size + 1, 2, .slice A2 tr.length c2), (w.heap.size + 2, 0, .slice none 0 0)] w2.heap.size (w2.heap.size + 1) acc v wr) := hinv
                clear hinv
                go_wp2_with fail
                go_quiet (fail)
                have HI4 := Lib.hid (HI0.out.drewN nq)
                generalize wr.drewN nq = w4 at HI4 ⊢
                clear d0 d1 d2 d3 d4 x0 m0 m1 m2 HI0
                obtain ⟨d0, d1, d2, d3, d4, _⟩ := HI4.out.kn.all
                have x0 := HI4.out.x0
                have hbl4 := Lib.hid HI4.out.kn.bel
                have m0 := (hbl4.out.cell (p := ⟨b, o + k * 3, none⟩) hb2).trans hm0.out
                have m1 := (hbl4.out.cell (p := ⟨b, o + k * 3 + 1, none⟩) hb2).trans hm1.out
                have m2 := (hbl4.out.cell (p := ⟨b, o + k * 3 + 2, none⟩) hb2).trans hm2.out
                have KT4 := Lib.hid (l4Copy_any tn ta A2 tr.length c2 B tr w4 (RdR.belowB hr2 hbl4.out hB) (Nat.le_trans hB hbl4.out.size) hn2 hrow'.out)
                go_wp2_with fail
                refine KT4.out.mono ?_
                rintro e w1 ⟨A1, c1, rfl, ho1, hb1⟩
                clear d0 d1 d2 d3 d4 x0 m0 m1 m2 KT4
                obtain ⟨xs, hrow, n2, happ⟩ := HI4.out.app (nm := tn) (ar := ta) (w1 := w1.alloc (.cells #[.string tn, .int .i64 ta, .slice A1 tr.length c1] 36)) (hb1.alloc hb1.size (.cells #[.string tn, .int .i64 ta, .slice A1 tr.length c1] 36)) (ho1.below ((Below.refl w1.heap.size w1).alloc (Nat.le_refl _) (.cells #[.string tn, .int .i64 ta, .slice A1 tr.length c1] 36)) (Nat.le_refl _)) (Nat.le_refl _) (by simp) htn
                have hnb : (w1.alloc (.cells #[.string tn, .int .i64 ta, .slice A1 tr.length c1] 36)).heap.size = w1.heap.size + 1 := by simp
                have hgn := heap_alloc_new (w1.alloc (.cells #[.string tn, .int .i64 ta, .slice A1 tr.length c1] 36)) (.cells #[.string tn, .int .i64 ta, .slice A1 tr.length c1] 36)
                have hx1 : w2.heap.size < w1.heap.size := Nat.lt_of_lt_of_le (Nat.lt_of_lt_of_le HI4.out.hxb HI4.out.size) hb1.size
                rw [hnb] at hgn happ
                have n3 : w1.cell? ⟨w2.heap.size, 0, none⟩ = some (v) := (hb1.cell (p := ⟨w2.heap.size, 0, none⟩) (Nat.lt_of_lt_of_le HI4.out.hxb HI4.out.size)).trans HI4.out.x0
                have HA := Lib.hid happ
                have HR := Lib.hid hrow
                have HGN := Lib.hid hgn
                clear happ ho1 hb1 hrow hgn n2
                go_wp2_with (at_builtin; refine wpList_append_lies _ rfl _ _ _ rfl 0 36 i1 _ 3 48 Try.underlying27 hi1 hz0 hz1 hz2 rfl (by omega) _ (acc).length _ rfl HR.out ⟨w1.heap.size + 1, 0, none⟩ 1 1 [.string tn, .int .i64 ta, .slice A1 tr.length c1] rfl rfl (World.news_of_block (cs := #[.string tn, .int .i64 ta, .slice A1 tr.length c1]) (t := 36) (fr := (0, 0)) HGN.out) (by simp [Value.oneCell']) (by omega) (by unfold maxLen; omega) (by omega) (Nat.zero_le _) (w1.heap.size + 1 + 1) (by simp) ?_; intro g cap w2_1 hown2 hgrow hat hlt2; obtain ⟨m2, m3, hF, hcl, hsz2⟩ := HA.out g cap w2_1 hown2 hgrow hat; have HF := Lib.hid hF; clear hown2 hgrow hat hF hcl hsz2)
                have hla : (acc ++ [(⟨tn, ta, tr⟩ : Tab)]).length ≤ 2000000001 := by rw [List.length_append]; simp; omega
                generalize w2_1.setCell ⟨w2.heap.size, 0, none⟩ (.slice (some ⟨g, 0, none⟩) (acc.length + 1) cap) = w5 at HF ⊢
                generalize (Value.slice (some ⟨g, 0, none⟩) (acc.length + 1) cap) = v5 at HF
                clear HI4 hbl4
                clear m2 m3 n3 hx1 hnb HR HGN HA
                generalize acc ++ [(⟨tn, ta, tr⟩ : Tab)] = acc2 at HF HN hla
                obtain ⟨d0, d1, d2, d3, d4, _⟩ := HF.out.kn.all
                have x0 := HF.out.x0
                have hbl5 := Lib.hid HF.out.kn.bel
                have m0 := (hbl5.out.cell (p := ⟨b, o + k * 3, none⟩) hb2).trans hm0.out
                have m1 := (hbl5.out.cell (p := ⟨b, o + k * 3 + 1, none⟩) hb2).trans hm1.out
                have m2 := (hbl5.out.cell (p := ⟨b, o + k * 3 + 2, none⟩) hb2).trans hm2.out
                go_wp2_with fail
                go_quiet (fail)
                have HI7 := Lib.hid (HF.out.drewN nq)
                generalize w5.drewN nq = w7 at HI7 ⊢
                clear d0 d1 d2 d3 d4 x0 m0 m1 m2 HF
                obtain ⟨d0, d1, d2, d3, d4, _⟩ := HI7.out.kn.all
                have x0 := HI7.out.x0
                have hbl7 := Lib.hid HI7.out.kn.bel
                have m0 := (hbl7.out.cell (p := ⟨b, o + k * 3, none⟩) hb2).trans hm0.out
                have m1 := (hbl7.out.cell (p := ⟨b, o + k * 3 + 1, none⟩) hb2).trans hm1.out
                have m2 := (hbl7.out.cell (p := ⟨b, o + k * 3 + 2, none⟩) hb2).trans hm2.out
                have KX7 := Lib.hid (l4Copy_any xn xa A' xr.length c' B xr w7 (RdR.belowB hrdx.out hbl7.out hB) (Nat.le_trans hB hbl7.out.size) hts.out.1 hts.out.2)
                go_wp2_with fail
                refine KX7.out.mono ?_
                rintro e w1 ⟨A1, c1, rfl, ho1, hb1⟩
                clear d0 d1 d2 d3 d4 x0 m0 m1 m2 KX7
                obtain ⟨xs, hrow, n2, happ⟩ := HI7.out.app (nm := xn) (ar := xa) (w1 := w1.alloc (.cells #[.string xn, .int .i64 xa, .slice A1 xr.length c1] 36)) (hb1.alloc hb1.size (.cells #[.string xn, .int .i64 xa, .slice A1 xr.length c1] 36)) (ho1.below ((Below.refl w1.heap.size w1).alloc (Nat.le_refl _) (.cells #[.string xn, .int .i64 xa, .slice A1 xr.length c1] 36)) (Nat.le_refl _)) (Nat.le_refl _) (by simp) hnm
                have hnb : (w1.alloc (.cells #[.string xn, .int .i64 xa, .slice A1 xr.length c1] 36)).heap.size = w1.heap.size + 1 := by simp
                have hgn := heap_alloc_new (w1.alloc (.cells #[.string xn, .int .i64 xa, .slice A1 xr.length c1] 36)) (.cells #[.string xn, .int .i64 xa, .slice A1 xr.length c1] 36)
                have hx1 : w2.heap.size < w1.heap.size := Nat.lt_of_lt_of_le (Nat.lt_of_lt_of_le HI7.out.hxb HI7.out.size) hb1.size
                rw [hnb] at hgn happ
                have n3 : w1.cell? ⟨w2.heap.size, 0, none⟩ = some (v5) := (hb1.cell (p := ⟨w2.heap.size, 0, none⟩) (Nat.lt_of_lt_of_le HI7.out.hxb HI7.out.size)).trans HI7.out.x0
                have HA := Lib.hid happ
                have HR := Lib.hid hrow
                have HGN := Lib.hid hgn
                clear happ ho1 hb1 hrow hgn n2
                go_wp2_with (at_builtin; refine wpList_append_lies _ rfl _ _ _ rfl 0 36 i1 _ 3 48 Try.underlying27 hi1 hz0 hz1 hz2 rfl (by omega) _ (acc2).length _ rfl HR.out ⟨w1.heap.size + 1, 0, none⟩ 1 1 [.string xn, .int .i64 xa, .slice A1 xr.length c1] rfl rfl (World.news_of_block (cs := #[.string xn, .int .i64 xa, .slice A1 xr.length c1]) (t := 36) (fr := (0, 0)) HGN.out) (by simp [Value.oneCell']) (by omega) (by unfold maxLen; omega) (by omega) (Nat.zero_le _) (w1.heap.size + 1 + 1) (by simp) ?_; intro g cap w2_1 hown2 hgrow hat hlt2; obtain ⟨m2, m3, hF, hcl, hsz2⟩ := HA.out g cap w2_1 hown2 hgrow hat; have HF := Lib.hid hF; clear hown2 hgrow hat hF hcl hsz2)
                refine ⟨⟨k + 1, _, by omega, by go_num, by rw [HN.out], by rw [HN.out]; exact HF⟩, ?_⟩
                simp [intOf]
                omega
        · obtain rfl : k = n := by omega
          have HT := Lib.hid (show ts.take k = ts from List.take_of_length_le (Nat.le_of_eq HL.out))
          rw [HT.out] at hinv hsl ⊢
          obtain ⟨S, hS⟩ : ∃ S, S = setS ⟨tn, ta, tr⟩ ts := ⟨_, rfl⟩
          have HS := Lib.hid hS
          rw [← hS] at hinv hsl ⊢
          clear hS d0 d1 d2 d3 d4 x0
          obtain ⟨d, acc⟩ := S
          have hsl : acc.length ≤ 2000000000 := hsl
          cases d with
          | true =>
            have HTs : Hid (setT ts ⟨tn, ta, tr⟩ = acc) := by show _ = _; rw [setT, ← HS.out]; simp
            generalize acc = Fl at hinv HTs hsl
            generalize wr = w6 at *
            obtain ⟨AF, cF, rfl⟩ := hinv.out.own.form
            have hD := hinv.out
            have hszD := hD.size
            obtain ⟨d0, d1, d2, d3, d4, _⟩ := hD.kn.all
            obtain ⟨f0, f1, f2, f3, f4, _⟩ := hD.kn.fall
            have x0 := hD.x0
            have hbelD := Lib.hid hD.kn.bel
            have hb3 := hsx.out
            have hsm7 := setT_small HV.out HVT.out
            have hvd := setT_valid HV.out HVT.out
            rw [HTs.out] at hsm7 hvd
            have KVx := Lib.hid (spec_IsValidDatabase_any AF Fl.length cF w6.heap.size Fl w6 (hD.own.rd rfl) (Nat.le_refl _) (by omega) (by omega))
            rw [hvd] at KVx
            have HD := Lib.hid hD
            clear hD hvd
            by_cases h6 : Fl.length ≤ 6
            · have hf : Hid (setR ts ⟨tn, ta, tr⟩ = (Fl, true)) := by show _ = _; rw [setR, if_pos ⟨HV.out, HVT.out, by rw [HTs.out]; exact h6⟩, HTs.out]
              rw [decide_eq_true h6] at KVx
              go_wp2_with fail
              refine KVx.out.mono ?_
              rintro e w7 ⟨rfl, b7⟩
              have HD7 := Lib.hid (HD.out.next b7)
              have hszD7 := HD7.out.size
              clear HD b7 d0 d1 d2 d3 d4 f0 f1 f2 f3 f4 x0
              obtain ⟨d0, d1, d2, d3, d4, _⟩ := HD7.out.kn.all
              obtain ⟨f0, f1, f2, f3, f4, _⟩ := HD7.out.kn.fall
              have x0 := HD7.out.x0
              go_wp2_with fail
              refine bodyPost_ret (v := .tuple #[.agg #[.slice AF Fl.length cF], .bool true]) (by simp [results, Try.results29, go_sem, *]) rfl (DbBool.of hf.out ?_ ?_)
              · refine OwnD.down (lo := w2.heap.size + 1) (OwnD.wide (hi := w7.heap.size) ?_ (by simp)) (by omega)
                repeat refine OwnD.setOff ?_ (by omega)
                exact HD7.out.own
              · repeat first | exact HD7.out.kn.bel | (refine Below.setCell ?_ ?_ _; rotate_left; (simp; try omega))
            · have hf : Hid (setR ts ⟨tn, ta, tr⟩ = (ts, false)) := by show _ = _; rw [setR, if_neg (by rw [HTs.out]; omega)]
              rw [decide_eq_false h6] at KVx
              go_wp2_with fail
              refine KVx.out.mono ?_
              rintro e w7 ⟨rfl, b7⟩
              have s7 := b7.size
              have kn7 := HD.out.kn.next b7
              have KP7 := Lib.hid (KP.out w7 kn7.bel)
              clear HD b7 d0 d1 d2 d3 d4 f0 f1 f2 f3 f4 x0
              obtain ⟨d0, d1, d2, d3, d4, _⟩ := kn7.all
              go_wp2_with fail
              refine KP7.out.mono ?_
              rintro e w8 ⟨Ao, co, rfl, oo, b8⟩
              have s8 := b8.size
              have kn8 := kn7.next b8
              have HO := Lib.hid oo
              clear kn7 b8 oo d0 d1 d2 d3 d4
              obtain ⟨d0, d1, d2, d3, d4, _⟩ := kn8.all
              obtain ⟨f0, f1, f2, f3, f4, _⟩ := kn8.fall
              have HF := Lib.hid kn8.bel
              clear kn8
              go_wp2_with fail
              refine bodyPost_ret (v := .tuple #[.agg #[.slice Ao ts.length co], .bool false]) (by simp [results, Try.results29, go_sem, *]) rfl (DbBool.of hf.out ?_ ?_)
              · refine OwnD.down (lo := w7.heap.size) (OwnD.wide (hi := w8.heap.size) ?_ (by simp)) (by omega)
                repeat refine OwnD.setOff ?_ (by omega)
                exact HO.out
              · repeat first | exact HF.out | (refine Below.setCell ?_ ?_ _; rotate_left; (simp; try omega))
          | false =>
            have HTs : Hid (setT ts ⟨tn, ta, tr⟩ = acc ++ [⟨tn, ta, tr⟩]) := by show _ = _; rw [setT, ← HS.out]; simp
            have HI0 : Hid (DInv w [(w.heap.size, 0, .slice A k c), (w.heap.size + 1, 0, .string tn), (w.heap.size + 1, 1, .int .i64 ta), (w.heap.size + 1, 2, .slice A2 tr.length c2), (w.heap.size + 2, 0, .slice none 0 0)] w2.heap.size (w2.heap.size + 1) acc v wr) := hinv
            clear hinv
            have KT4 := Lib.hid (l4Copy_any tn ta A2 tr.length c2 B tr wr (RdR.belowB hr2 hbel.out hB) (Nat.le_trans hB hbel.out.size) hn2 hrow'.out)
            obtain ⟨d0, d1, d2, d3, d4, _⟩ := HI0.out.kn.all
            have x0 := HI0.out.x0
            go_wp2_with fail
            refine KT4.out.mono ?_
            rintro e w1 ⟨A1, c1, rfl, ho1, hb1⟩
            clear d0 d1 d2 d3 d4 x0 KT4
            obtain ⟨xs, hrow, n2, happ⟩ := HI0.out.app (nm := tn) (ar := ta) (w1 := w1.alloc (.cells #[.string tn, .int .i64 ta, .slice A1 tr.length c1] 36)) (hb1.alloc hb1.size (.cells #[.string tn, .int .i64 ta, .slice A1 tr.length c1] 36)) (ho1.below ((Below.refl w1.heap.size w1).alloc (Nat.le_refl _) (.cells #[.string tn, .int .i64 ta, .slice A1 tr.length c1] 36)) (Nat.le_refl _)) (Nat.le_refl _) (by simp) htn
            have hnb : (w1.alloc (.cells #[.string tn, .int .i64 ta, .slice A1 tr.length c1] 36)).heap.size = w1.heap.size + 1 := by simp
            have hgn := heap_alloc_new (w1.alloc (.cells #[.string tn, .int .i64 ta, .slice A1 tr.length c1] 36)) (.cells #[.string tn, .int .i64 ta, .slice A1 tr.length c1] 36)
            have hx1 : w2.heap.size < w1.heap.size := Nat.lt_of_lt_of_le (Nat.lt_of_lt_of_le HI0.out.hxb HI0.out.size) hb1.size
            rw [hnb] at hgn happ
            have n3 : w1.cell? ⟨w2.heap.size, 0, none⟩ = some (v) := (hb1.cell (p := ⟨w2.heap.size, 0, none⟩) (Nat.lt_of_lt_of_le HI0.out.hxb HI0.out.size)).trans HI0.out.x0
            have HA := Lib.hid happ
            have HR := Lib.hid hrow
            have HGN := Lib.hid hgn
            clear happ ho1 hb1 hrow hgn n2
            go_wp2_with (at_builtin; refine wpList_append_lies _ rfl _ _ _ rfl 0 36 i1 _ 3 48 Try.underlying27 hi1 hz0 hz1 hz2 rfl (by omega) _ (acc).length _ rfl HR.out ⟨w1.heap.size + 1, 0, none⟩ 1 1 [.string tn, .int .i64 ta, .slice A1 tr.length c1] rfl rfl (World.news_of_block (cs := #[.string tn, .int .i64 ta, .slice A1 tr.length c1]) (t := 36) (fr := (0, 0)) HGN.out) (by simp [Value.oneCell']) (by omega) (by unfold maxLen; omega) (by omega) (Nat.zero_le _) (w1.heap.size + 1 + 1) (by simp) ?_; intro g cap w2_1 hown2 hgrow hat hlt2; obtain ⟨m2, m3, hF, hcl, hsz2⟩ := HA.out g cap w2_1 hown2 hgrow hat; have HF := Lib.hid hF; clear hown2 hgrow hat hF hcl hsz2)
            generalize w2_1.setCell ⟨w2.heap.size, 0, none⟩ (.slice (some ⟨g, 0, none⟩) (acc.length + 1) cap) = w6 at HF ⊢
            generalize (Value.slice (some ⟨g, 0, none⟩) (acc.length + 1) cap) = v6 at HF
            clear HI0 m2 m3 n3 hx1 hnb HR HGN HA
            generalize acc ++ [(⟨tn, ta, tr⟩ : Tab)] = Fl at HF HTs
            obtain ⟨AF, cF, rfl⟩ := HF.out.own.form
            have hD := HF.out
            have hszD := hD.size
            obtain ⟨d0, d1, d2, d3, d4, _⟩ := hD.kn.all
            obtain ⟨f0, f1, f2, f3, f4, _⟩ := hD.kn.fall
            have x0 := hD.x0
            have hbelD := Lib.hid hD.kn.bel
            have hb3 := hsx.out
            have hsm7 := setT_small HV.out HVT.out
            have hvd := setT_valid HV.out HVT.out
            rw [HTs.out] at hsm7 hvd
            have KVx := Lib.hid (spec_IsValidDatabase_any AF Fl.length cF w6.heap.size Fl w6 (hD.own.rd rfl) (Nat.le_refl _) (by omega) (by omega))
            rw [hvd] at KVx
            have HD := Lib.hid hD
            clear hD hvd
            by_cases h6 : Fl.length ≤ 6
            · have hf : Hid (setR ts ⟨tn, ta, tr⟩ = (Fl, true)) := by show _ = _; rw [setR, if_pos ⟨HV.out, HVT.out, by rw [HTs.out]; exact h6⟩, HTs.out]
              rw [decide_eq_true h6] at KVx
              go_wp2_with fail
              refine KVx.out.mono ?_
              rintro e w7 ⟨rfl, b7⟩
              have HD7 := Lib.hid (HD.out.next b7)
              have hszD7 := HD7.out.size
              clear HD b7 d0 d1 d2 d3 d4 f0 f1 f2 f3 f4 x0
              obtain ⟨d0, d1, d2, d3, d4, _⟩ := HD7.out.kn.all
              obtain ⟨f0, f1, f2, f3, f4, _⟩ := HD7.out.kn.fall
              have x0 := HD7.out.x0
              go_wp2_with fail
              refine bodyPost_ret (v := .tuple #[.agg #[.slice AF Fl.length cF], .bool true]) (by simp [results, Try.results29, go_sem, *]) rfl (DbBool.of hf.out ?_ ?_)
              · refine OwnD.down (lo := w2.heap.size + 1) (OwnD.wide (hi := w7.heap.size) ?_ (by simp)) (by omega)
                repeat refine OwnD.setOff ?_ (by omega)
                exact HD7.out.own
              · repeat first | exact HD7.out.kn.bel | (refine Below.setCell ?_ ?_ _; rotate_left; (simp; try omega))
            · have hf : Hid (setR ts ⟨tn, ta, tr⟩ = (ts, false)) := by show _ = _; rw [setR, if_neg (by rw [HTs.out]; omega)]
              rw [decide_eq_false h6] at KVx
              go_wp2_with fail
              refine KVx.out.mono ?_
              rintro e w7 ⟨rfl, b7⟩
              have s7 := b7.size
              have kn7 := HD.out.kn.next b7
              have KP7 := Lib.hid (KP.out w7 kn7.bel)
              clear HD b7 d0 d1 d2 d3 d4 f0 f1 f2 f3 f4 x0
              obtain ⟨d0, d1, d2, d3, d4, _⟩ := kn7.all
              go_wp2_with fail
              refine KP7.out.mono ?_
              rintro e w8 ⟨Ao, co, rfl, oo, b8⟩
              have s8 := b8.size
              have kn8 := kn7.next b8
              have HO := Lib.hid oo
              clear kn7 b8 oo d0 d1 d2 d3 d4
              obtain ⟨d0, d1, d2, d3, d4, _⟩ := kn8.all
              obtain ⟨f0, f1, f2, f3, f4, _⟩ := kn8.fall
              have HF := Lib.hid kn8.bel
              clear kn8
              go_wp2_with fail
              refine bodyPost_ret (v := .tuple #[.agg #[.slice Ao ts.length co], .bool false]) (by simp [results, Try.results29, go_sem, *]) rfl (DbBool.of hf.out ?_ ?_)
              · refine OwnD.down (lo := w7.heap.size) (OwnD.wide (hi := w8.heap.size) ?_ (by simp)) (by omega)
                repeat refine OwnD.setOff ?_ (by omega)
                exact HO.out
              · repeat first | exact HF.out | (refine Below.setCell ?_ ?_ _; rotate_left; (simp; try omega))
end Go.Proofs.Ytimlecfneibjlaa
