/- SetS, Open, DbHeld, Upd, UApp, ULaw, CutD, OpenDb, UApps, UVal, InvU, EqU, Dig, Fmt, L4D, UFmt, L4V, UPar0, Box3, UPar, EqT, EqTab, EqD, in one text, as far as the seat's program has the functions (printed by tools/fit2.py). -/
import Derived.Test.YtccnhocekgikiaaGreatBu2
import Derived.Deep.Slices
import Derived.ChangeSame
import Derived.OpenShut
import Derived.ProofKit
import Derived.Deep.RegionHeld3
import Derived.Deep.DeepCutAuto
import Derived.Lib.SmallJoins
import Derived.Deep.AppendLies
import Derived.OwnWalk
import Derived.Outline
namespace Go.Proofs.YtccnhocekgikiaaGreat
section
open Go.RowKit Go.Deep

set_option maxRecDepth 100000 in
set_option maxHeartbeats 4000000 in
theorem spec_SetTable_any (A A2 : Option Addr) (n c c2 B : Nat) (ts : List Tab) (tn : ByteArray) (ta : Int) (tr : List (List Int)) (w : World) (hr : RdT w B A n ts) (hB : B ≤ w.heap.size) (hn : n ≤ 1000000000) (hs : sumT ts ≤ 4294967296)
    (hr2 : RdR w B A2 tr.length tr) (hn2 : tr.length ≤ 5000000000) (hrow : ∀ r ∈ tr, r.length ≤ 17592186044416) (htn : tn.size ≤ maxLen) :
    Calls Tryz.prog 29 #[.agg #[.slice A n c], .agg #[.string tn, .int .i64 ta, .slice A2 tr.length c2]] w (DbBool (setR ts ⟨tn, ta, tr⟩) w) := by
  obtain ⟨i1, hi1, hz0, hz1, hz2⟩ := info_parts info_tab
  have HL := Lib.hid hr.1
  have hsm := Lib.hid hs
  have hrow' := Lib.hid hrow
  have KV : Hid (∀ W, Below w.heap.size w W → Calls Tryz.prog 57 #[.agg #[.slice A n c]] W fun e w' => e = .returned (.bool (validD ts)) ∧ Below W.heap.size W w') := fun W b => spec_IsValidDatabase_any A n c B ts W (RdT.belowB hr b hB) (Nat.le_trans hB b.size) hn hs
  have KT : Hid (∀ W, Below w.heap.size w W → Calls Tryz.prog 59 #[.agg #[.string tn, .int .i64 ta, .slice A2 tr.length c2]] W fun e w' => e = .returned (.bool (validTb ⟨tn, ta, tr⟩)) ∧ Below W.heap.size W w') := fun W b => spec_IsValidTable_any tn ta A2 tr.length c2 B tr W (RdR.belowB hr2 b hB) (Nat.le_trans hB b.size) (by omega)
  have KP : Hid (∀ W, Below w.heap.size w W → Calls Tryz.prog 26 #[.agg #[.slice A n c]] W (DbNew ts W)) := fun W b => l5Copy_any A n c B ts W (RdT.belowB hr b hB) (Nat.le_trans hB b.size) hn hs
  have kn0 : Kn w [(w.heap.size, 0, .slice A n c), (w.heap.size + 1, 0, .string tn), (w.heap.size + 1, 1, .int .i64 ta), (w.heap.size + 1, 2, .slice A2 tr.length c2), (w.heap.size + 2, 0, .slice none 0 0)] (((w.alloc (.cells #[.slice A n c] 26)).alloc (.cells #[.string tn, .int .i64 ta, .slice A2 tr.length c2] 51)).alloc (.cells #[.slice none 0 0] 26)) := by
    simpa using ((((Kn.start w).box1 (.slice A n c) 26).box3 (.string tn) (.int .i64 ta) (.slice A2 tr.length c2) 51).box1 (.slice none 0 0) 26)
  clear hs hrow
  go_enter Tryz.func29, Tryz.ntmps29
  go_wp2_with fail
  have s0 : w.heap.size + 3 ≤ (((w.alloc (.cells #[.slice A n c] 26)).alloc (.cells #[.string tn, .int .i64 ta, .slice A2 tr.length c2] 51)).alloc (.cells #[.slice none 0 0] 26)).heap.size := by simp
  generalize ((w.alloc (.cells #[.slice A n c] 26)).alloc (.cells #[.string tn, .int .i64 ta, .slice A2 tr.length c2] 51)).alloc (.cells #[.slice none 0 0] 26) = w0 at kn0 s0 ⊢
  have KV0 := Lib.hid (KV.out w0 kn0.bel)
  cases hv : validD ts with
  | false =>
    have hf : Hid (setR ts ⟨tn, ta, tr⟩ = (ts, false)) := by show _ = _; rw [setR, if_neg (by rw [hv]; simp)]
    rw [hv] at KV0
    clear hv
    refine KV0.out.mono ?_
    rintro e w1 ⟨rfl, b1⟩
    have s1 := b1.size
    have kn1 := kn0.next b1
    clear kn0 b1
    obtain ⟨d0, d1, d2, d3, d4, _⟩ := kn1.all
    have KP1 := Lib.hid (KP.out w1 kn1.bel)
    go_wp2_with fail
    refine KP1.out.mono ?_
    rintro e w2 ⟨Ao, co, rfl, oo, b2⟩
    have s2 := b2.size
    have kn2 := kn1.next b2
    have HO := Lib.hid oo
    clear kn1 b2 oo d0 d1 d2 d3 d4
    obtain ⟨d0, d1, d2, d3, d4, _⟩ := kn2.all
    obtain ⟨f0, f1, f2, f3, f4, _⟩ := kn2.fall
    have HF := Lib.hid kn2.bel
    clear kn2
    go_wp2_with fail
    refine bodyPost_ret (v := .tuple #[.agg #[.slice Ao ts.length co], .bool false]) (by simp [results, Tryz.results29, go_sem, *]) rfl (DbBool.of hf.out ?_ ?_)
    · refine OwnD.down (lo := w1.heap.size) (OwnD.wide (hi := w2.heap.size) ?_ (by simp)) (by omega)
      repeat refine OwnD.setOff ?_ (by omega)
      exact HO.out
    · repeat first | exact HF.out | (refine Below.setCell ?_ ?_ _; rotate_left; (simp; try omega))
  | true =>
    have HV := Lib.hid hv
    rw [hv] at KV0
    clear hv
    refine KV0.out.mono ?_
    rintro e w1 ⟨rfl, b1⟩
    have s1 := b1.size
    have kn1 := kn0.next b1
    clear kn0 b1
    obtain ⟨d0, d1, d2, d3, d4, _⟩ := kn1.all
    have KT1 := Lib.hid (KT.out w1 kn1.bel)
    go_wp2_with fail
    cases hvt : validTb ⟨tn, ta, tr⟩ with
    | false =>
      have hf : Hid (setR ts ⟨tn, ta, tr⟩ = (ts, false)) := by show _ = _; rw [setR, if_neg (by rw [hvt]; simp)]
      rw [hvt] at KT1
      clear hvt
      refine KT1.out.mono ?_
      rintro e w2 ⟨rfl, b2⟩
      have s2 := b2.size
      have kn2 := kn1.next b2
      clear kn1 b2 d0 d1 d2 d3 d4
      obtain ⟨d0, d1, d2, d3, d4, _⟩ := kn2.all
      have KP2 := Lib.hid (KP.out w2 kn2.bel)
      go_wp2_with fail
      refine KP2.out.mono ?_
      rintro e w3 ⟨Ao, co, rfl, oo, b3⟩
      have s3 := b3.size
      have kn3 := kn2.next b3
      have HO := Lib.hid oo
      clear kn2 b3 oo d0 d1 d2 d3 d4
      obtain ⟨d0, d1, d2, d3, d4, _⟩ := kn3.all
      obtain ⟨f0, f1, f2, f3, f4, _⟩ := kn3.fall
      have HF := Lib.hid kn3.bel
      clear kn3
      go_wp2_with fail
      refine bodyPost_ret (v := .tuple #[.agg #[.slice Ao ts.length co], .bool false]) (by simp [results, Tryz.results29, go_sem, *]) rfl (DbBool.of hf.out ?_ ?_)
      · refine OwnD.down (lo := w2.heap.size) (OwnD.wide (hi := w3.heap.size) ?_ (by simp)) (by omega)
        repeat refine OwnD.setOff ?_ (by omega)
        exact HO.out
      · repeat first | exact HF.out | (refine Below.setCell ?_ ?_ _; rotate_left; (simp; try omega))
    | true =>
      have HVT := Lib.hid hvt
      rw [hvt] at KT1
      clear hvt
      refine KT1.out.mono ?_
      rintro e w2 ⟨rfl, b2⟩
      have s2 := b2.size
      have kn2 := kn1.next b2
      clear kn1 b2 d0 d1 d2 d3 d4 KT1 KV0
      obtain ⟨d0, d1, d2, d3, d4, _⟩ := kn2.all
      have ne0 : w.heap.size < w2.heap.size := by omega
      go_wp2_with fail
      clear ne0
      have hd0 : DInv w [(w.heap.size, 0, .slice A n c), (w.heap.size + 1, 0, .string tn), (w.heap.size + 1, 1, .int .i64 ta), (w.heap.size + 1, 2, .slice A2 tr.length c2), (w.heap.size + 2, 0, .slice none 0 0)] w2.heap.size (w2.heap.size + 1) [] (.slice none 0 0) (w2.alloc (.cells #[.slice none 0 0] 26)) :=
        ⟨kn2.next ((Below.refl _ _).alloc (Nat.le_refl _) (.cells #[.slice none 0 0] 26)), OwnD.nil _ _ _, by simp, by omega, by omega, by simp only [List.forall_mem_cons]; simp; omega, by simp [go_sem], by simp [go_sem]⟩
      have hsx : Hid (w.heap.size + 3 ≤ w2.heap.size) := by show _ ≤ _; omega
      clear kn2 d0 d1 d2 d3 d4
      generalize w2.alloc (.cells #[.slice none 0 0] 26) = w3 at hd0 ⊢
      go_loopw [7, 8] (fun d i wr => ∃ (k : Nat) (v : Value), k ≤ n ∧ i = .int .i64 k ∧ d = .bool (setS ⟨tn, ta, tr⟩ (ts.take k)).1 ∧ Hid (DInv w [(w.heap.size, 0, .slice A n c), (w.heap.size + 1, 0, .string tn), (w.heap.size + 1, 1, .int .i64 ta), (w.heap.size + 1, 2, .slice A2 tr.length c2), (w.heap.size + 2, 0, .slice none 0 0)] w2.heap.size (w2.heap.size + 1) (setS ⟨tn, ta, tr⟩ (ts.take k)).2 v wr)) (fun _ i _ => n - (intOf i).toNat)
      case atStart => exact ⟨0, _, by omega, rfl, rfl, hd0⟩
      case round =>
        obtain ⟨k, v, hk, rfl, rfl, hinv⟩ := hrel
        clear hd0
        have hbel := Lib.hid hinv.out.kn.bel
        have hsz := hbel.out.size
        have hsl : (setS ⟨tn, ta, tr⟩ (ts.take k)).2.length ≤ 2000000000 := by
          have h1 := setS_len2 ⟨tn, ta, tr⟩ (ts.take k)
          rw [List.length_take] at h1
          omega
        obtain ⟨d0, d1, d2, d3, d4, _⟩ := hinv.out.kn.all
        have x0 := hinv.out.x0
        by_cases hlt : k < n
        · obtain ⟨b, o, x, A', c', rfl, hb, hx, hc0, hc1, hc2, hrd, hm, hnm⟩ := RdT.at_ hr hlt
          have hts := Lib.hid (tab_small hx hsm.out)
          have HX0 := Lib.hid (setS_take (t := ⟨tn, ta, tr⟩) hx)
          have hb2 : b < w.heap.size := by omega
          obtain ⟨xn, xa, xr⟩ := x
          have hm0 : Hid (w.cell? ⟨b, o + k * 3, none⟩ = some (.string xn)) := hc0
          have hm1 : Hid (w.cell? ⟨b, o + k * 3 + 1, none⟩ = some (.int .i64 xa)) := hc1
          have hm2 : Hid (w.cell? ⟨b, o + k * 3 + 2, none⟩ = some (.slice A' xr.length c')) := hc2
          have m0 := (hbel.out.cell (p := ⟨b, o + k * 3, none⟩) hb2).trans hm0.out
          have m1 := (hbel.out.cell (p := ⟨b, o + k * 3 + 1, none⟩) hb2).trans hm1.out
          have m2 := (hbel.out.cell (p := ⟨b, o + k * 3 + 2, none⟩) hb2).trans hm2.out
          have hrdx : Hid (RdR w B A' xr.length xr) := hrd
          have hnm : xn.size ≤ maxLen := hnm
          have HX : Hid (setS ⟨tn, ta, tr⟩ (ts.take (k + 1)) = setF ⟨tn, ta, tr⟩ (setS ⟨tn, ta, tr⟩ (ts.take k)) ⟨xn, xa, xr⟩) := HX0
          generalize setS ⟨tn, ta, tr⟩ (ts.take k) = S at hinv hsl HX ⊢
          obtain ⟨d, acc⟩ := S
          have g1 : (0 : Int) ≤ (k : Int) := by omega
          have g2 : (k : Int) < (n : Int) := by omega
          have g3 : (k : Int).toNat = k := by omega
          clear hx hc0 hc1 hc2 hrd hm HX0
          cases hl : ltN xn tn with
          | true =>
            by_cases he : xn = tn
            · cases d with
              | true =>
                have HN : Hid (setS ⟨tn, ta, tr⟩ (ts.take (k + 1)) = (true, acc)) := by show _ = _; rw [HX.out]; simp only [setF, hl]; rw [if_pos he]; simp
                have qe := (show (xn.toList == tn.toList) = true by rw [he]; simp)
                unfold ltN at hl
                clear he
                have hla0 : acc.length ≤ 2000000000 := hsl
                have HI0 : Hid (DInv w [(w.heap.size, 0, .slice (some ⟨b, o, none⟩) n c), (w.heap.size + 1, 0, .string tn), (w.heap.size + 1, 1, .int .i64 ta), (w.heap.size + 1, 2, .slice A2 tr.length c2), (w.heap.size + 2, 0, .slice none 0 0)] w2.heap.size (w2.heap.size + 1) acc v wr) := hinv
                clear hinv
                go_wp2_with fail
                go_quiet (fail)
                have HI4 := Lib.hid (HI0.out.drewN nq)
                generalize wr.drewN nq = w4 at HI4 ⊢
                clear d0 d1 d2 d3 d4 x0 m0 m1 m2 HI0
                obtain ⟨d0, d1, d2, d3, d4, _⟩ := HI4.out.kn.all
                have x0 := HI4.out.x0
                have hbl4 := Lib.hid HI4.out.kn.bel
                have m0 := (hbl4.out.cell (p := ⟨b, o + k * 3, none⟩) hb2).trans hm0.out
                have m1 := (hbl4.out.cell (p := ⟨b, o + k * 3 + 1, none⟩) hb2).trans hm1.out
                have m2 := (hbl4.out.cell (p := ⟨b, o + k * 3 + 2, none⟩) hb2).trans hm2.out
                go_wp2_with fail
                go_quiet (fail)
                have HI7 := Lib.hid (HI4.out.drewN nq)
                generalize w4.drewN nq = w7 at HI7 ⊢
                clear d0 d1 d2 d3 d4 x0 m0 m1 m2 HI4
                obtain ⟨d0, d1, d2, d3, d4, _⟩ := HI7.out.kn.all
                have x0 := HI7.out.x0
                have hbl7 := Lib.hid HI7.out.kn.bel
                have m0 := (hbl7.out.cell (p := ⟨b, o + k * 3, none⟩) hb2).trans hm0.out
                have m1 := (hbl7.out.cell (p := ⟨b, o + k * 3 + 1, none⟩) hb2).trans hm1.out
                have m2 := (hbl7.out.cell (p := ⟨b, o + k * 3 + 2, none⟩) hb2).trans hm2.out
                go_wp2_with fail
                refine ⟨⟨k + 1, _, by omega, by go_num, by rw [HN.out], by rw [HN.out]; exact HI7⟩, ?_⟩
                simp [intOf]
                omega
              | false =>
                have HN : Hid (setS ⟨tn, ta, tr⟩ (ts.take (k + 1)) = (false, acc)) := by show _ = _; rw [HX.out]; simp only [setF, hl]; rw [if_pos he]; simp
                have qe := (show (xn.toList == tn.toList) = true by rw [he]; simp)
                unfold ltN at hl
                clear he
                have hla0 : acc.length ≤ 2000000000 := hsl
                have HI0 : Hid (DInv w [(w.heap.size, 0, .slice (some ⟨b, o, none⟩) n c), (w.heap.size + 1, 0, .string tn), (w.heap.size + 1, 1, .int .i64 ta), (w.heap.size + 1, 2, .slice A2 tr.length c2), (w.heap.size + 2, 0, .slice none 0 0)] w2.heap.size (w2.heap.size + 1) acc v wr) := hinv
                clear hinv
                go_wp2_with fail
                go_quiet (fail)
                have HI4 := Lib.hid (HI0.out.drewN nq)
                generalize wr.drewN nq = w4 at HI4 ⊢
                clear d0 d1 d2 d3 d4 x0 m0 m1 m2 HI0
                obtain ⟨d0, d1, d2, d3, d4, _⟩ := HI4.out.kn.all
                have x0 := HI4.out.x0
                have hbl4 := Lib.hid HI4.out.kn.bel
                have m0 := (hbl4.out.cell (p := ⟨b, o + k * 3, none⟩) hb2).trans hm0.out
                have m1 := (hbl4.out.cell (p := ⟨b, o + k * 3 + 1, none⟩) hb2).trans hm1.out
                have m2 := (hbl4.out.cell (p := ⟨b, o + k * 3 + 2, none⟩) hb2).trans hm2.out
                go_wp2_with fail
                go_quiet (fail)
                have HI7 := Lib.hid (HI4.out.drewN nq)
                generalize w4.drewN nq = w7 at HI7 ⊢
                clear d0 d1 d2 d3 d4 x0 m0 m1 m2 HI4
                obtain ⟨d0, d1, d2, d3, d4, _⟩ := HI7.out.kn.all
                have x0 := HI7.out.x0
                have hbl7 := Lib.hid HI7.out.kn.bel
                have m0 := (hbl7.out.cell (p := ⟨b, o + k * 3, none⟩) hb2).trans hm0.out
                have m1 := (hbl7.out.cell (p := ⟨b, o + k * 3 + 1, none⟩) hb2).trans hm1.out
                have m2 := (hbl7.out.cell (p := ⟨b, o + k * 3 + 2, none⟩) hb2).trans hm2.out
                go_wp2_with fail
                refine ⟨⟨k + 1, _, by omega, by go_num, by rw [HN.out], by rw [HN.out]; exact HI7⟩, ?_⟩
                simp [intOf]
                omega
            · cases d with
              | true =>
                have HN : Hid (setS ⟨tn, ta, tr⟩ (ts.take (k + 1)) = (true, acc ++ [⟨xn, xa, xr⟩])) := by show _ = _; rw [HX.out]; simp only [setF, hl]; rw [if_neg he]; simp
                have qe := str_eq0 he
                unfold ltN at hl
                clear he
                have hla0 : acc.length ≤ 2000000000 := hsl
                have HI0 : Hid (DInv w [(w.heap.size, 0, .slice (some ⟨b, o, none⟩) n c), (w.heap.size + 1, 0, .string tn), (w.heap.size + 1, 1, .int .i64 ta), (w.heap.size + 1, 2, .slice A2 tr.length c2), (w.heap.size + 2, 0, .slice none 0 0)] w2.heap.size (w2.heap.size + 1) acc v wr) := hinv
                clear hinv
                go_wp2_with fail
                go_quiet (fail)
                have HI4 := Lib.hid (HI0.out.drewN nq)
                generalize wr.drewN nq = w4 at HI4 ⊢
                clear d0 d1 d2 d3 d4 x0 m0 m1 m2 HI0
                obtain ⟨d0, d1, d2, d3, d4, _⟩ := HI4.out.kn.all
                have x0 := HI4.out.x0
                have hbl4 := Lib.hid HI4.out.kn.bel
                have m0 := (hbl4.out.cell (p := ⟨b, o + k * 3, none⟩) hb2).trans hm0.out
                have m1 := (hbl4.out.cell (p := ⟨b, o + k * 3 + 1, none⟩) hb2).trans hm1.out
                have m2 := (hbl4.out.cell (p := ⟨b, o + k * 3 + 2, none⟩) hb2).trans hm2.out
                go_wp2_with fail
                go_quiet (fail)
                have HI7 := Lib.hid (HI4.out.drewN nq)
                generalize w4.drewN nq = w7 at HI7 ⊢
                clear d0 d1 d2 d3 d4 x0 m0 m1 m2 HI4
                obtain ⟨d0, d1, d2, d3, d4, _⟩ := HI7.out.kn.all
                have x0 := HI7.out.x0
                have hbl7 := Lib.hid HI7.out.kn.bel
                have m0 := (hbl7.out.cell (p := ⟨b, o + k * 3, none⟩) hb2).trans hm0.out
                have m1 := (hbl7.out.cell (p := ⟨b, o + k * 3 + 1, none⟩) hb2).trans hm1.out
                have m2 := (hbl7.out.cell (p := ⟨b, o + k * 3 + 2, none⟩) hb2).trans hm2.out
                have KX7 := Lib.hid (l4Copy_any xn xa A' xr.length c' B xr w7 (RdR.belowB hrdx.out hbl7.out hB) (Nat.le_trans hB hbl7.out.size) hts.out.1 hts.out.2)
                go_wp2_with fail
                refine KX7.out.mono ?_
                rintro e w1 ⟨A1, c1, rfl, ho1, hb1⟩
                clear d0 d1 d2 d3 d4 x0 m0 m1 m2 KX7
                obtain ⟨xs, hrow, n2, happ⟩ := HI7.out.app (nm := xn) (ar := xa) (w1 := w1.alloc (.cells #[.string xn, .int .i64 xa, .slice A1 xr.length c1] 51)) (hb1.alloc hb1.size (.cells #[.string xn, .int .i64 xa, .slice A1 xr.length c1] 51)) (ho1.below ((Below.refl w1.heap.size w1).alloc (Nat.le_refl _) (.cells #[.string xn, .int .i64 xa, .slice A1 xr.length c1] 51)) (Nat.le_refl _)) (Nat.le_refl _) (by simp) hnm
                have hnb : (w1.alloc (.cells #[.string xn, .int .i64 xa, .slice A1 xr.length c1] 51)).heap.size = w1.heap.size + 1 := by simp
                have hgn := heap_alloc_new (w1.alloc (.cells #[.string xn, .int .i64 xa, .slice A1 xr.length c1] 51)) (.cells #[.string xn, .int .i64 xa, .slice A1 xr.length c1] 51)
                have hx1 : w2.heap.size < w1.heap.size := Nat.lt_of_lt_of_le (Nat.lt_of_lt_of_le HI7.out.hxb HI7.out.size) hb1.size
                rw [hnb] at hgn happ
                have n3 : w1.cell? ⟨w2.heap.size, 0, none⟩ = some (v) := (hb1.cell (p := ⟨w2.heap.size, 0, none⟩) (Nat.lt_of_lt_of_le HI7.out.hxb HI7.out.size)).trans HI7.out.x0
                have HA := Lib.hid happ
                have HR := Lib.hid hrow
                have HGN := Lib.hid hgn
                clear happ ho1 hb1 hrow hgn n2
                go_wp2_with (at_builtin; refine wpList_append_lies _ rfl _ _ _ rfl 0 51 i1 _ 3 48 Tryz.underlying24 hi1 hz0 hz1 hz2 rfl (by omega) _ (acc).length _ rfl HR.out ⟨w1.heap.size + 1, 0, none⟩ 1 1 [.string xn, .int .i64 xa, .slice A1 xr.length c1] rfl rfl (World.news_of_block (cs := #[.string xn, .int .i64 xa, .slice A1 xr.length c1]) (t := 51) (fr := (0, 0)) HGN.out) (by simp [Value.oneCell']) (by omega) (by unfold maxLen; omega) (by omega) (Nat.zero_le _) (w1.heap.size + 1 + 1) (by simp) ?_; intro g cap w2_1 hown2 hgrow hat hlt2; obtain ⟨m2, m3, hF, hcl, hsz2⟩ := HA.out g cap w2_1 hown2 hgrow hat; have HF := Lib.hid hF; clear hown2 hgrow hat hF hcl hsz2)
                refine ⟨⟨k + 1, _, by omega, by go_num, by rw [HN.out], by rw [HN.out]; exact HF⟩, ?_⟩
                simp [intOf]
                omega
              | false =>
                have HN : Hid (setS ⟨tn, ta, tr⟩ (ts.take (k + 1)) = (false, acc ++ [⟨xn, xa, xr⟩])) := by show _ = _; rw [HX.out]; simp only [setF, hl]; rw [if_neg he]; simp
                have qe := str_eq0 he
                unfold ltN at hl
                clear he
                have hla0 : acc.length ≤ 2000000000 := hsl
                have HI0 : Hid (DInv w [(w.heap.size, 0, .slice (some ⟨b, o, none⟩) n c), (w.heap.size + 1, 0, .string tn), (w.heap.size + 1, 1, .int .i64 ta), (w.heap.size + 1, 2, .slice A2 tr.length c2), (w.heap.size + 2, 0, .slice none 0 0)] w2.heap.size (w2.heap.size + 1) acc v wr) := hinv
                clear hinv
                go_wp2_with fail
                go_quiet (fail)
                have HI4 := Lib.hid (HI0.out.drewN nq)
                generalize wr.drewN nq = w4 at HI4 ⊢
                clear d0 d1 d2 d3 d4 x0 m0 m1 m2 HI0
                obtain ⟨d0, d1, d2, d3, d4, _⟩ := HI4.out.kn.all
                have x0 := HI4.out.x0
                have hbl4 := Lib.hid HI4.out.kn.bel
                have m0 := (hbl4.out.cell (p := ⟨b, o + k * 3, none⟩) hb2).trans hm0.out
                have m1 := (hbl4.out.cell (p := ⟨b, o + k * 3 + 1, none⟩) hb2).trans hm1.out
                have m2 := (hbl4.out.cell (p := ⟨b, o + k * 3 + 2, none⟩) hb2).trans hm2.out
                go_wp2_with fail
                go_quiet (fail)
                have HI7 := Lib.hid (HI4.out.drewN nq)
                generalize w4.drewN nq = w7 at HI7 ⊢
                clear d0 d1 d2 d3 d4 x0 m0 m1 m2 HI4
                obtain ⟨d0, d1, d2, d3, d4, _⟩ := HI7.out.kn.all
                have x0 := HI7.out.x0
                have hbl7 := Lib.hid HI7.out.kn.bel
                have m0 := (hbl7.out.cell (p := ⟨b, o + k * 3, none⟩) hb2).trans hm0.out
                have m1 := (hbl7.out.cell (p := ⟨b, o + k * 3 + 1, none⟩) hb2).trans hm1.out
                have m2 := (hbl7.out.cell (p := ⟨b, o + k * 3 + 2, none⟩) hb2).trans hm2.out
                have KX7 := Lib.hid (l4Copy_any xn xa A' xr.length c' B xr w7 (RdR.belowB hrdx.out hbl7.out hB) (Nat.le_trans hB hbl7.out.size) hts.out.1 hts.out.2)
                go_wp2_with fail
                refine KX7.out.mono ?_
                rintro e w1 ⟨A1, c1, rfl, ho1, hb1⟩
                clear d0 d1 d2 d3 d4 x0 m0 m1 m2 KX7
                obtain ⟨xs, hrow, n2, happ⟩ := HI7.out.app (nm := xn) (ar := xa) (w1 := w1.alloc (.cells #[.string xn, .int .i64 xa, .slice A1 xr.length c1] 51)) (hb1.alloc hb1.size (.cells #[.string xn, .int .i64 xa, .slice A1 xr.length c1] 51)) (ho1.below ((Below.refl w1.heap.size w1).alloc (Nat.le_refl _) (.cells #[.string xn, .int .i64 xa, .slice A1 xr.length c1] 51)) (Nat.le_refl _)) (Nat.le_refl _) (by simp) hnm
                have hnb : (w1.alloc (.cells #[.string xn, .int .i64 xa, .slice A1 xr.length c1] 51)).heap.size = w1.heap.size + 1 := by simp
                have hgn := heap_alloc_new (w1.alloc (.cells #[.string xn, .int .i64 xa, .slice A1 xr.length c1] 51)) (.cells #[.string xn, .int .i64 xa, .slice A1 xr.length c1] 51)
                have hx1 : w2.heap.size < w1.heap.size := Nat.lt_of_lt_of_le (Nat.lt_of_lt_of_le HI7.out.hxb HI7.out.size) hb1.size
                rw [hnb] at hgn happ
                have n3 : w1.cell? ⟨w2.heap.size, 0, none⟩ = some (v) := (hb1.cell (p := ⟨w2.heap.size, 0, none⟩) (Nat.lt_of_lt_of_le HI7.out.hxb HI7.out.size)).trans HI7.out.x0
                have HA := Lib.hid happ
                have HR := Lib.hid hrow
                have HGN := Lib.hid hgn
                clear happ ho1 hb1 hrow hgn n2
                go_wp2_with (at_builtin; refine wpList_append_lies _ rfl _ _ _ rfl 0 51 i1 _ 3 48 Tryz.underlying24 hi1 hz0 hz1 hz2 rfl (by omega) _ (acc).length _ rfl HR.out ⟨w1.heap.size + 1, 0, none⟩ 1 1 [.string xn, .int .i64 xa, .slice A1 xr.length c1] rfl rfl (World.news_of_block (cs := #[.string xn, .int .i64 xa, .slice A1 xr.length c1]) (t := 51) (fr := (0, 0)) HGN.out) (by simp [Value.oneCell']) (by omega) (by unfold maxLen; omega) (by omega) (Nat.zero_le _) (w1.heap.size + 1 + 1) (by simp) ?_; intro g cap w2_1 hown2 hgrow hat hlt2; obtain ⟨m2, m3, hF, hcl, hsz2⟩ := HA.out g cap w2_1 hown2 hgrow hat; have HF := Lib.hid hF; clear hown2 hgrow hat hF hcl hsz2)
                refine ⟨⟨k + 1, _, by omega, by go_num, by rw [HN.out], by rw [HN.out]; exact HF⟩, ?_⟩
                simp [intOf]
                omega
          | false =>
            by_cases he : xn = tn
            · cases d with
              | true =>
                have HN : Hid (setS ⟨tn, ta, tr⟩ (ts.take (k + 1)) = (true, acc)) := by show _ = _; rw [HX.out]; simp only [setF, hl]; rw [if_pos he]; simp
                have qe := (show (xn.toList == tn.toList) = true by rw [he]; simp)
                unfold ltN at hl
                clear he
                have hla0 : acc.length ≤ 2000000000 := hsl
                have HI0 : Hid (DInv w [(w.heap.size, 0, .slice (some ⟨b, o, none⟩) n c), (w.heap.size + 1, 0, .string tn), (w.heap.size + 1, 1, .int .i64 ta), (w.heap.size + 1, 2, .slice A2 tr.length c2), (w.heap.size + 2, 0, .slice none 0 0)] w2.heap.size (w2.heap.size + 1) acc v wr) := hinv
                clear hinv
                go_wp2_with fail
                go_quiet (fail)
                have HI4 := Lib.hid (HI0.out.drewN nq)
                generalize wr.drewN nq = w4 at HI4 ⊢
                clear d0 d1 d2 d3 d4 x0 m0 m1 m2 HI0
                obtain ⟨d0, d1, d2, d3, d4, _⟩ := HI4.out.kn.all
                have x0 := HI4.out.x0
                have hbl4 := Lib.hid HI4.out.kn.bel
                have m0 := (hbl4.out.cell (p := ⟨b, o + k * 3, none⟩) hb2).trans hm0.out
                have m1 := (hbl4.out.cell (p := ⟨b, o + k * 3 + 1, none⟩) hb2).trans hm1.out
                have m2 := (hbl4.out.cell (p := ⟨b, o + k * 3 + 2, none⟩) hb2).trans hm2.out
                go_wp2_with fail
                go_quiet (fail)
                have HI7 := Lib.hid (HI4.out.drewN nq)
                generalize w4.drewN nq = w7 at HI7 ⊢
                clear d0 d1 d2 d3 d4 x0 m0 m1 m2 HI4
                obtain ⟨d0, d1, d2, d3, d4, _⟩ := HI7.out.kn.all
                have x0 := HI7.out.x0
                have hbl7 := Lib.hid HI7.out.kn.bel
                have m0 := (hbl7.out.cell (p := ⟨b, o + k * 3, none⟩) hb2).trans hm0.out
                have m1 := (hbl7.out.cell (p := ⟨b, o + k * 3 + 1, none⟩) hb2).trans hm1.out
                have m2 := (hbl7.out.cell (p := ⟨b, o + k * 3 + 2, none⟩) hb2).trans hm2.out
                go_wp2_with fail
                refine ⟨⟨k + 1, _, by omega, by go_num, by rw [HN.out], by rw [HN.out]; exact HI7⟩, ?_⟩
                simp [intOf]
                omega
              | false =>
                have HN : Hid (setS ⟨tn, ta, tr⟩ (ts.take (k + 1)) = (true, acc ++ [⟨tn, ta, tr⟩])) := by show _ = _; rw [HX.out]; simp only [setF, hl]; rw [if_pos he]; simp
                have qe := (show (xn.toList == tn.toList) = true by rw [he]; simp)
                unfold ltN at hl
                clear he
                have hla0 : acc.length ≤ 2000000000 := hsl
                have HI0 : Hid (DInv w [(w.heap.size, 0, .slice (some ⟨b, o, none⟩) n c), (w.heap.size + 1, 0, .string tn), (w.heap.size + 1, 1, .int .i64 ta), (w.heap.size + 1, 2, .slice A2 tr.length c2), (w.heap.size + 2, 0, .slice none 0 0)] w2.heap.size (w2.heap.size + 1) acc v wr) := hinv
                clear hinv
                go_wp2_with fail
                go_quiet (fail)
                have HI4 := Lib.hid (HI0.out.drewN nq)
                generalize wr.drewN nq = w4 at HI4 ⊢
                clear d0 d1 d2 d3 d4 x0 m0 m1 m2 HI0
                obtain ⟨d0, d1, d2, d3, d4, _⟩ := HI4.out.kn.all
                have x0 := HI4.out.x0
                have hbl4 := Lib.hid HI4.out.kn.bel
                have m0 := (hbl4.out.cell (p := ⟨b, o + k * 3, none⟩) hb2).trans hm0.out
                have m1 := (hbl4.out.cell (p := ⟨b, o + k * 3 + 1, none⟩) hb2).trans hm1.out
                have m2 := (hbl4.out.cell (p := ⟨b, o + k * 3 + 2, none⟩) hb2).trans hm2.out
                have KT4 := Lib.hid (l4Copy_any tn ta A2 tr.length c2 B tr w4 (RdR.belowB hr2 hbl4.out hB) (Nat.le_trans hB hbl4.out.size) hn2 hrow'.out)
                go_wp2_with fail
                refine KT4.out.mono ?_
                rintro e w1 ⟨A1, c1, rfl, ho1, hb1⟩
                clear d0 d1 d2 d3 d4 x0 m0 m1 m2 KT4
                obtain ⟨xs, hrow, n2, happ⟩ := HI4.out.app (nm := tn) (ar := ta) (w1 := w1.alloc (.cells #[.string tn, .int .i64 ta, .slice A1 tr.length c1] 51)) (hb1.alloc hb1.size (.cells #[.string tn, .int .i64 ta, .slice A1 tr.length c1] 51)) (ho1.below ((Below.refl w1.heap.size w1).alloc (Nat.le_refl _) (.cells #[.string tn, .int .i64 ta, .slice A1 tr.length c1] 51)) (Nat.le_refl _)) (Nat.le_refl _) (by simp) htn
                have hnb : (w1.alloc (.cells #[.string tn, .int .i64 ta, .slice A1 tr.length c1] 51)).heap.size = w1.heap.size + 1 := by simp
                have hgn := heap_alloc_new (w1.alloc (.cells #[.string tn, .int .i64 ta, .slice A1 tr.length c1] 51)) (.cells #[.string tn, .int .i64 ta, .slice A1 tr.length c1] 51)
                have hx1 : w2.heap.size < w1.heap.size := Nat.lt_of_lt_of_le (Nat.lt_of_lt_of_le HI4.out.hxb HI4.out.size) hb1.size
                rw [hnb] at hgn happ
                have n3 : w1.cell? ⟨w2.heap.size, 0, none⟩ = some (v) := (hb1.cell (p := ⟨w2.heap.size, 0, none⟩) (Nat.lt_of_lt_of_le HI4.out.hxb HI4.out.size)).trans HI4.out.x0
                have HA := Lib.hid happ
                have HR := Lib.hid hrow
                have HGN := Lib.hid hgn
                clear happ ho1 hb1 hrow hgn n2
                go_wp2_with (at_builtin; refine wpList_append_lies _ rfl _ _ _ rfl 0 51 i1 _ 3 48 Tryz.underlying24 hi1 hz0 hz1 hz2 rfl (by omega) _ (acc).length _ rfl HR.out ⟨w1.heap.size + 1, 0, none⟩ 1 1 [.string tn, .int .i64 ta, .slice A1 tr.length c1] rfl rfl (World.news_of_block (cs := #[.string tn, .int .i64 ta, .slice A1 tr.length c1]) (t := 51) (fr := (0, 0)) HGN.out) (by simp [Value.oneCell']) (by omega) (by unfold maxLen; omega) (by omega) (Nat.zero_le _) (w1.heap.size + 1 + 1) (by simp) ?_; intro g cap w2_1 hown2 hgrow hat hlt2; obtain ⟨m2, m3, hF, hcl, hsz2⟩ := HA.out g cap w2_1 hown2 hgrow hat; have HF := Lib.hid hF; clear hown2 hgrow hat hF hcl hsz2)
                have hla : (acc ++ [(⟨tn, ta, tr⟩ : Tab)]).length ≤ 2000000001 := by rw [List.length_append]; simp; omega
                generalize w2_1.setCell ⟨w2.heap.size, 0, none⟩ (.slice (some ⟨g, 0, none⟩) (acc.length + 1) cap) = w5 at HF ⊢
                generalize (Value.slice (some ⟨g, 0, none⟩) (acc.length + 1) cap) = v5 at HF
                clear HI4 hbl4
                clear m2 m3 n3 hx1 hnb HR HGN HA
                generalize acc ++ [(⟨tn, ta, tr⟩ : Tab)] = acc2 at HF HN hla
                obtain ⟨d0, d1, d2, d3, d4, _⟩ := HF.out.kn.all
                have x0 := HF.out.x0
                have hbl5 := Lib.hid HF.out.kn.bel
                have m0 := (hbl5.out.cell (p := ⟨b, o + k * 3, none⟩) hb2).trans hm0.out
                have m1 := (hbl5.out.cell (p := ⟨b, o + k * 3 + 1, none⟩) hb2).trans hm1.out
                have m2 := (hbl5.out.cell (p := ⟨b, o + k * 3 + 2, none⟩) hb2).trans hm2.out
                go_wp2_with fail
                go_quiet (fail)
                have HI7 := Lib.hid (HF.out.drewN nq)
                generalize w5.drewN nq = w7 at HI7 ⊢
                clear d0 d1 d2 d3 d4 x0 m0 m1 m2 HF
                obtain ⟨d0, d1, d2, d3, d4, _⟩ := HI7.out.kn.all
                have x0 := HI7.out.x0
                have hbl7 := Lib.hid HI7.out.kn.bel
                have m0 := (hbl7.out.cell (p := ⟨b, o + k * 3, none⟩) hb2).trans hm0.out
                have m1 := (hbl7.out.cell (p := ⟨b, o + k * 3 + 1, none⟩) hb2).trans hm1.out
                have m2 := (hbl7.out.cell (p := ⟨b, o + k * 3 + 2, none⟩) hb2).trans hm2.out
                go_wp2_with fail
                refine ⟨⟨k + 1, _, by omega, by go_num, by rw [HN.out], by rw [HN.out]; exact HI7⟩, ?_⟩
                simp [intOf]
                omega
            · cases d with
              | true =>
                have HN : Hid (setS ⟨tn, ta, tr⟩ (ts.take (k + 1)) = (true, acc ++ [⟨xn, xa, xr⟩])) := by show _ = _; rw [HX.out]; simp only [setF, hl]; rw [if_neg he]; simp
                have qe := str_eq0 he
                unfold ltN at hl
                clear he
                have hla0 : acc.length ≤ 2000000000 := hsl
                have HI0 : Hid (DInv w [(w.heap.size, 0, .slice (some ⟨b, o, none⟩) n c), (w.heap.size + 1, 0, .string tn), (w.heap.size + 1, 1, .int .i64 ta), (w.heap.size + 1, 2, .slice A2 tr.length c2), (w.heap.size + 2, 0, .slice none 0 0)] w2.heap.size (w2.heap.size + 1) acc v wr) := hinv
                clear hinv
                go_wp2_with fail
                go_quiet (fail)
                have HI4 := Lib.hid (HI0.out.drewN nq)
                generalize wr.drewN nq = w4 at HI4 ⊢
                clear d0 d1 d2 d3 d4 x0 m0 m1 m2 HI0
                obtain ⟨d0, d1, d2, d3, d4, _⟩ := HI4.out.kn.all
                have x0 := HI4.out.x0
                have hbl4 := Lib.hid HI4.out.kn.bel
                have m0 := (hbl4.out.cell (p := ⟨b, o + k * 3, none⟩) hb2).trans hm0.out
                have m1 := (hbl4.out.cell (p := ⟨b, o + k * 3 + 1, none⟩) hb2).trans hm1.out
                have m2 := (hbl4.out.cell (p := ⟨b, o + k * 3 + 2, none⟩) hb2).trans hm2.out
                go_wp2_with fail
                go_quiet (fail)
                have HI7 := Lib.hid (HI4.out.drewN nq)
                generalize w4.drewN nq = w7 at HI7 ⊢
                clear d0 d1 d2 d3 d4 x0 m0 m1 m2 HI4
                obtain ⟨d0, d1, d2, d3, d4, _⟩ := HI7.out.kn.all
                have x0 := HI7.out.x0
                have hbl7 := Lib.hid HI7.out.kn.bel
                have m0 := (hbl7.out.cell (p := ⟨b, o + k * 3, none⟩) hb2).trans hm0.out
                have m1 := (hbl7.out.cell (p := ⟨b, o + k * 3 + 1, none⟩) hb2).trans hm1.out
                have m2 := (hbl7.out.cell (p := ⟨b, o + k * 3 + 2, none⟩) hb2).trans hm2.out
                have KX7 := Lib.hid (l4Copy_any xn xa A' xr.length c' B xr w7 (RdR.belowB hrdx.out hbl7.out hB) (Nat.le_trans hB hbl7.out.size) hts.out.1 hts.out.2)
                go_wp2_with fail
                refine KX7.out.mono ?_
                rintro e w1 ⟨A1, c1, rfl, ho1, hb1⟩
                clear d0 d1 d2 d3 d4 x0 m0 m1 m2 KX7
                obtain ⟨xs, hrow, n2, happ⟩ := HI7.out.app (nm := xn) (ar := xa) (w1 := w1.alloc (.cells #[.string xn, .int .i64 xa, .slice A1 xr.length c1] 51)) (hb1.alloc hb1.size (.cells #[.string xn, .int .i64 xa, .slice A1 xr.length c1] 51)) (ho1.below ((Below.refl w1.heap.size w1).alloc (Nat.le_refl _) (.cells #[.string xn, .int .i64 xa, .slice A1 xr.length c1] 51)) (Nat.le_refl _)) (Nat.le_refl _) (by simp) hnm
                have hnb : (w1.alloc (.cells #[.string xn, .int .i64 xa, .slice A1 xr.length c1] 51)).heap.size = w1.heap.size + 1 := by simp
                have hgn := heap_alloc_new (w1.alloc (.cells #[.string xn, .int .i64 xa, .slice A1 xr.length c1] 51)) (.cells #[.string xn, .int .i64 xa, .slice A1 xr.length c1] 51)
                have hx1 : w2.heap.size < w1.heap.size := Nat.lt_of_lt_of_le (Nat.lt_of_lt_of_le HI7.out.hxb HI7.out.size) hb1.size
                rw [hnb] at hgn happ
                have n3 : w1.cell? ⟨w2.heap.size, 0, none⟩ = some (v) := (hb1.cell (p := ⟨w2.heap.size, 0, none⟩) (Nat.lt_of_lt_of_le HI7.out.hxb HI7.out.size)).trans HI7.out.x0
                have HA := Lib.hid happ
                have HR := Lib.hid hrow
                have HGN := Lib.hid hgn
                clear happ ho1 hb1 hrow hgn n2
                go_wp2_with (at_builtin; refine wpList_append_lies _ rfl _ _ _ rfl 0 51 i1 _ 3 48 Tryz.underlying24 hi1 hz0 hz1 hz2 rfl (by omega) _ (acc).length _ rfl HR.out ⟨w1.heap.size + 1, 0, none⟩ 1 1 [.string xn, .int .i64 xa, .slice A1 xr.length c1] rfl rfl (World.news_of_block (cs := #[.string xn, .int .i64 xa, .slice A1 xr.length c1]) (t := 51) (fr := (0, 0)) HGN.out) (by simp [Value.oneCell']) (by omega) (by unfold maxLen; omega) (by omega) (Nat.zero_le _) (w1.heap.size + 1 + 1) (by simp) ?_; intro g cap w2_1 hown2 hgrow hat hlt2; obtain ⟨m2, m3, hF, hcl, hsz2⟩ := HA.out g cap w2_1 hown2 hgrow hat; have HF := Lib.hid hF; clear hown2 hgrow hat hF hcl hsz2)
                refine ⟨⟨k + 1, _, by omega, by go_num, by rw [HN.out], by rw [HN.out]; exact HF⟩, ?_⟩
                simp [intOf]
                omega
              | false =>
                have HN : Hid (setS ⟨tn, ta, tr⟩ (ts.take (k + 1)) = (true, acc ++ [⟨tn, ta, tr⟩] ++ [⟨xn, xa, xr⟩])) := by show _ = _; rw [HX.out]; simp only [setF, hl]; rw [if_neg he]; simp
                have qe := str_eq0 he
                unfold ltN at hl
                clear he
                have hla0 : acc.length ≤ 2000000000 := hsl
                have HI0 : Hid (DInv w [(w.heap.size, 0, .slice (some ⟨b, o, none⟩) n c), (w.heap.size + 1, 0, .string tn), (w.heap.size + 1, 1, .int .i64 ta), (w.heap.size + 1, 2, .slice A2 tr.length c2), (w.heap.size + 2, 0, .slice none 0 0)] w2.heap.size (w2.heap.size + 1) acc v wr) := hinv
                clear hinv
                go_wp2_with fail
                go_quiet (fail)
                have HI4 := Lib.hid (HI0.out.drewN nq)
                generalize wr.drewN nq = w4 at HI4 ⊢
                clear d0 d1 d2 d3 d4 x0 m0 m1 m2 HI0
                obtain ⟨d0, d1, d2, d3, d4, _⟩ := HI4.out.kn.all
                have x0 := HI4.out.x0
                have hbl4 := Lib.hid HI4.out.kn.bel
                have m0 := (hbl4.out.cell (p := ⟨b, o + k * 3, none⟩) hb2).trans hm0.out
                have m1 := (hbl4.out.cell (p := ⟨b, o + k * 3 + 1, none⟩) hb2).trans hm1.out
                have m2 := (hbl4.out.cell (p := ⟨b, o + k * 3 + 2, none⟩) hb2).trans hm2.out
                have KT4 := Lib.hid (l4Copy_any tn ta A2 tr.length c2 B tr w4 (RdR.belowB hr2 hbl4.out hB) (Nat.le_trans hB hbl4.out.size) hn2 hrow'.out)
                go_wp2_with fail
                refine KT4.out.mono ?_
                rintro e w1 ⟨A1, c1, rfl, ho1, hb1⟩
                clear d0 d1 d2 d3 d4 x0 m0 m1 m2 KT4
                obtain ⟨xs, hrow, n2, happ⟩ := HI4.out.app (nm := tn) (ar := ta) (w1 := w1.alloc (.cells #[.string tn, .int .i64 ta, .slice A1 tr.length c1] 51)) (hb1.alloc hb1.size (.cells #[.string tn, .int .i64 ta, .slice A1 tr.length c1] 51)) (ho1.below ((Below.refl w1.heap.size w1).alloc (Nat.le_refl _) (.cells #[.string tn, .int .i64 ta, .slice A1 tr.length c1] 51)) (Nat.le_refl _)) (Nat.le_refl _) (by simp) htn
                have hnb : (w1.alloc (.cells #[.string tn, .int .i64 ta, .slice A1 tr.length c1] 51)).heap.size = w1.heap.size + 1 := by simp
                have hgn := heap_alloc_new (w1.alloc (.cells #[.string tn, .int .i64 ta, .slice A1 tr.length c1] 51)) (.cells #[.string tn, .int .i64 ta, .slice A1 tr.length c1] 51)
                have hx1 : w2.heap.size < w1.heap.size := Nat.lt_of_lt_of_le (Nat.lt_of_lt_of_le HI4.out.hxb HI4.out.size) hb1.size
                rw [hnb] at hgn happ
                have n3 : w1.cell? ⟨w2.heap.size, 0, none⟩ = some (v) := (hb1.cell (p := ⟨w2.heap.size, 0, none⟩) (Nat.lt_of_lt_of_le HI4.out.hxb HI4.out.size)).trans HI4.out.x0
                have HA := Lib.hid happ
                have HR := Lib.hid hrow
                have HGN := Lib.hid hgn
                clear happ ho1 hb1 hrow hgn n2
                go_wp2_with (at_builtin; refine wpList_append_lies _ rfl _ _ _ rfl 0 51 i1 _ 3 48 Tryz.underlying24 hi1 hz0 hz1 hz2 rfl (by omega) _ (acc).length _ rfl HR.out ⟨w1.heap.size + 1, 0, none⟩ 1 1 [.string tn, .int .i64 ta, .slice A1 tr.length c1] rfl rfl (World.news_of_block (cs := #[.string tn, .int .i64 ta, .slice A1 tr.length c1]) (t := 51) (fr := (0, 0)) HGN.out) (by simp [Value.oneCell']) (by omega) (by unfold maxLen; omega) (by omega) (Nat.zero_le _) (w1.heap.size + 1 + 1) (by simp) ?_; intro g cap w2_1 hown2 hgrow hat hlt2; obtain ⟨m2, m3, hF, hcl, hsz2⟩ := HA.out g cap w2_1 hown2 hgrow hat; have HF := Lib.hid hF; clear hown2 hgrow hat hF hcl hsz2)
                have hla : (acc ++ [(⟨tn, ta, tr⟩ : Tab)]).length ≤ 2000000001 := by rw [List.length_append]; simp; omega
                generalize w2_1.setCell ⟨w2.heap.size, 0, none⟩ (.slice (some ⟨g, 0, none⟩) (acc.length + 1) cap) = w5 at HF ⊢
                generalize (Value.slice (some ⟨g, 0, none⟩) (acc.length + 1) cap) = v5 at HF
                clear HI4 hbl4
                clear m2 m3 n3 hx1 hnb HR HGN HA
                generalize acc ++ [(⟨tn, ta, tr⟩ : Tab)] = acc2 at HF HN hla
                obtain ⟨d0, d1, d2, d3, d4, _⟩ := HF.out.kn.all
                have x0 := HF.out.x0
                have hbl5 := Lib.hid HF.out.kn.bel
                have m0 := (hbl5.out.cell (p := ⟨b, o + k * 3, none⟩) hb2).trans hm0.out
                have m1 := (hbl5.out.cell (p := ⟨b, o + k * 3 + 1, none⟩) hb2).trans hm1.out
                have m2 := (hbl5.out.cell (p := ⟨b, o + k * 3 + 2, none⟩) hb2).trans hm2.out
                go_wp2_with fail
                go_quiet (fail)
                have HI7 := Lib.hid (HF.out.drewN nq)
                generalize w5.drewN nq = w7 at HI7 ⊢
                clear d0 d1 d2 d3 d4 x0 m0 m1 m2 HF
                obtain ⟨d0, d1, d2, d3, d4, _⟩ := HI7.out.kn.all
                have x0 := HI7.out.x0
                have hbl7 := Lib.hid HI7.out.kn.bel
                have m0 := (hbl7.out.cell (p := ⟨b, o + k * 3, none⟩) hb2).trans hm0.out
                have m1 := (hbl7.out.cell (p := ⟨b, o + k * 3 + 1, none⟩) hb2).trans hm1.out
                have m2 := (hbl7.out.cell (p := ⟨b, o + k * 3 + 2, none⟩) hb2).trans hm2.out
                have KX7 := Lib.hid (l4Copy_any xn xa A' xr.length c' B xr w7 (RdR.belowB hrdx.out hbl7.out hB) (Nat.le_trans hB hbl7.out.size) hts.out.1 hts.out.2)
                go_wp2_with fail
                refine KX7.out.mono ?_
                rintro e w1 ⟨A1, c1, rfl, ho1, hb1⟩
                clear d0 d1 d2 d3 d4 x0 m0 m1 m2 KX7
                obtain ⟨xs, hrow, n2, happ⟩ := HI7.out.app (nm := xn) (ar := xa) (w1 := w1.alloc (.cells #[.string xn, .int .i64 xa, .slice A1 xr.length c1] 51)) (hb1.alloc hb1.size (.cells #[.string xn, .int .i64 xa, .slice A1 xr.length c1] 51)) (ho1.below ((Below.refl w1.heap.size w1).alloc (Nat.le_refl _) (.cells #[.string xn, .int .i64 xa, .slice A1 xr.length c1] 51)) (Nat.le_refl _)) (Nat.le_refl _) (by simp) hnm
                have hnb : (w1.alloc (.cells #[.string xn, .int .i64 xa, .slice A1 xr.length c1] 51)).heap.size = w1.heap.size + 1 := by simp
                have hgn := heap_alloc_new (w1.alloc (.cells #[.string xn, .int .i64 xa, .slice A1 xr.length c1] 51)) (.cells #[.string xn, .int .i64 xa, .slice A1 xr.length c1] 51)
                have hx1 : w2.heap.size < w1.heap.size := Nat.lt_of_lt_of_le (Nat.lt_of_lt_of_le HI7.out.hxb HI7.out.size) hb1.size
                rw [hnb] at hgn happ
                have n3 : w1.cell? ⟨w2.heap.size, 0, none⟩ = some (v5) := (hb1.cell (p := ⟨w2.heap.size, 0, none⟩) (Nat.lt_of_lt_of_le HI7.out.hxb HI7.out.size)).trans HI7.out.x0
                have HA := Lib.hid happ
                have HR := Lib.hid hrow
                have HGN := Lib.hid hgn
                clear happ ho1 hb1 hrow hgn n2
                go_wp2_with (at_builtin; refine wpList_append_lies _ rfl _ _ _ rfl 0 51 i1 _ 3 48 Tryz.underlying24 hi1 hz0 hz1 hz2 rfl (by omega) _ (acc2).length _ rfl HR.out ⟨w1.heap.size + 1, 0, none⟩ 1 1 [.string xn, .int .i64 xa, .slice A1 xr.length c1] rfl rfl (World.news_of_block (cs := #[.string xn, .int .i64 xa, .slice A1 xr.length c1]) (t := 51) (fr := (0, 0)) HGN.out) (by simp [Value.oneCell']) (by omega) (by unfold maxLen; omega) (by omega) (Nat.zero_le _) (w1.heap.size + 1 + 1) (by simp) ?_; intro g cap w2_1 hown2 hgrow hat hlt2; obtain ⟨m2, m3, hF, hcl, hsz2⟩ := HA.out g cap w2_1 hown2 hgrow hat; have HF := Lib.hid hF; clear hown2 hgrow hat hF hcl hsz2)
                refine ⟨⟨k + 1, _, by omega, by go_num, by rw [HN.out], by rw [HN.out]; exact HF⟩, ?_⟩
                simp [intOf]
                omega
        · obtain rfl : k = n := by omega
          have HT := Lib.hid (show ts.take k = ts from List.take_of_length_le (Nat.le_of_eq HL.out))
          rw [HT.out] at hinv hsl ⊢
          obtain ⟨S, hS⟩ : ∃ S, S = setS ⟨tn, ta, tr⟩ ts := ⟨_, rfl⟩
          have HS := Lib.hid hS
          rw [← hS] at hinv hsl ⊢
          clear hS d0 d1 d2 d3 d4 x0
          obtain ⟨d, acc⟩ := S
          have hsl : acc.length ≤ 2000000000 := hsl
          cases d with
          | true =>
            have HTs : Hid (setT ts ⟨tn, ta, tr⟩ = acc) := by show _ = _; rw [setT, ← HS.out]; simp
            generalize acc = Fl at hinv HTs hsl
            generalize wr = w6 at *
            obtain ⟨AF, cF, rfl⟩ := hinv.out.own.form
            have hD := hinv.out
            have hszD := hD.size
            obtain ⟨d0, d1, d2, d3, d4, _⟩ := hD.kn.all
            obtain ⟨f0, f1, f2, f3, f4, _⟩ := hD.kn.fall
            have x0 := hD.x0
            have hbelD := Lib.hid hD.kn.bel
            have hb3 := hsx.out
            have hsm7 := setT_small HV.out HVT.out
            have hvd := setT_valid HV.out HVT.out
            rw [HTs.out] at hsm7 hvd
            have KVx := Lib.hid (spec_IsValidDatabase_any AF Fl.length cF w6.heap.size Fl w6 (hD.own.rd rfl) (Nat.le_refl _) (by omega) (by omega))
            rw [hvd] at KVx
            have HD := Lib.hid hD
            clear hD hvd
            by_cases h6 : Fl.length ≤ 6
            · have hf : Hid (setR ts ⟨tn, ta, tr⟩ = (Fl, true)) := by show _ = _; rw [setR, if_pos ⟨HV.out, HVT.out, by rw [HTs.out]; exact h6⟩, HTs.out]
              rw [decide_eq_true h6] at KVx
              go_wp2_with fail
              refine KVx.out.mono ?_
              rintro e w7 ⟨rfl, b7⟩
              have HD7 := Lib.hid (HD.out.next b7)
              have hszD7 := HD7.out.size
              clear HD b7 d0 d1 d2 d3 d4 f0 f1 f2 f3 f4 x0
              obtain ⟨d0, d1, d2, d3, d4, _⟩ := HD7.out.kn.all
              obtain ⟨f0, f1, f2, f3, f4, _⟩ := HD7.out.kn.fall
              have x0 := HD7.out.x0
              go_wp2_with fail
              refine bodyPost_ret (v := .tuple #[.agg #[.slice AF Fl.length cF], .bool true]) (by simp [results, Tryz.results29, go_sem, *]) rfl (DbBool.of hf.out ?_ ?_)
              · refine OwnD.down (lo := w2.heap.size + 1) (OwnD.wide (hi := w7.heap.size) ?_ (by simp)) (by omega)
                repeat refine OwnD.setOff ?_ (by omega)
                exact HD7.out.own
              · repeat first | exact HD7.out.kn.bel | (refine Below.setCell ?_ ?_ _; rotate_left; (simp; try omega))
            · have hf : Hid (setR ts ⟨tn, ta, tr⟩ = (ts, false)) := by show _ = _; rw [setR, if_neg (by rw [HTs.out]; omega)]
              rw [decide_eq_false h6] at KVx
              go_wp2_with fail
              refine KVx.out.mono ?_
              rintro e w7 ⟨rfl, b7⟩
              have s7 := b7.size
              have kn7 := HD.out.kn.next b7
              have KP7 := Lib.hid (KP.out w7 kn7.bel)
              clear HD b7 d0 d1 d2 d3 d4 f0 f1 f2 f3 f4 x0
              obtain ⟨d0, d1, d2, d3, d4, _⟩ := kn7.all
              go_wp2_with fail
              refine KP7.out.mono ?_
              rintro e w8 ⟨Ao, co, rfl, oo, b8⟩
              have s8 := b8.size
              have kn8 := kn7.next b8
              have HO := Lib.hid oo
              clear kn7 b8 oo d0 d1 d2 d3 d4
              obtain ⟨d0, d1, d2, d3, d4, _⟩ := kn8.all
              obtain ⟨f0, f1, f2, f3, f4, _⟩ := kn8.fall
              have HF := Lib.hid kn8.bel
              clear kn8
              go_wp2_with fail
              refine bodyPost_ret (v := .tuple #[.agg #[.slice Ao ts.length co], .bool false]) (by simp [results, Tryz.results29, go_sem, *]) rfl (DbBool.of hf.out ?_ ?_)
              · refine OwnD.down (lo := w7.heap.size) (OwnD.wide (hi := w8.heap.size) ?_ (by simp)) (by omega)
                repeat refine OwnD.setOff ?_ (by omega)
                exact HO.out
              · repeat first | exact HF.out | (refine Below.setCell ?_ ?_ _; rotate_left; (simp; try omega))
          | false =>
            have HTs : Hid (setT ts ⟨tn, ta, tr⟩ = acc ++ [⟨tn, ta, tr⟩]) := by show _ = _; rw [setT, ← HS.out]; simp
            have HI0 : Hid (DInv w [(w.heap.size, 0, .slice A k c), (w.heap.size + 1, 0, .string tn), (w.heap.size + 1, 1, .int .i64 ta), (w.heap.size + 1, 2, .slice A2 tr.length c2), (w.heap.size + 2, 0, .slice none 0 0)] w2.heap.size (w2.heap.size + 1) acc v wr) := hinv
            clear hinv
            have KT4 := Lib.hid (l4Copy_any tn ta A2 tr.length c2 B tr wr (RdR.belowB hr2 hbel.out hB) (Nat.le_trans hB hbel.out.size) hn2 hrow'.out)
            obtain ⟨d0, d1, d2, d3, d4, _⟩ := HI0.out.kn.all
            have x0 := HI0.out.x0
            go_wp2_with fail
            refine KT4.out.mono ?_
            rintro e w1 ⟨A1, c1, rfl, ho1, hb1⟩
            clear d0 d1 d2 d3 d4 x0 KT4
            obtain ⟨xs, hrow, n2, happ⟩ := HI0.out.app (nm := tn) (ar := ta) (w1 := w1.alloc (.cells #[.string tn, .int .i64 ta, .slice A1 tr.length c1] 51)) (hb1.alloc hb1.size (.cells #[.string tn, .int .i64 ta, .slice A1 tr.length c1] 51)) (ho1.below ((Below.refl w1.heap.size w1).alloc (Nat.le_refl _) (.cells #[.string tn, .int .i64 ta, .slice A1 tr.length c1] 51)) (Nat.le_refl _)) (Nat.le_refl _) (by simp) htn
            have hnb : (w1.alloc (.cells #[.string tn, .int .i64 ta, .slice A1 tr.length c1] 51)).heap.size = w1.heap.size + 1 := by simp
            have hgn := heap_alloc_new (w1.alloc (.cells #[.string tn, .int .i64 ta, .slice A1 tr.length c1] 51)) (.cells #[.string tn, .int .i64 ta, .slice A1 tr.length c1] 51)
            have hx1 : w2.heap.size < w1.heap.size := Nat.lt_of_lt_of_le (Nat.lt_of_lt_of_le HI0.out.hxb HI0.out.size) hb1.size
            rw [hnb] at hgn happ
            have n3 : w1.cell? ⟨w2.heap.size, 0, none⟩ = some (v) := (hb1.cell (p := ⟨w2.heap.size, 0, none⟩) (Nat.lt_of_lt_of_le HI0.out.hxb HI0.out.size)).trans HI0.out.x0
            have HA := Lib.hid happ
            have HR := Lib.hid hrow
            have HGN := Lib.hid hgn
            clear happ ho1 hb1 hrow hgn n2
            go_wp2_with (at_builtin; refine wpList_append_lies _ rfl _ _ _ rfl 0 51 i1 _ 3 48 Tryz.underlying24 hi1 hz0 hz1 hz2 rfl (by omega) _ (acc).length _ rfl HR.out ⟨w1.heap.size + 1, 0, none⟩ 1 1 [.string tn, .int .i64 ta, .slice A1 tr.length c1] rfl rfl (World.news_of_block (cs := #[.string tn, .int .i64 ta, .slice A1 tr.length c1]) (t := 51) (fr := (0, 0)) HGN.out) (by simp [Value.oneCell']) (by omega) (by unfold maxLen; omega) (by omega) (Nat.zero_le _) (w1.heap.size + 1 + 1) (by simp) ?_; intro g cap w2_1 hown2 hgrow hat hlt2; obtain ⟨m2, m3, hF, hcl, hsz2⟩ := HA.out g cap w2_1 hown2 hgrow hat; have HF := Lib.hid hF; clear hown2 hgrow hat hF hcl hsz2)
            generalize w2_1.setCell ⟨w2.heap.size, 0, none⟩ (.slice (some ⟨g, 0, none⟩) (acc.length + 1) cap) = w6 at HF ⊢
            generalize (Value.slice (some ⟨g, 0, none⟩) (acc.length + 1) cap) = v6 at HF
            clear HI0 m2 m3 n3 hx1 hnb HR HGN HA
            generalize acc ++ [(⟨tn, ta, tr⟩ : Tab)] = Fl at HF HTs
            obtain ⟨AF, cF, rfl⟩ := HF.out.own.form
            have hD := HF.out
            have hszD := hD.size
            obtain ⟨d0, d1, d2, d3, d4, _⟩ := hD.kn.all
            obtain ⟨f0, f1, f2, f3, f4, _⟩ := hD.kn.fall
            have x0 := hD.x0
            have hbelD := Lib.hid hD.kn.bel
            have hb3 := hsx.out
            have hsm7 := setT_small HV.out HVT.out
            have hvd := setT_valid HV.out HVT.out
            rw [HTs.out] at hsm7 hvd
            have KVx := Lib.hid (spec_IsValidDatabase_any AF Fl.length cF w6.heap.size Fl w6 (hD.own.rd rfl) (Nat.le_refl _) (by omega) (by omega))
            rw [hvd] at KVx
            have HD := Lib.hid hD
            clear hD hvd
            by_cases h6 : Fl.length ≤ 6
            · have hf : Hid (setR ts ⟨tn, ta, tr⟩ = (Fl, true)) := by show _ = _; rw [setR, if_pos ⟨HV.out, HVT.out, by rw [HTs.out]; exact h6⟩, HTs.out]
              rw [decide_eq_true h6] at KVx
              go_wp2_with fail
              refine KVx.out.mono ?_
              rintro e w7 ⟨rfl, b7⟩
              have HD7 := Lib.hid (HD.out.next b7)
              have hszD7 := HD7.out.size
              clear HD b7 d0 d1 d2 d3 d4 f0 f1 f2 f3 f4 x0
              obtain ⟨d0, d1, d2, d3, d4, _⟩ := HD7.out.kn.all
              obtain ⟨f0, f1, f2, f3, f4, _⟩ := HD7.out.kn.fall
              have x0 := HD7.out.x0
              go_wp2_with fail
              refine bodyPost_ret (v := .tuple #[.agg #[.slice AF Fl.length cF], .bool true]) (by simp [results, Tryz.results29, go_sem, *]) rfl (DbBool.of hf.out ?_ ?_)
              · refine OwnD.down (lo := w2.heap.size + 1) (OwnD.wide (hi := w7.heap.size) ?_ (by simp)) (by omega)
                repeat refine OwnD.setOff ?_ (by omega)
                exact HD7.out.own
              · repeat first | exact HD7.out.kn.bel | (refine Below.setCell ?_ ?_ _; rotate_left; (simp; try omega))
            · have hf : Hid (setR ts ⟨tn, ta, tr⟩ = (ts, false)) := by show _ = _; rw [setR, if_neg (by rw [HTs.out]; omega)]
              rw [decide_eq_false h6] at KVx
              go_wp2_with fail
              refine KVx.out.mono ?_
              rintro e w7 ⟨rfl, b7⟩
              have s7 := b7.size
              have kn7 := HD.out.kn.next b7
              have KP7 := Lib.hid (KP.out w7 kn7.bel)
              clear HD b7 d0 d1 d2 d3 d4 f0 f1 f2 f3 f4 x0
              obtain ⟨d0, d1, d2, d3, d4, _⟩ := kn7.all
              go_wp2_with fail
              refine KP7.out.mono ?_
              rintro e w8 ⟨Ao, co, rfl, oo, b8⟩
              have s8 := b8.size
              have kn8 := kn7.next b8
              have HO := Lib.hid oo
              clear kn7 b8 oo d0 d1 d2 d3 d4
              obtain ⟨d0, d1, d2, d3, d4, _⟩ := kn8.all
              obtain ⟨f0, f1, f2, f3, f4, _⟩ := kn8.fall
              have HF := Lib.hid kn8.bel
              clear kn8
              go_wp2_with fail
              refine bodyPost_ret (v := .tuple #[.agg #[.slice Ao ts.length co], .bool false]) (by simp [results, Tryz.results29, go_sem, *]) rfl (DbBool.of hf.out ?_ ?_)
              · refine OwnD.down (lo := w7.heap.size) (OwnD.wide (hi := w8.heap.size) ?_ (by simp)) (by omega)
                repeat refine OwnD.setOff ?_ (by omega)
                exact HO.out
              · repeat first | exact HF.out | (refine Below.setCell ?_ ?_ _; rotate_left; (simp; try omega))

end

section
open Go.RowKit Go.Deep Go.ChangeShapes Go.WideShapes

theorem list_of_each {α : Type} {Q : Nat → α → Prop} : ∀ n : Nat, (∀ i, i < n → ∃ a, Q i a) → ∃ ls : List α, ls.length = n ∧ ∀ j a, ls[j]? = some a → Q j a
  | 0, _ => ⟨[], rfl, fun j a h => by simp at h⟩
  | n + 1, h => by
    obtain ⟨ls, h1, h2⟩ := list_of_each n fun i hi => h i (by omega)
    obtain ⟨a, ha⟩ := h n (by omega)
    refine ⟨ls ++ [a], by simp [h1], fun j b hb => ?_⟩
    rw [List.getElem?_append] at hb
    split at hb
    · exact h2 j b hb
    · rename_i hj
      have hj' : j < (ls ++ [a]).length := by
        rcases Nat.lt_or_ge j (ls ++ [a]).length with h3 | h3
        · exact h3
        · rw [List.getElem?_eq_none (by simp at h3 ⊢; omega)] at hb
          cases hb
      have : j = n := by simp at hj'; omega
      subst this
      rw [h1, Nat.sub_self] at hb
      simp at hb
      exact hb ▸ ha

section

variable {H : Type} {enc : TypeId × Value → H} {W : World}

theorem open_rdSl {α : Type} {R : World → Nat → List Value → α → Prop} {t e : TypeId} {size fuel : Nat} {cs : List Value} {x : DataW H × List MemPlace}
    (ht : Tryz.prog.underlying t = some (.slice e)) (hC : Tryz.prog.cellsOf e = size) (h0 : 0 < size)
    (hR : ∀ (n : Nat) (cs' : List Value) (y : DataW H × List MemPlace), cs'.length = size → DataW.trod enc Tryz.prog W 0 (fun _ => true) true n e cs' = some y → ∃ a, R W W.heap.size cs' a)
    (h : DataW.trod enc Tryz.prog W 0 (fun _ => true) true fuel t cs = some x) :
    ∃ (A : Option Addr) (len cap : Nat) (ls : List α), cs = [.slice A len cap] ∧ len ≤ maxLen ∧ RdSl size R W W.heap.size A len ls := by
  rcases open_slice ht h with ⟨hcs, _⟩ | ⟨a, len, cap, m, n, D, Pl, hcs, _, hl, hm, hmm, _, hi⟩
  · exact ⟨none, 0, 0, [], hcs, by unfold maxLen; omega, rfl, fun h => absurd h (by omega)⟩
  · simp only [if_true] at hmm
    subst hmm
    obtain ⟨b, off, spot⟩ := a
    obtain ⟨ls, h1, h2⟩ := list_of_each (α := α) (Q := fun i a' => ∃ cs' : List Value, cs'.length = size ∧ (∀ j y, cs'[j]? = some y → W.cell? (((⟨b, off, spot⟩ : Addr).add (i * size)).add j) = some y) ∧ R W W.heap.size cs' a') len fun i hil => by
      obtain ⟨cs', hc, htr⟩ := hi i (by omega)
      rw [hC] at hc
      obtain ⟨_, hcl, hat⟩ := World.cells?_some hc
      obtain ⟨a', ha'⟩ := hR n cs' _ hcl htr
      exact ⟨a', cs', hcl, fun j y hy => by rw [hat j (by rw [← hcl]; exact (List.getElem?_eq_some_iff.1 hy).1)]; exact hy, ha'⟩
    refine ⟨some ⟨b, off, spot⟩, len, m, ls, hcs, by omega, h1, fun hn => ?_⟩
    obtain ⟨cs0, hl0, hc0, _⟩ := h2 0 ls[0] (List.getElem?_eq_getElem (by omega))
    have hc := hc0 0 cs0[0] (List.getElem?_eq_getElem (by omega))
    have hspot : spot = none := by simpa [Addr.add] using World.cell?_spot hc
    subst hspot
    rw [addr_add, addr_add] at hc
    refine ⟨b, off, rfl, World.block_lt_of_cell? W _ hc, fun j a' ha' => ?_⟩
    obtain ⟨cs', k1, k2, k3⟩ := h2 j a' ha'
    exact ⟨cs', k1, fun i y hy => by
      have := k2 i y hy
      rwa [addr_add, addr_add, Nat.add_assoc] at this, k3⟩

/-- A slice of ints among the cells. -/
theorem open_rRow {n : Nat} {cs' : List Value} {y : DataW H × List MemPlace} (h : DataW.trod enc Tryz.prog W 0 (fun _ => true) true n 27 cs' = some y) : ∃ r, RRow W W.heap.size cs' r := by
  rcases open_ints Tryz.underlying27 Tryz.underlying3 (by kernel_rfl) h with ⟨hcs, _⟩ | ⟨x, l, c, zs, hcs, _, hl, hm, hz, _, hcell, hwz⟩
  · exact ⟨[], none, 0, hcs, ⟨rfl, fun h => absurd h (by simp)⟩, by unfold maxLen; simp⟩
  · have hr := (rdI_of_row (w := W) (a := some x) (len := l) (cap := c) (zs := zs) (.inr ⟨_, rfl, hl, hm, by simpa using hz, hcell, hwz⟩)).1
    have hlen := hr.1
    refine ⟨zs.take l, some x, c, by rw [hlen]; exact hcs, by rw [hlen]; exact hr, by omega⟩

/-- An argument of type [][]int. -/
theorem open_rows {fuel : Nat} {cs : List Value} {x : DataW H × List MemPlace} (h : DataW.trod enc Tryz.prog W 0 (fun _ => true) true fuel 49 cs = some x) :
    ∃ (A : Option Addr) (len cap : Nat) (rs : List (List Int)), cs = [.slice A len cap] ∧ len ≤ maxLen ∧ RdR W W.heap.size A len rs :=
  open_rdSl Tryz.underlying49 (by kernel_rfl) (by omega) (fun _ _ _ _ ht => open_rRow ht) h

end

end

section
open Go.RowKit Go.Deep Go.ChangeShapes Go.WideShapes

theorem OwnI.setOff {w : World} {lo hi b i : Nat} {v x : Value} {zs : List Int} (h : OwnI w lo hi v zs) (hb : b < lo ∨ hi ≤ b) : OwnI (w.setCell ⟨b, i, none⟩ x) lo hi v zs :=
  ⟨own_keep h.1 fun g hg => by have := h.lt g hg; exact (chgF_setCell w b i x).block g this.2.2 (by omega), h.2⟩

theorem OwnI.alloc {w : World} {lo hi : Nat} {v : Value} {zs : List Int} (h : OwnI w lo hi v zs) (o : Obj) : OwnI (w.alloc o) lo hi v zs :=
  ⟨own_keep h.1 fun g hg => by have := h.lt g hg; exact (chgF_alloc w o fun _ => False).block g this.2.2 id, h.2⟩

theorem OwnI.len_eq {w : World} {lo hi n c : Nat} {A : Option Addr} {zs : List Int} (h : OwnI w lo hi (.slice A n c) zs) : zs.length = n := by
  obtain ⟨A', c', hv⟩ := h.form
  injection hv with _ hn _
  exact hn.symm

theorem OwnI.downTo {w : World} {lo lo' hi : Nat} {v : Value} {zs : List Int} (h : OwnI w lo hi v zs) (hd : lo' ≤ lo) : OwnI w lo' hi v zs :=
  ⟨ownsRow_base h.1 fun g hg => by have := h.lt g hg; omega, h.2⟩

theorem rdI_next {W w1 : World} {A : Option Addr} {n : Nat} {zs : List Int} (b : Below W.heap.size W w1) (h : RdI W W.heap.size A n zs) : RdI w1 w1.heap.size A n zs := h.next b

theorem rdI_al {W : World} {o : Obj} {A : Option Addr} {n : Nat} {zs : List Int} (h : RdI W W.heap.size A n zs) : RdI (W.alloc o) (W.alloc o).heap.size A n zs := h.next ((Below.refl _ _).alloc (Nat.le_refl _) _)

/-- A new update, behind a name. -/
def UpdNew (nm : ByteArray) (ins : Bool) (zs : List Int) (w : World) (e : Ending) (w' : World) : Prop :=
  ∃ (A : Option Addr) (c : Nat), e = .returned (.agg #[.string nm, .bool ins, .slice A zs.length c]) ∧ OwnI w' w.heap.size w'.heap.size (.slice A zs.length c) zs ∧ Below w.heap.size w w'

theorem UpdNew.of {nm : ByteArray} {ins : Bool} {zs : List Int} {w w' : World} {A : Option Addr} {n c : Nat} (h : OwnI w' w.heap.size w'.heap.size (.slice A n c) zs) (hb : Below w.heap.size w w') :
    UpdNew nm ins zs w (.returned (.agg #[.string nm, .bool ins, .slice A n c])) w' := by
  have hn := h.len_eq
  subst hn
  exact ⟨A, c, rfl, h, hb⟩

/-- A new update and a bool. -/
def UpdAns (nm : ByteArray) (ins : Bool) (zs : List Int) (ok : Bool) (w : World) (e : Ending) (w' : World) : Prop :=
  ∃ (A : Option Addr) (c : Nat), e = .returned (.tuple #[.agg #[.string nm, .bool ins, .slice A zs.length c], .bool ok]) ∧ OwnI w' w.heap.size w'.heap.size (.slice A zs.length c) zs ∧ Below w.heap.size w w'

theorem UpdAns.of {nm : ByteArray} {ins ok : Bool} {zs : List Int} {w w' : World} {A : Option Addr} {n c : Nat} (h : OwnI w' w.heap.size w'.heap.size (.slice A n c) zs) (hb : Below w.heap.size w w') :
    UpdAns nm ins zs ok w (.returned (.tuple #[.agg #[.string nm, .bool ins, .slice A n c], .bool ok])) w' := by
  have hn := h.len_eq
  subst hn
  exact ⟨A, c, rfl, h, hb⟩

section

variable {H : Type} {enc : TypeId × Value → H} {W : World}

/-- A slice of ints among the cells, read. -/
theorem open_ints1 {n : Nat} {cs' : List Value} {y : DataW H × List MemPlace} (h : DataW.trod enc Tryz.prog W 0 (fun _ => true) true n 27 cs' = some y) :
    ∃ (A : Option Addr) (len cap : Nat) (zs : List Int), cs' = [.slice A len cap] ∧ len ≤ maxLen ∧ RdI W W.heap.size A len zs := by
  rcases open_ints Tryz.underlying27 Tryz.underlying3 (by kernel_rfl) h with ⟨hcs, _⟩ | ⟨x, l, c, zs, hcs, _, hl, hm, hz, _, hcell, hwz⟩
  · exact ⟨none, 0, 0, [], hcs, by unfold maxLen; simp, ⟨rfl, fun h => absurd h (by simp)⟩⟩
  · have hr := rdI_of_row (w := W) (a := some x) (len := l) (cap := c) (zs := zs) (.inr ⟨_, rfl, hl, hm, by simpa using hz, hcell, hwz⟩)
    exact ⟨some x, l, c, zs.take l, hcs, hr.2, hr.1⟩

end

end

section
open Go.RowKit Go.Deep
open Go.RowKit Go.Deep

theorem Kn.set3 {w W : World} {L : List (Nat × Nat × Value)} {B : Nat} {x y z : Value} (h : Kn w (L ++ [(B, 0, x), (B, 1, y), (B, 2, z)]) W) (hB : w.heap.size ≤ B) (hL : ∀ t ∈ L, t.1 < B) (x' y' z' : Value) :
    Kn w (L ++ [(B, 0, x'), (B, 1, y'), (B, 2, z')]) (((W.setCell ⟨B, 0, none⟩ x').setCell ⟨B, 1, none⟩ y').setCell ⟨B, 2, none⟩ z') := by
  have b3 : Below B W (((W.setCell ⟨B, 0, none⟩ x').setCell ⟨B, 1, none⟩ y').setCell ⟨B, 2, none⟩ z') := (((Below.refl B W).setCell (Nat.le_refl _) _).setCell (Nat.le_refl _) _).setCell (Nat.le_refl _) _
  have e0 := (h.cell (B, 0, x) (by simp)).2
  have e1 := (h.cell (B, 1, y) (by simp)).2
  have e2 := (h.cell (B, 2, z) (by simp)).2
  have f0 := h.frz (B, 0, x) (by simp)
  have f1 := h.frz (B, 1, y) (by simp)
  have f2 := h.frz (B, 2, z) (by simp)
  have hlt := (h.cell (B, 0, x) (by simp)).1
  simp only at e0 e1 e2 f0 f1 f2 hlt
  refine ⟨h.bel.trans (b3.mono hB), fun t ht => ?_, fun t ht => ?_⟩
  · rcases List.mem_append.1 ht with ht | ht
    · exact ⟨Nat.lt_of_lt_of_le (h.cell t (by simp [ht])).1 b3.size, (b3.cell (p := ⟨t.1, t.2.1, none⟩) (hL t ht)).trans (h.cell t (by simp [ht])).2⟩
    · simp only [List.mem_cons, List.not_mem_nil, or_false] at ht
      rcases ht with rfl | rfl | rfl
      · exact ⟨Nat.lt_of_lt_of_le hlt b3.size, by simp [go_sem, e0]⟩
      · exact ⟨Nat.lt_of_lt_of_le hlt b3.size, by simp [go_sem, e1]⟩
      · exact ⟨Nat.lt_of_lt_of_le hlt b3.size, by simp [go_sem, e2]⟩
  · rcases List.mem_append.1 ht with ht | ht
    · exact (b3.frozen (p := ⟨t.1, t.2.1, none⟩) (hL t ht)).trans (h.frz t (by simp [ht]))
    · simp only [List.mem_cons, List.not_mem_nil, or_false] at ht
      rcases ht with rfl | rfl | rfl <;> simp [go_sem, f0, f1, f2]

/-- A row put into or out of the table of that name. -/
def modR (t : TabR) (ins : Bool) (r : List Int) : TabR := if ins = true then insR t.nm t.ar t.rs r else delR t.nm t.ar t.rs r

/-- What ApplyUpdate answers. -/
def appR (ts : List Tab) (nm : ByteArray) (ins : Bool) (r : List Int) : List Tab × Bool :=
  if (lookR ts nm).ok = true then (if (modR (lookR ts nm) ins r).ok = true then setR ts ⟨(modR (lookR ts nm) ins r).nm, (modR (lookR ts nm) ins r).ar, (modR (lookR ts nm) ins r).rs⟩ else (ts, false)) else (ts, false)

theorem appR_none {ts : List Tab} {nm : ByteArray} {ins : Bool} {r : List Int} (h : (lookR ts nm).ok = false) : appR ts nm ins r = (ts, false) := by rw [appR, if_neg (by simp [h])]

theorem appR_no {ts : List Tab} {nm : ByteArray} {ins : Bool} {r : List Int} (h : (lookR ts nm).ok = true) (h2 : (modR (lookR ts nm) ins r).ok = false) : appR ts nm ins r = (ts, false) := by rw [appR, if_pos h, if_neg (by simp [h2])]

theorem appR_yes {ts : List Tab} {nm : ByteArray} {ins : Bool} {r : List Int} {yn : ByteArray} {ya : Int} {yr : List (List Int)} (h : (lookR ts nm).ok = true) (h2 : modR (lookR ts nm) ins r = ⟨yn, ya, yr, true⟩) : appR ts nm ins r = setR ts ⟨yn, ya, yr⟩ := by rw [appR, if_pos h, h2, if_pos rfl]

theorem appR_small {ts : List Tab} {nm : ByteArray} {ins : Bool} {r : List Int} (hl : ts.length ≤ 1048576) (hs : sumT ts ≤ 1048576) : (appR ts nm ins r).1.length ≤ 1048576 ∧ sumT (appR ts nm ins r).1 ≤ 1048576 := by
  unfold appR
  split
  · split
    · exact setR_small hl hs
    · exact ⟨hl, hs⟩
  · exact ⟨hl, hs⟩

theorem look_small {ts : List Tab} {nm : ByteArray} (hs : sumT ts ≤ 1048576) (h : (lookR ts nm).ok = true) : (lookR ts nm).nm = nm ∧ (lookR ts nm).rs.length ≤ 1048576 ∧ sumL (lookR ts nm).rs ≤ 1048576 := by
  obtain ⟨_, t, ht, hn, hR⟩ := lookR_ok h
  have := sumT_mem ht
  rw [hR]
  exact ⟨hn, by show t.rs.length ≤ _; omega, by show sumL t.rs ≤ _; omega⟩

theorem modR_small {nm : ByteArray} {ar : Int} {rs : List (List Int)} {ok : Bool} (ins : Bool) {r : List Int} (hl : rs.length ≤ 1048576) (hs : sumL rs ≤ 1048576) (hr : r.length ≤ 1048576) :
    (modR ⟨nm, ar, rs, ok⟩ ins r).nm = nm ∧ (modR ⟨nm, ar, rs, ok⟩ ins r).rs.length ≤ 1048576 ∧ sumL (modR ⟨nm, ar, rs, ok⟩ ins r).rs ≤ 4294967296 := by
  cases ins
  · have h := delR_small nm ar rs r hl hs
    have e : modR ⟨nm, ar, rs, ok⟩ false r = delR nm ar rs r := by simp [modR]
    rw [e]
    exact ⟨by unfold delR; split <;> rfl, h⟩
  · have h := insR_small nm ar rs r hl hs hr
    have e : modR ⟨nm, ar, rs, ok⟩ true r = insR nm ar rs r := by simp [modR]
    rw [e]
    exact ⟨by unfold insR; split <;> rfl, h⟩

set_option maxRecDepth 100000 in
set_option maxHeartbeats 2000000 in
theorem impl_ApplyUpdate_any (A : Option Addr) (n c B : Nat) (ts : List Tab) (nm : ByteArray) (ins : Bool) (A' : Option Addr) (n' c' : Nat) (r : List Int) (w : World) (hr : RdT w B A n ts) (hB : B ≤ w.heap.size) (hn : n ≤ 1048576) (hs : sumT ts ≤ 1048576) (hr' : RdI w B A' n' r) (hn' : n' ≤ 1048576) (hnm : nm.size ≤ maxLen) :
    Calls Tryz.prog 6 #[.agg #[.slice A n c], .agg #[.string nm, .bool ins, .slice A' n' c']] w (DbBool (appR ts nm ins r) w) := by
  have hsm : Hid (sumT ts ≤ 4294967296) := by show _ ≤ _; omega
  have hsm' := Lib.hid hs
  have hrl : r.length ≤ 1048576 := by rw [hr'.1]; exact hn'
  clear hs
  go_enter Tryz.func6, Tryz.ntmps6
  go_wp2_with fail
  have kn0 : Kn w [(w.heap.size, 0, .slice A n c), (w.heap.size + 1, 0, .string nm), (w.heap.size + 1, 1, .bool ins), (w.heap.size + 1, 2, .slice A' n' c'), (w.heap.size + 1 + 1, 0, .slice none 0 0)] (((w.alloc (.cells #[.slice A n c] 26)).alloc (.cells #[.string nm, .bool ins, .slice A' n' c'] 29)).alloc (.cells #[.slice none 0 0] 26)) := by simpa using (((Kn.start w).box1 (.slice A n c) 26).box3 (.string nm) (.bool ins) (.slice A' n' c') 29).box1 (.slice none 0 0) 26
  have s0 : w.heap.size + 3 ≤ (((w.alloc (.cells #[.slice A n c] 26)).alloc (.cells #[.string nm, .bool ins, .slice A' n' c'] 29)).alloc (.cells #[.slice none 0 0] 26)).heap.size := by simp
  generalize ((w.alloc (.cells #[.slice A n c] 26)).alloc (.cells #[.string nm, .bool ins, .slice A' n' c'] 29)).alloc (.cells #[.slice none 0 0] 26) = w0 at kn0 s0 ⊢
  refine (impl_LookupTable_any A n c B ts nm w0 (RdT.belowB hr kn0.bel hB) (Nat.le_trans hB kn0.bel.size) (by omega) hsm.out).mono ?_
  rintro e w1 ⟨A1, c1, rfl, ho, hb⟩
  have s1 := hb.size
  have kn1 := kn0.next hb
  obtain ⟨xn, xa, xr, ok, hR⟩ : ∃ a b c d, lookR ts nm = ⟨a, b, c, d⟩ := ⟨_, _, _, _, rfl⟩
  rw [hR] at ho ⊢
  have HR := Lib.hid hR
  have HO1 : Hid (OwnR w1 w0.heap.size w1.heap.size (.slice A1 xr.length c1) xr) := ho
  clear hR ho hb kn0
  obtain ⟨d0, d1, d2, d3, d4, _⟩ := kn1.all
  have ne0 : w.heap.size < w1.heap.size := by omega
  have ne1 : w.heap.size + 1 < w1.heap.size := by omega
  have ne2 : w.heap.size + 1 + 1 < w1.heap.size := by omega
  cases ok
  case false =>
    have hf := Lib.hid (appR_none (ins := ins) (r := r) (by rw [HR.out] : (lookR ts nm).ok = false))
    go_wp2_with fail
    have kn2 : Kn w [(w.heap.size, 0, .slice A n c), (w.heap.size + 1, 0, .string nm), (w.heap.size + 1, 1, .bool ins), (w.heap.size + 1, 2, .slice A' n' c'), (w.heap.size + 1 + 1, 0, .slice none 0 0), (w1.heap.size, 0, .string xn), (w1.heap.size, 1, .int .i64 xa), (w1.heap.size, 2, .slice A1 xr.length c1)] (w1.alloc (.cells #[.string xn, .int .i64 xa, .slice A1 xr.length c1] 51)) := by simpa using kn1.box3 (.string xn) (.int .i64 xa) (.slice A1 xr.length c1) 51
    have s2 : w1.heap.size + 1 ≤ (w1.alloc (.cells #[.string xn, .int .i64 xa, .slice A1 xr.length c1] 51)).heap.size := by simp
    generalize w1.alloc (.cells #[.string xn, .int .i64 xa, .slice A1 xr.length c1] 51) = w2 at kn2 s2 ⊢
    refine (copyDatabase_any A n c B ts w2 (RdT.belowB hr kn2.bel hB) (Nat.le_trans hB kn2.bel.size) (by omega) hsm.out).mono ?_
    rintro e wc ⟨Ac, cc, rfl, hoc, hbc⟩
    have knc := kn2.next hbc
    have sc := hbc.size
    obtain ⟨k0, k1, k2, k3, k4, _⟩ := knc.all
    obtain ⟨f0, f1, f2, f3, f4, _⟩ := knc.fall
    have HOC := Lib.hid hoc
    have HKC := Lib.hid knc.bel
    clear hoc hbc knc
    go_wp2_with fail
    refine bodyPost_ret (v := .tuple #[.agg #[.slice Ac ts.length cc], .bool false]) (by simp [results, Tryz.results6, go_sem, *]) rfl (DbBool.of hf.out ?_ ?_)
    · refine OwnD.down (lo := w2.heap.size) (OwnD.wide (hi := wc.heap.size) ?_ (by simp)) (by omega)
      repeat refine OwnD.setOff ?_ (by omega)
      exact HOC.out
    · repeat first | exact HKC.out | (refine Below.setCell ?_ ?_ _; rotate_left; (simp; try omega))
  case true =>
    have hlk := look_small hsm'.out (by rw [HR.out] : (lookR ts nm).ok = true)
    rw [HR.out] at hlk
    obtain ⟨hxn0, hxl, hxs⟩ : xn = nm ∧ xr.length ≤ 1048576 ∧ sumL xr ≤ 1048576 := hlk
    have hxn := Lib.hid hxn0
    clear hxn0
    have hrow : Hid (∀ r ∈ xr, r.length ≤ 17592186044416) := fun r hr => by have := sumL_mem hr; omega
    cases ins
    case false =>
      have hms := Lib.hid (modR_small (nm := xn) (ar := xa) (ok := true) false hxl hxs hrl)
      have hmod : Hid (modR (lookR ts nm) false r = delR xn xa xr r) := by show _ = _; rw [HR.out]; simp [modR]
      go_wp2_with fail
      have kn2 : Kn w [(w.heap.size, 0, .slice A n c), (w.heap.size + 1, 0, .string nm), (w.heap.size + 1, 1, .bool false), (w.heap.size + 1, 2, .slice A' n' c'), (w.heap.size + 1 + 1, 0, .slice none 0 0), (w1.heap.size, 0, .string xn), (w1.heap.size, 1, .int .i64 xa), (w1.heap.size, 2, .slice A1 xr.length c1)] (w1.alloc (.cells #[.string xn, .int .i64 xa, .slice A1 xr.length c1] 51)) := by simpa using kn1.box3 (.string xn) (.int .i64 xa) (.slice A1 xr.length c1) 51
      have s2 : w1.heap.size + 1 ≤ (w1.alloc (.cells #[.string xn, .int .i64 xa, .slice A1 xr.length c1] 51)).heap.size := by simp
      have HO2 : Hid (OwnR (w1.alloc (.cells #[.string xn, .int .i64 xa, .slice A1 xr.length c1] 51)) w0.heap.size w1.heap.size (.slice A1 xr.length c1) xr) := OwnR.alloc HO1.out _
      generalize w1.alloc (.cells #[.string xn, .int .i64 xa, .slice A1 xr.length c1] 51) = w2 at kn2 s2 HO2 ⊢
      refine (impl_DeleteRow_any xn xa A1 A' xr.length c1 n' c' w2.heap.size xr r w2 ((HO2.out.rd rfl).more (by omega)) ((RdI.belowB hr' kn2.bel hB).more (Nat.le_trans hB kn2.bel.size)) (Nat.le_refl _) (by omega) (by omega) hrow.out).mono ?_
      rintro e w3 ⟨A3, c3, rfl, ho3, hb3⟩
      have s3 := hb3.size
      have kn3 := kn2.next hb3
      obtain ⟨yn, ya, yr, ok2, hY⟩ : ∃ a b c d, delR xn xa xr r = ⟨a, b, c, d⟩ := ⟨_, _, _, _, rfl⟩
      rw [hY] at ho3 ⊢
      have HM : Hid (modR (lookR ts nm) false r = ⟨yn, ya, yr, ok2⟩) := hmod.out.trans hY
      have hms2 := hms.out
      rw [← HR.out, HM.out] at hms2
      obtain ⟨hyn, hyl, hys⟩ : yn = xn ∧ yr.length ≤ 1048576 ∧ sumL yr ≤ 4294967296 := hms2
      have hyrow : Hid (∀ r ∈ yr, r.length ≤ 17592186044416) := fun r hr => by have := sumL_mem hr; omega
      have hynm : Hid (yn.size ≤ maxLen) := by show _ ≤ _; rw [hyn, hxn.out]; exact hnm
      have HO3 : Hid (OwnR w3 w2.heap.size w3.heap.size (.slice A3 yr.length c3) yr) := ho3
      clear hY hmod hms hyn ho3 hb3 HO2 HO1
      clear d0 d1 d2 d3 d4
      obtain ⟨d0, d1, d2, d3, d4, b0, b1, b2, _⟩ := kn3.all
      obtain ⟨fd0, fd1, fd2, fd3, fd4, fb0, fb1, fb2, _⟩ := kn3.fall
      cases ok2
      case false =>
        have hf := Lib.hid (appR_no (by rw [HR.out] : (lookR ts nm).ok = true) (by rw [HM.out] : (modR (lookR ts nm) false r).ok = false))
        go_wp2_with fail
        have kn4 : Kn w ([(w.heap.size, 0, .slice A n c), (w.heap.size + 1, 0, .string nm), (w.heap.size + 1, 1, .bool false), (w.heap.size + 1, 2, .slice A' n' c'), (w.heap.size + 1 + 1, 0, .slice none 0 0)] ++ [(w1.heap.size, 0, .string yn), (w1.heap.size, 1, .int .i64 ya), (w1.heap.size, 2, .slice A3 yr.length c3)]) (((w3.setCell ⟨w1.heap.size, 0, none⟩ (.string yn)).setCell ⟨w1.heap.size, 1, none⟩ (.int .i64 ya)).setCell ⟨w1.heap.size, 2, none⟩ (.slice A3 yr.length c3)) := Kn.set3 (L := [(w.heap.size, 0, .slice A n c), (w.heap.size + 1, 0, .string nm), (w.heap.size + 1, 1, .bool false), (w.heap.size + 1, 2, .slice A' n' c'), (w.heap.size + 1 + 1, 0, .slice none 0 0)]) kn3 (by omega) (by simp only [List.forall_mem_cons]; simp; try omega) _ _ _
        have s4 : (((w3.setCell ⟨w1.heap.size, 0, none⟩ (.string yn)).setCell ⟨w1.heap.size, 1, none⟩ (.int .i64 ya)).setCell ⟨w1.heap.size, 2, none⟩ (.slice A3 yr.length c3)).heap.size = w3.heap.size := by simp
        have HO4 : Hid (OwnR (((w3.setCell ⟨w1.heap.size, 0, none⟩ (.string yn)).setCell ⟨w1.heap.size, 1, none⟩ (.int .i64 ya)).setCell ⟨w1.heap.size, 2, none⟩ (.slice A3 yr.length c3)) w2.heap.size w3.heap.size (.slice A3 yr.length c3) yr) := OwnR.setOff (OwnR.setOff (OwnR.setOff HO3.out (.inl (by omega))) (.inl (by omega))) (.inl (by omega))
        generalize ((w3.setCell ⟨w1.heap.size, 0, none⟩ (.string yn)).setCell ⟨w1.heap.size, 1, none⟩ (.int .i64 ya)).setCell ⟨w1.heap.size, 2, none⟩ (.slice A3 yr.length c3) = w4 at kn4 s4 HO4 ⊢
        clear kn3 kn2 kn1 HO3 d0 d1 d2 d3 d4 b0 b1 b2 fd0 fd1 fd2 fd3 fd4 fb0 fb1 fb2
        refine (copyDatabase_any A n c B ts w4 (RdT.belowB hr kn4.bel hB) (Nat.le_trans hB kn4.bel.size) (by omega) hsm.out).mono ?_
        rintro e wc ⟨Ac, cc, rfl, hoc, hbc⟩
        have knc := kn4.next hbc
        have sc := hbc.size
        obtain ⟨k0, k1, k2, k3, k4, _⟩ := knc.all
        obtain ⟨f0, f1, f2, f3, f4, _⟩ := knc.fall
        have HOC := Lib.hid hoc
        have HKC := Lib.hid knc.bel
        clear hoc hbc knc
        go_wp2_with fail
        refine bodyPost_ret (v := .tuple #[.agg #[.slice Ac ts.length cc], .bool false]) (by simp [results, Tryz.results6, go_sem, *]) rfl (DbBool.of hf.out ?_ ?_)
        · refine OwnD.down (lo := w4.heap.size) (OwnD.wide (hi := wc.heap.size) ?_ (by simp)) (by omega)
          repeat refine OwnD.setOff ?_ (by omega)
          exact HOC.out
        · repeat first | exact HKC.out | (refine Below.setCell ?_ ?_ _; rotate_left; (simp; try omega))
      case true =>
        have hf := Lib.hid (appR_yes (by rw [HR.out] : (lookR ts nm).ok = true) HM.out)
        go_wp2_with fail
        have kn4 : Kn w ([(w.heap.size, 0, .slice A n c), (w.heap.size + 1, 0, .string nm), (w.heap.size + 1, 1, .bool false), (w.heap.size + 1, 2, .slice A' n' c'), (w.heap.size + 1 + 1, 0, .slice none 0 0)] ++ [(w1.heap.size, 0, .string yn), (w1.heap.size, 1, .int .i64 ya), (w1.heap.size, 2, .slice A3 yr.length c3)]) (((w3.setCell ⟨w1.heap.size, 0, none⟩ (.string yn)).setCell ⟨w1.heap.size, 1, none⟩ (.int .i64 ya)).setCell ⟨w1.heap.size, 2, none⟩ (.slice A3 yr.length c3)) := Kn.set3 (L := [(w.heap.size, 0, .slice A n c), (w.heap.size + 1, 0, .string nm), (w.heap.size + 1, 1, .bool false), (w.heap.size + 1, 2, .slice A' n' c'), (w.heap.size + 1 + 1, 0, .slice none 0 0)]) kn3 (by omega) (by simp only [List.forall_mem_cons]; simp; try omega) _ _ _
        have s4 : (((w3.setCell ⟨w1.heap.size, 0, none⟩ (.string yn)).setCell ⟨w1.heap.size, 1, none⟩ (.int .i64 ya)).setCell ⟨w1.heap.size, 2, none⟩ (.slice A3 yr.length c3)).heap.size = w3.heap.size := by simp
        have HO4 : Hid (OwnR (((w3.setCell ⟨w1.heap.size, 0, none⟩ (.string yn)).setCell ⟨w1.heap.size, 1, none⟩ (.int .i64 ya)).setCell ⟨w1.heap.size, 2, none⟩ (.slice A3 yr.length c3)) w2.heap.size w3.heap.size (.slice A3 yr.length c3) yr) := OwnR.setOff (OwnR.setOff (OwnR.setOff HO3.out (.inl (by omega))) (.inl (by omega))) (.inl (by omega))
        generalize ((w3.setCell ⟨w1.heap.size, 0, none⟩ (.string yn)).setCell ⟨w1.heap.size, 1, none⟩ (.int .i64 ya)).setCell ⟨w1.heap.size, 2, none⟩ (.slice A3 yr.length c3) = w4 at kn4 s4 HO4 ⊢
        clear kn3 kn2 kn1 HO3 d0 d1 d2 d3 d4 b0 b1 b2 fd0 fd1 fd2 fd3 fd4 fb0 fb1 fb2
        refine (impl_SetTable_any A A3 n c c3 w4.heap.size ts yn ya yr w4 ((RdT.belowB hr kn4.bel hB).more (Nat.le_trans hB kn4.bel.size)) (Nat.le_refl _) (by omega) hsm.out ((HO4.out.rd rfl).more (by omega)) (by omega) hyrow.out hynm.out).mono ?_
        rintro e w5 ⟨A5, c5, rfl, ho5, hb5⟩
        have s5 := hb5.size
        have kn5 := kn4.next hb5
        obtain ⟨Q, okq, hQ⟩ : ∃ a b, setR ts ⟨yn, ya, yr⟩ = (a, b) := ⟨_, _, rfl⟩
        rw [hQ] at ho5 ⊢
        have HQ := Lib.hid (hf.out.trans hQ)
        have HO5 : Hid (OwnD w5 w4.heap.size w5.heap.size (.slice A5 Q.length c5) Q) := ho5
        have HK5 := Lib.hid kn5.bel
        obtain ⟨k0, k1, k2, k3, k4, _⟩ := kn5.all
        obtain ⟨f0, f1, f2, f3, f4, _⟩ := kn5.fall
        have nf : w.heap.size + 1 + 1 < w5.heap.size := by omega
        clear hQ ho5 hb5 kn5 kn4
        go_wp2_with fail
        refine bodyPost_ret (v := .tuple #[.agg #[.slice A5 Q.length c5], .bool okq]) (by simp [results, Tryz.results6, go_sem, *]) rfl (DbBool.of HQ.out ?_ ?_)
        · refine OwnD.down (lo := w4.heap.size) (OwnD.wide (hi := w5.heap.size) ?_ (by simp)) (by omega)
          repeat first | with_reducible exact HO5.out | (with_reducible refine OwnD.alloc ?_ _) | (with_reducible refine OwnD.setOff ?_ (by omega))
        · repeat first | exact HK5.out | (refine Below.setCell ?_ ?_ _; rotate_left; (simp; try omega)) | (refine Below.alloc ?_ ?_ _; rotate_left; (simp; try omega))
    case true =>
      have hms := Lib.hid (modR_small (nm := xn) (ar := xa) (ok := true) true hxl hxs hrl)
      have hmod : Hid (modR (lookR ts nm) true r = insR xn xa xr r) := by show _ = _; rw [HR.out]; simp [modR]
      go_wp2_with fail
      have kn2 : Kn w [(w.heap.size, 0, .slice A n c), (w.heap.size + 1, 0, .string nm), (w.heap.size + 1, 1, .bool true), (w.heap.size + 1, 2, .slice A' n' c'), (w.heap.size + 1 + 1, 0, .slice none 0 0), (w1.heap.size, 0, .string xn), (w1.heap.size, 1, .int .i64 xa), (w1.heap.size, 2, .slice A1 xr.length c1)] (w1.alloc (.cells #[.string xn, .int .i64 xa, .slice A1 xr.length c1] 51)) := by simpa using kn1.box3 (.string xn) (.int .i64 xa) (.slice A1 xr.length c1) 51
      have s2 : w1.heap.size + 1 ≤ (w1.alloc (.cells #[.string xn, .int .i64 xa, .slice A1 xr.length c1] 51)).heap.size := by simp
      have HO2 : Hid (OwnR (w1.alloc (.cells #[.string xn, .int .i64 xa, .slice A1 xr.length c1] 51)) w0.heap.size w1.heap.size (.slice A1 xr.length c1) xr) := OwnR.alloc HO1.out _
      generalize w1.alloc (.cells #[.string xn, .int .i64 xa, .slice A1 xr.length c1] 51) = w2 at kn2 s2 HO2 ⊢
      refine (impl_InsertRow_any xn xa A1 A' xr.length c1 n' c' w2.heap.size xr r w2 ((HO2.out.rd rfl).more (by omega)) ((RdI.belowB hr' kn2.bel hB).more (Nat.le_trans hB kn2.bel.size)) (Nat.le_refl _) (by omega) (by omega) hrow.out).mono ?_
      rintro e w3 ⟨A3, c3, rfl, ho3, hb3⟩
      have s3 := hb3.size
      have kn3 := kn2.next hb3
      obtain ⟨yn, ya, yr, ok2, hY⟩ : ∃ a b c d, insR xn xa xr r = ⟨a, b, c, d⟩ := ⟨_, _, _, _, rfl⟩
      rw [hY] at ho3 ⊢
      have HM : Hid (modR (lookR ts nm) true r = ⟨yn, ya, yr, ok2⟩) := hmod.out.trans hY
      have hms2 := hms.out
      rw [← HR.out, HM.out] at hms2
      obtain ⟨hyn, hyl, hys⟩ : yn = xn ∧ yr.length ≤ 1048576 ∧ sumL yr ≤ 4294967296 := hms2
      have hyrow : Hid (∀ r ∈ yr, r.length ≤ 17592186044416) := fun r hr => by have := sumL_mem hr; omega
      have hynm : Hid (yn.size ≤ maxLen) := by show _ ≤ _; rw [hyn, hxn.out]; exact hnm
      have HO3 : Hid (OwnR w3 w2.heap.size w3.heap.size (.slice A3 yr.length c3) yr) := ho3
      clear hY hmod hms hyn ho3 hb3 HO2 HO1
      clear d0 d1 d2 d3 d4
      obtain ⟨d0, d1, d2, d3, d4, b0, b1, b2, _⟩ := kn3.all
      obtain ⟨fd0, fd1, fd2, fd3, fd4, fb0, fb1, fb2, _⟩ := kn3.fall
      cases ok2
      case false =>
        have hf := Lib.hid (appR_no (by rw [HR.out] : (lookR ts nm).ok = true) (by rw [HM.out] : (modR (lookR ts nm) true r).ok = false))
        go_wp2_with fail
        have kn4 : Kn w ([(w.heap.size, 0, .slice A n c), (w.heap.size + 1, 0, .string nm), (w.heap.size + 1, 1, .bool true), (w.heap.size + 1, 2, .slice A' n' c'), (w.heap.size + 1 + 1, 0, .slice none 0 0)] ++ [(w1.heap.size, 0, .string yn), (w1.heap.size, 1, .int .i64 ya), (w1.heap.size, 2, .slice A3 yr.length c3)]) (((w3.setCell ⟨w1.heap.size, 0, none⟩ (.string yn)).setCell ⟨w1.heap.size, 1, none⟩ (.int .i64 ya)).setCell ⟨w1.heap.size, 2, none⟩ (.slice A3 yr.length c3)) := Kn.set3 (L := [(w.heap.size, 0, .slice A n c), (w.heap.size + 1, 0, .string nm), (w.heap.size + 1, 1, .bool true), (w.heap.size + 1, 2, .slice A' n' c'), (w.heap.size + 1 + 1, 0, .slice none 0 0)]) kn3 (by omega) (by simp only [List.forall_mem_cons]; simp; try omega) _ _ _
        have s4 : (((w3.setCell ⟨w1.heap.size, 0, none⟩ (.string yn)).setCell ⟨w1.heap.size, 1, none⟩ (.int .i64 ya)).setCell ⟨w1.heap.size, 2, none⟩ (.slice A3 yr.length c3)).heap.size = w3.heap.size := by simp
        have HO4 : Hid (OwnR (((w3.setCell ⟨w1.heap.size, 0, none⟩ (.string yn)).setCell ⟨w1.heap.size, 1, none⟩ (.int .i64 ya)).setCell ⟨w1.heap.size, 2, none⟩ (.slice A3 yr.length c3)) w2.heap.size w3.heap.size (.slice A3 yr.length c3) yr) := OwnR.setOff (OwnR.setOff (OwnR.setOff HO3.out (.inl (by omega))) (.inl (by omega))) (.inl (by omega))
        generalize ((w3.setCell ⟨w1.heap.size, 0, none⟩ (.string yn)).setCell ⟨w1.heap.size, 1, none⟩ (.int .i64 ya)).setCell ⟨w1.heap.size, 2, none⟩ (.slice A3 yr.length c3) = w4 at kn4 s4 HO4 ⊢
        clear kn3 kn2 kn1 HO3 d0 d1 d2 d3 d4 b0 b1 b2 fd0 fd1 fd2 fd3 fd4 fb0 fb1 fb2
        refine (copyDatabase_any A n c B ts w4 (RdT.belowB hr kn4.bel hB) (Nat.le_trans hB kn4.bel.size) (by omega) hsm.out).mono ?_
        rintro e wc ⟨Ac, cc, rfl, hoc, hbc⟩
        have knc := kn4.next hbc
        have sc := hbc.size
        obtain ⟨k0, k1, k2, k3, k4, _⟩ := knc.all
        obtain ⟨f0, f1, f2, f3, f4, _⟩ := knc.fall
        have HOC := Lib.hid hoc
        have HKC := Lib.hid knc.bel
        clear hoc hbc knc
        go_wp2_with fail
        refine bodyPost_ret (v := .tuple #[.agg #[.slice Ac ts.length cc], .bool false]) (by simp [results, Tryz.results6, go_sem, *]) rfl (DbBool.of hf.out ?_ ?_)
        · refine OwnD.down (lo := w4.heap.size) (OwnD.wide (hi := wc.heap.size) ?_ (by simp)) (by omega)
          repeat refine OwnD.setOff ?_ (by omega)
          exact HOC.out
        · repeat first | exact HKC.out | (refine Below.setCell ?_ ?_ _; rotate_left; (simp; try omega))
      case true =>
        have hf := Lib.hid (appR_yes (by rw [HR.out] : (lookR ts nm).ok = true) HM.out)
        go_wp2_with fail
        have kn4 : Kn w ([(w.heap.size, 0, .slice A n c), (w.heap.size + 1, 0, .string nm), (w.heap.size + 1, 1, .bool true), (w.heap.size + 1, 2, .slice A' n' c'), (w.heap.size + 1 + 1, 0, .slice none 0 0)] ++ [(w1.heap.size, 0, .string yn), (w1.heap.size, 1, .int .i64 ya), (w1.heap.size, 2, .slice A3 yr.length c3)]) (((w3.setCell ⟨w1.heap.size, 0, none⟩ (.string yn)).setCell ⟨w1.heap.size, 1, none⟩ (.int .i64 ya)).setCell ⟨w1.heap.size, 2, none⟩ (.slice A3 yr.length c3)) := Kn.set3 (L := [(w.heap.size, 0, .slice A n c), (w.heap.size + 1, 0, .string nm), (w.heap.size + 1, 1, .bool true), (w.heap.size + 1, 2, .slice A' n' c'), (w.heap.size + 1 + 1, 0, .slice none 0 0)]) kn3 (by omega) (by simp only [List.forall_mem_cons]; simp; try omega) _ _ _
        have s4 : (((w3.setCell ⟨w1.heap.size, 0, none⟩ (.string yn)).setCell ⟨w1.heap.size, 1, none⟩ (.int .i64 ya)).setCell ⟨w1.heap.size, 2, none⟩ (.slice A3 yr.length c3)).heap.size = w3.heap.size := by simp
        have HO4 : Hid (OwnR (((w3.setCell ⟨w1.heap.size, 0, none⟩ (.string yn)).setCell ⟨w1.heap.size, 1, none⟩ (.int .i64 ya)).setCell ⟨w1.heap.size, 2, none⟩ (.slice A3 yr.length c3)) w2.heap.size w3.heap.size (.slice A3 yr.length c3) yr) := OwnR.setOff (OwnR.setOff (OwnR.setOff HO3.out (.inl (by omega))) (.inl (by omega))) (.inl (by omega))
        generalize ((w3.setCell ⟨w1.heap.size, 0, none⟩ (.string yn)).setCell ⟨w1.heap.size, 1, none⟩ (.int .i64 ya)).setCell ⟨w1.heap.size, 2, none⟩ (.slice A3 yr.length c3) = w4 at kn4 s4 HO4 ⊢
        clear kn3 kn2 kn1 HO3 d0 d1 d2 d3 d4 b0 b1 b2 fd0 fd1 fd2 fd3 fd4 fb0 fb1 fb2
        refine (impl_SetTable_any A A3 n c c3 w4.heap.size ts yn ya yr w4 ((RdT.belowB hr kn4.bel hB).more (Nat.le_trans hB kn4.bel.size)) (Nat.le_refl _) (by omega) hsm.out ((HO4.out.rd rfl).more (by omega)) (by omega) hyrow.out hynm.out).mono ?_
        rintro e w5 ⟨A5, c5, rfl, ho5, hb5⟩
        have s5 := hb5.size
        have kn5 := kn4.next hb5
        obtain ⟨Q, okq, hQ⟩ : ∃ a b, setR ts ⟨yn, ya, yr⟩ = (a, b) := ⟨_, _, rfl⟩
        rw [hQ] at ho5 ⊢
        have HQ := Lib.hid (hf.out.trans hQ)
        have HO5 : Hid (OwnD w5 w4.heap.size w5.heap.size (.slice A5 Q.length c5) Q) := ho5
        have HK5 := Lib.hid kn5.bel
        obtain ⟨k0, k1, k2, k3, k4, _⟩ := kn5.all
        obtain ⟨f0, f1, f2, f3, f4, _⟩ := kn5.fall
        have nf : w.heap.size + 1 + 1 < w5.heap.size := by omega
        clear hQ ho5 hb5 kn5 kn4
        go_wp2_with fail
        refine bodyPost_ret (v := .tuple #[.agg #[.slice A5 Q.length c5], .bool okq]) (by simp [results, Tryz.results6, go_sem, *]) rfl (DbBool.of HQ.out ?_ ?_)
        · refine OwnD.down (lo := w4.heap.size) (OwnD.wide (hi := w5.heap.size) ?_ (by simp)) (by omega)
          repeat first | with_reducible exact HO5.out | (with_reducible refine OwnD.alloc ?_ _) | (with_reducible refine OwnD.setOff ?_ (by omega))
        · repeat first | exact HK5.out | (refine Below.setCell ?_ ?_ _; rotate_left; (simp; try omega)) | (refine Below.alloc ?_ ?_ _; rotate_left; (simp; try omega))

set_option maxRecDepth 100000 in
set_option maxHeartbeats 2000000 in
theorem spec_ApplyUpdate_any (A : Option Addr) (n c B : Nat) (ts : List Tab) (nm : ByteArray) (ins : Bool) (A' : Option Addr) (n' c' : Nat) (r : List Int) (w : World) (hr : RdT w B A n ts) (hB : B ≤ w.heap.size) (hn : n ≤ 1048576) (hs : sumT ts ≤ 1048576) (hr' : RdI w B A' n' r) (hn' : n' ≤ 1048576) (hnm : nm.size ≤ maxLen) :
    Calls Tryz.prog 7 #[.agg #[.slice A n c], .agg #[.string nm, .bool ins, .slice A' n' c']] w (DbBool (appR ts nm ins r) w) := by
  have hsm : Hid (sumT ts ≤ 4294967296) := by show _ ≤ _; omega
  have hsm' := Lib.hid hs
  have hrl : r.length ≤ 1048576 := by rw [hr'.1]; exact hn'
  clear hs
  go_enter Tryz.func7, Tryz.ntmps7
  go_wp2_with fail
  have kn0 : Kn w [(w.heap.size, 0, .slice A n c), (w.heap.size + 1, 0, .string nm), (w.heap.size + 1, 1, .bool ins), (w.heap.size + 1, 2, .slice A' n' c'), (w.heap.size + 1 + 1, 0, .slice none 0 0)] (((w.alloc (.cells #[.slice A n c] 26)).alloc (.cells #[.string nm, .bool ins, .slice A' n' c'] 29)).alloc (.cells #[.slice none 0 0] 26)) := by simpa using (((Kn.start w).box1 (.slice A n c) 26).box3 (.string nm) (.bool ins) (.slice A' n' c') 29).box1 (.slice none 0 0) 26
  have s0 : w.heap.size + 3 ≤ (((w.alloc (.cells #[.slice A n c] 26)).alloc (.cells #[.string nm, .bool ins, .slice A' n' c'] 29)).alloc (.cells #[.slice none 0 0] 26)).heap.size := by simp
  generalize ((w.alloc (.cells #[.slice A n c] 26)).alloc (.cells #[.string nm, .bool ins, .slice A' n' c'] 29)).alloc (.cells #[.slice none 0 0] 26) = w0 at kn0 s0 ⊢
  refine (spec_LookupTable_any A n c B ts nm w0 (RdT.belowB hr kn0.bel hB) (Nat.le_trans hB kn0.bel.size) (by omega) hsm.out).mono ?_
  rintro e w1 ⟨A1, c1, rfl, ho, hb⟩
  have s1 := hb.size
  have kn1 := kn0.next hb
  obtain ⟨xn, xa, xr, ok, hR⟩ : ∃ a b c d, lookR ts nm = ⟨a, b, c, d⟩ := ⟨_, _, _, _, rfl⟩
  rw [hR] at ho ⊢
  have HR := Lib.hid hR
  have HO1 : Hid (OwnR w1 w0.heap.size w1.heap.size (.slice A1 xr.length c1) xr) := ho
  clear hR ho hb kn0
  obtain ⟨d0, d1, d2, d3, d4, _⟩ := kn1.all
  have ne0 : w.heap.size < w1.heap.size := by omega
  have ne1 : w.heap.size + 1 < w1.heap.size := by omega
  have ne2 : w.heap.size + 1 + 1 < w1.heap.size := by omega
  cases ok
  case false =>
    have hf := Lib.hid (appR_none (ins := ins) (r := r) (by rw [HR.out] : (lookR ts nm).ok = false))
    go_wp2_with fail
    have kn2 : Kn w [(w.heap.size, 0, .slice A n c), (w.heap.size + 1, 0, .string nm), (w.heap.size + 1, 1, .bool ins), (w.heap.size + 1, 2, .slice A' n' c'), (w.heap.size + 1 + 1, 0, .slice none 0 0), (w1.heap.size, 0, .string xn), (w1.heap.size, 1, .int .i64 xa), (w1.heap.size, 2, .slice A1 xr.length c1)] (w1.alloc (.cells #[.string xn, .int .i64 xa, .slice A1 xr.length c1] 51)) := by simpa using kn1.box3 (.string xn) (.int .i64 xa) (.slice A1 xr.length c1) 51
    have s2 : w1.heap.size + 1 ≤ (w1.alloc (.cells #[.string xn, .int .i64 xa, .slice A1 xr.length c1] 51)).heap.size := by simp
    generalize w1.alloc (.cells #[.string xn, .int .i64 xa, .slice A1 xr.length c1] 51) = w2 at kn2 s2 ⊢
    refine (l5Copy_any A n c B ts w2 (RdT.belowB hr kn2.bel hB) (Nat.le_trans hB kn2.bel.size) (by omega) hsm.out).mono ?_
    rintro e wc ⟨Ac, cc, rfl, hoc, hbc⟩
    have knc := kn2.next hbc
    have sc := hbc.size
    obtain ⟨k0, k1, k2, k3, k4, _⟩ := knc.all
    obtain ⟨f0, f1, f2, f3, f4, _⟩ := knc.fall
    have HOC := Lib.hid hoc
    have HKC := Lib.hid knc.bel
    clear hoc hbc knc
    go_wp2_with fail
    refine bodyPost_ret (v := .tuple #[.agg #[.slice Ac ts.length cc], .bool false]) (by simp [results, Tryz.results7, go_sem, *]) rfl (DbBool.of hf.out ?_ ?_)
    · refine OwnD.down (lo := w2.heap.size) (OwnD.wide (hi := wc.heap.size) ?_ (by simp)) (by omega)
      repeat refine OwnD.setOff ?_ (by omega)
      exact HOC.out
    · repeat first | exact HKC.out | (refine Below.setCell ?_ ?_ _; rotate_left; (simp; try omega))
  case true =>
    have hlk := look_small hsm'.out (by rw [HR.out] : (lookR ts nm).ok = true)
    rw [HR.out] at hlk
    obtain ⟨hxn0, hxl, hxs⟩ : xn = nm ∧ xr.length ≤ 1048576 ∧ sumL xr ≤ 1048576 := hlk
    have hxn := Lib.hid hxn0
    clear hxn0
    have hrow : Hid (∀ r ∈ xr, r.length ≤ 17592186044416) := fun r hr => by have := sumL_mem hr; omega
    cases ins
    case false =>
      have hms := Lib.hid (modR_small (nm := xn) (ar := xa) (ok := true) false hxl hxs hrl)
      have hmod : Hid (modR (lookR ts nm) false r = delR xn xa xr r) := by show _ = _; rw [HR.out]; simp [modR]
      go_wp2_with fail
      have kn2 : Kn w [(w.heap.size, 0, .slice A n c), (w.heap.size + 1, 0, .string nm), (w.heap.size + 1, 1, .bool false), (w.heap.size + 1, 2, .slice A' n' c'), (w.heap.size + 1 + 1, 0, .slice none 0 0), (w1.heap.size, 0, .string xn), (w1.heap.size, 1, .int .i64 xa), (w1.heap.size, 2, .slice A1 xr.length c1), (w1.heap.size + 1, 0, .string ⟨#[]⟩), (w1.heap.size + 1, 1, .int .i64 0), (w1.heap.size + 1, 2, .slice none 0 0)] ((w1.alloc (.cells #[.string xn, .int .i64 xa, .slice A1 xr.length c1] 51)).alloc (.cells #[.string ⟨#[]⟩, .int .i64 0, .slice none 0 0] 51)) := by simpa using (kn1.box3 (.string xn) (.int .i64 xa) (.slice A1 xr.length c1) 51).box3 (.string ⟨#[]⟩) (.int .i64 0) (.slice none 0 0) 51
      have s2 : w1.heap.size + 2 ≤ ((w1.alloc (.cells #[.string xn, .int .i64 xa, .slice A1 xr.length c1] 51)).alloc (.cells #[.string ⟨#[]⟩, .int .i64 0, .slice none 0 0] 51)).heap.size := by simp
      have HO2 : Hid (OwnR ((w1.alloc (.cells #[.string xn, .int .i64 xa, .slice A1 xr.length c1] 51)).alloc (.cells #[.string ⟨#[]⟩, .int .i64 0, .slice none 0 0] 51)) w0.heap.size w1.heap.size (.slice A1 xr.length c1) xr) := OwnR.alloc (OwnR.alloc HO1.out _) _
      generalize (w1.alloc (.cells #[.string xn, .int .i64 xa, .slice A1 xr.length c1] 51)).alloc (.cells #[.string ⟨#[]⟩, .int .i64 0, .slice none 0 0] 51) = w2 at kn2 s2 HO2 ⊢
      refine (spec_DeleteRow_any xn xa A1 A' xr.length c1 n' c' w2.heap.size xr r w2 ((HO2.out.rd rfl).more (by omega)) ((RdI.belowB hr' kn2.bel hB).more (Nat.le_trans hB kn2.bel.size)) (Nat.le_refl _) (by omega) (by omega) hrow.out).mono ?_
      rintro e w3 ⟨A3, c3, rfl, ho3, hb3⟩
      have s3 := hb3.size
      have kn3 := kn2.next hb3
      obtain ⟨yn, ya, yr, ok2, hY⟩ : ∃ a b c d, delR xn xa xr r = ⟨a, b, c, d⟩ := ⟨_, _, _, _, rfl⟩
      rw [hY] at ho3 ⊢
      have HM : Hid (modR (lookR ts nm) false r = ⟨yn, ya, yr, ok2⟩) := hmod.out.trans hY
      have hms2 := hms.out
      rw [← HR.out, HM.out] at hms2
      obtain ⟨hyn, hyl, hys⟩ : yn = xn ∧ yr.length ≤ 1048576 ∧ sumL yr ≤ 4294967296 := hms2
      have hyrow : Hid (∀ r ∈ yr, r.length ≤ 17592186044416) := fun r hr => by have := sumL_mem hr; omega
      have hynm : Hid (yn.size ≤ maxLen) := by show _ ≤ _; rw [hyn, hxn.out]; exact hnm
      have HO3 : Hid (OwnR w3 w2.heap.size w3.heap.size (.slice A3 yr.length c3) yr) := ho3
      clear hY hmod hms hyn ho3 hb3 HO2 HO1
      clear d0 d1 d2 d3 d4
      obtain ⟨d0, d1, d2, d3, d4, b0, b1, b2, g0, g1, g2, _⟩ := kn3.all
      obtain ⟨fd0, fd1, fd2, fd3, fd4, fb0, fb1, fb2, fg0, fg1, fg2, _⟩ := kn3.fall
      cases ok2
      case false =>
        have hf := Lib.hid (appR_no (by rw [HR.out] : (lookR ts nm).ok = true) (by rw [HM.out] : (modR (lookR ts nm) false r).ok = false))
        go_wp2_with fail
        have kn4 : Kn w ([(w.heap.size, 0, .slice A n c), (w.heap.size + 1, 0, .string nm), (w.heap.size + 1, 1, .bool false), (w.heap.size + 1, 2, .slice A' n' c'), (w.heap.size + 1 + 1, 0, .slice none 0 0), (w1.heap.size, 0, .string xn), (w1.heap.size, 1, .int .i64 xa), (w1.heap.size, 2, .slice A1 xr.length c1)] ++ [(w1.heap.size + 1, 0, .string yn), (w1.heap.size + 1, 1, .int .i64 ya), (w1.heap.size + 1, 2, .slice A3 yr.length c3)]) (((w3.setCell ⟨w1.heap.size + 1, 0, none⟩ (.string yn)).setCell ⟨w1.heap.size + 1, 1, none⟩ (.int .i64 ya)).setCell ⟨w1.heap.size + 1, 2, none⟩ (.slice A3 yr.length c3)) := Kn.set3 (L := [(w.heap.size, 0, .slice A n c), (w.heap.size + 1, 0, .string nm), (w.heap.size + 1, 1, .bool false), (w.heap.size + 1, 2, .slice A' n' c'), (w.heap.size + 1 + 1, 0, .slice none 0 0), (w1.heap.size, 0, .string xn), (w1.heap.size, 1, .int .i64 xa), (w1.heap.size, 2, .slice A1 xr.length c1)]) kn3 (by omega) (by simp only [List.forall_mem_cons]; simp; try omega) _ _ _
        have s4 : (((w3.setCell ⟨w1.heap.size + 1, 0, none⟩ (.string yn)).setCell ⟨w1.heap.size + 1, 1, none⟩ (.int .i64 ya)).setCell ⟨w1.heap.size + 1, 2, none⟩ (.slice A3 yr.length c3)).heap.size = w3.heap.size := by simp
        have HO4 : Hid (OwnR (((w3.setCell ⟨w1.heap.size + 1, 0, none⟩ (.string yn)).setCell ⟨w1.heap.size + 1, 1, none⟩ (.int .i64 ya)).setCell ⟨w1.heap.size + 1, 2, none⟩ (.slice A3 yr.length c3)) w2.heap.size w3.heap.size (.slice A3 yr.length c3) yr) := OwnR.setOff (OwnR.setOff (OwnR.setOff HO3.out (.inl (by omega))) (.inl (by omega))) (.inl (by omega))
        generalize ((w3.setCell ⟨w1.heap.size + 1, 0, none⟩ (.string yn)).setCell ⟨w1.heap.size + 1, 1, none⟩ (.int .i64 ya)).setCell ⟨w1.heap.size + 1, 2, none⟩ (.slice A3 yr.length c3) = w4 at kn4 s4 HO4 ⊢
        clear kn3 kn2 kn1 HO3 d0 d1 d2 d3 d4 b0 b1 b2 g0 g1 g2 fd0 fd1 fd2 fd3 fd4 fb0 fb1 fb2 fg0 fg1 fg2
        refine (l5Copy_any A n c B ts w4 (RdT.belowB hr kn4.bel hB) (Nat.le_trans hB kn4.bel.size) (by omega) hsm.out).mono ?_
        rintro e wc ⟨Ac, cc, rfl, hoc, hbc⟩
        have knc := kn4.next hbc
        have sc := hbc.size
        obtain ⟨k0, k1, k2, k3, k4, _⟩ := knc.all
        obtain ⟨f0, f1, f2, f3, f4, _⟩ := knc.fall
        have HOC := Lib.hid hoc
        have HKC := Lib.hid knc.bel
        clear hoc hbc knc
        go_wp2_with fail
        refine bodyPost_ret (v := .tuple #[.agg #[.slice Ac ts.length cc], .bool false]) (by simp [results, Tryz.results7, go_sem, *]) rfl (DbBool.of hf.out ?_ ?_)
        · refine OwnD.down (lo := w4.heap.size) (OwnD.wide (hi := wc.heap.size) ?_ (by simp)) (by omega)
          repeat refine OwnD.setOff ?_ (by omega)
          exact HOC.out
        · repeat first | exact HKC.out | (refine Below.setCell ?_ ?_ _; rotate_left; (simp; try omega))
      case true =>
        have hf := Lib.hid (appR_yes (by rw [HR.out] : (lookR ts nm).ok = true) HM.out)
        go_wp2_with fail
        have kn4 : Kn w ([(w.heap.size, 0, .slice A n c), (w.heap.size + 1, 0, .string nm), (w.heap.size + 1, 1, .bool false), (w.heap.size + 1, 2, .slice A' n' c'), (w.heap.size + 1 + 1, 0, .slice none 0 0), (w1.heap.size, 0, .string xn), (w1.heap.size, 1, .int .i64 xa), (w1.heap.size, 2, .slice A1 xr.length c1)] ++ [(w1.heap.size + 1, 0, .string yn), (w1.heap.size + 1, 1, .int .i64 ya), (w1.heap.size + 1, 2, .slice A3 yr.length c3)]) (((w3.setCell ⟨w1.heap.size + 1, 0, none⟩ (.string yn)).setCell ⟨w1.heap.size + 1, 1, none⟩ (.int .i64 ya)).setCell ⟨w1.heap.size + 1, 2, none⟩ (.slice A3 yr.length c3)) := Kn.set3 (L := [(w.heap.size, 0, .slice A n c), (w.heap.size + 1, 0, .string nm), (w.heap.size + 1, 1, .bool false), (w.heap.size + 1, 2, .slice A' n' c'), (w.heap.size + 1 + 1, 0, .slice none 0 0), (w1.heap.size, 0, .string xn), (w1.heap.size, 1, .int .i64 xa), (w1.heap.size, 2, .slice A1 xr.length c1)]) kn3 (by omega) (by simp only [List.forall_mem_cons]; simp; try omega) _ _ _
        have s4 : (((w3.setCell ⟨w1.heap.size + 1, 0, none⟩ (.string yn)).setCell ⟨w1.heap.size + 1, 1, none⟩ (.int .i64 ya)).setCell ⟨w1.heap.size + 1, 2, none⟩ (.slice A3 yr.length c3)).heap.size = w3.heap.size := by simp
        have HO4 : Hid (OwnR (((w3.setCell ⟨w1.heap.size + 1, 0, none⟩ (.string yn)).setCell ⟨w1.heap.size + 1, 1, none⟩ (.int .i64 ya)).setCell ⟨w1.heap.size + 1, 2, none⟩ (.slice A3 yr.length c3)) w2.heap.size w3.heap.size (.slice A3 yr.length c3) yr) := OwnR.setOff (OwnR.setOff (OwnR.setOff HO3.out (.inl (by omega))) (.inl (by omega))) (.inl (by omega))
        generalize ((w3.setCell ⟨w1.heap.size + 1, 0, none⟩ (.string yn)).setCell ⟨w1.heap.size + 1, 1, none⟩ (.int .i64 ya)).setCell ⟨w1.heap.size + 1, 2, none⟩ (.slice A3 yr.length c3) = w4 at kn4 s4 HO4 ⊢
        clear kn3 kn2 kn1 HO3 d0 d1 d2 d3 d4 b0 b1 b2 g0 g1 g2 fd0 fd1 fd2 fd3 fd4 fb0 fb1 fb2 fg0 fg1 fg2
        refine (spec_SetTable_any A A3 n c c3 w4.heap.size ts yn ya yr w4 ((RdT.belowB hr kn4.bel hB).more (Nat.le_trans hB kn4.bel.size)) (Nat.le_refl _) (by omega) hsm.out ((HO4.out.rd rfl).more (by omega)) (by omega) hyrow.out hynm.out).mono ?_
        rintro e w5 ⟨A5, c5, rfl, ho5, hb5⟩
        have s5 := hb5.size
        have kn5 := kn4.next hb5
        obtain ⟨Q, okq, hQ⟩ : ∃ a b, setR ts ⟨yn, ya, yr⟩ = (a, b) := ⟨_, _, rfl⟩
        rw [hQ] at ho5 ⊢
        have HQ := Lib.hid (hf.out.trans hQ)
        have HO5 : Hid (OwnD w5 w4.heap.size w5.heap.size (.slice A5 Q.length c5) Q) := ho5
        have HK5 := Lib.hid kn5.bel
        obtain ⟨k0, k1, k2, k3, k4, _⟩ := kn5.all
        obtain ⟨f0, f1, f2, f3, f4, _⟩ := kn5.fall
        have nf : w.heap.size + 1 + 1 < w5.heap.size := by omega
        clear hQ ho5 hb5 kn5 kn4
        go_wp2_with fail
        refine bodyPost_ret (v := .tuple #[.agg #[.slice A5 Q.length c5], .bool okq]) (by simp [results, Tryz.results7, go_sem, *]) rfl (DbBool.of HQ.out ?_ ?_)
        · refine OwnD.down (lo := w4.heap.size) (OwnD.wide (hi := w5.heap.size) ?_ (by simp)) (by omega)
          repeat first | with_reducible exact HO5.out | (with_reducible refine OwnD.alloc ?_ _) | (with_reducible refine OwnD.setOff ?_ (by omega))
        · repeat first | exact HK5.out | (refine Below.setCell ?_ ?_ _; rotate_left; (simp; try omega)) | (refine Below.alloc ?_ ?_ _; rotate_left; (simp; try omega))
    case true =>
      have hms := Lib.hid (modR_small (nm := xn) (ar := xa) (ok := true) true hxl hxs hrl)
      have hmod : Hid (modR (lookR ts nm) true r = insR xn xa xr r) := by show _ = _; rw [HR.out]; simp [modR]
      go_wp2_with fail
      have kn2 : Kn w [(w.heap.size, 0, .slice A n c), (w.heap.size + 1, 0, .string nm), (w.heap.size + 1, 1, .bool true), (w.heap.size + 1, 2, .slice A' n' c'), (w.heap.size + 1 + 1, 0, .slice none 0 0), (w1.heap.size, 0, .string xn), (w1.heap.size, 1, .int .i64 xa), (w1.heap.size, 2, .slice A1 xr.length c1), (w1.heap.size + 1, 0, .string ⟨#[]⟩), (w1.heap.size + 1, 1, .int .i64 0), (w1.heap.size + 1, 2, .slice none 0 0)] ((w1.alloc (.cells #[.string xn, .int .i64 xa, .slice A1 xr.length c1] 51)).alloc (.cells #[.string ⟨#[]⟩, .int .i64 0, .slice none 0 0] 51)) := by simpa using (kn1.box3 (.string xn) (.int .i64 xa) (.slice A1 xr.length c1) 51).box3 (.string ⟨#[]⟩) (.int .i64 0) (.slice none 0 0) 51
      have s2 : w1.heap.size + 2 ≤ ((w1.alloc (.cells #[.string xn, .int .i64 xa, .slice A1 xr.length c1] 51)).alloc (.cells #[.string ⟨#[]⟩, .int .i64 0, .slice none 0 0] 51)).heap.size := by simp
      have HO2 : Hid (OwnR ((w1.alloc (.cells #[.string xn, .int .i64 xa, .slice A1 xr.length c1] 51)).alloc (.cells #[.string ⟨#[]⟩, .int .i64 0, .slice none 0 0] 51)) w0.heap.size w1.heap.size (.slice A1 xr.length c1) xr) := OwnR.alloc (OwnR.alloc HO1.out _) _
      generalize (w1.alloc (.cells #[.string xn, .int .i64 xa, .slice A1 xr.length c1] 51)).alloc (.cells #[.string ⟨#[]⟩, .int .i64 0, .slice none 0 0] 51) = w2 at kn2 s2 HO2 ⊢
      refine (spec_InsertRow_any xn xa A1 A' xr.length c1 n' c' w2.heap.size xr r w2 ((HO2.out.rd rfl).more (by omega)) ((RdI.belowB hr' kn2.bel hB).more (Nat.le_trans hB kn2.bel.size)) (Nat.le_refl _) (by omega) (by omega) hrow.out).mono ?_
      rintro e w3 ⟨A3, c3, rfl, ho3, hb3⟩
      have s3 := hb3.size
      have kn3 := kn2.next hb3
      obtain ⟨yn, ya, yr, ok2, hY⟩ : ∃ a b c d, insR xn xa xr r = ⟨a, b, c, d⟩ := ⟨_, _, _, _, rfl⟩
      rw [hY] at ho3 ⊢
      have HM : Hid (modR (lookR ts nm) true r = ⟨yn, ya, yr, ok2⟩) := hmod.out.trans hY
      have hms2 := hms.out
      rw [← HR.out, HM.out] at hms2
      obtain ⟨hyn, hyl, hys⟩ : yn = xn ∧ yr.length ≤ 1048576 ∧ sumL yr ≤ 4294967296 := hms2
      have hyrow : Hid (∀ r ∈ yr, r.length ≤ 17592186044416) := fun r hr => by have := sumL_mem hr; omega
      have hynm : Hid (yn.size ≤ maxLen) := by show _ ≤ _; rw [hyn, hxn.out]; exact hnm
      have HO3 : Hid (OwnR w3 w2.heap.size w3.heap.size (.slice A3 yr.length c3) yr) := ho3
      clear hY hmod hms hyn ho3 hb3 HO2 HO1
      clear d0 d1 d2 d3 d4
      obtain ⟨d0, d1, d2, d3, d4, b0, b1, b2, g0, g1, g2, _⟩ := kn3.all
      obtain ⟨fd0, fd1, fd2, fd3, fd4, fb0, fb1, fb2, fg0, fg1, fg2, _⟩ := kn3.fall
      cases ok2
      case false =>
        have hf := Lib.hid (appR_no (by rw [HR.out] : (lookR ts nm).ok = true) (by rw [HM.out] : (modR (lookR ts nm) true r).ok = false))
        go_wp2_with fail
        have kn4 : Kn w ([(w.heap.size, 0, .slice A n c), (w.heap.size + 1, 0, .string nm), (w.heap.size + 1, 1, .bool true), (w.heap.size + 1, 2, .slice A' n' c'), (w.heap.size + 1 + 1, 0, .slice none 0 0), (w1.heap.size, 0, .string xn), (w1.heap.size, 1, .int .i64 xa), (w1.heap.size, 2, .slice A1 xr.length c1)] ++ [(w1.heap.size + 1, 0, .string yn), (w1.heap.size + 1, 1, .int .i64 ya), (w1.heap.size + 1, 2, .slice A3 yr.length c3)]) (((w3.setCell ⟨w1.heap.size + 1, 0, none⟩ (.string yn)).setCell ⟨w1.heap.size + 1, 1, none⟩ (.int .i64 ya)).setCell ⟨w1.heap.size + 1, 2, none⟩ (.slice A3 yr.length c3)) := Kn.set3 (L := [(w.heap.size, 0, .slice A n c), (w.heap.size + 1, 0, .string nm), (w.heap.size + 1, 1, .bool true), (w.heap.size + 1, 2, .slice A' n' c'), (w.heap.size + 1 + 1, 0, .slice none 0 0), (w1.heap.size, 0, .string xn), (w1.heap.size, 1, .int .i64 xa), (w1.heap.size, 2, .slice A1 xr.length c1)]) kn3 (by omega) (by simp only [List.forall_mem_cons]; simp; try omega) _ _ _
        have s4 : (((w3.setCell ⟨w1.heap.size + 1, 0, none⟩ (.string yn)).setCell ⟨w1.heap.size + 1, 1, none⟩ (.int .i64 ya)).setCell ⟨w1.heap.size + 1, 2, none⟩ (.slice A3 yr.length c3)).heap.size = w3.heap.size := by simp
        have HO4 : Hid (OwnR (((w3.setCell ⟨w1.heap.size + 1, 0, none⟩ (.string yn)).setCell ⟨w1.heap.size + 1, 1, none⟩ (.int .i64 ya)).setCell ⟨w1.heap.size + 1, 2, none⟩ (.slice A3 yr.length c3)) w2.heap.size w3.heap.size (.slice A3 yr.length c3) yr) := OwnR.setOff (OwnR.setOff (OwnR.setOff HO3.out (.inl (by omega))) (.inl (by omega))) (.inl (by omega))
        generalize ((w3.setCell ⟨w1.heap.size + 1, 0, none⟩ (.string yn)).setCell ⟨w1.heap.size + 1, 1, none⟩ (.int .i64 ya)).setCell ⟨w1.heap.size + 1, 2, none⟩ (.slice A3 yr.length c3) = w4 at kn4 s4 HO4 ⊢
        clear kn3 kn2 kn1 HO3 d0 d1 d2 d3 d4 b0 b1 b2 g0 g1 g2 fd0 fd1 fd2 fd3 fd4 fb0 fb1 fb2 fg0 fg1 fg2
        refine (l5Copy_any A n c B ts w4 (RdT.belowB hr kn4.bel hB) (Nat.le_trans hB kn4.bel.size) (by omega) hsm.out).mono ?_
        rintro e wc ⟨Ac, cc, rfl, hoc, hbc⟩
        have knc := kn4.next hbc
        have sc := hbc.size
        obtain ⟨k0, k1, k2, k3, k4, _⟩ := knc.all
        obtain ⟨f0, f1, f2, f3, f4, _⟩ := knc.fall
        have HOC := Lib.hid hoc
        have HKC := Lib.hid knc.bel
        clear hoc hbc knc
        go_wp2_with fail
        refine bodyPost_ret (v := .tuple #[.agg #[.slice Ac ts.length cc], .bool false]) (by simp [results, Tryz.results7, go_sem, *]) rfl (DbBool.of hf.out ?_ ?_)
        · refine OwnD.down (lo := w4.heap.size) (OwnD.wide (hi := wc.heap.size) ?_ (by simp)) (by omega)
          repeat refine OwnD.setOff ?_ (by omega)
          exact HOC.out
        · repeat first | exact HKC.out | (refine Below.setCell ?_ ?_ _; rotate_left; (simp; try omega))
      case true =>
        have hf := Lib.hid (appR_yes (by rw [HR.out] : (lookR ts nm).ok = true) HM.out)
        go_wp2_with fail
        have kn4 : Kn w ([(w.heap.size, 0, .slice A n c), (w.heap.size + 1, 0, .string nm), (w.heap.size + 1, 1, .bool true), (w.heap.size + 1, 2, .slice A' n' c'), (w.heap.size + 1 + 1, 0, .slice none 0 0), (w1.heap.size, 0, .string xn), (w1.heap.size, 1, .int .i64 xa), (w1.heap.size, 2, .slice A1 xr.length c1)] ++ [(w1.heap.size + 1, 0, .string yn), (w1.heap.size + 1, 1, .int .i64 ya), (w1.heap.size + 1, 2, .slice A3 yr.length c3)]) (((w3.setCell ⟨w1.heap.size + 1, 0, none⟩ (.string yn)).setCell ⟨w1.heap.size + 1, 1, none⟩ (.int .i64 ya)).setCell ⟨w1.heap.size + 1, 2, none⟩ (.slice A3 yr.length c3)) := Kn.set3 (L := [(w.heap.size, 0, .slice A n c), (w.heap.size + 1, 0, .string nm), (w.heap.size + 1, 1, .bool true), (w.heap.size + 1, 2, .slice A' n' c'), (w.heap.size + 1 + 1, 0, .slice none 0 0), (w1.heap.size, 0, .string xn), (w1.heap.size, 1, .int .i64 xa), (w1.heap.size, 2, .slice A1 xr.length c1)]) kn3 (by omega) (by simp only [List.forall_mem_cons]; simp; try omega) _ _ _
        have s4 : (((w3.setCell ⟨w1.heap.size + 1, 0, none⟩ (.string yn)).setCell ⟨w1.heap.size + 1, 1, none⟩ (.int .i64 ya)).setCell ⟨w1.heap.size + 1, 2, none⟩ (.slice A3 yr.length c3)).heap.size = w3.heap.size := by simp
        have HO4 : Hid (OwnR (((w3.setCell ⟨w1.heap.size + 1, 0, none⟩ (.string yn)).setCell ⟨w1.heap.size + 1, 1, none⟩ (.int .i64 ya)).setCell ⟨w1.heap.size + 1, 2, none⟩ (.slice A3 yr.length c3)) w2.heap.size w3.heap.size (.slice A3 yr.length c3) yr) := OwnR.setOff (OwnR.setOff (OwnR.setOff HO3.out (.inl (by omega))) (.inl (by omega))) (.inl (by omega))
        generalize ((w3.setCell ⟨w1.heap.size + 1, 0, none⟩ (.string yn)).setCell ⟨w1.heap.size + 1, 1, none⟩ (.int .i64 ya)).setCell ⟨w1.heap.size + 1, 2, none⟩ (.slice A3 yr.length c3) = w4 at kn4 s4 HO4 ⊢
        clear kn3 kn2 kn1 HO3 d0 d1 d2 d3 d4 b0 b1 b2 g0 g1 g2 fd0 fd1 fd2 fd3 fd4 fb0 fb1 fb2 fg0 fg1 fg2
        refine (spec_SetTable_any A A3 n c c3 w4.heap.size ts yn ya yr w4 ((RdT.belowB hr kn4.bel hB).more (Nat.le_trans hB kn4.bel.size)) (Nat.le_refl _) (by omega) hsm.out ((HO4.out.rd rfl).more (by omega)) (by omega) hyrow.out hynm.out).mono ?_
        rintro e w5 ⟨A5, c5, rfl, ho5, hb5⟩
        have s5 := hb5.size
        have kn5 := kn4.next hb5
        obtain ⟨Q, okq, hQ⟩ : ∃ a b, setR ts ⟨yn, ya, yr⟩ = (a, b) := ⟨_, _, rfl⟩
        rw [hQ] at ho5 ⊢
        have HQ := Lib.hid (hf.out.trans hQ)
        have HO5 : Hid (OwnD w5 w4.heap.size w5.heap.size (.slice A5 Q.length c5) Q) := ho5
        have HK5 := Lib.hid kn5.bel
        obtain ⟨k0, k1, k2, k3, k4, _⟩ := kn5.all
        obtain ⟨f0, f1, f2, f3, f4, _⟩ := kn5.fall
        have nf : w.heap.size + 1 + 1 < w5.heap.size := by omega
        clear hQ ho5 hb5 kn5 kn4
        go_wp2_with fail
        refine bodyPost_ret (v := .tuple #[.agg #[.slice A5 Q.length c5], .bool okq]) (by simp [results, Tryz.results7, go_sem, *]) rfl (DbBool.of HQ.out ?_ ?_)
        · refine OwnD.down (lo := w4.heap.size) (OwnD.wide (hi := w5.heap.size) ?_ (by simp)) (by omega)
          repeat first | with_reducible exact HO5.out | (with_reducible refine OwnD.alloc ?_ _) | (with_reducible refine OwnD.setOff ?_ (by omega))
        · repeat first | exact HK5.out | (refine Below.setCell ?_ ?_ _; rotate_left; (simp; try omega)) | (refine Below.alloc ?_ ?_ _; rotate_left; (simp; try omega))

end

section
open Go.RowKit Go.Deep
open Go.RowKit Go.Deep
open Go.RowKit Go.Deep

structure Upd where
  nm : ByteArray
  ins : Bool
  zs : List Int

theorem OwnI.keepH {w w' : World} {lo hi : Nat} {v : Value} {zs : List Int} (h : OwnI w lo hi v zs) (hk : ∀ k, lo ≤ k ∧ k < hi → w'.heap[k]? = w.heap[k]?) : OwnI w' lo hi v zs :=
  ⟨own_keep h.1 fun g hg => hk g ⟨(h.lt g hg).1, (h.lt g hg).2.1⟩, h.2⟩

theorem OwnI.rdTo {w : World} {lo hi c B : Nat} {A : Option Addr} {zs : List Int} (h : OwnI w lo hi (.slice A zs.length c) zs) (hB : ∀ g, (Value.slice A zs.length c).ownBlock = some g → g < B) : RdI w B A zs.length zs :=
  OwnI.rd (lo := lo) (hi := B) ⟨h.1, fun g hg => hB g hg⟩ rfl

/-- A table among the cells of a slice. -/
def RUpd (w : World) (B : Nat) (cs : List Value) (t : Upd) : Prop := ∃ A c, cs = [.string t.nm, .bool t.ins, .slice A t.zs.length c] ∧ RdI w B A t.zs.length t.zs ∧ t.zs.length ≤ maxLen ∧ t.nm.size ≤ maxLen

theorem rUpd_ok : RdOk RUpd where
  keep := fun ⟨A, c, h1, h2, h3, h4⟩ hk => ⟨A, c, h1, RdI.keep h2 fun p hp => World.cell?_of_block (hk p.block hp), h3, h4⟩
  more := fun ⟨A, c, h1, h2, h3, h4⟩ hB => ⟨A, c, h1, RdI.more h2 hB, h3, h4⟩

abbrev RdU (w : World) (B : Nat) (A : Option Addr) (n : Nat) (ts : List Upd) : Prop := RdSl 3 RUpd w B A n ts

theorem RdU.at_ {w : World} {B n : Nat} {A : Option Addr} {ts : List Upd} (h : RdU w B A n ts) {k : Nat} (hk : k < n) :
    ∃ b o t A' c', A = some ⟨b, o, none⟩ ∧ b < B ∧ ts[k]? = some t ∧ w.cell? ⟨b, o + k * 3, none⟩ = some (.string t.nm) ∧ w.cell? ⟨b, o + k * 3 + 1, none⟩ = some (.bool t.ins) ∧ w.cell? ⟨b, o + k * 3 + 2, none⟩ = some (.slice A' t.zs.length c') ∧
      RdI w B A' t.zs.length t.zs ∧ t.zs.length ≤ maxLen ∧ t.nm.size ≤ maxLen := by
  obtain ⟨b, o, t, cs, hA, hb, hr, _, hc, A', c', rfl, hrd, hm, hn⟩ := RdSl.at_ h hk
  refine ⟨b, o, t, A', c', hA, hb, hr, ?_, ?_, ?_, hrd, hm, hn⟩
  · have := hc 0 _ rfl
    rwa [Nat.add_zero] at this
  · have := hc 1 _ rfl
    rwa [← Nat.add_assoc] at this
  · have := hc 2 _ rfl
    rwa [← Nat.add_assoc] at this

theorem RdU.chg {w w' : World} {B n a b : Nat} {A : Option Addr} {ts : List Upd} (h : RdU w B A n ts) (c : Chg a b w w') (hB : B ≤ a) (hs : B ≤ w.heap.size) : RdU w' B A n ts := RdSl.keep rUpd_ok h fun k hk => c.block k (by omega) (by omega)

theorem RdU.belowB {w w' : World} {B B' n : Nat} {A : Option Addr} {ts : List Upd} (h : RdU w B A n ts) (b : Below B' w w') (hB : B ≤ B') : RdU w' B A n ts := RdSl.below rUpd_ok h b hB

theorem RdU.more {w : World} {B B' n : Nat} {A : Option Addr} {ts : List Upd} (h : RdU w B A n ts) (hB : B ≤ B') : RdU w B' A n ts := RdSl.more rUpd_ok h hB

theorem Qt.rdU {w w' : World} {A : Option Addr} {n : Nat} {ts : List Upd} (hq : Qt w w') (h : RdU w w.heap.size A n ts) : RdU w' w'.heap.size A n ts := by
  have := RdU.belowB h (hq.below w.heap.size) (Nat.le_refl _)
  rwa [← hq.heap] at this

theorem rdU_next {W w1 : World} {A : Option Addr} {n : Nat} {ts : List Upd} (b : Below W.heap.size W w1) (h : RdU W W.heap.size A n ts) : RdU w1 w1.heap.size A n ts := (RdU.belowB h b (Nat.le_refl _)).more b.size

/-- A table of the call's own. -/
def EUpd (w : World) (F : Nat → Prop) (cs : List Value) (t : Upd) : Prop :=
  ∃ A c lo hi, cs = [.string t.nm, .bool t.ins, .slice A t.zs.length c] ∧ OwnI w lo hi (.slice A t.zs.length c) t.zs ∧ t.nm.size ≤ maxLen ∧ t.zs.length ≤ maxLen ∧ (∀ k, lo ≤ k ∧ k < hi → F k) ∧ ∀ k, F k → k < w.heap.size

theorem eUpd_ok : OwnOk EUpd where
  bound := fun ⟨_, _, _, _, _, _, _, _, _, h⟩ => h
  keep := fun ⟨A, c, lo, hi, h1, h2, h3, h3', h4, h5⟩ hk => ⟨A, c, lo, hi, h1, h2.keepH fun k hk' => hk k (h4 k hk'), h3, h3', h4, fun k hf => lt_of_heap_eq (hk k hf) (h5 k hf)⟩

theorem OwnI.len_max {w : World} {lo hi : Nat} {v : Value} {zs : List Int} (h : OwnI w lo hi v zs) : zs.length ≤ maxLen := ownsRow_max h.1

theorem EUpd.of {w : World} {lo hi c : Nat} {A : Option Addr} {nm : ByteArray} {ins : Bool} {rs : List Int} (h : OwnI w lo hi (.slice A rs.length c) rs) (hn : nm.size ≤ maxLen) (hh : hi ≤ w.heap.size) :
    EUpd w (fun k => lo ≤ k ∧ k < hi) [.string nm, .bool ins, .slice A rs.length c] ⟨nm, ins, rs⟩ :=
  ⟨A, c, lo, hi, rfl, h, hn, h.len_max, fun _ h => h, fun k hk => by omega⟩

theorem rUpd_of {w : World} {G : Nat → Prop} {B : Nat} {cs : List Value} {t : Upd} (h : EUpd w G cs t) (hB : ∀ k, G k → k < B) : RUpd w B cs t := by
  obtain ⟨A, c, lo, hi, h1, h2, h3, h3', h4, h5⟩ := h
  refine ⟨A, c, h1, ?_, h3', h3⟩
  have h6 := h2.rd rfl
  by_cases hlt : hi ≤ B
  · exact h6.more hlt
  · refine OwnI.rdTo h2 fun g hg => hB g (h4 g (by have := h2.lt g hg; omega))

/-- A slice of tables of the call's own, in blocks from lo to hi. -/
def OwnU (w : World) (lo hi : Nat) (v : Value) (ts : List Upd) : Prop := ∃ F, OwnSl 29 3 EUpd w F v ts ∧ ∀ k, F k → lo ≤ k ∧ k < hi

theorem OwnU.form {w : World} {lo hi : Nat} {v : Value} {ts : List Upd} (h : OwnU w lo hi v ts) : ∃ A c, v = .slice A ts.length c := by
  obtain ⟨F, h1, _⟩ := h
  exact h1.form

theorem OwnU.len_eq {w : World} {lo hi n c : Nat} {A : Option Addr} {ts : List Upd} (h : OwnU w lo hi (.slice A n c) ts) : ts.length = n := by
  obtain ⟨A', c', hv⟩ := h.form
  injection hv with _ hn _
  exact hn.symm

theorem OwnU.rd {w : World} {lo hi n c : Nat} {A : Option Addr} {ts : List Upd} (h : OwnU w lo hi (.slice A n c) ts) (hn : ts.length = n) : RdU w hi A n ts := by
  obtain ⟨F, h1, h2⟩ := h
  exact h1.rd hn (by omega) (fun k hk => (h2 k hk).2) fun G cs a hE hG => rUpd_of hE hG

theorem OwnU.chg {w w' : World} {lo hi a b : Nat} {v : Value} {ts : List Upd} (h : OwnU w lo hi v ts) (c : Chg a b w w') (hd : hi ≤ a ∨ b ≤ lo) : OwnU w' lo hi v ts := by
  obtain ⟨F, h1, h2⟩ := h
  exact ⟨F, h1.keep eUpd_ok c.size fun k hk => c.block k (h1.bound k hk) (by have := h2 k hk; omega), h2⟩

theorem OwnU.below {w w' : World} {lo hi B : Nat} {v : Value} {ts : List Upd} (h : OwnU w lo hi v ts) (b : Below B w w') (hd : hi ≤ B) : OwnU w' lo hi v ts := by
  obtain ⟨F, h1, h2⟩ := h
  exact ⟨F, h1.keep eUpd_ok b.size fun k hk => b.block k (by have := h2 k hk; omega), h2⟩

theorem OwnU.wide {w : World} {lo hi hi' : Nat} {v : Value} {ts : List Upd} (h : OwnU w lo hi v ts) (hd : hi ≤ hi') : OwnU w lo hi' v ts := by
  obtain ⟨F, h1, h2⟩ := h
  exact ⟨F, h1, fun k hk => by have := h2 k hk; omega⟩

theorem OwnU.down {w : World} {lo lo' hi : Nat} {v : Value} {ts : List Upd} (h : OwnU w lo hi v ts) (hd : lo' ≤ lo) : OwnU w lo' hi v ts := by
  obtain ⟨F, h1, h2⟩ := h
  exact ⟨F, h1, fun k hk => by have := h2 k hk; omega⟩

theorem OwnU.nil (w : World) (lo hi : Nat) : OwnU w lo hi (.slice none 0 0) [] := ⟨fun _ => False, OwnSl.nil w _ (by simp), by simp⟩

theorem OwnU.setOff {w : World} {lo hi b i : Nat} {v x : Value} {ts : List Upd} (h : OwnU w lo hi v ts) (hb : b < lo ∨ hi ≤ b) : OwnU (w.setCell ⟨b, i, none⟩ x) lo hi v ts := by
  obtain ⟨F, h1, h2⟩ := h
  exact ⟨F, h1.chgF eUpd_ok (chgF_setCell w b i x) fun k hk e => by have := h2 k hk; omega, h2⟩

theorem OwnU.drewN {w : World} {lo hi : Nat} {v : Value} {ts : List Upd} (h : OwnU w lo hi v ts) (q : Nat) : OwnU (w.drewN q) lo hi v ts := by
  obtain ⟨F, h1, h2⟩ := h
  exact ⟨F, h1.chgF eUpd_ok (chgF_drewN w q fun _ => False) (fun _ _ => id), h2⟩

theorem OwnU.alloc {w : World} {lo hi : Nat} {v : Value} {ts : List Upd} (h : OwnU w lo hi v ts) (o : Obj) : OwnU (w.alloc o) lo hi v ts := by
  obtain ⟨F, h1, h2⟩ := h
  exact ⟨F, h1.chgF eUpd_ok (chgF_alloc w o fun _ => False) (fun _ _ => id), h2⟩

/-- Owned tables, laid open for one table more. -/
theorem OwnU.open_ {w : World} {lo hi : Nat} {v : Value} {ts : List Upd} (h : OwnU w lo hi v ts) : ∃ xs : List Value, w.ownsRow 0 29 3 v ts.length xs ∧ (∀ g, v.ownBlock = some g → lo ≤ g ∧ g < hi ∧ g < w.heap.size) ∧
    ∀ (w1 w' : World) (A1 : Option Addr) (nm : ByteArray) (ins : Bool) (rs : List Int) (c1 lo1 hi1 g cap : Nat), Below w.heap.size w w1 → OwnI w1 lo1 hi1 (.slice A1 rs.length c1) rs → nm.size ≤ maxLen → hi ≤ lo1 → lo ≤ lo1 → hi1 ≤ w1.heap.size → lo ≤ w1.heap.size →
      w'.ownsRow 0 29 3 (.slice (some ⟨g, 0, none⟩) (ts.length + 1) cap) (ts.length + 1) (xs ++ [.string nm, .bool ins, .slice A1 rs.length c1]) → w1.grownBy w' v.ownBlock → (v.ownBlock = some g ∨ g = w1.heap.size) →
      OwnU w' lo w'.heap.size (.slice (some ⟨g, 0, none⟩) (ts.length + 1) cap) (ts ++ [⟨nm, ins, rs⟩]) := by
  obtain ⟨F, h1, h2⟩ := h
  obtain ⟨xs, k1, k2, k3⟩ := h1.open_ eUpd_ok
  refine ⟨xs, k1, fun g hg => ⟨(h2 g (k2 g hg)).1, (h2 g (k2 g hg)).2, h1.bound g (k2 g hg)⟩, fun w1 w' A1 nm ins rs c1 lo1 hi1 g cap hb ho hnm hlo hlo' hhi hl hown hgrow hat => ?_⟩
  have := k3 w1 w' (fun k => lo1 ≤ k ∧ k < hi1) [.string nm, .bool ins, .slice A1 rs.length c1] ⟨nm, ins, rs⟩ g cap ⟨hb.os, hb.tape, hb.output, hb.size, fun i hi _ => hb.block i hi⟩ (EUpd.of ho hnm hhi) rfl (fun k hk hk' => by have := h2 k hk; omega) hown hgrow (by rcases hat with h | h; exact .inl h; exact .inr (by omega))
  refine ⟨_, this, fun k hk => ⟨?_, this.bound k hk⟩⟩
  rcases hk with hk | hk | rfl
  · exact (h2 k hk).1
  · omega
  · rcases hat with h | h
    · exact (h2 k (k2 k h)).1
    · omega

/-- Element k of owned tables: its cells, its rows, and what becomes of the whole. -/
theorem OwnU.at_ {w : World} {lo hi n c k : Nat} {A : Option Addr} {ts : List Upd} (h : OwnU w lo hi (.slice A n c) ts) (hn : ts.length = n) (hk : k < n) :
    ∃ g t A' c' lo' hi', A = some ⟨g, 0, none⟩ ∧ lo ≤ g ∧ g < hi ∧ g < w.heap.size ∧ ts[k]? = some t ∧
      (w.cell? ⟨g, k * 3, none⟩ = some (.string t.nm) ∧ w.cell? ⟨g, k * 3 + 1, none⟩ = some (.bool t.ins) ∧ w.cell? ⟨g, k * 3 + 2, none⟩ = some (.slice A' t.zs.length c')) ∧
      (w.frozen? ⟨g, k * 3, none⟩ = false ∧ w.frozen? ⟨g, k * 3 + 1, none⟩ = false ∧ w.frozen? ⟨g, k * 3 + 2, none⟩ = false) ∧ OwnI w lo' hi' (.slice A' t.zs.length c') t.zs ∧ t.zs.length ≤ maxLen ∧
      (∀ w' rs', rs'.length = t.zs.length → OwnI w' lo' hi' (.slice A' t.zs.length c') rs' → Chg lo' hi' w w' → OwnU w' lo hi (.slice A n c) (ts.set k ⟨t.nm, t.ins, rs'⟩) ∧ Chg lo hi w w') ∧
      (∀ w1 (nm : ByteArray), nm.size ≤ maxLen → Below w.heap.size w w1 → OwnU (w1.setCell ⟨g, k * 3, none⟩ (.string nm)) lo hi (.slice A n c) (ts.set k ⟨nm, t.ins, t.zs⟩)) ∧
      (∀ w1 (ins : Bool), Below w.heap.size w w1 → OwnU (w1.setCell ⟨g, k * 3 + 1, none⟩ (.bool ins)) lo hi (.slice A n c) (ts.set k ⟨t.nm, ins, t.zs⟩)) ∧
      (∀ w1 A1 (rs : List Int) c1 lo1 hi1, Below w.heap.size w w1 → OwnI w1 lo1 hi1 (.slice A1 rs.length c1) rs → w.heap.size ≤ lo1 → hi1 ≤ w1.heap.size → lo ≤ w.heap.size → OwnU (w1.setCell ⟨g, k * 3 + 2, none⟩ (.slice A1 rs.length c1)) lo w1.heap.size (.slice A n c) (ts.set k ⟨t.nm, t.ins, rs⟩)) := by
  obtain ⟨F, h1, h2⟩ := h
  subst hn
  obtain ⟨g, cap, hv, hFg, cs, t, H, hr, hl, hE, hH, hc, hup, hput⟩ := h1.at_ eUpd_ok hk (by omega)
  injection hv with hA _ _
  have hE0 := hE
  obtain ⟨A', c', lo', hi', rfl, ho, hnm, hrl, hiv, hHb⟩ := hE
  have c0 := hc 0 _ rfl
  have c1 := hc 1 _ rfl
  have c2 := hc 2 _ rfl
  rw [Nat.add_zero] at c0
  have cF : ∀ w1, Below w.heap.size w w1 → ChgF (fun _ => False) w w1 := fun w1 b => ⟨b.os, b.tape, b.output, b.size, fun i hi _ => b.block i hi⟩
  have fin : ∀ (w1 : World) (i : Nat) (x : Value) (ts' : List Upd), OwnSl 29 3 EUpd (w1.setCell ⟨g, i, none⟩ x) (fun k => F k ∨ H k) (.slice A ts.length c) ts' → OwnU (w1.setCell ⟨g, i, none⟩ x) lo hi (.slice A ts.length c) ts' := fun w1 i x ts' hh =>
    ⟨_, hh, fun k hk => by rcases hk with hk | hk; exact h2 k hk; exact h2 k (hH k hk).1⟩
  refine ⟨g, t, A', c', lo', hi', hA, (h2 g hFg).1, (h2 g hFg).2, h1.bound g hFg, hr, ⟨c0.1, c1.1, c2.1⟩, ⟨c0.2, c1.2, c2.2⟩, ho, hrl, fun w' rs' hl' ho' hch => ?_, fun w1 nm hnm' b => ?_, fun w1 ins b => ?_, fun w1 A1 rs c1' lo1 hi1 b ho1 hlo1 hhi1 hlo => ?_⟩
  · have hcF : ChgF H w w' := ⟨hch.os, hch.tape, hch.output, hch.size, fun k hk hne => hch.block k hk (by
      rcases Nat.lt_or_ge k lo' with h | h
      · exact .inl h
      · rcases Nat.lt_or_ge k hi' with h' | h'
        · exact absurd (hiv k ⟨h, h'⟩) hne
        · exact .inr h')⟩
    have hE' : EUpd w' H [.string t.nm, .bool t.ins, .slice A' t.zs.length c'] ⟨t.nm, t.ins, rs'⟩ := ⟨A', c', lo', hi', by rw [hl'], by rw [hl']; exact ho', hnm, by rw [hl']; exact hrl, hiv, fun k hk => Nat.lt_of_lt_of_le (hHb k hk) hch.size⟩
    exact ⟨⟨F, hup w' _ hcF hE', h2⟩, ⟨hcF.os, hcF.tape, hcF.output, hcF.size, fun i hi hne => hcF.block i hi fun hHi => by have := h2 i (hH i hHi).1; omega⟩⟩
  · have := hput w1 H 0 (.string nm) ⟨nm, t.ins, t.zs⟩ (cF w1 b) (by omega) (eUpd_ok.keep (w := w) (w' := w1) (cs := [.string nm, .bool t.ins, .slice A' t.zs.length c']) (a := ⟨nm, t.ins, t.zs⟩) ⟨A', c', lo', hi', rfl, ho, hnm', hrl, hiv, hHb⟩ fun k hk => b.block k (hHb k hk)) (fun k hk => .inl hk)
    rw [Nat.add_zero] at this
    exact fin _ _ _ _ this
  · exact fin _ _ _ _ (hput w1 H 1 (.bool ins) ⟨t.nm, ins, t.zs⟩ (cF w1 b) (by omega) (eUpd_ok.keep (w := w) (w' := w1) (cs := [.string t.nm, .bool ins, .slice A' t.zs.length c']) (a := ⟨t.nm, ins, t.zs⟩) ⟨A', c', lo', hi', rfl, ho, hnm, hrl, hiv, hHb⟩ fun k hk => b.block k (hHb k hk)) (fun k hk => .inl hk))
  · have := hput w1 (fun i => lo1 ≤ i ∧ i < hi1) 2 (.slice A1 rs.length c1') ⟨t.nm, t.ins, rs⟩ (cF w1 b) (by omega) (EUpd.of ho1 hnm hhi1) (fun i hi => .inr (by omega))
    refine ⟨_, this, fun i hi => ?_⟩
    have hbd := this.bound i hi
    simp [World.setCell] at hbd
    rcases hi with hi | hi
    · exact ⟨(h2 i hi).1, hbd⟩
    · exact ⟨by omega, hbd⟩

/-- Element k takes a whole new table. -/
theorem OwnU.put3 {w : World} {lo hi n c k : Nat} {A : Option Addr} {ts : List Upd} (h : OwnU w lo hi (.slice A n c) ts) (hn : ts.length = n) (hk : k < n) :
    ∃ g, A = some ⟨g, 0, none⟩ ∧ lo ≤ g ∧ g < hi ∧ g < w.heap.size ∧ (∀ i, i < 3 → (w.cell? ⟨g, k * 3 + i, none⟩).isSome = true ∧ w.frozen? ⟨g, k * 3 + i, none⟩ = false) ∧
      ∀ (w1 : World) (nm : ByteArray) (ins : Bool) (A1 : Option Addr) (rs : List Int) (c1 lo1 hi1 : Nat), nm.size ≤ maxLen → Below w.heap.size w w1 → OwnI w1 lo1 hi1 (.slice A1 rs.length c1) rs → w.heap.size ≤ lo1 → hi1 ≤ w1.heap.size → lo ≤ w.heap.size →
        OwnU (((w1.setCell ⟨g, k * 3, none⟩ (.string nm)).setCell ⟨g, k * 3 + 1, none⟩ (.bool ins)).setCell ⟨g, k * 3 + 2, none⟩ (.slice A1 rs.length c1)) lo w1.heap.size (.slice A n c) (ts.set k ⟨nm, ins, rs⟩) := by
  obtain ⟨g, t, A', c', lo', hi', hA, h1, h2, h3, ht, ⟨k0, k1, k2⟩, ⟨f0, f1, f2⟩, _, _, _, _, _, hp⟩ := h.at_ hn hk
  refine ⟨g, hA, h1, h2, h3, fun i hi => ?_, fun w1 nm ins A1 rs c1 lo1 hi1 hnm b ho hlo1 hhi1 hlo => ?_⟩
  · have : i = 0 ∨ i = 1 ∨ i = 2 := by omega
    rcases this with rfl | rfl | rfl
    · exact ⟨by rw [Nat.add_zero, k0]; rfl, by rw [Nat.add_zero]; exact f0⟩
    · exact ⟨by rw [k1]; rfl, f1⟩
    · exact ⟨by rw [k2]; rfl, f2⟩
  · rw [setCell_comm _ g (k * 3 + 1) (k * 3 + 2) _ _ (by omega), setCell_comm w1 g (k * 3) (k * 3 + 2) _ _ (by omega)]
    have d1 := hp w1 A1 rs c1 lo1 hi1 b ho hlo1 hhi1 hlo
    subst hA
    have hl1 : (ts.set k ⟨t.nm, t.ins, rs⟩).length = n := by rw [List.length_set, hn]
    have hkt : k < ts.length := by rw [hn]; exact hk
    obtain ⟨g2, t2, _, _, _, _, hA2, _, _, _, ht2, _, _, _, _, _, hs2, _, _⟩ := d1.at_ hl1 hk
    injection hA2 with hA2
    injection hA2 with hA2
    subst hA2
    rw [List.getElem?_set_self hkt] at ht2
    injection ht2 with ht2
    subst ht2
    have d2 := hs2 _ nm hnm (Below.refl _ _)
    rw [List.set_set] at d2
    have hl2 : (ts.set k ⟨nm, t.ins, rs⟩).length = n := by rw [List.length_set, hn]
    obtain ⟨g3, t3, _, _, _, _, hA3, _, _, _, ht3, _, _, _, _, _, _, hs3, _⟩ := d2.at_ hl2 hk
    injection hA3 with hA3
    injection hA3 with hA3
    subst hA3
    rw [List.getElem?_set_self hkt] at ht3
    injection ht3 with ht3
    subst ht3
    have d3 := hs3 _ ins (Below.refl _ _)
    rw [List.set_set] at d3
    exact d3

/-- Element k takes a new name and a new number; its rows may then change in place. -/
theorem OwnU.mark3 {w : World} {lo hi n c k : Nat} {A : Option Addr} {ts : List Upd} (h : OwnU w lo hi (.slice A n c) ts) (hn : ts.length = n) (hk : k < n) :
    ∃ g t A' c', A = some ⟨g, 0, none⟩ ∧ lo ≤ g ∧ g < hi ∧ g < w.heap.size ∧ ts[k]? = some t ∧
      (w.cell? ⟨g, k * 3, none⟩ = some (.string t.nm) ∧ w.cell? ⟨g, k * 3 + 1, none⟩ = some (.bool t.ins) ∧ w.cell? ⟨g, k * 3 + 2, none⟩ = some (.slice A' t.zs.length c')) ∧
      (w.frozen? ⟨g, k * 3, none⟩ = false ∧ w.frozen? ⟨g, k * 3 + 1, none⟩ = false) ∧ t.zs.length ≤ maxLen ∧
      ∀ (w1 : World) (nm : ByteArray) (ins : Bool), nm.size ≤ maxLen → Below w.heap.size w w1 →
        ∃ lo' hi', OwnI ((w1.setCell ⟨g, k * 3, none⟩ (.string nm)).setCell ⟨g, k * 3 + 1, none⟩ (.bool ins)) lo' hi' (.slice A' t.zs.length c') t.zs ∧
          ∀ w' rs', rs'.length = t.zs.length → OwnI w' lo' hi' (.slice A' t.zs.length c') rs' → Chg lo' hi' ((w1.setCell ⟨g, k * 3, none⟩ (.string nm)).setCell ⟨g, k * 3 + 1, none⟩ (.bool ins)) w' →
            OwnU w' lo hi (.slice A n c) (ts.set k ⟨nm, ins, rs'⟩) ∧ Chg lo hi ((w1.setCell ⟨g, k * 3, none⟩ (.string nm)).setCell ⟨g, k * 3 + 1, none⟩ (.bool ins)) w' := by
  obtain ⟨g, t, A', c', lo', hi', hA, h1, h2, h3, ht, ⟨k0, k1, k2⟩, ⟨f0, f1, f2⟩, _, hrl, _, hs, _, _⟩ := h.at_ hn hk
  refine ⟨g, t, A', c', hA, h1, h2, h3, ht, ⟨k0, k1, k2⟩, ⟨f0, f1⟩, hrl, fun w1 nm ins hnm b => ?_⟩
  have d1 := hs w1 nm hnm b
  subst hA
  have hkt : k < ts.length := by rw [hn]; exact hk
  have hl1 : (ts.set k ⟨nm, t.ins, t.zs⟩).length = n := by rw [List.length_set, hn]
  obtain ⟨g2, t2, _, _, _, _, hA2, _, _, _, ht2, _, _, _, _, _, _, hs2, _⟩ := d1.at_ hl1 hk
  injection hA2 with hA2
  injection hA2 with hA2
  subst hA2
  rw [List.getElem?_set_self hkt] at ht2
  injection ht2 with ht2
  subst ht2
  have d2 := hs2 _ ins (Below.refl _ _)
  rw [List.set_set] at d2
  have hl2 : (ts.set k ⟨nm, ins, t.zs⟩).length = n := by rw [List.length_set, hn]
  obtain ⟨g3, t3, A3, c3, lo3, hi3, hA3, _, _, _, ht3, ⟨_, _, q2⟩, _, ho3, _, hup, _, _, _⟩ := d2.at_ hl2 hk
  injection hA3 with hA3
  injection hA3 with hA3
  subst hA3
  rw [List.getElem?_set_self hkt] at ht3
  injection ht3 with ht3
  subst ht3
  rw [cell_set_other (by omega), cell_set_other (by omega), b.cell (p := ⟨g, k * 3 + 2, none⟩) h3, k2] at q2
  injection q2 with q2
  injection q2 with q3 _ q4
  subst q3 q4
  refine ⟨lo3, hi3, ho3, fun w' rs' hl ho' hc => ?_⟩
  have := hup w' rs' hl ho' hc
  rw [List.set_set] at this
  exact this

def b3 (k : Int) : Bool := (k % 3 == 0)

/-- All that a purse pays for tables. -/
def sumU (ts : List Upd) : Nat := (ts.map fun t => t.nm.size + t.zs.length).sum

theorem sumU_nil : sumU [] = 0 := rfl

theorem sumU_cons (t : Upd) (ts : List Upd) : sumU (t :: ts) = (t.nm.size + t.zs.length) + sumU ts := rfl

theorem sumU_append (a b : List Upd) : sumU (a ++ b) = sumU a + sumU b := by simp [sumU]

theorem sumU_mem {ts : List Upd} {t : Upd} (h : t ∈ ts) : t.nm.size + t.zs.length ≤ sumU ts := by
  induction ts with
  | nil => cases h
  | cons s ts ih =>
    rw [sumU_cons]
    rcases List.mem_cons.1 h with rfl | h
    · omega
    · have := ih h; omega

theorem sumU_take_succ {ts : List Upd} {j : Nat} {t : Upd} (h : ts[j]? = some t) : sumU (ts.take (j + 1)) = sumU (ts.take j) + (t.nm.size + t.zs.length) := by
  obtain ⟨hj, rfl⟩ := List.getElem?_eq_some_iff.1 h
  rw [List.take_succ_eq_append_getElem hj, sumU_append]
  simp [sumU]

/-- All that a mark counts in tables. -/
def mrkU (ts : List Upd) : Nat := (ts.map fun t => 2 + t.zs.length).sum

theorem mrkU_nil : mrkU [] = 0 := rfl

theorem mrkU_cons (t : Upd) (ts : List Upd) : mrkU (t :: ts) = (2 + t.zs.length) + mrkU ts := rfl

theorem mrkU_append (a b : List Upd) : mrkU (a ++ b) = mrkU a + mrkU b := by simp [mrkU]

theorem mrkU_take_succ {ts : List Upd} {j : Nat} {t : Upd} (h : ts[j]? = some t) : mrkU (ts.take (j + 1)) = mrkU (ts.take j) + (2 + t.zs.length) := by
  obtain ⟨hj, rfl⟩ := List.getElem?_eq_some_iff.1 h
  rw [List.take_succ_eq_append_getElem hj, mrkU_append]
  simp [mrkU]

theorem mrkU_take_le (ts : List Upd) (j : Nat) : mrkU (ts.take j) ≤ mrkU ts := by
  have := mrkU_append (ts.take j) (ts.drop j)
  rw [List.take_append_drop] at this
  omega

theorem mrkU_le (ts : List Upd) : mrkU ts ≤ 2 * ts.length + sumU ts := by
  induction ts with
  | nil => simp [mrkU, sumU]
  | cons t ts ih =>
    rw [mrkU_cons, sumU_cons, List.length_cons]
    omega

/-- Tables, marked from k on. -/
def cntU : Int → List Upd → List Upd
  | _, [] => []
  | k, t :: ts => ⟨mkT k, b3 (k + 1), cnt (k + 1 + 1) t.zs.length⟩ :: cntU (k + 1 + 1 + (t.zs.length : Nat)) ts

theorem cntU_length : ∀ (k : Int) (ts : List Upd), (cntU k ts).length = ts.length
  | _, [] => rfl
  | k, t :: ts => by rw [cntU, List.length_cons, List.length_cons, cntU_length]

theorem cntU_get : ∀ (k : Int) (ts : List Upd) (j : Nat) (t : Upd), ts[j]? = some t → (cntU k ts)[j]? = some ⟨mkT (k + (mrkU (ts.take j) : Nat)), b3 (k + (mrkU (ts.take j) : Nat) + 1), cnt (k + (mrkU (ts.take j) : Nat) + 1 + 1) t.zs.length⟩
  | k, [], j, t, h => by simp at h
  | k, s :: ts, 0, t, h => by
    simp at h
    subst h
    simp [cntU, mrkU]
  | k, s :: ts, j + 1, t, h => by
    have := cntU_get (k + 1 + 1 + (s.zs.length : Nat)) ts j t (by simpa using h)
    have e : k + 1 + 1 + (s.zs.length : Nat) + (mrkU (ts.take j) : Nat) = k + ((mrkU ((s :: ts).take (j + 1)) : Nat) : Int) := by
      rw [List.take_succ_cons, mrkU_cons]
      omega
    rw [cntU, List.getElem?_cons_succ, this, e]

/-- The first j tables marked, the rest as they were. -/
def markUTo (ts : List Upd) (k : Int) (j : Nat) : List Upd := (cntU k ts).take j ++ ts.drop j

theorem markUTo_zero (ts : List Upd) (k : Int) : markUTo ts k 0 = ts := by simp [markUTo]

theorem markUTo_full (ts : List Upd) (k : Int) : markUTo ts k ts.length = cntU k ts := by
  rw [markUTo, List.take_of_length_le (by rw [cntU_length]; exact Nat.le_refl _)]
  simp

theorem markUTo_length (ts : List Upd) (k : Int) (j : Nat) (hj : j ≤ ts.length) : (markUTo ts k j).length = ts.length := by
  rw [markUTo, List.length_append, List.length_take, List.length_drop, cntU_length]
  omega

theorem markUTo_get {ts : List Upd} {k : Int} {j : Nat} {t : Upd} (h : ts[j]? = some t) : (markUTo ts k j)[j]? = some t := by
  have hj := (List.getElem?_eq_some_iff.1 h).1
  rw [markUTo, List.getElem?_append_right (by rw [List.length_take, cntU_length]; omega), List.length_take, cntU_length, Nat.min_eq_left (by omega), Nat.sub_self, List.getElem?_drop, Nat.add_zero, h]

theorem markUTo_step {ts : List Upd} {k : Int} {j : Nat} {t : Upd} (h : ts[j]? = some t) : (markUTo ts k j).set j ⟨mkT (k + (mrkU (ts.take j) : Nat)), b3 (k + (mrkU (ts.take j) : Nat) + 1), cnt (k + (mrkU (ts.take j) : Nat) + 1 + 1) t.zs.length⟩ = markUTo ts k (j + 1) := by
  have hj := (List.getElem?_eq_some_iff.1 h).1
  have hg := cntU_get k ts j t h
  have hj' : j < (cntU k ts).length := by rw [cntU_length]; exact hj
  have hv : (cntU k ts)[j] = ⟨mkT (k + (mrkU (ts.take j) : Nat)), b3 (k + (mrkU (ts.take j) : Nat) + 1), cnt (k + (mrkU (ts.take j) : Nat) + 1 + 1) t.zs.length⟩ := by rw [List.getElem?_eq_getElem hj'] at hg; injection hg
  rw [markUTo, markUTo, List.set_append_right _ _ (by rw [List.length_take]; omega), List.length_take, Nat.min_eq_left (by omega), Nat.sub_self, List.drop_eq_getElem_cons hj, List.set_cons_zero, List.take_succ_eq_append_getElem hj', hv,
    List.append_assoc, List.singleton_append]

/-- An empty table. -/
def nilUpd : Upd := ⟨{ data := #[] }, false, []⟩

/-- The first k tables, then empty ones. -/
def fillU (ts : List Upd) (k : Nat) : List Upd := ts.take k ++ List.replicate (ts.length - k) nilUpd

theorem fillU_zero (ts : List Upd) : fillU ts 0 = List.replicate ts.length nilUpd := by simp [fillU]

theorem fillU_full (ts : List Upd) : fillU ts ts.length = ts := by simp [fillU]

theorem fillU_length (ts : List Upd) (k : Nat) (h : k ≤ ts.length) : (fillU ts k).length = ts.length := by simp [fillU]; omega

theorem fillU_step {ts : List Upd} {k : Nat} {t : Upd} (h : ts[k]? = some t) : (fillU ts k).set k t = fillU ts (k + 1) := by
  have hk : k < ts.length := (List.getElem?_eq_some_iff.1 h).1
  have hx : ts[k] = t := (List.getElem?_eq_some_iff.1 h).2
  unfold fillU
  obtain ⟨m, hm⟩ : ∃ m, ts.length - k = m + 1 := ⟨ts.length - k - 1, by omega⟩
  rw [List.set_append_right _ _ (by rw [List.length_take]; omega), List.length_take, Nat.min_eq_left (by omega), Nat.sub_self, hm, List.replicate_succ, List.set_cons_zero, List.take_succ_eq_append_getElem hk, hx,
    List.append_assoc, List.singleton_append, show ts.length - (k + 1) = m from by omega]

theorem info_upd : (Tryz.prog.info? 29).map (fun i => (i.zero, i.size, i.bytes)) = some (some (.agg #[.string { data := #[] }, .bool false, .slice none 0 0]), 3, 48) := by kernel_rfl

def zerU (n : Nat) : Array Value := madeCells #[.string { data := #[] }, .bool false, .slice none 0 0] (n * 3)

theorem make_upds (n : Nat) (h : n ≤ 1048576) (W : World) : (Instr.makeSlice 37 (.int .i64 (n : Int)) (.int .i64 (n : Int))).run Tryz.prog W = .ok (.slice (some ⟨W.heap.size, 0, none⟩) n n) (W.alloc (.cells (zerU n) 29)) := by
  obtain ⟨i, hi, hz0, hz1, hz2⟩ := info_parts info_upd
  have := run_make (P := Tryz.prog) W 37 29 i _ Tryz.underlying37 hi hz0 .i64 .i64 n n (by omega) (by omega) (by rw [hz2]; omega) (by omega)
  rw [Int.toNat_natCast, hz1] at this
  exact this

theorem own_upds_made (n : Nat) (hn : n ≤ 1048576) (W : World) : OwnU (W.alloc (.cells (zerU n) 29)) W.heap.size (W.alloc (.cells (zerU n) 29)).heap.size (.slice (some ⟨W.heap.size, 0, none⟩) n n) (List.replicate n nilUpd) :=
  ⟨_, OwnSl.made W n [.string { data := #[] }, .bool false, .slice none 0 0] nilUpd (zerU n) rfl (by unfold maxLen; omega) (made_flat _ _ _ n) ⟨none, 0, 0, 0, rfl, OwnI.nil _ _ _, by show 0 ≤ _; exact Nat.zero_le _, by show 0 ≤ _; exact Nat.zero_le _, fun k hk => by omega, by simp⟩, fun k hk => by subst hk; simp⟩

end

section
open Go.RowKit Go.Deep

theorem bel_al {w w1 : World} {o : Obj} (h : Below w.heap.size w w1) : Below w.heap.size w (w1.alloc o) := h.alloc h.size o

theorem bel_ald {w : World} {o : Obj} : Below w.heap.size w (w.alloc o).drew := (bel_al (Below.refl _ _)).drew

theorem bel_cell {w w1 : World} {B i : Nat} {x : Value} (h : Below w.heap.size w w1) (hB : w.heap.size ≤ B) : Below w.heap.size w (w1.setCell ⟨B, i, none⟩ x) := h.setCell hB x

theorem rdT_al {W : World} {o : Obj} {A : Option Addr} {n : Nat} {ts : List Tab} (h : RdT W W.heap.size A n ts) : RdT (W.alloc o) (W.alloc o).heap.size A n ts := rdT_next (bel_al (Below.refl _ _)) h

theorem rdR_al {W : World} {o : Obj} {A : Option Addr} {n : Nat} {rs : List (List Int)} (h : RdR W W.heap.size A n rs) : RdR (W.alloc o) (W.alloc o).heap.size A n rs := rdR_next (bel_al (Below.refl _ _)) h

/-- A box of one cell that is known, and is no longer the last. -/
structure BoxAt (c : World) (B : Nat) (x : Value) (W : World) : Prop where
  lo : c.heap.size ≤ B
  lt : B < W.heap.size
  cell : W.cell? ⟨B, 0, none⟩ = some x
  frz : W.frozen? ⟨B, 0, none⟩ = false

theorem BoxAt.next {c W w2 : World} {B : Nat} {x : Value} (b1 : Below W.heap.size W w2) (h : BoxAt c B x W) : BoxAt c B x w2 :=
  ⟨h.lo, Nat.lt_of_lt_of_le h.lt b1.size, (b1.cell (p := ⟨B, 0, none⟩) h.lt).trans h.cell, (b1.frozen (p := ⟨B, 0, none⟩) h.lt).trans h.frz⟩

theorem BoxAt.made {c U w2 : World} {x : Value} {t : TypeId} (hc : Below c.heap.size c U) (b1 : Below (U.alloc (.cells #[x] t)).heap.size (U.alloc (.cells #[x] t)) w2) : BoxAt c U.heap.size x w2 :=
  BoxAt.next b1 ⟨hc.size, by simp, by simp [go_sem], by simp [go_sem]⟩

theorem BoxAt.madeD {c w2 : World} {x : Value} {t : TypeId} (b1 : Below (c.alloc (.cells #[x] t)).drew.heap.size (c.alloc (.cells #[x] t)).drew w2) : BoxAt c c.heap.size x w2 :=
  BoxAt.next b1 ⟨Nat.le_refl _, by show c.heap.size < (c.alloc _).heap.size; simp, by simp [go_sem], by simp [go_sem]⟩

/-- A call behind the box's making, and what is then known. -/
theorem box_made {c U w2 : World} {x : Value} {t : TypeId} (hc : Below c.heap.size c U) (b1 : Below (U.alloc (.cells #[x] t)).heap.size (U.alloc (.cells #[x] t)) w2) :
    Below c.heap.size c (U.alloc (.cells #[x] t)) ∧ BoxAt c U.heap.size x w2 ∧ U.heap.size < (U.alloc (.cells #[x] t)).heap.size ∧ Below c.heap.size c w2 :=
  ⟨bel_al hc, BoxAt.made hc b1, by simp, bel_step (bel_al hc) b1⟩

theorem box_madeD {c w2 : World} {x : Value} {t : TypeId} (b1 : Below (c.alloc (.cells #[x] t)).drew.heap.size (c.alloc (.cells #[x] t)).drew w2) :
    Below c.heap.size c (c.alloc (.cells #[x] t)).drew ∧ BoxAt c c.heap.size x w2 ∧ c.heap.size < (c.alloc (.cells #[x] t)).drew.heap.size ∧ Below c.heap.size c w2 :=
  ⟨bel_ald, BoxAt.madeD b1, by show c.heap.size < (c.alloc _).heap.size; simp, bel_step bel_ald b1⟩

theorem box_kept {c W w2 : World} {B : Nat} {x : Value} (hc : Below c.heap.size c W) (h : BoxAt c B x W) (b1 : Below W.heap.size W w2) :
    Below c.heap.size c W ∧ BoxAt c B x w2 ∧ B < W.heap.size ∧ Below c.heap.size c w2 := ⟨hc, h.next b1, h.lt, bel_step hc b1⟩

theorem box_none {c W w2 : World} (hc : Below c.heap.size c W) (b1 : Below W.heap.size W w2) : Below c.heap.size c W ∧ Below c.heap.size c w2 := ⟨hc, bel_step hc b1⟩

/-- Behind the world c: p is a new box that holds the database ts, q is the bool. -/
def CutD (w : World) (L : List (Nat × Nat × Value)) (c : World) (ts : List Tab) (ok : Bool) (p q : Value) (wx : World) : Prop :=
  ∃ (A : Option Addr) (cc B hi : Nat), p = .pointer (some ⟨B, 0, none⟩) ∧ q = .bool ok ∧ Kn w (L ++ [(B, 0, .slice A ts.length cc)]) wx ∧ OwnD wx c.heap.size hi (.slice A ts.length cc) ts ∧ hi ≤ wx.heap.size ∧ B < wx.heap.size ∧ Below c.heap.size c wx

theorem CutD.of {w c w1 wo : World} {L : List (Nat × Nat × Value)} {ts : List Tab} {ok : Bool} {A : Option Addr} {cc : Nat} (kn : Kn w L c) (bo : Below c.heap.size c wo) (b1 : Below wo.heap.size wo w1) (ow : OwnD w1 wo.heap.size w1.heap.size (.slice A ts.length cc) ts) :
    CutD w L c ts ok (.pointer (some ⟨w1.heap.size, 0, none⟩)) (.bool ok) (w1.alloc (.cells #[.slice A ts.length cc] 26)) := by
  have bz := bo.trans (b1.mono bo.size)
  exact ⟨A, cc, w1.heap.size, w1.heap.size, rfl, rfl, (kn.next bz).box1 _ _, (ow.below ((Below.refl _ _).alloc (Nat.le_refl _) _) (Nat.le_refl _)).down bo.size, by simp, by simp, bel_al bz⟩

theorem CutD.of2 {w c w1 wo : World} {L : List (Nat × Nat × Value)} {ts : List Tab} {ok : Bool} {A : Option Addr} {cc B : Nat} {x : Value} (kn : Kn w L c) (bo : Below c.heap.size c wo) (b1 : Below wo.heap.size wo w1) (hB : BoxAt c B x w1) (hBo : B < wo.heap.size) (ow : OwnD w1 wo.heap.size w1.heap.size (.slice A ts.length cc) ts) :
    CutD w L c ts ok (.pointer (some ⟨B, 0, none⟩)) (.bool ok) (w1.setCell ⟨B, 0, none⟩ (.slice A ts.length cc)) := by
  have bz := bo.trans (b1.mono bo.size)
  have hs : (w1.setCell ⟨B, 0, none⟩ (.slice A ts.length cc)).heap.size = w1.heap.size := by simp [World.setCell]
  have bs : Below c.heap.size c (w1.setCell ⟨B, 0, none⟩ (.slice A ts.length cc)) := bel_cell bz hB.lo
  have kn1 := kn.next bs
  refine ⟨A, cc, B, w1.heap.size, rfl, rfl, ⟨kn1.bel, fun t ht => ?_, fun t ht => ?_⟩, (ow.setOff (.inl hBo)).down bo.size, by rw [hs]; exact Nat.le_refl _, by rw [hs]; exact hB.lt, bs⟩
  · rcases List.mem_append.1 ht with ht | ht
    · exact kn1.cell t ht
    · obtain rfl := List.mem_singleton.1 ht
      exact ⟨by rw [hs]; exact hB.lt, cell_set_same hB.cell⟩
  · rcases List.mem_append.1 ht with ht | ht
    · exact kn1.frz t ht
    · obtain rfl := List.mem_singleton.1 ht
      show (w1.setCell _ _).frozen? _ = false
      rw [frozen_set]
      exact hB.frz

end

section
open Go.RowKit Go.Deep Go.ChangeShapes Go.WideShapes Go.Joins

section

variable {H : Type} {enc : TypeId × Value → H} {P : Program} {w : World} {base : Nat} {spare : Nat → Bool} {held : Bool}

theorem array1 {α : Type} {cs : Array α} (h : cs.size = 1) : ∃ c0, cs = #[c0] := by
  obtain ⟨l⟩ := cs
  match l, h with
  | [c0], _ => exact ⟨c0, rfl⟩

/-- A struct of one one-cell field, by value, opened. -/
theorem open_agg1 {r : Reach} {b0 : Nat} {t : TypeId} {f0 : Field} {v : Value} {d : DataW H} {p : List MemPlace} (hs : P.underlying t = some (.struct #[f0])) (hone : oneCellFields P #[f0] = true) (hC : P.cellsOf t = 1)
    (hv : Value.okWide P w r b0 t v) (h : DataW.Trod enc P w base spare held t v d p) :
    ∃ (v0 : Value) (y0 : DataW H × List MemPlace) (n : Nat), v = .agg #[v0] ∧ d = .agg [y0.1] ∧ p = y0.2 ∧ DataW.trod enc P w base spare held n f0.type [v0] = some y0 := by
  obtain ⟨cs, rfl, hsz⟩ := okWide_struct hs hv
  obtain ⟨c0, rfl⟩ := array1 (hsz.trans hC)
  obtain ⟨fuel, hf⟩ := h
  obtain ⟨xs, n, _, hx, _, hlen, hff⟩ := DataW.trod_struct hs hf
  obtain ⟨o0, k0⟩ := hone_of hone 0 f0 rfl
  match xs, hlen with
  | [y0], _ =>
    simp only [Prod.mk.injEq] at hx
    exact ⟨c0, y0, n, rfl, by simpa using hx.1, by simpa using hx.2, by simpa [Value.cells, o0, k0] using hff 0 f0 rfl⟩

/-- Three cells of a struct of three one-cell fields. -/
theorem trod_three {t : TypeId} {f0 f1 f2 : Field} {fuel : Nat} {c0 c1 c2 : Value} {x : DataW H × List MemPlace} (hs : P.underlying t = some (.struct #[f0, f1, f2])) (hone : oneCellFields P #[f0, f1, f2] = true)
    (h : DataW.trod enc P w base spare held fuel t [c0, c1, c2] = some x) :
    ∃ (y0 y1 y2 : DataW H × List MemPlace) (n : Nat), DataW.trod enc P w base spare held n f0.type [c0] = some y0 ∧ DataW.trod enc P w base spare held n f1.type [c1] = some y1 ∧ DataW.trod enc P w base spare held n f2.type [c2] = some y2 := by
  obtain ⟨y0, y1, y2, n, _, _, h0, h1, h2⟩ := trod_struct3 hs h
  obtain ⟨o0, k0⟩ := hone_of hone 0 f0 rfl
  obtain ⟨o1, k1⟩ := hone_of hone 1 f1 rfl
  obtain ⟨o2, k2⟩ := hone_of hone 2 f2 rfl
  exact ⟨y0, y1, y2, n, by simpa [o0, k0] using h0, by simpa [o1, k1] using h1, by simpa [o2, k2] using h2⟩

end

section

variable {H : Type} {enc : TypeId × Value → H} {W : World}

end

end

section
open Go.RowKit Go.Deep
open Go.RowKit Go.Deep
open Go.ChangeShapes Go.WideShapes Go.Joins

theorem Kn.set1 {w W : World} {L : List (Nat × Nat × Value)} {B : Nat} {x : Value} (h : Kn w (L ++ [(B, 0, x)]) W) (hB : w.heap.size ≤ B) (hL : ∀ t ∈ L, t.1 < B) (x' : Value) :
    Kn w (L ++ [(B, 0, x')]) (W.setCell ⟨B, 0, none⟩ x') := by
  have b3 : Below B W (W.setCell ⟨B, 0, none⟩ x') := (Below.refl B W).setCell (Nat.le_refl _) _
  have e0 := (h.cell (B, 0, x) (by simp)).2
  have f0 := h.frz (B, 0, x) (by simp)
  have hlt := (h.cell (B, 0, x) (by simp)).1
  simp only at e0 f0 hlt
  refine ⟨h.bel.trans (b3.mono hB), fun t ht => ?_, fun t ht => ?_⟩
  · rcases List.mem_append.1 ht with ht | ht
    · exact ⟨Nat.lt_of_lt_of_le (h.cell t (by simp [ht])).1 b3.size, (b3.cell (p := ⟨t.1, t.2.1, none⟩) (hL t ht)).trans (h.cell t (by simp [ht])).2⟩
    · simp only [List.mem_cons, List.not_mem_nil, or_false] at ht
      subst ht
      exact ⟨Nat.lt_of_lt_of_le hlt b3.size, by simp [go_sem, e0]⟩
  · rcases List.mem_append.1 ht with ht | ht
    · exact (b3.frozen (p := ⟨t.1, t.2.1, none⟩) (hL t ht)).trans (h.frz t (by simp [ht]))
    · simp only [List.mem_cons, List.not_mem_nil, or_false] at ht
      subst ht
      simp [go_sem, f0]

/-- The updates from number k on, applied up to the first impossible one. -/
def appsF : List Tab → Nat → List Upd → List Tab × Int
  | ts, k, [] => (ts, (k : Int))
  | ts, k, u :: us => if (appR ts u.nm u.ins u.zs).2 = true then appsF (appR ts u.nm u.ins u.zs).1 (k + 1) us else (ts, (k : Int))

def appsR (ts : List Tab) (us : List Upd) : List Tab × Int := appsF ts 0 us

theorem appsF_step {us : List Upd} {k : Nat} {u : Upd} {cur Q : List Tab} (h : us[k]? = some u) (ha : appR cur u.nm u.ins u.zs = (Q, true)) : appsF cur k (us.drop k) = appsF Q (k + 1) (us.drop (k + 1)) := by
  obtain ⟨hk, rfl⟩ := List.getElem?_eq_some_iff.1 h
  rw [List.drop_eq_getElem_cons hk, appsF, ha, if_pos rfl]

theorem appsF_stop {us : List Upd} {k : Nat} {u : Upd} {cur Q : List Tab} (h : us[k]? = some u) (ha : appR cur u.nm u.ins u.zs = (Q, false)) : appsF cur k (us.drop k) = (cur, (k : Int)) := by
  obtain ⟨hk, rfl⟩ := List.getElem?_eq_some_iff.1 h
  rw [List.drop_eq_getElem_cons hk, appsF, ha, if_neg (by simp)]

theorem appsF_end {us : List Upd} {k : Nat} (cur : List Tab) (h : us.length ≤ k) : appsF cur k (us.drop k) = (cur, (k : Int)) := by
  rw [List.drop_eq_nil_of_le h, appsF]

theorem appsF_small : ∀ (us : List Upd) (ts : List Tab) (k : Nat), ts.length ≤ 1048576 → sumT ts ≤ 1048576 → (appsF ts k us).1.length ≤ 1048576 ∧ sumT (appsF ts k us).1 ≤ 1048576
  | [], ts, k, h1, h2 => ⟨h1, h2⟩
  | u :: us, ts, k, h1, h2 => by
    rw [appsF]
    split
    · have := appR_small (nm := u.nm) (ins := u.ins) (r := u.zs) h1 h2
      exact appsF_small us _ (k + 1) this.1 this.2
    · exact ⟨h1, h2⟩

theorem appsR_small {ts : List Tab} {us : List Upd} (h1 : ts.length ≤ 1048576) (h2 : sumT ts ≤ 1048576) : (appsR ts us).1.length ≤ 1048576 ∧ sumT (appsR ts us).1 ≤ 1048576 := appsF_small us ts 0 h1 h2

/-- A new database and an int. -/
def DbInt (R : List Tab × Int) (w : World) (e : Ending) (w' : World) : Prop :=
  ∃ (A : Option Addr) (c : Nat), e = .returned (.tuple #[.agg #[.slice A R.1.length c], .int .i64 R.2]) ∧ OwnD w' w.heap.size w'.heap.size (.slice A R.1.length c) R.1 ∧ Below w.heap.size w w'

theorem DbInt.of {R : List Tab × Int} {ts : List Tab} {b : Int} {w w' : World} {A : Option Addr} {n c : Nat} (hR : R = (ts, b)) (h : OwnD w' w.heap.size w'.heap.size (.slice A n c) ts) (hb : Below w.heap.size w w') :
    DbInt R w (.returned (.tuple #[.agg #[.slice A n c], .int .i64 b])) w' := by
  subst hR
  have hn := h.len_eq
  subst hn
  exact ⟨A, c, rfl, h, hb⟩

def DbAnsI (ts : List Tab) (k : Int) (w : World) (e : Ending) (w' : World) : Prop :=
  ∃ (A : Option Addr) (c : Nat), e = .returned (.tuple #[.agg #[.slice A ts.length c], .int .i64 k]) ∧ OwnD w' w.heap.size w'.heap.size (.slice A ts.length c) ts ∧ Below w.heap.size w w'

set_option maxRecDepth 100000 in
set_option maxHeartbeats 2000000 in
theorem impl_ApplyUpdates_any (A : Option Addr) (n c B : Nat) (ts : List Tab) (A' : Option Addr) (n' c' : Nat) (us : List Upd) (w : World) (hr : RdT w B A n ts) (hB : B ≤ w.heap.size) (hn : n ≤ 1048576) (hs : sumT ts ≤ 1048576) (hr' : RdU w B A' n' us) (hn' : n' ≤ 1048576) (hus : sumU us ≤ 1048576) :
    Calls Tryz.prog 12 #[.agg #[.slice A n c], .slice A' n' c'] w (DbInt (appsR ts us) w) := by
  have HL := Lib.hid hr.1
  have HL' := Lib.hid hr'.1
  have hus' := Lib.hid hus
  have hs' := Lib.hid hs
  clear hus hs
  go_enter Tryz.func12, Tryz.ntmps12
  go_wp2_with fail
  have kn0 : Kn w [(w.heap.size, 0, .slice A n c), (w.heap.size + 1, 0, .slice none 0 0)] ((w.alloc (.cells #[.slice A n c] 26)).alloc (.cells #[.slice none 0 0] 26)) := by
    simpa using ((Kn.start w).box1 (.slice A n c) 26).box1 (.slice none 0 0) 26
  have s0 : w.heap.size + 2 ≤ ((w.alloc (.cells #[.slice A n c] 26)).alloc (.cells #[.slice none 0 0] 26)).heap.size := by simp
  generalize (w.alloc (.cells #[.slice A n c] 26)).alloc (.cells #[.slice none 0 0] 26) = w0 at kn0 s0 ⊢
  refine (copyDatabase_any A n c B ts w0 (RdT.belowB hr kn0.bel hB) (Nat.le_trans hB kn0.bel.size) (by omega) (by have := hs'.out; omega)).mono ?_
  rintro e w1 ⟨A1, c1, rfl, ho, hb⟩
  have s1 := hb.size
  have kn1 := kn0.next hb
  obtain ⟨d0, d1, _⟩ := kn1.all
  have ne0 : w.heap.size < w1.heap.size := by omega
  have ne1 : w.heap.size + 1 < w1.heap.size := by omega
  go_wp2_with fail
  have kn2 : Kn w ([(w.heap.size, 0, .slice A n c), (w.heap.size + 1, 0, .slice none 0 0)] ++ [(w1.heap.size, 0, .slice A1 ts.length c1)]) (w1.alloc (.cells #[.slice A1 ts.length c1] 26)) := kn1.box1 (.slice A1 ts.length c1) 26
  have HO2 : Hid (OwnD (w1.alloc (.cells #[.slice A1 ts.length c1] 26)) w0.heap.size w1.heap.size (.slice A1 ts.length c1) ts) := OwnD.alloc ho _
  have s2 : w1.heap.size + 1 ≤ (w1.alloc (.cells #[.slice A1 ts.length c1] 26)).heap.size := by simp
  generalize w1.alloc (.cells #[.slice A1 ts.length c1] 26) = w2 at kn2 HO2 s2 ⊢
  clear ho hb kn0 kn1 d0 d1
  go_loopw [7, 8, 9, 10, 15] (fun _ _ _ _ i wr => ∃ (k : Nat) (cur : List Tab) (Ac : Option Addr) (cc lo hi : Nat), k ≤ n' ∧ i = .int .i64 k ∧ Hid (Kn w ([(w.heap.size, 0, .slice A n c), (w.heap.size + 1, 0, .slice none 0 0)] ++ [(w1.heap.size, 0, .slice Ac cur.length cc)]) wr) ∧ Hid (OwnD wr lo hi (.slice Ac cur.length cc) cur) ∧ w.heap.size + 2 ≤ lo ∧ hi ≤ wr.heap.size ∧ (hi ≤ w1.heap.size ∨ w1.heap.size < lo) ∧ Hid (appsF cur k (us.drop k) = appsR ts us) ∧ cur.length ≤ 1048576 ∧ Hid (sumT cur ≤ 1048576) ∧ w1.heap.size + 1 ≤ wr.heap.size) (fun _ _ _ _ i _ => n' - (intOf i).toNat)
  case atStart => exact ⟨0, ts, A1, c1, w0.heap.size, w1.heap.size, by omega, rfl, kn2, HO2.out, by omega, by omega, .inl (Nat.le_refl _), by show _ = _; rfl, by rw [HL.out]; exact hn, hs'.out, s2⟩
  case round =>
    obtain ⟨k, cur, Ac, cc, lo, hi, hk, rfl, hkn, hown, hlo, hhi, hoff, hap, hcl, hcs, hw1⟩ := hrel
    have HCL := Lib.hid hcl
    obtain ⟨e0, e1, e2, _⟩ := hkn.out.all
    obtain ⟨f0, f1, f2, _⟩ := hkn.out.fall
    have ner0 : w.heap.size < wr.heap.size := by omega
    have ner1 : w.heap.size + 1 < wr.heap.size := by omega
    have ner2 : w1.heap.size < wr.heap.size := by omega
    by_cases hlt : k < n'
    · obtain ⟨b, o, u, Au, cu, rfl, hb', hx, hc0, hc1, hc2, hrd, hm, hnm⟩ := RdU.at_ hr' hlt
      have x0 := (hkn.out.bel.cell (p := ⟨b, o + k * 3, none⟩) (by show b < _; omega)).trans hc0
      have x1 := (hkn.out.bel.cell (p := ⟨b, o + k * 3 + 1, none⟩) (by show b < _; omega)).trans hc1
      have x2 := (hkn.out.bel.cell (p := ⟨b, o + k * 3 + 2, none⟩) (by show b < _; omega)).trans hc2
      have neb : b < wr.heap.size := by omega
      have hul := sumU_mem (List.mem_of_getElem? hx)
      have hul' : Hid (u.zs.length ≤ 1048576) := by show _ ≤ _; have := hus'.out; omega
      have HX := Lib.hid hx
      have HRD := Lib.hid hrd
      have HNM := Lib.hid hnm
      obtain ⟨Q, okq, hQ⟩ : ∃ a b, appR cur u.nm u.ins u.zs = (a, b) := ⟨_, _, rfl⟩
      have HQ := Lib.hid hQ
      have hqs := appR_small (nm := u.nm) (ins := u.ins) (r := u.zs) hcl hcs.out
      rw [hQ] at hqs
      have HQS := Lib.hid hqs
      clear hx hc0 hc1 hc2 hrd hm hnm hul hQ hqs hcl
      obtain ⟨xn, xi, xz⟩ := u
      go_wp2_with fail
      have knw := hkn.out.box3 (.string xn) (.bool xi) (.slice Au xz.length cu) 29
      have HOW : Hid (OwnD (wr.alloc (.cells #[.string xn, .bool xi, .slice Au xz.length cu] 29)) lo hi (.slice Ac cur.length cc) cur) := OwnD.alloc hown.out _
      have s4 : wr.heap.size + 1 ≤ (wr.alloc (.cells #[.string xn, .bool xi, .slice Au xz.length cu] 29)).heap.size := by simp
      generalize wr.alloc (.cells #[.string xn, .bool xi, .slice Au xz.length cu] 29) = w4 at knw HOW s4 ⊢
      refine (impl_ApplyUpdate_any Ac cur.length cc w4.heap.size cur xn xi Au xz.length cu xz w4 ((HOW.out.rd rfl).more (by omega)) (Nat.le_refl _) HCL.out hcs.out ((RdI.belowB HRD.out knw.bel hB).more (Nat.le_trans hB knw.bel.size)) hul'.out HNM.out).mono ?_
      rintro e w5 ⟨A5, c5, rfl, ho5, hb5⟩
      have s5 := hb5.size
      have kn5 : Hid (Kn w ([(w.heap.size, 0, .slice A n c), (w.heap.size + 1, 0, .slice none 0 0)] ++ [(w1.heap.size, 0, .slice Ac cur.length cc)]) w5) := (knw.next hb5).sub fun t ht => List.mem_append.2 (.inl ht)
      have HOC := Lib.hid (HOW.out.below hb5 (by omega))
      have hq5 : appR cur xn xi xz = (Q, okq) := HQ.out
      rw [hq5] at ho5 ⊢
      have HO5 : Hid (OwnD w5 w4.heap.size w5.heap.size (.slice A5 Q.length c5) Q) := ho5
      clear ho5 hb5 knw HOW hkn hown e0 e1 e2 f0 f1 f2 x0 x1 x2 hq5 ner0 ner1 ner2 neb
      obtain ⟨e0, e1, e2, _⟩ := kn5.out.all
      obtain ⟨f0, f1, f2, _⟩ := kn5.out.fall
      have ner0 : w.heap.size < w5.heap.size := by omega
      have ner1 : w.heap.size + 1 < w5.heap.size := by omega
      have ner2 : w1.heap.size < w5.heap.size := by omega
      cases okq
      case false =>
        have hf := Lib.hid (hap.out.symm.trans (appsF_stop HX.out HQ.out))
        go_wp2_with fail
        refine bodyPost_ret (v := .tuple #[.agg #[.slice Ac cur.length cc], .int .i64 k]) (by simp [results, Tryz.results12, go_sem, *]) rfl (DbInt.of hf.out ?_ ?_)
        · refine OwnD.down (lo := lo) (OwnD.wide (hi := hi) ?_ (by simp; omega)) (by omega)
          repeat (with_reducible first | exact HOC.out | refine OwnD.alloc ?_ _ | refine OwnD.setOff ?_ (.inl (by omega)))
        · repeat first | exact kn5.out.bel | (refine Below.setCell ?_ ?_ _; rotate_left; (simp; try omega)) | (refine Below.alloc ?_ ?_ _; rotate_left; (simp; try omega))
      case true =>
        have hst := Lib.hid ((appsF_step HX.out HQ.out).symm.trans hap.out)
        go_wp2_with fail
        have kn6 : Hid (Kn w ([(w.heap.size, 0, .slice A n c), (w.heap.size + 1, 0, .slice none 0 0)] ++ [(w1.heap.size, 0, .slice A5 Q.length c5)]) ((w5.setCell ⟨w1.heap.size, 0, none⟩ (.slice A5 Q.length c5)).alloc (.cells #[.slice A5 Q.length c5] 26))) :=
          (Kn.set1 kn5.out (by omega) (by simp only [List.forall_mem_cons]; simp; omega) _).next ((Below.refl _ _).alloc (Nat.le_refl _) _)
        refine ⟨⟨k + 1, Q, A5, c5, w4.heap.size, w5.heap.size, by omega, by go_num, kn6, ?_, by omega, by simp, .inr (by omega), hst, HQS.out.1, HQS.out.2, by simp; omega⟩, ?_⟩
        · exact OwnD.alloc (OwnD.setOff HO5.out (.inl (by omega))) _
        · simp [intOf]
          omega
    · obtain rfl : k = n' := by omega
      have hf := Lib.hid (hap.out.symm.trans (appsF_end cur (Nat.le_of_eq HL'.out)))
      go_wp2_with fail
      refine bodyPost_ret (v := .tuple #[.agg #[.slice Ac cur.length cc], .int .i64 k]) (by simp [results, Tryz.results12, go_sem, *]) rfl (DbInt.of hf.out ?_ ?_)
      · refine OwnD.down (lo := lo) (OwnD.wide (hi := hi) ?_ (by simp; omega)) (by omega)
        repeat (with_reducible first | exact hown.out | refine OwnD.setOff ?_ (.inl (by omega)))
      · repeat first | exact hkn.out.bel | (refine Below.setCell ?_ ?_ _; rotate_left; (simp; try omega))

section

variable {H : Type} {enc : TypeId × Value → H} {W : World}

end

set_option maxRecDepth 100000 in
set_option maxHeartbeats 2000000 in
theorem spec_ApplyUpdates_any (A : Option Addr) (n c B : Nat) (ts : List Tab) (A' : Option Addr) (n' c' : Nat) (us : List Upd) (w : World) (hr : RdT w B A n ts) (hB : B ≤ w.heap.size) (hn : n ≤ 1048576) (hs : sumT ts ≤ 1048576) (hr' : RdU w B A' n' us) (hn' : n' ≤ 1048576) (hus : sumU us ≤ 1048576) :
    Calls Tryz.prog 13 #[.agg #[.slice A n c], .slice A' n' c'] w (DbInt (appsR ts us) w) := by
  have HL := Lib.hid hr.1
  have HL' := Lib.hid hr'.1
  have hus' := Lib.hid hus
  have hs' := Lib.hid hs
  clear hus hs
  go_enter Tryz.func13, Tryz.ntmps13
  go_wp2_with fail
  have kn0 : Kn w [(w.heap.size, 0, .slice A n c), (w.heap.size + 1, 0, .slice none 0 0)] ((w.alloc (.cells #[.slice A n c] 26)).alloc (.cells #[.slice none 0 0] 26)) := by
    simpa using ((Kn.start w).box1 (.slice A n c) 26).box1 (.slice none 0 0) 26
  have s0 : w.heap.size + 2 ≤ ((w.alloc (.cells #[.slice A n c] 26)).alloc (.cells #[.slice none 0 0] 26)).heap.size := by simp
  generalize (w.alloc (.cells #[.slice A n c] 26)).alloc (.cells #[.slice none 0 0] 26) = w0 at kn0 s0 ⊢
  refine (l5Copy_any A n c B ts w0 (RdT.belowB hr kn0.bel hB) (Nat.le_trans hB kn0.bel.size) (by omega) (by have := hs'.out; omega)).mono ?_
  rintro e w1 ⟨A1, c1, rfl, ho, hb⟩
  have s1 := hb.size
  have kn1 := kn0.next hb
  obtain ⟨d0, d1, _⟩ := kn1.all
  have ne0 : w.heap.size < w1.heap.size := by omega
  have ne1 : w.heap.size + 1 < w1.heap.size := by omega
  go_wp2_with fail
  have kn2 : Kn w ([(w.heap.size, 0, .slice A n c), (w.heap.size + 1, 0, .slice none 0 0)] ++ [(w1.heap.size, 0, .slice A1 ts.length c1)]) (w1.alloc (.cells #[.slice A1 ts.length c1] 26)) := kn1.box1 (.slice A1 ts.length c1) 26
  have HO2 : Hid (OwnD (w1.alloc (.cells #[.slice A1 ts.length c1] 26)) w0.heap.size w1.heap.size (.slice A1 ts.length c1) ts) := OwnD.alloc ho _
  have s2 : w1.heap.size + 1 ≤ (w1.alloc (.cells #[.slice A1 ts.length c1] 26)).heap.size := by simp
  generalize w1.alloc (.cells #[.slice A1 ts.length c1] 26) = w2 at kn2 HO2 s2 ⊢
  clear ho hb kn0 kn1 d0 d1
  go_loopw [7, 8, 9] (fun i _ _ wr => ∃ (k : Nat) (cur : List Tab) (Ac : Option Addr) (cc lo hi : Nat), k ≤ n' ∧ i = .int .i64 k ∧ Hid (Kn w ([(w.heap.size, 0, .slice A n c), (w.heap.size + 1, 0, .slice none 0 0)] ++ [(w1.heap.size, 0, .slice Ac cur.length cc)]) wr) ∧ Hid (OwnD wr lo hi (.slice Ac cur.length cc) cur) ∧ w.heap.size + 2 ≤ lo ∧ hi ≤ wr.heap.size ∧ (hi ≤ w1.heap.size ∨ w1.heap.size < lo) ∧ Hid (appsF cur k (us.drop k) = appsR ts us) ∧ cur.length ≤ 1048576 ∧ Hid (sumT cur ≤ 1048576) ∧ w1.heap.size + 1 ≤ wr.heap.size) (fun i _ _ _ => n' - (intOf i).toNat)
  case atStart => exact ⟨0, ts, A1, c1, w0.heap.size, w1.heap.size, by omega, rfl, kn2, HO2.out, by omega, by omega, .inl (Nat.le_refl _), by show _ = _; rfl, by rw [HL.out]; exact hn, hs'.out, s2⟩
  case round =>
    obtain ⟨k, cur, Ac, cc, lo, hi, hk, rfl, hkn, hown, hlo, hhi, hoff, hap, hcl, hcs, hw1⟩ := hrel
    have HCL := Lib.hid hcl
    obtain ⟨e0, e1, e2, _⟩ := hkn.out.all
    obtain ⟨f0, f1, f2, _⟩ := hkn.out.fall
    have ner0 : w.heap.size < wr.heap.size := by omega
    have ner1 : w.heap.size + 1 < wr.heap.size := by omega
    have ner2 : w1.heap.size < wr.heap.size := by omega
    by_cases hlt : k < n'
    · obtain ⟨b, o, u, Au, cu, rfl, hb', hx, hc0, hc1, hc2, hrd, hm, hnm⟩ := RdU.at_ hr' hlt
      have x0 := (hkn.out.bel.cell (p := ⟨b, o + k * 3, none⟩) (by show b < _; omega)).trans hc0
      have x1 := (hkn.out.bel.cell (p := ⟨b, o + k * 3 + 1, none⟩) (by show b < _; omega)).trans hc1
      have x2 := (hkn.out.bel.cell (p := ⟨b, o + k * 3 + 2, none⟩) (by show b < _; omega)).trans hc2
      have neb : b < wr.heap.size := by omega
      have hul := sumU_mem (List.mem_of_getElem? hx)
      have hul' : Hid (u.zs.length ≤ 1048576) := by show _ ≤ _; have := hus'.out; omega
      have HX := Lib.hid hx
      have HRD := Lib.hid hrd
      have HNM := Lib.hid hnm
      obtain ⟨Q, okq, hQ⟩ : ∃ a b, appR cur u.nm u.ins u.zs = (a, b) := ⟨_, _, rfl⟩
      have HQ := Lib.hid hQ
      have hqs := appR_small (nm := u.nm) (ins := u.ins) (r := u.zs) hcl hcs.out
      rw [hQ] at hqs
      have HQS := Lib.hid hqs
      clear hx hc0 hc1 hc2 hrd hm hnm hul hQ hqs hcl
      obtain ⟨xn, xi, xz⟩ := u
      have g1 : (0 : Int) ≤ (k : Int) := by omega
      have g2 : (k : Int) < (n' : Int) := by omega
      have g3 : (k : Int).toNat = k := by omega
      have KS : Hid (∀ W, Below wr.heap.size wr W → Calls Tryz.prog 7 #[.agg #[.slice Ac cur.length cc], .agg #[.string xn, .bool xi, .slice Au xz.length cu]] W (DbAns Q okq W)) := fun W bw => by
        have := spec_ApplyUpdate_any Ac cur.length cc W.heap.size cur xn xi Au xz.length cu xz W ((RdT.belowB (hown.out.rd rfl) bw hhi).more (Nat.le_trans hhi bw.size)) (Nat.le_refl _) HCL.out hcs.out ((RdI.belowB HRD.out (hkn.out.bel.trans (bw.mono hkn.out.bel.size)) hB).more (Nat.le_trans hB (Nat.le_trans hkn.out.bel.size bw.size))) hul'.out HNM.out
        rw [(HQ.out : appR cur xn xi xz = (Q, okq))] at this
        exact this
      have KB : Hid (∀ W, Below wr.heap.size wr W → W.cell? ⟨w.heap.size, 0, none⟩ = some (.slice A n c) ∧ W.cell? ⟨w.heap.size + 1, 0, none⟩ = some (.slice none 0 0) ∧ W.cell? ⟨w1.heap.size, 0, none⟩ = some (.slice Ac cur.length cc) ∧ W.cell? ⟨b, o + k * 3, none⟩ = some (.string xn) ∧ W.cell? ⟨b, o + k * 3 + 1, none⟩ = some (.bool xi) ∧ W.cell? ⟨b, o + k * 3 + 2, none⟩ = some (.slice Au xz.length cu) ∧ Below wr.heap.size wr W) := fun W bw =>
        ⟨(bw.cell (p := ⟨w.heap.size, 0, none⟩) ner0).trans e0, (bw.cell (p := ⟨w.heap.size + 1, 0, none⟩) ner1).trans e1, (bw.cell (p := ⟨w1.heap.size, 0, none⟩) ner2).trans e2, (bw.cell (p := ⟨b, o + k * 3, none⟩) neb).trans x0, (bw.cell (p := ⟨b, o + k * 3 + 1, none⟩) neb).trans x1, (bw.cell (p := ⟨b, o + k * 3 + 2, none⟩) neb).trans x2, bw⟩
      have hkn0 : Kn w ([(w.heap.size, 0, .slice A n c), (w.heap.size + 1, 0, .slice none 0 0)] ++ [(w1.heap.size, 0, .slice Ac cur.length cc)]) wr := hkn.out
      go_upto_region 5 with fail
      go_cut [8, 9] from 12 to 31 (fun p q wx => CutD w ([(w.heap.size, 0, .slice A n c), (w.heap.size + 1, 0, .slice none 0 0)] ++ [(w1.heap.size, 0, .slice Ac cur.length cc)]) wr Q okq p q wx)
      case first =>
        have bz : Below wr.heap.size wr wr.drew := (Below.refl _ _).drew
        go_region_held3 (fun W => W.cell? ⟨w.heap.size, 0, none⟩ = some (.slice A n c) ∧ W.cell? ⟨w.heap.size + 1, 0, none⟩ = some (.slice none 0 0) ∧ W.cell? ⟨w1.heap.size, 0, none⟩ = some (.slice Ac cur.length cc) ∧ W.cell? ⟨b, o + k * 3, none⟩ = some (.string xn) ∧ W.cell? ⟨b, o + k * 3 + 1, none⟩ = some (.bool xi) ∧ W.cell? ⟨b, o + k * 3 + 2, none⟩ = some (.slice Au xz.length cu) ∧ Below wr.heap.size wr W)
          (first | assumption | exact KB.out _ (by assumption) | exact KB.out _ bel_ald | exact KB.out _ (bel_al bz) | exact KB.out _ (bel_cell bz hB.lo))
          (first
            | (go_at_call 7; ((with_reducible refine (KS.out _ bz).mono ?_); rintro e w5 ⟨A5, c5, rfl, ow, b1⟩; obtain ⟨bo, bz⟩ := box_none bz b1))
            | (go_at_call 7; ((with_reducible refine (KS.out _ bel_ald).mono ?_); rintro e w5 ⟨A5, c5, rfl, ow, b1⟩; obtain ⟨bo, hB, hBo, bz⟩ := box_madeD b1; have cB := hB.cell; have fB := hB.frz)))
        all_goals (go_wp2_with fail)
        all_goals (go_meet; first | exact CutD.of hkn0 bo b1 ow | exact CutD.of2 hkn0 bo b1 hB hBo ow)
      case rest =>
      generalize wc = w5 at hcut ⊢
      obtain ⟨A5, c5, B5, hi5, rfl, rfl, kx, ow, hi5B, B5lt, b5⟩ := hcut
      have s5 := b5.size
      have kn5 : Hid (Kn w ([(w.heap.size, 0, .slice A n c), (w.heap.size + 1, 0, .slice none 0 0)] ++ [(w1.heap.size, 0, .slice Ac cur.length cc)]) w5) := kx.sub fun t ht => List.mem_append.2 (.inl ht)
      have HOC := Lib.hid (hown.out.below b5 hhi)
      have HO5 : Hid (OwnD w5 wr.heap.size hi5 (.slice A5 Q.length c5) Q) := ow
      have eB := (kx.cell (B5, 0, .slice A5 Q.length c5) (by simp)).2
      simp only at eB
      clear kx ow b5 KS KB hkn0 hkn hown e0 e1 e2 f0 f1 f2 x0 x1 x2 ner0 ner1 ner2 neb g1 g2 g3
      obtain ⟨e0, e1, e2, _⟩ := kn5.out.all
      obtain ⟨f0, f1, f2, _⟩ := kn5.out.fall
      cases okq
      case false =>
        have hf := Lib.hid (hap.out.symm.trans (appsF_stop HX.out HQ.out))
        go_wp2_with fail
        refine bodyPost_ret (v := .tuple #[.agg #[.slice Ac cur.length cc], .int .i64 k]) (by simp [results, Tryz.results13, go_sem, *]) rfl (DbInt.of hf.out ?_ ?_)
        · refine OwnD.down (lo := lo) (OwnD.wide (hi := hi) ?_ (by simp; omega)) (by omega)
          repeat (with_reducible first | exact HOC.out | refine OwnD.alloc ?_ _ | refine OwnD.setOff ?_ (.inl (by omega)))
        · repeat first | exact kn5.out.bel | (refine Below.setCell ?_ ?_ _; rotate_left; (simp; try omega)) | (refine Below.alloc ?_ ?_ _; rotate_left; (simp; try omega))
      case true =>
        have hst := Lib.hid ((appsF_step HX.out HQ.out).symm.trans hap.out)
        go_wp2_with fail
        have kn6 : Hid (Kn w ([(w.heap.size, 0, .slice A n c), (w.heap.size + 1, 0, .slice none 0 0)] ++ [(w1.heap.size, 0, .slice A5 Q.length c5)]) (w5.setCell ⟨w1.heap.size, 0, none⟩ (.slice A5 Q.length c5))) :=
          Kn.set1 kn5.out (by omega) (by simp only [List.forall_mem_cons]; simp; omega) _
        refine ⟨⟨k + 1, Q, A5, c5, wr.heap.size, hi5, by omega, by go_num, kn6, ?_, by omega, by simp; omega, .inr (by omega), hst, HQS.out.1, HQS.out.2, by simp; omega⟩, ?_⟩
        · exact OwnD.setOff HO5.out (.inl (by omega))
        · simp [intOf]
          omega
    · obtain rfl : k = n' := by omega
      have hf := Lib.hid (hap.out.symm.trans (appsF_end cur (Nat.le_of_eq HL'.out)))
      go_wp2_with fail
      refine bodyPost_ret (v := .tuple #[.agg #[.slice Ac cur.length cc], .int .i64 k]) (by simp [results, Tryz.results13, go_sem, *]) rfl (DbInt.of hf.out ?_ ?_)
      · refine OwnD.down (lo := lo) (OwnD.wide (hi := hi) ?_ (by simp; omega)) (by omega)
        repeat (with_reducible first | exact hown.out | refine OwnD.setOff ?_ (.inl (by omega)))
      · repeat first | exact hkn.out.bel | (refine Below.setCell ?_ ?_ _; rotate_left; (simp; try omega))

end

section
open Go.RowKit Go.Deep

set_option maxRecDepth 100000 in
set_option maxHeartbeats 1000000 in
theorem impl_IsValidUpdate_any (A : Option Addr) (n c B : Nat) (ts : List Tab) (nm : ByteArray) (ins : Bool) (A' : Option Addr) (n' c' : Nat) (r : List Int) (w : World) (hr : RdT w B A n ts) (hB : B ≤ w.heap.size) (hn : n ≤ 1048576) (hs : sumT ts ≤ 1048576) (hr' : RdI w B A' n' r) (hn' : n' ≤ 1048576) (hnm : nm.size ≤ maxLen) :
    Calls Tryz.prog 8 #[.agg #[.slice A n c], .agg #[.string nm, .bool ins, .slice A' n' c']] w fun e w' => e = .returned (.bool (appR ts nm ins r).2) ∧ Below w.heap.size w w' := by
  have HB := Lib.hid (Below.refl w.heap.size w)
  go_enter Tryz.func8, Tryz.ntmps8
  go_wp2_with fail
  refine (impl_ApplyUpdate_any A n c B ts nm ins A' n' c' r _ (RdT.belowB hr (((Below.refl B w).alloc hB _).alloc (by simp; omega) _) (Nat.le_refl _)) (by simp; omega) hn hs (RdI.belowB hr' (((Below.refl B w).alloc hB _).alloc (by simp; omega) _) (Nat.le_refl _)) hn' hnm).mono ?_
  rintro e w1 ⟨A1, c1, rfl, ho, hb⟩
  obtain ⟨R, hR⟩ : ∃ R, appR ts nm ins r = R := ⟨_, rfl⟩
  rw [hR] at ho ⊢
  have HR := Lib.hid hR
  clear hR
  have hbel := Lib.hid ((((HB.out).alloc (Nat.le_refl _) _).alloc (by simp) _).trans (hb.mono (by simp; omega)))
  clear ho hb
  go_wp2_with fail
  go_ret
  exact ⟨by rw [HR.out] <;> rfl, hbel.out.alloc hbel.out.size _⟩

end

section
open Go.RowKit Go.Deep

set_option maxRecDepth 100000 in
set_option maxHeartbeats 400000 in
theorem copyUpdate_any (nm : ByteArray) (ins : Bool) (A : Option Addr) (n c B : Nat) (zs : List Int) (w : World) (hr : RdI w B A n zs) (hB : B ≤ w.heap.size) (hn : n ≤ 17592186044416) :
    Calls Tryz.prog 30 #[.agg #[.string nm, .bool ins, .slice A n c]] w (UpdNew nm ins zs w) := by
  have HB := Lib.hid (Below.refl w.heap.size w)
  go_enter Tryz.func30, Tryz.ntmps30
  go_wp2_with fail
  refine (copyInts_any A n c B zs _ (RdI.belowB hr (((Below.refl B w).alloc hB _).alloc (by simp; omega) _) (Nat.le_refl _)) (by simp; omega) hn).mono ?_
  rintro e w1 ⟨A1, c1, rfl, ho, hb⟩
  have hs := hb.size
  simp at hs
  obtain ⟨hc, hf⟩ := bcells hb
  have e0 : w1.cell? ⟨w.heap.size, 0, none⟩ = some (.string nm) := (hb.cell (p := ⟨w.heap.size, 0, none⟩) (by simp; omega)).trans (by simp [go_sem])
  have e1 : w1.cell? ⟨w.heap.size, 1, none⟩ = some (.bool ins) := (hb.cell (p := ⟨w.heap.size, 1, none⟩) (by simp; omega)).trans (by simp [go_sem])
  have e2 : w1.cell? ⟨w.heap.size, 2, none⟩ = some (.slice A n c) := (hb.cell (p := ⟨w.heap.size, 2, none⟩) (by simp; omega)).trans (by simp [go_sem])
  have hbel := Lib.hid ((((HB.out).alloc (Nat.le_refl _) _).alloc (by simp) _).trans (hb.mono (by simp; omega)))
  have HO := Lib.hid ho
  clear hb ho
  go_wp2_with fail
  refine bodyPost_ret (v := .agg #[.string nm, .bool ins, .slice A1 zs.length c1]) (by simp [results, Tryz.results30, go_sem, *]) rfl (UpdNew.of ?_ ?_)
  · have h2 : OwnI w1 (w.heap.size + 2) w1.heap.size (.slice A1 zs.length c1) zs := by simpa using HO.out
    refine OwnI.downTo (lo := w.heap.size + 2) (OwnI.wide (hi := w1.heap.size) ?_ (by simp)) (by omega)
    repeat refine OwnI.setOff ?_ (by omega)
    exact h2
  · repeat first | exact hbel.out | (refine Below.setCell ?_ ?_ _; rotate_left; (simp; try omega))

set_option maxRecDepth 100000 in
set_option maxHeartbeats 400000 in
theorem impl_InvertUpdate_any (nm : ByteArray) (ins : Bool) (A : Option Addr) (n c B : Nat) (zs : List Int) (w : World) (hr : RdI w B A n zs) (hB : B ≤ w.heap.size) (hn : n ≤ 17592186044416) :
    Calls Tryz.prog 9 #[.agg #[.string nm, .bool ins, .slice A n c]] w (UpdNew nm (!ins) zs w) := by
  have HB := Lib.hid (Below.refl w.heap.size w)
  go_enter Tryz.func9, Tryz.ntmps9
  go_wp2_with fail
  refine (copyUpdate_any nm ins A n c B zs _ (RdI.belowB hr (((Below.refl B w).alloc hB _).alloc (by simp; omega) _) (Nat.le_refl _)) (by simp; omega) hn).mono ?_
  rintro e w1 ⟨A1, c1, rfl, ho, hb⟩
  have hs := hb.size
  simp at hs
  obtain ⟨hc, hf⟩ := bcells hb
  have e1 : w1.cell? ⟨w.heap.size, 1, none⟩ = some (.bool ins) := (hb.cell (p := ⟨w.heap.size, 1, none⟩) (by simp; omega)).trans (by simp [go_sem])
  have hbel := Lib.hid ((((HB.out).alloc (Nat.le_refl _) _).alloc (by simp) _).trans (hb.mono (by simp; omega)))
  have HO := Lib.hid ho
  have r0 : ∃ y, w1.cell? ⟨w.heap.size + 1, 0, none⟩ = some y := ⟨_, (hb.cell (p := ⟨w.heap.size + 1, 0, none⟩) (by simp)).trans (by simp [go_sem]; rfl)⟩
  have r1 : ∃ y, w1.cell? ⟨w.heap.size + 1, 1, none⟩ = some y := ⟨_, (hb.cell (p := ⟨w.heap.size + 1, 1, none⟩) (by simp)).trans (by simp [go_sem]; rfl)⟩
  have r2 : ∃ y, w1.cell? ⟨w.heap.size + 1, 2, none⟩ = some y := ⟨_, (hb.cell (p := ⟨w.heap.size + 1, 2, none⟩) (by simp)).trans (by simp [go_sem]; rfl)⟩
  obtain ⟨y0, r0⟩ := r0
  obtain ⟨y1, r1⟩ := r1
  obtain ⟨y2, r2⟩ := r2
  have t0 : w1.frozen? ⟨w.heap.size + 1, 0, none⟩ = false := (hb.frozen (p := ⟨w.heap.size + 1, 0, none⟩) (by simp)).trans (by simp [go_sem])
  have t1 : w1.frozen? ⟨w.heap.size + 1, 1, none⟩ = false := (hb.frozen (p := ⟨w.heap.size + 1, 1, none⟩) (by simp)).trans (by simp [go_sem])
  have t2 : w1.frozen? ⟨w.heap.size + 1, 2, none⟩ = false := (hb.frozen (p := ⟨w.heap.size + 1, 2, none⟩) (by simp)).trans (by simp [go_sem])
  clear hb ho hc hf
  have l0 : w.heap.size < w1.heap.size := by omega
  have l1 : w.heap.size + 1 < w1.heap.size := by omega
  go_wp2_with fail
  refine bodyPost_ret (v := .agg #[.string nm, .bool (!ins), .slice A1 zs.length c1]) (by simp [results, Tryz.results9, go_sem, *]) rfl (UpdNew.of ?_ ?_)
  · have h2 : OwnI w1 (w.heap.size + 2) w1.heap.size (.slice A1 zs.length c1) zs := by simpa using HO.out
    refine OwnI.downTo (lo := w.heap.size + 2) (OwnI.wide (hi := w1.heap.size) ?_ (by simp)) (by omega)
    repeat (with_reducible first | exact h2 | refine OwnI.alloc ?_ _ | refine OwnI.setOff ?_ (by first | omega | (simp; done) | (simp; omega)))
  · repeat first | exact hbel.out | (refine Below.setCell ?_ ?_ _; rotate_left; (simp; try omega)) | (refine Below.alloc ?_ ?_ _; rotate_left; (simp; try omega))

end

section
open Go.RowKit Go.Deep

/-- Two updates are the same. -/
def eqU (nm nm' : ByteArray) (ins ins' : Bool) (zs zs' : List Int) : Bool := decide (nm = nm' ∧ ins = ins' ∧ zs = zs')

theorem str_eqt (a : ByteArray) : (a.toList == a.toList) = true := by simp

theorem compareZero_q (A A' : Option Addr) (n c n' c' : Nat) (zs zs' : List Int) (w : World) (hr : RdI w w.heap.size A n zs) (hr' : RdI w w.heap.size A' n' zs') (hn : n ≤ 9223372036854775807) (hn' : n' ≤ 9223372036854775807) :
    ∃ r : Int, (r == 0) = decide (zs = zs') ∧ Calls Tryz.prog 62 #[.slice A n c, .slice A' n' c'] w fun e w' => e = .returned (.int .i64 r) ∧ Qt w w' :=
  ⟨cmpL zs zs', by rw [Bool.eq_iff_iff]; simp [cmpL_zero], spec_CompareRows_q A A' n c n' c' zs zs' w hr hr' hn hn'⟩

set_option maxRecDepth 100000 in
set_option maxHeartbeats 400000 in
theorem impl_EqualUpdates_any (nm nm' : ByteArray) (ins ins' : Bool) (A A' : Option Addr) (n c n' c' B B' : Nat) (zs zs' : List Int) (w : World) (hr : RdI w B A n zs) (hr' : RdI w B' A' n' zs') (hB : B ≤ w.heap.size) (hB' : B' ≤ w.heap.size) (hn : n ≤ 9223372036854775807) (hn' : n' ≤ 9223372036854775807) :
    Calls Tryz.prog 18 #[.agg #[.string nm, .bool ins, .slice A n c], .agg #[.string nm', .bool ins', .slice A' n' c']] w fun e w' => e = .returned (.bool (eqU nm nm' ins ins' zs zs')) ∧ Below w.heap.size w w' := by
  have HB := Lib.hid (Below.refl w.heap.size w)
  by_cases h1 : nm = nm'
  · subst h1
    by_cases h2 : ins = ins'
    · subst h2
      have hf : Hid (eqU nm nm ins ins zs zs' = decide (zs = zs')) := by show _ = _; simp [eqU]
      have q2 : (ins == ins) = true := by simp
      go_enter Tryz.func18, Tryz.ntmps18
      go_wp2_with fail
      refine (slicesEqual_q A A' n c n' c' zs zs' _ ((RdI.belowB hr (((Below.refl B w).alloc hB _).alloc (by simp; omega) _) (Nat.le_refl _)).more (by simp; omega)) ((RdI.belowB hr' (((Below.refl B' w).alloc hB' _).alloc (by simp; omega) _) (Nat.le_refl _)).more (by simp; omega)) hn hn').mono ?_
      rintro e w1 ⟨rfl, hq⟩
      have hbel := Lib.hid ((((HB.out).alloc (Nat.le_refl _) _).alloc (by simp) _).trans (hq.below _))
      clear hq
      go_wp2_with fail
      go_ret
      exact ⟨by rw [hf.out] <;> rfl, hbel.out⟩
    · have hf : Hid (eqU nm nm ins ins' zs zs' = false) := by show _ = _; simp [eqU, h2]
      have q2 : (ins == ins') = false := by simpa using h2
      clear h2
      go_enter Tryz.func18, Tryz.ntmps18
      go_wp2_with fail
      go_ret
      exact ⟨by rw [hf.out] <;> rfl, ((HB.out).alloc (Nat.le_refl _) _).alloc (by simp) _⟩
  · have hf : Hid (eqU nm nm' ins ins' zs zs' = false) := by show _ = _; simp [eqU, h1]
    have q1 := str_eq0 h1
    clear h1
    go_enter Tryz.func18, Tryz.ntmps18
    go_wp2_with fail
    go_ret
    exact ⟨by rw [hf.out] <;> rfl, ((HB.out).alloc (Nat.le_refl _) _).alloc (by simp) _⟩

end

section
open Go.RowKit Go.Deep

/-- Each byte less '0'. -/
def ploc (l : List UInt8) : List Int := l.map fun b => (b.toNat : Int) - 48

theorem ploc_snoc (l : List UInt8) (b : UInt8) : ploc (l ++ [b]) = ploc l ++ [(b.toNat : Int) - 48] := by simp [ploc]

def isDig (b : UInt8) : Bool := inB b.toNat 48 57

/-- The digits of a text; false if there is another byte. -/
def digR (l : List UInt8) : List Int × Bool := if l.all isDig = true then (ploc l, true) else ([], false)

theorem digR_len (l : List UInt8) : (digR l).1.length ≤ l.length := by
  unfold digR
  split <;> simp [ploc]

/-- One digit for each number. -/
def dtext (zs : List Int) : List UInt8 := zs.map fun x => UInt8.ofNat (48 + x.toNat)

theorem mem_bytes (s : ByteArray) (k : Nat) (h : k < s.size) : s[k] ∈ s.data.toList := by
  have h1 : s.data.toList[k]'(by simpa using h) = s[k] := rfl
  rw [← h1]
  exact List.getElem_mem _

set_option maxRecDepth 100000 in
set_option maxHeartbeats 400000 in
theorem digitsOf_any (s : ByteArray) (w : World) (hs : s.size ≤ 1048576) :
    Calls Tryz.prog 40 #[.string s] w (IntsBool (digR s.data.toList) w) := by
  obtain ⟨i0, hi, hz0, hz1, hz2⟩ := info_parts info_int
  go_enter Tryz.func40, Tryz.ntmps40
  go_wp2
  go_loopw [4, 5] (fun v i wr => ∃ (k : Nat) (p : List Int), k ≤ s.size ∧ p.length ≤ k ∧ i = .int .i64 k ∧ wr.ownsRow w.heap.size 3 1 v p.length (p.map iv) ∧ Below w.heap.size w wr ∧ Hid (p = ploc (s.data.toList.take k) ∧ (s.data.toList.take k).all isDig = true)) (fun _ i _ => s.size - (intOf i).toNat)
  case atStart => exact ⟨0, [], by omega, by simp, rfl, own_empty w _ (Nat.le_refl _), (Below.refl _ _).alloc (Nat.le_refl _) _, rfl, rfl⟩
  case round =>
    obtain ⟨k, p, hk, hpk, rfl, hown, hbel, hinv⟩ := hrel
    have hsz := hbel.size
    by_cases hlt : k < s.size
    · obtain ⟨x, hx⟩ : ∃ x, s[k].toNat = x := ⟨_, rfl⟩
      have hx256 : x < 256 := by have := s[k].toNat_lt; omega
      by_cases hin : 48 ≤ x ∧ x ≤ 57
      · obtain ⟨h48, h57⟩ := hin
        have hin' : inB (x : Int) 48 57 = true := inB_true (by omega) (by omega)
        have hst : Hid (p ++ [(x : Int) - 48] = ploc (s.data.toList.take (k + 1)) ∧ (s.data.toList.take (k + 1)).all isDig = true) := by
          show _ ∧ _
          rw [take_snoc s k hlt, ploc_snoc, ← hinv.out.1, List.all_append, hinv.out.2, hx]
          exact ⟨rfl, by simp [isDig, hx, hin']⟩
        go_wp2_with (first | (go_at_call 37; refine (within_any _ _ _ _).mono ?_; rintro e w' ⟨rfl, rfl⟩) | (at_builtin; refine wpList_append_lies _ rfl _ _ _ rfl w.heap.size 3 i0 _ 1 8 Tryz.underlying27 hi hz0 hz1 hz2 rfl (by omega) _ p.length _ rfl (hown.alloc _) ⟨wr.heap.size, 0, none⟩ 1 1 [.int .i64 ((x : Int) - 48)] rfl rfl (World.news_of_block (cs := #[.int .i64 ((x : Int) - 48)]) (t := 3) (fr := (0, 0)) (heap_alloc_new wr _)) (by simp [Value.oneCell']) (by omega) (by unfold maxLen; omega) (by omega) (by simp; omega) (wr.heap.size + 1) (by simp) ?_; intro g cap w1 hown1 hgrow _ _))
        have hown2 := own_snoc hown1
        clear hown1
        refine ⟨⟨k + 1, p ++ [(x : Int) - 48], by omega, by simp; omega, by go_num, by simpa using hown2, (hbel.alloc (by omega) _).grown hgrow (by simp; omega) (fun j hj => (hown.lt j hj).1), hst⟩, ?_⟩
        simp [intOf]
        omega
      · have hin' : inB (x : Int) 48 57 = false := inB_false (by omega)
        have hf : Hid (digR s.data.toList = ([], false)) := by
          show digR s.data.toList = ([], false)
          rw [digR, if_neg]
          intro h
          rw [List.all_eq_true] at h
          have := h s[k] (mem_bytes s k hlt)
          rw [isDig, hx, hin'] at this
          cases this
        clear hin
        go_wp2_with (go_at_call 37; refine (within_any _ _ _ _).mono ?_; rintro e w' ⟨rfl, rfl⟩)
        go_ret2
        exact IntsBool.of hf.out (OwnI.nil _ _ _) hbel
    · obtain rfl : k = s.size := by omega
      obtain ⟨A0, c0, rfl⟩ := own_form hown
      have hf : Hid (digR s.data.toList = (p, true)) := by
        show digR s.data.toList = (p, true)
        have h1 := hinv.out
        rw [take_all] at h1
        rw [digR, if_pos h1.2, h1.1]
      go_wp2
      go_ret2
      exact IntsBool.of hf.out (ownI_of hown) hbel

theorem info_u8 : (Tryz.prog.info? 5).map (fun i => (i.zero, i.size, i.bytes)) = some (some (.int .u8 0), 1, 1) := by kernel_rfl

set_option maxRecDepth 100000 in
set_option maxHeartbeats 400000 in
theorem digitsText_any (A : Option Addr) (n c : Nat) (zs : List Int) (w : World) (hr : RdI w w.heap.size A n zs) (hn : n ≤ 1048576) (hdig : ∀ x ∈ zs, 0 ≤ x ∧ x ≤ 9) :
    Calls Tryz.prog 39 #[.slice A n c] w fun e w' => e = .returned (.string ⟨(dtext zs).toArray⟩) ∧ Below w.heap.size w w' := by
  obtain ⟨i0, hi, hz0, hz1, hz2⟩ := info_parts info_u8
  have HL := Lib.hid hr.1
  have HD := Lib.hid hdig
  clear hdig
  go_enter Tryz.func39, Tryz.ntmps39
  go_wp2
  go_loopw [3, 9] (fun v i wr => ∃ (k : Nat) (p : List UInt8), k ≤ n ∧ p.length ≤ k ∧ i = .int .i64 k ∧ wr.ownsRow w.heap.size 5 1 v p.length (p.map bv) ∧ Below w.heap.size w wr ∧ Hid (p = dtext (zs.take k))) (fun _ i _ => n - (intOf i).toNat)
  case atStart => exact ⟨0, [], by omega, by simp, rfl, World.ownsRow_made (base := w.heap.size) (e := 5) (size := 1) w #[] 0 (Nat.le_refl _) (by unfold maxLen; omega) rfl, (Below.refl _ _).alloc (Nat.le_refl _) _, rfl⟩
  case round =>
    obtain ⟨k, p, hk, hpk, rfl, hown, hbel, hinv⟩ := hrel
    have hsz := hbel.size
    by_cases hlt : k < n
    · obtain ⟨b', o', x, rfl, hb', hx, hc'⟩ := hr.at_ hlt
      have hc2 := (hbel.cell (p := ⟨b', o' + k, none⟩) hb').trans hc'
      obtain ⟨hx0, hx9⟩ := HD.out x (List.mem_of_getElem? hx)
      obtain ⟨X, rfl⟩ := Int.eq_ofNat_of_zero_le hx0
      have hst : Hid (p ++ [UInt8.ofNat (48 + X)] = dtext (zs.take (k + 1))) := by show _ = _; rw [List.take_add_one, hx, dtext, List.map_append, hinv.out]; rfl
      clear hc' hx
      go_wp2_with (at_builtin; refine wpList_append_lies _ rfl _ _ _ rfl w.heap.size 5 i0 _ 1 1 Tryz.underlying22 hi hz0 hz1 hz2 rfl (by omega) _ p.length _ rfl (hown.alloc _) ⟨wr.heap.size, 0, none⟩ 1 1 [.int .u8 (48 + (X : Int))] rfl rfl (World.news_of_block (cs := #[.int .u8 (48 + (X : Int))]) (t := 5) (fr := (0, 0)) (heap_alloc_new wr _)) (by simp [Value.oneCell']) (by omega) (by unfold maxLen; omega) (by omega) (by simp; omega) (wr.heap.size + 1) (by simp) ?_; intro g cap w1 hown1 hgrow _ _)
      have hown2 : w1.ownsRow w.heap.size 5 1 (.slice (some ⟨g, 0, none⟩) (p.length + 1) cap) (p ++ [UInt8.ofNat (48 + X)]).length ((p ++ [UInt8.ofNat (48 + X)]).map bv) := by
        have h1 : Value.int .u8 (48 + (X : Int)) = bv (UInt8.ofNat (48 + X)) := by rw [← bv_of (48 + X) (by omega)]; congr 1
        rw [h1] at hown1
        simpa using hown1
      clear hown1
      refine ⟨⟨k + 1, p ++ [UInt8.ofNat (48 + X)], by omega, by simp; omega, by go_num, hown2, (hbel.alloc (by omega) _).grown hgrow (by simp; omega) (fun j hj => (hown.lt j hj).1), hst⟩, ?_⟩
      simp [intOf]
      omega
    · obtain rfl : k = n := by omega
      have hconv := own_string (P := Tryz.prog) hown (src := 22) (dst := 9) Tryz.underlying22 Tryz.underlying5 Tryz.underlying9
      have hf : Hid (p = dtext zs) := by show p = dtext zs; rw [hinv.out, List.take_of_length_le (Nat.le_of_eq HL.out)]
      go_wp2
      go_ret
      exact ⟨by rw [← hf.out] <;> rfl, hbel⟩

end

section
open Go.RowKit

set_option maxRecDepth 100000 in
set_option maxHeartbeats 400000 in
theorem spec_FormatInt_pos (N : Nat) (w : World) (h0 : 0 < N) (hN : N ≤ 9223372036854775807) :
    Calls Tryz.prog 70 #[.int .i64 N] w fun e w' => e = .returned (.string ⟨(decD N).toArray⟩) ∧ Below w.heap.size w w' := by
  have hz : ((N : Int) == 0) = false := by simp; omega
  have hneg : decide ((N : Int) < 0) = false := by simp
  go_enter Tryz.func70, Tryz.ntmps70
  go_wp2
  go_loopw [0, 3] (fun n v wr => ∃ (m : Nat) (o : List UInt8), n = .int .i64 m ∧ v = .string ⟨o.toArray⟩ ∧ FInv N m o ∧ Below w.heap.size w wr) (fun n _ _ => (intOf n).toNat)
  case atStart => exact ⟨N, [], rfl, rfl, FInv.start h0, Below.refl _ _⟩
  case round =>
    obtain ⟨m, o, rfl, rfl, hinv, hbel⟩ := hrel
    have hmN : m ≤ N := hinv.2.2.1
    have hol : o.length ≤ 20 := hinv.2.2.2.1
    have hsz := hbel.size
    by_cases hm : m = 0
    · subst hm
      have hf := Lib.hid (hinv.1 rfl)
      go_wp2
      go_ret
      exact ⟨by rw [hf.out] <;> rfl, hbel⟩
    · have hmb : ((m : Int) != 0) = true := by simp; omega
      have hst := hinv.step hm (by omega)
      have hcv := fun W : World => one_byte (P := Tryz.prog) W 22 9 5 (48 + (m : Int) % 10) (by omega) (by omega) Tryz.underlying22 Tryz.underlying5 Tryz.underlying9
      have hb10 : ((48 : Int) + (m : Int) % 10).toNat = 48 + m % 10 := by omega
      rw [hb10] at hcv
      clear hb10
      go_wp2
      refine ⟨⟨m / 10, UInt8.ofNat (48 + m % 10) :: o, by go_num, by rw [dig_byte]; exact congrArg Value.string (bytes_append [UInt8.ofNat (48 + m % 10)] o), hst, hbel.alloc hsz _⟩, ?_⟩
      simp [intOf]
      omega

set_option maxRecDepth 100000 in
set_option maxHeartbeats 400000 in
theorem spec_FormatInt_neg (N : Nat) (w : World) (h0 : 0 < N) (hN : N ≤ 9223372036854775808) :
    Calls Tryz.prog 70 #[.int .i64 (-(N : Int))] w fun e w' => e = .returned (.string ⟨(45 :: decD N).toArray⟩) ∧ Below w.heap.size w w' := by
  have hz : (-(N : Int) == 0) = false := by simp; omega
  have hneg : decide (-(N : Int) < 0) = true := by simp; omega
  obtain ⟨X, hX⟩ : ∃ X : Int, X = -(N : Int) := ⟨_, rfl⟩
  rw [← hX] at hz hneg ⊢
  have HX := Lib.hid hX
  have g1 : X < 0 := by omega
  have g2 : -9223372036854775808 ≤ X := by omega
  clear hX
  go_enter Tryz.func70, Tryz.ntmps70
  go_wp2
  go_loopw [0, 3] (fun n v wr => ∃ (x : Int) (m : Nat) (o : List UInt8), n = .int .i64 x ∧ v = .string ⟨o.toArray⟩ ∧ x ≤ 0 ∧ X ≤ x ∧ Hid (x = -(m : Int)) ∧ FInv N m o ∧ Below w.heap.size w wr) (fun n _ _ => (- intOf n).toNat)
  case atStart => exact ⟨X, N, [], rfl, rfl, by omega, by omega, HX.out, FInv.start h0, Below.refl _ _⟩
  case round =>
    obtain ⟨x, m, o, rfl, rfl, hx0, hxX, hxm, hinv, hbel⟩ := hrel
    have hol : o.length ≤ 20 := hinv.2.2.2.1
    have hsz := hbel.size
    by_cases hm : m = 0
    · have hf := Lib.hid (hinv.1 hm)
      obtain rfl : x = 0 := by have := hxm.out; omega
      go_wp2
      go_ret
      exact ⟨by rw [hf.out]; exact congrArg Ending.returned (congrArg Value.string (bytes_append [45] o)), hbel⟩
    · have hmb : (x != 0) = true := by have := hxm.out; simp; omega
      have hst := hinv.step hm hN
      have e1 : x.tmod 10 = -((m % 10 : Nat) : Int) := by rw [hxm.out, Int.neg_tmod]; rfl
      have e2 : x.tdiv 10 = -((m / 10 : Nat) : Int) := by rw [hxm.out, Int.neg_tdiv]; rfl
      have hd : m % 10 < 10 := Nat.mod_lt _ (by omega)
      have hcv := fun W : World => one_byte (P := Tryz.prog) W 22 9 5 (48 + ((m % 10 : Nat) : Int)) (by omega) (by omega) Tryz.underlying22 Tryz.underlying5 Tryz.underlying9
      have hb10 : ((48 : Int) + ((m % 10 : Nat) : Int)).toNat = 48 + m % 10 := by omega
      rw [hb10] at hcv
      have hq : m / 10 ≤ m := Nat.div_le_self _ _
      have hq2 : (m : Int) ≤ -X := by have := hxm.out; omega
      have hq3 : m / 10 < m := by omega
      have hmx := hxm.out
      have hlt : Hid (((m / 10 : Nat) : Int) < -x) := by show ((m / 10 : Nat) : Int) < -x; omega
      clear hb10 hmx
      generalize hD : m % 10 = D at *
      generalize hQ : m / 10 = Q at *
      clear hD hQ
      by_cases hD0 : D = 0
      · subst hD0
        clear hcv
        have hcv := fun W : World => one_byte (P := Tryz.prog) W 22 9 5 48 (by omega) (by omega) Tryz.underlying22 Tryz.underlying5 Tryz.underlying9
        go_wp2
        refine ⟨⟨-(Q : Int), Q, UInt8.ofNat 48 :: o, by go_num, congrArg Value.string (bytes_append [UInt8.ofNat 48] o), by omega, by omega, rfl, hst, hbel.alloc hsz _⟩, ?_⟩
        have := hlt.out
        simp [intOf]
        omega
      · have hD1 : 0 < D := by omega
        clear hD0
        go_wp2
        refine ⟨⟨-(Q : Int), Q, UInt8.ofNat (48 + D) :: o, by go_num, by rw [dig_byte]; exact congrArg Value.string (bytes_append [UInt8.ofNat (48 + D)] o), by omega, by omega, rfl, hst, hbel.alloc hsz _⟩, ?_⟩
        have := hlt.out
        simp [intOf]
        omega

theorem spec_FormatInt_any (n : Int) (w : World) (h1 : -9223372036854775808 ≤ n) (h2 : n ≤ 9223372036854775807) :
    Calls Tryz.prog 70 #[.int .i64 n] w fun e w' => e = .returned (.string ⟨(fmtI n).toArray⟩) ∧ Below w.heap.size w w' := by
  rcases Int.lt_trichotomy n 0 with h | h | h
  · obtain ⟨N, rfl⟩ : ∃ N : Nat, n = -(N : Int) := ⟨n.natAbs, by omega⟩
    rw [fmtI_neg (by omega)]
    exact spec_FormatInt_neg N w (by omega) (by omega)
  · subst h
    go_enter Tryz.func70, Tryz.ntmps70
    go_wp2
    go_ret
    exact ⟨by rw [fmtI, if_neg (by omega), show (0 : Int).natAbs = 0 from rfl, decD_small (by omega)] <;> rfl, Below.refl _ _⟩
  · obtain ⟨N, rfl⟩ := Int.eq_ofNat_of_zero_le (show 0 ≤ n by omega)
    rw [fmtI_pos]
    exact spec_FormatInt_pos N w (by omega) (by omega)

end

section
open Go.RowKit Go.Deep

theorem fmtI_digit' {X : Nat} (h : X ≤ 9) : fmtI (X : Int) = [UInt8.ofNat (48 + X)] := by rw [fmtI_pos, decD_small (by omega)]

theorem rowB_dig {zs : List Int} {m : Int} (h : rowB zs m = true) : ∀ x ∈ zs, 0 ≤ x ∧ x ≤ 9 := fun x hx => by
  unfold rowB at h
  simp [inB] at h
  exact h.1 x hx

set_option maxRecDepth 100000 in
set_option maxHeartbeats 400000 in
theorem l4Digits_any (A : Option Addr) (n c : Nat) (zs : List Int) (w : World) (hr : RdI w w.heap.size A n zs) (hn : n ≤ 1048576) (hdig : ∀ x ∈ zs, 0 ≤ x ∧ x ≤ 9) :
    Calls Tryz.prog 45 #[.slice A n c] w fun e w' => e = .returned (.string ⟨(dtext zs).toArray⟩) ∧ Below w.heap.size w w' := by
  have HL := Lib.hid hr.1
  have HD := Lib.hid hdig
  clear hdig
  go_enter Tryz.func45, Tryz.ntmps45
  go_wp2_with fail
  go_loopw [3, 4] (fun v i wr => ∃ (k : Nat) (p : List UInt8), k ≤ n ∧ p.length ≤ k ∧ i = .int .i64 k ∧ v = .string ⟨p.toArray⟩ ∧ Below w.heap.size w wr ∧ Hid (p = dtext (zs.take k))) (fun _ i _ => n - (intOf i).toNat)
  case atStart => exact ⟨0, [], by omega, by simp, rfl, rfl, Below.refl _ _, rfl⟩
  case round =>
    obtain ⟨k, p, hk, hpk, rfl, rfl, hbel, hinv⟩ := hrel
    have hsz := hbel.size
    by_cases hlt : k < n
    · obtain ⟨b', o', x, hA, hb', hx, hc'⟩ := hr.at_ hlt
      subst hA
      have hc2 := (hbel.cell (p := ⟨b', o' + k, none⟩) hb').trans hc'
      obtain ⟨hx0, hx9⟩ := HD.out x (List.mem_of_getElem? hx)
      obtain ⟨X, rfl⟩ := Int.eq_ofNat_of_zero_le hx0
      have hfi := Lib.hid (fmtI_digit' (X := X) (by omega))
      have hst : Hid (p ++ [UInt8.ofNat (48 + X)] = dtext (zs.take (k + 1))) := by show _ = _; rw [List.take_add_one, hx, dtext, List.map_append, hinv.out]; rfl
      clear hc' hx
      go_wp2_with fail
      refine (spec_FormatInt_any _ _ (by omega) (by omega)).mono ?_
      rintro e w1 ⟨rfl, hb1⟩
      rw [hfi.out]
      go_wp2_with fail
      refine ⟨⟨k + 1, p ++ [UInt8.ofNat (48 + X)], by omega, by simp; omega, by go_num, by rw [dig_byte]; exact congrArg Value.string (bytes_append p [UInt8.ofNat (48 + X)]), below_chain hbel hb1 hsz, hst⟩, ?_⟩
      simp [intOf]
      omega
    · obtain rfl : k = n := by omega
      have hf : Hid (p = dtext zs) := by show p = dtext zs; rw [hinv.out, List.take_of_length_le (Nat.le_of_eq HL.out)]
      go_wp2_with fail
      go_ret
      exact ⟨by rw [hf.out] <;> rfl, hbel⟩

end

section
open Go.RowKit Go.Deep

/-- The text of an update. -/
def okU (nm : ByteArray) (zs : List Int) : Bool := nameB nm && (inB zs.length 1 3 && rowB zs zs.length)

def fmtU (nm : ByteArray) (ins : Bool) (zs : List Int) : ByteArray := if okU nm zs = true then ((if ins then ⟨#[43]⟩ else ⟨#[45]⟩ : ByteArray) ++ nm) ++ ⟨(dtext zs).toArray⟩ else ⟨#[]⟩

theorem rowOk_is {A : Option Addr} {n c : Nat} {zs : List Int} {m : Int} {b : Bool} (h : rowB zs m = b) {w : World} (hr : RdI w w.heap.size A n zs) (hn : n ≤ 9223372036854775807) :
    Calls Tryz.prog 38 #[.slice A n c, .int .i64 m] w fun e w' => e = .returned (.bool b) ∧ w = w' := h ▸ rowOk_any A n c zs m w hr hn

theorem l4Row_is {A : Option Addr} {n c : Nat} {zs : List Int} {m : Int} {b : Bool} (h : rowB zs m = b) {w : World} (hr : RdI w w.heap.size A n zs) (hn : n ≤ 9223372036854775807) :
    Calls Tryz.prog 43 #[.slice A n c, .int .i64 m] w fun e w' => e = .returned (.bool b) ∧ w = w' := h ▸ l4Row_any A n c zs m w hr hn

set_option maxRecDepth 100000 in
set_option maxHeartbeats 1000000 in
theorem impl_FormatUpdate_any (nm : ByteArray) (ins : Bool) (A : Option Addr) (n c B : Nat) (zs : List Int) (w : World) (hr : RdI w B A n zs) (hB : B ≤ w.heap.size) (hn : n ≤ 1048576) :
    Calls Tryz.prog 14 #[.agg #[.string nm, .bool ins, .slice A n c]] w fun e w' => e = .returned (.string (fmtU nm ins zs)) ∧ Below w.heap.size w w' := by
  have hlen := hr.1
  subst hlen
  by_cases hok : okU nm zs = true
  · obtain ⟨h1, h2, h3⟩ : nameB nm = true ∧ inB zs.length 1 3 = true ∧ rowB zs zs.length = true := by simpa [okU] using hok
    have hd := Lib.hid (rowB_dig h3)
    have n1 : nm.size ≤ 1 := by
      obtain ⟨b, rfl⟩ : ∃ b : UInt8, nm = ⟨#[b]⟩ := by
        unfold nameB at h1
        split at h1
        · rename_i b hb
          exact ⟨b, ByteArray.ext (by simpa using congrArg List.toArray hb)⟩
        · simp at h1
      simp [ByteArray.size]
    have n2 : zs.length ≤ 3 := by simp [inB] at h2; omega
    have hf : Hid (fmtU nm ins zs = ((if ins then ⟨#[43]⟩ else ⟨#[45]⟩ : ByteArray) ++ nm) ++ ⟨(dtext zs).toArray⟩) := by show _ = _; rw [fmtU, if_pos hok]
    have n3 : (dtext zs).length ≤ 3 := by simp [dtext]; omega
    clear hok
    cases ins
    case false =>
      go_enter Tryz.func14, Tryz.ntmps14
      go_wp2_with fail
      generalize hW : w.alloc (.cells #[.string nm, .bool false, .slice A zs.length c] 29) = W
      have RW : Hid (RdI W W.heap.size A zs.length zs) := by rw [← hW]; exact (RdI.belowB hr ((Below.refl B w).alloc hB _) (Nat.le_refl _)).more (by simp; omega)
      have HB : Hid (Below w.heap.size w W) := by rw [← hW]; exact (Below.refl _ _).alloc (Nat.le_refl _) _
      have c0 : W.cell? ⟨w.heap.size, 0, none⟩ = some (.string nm) := by rw [← hW]; simp [go_sem]
      have c1 : W.cell? ⟨w.heap.size, 1, none⟩ = some (.bool false) := by rw [← hW]; simp [go_sem]
      have c2 : W.cell? ⟨w.heap.size, 2, none⟩ = some (.slice A zs.length c) := by rw [← hW]; simp [go_sem]
      have l0 : w.heap.size < W.heap.size := by rw [← hW]; simp
      clear hW hr hB
      go_wp2_with (first | (go_at_call 36; refine (nameOk_is h1 _).mono ?_; rintro e w' ⟨rfl, rfl⟩) | (go_at_call 37; refine (within_is h2 _).mono ?_; rintro e w' ⟨rfl, rfl⟩) | (go_at_call 38; refine (rowOk_is h3 RW.out (by omega)).mono ?_; rintro e w' ⟨rfl, rfl⟩))
      refine wp_region_class (by kernel_rfl) (by kernel_rfl) (fun X => Below W.heap.size W X) ((Below.refl _ _).drew) (fun S _ f hG hS => ?_)
      have y0 : ∀ s, (f s).cell? ⟨w.heap.size, 0, none⟩ = some (.string nm) := fun s => ((hG s).cell (p := ⟨w.heap.size, 0, none⟩) l0).trans c0
      have y2 : ∀ s, (f s).cell? ⟨w.heap.size, 2, none⟩ = some (.slice A zs.length c) := fun s => ((hG s).cell (p := ⟨w.heap.size, 2, none⟩) l0).trans c2
      have HG := Lib.hid hG
      have HS := Lib.hid hS
      clear hG hS
      repeat (first | go_big_quiet_step ((go_at_call 39; exact Calls.clsB HS.out (HG.out _) (digitsText_any A zs.length c zs _ (RW.out.next (HG.out _)) hn hd.out))) | quiet_step ((go_at_call 39; exact Calls.clsB HS.out (HG.out _) (digitsText_any A zs.length c zs _ (RW.out.next (HG.out _)) hn hd.out))))
      refine wpQuiet_nil ?_
      rintro _ ⟨s, rfl⟩
      go_wp2_with fail
      go_ret
      exact ⟨by rw [hf.out] <;> rfl, HB.out.trans ((HG.out s).mono HB.out.size)⟩
    case true =>
      go_enter Tryz.func14, Tryz.ntmps14
      go_wp2_with fail
      generalize hW : w.alloc (.cells #[.string nm, .bool true, .slice A zs.length c] 29) = W
      have RW : Hid (RdI W W.heap.size A zs.length zs) := by rw [← hW]; exact (RdI.belowB hr ((Below.refl B w).alloc hB _) (Nat.le_refl _)).more (by simp; omega)
      have HB : Hid (Below w.heap.size w W) := by rw [← hW]; exact (Below.refl _ _).alloc (Nat.le_refl _) _
      have c0 : W.cell? ⟨w.heap.size, 0, none⟩ = some (.string nm) := by rw [← hW]; simp [go_sem]
      have c1 : W.cell? ⟨w.heap.size, 1, none⟩ = some (.bool true) := by rw [← hW]; simp [go_sem]
      have c2 : W.cell? ⟨w.heap.size, 2, none⟩ = some (.slice A zs.length c) := by rw [← hW]; simp [go_sem]
      have l0 : w.heap.size < W.heap.size := by rw [← hW]; simp
      clear hW hr hB
      go_wp2_with (first | (go_at_call 36; refine (nameOk_is h1 _).mono ?_; rintro e w' ⟨rfl, rfl⟩) | (go_at_call 37; refine (within_is h2 _).mono ?_; rintro e w' ⟨rfl, rfl⟩) | (go_at_call 38; refine (rowOk_is h3 RW.out (by omega)).mono ?_; rintro e w' ⟨rfl, rfl⟩))
      refine wp_region_class (by kernel_rfl) (by kernel_rfl) (fun X => Below W.heap.size W X) ((Below.refl _ _).drew) (fun S _ f hG hS => ?_)
      have y0 : ∀ s, (f s).cell? ⟨w.heap.size, 0, none⟩ = some (.string nm) := fun s => ((hG s).cell (p := ⟨w.heap.size, 0, none⟩) l0).trans c0
      have y2 : ∀ s, (f s).cell? ⟨w.heap.size, 2, none⟩ = some (.slice A zs.length c) := fun s => ((hG s).cell (p := ⟨w.heap.size, 2, none⟩) l0).trans c2
      have HG := Lib.hid hG
      have HS := Lib.hid hS
      clear hG hS
      repeat (first | go_big_quiet_step ((go_at_call 39; exact Calls.clsB HS.out (HG.out _) (digitsText_any A zs.length c zs _ (RW.out.next (HG.out _)) hn hd.out))) | quiet_step ((go_at_call 39; exact Calls.clsB HS.out (HG.out _) (digitsText_any A zs.length c zs _ (RW.out.next (HG.out _)) hn hd.out))))
      refine wpQuiet_nil ?_
      rintro _ ⟨s, rfl⟩
      go_wp2_with fail
      go_ret
      exact ⟨by rw [hf.out] <;> rfl, HB.out.trans ((HG.out s).mono HB.out.size)⟩
  · have hf : Hid (fmtU nm ins zs = ⟨#[]⟩) := by show _ = _; rw [fmtU, if_neg hok]
    cases h1 : nameB nm <;> cases h2 : inB zs.length 1 3 <;> cases h3 : rowB zs zs.length
    case true.true.true => exact absurd (by simp [okU, h1, h2, h3]) hok
    all_goals
      clear hok
      go_enter Tryz.func14, Tryz.ntmps14
      go_wp2_with fail
      generalize hW : w.alloc (.cells #[.string nm, .bool ins, .slice A zs.length c] 29) = W
      have RW : Hid (RdI W W.heap.size A zs.length zs) := by rw [← hW]; exact (RdI.belowB hr ((Below.refl B w).alloc hB _) (Nat.le_refl _)).more (by simp; omega)
      have HB : Hid (Below w.heap.size w W) := by rw [← hW]; exact (Below.refl _ _).alloc (Nat.le_refl _) _
      have c0 : W.cell? ⟨w.heap.size, 0, none⟩ = some (.string nm) := by rw [← hW]; simp [go_sem]
      have c1 : W.cell? ⟨w.heap.size, 1, none⟩ = some (.bool ins) := by rw [← hW]; simp [go_sem]
      have c2 : W.cell? ⟨w.heap.size, 2, none⟩ = some (.slice A zs.length c) := by rw [← hW]; simp [go_sem]
      have l0 : w.heap.size < W.heap.size := by rw [← hW]; simp
      clear hW hr hB
      go_wp2_with (first | (go_at_call 36; refine (nameOk_is h1 _).mono ?_; rintro e w' ⟨rfl, rfl⟩) | (go_at_call 37; refine (within_is h2 _).mono ?_; rintro e w' ⟨rfl, rfl⟩) | (go_at_call 38; refine (rowOk_is h3 RW.out (by omega)).mono ?_; rintro e w' ⟨rfl, rfl⟩))
      go_ret
      exact ⟨by rw [hf.out] <;> rfl, HB.out⟩

set_option maxRecDepth 100000 in
set_option maxHeartbeats 1000000 in
theorem spec_FormatUpdate_any (nm : ByteArray) (ins : Bool) (A : Option Addr) (n c B : Nat) (zs : List Int) (w : World) (hr : RdI w B A n zs) (hB : B ≤ w.heap.size) (hn : n ≤ 1048576) :
    Calls Tryz.prog 17 #[.agg #[.string nm, .bool ins, .slice A n c]] w fun e w' => e = .returned (.string (fmtU nm ins zs)) ∧ Below w.heap.size w w' := by
  have hlen := hr.1
  subst hlen
  by_cases hok : okU nm zs = true
  · obtain ⟨h1, h2, h3⟩ : nameB nm = true ∧ inB zs.length 1 3 = true ∧ rowB zs zs.length = true := by simpa [okU] using hok
    have hd := Lib.hid (rowB_dig h3)
    have n1 : nm.size ≤ 1 := by
      obtain ⟨b, rfl⟩ : ∃ b : UInt8, nm = ⟨#[b]⟩ := by
        unfold nameB at h1
        split at h1
        · rename_i b hb
          exact ⟨b, ByteArray.ext (by simpa using congrArg List.toArray hb)⟩
        · simp at h1
      simp [ByteArray.size]
    have n2 : zs.length ≤ 3 := by simp [inB] at h2; omega
    have hf : Hid (fmtU nm ins zs = ((if ins then ⟨#[43]⟩ else ⟨#[45]⟩ : ByteArray) ++ nm) ++ ⟨(dtext zs).toArray⟩) := by show _ = _; rw [fmtU, if_pos hok]
    have n3 : (dtext zs).length ≤ 3 := by simp [dtext]; omega
    clear hok
    cases ins
    case false =>
      go_enter Tryz.func17, Tryz.ntmps17
      go_wp2_with fail
      generalize hW : w.alloc (.cells #[.string nm, .bool false, .slice A zs.length c] 29) = W
      have RW : Hid (RdI W W.heap.size A zs.length zs) := by rw [← hW]; exact (RdI.belowB hr ((Below.refl B w).alloc hB _) (Nat.le_refl _)).more (by simp; omega)
      have HB : Hid (Below w.heap.size w W) := by rw [← hW]; exact (Below.refl _ _).alloc (Nat.le_refl _) _
      have c0 : W.cell? ⟨w.heap.size, 0, none⟩ = some (.string nm) := by rw [← hW]; simp [go_sem]
      have c1 : W.cell? ⟨w.heap.size, 1, none⟩ = some (.bool false) := by rw [← hW]; simp [go_sem]
      have c2 : W.cell? ⟨w.heap.size, 2, none⟩ = some (.slice A zs.length c) := by rw [← hW]; simp [go_sem]
      have l0 : w.heap.size < W.heap.size := by rw [← hW]; simp
      clear hW hr hB
      go_wp2_with (first | (go_at_call 42; refine (l4Name_is h1 _).mono ?_; rintro e w' ⟨rfl, rfl⟩) | (go_at_call 44; refine (l1In_is h2 _).mono ?_; rintro e w' ⟨rfl, rfl⟩) | (go_at_call 43; refine (l4Row_is h3 RW.out (by omega)).mono ?_; rintro e w' ⟨rfl, rfl⟩))
      refine wp_region_class (by kernel_rfl) (by kernel_rfl) (fun X => Below W.heap.size W X) ((Below.refl _ _).drew) (fun S _ f hG hS => ?_)
      have y0 : ∀ s, (f s).cell? ⟨w.heap.size, 0, none⟩ = some (.string nm) := fun s => ((hG s).cell (p := ⟨w.heap.size, 0, none⟩) l0).trans c0
      have y2 : ∀ s, (f s).cell? ⟨w.heap.size, 2, none⟩ = some (.slice A zs.length c) := fun s => ((hG s).cell (p := ⟨w.heap.size, 2, none⟩) l0).trans c2
      have HG := Lib.hid hG
      have HS := Lib.hid hS
      clear hG hS
      repeat (first | go_big_quiet_step ((go_at_call 45; exact Calls.clsB HS.out (HG.out _) (l4Digits_any A zs.length c zs _ (RW.out.next (HG.out _)) hn hd.out))) | quiet_step ((go_at_call 45; exact Calls.clsB HS.out (HG.out _) (l4Digits_any A zs.length c zs _ (RW.out.next (HG.out _)) hn hd.out))))
      refine wpQuiet_nil ?_
      rintro _ ⟨s, rfl⟩
      go_wp2_with fail
      go_ret
      exact ⟨by rw [hf.out] <;> rfl, HB.out.trans ((HG.out s).mono HB.out.size)⟩
    case true =>
      go_enter Tryz.func17, Tryz.ntmps17
      go_wp2_with fail
      generalize hW : w.alloc (.cells #[.string nm, .bool true, .slice A zs.length c] 29) = W
      have RW : Hid (RdI W W.heap.size A zs.length zs) := by rw [← hW]; exact (RdI.belowB hr ((Below.refl B w).alloc hB _) (Nat.le_refl _)).more (by simp; omega)
      have HB : Hid (Below w.heap.size w W) := by rw [← hW]; exact (Below.refl _ _).alloc (Nat.le_refl _) _
      have c0 : W.cell? ⟨w.heap.size, 0, none⟩ = some (.string nm) := by rw [← hW]; simp [go_sem]
      have c1 : W.cell? ⟨w.heap.size, 1, none⟩ = some (.bool true) := by rw [← hW]; simp [go_sem]
      have c2 : W.cell? ⟨w.heap.size, 2, none⟩ = some (.slice A zs.length c) := by rw [← hW]; simp [go_sem]
      have l0 : w.heap.size < W.heap.size := by rw [← hW]; simp
      clear hW hr hB
      go_wp2_with (first | (go_at_call 42; refine (l4Name_is h1 _).mono ?_; rintro e w' ⟨rfl, rfl⟩) | (go_at_call 44; refine (l1In_is h2 _).mono ?_; rintro e w' ⟨rfl, rfl⟩) | (go_at_call 43; refine (l4Row_is h3 RW.out (by omega)).mono ?_; rintro e w' ⟨rfl, rfl⟩))
      refine wp_region_class (by kernel_rfl) (by kernel_rfl) (fun X => Below W.heap.size W X) ((Below.refl _ _).drew) (fun S _ f hG hS => ?_)
      have y0 : ∀ s, (f s).cell? ⟨w.heap.size, 0, none⟩ = some (.string nm) := fun s => ((hG s).cell (p := ⟨w.heap.size, 0, none⟩) l0).trans c0
      have y2 : ∀ s, (f s).cell? ⟨w.heap.size, 2, none⟩ = some (.slice A zs.length c) := fun s => ((hG s).cell (p := ⟨w.heap.size, 2, none⟩) l0).trans c2
      have HG := Lib.hid hG
      have HS := Lib.hid hS
      clear hG hS
      repeat (first | go_big_quiet_step ((go_at_call 45; exact Calls.clsB HS.out (HG.out _) (l4Digits_any A zs.length c zs _ (RW.out.next (HG.out _)) hn hd.out))) | quiet_step ((go_at_call 45; exact Calls.clsB HS.out (HG.out _) (l4Digits_any A zs.length c zs _ (RW.out.next (HG.out _)) hn hd.out))))
      refine wpQuiet_nil ?_
      rintro _ ⟨s, rfl⟩
      go_wp2_with fail
      go_ret
      exact ⟨by rw [hf.out] <;> rfl, HB.out.trans ((HG.out s).mono HB.out.size)⟩
  · have hf : Hid (fmtU nm ins zs = ⟨#[]⟩) := by show _ = _; rw [fmtU, if_neg hok]
    cases h1 : nameB nm <;> cases h2 : inB zs.length 1 3 <;> cases h3 : rowB zs zs.length
    case true.true.true => exact absurd (by simp [okU, h1, h2, h3]) hok
    all_goals
      clear hok
      go_enter Tryz.func17, Tryz.ntmps17
      go_wp2_with fail
      generalize hW : w.alloc (.cells #[.string nm, .bool ins, .slice A zs.length c] 29) = W
      have RW : Hid (RdI W W.heap.size A zs.length zs) := by rw [← hW]; exact (RdI.belowB hr ((Below.refl B w).alloc hB _) (Nat.le_refl _)).more (by simp; omega)
      have HB : Hid (Below w.heap.size w W) := by rw [← hW]; exact (Below.refl _ _).alloc (Nat.le_refl _) _
      have c0 : W.cell? ⟨w.heap.size, 0, none⟩ = some (.string nm) := by rw [← hW]; simp [go_sem]
      have c1 : W.cell? ⟨w.heap.size, 1, none⟩ = some (.bool ins) := by rw [← hW]; simp [go_sem]
      have c2 : W.cell? ⟨w.heap.size, 2, none⟩ = some (.slice A zs.length c) := by rw [← hW]; simp [go_sem]
      have l0 : w.heap.size < W.heap.size := by rw [← hW]; simp
      clear hW hr hB
      go_wp2_with (first | (go_at_call 42; refine (l4Name_is h1 _).mono ?_; rintro e w' ⟨rfl, rfl⟩) | (go_at_call 44; refine (l1In_is h2 _).mono ?_; rintro e w' ⟨rfl, rfl⟩) | (go_at_call 43; refine (l4Row_is h3 RW.out (by omega)).mono ?_; rintro e w' ⟨rfl, rfl⟩))
      go_ret
      exact ⟨by rw [hf.out] <;> rfl, HB.out⟩

end

section
open Go.RowKit Go.Deep

/-- The first byte is a plus. -/
def insU (s : ByteArray) : Bool := match s.data.toList with | b :: _ => ((b.toNat : Int) == 43) | [] => false

theorem insU_eq {s : ByteArray} (h : 0 < s.size) : insU s = ((s[0].toNat : Int) == 43) := by
  have h1 : ∃ b l, s.data.toList = b :: l ∧ s[0] = b := by
    have hl : 0 < s.data.toList.length := by simpa using h
    have h2 : s.data.toList[0]'hl = s[0] := rfl
    cases hd : s.data.toList with
    | nil => rw [hd] at hl; simp at hl
    | cons b l => exact ⟨b, l, rfl, by rw [← h2]; simp [hd]⟩
  obtain ⟨b, l, h2, h3⟩ := h1
  rw [insU, h2, h3]

def rowU (s : ByteArray) : List Int := ploc (s.extract 2 s.size).data.toList

/-- What a text reads as. -/
def parU (s : ByteArray) : (ByteArray × Bool × List Int) × Bool := if 3 ≤ s.size ∧ fmtU (s.extract 1 2) (insU s) (rowU s) = s then ((s.extract 1 2, insU s, rowU s), true) else ((⟨#[]⟩, false, []), false)

theorem fmtU_row {nm : ByteArray} {ins : Bool} {zs : List Int} {s : ByteArray} (h : fmtU nm ins zs = s) (h3 : 3 ≤ s.size) : okU nm zs = true := by
  unfold fmtU at h
  split at h
  · assumption
  · subst h; simp [ByteArray.size] at h3

theorem okU_row {nm : ByteArray} {zs : List Int} (h : okU nm zs = true) : zs.length ≤ 3 ∧ rowB zs zs.length = true := by
  simp [okU, inB] at h
  exact ⟨by omega, h.2.2⟩

theorem okU_nil (nm : ByteArray) : okU nm [] = false := by simp [okU, inB]

theorem parU_no {s : ByteArray} (h : s.size < 3) : parU s = ((⟨#[]⟩, false, []), false) := by rw [parU, if_neg (by omega)]

theorem parU_yes {s : ByteArray} (h : 3 ≤ s.size) (hf : fmtU (s.extract 1 2) (insU s) (rowU s) = s) : parU s = ((s.extract 1 2, insU s, rowU s), true) := by rw [parU, if_pos ⟨h, hf⟩]

theorem parU_not {s : ByteArray} (hf : ¬ fmtU (s.extract 1 2) (insU s) (rowU s) = s) : parU s = ((⟨#[]⟩, false, []), false) := by rw [parU, if_neg fun h => hf h.2]

theorem ploc_rowB {l : List UInt8} {m : Int} (h : rowB (ploc l) m = true) : l.all isDig = true := by
  rw [List.all_eq_true]
  intro b hb
  have := rowB_dig h ((b.toNat : Int) - 48) (List.mem_map.2 ⟨b, hb, rfl⟩)
  exact inB_true (by omega) (by omega)

theorem ploc_len (l : List UInt8) : (ploc l).length = l.length := by simp [ploc]

theorem rowU_len {s : ByteArray} (h : 2 ≤ s.size) : (rowU s).length = s.size - 2 := by
  rw [rowU, ploc_len]
  have : (s.extract 2 s.size).data.toList.length = (s.extract 2 s.size).size := by simp
  rw [this, ByteArray.size_extract]
  omega

/-- A text that reads is short. -/
theorem parU_short {s : ByteArray} (h3 : 3 ≤ s.size) (hf : fmtU (s.extract 1 2) (insU s) (rowU s) = s) : s.size ≤ 5 := by
  have := (okU_row (fmtU_row hf h3)).1
  have h2 := rowU_len (s := s) (by omega)
  omega

/-- The program's digits and the reference's bytes say the same. -/
theorem fmtU_digR {s : ByteArray} (h3 : 3 ≤ s.size) : ((fmtU (s.extract 1 2) (insU s) (digR (s.extract 2 s.size).data.toList).1 = s) ↔ (fmtU (s.extract 1 2) (insU s) (rowU s) = s)) ∧
    (fmtU (s.extract 1 2) (insU s) (rowU s) = s → (digR (s.extract 2 s.size).data.toList).1 = rowU s) := by
  by_cases hd : (s.extract 2 s.size).data.toList.all isDig = true
  · have : (digR (s.extract 2 s.size).data.toList).1 = rowU s := by rw [digR, if_pos hd, rowU]
    rw [this]
    exact ⟨Iff.rfl, fun _ => rfl⟩
  · have h0 : (digR (s.extract 2 s.size).data.toList).1 = [] := by rw [digR, if_neg hd]
    have hno : ¬ fmtU (s.extract 1 2) (insU s) (rowU s) = s := fun h => hd (ploc_rowB (okU_row (fmtU_row h h3)).2)
    rw [h0]
    exact ⟨⟨fun h => absurd (fmtU_row h h3) (by rw [okU_nil]; simp), fun h => absurd h hno⟩, fun h => absurd h hno⟩

theorem parU_small {s : ByteArray} : (parU s).1.2.2.length ≤ 1048576 := by
  unfold parU
  split
  · rename_i h
    have := (okU_row (fmtU_row h.2 h.1)).1
    show (rowU s).length ≤ _
    omega
  · simp

/-- Behind the world c: p is a new box that holds an update of the call's own. -/
def CutU (L : Nat) (c : World) (nm : ByteArray) (ins : Bool) (zs : List Int) (p : Value) (wx : World) : Prop :=
  ∃ (A : Option Addr) (cc B lo hi : Nat), p = .pointer (some ⟨B, 0, none⟩) ∧ (wx.cell? ⟨B, 0, none⟩ = some (.string nm) ∧ wx.cell? ⟨B, 1, none⟩ = some (.bool ins) ∧ wx.cell? ⟨B, 2, none⟩ = some (.slice A zs.length cc)) ∧
    OwnI wx lo hi (.slice A zs.length cc) zs ∧ hi ≤ wx.heap.size ∧ B < wx.heap.size ∧ c.heap.size ≤ B ∧ L ≤ lo ∧ Below c.heap.size c wx

/-- The box is made last. -/
theorem CutU.last {L : Nat} {c w1 : World} {nm : ByteArray} {ins : Bool} {zs : List Int} {A : Option Addr} {cc lo hi : Nat} (b1 : Below c.heap.size c w1) (ow : OwnI w1 lo hi (.slice A zs.length cc) zs) (hhi : hi ≤ w1.heap.size) (hL : L ≤ lo) :
    CutU L c nm ins zs (.pointer (some ⟨w1.heap.size, 0, none⟩)) (w1.alloc (.cells #[.string nm, .bool ins, .slice A zs.length cc] 29)) :=
  ⟨A, cc, w1.heap.size, lo, hi, rfl, ⟨by simp [go_sem], by simp [go_sem], by simp [go_sem]⟩, ow.alloc _, by simp; omega, by simp, b1.size, hL, b1.alloc b1.size _⟩

/-- The box is made first, behind the draw. -/
theorem CutU.first {L : Nat} {c w1 : World} {nm : ByteArray} {ins : Bool} {zs : List Int} {A : Option Addr} {cc : Nat} {x y z : Value} {t : TypeId} (b1 : Below (c.alloc (.cells #[x, y, z] t)).drew.heap.size (c.alloc (.cells #[x, y, z] t)).drew w1)
    (ow : OwnI w1 (c.alloc (.cells #[x, y, z] t)).drew.heap.size w1.heap.size (.slice A zs.length cc) zs) (hL : L ≤ c.heap.size) :
    CutU L c nm ins zs (.pointer (some ⟨c.heap.size, 0, none⟩)) (((w1.setCell ⟨c.heap.size, 0, none⟩ (.string nm)).setCell ⟨c.heap.size, 1, none⟩ (.bool ins)).setCell ⟨c.heap.size, 2, none⟩ (.slice A zs.length cc)) := by
  have hX : (c.alloc (.cells #[x, y, z] t)).drew.heap.size = c.heap.size + 1 := by show (c.alloc _).heap.size = _; simp
  have hs := b1.size
  rw [hX] at hs ow
  have e : ∀ i, (i < 3) → ∃ v, w1.cell? ⟨c.heap.size, i, none⟩ = some v := fun i hi => by
    have := (b1.cell (p := ⟨c.heap.size, i, none⟩) (by rw [hX]; exact Nat.lt_succ_self _))
    rcases i with _ | _ | _ | i
    · exact ⟨x, this.trans (by simp [go_sem])⟩
    · exact ⟨y, this.trans (by simp [go_sem])⟩
    · exact ⟨z, this.trans (by simp [go_sem])⟩
    · omega
  obtain ⟨v0, e0⟩ := e 0 (by omega)
  obtain ⟨v1, e1⟩ := e 1 (by omega)
  obtain ⟨v2, e2⟩ := e 2 (by omega)
  refine ⟨A, cc, c.heap.size, c.heap.size + 1, w1.heap.size, rfl, ⟨?_, ?_, ?_⟩, ((ow.setOff (.inl (by omega))).setOff (.inl (by omega))).setOff (.inl (by omega)), by simp, by simp; omega, Nat.le_refl _, by omega, ?_⟩
  · simp [go_sem, e0]
  · simp [go_sem, e1]
  · simp [go_sem, e2]
  · have h1 : Below c.heap.size c w1 := (((Below.refl _ _).alloc (Nat.le_refl _) (.cells #[x, y, z] t)).drew).trans (b1.mono (by rw [hX]; omega))
    exact ((h1.setCell (Nat.le_refl _) _).setCell (Nat.le_refl _) _).setCell (Nat.le_refl _) _

theorem CutU.drew {L : Nat} {c wx : World} {nm : ByteArray} {ins : Bool} {zs : List Int} {p : Value} (h : CutU L c nm ins zs p wx) : CutU L c nm ins zs p wx.drew := by
  obtain ⟨A, cc, B, lo, hi, h1, h2, h3, h4, h5, h6, h7, h8⟩ := h
  exact ⟨A, cc, B, lo, hi, h1, h2, h3.below ((Below.refl wx.heap.size wx).drew) h4, h4, h5, h6, h7, h8.drew⟩

end

section
open Go.RowKit Go.Deep

theorem box3_madeD {c w2 : World} {x y z : Value} {t : TypeId} (b1 : Below (c.alloc (.cells #[x, y, z] t)).drew.heap.size (c.alloc (.cells #[x, y, z] t)).drew w2) :
    (w2.cell? ⟨c.heap.size, 0, none⟩ = some x ∧ w2.cell? ⟨c.heap.size, 1, none⟩ = some y ∧ w2.cell? ⟨c.heap.size, 2, none⟩ = some z) ∧ (w2.frozen? ⟨c.heap.size, 0, none⟩ = false ∧ w2.frozen? ⟨c.heap.size, 1, none⟩ = false ∧ w2.frozen? ⟨c.heap.size, 2, none⟩ = false) ∧ c.heap.size < w2.heap.size := by
  have hX : (c.alloc (.cells #[x, y, z] t)).drew.heap.size = c.heap.size + 1 := by show (c.alloc _).heap.size = _; simp
  have hl : ∀ i, ({ block := c.heap.size, off := i } : Addr).block < (c.alloc (.cells #[x, y, z] t)).drew.heap.size := fun i => by rw [hX]; exact Nat.lt_succ_self _
  refine ⟨⟨(b1.cell (hl 0)).trans (by simp [go_sem]), (b1.cell (hl 1)).trans (by simp [go_sem]), (b1.cell (hl 2)).trans (by simp [go_sem])⟩, ⟨(b1.frozen (hl 0)).trans (by simp [go_sem]), (b1.frozen (hl 1)).trans (by simp [go_sem]), (b1.frozen (hl 2)).trans (by simp [go_sem])⟩, ?_⟩
  have := b1.size
  omega

theorem outU {w c : World} {x y z : Value} {t : TypeId} (b : Below (w.alloc (.cells #[x, y, z] t)).heap.size (w.alloc (.cells #[x, y, z] t)) c) :
    (c.cell? ⟨w.heap.size, 0, none⟩ = some x ∧ c.cell? ⟨w.heap.size, 1, none⟩ = some y ∧ c.cell? ⟨w.heap.size, 2, none⟩ = some z) ∧ (c.frozen? ⟨w.heap.size, 0, none⟩ = false ∧ c.frozen? ⟨w.heap.size, 1, none⟩ = false ∧ c.frozen? ⟨w.heap.size, 2, none⟩ = false) ∧ w.heap.size < c.heap.size ∧ Below w.heap.size w c := by
  have hX : (w.alloc (.cells #[x, y, z] t)).heap.size = w.heap.size + 1 := by simp
  have hl : ∀ i, ({ block := w.heap.size, off := i } : Addr).block < (w.alloc (.cells #[x, y, z] t)).heap.size := fun i => by rw [hX]; exact Nat.lt_succ_self _
  refine ⟨⟨(b.cell (hl 0)).trans (by simp [go_sem]), (b.cell (hl 1)).trans (by simp [go_sem]), (b.cell (hl 2)).trans (by simp [go_sem])⟩, ⟨(b.frozen (hl 0)).trans (by simp [go_sem]), (b.frozen (hl 1)).trans (by simp [go_sem]), (b.frozen (hl 2)).trans (by simp [go_sem])⟩, ?_, ?_⟩
  · have := b.size
    omega
  · exact ((Below.refl _ _).alloc (Nat.le_refl _) _).trans (b.mono (by rw [hX]; omega))

end

section
open Go.RowKit Go.Deep

theorem ext_small {s : ByteArray} (hs : s.size ≤ 1048576) : (s.extract 2 s.size).size ≤ 1048576 := by rw [ByteArray.size_extract]; omega

set_option maxRecDepth 100000 in
set_option maxHeartbeats 2000000 in
theorem impl_ParseUpdate_any (s : ByteArray) (w : World) (hs : s.size ≤ 1048576) :
    Calls Tryz.prog 15 #[.string s] w (UpdAns (parU s).1.1 (parU s).1.2.1 (parU s).1.2.2 (parU s).2 w) := by
  by_cases h3 : 3 ≤ s.size
  · have H3 := Lib.hid h3
    have hin : Hid (insU s = ((s[0].toNat : Int) == 43)) := insU_eq (by omega)
    go_enter Tryz.func15, Tryz.ntmps15
    go_wp2_with fail
    refine (digitsOf_any _ _ (ext_small hs)).mono ?_
    rintro e w1 ⟨A1, c1, rfl, ho, hb⟩
    have hdig := fmtU_digR h3
    obtain ⟨D, hD⟩ : ∃ D, (digR (s.extract 2 s.size).data.toList).1 = D := ⟨_, rfl⟩
    obtain ⟨okD, hok⟩ : ∃ b, (digR (s.extract 2 s.size).data.toList).2 = b := ⟨_, rfl⟩
    have hDl : Hid (D.length ≤ 1048576) := by
      show D.length ≤ _
      have h1 := digR_len (s.extract 2 s.size).data.toList
      have h2 : (s.extract 2 s.size).data.toList.length ≤ 1048576 := by simpa using ext_small hs
      rw [hD] at h1
      omega
    rw [hD] at ho hdig ⊢
    rw [hok]
    clear hD hok
    have HDG := Lib.hid hdig
    obtain ⟨⟨r0, r1, r2⟩, ⟨t0, t1, t2⟩, l0, bw⟩ := outU hb
    have HO1 : Hid (OwnI w1 (w.heap.size + 1) w1.heap.size (.slice A1 D.length c1) D) := by show OwnI _ _ _ _ _; simpa using ho
    clear ho hb hdig
    go_upto_region 4 with fail
    go_cut [6] (fun p wx => CutU (w.heap.size + 1) w1 (s.extract 1 2) (insU s) D p wx)
    case first =>
      have g0 : (0 : Int) < (s.size : Int) := by omega
      have g1 : (2 : Int) ≤ (s.size : Int) := by omega
      have g2 : 0 < s.size := by omega
      go_region_held3 (fun _ => True) (trivial) (fail)
      all_goals (go_wp2_with fail)
      all_goals (rw [← hin.out]; go_meet; exact (CutU.last (Below.refl _ _) HO1.out (Nat.le_refl _) (Nat.le_refl _)).drew)
    case rest =>
      generalize wc = w2 at hcut ⊢
      obtain ⟨A2, cc, B, lo, hi, rfl, ⟨e0, e1, e2⟩, ow, hhi, hBlt, hcB, hlo, hbw⟩ := hcut
      go_wp2_with fail
      refine (impl_FormatUpdate_any _ _ A2 _ cc _ D _ (ow.rd rfl) hhi hDl.out).mono ?_
      rintro e w3 ⟨rfl, hb3⟩
      have hB0 := hbw.trans (hb3.mono hbw.size)
      have x0 := (hB0.cell (p := ⟨w.heap.size, 0, none⟩) l0).trans r0
      have x1 := (hB0.cell (p := ⟨w.heap.size, 1, none⟩) l0).trans r1
      have x2 := (hB0.cell (p := ⟨w.heap.size, 2, none⟩) l0).trans r2
      have u0 := (hB0.frozen (p := ⟨w.heap.size, 0, none⟩) l0).trans t0
      have u1 := (hB0.frozen (p := ⟨w.heap.size, 1, none⟩) l0).trans t1
      have u2 := (hB0.frozen (p := ⟨w.heap.size, 2, none⟩) l0).trans t2
      have z0 := (hb3.cell (p := ⟨B, 0, none⟩) hBlt).trans e0
      have z1 := (hb3.cell (p := ⟨B, 1, none⟩) hBlt).trans e1
      have z2 := (hb3.cell (p := ⟨B, 2, none⟩) hBlt).trans e2
      have HO := Lib.hid (ow.below hb3 hhi)
      have HBL := Lib.hid (bw.trans (hB0.mono (by omega)))
      have hs3 := hb3.size
      clear ow hbw hb3 hB0 e0 e1 e2 r0 r1 r2 t0 t1 t2
      by_cases hq : fmtU (s.extract 1 2) (insU s) D = s
      · have hf := Lib.hid ((by rw [parU_yes h3 (HDG.out.1.1 hq), ← HDG.out.2 (HDG.out.1.1 hq)] : parU s = ((s.extract 1 2, insU s, D), true)))
        have q1 : ((fmtU (s.extract 1 2) (insU s) D).toList == s.toList) = true := by rw [hq]; simp
        clear hq
        go_wp2_with fail
        rw [hf.out]
        refine bodyPost_ret (v := .tuple #[.agg #[.string (s.extract 1 2), .bool (insU s), .slice A2 (D).length cc], .bool true]) (by simp [results, Tryz.results15, go_sem, *]) rfl (UpdAns.of ?_ ?_)
        · refine OwnI.downTo (lo := lo) (OwnI.wide (hi := hi) ?_ (by simp; omega)) (by omega)
          repeat (with_reducible first | exact HO.out | refine OwnI.setOff ?_ (.inl (by omega)))
        · repeat (first | exact HBL.out | (refine Below.setCell ?_ ?_ _; rotate_left; (simp; try omega)))
      · have hf := Lib.hid (parU_not fun h => hq (HDG.out.1.2 h))
        have q1 := str_eq0 hq
        clear hq
        go_wp2_with fail
        rw [hf.out]
        refine bodyPost_ret (v := .tuple #[.agg #[.string ⟨#[]⟩, .bool false, .slice none 0 0], .bool false]) (by simp [results, Tryz.results15, go_sem, *]) rfl (UpdAns.of (OwnI.nil _ _ _) ?_)
        repeat (first | exact HBL.out | (refine Below.setCell ?_ ?_ _; rotate_left; (simp; try omega)))
  · have h3' : s.size < 3 := by omega
    have hf := Lib.hid (parU_no h3')
    clear h3
    go_enter Tryz.func15, Tryz.ntmps15
    go_wp2_with fail
    rw [hf.out]
    refine bodyPost_ret (v := .tuple #[.agg #[.string ⟨#[]⟩, .bool false, .slice none 0 0], .bool false]) (by simp [results, Tryz.results15, go_sem, *]) rfl (UpdAns.of (OwnI.nil _ _ _) ?_)
    repeat (first | exact (Below.refl _ _).alloc (Nat.le_refl _) _ | (refine Below.setCell ?_ ?_ _; rotate_left; (simp; try omega)))

end

section
open Go.RowKit Go.Deep

theorem equalRows1_q (A A' : Option Addr) (n c n' c' : Nat) (zs zs' : List Int) (w : World) (hr : RdI w w.heap.size A n zs) (hr' : RdI w w.heap.size A' n' zs') (hn : n ≤ 9223372036854775807) (hn' : n' ≤ 9223372036854775807) :
    Calls Tryz.prog 82 #[.slice A n c, .slice A' n' c'] w fun e w' => e = .returned (.bool (decide (zs = zs'))) ∧ Qt w w' := by
  go_enter Tryz.func82, Tryz.ntmps82
  go_wp2_with fail
  refine (slicesEqual_q A A' n c n' c' zs zs' w hr hr' hn hn').mono ?_
  rintro e w' ⟨rfl, hq⟩
  have HQ := Lib.hid hq
  clear hq
  go_wp2_with fail
  go_ret
  exact ⟨rfl, HQ.out⟩

set_option maxRecDepth 100000 in
set_option maxHeartbeats 400000 in
theorem equalFunc_q (A A' : Option Addr) (n c n' c' : Nat) (zs zs' : List (List Int)) (w : World) (hr : RdR w w.heap.size A n zs) (hr' : RdR w w.heap.size A' n' zs') (hn : n ≤ 9223372036854775807) (hn' : n' ≤ 9223372036854775807) :
    Calls Tryz.prog 81 #[.slice A n c, .slice A' n' c', .func (.func 82) #[] #[]] w fun e w' => e = .returned (.bool (decide (zs = zs'))) ∧ Qt w w' := by
  by_cases hne : n = n'
  · subst hne
    go_enter Tryz.func81, Tryz.ntmps81
    go_wp2
    go_loopw [17] (fun i wr => ∃ k : Nat, k ≤ n ∧ i = .int .i64 k ∧ Hid (zs.take k = zs'.take k) ∧ Qt w wr) (fun i _ => n - (intOf i).toNat)
    case atStart => exact ⟨0, by omega, rfl, rfl, Qt.refl _⟩
    case round =>
      obtain ⟨k, hk, rfl, hpre, hbel⟩ := hrel
      by_cases hlt : k < n
      · obtain ⟨b, o, x, A1, c1, rfl, _, hx, hc, hrd, hm⟩ := RdR.at_ hr hlt
        obtain ⟨b', o', x', A2, c2, rfl, _, hx', hc', hrd', hm'⟩ := RdR.at_ hr' hlt
        have hc1 := (hbel.cell (p := ⟨b, o + k, none⟩)).trans hc
        have hc2 := (hbel.cell (p := ⟨b', o' + k, none⟩)).trans hc'
        have HX := Lib.hid hx
        have HX' := Lib.hid hx'
        have KE := Lib.hid (equalRows1_q A1 A2 x.length c1 x'.length c2 x x' wr (hbel.rdI hrd) (hbel.rdI hrd') (by unfold maxLen at hm; omega) (by unfold maxLen at hm'; omega))
        clear hx hx' hc hc' hrd hrd'
        by_cases he : x = x'
        · have hpre' : Hid (zs.take (k + 1) = zs'.take (k + 1)) := by
            show zs.take (k + 1) = zs'.take (k + 1)
            rw [List.take_add_one, List.take_add_one, HX.out, HX'.out, he, hpre.out]
          have hd := Lib.hid (decide_eq_true he)
          clear he
          go_wp2_with fail
          refine KE.out.mono ?_
          rintro e w1 ⟨rfl, hq⟩
          rw [hd.out]
          have HQ := Lib.hid (hbel.trans hq)
          clear hq
          go_wp2_with fail
          refine ⟨⟨k + 1, by omega, by go_num, hpre', HQ.out⟩, ?_⟩
          simp [intOf]
          omega
        · have hfin : Hid (decide (zs = zs') = false) := by
            show decide (zs = zs') = false
            rw [decide_eq_false_iff_not]
            rintro rfl
            have h1 := HX.out
            rw [HX'.out] at h1
            exact he (by injection h1 with h1; exact h1.symm)
          have hd := Lib.hid (decide_eq_false he)
          clear he
          go_wp2_with fail
          refine KE.out.mono ?_
          rintro e w1 ⟨rfl, hq⟩
          rw [hd.out]
          have HQ := Lib.hid (hbel.trans hq)
          clear hq
          go_wp2_with fail
          go_ret
          exact ⟨by rw [hfin.out] <;> rfl, HQ.out⟩
      · obtain rfl : k = n := by omega
        have hfin : Hid (decide (zs = zs') = true) := by
          show decide (zs = zs') = true
          rw [decide_eq_true_eq]
          have h1 := hpre.out
          rwa [List.take_of_length_le (Nat.le_of_eq hr.1), List.take_of_length_le (Nat.le_of_eq hr'.1)] at h1
        go_wp2
        go_ret
        exact ⟨by rw [hfin.out] <;> rfl, hbel⟩
  · have hfin : Hid (decide (zs = zs') = false) := by
      show decide (zs = zs') = false
      rw [decide_eq_false_iff_not]
      rintro rfl
      exact hne (hr.1.symm.trans hr'.1)
    have hbq : ((n : Int) != (n' : Int)) = true := by simp; omega
    clear hne
    go_enter Tryz.func81, Tryz.ntmps81
    go_wp2
    go_ret
    exact ⟨by rw [hfin.out] <;> rfl, Qt.refl _⟩

theorem equalRows_q (A A' : Option Addr) (n c n' c' : Nat) (zs zs' : List (List Int)) (w : World) (hr : RdR w w.heap.size A n zs) (hr' : RdR w w.heap.size A' n' zs') (hn : n ≤ 9223372036854775807) (hn' : n' ≤ 9223372036854775807) :
    Calls Tryz.prog 64 #[.slice A n c, .slice A' n' c'] w fun e w' => e = .returned (.bool (decide (zs = zs'))) ∧ Qt w w' := by
  go_enter Tryz.func64, Tryz.ntmps64
  go_wp2_with fail
  refine (equalFunc_q A A' n c n' c' zs zs' w hr hr' hn hn').mono ?_
  rintro e w' ⟨rfl, hq⟩
  have HQ := Lib.hid hq
  clear hq
  go_wp2_with fail
  go_ret
  exact ⟨rfl, HQ.out⟩

end

section
open Go.RowKit Go.Deep

/-- Two tables are the same. -/
def eqT (nm nm' : ByteArray) (ar ar' : Int) (rs rs' : List (List Int)) : Bool := decide (nm = nm' ∧ ar = ar' ∧ rs = rs')

set_option maxRecDepth 100000 in
set_option maxHeartbeats 400000 in
theorem impl_EqualTables_any (nm nm' : ByteArray) (ar ar' : Int) (A A' : Option Addr) (n c n' c' B B' : Nat) (rs rs' : List (List Int)) (w : World) (hr : RdR w B A n rs) (hr' : RdR w B' A' n' rs') (hB : B ≤ w.heap.size) (hB' : B' ≤ w.heap.size) (hn : n ≤ 9223372036854775807) (hn' : n' ≤ 9223372036854775807) :
    Calls Tryz.prog 32 #[.agg #[.string nm, .int .i64 ar, .slice A n c], .agg #[.string nm', .int .i64 ar', .slice A' n' c']] w fun e w' => e = .returned (.bool (eqT nm nm' ar ar' rs rs')) ∧ Below w.heap.size w w' := by
  have HB := Lib.hid (Below.refl w.heap.size w)
  by_cases h1 : nm = nm'
  · subst h1
    by_cases h2 : ar = ar'
    · subst h2
      have hf : Hid (eqT nm nm ar ar rs rs' = decide (rs = rs')) := by show _ = _; simp [eqT]
      go_enter Tryz.func32, Tryz.ntmps32
      go_wp2_with fail
      refine (equalRows_q A A' n c n' c' rs rs' _ ((RdR.belowB hr (((Below.refl B w).alloc hB _).alloc (by simp; omega) _) (Nat.le_refl _)).more (by simp; omega)) ((RdR.belowB hr' (((Below.refl B' w).alloc hB' _).alloc (by simp; omega) _) (Nat.le_refl _)).more (by simp; omega)) hn hn').mono ?_
      rintro e w1 ⟨rfl, hq⟩
      have hbel := Lib.hid ((((HB.out).alloc (Nat.le_refl _) _).alloc (by simp) _).trans (hq.below _))
      clear hq
      go_wp2_with fail
      go_ret
      exact ⟨by rw [hf.out] <;> rfl, hbel.out⟩
    · have hf : Hid (eqT nm nm ar ar' rs rs' = false) := by show _ = _; simp [eqT, h2]
      have q2 : (ar == ar') = false := by simpa using h2
      clear h2
      go_enter Tryz.func32, Tryz.ntmps32
      go_wp2_with fail
      go_ret
      exact ⟨by rw [hf.out] <;> rfl, ((HB.out).alloc (Nat.le_refl _) _).alloc (by simp) _⟩
  · have hf : Hid (eqT nm nm' ar ar' rs rs' = false) := by show _ = _; simp [eqT, h1]
    have q1 := str_eq0 h1
    clear h1
    go_enter Tryz.func32, Tryz.ntmps32
    go_wp2_with fail
    go_ret
    exact ⟨by rw [hf.out] <;> rfl, ((HB.out).alloc (Nat.le_refl _) _).alloc (by simp) _⟩

set_option maxRecDepth 100000 in
set_option maxHeartbeats 1000000 in
theorem spec_EqualTables_any (nm nm' : ByteArray) (ar ar' : Int) (A A' : Option Addr) (n c n' c' B B' : Nat) (rs rs' : List (List Int)) (w : World) (hr : RdR w B A n rs) (hr' : RdR w B' A' n' rs') (hB : B ≤ w.heap.size) (hB' : B' ≤ w.heap.size) (hn : n ≤ 9223372036854775807) (hn' : n' ≤ 9223372036854775807) :
    Calls Tryz.prog 41 #[.agg #[.string nm, .int .i64 ar, .slice A n c], .agg #[.string nm', .int .i64 ar', .slice A' n' c']] w fun e w' => e = .returned (.bool (eqT nm nm' ar ar' rs rs')) ∧ Below w.heap.size w w' := by
  have HB := Lib.hid (Below.refl w.heap.size w)
  by_cases h1 : nm = nm'
  · subst h1
    by_cases h2 : ar = ar'
    · subst h2
      by_cases hne : n = n'
      · subst hne
        have hf : Hid (eqT nm nm ar ar rs rs' = decide (rs = rs')) := by show _ = _; simp [eqT]
        have q2 : (ar != ar) = false := by simp
        have q3 : ((n : Int) != (n : Int)) = false := by simp
        go_enter Tryz.func41, Tryz.ntmps41
        go_wp2_with fail
        generalize hW : (w.alloc (.cells #[.string nm, .int .i64 ar, .slice A n c] 51)).alloc (.cells #[.string nm, .int .i64 ar, .slice A' n c'] 51) = W
        have hWb : Hid (Below w.heap.size w W) := by rw [← hW]; exact ((HB.out).alloc (Nat.le_refl _) _).alloc (by simp) _
        have w1 : W.cell? ⟨w.heap.size, 2, none⟩ = some (.slice A n c) := by rw [← hW]; simp [go_sem]
        have w2 : W.cell? ⟨w.heap.size + 1, 2, none⟩ = some (.slice A' n c') := by rw [← hW]; simp [go_sem]
        have hr1 : RdR W W.heap.size A n rs := by rw [← hW]; exact (RdR.belowB hr (((Below.refl B w).alloc hB _).alloc (by simp; omega) _) (Nat.le_refl _)).more (by simp; omega)
        have hr2 : RdR W W.heap.size A' n rs' := by rw [← hW]; exact (RdR.belowB hr' (((Below.refl B' w).alloc hB' _).alloc (by simp; omega) _) (Nat.le_refl _)).more (by simp; omega)
        clear hW hr hr'
        go_loopw [5] (fun i wr => ∃ k : Nat, k ≤ n ∧ i = .int .i64 k ∧ Hid (rs.take k = rs'.take k) ∧ Qt W wr) (fun i _ => n - (intOf i).toNat)
        case atStart => exact ⟨0, by omega, rfl, rfl, Qt.refl _⟩
        case round =>
          obtain ⟨k, hk, rfl, hpre, hbel⟩ := hrel
          have c1 := (hbel.cell (p := ⟨w.heap.size, 2, none⟩)).trans w1
          have c2 := (hbel.cell (p := ⟨w.heap.size + 1, 2, none⟩)).trans w2
          by_cases hlt : k < n
          · obtain ⟨b, o, x, A1, cc1, rfl, _, hx, hc, hrd, hm⟩ := RdR.at_ hr1 hlt
            obtain ⟨b', o', x', A2, cc2, rfl, _, hx', hc', hrd', hm'⟩ := RdR.at_ hr2 hlt
            have hc1 := (hbel.cell (p := ⟨b, o + k, none⟩)).trans hc
            have hc2 := (hbel.cell (p := ⟨b', o' + k, none⟩)).trans hc'
            have g1 : (0 : Int) ≤ (k : Int) := by omega
            have g2 : (k : Int) < (n : Int) := by omega
            have g3 : (k : Int).toNat = k := by omega
            have HX := Lib.hid hx
            have HX' := Lib.hid hx'
            have KE := Lib.hid (fun q => spec_CompareRows_q A1 A2 x.length cc1 x'.length cc2 x x' (wr.drewN q) (hbel.rdI hrd) (hbel.rdI hrd') (by unfold maxLen at hm; omega) (by unfold maxLen at hm'; omega))
            clear hx hx' hc hc' hrd hrd'
            by_cases he : x = x'
            · have hpre' : Hid (rs.take (k + 1) = rs'.take (k + 1)) := by
                show rs.take (k + 1) = rs'.take (k + 1)
                rw [List.take_add_one, List.take_add_one, HX.out, HX'.out, he, hpre.out]
              have KE' : Hid (∀ q, Calls Tryz.prog 62 #[.slice A1 x.length cc1, .slice A2 x'.length cc2] (wr.drewN q) fun e w' => e = .returned (.int .i64 0) ∧ Qt (wr.drewN q) w') := fun q => (KE.out q).mono fun _ _ ⟨h, hq⟩ => ⟨by rw [h, cmpL_zero.2 he], hq⟩
              clear he KE
              go_wp2_with fail
              go_quiet ((go_at_call 62; exact Calls.quiet_of (KE'.out _)))
              clear g3
              go_wp2_with fail
              refine ⟨⟨k + 1, by omega, by go_num, hpre', hbel.drewN _⟩, ?_⟩
              simp [intOf]
              omega
            · have hfin : Hid (decide (rs = rs') = false) := by
                show decide (rs = rs') = false
                rw [decide_eq_false_iff_not]
                rintro rfl
                have h1 := HX.out
                rw [HX'.out] at h1
                exact he (by injection h1 with h1; exact h1.symm)
              obtain ⟨y, hy⟩ : ∃ y, y = cmpL x x' := ⟨_, rfl⟩
              have hy0 : (y != 0) = true := by
                rw [hy]
                have := mt cmpL_zero.1 he
                simpa using this
              rw [← hy] at KE
              clear hy he
              go_wp2_with fail
              go_quiet ((go_at_call 62; exact Calls.quiet_of (KE.out _)))
              clear g3
              go_wp2_with fail
              go_ret
              exact ⟨by rw [hf.out, hfin.out] <;> rfl, hWb.out.trans ((hbel.drewN _).below _)⟩
          · obtain rfl : k = n := by omega
            have hfin : Hid (decide (rs = rs') = true) := by
              show decide (rs = rs') = true
              rw [decide_eq_true_eq]
              have h1 := hpre.out
              rwa [List.take_of_length_le (Nat.le_of_eq hr1.1), List.take_of_length_le (Nat.le_of_eq hr2.1)] at h1
            go_wp2_with fail
            go_ret
            exact ⟨by rw [hf.out, hfin.out] <;> rfl, hWb.out.trans (hbel.below _)⟩
      · have hf : Hid (eqT nm nm ar ar rs rs' = false) := by
          have : ¬ rs = rs' := fun e => hne (by rw [← hr.1, ← hr'.1, e])
          show _ = _
          simp [eqT, this]
        have q2 : (ar != ar) = false := by simp
        have q3 : ((n : Int) != (n' : Int)) = true := by simp; omega
        clear hne
        go_enter Tryz.func41, Tryz.ntmps41
        go_wp2_with fail
        go_ret
        exact ⟨by rw [hf.out] <;> rfl, ((HB.out).alloc (Nat.le_refl _) _).alloc (by simp) _⟩
    · have hf : Hid (eqT nm nm ar ar' rs rs' = false) := by show _ = _; simp [eqT, h2]
      have q2 : (ar != ar') = true := by simpa using h2
      clear h2
      go_enter Tryz.func41, Tryz.ntmps41
      go_wp2_with fail
      go_ret
      exact ⟨by rw [hf.out] <;> rfl, ((HB.out).alloc (Nat.le_refl _) _).alloc (by simp) _⟩
  · have hf : Hid (eqT nm nm' ar ar' rs rs' = false) := by show _ = _; simp [eqT, h1]
    have q1 := str_ne1 h1
    have q2 := str_eq0 h1
    have q3 := str_ne h1
    clear h1
    go_enter Tryz.func41, Tryz.ntmps41
    go_wp2_with fail
    go_ret
    exact ⟨by rw [hf.out] <;> rfl, ((HB.out).alloc (Nat.le_refl _) _).alloc (by simp) _⟩

end

section
open Go.RowKit Go.Deep

theorem tab_eq_iff {a b : Tab} : a = b ↔ a.nm = b.nm ∧ a.ar = b.ar ∧ a.rs = b.rs := by
  obtain ⟨n, r, s⟩ := a
  obtain ⟨n', r', s'⟩ := b
  simp

instance : DecidableEq Tab := fun _ _ => decidable_of_iff _ tab_eq_iff.symm

theorem eqT_yes {a b : Tab} (h : a = b) : eqT a.nm b.nm a.ar b.ar a.rs b.rs = true := decide_eq_true (tab_eq_iff.1 h)

theorem eqT_no {a b : Tab} (h : ¬ a = b) : eqT a.nm b.nm a.ar b.ar a.rs b.rs = false := decide_eq_false (mt tab_eq_iff.2 h)

theorem ne_of_get {ts ts' : List Tab} {k : Nat} {a b : Tab} (h : ts[k]? = some a) (h' : ts'[k]? = some b) (hne : ¬ a = b) : decide (ts = ts') = false := by
  rw [decide_eq_false_iff_not]
  rintro rfl
  rw [h] at h'
  injection h' with h'
  exact hne h'

/-- The six cells of two elements, at any later world. -/
def Six (b b' o o' : Nat) (k : Nat) (t t' : Tab) (A1 A2 : Option Addr) (c1 c2 : Nat) (W : World) : Prop :=
  W.cell? ⟨b, o + k * 3, none⟩ = some (.string t.nm) ∧ W.cell? ⟨b, o + k * 3 + 1, none⟩ = some (.int .i64 t.ar) ∧ W.cell? ⟨b, o + k * 3 + 2, none⟩ = some (.slice A1 t.rs.length c1) ∧ W.cell? ⟨b', o' + k * 3, none⟩ = some (.string t'.nm) ∧ W.cell? ⟨b', o' + k * 3 + 1, none⟩ = some (.int .i64 t'.ar) ∧ W.cell? ⟨b', o' + k * 3 + 2, none⟩ = some (.slice A2 t'.rs.length c2)

theorem Six.next {b b' o o' k : Nat} {t t' : Tab} {A1 A2 : Option Addr} {c1 c2 : Nat} {W W' : World} (h : Six b b' o o' k t t' A1 A2 c1 c2 W) (hb : Below W.heap.size W W') (h1 : b < W.heap.size) (h2 : b' < W.heap.size) : Six b b' o o' k t t' A1 A2 c1 c2 W' :=
  ⟨(hb.cell (p := ⟨b, o + k * 3, none⟩) h1).trans h.1, (hb.cell (p := ⟨b, o + k * 3 + 1, none⟩) h1).trans h.2.1, (hb.cell (p := ⟨b, o + k * 3 + 2, none⟩) h1).trans h.2.2.1, (hb.cell (p := ⟨b', o' + k * 3, none⟩) h2).trans h.2.2.2.1, (hb.cell (p := ⟨b', o' + k * 3 + 1, none⟩) h2).trans h.2.2.2.2.1, (hb.cell (p := ⟨b', o' + k * 3 + 2, none⟩) h2).trans h.2.2.2.2.2⟩

set_option maxRecDepth 100000 in
set_option maxHeartbeats 1000000 in
theorem equalFuncT_any (A A' : Option Addr) (n c n' c' B B' : Nat) (ts ts' : List Tab) (w : World) (hr : RdT w B A n ts) (hr' : RdT w B' A' n' ts') (hB : B ≤ w.heap.size) (hB' : B' ≤ w.heap.size) (hn : n ≤ 9223372036854775806) (hn' : n' ≤ 9223372036854775806) :
    Calls Tryz.prog 31 #[.slice A n c, .slice A' n' c', .func (.func 32) #[] #[]] w fun e w' => e = .returned (.bool (decide (ts = ts'))) ∧ Below w.heap.size w w' := by
  by_cases hne : n = n'
  · subst hne
    go_enter Tryz.func31, Tryz.ntmps31
    go_wp2_with fail
    go_loopw [7, 8, 9, 17] (fun _ _ _ i wr => ∃ k : Nat, k ≤ n ∧ i = .int .i64 k ∧ Hid (ts.take k = ts'.take k) ∧ Hid (Below w.heap.size w wr)) (fun _ _ _ i _ => n - (intOf i).toNat)
    case atStart => exact ⟨0, by omega, rfl, rfl, Below.refl _ _⟩
    case round =>
      obtain ⟨k, hk, rfl, hpre, hbel⟩ := hrel
      have hsz := hbel.out.size
      by_cases hlt : k < n
      · obtain ⟨b, o, t, A1, c1, rfl, hb, hx, hc0, hc1, hc2, hrd, hm, _⟩ := RdT.at_ hr hlt
        obtain ⟨b', o', t', A2, c2, rfl, hb', hx', hc0', hc1', hc2', hrd', hm', _⟩ := RdT.at_ hr' hlt
        have hb1 : b < wr.heap.size := by omega
        have hb1' : b' < wr.heap.size := by omega
        have d0 := (hbel.out.cell (p := ⟨b, o + k * 3, none⟩) (by show b < _; omega)).trans hc0
        have d1 := (hbel.out.cell (p := ⟨b, o + k * 3 + 1, none⟩) (by show b < _; omega)).trans hc1
        have d2 := (hbel.out.cell (p := ⟨b, o + k * 3 + 2, none⟩) (by show b < _; omega)).trans hc2
        have d3 := (hbel.out.cell (p := ⟨b', o' + k * 3, none⟩) (by show b' < _; omega)).trans hc0'
        have d4 := (hbel.out.cell (p := ⟨b', o' + k * 3 + 1, none⟩) (by show b' < _; omega)).trans hc1'
        have d5 := (hbel.out.cell (p := ⟨b', o' + k * 3 + 2, none⟩) (by show b' < _; omega)).trans hc2'
        have KE : Hid (∀ W, Below wr.heap.size wr W → Calls Tryz.prog 32 #[.agg #[.string t.nm, .int .i64 t.ar, .slice A1 t.rs.length c1], .agg #[.string t'.nm, .int .i64 t'.ar, .slice A2 t'.rs.length c2]] W fun e w' => e = .returned (.bool (eqT t.nm t'.nm t.ar t'.ar t.rs t'.rs)) ∧ Below W.heap.size W w') := fun W b1 =>
          impl_EqualTables_any t.nm t'.nm t.ar t'.ar A1 A2 t.rs.length c1 t'.rs.length c2 B B' t.rs t'.rs W (RdR.belowB hrd (hbel.out.trans (b1.mono hsz)) hB) (RdR.belowB hrd' (hbel.out.trans (b1.mono hsz)) hB') (Nat.le_trans hB (Nat.le_trans hsz b1.size)) (Nat.le_trans hB' (Nat.le_trans hsz b1.size)) (by unfold maxLen at hm; exact hm) (by unfold maxLen at hm'; exact hm')
        have HX := Lib.hid hx
        have HX' := Lib.hid hx'
        have BR := Lib.hid (Below.refl wr.heap.size wr)
        clear hx hx' hc0 hc1 hc2 hc0' hc1' hc2' hrd hrd' hm hm'
        by_cases he : t = t'
        · have hpre' : Hid (ts.take (k + 1) = ts'.take (k + 1)) := by
            show _ = _
            rw [List.take_add_one, List.take_add_one, HX.out, HX'.out, he, hpre.out]
          rw [eqT_yes he] at KE
          clear he
          obtain ⟨nm, ar, rs⟩ := t
          obtain ⟨nm', ar', rs'⟩ := t'
          go_wp2_with fail
          refine (KE.out _ ((BR.out.alloc (Nat.le_refl _) _).alloc (by simp) _)).mono ?_
          rintro e w1 ⟨rfl, hq⟩
          have HQ := Lib.hid (hbel.out.trans ((((BR.out.alloc (Nat.le_refl _) _).alloc (by simp) _).trans (hq.mono (by simp; omega))).mono hsz))
          clear hq
          go_wp2_with fail
          refine ⟨⟨k + 1, by omega, by go_num, hpre', HQ⟩, ?_⟩
          simp [intOf]
          omega
        · have hfin := Lib.hid (ne_of_get HX.out HX'.out he)
          rw [eqT_no he] at KE
          clear he
          obtain ⟨nm, ar, rs⟩ := t
          obtain ⟨nm', ar', rs'⟩ := t'
          go_wp2_with fail
          refine (KE.out _ ((BR.out.alloc (Nat.le_refl _) _).alloc (by simp) _)).mono ?_
          rintro e w1 ⟨rfl, hq⟩
          have HQ := Lib.hid (hbel.out.trans ((((BR.out.alloc (Nat.le_refl _) _).alloc (by simp) _).trans (hq.mono (by simp; omega))).mono hsz))
          clear hq
          go_wp2_with fail
          go_ret
          exact ⟨by rw [hfin.out] <;> rfl, HQ.out⟩
      · obtain rfl : k = n := by omega
        have hfin : Hid (decide (ts = ts') = true) := by
          show decide (ts = ts') = true
          rw [decide_eq_true_eq]
          have h1 := hpre.out
          rwa [List.take_of_length_le (Nat.le_of_eq hr.1), List.take_of_length_le (Nat.le_of_eq hr'.1)] at h1
        go_wp2_with fail
        go_ret
        exact ⟨by rw [hfin.out] <;> rfl, hbel.out⟩
  · have hfin : Hid (decide (ts = ts') = false) := by
      show decide (ts = ts') = false
      rw [decide_eq_false_iff_not]
      rintro rfl
      exact hne (hr.1.symm.trans hr'.1)
    have hbq : ((n : Int) != (n' : Int)) = true := by simp; omega
    clear hne
    go_enter Tryz.func31, Tryz.ntmps31
    go_wp2_with fail
    go_ret
    exact ⟨by rw [hfin.out] <;> rfl, Below.refl _ _⟩

set_option maxRecDepth 100000 in
set_option maxHeartbeats 400000 in
theorem impl_EqualDatabases_any (A A' : Option Addr) (n c n' c' B B' : Nat) (ts ts' : List Tab) (w : World) (hr : RdT w B A n ts) (hr' : RdT w B' A' n' ts') (hB : B ≤ w.heap.size) (hB' : B' ≤ w.heap.size) (hn : n ≤ 9223372036854775806) (hn' : n' ≤ 9223372036854775806) :
    Calls Tryz.prog 10 #[.agg #[.slice A n c], .agg #[.slice A' n' c']] w fun e w' => e = .returned (.bool (decide (ts = ts'))) ∧ Below w.heap.size w w' := by
  have HB := Lib.hid (Below.refl w.heap.size w)
  go_enter Tryz.func10, Tryz.ntmps10
  go_wp2_with fail
  refine (equalFuncT_any A A' n c n' c' B B' ts ts' _ (RdT.belowB hr (((Below.refl B w).alloc hB _).alloc (by simp; omega) _) (Nat.le_refl _)) (RdT.belowB hr' (((Below.refl B' w).alloc hB' _).alloc (by simp; omega) _) (Nat.le_refl _)) (by simp; omega) (by simp; omega) hn hn').mono ?_
  rintro e w1 ⟨rfl, hq⟩
  have hbel := Lib.hid ((((HB.out).alloc (Nat.le_refl _) _).alloc (by simp) _).trans (hq.mono (by simp; omega)))
  clear hq
  go_wp2_with fail
  go_ret
  exact ⟨rfl, hbel.out⟩

end
end Go.Proofs.YtccnhocekgikiaaGreat
