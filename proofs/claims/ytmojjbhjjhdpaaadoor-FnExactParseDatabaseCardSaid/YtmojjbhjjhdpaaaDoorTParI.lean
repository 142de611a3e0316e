/- impl.ParseTable. No condition but the size that the laws let in, and the library's variables. -/
import Derived.Test.YtmojjbhjjhdpaaaDoorTPar0
import Derived.Test.YtmojjbhjjhdpaaaDoorTFmt
import Derived.Deep.RegionHeld3
import Derived.Deep.DeepCutAuto
namespace Go.Proofs.YtmojjbhjjhdpaaaDoor
open Go.RowKit Go.Deep

theorem bel_step' {wj W w1 : World} (h : Below wj.heap.size wj W) (b1 : Below W.heap.size W w1) : Below wj.heap.size wj w1 := h.trans (b1.mono h.size)

set_option maxRecDepth 100000 in
set_option maxHeartbeats 2000000 in
theorem impl_ParseTable_any (s : ByteArray) (w : World) (hs : s.size ≤ 1048576) (ht : Tb w) (hm : Mx w) :
    Calls Tryd.prog 29 #[.string s] w (TabBool (parT s) w) := by
  by_cases h3 : 3 ≤ s.size
  · have H3 := Lib.hid h3
    obtain ⟨x, hx⟩ : ∃ x, s[1].toNat = x := ⟨_, rfl⟩
    have hx256 : x < 256 := by have := s[1].toNat_lt; omega
    have har : Hid (arT s = (x : Int) - 48) := by show _ = _; rw [arT_eq (by omega), hx]
    obtain ⟨D, hD⟩ : ∃ D, rowsI (s.extract 3 s.size) = D := ⟨_, rfl⟩
    have hDl : Hid (D.length ≤ 1048576) := by
      show D.length ≤ _
      rw [← hD]
      have h1 := rowsI_len (s.extract 3 s.size)
      rw [ByteArray.size_extract] at h1
      omega
    have HDG := Lib.hid (fmtT_rows h3)
    have KR : Hid (∀ W, Below w.heap.size w W → Calls Tryd.prog 80 #[.string (s.extract 3 s.size)] W (RowsNew D W)) := fun W b => by rw [← hD]; exact rowsOf_any (s.extract 3 s.size) W (ext_le hs) (hm.on b)
    rw [hD, har.out] at HDG
    go_enter Tryd.func29, Tryd.ntmps29
    go_upto_region 3 with fail
    generalize hW : w.alloc (.cells #[.string ⟨#[]⟩, .int .i64 0, .slice none 0 0] 41) = w1
    obtain ⟨⟨r0, r1, r2⟩, ⟨t0, t1, t2⟩, l0, bw⟩ : (w1.cell? ⟨w.heap.size, 0, none⟩ = some (.string ⟨#[]⟩) ∧ w1.cell? ⟨w.heap.size, 1, none⟩ = some (.int .i64 0) ∧ w1.cell? ⟨w.heap.size, 2, none⟩ = some (.slice none 0 0)) ∧ (w1.frozen? ⟨w.heap.size, 0, none⟩ = false ∧ w1.frozen? ⟨w.heap.size, 1, none⟩ = false ∧ w1.frozen? ⟨w.heap.size, 2, none⟩ = false) ∧ w.heap.size < w1.heap.size ∧ Below w.heap.size w w1 := by
      rw [← hW]
      exact outU (Below.refl _ _)
    clear hW
    go_cut [4] (fun p wx => CutTb (w.heap.size + 1) w1 (nmT s) ((x : Int) - 48) D p wx)
    case first =>
      have g0 : (0 : Int) < (s.size : Int) := by omega
      have g1 : (3 : Int) ≤ (s.size : Int) := by omega
      have g2 : 1 < s.size := by omega
      have g3 : (1 : Int) < (s.size : Int) := by omega
      have g4 : (1 : Int) ≤ (s.size : Int) := by omega
      have gw0 : IntKind.i64.wrap (x : Int) = (x : Int) := IntWalk.i64_in _ (by omega)
      have gw : IntKind.i64.wrap ((x : Int) - 48) = (x : Int) - 48 := IntWalk.i64_in _ (by omega)
      have HBW := Lib.hid bw
      have bz : Below w1.heap.size w1 w1.drew := (Below.refl _ _).drew
      have KA : Hid (∀ x y z t, Calls Tryd.prog 80 #[.string (s.extract 3 s.size)] (w1.alloc (.cells #[x, y, z] t)).drew fun e w4 => RowsNew D (w1.alloc (.cells #[x, y, z] t)).drew e w4 ∧
          (w4.cell? ⟨w1.heap.size, 0, none⟩ = some x ∧ w4.cell? ⟨w1.heap.size, 1, none⟩ = some y ∧ w4.cell? ⟨w1.heap.size, 2, none⟩ = some z) ∧ (w4.frozen? ⟨w1.heap.size, 0, none⟩ = false ∧ w4.frozen? ⟨w1.heap.size, 1, none⟩ = false ∧ w4.frozen? ⟨w1.heap.size, 2, none⟩ = false) ∧ w1.heap.size < w4.heap.size) := fun x y z t =>
        (KR.out _ ((HBW.out.alloc HBW.out.size _).drew)).mono fun e w4 h => by
          obtain ⟨A1, c1, he, ho, b1⟩ := h
          exact ⟨⟨A1, c1, he, ho, b1⟩, box3_madeD b1⟩
      have KB : Hid (∀ W, Below w1.heap.size w1 W → Calls Tryd.prog 80 #[.string (s.extract 3 s.size)] W (RowsNew D W)) := fun W b => KR.out W (HBW.out.trans (b.mono HBW.out.size))
      clear bw
      go_region_held3 (fun _ => True) (trivial) (first
        | (go_at_call 80; (with_reducible refine (KA.out _ _ _ _).mono ?_); rintro e w4 ⟨⟨A1, c1, rfl, ho, b1⟩, ⟨e0, e1, e2⟩, ⟨f0, f1, f2⟩, lb⟩)
        | (go_at_call 80; (with_reducible refine (KB.out _ bz).mono ?_); rintro e w4 ⟨A1, c1, rfl, ho, b1⟩))
      all_goals (go_wp2_with fail)
      all_goals (go_meet; (try simp only [gw0, gw]); first | exact CutTb.first b1 ho l0 | exact CutTb.last (bel_step' bz b1) ho (Nat.le_refl _) l0)
    case rest =>
      generalize wc = w2 at hcut ⊢
      obtain ⟨A2, cc, B, lo, hi, rfl, ⟨e0, e1, e2⟩, ow, hhi, hBlt, hcB, hlo, hbw⟩ := hcut
      have ht2 : Tb w2 := ht.on (bw.trans (hbw.mono bw.size))
      go_wp2_with fail
      refine (impl_FormatTable_any _ _ A2 _ cc _ D _ ht2 (ow.rd rfl) hhi hDl.out).mono ?_
      rintro e w3 ⟨rfl, hb3⟩
      have hB0 := hbw.trans (hb3.mono hbw.size)
      have x0 := (hB0.cell (p := ⟨w.heap.size, 0, none⟩) l0).trans r0
      have x1 := (hB0.cell (p := ⟨w.heap.size, 1, none⟩) l0).trans r1
      have x2 := (hB0.cell (p := ⟨w.heap.size, 2, none⟩) l0).trans r2
      have u0 := (hB0.frozen (p := ⟨w.heap.size, 0, none⟩) l0).trans t0
      have u1 := (hB0.frozen (p := ⟨w.heap.size, 1, none⟩) l0).trans t1
      have u2 := (hB0.frozen (p := ⟨w.heap.size, 2, none⟩) l0).trans t2
      have z0 := (hb3.cell (p := ⟨B, 0, none⟩) hBlt).trans e0
      have z1 := (hb3.cell (p := ⟨B, 1, none⟩) hBlt).trans e1
      have z2 := (hb3.cell (p := ⟨B, 2, none⟩) hBlt).trans e2
      have HO := Lib.hid (ow.below hb3 hhi)
      have HBL := Lib.hid (bw.trans (hB0.mono (by omega)))
      have hs3 := hb3.size
      clear ow hbw hb3 hB0 e0 e1 e2 r0 r1 r2 t0 t1 t2
      by_cases hq : fmtT (nmT s) ((x : Int) - 48) D = s
      · have hDS := HDG.out.1 hq
        have hf : Hid (parT s = ⟨nmT s, (x : Int) - 48, D, true⟩) := by
          show _ = _
          rw [parT_yes h3 (by rw [har.out, ← hDS]; exact hq), har.out, ← hDS]
        have q1 : ((fmtT (nmT s) ((x : Int) - 48) D).toList == s.toList) = true := by rw [hq]; simp
        clear hq hDS hD HDG
        go_wp2_with fail
        refine bodyPost_ret (v := .tuple #[.agg #[.string (nmT s), .int .i64 ((x : Int) - 48), .slice A2 (D).length cc], .bool true]) (by simp [results, Tryd.results29, go_sem, *]) rfl (TabBool.of hf.out ?_ ?_)
        · refine OwnR.down (lo := lo) (OwnR.wide (hi := hi) ?_ (by simp; omega)) (by omega)
          repeat (with_reducible first | exact HO.out | refine OwnR.setOff ?_ (.inl (by omega)))
        · repeat (first | exact HBL.out | (refine Below.setCell ?_ ?_ _; rotate_left; (simp; try omega)))
      · have hf : Hid (parT s = ⟨⟨#[]⟩, 0, [], false⟩) := by
          show _ = _
          refine parT_not fun h => hq ?_
          rw [har.out] at h
          rw [HDG.out.2 h]
          exact h
        have q1 := str_eq0 hq
        clear hq hD HDG
        go_wp2_with fail
        refine bodyPost_ret (v := .tuple #[.agg #[.string ⟨#[]⟩, .int .i64 0, .slice none 0 0], .bool false]) (by simp [results, Tryd.results29, go_sem, *]) rfl (TabBool.of hf.out (OwnR.nil _ _ _) ?_)
        repeat (first | exact HBL.out | (refine Below.setCell ?_ ?_ _; rotate_left; (simp; try omega)))
  · have h3' : s.size < 3 := by omega
    have hf := Lib.hid (parT_no h3')
    clear h3
    go_enter Tryd.func29, Tryd.ntmps29
    go_wp2_with fail
    refine bodyPost_ret (v := .tuple #[.agg #[.string ⟨#[]⟩, .int .i64 0, .slice none 0 0], .bool false]) (by simp [results, Tryd.results29, go_sem, *]) rfl (TabBool.of hf.out (OwnR.nil _ _ _) ?_)
    repeat (first | exact (Below.refl _ _).alloc (Nat.le_refl _) _ | (refine Below.setCell ?_ ?_ _; rotate_left; (simp; try omega)))
end Go.Proofs.YtmojjbhjjhdpaaaDoor
