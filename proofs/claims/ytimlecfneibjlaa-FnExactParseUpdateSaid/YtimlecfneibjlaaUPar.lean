/- ParseUpdate: both texts. No condition but the size that the laws let in. -/
import Derived.Test.YtimlecfneibjlaaUPar0
import Derived.Test.YtimlecfneibjlaaKn
namespace Go.Proofs.Ytimlecfneibjlaa
open Go.RowKit Go.Deep

theorem box3_madeD {c w2 : World} {x y z : Value} {t : TypeId} (b1 : Below (c.alloc (.cells #[x, y, z] t)).drew.heap.size (c.alloc (.cells #[x, y, z] t)).drew w2) :
    (w2.cell? ⟨c.heap.size, 0, none⟩ = some x ∧ w2.cell? ⟨c.heap.size, 1, none⟩ = some y ∧ w2.cell? ⟨c.heap.size, 2, none⟩ = some z) ∧ (w2.frozen? ⟨c.heap.size, 0, none⟩ = false ∧ w2.frozen? ⟨c.heap.size, 1, none⟩ = false ∧ w2.frozen? ⟨c.heap.size, 2, none⟩ = false) ∧ c.heap.size < w2.heap.size := by
  have hX : (c.alloc (.cells #[x, y, z] t)).drew.heap.size = c.heap.size + 1 := by show (c.alloc _).heap.size = _; simp
  have hl : ∀ i, ({ block := c.heap.size, off := i } : Addr).block < (c.alloc (.cells #[x, y, z] t)).drew.heap.size := fun i => by rw [hX]; exact Nat.lt_succ_self _
  refine ⟨⟨(b1.cell (hl 0)).trans (by simp [go_sem]), (b1.cell (hl 1)).trans (by simp [go_sem]), (b1.cell (hl 2)).trans (by simp [go_sem])⟩, ⟨(b1.frozen (hl 0)).trans (by simp [go_sem]), (b1.frozen (hl 1)).trans (by simp [go_sem]), (b1.frozen (hl 2)).trans (by simp [go_sem])⟩, ?_⟩
  have := b1.size
  omega
theorem outU {w c : World} {x y z : Value} {t : TypeId} (b : Below (w.alloc (.cells #[x, y, z] t)).heap.size (w.alloc (.cells #[x, y, z] t)) c) :
    (c.cell? ⟨w.heap.size, 0, none⟩ = some x ∧ c.cell? ⟨w.heap.size, 1, none⟩ = some y ∧ c.cell? ⟨w.heap.size, 2, none⟩ = some z) ∧ (c.frozen? ⟨w.heap.size, 0, none⟩ = false ∧ c.frozen? ⟨w.heap.size, 1, none⟩ = false ∧ c.frozen? ⟨w.heap.size, 2, none⟩ = false) ∧ w.heap.size < c.heap.size ∧ Below w.heap.size w c := by
  have hX : (w.alloc (.cells #[x, y, z] t)).heap.size = w.heap.size + 1 := by simp
  have hl : ∀ i, ({ block := w.heap.size, off := i } : Addr).block < (w.alloc (.cells #[x, y, z] t)).heap.size := fun i => by rw [hX]; exact Nat.lt_succ_self _
  refine ⟨⟨(b.cell (hl 0)).trans (by simp [go_sem]), (b.cell (hl 1)).trans (by simp [go_sem]), (b.cell (hl 2)).trans (by simp [go_sem])⟩, ⟨(b.frozen (hl 0)).trans (by simp [go_sem]), (b.frozen (hl 1)).trans (by simp [go_sem]), (b.frozen (hl 2)).trans (by simp [go_sem])⟩, ?_, ?_⟩
  · have := b.size
    omega
  · exact ((Below.refl _ _).alloc (Nat.le_refl _) _).trans (b.mono (by rw [hX]; omega))
theorem ext_small {s : ByteArray} (hs : s.size ≤ 1048576) : (s.extract 2 s.size).size ≤ 1048576 := by rw [ByteArray.size_extract]; omega

set_option maxRecDepth 100000 in
set_option maxHeartbeats 2000000 in
theorem impl_ParseUpdate_any (s : ByteArray) (w : World) (hs : s.size ≤ 1048576) :
    Calls Try.prog 53 #[.string s] w (UpdAns (parU s).1.1 (parU s).1.2.1 (parU s).1.2.2 (parU s).2 w) := by
  by_cases h3 : 3 ≤ s.size
  · have H3 := Lib.hid h3
    have hin : Hid (insU s = ((s[0].toNat : Int) == 43)) := insU_eq (by omega)
    go_enter Try.func53, Try.ntmps53
    go_wp2_with fail
    refine (digitsOf_any _ _ (ext_small hs)).mono ?_
    rintro e w1 ⟨A1, c1, rfl, ho, hb⟩
    have hdig := fmtU_digR h3
    obtain ⟨D, hD⟩ : ∃ D, (digR (s.extract 2 s.size).data.toList).1 = D := ⟨_, rfl⟩
    obtain ⟨okD, hok⟩ : ∃ b, (digR (s.extract 2 s.size).data.toList).2 = b := ⟨_, rfl⟩
    have hDl : Hid (D.length ≤ 1048576) := by
      show D.length ≤ _
      have h1 := digR_len (s.extract 2 s.size).data.toList
      have h2 : (s.extract 2 s.size).data.toList.length ≤ 1048576 := by simpa using ext_small hs
      rw [hD] at h1
      omega
    rw [hD] at ho hdig ⊢
    rw [hok]
    clear hD hok
    have HDG := Lib.hid hdig
    obtain ⟨⟨r0, r1, r2⟩, ⟨t0, t1, t2⟩, l0, bw⟩ := outU hb
    have HO1 : Hid (OwnI w1 (w.heap.size + 1) w1.heap.size (.slice A1 D.length c1) D) := by show OwnI _ _ _ _ _; simpa using ho
    clear ho hb hdig
    go_upto_region 4 with fail
    go_cut [6] (fun p wx => CutU (w.heap.size + 1) w1 (s.extract 1 2) (insU s) D p wx)
    case first =>
      have g0 : (0 : Int) < (s.size : Int) := by omega
      have g1 : (2 : Int) ≤ (s.size : Int) := by omega
      have g2 : 0 < s.size := by omega
      go_region_held3 (fun _ => True) (trivial) (fail)
      all_goals (go_wp2_with fail)
      all_goals (rw [← hin.out]; go_meet; exact (CutU.last (Below.refl _ _) HO1.out (Nat.le_refl _) (Nat.le_refl _)).drew)
    case rest =>
      generalize wc = w2 at hcut ⊢
      obtain ⟨A2, cc, B, lo, hi, rfl, ⟨e0, e1, e2⟩, ow, hhi, hBlt, hcB, hlo, hbw⟩ := hcut
      go_wp2_with fail
      refine (impl_FormatUpdate_any _ _ A2 _ cc _ D _ (ow.rd rfl) hhi hDl.out).mono ?_
      rintro e w3 ⟨rfl, hb3⟩
      have hB0 := hbw.trans (hb3.mono hbw.size)
      have x0 := (hB0.cell (p := ⟨w.heap.size, 0, none⟩) l0).trans r0
      have x1 := (hB0.cell (p := ⟨w.heap.size, 1, none⟩) l0).trans r1
      have x2 := (hB0.cell (p := ⟨w.heap.size, 2, none⟩) l0).trans r2
      have u0 := (hB0.frozen (p := ⟨w.heap.size, 0, none⟩) l0).trans t0
      have u1 := (hB0.frozen (p := ⟨w.heap.size, 1, none⟩) l0).trans t1
      have u2 := (hB0.frozen (p := ⟨w.heap.size, 2, none⟩) l0).trans t2
      have z0 := (hb3.cell (p := ⟨B, 0, none⟩) hBlt).trans e0
      have z1 := (hb3.cell (p := ⟨B, 1, none⟩) hBlt).trans e1
      have z2 := (hb3.cell (p := ⟨B, 2, none⟩) hBlt).trans e2
      have HO := Lib.hid (ow.below hb3 hhi)
      have HBL := Lib.hid (bw.trans (hB0.mono (by omega)))
      have hs3 := hb3.size
      clear ow hbw hb3 hB0 e0 e1 e2 r0 r1 r2 t0 t1 t2
      by_cases hq : fmtU (s.extract 1 2) (insU s) D = s
      · have hf := Lib.hid ((by rw [parU_yes h3 (HDG.out.1.1 hq), ← HDG.out.2 (HDG.out.1.1 hq)] : parU s = ((s.extract 1 2, insU s, D), true)))
        have q1 : ((fmtU (s.extract 1 2) (insU s) D).toList == s.toList) = true := by rw [hq]; simp
        clear hq
        go_wp2_with fail
        rw [hf.out]
        refine bodyPost_ret (v := .tuple #[.agg #[.string (s.extract 1 2), .bool (insU s), .slice A2 (D).length cc], .bool true]) (by simp [results, Try.results53, go_sem, *]) rfl (UpdAns.of ?_ ?_)
        · refine OwnI.downTo (lo := lo) (OwnI.wide (hi := hi) ?_ (by simp; omega)) (by omega)
          repeat (with_reducible first | exact HO.out | refine OwnI.setOff ?_ (.inl (by omega)))
        · repeat (first | exact HBL.out | (refine Below.setCell ?_ ?_ _; rotate_left; (simp; try omega)))
      · have hf := Lib.hid (parU_not fun h => hq (HDG.out.1.2 h))
        have q1 := str_eq0 hq
        clear hq
        go_wp2_with fail
        rw [hf.out]
        refine bodyPost_ret (v := .tuple #[.agg #[.string ⟨#[]⟩, .bool false, .slice none 0 0], .bool false]) (by simp [results, Try.results53, go_sem, *]) rfl (UpdAns.of (OwnI.nil _ _ _) ?_)
        repeat (first | exact HBL.out | (refine Below.setCell ?_ ?_ _; rotate_left; (simp; try omega)))
  · have h3' : s.size < 3 := by omega
    have hf := Lib.hid (parU_no h3')
    clear h3
    go_enter Try.func53, Try.ntmps53
    go_wp2_with fail
    rw [hf.out]
    refine bodyPost_ret (v := .tuple #[.agg #[.string ⟨#[]⟩, .bool false, .slice none 0 0], .bool false]) (by simp [results, Try.results53, go_sem, *]) rfl (UpdAns.of (OwnI.nil _ _ _) ?_)
    repeat (first | exact (Below.refl _ _).alloc (Nat.le_refl _) _ | (refine Below.setCell ?_ ?_ _; rotate_left; (simp; try omega)))

set_option maxRecDepth 100000 in
set_option maxHeartbeats 2000000 in
theorem spec_ParseUpdate_any (s : ByteArray) (w : World) (hs : s.size ≤ 1048576) :
    Calls Try.prog 52 #[.string s] w (UpdAns (parU s).1.1 (parU s).1.2.1 (parU s).1.2.2 (parU s).2 w) := by
  by_cases h3 : 3 ≤ s.size
  · by_cases h8 : s.size ≤ 8
    · have H3 := Lib.hid h3
      have hin : Hid (insU s = ((s[0].toNat : Int) == 43)) := insU_eq (by omega)
      have hDl : Hid ((rowU s).length ≤ 1048576) := by
        show _ ≤ _
        have := rowU_len (s := s) (by omega)
        omega
      go_enter Try.func52, Try.ntmps52
      go_upto_region 3 with fail
      generalize hW : w.alloc (.cells #[.string ⟨#[]⟩, .bool false, .slice none 0 0] 64) = w1
      obtain ⟨⟨r0, r1, r2⟩, ⟨t0, t1, t2⟩, l0, bw⟩ : (w1.cell? ⟨w.heap.size, 0, none⟩ = some (.string ⟨#[]⟩) ∧ w1.cell? ⟨w.heap.size, 1, none⟩ = some (.bool false) ∧ w1.cell? ⟨w.heap.size, 2, none⟩ = some (.slice none 0 0)) ∧ (w1.frozen? ⟨w.heap.size, 0, none⟩ = false ∧ w1.frozen? ⟨w.heap.size, 1, none⟩ = false ∧ w1.frozen? ⟨w.heap.size, 2, none⟩ = false) ∧ w.heap.size < w1.heap.size ∧ Below w.heap.size w w1 := by
        rw [← hW]
        exact outU (Below.refl _ _)
      clear hW
      go_cut [4] (fun p wx => CutU (w.heap.size + 1) w1 (s.extract 1 2) (insU s) (rowU s) p wx)
      case first =>
        have g0 : (0 : Int) < (s.size : Int) := by omega
        have g1 : (2 : Int) ≤ (s.size : Int) := by omega
        have g2 : 0 < s.size := by omega
        have KV : Hid (∀ W, Calls Try.prog 95 #[.string (s.extract 2 s.size)] W (IntsNew (rowU s) W)) := fun W => l4Values_any (s.extract 2 s.size) W (ext_small hs)
        have bz : Below w1.heap.size w1 w1.drew := (Below.refl _ _).drew
        have KA : Hid (∀ x y z t, Calls Try.prog 95 #[.string (s.extract 2 s.size)] (w1.alloc (.cells #[x, y, z] t)).drew fun e w4 => IntsNew (rowU s) (w1.alloc (.cells #[x, y, z] t)).drew e w4 ∧
            (w4.cell? ⟨w1.heap.size, 0, none⟩ = some x ∧ w4.cell? ⟨w1.heap.size, 1, none⟩ = some y ∧ w4.cell? ⟨w1.heap.size, 2, none⟩ = some z) ∧ (w4.frozen? ⟨w1.heap.size, 0, none⟩ = false ∧ w4.frozen? ⟨w1.heap.size, 1, none⟩ = false ∧ w4.frozen? ⟨w1.heap.size, 2, none⟩ = false) ∧ w1.heap.size < w4.heap.size) := fun x y z t =>
          (KV.out _).mono fun e w4 h => by
            obtain ⟨A1, c1, he, ho, b1⟩ := h
            exact ⟨⟨A1, c1, he, ho, b1⟩, box3_madeD b1⟩
        go_region_held3 (fun _ => True) (trivial) (first
          | (go_at_call 95; (with_reducible refine (KA.out _ _ _ _).mono ?_); rintro e w4 ⟨⟨A1, c1, rfl, ho, b1⟩, ⟨e0, e1, e2⟩, ⟨f0, f1, f2⟩, lb⟩)
          | (go_at_call 95; (with_reducible refine (KV.out _).mono ?_); rintro e w4 ⟨A1, c1, rfl, ho, b1⟩))
        all_goals (go_wp2_with fail)
        all_goals (rw [← hin.out]; go_meet; first | exact CutU.first b1 ho l0 | exact CutU.last (bel_step bz b1) ho (Nat.le_refl _) l0)
      case rest =>
        generalize wc = w2 at hcut ⊢
        obtain ⟨A2, cc, B, lo, hi, rfl, ⟨e0, e1, e2⟩, ow, hhi, hBlt, hcB, hlo, hbw⟩ := hcut
        go_wp2_with fail
        refine (spec_FormatUpdate_any _ _ A2 _ cc _ (rowU s) _ (ow.rd rfl) hhi hDl.out).mono ?_
        rintro e w3 ⟨rfl, hb3⟩
        have hB0 := hbw.trans (hb3.mono hbw.size)
        have x0 := (hB0.cell (p := ⟨w.heap.size, 0, none⟩) l0).trans r0
        have x1 := (hB0.cell (p := ⟨w.heap.size, 1, none⟩) l0).trans r1
        have x2 := (hB0.cell (p := ⟨w.heap.size, 2, none⟩) l0).trans r2
        have u0 := (hB0.frozen (p := ⟨w.heap.size, 0, none⟩) l0).trans t0
        have u1 := (hB0.frozen (p := ⟨w.heap.size, 1, none⟩) l0).trans t1
        have u2 := (hB0.frozen (p := ⟨w.heap.size, 2, none⟩) l0).trans t2
        have z0 := (hb3.cell (p := ⟨B, 0, none⟩) hBlt).trans e0
        have z1 := (hb3.cell (p := ⟨B, 1, none⟩) hBlt).trans e1
        have z2 := (hb3.cell (p := ⟨B, 2, none⟩) hBlt).trans e2
        have HO := Lib.hid (ow.below hb3 hhi)
        have HBL := Lib.hid (bw.trans (hB0.mono (by omega)))
        have hs3 := hb3.size
        clear ow hbw hb3 hB0 e0 e1 e2 r0 r1 r2 t0 t1 t2
        by_cases hq : fmtU (s.extract 1 2) (insU s) (rowU s) = s
        · have hf := Lib.hid (parU_yes h3 hq)
          have q1 : ((fmtU (s.extract 1 2) (insU s) (rowU s)).toList == s.toList) = true := by rw [hq]; simp
          clear hq
          go_wp2_with fail
          rw [hf.out]
          refine bodyPost_ret (v := .tuple #[.agg #[.string (s.extract 1 2), .bool (insU s), .slice A2 ((rowU s)).length cc], .bool true]) (by simp [results, Try.results52, go_sem, *]) rfl (UpdAns.of ?_ ?_)
          · refine OwnI.downTo (lo := lo) (OwnI.wide (hi := hi) ?_ (by simp; omega)) (by omega)
            repeat (with_reducible first | exact HO.out | refine OwnI.setOff ?_ (.inl (by omega)))
          · repeat (first | exact HBL.out | (refine Below.setCell ?_ ?_ _; rotate_left; (simp; try omega)))
        · have hf := Lib.hid (parU_not hq)
          have q1 := str_eq0 hq
          clear hq
          go_wp2_with fail
          rw [hf.out]
          refine bodyPost_ret (v := .tuple #[.agg #[.string ⟨#[]⟩, .bool false, .slice none 0 0], .bool false]) (by simp [results, Try.results52, go_sem, *]) rfl (UpdAns.of (OwnI.nil _ _ _) ?_)
          repeat (first | exact HBL.out | (refine Below.setCell ?_ ?_ _; rotate_left; (simp; try omega)))
    · have h8' : 8 < s.size := by omega
      have hf := Lib.hid (parU_not (s := s) fun h => by have := parU_short h3 h; omega)
      clear h8
      go_enter Try.func52, Try.ntmps52
      go_wp2_with fail
      rw [hf.out]
      refine bodyPost_ret (v := .tuple #[.agg #[.string ⟨#[]⟩, .bool false, .slice none 0 0], .bool false]) (by simp [results, Try.results52, go_sem, *]) rfl (UpdAns.of (OwnI.nil _ _ _) ?_)
      repeat (first | exact (Below.refl _ _).alloc (Nat.le_refl _) _ | (refine Below.setCell ?_ ?_ _; rotate_left; (simp; try omega)))
  · have h3' : s.size < 3 := by omega
    have hf := Lib.hid (parU_no h3')
    clear h3
    go_enter Try.func52, Try.ntmps52
    go_wp2_with fail
    rw [hf.out]
    refine bodyPost_ret (v := .tuple #[.agg #[.string ⟨#[]⟩, .bool false, .slice none 0 0], .bool false]) (by simp [results, Try.results52, go_sem, *]) rfl (UpdAns.of (OwnI.nil _ _ _) ?_)
    repeat (first | exact (Below.refl _ _).alloc (Nat.le_refl _) _ | (refine Below.setCell ?_ ?_ _; rotate_left; (simp; try omega)))
end Go.Proofs.Ytimlecfneibjlaa
