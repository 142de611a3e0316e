/- Copies of databases: impl.copyDatabase, spec.l5Copy. No condition but the size that the laws let in. -/
import Derived.Test.YtimlecfneibjlaaDInv
import Derived.Test.YtimlecfneibjlaaCopy
import Derived.Test.YtimlecfneibjlaaCopyS
namespace Go.Proofs.Ytimlecfneibjlaa
open Go.RowKit Go.Deep

set_option maxRecDepth 100000 in
set_option maxHeartbeats 1000000 in
theorem copyDatabase_any (A : Option Addr) (n c B : Nat) (ts : List Tab) (w : World) (hr : RdT w B A n ts) (hB : B ≤ w.heap.size) (hn : n ≤ 1000000000) (hs : sumT ts ≤ 4294967296) :
    Calls Try.prog 74 #[.agg #[.slice A n c]] w (DbNew ts w) := by
  obtain ⟨i1, hi1, hz0, hz1, hz2⟩ := info_parts info_tab
  have HL := Lib.hid hr.1
  have hsm := Lib.hid hs
  clear hs
  have hd0 : DInv w [(w.heap.size, 0, .slice A n c), (w.heap.size + 1, 0, .slice none 0 0)] (w.heap.size + 2) (w.heap.size + 3) [] (.slice none 0 0) (((w.alloc (.cells #[.slice A n c] 29)).alloc (.cells #[.slice none 0 0] 29)).alloc (.cells #[.slice none 0 0] 29)) := by
    have hk := ((Kn.start w).box1 (.slice A n c) 29).box1 (.slice none 0 0) 29
    have hk2 : Kn w [(w.heap.size, 0, .slice A n c), (w.heap.size + 1, 0, .slice none 0 0)] (((w.alloc (.cells #[.slice A n c] 29)).alloc (.cells #[.slice none 0 0] 29)).alloc (.cells #[.slice none 0 0] 29)) := by simpa using hk.next ((Below.refl _ _).alloc (Nat.le_refl _) (.cells #[.slice none 0 0] 29))
    refine ⟨hk2, OwnD.nil _ _ _, by simp, by omega, by omega, by simp, by simp [go_sem], by simp [go_sem]⟩
  go_enter Try.func74, Try.ntmps74
  go_wp2_with fail
  generalize ((w.alloc (.cells #[.slice A n c] 29)).alloc (.cells #[.slice none 0 0] 29)).alloc (.cells #[.slice none 0 0] 29) = w0 at hd0 ⊢
  go_loopw [5, 10] (fun _ i wr => ∃ (k : Nat) (v : Value), k ≤ n ∧ i = .int .i64 k ∧ Hid (DInv w [(w.heap.size, 0, .slice A n c), (w.heap.size + 1, 0, .slice none 0 0)] (w.heap.size + 2) (w.heap.size + 3) (ts.take k) v wr)) (fun _ i _ => n - (intOf i).toNat)
  case atStart => exact ⟨0, _, by omega, rfl, hd0⟩
  case round =>
    obtain ⟨k, v, hk, rfl, hinv⟩ := hrel
    clear hd0
    have hbel := Lib.hid hinv.out.kn.bel
    have hsz := hbel.out.size
    by_cases hlt : k < n
    · obtain ⟨b, o, t, A', c', rfl, hb, hx, hc0, hc1, hc2, hrd, hm, hnm⟩ := RdT.at_ hr hlt
      have hts := Lib.hid (tab_small hx hsm.out)
      have HX := Lib.hid (show ts.take k ++ [t] = ts.take (k + 1) by rw [List.take_add_one, hx]; rfl)
      have hlk : (ts.take k).length ≤ 1000000000 := by rw [List.length_take]; omega
      have d0 := (hbel.out.cell (p := ⟨b, o + k * 3, none⟩) (by show b < _; omega)).trans hc0
      have d1 := (hbel.out.cell (p := ⟨b, o + k * 3 + 1, none⟩) (by show b < _; omega)).trans hc1
      have d2 := (hbel.out.cell (p := ⟨b, o + k * 3 + 2, none⟩) (by show b < _; omega)).trans hc2
      obtain ⟨nm, ar, rs⟩ := t
      have HX : Hid (ts.take k ++ [⟨nm, ar, rs⟩] = ts.take (k + 1)) := HX
      have hnm : nm.size ≤ maxLen := hnm
      generalize ts.take k = acc at hinv HX hlk
      have hW := (Below.refl wr.heap.size wr).alloc (Nat.le_refl _) (.cells #[.string nm, .int .i64 ar, .slice A' rs.length c'] 36)
      have KC : Hid (∀ U, Below (wr.alloc (.cells #[.string nm, .int .i64 ar, .slice A' rs.length c'] 36)).heap.size (wr.alloc (.cells #[.string nm, .int .i64 ar, .slice A' rs.length c'] 36)) U → Calls Try.prog 66 #[.agg #[.string nm, .int .i64 ar, .slice A' rs.length c']] U (TabNew nm ar rs U)) := fun U b =>
        copyTable_any nm ar A' rs.length c' B rs U (RdR.belowB hrd (hbel.out.trans ((hW.trans (b.mono hW.size)).mono hsz)) hB) (Nat.le_trans hB (Nat.le_trans hsz (Nat.le_trans hW.size b.size))) hts.out.1 hts.out.2
      have HI := Lib.hid (hinv.out.next hW)
      have x0 := HI.out.x0
      have e0 : (wr.alloc (.cells #[.string nm, .int .i64 ar, .slice A' rs.length c'] 36)).cell? ⟨wr.heap.size, 0, none⟩ = some (.string nm) := by simp [go_sem]
      have e1 : (wr.alloc (.cells #[.string nm, .int .i64 ar, .slice A' rs.length c'] 36)).cell? ⟨wr.heap.size, 1, none⟩ = some (.int .i64 ar) := by simp [go_sem]
      have e2 : (wr.alloc (.cells #[.string nm, .int .i64 ar, .slice A' rs.length c'] 36)).cell? ⟨wr.heap.size, 2, none⟩ = some (.slice A' rs.length c') := by simp [go_sem]
      have hlt1 : wr.heap.size < (wr.alloc (.cells #[.string nm, .int .i64 ar, .slice A' rs.length c'] 36)).heap.size := by simp
      clear hx hc0 hc1 hc2 hrd hm hW hinv
      go_wp2_with fail
      generalize wr.alloc (.cells #[.string nm, .int .i64 ar, .slice A' rs.length c'] 36) = W1 at KC HI x0 e0 e1 e2 hlt1 ⊢
      clear d0 d1 d2
      go_region_law (first
          | (go_simp; go_at_call 66; refine (KC.out _ ((Below.refl _ _).drew)).mono ?_; rintro e w1 ⟨A1, c1, rfl, ho1, hb1⟩
             have hb2 : Below W1.heap.size W1 w1 := ((Below.refl _ _).drew).trans hb1
             have hb3 : Below W1.heap.size W1 w1 := hb2
             have m0 : w1.cell? ⟨wr.heap.size, 0, none⟩ = some (.string nm) := (hb2.cell (p := ⟨wr.heap.size, 0, none⟩) hlt1).trans e0
             have m1 : w1.cell? ⟨wr.heap.size, 1, none⟩ = some (.int .i64 ar) := (hb2.cell (p := ⟨wr.heap.size, 1, none⟩) hlt1).trans e1
             have m2 : w1.cell? ⟨wr.heap.size, 2, none⟩ = some (.slice A' rs.length c') := (hb2.cell (p := ⟨wr.heap.size, 2, none⟩) hlt1).trans e2
             have hsw := Lib.hid hb2.size
             obtain ⟨xs, hrow, n2, happ⟩ := HI.out.app (nm := nm) (ar := ar) hb3 ho1 (Nat.le_refl _) (Nat.le_refl _) hnm
             have hx1 : w.heap.size + 2 < w1.heap.size := Nat.lt_of_lt_of_le (Nat.lt_of_lt_of_le HI.out.hxb HI.out.size) hb3.size
             have HA := Lib.hid happ
             clear hb3 hb2 ho1 hb1 happ)
          | (refine step_append_lies _ (by rfl) (.tmp 15) (.tmp 18) _ (by rfl) 0 36 i1 _ 3 48 Try.underlying27 hi1 hz0 hz1 hz2 (by rfl) (by omega) _ (acc).length xs (by rfl) hrow ⟨w1.heap.size, 0, none⟩ 1 1 [.string nm, .int .i64 ar, .slice A1 rs.length c1] (by rfl) rfl (World.news_of_block (cs := #[.string nm, .int .i64 ar, .slice A1 rs.length c1]) (t := 36) (fr := (0, 0)) (heap_alloc_new w1 _)) (by simp [Value.oneCell']) (by omega) (by unfold maxLen; omega) (by omega) (Nat.zero_le _) (w1.heap.size + 1) (by simp) ?_; intro g cap w2 hown2 hgrow hat hlt2
             obtain ⟨n2, n3, hF, hcl, hsz2⟩ := HA.out g cap w2 hown2 hgrow hat
             have HF := Lib.hid hF
             have hsZ := Lib.hid (Nat.le_trans hsw.out hsz2)
             clear hown2 hgrow hat hF hcl hsz2)
          | fail)
      all_goals (
        go_wp2_with fail
        refine ⟨⟨k + 1, _, by omega, by go_num, by rw [← HX.out]; exact HF⟩, ?_⟩
        simp [intOf]
        omega)
    · obtain rfl : k = n := by omega
      have HT := Lib.hid (show ts.take k = ts from List.take_of_length_le (Nat.le_of_eq HL.out))
      have hI := hinv.out
      rw [HT.out] at hI
      obtain ⟨A1, c1, rfl⟩ := hI.own.form
      obtain ⟨d0, d1, _⟩ := hI.kn.all
      obtain ⟨f0, f1, _⟩ := hI.kn.fall
      have x0 := hI.x0
      have HF := Lib.hid hI
      have hsz := hI.size
      clear hI hinv
      go_wp2_with fail
      refine bodyPost_ret (v := .agg #[.slice A1 ts.length c1]) (by simp [results, Try.results74, go_sem, *]) rfl (DbNew.of ?_ ?_)
      · refine OwnD.down (lo := w.heap.size + 3) (OwnD.wide (hi := wr.heap.size) ?_ (by simp)) (by omega)
        repeat refine OwnD.setOff ?_ (by omega)
        exact HF.out.own
      · repeat first | exact HF.out.kn.bel | (refine Below.setCell ?_ ?_ _; rotate_left; (simp; try omega))

set_option maxRecDepth 100000 in
set_option maxHeartbeats 1000000 in
theorem l5Copy_any (A : Option Addr) (n c B : Nat) (ts : List Tab) (w : World) (hr : RdT w B A n ts) (hB : B ≤ w.heap.size) (hn : n ≤ 1000000000) (hs : sumT ts ≤ 4294967296) :
    Calls Try.prog 72 #[.agg #[.slice A n c]] w (DbNew ts w) := by
  obtain ⟨i1, hi1, hz0, hz1, hz2⟩ := info_parts info_tab
  have HL := Lib.hid hr.1
  have hsm := Lib.hid hs
  clear hs
  have hd0 : DInv w [(w.heap.size, 0, .slice A n c), (w.heap.size + 1, 0, .slice none 0 0)] (w.heap.size + 2) (w.heap.size + 3) [] (.slice none 0 0) (((w.alloc (.cells #[.slice A n c] 29)).alloc (.cells #[.slice none 0 0] 29)).alloc (.cells #[.slice none 0 0] 29)) := by
    have hk := ((Kn.start w).box1 (.slice A n c) 29).box1 (.slice none 0 0) 29
    have hk2 : Kn w [(w.heap.size, 0, .slice A n c), (w.heap.size + 1, 0, .slice none 0 0)] (((w.alloc (.cells #[.slice A n c] 29)).alloc (.cells #[.slice none 0 0] 29)).alloc (.cells #[.slice none 0 0] 29)) := by simpa using hk.next ((Below.refl _ _).alloc (Nat.le_refl _) (.cells #[.slice none 0 0] 29))
    refine ⟨hk2, OwnD.nil _ _ _, by simp, by omega, by omega, by simp, by simp [go_sem], by simp [go_sem]⟩
  go_enter Try.func72, Try.ntmps72
  go_wp2_with fail
  generalize ((w.alloc (.cells #[.slice A n c] 29)).alloc (.cells #[.slice none 0 0] 29)).alloc (.cells #[.slice none 0 0] 29) = w0 at hd0 ⊢
  go_loopw [4] (fun i wr => ∃ (k : Nat) (v : Value), k ≤ n ∧ i = .int .i64 k ∧ Hid (DInv w [(w.heap.size, 0, .slice A n c), (w.heap.size + 1, 0, .slice none 0 0)] (w.heap.size + 2) (w.heap.size + 3) (ts.take k) v wr)) (fun i _ => n - (intOf i).toNat)
  case atStart => exact ⟨0, _, by omega, rfl, hd0⟩
  case round =>
    obtain ⟨k, v, hk, rfl, hinv⟩ := hrel
    clear hd0
    have hbel := Lib.hid hinv.out.kn.bel
    have hsz := hbel.out.size
    obtain ⟨k0, _⟩ := hinv.out.kn.all
    by_cases hlt : k < n
    · obtain ⟨b, o, t, A', c', rfl, hb, hx, hc0, hc1, hc2, hrd, hm, hnm⟩ := RdT.at_ hr hlt
      have hts := Lib.hid (tab_small hx hsm.out)
      have HX := Lib.hid (show ts.take k ++ [t] = ts.take (k + 1) by rw [List.take_add_one, hx]; rfl)
      have hlk : (ts.take k).length ≤ 1000000000 := by rw [List.length_take]; omega
      have d0 := (hbel.out.cell (p := ⟨b, o + k * 3, none⟩) (by show b < _; omega)).trans hc0
      have d1 := (hbel.out.cell (p := ⟨b, o + k * 3 + 1, none⟩) (by show b < _; omega)).trans hc1
      have d2 := (hbel.out.cell (p := ⟨b, o + k * 3 + 2, none⟩) (by show b < _; omega)).trans hc2
      obtain ⟨nm, ar, rs⟩ := t
      have HX : Hid (ts.take k ++ [⟨nm, ar, rs⟩] = ts.take (k + 1)) := HX
      have hnm : nm.size ≤ maxLen := hnm
      generalize ts.take k = acc at hinv HX hlk
      have KC := Lib.hid (l4Copy_any nm ar A' rs.length c' B rs wr (RdR.belowB hrd hbel.out hB) (Nat.le_trans hB hsz) hts.out.1 hts.out.2)
      clear hx hc0 hc1 hc2 hrd hm
      go_wp2_with fail
      refine KC.out.mono ?_
      rintro e w1 ⟨A1, c1, rfl, ho1, hb1⟩
      clear d0 d1 d2 k0
      obtain ⟨xs, hrow, n2, happ⟩ := hinv.out.app (nm := nm) (ar := ar) (w1 := w1.alloc (.cells #[.string nm, .int .i64 ar, .slice A1 rs.length c1] 36)) (hb1.alloc hb1.size (.cells #[.string nm, .int .i64 ar, .slice A1 rs.length c1] 36)) (ho1.below ((Below.refl w1.heap.size w1).alloc (Nat.le_refl _) (.cells #[.string nm, .int .i64 ar, .slice A1 rs.length c1] 36)) (Nat.le_refl _)) (Nat.le_refl _) (by simp) hnm
      have hnb : (w1.alloc (.cells #[.string nm, .int .i64 ar, .slice A1 rs.length c1] 36)).heap.size = w1.heap.size + 1 := by simp
      have hgn := heap_alloc_new (w1.alloc (.cells #[.string nm, .int .i64 ar, .slice A1 rs.length c1] 36)) (.cells #[.string nm, .int .i64 ar, .slice A1 rs.length c1] 36)
      have hx1 : w.heap.size + 2 < w1.heap.size := Nat.lt_of_lt_of_le (Nat.lt_of_lt_of_le hinv.out.hxb hinv.out.size) hb1.size
      rw [hnb] at hgn happ
      have n3 : w1.cell? ⟨w.heap.size + 2, 0, none⟩ = some (v) := (hb1.cell (p := ⟨w.heap.size + 2, 0, none⟩) (Nat.lt_of_lt_of_le hinv.out.hxb hinv.out.size)).trans hinv.out.x0
      have HA := Lib.hid happ
      have HR := Lib.hid hrow
      have HGN := Lib.hid hgn
      clear happ ho1 hb1 hrow hgn n2
      go_wp2_with (at_builtin; refine wpList_append_lies _ rfl _ _ _ rfl 0 36 i1 _ 3 48 Try.underlying27 hi1 hz0 hz1 hz2 rfl (by omega) _ (acc).length _ rfl HR.out ⟨w1.heap.size + 1, 0, none⟩ 1 1 [.string nm, .int .i64 ar, .slice A1 rs.length c1] rfl rfl (World.news_of_block (cs := #[.string nm, .int .i64 ar, .slice A1 rs.length c1]) (t := 36) (fr := (0, 0)) HGN.out) (by simp [Value.oneCell']) (by omega) (by unfold maxLen; omega) (by omega) (Nat.zero_le _) (w1.heap.size + 1 + 1) (by simp) ?_; intro g cap w2 hown2 hgrow hat hlt2; obtain ⟨m2, m3, hF, hcl, hsz2⟩ := HA.out g cap w2 hown2 hgrow hat; have HF := Lib.hid hF; clear hown2 hgrow hat hF hcl hsz2)
      refine ⟨⟨k + 1, _, by omega, by go_num, by rw [← HX.out]; exact HF⟩, ?_⟩
      simp [intOf]
      omega
    · obtain rfl : k = n := by omega
      have HT := Lib.hid (show ts.take k = ts from List.take_of_length_le (Nat.le_of_eq HL.out))
      have hI := hinv.out
      rw [HT.out] at hI
      obtain ⟨A1, c1, rfl⟩ := hI.own.form
      obtain ⟨d0, d1, _⟩ := hI.kn.all
      obtain ⟨f0, f1, _⟩ := hI.kn.fall
      have x0 := hI.x0
      have HF := Lib.hid hI
      have hsz := hI.size
      clear hI hinv
      go_wp2_with fail
      refine bodyPost_ret (v := .agg #[.slice A1 ts.length c1]) (by simp [results, Try.results72, go_sem, *]) rfl (DbNew.of ?_ ?_)
      · refine OwnD.down (lo := w.heap.size + 3) (OwnD.wide (hi := wr.heap.size) ?_ (by simp)) (by omega)
        repeat refine OwnD.setOff ?_ (by omega)
        exact HF.out.own
      · repeat first | exact HF.out.kn.bel | (refine Below.setCell ?_ ?_ _; rotate_left; (simp; try omega))
end Go.Proofs.Ytimlecfneibjlaa
