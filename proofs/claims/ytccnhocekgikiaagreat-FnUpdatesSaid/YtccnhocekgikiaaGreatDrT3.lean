/- What the law on tables draws: l4Any. What is drawn is not said, but for its bounds. No condition. -/
import Derived.Test.YtccnhocekgikiaaGreatDrT2
namespace Go.Proofs.YtccnhocekgikiaaGreat
open Go.RowKit Go.Deep

theorem l4Tab_at (q : Nat) (ar most val : Int) (nm : ByteArray) (w : World) (hc : Cur w q) (hm : 0 ≤ ar ∧ ar ≤ 3) (hmost : 0 ≤ most ∧ most ≤ 8) (hval : 0 < val ∧ val ≤ 100) (hnm : nm.size ≤ 8) :
    Calls Tryz.prog 68 #[.pointer (some ⟨q, 0, none⟩), .string nm, .int .i64 ar, .int .i64 most, .int .i64 val] w (DrT 8 q w) := by
  obtain ⟨m, rfl⟩ := Int.eq_ofNat_of_zero_le hm.1
  obtain ⟨k, rfl⟩ := Int.eq_ofNat_of_zero_le hmost.1
  exact l4Tab_any q m k nm val w hc (by omega) (by omega) hval hnm
/-- A table drawn is put into a new box. -/
theorem TI.of {q lo : Nat} {w W : World} {L : List (Nat × Nat × Value)} {nm : ByteArray} {ar : Int} {R : List (List Int)} {v : Value} (d : Dn q w L W) (ho : OwnR W lo W.heap.size v R) (hlo : w.heap.size ≤ lo) (hL : ∀ t ∈ L, t.1 < lo) :
    TI q w L W.heap.size nm ar R v (W.alloc (.cells #[.string nm, .int .i64 ar, v] 51)) := by
  obtain ⟨F, h1, h2⟩ := ho
  refine ⟨d.al _, ⟨F, h1.keep eRow_ok (by simp) fun k hk => heap_alloc_old W _ (h1.bound k hk), fun k hk => ?_⟩, fun t ht => by have := (d.cell t ht).2.1; omega, d.chg.size, by simp, by simp [go_sem], by simp [go_sem], by simp [go_sem], fun i => ?_⟩
  · have := h2 k hk
    exact ⟨by omega, by omega, fun t ht => by have := hL t ht; omega⟩
  · have hn := heap_alloc_new W (.cells #[.string nm, .int .i64 ar, v] 51)
    unfold World.frozen?
    rw [hn]
    simp

set_option maxRecDepth 100000 in
set_option maxHeartbeats 1000000 in
theorem l4Any_any (q : Nat) (w : World) (hc : Cur w q) :
    Calls Tryz.prog 67 #[.pointer (some ⟨q, 0, none⟩)] w (DrT 9 q w) := by
  obtain ⟨i1, hi, hz0, hz1, hz2⟩ := info_parts info_row
  have d0 : Dn q w [(w.heap.size, 0, .string { data := #[] }), (w.heap.size, 1, .int .i64 0), (w.heap.size, 2, .slice none 0 0)] (w.alloc (.cells #[.string { data := #[] }, .int .i64 0, .slice none 0 0] 51)) := by
    simpa using (Dn.start hc).box [.string { data := #[] }, .int .i64 0, .slice none 0 0] 51
  go_enter Tryz.func67, Tryz.ntmps67
  go_upto_region 1 with fail
  have hs0 : w.heap.size + 1 ≤ (w.alloc (.cells #[.string { data := #[] }, .int .i64 0, .slice none 0 0] 51)).heap.size := by simp
  generalize w.alloc (.cells #[.string { data := #[] }, .int .i64 0, .slice none 0 0] 51) = w0 at d0 hs0 ⊢
  have hq0 := d0.cur.lt
  go_wp2_with fail
  have hB_n := (Below.refl w0.heap.size w0).alloc (Nat.le_refl _) (.cells ([⟨#[114]⟩, ⟨#[115]⟩, ⟨#[116]⟩].map Value.string).toArray 9)
  refine (l1Pick_any q w0.heap.size 0 3 3 (fun s => s.size ≤ 8) _ (d0.cur.next hB_n) (by simp) (by omega) (by omega) (by omega) (fun k hk => ⟨_, row_strs w0 [⟨#[114]⟩, ⟨#[115]⟩, ⟨#[116]⟩] _ k hk, all_s [⟨#[114]⟩, ⟨#[115]⟩, ⟨#[116]⟩] (by decide +kernel) _ (List.getElem_mem _)⟩)).mono ?_
  rintro e w1 ⟨s, rfl, hs, hc1, hg1⟩
  have d1 := (d0.next hB_n).draw hc1 hg1
  have hs1 := Nat.le_trans (Nat.le_trans hs0 hB_n.size) hg1.size
  clear d0 hB_n hc1 hg1 hs0 hq0 hc
  go_wp2_with fail
  refine (l1Below_any q 3 w1 d1.cur (by omega)).mono ?_
  rintro e w2 ⟨x, rfl, ⟨hx0, hx1⟩, hc2, hg2⟩
  have d2 := d1.draw hc2 hg2
  have hx2 : x ≤ 2 := by omega
  have hs2 := Nat.le_trans hs1 hg2.size
  clear d1 hc2 hg2 hs1
  go_wp2_with fail
  refine (l4Tab_at q (1 + x) 6 4 s w2 d2.cur (by omega) (by omega) (by omega) hs).mono ?_
  rintro e w3 ⟨nm, ar, A, c, R, rfl, hsm, ho, hc3, hg3⟩
  have hs3 := hg3.size
  have t3 := TI.of (nm := nm) (ar := ar) (d2.draw hc3 hg3) ho (by omega) (by simp; omega)
  have HS := Lib.hid hsm
  clear d2 hc3 hg3 ho hsm
  go_wp2_with fail
  have hs4 : w.heap.size < w3.heap.size := by omega
  generalize w3.alloc (.cells #[.string nm, .int .i64 ar, .slice A R.length c] 51) = w4 at t3 ⊢
  generalize w3.heap.size = xb at t3 hs4 ⊢
  clear hs3 hs2 hx0 hx1 hs
  refine (l1Below_any q 12 w4 t3.dn.cur (by omega)).mono ?_
  rintro e w5 ⟨x, rfl, ⟨hx0, hx1⟩, hc5, hg5⟩
  have t5 := t3.draw hc5 hg5
  have hs5 := t5.lx
  clear t3 hc5 hg5
  obtain ⟨d0, d1, d2, _⟩ := t5.dn.all
  obtain ⟨f0, f1, f2, _⟩ := t5.dn.fall
  have x0 := t5.x0
  have x1 := t5.x1
  have x2 := t5.x2
  have y0 := t5.fx 0
  have y1 := t5.fx 1
  have y2 := t5.fx 2
  have HT := Lib.hid t5
  clear t5
  by_cases h0 : x = 0
  · subst h0
    go_wp2_with fail
    have hB_n := (Below.refl w5.heap.size w5).alloc (Nat.le_refl _) (.cells ([⟨#[]⟩, ⟨#[82]⟩, ⟨#[114, 115]⟩, ⟨#[122]⟩].map Value.string).toArray 9)
    have hq5 := HT.out.dn.cur.lt
    refine (l1Pick_any q w5.heap.size 0 4 4 (fun s => s.size ≤ 8) _ (HT.out.dn.cur.next hB_n) (by simp) (by omega) (by omega) (by omega) (fun k hk => ⟨_, row_strs w5 [⟨#[]⟩, ⟨#[82]⟩, ⟨#[114, 115]⟩, ⟨#[122]⟩] _ k hk, all_s [⟨#[]⟩, ⟨#[82]⟩, ⟨#[114, 115]⟩, ⟨#[122]⟩] (by decide +kernel) _ (List.getElem_mem _)⟩)).mono ?_
    rintro e w6 ⟨s, rfl, hs, hc6, hg6⟩
    have HT6 := Lib.hid ((HT.out.next hB_n).draw hc6 hg6)
    clear d0 d1 d2 f0 f1 f2 x0 x1 x2 y0 y1 y2 HT hB_n hc6 hg6 hq5
    obtain ⟨d0, d1, d2, _⟩ := HT6.out.dn.all
    obtain ⟨f0, f1, f2, _⟩ := HT6.out.dn.fall
    have x0 := HT6.out.x0
    have x1 := HT6.out.x1
    have x2 := HT6.out.x2
    have y0 := HT6.out.fx 0
    go_wp2_with fail
    have HF := Lib.hid ((HT6.out.setN s).fin (rb := w.heap.size) ⟨_, List.mem_cons_self, rfl⟩ (.string s) (.int .i64 ar) (.slice A R.length c))
    exact bodyPost_ret (v := .agg #[.string s, .int .i64 ar, .slice A R.length c]) (by simp [results, Tryz.results67, go_sem, *]) rfl ⟨s, ar, A, c, R, rfl, ⟨hs, HS.out.2.1, by have := HS.out.2.2.1; omega, HS.out.2.2.2⟩, HF.out⟩
  by_cases h1 : x = 1
  · subst h1
    go_wp2_with fail
    have hB_n := (Below.refl w5.heap.size w5).alloc (Nat.le_refl _) (.cells ([0, 4, -1].map (Value.int .i64)).toArray 3)
    have hq5 := HT.out.dn.cur.lt
    refine (l1PickInt_any q w5.heap.size 0 3 3 (fun z => -1 ≤ z ∧ z ≤ 4) _ (HT.out.dn.cur.next hB_n) (by simp) (by omega) (by omega) (by omega) (fun k hk => ⟨_, row_ints w5 [0, 4, -1] _ k hk, all_p (fun z => -1 ≤ z ∧ z ≤ 4) [0, 4, -1] (by decide +kernel) _ (List.getElem_mem _)⟩)).mono ?_
    rintro e w6 ⟨z, rfl, hz, hc6, hg6⟩
    have HT6 := Lib.hid ((HT.out.next hB_n).draw hc6 hg6)
    clear d0 d1 d2 f0 f1 f2 x0 x1 x2 y0 y1 y2 HT hB_n hc6 hg6 hq5
    obtain ⟨d0, d1, d2, _⟩ := HT6.out.dn.all
    obtain ⟨f0, f1, f2, _⟩ := HT6.out.dn.fall
    have x0 := HT6.out.x0
    have x1 := HT6.out.x1
    have x2 := HT6.out.x2
    have y1 := HT6.out.fx 1
    go_wp2_with fail
    have HF := Lib.hid ((HT6.out.setA z).fin (rb := w.heap.size) ⟨_, List.mem_cons_self, rfl⟩ (.string nm) (.int .i64 z) (.slice A R.length c))
    exact bodyPost_ret (v := .agg #[.string nm, .int .i64 z, .slice A R.length c]) (by simp [results, Tryz.results67, go_sem, *]) rfl ⟨nm, z, A, c, R, rfl, ⟨HS.out.1, hz, by have := HS.out.2.2.1; omega, HS.out.2.2.2⟩, HF.out⟩
  by_cases h2 : x = 2
  · subst h2
    obtain ⟨xs, hrow, happ⟩ := HT.out.app [0] (by unfold maxLen; simp)
    have hgn := heap_alloc_new (w5.alloc (.cells ([0].map iv).toArray 3)) (.cells #[.slice (some ⟨w5.heap.size, 0, none⟩) 1 1] 27)
    rw [show (w5.alloc (.cells ([0].map iv).toArray 3)).heap.size = w5.heap.size + 1 by simp] at hgn
    have HA := Lib.hid happ
    have HR := Lib.hid hrow
    have HGN := Lib.hid hgn
    have hl := HS.out.2.2.1
    clear happ hrow hgn
    go_wp2_with (at_builtin; refine wpList_append_lies _ rfl _ _ _ rfl 0 27 i1 _ 1 24 Tryz.underlying49 hi hz0 hz1 hz2 rfl (by omega) _ R.length _ rfl HR.out ⟨w5.heap.size + 1, 0, none⟩ 1 1 [.slice (some ⟨w5.heap.size, 0, none⟩) 1 1] rfl rfl (World.news_of_block (cs := #[.slice (some ⟨w5.heap.size, 0, none⟩) 1 1]) (t := 27) (fr := (0, 0)) HGN.out) (by simp [Value.oneCell']) (by omega) (by unfold maxLen; omega) (by omega) (Nat.zero_le _) (w5.heap.size + 1 + 1) (by simp) ?_; intro g cap w6 hown hgrow hat hlt; obtain ⟨m2, m3, hF⟩ := HA.out g cap w6 hown hgrow hat; have HF := Lib.hid hF; have n0 := HF.out.x0; have n1 := HF.out.x1; have n2 := HF.out.x2; obtain ⟨d0, d1, d2, _⟩ := HF.out.dn.all; obtain ⟨f0, f1, f2, _⟩ := HF.out.dn.fall; clear hown hgrow hat hF)
    have HFF := Lib.hid (HF.out.fin (rb := w.heap.size) ⟨_, List.mem_cons_self, rfl⟩ (.string nm) (.int .i64 ar) (.slice (some ⟨g, 0, none⟩) (R.length + 1) cap))
    exact bodyPost_ret (v := .agg #[.string nm, .int .i64 ar, .slice (some ⟨g, 0, none⟩) (R.length + 1) cap]) (by simp [results, Tryz.results67, go_sem, *]) rfl ⟨nm, ar, some ⟨g, 0, none⟩, cap, R ++ [[0]], by simp, ⟨HS.out.1, HS.out.2.1, by simp; omega, fun r hr => by
      rcases List.mem_append.1 hr with hr | hr
      · exact HS.out.2.2.2 r hr
      · obtain rfl := List.mem_singleton.1 hr; simp⟩, by simpa using HFF.out⟩
  by_cases h3 : x = 3
  · subst h3
    obtain ⟨xs, hrow, happ⟩ := HT.out.app [9, 9, 10] (by unfold maxLen; simp)
    have hgn := heap_alloc_new (w5.alloc (.cells ([9, 9, 10].map iv).toArray 3)) (.cells #[.slice (some ⟨w5.heap.size, 0, none⟩) 3 3] 27)
    rw [show (w5.alloc (.cells ([9, 9, 10].map iv).toArray 3)).heap.size = w5.heap.size + 1 by simp] at hgn
    have HA := Lib.hid happ
    have HR := Lib.hid hrow
    have HGN := Lib.hid hgn
    have hl := HS.out.2.2.1
    clear happ hrow hgn
    go_wp2_with (at_builtin; refine wpList_append_lies _ rfl _ _ _ rfl 0 27 i1 _ 1 24 Tryz.underlying49 hi hz0 hz1 hz2 rfl (by omega) _ R.length _ rfl HR.out ⟨w5.heap.size + 1, 0, none⟩ 1 1 [.slice (some ⟨w5.heap.size, 0, none⟩) 3 3] rfl rfl (World.news_of_block (cs := #[.slice (some ⟨w5.heap.size, 0, none⟩) 3 3]) (t := 27) (fr := (0, 0)) HGN.out) (by simp [Value.oneCell']) (by omega) (by unfold maxLen; omega) (by omega) (Nat.zero_le _) (w5.heap.size + 1 + 1) (by simp) ?_; intro g cap w6 hown hgrow hat hlt; obtain ⟨m2, m3, hF⟩ := HA.out g cap w6 hown hgrow hat; have HF := Lib.hid hF; have n0 := HF.out.x0; have n1 := HF.out.x1; have n2 := HF.out.x2; obtain ⟨d0, d1, d2, _⟩ := HF.out.dn.all; obtain ⟨f0, f1, f2, _⟩ := HF.out.dn.fall; clear hown hgrow hat hF)
    have HFF := Lib.hid (HF.out.fin (rb := w.heap.size) ⟨_, List.mem_cons_self, rfl⟩ (.string nm) (.int .i64 ar) (.slice (some ⟨g, 0, none⟩) (R.length + 1) cap))
    exact bodyPost_ret (v := .agg #[.string nm, .int .i64 ar, .slice (some ⟨g, 0, none⟩) (R.length + 1) cap]) (by simp [results, Tryz.results67, go_sem, *]) rfl ⟨nm, ar, some ⟨g, 0, none⟩, cap, R ++ [[9, 9, 10]], by simp, ⟨HS.out.1, HS.out.2.1, by simp; omega, fun r hr => by
      rcases List.mem_append.1 hr with hr | hr
      · exact HS.out.2.2.2 r hr
      · obtain rfl := List.mem_singleton.1 hr; simp⟩, by simpa using HFF.out⟩
  · go_wp2_with fail
    have HF := Lib.hid (HT.out.fin (rb := w.heap.size) ⟨_, List.mem_cons_self, rfl⟩ (.string nm) (.int .i64 ar) (.slice A R.length c))
    exact bodyPost_ret (v := .agg #[.string nm, .int .i64 ar, .slice A R.length c]) (by simp [results, Tryz.results67, go_sem, *]) rfl ⟨nm, ar, A, c, R, rfl, ⟨HS.out.1, HS.out.2.1, by have := HS.out.2.2.1; omega, HS.out.2.2.2⟩, HF.out⟩
end Go.Proofs.YtccnhocekgikiaaGreat
