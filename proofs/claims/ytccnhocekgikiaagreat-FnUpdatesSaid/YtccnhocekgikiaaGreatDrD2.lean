/- What the laws on databases draw: l5Any. What is drawn is not said, but for its bounds. No condition. -/
import Derived.Test.YtccnhocekgikiaaGreatDrD1
import Derived.Deep.RegionHeld3
import Derived.Deep.RegionLaw
namespace Go.Proofs.YtccnhocekgikiaaGreat
open Go.RowKit Go.Deep

theorem SmlD.drop {ts : List Tab} (k : Nat) (h : SmlD ts) : SmlD (ts.drop k) := ⟨by rw [List.length_drop]; have := h.1; omega, fun t ht => h.2 t (List.mem_of_mem_drop ht)⟩
/-- What stands behind the last store but one. -/
def DrE' (q : Nat) (w : World) (xb g : Nat) (ts : List Tab) (n c : Nat) (W : World) : Prop :=
  Dn q w [(w.heap.size, 0, .slice none 0 0), (xb, 0, .slice (some ⟨g, 0, none⟩) n c)] W ∧ SmlD ts ∧ RdTw (w.heap.size + 1) W (some ⟨g, 0, none⟩) n ts
theorem own_cap {w : World} {lo hi g n c : Nat} {ts : List Tab} (h : OwnD w lo hi (.slice (some ⟨g, 0, none⟩) n c) ts) : n ≤ c := by
  have hn := h.len_eq
  obtain ⟨F, ⟨its, rfl, hT⟩, _⟩ := h
  rw [List.length_map] at hn
  rcases hT.row.2 with ⟨hv, _⟩ | ⟨g', cap, cur, hv, _, _, hnc, _⟩
  · cases hv
  · injection hv with _ h2 h3
    omega
theorem s4_chg {W W' : World} {q xb bb : Nat} {a b c d : Value} (B : Chg q (q + 1) W W') (hx : q < xb) (hb : q < bb) (h : (W.cell? ⟨xb, 0, none⟩ = some a ∧ W.cell? ⟨bb, 0, none⟩ = some b ∧ W.cell? ⟨bb, 1, none⟩ = some c ∧ W.cell? ⟨bb, 2, none⟩ = some d ∧ xb < W.heap.size ∧ bb < W.heap.size)) : (W'.cell? ⟨xb, 0, none⟩ = some a ∧ W'.cell? ⟨bb, 0, none⟩ = some b ∧ W'.cell? ⟨bb, 1, none⟩ = some c ∧ W'.cell? ⟨bb, 2, none⟩ = some d ∧ xb < W'.heap.size ∧ bb < W'.heap.size) := by
  have e1 := B.block xb h.2.2.2.2.1 (.inr hx)
  have e2 := B.block bb h.2.2.2.2.2 (.inr hb)
  exact ⟨(World.cell?_of_block e1).trans h.1, (World.cell?_of_block e2).trans h.2.1, (World.cell?_of_block e2).trans h.2.2.1, (World.cell?_of_block e2).trans h.2.2.2.1, Nat.lt_of_lt_of_le h.2.2.2.2.1 B.size, Nat.lt_of_lt_of_le h.2.2.2.2.2 B.size⟩
theorem s4_set {W : World} {xb bb g i j l : Nat} {a b c d x y z : Value} (h1 : g ≠ xb) (h2 : g ≠ bb) (h : (W.cell? ⟨xb, 0, none⟩ = some a ∧ W.cell? ⟨bb, 0, none⟩ = some b ∧ W.cell? ⟨bb, 1, none⟩ = some c ∧ W.cell? ⟨bb, 2, none⟩ = some d ∧ xb < W.heap.size ∧ bb < W.heap.size)) : ((((W.setCell ⟨g, i, none⟩ x).setCell ⟨g, j, none⟩ y).setCell ⟨g, l, none⟩ z).cell? ⟨xb, 0, none⟩ = some a ∧ (((W.setCell ⟨g, i, none⟩ x).setCell ⟨g, j, none⟩ y).setCell ⟨g, l, none⟩ z).cell? ⟨bb, 0, none⟩ = some b ∧ (((W.setCell ⟨g, i, none⟩ x).setCell ⟨g, j, none⟩ y).setCell ⟨g, l, none⟩ z).cell? ⟨bb, 1, none⟩ = some c ∧ (((W.setCell ⟨g, i, none⟩ x).setCell ⟨g, j, none⟩ y).setCell ⟨g, l, none⟩ z).cell? ⟨bb, 2, none⟩ = some d ∧ xb < (((W.setCell ⟨g, i, none⟩ x).setCell ⟨g, j, none⟩ y).setCell ⟨g, l, none⟩ z).heap.size ∧ bb < (((W.setCell ⟨g, i, none⟩ x).setCell ⟨g, j, none⟩ y).setCell ⟨g, l, none⟩ z).heap.size) := by
  have k : ∀ (W0 : World) (i j : Nat) (u : Value), (W0.setCell ⟨g, i, none⟩ u).cell? ⟨xb, j, none⟩ = W0.cell? ⟨xb, j, none⟩ := fun W0 i j u => cell_set_other (by omega)
  have k2 : ∀ (W0 : World) (i j : Nat) (u : Value), (W0.setCell ⟨g, i, none⟩ u).cell? ⟨bb, j, none⟩ = W0.cell? ⟨bb, j, none⟩ := fun W0 i j u => cell_set_other (by omega)
  simp only [k, k2]
  exact ⟨h.1, h.2.1, h.2.2.1, h.2.2.2.1, by simpa [World.setCell] using h.2.2.2.2.1, by simpa [World.setCell] using h.2.2.2.2.2⟩

set_option maxRecDepth 100000 in
set_option maxHeartbeats 8000000 in
theorem l5Any_any (q : Nat) (w : World) (hc : Cur w q) :
    Calls Tryz.prog 34 #[.pointer (some ⟨q, 0, none⟩)] w (DrE q w) := by
  obtain ⟨i1, hi, hz0, hz1, hz2⟩ := info_parts info_tab
  have d0 : Dn q w [(w.heap.size, 0, .slice none 0 0)] (w.alloc (.cells #[.slice none 0 0] 26)) := by
    simpa using (Dn.start hc).box [.slice none 0 0] 26
  go_enter Tryz.func34, Tryz.ntmps34
  go_upto_region 1 with fail
  have hs0 : w.heap.size < (w.alloc (.cells #[.slice none 0 0] 26)).heap.size := by simp
  generalize w.alloc (.cells #[.slice none 0 0] 26) = w0 at d0 hs0 ⊢
  go_wp2_with fail
  refine (l5Db_any q w0 d0.cur).mono ?_
  rintro e w1 ⟨A, c, ts, rfl, ⟨hl5, hsm⟩, ho, hc1, hg1⟩
  have d1 := d0.draw hc1 hg1
  have hs1 := hg1.size
  have d2 : Dn q w [(w.heap.size, 0, .slice none 0 0), (w1.heap.size, 0, .slice A ts.length c)] (w1.alloc (.cells #[.slice A ts.length c] 26)) := by
    simpa using d1.box [.slice A ts.length c] 26
  have o2 := ho.alloc (.cells #[.slice A ts.length c] 26)
  have hs2 : w1.heap.size < (w1.alloc (.cells #[.slice A ts.length c] 26)).heap.size := by simp
  have HL := Lib.hid hl5
  have HS := Lib.hid hsm
  clear d0 d1 ho hc1 hg1 hc hl5 hsm
  go_upto_region 2 with fail
  generalize w1.alloc (.cells #[.slice A ts.length c] 26) = w2 at d2 o2 hs2 ⊢
  generalize w1.heap.size = xb at d2 o2 hs1 hs2 ⊢
  generalize w0.heap.size = lo at o2 hs0 hs1
  go_wp2_with fail
  refine (l1Below_any q 10 w2 d2.cur (by omega)).mono ?_
  rintro e w3 ⟨x, rfl, ⟨hx0, hx1⟩, hc3, hg3⟩
  have d3 := d2.draw hc3 hg3
  have hq := d2.hq
  have o3 := o2.chg hg3 (.inr (by omega))
  have hs3 := hg3.size
  have hlx : xb < w3.heap.size := by omega
  have HD := Lib.hid d3
  have HO := Lib.hid o3
  clear d2 o2 hs2 hc3 hg3 hs3
  obtain ⟨d0, x0, _⟩ := HD.out.all
  obtain ⟨f0, y0, _⟩ := HD.out.fall
  have hlr : w.heap.size < w3.heap.size := by omega
  by_cases h1 : x = 1
  · subst h1
    go_wp2_with fail
    have hB := (Below.refl w3.heap.size w3).alloc (Nat.le_refl _) (.cells ([⟨#[97]⟩, ⟨#[119]⟩, ⟨#[122]⟩].map Value.string).toArray 9)
    have hq3 := HD.out.cur.lt
    refine (l1Pick_any q w3.heap.size 0 3 3 (fun s => s.size ≤ 8) _ (HD.out.cur.next hB) (by simp) (by omega) (by omega) (by omega) (fun k hk => ⟨_, row_strs w3 [⟨#[97]⟩, ⟨#[119]⟩, ⟨#[122]⟩] _ k hk, all_s [⟨#[97]⟩, ⟨#[119]⟩, ⟨#[122]⟩] (by decide +kernel) _ (List.getElem_mem _)⟩)).mono ?_
    rintro e w4 ⟨s, rfl, hs, hc4, hg4⟩
    have g4 := ((Chg.refl q (q + 1) w3).after hB).trans hg4
    have HD4 := Lib.hid (HD.out.draw hc4 g4)
    have HO4 := Lib.hid (HO.out.chg g4 (.inr (by omega)))
    have hs4 := g4.size
    clear HD HO hB hc4 hg4 g4 d0 x0 f0 y0 hq3
    go_wp2_with fail
    refine (l4Tab_at q 2 4 3 s w4 HD4.out.cur (by omega) (by omega) (by omega) hs).mono ?_
    rintro e w5 ⟨nm1, ar1, A1, c1, R1, rfl, hsm1, ho1, hc5, hg5⟩
    have hs5 := hg5.size
    have HD6 : Hid (Dn q w [(w.heap.size, 0, .slice none 0 0), (xb, 0, .slice A ts.length c), (w5.heap.size, 0, .string nm1), (w5.heap.size, 1, .int .i64 ar1), (w5.heap.size, 2, .slice A1 R1.length c1)] (w5.alloc (.cells #[.string nm1, .int .i64 ar1, .slice A1 R1.length c1] 51))) := by
      show Dn q w _ _
      simpa using (HD4.out.draw hc5 hg5).box [.string nm1, .int .i64 ar1, .slice A1 R1.length c1] 51
    have HO6 := Lib.hid ((HO4.out.chg hg5 (.inr (by omega))).alloc (.cells #[.string nm1, .int .i64 ar1, .slice A1 R1.length c1] 51))
    have HT1 := Lib.hid (ho1.alloc (.cells #[.string nm1, .int .i64 ar1, .slice A1 R1.length c1] 51))
    have HS1 := Lib.hid hsm1
    have hnm1 : nm1.size ≤ maxLen := by have := hsm1.1; unfold maxLen; omega
    have hsk6 : w5.heap.size < (w5.alloc (.cells #[.string nm1, .int .i64 ar1, .slice A1 R1.length c1] 51)).heap.size := by simp
    go_upto_region 8 with fail
    clear HD4 HO4 ho1 hc5 hg5 hsm1
    generalize w5.alloc (.cells #[.string nm1, .int .i64 ar1, .slice A1 R1.length c1] 51) = w6 at HD6 HO6 HT1 hsk6 ⊢
    generalize w5.heap.size = b1 at HD6 HT1 hs5 hsk6 ⊢
    obtain ⟨xs, hrow, happ⟩ := dA' HD6.out HO6.out (by omega) (by simp; omega) (fun t ht => (HD6.out.cell t ht).2.1) [⟨[.string nm1, .int .i64 ar1, .slice A1 R1.length c1], fun k => w4.heap.size ≤ k ∧ k < b1, ⟨nm1, ar1, R1⟩⟩] (by
      intro t ht
      obtain rfl := List.mem_singleton.1 ht
      exact ⟨ETab.of HT1.out hnm1 (by omega), rfl, fun k hk => ⟨by have := hk.1; omega, by have := hk.1; omega, by have := hk.1; have := hk.2; simp; omega⟩⟩) (List.pairwise_singleton _ _) [.string nm1, .int .i64 ar1, .slice A1 R1.length c1] 1 [⟨nm1, ar1, R1⟩] rfl rfl rfl
    have HA := Lib.hid happ
    have HR := Lib.hid hrow
    clear hrow happ
    obtain ⟨d0, x0, t0, t1, t2, _⟩ := HD6.out.all
    have hlx6 := (HD6.out.cell (xb, 0, .slice A ts.length c) (by simp)).2.1
    go_wp2_with (at_builtin; refine wpList_append_lies _ rfl _ _ _ rfl 0 51 i1 _ 3 48 Tryz.underlying24 hi hz0 hz1 hz2 rfl (by omega) _ ts.length _ rfl HR.out ⟨w6.heap.size, 0, none⟩ 1 1 [.string nm1, .int .i64 ar1, .slice A1 R1.length c1] rfl rfl (World.news_of_block (cs := #[.string nm1, .int .i64 ar1, .slice A1 R1.length c1]) (t := 51) (fr := (0, 0)) (heap_alloc_new w6 _)) (by simp [Value.oneCell']) (by omega) (by have := HL.out; unfold maxLen; omega) (by have := HL.out; omega) (Nat.zero_le _) (w6.heap.size + 1) (by simp) ?_; intro g cap w9 hown9 hgrow9 hat9 hlt9; obtain ⟨hd9, F, hF, hF2⟩ := HA.out g cap w9 hown9 hgrow9 hat9; have HD9 := Lib.hid hd9; have HF := Lib.hid (And.intro hF hF2); clear d0 x0 hown9 hgrow9 hat9 hd9 hF hF2; obtain ⟨d0, x0, _⟩ := HD9.out.all; obtain ⟨f0, y0, _⟩ := HD9.out.fall)
    have HE := Lib.hid (drE_app HD9.out HF.out ⟨_, List.mem_cons_self, rfl⟩ ⟨(xb, 0, .slice A ts.length c), by simp, rfl⟩ (ts := ts ++ [⟨nm1, ar1, R1⟩]) (SmlD.snoc ⟨by have := HL.out; omega, HS.out.2⟩ (HS1.out.wide (by omega))) (.slice (some ⟨g, 0, none⟩) (ts.length + 1) cap) (.slice (some ⟨g, 0, none⟩) (ts.length + 1) cap))
    exact bodyPost_ret (v := .agg #[.slice (some ⟨g, 0, none⟩) (ts.length + 1) cap]) (by simp [results, Tryz.results34, go_sem, *]) rfl HE.out
  by_cases h3 : x = 3
  · subst h3
    go_wp2_with fail
    refine (l4Tab_at q 1 2 3 ⟨#[119]⟩ w3 HD.out.cur (by omega) (by omega) (by omega) (by decide)).mono ?_
    rintro e w4 ⟨nm1, ar1, A1, c1, R1, rfl, hsm1, ho1, hc4, hg4⟩
    have hs4 := hg4.size
    have HD5 : Hid (Dn q w [(w.heap.size, 0, .slice none 0 0), (xb, 0, .slice A ts.length c), (w4.heap.size, 0, .string nm1), (w4.heap.size, 1, .int .i64 ar1), (w4.heap.size, 2, .slice A1 R1.length c1)] (w4.alloc (.cells #[.string nm1, .int .i64 ar1, .slice A1 R1.length c1] 51))) := by
      show Dn q w _ _
      simpa using (HD.out.draw hc4 hg4).box [.string nm1, .int .i64 ar1, .slice A1 R1.length c1] 51
    have HO5 := Lib.hid ((HO.out.chg hg4 (.inr (by omega))).alloc (.cells #[.string nm1, .int .i64 ar1, .slice A1 R1.length c1] 51))
    have HT1 := Lib.hid (ho1.alloc (.cells #[.string nm1, .int .i64 ar1, .slice A1 R1.length c1] 51))
    have HS1 := Lib.hid hsm1
    have hnm1 : nm1.size ≤ maxLen := by have := hsm1.1; unfold maxLen; omega
    have hsk5 : w4.heap.size < (w4.alloc (.cells #[.string nm1, .int .i64 ar1, .slice A1 R1.length c1] 51)).heap.size := by simp
    clear d0 x0 f0 y0
    go_upto_region 13 with fail
    clear HD HO ho1 hc4 hg4 hsm1
    generalize w4.alloc (.cells #[.string nm1, .int .i64 ar1, .slice A1 R1.length c1] 51) = w5 at HD5 HO5 HT1 hsk5 ⊢
    generalize w4.heap.size = b1 at HD5 HT1 hs4 hsk5 ⊢
    obtain ⟨d0, x0, t0, t1, t2, _⟩ := HD5.out.all
    go_wp2_with fail
    refine (l4Tab_at q 1 2 3 ⟨#[120]⟩ w5 HD5.out.cur (by omega) (by omega) (by omega) (by decide)).mono ?_
    rintro e w6 ⟨nm2, ar2, A2, c2, R2, rfl, hsm2, ho2, hc6, hg6⟩
    have hs6 := hg6.size
    have HD7 : Hid (Dn q w [(w.heap.size, 0, .slice none 0 0), (xb, 0, .slice A ts.length c), (b1, 0, .string nm1), (b1, 1, .int .i64 ar1), (b1, 2, .slice A1 R1.length c1), (w6.heap.size, 0, .string nm2), (w6.heap.size, 1, .int .i64 ar2), (w6.heap.size, 2, .slice A2 R2.length c2)] (w6.alloc (.cells #[.string nm2, .int .i64 ar2, .slice A2 R2.length c2] 51))) := by
      show Dn q w _ _
      simpa using (HD5.out.draw hc6 hg6).box [.string nm2, .int .i64 ar2, .slice A2 R2.length c2] 51
    have HO7 := Lib.hid ((HO5.out.chg hg6 (.inr (by omega))).alloc (.cells #[.string nm2, .int .i64 ar2, .slice A2 R2.length c2] 51))
    have HT2 := Lib.hid (ho2.alloc (.cells #[.string nm2, .int .i64 ar2, .slice A2 R2.length c2] 51))
    have HS2 := Lib.hid hsm2
    have hnm2 : nm2.size ≤ maxLen := by have := hsm2.1; unfold maxLen; omega
    have hsk7 : w6.heap.size < (w6.alloc (.cells #[.string nm2, .int .i64 ar2, .slice A2 R2.length c2] 51)).heap.size := by simp
    have HT1b := Lib.hid ((HT1.out.chg hg6 (.inr (by omega))).alloc (.cells #[.string nm2, .int .i64 ar2, .slice A2 R2.length c2] 51))
    clear d0 x0 t0 t1 t2 HT1
    go_upto_region 14 with fail
    clear HD5 HO5 ho2 hc6 hg6 hsm2
    generalize w6.alloc (.cells #[.string nm2, .int .i64 ar2, .slice A2 R2.length c2] 51) = w7 at HD7 HO7 HT2 hsk7 HT1b ⊢
    generalize w6.heap.size = b2 at HD7 HT2 hs6 hsk7 ⊢
    obtain ⟨xs, hrow, happ⟩ := dA' HD7.out HO7.out (by omega) (by simp; omega) (fun t ht => (HD7.out.cell t ht).2.1) [⟨[.string nm1, .int .i64 ar1, .slice A1 R1.length c1], fun k => w3.heap.size ≤ k ∧ k < b1, ⟨nm1, ar1, R1⟩⟩, ⟨[.string nm2, .int .i64 ar2, .slice A2 R2.length c2], fun k => w5.heap.size ≤ k ∧ k < b2, ⟨nm2, ar2, R2⟩⟩] (by
      intro t ht
      rcases List.mem_cons.1 ht with rfl | ht
      · exact ⟨ETab.of HT1b.out hnm1 (by omega), rfl, fun k hk => ⟨by have := hk.1; omega, by have := hk.1; omega, by have := hk.1; have := hk.2; simp; omega⟩⟩
      · obtain rfl := List.mem_singleton.1 ht
        exact ⟨ETab.of HT2.out hnm2 (by omega), rfl, fun k hk => ⟨by have := hk.1; omega, by have := hk.1; omega, by have := hk.1; have := hk.2; simp; omega⟩⟩) (List.pairwise_cons.2 ⟨fun t ht k hk hk' => by
      obtain rfl := List.mem_singleton.1 ht
      have := hk.2
      have := hk'.1
      omega, List.pairwise_singleton _ _⟩) [.string nm1, .int .i64 ar1, .slice A1 R1.length c1, .string nm2, .int .i64 ar2, .slice A2 R2.length c2] 2 [⟨nm1, ar1, R1⟩, ⟨nm2, ar2, R2⟩] rfl rfl rfl
    have HA := Lib.hid happ
    have HR := Lib.hid hrow
    clear hrow happ
    obtain ⟨d0, x0, t0, t1, t2, t3, t4, t5, _⟩ := HD7.out.all
    have hlx7 := (HD7.out.cell (xb, 0, .slice A ts.length c) (by simp)).2.1
    go_wp2_with (at_builtin; refine wpList_append_lies _ rfl _ _ _ rfl 0 51 i1 _ 3 48 Tryz.underlying24 hi hz0 hz1 hz2 rfl (by omega) _ ts.length _ rfl HR.out ⟨w7.heap.size, 0, none⟩ 2 2 [.string nm1, .int .i64 ar1, .slice A1 R1.length c1, .string nm2, .int .i64 ar2, .slice A2 R2.length c2] rfl rfl (World.news_of_block (cs := #[.string nm1, .int .i64 ar1, .slice A1 R1.length c1, .string nm2, .int .i64 ar2, .slice A2 R2.length c2]) (t := 51) (fr := (0, 0)) (heap_alloc_new w7 _)) (by simp [Value.oneCell']) (by omega) (by have := HL.out; unfold maxLen; omega) (by have := HL.out; omega) (Nat.zero_le _) (w7.heap.size + 1) (by simp) ?_; intro g cap w9 hown9 hgrow9 hat9 hlt9; obtain ⟨hd9, F, hF, hF2⟩ := HA.out g cap w9 hown9 hgrow9 hat9; have HD9 := Lib.hid hd9; have HF := Lib.hid (And.intro hF hF2); clear d0 x0 hown9 hgrow9 hat9 hd9 hF hF2; obtain ⟨d0, x0, _⟩ := HD9.out.all; obtain ⟨f0, y0, _⟩ := HD9.out.fall)
    have HE := Lib.hid (drE_app HD9.out HF.out ⟨_, List.mem_cons_self, rfl⟩ ⟨(xb, 0, .slice A ts.length c), by simp, rfl⟩ (ts := ts ++ [⟨nm1, ar1, R1⟩, ⟨nm2, ar2, R2⟩]) (by
      have h1 := SmlD.snoc (t := ⟨nm1, ar1, R1⟩) ⟨by have := HL.out; omega, HS.out.2⟩ (HS1.out.wide (by omega))
      have h2 := SmlD.snoc (ts := ts ++ [⟨nm1, ar1, R1⟩]) (t := ⟨nm2, ar2, R2⟩) ⟨by have := HL.out; rw [List.length_append, List.length_singleton]; omega, h1.2⟩ (HS2.out.wide (by omega))
      rwa [List.append_assoc] at h2) (.slice (some ⟨g, 0, none⟩) (ts.length + 2) cap) (.slice (some ⟨g, 0, none⟩) (ts.length + 2) cap))
    exact bodyPost_ret (v := .agg #[.slice (some ⟨g, 0, none⟩) (ts.length + 2) cap]) (by simp [results, Tryz.results34, go_sem, *]) rfl HE.out
  by_cases h0 : x = 0
  · subst h0
    go_wp2_with fail
    refine (l4Any_any q w3 HD.out.cur).mono ?_
    rintro e w4 ⟨nm1, ar1, A1, c1, R1, rfl, hsm1, ho1, hc4, hg4⟩
    have hs4 := hg4.size
    have HD5 : Hid (Dn q w [(w.heap.size, 0, .slice none 0 0), (xb, 0, .slice A ts.length c), (w4.heap.size, 0, .string nm1), (w4.heap.size, 1, .int .i64 ar1), (w4.heap.size, 2, .slice A1 R1.length c1)] (w4.alloc (.cells #[.string nm1, .int .i64 ar1, .slice A1 R1.length c1] 51))) := by
      show Dn q w _ _
      simpa using (HD.out.draw hc4 hg4).box [.string nm1, .int .i64 ar1, .slice A1 R1.length c1] 51
    have HO5 := Lib.hid ((HO.out.chg hg4 (.inr (by omega))).alloc (.cells #[.string nm1, .int .i64 ar1, .slice A1 R1.length c1] 51))
    have HT1 := Lib.hid (ho1.alloc (.cells #[.string nm1, .int .i64 ar1, .slice A1 R1.length c1] 51))
    have HS1 := Lib.hid hsm1
    have hnm1 : nm1.size ≤ maxLen := by have := hsm1.1; unfold maxLen; omega
    have hsk5 : w4.heap.size < (w4.alloc (.cells #[.string nm1, .int .i64 ar1, .slice A1 R1.length c1] 51)).heap.size := by simp
    clear d0 x0 f0 y0
    go_upto_region 5 with fail
    clear HD HO ho1 hc4 hg4 hsm1
    generalize w4.alloc (.cells #[.string nm1, .int .i64 ar1, .slice A1 R1.length c1] 51) = w5 at HD5 HO5 HT1 hsk5 ⊢
    generalize w4.heap.size = b1 at HD5 HT1 hs4 hsk5 ⊢
    obtain ⟨g, _, _, _, _, _, rfl, hlg, hgh, _⟩ := HO5.out.at_ rfl (k := 0) (by rw [HL.out]; omega)
    obtain ⟨d0, x0, t0, t1, t2, _⟩ := HD5.out.all
    have hS : (w5.cell? ⟨xb, 0, none⟩ = some (.slice (some ⟨g, 0, none⟩) ts.length c) ∧ w5.cell? ⟨b1, 0, none⟩ = some (.string nm1) ∧ w5.cell? ⟨b1, 1, none⟩ = some (.int .i64 ar1) ∧ w5.cell? ⟨b1, 2, none⟩ = some (.slice A1 R1.length c1) ∧ xb < w5.heap.size ∧ b1 < w5.heap.size) := ⟨x0, t0, t1, t2, by omega, hsk5⟩
    have hgx : g ≠ xb := by omega
    have hgb : g ≠ b1 := by omega
    have K : Hid (Calls Tryz.prog 66 #[.pointer (some ⟨q, 0, none⟩), .int .i64 5] w5.drew fun e w' => ∃ (k : Nat) (y0 y1 y2 : Value), e = .returned (.int .i64 (k : Int)) ∧ (0 : Int) ≤ (k : Int) ∧ (k : Int) < (ts.length : Int) ∧ (k : Int).toNat = k ∧
        (w'.cell? ⟨g, k * 3, none⟩ = some y0 ∧ w'.cell? ⟨g, k * 3 + 1, none⟩ = some y1 ∧ w'.cell? ⟨g, k * 3 + 2, none⟩ = some y2) ∧ (w'.frozen? ⟨g, k * 3, none⟩ = false ∧ w'.frozen? ⟨g, k * 3 + 1, none⟩ = false ∧ w'.frozen? ⟨g, k * 3 + 2, none⟩ = false) ∧
        Hid (DrE' q w xb g (ts.set k ⟨nm1, ar1, R1⟩) ts.length c (((w'.setCell ⟨g, k * 3, none⟩ (.string nm1)).setCell ⟨g, k * 3 + 1, none⟩ (.int .i64 ar1)).setCell ⟨g, k * 3 + 2, none⟩ (.slice A1 R1.length c1))) ∧ (w'.cell? ⟨xb, 0, none⟩ = some (.slice (some ⟨g, 0, none⟩) ts.length c) ∧ w'.cell? ⟨b1, 0, none⟩ = some (.string nm1) ∧ w'.cell? ⟨b1, 1, none⟩ = some (.int .i64 ar1) ∧ w'.cell? ⟨b1, 2, none⟩ = some (.slice A1 R1.length c1) ∧ xb < w'.heap.size ∧ b1 < w'.heap.size)) :=
      (l1Below_any q 5 w5.drew HD5.out.cur.drew (by omega)).mono fun e w' ⟨x, he, ⟨hx0, hx1⟩, hc, hg⟩ => by
        obtain ⟨k, rfl⟩ := Int.eq_ofNat_of_zero_le hx0
        have hk : k < ts.length := by rw [HL.out]; omega
        have hg' : Chg q (q + 1) w5 w' := (Chg.drewN 1).trans hg
        have hd := HD5.out.draw hc hg'
        have ho := HO5.out.chg hg' (.inr (by omega))
        have ht := HT1.out.chg hg' (.inr (by omega))
        obtain ⟨g', t, A', c', lo', hi', e1, _, _, hgl, htk, ⟨q0, q1, q2⟩, ⟨r0, r1, r2⟩, _⟩ := ho.at_ rfl hk
        injection e1 with e1
        injection e1 with e1
        subst e1
        have hs' := hg'.size
        have hr := rdw_put (nm := nm1) (ar := ar1) ho hk ht (.inl (by omega)) (by omega) (by omega) hnm1
        have hd2 : Dn q w [(w.heap.size, 0, .slice none 0 0), (xb, 0, .slice (some ⟨g, 0, none⟩) ts.length c)] w' := hd.sub (by simp)
        exact ⟨k, _, _, _, he, by omega, by omega, by omega, ⟨q0, q1, q2⟩, ⟨r0, r1, r2⟩, ⟨((hd2.setOff (by omega) (by simp; omega)).setOff (by omega) (by simp; omega)).setOff (by omega) (by simp; omega), SmlD.set HS.out HS1.out, hr.down (by omega)⟩, s4_chg hg' (by omega) (by omega) hS⟩
    have hcv : ∀ k : Nat, (ts.set k (⟨nm1, ar1, R1⟩ : Tab)).length = ts.length := fun k => List.length_set
    go_region_held3 (fun W => (W.cell? ⟨xb, 0, none⟩ = some (.slice (some ⟨g, 0, none⟩) ts.length c) ∧ W.cell? ⟨b1, 0, none⟩ = some (.string nm1) ∧ W.cell? ⟨b1, 1, none⟩ = some (.int .i64 ar1) ∧ W.cell? ⟨b1, 2, none⟩ = some (.slice A1 R1.length c1) ∧ xb < W.heap.size ∧ b1 < W.heap.size))
      (first | assumption | exact s4_set hgx hgb (by assumption))
      (first
      | (go_at_call 66; (with_reducible refine K.out.mono ?_); rintro e w6 ⟨k, z0, z1, z2, rfl, k0, k1, k2, ⟨q0, q1, q2⟩, ⟨r0, r1, r2⟩, hE, hS6⟩)
      | fail)
    all_goals (
      clear q0 q1 q2 r0 r1 r2 hS6 d0 x0 t0 t1 t2 hS K
      generalize ((w6.setCell ⟨g, k * 3, none⟩ (.string nm1)).setCell ⟨g, k * 3 + 1, none⟩ (.int .i64 ar1)).setCell ⟨g, k * 3 + 2, none⟩ (.slice A1 R1.length c1) = w7 at hE ⊢
      obtain ⟨d0, x0, _⟩ := hE.out.1.all
      obtain ⟨f0, y0, _⟩ := hE.out.1.fall
      go_wp2_with fail
      have HE := Lib.hid (drE_of (c := c) hE.out.1 hE.out.2.1 hE.out.2.2 (.slice (some ⟨g, 0, none⟩) ts.length c))
      exact bodyPost_ret (v := .agg #[.slice (some ⟨g, 0, none⟩) ts.length c]) (by simp [results, Tryz.results34, go_sem, *]) rfl HE.out)
  by_cases h2 : x = 2
  · subst h2
    obtain ⟨g, _, _, _, _, _, rfl, hlg, hgh, _⟩ := HO.out.at_ rfl (k := 0) (by rw [HL.out]; omega)
    have hcap := own_cap HO.out
    have hcap2 : (ts.length : Int) ≤ (c : Int) := by omega
    have hz0 : CurAt q w3 w3.drew := ⟨HD.out.cur.drew, Chg.drewN 1⟩
    have K : Hid (∀ W, CurAt q w3 W → Calls Tryz.prog 66 #[.pointer (some ⟨q, 0, none⟩), .int .i64 5] W fun e w' => ∃ k : Nat, e = .returned (.int .i64 (k : Int)) ∧ (0 : Int) ≤ (k : Int) ∧ (k : Int) ≤ (ts.length : Int) ∧ (k : Int).toNat = k ∧ k < ts.length ∧ CurAt q w3 w') := fun W h =>
      (l1Below_any q 5 W h.1 (by omega)).mono fun e w' ⟨x, he, ⟨hx0, hx1⟩, hc, hg⟩ => by
        obtain ⟨k, rfl⟩ := Int.eq_ofNat_of_zero_le hx0
        have hk : k < ts.length := by rw [HL.out]; omega
        exact ⟨k, he, by omega, by omega, by omega, hk, hc, h.2.trans hg⟩
    go_upto_region 10 with fail
    go_region_law (first
      | (go_simp; go_at_call 66; refine (K.out _ hz0).mono ?_; rintro e w4 ⟨k, rfl, k0, k1, k2, hk, hcur⟩
         have hd4 := HD.out.draw hcur.1 hcur.2
         obtain ⟨d0, x0, _⟩ := hd4.all
         obtain ⟨f0, y0, _⟩ := hd4.fall
         dsimp only)
      | fail)
    all_goals (
      have HD4 := Lib.hid hd4
      have HC4 := Lib.hid hcur
      clear hd4 hcur
      go_wp2_with fail
      have ho4 := (HO.out.chg HC4.out.2 (.inr (by omega))).setOff (b := xb) (i := 0) (x := .slice (some ⟨g, k * 3, none⟩) (ts.length - k) (c - k)) (.inr (Nat.le_refl _))
      have hr := (ho4.rdw (by have := HC4.out.2.size; simp [World.setCell]; omega)).drop hk
      rw [Nat.zero_add] at hr
      have HE := Lib.hid (drE_of (c := c - k) (HD4.out.setAny (b := xb) (i := 0) (x := .slice (some ⟨g, k * 3, none⟩) (ts.length - k) (c - k)) (by omega)) (SmlD.drop k HS.out) (hr.down (by omega)) (.slice (some ⟨g, k * 3, none⟩) (ts.length - k) (c - k)))
      exact bodyPost_ret (v := .agg #[.slice (some ⟨g, k * 3, none⟩) (ts.length - k) (c - k)]) (by simp [results, Tryz.results34, go_sem, *]) rfl HE.out)
  · go_wp2_with fail
    have HE := Lib.hid (drE_of (c := c) HD.out HS.out (HO.out.rdw (by omega) |>.down (by omega)) (.slice A ts.length c))
    exact bodyPost_ret (v := .agg #[.slice A ts.length c]) (by simp [results, Tryz.results34, go_sem, *]) rfl HE.out
end Go.Proofs.YtccnhocekgikiaaGreat
