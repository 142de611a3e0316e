/- What the law on tables draws: DrawInsertRow, DrawNewTable. What is drawn is not said, but for its bounds. No condition. -/
import Derived.Test.YtmojjbhjjhdpaaaGreatDoorDrT4
namespace Go.Proofs.YtmojjbhjjhdpaaaGreatDoor
open Go.RowKit Go.Deep

set_option maxRecDepth 100000 in
set_option maxHeartbeats 1000000 in
theorem drawInsert_any (A0 : Option Addr) (n0 c0 : Nat) (w : World) (hr : RdC w w.heap.size A0 n0) (hn0 : n0 ≤ 1048576) :
    Calls Tryz.prog 6 #[.slice A0 n0 c0] w (DrTL w) := by
  have kn0 : Kn w [(w.heap.size, 0, .string { data := #[] }), (w.heap.size, 1, .int .i64 0), (w.heap.size, 2, .slice none 0 0)] (w.alloc (.cells #[.string { data := #[] }, .int .i64 0, .slice none 0 0] 26)) := by
    simpa using (Kn.start w).box3 (.string { data := #[] }) (.int .i64 0) (.slice none 0 0) 26
  go_enter Tryz.func6, Tryz.ntmps6
  go_upto_region 1 with fail
  have hs0 : w.heap.size < (w.alloc (.cells #[.string { data := #[] }, .int .i64 0, .slice none 0 0] 26)).heap.size := by simp
  have hr0 : RdC (w.alloc (.cells #[.string { data := #[] }, .int .i64 0, .slice none 0 0] 26)) (w.alloc (.cells #[.string { data := #[] }, .int .i64 0, .slice none 0 0] 26)).heap.size A0 n0 := (hr.keep kn0.bel.block).more kn0.bel.size
  generalize w.alloc (.cells #[.string { data := #[] }, .int .i64 0, .slice none 0 0] 26) = w0 at kn0 hs0 hr0 ⊢
  go_wp2_with fail
  refine (l4Both_any A0 n0 c0 w0 hr0 hn0).mono ?_
  rintro e w1 ⟨nm, ar, A, c, R, A', n', c', zs, rfl, hsm, ⟨hn16, hzn⟩, ho, hi1, b1⟩
  have hs1 := b1.size
  have kn1 := kn0.next b1
  go_upto_region 2 with fail
  have hA := (Below.refl w1.heap.size w1).alloc (Nat.le_refl _) (.cells #[.string nm, .int .i64 ar, .slice A R.length c] 26)
  have kn2 : Kn w [(w.heap.size, 0, .string { data := #[] }), (w.heap.size, 1, .int .i64 0), (w.heap.size, 2, .slice none 0 0), (w1.heap.size, 0, .string nm), (w1.heap.size, 1, .int .i64 ar), (w1.heap.size, 2, .slice A R.length c)] (w1.alloc (.cells #[.string nm, .int .i64 ar, .slice A R.length c] 26)) := by
    simpa using kn1.box3 (.string nm) (.int .i64 ar) (.slice A R.length c) 26
  have ho2 := ho.alloc (.cells #[.string nm, .int .i64 ar, .slice A R.length c] 26)
  have hi2 := hi1.below hA (Nat.le_refl _)
  have hs2 := hA.size
  clear hA kn0 kn1 ho hi1 b1 hr hr0
  generalize w1.alloc (.cells #[.string nm, .int .i64 ar, .slice A R.length c] 26) = w2 at kn2 ho2 hi2 hs2 ⊢
  have HF := Lib.hid (fun x y z => drTL_of kn2 hsm ho2 hs2 hs0 hi2 hzn hn16 hs0 hs2 x y z)
  obtain ⟨d0, d1, d2, d3, d4, d5, _⟩ := kn2.all
  obtain ⟨f0, f1, f2, f3, f4, f5, _⟩ := kn2.fall
  have hlt : w.heap.size < w1.heap.size := by omega
  clear kn2 hsm ho2 hi2
  go_wp2_with fail
  exact bodyPost_ret (v := .tuple #[.agg #[.string nm, .int .i64 ar, .slice A R.length c], .slice A' n' c']) (by simp [results, Tryz.results6, go_sem, *]) rfl (HF.out _ _ _)

/-- A name, an arity, rows drawn. -/
def DrN (w : World) (e : Ending) (w' : World) : Prop :=
  ∃ (nm : ByteArray) (ar : Int) (A : Option Addr) (c : Nat) (rs : List (List Int)), e = .returned (.tuple #[.string nm, .int .i64 ar, .slice A rs.length c]) ∧ (nm.size ≤ 8 ∧ rs.length ≤ 16 ∧ ∀ r ∈ rs, r.length ≤ 16) ∧ OwnR w' w.heap.size w'.heap.size (.slice A rs.length c) rs ∧ Below w.heap.size w w'
set_option maxRecDepth 100000 in
set_option maxHeartbeats 2000000 in
theorem drawNew_any (A0 : Option Addr) (n0 c0 : Nat) (w : World) (hr : RdC w w.heap.size A0 n0) (hn0 : n0 ≤ 1048576) :
    Calls Tryz.prog 13 #[.slice A0 n0 c0] w (DrN w) := by
  obtain ⟨i1, hi, hz0, hz1, hz2⟩ := info_parts info_row
  go_enter Tryz.func13, Tryz.ntmps13
  go_wp2_with fail
  refine (l1New_any A0 n0 c0 w hr hn0).mono ?_
  rintro e w1 ⟨rfl, hc1, b1⟩
  have hq1 := hc1.lt
  obtain ⟨q, hq⟩ : ∃ q, q = w.heap.size := ⟨_, rfl⟩
  rw [← hq] at hc1 hq1 ⊢
  have HQ := Lib.hid hq
  have HB1 := Lib.hid b1
  clear hq b1 hr
  go_wp2_with fail
  refine (l1Below_any q 3 w1 hc1 (by omega)).mono ?_
  rintro e w2 ⟨x, rfl, ⟨hx0, hx1⟩, hc2, hg2⟩
  have hx2 : x ≤ 2 := by omega
  have hs2 := hg2.size
  have HG2 := Lib.hid hg2
  clear hc1 hx1 hg2
  go_upto_region 4 with fail
  have oR : OwnR (w2.alloc (.cells #[] 27)) w2.heap.size (w2.alloc (.cells #[] 27)).heap.size (.slice (some ⟨w2.heap.size, 0, none⟩) 0 0) [] := OwnR.empty w2 (Nat.le_refl _)
  have hcA : Cur (w2.alloc (.cells #[] 27)) q := hc2.al
  have HGA := Lib.hid (HG2.out.al (o := .cells #[] 27))
  have hsA : w2.heap.size ≤ (w2.alloc (.cells #[] 27)).heap.size := by simp
  generalize w2.alloc (.cells #[] 27) = w3 at oR hcA HGA hsA ⊢
  generalize (Value.slice (some ⟨w2.heap.size, 0, none⟩) 0 0) = v0 at oR ⊢
  clear HG2 hc2
  go_wp2_with fail
  refine (l1Below_any q 11 w3 hcA (by omega)).mono ?_
  rintro e w4 ⟨y, rfl, ⟨hy0, hy1⟩, hc4, hg4⟩
  obtain ⟨K, rfl⟩ := Int.eq_ofNat_of_zero_le hy0
  have hK : K ≤ 10 := by omega
  have oR4 := (oR.chg hg4 (.inr (by omega))).wide hg4.size
  have HG4 := Lib.hid (HGA.out.trans hg4)
  have hs4 := hg4.size
  obtain ⟨lo, hlo⟩ : ∃ l, l = w2.heap.size := ⟨_, rfl⟩
  rw [← hlo] at oR4
  have hql : q < lo := by omega
  have hwl : w1.heap.size ≤ lo := by omega
  have hl4 : lo ≤ w4.heap.size := by omega
  clear oR hcA HGA hg4 hy0 hy1 hlo
  go_wp2_with fail
  go_loopw [7, 8] (fun v n wr => ∃ (k : Nat) (R : List (List Int)), n = .int .i64 k ∧ Hid (R.length + k ≤ 10 ∧ ∀ r ∈ R, r.length ≤ 16) ∧ Hid (OwnR wr lo wr.heap.size v R) ∧ Cur wr q ∧ lo ≤ wr.heap.size ∧ Hid (Chg q (q + 1) w1 wr)) (fun _ n _ => (intOf n).toNat)
  case atStart => exact ⟨K, [], rfl, ⟨by simp; omega, by simp⟩, oR4, hc4, hl4, HG4⟩
  case round =>
    obtain ⟨k, R, rfl, hR, hown, hcr, hlw, hgr⟩ := hrel
    clear oR4 hc4 HG4
    obtain ⟨A, c, rfl⟩ := hown.out.form
    have hk10 : k ≤ 10 := by have := hR.out.1; omega
    by_cases hk0 : k = 0
    · subst hk0
      obtain ⟨S, hS⟩ : ∃ S, S = 1 + x := ⟨_, rfl⟩
      go_wp2_with fail
      have hqr := hcr.lt
      have hB_n := (Below.refl wr.heap.size wr).alloc (Nat.le_refl _) (.cells ([⟨#[114]⟩, ⟨#[115]⟩, ⟨#[114]⟩, ⟨#[]⟩, ⟨#[81]⟩].map Value.string).toArray 9)
      refine (l1Pick_any q wr.heap.size 0 5 5 (fun s => s.size ≤ 8) _ (hcr.next hB_n) (by simp) (by omega) (by omega) (by omega) (fun k hk => ⟨_, row_strs wr [⟨#[114]⟩, ⟨#[115]⟩, ⟨#[114]⟩, ⟨#[]⟩, ⟨#[81]⟩] _ k hk, all_s [⟨#[114]⟩, ⟨#[115]⟩, ⟨#[114]⟩, ⟨#[]⟩, ⟨#[81]⟩] (by decide +kernel) _ (List.getElem_mem _)⟩)).mono ?_
      rintro e w6 ⟨s, rfl, hs, hc6, hg6⟩
      have hg6' := ((Chg.refl q (q + 1) wr).after hB_n).trans hg6
      have o6 := Lib.hid ((hown.out.chg hg6' (.inr (by omega))).wide hg6'.size)
      have HG6 := Lib.hid (hgr.out.trans hg6')
      clear hB_n hg6 hg6' hcr hown hgr
      go_wp2_with fail
      have hq6 := hc6.lt
      have hB_i := (Below.refl w6.heap.size w6).alloc (Nat.le_refl _) (.cells ([1 + x, 1 + x, 1 + x, 0, 4].map (Value.int .i64)).toArray 3)
      refine (l1PickInt_any q w6.heap.size 0 5 5 (fun _ => True) _ (hc6.next hB_i) (by simp) (by omega) (by omega) (by omega) (fun k hk => ⟨_, row_ints w6 [1 + x, 1 + x, 1 + x, 0, 4] _ k hk, trivial⟩)).mono ?_
      rintro e w7 ⟨z, rfl, _, hc7, hg7⟩
      have hg7' := ((Chg.refl q (q + 1) w6).after hB_i).trans hg7
      have o7 := Lib.hid ((o6.out.chg hg7' (.inr (by omega))).wide hg7'.size)
      have HG7 := Lib.hid (HG6.out.trans hg7')
      clear hB_i hg7 hg7' hc6 hc7 o6 HG6
      go_wp2_with fail
      exact bodyPost_ret (v := .tuple #[.string s, .int .i64 z, .slice A R.length c]) (by simp [results, Tryz.results13, go_sem, *]) rfl ⟨s, z, A, c, R, rfl, ⟨hs, by have := hR.out.1; omega, hR.out.2⟩, o7.out.down (by have := HQ.out; omega), HB1.out.trans (HG7.out.below (by have := HQ.out; omega) (by have := HB1.out.size; omega))⟩
    · have g1 : (0 : Int) < (k : Int) := by omega
      have g0 : 0 < k := by omega
      clear hk0
      have hqr := hcr.lt
      go_wp2_with fail
      refine (l4Some_at q (1 + x) wr hcr ⟨by omega, by omega⟩).mono ?_
      rintro e w5 ⟨n5, A5, c5, z5, rfl, hn5, hz5, _, hI5, hc5, hg5⟩
      subst hz5
      have hs5 := hg5.size
      have o5 := hown.out.chg hg5 (.inr (by omega))
      obtain ⟨xs, hrow, hat0, happ⟩ := o5.open_
      have hA := (Below.refl w5.heap.size w5).alloc (Nat.le_refl _) (.cells #[.slice A5 z5.length c5] 27)
      have hIA := hI5.below hA (Nat.le_refl _)
      have hwr : wr.heap.size ≤ w5.heap.size := hs5
      have HR := Lib.hid (ownsRow_keep hrow fun g hg => hA.block g (hat0 g hg).2.2)
      have HA := Lib.hid (fun w' g cap h1 h2 h3 => happ (w5.alloc (.cells #[.slice A5 z5.length c5] 27)) w' A5 z5 c5 wr.heap.size w5.heap.size g cap hA hIA (Nat.le_refl _) hlw (by simp) (by simp; omega) h1 h2 h3)
      have HH := Lib.hid hat0
      have HG5 := Lib.hid (hgr.out.trans hg5)
      clear hrow happ hIA hI5 o5 hown hgr hg5 hat0 hcr
      have hl := hR.out.1
      go_wp2_with (at_builtin; refine wpList_append_lies _ rfl _ _ _ rfl 0 27 i1 _ 1 24 Tryz.underlying24 hi hz0 hz1 hz2 rfl (by omega) _ R.length _ rfl HR.out ⟨w5.heap.size, 0, none⟩ 1 1 [.slice A5 z5.length c5] rfl rfl (World.news_of_block (cs := #[.slice A5 z5.length c5]) (t := 27) (fr := (0, 0)) (heap_alloc_new w5 _)) (by simp [Value.oneCell']) (by omega) (by unfold maxLen; omega) (by omega) (Nat.zero_le _) (w5.heap.size + 1) (by simp) ?_; intro g cap w6 hown6 hgrow6 hat6 _)
      have hO6 := HA.out w6 g cap hown6 hgrow6 (hat6.imp (fun h => h) fun h => by simpa using h)
      have hB6 : Below lo w5 w6 := (hA.mono (by omega)).grown hgrow6 (by simp; omega) (fun j hj => (HH.out j hj).1)
      refine ⟨⟨k - 1, R ++ [z5], (by show Value.int .i64 _ = Value.int .i64 _; congr 1; omega), ⟨by simp; omega, fun r hr => ?_⟩, ?_, hc5.keep (fun j hj => hB6.block j (by omega)) hB6.size, by have := hB6.size; omega, ?_⟩, ?_⟩
      · rcases List.mem_append.1 hr with hr | hr
        · exact hR.out.2 r hr
        · obtain rfl := List.mem_singleton.1 hr
          omega
      · exact hO6
      · exact HG5.out.after (hB6.mono (by omega))
      · simp [intOf]
        omega
end Go.Proofs.YtmojjbhjjhdpaaaGreatDoor
