/- What the law on updates draws: l6Up. What is drawn is not said, but for its bounds. No condition. -/
import Derived.Test.YtccnhocekgikiaaGreatDrU2
namespace Go.Proofs.YtccnhocekgikiaaGreat
open Go.RowKit Go.Deep

set_option maxRecDepth 100000 in
set_option maxHeartbeats 8000000 in
theorem l6Up_any (q lo : Nat) (A : Option Addr) (n c : Nat) (ts : List Tab) (w : World) (hc : Cur w q) (hrd : RdTw lo w A n ts) (hlo : q < lo ∧ lo ≤ w.heap.size) (hok : OkT ts) :
    Calls Tryz.prog 47 #[.pointer (some ⟨q, 0, none⟩), .agg #[.slice A n c]] w (DrU q w) := by
  have hnl := hrd.len
  have hn100 : n ≤ 100 := by have := hok.1; have := hrd.now.1; omega
  have hq := hc.lt
  have d0 : Dn q w [(w.heap.size, 0, .slice A n c), (w.heap.size + 1, 0, .string { data := #[] }), (w.heap.size + 1, 1, .bool false), (w.heap.size + 1, 2, .slice none 0 0)] ((w.alloc (.cells #[.slice A n c] 26)).alloc (.cells #[.string { data := #[] }, .bool false, .slice none 0 0] 29)) := by
    simpa using ((Dn.start hc).box [.slice A n c] 26).box [.string { data := #[] }, .bool false, .slice none 0 0] 29
  have hr0 : RdTw lo ((w.alloc (.cells #[.slice A n c] 26)).alloc (.cells #[.string { data := #[] }, .bool false, .slice none 0 0] 29)) A n ts := (hrd.below ((Below.refl _ _).alloc (Nat.le_refl _) (.cells #[.slice A n c] 26))).below ((Below.refl _ _).alloc (Nat.le_refl _) (.cells #[.string { data := #[] }, .bool false, .slice none 0 0] 29))
  go_enter Tryz.func47, Tryz.ntmps47
  go_upto_region 1 with fail
  have hs0 : w.heap.size + 1 < ((w.alloc (.cells #[.slice A n c] 26)).alloc (.cells #[.string { data := #[] }, .bool false, .slice none 0 0] 29)).heap.size := by simp
  generalize (w.alloc (.cells #[.slice A n c] 26)).alloc (.cells #[.string { data := #[] }, .bool false, .slice none 0 0] 29) = w0 at d0 hr0 hs0 ⊢
  generalize hrb : w.heap.size + 1 = rb at d0 hs0 ⊢
  clear hc hrd hnl
  have HO := Lib.hid hok
  obtain ⟨x0, d1, d2, d3, _⟩ := d0.all
  obtain ⟨y0, f1, f2, f3, _⟩ := d0.fall
  have hlx : w.heap.size < w0.heap.size := by omega
  by_cases h0 : n = 0
  · subst h0
    go_wp2_with fail
    have HE := Lib.hid (drU_al (nm := ⟨#[114]⟩) (ins := true) [0, 1] d0 (by decide) (by decide) (by omega) hs0 (.string ⟨#[114]⟩) (.bool true) (.slice (some ⟨w0.heap.size, 0, none⟩) 2 2))
    exact bodyPost_ret (v := .agg #[.string ⟨#[114]⟩, .bool true, .slice (some ⟨w0.heap.size, 0, none⟩) 2 2]) (by simp [results, Tryz.results47, go_sem, *]) rfl HE.out
  · have hn0 : 0 < n := by omega
    have e0 : ¬ (n : Int) = 0 := by omega
    have e1 : ((n : Int) == 0) = false := by simp; omega
    clear h0
    obtain ⟨g, o, _, _, _, rfl, hgl, _⟩ := hr0.at_ hn0
    have hlg := hr0.1 g o none rfl
    have hex : ∀ k, ∃ t : ByteArray × Int × Option Addr × Nat × Nat, k < n → w0.cell? ⟨g, o + k * 3, none⟩ = some (.string t.1) ∧ w0.cell? ⟨g, o + k * 3 + 1, none⟩ = some (.int .i64 t.2.1) ∧ w0.cell? ⟨g, o + k * 3 + 2, none⟩ = some (.slice t.2.2.1 t.2.2.2.1 t.2.2.2.2) := fun k => by
      by_cases hk : k < n
      · obtain ⟨g', o', t, A', c', e, _, _, k0, k1, k2, _⟩ := hr0.at_ hk
        injection e with e
        injection e with e1 e2 _
        subst e1 e2
        exact ⟨(t.nm, t.ar, A', t.rs.length, c'), fun _ => ⟨k0, k1, k2⟩⟩
      · exact ⟨(⟨#[]⟩, 0, none, 0, 0), fun h => absurd h hk⟩
    obtain ⟨f, hf⟩ := Classical.axiomOfChoice hex
    have hS : (w0.cell? ⟨w.heap.size, 0, none⟩ = some (.slice (some ⟨g, o, none⟩) n c) ∧ (∀ k, k < n → w0.cell? ⟨g, o + k * 3, none⟩ = some (.string (f k).1)) ∧ (∀ k, k < n → w0.cell? ⟨g, o + k * 3 + 1, none⟩ = some (.int .i64 (f k).2.1)) ∧ (∀ k, k < n → w0.cell? ⟨g, o + k * 3 + 2, none⟩ = some (.slice (f k).2.2.1 (f k).2.2.2.1 (f k).2.2.2.2)) ∧ w.heap.size < w0.heap.size ∧ g < w0.heap.size) := ⟨x0, fun k hk => (hf k hk).1, fun k hk => (hf k hk).2.1, fun k hk => (hf k hk).2.2, hlx, hgl⟩
    have hSd : (w0.drew.cell? ⟨w.heap.size, 0, none⟩ = some (.slice (some ⟨g, o, none⟩) n c) ∧ (∀ k, k < n → w0.drew.cell? ⟨g, o + k * 3, none⟩ = some (.string (f k).1)) ∧ (∀ k, k < n → w0.drew.cell? ⟨g, o + k * 3 + 1, none⟩ = some (.int .i64 (f k).2.1)) ∧ (∀ k, k < n → w0.drew.cell? ⟨g, o + k * 3 + 2, none⟩ = some (.slice (f k).2.2.1 (f k).2.2.2.1 (f k).2.2.2.2)) ∧ w.heap.size < w0.drew.heap.size ∧ g < w0.drew.heap.size) := hS
    clear hex hf
    have HF : Hid (∀ k, k < n → ∃ t : Tab, t ∈ ts ∧ t.nm = (f k).1 ∧ t.rs.length = (f k).2.2.2.1 ∧ RdRw lo w0 (f k).2.2.1 (f k).2.2.2.1 t.rs) := fun k hk => by
      obtain ⟨g', o', t, A', c', e, _, ht, k0, k1, k2, hrw⟩ := hr0.at_ hk
      injection e with e
      injection e with e1 e2 _
      subst e1 e2
      rw [hS.2.1 k hk] at k0
      rw [hS.2.2.2.1 k hk] at k2
      injection k0 with k0
      injection k0 with k0
      injection k2 with k2
      injection k2 with a1 a2 a3
      exact ⟨t, List.mem_of_getElem? ht, k0.symm, a2.symm, by rw [a1, a2]; exact hrw⟩
    have K : Hid (∀ (L : List (Nat × Nat × Value)) (W : World), Dn q w L W → Ag lo w0 W → (W.cell? ⟨w.heap.size, 0, none⟩ = some (.slice (some ⟨g, o, none⟩) n c) ∧ (∀ k, k < n → W.cell? ⟨g, o + k * 3, none⟩ = some (.string (f k).1)) ∧ (∀ k, k < n → W.cell? ⟨g, o + k * 3 + 1, none⟩ = some (.int .i64 (f k).2.1)) ∧ (∀ k, k < n → W.cell? ⟨g, o + k * 3 + 2, none⟩ = some (.slice (f k).2.2.1 (f k).2.2.2.1 (f k).2.2.2.2)) ∧ w.heap.size < W.heap.size ∧ g < W.heap.size) →
        Calls Tryz.prog 66 #[.pointer (some ⟨q, 0, none⟩), .int .i64 n] W fun e w' => ∃ k : Nat, e = .returned (.int .i64 (k : Int)) ∧ (0 : Int) ≤ (k : Int) ∧ (k : Int) < (n : Int) ∧ (k : Int).toNat = k ∧ k < n ∧ Hid (Dn q w L w') ∧ Hid (Ag lo w0 w') ∧ (w'.cell? ⟨w.heap.size, 0, none⟩ = some (.slice (some ⟨g, o, none⟩) n c) ∧ (∀ k, k < n → w'.cell? ⟨g, o + k * 3, none⟩ = some (.string (f k).1)) ∧ (∀ k, k < n → w'.cell? ⟨g, o + k * 3 + 1, none⟩ = some (.int .i64 (f k).2.1)) ∧ (∀ k, k < n → w'.cell? ⟨g, o + k * 3 + 2, none⟩ = some (.slice (f k).2.2.1 (f k).2.2.2.1 (f k).2.2.2.2)) ∧ w.heap.size < w'.heap.size ∧ g < w'.heap.size)) := fun L W hd hr hs =>
      (l1Below_any q n W hd.cur (by omega)).mono fun e w' ⟨x, he, ⟨hx0, hx1⟩, hc, hg⟩ => by
        obtain ⟨k, rfl⟩ := Int.eq_ofNat_of_zero_le hx0
        exact ⟨k, he, by omega, by omega, by omega, by omega, hd.draw hc hg, hr.draw hg hlo.1, su_chg hg (by omega) (by omega) hs⟩
    have hAl := (Below.refl w0.heap.size w0).alloc (Nat.le_refl _) (.cells #[.string { data := #[] }, .int .i64 0, .slice none 0 0] 51)
    have HA := Lib.hid (K.out ([(w.heap.size, 0, .slice (some ⟨g, o, none⟩) n c), (rb, 0, .string { data := #[] }), (rb, 1, .bool false), (rb, 2, .slice none 0 0)] ++ [(w0.heap.size, 0, .string { data := #[] }), (w0.heap.size, 1, .int .i64 0), (w0.heap.size, 2, .slice none 0 0)]) (w0.alloc (.cells #[.string { data := #[] }, .int .i64 0, .slice none 0 0] 51)).drew (by simpa using (d0.box [.string { data := #[] }, .int .i64 0, .slice none 0 0] 51).drew) ((Ag.refl lo w0).next hAl.drew) (su_al hS))
    have HB := Lib.hid (K.out [(w.heap.size, 0, .slice (some ⟨g, o, none⟩) n c), (rb, 0, .string { data := #[] }), (rb, 1, .bool false), (rb, 2, .slice none 0 0)] w0.drew d0.drew ((Ag.refl lo w0).next (Below.refl _ _).drew) hS)
    have hbx : w0.heap.size ≠ w.heap.size := by omega
    have hbg : w0.heap.size ≠ g := by omega
    go_upto_region 3 with fail
    go_cut [5] (fun p wx => ∃ (bt : Nat) (nm : ByteArray) (ar : Int) (At : Option Addr) (m ct : Nat) (rs : List (List Int)), p = .pointer (some ⟨bt, 0, none⟩) ∧ Hid (nm.size ≤ 2000 ∧ rs.length = m ∧ m ≤ 2000 ∧ ∀ r ∈ rs, r.length ≤ 2000) ∧ Hid (RdRw lo w0 At m rs) ∧ Hid (Ag lo w0 wx) ∧
        Dn q w [(w.heap.size, 0, .slice (some ⟨g, o, none⟩) n c), (rb, 0, .string { data := #[] }), (rb, 1, .bool false), (rb, 2, .slice none 0 0), (bt, 0, .string nm), (bt, 1, .int .i64 ar), (bt, 2, .slice At m ct)] wx)
    case first =>
      clear d0 hr0 d1 d2 d3 f1 f2 f3 y0 x0
      go_region_held3 (fun W => (W.cell? ⟨w.heap.size, 0, none⟩ = some (.slice (some ⟨g, o, none⟩) n c) ∧ (∀ k, k < n → W.cell? ⟨g, o + k * 3, none⟩ = some (.string (f k).1)) ∧ (∀ k, k < n → W.cell? ⟨g, o + k * 3 + 1, none⟩ = some (.int .i64 (f k).2.1)) ∧ (∀ k, k < n → W.cell? ⟨g, o + k * 3 + 2, none⟩ = some (.slice (f k).2.2.1 (f k).2.2.2.1 (f k).2.2.2.2)) ∧ w.heap.size < W.heap.size ∧ g < W.heap.size))
        (with_reducible first | assumption | exact su_ald hS | exact su_al (by assumption) | exact su_set hbx hbg (by assumption))
        (first
        | (go_at_call 66; (with_reducible refine HA.out.mono ?_); rintro e w5 ⟨k, rfl, k0, k1, k2, hk, hd5, hT5, hS5⟩
           obtain ⟨u0, u1, u2, u3, t0, t1, t2, _⟩ := hd5.out.all
           obtain ⟨v0, v1, v2, v3, s0, s1, s2, _⟩ := hd5.out.fall)
        | (go_at_call 66; (with_reducible refine HB.out.mono ?_); rintro e w5 ⟨k, rfl, k0, k1, k2, hk, hd5, hT5, hS5⟩)
        | fail)
      all_goals (go_wp2_with fail; go_meet)
      all_goals (
        obtain ⟨t, htm, e1, e3, hrw⟩ := HF.out k hk
        have hsum := sumT_mem htm
        have hok2 := HO.out.2
        have hb : (f k).1.size ≤ 2000 ∧ t.rs.length = (f k).2.2.2.1 ∧ (f k).2.2.2.1 ≤ 2000 ∧ ∀ r ∈ t.rs, r.length ≤ 2000 := ⟨by rw [← e1]; omega, e3, by omega, fun r hr => by have := sumL_mem hr; omega⟩
        first
        | exact ⟨w5.heap.size, _, _, _, _, _, t.rs, rfl, hb, hrw, hT5.out.next ((Below.refl _ _).alloc (Nat.le_refl _) _), by simpa using hd5.out.box [.string (f k).1, .int .i64 (f k).2.1, .slice (f k).2.2.1 (f k).2.2.2.1 (f k).2.2.2.2] 51⟩
        | exact ⟨w0.heap.size, _, _, _, _, _, t.rs, rfl, hb, hrw, ((hT5.out.setOff (Nat.le_refl _)).setOff (Nat.le_refl _)).setOff (Nat.le_refl _), Dn.refill (L := [(w.heap.size, 0, .slice (some ⟨g, o, none⟩) n c), (rb, 0, .string { data := #[] }), (rb, 1, .bool false), (rb, 2, .slice none 0 0)]) hd5.out (by simp; omega)⟩)
    case rest =>
      clear d0 hr0 d1 d2 d3 f1 f2 f3 y0 x0 hS hSd K HA HB hAl HF hgl
      obtain ⟨bt, nm, ar, At, m, ct, rs, rfl, hb, hrw, hag, d4⟩ := hcut
      generalize wc = w4 at hag d4 ⊢
      obtain ⟨x0, u1, u2, u3, t0, t1, t2, _⟩ := d4.all
      go_upto_region 5 with fail
      have d5 : Dn q w [(w.heap.size, 0, .slice (some ⟨g, o, none⟩) n c), (rb, 0, .string { data := #[] }), (rb, 1, .bool false), (rb, 2, .slice none 0 0), (bt, 0, .string nm), (bt, 1, .int .i64 ar), (bt, 2, .slice At m ct), (w4.heap.size, 0, .string nm), (w4.heap.size, 1, .bool true), (w4.heap.size, 2, .slice none 0 0)] (w4.alloc (.cells #[.string nm, .bool true, .slice none 0 0] 29)) := by
        simpa using d4.box [.string nm, .bool true, .slice none 0 0] 29
      have ag5 := Lib.hid (hag.out.next ((Below.refl _ _).alloc (Nat.le_refl _) (.cells #[.string nm, .bool true, .slice none 0 0] 29)))
      have hbt : bt < w4.heap.size := (d4.cell (bt, 0, .string nm) (by simp)).2.1
      have hbw := hag.out.size
      clear hag d4 x0 u1 u2 u3 t0 t1 t2
      generalize w4.alloc (.cells #[.string nm, .bool true, .slice none 0 0] 29) = w5 at d5 ag5 ⊢
      generalize w4.heap.size = bu at d5 hbt hbw ⊢
      have hrn := Lib.hid (ag5.out.rows hrw.out).1
      go_cut [32] (fun b wx => ∃ bb : Bool, b = .bool bb ∧ Hid (bb = true → 0 < m) ∧ Hid (Ag lo w0 wx) ∧ Dn q w [(w.heap.size, 0, .slice (some ⟨g, o, none⟩) n c), (rb, 0, .string { data := #[] }), (rb, 1, .bool false), (rb, 2, .slice none 0 0), (bt, 0, .string nm), (bt, 1, .int .i64 ar), (bt, 2, .slice At m ct), (bu, 0, .string nm), (bu, 1, .bool true), (bu, 2, .slice none 0 0)] wx)
      case first =>
        obtain ⟨x0, u1, u2, u3, t0, t1, t2, v0, v1, v2, _⟩ := d5.all
        have hm2 := hb.out.2.2.1
        by_cases hm0 : m = 0
        · have g0 : ¬ (0 : Int) < (m : Int) := by omega
          go_wp2_with fail
          go_meet
          exact ⟨false, rfl, Lib.hid (fun h => by cases h), ag5, d5⟩
        · have g0 : (0 : Int) < (m : Int) := by omega
          have H0 := Lib.hid hm0
          clear hm0
          go_wp2_with fail
          refine (l1Once_any q 2 w5 d5.cur (by omega)).mono ?_
          rintro e w6 ⟨b, rfl, hc6, hg6⟩
          have d6 := d5.draw hc6 hg6
          have ag6 := Lib.hid (ag5.out.draw hg6 hlo.1)
          clear x0 u1 u2 u3 t0 t1 t2 v0 v1 v2
          obtain ⟨x0, u1, u2, u3, t0, t1, t2, v0, v1, v2, _⟩ := d6.all
          go_wp2_with fail
          go_meet
          exact ⟨b, rfl, Lib.hid (fun _ => by have := H0.out; omega), ag6, d6⟩
      case rest =>
        obtain ⟨bb, rfl, hbb, ag6, d6⟩ := hcut
        clear d5 ag5
        generalize wc = w6 at ag6 d6 ⊢
        have hbw2 : w0.heap.size ≤ bu := hbw
        go_upto_if 32 with fail
        go_cut [6] (fun p wx => p = .pointer (some ⟨bu, 0, none⟩) ∧ ∃ (ins : Bool) (A' : Option Addr) (n' c' : Nat) (zs : List Int) (lo2 hi2 : Nat), Hid (n' ≤ 2000 ∧ zs.length = n') ∧ Hid (OwnI wx lo2 hi2 (.slice A' n' c') zs ∧ w.heap.size ≤ lo2 ∧ hi2 ≤ wx.heap.size ∧ bu < lo2 ∧ rb < lo2) ∧ Dn q w [(w.heap.size, 0, .slice (some ⟨g, o, none⟩) n c), (rb, 0, .string { data := #[] }), (rb, 1, .bool false), (rb, 2, .slice none 0 0), (bt, 0, .string nm), (bt, 1, .int .i64 ar), (bt, 2, .slice At m ct), (bu, 0, .string nm), (bu, 1, .bool ins), (bu, 2, .slice A' n' c')] wx)
        case first =>
          cases bb with
          | true =>
            obtain ⟨i0, hi0, hz0, hz1, hz2⟩ := info_parts info_int
            have h0 := hbb.out rfl
            obtain ⟨g2, o2, _, _, _, rfl, hlg2, hgg2, _⟩ := hrw.out.at_ h0
            have hm2 := hb.out.2.2.1
            obtain ⟨x0, u1, u2, u3, t0, t1, t2, v0, v1, v2, _⟩ := d6.all
            obtain ⟨y0, f1, f2', f3, s0, s1, s2, r0, r1, r2, _⟩ := d6.fall
            have d7 : Dn q w [(w.heap.size, 0, .slice (some ⟨g, o, none⟩) n c), (rb, 0, .string { data := #[] }), (rb, 1, .bool false), (rb, 2, .slice none 0 0), (bt, 0, .string nm), (bt, 1, .int .i64 ar), (bt, 2, .slice (some ⟨g2, o2, none⟩) m ct), (bu, 0, .string nm), (bu, 1, .bool false), (bu, 2, .slice none 0 0)] (w6.setCell ⟨bu, 1, none⟩ (.bool false)) := by
              simpa using Dn.setOf3 (L := [(w.heap.size, 0, .slice (some ⟨g, o, none⟩) n c), (rb, 0, .string { data := #[] }), (rb, 1, .bool false), (rb, 2, .slice none 0 0), (bt, 0, .string nm), (bt, 1, .int .i64 ar), (bt, 2, .slice (some ⟨g2, o2, none⟩) m ct)]) (i := 1) (y := .bool false) d6 (by have := hrb; simp; omega) (by omega)
            have ag7 := Lib.hid (ag6.out.setOff (b := bu) (i := 1) (x := .bool false) hbw2)
            go_upto_region 7 with fail
            clear x0 u1 u2 u3 t0 t1 t2 v0 v1 v2 y0 f1 f2' f3 s0 s1 s2 r0 r1 r2 d6 ag6
            generalize w6.setCell ⟨bu, 1, none⟩ (.bool false) = w7 at d7 ag7 ⊢
            have hbuw := (d7.cell (bu, 0, .string nm) (by simp)).2.1
            have hbtw := (d7.cell (bt, 0, .string nm) (by simp)).2.1
            have hcs7 := d7.chg.size
            have hq7 := d7.cur.lt
            have hagz := ag7.out.size
            have hex : ∀ k, ∃ t : (Option Addr × Nat × Nat) × List Int, k < m → w0.cell? ⟨g2, o2 + k, none⟩ = some (.slice t.1.1 t.1.2.1 t.1.2.2) ∧ (t.2 ∈ rs ∧ t.2.length = t.1.2.1) ∧ ∀ W : World, w0.heap.size ≤ W.heap.size → (∀ j, lo ≤ j → j < w0.heap.size → W.heap[j]? = w0.heap[j]?) → RdI W W.heap.size t.1.1 t.1.2.1 t.2 := fun k => by
              by_cases hk : k < m
              · obtain ⟨g', o', r, A', c', e, _, _, hr, hc, hri⟩ := hrw.out.at_ hk
                injection e with e
                injection e with e1 e2 _
                subst e1 e2
                exact ⟨((A', r.length, c'), r), fun _ => ⟨hc, ⟨List.mem_of_getElem? hr, rfl⟩, hri⟩⟩
              · exact ⟨((none, 0, 0), []), fun h => absurd h hk⟩
            obtain ⟨F2, hF2⟩ := Classical.axiomOfChoice hex
            obtain ⟨f2, hf2⟩ : ∃ f2 : Nat → Option Addr × Nat × Nat, f2 = fun k => (F2 k).1 := ⟨_, rfl⟩
            obtain ⟨rw, hrw2⟩ : ∃ rw : Nat → List Int, rw = fun k => (F2 k).2 := ⟨_, rfl⟩
            have hcl : ∀ k, k < m → w0.cell? ⟨g2, o2 + k, none⟩ = some (.slice (f2 k).1 (f2 k).2.1 (f2 k).2.2) := fun k hk => by rw [hf2]; exact (hF2 k hk).1
            have HRow : Hid (∀ k, k < m → rw k ∈ rs ∧ (rw k).length = (f2 k).2.1 ∧ ∀ W : World, Ag lo w0 W → RdI W W.heap.size (f2 k).1 (f2 k).2.1 (rw k)) := fun k hk => by rw [hf2, hrw2]; exact ⟨(hF2 k hk).2.1.1, (hF2 k hk).2.1.2, fun W hW => (hF2 k hk).2.2 W hW.size hW.block⟩
            have HLen : Hid (∀ k, k < m → (f2 k).2.1 ≤ 2000) := fun k hk => by
              obtain ⟨a1, a2, _⟩ := HRow.out k hk
              rw [← a2]
              exact hb.out.2.2.2 _ a1
            have SrcRow : ∀ {W : World} {k : Nat}, Ag lo w0 W → k < m → SrcAt W (f2 k).1 (f2 k).2.1 ((rw k).map iv) := fun hW hk => ((HRow.out _ hk).2.2 _ hW).src
            have hS : (w7.cell? ⟨bt, 2, none⟩ = some (.slice (some ⟨g2, o2, none⟩) m ct) ∧ (∀ k, k < m → w7.cell? ⟨g2, o2 + k, none⟩ = some (.slice (f2 k).1 (f2 k).2.1 (f2 k).2.2)) ∧ bt < w7.heap.size ∧ g2 < w7.heap.size) := ⟨(d7.cell (bt, 2, .slice (some ⟨g2, o2, none⟩) m ct) (by simp)).2.2, fun k hk => (World.cell?_of_block (ag7.out.block g2 hlg2 hgg2)).trans (hcl k hk), hbtw, by omega⟩
            have hSd : (w7.drew.cell? ⟨bt, 2, none⟩ = some (.slice (some ⟨g2, o2, none⟩) m ct) ∧ (∀ k, k < m → w7.drew.cell? ⟨g2, o2 + k, none⟩ = some (.slice (f2 k).1 (f2 k).2.1 (f2 k).2.2)) ∧ bt < w7.drew.heap.size ∧ g2 < w7.drew.heap.size) := hS
            clear hex hF2 hf2 hrw2 hcl
            have K : Hid (∀ W : World, Dn q w [(w.heap.size, 0, .slice (some ⟨g, o, none⟩) n c), (rb, 0, .string { data := #[] }), (rb, 1, .bool false), (rb, 2, .slice none 0 0), (bt, 0, .string nm), (bt, 1, .int .i64 ar), (bt, 2, .slice (some ⟨g2, o2, none⟩) m ct), (bu, 0, .string nm), (bu, 1, .bool false), (bu, 2, .slice none 0 0)] W → Ag lo w0 W → (W.cell? ⟨bt, 2, none⟩ = some (.slice (some ⟨g2, o2, none⟩) m ct) ∧ (∀ k, k < m → W.cell? ⟨g2, o2 + k, none⟩ = some (.slice (f2 k).1 (f2 k).2.1 (f2 k).2.2)) ∧ bt < W.heap.size ∧ g2 < W.heap.size) → Calls Tryz.prog 66 #[.pointer (some ⟨q, 0, none⟩), .int .i64 m] W fun e w' => ∃ k : Nat, e = .returned (.int .i64 (k : Int)) ∧ (0 : Int) ≤ (k : Int) ∧ (k : Int) < (m : Int) ∧ (k : Int).toNat = k ∧ k < m ∧
                Hid (Dn q w [(w.heap.size, 0, .slice (some ⟨g, o, none⟩) n c), (rb, 0, .string { data := #[] }), (rb, 1, .bool false), (rb, 2, .slice none 0 0), (bt, 0, .string nm), (bt, 1, .int .i64 ar), (bt, 2, .slice (some ⟨g2, o2, none⟩) m ct), (bu, 0, .string nm), (bu, 1, .bool false), (bu, 2, .slice none 0 0)] w') ∧ Hid (Ag lo w0 w') ∧ Hid (Chg q (q + 1) W w') ∧ (w'.cell? ⟨bt, 2, none⟩ = some (.slice (some ⟨g2, o2, none⟩) m ct) ∧ (∀ k, k < m → w'.cell? ⟨g2, o2 + k, none⟩ = some (.slice (f2 k).1 (f2 k).2.1 (f2 k).2.2)) ∧ bt < w'.heap.size ∧ g2 < w'.heap.size)) := fun W hd hr hs =>
              (l1Below_any q m W hd.cur (by omega)).mono fun e w' ⟨x, he, ⟨hx0, hx1⟩, hc, hg⟩ => by
                obtain ⟨k, rfl⟩ := Int.eq_ofNat_of_zero_le hx0
                have := (hd.cell (bt, 0, .string nm) (by simp)).1
                exact ⟨k, he, by omega, by omega, by omega, by omega, hd.draw hc hg, hr.draw hg hlo.1, hg, sr_chg hg (by omega) (by omega) hs⟩
            have hbt1 := (d7.cell (bt, 0, .string nm) (by simp)).1
            have HA := Lib.hid (K.out (w7.alloc (.cells #[] 3)).drew (d7.next ((Below.refl w7.heap.size w7).alloc (Nat.le_refl _) (.cells #[] 3)).drew) (ag7.out.next ((Below.refl w7.heap.size w7).alloc (Nat.le_refl _) (.cells #[] 3)).drew) (sr_al hS))
            have HB := Lib.hid (K.out w7.drew d7.drew (ag7.out.next (Below.refl _ _).drew) hS)
            have hub : bu ≠ bt := by omega
            have hug : bu ≠ g2 := by omega
            have HD7 := Lib.hid d7
            clear d7 K
            go_region_held3 (fun W => (W.cell? ⟨bt, 2, none⟩ = some (.slice (some ⟨g2, o2, none⟩) m ct) ∧ (∀ k, k < m → W.cell? ⟨g2, o2 + k, none⟩ = some (.slice (f2 k).1 (f2 k).2.1 (f2 k).2.2)) ∧ bt < W.heap.size ∧ g2 < W.heap.size))
              (with_reducible first | assumption | exact sr_ald hS | exact sr_al (by assumption) | exact sr_set hub hug (by assumption))
              (first
              | (go_at_call 66; (with_reducible refine HA.out.mono ?_); rintro e w8 ⟨k, rfl, k0, k1, k2, hk, hd8, hag8, hg8, hS8⟩
                 have hls : w7.heap.size ≤ w8.heap.size := Nat.le_trans (by show _ ≤ (w7.alloc _).heap.size; simp) hg8.out.size
                 have hblk : Hid (w8.heap[w7.heap.size]? = some (.cells #[] 3 (0, 0))) := (hg8.out.block w7.heap.size (by show _ < (w7.alloc _).heap.size; simp) (.inr (by omega))).trans (heap_alloc_new w7 _)
                 skip)
              | (go_at_call 66; (with_reducible refine HB.out.mono ?_); rintro e w8 ⟨k, rfl, k0, k1, k2, hk, hd8, hag8, hg8, hS8⟩
                 have hls : w7.heap.size ≤ w8.heap.size := hg8.out.size
                 skip)
              | (refine step_append_src _ (by rfl) (.tmp 34) (.tmp 43) _ (by rfl) 3 i0 _ 8 Tryz.underlying27 hi0 hz0 hz1 hz2 (by rfl) (.slice (some ⟨w7.heap.size, 0, none⟩) 0 0) 0 [] (by rfl) (own_at hblk.out) (f2 k).1 (f2 k).2.1 (f2 k).2.2 ((rw k).map iv) (by rfl) (SrcRow hag8.out hk) (by simp [iv, Value.oneCell']) (by have := HLen.out k hk; unfold maxLen; omega) (by have := HLen.out k hk; omega) ?_; intro v9 w9 hown9 hgrow9 hat9
                 obtain ⟨A6, c6, rfl, ho9⟩ := own_of_copy3 (w := w7) (HRow.out k hk).2.1 hown9 (hat_ge hat9 hls)
                 have hgr9 : w8.grownBy w9 (some w7.heap.size) := hgrow9
                 have hB9 : Below w7.heap.size w8 w9 := (Below.refl w7.heap.size w8).grown hgr9 hls (fun j hj => by injection hj with hj; omega)
                 have hS9 := sr_low hB9 (by omega) (by omega) hS8
                 have hd9 := Lib.hid ((hd8.out).low hB9 (by omega) (by simp; omega))
                 have ho9' := Lib.hid ho9
                 have v2 := (hd9.out.cell (bu, 2, .slice none 0 0) (by simp)).2.2
                 have r2 := hd9.out.frz (bu, 2, .slice none 0 0) (by simp)
                 have hls9 : w7.heap.size ≤ w7.heap.size := Nat.le_refl _
                 have hlo9 := Nat.le_trans hls9 (Nat.le_refl w7.heap.size)
                 clear hown9 hgrow9 hat9 ho9)
              | (refine step_append_src _ (by rfl) (.tmp 34) (.tmp 43) _ (by rfl) 3 i0 _ 8 Tryz.underlying27 hi0 hz0 hz1 hz2 (by rfl) (.slice (some ⟨w8.heap.size, 0, none⟩) 0 0) 0 [] (by rfl) (own_at (heap_alloc_new w8 _)) (f2 k).1 (f2 k).2.1 (f2 k).2.2 ((rw k).map iv) (by rfl) (SrcRow (hag8.out.next ((Below.refl _ _).alloc (Nat.le_refl _) (.cells #[] 3))) hk) (by simp [iv, Value.oneCell']) (by have := HLen.out k hk; unfold maxLen; omega) (by have := HLen.out k hk; omega) ?_; intro v9 w9 hown9 hgrow9 hat9
                 obtain ⟨A6, c6, rfl, ho9⟩ := own_of_copy3 (w := w8) (HRow.out k hk).2.1 hown9 (hat_ge hat9 (by simp))
                 have hgr9 : (w8.alloc (.cells #[] 3)).grownBy w9 (some w8.heap.size) := hgrow9
                 have hB9 : Below w8.heap.size (w8.alloc (.cells #[] 3)) w9 := (Below.refl w8.heap.size (w8.alloc (.cells #[] 3))).grown hgr9 (by simp) (fun j hj => by injection hj with hj; omega)
                 have hS9 := sr_low hB9 (by omega) (by omega) (sr_al hS8)
                 have hd9 := Lib.hid ((hd8.out.next ((Below.refl _ _).alloc (Nat.le_refl _) (.cells #[] 3))).low hB9 (by omega) (by simp; omega))
                 have ho9' := Lib.hid ho9
                 have v2 := (hd9.out.cell (bu, 2, .slice none 0 0) (by simp)).2.2
                 have r2 := hd9.out.frz (bu, 2, .slice none 0 0) (by simp)
                 have hls9 : w7.heap.size ≤ w8.heap.size := hls
                 have hlo9 := Nat.le_trans hls9 (Nat.le_refl w8.heap.size)
                 clear hown9 hgrow9 hat9 ho9)
              | fail)
            all_goals (
              have hmem := HRow.out k hk
              have d10 : Dn q w [(w.heap.size, 0, .slice (some ⟨g, o, none⟩) n c), (rb, 0, .string { data := #[] }), (rb, 1, .bool false), (rb, 2, .slice none 0 0), (bt, 0, .string nm), (bt, 1, .int .i64 ar), (bt, 2, .slice (some ⟨g2, o2, none⟩) m ct), (bu, 0, .string nm), (bu, 1, .bool false), (bu, 2, .slice A6 (f2 k).2.1 c6)] (w9.setCell ⟨bu, 2, none⟩ (.slice A6 (f2 k).2.1 c6)) := by
                simpa using Dn.setOf3 (L := [(w.heap.size, 0, .slice (some ⟨g, o, none⟩) n c), (rb, 0, .string { data := #[] }), (rb, 1, .bool false), (rb, 2, .slice none 0 0), (bt, 0, .string nm), (bt, 1, .int .i64 ar), (bt, 2, .slice (some ⟨g2, o2, none⟩) m ct)]) (i := 2) (y := .slice A6 (f2 k).2.1 c6) hd9.out (by have := hrb; simp; omega) (by omega)
              have HD10 := Lib.hid d10
              have HL9 := Lib.hid (HLen.out k hk)
              clear d10
              go_wp2_with fail
              go_meet
              exact ⟨rfl, false, A6, (f2 k).2.1, c6, rw k, _, _, ⟨HL9.out, hmem.2.1⟩, ⟨ownI_set ho9'.out (by omega), by omega, by simp [World.setCell], by omega, by omega⟩, HD10.out⟩)
          | false =>
            obtain ⟨x0, u1, u2, u3, t0, t1, t2, v0, v1, v2, _⟩ := d6.all
            go_wp2_with fail
            refine (l4Some_at2 q (max 0 (min 3 ar)) w6 d6.cur ⟨by omega, by omega⟩).mono ?_
            rintro e w7 ⟨n7, A7, c7, z7, rfl, hn7, hz7, _, hI7, hc7, hg7⟩
            have d7 := d6.draw hc7 hg7
            have hbl := (d6.cell (bu, 0, .string nm) (by simp)).2.1
            have hcs := d6.chg.size
            have HI7 := Lib.hid hI7
            have d8 : Dn q w [(w.heap.size, 0, .slice (some ⟨g, o, none⟩) n c), (rb, 0, .string { data := #[] }), (rb, 1, .bool false), (rb, 2, .slice none 0 0), (bt, 0, .string nm), (bt, 1, .int .i64 ar), (bt, 2, .slice At m ct), (bu, 0, .string nm), (bu, 1, .bool true), (bu, 2, .slice A7 n7 c7)] (w7.setCell ⟨bu, 2, none⟩ (.slice A7 n7 c7)) := by
              simpa using Dn.setOf3 (L := [(w.heap.size, 0, .slice (some ⟨g, o, none⟩) n c), (rb, 0, .string { data := #[] }), (rb, 1, .bool false), (rb, 2, .slice none 0 0), (bt, 0, .string nm), (bt, 1, .int .i64 ar), (bt, 2, .slice At m ct)]) (i := 2) (y := .slice A7 n7 c7) d7 (by have := hrb; simp; omega) (by omega)
            have HD8 := Lib.hid d8
            clear x0 u1 u2 u3 t0 t1 t2 v0 v1 v2 hI7 d8
            obtain ⟨x0, u1, u2, u3, t0, t1, t2, v0, v1, v2, _⟩ := d7.all
            obtain ⟨y0, f1, f2, f3, s0, s1, s2, r0, r1, r2, _⟩ := d7.fall
            go_wp2_with fail
            go_meet
            exact ⟨rfl, true, A7, n7, c7, z7, w6.heap.size, w7.heap.size, ⟨by omega, hz7⟩, ⟨ownI_set HI7.out hbl, hcs, by simp [World.setCell], hbl, by omega⟩, HD8.out⟩
        case rest =>
          clear d6 ag6
          obtain ⟨rfl, ins, A', n', c', zs, lo2, hi2, hz, hI, d8⟩ := hcut
          generalize wc = w8 at hI d8 ⊢
          have hl1 := hI.out.2.1
          have hl2 := hI.out.2.2.2.1
          have hl3 := hI.out.2.2.2.2
          obtain ⟨x0, u1, u2, u3, t0, t1, t2, v0, v1, v2, _⟩ := d8.all
          go_wp2_with fail
          refine (l1Below_any q 16 w8 d8.cur (by omega)).mono ?_
          rintro e w9 ⟨x, rfl, ⟨hx0, hx1⟩, hc9, hg9⟩
          have d9 := d8.draw hc9 hg9
          have hI9 := Lib.hid (hI.out.1.chg hg9 (.inr (by omega)))
          have hh9 := Nat.le_trans hI.out.2.2.1 hg9.size
          have hnm := hb.out.1
          clear x0 u1 u2 u3 t0 t1 t2 v0 v1 v2
          by_cases h0 : x = 0
          · subst h0
            go_wp2_with fail
            have hB := (Below.refl w9.heap.size w9).alloc (Nat.le_refl _) (.cells ([⟨#[]⟩, ⟨#[119]⟩, ⟨#[114]⟩].map Value.string).toArray 9)
            have hq9 := d9.cur.lt
            refine (l1Pick_any q w9.heap.size 0 3 3 (fun s => s.size ≤ 8) _ (d9.cur.next hB) (by simp) (by omega) (by omega) (by omega) (fun k hk => ⟨_, row_strs w9 [⟨#[]⟩, ⟨#[119]⟩, ⟨#[114]⟩] _ k hk, all_s [⟨#[]⟩, ⟨#[119]⟩, ⟨#[114]⟩] (by decide +kernel) _ (List.getElem_mem _)⟩)).mono ?_
            rintro e w10 ⟨s, rfl, hs, hc10, hg10⟩
            have g10 := ((Chg.refl q (q + 1) w9).after hB).trans hg10
            have d10 := d9.draw hc10 g10
            have HI10 := Lib.hid (ownI_set (b := bu) (i := 0) (x := .string s) (hI9.out.chg g10 (.inr (by omega))) hl2)
            have hh10 := Nat.le_trans hh9 g10.size
            have HD10 := Lib.hid (d10.setOff0 (b := bu) (i := 0) (x := .string s) (by omega))
            clear hB hc10 hg10 g10
            obtain ⟨x0, u1, u2, u3, t0, t1, t2, v0, v1, v2, _⟩ := d10.all
            obtain ⟨y0, f1, f2, f3, s0, s1, s2, r0, r1, r2, _⟩ := d10.fall
            have hbr : bu ≠ rb := by omega
            go_wp2_with fail
            have HE := Lib.hid (fun x y z => drU_of (nm := s) (ins := ins) (rb := rb) HD10.out ⟨by omega, hz.out.1, hz.out.2⟩ HI10.out hl1 (by simpa [World.setCell] using hh10) ⟨by omega, .inl hl3⟩ x y z)
            exact bodyPost_ret (v := .agg #[.string s, .bool ins, .slice A' n' c']) (by simp [results, Tryz.results47, go_sem, *]) rfl (HE.out _ _ _)
          by_cases h1 : x = 1
          · subst h1
            have HI10 := Lib.hid (ownI_set (b := bu) (i := 1) (x := .bool (!ins)) hI9.out hl2)
            have HD10 := Lib.hid (d9.setOff0 (b := bu) (i := 1) (x := .bool (!ins)) (by omega))
            obtain ⟨x0, u1, u2, u3, t0, t1, t2, v0, v1, v2, _⟩ := d9.all
            obtain ⟨y0, f1, f2, f3, s0, s1, s2, r0, r1, r2, _⟩ := d9.fall
            go_wp2_with fail
            have HE := Lib.hid (fun x y z => drU_of (nm := nm) (ins := !ins) (rb := rb) HD10.out ⟨hnm, hz.out.1, hz.out.2⟩ HI10.out hl1 (by simpa [World.setCell] using hh9) ⟨by omega, .inl hl3⟩ x y z)
            exact bodyPost_ret (v := .agg #[.string nm, .bool (!ins), .slice A' n' c']) (by simp [results, Tryz.results47, go_sem, *]) rfl (HE.out _ _ _)
          · obtain ⟨x0, u1, u2, u3, t0, t1, t2, v0, v1, v2, _⟩ := d9.all
            obtain ⟨y0, f1, f2, f3, s0, s1, s2, r0, r1, r2, _⟩ := d9.fall
            have HD9 := Lib.hid d9
            clear d9
            go_wp2_with fail
            have HE := Lib.hid (fun x y z => drU_of (nm := nm) (ins := ins) (rb := rb) HD9.out ⟨hnm, hz.out.1, hz.out.2⟩ hI9.out hl1 hh9 ⟨by omega, .inl hl3⟩ x y z)
            exact bodyPost_ret (v := .agg #[.string nm, .bool ins, .slice A' n' c']) (by simp [results, Tryz.results47, go_sem, *]) rfl (HE.out _ _ _)
end Go.Proofs.YtccnhocekgikiaaGreat
