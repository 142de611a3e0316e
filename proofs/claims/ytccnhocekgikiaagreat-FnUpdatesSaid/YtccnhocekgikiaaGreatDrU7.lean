/- What the law on updates draws: l6List. What is drawn is not said, but for its bounds. No condition. -/
import Derived.Test.YtccnhocekgikiaaGreatDrU6
namespace Go.Proofs.YtccnhocekgikiaaGreat
open Go.RowKit Go.Deep

theorem sumU_le : ∀ {us : List Upd}, (∀ u ∈ us, u.nm.size ≤ 2000 ∧ u.zs.length ≤ 2000) → sumU us ≤ 4000 * us.length
  | [], _ => by simp [sumU]
  | u :: us, h => by
    have h1 := h u (by simp)
    have h2 := sumU_le (us := us) fun x hx => h x (by simp [hx])
    rw [sumU_cons, List.length_cons]
    omega
/-- A list of updates drawn. -/
def DrUs (q : Nat) (w : World) (e : Ending) (w' : World) : Prop :=
  ∃ (A' : Option Addr) (n' c' : Nat) (us : List Upd), e = .returned (.slice A' n' c') ∧ (us.length = n' ∧ n' ≤ 6 ∧ sumU us ≤ 24000) ∧ OwnU w' w.heap.size w'.heap.size (.slice A' n' c') us ∧ Cur w' q ∧ Chg q (q + 1) w w'

set_option maxRecDepth 100000 in
set_option maxHeartbeats 8000000 in
theorem l6List_any (q lo : Nat) (A : Option Addr) (n c : Nat) (ts : List Tab) (w : World) (hc : Cur w q) (hrd : RdTw lo w A n ts) (hlo : q < lo ∧ lo ≤ w.heap.size) (hok : OkT ts) :
    Calls Tryz.prog 35 #[.pointer (some ⟨q, 0, none⟩), .agg #[.slice A n c], .int .i64 6] w (DrUs q w) := by
  obtain ⟨i1, hi, hz0, hz1, hz2⟩ := info_parts info_upd
  have hnl := hrd.len
  have hn100 : n ≤ 100 := by have := hok.1; have := hrd.now.1; omega
  have hq := hc.lt
  have d0 : Dn q w [(w.heap.size, 0, .slice A n c)] (w.alloc (.cells #[.slice A n c] 26)) := by
    simpa using (Dn.start hc).box [.slice A n c] 26
  have hr0 : RdTw lo (w.alloc (.cells #[.slice A n c] 26)) A n ts := hrd.below ((Below.refl _ _).alloc (Nat.le_refl _) (.cells #[.slice A n c] 26))
  go_enter Tryz.func35, Tryz.ntmps35
  go_upto_region 1 with fail
  have hs0 : w.heap.size < (w.alloc (.cells #[.slice A n c] 26)).heap.size := by simp
  generalize w.alloc (.cells #[.slice A n c] 26) = w0 at d0 hr0 hs0 ⊢
  clear hc hrd hnl
  have HO := Lib.hid hok
  go_upto_region 2 with fail
  have hA := (Below.refl w0.heap.size w0).alloc (Nat.le_refl _) (.cells #[] 29)
  have hE : OwnSl 29 3 EUpd (w0.alloc (.cells #[] 29)) (fun k => k = w0.heap.size) (.slice (some ⟨w0.heap.size, 0, none⟩) 0 0) ([] : List Upd) := OwnSl.empty w0
  have d1 := d0.next hA
  have hr1 := hr0.below hA
  have hs1 : w0.heap.size < (w0.alloc (.cells #[] 29)).heap.size := by simp
  clear hA hr0 d0
  generalize w0.alloc (.cells #[] 29) = w1 at hE d1 hr1 hs1 ⊢
  generalize w0.heap.size = eb at *
  obtain ⟨x0, _⟩ := d1.all
  obtain ⟨y0, _⟩ := d1.fall
  go_wp2_with fail
  refine (l5Copy_any A n c w1.heap.size ts w1 hr1.now (Nat.le_refl _) (by omega) (by have := HO.out.2; omega)).mono ?_
  rintro e w2 ⟨A2, c2, rfl, ho2, b2⟩
  have hs2 := b2.size
  have d2 := d1.next b2
  have d3 : Dn q w [(w.heap.size, 0, .slice A n c), (w2.heap.size, 0, .slice A2 ts.length c2)] (w2.alloc (.cells #[.slice A2 ts.length c2] 26)) := by
    simpa using d2.box [.slice A2 ts.length c2] 26
  have l3 : LU q w [] w2.heap.size w1.heap.size w2.heap.size [] (.slice (some ⟨eb, 0, none⟩) 0 0) A2 c2 ts (w2.alloc (.cells #[.slice A2 ts.length c2] 26)) :=
    ⟨d3.sub (by simp), ⟨_, (hE.keep eUpd_ok hs2 fun k hk => b2.block k (hE.bound k hk)).keep eUpd_ok (by simp) fun k hk => ((Below.refl w2.heap.size w2).alloc (Nat.le_refl _) _).block k (by have := hE.bound k hk; omega), fun k hk => ⟨by omega, by omega, .inl (by omega), by simp⟩⟩, ho2.alloc _, by omega, by simp, .inr (Nat.le_refl _), by simp, hs2⟩
  have hs3 : w2.heap.size < (w2.alloc (.cells #[.slice A2 ts.length c2] 26)).heap.size := by simp
  clear hE d1 hr1 x0 y0 ho2 b2 d2 d3
  go_upto_region 3 with fail
  generalize w2.alloc (.cells #[.slice A2 ts.length c2] 26) = w3 at l3 hs3 ⊢
  generalize w2.heap.size = bx at *
  generalize w1.heap.size = a0 at *
  go_wp2_with fail
  refine (l1Below_any q 7 w3 l3.dn.cur (by omega)).mono ?_
  rintro e w4 ⟨k0, rfl, ⟨hk0, hk1⟩, hc4, hg4⟩
  have hs4 := hg4.size
  have l4 := l3.draw hc4 hg4
  obtain ⟨k, rfl⟩ := Int.eq_ofNat_of_zero_le hk0
  have hk6 : k ≤ 6 := by omega
  clear l3 hc4 hg4 hk0 hk1
  go_upto_region 4 with fail
  go_loopw [7, 9] (fun v i wr => ∃ (k : Nat) (us : List Upd) (a b c' : Nat) (A' : Option Addr) (X : List Tab), i = .int .i64 k ∧ k + us.length ≤ 6 ∧ Hid (∀ u ∈ us, u.nm.size ≤ 2000 ∧ u.zs.length ≤ 2000) ∧ Hid (OkT X) ∧ Hid (LU q w [] bx a b us v A' c' X wr) ∧ bx < wr.heap.size) (fun _ i _ => (intOf i).toNat)
  case atStart => exact ⟨k, [], _, _, _, _, ts, rfl, by simpa using hk6, by show ∀ u ∈ [], _; simp, HO, l4, by omega⟩
  case round =>
    clear l4 hk6
    obtain ⟨k, us, a, b, c', A', X, rfl, hk6, hub, hX, hI, hbx⟩ := hrel
    generalize wr = w5 at hI hbx ⊢
    obtain ⟨x0, _⟩ := hI.out.dn.all
    obtain ⟨y0, _⟩ := hI.out.dn.fall
    obtain ⟨F, f1, f2⟩ := hI.out.own
    obtain ⟨Al, cl, rfl⟩ := f1.form
    by_cases hk : k = 0
    · subst hk
      have hR : OwnU w5 w.heap.size w5.heap.size (.slice Al us.length cl) us := ⟨F, f1, fun k hk => ⟨(f2 k hk).1, f1.bound k hk⟩⟩
      have hc5 := hI.out.dn.cur
      have hg5 := hI.out.dn.chg
      have HE : Hid (DrUs q w (.returned (.slice Al us.length cl)) w5) := ⟨Al, us.length, cl, us, rfl, ⟨rfl, by omega, by have := sumU_le hub.out; omega⟩, hR, hc5, hg5⟩
      clear hR hc5 hg5 f1 f2 hI hub
      go_wp2_with fail
      exact bodyPost_ret (v := .slice Al us.length cl) (by simp [results, Tryz.results35, go_sem, *]) rfl HE.out
    · have hk0 : 0 < k := by omega
      have g0 : (0 : Int) < (k : Int) := by omega
      clear hk f1 f2
      have hqa : q < a := by have := hI.out.ha; have := hI.out.dn.hq; omega
      have haw : a ≤ w5.heap.size := Nat.le_trans hI.out.hab hI.out.hb
      go_wp2_with fail
      refine (l6Up_any q a A' X.length c' X w5 hI.out.dn.cur hI.out.rdw ⟨hqa, haw⟩ hX.out).mono ?_
      rintro e w6 ⟨nm, ins, A6, n6, c6, zs, rfl, hb6, ho6, hc6, hg6⟩
      have hs6 := hg6.size
      obtain ⟨hb1, hb2, hb3⟩ := hb6
      subst hb3
      have hnm : nm.size ≤ maxLen := by unfold maxLen; omega
      obtain ⟨xs, hrow, happ⟩ := hI.out.app (W1 := w6.alloc (.cells #[.string nm, .bool ins, .slice A6 zs.length c6] 29)) hc6.al hg6.al (ho6.alloc (.cells #[.string nm, .bool ins, .slice A6 zs.length c6] 29)) (Nat.le_refl _) (by simp) hnm hbx (by simp)
      have hgn := heap_alloc_new (w6.alloc (.cells #[.string nm, .bool ins, .slice A6 zs.length c6] 29)) (.cells #[.string nm, .bool ins, .slice A6 zs.length c6] 29)
      rw [show (w6.alloc (.cells #[.string nm, .bool ins, .slice A6 zs.length c6] 29)).heap.size = w6.heap.size + 1 by simp] at hgn happ
      have HU : Hid ((w6.alloc (.cells #[.string nm, .bool ins, .slice A6 zs.length c6] 29)).cell? ⟨w6.heap.size, 0, none⟩ = some (.string nm) ∧ (w6.alloc (.cells #[.string nm, .bool ins, .slice A6 zs.length c6] 29)).cell? ⟨w6.heap.size, 1, none⟩ = some (.bool ins) ∧ (w6.alloc (.cells #[.string nm, .bool ins, .slice A6 zs.length c6] 29)).cell? ⟨w6.heap.size, 2, none⟩ = some (.slice A6 zs.length c6)) := ⟨by simp [go_sem], by simp [go_sem], by simp [go_sem]⟩
      have HO6 := Lib.hid (ho6.alloc (.cells #[.string nm, .bool ins, .slice A6 zs.length c6] 29))
      have HA := Lib.hid happ
      have HR := Lib.hid hrow
      have HGN := Lib.hid hgn
      clear hrow hgn
      go_wp2_with (at_builtin; refine wpList_append_lies _ rfl _ _ _ rfl 0 29 i1 _ 3 48 Tryz.underlying37 hi hz0 hz1 hz2 rfl (by omega) _ us.length _ rfl HR.out ⟨w6.heap.size + 1, 0, none⟩ 1 1 [.string nm, .bool ins, .slice A6 zs.length c6] rfl rfl (World.news_of_block (cs := #[.string nm, .bool ins, .slice A6 zs.length c6]) (t := 29) (fr := (0, 0)) HGN.out) (by simp [Value.oneCell']) (by omega) (by unfold maxLen; omega) (by omega) (Nat.zero_le _) (w6.heap.size + 1 + 1) (by simp) ?_; intro g cap w7 hown7 hgrow7 hat7 hlt7; obtain ⟨hL7, hk7, hs7⟩ := HA.out g cap w7 hown7 hgrow7 hat7; have u0 := (World.cell?_of_block (hk7 w6.heap.size hs6 (by omega))).trans HU.out.1; have u1 := (World.cell?_of_block (hk7 w6.heap.size hs6 (by omega))).trans HU.out.2.1; have u2 := (World.cell?_of_block (hk7 w6.heap.size hs6 (by omega))).trans HU.out.2.2; obtain ⟨x7, _⟩ := hL7.dn.all; obtain ⟨y7, _⟩ := hL7.dn.fall; have HL7 := Lib.hid hL7; have HO7 := Lib.hid (HO6.out.keepH fun k hk => hk7 k hk.1 (by omega)); clear hown7 hgrow7 hat7 hL7 hk7)
      have hX1 := hX.out.1
      have hX2 := hX.out.2
      have hbx7 : bx < w7.heap.size := by omega
      refine (spec_ApplyUpdate_any A' X.length c' w7.heap.size X nm ins A6 zs.length c6 zs w7 HL7.out.rdw.now (Nat.le_refl _) (by omega) (by omega) ((HO7.out.rd rfl).more (by omega)) (by omega) hnm).mono ?_
      rintro e w8 ⟨A8, c8, rfl, ho8, b8⟩
      have HX8 : Hid (OkT (appR X nm ins zs).1) := hX.out.app
      have x8 := (b8.cell (p := ⟨bx, 0, none⟩) hbx7).trans x7
      have y8 := (b8.frozen (p := ⟨bx, 0, none⟩) hbx7).trans y7
      generalize appR X nm ins zs = R at ho8 HX8 ⊢
      have HL8 := Lib.hid (HL7.out.put b8 ho8 hbx7 (by simp))
      have hs8 := b8.size
      clear ho8 b8 x7 y7 u0 u1 u2
      go_wp2_with fail
      refine ⟨⟨k - 1, us ++ [⟨nm, ins, zs⟩], w7.heap.size, w8.heap.size, c8, A8, R.1, by go_num, by simp; omega, ?_, HX8, ?_, by simp [World.setCell]; omega⟩, ?_⟩
      · show ∀ u ∈ us ++ [_], _
        intro u hu
        rcases List.mem_append.1 hu with hu | hu
        · exact hub.out u hu
        · obtain rfl := List.mem_singleton.1 hu
          exact ⟨hb1, hb2⟩
      · exact HL8
      · simp [intOf]
        omega
end Go.Proofs.YtccnhocekgikiaaGreat
