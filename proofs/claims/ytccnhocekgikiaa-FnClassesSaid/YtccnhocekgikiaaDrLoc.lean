/- What the law on classes draws. No condition. -/
import Derived.Test.YtccnhocekgikiaaBi
namespace Go.Proofs.Ytccnhocekgikiaa
open Go.RowKit Go.Deep

def Sml (p : List Int) : Prop := ∀ z ∈ p, -1 ≤ z ∧ z ≤ 1000
theorem Sml.snoc {p : List Int} {x : Int} (h : Sml p) (hx : -1 ≤ x ∧ x ≤ 1000) : Sml (p ++ [x]) := fun z hz => by
  rcases List.mem_append.1 hz with hz | hz
  · exact h z hz
  · obtain rfl := List.mem_singleton.1 hz; exact hx
theorem Sml.set {p : List Int} {x : Int} {i : Nat} (h : Sml p) (hx : -1 ≤ x ∧ x ≤ 1000) : Sml (p.set i x) := fun z hz => by
  rcases List.mem_or_eq_of_mem_set hz with hz | rfl
  · exact h z hz
  · exact hx
theorem all_p (P : Int → Prop) [DecidablePred P] (l : List Int) (h : (l.all fun z => decide (P z)) = true) : ∀ z ∈ l, P z := fun z hz => of_decide_eq_true (List.all_eq_true.1 h z hz)
/-- A list drawn. -/
def DrL (n q : Nat) (w : World) (e : Ending) (w' : World) : Prop :=
  ∃ (A : Option Addr) (c : Nat) (zs : List Int), e = .returned (.slice A n c) ∧ zs.length = n ∧ Sml zs ∧ OwnI w' w.heap.size w'.heap.size (.slice A n c) zs ∧ Cur w' q ∧ Chg q (q + 1) w w'

set_option maxRecDepth 100000 in
set_option maxHeartbeats 2000000 in
theorem l3Loc_any (q n : Nat) (w : World) (hc : Cur w q) (hn : n ≤ 18) : Calls Try.prog 26 #[.pointer (some ⟨q, 0, none⟩), .int .i64 n] w (DrL n q w) := by
  obtain ⟨i0, hi, hz0, hz1, hz2⟩ := info_parts info_int
  have hq := hc.lt
  have hA := (Below.refl w.heap.size w).alloc (Nat.le_refl _) (.cells #[] 3)
  have hcA := hc.next hA
  have hgA : Chg q (q + 1) w (w.alloc (.cells #[] 3)) := (Chg.refl _ _ _).after hA
  go_enter Try.func26, Try.ntmps26
  go_wp2_with fail
  go_loopw [5, 6] (fun v i wr => ∃ p : List Int, p.length ≤ n ∧ i = .int .i64 p.length ∧ wr.ownsRow w.heap.size 3 1 v p.length (p.map iv) ∧ Cur wr q ∧ Chg q (q + 1) w wr ∧ Hid (Sml p)) (fun _ i _ => n - (intOf i).toNat)
  case atStart => exact ⟨[], by simp, rfl, own_empty w _ (Nat.le_refl _), hcA, hgA, fun z hz => by cases hz⟩
  case round =>
    obtain ⟨p, hk, rfl, hown, hcr, hgr, hsm⟩ := hrel
    have hgs := hgr.size
    clear hcA hgA hA
    by_cases hlt : p.length < n
    · have g2 : (p.length : Int) < (n : Int) := by omega
      go_wp2_with fail
      refine (l1Below_any q 5 _ hcr (by omega)).mono ?_
      rintro e w3 ⟨x, rfl, ⟨hx0, hx1⟩, hc3, hg3⟩
      have hown3 := own_keep hown fun g hg => hg3.block g (hown.lt g hg).2 (.inr (by have := (hown.lt g hg).1; omega))
      have hg4 := hgr.trans hg3
      have hgs4 := hg4.size
      clear hown hg3 hgr hcr
      go_wp2_with (at_builtin; refine wpList_append_lies _ rfl _ _ _ rfl w.heap.size 3 i0 _ 1 8 Try.underlying26 hi hz0 hz1 hz2 rfl (by omega) _ p.length _ rfl (hown3.alloc _) ⟨w3.heap.size, 0, none⟩ 1 1 [.int .i64 x] rfl rfl (World.news_of_block (cs := #[.int .i64 x]) (t := 3) (fr := (0, 0)) (heap_alloc_new w3 _)) (by simp [Value.oneCell']) (by omega) (by unfold maxLen; omega) (by omega) (by simp; omega) (w3.heap.size + 1) (by simp) ?_; intro g cap w4 hown4 hgrow _ _)
      have hB : Below w.heap.size w3 w4 := ((Below.refl w.heap.size w3).alloc (by omega) _).grown hgrow (by simp; omega) (fun j hj => (hown3.lt j hj).1)
      refine ⟨⟨p ++ [x], by simp; omega, by simp, own_snoc hown4, hc3.keep (fun k hk => hB.block k (by omega)) hB.size, hg4.after hB, hsm.out.snoc (by omega)⟩, ?_⟩
      simp [intOf]
      omega
    · have hpn : p.length = n := by omega
      have g2 : ¬ (p.length : Int) < (n : Int) := by omega
      obtain ⟨A, c, rfl⟩ := own_form hown
      have hI := ownI_of hown
      rw [hpn] at hI ⊢
      by_cases h0 : 0 < n
      · have g3 : (0 : Int) < (n : Int) := by omega
        go_wp2_with fail
        refine (l1Once_any q 8 _ hcr (by omega)).mono ?_
        rintro e w3 ⟨b, rfl, hc3, hg3⟩
        have hI3 := (hI.chg hg3 (.inr (by omega))).wide hg3.size
        have hg4 := hgr.trans hg3
        have hgs4 := hg4.size
        clear hI hg3 hgr hcr hown
        cases b with
        | false =>
          go_wp2_with fail
          go_ret
          exact ⟨A, c, p, rfl, hpn, hsm.out, hI3, hc3, hg4⟩
        | true =>
          go_wp2_with fail
          refine (l1Below_any q n w3 hc3 (by omega)).mono ?_
          rintro e w5 ⟨x, rfl, ⟨hx0, hx1⟩, hc5, hg5⟩
          obtain ⟨x, rfl⟩ := Int.eq_ofNat_of_zero_le hx0
          have hxn : x < n := by omega
          have hI5 := (hI3.chg hg5 (.inr (by omega))).wide hg5.size
          have hg6 := hg4.trans hg5
          have hgs6 := hg6.size
          clear hI3 hg5 hg4 hc3
          go_wp2_with fail
          have hB_y := (Below.refl w5.heap.size w5).alloc (Nat.le_refl _) (.cells ([-1, 7, 8, 1000].map (Value.int .i64)).toArray 3)
          refine (l1PickInt_any q w5.heap.size 0 4 4 (fun z => -1 ≤ z ∧ z ≤ 1000) _ (hc5.next hB_y) (by simp) (by have := hc5.lt; omega) (by omega) (by omega) (fun k hk => ⟨_, row_ints w5 [-1, 7, 8, 1000] _ k hk, all_p (fun z => -1 ≤ z ∧ z ≤ 1000) [-1, 7, 8, 1000] (by decide +kernel) _ (List.getElem_mem _)⟩)).mono ?_
          rintro e w_y ⟨_y, rfl, h_y, hc7, hg7⟩
          have hI7 := ((hI5.below hB_y (Nat.le_refl _)).wide hB_y.size |>.chg hg7 (.inr (by omega))).wide hg7.size
          have hg8 := (hg6.trans ((Chg.refl _ _ _).after hB_y)).trans hg7
          obtain ⟨g, y0, rfl, k0, f0, hI8, hch⟩ := hI7.set_ hpn hxn _y
          have hglo : w.heap.size ≤ g := (hI7.lt g rfl).1
          have g4 : (0 : Int) ≤ (x : Int) := by omega
          have g5 : (x : Int) < (n : Int) := by omega
          have g6 : (x : Int).toNat = x := by omega
          clear hI5 hg6 hI7 hc5 hg7 hB_y
          go_wp2_with fail
          go_ret
          exact ⟨_, c, p.set x _y, rfl, by rw [List.length_set]; exact hpn, hsm.out.set h_y, hI8.wide (by simp [World.setCell]), hc7.setOff (by omega), hg8.setOff hglo⟩
      · have g3 : ¬ (0 : Int) < (n : Int) := by omega
        go_wp2_with fail
        go_ret
        exact ⟨A, c, p, rfl, hpn, hsm.out, hI, hcr, hgr⟩

set_option maxRecDepth 100000 in
theorem drawSizeClass_any (A : Option Addr) (n c : Nat) (w : World) (hr : RdC w w.heap.size A n) (hn : n ≤ 1048576) :
    Calls Try.prog 5 #[.slice A n c] w fun e w' => ∃ x : Int, e = .returned (.int .i64 x) ∧ I64 x ∧ Below w.heap.size w w' := by
  go_enter Try.func5, Try.ntmps5
  go_wp2_with fail
  refine (l1New_any A n c w hr hn).mono ?_
  rintro e w0 ⟨rfl, hc0, b0⟩
  go_wp2_with fail
  refine (l1Once_any _ 3 w0 hc0 (by omega)).mono ?_
  rintro e w1 ⟨b, rfl, hc1, hg1⟩
  cases b with
  | true =>
    go_wp2_with fail
    have hB_x := (Below.refl w1.heap.size w1).alloc (Nat.le_refl _) (.cells ([-1, 0, 1, 2, 4, 5, 16, 17, 64, 1024, 1025, 4096, 4097, 9223372036854775807, -9223372036854775808].map (Value.int .i64)).toArray 3)
    refine (l1PickInt_any _ w1.heap.size 0 15 15 I64 _ (hc1.next hB_x) (by simp) (by have := hc1.lt; omega) (by omega) (by omega) (fun k hk => ⟨_, row_ints w1 [-1, 0, 1, 2, 4, 5, 16, 17, 64, 1024, 1025, 4096, 4097, 9223372036854775807, -9223372036854775808] _ k hk, all_i64 [-1, 0, 1, 2, 4, 5, 16, 17, 64, 1024, 1025, 4096, 4097, 9223372036854775807, -9223372036854775808] (by decide +kernel) _ (List.getElem_mem _)⟩)).mono ?_
    rintro e w_x ⟨_x, rfl, h_x, hc2, hg2⟩
    go_wp2_with fail
    go_ret
    exact ⟨_x, rfl, h_x, b0.trans (((hg1.trans ((Chg.refl _ _ _).after hB_x)).trans hg2).below (Nat.le_refl _) b0.size)⟩
  | false =>
    go_wp2_with fail
    refine (l1Below_any _ 300 w1 hc1 (by omega)).mono ?_
    rintro e w2 ⟨x, rfl, ⟨hx0, hx1⟩, hc2, hg2⟩
    go_wp2_with fail
    go_ret
    exact ⟨x, rfl, by unfold I64; omega, b0.trans ((hg1.trans hg2).below (Nat.le_refl _) b0.size)⟩
end Go.Proofs.Ytccnhocekgikiaa
