/- What the laws on rationals draw. No condition. -/
import Derived.Test.YtmojjbhjjhdpaaaDoorEncP
import Derived.Test.YtmojjbhjjhdpaaaDoorRatL
import Derived.Test.YtmojjbhjjhdpaaaDoorKn
import Derived.Deep.RegionLaw
import Derived.RegionTactic
namespace Go.Proofs.YtmojjbhjjhdpaaaDoor
open Go.RowKit Go.Deep

theorem all_i64 (l : List Int) (h : (l.all fun z => decide (-9223372036854775808 ≤ z ∧ z ≤ 9223372036854775807)) = true) : ∀ z ∈ l, I64 z := fun z hz => by
  have := List.all_eq_true.1 h z hz
  simp only [decide_eq_true_eq] at this
  exact this
/-- Two numbers drawn. -/
def DrR (q : Nat) (w : World) (e : Ending) (w' : World) : Prop := ∃ x y : Int, e = .returned (.agg #[.int .i64 x, .int .i64 y]) ∧ (I64 x ∧ I64 y) ∧ Cur w' q ∧ Chg q (q + 1) w w'
theorem Chg.setOff {q lo i : Nat} {w w1 : World} {x : Value} (h : Chg q (q + 1) w w1) (hl : w.heap.size ≤ lo) : Chg q (q + 1) w (w1.setCell ⟨lo, i, none⟩ x) :=
  h.after ((Below.refl _ _).setCell hl x)
theorem Cur.setOff {q lo i : Nat} {w : World} {x : Value} (h : Cur w q) (hl : q < lo) : Cur (w.setCell ⟨lo, i, none⟩ x) q :=
  h.keep (fun b hb => Below.heap_setCell _ _ _ b (by show ¬ b = lo; omega)) (by simp [World.setCell])
theorem Chg.al {lo hi : Nat} {w w1 : World} {o : Obj} (h : Chg lo hi w w1) : Chg lo hi w (w1.alloc o) := h.after ((Below.refl _ _).alloc h.size o)
theorem Cur.al {q : Nat} {w : World} {o : Obj} (h : Cur w q) : Cur (w.alloc o) q := h.next ((Below.refl _ _).alloc (Nat.le_refl _) o)

set_option maxRecDepth 100000 in
set_option maxHeartbeats 2000000 in
theorem l2Rat_any (q : Nat) (w : World) (hc : Cur w q) : Calls Tryd.prog 98 #[.pointer (some ⟨q, 0, none⟩)] w (DrR q w) := by
  have hq := hc.lt
  have c0 : (w.alloc (.cells #[.int .i64 0, .int .i64 0] 30)).cell? ⟨w.heap.size, 0, none⟩ = some (.int .i64 0) := by simp [go_sem]
  have c1 : (w.alloc (.cells #[.int .i64 0, .int .i64 0] 30)).cell? ⟨w.heap.size, 1, none⟩ = some (.int .i64 0) := by simp [go_sem]
  have f0 : (w.alloc (.cells #[.int .i64 0, .int .i64 0] 30)).frozen? ⟨w.heap.size, 0, none⟩ = false := by simp [go_sem]
  have f1 : (w.alloc (.cells #[.int .i64 0, .int .i64 0] 30)).frozen? ⟨w.heap.size, 1, none⟩ = false := by simp [go_sem]
  have l0 : w.heap.size < (w.alloc (.cells #[.int .i64 0, .int .i64 0] 30)).heap.size := by simp
  have hA := (Below.refl w.heap.size w).alloc (Nat.le_refl _) (.cells #[.int .i64 0, .int .i64 0] 30)
  have hcA := hc.next hA
  have hgA : Chg q (q + 1) w (w.alloc (.cells #[.int .i64 0, .int .i64 0] 30)) := (Chg.refl _ _ _).after hA
  go_enter Tryd.func98, Tryd.ntmps98
  go_wp2_with fail
  generalize w.alloc (.cells #[.int .i64 0, .int .i64 0] 30) = w0 at c0 c1 f0 f1 l0 hcA hgA ⊢
  refine (l1Below_any q 8 w0 hcA (by omega)).mono ?_
  rintro e w1 ⟨x, rfl, ⟨hx0, hx1⟩, hc1, hg1⟩
  have kp : ∀ W, Chg q (q + 1) w0 W → (W.cell? ⟨w.heap.size, 0, none⟩ = some (.int .i64 0) ∧ W.cell? ⟨w.heap.size, 1, none⟩ = some (.int .i64 0) ∧ W.frozen? ⟨w.heap.size, 0, none⟩ = false ∧ W.frozen? ⟨w.heap.size, 1, none⟩ = false ∧ w.heap.size < W.heap.size) := fun W h => by
    have e := h.block w.heap.size l0 (by omega)
    exact ⟨(World.cell?_of_block e).trans c0, (World.cell?_of_block e).trans c1, (World.frozen?_of_block e).trans f0, (World.frozen?_of_block e).trans f1, Nat.lt_of_lt_of_le l0 h.size⟩
  have KP := Lib.hid kp
  clear c0 c1 f0 f1 kp
  by_cases h0 : x = 0
  · subst h0
    go_wp2_with fail
    have hB_x := (Below.refl w1.heap.size w1).alloc (Nat.le_refl _) (.cells ([0, 1, -1, 2, 2147483647, -2147483647, 2147483648].map (Value.int .i64)).toArray 3)
    refine (l1PickInt_any _ w1.heap.size 0 7 7 I64 _ (hc1.next hB_x) (by simp) (by have := hc1.lt; omega) (by omega) (by omega) (fun k hk => ⟨_, row_ints w1 [0, 1, -1, 2, 2147483647, -2147483647, 2147483648] _ k hk, all_i64 [0, 1, -1, 2, 2147483647, -2147483647, 2147483648] (by decide +kernel) _ (List.getElem_mem _)⟩)).mono ?_
    rintro e w_x ⟨_x, rfl, h_x, hc2, hg2⟩
    go_wp2_with fail
    have hB_y := (Below.refl w_x.heap.size w_x).alloc (Nat.le_refl _) (.cells ([1, 0, 2, -1, 2147483647, 2147483648].map (Value.int .i64)).toArray 3)
    refine (l1PickInt_any _ w_x.heap.size 0 6 6 I64 _ (hc2.next hB_y) (by simp) (by have := hc2.lt; omega) (by omega) (by omega) (fun k hk => ⟨_, row_ints w_x [1, 0, 2, -1, 2147483647, 2147483648] _ k hk, all_i64 [1, 0, 2, -1, 2147483647, 2147483648] (by decide +kernel) _ (List.getElem_mem _)⟩)).mono ?_
    rintro e w_y ⟨_y, rfl, h_y, hc3, hg3⟩
    have hgy := (((hg1.trans ((Chg.refl _ _ _).after hB_x)).trans hg2).trans ((Chg.refl _ _ _).after hB_y)).trans hg3
    obtain ⟨c0, c1, f0, f1, l1⟩ := KP.out w_y hgy
    have HC := Lib.hid hc3
    have HG := Lib.hid hgy
    clear hg1 hg2 hg3 hgy hB_x hB_y hc1 hc2 hc3
    go_wp2_with fail
    refine bodyPost_ret (v := .agg #[.int .i64 (_x), .int .i64 (_y)]) (by simp [results, Tryd.results98, go_sem, *]) rfl ⟨_, _, rfl, ⟨h_x, h_y⟩, ?_, ?_⟩
    · repeat first | refine Cur.setOff ?_ hq | refine Cur.al ?_
      exact HC.out
    · repeat first | refine Chg.setOff ?_ (Nat.le_refl _) | refine Chg.al ?_
      exact hgA.trans HG.out
  · by_cases h1 : x = 1
    · subst h1
      go_wp2_with fail
      refine (l1Below_any q 9 w1 hc1 (by omega)).mono ?_
      rintro e w2 ⟨y, rfl, ⟨hy0, hy1⟩, hc2, hg2⟩
      have hgy := hg1.trans hg2
      obtain ⟨c0, c1, f0, f1, l1⟩ := KP.out w2 hgy
      have HC := Lib.hid hc2
      have HG := Lib.hid hgy
      clear hg1 hg2 hgy hc1 hc2
      go_wp2_with fail
      refine bodyPost_ret (v := .agg #[.int .i64 (y * 2), .int .i64 (2)]) (by simp [results, Tryd.results98, go_sem, *]) rfl ⟨_, _, rfl, ⟨(by unfold I64; omega), (by unfold I64; omega)⟩, ?_, ?_⟩
      · repeat first | refine Cur.setOff ?_ hq | refine Cur.al ?_
        exact HC.out
      · repeat first | refine Chg.setOff ?_ (Nat.le_refl _) | refine Chg.al ?_
        exact hgA.trans HG.out
    · go_wp2_with fail
      refine (l1Below_any q 41 w1 hc1 (by omega)).mono ?_
      rintro e w2 ⟨y, rfl, ⟨hy0, hy1⟩, hc2, hg2⟩
      go_wp2_with fail
      refine (l1Below_any q 12 w2 hc2 (by omega)).mono ?_
      rintro e w3 ⟨z, rfl, ⟨hz0, hz1⟩, hc3, hg3⟩
      obtain ⟨⟨a, b, ok⟩, hR⟩ : ∃ R, makeR (y - 20) (1 + z) = R := ⟨_, rfl⟩
      have hab := makeR_bd hR
      have KM := Lib.hid (spec_Make_any (y - 20) (1 + z) w3 (by omega) (by omega))
      rw [ratV_of hR] at KM
      go_wp2_with fail
      refine KM.out.mono ?_
      rintro e w4 ⟨rfl, b4⟩
      have hgy := ((hg1.trans hg2).trans hg3).after (b4.mono (Nat.le_trans hg1.size (Nat.le_trans hg2.size hg3.size)))
      have hcy := hc3.next b4
      have hB5 := (Below.refl w4.heap.size w4).alloc (Nat.le_refl _) (.cells #[.int .i64 a, .int .i64 b] 30)
      have hgz := hgy.after (hB5.mono hgy.size)
      have hcz := hcy.next hB5
      obtain ⟨c0, c1, f0, f1, l1⟩ := KP.out w4 hgy
      have ne : w.heap.size < w4.heap.size := l1
      have HC := Lib.hid hcy
      have HG := Lib.hid hgy
      clear hg1 hg2 hg3 hgy hc1 hc2 hc3 b4 hcy hgz hcz KM hR
      go_wp2_with fail
      refine bodyPost_ret (v := .agg #[.int .i64 (a), .int .i64 (b)]) (by simp [results, Tryd.results98, go_sem, *]) rfl ⟨_, _, rfl, ⟨(by unfold I64; omega), (by unfold I64; omega)⟩, ?_, ?_⟩
      · repeat first | refine Cur.setOff ?_ hq | refine Cur.al ?_
        exact HC.out
      · repeat first | refine Chg.setOff ?_ (Nat.le_refl _) | refine Chg.al ?_
        exact hgA.trans HG.out

set_option maxRecDepth 100000 in
set_option maxHeartbeats 2000000 in
theorem drawAdd_any (A : Option Addr) (n c : Nat) (w : World) (hr : RdC w w.heap.size A n) (hn : n ≤ 1048576) :
    Calls Tryd.prog 52 #[.slice A n c] w fun e w' => ∃ x y x' y' : Int, e = .returned (.tuple #[.agg #[.int .i64 x, .int .i64 y], .agg #[.int .i64 x', .int .i64 y']]) ∧ ((I64 x ∧ I64 y) ∧ I64 x' ∧ I64 y') ∧ Below w.heap.size w w' := by
  have kn0 : Kn w [(w.heap.size, 0, .int .i64 0), (w.heap.size, 1, .int .i64 0), (w.heap.size + 1, 0, .int .i64 0), (w.heap.size + 1, 1, .int .i64 0)] ((w.alloc (.cells #[.int .i64 0, .int .i64 0] 30)).alloc (.cells #[.int .i64 0, .int .i64 0] 30)) := by
    simpa using ((Kn.start w).box [.int .i64 0, .int .i64 0] 30).box [.int .i64 0, .int .i64 0] 30
  have s0 : w.heap.size + 2 ≤ ((w.alloc (.cells #[.int .i64 0, .int .i64 0] 30)).alloc (.cells #[.int .i64 0, .int .i64 0] 30)).heap.size := by simp
  go_enter Tryd.func52, Tryd.ntmps52
  go_wp2_with fail
  generalize (w.alloc (.cells #[.int .i64 0, .int .i64 0] 30)).alloc (.cells #[.int .i64 0, .int .i64 0] 30) = w0 at kn0 s0 ⊢
  refine (l1New_any A n c w0 ((hr.keep kn0.bel.block).more kn0.bel.size) hn).mono ?_
  rintro e w1 ⟨rfl, hc1, b1⟩
  have kn1 := kn0.next b1
  have s1 := b1.size
  have hq1 := hc1.lt
  generalize w0.heap.size = q at hc1 s0 s1 hq1 ⊢
  clear kn0 b1
  go_wp2_with fail
  refine (l2Rat_any q w1 hc1).mono ?_
  rintro e w2 ⟨x, y, rfl, hxy, hc2, hg2⟩
  have kn2 := kn1.chg hg2 (by omega) (by simp only [List.forall_mem_cons]; simp; omega)
  have s2 := hg2.size
  clear hc1 hg2 kn1
  obtain ⟨z0, z1, z2, z3, _⟩ := kn2.all
  go_wp2_with fail
  have kn3 : Kn w [(w.heap.size, 0, .int .i64 0), (w.heap.size, 1, .int .i64 0), (w.heap.size + 1, 0, .int .i64 0), (w.heap.size + 1, 1, .int .i64 0), (w2.heap.size, 0, .int .i64 x), (w2.heap.size, 1, .int .i64 y)] (w2.alloc (.cells #[.int .i64 x, .int .i64 y] 30)) := by
    simpa using kn2.box [.int .i64 x, .int .i64 y] 30
  have hc3 := hc2.al (o := .cells #[.int .i64 x, .int .i64 y] 30)
  have s3 : w2.heap.size < (w2.alloc (.cells #[.int .i64 x, .int .i64 y] 30)).heap.size := by simp
  clear z0 z1 z2 z3 kn2 hc2
  generalize w2.alloc (.cells #[.int .i64 x, .int .i64 y] 30) = w3 at kn3 hc3 s3 ⊢
  have KP : Hid (∀ W, CurAt q w3 W → Kn w [(w.heap.size, 0, .int .i64 0), (w.heap.size, 1, .int .i64 0), (w.heap.size + 1, 0, .int .i64 0), (w.heap.size + 1, 1, .int .i64 0), (w2.heap.size, 0, .int .i64 x), (w2.heap.size, 1, .int .i64 y)] W) := fun W h =>
    kn3.chg h.2 (by omega) (by simp only [List.forall_mem_cons]; simp; omega)
  have K : Hid (∀ W, CurAt q w3 W → Calls Tryd.prog 98 #[.pointer (some ⟨q, 0, none⟩)] W fun e w' => ∃ x y : Int, e = .returned (.agg #[.int .i64 x, .int .i64 y]) ∧ (I64 x ∧ I64 y) ∧ CurAt q w3 w') := fun W h =>
    (l2Rat_any q W h.1).mono fun e w' ⟨x, y, he, hxy, hc, hg⟩ => ⟨x, y, he, hxy, hc, h.2.trans hg⟩
  have hz0 : CurAt q w3 w3.drew := ⟨hc3.drew, Chg.drewN 1⟩
  obtain ⟨z0, z1, z2, z3, z4, z5, _⟩ := kn3.all
  have ne1 : w.heap.size + 1 < w2.heap.size := by omega
  clear hc3
  go_region_law (first
    | (go_simp; go_at_call 98; refine (K.out _ hz0).mono ?_; rintro e w4 ⟨x', y', rfl, hxy', hcur⟩
       obtain ⟨y0, y1, y2, y3, y4, y5, _⟩ := (KP.out _ hcur).all
       obtain ⟨f0, f1, f2, f3, f4, f5, _⟩ := (KP.out _ hcur).fall
       have HB := Lib.hid (KP.out _ hcur).bel
       dsimp only)
    | fail)
  all_goals (
    go_wp2_with fail
    refine bodyPost_ret (v := .tuple #[.agg #[.int .i64 x, .int .i64 y], .agg #[.int .i64 x', .int .i64 y']]) (by simp [results, Tryd.results52, go_sem, *]) rfl ⟨_, _, _, _, rfl, ⟨hxy, hxy'⟩, ?_⟩
    repeat first | exact HB.out | (refine Below.setCell ?_ ?_ _; rotate_left; (first | exact Nat.le_refl _ | exact Nat.le_succ _)))

theorem l1Once_any (q : Nat) (n : Int) (w : World) (hc : Cur w q) (hn : n ≤ 9223372036854775807) :
    Calls Tryd.prog 102 #[.pointer (some ⟨q, 0, none⟩), .int .i64 n] w fun e w' => ∃ b : Bool, e = .returned (.bool b) ∧ Cur w' q ∧ Chg q (q + 1) w w' := by
  go_enter Tryd.func102, Tryd.ntmps102
  go_wp2_with fail
  refine (l1Below_any q n w hc hn).mono ?_
  rintro e w1 ⟨x, rfl, _, hc1, hg1⟩
  go_wp2_with fail
  go_ret
  exact ⟨_, rfl, hc1, hg1⟩
set_option maxRecDepth 100000 in
set_option maxHeartbeats 2000000 in
theorem drawMake_any (A : Option Addr) (n c : Nat) (w : World) (hr : RdC w w.heap.size A n) (hn : n ≤ 1048576) :
    Calls Tryd.prog 62 #[.slice A n c] w fun e w' => ∃ x y : Int, e = .returned (.tuple #[.int .i64 x, .int .i64 y]) ∧ (I64 x ∧ I64 y) ∧ Below w.heap.size w w' := by
  go_enter Tryd.func62, Tryd.ntmps62
  go_wp2_with fail
  refine (l1New_any A n c w hr hn).mono ?_
  rintro e w0 ⟨rfl, hc0, b0⟩
  go_wp2_with fail
  refine (l1Once_any _ 4 w0 hc0 (by omega)).mono ?_
  rintro e w1 ⟨b, rfl, hc1, hg1⟩
  cases b with
  | true =>
    go_wp2_with fail
    have hB_x := (Below.refl w1.heap.size w1).alloc (Nat.le_refl _) (.cells ([0, 6, -6, 9223372036854775807, -9223372036854775808, 4294967294].map (Value.int .i64)).toArray 3)
    refine (l1PickInt_any _ w1.heap.size 0 6 6 I64 _ (hc1.next hB_x) (by simp) (by have := hc1.lt; omega) (by omega) (by omega) (fun k hk => ⟨_, row_ints w1 [0, 6, -6, 9223372036854775807, -9223372036854775808, 4294967294] _ k hk, all_i64 [0, 6, -6, 9223372036854775807, -9223372036854775808, 4294967294] (by decide +kernel) _ (List.getElem_mem _)⟩)).mono ?_
    rintro e w_x ⟨_x, rfl, h_x, hc2, hg2⟩
    go_wp2_with fail
    have hB_y := (Below.refl w_x.heap.size w_x).alloc (Nat.le_refl _) (.cells ([0, 1, -4, 9223372036854775807, -9223372036854775808, 2147483648].map (Value.int .i64)).toArray 3)
    refine (l1PickInt_any _ w_x.heap.size 0 6 6 I64 _ (hc2.next hB_y) (by simp) (by have := hc2.lt; omega) (by omega) (by omega) (fun k hk => ⟨_, row_ints w_x [0, 1, -4, 9223372036854775807, -9223372036854775808, 2147483648] _ k hk, all_i64 [0, 1, -4, 9223372036854775807, -9223372036854775808, 2147483648] (by decide +kernel) _ (List.getElem_mem _)⟩)).mono ?_
    rintro e w_y ⟨_y, rfl, h_y, hc3, hg3⟩
    go_wp2_with fail
    go_ret2
    exact ⟨_x, _y, rfl, ⟨h_x, h_y⟩, b0.trans ((((hg1.trans ((Chg.refl _ _ _).after hB_x)).trans hg2).trans (((Chg.refl _ _ _).after hB_y).trans hg3)).below (Nat.le_refl _) b0.size)⟩
  | false =>
    go_wp2_with fail
    refine (l1Below_any _ 200 w1 hc1 (by omega)).mono ?_
    rintro e w2 ⟨x, rfl, ⟨hx0, hx1⟩, hc2, hg2⟩
    go_wp2_with fail
    refine (l1Below_any _ 60 w2 hc2 (by omega)).mono ?_
    rintro e w3 ⟨y, rfl, ⟨hy0, hy1⟩, hc3, hg3⟩
    go_wp2_with fail
    go_ret2
    exact ⟨x - 100, y - 30, rfl, ⟨by unfold I64; omega, by unfold I64; omega⟩, b0.trans (((hg1.trans hg2).trans hg3).below (Nat.le_refl _) b0.size)⟩
end Go.Proofs.YtmojjbhjjhdpaaaDoor
