/- What the law on tables draws (l4Some). -/
import Derived.Test.YtccnhocekgikiaaGreatBu4
namespace Go.Proofs.YtccnhocekgikiaaGreat
open Go.RowKit Go.Deep

def Sml (p : List Int) : Prop := ∀ z ∈ p, -1 ≤ z ∧ z ≤ 1000
theorem Sml.snoc {p : List Int} {x : Int} (h : Sml p) (hx : -1 ≤ x ∧ x ≤ 1000) : Sml (p ++ [x]) := fun z hz => by
  rcases List.mem_append.1 hz with hz | hz
  · exact h z hz
  · obtain rfl := List.mem_singleton.1 hz; exact hx
theorem Sml.set {p : List Int} {x : Int} {i : Nat} (h : Sml p) (hx : -1 ≤ x ∧ x ≤ 1000) : Sml (p.set i x) := fun z hz => by
  rcases List.mem_or_eq_of_mem_set hz with hz | rfl
  · exact h z hz
  · exact hx
theorem all_p (P : Int → Prop) [DecidablePred P] (l : List Int) (h : (l.all fun z => decide (P z)) = true) : ∀ z ∈ l, P z := fun z hz => of_decide_eq_true (List.all_eq_true.1 h z hz)
/-- A list drawn. -/
def DrL (M q : Nat) (w : World) (e : Ending) (w' : World) : Prop :=
  ∃ (n : Nat) (A : Option Addr) (c : Nat) (zs : List Int), e = .returned (.slice A n c) ∧ n ≤ M ∧ zs.length = n ∧ Sml zs ∧ OwnI w' w.heap.size w'.heap.size (.slice A n c) zs ∧ Cur w' q ∧ Chg q (q + 1) w w'

set_option maxRecDepth 100000 in
set_option maxHeartbeats 2000000 in
theorem l4Some_any (q n : Nat) (w : World) (hc : Cur w q) (hn : n ≤ 18) : Calls Tryz.prog 72 #[.pointer (some ⟨q, 0, none⟩), .int .i64 n] w (DrL (n + 1) q w) := by
  obtain ⟨i0, hi, hz0, hz1, hz2⟩ := info_parts info_int
  have hq := hc.lt
  have hA := (Below.refl w.heap.size w).alloc (Nat.le_refl _) (.cells #[] 3)
  have hcA := hc.next hA
  have hgA : Chg q (q + 1) w (w.alloc (.cells #[] 3)) := (Chg.refl _ _ _).after hA
  go_enter Tryz.func72, Tryz.ntmps72
  go_wp2_with fail
  go_loopw [5, 6] (fun v i wr => ∃ p : List Int, p.length ≤ n ∧ i = .int .i64 p.length ∧ wr.ownsRow w.heap.size 3 1 v p.length (p.map iv) ∧ Cur wr q ∧ Chg q (q + 1) w wr ∧ Hid (Sml p)) (fun _ i _ => n - (intOf i).toNat)
  case atStart => exact ⟨[], by simp, rfl, own_empty w _ (Nat.le_refl _), hcA, hgA, fun z hz => by cases hz⟩
  case round =>
    obtain ⟨p, hk, rfl, hown, hcr, hgr, hsm⟩ := hrel
    have hgs := hgr.size
    clear hcA hgA hA
    by_cases hlt : p.length < n
    · have g2 : (p.length : Int) < (n : Int) := by omega
      go_wp2_with fail
      refine (l1Below_any q 4 _ hcr (by omega)).mono ?_
      rintro e w3 ⟨x, rfl, ⟨hx0, hx1⟩, hc3, hg3⟩
      have hown3 := own_keep hown fun g hg => hg3.block g (hown.lt g hg).2 (.inr (by have := (hown.lt g hg).1; omega))
      have hg4 := hgr.trans hg3
      have hgs4 := hg4.size
      clear hown hg3 hgr hcr
      go_wp2_with (at_builtin; refine wpList_append_lies _ rfl _ _ _ rfl w.heap.size 3 i0 _ 1 8 Tryz.underlying27 hi hz0 hz1 hz2 rfl (by omega) _ p.length _ rfl (hown3.alloc _) ⟨w3.heap.size, 0, none⟩ 1 1 [.int .i64 x] rfl rfl (World.news_of_block (cs := #[.int .i64 x]) (t := 3) (fr := (0, 0)) (heap_alloc_new w3 _)) (by simp [Value.oneCell']) (by omega) (by unfold maxLen; omega) (by omega) (by simp; omega) (w3.heap.size + 1) (by simp) ?_; intro g cap w4 hown4 hgrow _ _)
      have hB : Below w.heap.size w3 w4 := ((Below.refl w.heap.size w3).alloc (by omega) _).grown hgrow (by simp; omega) (fun j hj => (hown3.lt j hj).1)
      refine ⟨⟨p ++ [x], by simp; omega, by simp, own_snoc hown4, hc3.keep (fun k hk => hB.block k (by omega)) hB.size, hg4.after hB, hsm.out.snoc (by omega)⟩, ?_⟩
      simp [intOf]
      omega
    · have hpn : p.length = n := by omega
      have g2 : ¬ (p.length : Int) < (n : Int) := by omega
      go_wp2_with fail
      refine (l1Once_any q 10 _ hcr (by omega)).mono ?_
      rintro e w3 ⟨b, rfl, hc3, hg3⟩
      have hown3 := own_keep hown fun g hg => hg3.block g (hown.lt g hg).2 (.inr (by have := (hown.lt g hg).1; omega))
      have hg4 := hgr.trans hg3
      have hgs4 := hg4.size
      clear hown hg3 hgr hcr
      cases b with
      | false =>
        obtain ⟨A, c, rfl⟩ := own_form hown3
        have hI3 := ownI_of hown3
        rw [hpn] at hI3 ⊢
        go_wp2_with fail
        go_ret
        exact ⟨n, A, c, p, rfl, by omega, hpn, hsm.out, hI3, hc3, hg4⟩
      | true =>
        go_wp2_with fail
        have hB_y := (Below.refl w3.heap.size w3).alloc (Nat.le_refl _) (.cells ([0, -1, 10].map (Value.int .i64)).toArray 3)
        refine (l1PickInt_any q w3.heap.size 0 3 3 (fun z => -1 ≤ z ∧ z ≤ 1000) _ (hc3.next hB_y) (by simp) (by have := hc3.lt; omega) (by omega) (by omega) (fun k hk => ⟨_, row_ints w3 [0, -1, 10] _ k hk, all_p (fun z => -1 ≤ z ∧ z ≤ 1000) [0, -1, 10] (by decide +kernel) _ (List.getElem_mem _)⟩)).mono ?_
        rintro e w5 ⟨y, rfl, hy, hc5, hg5⟩
        have hown5 := own_keep (own_keep hown3 fun g hg => hB_y.block g (hown3.lt g hg).2) fun g hg => hg5.block g (Nat.lt_of_lt_of_le (hown3.lt g hg).2 hB_y.size) (.inr (by have := (hown3.lt g hg).1; omega))
        have hg6 := (hg4.trans ((Chg.refl _ _ _).after hB_y)).trans hg5
        have hgs6 := hg6.size
        clear hown3 hg5 hg4 hc3 hB_y
        go_wp2_with (at_builtin; refine wpList_append_lies _ rfl _ _ _ rfl w.heap.size 3 i0 _ 1 8 Tryz.underlying27 hi hz0 hz1 hz2 rfl (by omega) _ p.length _ rfl (hown5.alloc _) ⟨w5.heap.size, 0, none⟩ 1 1 [.int .i64 y] rfl rfl (World.news_of_block (cs := #[.int .i64 y]) (t := 3) (fr := (0, 0)) (heap_alloc_new w5 _)) (by simp [Value.oneCell']) (by omega) (by unfold maxLen; omega) (by omega) (by simp; omega) (w5.heap.size + 1) (by simp) ?_; intro g cap w4 hown4 hgrow _ _)
        have hB : Below w.heap.size w5 w4 := ((Below.refl w.heap.size w5).alloc (by omega) _).grown hgrow (by simp; omega) (fun j hj => (hown5.lt j hj).1)
        have hI := ownI_of (own_snoc hown4)
        rw [hpn] at hI
        have hc7 := hc5.keep (fun k hk => hB.block k (by omega)) hB.size
        have hg7 := hg6.after hB
        go_wp2_with fail
        go_ret
        exact ⟨n + 1, _, _, p ++ [y], rfl, by omega, by simp [hpn], hsm.out.snoc hy, hI, hc7, hg7⟩
end Go.Proofs.YtccnhocekgikiaaGreat
