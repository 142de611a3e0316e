/- The laws' helpers markIntS, heldIntS. -/
import Derived.Test.YtmojjbhjjhdpaaaDoorInts
namespace Go.Proofs.YtmojjbhjjhdpaaaDoor
open Go.RowKit Go.Deep

/-- k, k+1, ..: n numbers. -/
def cnt (k : Int) (n : Nat) : List Int := (List.range n).map fun (i : Nat) => k + (i : Int)
theorem cnt_length (k : Int) (n : Nat) : (cnt k n).length = n := by simp [cnt]
theorem cnt_get {k : Int} {n j : Nat} (h : j < n) : (cnt k n)[j]? = some (k + (j : Int)) := by simp [cnt, h]
/-- The first j counted, the rest of zs. -/
def markTo (zs : List Int) (k : Int) (j : Nat) : List Int := cnt k j ++ zs.drop j
theorem markTo_zero (zs : List Int) (k : Int) : markTo zs k 0 = zs := by simp [markTo, cnt]
theorem markTo_full (zs : List Int) (k : Int) : markTo zs k zs.length = cnt k zs.length := by simp [markTo]
theorem markTo_step {zs : List Int} {k : Int} {j : Nat} (h : j < zs.length) : (markTo zs k j).set j (k + (j : Int)) = markTo zs k (j + 1) := by
  unfold markTo
  rw [List.set_append_right _ _ (by rw [cnt_length]; omega), cnt_length, Nat.sub_self, List.drop_eq_getElem_cons h, List.set_cons_zero]
  unfold cnt
  rw [List.range_succ, List.map_append, List.append_assoc]
  rfl

/-- One element of an owned row is written. -/
theorem OwnI.set_ {w : World} {lo hi n c : Nat} {A : Option Addr} {zs : List Int} {i : Nat} (h : OwnI w lo hi (.slice A n c) zs) (hn : zs.length = n) (hin : i < n) (x : Int) :
    ∃ g y, A = some ⟨g, 0, none⟩ ∧ w.cell? ⟨g, i, none⟩ = some (.int .i64 y) ∧ w.frozen? ⟨g, i, none⟩ = false ∧
      OwnI (w.setCell ⟨g, i, none⟩ (.int .i64 x)) lo hi (.slice A n c) (zs.set i x) ∧ Chg lo hi w (w.setCell ⟨g, i, none⟩ (.int .i64 x)) := by
  rcases h.1.2 with ⟨hv, h0⟩ | ⟨g, cap, cur, hv, hlo, hg, hnc, hcm, hsz, ht⟩
  · omega
  · injection hv with hA hl hcap
    subst hA hcap
    have hi1 : i < cur.size := by omega
    have hghi : g < hi := h.2 g rfl
    have hy : cur[i]? = some (iv (zs[i]'(by omega))) := by
      have h1 : (cur.toList.take (zs.length * 1))[i]? = (zs.map iv)[i]? := by rw [ht]
      rw [List.getElem?_take, if_pos (by omega), List.getElem?_map, List.getElem?_eq_getElem (show i < zs.length by omega)] at h1
      simpa using h1
    refine ⟨g, zs[i]'(by omega), rfl, by rw [cell_of_row w g i _ _ (0, 0) hg]; exact hy, by simp [World.frozen?, hg], ⟨⟨by simp, .inr ⟨g, c, cur.setIfInBounds i (.int .i64 x), by rw [List.length_set, hn], hlo, by simp [World.setCell, Array.getElem?_modify, hg], by rw [List.length_set]; exact hnc, hcm, by simpa using hsz, ?_⟩⟩, h.2⟩,
      ⟨rfl, rfl, rfl, by simp [World.setCell], fun k hk hne => Below.heap_setCell w _ _ k (by show k ≠ g; omega)⟩⟩
    rw [List.length_set, Array.toList_setIfInBounds, List.map_set, ← ht, List.take_set]
    rfl

set_option maxRecDepth 100000 in
set_option maxHeartbeats 400000 in
theorem markIntS_any (A : Option Addr) (n c lo hi : Nat) (zs : List Int) (k : Int) (w : World) (ho : OwnI w lo hi (.slice A n c) zs) (hlen : zs.length = n) (hn : n ≤ 9223372036854775807) (hk : 0 ≤ k) (hkn : k + n ≤ 9223372036854775807) :
    Calls Tryd.prog 119 #[.slice A n c, .int .i64 k] w fun e w' => e = .returned (.int .i64 (k + n)) ∧ OwnI w' lo hi (.slice A n c) (cnt k n) ∧ Chg lo hi w w' := by
  have HL := Lib.hid hlen
  clear hlen
  go_enter Tryd.func119, Tryd.ntmps119
  go_wp2
  go_loopw [1, 5] (fun q i wr => ∃ j : Nat, j ≤ n ∧ i = .int .i64 j ∧ q = .int .i64 (k + (j : Int)) ∧ Hid (OwnI wr lo hi (.slice A n c) (markTo zs k j) ∧ Chg lo hi w wr)) (fun _ i _ => n - (intOf i).toNat)
  case atStart => exact ⟨0, by omega, rfl, by simp, by rw [markTo_zero]; exact ho, Chg.refl _ _ _⟩
  case round =>
    obtain ⟨j, hj, rfl, rfl, hinv⟩ := hrel
    by_cases hlt : j < n
    · have hml : (markTo zs k j).length = n := by unfold markTo; rw [List.length_append, cnt_length, List.length_drop, HL.out]; omega
      obtain ⟨g, y, rfl, hc, hf, ho', hg'⟩ := hinv.out.1.set_ hml hlt (k + (j : Int))
      rw [markTo_step (by rw [HL.out]; exact hlt)] at ho'
      have hst : Hid (OwnI (wr.setCell ⟨g, j, none⟩ (.int .i64 (k + (j : Int)))) lo hi (.slice (some ⟨g, 0, none⟩) n c) (markTo zs k (j + 1)) ∧ Chg lo hi w (wr.setCell ⟨g, j, none⟩ (.int .i64 (k + (j : Int))))) :=
        ⟨ho', hinv.out.2.trans hg'⟩
      clear ho' hg' hml
      go_wp2
      refine ⟨⟨j + 1, by omega, by go_num, by go_num, hst⟩, ?_⟩
      simp [intOf]
      omega
    · obtain rfl : j = n := by omega
      have h1 := hinv.out
      rw [← HL.out, markTo_full, HL.out] at h1
      have H1 := Lib.hid h1
      clear h1
      go_wp2
      go_ret
      exact ⟨rfl, H1.out⟩

set_option maxRecDepth 100000 in
set_option maxHeartbeats 400000 in
theorem heldIntS_any (A : Option Addr) (n c B : Nat) (k : Int) (w : World) (hr : RdI w B A n (cnt k n)) (hn : n ≤ 9223372036854775807) (hk : 0 ≤ k) (hkn : k + n ≤ 9223372036854775807) :
    Calls Tryd.prog 120 #[.slice A n c, .int .i64 k] w fun e w' => e = .returned (.int .i64 (k + n)) ∧ w = w' := by
  go_enter Tryd.func120, Tryd.ntmps120
  go_wp2
  go_loop [1, 5] (fun q i => ∃ j : Nat, j ≤ n ∧ i = .int .i64 j ∧ q = .int .i64 (k + (j : Int))) (fun _ i => n - (intOf i).toNat)
  case atStart => exact ⟨0, by omega, rfl, by simp⟩
  case round =>
    obtain ⟨j, hj, rfl, rfl⟩ := hrel
    by_cases hlt : j < n
    · obtain ⟨b, o, x, rfl, hb, hx, hc⟩ := hr.at_ hlt
      rw [cnt_get hlt] at hx
      injection hx with hx
      subst hx
      go_wp2
      go_round
      case rel => exact ⟨j + 1, by omega, by go_num, by go_num⟩
      case measure => simp [intOf]; omega
    · obtain rfl : j = n := by omega
      go_wp2
      go_ret
      exact ⟨rfl, rfl⟩
end Go.Proofs.YtmojjbhjjhdpaaaDoor
