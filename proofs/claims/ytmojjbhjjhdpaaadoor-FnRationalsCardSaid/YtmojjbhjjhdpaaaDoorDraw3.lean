/- What the laws draw: l1Text, l1Num. What is drawn is not said, but for its bounds. No condition. -/
import Derived.Test.YtmojjbhjjhdpaaaDoorDraw2
namespace Go.Proofs.YtmojjbhjjhdpaaaDoor
open Go.RowKit Go.Deep

def CurAt (q : Nat) (w1 W : World) : Prop := Cur W q ∧ Chg q (q + 1) w1 W
/-- A text drawn. -/
def DrS (M q : Nat) (w : World) (e : Ending) (w' : World) : Prop := ∃ s : ByteArray, e = .returned (.string s) ∧ s.size ≤ M ∧ Cur w' q ∧ Chg q (q + 1) w w'

set_option maxRecDepth 100000 in
set_option maxHeartbeats 2000000 in
theorem l1Text_any (q M : Nat) (w : World) (hc : Cur w q) (hM : M ≤ 1048576) :
    Calls Tryd.prog 94 #[.pointer (some ⟨q, 0, none⟩), .int .i64 M] w (DrS M q w) := by
  obtain ⟨i0, hi, hz0, hz1, hz2⟩ := info_parts info_u8
  have hq := hc.lt
  have hown0 := World.ownsRow_made (base := w.heap.size) (e := 5) (size := 1) w #[] 0 (Nat.le_refl _) (by unfold maxLen; omega) rfl
  have hcA := hc.next ((Below.refl _ _).alloc (Nat.le_refl _) (.cells #[] 5))
  have hgA : Chg q (q + 1) w (w.alloc (.cells #[] 5)) := (Chg.refl _ _ _).after ((Below.refl _ _).alloc (Nat.le_refl _) _)
  go_enter Tryd.func94, Tryd.ntmps94
  go_wp2_with fail
  refine (l1Below_any q 4 _ hcA (by omega)).mono ?_
  rintro e w1 ⟨S, rfl, ⟨hS0, hS1⟩, hc1, hg1⟩
  have hS : S = 0 ∨ S = 1 ∨ S = 2 ∨ S = 3 := by omega
  clear hS0 hS1
  go_wp2_with fail
  refine (l1Below_any q ((M : Int) + 1) _ hc1 (by omega)).mono ?_
  rintro e w2 ⟨m0, rfl, ⟨hm0, hm1⟩, hc2, hg2⟩
  obtain ⟨m0, rfl⟩ := Int.eq_ofNat_of_zero_le hm0
  have hm2 : m0 ≤ M := by omega
  have hg3 := (hgA.trans hg1).trans hg2
  have hown2 : w2.ownsRow w.heap.size 5 1 (.slice (some ⟨w.heap.size, 0, none⟩) 0 0) 0 [] := own_keep (own_keep hown0 fun g hg => hg1.block g (hown0.lt g hg).2 (.inr (by have := (hown0.lt g hg).1; omega))) fun g hg => hg2.block g (Nat.lt_of_lt_of_le (hown0.lt g hg).2 hg1.size) (.inr (by have := (hown0.lt g hg).1; omega))
  clear hown0 hcA hgA hc1 hg1 hg2 hm0 hm1
  go_wp2_with fail
  go_loopw [5, 7] (fun v i wr => ∃ (m : Nat) (p : List UInt8), p.length + m ≤ M ∧ i = .int .i64 m ∧ wr.ownsRow w.heap.size 5 1 v p.length (p.map bv) ∧ Cur wr q ∧ Chg q (q + 1) w wr) (fun _ i _ => (intOf i).toNat)
  case atStart => exact ⟨m0, [], by simp; omega, rfl, hown2, hc2, hg3⟩
  case round =>
    obtain ⟨m, p, hpm, rfl, hown, hcr, hgr⟩ := hrel
    by_cases hlt : 0 < m
    · have g1 : (0 : Int) < (m : Int) := by omega
      go_wp2_with fail
      refine (l1Byte_any q _ hcr).mono ?_
      rintro e w3 ⟨b, rfl, ⟨hb0, hb1⟩, hc3, hg3⟩
      have hown3 := own_keep hown fun g hg => hg3.block g (hown.lt g hg).2 (.inr (by have := (hown.lt g hg).1; omega))
      have hg4 := hgr.trans hg3
      obtain ⟨b, rfl⟩ := Int.eq_ofNat_of_zero_le hb0
      have hgs := hg4.size
      clear hown hg3 hgr hcr
      rcases hS with rfl | rfl | rfl | rfl
      · have hE : b < 256 := by omega
        have hbv : Hid (Value.int .u8 ((b : Int)) = bv (UInt8.ofNat (b))) := by show _ = _; rw [← bv_of (b) hE]
        go_wp2_with (at_builtin; refine wpList_append_lies _ rfl _ _ _ rfl w.heap.size 5 i0 _ 1 1 Tryd.underlying62 hi hz0 hz1 hz2 rfl (by omega) _ p.length _ rfl (hown3.alloc _) ⟨w3.heap.size, 0, none⟩ 1 1 [.int .u8 ((b : Int))] rfl rfl (World.news_of_block (cs := #[.int .u8 ((b : Int))]) (t := 5) (fr := (0, 0)) (heap_alloc_new w3 _)) (by simp [Value.oneCell']) (by omega) (by unfold maxLen; omega) (by omega) (by simp; omega) (w3.heap.size + 1) (by simp) ?_; intro g cap w4 hown4 hgrow _ _)
        have hown5 : w4.ownsRow w.heap.size 5 1 (.slice (some ⟨g, 0, none⟩) (p.length + 1) cap) (p ++ [UInt8.ofNat (b)]).length ((p ++ [UInt8.ofNat (b)]).map bv) := by rw [List.map_append, List.map_singleton, ← hbv.out]; simpa using hown4
        have hB : Below w.heap.size w3 w4 := ((Below.refl w.heap.size w3).alloc (by omega) _).grown hgrow (by simp; omega) (fun j hj => (hown3.lt j hj).1)
        refine ⟨⟨m - 1, p ++ [UInt8.ofNat (b)], by simp; omega, by exact congrArg (Value.int .i64) (by omega), hown5, hc3.keep (fun k hk => hB.block k (by omega)) hB.size, hg4.after hB⟩, ?_⟩
        simp [intOf]
        omega
      · have hE : b % 2 < 256 := by omega
        have hbv : Hid (Value.int .u8 ((b : Int) % 2) = bv (UInt8.ofNat (b % 2))) := by show _ = _; rw [← bv_of (b % 2) hE]; exact congrArg (Value.int .u8) (by omega)
        go_wp2_with (at_builtin; refine wpList_append_lies _ rfl _ _ _ rfl w.heap.size 5 i0 _ 1 1 Tryd.underlying62 hi hz0 hz1 hz2 rfl (by omega) _ p.length _ rfl (hown3.alloc _) ⟨w3.heap.size, 0, none⟩ 1 1 [.int .u8 ((b : Int) % 2)] rfl rfl (World.news_of_block (cs := #[.int .u8 ((b : Int) % 2)]) (t := 5) (fr := (0, 0)) (heap_alloc_new w3 _)) (by simp [Value.oneCell']) (by omega) (by unfold maxLen; omega) (by omega) (by simp; omega) (w3.heap.size + 1) (by simp) ?_; intro g cap w4 hown4 hgrow _ _)
        have hown5 : w4.ownsRow w.heap.size 5 1 (.slice (some ⟨g, 0, none⟩) (p.length + 1) cap) (p ++ [UInt8.ofNat (b % 2)]).length ((p ++ [UInt8.ofNat (b % 2)]).map bv) := by rw [List.map_append, List.map_singleton, ← hbv.out]; simpa using hown4
        have hB : Below w.heap.size w3 w4 := ((Below.refl w.heap.size w3).alloc (by omega) _).grown hgrow (by simp; omega) (fun j hj => (hown3.lt j hj).1)
        refine ⟨⟨m - 1, p ++ [UInt8.ofNat (b % 2)], by simp; omega, by exact congrArg (Value.int .i64) (by omega), hown5, hc3.keep (fun k hk => hB.block k (by omega)) hB.size, hg4.after hB⟩, ?_⟩
        simp [intOf]
        omega
      · have hE : 97 + b % 4 < 256 := by omega
        have hbv : Hid (Value.int .u8 (97 + (b : Int) % 4) = bv (UInt8.ofNat (97 + b % 4))) := by show _ = _; rw [← bv_of (97 + b % 4) hE]; exact congrArg (Value.int .u8) (by omega)
        go_wp2_with (at_builtin; refine wpList_append_lies _ rfl _ _ _ rfl w.heap.size 5 i0 _ 1 1 Tryd.underlying62 hi hz0 hz1 hz2 rfl (by omega) _ p.length _ rfl (hown3.alloc _) ⟨w3.heap.size, 0, none⟩ 1 1 [.int .u8 (97 + (b : Int) % 4)] rfl rfl (World.news_of_block (cs := #[.int .u8 (97 + (b : Int) % 4)]) (t := 5) (fr := (0, 0)) (heap_alloc_new w3 _)) (by simp [Value.oneCell']) (by omega) (by unfold maxLen; omega) (by omega) (by simp; omega) (w3.heap.size + 1) (by simp) ?_; intro g cap w4 hown4 hgrow _ _)
        have hown5 : w4.ownsRow w.heap.size 5 1 (.slice (some ⟨g, 0, none⟩) (p.length + 1) cap) (p ++ [UInt8.ofNat (97 + b % 4)]).length ((p ++ [UInt8.ofNat (97 + b % 4)]).map bv) := by rw [List.map_append, List.map_singleton, ← hbv.out]; simpa using hown4
        have hB : Below w.heap.size w3 w4 := ((Below.refl w.heap.size w3).alloc (by omega) _).grown hgrow (by simp; omega) (fun j hj => (hown3.lt j hj).1)
        refine ⟨⟨m - 1, p ++ [UInt8.ofNat (97 + b % 4)], by simp; omega, by exact congrArg (Value.int .i64) (by omega), hown5, hc3.keep (fun k hk => hB.block k (by omega)) hB.size, hg4.after hB⟩, ?_⟩
        simp [intOf]
        omega
      · have hE : b < 256 := by omega
        have hbv : Hid (Value.int .u8 ((b : Int)) = bv (UInt8.ofNat (b))) := by show _ = _; rw [← bv_of (b) hE]
        go_wp2_with (at_builtin; refine wpList_append_lies _ rfl _ _ _ rfl w.heap.size 5 i0 _ 1 1 Tryd.underlying62 hi hz0 hz1 hz2 rfl (by omega) _ p.length _ rfl (hown3.alloc _) ⟨w3.heap.size, 0, none⟩ 1 1 [.int .u8 ((b : Int))] rfl rfl (World.news_of_block (cs := #[.int .u8 ((b : Int))]) (t := 5) (fr := (0, 0)) (heap_alloc_new w3 _)) (by simp [Value.oneCell']) (by omega) (by unfold maxLen; omega) (by omega) (by simp; omega) (w3.heap.size + 1) (by simp) ?_; intro g cap w4 hown4 hgrow _ _)
        have hown5 : w4.ownsRow w.heap.size 5 1 (.slice (some ⟨g, 0, none⟩) (p.length + 1) cap) (p ++ [UInt8.ofNat (b)]).length ((p ++ [UInt8.ofNat (b)]).map bv) := by rw [List.map_append, List.map_singleton, ← hbv.out]; simpa using hown4
        have hB : Below w.heap.size w3 w4 := ((Below.refl w.heap.size w3).alloc (by omega) _).grown hgrow (by simp; omega) (fun j hj => (hown3.lt j hj).1)
        refine ⟨⟨m - 1, p ++ [UInt8.ofNat (b)], by simp; omega, by exact congrArg (Value.int .i64) (by omega), hown5, hc3.keep (fun k hk => hB.block k (by omega)) hB.size, hg4.after hB⟩, ?_⟩
        simp [intOf]
        omega
    · obtain rfl : m = 0 := by omega
      have hconv := own_string (P := Tryd.prog) hown (src := 62) (dst := 9) Tryd.underlying62 Tryd.underlying5 Tryd.underlying9
      go_wp2_with fail
      go_ret
      exact ⟨_, rfl, by simp [ByteArray.size]; omega, hcr, hgr⟩

theorem i64_of (z : Int) (h : (Lit.int .i64 z).wf = true) : I64 z := by
  exact int_wf h
theorem row_ints (w : World) (l : List Int) (t : TypeId) (k : Nat) (hk : k < l.length) : (w.alloc (.cells (l.map (Value.int .i64)).toArray t)).cell? ⟨w.heap.size, 0 + k, none⟩ = some (.int .i64 l[k]) := by
  simp [go_sem, hk]

set_option maxRecDepth 100000 in
set_option maxHeartbeats 2000000 in
theorem l1Num_any (q : Nat) (w : World) (hc : Cur w q) :
    Calls Tryd.prog 93 #[.pointer (some ⟨q, 0, none⟩)] w (DrI I64 q w) := by
  go_enter Tryd.func93, Tryd.ntmps93
  go_wp2_with fail
  refine (l1Below_any q 8 w hc (by omega)).mono ?_
  rintro e w1 ⟨x, rfl, ⟨hx0, hx1⟩, hc1, hg1⟩
  by_cases h0 : x = 0
  · subst h0
    go_wp2_with fail
    have hB := (Below.refl w1.heap.size w1).alloc (Nat.le_refl _) (.cells ([-1, 0, 127, 128, 255, 256, 16383, 16384, 65535, 65536, 562949953421311, 562949953421312, 999999999, 1000000000, -999999999, 9223372036854775807, -9223372036854775808].map (Value.int .i64)).toArray 3)
    refine (l1PickInt_any q w1.heap.size 0 17 17 I64 _ (hc1.next hB) (by simp) (by have := hc1.lt; omega) (by omega) (by omega) (fun k hk => ⟨_, row_ints w1 [-1, 0, 127, 128, 255, 256, 16383, 16384, 65535, 65536, 562949953421311, 562949953421312, 999999999, 1000000000, -999999999, 9223372036854775807, -9223372036854775808] _ k hk, ?_⟩)).mono ?_
    · have hall : ∀ z ∈ [-1, 0, 127, 128, 255, 256, 16383, 16384, 65535, 65536, 562949953421311, 562949953421312, 999999999, 1000000000, -999999999, 9223372036854775807, -9223372036854775808], I64 z := by
        intro z hz
        unfold I64
        simp at hz
        omega
      exact hall _ (List.getElem_mem _)
    · rintro e w2 ⟨z, rfl, hz, hc2, hg2⟩
      go_wp2_with fail
      go_ret
      exact ⟨_, rfl, hz, hc2, (hg1.trans ((Chg.refl _ _ _).after hB)).trans hg2⟩
  · by_cases h1 : x = 1
    · subst h1
      go_wp2_with fail
      refine (l1Below_any q 1000000000 w1 hc1 (by omega)).mono ?_
      rintro e w2 ⟨y, rfl, ⟨hy0, hy1⟩, hc2, hg2⟩
      go_wp2_with fail
      refine (l1Below_any q 1000000000 w2 hc2 (by omega)).mono ?_
      rintro e w3 ⟨z, rfl, ⟨hz0, hz1⟩, hc3, hg3⟩
      go_wp2_with fail
      go_ret
      exact ⟨_, rfl, by exact i64_wrap _, hc3, (hg1.trans hg2).trans hg3⟩
    · by_cases h2 : x = 2
      · subst h2
        go_wp2_with fail
        refine (l1Below_any q 100000 w1 hc1 (by omega)).mono ?_
        rintro e w2 ⟨z, rfl, ⟨hz0, hz1⟩, hc2, hg2⟩
        go_wp2_with fail
        go_ret
        exact ⟨_, rfl, by first | exact i64_wrap _ | (unfold I64; omega), hc2, hg1.trans hg2⟩
      · go_wp2_with fail
        refine (l1Below_any q 70000 w1 hc1 (by omega)).mono ?_
        rintro e w2 ⟨z, rfl, ⟨hz0, hz1⟩, hc2, hg2⟩
        go_wp2_with fail
        go_ret
        exact ⟨_, rfl, by unfold I64; omega, hc2, hg1.trans hg2⟩
end Go.Proofs.YtmojjbhjjhdpaaaDoor
