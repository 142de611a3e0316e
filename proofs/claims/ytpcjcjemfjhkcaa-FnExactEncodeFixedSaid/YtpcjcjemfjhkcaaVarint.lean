/- EncodeVarint: both texts, and the law's walk. No condition. -/
import Derived.Test.YtpcjcjemfjhkcaaBase
import Derived.Test.YtpcjcjemfjhkcaaNumPlain
import Derived.Test.YtpcjcjemfjhkcaaDecFixed
import Derived.OwnWalk
import Derived.Deep.AppendLies
import Derived.Outline
import Derived.Deep.DeepMust
namespace Go.Proofs.Ytpcjcjemfjhkcaa
open Go.RowKit

def encvR (n : Int) : List UInt8 := if 0 ≤ n ∧ n ≤ 562949953421311 then encv n.toNat else []
theorem encvR_yes {n : Nat} (h : n ≤ 562949953421311) : encvR n = encv n := by rw [encvR, if_pos ⟨by omega, by omega⟩, Int.toNat_natCast]
theorem encvR_no {n : Int} (h : ¬ (0 ≤ n ∧ n ≤ 562949953421311)) : encvR n = [] := by rw [encvR, if_neg h]
theorem bv_of (n : Nat) (h : n < 256) : Value.int .u8 (n : Int) = bv (UInt8.ofNat n) := by
  unfold bv
  congr 1
  have : (UInt8.ofNat n).toNat = n := by rw [UInt8.toNat_ofNat']; exact Nat.mod_eq_of_lt h
  omega
theorem bv_of' (m : Nat) : Value.int .u8 (128 + (m : Int) % 128) = bv (UInt8.ofNat (128 + m % 128)) := by
  have := bv_of (128 + m % 128) (by omega)
  rw [← this]
  congr 1
theorem and127 (m : Nat) (h : m < 9223372036854775808) : bits .and .i64 (m : Int) 127 = (m : Int) % 128 := by
  have := i64_and_nat m 127 h (by omega)
  rw [show ((127 : Nat) : Int) = 127 from rfl] at this
  rw [this, show (127 : Nat) = 2 ^ 7 - 1 from rfl, Nat.and_two_pow_sub_one_eq_mod]
  omega
theorem or128 (m : Nat) : bits .or .i64 ((m : Int) % 128) 128 = 128 + (m : Int) % 128 := by
  have h1 : (m : Int) % 128 = ((m % 128 : Nat) : Int) := by omega
  have := i64_or_nat (m % 128) 128 (by omega) (by omega)
  rw [show ((128 : Nat) : Int) = 128 from rfl] at this
  rw [h1, this]
  have h2 : m % 128 ||| 128 = 128 + m % 128 := by
    have := Nat.two_pow_add_eq_or_of_lt (i := 7) (b := m % 128) (by omega) 1
    rw [Nat.or_comm]
    simpa using this.symm
  rw [h2]
  omega

/-- What the round does to the number and the count. -/
theorem varint_step {m j : Nat} (hj : j ≤ 6) (h1 : m < 128 ^ (7 - j)) (h2 : ¬ m < 128) : j + 1 ≤ 6 ∧ m / 128 < 128 ^ (7 - (j + 1)) := by
  have h6 : j ≠ 6 := by rintro rfl; simp at h1; omega
  refine ⟨by omega, ?_⟩
  rw [Nat.div_lt_iff_lt_mul (by omega)]
  rw [show 7 - j = (7 - (j + 1)) + 1 from by omega, Nat.pow_succ] at h1
  exact h1
def VInv (N m j : Nat) (p : List UInt8) : Prop := j ≤ 6 ∧ m < 128 ^ (7 - j) ∧ p ++ encv m = encv N
theorem VInv.start {N : Nat} (h : N ≤ 562949953421311) : VInv N N 0 [] := by
  have : (128 : Nat) ^ (7 - 0) = 562949953421312 := by decide
  exact ⟨by omega, by omega, rfl⟩
theorem VInv.step {N m j : Nat} {p : List UInt8} (h : VInv N m j p) (h2 : ¬ m < 128) : VInv N (m / 128) (j + 1) (p ++ [UInt8.ofNat (128 + m % 128)]) :=
  ⟨(varint_step h.1 h.2.1 h2).1, (varint_step h.1 h.2.1 h2).2, by rw [List.append_assoc, List.singleton_append, ← encv_big h2]; exact h.2.2⟩
theorem VInv.stop {N m j : Nat} {p : List UInt8} (h : VInv N m j p) (h2 : m < 128) : p ++ [UInt8.ofNat m] = encv N := by rw [← h.2.2, encv_small h2]
theorem VInv.le {N m j : Nat} {p : List UInt8} (h : VInv N m j p) : m < 562949953421312 := by
  have h1 : 128 ^ (7 - j) ≤ 128 ^ 7 := Nat.pow_le_pow_right (by omega) (by omega)
  have := h.2.1
  omega
theorem VInv.j {N m j : Nat} {p : List UInt8} (h : VInv N m j p) : j ≤ 6 := h.1

set_option maxRecDepth 100000 in
set_option maxHeartbeats 400000 in
theorem impl_EncodeVarint_any (n : Int) (w : World) (B : Nat) (hB : B ≤ w.heap.size) :
    Calls Try.prog 18 #[.int .i64 n] w fun e w' => e = .returned (.string ⟨(encvR n).toArray⟩) ∧ Below B w w' := by
  by_cases hn : 0 ≤ n ∧ n ≤ 562949953421311
  · have hb := inB_true hn.1 hn.2
    obtain ⟨N, rfl⟩ := Int.eq_ofNat_of_zero_le hn.1
    have hN : N ≤ 562949953421311 := by omega
    have hy := Lib.hid (encvR_yes hN)
    clear hn
    obtain ⟨i0, hi, hz0, hz1, hz2⟩ := info_parts (show (Try.prog.info? 5).map (fun i => (i.zero, i.size, i.bytes)) = some (some (.int .u8 0), 1, 1) by kernel_rfl)
    go_enter Try.func18, Try.ntmps18
    go_wp2_with (go_at_call 27; refine (within_any _ _ _ _).mono ?_; rintro e w' ⟨rfl, rfl⟩)
    go_loopw [0, 3] (fun n v wr => ∃ (m j : Nat) (p : List UInt8), n = .int .i64 m ∧ wr.ownsRow B 5 1 v j (p.map bv) ∧ Below B w wr ∧ VInv N m j p) (fun n _ _ => (intOf n).toNat)
    case atStart => exact ⟨N, 0, [], rfl, World.ownsRow_made (base := B) (e := 5) (size := 1) w #[] 0 hB (by unfold maxLen; omega) rfl, (Below.refl _ _).alloc hB _, VInv.start hN⟩
    case round =>
      obtain ⟨m, j, p, rfl, hown, hbel, hv⟩ := hrel
      have hle := hv.le
      have hj := hv.j
      have hsz := hbel.size
      by_cases hlt : m < 128
      · have hst := Lib.hid (hv.stop hlt)
        go_wp2_with (at_builtin; refine wpList_append_lies _ rfl _ _ _ rfl B 5 i0 _ 1 1 Try.underlying36 hi hz0 hz1 hz2 rfl (by omega) _ j _ rfl (hown.alloc _) ⟨wr.heap.size, 0, none⟩ 1 1 [.int .u8 (m : Int)] rfl rfl (World.news_of_block (cs := #[.int .u8 (m : Int)]) (t := 5) (fr := (0, 0)) (heap_alloc_new wr _)) (by simp [Value.oneCell']) (by omega) (by unfold maxLen; omega) (by omega) (by simp; omega) (wr.heap.size + 1) (by simp) ?_; intro g cap w1 hown1 hgrow _ _; rw [bv_of m (by omega)] at hown1; have hconv := own_string (P := Try.prog) (l := p ++ [UInt8.ofNat m]) (by simpa using hown1) (src := 36) (dst := 9) Try.underlying36 Try.underlying5 Try.underlying9)
        go_ret
        exact ⟨by rw [hy.out, ← hst.out] <;> rfl, (hbel.alloc (by omega) _).grown hgrow (by simp; omega) (fun k hk => (hown.lt k hk).1)⟩
      · have q1 := and127 m (by omega)
        have q2 := or128 m
        go_wp2_with (at_builtin; refine wpList_append_lies _ rfl _ _ _ rfl B 5 i0 _ 1 1 Try.underlying36 hi hz0 hz1 hz2 rfl (by omega) _ j _ rfl (hown.alloc _) ⟨wr.heap.size, 0, none⟩ 1 1 [.int .u8 (128 + (m : Int) % 128)] rfl rfl (World.news_of_block (cs := #[.int .u8 (128 + (m : Int) % 128)]) (t := 5) (fr := (0, 0)) (heap_alloc_new wr _)) (by simp [Value.oneCell']) (by omega) (by unfold maxLen; omega) (by omega) (by simp; omega) (wr.heap.size + 1) (by simp) ?_; intro g cap w1 hown1 hgrow _ _)
        rw [bv_of' m] at hown1
        go_roundw
        case rel => exact ⟨m / 128, j + 1, p ++ [UInt8.ofNat (128 + m % 128)], by go_num, by rw [List.map_append]; exact hown1, (hbel.alloc (by omega) _).grown hgrow (by simp; omega) (fun k hk => (hown.lt k hk).1), hv.step hlt⟩
        case measure => simp [intOf]; omega
  · have hb := inB_false hn
    have hno := Lib.hid (encvR_no hn)
    go_enter Try.func18, Try.ntmps18
    go_wp2_with (go_at_call 27; refine (within_any _ _ _ _).mono ?_; rintro e w' ⟨rfl, rfl⟩)
    go_ret
    exact ⟨by rw [hno.out] <;> rfl, Below.refl _ _⟩
set_option maxRecDepth 100000 in
set_option maxHeartbeats 400000 in
theorem spec_EncodeVarint_any (n : Int) (w : World) (B : Nat) (hB : B ≤ w.heap.size) :
    Calls Try.prog 17 #[.int .i64 n] w fun e w' => e = .returned (.string ⟨(encvR n).toArray⟩) ∧ Below B w w' := by
  by_cases hn : 0 ≤ n ∧ n ≤ 562949953421311
  · have hb := inB_true hn.1 hn.2
    obtain ⟨N, rfl⟩ := Int.eq_ofNat_of_zero_le hn.1
    have hN : N ≤ 562949953421311 := by omega
    have hy := Lib.hid (encvR_yes hN)
    clear hn
    obtain ⟨i0, hi, hz0, hz1, hz2⟩ := info_parts (show (Try.prog.info? 5).map (fun i => (i.zero, i.size, i.bytes)) = some (some (.int .u8 0), 1, 1) by kernel_rfl)
    go_enter Try.func17, Try.ntmps17
    go_wp2_with (go_at_call 26; refine (l1In_any _ _ _ _).mono ?_; rintro e w' ⟨rfl, rfl⟩)
    go_loopw [0, 3] (fun n v wr => ∃ (m j : Nat) (p : List UInt8), n = .int .i64 m ∧ wr.ownsRow B 5 1 v j (p.map bv) ∧ Below B w wr ∧ VInv N m j p) (fun n _ _ => (intOf n).toNat)
    case atStart => exact ⟨N, 0, [], rfl, World.ownsRow_made (base := B) (e := 5) (size := 1) w #[] 0 hB (by unfold maxLen; omega) rfl, (Below.refl _ _).alloc hB _, VInv.start hN⟩
    case round =>
      obtain ⟨m, j, p, rfl, hown, hbel, hv⟩ := hrel
      have hle := hv.le
      have hj := hv.j
      have hsz := hbel.size
      by_cases hlt : m < 128
      · have hst := Lib.hid (hv.stop hlt)
        go_wp2_with (at_builtin; refine wpList_append_lies _ rfl _ _ _ rfl B 5 i0 _ 1 1 Try.underlying36 hi hz0 hz1 hz2 rfl (by omega) _ j _ rfl (hown.alloc _) ⟨wr.heap.size, 0, none⟩ 1 1 [.int .u8 (m : Int)] rfl rfl (World.news_of_block (cs := #[.int .u8 (m : Int)]) (t := 5) (fr := (0, 0)) (heap_alloc_new wr _)) (by simp [Value.oneCell']) (by omega) (by unfold maxLen; omega) (by omega) (by simp; omega) (wr.heap.size + 1) (by simp) ?_; intro g cap w1 hown1 hgrow _ _; rw [bv_of m (by omega)] at hown1; have hconv := own_string (P := Try.prog) (l := p ++ [UInt8.ofNat m]) (by simpa using hown1) (src := 36) (dst := 9) Try.underlying36 Try.underlying5 Try.underlying9)
        go_ret
        exact ⟨by rw [hy.out, ← hst.out] <;> rfl, (hbel.alloc (by omega) _).grown hgrow (by simp; omega) (fun k hk => (hown.lt k hk).1)⟩
      · go_wp2_with (at_builtin; refine wpList_append_lies _ rfl _ _ _ rfl B 5 i0 _ 1 1 Try.underlying36 hi hz0 hz1 hz2 rfl (by omega) _ j _ rfl (hown.alloc _) ⟨wr.heap.size, 0, none⟩ 1 1 [.int .u8 (128 + (m : Int) % 128)] rfl rfl (World.news_of_block (cs := #[.int .u8 (128 + (m : Int) % 128)]) (t := 5) (fr := (0, 0)) (heap_alloc_new wr _)) (by simp [Value.oneCell']) (by omega) (by unfold maxLen; omega) (by omega) (by simp; omega) (wr.heap.size + 1) (by simp) ?_; intro g cap w1 hown1 hgrow _ _)
        rw [bv_of' m] at hown1
        go_roundw
        case rel => exact ⟨m / 128, j + 1, p ++ [UInt8.ofNat (128 + m % 128)], by go_num, by rw [List.map_append]; exact hown1, (hbel.alloc (by omega) _).grown hgrow (by simp; omega) (fun k hk => (hown.lt k hk).1), hv.step hlt⟩
        case measure => simp [intOf]; omega
  · have hb := inB_false hn
    have hno := Lib.hid (encvR_no hn)
    go_enter Try.func17, Try.ntmps17
    go_wp2_with (go_at_call 26; refine (l1In_any _ _ _ _).mono ?_; rintro e w' ⟨rfl, rfl⟩)
    go_ret
    exact ⟨by rw [hno.out] <;> rfl, Below.refl _ _⟩

theorem encodeVarint_walk (n : Int) (w : World) (_hn : (Lit.int .i64 n).wf = true) : Calls Try.prog 7 #[.int .i64 n] w fun e w' => e = .returned (.bool true) ∧ Below w.heap.size w w' := by
  go_enter Try.func7, Try.ntmps7
  go_wp2_with fail
  refine (spec_EncodeVarint_any n _ w.heap.size (Nat.le_refl _)).mono ?_
  rintro e w1 ⟨rfl, b1⟩
  go_wp2_with fail
  refine (impl_EncodeVarint_any n _ w.heap.size b1.size).mono ?_
  rintro e w2 ⟨rfl, b2⟩
  go_wp2_with fail
  go_ret
  exact ⟨rfl, b1.trans b2⟩
end Go.Proofs.Ytpcjcjemfjhkcaa
