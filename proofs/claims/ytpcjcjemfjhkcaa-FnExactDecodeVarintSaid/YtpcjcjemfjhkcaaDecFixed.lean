/- DecodeFixed: both texts, and the law's walk. No condition. -/
import Derived.Test.YtpcjcjemfjhkcaaBase
import Derived.Test.YtpcjcjemfjhkcaaNumPlain
import Derived.Outline
import Derived.Laws.BitsAllLaws
import Derived.Laws.BitsLemmas
namespace Go.Proofs.Ytpcjcjemfjhkcaa
open Go.RowKit

theorem ofInt_i64 (a : Nat) (ha : a < 9223372036854775808) : (BitVec.ofInt 64 (a : Int)).toNat = a := by
  rw [BitVec.ofInt_natCast, BitVec.toNat_ofNat]; exact Nat.mod_eq_of_lt (by omega)
theorem i64_or_nat (a b : Nat) (ha : a < 9223372036854775808) (hb : b < 9223372036854775808) : bits .or .i64 (a : Int) (b : Int) = ((a ||| b : Nat) : Int) := by
  have hx : a ||| b < 2 ^ 63 := Nat.or_lt_two_pow (by omega) (by omega)
  show IntKind.i64.wrap ((BitVec.ofInt 64 (a : Int) ||| BitVec.ofInt 64 (b : Int)).toNat : Int) = _
  rw [BitVec.toNat_or, ofInt_i64 a ha, ofInt_i64 b hb, IntKind.wrap_i64]
  omega
theorem i64_and_nat (a b : Nat) (ha : a < 9223372036854775808) (hb : b < 9223372036854775808) : bits .and .i64 (a : Int) (b : Int) = ((a &&& b : Nat) : Int) := by
  have hx : a &&& b < 2 ^ 63 := Nat.and_lt_two_pow _ (by omega)
  show IntKind.i64.wrap ((BitVec.ofInt 64 (a : Int) &&& BitVec.ofInt 64 (b : Int)).toNat : Int) = _
  rw [BitVec.toNat_and, ofInt_i64 a ha, ofInt_i64 b hb, IntKind.wrap_i64]
  omega
/-- 'n<<8 | b'. -/
theorem or_byte (n b : Nat) (hn : n < 2 ^ 50) (hb : b < 256) : bits .or .i64 ((n : Int) * 256) (b : Int) = (n : Int) * 256 + (b : Int) := by
  have h1 : ((n : Int) * 256) = ((n * 256 : Nat) : Int) := by omega
  rw [h1, i64_or_nat (n * 256) b (by omega) (by omega)]
  have : n * 256 ||| b = n * 256 + b := by
    have := Nat.two_pow_add_eq_or_of_lt (i := 8) (b := b) (by omega) n
    rw [Nat.mul_comm] at this
    exact this.symm
  rw [this]
  omega

def decFR (s : ByteArray) (width : Int) : Value :=
  if 1 ≤ width ∧ width ≤ 7 ∧ width ≤ s.size then .tuple #[.int .i64 (decF (s.data.toList.take width.toNat) : Nat), .bool true] else .tuple #[.int .i64 0, .bool false]
theorem decFR_yes {s : ByteArray} {d : Nat} (h1 : 1 ≤ d) (h2 : d ≤ 7) (h3 : d ≤ s.size) : decFR s d = .tuple #[.int .i64 (decF (s.data.toList.take d) : Nat), .bool true] := by
  rw [decFR, if_pos ⟨by omega, by omega, by omega⟩, Int.toNat_natCast]
theorem decFR_no {s : ByteArray} {width : Int} (h : ¬ (1 ≤ width ∧ width ≤ 7 ∧ width ≤ s.size)) : decFR s width = .tuple #[.int .i64 0, .bool false] := by rw [decFR, if_neg h]
theorem decF_bound (l : List UInt8) (k : Nat) (h : k < 7) : decF (l.take k) < 281474976710656 := by
  have h1 := decF_lt (l.take k)
  have h2 : (l.take k).length ≤ k := List.length_take_le _ _
  have h3 : 256 ^ (l.take k).length ≤ 256 ^ 6 := Nat.pow_le_pow_right (by omega) (by omega)
  omega
theorem decF_step (s : ByteArray) (k : Nat) (h : k < s.size) : decF (s.data.toList.take (k + 1)) = decF (s.data.toList.take k) * 256 + s[k].toNat := by rw [take_snoc s k h, decF_snoc]

set_option maxHeartbeats 400000 in
theorem impl_DecodeFixed_any (s : ByteArray) (width : Int) (w : World) (hs : s.size ≤ 9223372036854775807) :
    Calls Try.prog 16 #[.string s, .int .i64 width] w fun e w' => e = .returned (decFR s width) ∧ w = w' := by
  by_cases hw : 1 ≤ width ∧ width ≤ 7
  · have hb := inB_true hw.1 hw.2
    obtain ⟨d, rfl⟩ := Int.eq_ofNat_of_zero_le (show 0 ≤ width by omega)
    have hd1 : 1 ≤ d := by omega
    have hd2 : d ≤ 7 := by omega
    clear hw
    by_cases hl : s.size < d
    · have hn := Lib.hid (decFR_no (s := s) (width := d) (by omega))
      go_enter Try.func16, Try.ntmps16
      go_wp2_with (go_at_call 27; refine (within_any _ _ _ _).mono ?_; rintro e w' ⟨rfl, rfl⟩)
      go_ret2
      exact ⟨by rw [hn.out] <;> rfl, rfl⟩
    · have hl' : d ≤ s.size := by omega
      have hy := Lib.hid (decFR_yes hd1 hd2 hl')
      go_enter Try.func16, Try.ntmps16
      go_wp2_with (go_at_call 27; refine (within_any _ _ _ _).mono ?_; rintro e w' ⟨rfl, rfl⟩)
      go_loop [6, 7] (fun n i => ∃ k : Nat, k ≤ d ∧ i = .int .i64 k ∧ n = .int .i64 (decF (s.data.toList.take k) : Nat)) (fun _ i => d - (intOf i).toNat)
      case atStart => exact ⟨0, by omega, rfl, rfl⟩
      case round =>
        obtain ⟨k, hk, rfl, rfl⟩ := hrel
        by_cases hlt : k < d
        · have hb1 := decF_bound s.data.toList k (by omega)
          have hst := Lib.hid (decF_step s k (by omega))
          generalize decF (s.data.toList.take k) = N at *
          have hb2 : s[k].toNat < 256 := by have := s[k].toNat_lt; omega
          have hor := or_byte N s[k].toNat (by omega) hb2
          go_wp2
          go_round
          case rel => exact ⟨k + 1, by omega, by go_num, by rw [hst.out]; go_num⟩
          case measure => simp [intOf]; omega
        · obtain rfl : k = d := by omega
          go_wp2
          go_ret2
          exact ⟨by rw [hy.out] <;> rfl, rfl⟩
  · have hb := inB_false hw
    have hn := Lib.hid (decFR_no (s := s) (width := width) (by omega))
    go_enter Try.func16, Try.ntmps16
    go_wp2_with (go_at_call 27; refine (within_any _ _ _ _).mono ?_; rintro e w' ⟨rfl, rfl⟩)
    go_ret2
    exact ⟨by rw [hn.out] <;> rfl, rfl⟩

set_option maxHeartbeats 400000 in
theorem spec_DecodeFixed_any (s : ByteArray) (width : Int) (w : World) (hs : s.size ≤ 9223372036854775807) :
    Calls Try.prog 15 #[.string s, .int .i64 width] w fun e w' => e = .returned (decFR s width) ∧ w = w' := by
  by_cases hw : 1 ≤ width ∧ width ≤ 7
  · have hb := inB_true hw.1 hw.2
    obtain ⟨d, rfl⟩ := Int.eq_ofNat_of_zero_le (show 0 ≤ width by omega)
    have hd1 : 1 ≤ d := by omega
    have hd2 : d ≤ 7 := by omega
    clear hw
    by_cases hl : s.size < d
    · have hn := Lib.hid (decFR_no (s := s) (width := d) (by omega))
      go_enter Try.func15, Try.ntmps15
      go_wp2_with (go_at_call 26; refine (l1In_any _ _ _ _).mono ?_; rintro e w' ⟨rfl, rfl⟩)
      go_ret2
      exact ⟨by rw [hn.out] <;> rfl, rfl⟩
    · have hl' : d ≤ s.size := by omega
      have hy := Lib.hid (decFR_yes hd1 hd2 hl')
      go_enter Try.func15, Try.ntmps15
      go_wp2_with (go_at_call 26; refine (l1In_any _ _ _ _).mono ?_; rintro e w' ⟨rfl, rfl⟩)
      go_loop [6, 7] (fun n i => ∃ k : Nat, k ≤ d ∧ i = .int .i64 k ∧ n = .int .i64 (decF (s.data.toList.take k) : Nat)) (fun _ i => d - (intOf i).toNat)
      case atStart => exact ⟨0, by omega, rfl, rfl⟩
      case round =>
        obtain ⟨k, hk, rfl, rfl⟩ := hrel
        by_cases hlt : k < d
        · have hb1 := decF_bound s.data.toList k (by omega)
          have hst := Lib.hid (decF_step s k (by omega))
          generalize decF (s.data.toList.take k) = N at *
          have hb2 : s[k].toNat < 256 := by have := s[k].toNat_lt; omega
          go_wp2
          go_round
          case rel => exact ⟨k + 1, by omega, by go_num, by rw [hst.out]; go_num⟩
          case measure => simp [intOf]; omega
        · obtain rfl : k = d := by omega
          go_wp2
          go_ret2
          exact ⟨by rw [hy.out] <;> rfl, rfl⟩
  · have hb := inB_false hw
    have hn := Lib.hid (decFR_no (s := s) (width := width) (by omega))
    go_enter Try.func15, Try.ntmps15
    go_wp2_with (go_at_call 26; refine (l1In_any _ _ _ _).mono ?_; rintro e w' ⟨rfl, rfl⟩)
    go_ret2
    exact ⟨by rw [hn.out] <;> rfl, rfl⟩

end Go.Proofs.Ytpcjcjemfjhkcaa
