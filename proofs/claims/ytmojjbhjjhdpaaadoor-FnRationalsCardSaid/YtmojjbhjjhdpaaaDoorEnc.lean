/- Integer encodings on a door's program: plain laws and the program's own functions; spec.EncodeFixed. Printed by tools/enc.py out of seat a's texts. No condition but the size. -/
import Derived.Test.YtmojjbhjjhdpaaaDoorWords
import Derived.Test.YtmojjbhjjhdpaaaDoorBase
import Derived.Outline
import Derived.Deep.RegionHeld3
import Derived.OwnWalk
import Derived.Laws.BitsAllLaws
import Derived.Laws.BitsLemmas
import Derived.Deep.AppendLies
import Derived.Deep.DeepMust
import Derived.OpenShut
import Derived.Deep.OwnRows
namespace Go.Proofs.YtmojjbhjjhdpaaaDoor
open Go.RowKit
open Go.RowKit Go.Deep
/-- The varint: groups of seven bits, the lowest first. -/
def encv (n : Nat) : List UInt8 := if n < 128 then [UInt8.ofNat n] else UInt8.ofNat (128 + n % 128) :: encv (n / 128)
  termination_by n
  decreasing_by omega

theorem encv_small {n : Nat} (h : n < 128) : encv n = [UInt8.ofNat n] := by rw [encv, if_pos h]

theorem encv_big {n : Nat} (h : ¬ n < 128) : encv n = UInt8.ofNat (128 + n % 128) :: encv (n / 128) := by rw [encv, if_neg h]

/-- The lowest w bytes of n, the highest first. -/
def encF : Nat → Nat → List UInt8
  | 0, _ => []
  | w + 1, n => encF w (n / 256) ++ [UInt8.ofNat (n % 256)]

theorem encF_length : ∀ (w n : Nat), (encF w n).length = w
  | 0, _ => rfl
  | w + 1, n => by simp [encF, encF_length w]

theorem encF_cons : ∀ (w n : Nat), encF (w + 1) n = UInt8.ofNat (n / 256 ^ w % 256) :: encF w n
  | 0, n => by simp [encF]
  | w + 1, n => by
    show encF (w + 1) (n / 256) ++ _ = _
    rw [encF_cons w (n / 256), encF, List.cons_append, Nat.div_div_eq_div_mul, show 256 * 256 ^ w = 256 ^ (w + 1) from by rw [Nat.pow_succ, Nat.mul_comm]]

/-- The number that bytes say, the highest first. -/
def decF (l : List UInt8) : Nat := l.foldl (fun n b => n * 256 + b.toNat) 0

theorem decF_snoc (l : List UInt8) (b : UInt8) : decF (l ++ [b]) = decF l * 256 + b.toNat := by simp [decF]

theorem decF_from : ∀ (l : List UInt8) (a : Nat), l.foldl (fun n b => n * 256 + b.toNat) a < (a + 1) * 256 ^ l.length
  | [], a => by simp
  | b :: l, a => by
    have h := decF_from l (a * 256 + b.toNat)
    have hb := b.toNat_lt
    have h2 : (a * 256 + b.toNat + 1) * 256 ^ l.length ≤ (a + 1) * 256 * 256 ^ l.length := Nat.mul_le_mul_right _ (by omega)
    rw [List.foldl_cons, List.length_cons, Nat.pow_succ, Nat.mul_comm (256 ^ l.length) 256, ← Nat.mul_assoc]
    exact Nat.lt_of_lt_of_le h h2

theorem decF_lt (l : List UInt8) : decF l < 256 ^ l.length := by simpa [decF] using decF_from l 0

/-- The number that groups of seven bits say, the lowest first. -/
def valV : List UInt8 → Nat
  | [] => 0
  | b :: l => b.toNat % 128 + 128 * valV l

theorem valV_lt : ∀ l : List UInt8, valV l < 128 ^ l.length
  | [] => by simp [valV]
  | b :: l => by
    have := valV_lt l
    rw [valV, List.length_cons, Nat.pow_succ]
    omega

theorem valV_snoc : ∀ (l : List UInt8) (b : UInt8), valV (l ++ [b]) = valV l + (b.toNat % 128) * 128 ^ l.length
  | [], b => by simp [valV]
  | a :: l, b => by
    rw [List.cons_append, valV, valV_snoc l b, valV, List.length_cons, Nat.pow_succ, Nat.mul_add, Nat.add_assoc]
    congr 2
    rw [Nat.mul_comm (128 ^ l.length) 128, ← Nat.mul_assoc, ← Nat.mul_assoc, Nat.mul_comm 128 (b.toNat % 128)]

theorem ofNat_toNat {n : Nat} (h : n < 256) : (UInt8.ofNat n).toNat = n := by rw [UInt8.toNat_ofNat']; exact Nat.mod_eq_of_lt h

/-- All bytes of an encoding but the last are 128 or more; the last is less. -/
theorem encv_shape (n : Nat) : ∀ (j : Nat) (b : UInt8), (encv n)[j]? = some b → (b.toNat < 128 ↔ j + 1 = (encv n).length) := by
  induction n using Nat.strongRecOn with
  | ind n ih =>
    intro j b hb
    by_cases h : n < 128
    · rw [encv_small h] at hb ⊢
      have hj : j = 0 := by
        rcases j with _ | j
        · rfl
        · simp at hb
      subst hj
      simp at hb
      subst hb
      rw [ofNat_toNat (by omega)]
      simp [h]
    · rw [encv_big h] at hb ⊢
      rcases j with _ | j
      · simp only [List.getElem?_cons_zero, Option.some.injEq] at hb
        subst hb
        rw [ofNat_toNat (by omega)]
        have : 0 < (encv (n / 128)).length := by
          by_cases h' : n / 128 < 128
          · rw [encv_small h']; simp
          · rw [encv_big h']; simp
        rw [List.length_cons]
        omega
      · simp only [List.getElem?_cons_succ] at hb
        rw [ih (n / 128) (by omega) j b hb, List.length_cons]
        omega

theorem encv_pos (n : Nat) : 0 < (encv n).length := by
  by_cases h : n < 128
  · rw [encv_small h]; simp
  · rw [encv_big h]; simp

theorem valV_encv (n : Nat) : valV (encv n) = n := by
  induction n using Nat.strongRecOn with
  | ind n ih =>
    by_cases h : n < 128
    · rw [encv_small h, valV, valV, ofNat_toNat (by omega)]; omega
    · rw [encv_big h, valV, ih (n / 128) (by omega), ofNat_toNat (by omega)]; omega

/-- The first k bytes of l are an encoding. -/
def IsV (l : List UInt8) (k : Nat) : Prop := 1 ≤ k ∧ k ≤ 7 ∧ k ≤ l.length ∧ encv (valV (l.take k)) = l.take k

theorem IsV.last {l : List UInt8} {k : Nat} (h : IsV l k) {b : UInt8} (hb : l[k - 1]? = some b) : b.toNat < 128 := by
  obtain ⟨h1, h2, h3, h4⟩ := h
  refine (encv_shape (valV (l.take k)) (k - 1) b ?_).2 ?_
  · rw [h4, List.getElem?_take, if_pos (by omega)]; exact hb
  · rw [h4, List.length_take]; omega

theorem IsV.mid {l : List UInt8} {k j : Nat} (h : IsV l k) (hj : j + 1 < k) {b : UInt8} (hb : l[j]? = some b) : 128 ≤ b.toNat := by
  obtain ⟨h1, h2, h3, h4⟩ := h
  have := encv_shape (valV (l.take k)) j b (by rw [h4, List.getElem?_take, if_pos (by omega)]; exact hb)
  rw [h4, List.length_take] at this
  omega

theorem IsV.unique {l : List UInt8} {k k' : Nat} (h : IsV l k) (h' : IsV l k') : k = k' := by
  have key : ∀ {a b : Nat}, IsV l a → IsV l b → ¬ a < b := by
    intro a b ha hb hlt
    have hla : a - 1 < l.length := by have := ha.1; have := ha.2.2.1; omega
    have e : l[a - 1]? = some l[a - 1] := List.getElem?_eq_getElem hla
    have := ha.last e
    have := hb.mid (j := a - 1) (by have := ha.1; omega) e
    omega
  have := key h h'
  have := key h' h
  omega

/-- What decoding gives. -/
def DecV (l : List UInt8) (n k : Nat) : Prop := (IsV l k ∧ n = valV (l.take k)) ∨ (n = 0 ∧ k = 0 ∧ ∀ j, ¬ IsV l j)

theorem DecV.unique {l : List UInt8} {n k n' k' : Nat} (h : DecV l n k) (h' : DecV l n' k') : n = n' ∧ k = k' := by
  rcases h with ⟨h1, h2⟩ | ⟨h1, h2, h3⟩ <;> rcases h' with ⟨g1, g2⟩ | ⟨g1, g2, g3⟩
  · obtain rfl := h1.unique g1; exact ⟨by rw [h2, g2], rfl⟩
  · exact absurd h1 (g3 _)
  · exact absurd g1 (h3 _)
  · omega

/-- The first terminator at k does not give an encoding: none does. -/
theorem DecV.none_at {l : List UInt8} {k : Nat} {b : UInt8} (hb : l[k]? = some b) (hlt : b.toNat < 128) (hmid : ∀ j c, j < k → l[j]? = some c → 128 ≤ c.toNat) (hno : ¬ encv (valV (l.take (k + 1))) = l.take (k + 1)) : DecV l 0 0 := by
  refine .inr ⟨rfl, rfl, fun j hj => ?_⟩
  have hjl : j - 1 < l.length := by have := hj.1; have := hj.2.2.1; omega
  have e : l[j - 1]? = some l[j - 1] := List.getElem?_eq_getElem hjl
  have h1 := hj.last e
  have hge : ¬ j - 1 < k := fun h => by have := hmid (j - 1) _ h e; omega
  rcases Nat.lt_or_ge k (j - 1) with h | h
  · have := hj.mid (j := k) (by omega) hb; omega
  · obtain rfl : j = k + 1 := by have := hj.1; omega
    exact hno hj.2.2.2

theorem DecV.none_all {l : List UInt8} (hmid : ∀ j c, j < 7 → l[j]? = some c → 128 ≤ c.toNat) : DecV l 0 0 := by
  refine .inr ⟨rfl, rfl, fun j hj => ?_⟩
  have hjl : j - 1 < l.length := by have := hj.1; have := hj.2.2.1; omega
  have e : l[j - 1]? = some l[j - 1] := List.getElem?_eq_getElem hjl
  have h1 := hj.last e
  have := hmid (j - 1) _ (by have := hj.1; have := hj.2.1; omega) e
  omega

def hexD (k : Nat) : UInt8 := if k < 10 then UInt8.ofNat (48 + k) else UInt8.ofNat (87 + k)

def hexOf (l : List UInt8) : List UInt8 := l.flatMap fun b => [hexD (b.toNat / 16), hexD (b.toNat % 16)]

theorem hexOf_snoc (l : List UInt8) (b : UInt8) : hexOf (l ++ [b]) = hexOf l ++ [hexD (b.toNat / 16), hexD (b.toNat % 16)] := by simp [hexOf]

theorem hexT (i : Nat) (h : i < 16) : ({ data := #[48, 49, 50, 51, 52, 53, 54, 55, 56, 57, 97, 98, 99, 100, 101, 102] } : ByteArray)[i]'h = hexD i := by
  have : ∀ i : Fin 16, ({ data := #[48, 49, 50, 51, 52, 53, 54, 55, 56, 57, 97, 98, 99, 100, 101, 102] } : ByteArray)[i.val]'i.isLt = hexD i.val := by decide
  exact this ⟨i, h⟩

theorem and15 (n : Nat) (h : n < 256) : bits .and .u8 (n : Int) 15 = (n : Int) % 16 := by
  have : ∀ i : Fin 256, bits .and .u8 (i.val : Int) 15 = (i.val : Int) % 16 := by decide +kernel
  exact this ⟨n, h⟩

theorem info_u8 : (Tryd.prog.info? 5).map (fun i => (i.zero, i.size, i.bytes)) = some (some (.int .u8 0), 1, 1) := by kernel_rfl

set_option maxHeartbeats 400000 in
theorem impl_EncodeHex_any (s : ByteArray) (w : World) (hs : s.size ≤ 1048576) :
    Calls Tryd.prog 50 #[.string s] w fun e w' => e = .returned (.string ⟨(hexOf s.data.toList).toArray⟩) ∧ Below w.heap.size w w' := by
  obtain ⟨i0, hi, hz0, hz1, hz2⟩ := info_parts info_u8
  go_enter Tryd.func50, Tryd.ntmps50
  go_wp2
  go_loopw [3, 4] (fun v i wr => ∃ k : Nat, k ≤ s.size ∧ i = .int .i64 k ∧ wr.ownsRow w.heap.size 5 1 v (2 * k) ((hexOf (s.data.toList.take k)).map bv) ∧ Below w.heap.size w wr) (fun _ i _ => s.size - (intOf i).toNat)
  case atStart => exact ⟨0, by omega, rfl, by simpa [hexOf] using World.ownsRow_made (base := w.heap.size) (e := 5) (size := 1) w #[] 0 (Nat.le_refl _) (by unfold maxLen; omega) rfl, (Below.refl _ _).alloc (Nat.le_refl _) _⟩
  case round =>
    obtain ⟨k, hk, rfl, hown, hb⟩ := hrel
    by_cases hlt : k < s.size
    · have hlt256 : s[k].toNat < 256 := by have := s[k].toNat_lt; omega
      have q1 : (0 : Int) ≤ (s[k].toNat : Int) / 16 := by omega
      have q2 : (s[k].toNat : Int) / 16 < 16 := by omega
      have q3 : (0 : Int) ≤ (s[k].toNat : Int) % 16 := by omega
      have q4 : (s[k].toNat : Int) % 16 < 16 := by omega
      have q5 := and15 s[k].toNat hlt256
      have q6 := hexT
      go_wp2
      go_region_held3 (fun _ => True) (trivial) ((refine step_append_lies _ (by rfl) _ _ _ (by rfl) w.heap.size 5 i0 _ 1 1 Tryd.underlying62 hi hz0 hz1 hz2 rfl (by omega) u3 (2 * k) _ (by rfl) ((hown.alloc _).drew) ⟨wr.heap.size, 0, none⟩ 2 2 ([hexD (s[k].toNat / 16), hexD (s[k].toNat % 16)].map bv) (by rfl) (by rfl) (World.news_of_block (cs := #[bv (hexD (s[k].toNat / 16)), bv (hexD (s[k].toNat % 16))]) (t := 5) (fr := (0, 0)) (heap_alloc_new wr _)) (by simp [Value.oneCell', bv]) (by omega) (by unfold maxLen; omega) (by omega) (by have := hb.size; simp; omega) (wr.heap.size + 1) (by simp) ?_; intro gg cap w1 hown1 hgrow _ _))
      go_wp2
      all_goals
        go_roundw
        case rel => exact ⟨k + 1, by omega, by go_num, by rw [take_snoc s k hlt, hexOf_snoc, List.map_append]; exact hown1, ((hb.alloc hb.size _).drew).grown hgrow (Nat.le_trans hb.size (by simp)) (fun j hj => (hown.lt j hj).1)⟩
        case measure => simp [intOf]; omega
    · obtain rfl : k = s.size := by omega
      rw [take_all] at hown
      have hconv := own_string (P := Tryd.prog) hown (src := 62) (dst := 9) Tryd.underlying62 Tryd.underlying5 Tryd.underlying9
      go_wp2
      go_ret
      exact ⟨rfl, hb⟩

theorem ofInt_i64 (a : Nat) (ha : a < 9223372036854775808) : (BitVec.ofInt 64 (a : Int)).toNat = a := by
  rw [BitVec.ofInt_natCast, BitVec.toNat_ofNat]; exact Nat.mod_eq_of_lt (by omega)

theorem i64_or_nat (a b : Nat) (ha : a < 9223372036854775808) (hb : b < 9223372036854775808) : bits .or .i64 (a : Int) (b : Int) = ((a ||| b : Nat) : Int) := by
  have hx : a ||| b < 2 ^ 63 := Nat.or_lt_two_pow (by omega) (by omega)
  show IntKind.i64.wrap ((BitVec.ofInt 64 (a : Int) ||| BitVec.ofInt 64 (b : Int)).toNat : Int) = _
  rw [BitVec.toNat_or, ofInt_i64 a ha, ofInt_i64 b hb, IntKind.wrap_i64]
  omega

theorem i64_and_nat (a b : Nat) (ha : a < 9223372036854775808) (hb : b < 9223372036854775808) : bits .and .i64 (a : Int) (b : Int) = ((a &&& b : Nat) : Int) := by
  have hx : a &&& b < 2 ^ 63 := Nat.and_lt_two_pow _ (by omega)
  show IntKind.i64.wrap ((BitVec.ofInt 64 (a : Int) &&& BitVec.ofInt 64 (b : Int)).toNat : Int) = _
  rw [BitVec.toNat_and, ofInt_i64 a ha, ofInt_i64 b hb, IntKind.wrap_i64]
  omega

/-- 'n<<8 | b'. -/
theorem or_byte (n b : Nat) (hn : n < 2 ^ 50) (hb : b < 256) : bits .or .i64 ((n : Int) * 256) (b : Int) = (n : Int) * 256 + (b : Int) := by
  have h1 : ((n : Int) * 256) = ((n * 256 : Nat) : Int) := by omega
  rw [h1, i64_or_nat (n * 256) b (by omega) (by omega)]
  have : n * 256 ||| b = n * 256 + b := by
    have := Nat.two_pow_add_eq_or_of_lt (i := 8) (b := b) (by omega) n
    rw [Nat.mul_comm] at this
    exact this.symm
  rw [this]
  omega

def decFR (s : ByteArray) (width : Int) : Value :=
  if 1 ≤ width ∧ width ≤ 7 ∧ width ≤ s.size then .tuple #[.int .i64 (decF (s.data.toList.take width.toNat) : Nat), .bool true] else .tuple #[.int .i64 0, .bool false]

theorem decFR_yes {s : ByteArray} {d : Nat} (h1 : 1 ≤ d) (h2 : d ≤ 7) (h3 : d ≤ s.size) : decFR s d = .tuple #[.int .i64 (decF (s.data.toList.take d) : Nat), .bool true] := by
  rw [decFR, if_pos ⟨by omega, by omega, by omega⟩, Int.toNat_natCast]

theorem decFR_no {s : ByteArray} {width : Int} (h : ¬ (1 ≤ width ∧ width ≤ 7 ∧ width ≤ s.size)) : decFR s width = .tuple #[.int .i64 0, .bool false] := by rw [decFR, if_neg h]

theorem decF_bound (l : List UInt8) (k : Nat) (h : k < 7) : decF (l.take k) < 281474976710656 := by
  have h1 := decF_lt (l.take k)
  have h2 : (l.take k).length ≤ k := List.length_take_le _ _
  have h3 : 256 ^ (l.take k).length ≤ 256 ^ 6 := Nat.pow_le_pow_right (by omega) (by omega)
  omega

theorem decF_step (s : ByteArray) (k : Nat) (h : k < s.size) : decF (s.data.toList.take (k + 1)) = decF (s.data.toList.take k) * 256 + s[k].toNat := by rw [take_snoc s k h, decF_snoc]

set_option maxHeartbeats 400000 in
theorem impl_DecodeFixed_any (s : ByteArray) (width : Int) (w : World) (hs : s.size ≤ 9223372036854775807) :
    Calls Tryd.prog 48 #[.string s, .int .i64 width] w fun e w' => e = .returned (decFR s width) ∧ w = w' := by
  by_cases hw : 1 ≤ width ∧ width ≤ 7
  · have hb := inB_true hw.1 hw.2
    obtain ⟨d, rfl⟩ := Int.eq_ofNat_of_zero_le (show 0 ≤ width by omega)
    have hd1 : 1 ≤ d := by omega
    have hd2 : d ≤ 7 := by omega
    clear hw
    by_cases hl : s.size < d
    · have hn := Lib.hid (decFR_no (s := s) (width := d) (by omega))
      go_enter Tryd.func48, Tryd.ntmps48
      go_wp2_with (go_at_call 67; refine (within_any _ _ _ _).mono ?_; rintro e w' ⟨rfl, rfl⟩)
      go_ret2
      exact ⟨by rw [hn.out] <;> rfl, rfl⟩
    · have hl' : d ≤ s.size := by omega
      have hy := Lib.hid (decFR_yes hd1 hd2 hl')
      go_enter Tryd.func48, Tryd.ntmps48
      go_wp2_with (go_at_call 67; refine (within_any _ _ _ _).mono ?_; rintro e w' ⟨rfl, rfl⟩)
      go_loop [6, 7] (fun n i => ∃ k : Nat, k ≤ d ∧ i = .int .i64 k ∧ n = .int .i64 (decF (s.data.toList.take k) : Nat)) (fun _ i => d - (intOf i).toNat)
      case atStart => exact ⟨0, by omega, rfl, rfl⟩
      case round =>
        obtain ⟨k, hk, rfl, rfl⟩ := hrel
        by_cases hlt : k < d
        · have hb1 := decF_bound s.data.toList k (by omega)
          have hst := Lib.hid (decF_step s k (by omega))
          generalize decF (s.data.toList.take k) = N at *
          have hb2 : s[k].toNat < 256 := by have := s[k].toNat_lt; omega
          have hor := or_byte N s[k].toNat (by omega) hb2
          go_wp2
          go_round
          case rel => exact ⟨k + 1, by omega, by go_num, by rw [hst.out]; go_num⟩
          case measure => simp [intOf]; omega
        · obtain rfl : k = d := by omega
          go_wp2
          go_ret2
          exact ⟨by rw [hy.out] <;> rfl, rfl⟩
  · have hb := inB_false hw
    have hn := Lib.hid (decFR_no (s := s) (width := width) (by omega))
    go_enter Tryd.func48, Tryd.ntmps48
    go_wp2_with (go_at_call 67; refine (within_any _ _ _ _).mono ?_; rintro e w' ⟨rfl, rfl⟩)
    go_ret2
    exact ⟨by rw [hn.out] <;> rfl, rfl⟩

def encvR (n : Int) : List UInt8 := if 0 ≤ n ∧ n ≤ 562949953421311 then encv n.toNat else []

theorem encvR_yes {n : Nat} (h : n ≤ 562949953421311) : encvR n = encv n := by rw [encvR, if_pos ⟨by omega, by omega⟩, Int.toNat_natCast]

theorem encvR_no {n : Int} (h : ¬ (0 ≤ n ∧ n ≤ 562949953421311)) : encvR n = [] := by rw [encvR, if_neg h]

theorem bv_of' (m : Nat) : Value.int .u8 (128 + (m : Int) % 128) = bv (UInt8.ofNat (128 + m % 128)) := by
  have := bv_of (128 + m % 128) (by omega)
  rw [← this]
  congr 1

theorem and127 (m : Nat) (h : m < 9223372036854775808) : bits .and .i64 (m : Int) 127 = (m : Int) % 128 := by
  have := i64_and_nat m 127 h (by omega)
  rw [show ((127 : Nat) : Int) = 127 from rfl] at this
  rw [this, show (127 : Nat) = 2 ^ 7 - 1 from rfl, Nat.and_two_pow_sub_one_eq_mod]
  omega

theorem or128 (m : Nat) : bits .or .i64 ((m : Int) % 128) 128 = 128 + (m : Int) % 128 := by
  have h1 : (m : Int) % 128 = ((m % 128 : Nat) : Int) := by omega
  have := i64_or_nat (m % 128) 128 (by omega) (by omega)
  rw [show ((128 : Nat) : Int) = 128 from rfl] at this
  rw [h1, this]
  have h2 : m % 128 ||| 128 = 128 + m % 128 := by
    have := Nat.two_pow_add_eq_or_of_lt (i := 7) (b := m % 128) (by omega) 1
    rw [Nat.or_comm]
    simpa using this.symm
  rw [h2]
  omega

/-- What the round does to the number and the count. -/
theorem varint_step {m j : Nat} (hj : j ≤ 6) (h1 : m < 128 ^ (7 - j)) (h2 : ¬ m < 128) : j + 1 ≤ 6 ∧ m / 128 < 128 ^ (7 - (j + 1)) := by
  have h6 : j ≠ 6 := by rintro rfl; simp at h1; omega
  refine ⟨by omega, ?_⟩
  rw [Nat.div_lt_iff_lt_mul (by omega)]
  rw [show 7 - j = (7 - (j + 1)) + 1 from by omega, Nat.pow_succ] at h1
  exact h1

def VInv (N m j : Nat) (p : List UInt8) : Prop := j ≤ 6 ∧ m < 128 ^ (7 - j) ∧ p ++ encv m = encv N

theorem VInv.start {N : Nat} (h : N ≤ 562949953421311) : VInv N N 0 [] := by
  have : (128 : Nat) ^ (7 - 0) = 562949953421312 := by decide
  exact ⟨by omega, by omega, rfl⟩

theorem VInv.step {N m j : Nat} {p : List UInt8} (h : VInv N m j p) (h2 : ¬ m < 128) : VInv N (m / 128) (j + 1) (p ++ [UInt8.ofNat (128 + m % 128)]) :=
  ⟨(varint_step h.1 h.2.1 h2).1, (varint_step h.1 h.2.1 h2).2, by rw [List.append_assoc, List.singleton_append, ← encv_big h2]; exact h.2.2⟩

theorem VInv.stop {N m j : Nat} {p : List UInt8} (h : VInv N m j p) (h2 : m < 128) : p ++ [UInt8.ofNat m] = encv N := by rw [← h.2.2, encv_small h2]

theorem VInv.le {N m j : Nat} {p : List UInt8} (h : VInv N m j p) : m < 562949953421312 := by
  have h1 : 128 ^ (7 - j) ≤ 128 ^ 7 := Nat.pow_le_pow_right (by omega) (by omega)
  have := h.2.1
  omega

theorem VInv.j {N m j : Nat} {p : List UInt8} (h : VInv N m j p) : j ≤ 6 := h.1

set_option maxRecDepth 100000 in
set_option maxHeartbeats 400000 in
theorem impl_EncodeVarint_any (n : Int) (w : World) (B : Nat) (hB : B ≤ w.heap.size) :
    Calls Tryd.prog 44 #[.int .i64 n] w fun e w' => e = .returned (.string ⟨(encvR n).toArray⟩) ∧ Below B w w' := by
  by_cases hn : 0 ≤ n ∧ n ≤ 562949953421311
  · have hb := inB_true hn.1 hn.2
    obtain ⟨N, rfl⟩ := Int.eq_ofNat_of_zero_le hn.1
    have hN : N ≤ 562949953421311 := by omega
    have hy := Lib.hid (encvR_yes hN)
    clear hn
    obtain ⟨i0, hi, hz0, hz1, hz2⟩ := info_parts (show (Tryd.prog.info? 5).map (fun i => (i.zero, i.size, i.bytes)) = some (some (.int .u8 0), 1, 1) by kernel_rfl)
    go_enter Tryd.func44, Tryd.ntmps44
    go_wp2_with (go_at_call 67; refine (within_any _ _ _ _).mono ?_; rintro e w' ⟨rfl, rfl⟩)
    go_loopw [0, 3] (fun n v wr => ∃ (m j : Nat) (p : List UInt8), n = .int .i64 m ∧ wr.ownsRow B 5 1 v j (p.map bv) ∧ Below B w wr ∧ VInv N m j p) (fun n _ _ => (intOf n).toNat)
    case atStart => exact ⟨N, 0, [], rfl, World.ownsRow_made (base := B) (e := 5) (size := 1) w #[] 0 hB (by unfold maxLen; omega) rfl, (Below.refl _ _).alloc hB _, VInv.start hN⟩
    case round =>
      obtain ⟨m, j, p, rfl, hown, hbel, hv⟩ := hrel
      have hle := hv.le
      have hj := hv.j
      have hsz := hbel.size
      by_cases hlt : m < 128
      · have hst := Lib.hid (hv.stop hlt)
        go_wp2_with (at_builtin; refine wpList_append_lies _ rfl _ _ _ rfl B 5 i0 _ 1 1 Tryd.underlying62 hi hz0 hz1 hz2 rfl (by omega) _ j _ rfl (hown.alloc _) ⟨wr.heap.size, 0, none⟩ 1 1 [.int .u8 (m : Int)] rfl rfl (World.news_of_block (cs := #[.int .u8 (m : Int)]) (t := 5) (fr := (0, 0)) (heap_alloc_new wr _)) (by simp [Value.oneCell']) (by omega) (by unfold maxLen; omega) (by omega) (by simp; omega) (wr.heap.size + 1) (by simp) ?_; intro g cap w1 hown1 hgrow _ _; rw [bv_of m (by omega)] at hown1; have hconv := own_string (P := Tryd.prog) (l := p ++ [UInt8.ofNat m]) (by simpa using hown1) (src := 62) (dst := 9) Tryd.underlying62 Tryd.underlying5 Tryd.underlying9)
        go_ret
        exact ⟨by rw [hy.out, ← hst.out] <;> rfl, (hbel.alloc (by omega) _).grown hgrow (by simp; omega) (fun k hk => (hown.lt k hk).1)⟩
      · have q1 := and127 m (by omega)
        have q2 := or128 m
        go_wp2_with (at_builtin; refine wpList_append_lies _ rfl _ _ _ rfl B 5 i0 _ 1 1 Tryd.underlying62 hi hz0 hz1 hz2 rfl (by omega) _ j _ rfl (hown.alloc _) ⟨wr.heap.size, 0, none⟩ 1 1 [.int .u8 (128 + (m : Int) % 128)] rfl rfl (World.news_of_block (cs := #[.int .u8 (128 + (m : Int) % 128)]) (t := 5) (fr := (0, 0)) (heap_alloc_new wr _)) (by simp [Value.oneCell']) (by omega) (by unfold maxLen; omega) (by omega) (by simp; omega) (wr.heap.size + 1) (by simp) ?_; intro g cap w1 hown1 hgrow _ _)
        rw [bv_of' m] at hown1
        go_roundw
        case rel => exact ⟨m / 128, j + 1, p ++ [UInt8.ofNat (128 + m % 128)], by go_num, by rw [List.map_append]; exact hown1, (hbel.alloc (by omega) _).grown hgrow (by simp; omega) (fun k hk => (hown.lt k hk).1), hv.step hlt⟩
        case measure => simp [intOf]; omega
  · have hb := inB_false hn
    have hno := Lib.hid (encvR_no hn)
    go_enter Tryd.func44, Tryd.ntmps44
    go_wp2_with (go_at_call 67; refine (within_any _ _ _ _).mono ?_; rintro e w' ⟨rfl, rfl⟩)
    go_ret
    exact ⟨by rw [hno.out] <;> rfl, Below.refl _ _⟩

/-- The number of a hexadecimal digit, -1 for another byte. -/
def unhex (b : Nat) : Int := if 48 ≤ b ∧ b ≤ 57 then (b : Int) - 48 else if 97 ≤ b ∧ b ≤ 102 then (b : Int) - 87 else -1

theorem unhex_le (b : Nat) : -1 ≤ unhex b ∧ unhex b ≤ 15 := by
  unfold unhex
  split
  · omega
  · split <;> omega

theorem unhex_hexD : ∀ k : Fin 16, unhex (hexD k.val).toNat = k.val := by decide

theorem unhex_none : ∀ b : Fin 256, (∀ j : Fin 16, (hexD j.val).toNat ≠ b.val) → unhex b.val = -1 := by decide +kernel

def dehex : List UInt8 → Option (List UInt8)
  | [] => some []
  | [_] => none
  | a :: b :: r => if unhex a.toNat < 0 ∨ unhex b.toNat < 0 then none else (dehex r).map (UInt8.ofNat (16 * (unhex a.toNat).toNat + (unhex b.toNat).toNat) :: ·)

theorem dehex_odd : ∀ l : List UInt8, l.length % 2 = 1 → dehex l = none
  | [], h => by simp at h
  | [_], _ => rfl
  | a :: b :: r, h => by
    rw [dehex]
    split
    · rfl
    · rw [dehex_odd r (by simp at h; omega)]; rfl

def dehexR (l : List UInt8) : Value := match dehex l with | some r => .tuple #[.string ⟨r.toArray⟩, .bool true] | none => .tuple #[.string ⟨#[]⟩, .bool false]

theorem dehexR_some {l r : List UInt8} (h : dehex l = some r) : dehexR l = .tuple #[.string ⟨r.toArray⟩, .bool true] := by rw [dehexR, h]

theorem dehexR_none {l : List UInt8} (h : dehex l = none) : dehexR l = .tuple #[.string ⟨#[]⟩, .bool false] := by rw [dehexR, h]

/-- The loop's invariant: p is what the first 2k digits say. -/
def HInv (s : ByteArray) (k : Nat) (p : List UInt8) : Prop := dehex s.data.toList = (dehex (s.data.toList.drop (2 * k))).map (p ++ ·)

theorem HInv.start (s : ByteArray) : HInv s 0 [] := by simp [HInv]

theorem drop_two (s : ByteArray) (k : Nat) (h : 2 * k + 1 < s.size) : s.data.toList.drop (2 * k) = s[2 * k] :: s[2 * k + 1] :: s.data.toList.drop (2 * (k + 1)) := by
  rw [List.drop_eq_getElem_cons (by simp; omega), List.drop_eq_getElem_cons (by simp; omega)]
  rfl

theorem HInv.fail {s : ByteArray} {k : Nat} {p : List UInt8} (h : HInv s k p) (hk : 2 * k + 1 < s.size) {x y : Nat} (hx : s[2 * k].toNat = x) (hy : s[2 * k + 1].toNat = y) (hf : unhex x < 0 ∨ unhex y < 0) : dehexR s.data.toList = .tuple #[.string ⟨#[]⟩, .bool false] := by
  apply dehexR_none
  unfold HInv at h
  subst hx hy
  rw [h, drop_two s k hk, dehex, if_pos hf]
  rfl

theorem HInv.step {s : ByteArray} {k : Nat} {p : List UInt8} (h : HInv s k p) (hk : 2 * k + 1 < s.size) {x y : Nat} (hx : s[2 * k].toNat = x) (hy : s[2 * k + 1].toNat = y) {U V : Nat} (h1 : unhex x = U) (h2 : unhex y = V) :
    HInv s (k + 1) (p ++ [UInt8.ofNat (16 * U + V)]) := by
  unfold HInv at h ⊢
  subst hx hy
  rw [h, drop_two s k hk, dehex, if_neg (by omega), h1, h2, Int.toNat_natCast, Int.toNat_natCast]
  cases dehex (s.data.toList.drop (2 * (k + 1))) <;> simp

theorem or16 (U V : Nat) (hU : U ≤ 15) (hV : V ≤ 15) : bits .or .i64 ((U : Int) * 16) (V : Int) = 16 * (U : Int) + (V : Int) := by
  have h1 : ((U : Int) * 16) = ((U * 16 : Nat) : Int) := by omega
  rw [h1, i64_or_nat (U * 16) V (by omega) (by omega)]
  have : U * 16 ||| V = U * 16 + V := by
    have := Nat.two_pow_add_eq_or_of_lt (i := 4) (b := V) (by omega) U
    rw [Nat.mul_comm] at this
    exact this.symm
  rw [this]
  omega

theorem bv16 (U V : Nat) (hU : U ≤ 15) (hV : V ≤ 15) : Value.int .u8 (16 * (U : Int) + (V : Int)) = bv (UInt8.ofNat (16 * U + V)) := by
  rw [← bv_of (16 * U + V) (by omega)]
  congr 1

theorem HInv.stop {s : ByteArray} {k : Nat} {p : List UInt8} (h : HInv s k p) (hk : 2 * k = s.size) : dehexR s.data.toList = .tuple #[.string ⟨p.toArray⟩, .bool true] := by
  apply dehexR_some
  unfold HInv at h
  rw [h, List.drop_of_length_le (by simp; omega)]
  simp [dehex]

theorem nibble_any (b : Nat) (w : World) (hb : b < 256) : Calls Tryd.prog 97 #[.int .u8 b] w fun e w' => e = .returned (.int .i64 (unhex b)) ∧ w = w' := by
  by_cases h1 : 48 ≤ b
  · by_cases h2 : b ≤ 57
    · have hy : Hid (unhex b = (b : Int) - 48) := by show unhex b = _; rw [unhex, if_pos ⟨h1, h2⟩]
      go_enter Tryd.func97, Tryd.ntmps97
      go_wp2
      go_ret
      exact ⟨by rw [hy.out] <;> rfl, rfl⟩
    · by_cases h3 : 97 ≤ b ∧ b ≤ 102
      · obtain ⟨h3, h4⟩ := h3
        have hy : Hid (unhex b = (b : Int) - 87) := by show unhex b = _; rw [unhex, if_neg (by omega), if_pos ⟨h3, h4⟩]
        go_enter Tryd.func97, Tryd.ntmps97
        go_wp2
        go_ret
        exact ⟨by rw [hy.out]; exact ret_int (by omega), rfl⟩
      · have hy : Hid (unhex b = -1) := by show unhex b = _; rw [unhex, if_neg (by omega), if_neg h3]
        by_cases h5 : 97 ≤ b
        · have h6 : ¬ b ≤ 102 := by omega
          go_enter Tryd.func97, Tryd.ntmps97
          go_wp2
          go_ret
          exact ⟨by rw [hy.out] <;> rfl, rfl⟩
        · go_enter Tryd.func97, Tryd.ntmps97
          go_wp2
          go_ret
          exact ⟨by rw [hy.out] <;> rfl, rfl⟩
  · have hy : Hid (unhex b = -1) := by show unhex b = _; rw [unhex, if_neg (by omega), if_neg (by omega)]
    have h5 : ¬ 97 ≤ b := by omega
    go_enter Tryd.func97, Tryd.ntmps97
    go_wp2
    go_ret
    exact ⟨by rw [hy.out] <;> rfl, rfl⟩

set_option maxRecDepth 100000 in
set_option maxHeartbeats 400000 in
theorem impl_DecodeHex_any (s : ByteArray) (w : World) (hs : s.size ≤ 1048576) :
    Calls Tryd.prog 51 #[.string s] w fun e w' => e = .returned (dehexR s.data.toList) ∧ Below w.heap.size w w' := by
  by_cases hev : s.size % 2 = 0
  · obtain ⟨h, hh⟩ : ∃ h, s.size = 2 * h := ⟨s.size / 2, by omega⟩
    have hz : ((s.size : Int) % 2 != 0) = false := by simp; omega
    obtain ⟨i0, hi, hz0, hz1, hz2⟩ := info_parts info_u8
    have HH : Hid (s.size = 2 * h) := hh
    have hle1 : s.size ≤ 2 * h := by omega
    have hle2 : 2 * h ≤ s.size := by omega
    clear hh hev
    go_enter Tryd.func51, Tryd.ntmps51
    go_wp2
    go_loopw [4, 5] (fun v i wr => ∃ (k : Nat) (p : List UInt8), k ≤ h ∧ i = .int .i64 (2 * (k : Int)) ∧ wr.ownsRow w.heap.size 5 1 v k (p.map bv) ∧ Below w.heap.size w wr ∧ HInv s k p) (fun _ i _ => s.size - (intOf i).toNat)
    case atStart => exact ⟨0, [], by omega, rfl, World.ownsRow_made (base := w.heap.size) (e := 5) (size := 1) w #[] 0 (Nat.le_refl _) (by unfold maxLen; omega) rfl, (Below.refl _ _).alloc (Nat.le_refl _) _, HInv.start s⟩
    case round =>
      obtain ⟨k, p, hk, rfl, hown, hbel, hinv⟩ := hrel
      by_cases hlt : k < h
      · have e1 : IntKind.i64.wrap (2 * (k : Int) + 1) = 2 * (k : Int) + 1 := IntWalk.i64_in _ (by omega)
        have e2 : (2 * (k : Int) + 1).toNat = 2 * k + 1 := by omega
        have e3 : (2 * (k : Int)).toNat = 2 * k := by omega
        have g1 : (0 : Int) ≤ 2 * (k : Int) + 1 := by omega
        have g2 : 2 * (k : Int) + 1 < (s.size : Int) := by omega
        have g3 : (0 : Int) ≤ 2 * (k : Int) := by omega
        have g4 : 2 * (k : Int) < (s.size : Int) := by omega
        obtain ⟨x, hx⟩ : ∃ x, s[2 * k].toNat = x := ⟨_, rfl⟩
        obtain ⟨y, hy⟩ : ∃ y, s[2 * k + 1].toNat = y := ⟨_, rfl⟩
        have b1 : x < 256 := by have := s[2 * k].toNat_lt; omega
        have b2 : y < 256 := by have := s[2 * k + 1].toNat_lt; omega
        go_wp2_with fail
        go_quiet ((go_at_call 97; refine quiet_left (nibble_any _ _ ?_); assumption))
        clear e1 e2 e3
        have HX := Lib.hid hx
        have HY := Lib.hid hy
        clear hx hy
        generalize hwq : wr.drewN _ = wq
        have hownq : wq.ownsRow w.heap.size 5 1 u4 k (p.map bv) := by rw [← hwq]; exact hown
        have hbelq : Below w.heap.size w wq := by rw [← hwq]; exact below_drewN hbel _
        clear hwq hown hbel
        have hown := hownq
        clear hownq
        have hsz := hbelq.size
        have l1 := unhex_le x
        have l2 := unhex_le y
        by_cases c1 : unhex x < 0
        · have hf := Lib.hid (hinv.fail (by omega) HX.out HY.out (.inl c1))
          go_wp2
          go_ret2
          exact ⟨by rw [hf.out] <;> rfl, hbelq⟩
        · by_cases c2 : unhex y < 0
          · have hf := Lib.hid (hinv.fail (by omega) HX.out HY.out (.inr c2))
            go_wp2
            go_ret2
            exact ⟨by rw [hf.out] <;> rfl, hbelq⟩
          · obtain ⟨U, hU⟩ := Int.eq_ofNat_of_zero_le (show 0 ≤ unhex x by omega)
            obtain ⟨V, hV⟩ := Int.eq_ofNat_of_zero_le (show 0 ≤ unhex y by omega)
            have hst := hinv.step (by omega) HX.out HY.out hU hV
            rw [hU, hV]
            rw [hU] at l1
            rw [hV] at l2
            clear c1 c2 hU hV
            have q := or16 U V (by omega) (by omega)
            go_wp2_with (at_builtin; refine wpList_append_lies _ rfl _ _ _ rfl w.heap.size 5 i0 _ 1 1 Tryd.underlying62 hi hz0 hz1 hz2 rfl (by omega) _ k _ rfl (hown.alloc _) ⟨wq.heap.size, 0, none⟩ 1 1 [.int .u8 (16 * (U : Int) + (V : Int))] rfl rfl (World.news_of_block (cs := #[.int .u8 (16 * (U : Int) + (V : Int))]) (t := 5) (fr := (0, 0)) (heap_alloc_new wq _)) (by simp [Value.oneCell']) (by omega) (by unfold maxLen; omega) (by omega) (by simp; omega) (wq.heap.size + 1) (by simp) ?_; intro g cap w1 hown1 hgrow _ _)
            rw [bv16 U V (by omega) (by omega)] at hown1
            go_roundw
            case rel => exact ⟨k + 1, p ++ [UInt8.ofNat (16 * U + V)], by omega, by go_num, by rw [List.map_append]; exact hown1, (hbelq.alloc (by omega) _).grown hgrow (by simp; omega) (fun j hj => (hown.lt j hj).1), hst⟩
            case measure => simp [intOf]; omega
      · obtain rfl : k = h := by omega
        have hst := Lib.hid (hinv.stop HH.out.symm)
        have hconv := own_string (P := Tryd.prog) hown (src := 62) (dst := 9) Tryd.underlying62 Tryd.underlying5 Tryd.underlying9
        go_wp2
        go_ret2
        exact ⟨by rw [hst.out] <;> rfl, hbel⟩
  · have hz : ((s.size : Int) % 2 != 0) = true := by simp; omega
    have hno := Lib.hid (dehexR_none (dehex_odd s.data.toList (by simp; omega)))
    clear hev
    go_enter Tryd.func51, Tryd.ntmps51
    go_wp2
    go_ret2
    exact ⟨by rw [hno.out] <;> rfl, Below.refl _ _⟩

theorem dehexR_form (l : List UInt8) : ∃ (r : ByteArray) (b : Bool), dehexR l = .tuple #[.string r, .bool b] := by
  unfold dehexR
  split
  · exact ⟨_, _, rfl⟩
  · exact ⟨_, _, rfl⟩

def encFR (n width : Int) : List UInt8 := if 1 ≤ width ∧ width ≤ 7 ∧ 0 ≤ n ∧ n.toNat < 256 ^ width.toNat then encF width.toNat n.toNat else []

theorem encFR_yes {N d : Nat} (h1 : 1 ≤ d) (h2 : d ≤ 7) (h : N < 256 ^ d) : encFR N d = encF d N := by
  unfold encFR
  rw [Int.toNat_natCast, Int.toNat_natCast, if_pos ⟨by omega, by omega, by omega, h⟩]

theorem encFR_no {n width : Int} (h : ¬ (1 ≤ width ∧ width ≤ 7 ∧ 0 ≤ n)) : encFR n width = [] := by rw [encFR, if_neg (fun hh => h ⟨hh.1, hh.2.1, hh.2.2.1⟩)]

theorem encFR_big {N d : Nat} (h : ¬ N < 256 ^ d) : encFR N d = [] := by
  unfold encFR
  rw [Int.toNat_natCast, Int.toNat_natCast, if_neg (fun hh => h hh.2.2.2)]

def fixCells (d j N : Nat) : List UInt8 := List.replicate (d - j) 0 ++ encF j N

theorem fixCells_zero (d N : Nat) : fixCells d 0 N = List.replicate d 0 := by simp [fixCells, encF]

theorem fixCells_full (d N : Nat) : fixCells d d N = encF d N := by simp [fixCells]

theorem fixCells_length {d j N : Nat} (h : j ≤ d) : (fixCells d j N).length = d := by simp [fixCells, encF_length]; omega

theorem set_replicate (m : Nat) (l : List UInt8) (x : UInt8) : (List.replicate (m + 1) 0 ++ l).set m x = List.replicate m 0 ++ x :: l := by
  induction m with
  | zero => simp
  | succ m ih => rw [List.replicate_succ, List.cons_append, List.set_cons_succ, ih, List.replicate_succ, List.cons_append]

theorem fixCells_step {d j N : Nat} (h : j < d) : (fixCells d j N).set (d - 1 - j) (UInt8.ofNat (N / 256 ^ j % 256)) = fixCells d (j + 1) N := by
  unfold fixCells
  obtain ⟨m, hm⟩ : ∃ m, d - j = m + 1 := ⟨d - j - 1, by omega⟩
  rw [show d - 1 - j = m from by omega, hm, set_replicate, encF_cons, show d - (j + 1) = m from by omega]

/-- The bytes of a block of the call's own. -/
def BBlk (w : World) (g : Nat) (e : TypeId) (l : List UInt8) : Prop := w.heap[g]? = some (.cells (l.map bv).toArray e (0, 0))

theorem BBlk.cell {w : World} {g : Nat} {e : TypeId} {l : List UInt8} (h : BBlk w g e l) (i : Nat) (hi : i < l.length) : ∃ b : UInt8, w.cell? ⟨g, i, none⟩ = some (bv b) := by
  refine ⟨l[i], ?_⟩
  unfold BBlk at h
  rw [cell_of_row w g i _ e (0, 0) h]
  simp [List.getElem?_eq_getElem hi]

theorem BBlk.frozen {w : World} {g : Nat} {e : TypeId} {l : List UInt8} (h : BBlk w g e l) (i : Nat) : w.frozen? ⟨g, i, none⟩ = false := by
  unfold BBlk at h
  simp [World.frozen?, h]

theorem BBlk.set_ {w : World} {g : Nat} {e : TypeId} {l : List UInt8} (h : BBlk w g e l) (i : Nat) (b : UInt8) : BBlk (w.setCell ⟨g, i, none⟩ (bv b)) g e (l.set i b) := by
  unfold BBlk at h ⊢
  simp [World.setCell, Array.getElem?_modify, h, List.map_set]

theorem BBlk.owns {w : World} {g base : Nat} {e : TypeId} {l : List UInt8} (h : BBlk w g e l) (hb : base ≤ g) (hl : l.length ≤ maxLen) : w.ownsRow base e 1 (.slice (some ⟨g, 0, none⟩) l.length l.length) l.length (l.map bv) :=
  ⟨by simp, .inr ⟨g, l.length, (l.map bv).toArray, rfl, hb, h, Nat.le_refl _, hl, by simp, List.take_of_length_le (by simp)⟩⟩

def zer (d : Nat) : Array Value := ((List.replicate d (0 : UInt8)).map bv).toArray

theorem made_zer (d : Nat) : madeCells #[.int .u8 0] d = zer d := by
  unfold zer madeCells
  apply Array.ext
  · simp
  · intro i h1 h2
    simp [bv, Nat.mod_one]

set_option maxRecDepth 100000 in
set_option maxHeartbeats 400000 in
theorem spec_EncodeFixed_any (n width : Int) (w : World) (hmax : n ≤ 9223372036854775807) :
    Calls Tryd.prog 49 #[.int .i64 n, .int .i64 width] w fun e w' => e = .returned (.string ⟨(encFR n width).toArray⟩) ∧ Below w.heap.size w w' := by
  by_cases hw : 1 ≤ width ∧ width ≤ 7
  · have hb := inB_true hw.1 hw.2
    by_cases hn : 0 ≤ n
    · obtain ⟨d, rfl⟩ := Int.eq_ofNat_of_zero_le (show 0 ≤ width by omega)
      obtain ⟨N, rfl⟩ := Int.eq_ofNat_of_zero_le hn
      have hd1 : 1 ≤ d := by omega
      have hd2 : d ≤ 7 := by omega
      have hneg : decide ((N : Int) < 0) = false := by simp
      clear hw hn
      go_enter Tryd.func49, Tryd.ntmps49
      go_wp2_with (go_at_call 96; refine (l1In_any _ _ _ _).mono ?_; rintro e w' ⟨rfl, rfl⟩)
      go_loopw [0, 5, 6] (fun n v i wr => ∃ (M k : Nat) (l : List UInt8), k ≤ d ∧ n = .int .i64 M ∧ v = .string ⟨l.toArray⟩ ∧ i = .int .i64 k ∧ M ≤ N ∧ Hid (M = N / 256 ^ k ∧ l = encF k N) ∧ Below w.heap.size w wr) (fun _ _ i _ => d - (intOf i).toNat)
      case atStart => exact ⟨N, 0, [], by omega, rfl, rfl, rfl, Nat.le_refl _, ⟨by simp, rfl⟩, Below.refl _ _⟩
      case round =>
        obtain ⟨M, k, l, hk, rfl, rfl, rfl, hMN, hinv, hbel⟩ := hrel
        by_cases hlt : k < d
        · have hll : l.length ≤ 7 := by rw [hinv.out.2, encF_length]; omega
          have hcv := fun W : World => one_byte (P := Tryd.prog) W 62 9 5 ((M : Int) % 256) (by omega) (by omega) Tryd.underlying62 Tryd.underlying5 Tryd.underlying9
          go_wp2
          refine ⟨?_, ?_⟩
          · refine ⟨M / 256, k + 1, UInt8.ofNat (M % 256) :: l, by omega, by go_num, congrArg Value.string (bytes_append [UInt8.ofNat (M % 256)] l), by go_num, by omega, ⟨?_, ?_⟩, hbel.alloc hbel.size _⟩
            · rw [hinv.out.1, Nat.div_div_eq_div_mul, Nat.pow_succ]
            · rw [encF_cons, ← hinv.out.1, ← hinv.out.2]
          · simp [intOf]; omega
        · obtain rfl : k = d := by omega
          by_cases hM : M = 0
          · have hf : Hid (encFR N k = l) := by
              show encFR N k = l
              rw [hinv.out.2]
              refine encFR_yes hd1 hd2 ?_
              have h1 := hinv.out.1
              rw [hM] at h1
              exact (Nat.div_eq_zero_iff_lt (Nat.pow_pos (by omega))).1 h1.symm
            subst hM
            go_wp2
            go_ret
            exact ⟨by rw [hf.out] <;> rfl, hbel⟩
          · have hf : Hid (encFR N k = []) := by
              show encFR N k = []
              refine encFR_big fun h => ?_
              have h1 := hinv.out.1
              rw [Nat.div_eq_of_lt h] at h1
              exact hM h1
            go_wp2
            go_ret
            exact ⟨by rw [hf.out] <;> rfl, hbel⟩
    · have hno := Lib.hid (encFR_no (n := n) (width := width) (by omega))
      have hneg : decide (n < 0) = true := by simp; omega
      go_enter Tryd.func49, Tryd.ntmps49
      go_wp2_with (go_at_call 96; refine (l1In_any _ _ _ _).mono ?_; rintro e w' ⟨rfl, rfl⟩)
      go_ret
      exact ⟨by rw [hno.out] <;> rfl, Below.refl _ _⟩
  · have hb := inB_false hw
    have hno := Lib.hid (encFR_no (n := n) (width := width) (by omega))
    go_enter Tryd.func49, Tryd.ntmps49
    go_wp2_with (go_at_call 96; refine (l1In_any _ _ _ _).mono ?_; rintro e w' ⟨rfl, rfl⟩)
    go_ret
    exact ⟨by rw [hno.out] <;> rfl, Below.refl _ _⟩

theorem pow_256 (d : Nat) : (2 : Nat) ^ (8 * d) = 256 ^ d := by rw [Nat.pow_mul]

set_option maxRecDepth 100000 in
set_option maxHeartbeats 400000 in
theorem impl_EncodeFixed_any (n width : Int) (w : World) (hmax : n ≤ 9223372036854775807) :
    Calls Tryd.prog 47 #[.int .i64 n, .int .i64 width] w fun e w' => e = .returned (.string ⟨(encFR n width).toArray⟩) ∧ Below w.heap.size w w' := by
  by_cases hw : 1 ≤ width ∧ width ≤ 7
  · have hb := inB_true hw.1 hw.2
    by_cases hn : 0 ≤ n
    · obtain ⟨d, rfl⟩ := Int.eq_ofNat_of_zero_le (show 0 ≤ width by omega)
      obtain ⟨N, rfl⟩ := Int.eq_ofNat_of_zero_le hn
      have hd1 : 1 ≤ d := by omega
      have hd2 : d ≤ 7 := by omega
      have hneg : decide ((N : Int) < 0) = false := by simp
      clear hw hn
      by_cases hbig : N < 256 ^ d
      · have hq : ((N : Int) / 2 ^ (8 * d) != 0) = false := by
          have h1 : N / 2 ^ (8 * d) = 0 := by rw [pow_256]; exact Nat.div_eq_of_lt hbig
          have h2 : (N : Int) / 2 ^ (8 * d) = ((N / 2 ^ (8 * d) : Nat) : Int) := by rw [Int.natCast_ediv, Int.natCast_pow]; rfl
          rw [h2, h1]
          rfl
        have hy := Lib.hid (encFR_yes hd1 hd2 hbig)
        have hmk := fun W : World => run_make_row' (P := Tryd.prog) 62 5 (.int .u8 0) 1 Tryd.underlying62 (show (Tryd.prog.info? 5).map (fun i => (i.zero, i.size, i.bytes)) = some (some (.int .u8 0), 1, 1) by kernel_rfl) rfl .i64 .i64 d (by omega) (by omega) W
        rw [made_zer] at hmk
        clear hbig
        go_enter Tryd.func47, Tryd.ntmps47
        go_wp2_with (go_at_call 67; refine (within_any _ _ _ _).mono ?_; rintro e w' ⟨rfl, rfl⟩)
        go_loopw [0, 6] (fun n i wr => ∃ (M j : Nat) (x : Int), n = .int .i64 M ∧ i = .int .i64 x ∧ -1 ≤ x ∧ x < d ∧ M ≤ N ∧ Hid (x = d - 1 - j ∧ M = N / 256 ^ j ∧ j ≤ d) ∧ BBlk wr w.heap.size 5 (fixCells d j N) ∧ Below w.heap.size w wr) (fun _ i _ => (intOf i + 1).toNat)
        case atStart => exact ⟨N, 0, d - 1, rfl, rfl, by omega, by omega, Nat.le_refl _, ⟨by omega, by simp, by omega⟩, by rw [fixCells_zero]; exact heap_alloc_new w _, (Below.refl _ _).alloc (Nat.le_refl _) _⟩
        case round =>
          obtain ⟨M, j, x, rfl, rfl, hx1, hx2, hMN, hinv, hblk, hbel⟩ := hrel
          by_cases hlt : 0 ≤ x
          · obtain ⟨t, rfl⟩ := Int.eq_ofNat_of_zero_le hlt
            obtain ⟨ob, hcell⟩ := hblk.cell t (by rw [fixCells_length hinv.out.2.2]; omega)
            have hfr := hblk.frozen t
            have hsz := hbel.size
            go_wp2
            refine ⟨⟨M / 256, j + 1, t - 1, by go_num, by go_num, by omega, by omega, by omega, ⟨?_, ?_, ?_⟩, ?_, ?_⟩, ?_⟩
            · have := hinv.out; omega
            · rw [hinv.out.2.1, Nat.div_div_eq_div_mul, Nat.pow_succ]
            · have := hinv.out; omega
            · have h1 := hblk.set_ t (UInt8.ofNat (M % 256))
              rw [← bv_of (M % 256) (by omega)] at h1
              have h2 := fixCells_step (d := d) (j := j) (N := N) (by have := hinv.out; omega)
              rw [← hinv.out.2.1, show d - 1 - j = t from by have := hinv.out; omega] at h2
              rw [h2] at h1
              exact h1
            · exact hbel.setCell (Nat.le_refl _) _
            · simp [intOf]
          · obtain rfl : x = -1 := by omega
            have hjd : Hid (j = d) := by have := hinv.out; show j = d; omega
            have hconv := own_string (P := Tryd.prog) (l := encF d N) (by have h1 := (hblk.owns (base := 0) (by omega) (by rw [fixCells_length hinv.out.2.2]; unfold maxLen; omega)); rw [fixCells_length hinv.out.2.2, hjd.out, fixCells_full] at h1; exact h1) (src := 62) (dst := 9) Tryd.underlying62 Tryd.underlying5 Tryd.underlying9
            go_wp2
            go_ret
            exact ⟨by rw [hy.out] <;> rfl, hbel⟩
      · have hq : ((N : Int) / 2 ^ (8 * d) != 0) = true := by
          have h1 : N / 2 ^ (8 * d) ≠ 0 := by rw [pow_256]; intro h; exact hbig ((Nat.div_eq_zero_iff_lt (Nat.pow_pos (by omega))).1 h)
          have h2 : (N : Int) / 2 ^ (8 * d) = ((N / 2 ^ (8 * d) : Nat) : Int) := by rw [Int.natCast_ediv, Int.natCast_pow]; rfl
          rw [h2]
          simp only [bne_iff_ne, ne_eq]
          omega
        have hno := Lib.hid (encFR_big hbig)
        clear hbig
        go_enter Tryd.func47, Tryd.ntmps47
        go_wp2_with (go_at_call 67; refine (within_any _ _ _ _).mono ?_; rintro e w' ⟨rfl, rfl⟩)
        go_ret
        exact ⟨by rw [hno.out] <;> rfl, Below.refl _ _⟩
    · have hno := Lib.hid (encFR_no (n := n) (width := width) (by omega))
      have hneg : decide (n < 0) = true := by simp; omega
      go_enter Tryd.func47, Tryd.ntmps47
      go_wp2_with (go_at_call 67; refine (within_any _ _ _ _).mono ?_; rintro e w' ⟨rfl, rfl⟩)
      go_ret
      exact ⟨by rw [hno.out] <;> rfl, Below.refl _ _⟩
  · have hb := inB_false hw
    have hno := Lib.hid (encFR_no (n := n) (width := width) (by omega))
    go_enter Tryd.func47, Tryd.ntmps47
    go_wp2_with (go_at_call 67; refine (within_any _ _ _ _).mono ?_; rintro e w' ⟨rfl, rfl⟩)
    go_ret
    exact ⟨by rw [hno.out] <;> rfl, Below.refl _ _⟩

theorem valV_step (s : ByteArray) (k : Nat) (h : k < s.size) : valV (s.data.toList.take (k + 1)) = valV (s.data.toList.take k) + (s[k].toNat % 128) * 128 ^ k := by
  rw [take_snoc s k h, valV_snoc, List.length_take, Nat.min_eq_left (by simp; omega)]

theorem valV_bound (s : ByteArray) (k : Nat) (h : k ≤ 7) : valV (s.data.toList.take k) < 562949953421312 := by
  have h1 := valV_lt (s.data.toList.take k)
  have h2 : (s.data.toList.take k).length ≤ k := List.length_take_le _ _
  have h3 : 128 ^ (s.data.toList.take k).length ≤ 128 ^ 7 := Nat.pow_le_pow_right (by omega) (by omega)
  omega

theorem extract_take (s : ByteArray) (k : Nat) : (s.extract 0 k).toList = s.data.toList.take k := by
  rw [ByteArray.toList_eq]
  simp [ByteArray.data_extract]

theorem getE (s : ByteArray) (k : Nat) (h : k < s.size) : s.data.toList[k]? = some s[k] := by
  rw [List.getElem?_eq_getElem (by simpa using h)]
  rfl

theorem and127u8 (x : Nat) (h : x < 256) : bits .and .u8 (x : Int) 127 = (x : Int) % 128 := by
  have : ∀ i : Fin 256, bits .and .u8 (i.val : Int) 127 = (i.val : Int) % 128 := by decide +kernel
  exact this ⟨x, h⟩

theorem shl7 (x k T : Nat) (hT : (x % 128) * 128 ^ k = T) (hb : T < 562949953421312) : wrap64 ((x : Int) % 128 * 2 ^ (7 * k)) = (T : Int) := by
  have h1 : (x : Int) % 128 * 2 ^ (7 * k) = (T : Int) := by
    rw [← hT, Int.natCast_mul, Int.natCast_emod, Int.natCast_pow, Int.pow_mul]
    rfl
  rw [h1]
  exact IntWalk.wrap64_in _ ⟨by omega, by omega⟩

theorem or7 (N T x k : Nat) (hT : (x % 128) * 128 ^ k = T) (hN : N < 128 ^ k) (hb : T < 562949953421312) (hNb : N < 562949953421312) : bits .or .i64 (N : Int) (T : Int) = ((N + T : Nat) : Int) := by
  rw [i64_or_nat N T (by omega) (by omega)]
  have h1 : (128 : Nat) ^ k = 2 ^ (7 * k) := by rw [Nat.pow_mul]
  have := Nat.two_pow_add_eq_or_of_lt (i := 7 * k) (b := N) (by rw [← h1]; exact hN) (x % 128)
  rw [← h1, Nat.mul_comm, hT] at this
  rw [Nat.or_comm, ← this, Nat.add_comm]

theorem varint_bits (N T N' x k : Nat) (hx : x < 256) (hT : (x % 128) * 128 ^ k = T) (hN : N < 128 ^ k) (hb : T < 562949953421312) (hNb : N < 562949953421312) (hs : N' = N + T) :
    bits .or .i64 (N : Int) (wrap64 (wrap64 (bits .and .u8 (x : Int) 127) * 2 ^ (7 * k))) = (N' : Int) := by
  rw [and127u8 x hx, IntWalk.wrap64_in ((x : Int) % 128) ⟨by omega, by omega⟩, shl7 x k T hT hb, or7 N T x k hT hN hb hNb, hs]

/-- The result, behind a name. -/
def VRes (s : ByteArray) (w : World) (e : Ending) (w' : World) : Prop := ∃ n k : Nat, DecV s.data.toList n k ∧ e = .returned (.tuple #[.int .i64 n, .int .i64 k]) ∧ Below w.heap.size w w'

set_option maxRecDepth 100000 in
set_option maxHeartbeats 400000 in
theorem impl_DecodeVarint_any (s : ByteArray) (w : World) (hs : s.size ≤ 9223372036854775807) :
    Calls Tryd.prog 45 #[.string s] w (VRes s w) := by
  go_enter Tryd.func45, Tryd.ntmps45
  go_wp2
  go_loopw [4, 5] (fun n i wr => ∃ (k : Nat), k ≤ s.size ∧ k ≤ 7 ∧ i = .int .i64 k ∧ n = .int .i64 (valV (s.data.toList.take k) : Nat) ∧ Hid (∀ j c, j < k → s.data.toList[j]? = some c → 128 ≤ c.toNat) ∧ Below w.heap.size w wr) (fun _ i _ => 7 - (intOf i).toNat)
  case atStart => exact ⟨0, by omega, by omega, rfl, rfl, fun j c h => absurd h (by omega), Below.refl _ _⟩
  case round =>
    obtain ⟨k, hk, hk7, rfl, rfl, hmid, hbel⟩ := hrel
    by_cases hlt : k < s.size
    · by_cases h7 : k < 7
      · have hv := valV_bound s k hk7
        have hstep := Lib.hid (valV_step s k hlt)
        have hvk := valV_bound s (k + 1) (by omega)
        obtain ⟨x, hx⟩ : ∃ x, s[k].toNat = x := ⟨_, rfl⟩
        have hx256 : x < 256 := by have := s[k].toNat_lt; omega
        have hget := Lib.hid (getE s k hlt)
        rw [hx] at hstep
        have hNlt : valV (s.data.toList.take k) < 128 ^ k := by
          have := valV_lt (s.data.toList.take k)
          rwa [List.length_take, Nat.min_eq_left (by simp; omega)] at this
        obtain ⟨T, hT⟩ : ∃ T, (x % 128) * 128 ^ k = T := ⟨_, rfl⟩
        have hst2 := hstep.out
        rw [hT] at hst2
        have hTb : T < 562949953421312 := by omega
        have hN2 : valV (s.data.toList.take (k + 1)) ≤ 562949953421311 := by omega
        have Q := Lib.hid (varint_bits _ T _ x k hx256 hT hNlt hTb hv hst2)
        have hcon : ∀ W : World, w.heap.size ≤ W.heap.size → Calls Tryd.prog 44 #[.int .i64 (valV (s.data.toList.take (k + 1)) : Nat)] W fun e w' => e = .returned (.string ⟨(encv (valV (s.data.toList.take (k + 1)))).toArray⟩) ∧ Below w.heap.size W w' := fun W hW => by
          have := impl_EncodeVarint_any (valV (s.data.toList.take (k + 1)) : Nat) W w.heap.size hW
          rwa [encvR_yes hN2] at this
        have Hcon := Lib.hid hcon
        clear hcon hst2 hT hNlt hv hstep hN2 hTb
        generalize valV (s.data.toList.take k) = N at *
        obtain ⟨N', hN'⟩ : ∃ N', valV (s.data.toList.take (k + 1)) = N' := ⟨_, rfl⟩
        rw [hN'] at Hcon hvk Q
        have HN := Lib.hid hN'
        clear hN'
        by_cases hterm : x < 128
        · have hext := extract_take s (k + 1)
          have hsz := hbel.size
          have g1 : (0 : Int) ≤ (k : Int) + 1 := by omega
          have g2 : (k : Int) + 1 ≤ (s.size : Int) := by omega
          have g3 : IntKind.i64.wrap ((k : Int) + 1) = (k : Int) + 1 := IntWalk.i64_in _ (by omega)
          have g4 : ((k : Int) + 1).toNat = k + 1 := by omega
          by_cases hc : encv N' = s.data.toList.take (k + 1)
          · have hdec := Lib.hid (show DecV s.data.toList N' (k + 1) from .inl ⟨⟨by omega, by omega, by simp; omega, by rw [HN.out, hc]⟩, HN.out.symm⟩)
            have hcb : (encv N' == s.data.toList.take (k + 1)) = true := by simpa using hc
            clear hc
            go_wp2_with fail
            rw [Q.out]
            go_region_held3 (fun _ => True) (trivial) ((go_at_call 44; refine (Hcon.out _ ?_).mono ?_; (simp; omega); rintro e w1 ⟨rfl, b1⟩))
            go_wp2
            go_ret2
            exact ⟨N', k + 1, hdec.out, rfl, hbel.drew.trans b1⟩
          · have hdec := Lib.hid (DecV.none_at hget.out (by rw [hx]; exact hterm) hmid.out (by rw [HN.out]; exact hc))
            have hcb : (encv N' == s.data.toList.take (k + 1)) = false := by simpa using hc
            clear hc
            go_wp2_with fail
            rw [Q.out]
            go_region_held3 (fun _ => True) (trivial) ((go_at_call 44; refine (Hcon.out _ ?_).mono ?_; (simp; omega); rintro e w1 ⟨rfl, b1⟩))
            go_wp2
            go_ret2
            exact ⟨0, 0, hdec.out, rfl, hbel.drew.trans b1⟩
        · have hmid' : Hid (∀ j c, j < k + 1 → s.data.toList[j]? = some c → 128 ≤ c.toNat) := fun j c hj hc => by
            rcases Nat.lt_or_ge j k with h | h
            · exact hmid.out j c h hc
            · obtain rfl : j = k := by omega
              have h1 := hget.out
              rw [h1] at hc
              simp only [Option.some.injEq] at hc
              subst hc
              omega
          go_wp2
          refine ⟨⟨k + 1, by omega, by omega, by go_num, by rw [Q.out, HN.out], hmid', hbel⟩, ?_⟩
          simp [intOf]
          omega
      · obtain rfl : k = 7 := by omega
        have hdec := Lib.hid (DecV.none_all hmid.out)
        go_wp2
        go_ret2
        exact ⟨0, 0, hdec.out, rfl, hbel⟩
    · obtain rfl : k = s.size := by omega
      have hdec := Lib.hid (DecV.none_all (l := s.data.toList) (fun j c _ hc => hmid.out j c (by have := (List.getElem?_eq_some_iff.1 hc).1; simpa using this) hc))
      go_wp2
      go_ret2
      exact ⟨0, 0, hdec.out, rfl, hbel⟩

theorem drop_step (s : ByteArray) (k t : Nat) (hk : k ≤ s.size) (h : t < k) : (s.data.toList.take k).drop t = s[t] :: (s.data.toList.take k).drop (t + 1) := by
  rw [List.drop_eq_getElem_cons (by rw [List.length_take, Nat.min_eq_left (by simp; omega)]; exact h)]
  congr 1
  rw [List.getElem_take]
  rfl

theorem valV_drop (s : ByteArray) (k t : Nat) (h7 : k ≤ 7) : valV ((s.data.toList.take k).drop t) < 562949953421312 := by
  have h1 := valV_lt ((s.data.toList.take k).drop t)
  have h2 : ((s.data.toList.take k).drop t).length ≤ 7 := by rw [List.length_drop, List.length_take]; omega
  have h3 : 128 ^ ((s.data.toList.take k).drop t).length ≤ 128 ^ 7 := Nat.pow_le_pow_right (by omega) h2
  omega
end Go.Proofs.YtmojjbhjjhdpaaaDoor
