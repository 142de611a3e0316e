/- DecodeHex: both texts. No condition but the size that the law lets in. -/
import Derived.Test.YtpcjcjemfjhkcaaBase
import Derived.Test.YtpcjcjemfjhkcaaHex
import Derived.Test.YtpcjcjemfjhkcaaDecFixed
import Derived.Test.YtpcjcjemfjhkcaaVarint
import Derived.OwnWalk
import Derived.Deep.AppendLies
import Derived.Deep.RegionHeld3
import Derived.Outline
namespace Go.Proofs.Ytpcjcjemfjhkcaa
open Go.RowKit

/-- The number of a hexadecimal digit, -1 for another byte. -/
def unhex (b : Nat) : Int := if 48 ≤ b ∧ b ≤ 57 then (b : Int) - 48 else if 97 ≤ b ∧ b ≤ 102 then (b : Int) - 87 else -1
theorem unhex_le (b : Nat) : -1 ≤ unhex b ∧ unhex b ≤ 15 := by
  unfold unhex
  split
  · omega
  · split <;> omega
theorem unhex_hexD : ∀ k : Fin 16, unhex (hexD k.val).toNat = k.val := by decide
theorem unhex_none : ∀ b : Fin 256, (∀ j : Fin 16, (hexD j.val).toNat ≠ b.val) → unhex b.val = -1 := by decide +kernel

def dehex : List UInt8 → Option (List UInt8)
  | [] => some []
  | [_] => none
  | a :: b :: r => if unhex a.toNat < 0 ∨ unhex b.toNat < 0 then none else (dehex r).map (UInt8.ofNat (16 * (unhex a.toNat).toNat + (unhex b.toNat).toNat) :: ·)
theorem dehex_odd : ∀ l : List UInt8, l.length % 2 = 1 → dehex l = none
  | [], h => by simp at h
  | [_], _ => rfl
  | a :: b :: r, h => by
    rw [dehex]
    split
    · rfl
    · rw [dehex_odd r (by simp at h; omega)]; rfl
def dehexR (l : List UInt8) : Value := match dehex l with | some r => .tuple #[.string ⟨r.toArray⟩, .bool true] | none => .tuple #[.string ⟨#[]⟩, .bool false]
theorem dehexR_some {l r : List UInt8} (h : dehex l = some r) : dehexR l = .tuple #[.string ⟨r.toArray⟩, .bool true] := by rw [dehexR, h]
theorem dehexR_none {l : List UInt8} (h : dehex l = none) : dehexR l = .tuple #[.string ⟨#[]⟩, .bool false] := by rw [dehexR, h]

/-- The loop's invariant: p is what the first 2k digits say. -/
def HInv (s : ByteArray) (k : Nat) (p : List UInt8) : Prop := dehex s.data.toList = (dehex (s.data.toList.drop (2 * k))).map (p ++ ·)
theorem HInv.start (s : ByteArray) : HInv s 0 [] := by simp [HInv]
theorem drop_two (s : ByteArray) (k : Nat) (h : 2 * k + 1 < s.size) : s.data.toList.drop (2 * k) = s[2 * k] :: s[2 * k + 1] :: s.data.toList.drop (2 * (k + 1)) := by
  rw [List.drop_eq_getElem_cons (by simp; omega), List.drop_eq_getElem_cons (by simp; omega)]
  rfl
theorem HInv.fail {s : ByteArray} {k : Nat} {p : List UInt8} (h : HInv s k p) (hk : 2 * k + 1 < s.size) {x y : Nat} (hx : s[2 * k].toNat = x) (hy : s[2 * k + 1].toNat = y) (hf : unhex x < 0 ∨ unhex y < 0) : dehexR s.data.toList = .tuple #[.string ⟨#[]⟩, .bool false] := by
  apply dehexR_none
  unfold HInv at h
  subst hx hy
  rw [h, drop_two s k hk, dehex, if_pos hf]
  rfl
theorem HInv.step {s : ByteArray} {k : Nat} {p : List UInt8} (h : HInv s k p) (hk : 2 * k + 1 < s.size) {x y : Nat} (hx : s[2 * k].toNat = x) (hy : s[2 * k + 1].toNat = y) {U V : Nat} (h1 : unhex x = U) (h2 : unhex y = V) :
    HInv s (k + 1) (p ++ [UInt8.ofNat (16 * U + V)]) := by
  unfold HInv at h ⊢
  subst hx hy
  rw [h, drop_two s k hk, dehex, if_neg (by omega), h1, h2, Int.toNat_natCast, Int.toNat_natCast]
  cases dehex (s.data.toList.drop (2 * (k + 1))) <;> simp
theorem or16 (U V : Nat) (hU : U ≤ 15) (hV : V ≤ 15) : bits .or .i64 ((U : Int) * 16) (V : Int) = 16 * (U : Int) + (V : Int) := by
  have h1 : ((U : Int) * 16) = ((U * 16 : Nat) : Int) := by omega
  rw [h1, i64_or_nat (U * 16) V (by omega) (by omega)]
  have : U * 16 ||| V = U * 16 + V := by
    have := Nat.two_pow_add_eq_or_of_lt (i := 4) (b := V) (by omega) U
    rw [Nat.mul_comm] at this
    exact this.symm
  rw [this]
  omega
theorem bv16 (U V : Nat) (hU : U ≤ 15) (hV : V ≤ 15) : Value.int .u8 (16 * (U : Int) + (V : Int)) = bv (UInt8.ofNat (16 * U + V)) := by
  rw [← bv_of (16 * U + V) (by omega)]
  congr 1
theorem HInv.stop {s : ByteArray} {k : Nat} {p : List UInt8} (h : HInv s k p) (hk : 2 * k = s.size) : dehexR s.data.toList = .tuple #[.string ⟨p.toArray⟩, .bool true] := by
  apply dehexR_some
  unfold HInv at h
  rw [h, List.drop_of_length_le (by simp; omega)]
  simp [dehex]

theorem nibble_any (b : Nat) (w : World) (hb : b < 256) : Calls Try.prog 29 #[.int .u8 b] w fun e w' => e = .returned (.int .i64 (unhex b)) ∧ w = w' := by
  by_cases h1 : 48 ≤ b
  · by_cases h2 : b ≤ 57
    · have hy : Hid (unhex b = (b : Int) - 48) := by show unhex b = _; rw [unhex, if_pos ⟨h1, h2⟩]
      go_enter Try.func29, Try.ntmps29
      go_wp2
      go_ret
      exact ⟨by rw [hy.out] <;> rfl, rfl⟩
    · by_cases h3 : 97 ≤ b ∧ b ≤ 102
      · obtain ⟨h3, h4⟩ := h3
        have hy : Hid (unhex b = (b : Int) - 87) := by show unhex b = _; rw [unhex, if_neg (by omega), if_pos ⟨h3, h4⟩]
        go_enter Try.func29, Try.ntmps29
        go_wp2
        go_ret
        exact ⟨by rw [hy.out]; exact ret_int (by omega), rfl⟩
      · have hy : Hid (unhex b = -1) := by show unhex b = _; rw [unhex, if_neg (by omega), if_neg h3]
        by_cases h5 : 97 ≤ b
        · have h6 : ¬ b ≤ 102 := by omega
          go_enter Try.func29, Try.ntmps29
          go_wp2
          go_ret
          exact ⟨by rw [hy.out] <;> rfl, rfl⟩
        · go_enter Try.func29, Try.ntmps29
          go_wp2
          go_ret
          exact ⟨by rw [hy.out] <;> rfl, rfl⟩
  · have hy : Hid (unhex b = -1) := by show unhex b = _; rw [unhex, if_neg (by omega), if_neg (by omega)]
    have h5 : ¬ 97 ≤ b := by omega
    go_enter Try.func29, Try.ntmps29
    go_wp2
    go_ret
    exact ⟨by rw [hy.out] <;> rfl, rfl⟩

theorem l1FromHex_any (b : Nat) (w : World) (hb : b < 256) : Calls Try.prog 28 #[.int .u8 b] w fun e w' => e = .returned (.int .i64 (unhex b)) ∧ w = w' := by
  go_enter Try.func28, Try.ntmps28
  go_wp2
  go_loop [3] (fun i => ∃ k : Nat, k ≤ 16 ∧ i = .int .i64 k ∧ Hid (∀ j, j < k → (hexD j).toNat ≠ b)) (fun i => 16 - (intOf i).toNat)
  case atStart => exact ⟨0, by omega, rfl, fun j hj => absurd hj (by omega)⟩
  case round =>
    obtain ⟨k, hk, rfl, hno⟩ := hrel
    by_cases hlt : k < 16
    · by_cases he : (hexD k).toNat = b
      · have hy : Hid (unhex b = k) := by show unhex b = _; rw [← he]; exact unhex_hexD ⟨k, hlt⟩
        have hb' : (((hexD k).toNat : Int) == (b : Int)) = true := by simp [he]
        clear he
        go_wp2_with (go_at_call 25; refine (l1Digit_any _ _ (by omega) (by omega)).mono ?_; rintro e w' ⟨rfl, rfl⟩; rw [Int.toNat_natCast])
        go_ret
        exact ⟨by rw [hy.out] <;> rfl, rfl⟩
      · have hb' : (((hexD k).toNat : Int) == (b : Int)) = false := by simp; omega
        have hno' : Hid (∀ j, j < k + 1 → (hexD j).toNat ≠ b) := fun j hj => by
          rcases Nat.lt_or_ge j k with h | h
          · exact hno.out j h
          · obtain rfl : j = k := by omega
            exact he
        clear he
        go_wp2_with (go_at_call 25; refine (l1Digit_any _ _ (by omega) (by omega)).mono ?_; rintro e w' ⟨rfl, rfl⟩; rw [Int.toNat_natCast])
        go_round
        case rel => exact ⟨k + 1, by omega, by go_num, hno'⟩
        case measure => simp [intOf]; omega
    · obtain rfl : k = 16 := by omega
      have hy : Hid (unhex b = -1) := unhex_none ⟨b, hb⟩ (fun j => hno.out j.val j.isLt)
      go_wp2
      go_ret
      exact ⟨by rw [hy.out] <;> rfl, rfl⟩

set_option maxRecDepth 100000 in
set_option maxHeartbeats 400000 in
theorem impl_DecodeHex_any (s : ByteArray) (w : World) (hs : s.size ≤ 1048576) :
    Calls Try.prog 22 #[.string s] w fun e w' => e = .returned (dehexR s.data.toList) ∧ Below w.heap.size w w' := by
  by_cases hev : s.size % 2 = 0
  · obtain ⟨h, hh⟩ : ∃ h, s.size = 2 * h := ⟨s.size / 2, by omega⟩
    have hz : ((s.size : Int) % 2 != 0) = false := by simp; omega
    obtain ⟨i0, hi, hz0, hz1, hz2⟩ := info_parts info_u8
    have HH : Hid (s.size = 2 * h) := hh
    have hle1 : s.size ≤ 2 * h := by omega
    have hle2 : 2 * h ≤ s.size := by omega
    clear hh hev
    go_enter Try.func22, Try.ntmps22
    go_wp2
    go_loopw [4, 5] (fun v i wr => ∃ (k : Nat) (p : List UInt8), k ≤ h ∧ i = .int .i64 (2 * (k : Int)) ∧ wr.ownsRow w.heap.size 5 1 v k (p.map bv) ∧ Below w.heap.size w wr ∧ HInv s k p) (fun _ i _ => s.size - (intOf i).toNat)
    case atStart => exact ⟨0, [], by omega, rfl, World.ownsRow_made (base := w.heap.size) (e := 5) (size := 1) w #[] 0 (Nat.le_refl _) (by unfold maxLen; omega) rfl, (Below.refl _ _).alloc (Nat.le_refl _) _, HInv.start s⟩
    case round =>
      obtain ⟨k, p, hk, rfl, hown, hbel, hinv⟩ := hrel
      by_cases hlt : k < h
      · have e1 : IntKind.i64.wrap (2 * (k : Int) + 1) = 2 * (k : Int) + 1 := IntWalk.i64_in _ (by omega)
        have e2 : (2 * (k : Int) + 1).toNat = 2 * k + 1 := by omega
        have e3 : (2 * (k : Int)).toNat = 2 * k := by omega
        have g1 : (0 : Int) ≤ 2 * (k : Int) + 1 := by omega
        have g2 : 2 * (k : Int) + 1 < (s.size : Int) := by omega
        have g3 : (0 : Int) ≤ 2 * (k : Int) := by omega
        have g4 : 2 * (k : Int) < (s.size : Int) := by omega
        obtain ⟨x, hx⟩ : ∃ x, s[2 * k].toNat = x := ⟨_, rfl⟩
        obtain ⟨y, hy⟩ : ∃ y, s[2 * k + 1].toNat = y := ⟨_, rfl⟩
        have b1 : x < 256 := by have := s[2 * k].toNat_lt; omega
        have b2 : y < 256 := by have := s[2 * k + 1].toNat_lt; omega
        go_wp2_with fail
        go_quiet ((go_at_call 29; refine quiet_left (nibble_any _ _ ?_); assumption))
        clear e1 e2 e3
        have HX := Lib.hid hx
        have HY := Lib.hid hy
        clear hx hy
        generalize hwq : wr.drewN _ = wq
        have hownq : wq.ownsRow w.heap.size 5 1 u4 k (p.map bv) := by rw [← hwq]; exact hown
        have hbelq : Below w.heap.size w wq := by rw [← hwq]; exact below_drewN hbel _
        clear hwq hown hbel
        have hown := hownq
        clear hownq
        have hsz := hbelq.size
        have l1 := unhex_le x
        have l2 := unhex_le y
        by_cases c1 : unhex x < 0
        · have hf := Lib.hid (hinv.fail (by omega) HX.out HY.out (.inl c1))
          go_wp2
          go_ret2
          exact ⟨by rw [hf.out] <;> rfl, hbelq⟩
        · by_cases c2 : unhex y < 0
          · have hf := Lib.hid (hinv.fail (by omega) HX.out HY.out (.inr c2))
            go_wp2
            go_ret2
            exact ⟨by rw [hf.out] <;> rfl, hbelq⟩
          · obtain ⟨U, hU⟩ := Int.eq_ofNat_of_zero_le (show 0 ≤ unhex x by omega)
            obtain ⟨V, hV⟩ := Int.eq_ofNat_of_zero_le (show 0 ≤ unhex y by omega)
            have hst := hinv.step (by omega) HX.out HY.out hU hV
            rw [hU, hV]
            rw [hU] at l1
            rw [hV] at l2
            clear c1 c2 hU hV
            have q := or16 U V (by omega) (by omega)
            go_wp2_with (at_builtin; refine wpList_append_lies _ rfl _ _ _ rfl w.heap.size 5 i0 _ 1 1 Try.underlying36 hi hz0 hz1 hz2 rfl (by omega) _ k _ rfl (hown.alloc _) ⟨wq.heap.size, 0, none⟩ 1 1 [.int .u8 (16 * (U : Int) + (V : Int))] rfl rfl (World.news_of_block (cs := #[.int .u8 (16 * (U : Int) + (V : Int))]) (t := 5) (fr := (0, 0)) (heap_alloc_new wq _)) (by simp [Value.oneCell']) (by omega) (by unfold maxLen; omega) (by omega) (by simp; omega) (wq.heap.size + 1) (by simp) ?_; intro g cap w1 hown1 hgrow _ _)
            rw [bv16 U V (by omega) (by omega)] at hown1
            go_roundw
            case rel => exact ⟨k + 1, p ++ [UInt8.ofNat (16 * U + V)], by omega, by go_num, by rw [List.map_append]; exact hown1, (hbelq.alloc (by omega) _).grown hgrow (by simp; omega) (fun j hj => (hown.lt j hj).1), hst⟩
            case measure => simp [intOf]; omega
      · obtain rfl : k = h := by omega
        have hst := Lib.hid (hinv.stop HH.out.symm)
        have hconv := own_string (P := Try.prog) hown (src := 36) (dst := 9) Try.underlying36 Try.underlying5 Try.underlying9
        go_wp2
        go_ret2
        exact ⟨by rw [hst.out] <;> rfl, hbel⟩
  · have hz : ((s.size : Int) % 2 != 0) = true := by simp; omega
    have hno := Lib.hid (dehexR_none (dehex_odd s.data.toList (by simp; omega)))
    clear hev
    go_enter Try.func22, Try.ntmps22
    go_wp2
    go_ret2
    exact ⟨by rw [hno.out] <;> rfl, Below.refl _ _⟩
set_option maxRecDepth 100000 in
set_option maxHeartbeats 400000 in
theorem spec_DecodeHex_any (s : ByteArray) (w : World) (hs : s.size ≤ 1048576) :
    Calls Try.prog 21 #[.string s] w fun e w' => e = .returned (dehexR s.data.toList) ∧ Below w.heap.size w w' := by
  by_cases hev : s.size % 2 = 0
  · obtain ⟨h, hh⟩ : ∃ h, s.size = 2 * h := ⟨s.size / 2, by omega⟩
    have hz : ((s.size : Int) % 2 == 1) = false := by simp; omega
    obtain ⟨i0, hi, hz0, hz1, hz2⟩ := info_parts info_u8
    have HH : Hid (s.size = 2 * h) := hh
    have hle1 : s.size ≤ 2 * h := by omega
    have hle2 : 2 * h ≤ s.size := by omega
    clear hh hev
    go_enter Try.func21, Try.ntmps21
    go_wp2
    go_loopw [4, 5] (fun v i wr => ∃ (k : Nat) (p : List UInt8), k ≤ h ∧ i = .int .i64 (2 * (k : Int)) ∧ wr.ownsRow w.heap.size 5 1 v k (p.map bv) ∧ Below w.heap.size w wr ∧ HInv s k p) (fun _ i _ => s.size - (intOf i).toNat)
    case atStart => exact ⟨0, [], by omega, rfl, World.ownsRow_made (base := w.heap.size) (e := 5) (size := 1) w #[] 0 (Nat.le_refl _) (by unfold maxLen; omega) rfl, (Below.refl _ _).alloc (Nat.le_refl _) _, HInv.start s⟩
    case round =>
      obtain ⟨k, p, hk, rfl, hown, hbel, hinv⟩ := hrel
      by_cases hlt : k < h
      · have e1 : IntKind.i64.wrap (2 * (k : Int) + 1) = 2 * (k : Int) + 1 := IntWalk.i64_in _ (by omega)
        have e2 : (2 * (k : Int) + 1).toNat = 2 * k + 1 := by omega
        have e3 : (2 * (k : Int)).toNat = 2 * k := by omega
        have g1 : (0 : Int) ≤ 2 * (k : Int) + 1 := by omega
        have g2 : 2 * (k : Int) + 1 < (s.size : Int) := by omega
        have g3 : (0 : Int) ≤ 2 * (k : Int) := by omega
        have g4 : 2 * (k : Int) < (s.size : Int) := by omega
        obtain ⟨x, hx⟩ : ∃ x, s[2 * k].toNat = x := ⟨_, rfl⟩
        obtain ⟨y, hy⟩ : ∃ y, s[2 * k + 1].toNat = y := ⟨_, rfl⟩
        have b1 : x < 256 := by have := s[2 * k].toNat_lt; omega
        have b2 : y < 256 := by have := s[2 * k + 1].toNat_lt; omega
        go_wp2_with fail
        refine (l1FromHex_any _ _ b1).mono ?_
        rintro e w' ⟨rfl, rfl⟩
        go_wp2_with fail
        refine (l1FromHex_any _ _ b2).mono ?_
        rintro e w' ⟨rfl, rfl⟩
        clear e1 e2 e3
        have HX := Lib.hid hx
        have HY := Lib.hid hy
        clear hx hy
        obtain ⟨wq, rfl⟩ : ∃ wq, wq = wr := ⟨_, rfl⟩
        have hbelq := hbel
        clear hbel
        have hsz := hbelq.size
        have l1 := unhex_le x
        have l2 := unhex_le y
        by_cases c1 : unhex x < 0
        · have hf := Lib.hid (hinv.fail (by omega) HX.out HY.out (.inl c1))
          go_wp2
          go_ret2
          exact ⟨by rw [hf.out] <;> rfl, hbelq⟩
        · by_cases c2 : unhex y < 0
          · have hf := Lib.hid (hinv.fail (by omega) HX.out HY.out (.inr c2))
            go_wp2
            go_ret2
            exact ⟨by rw [hf.out] <;> rfl, hbelq⟩
          · obtain ⟨U, hU⟩ := Int.eq_ofNat_of_zero_le (show 0 ≤ unhex x by omega)
            obtain ⟨V, hV⟩ := Int.eq_ofNat_of_zero_le (show 0 ≤ unhex y by omega)
            have hst := hinv.step (by omega) HX.out HY.out hU hV
            rw [hU, hV]
            rw [hU] at l1
            rw [hV] at l2
            clear c1 c2 hU hV
            go_wp2_with (at_builtin; refine wpList_append_lies _ rfl _ _ _ rfl w.heap.size 5 i0 _ 1 1 Try.underlying36 hi hz0 hz1 hz2 rfl (by omega) _ k _ rfl (hown.alloc _) ⟨wq.heap.size, 0, none⟩ 1 1 [.int .u8 (16 * (U : Int) + (V : Int))] rfl rfl (World.news_of_block (cs := #[.int .u8 (16 * (U : Int) + (V : Int))]) (t := 5) (fr := (0, 0)) (heap_alloc_new wq _)) (by simp [Value.oneCell']) (by omega) (by unfold maxLen; omega) (by omega) (by simp; omega) (wq.heap.size + 1) (by simp) ?_; intro g cap w1 hown1 hgrow _ _)
            rw [bv16 U V (by omega) (by omega)] at hown1
            go_roundw
            case rel => exact ⟨k + 1, p ++ [UInt8.ofNat (16 * U + V)], by omega, by go_num, by rw [List.map_append]; exact hown1, (hbelq.alloc (by omega) _).grown hgrow (by simp; omega) (fun j hj => (hown.lt j hj).1), hst⟩
            case measure => simp [intOf]; omega
      · obtain rfl : k = h := by omega
        have hst := Lib.hid (hinv.stop HH.out.symm)
        have hconv := own_string (P := Try.prog) hown (src := 36) (dst := 9) Try.underlying36 Try.underlying5 Try.underlying9
        go_wp2
        go_ret2
        exact ⟨by rw [hst.out] <;> rfl, hbel⟩
  · have hz : ((s.size : Int) % 2 == 1) = true := by simp; omega
    have hno := Lib.hid (dehexR_none (dehex_odd s.data.toList (by simp; omega)))
    clear hev
    go_enter Try.func21, Try.ntmps21
    go_wp2
    go_ret2
    exact ⟨by rw [hno.out] <;> rfl, (Below.refl _ _).alloc (Nat.le_refl _) _⟩

theorem dehexR_form (l : List UInt8) : ∃ (r : ByteArray) (b : Bool), dehexR l = .tuple #[.string r, .bool b] := by
  unfold dehexR
  split
  · exact ⟨_, _, rfl⟩
  · exact ⟨_, _, rfl⟩
theorem decodeHex_walk (s : ByteArray) (w : World) (hs : s.size ≤ maxLen) : Calls Try.prog 9 #[.string s] w fun e w' => e = .returned (.bool true) ∧ Below w.heap.size w w' := by
  unfold maxLen at hs
  by_cases h : s.size ≤ 1048576
  · have hci := fun w => impl_DecodeHex_any s w h
    have hcs := fun w => spec_DecodeHex_any s w h
    obtain ⟨r, b, hr⟩ := dehexR_form s.data.toList
    rw [hr] at hci hcs
    have Hi := Lib.hid hci
    have Hs := Lib.hid hcs
    clear hci hcs hr
    go_enter Try.func9, Try.ntmps9
    go_wp2_with fail
    refine (Hs.out _).mono ?_
    rintro e w1 ⟨rfl, b1⟩
    go_wp2_with fail
    refine (Hi.out _).mono ?_
    rintro e w2 ⟨rfl, b2⟩
    go_wp2_with fail
    go_ret
    exact ⟨rfl, b1.trans (b2.mono b1.size)⟩
  · go_enter Try.func9, Try.ntmps9
    go_wp2_with fail
    go_ret
    exact ⟨rfl, Below.refl _ _⟩
end Go.Proofs.Ytpcjcjemfjhkcaa
