/- The laws on integer encodings: what is drawn, plain laws. No condition. -/
import Derived.Test.YtmojjbhjjhdpaaaDoorDraw3
import Derived.Test.YtmojjbhjjhdpaaaDoorParI
import Derived.Test.YtmojjbhjjhdpaaaDoorParS
namespace Go.Proofs.YtmojjbhjjhdpaaaDoor
open Go.RowKit Go.Deep

theorem rdC_of_row {w : World} {a : Option Addr} {len cap : Nat} {zs : List Int} (h : IsRow .u8 w a len cap zs) : RdC w w.heap.size a len := fun k hk => by
  rcases h with ⟨_, h0, _⟩ | ⟨x, rfl, hl, hm, hz, hcell, hwz⟩
  · omega
  · have hk2 : k < zs.length := by omega
    obtain ⟨b, o, spot⟩ := x
    have hc0 := hcell 0 (by omega)
    have hspot : spot = none := by simpa [Addr.add] using World.cell?_spot hc0
    subst hspot
    have hc := hcell k hk2
    have hw := hwz (zs.getD k 0) (by simp [List.getD, List.getElem?_eq_getElem hk2])
    rw [addr_add] at hc
    have h' : (decide (IntKind.u8.min ≤ zs.getD k 0) && decide (zs.getD k 0 ≤ IntKind.u8.max)) = true := hw
    have e1 : IntKind.u8.min = 0 := by decide
    have e2 : IntKind.u8.max = 255 := by decide
    rw [e1, e2] at h'
    simp only [Bool.and_eq_true, decide_eq_true_eq] at h'
    exact ⟨b, o, zs.getD k 0, rfl, World.block_lt_of_cell? w _ hc, hc, by omega, by omega⟩
theorem big_any (A : Option Addr) (n c : Nat) (w : World) : Calls Tryd.prog 41 #[.slice A n c] w fun e w' => e = .returned (.bool (decide ((1048576 : Int) < n))) ∧ w = w' := by
  by_cases h : (1048576 : Int) < n
  · have h2 := decide_eq_true h
    go_enter Tryd.func41, Tryd.ntmps41
    go_wp2_with fail
    go_ret
    exact ⟨by first | (rw [h2] <;> rfl) | rfl, rfl⟩
  · have h2 := decide_eq_false h
    go_enter Tryd.func41, Tryd.ntmps41
    go_wp2_with fail
    go_ret
    exact ⟨by first | (rw [h2] <;> rfl) | rfl, rfl⟩

set_option maxRecDepth 100000 in
theorem drawEncodeVarint_any (A : Option Addr) (n c : Nat) (w : World) (hr : RdC w w.heap.size A n) (hn : n ≤ 1048576) :
    Calls Tryd.prog 42 #[.slice A n c] w fun e w' => ∃ x : Int, e = .returned (.int .i64 x) ∧ I64 x ∧ Below w.heap.size w w' := by
  go_enter Tryd.func42, Tryd.ntmps42
  go_wp2_with fail
  refine (l1New_any A n c w hr hn).mono ?_
  rintro e w1 ⟨rfl, hc, b1⟩
  go_wp2_with fail
  refine (l1Num_any _ w1 hc).mono ?_
  rintro e w2 ⟨x, rfl, hx, hc2, hg⟩
  go_wp2_with fail
  go_ret
  exact ⟨x, rfl, hx, b1.trans (hg.below (Nat.le_refl _) b1.size)⟩
set_option maxRecDepth 100000 in
theorem drawEncodeHex_any (A : Option Addr) (n c : Nat) (w : World) (hr : RdC w w.heap.size A n) (hn : n ≤ 1048576) :
    Calls Tryd.prog 43 #[.slice A n c] w fun e w' => ∃ x : ByteArray, e = .returned (.string x) ∧ x.size ≤ 40 ∧ Below w.heap.size w w' := by
  go_enter Tryd.func43, Tryd.ntmps43
  go_wp2_with fail
  refine (l1New_any A n c w hr hn).mono ?_
  rintro e w1 ⟨rfl, hc, b1⟩
  go_wp2_with fail
  refine (l1Text_any _ 40 w1 hc (by omega)).mono ?_
  rintro e w2 ⟨x, rfl, hx, hc2, hg⟩
  go_wp2_with fail
  go_ret
  exact ⟨x, rfl, hx, b1.trans (hg.below (Nat.le_refl _) b1.size)⟩
set_option maxRecDepth 100000 in
theorem drawEncodeFixed_any (A : Option Addr) (n c : Nat) (w : World) (hr : RdC w w.heap.size A n) (hn : n ≤ 1048576) :
    Calls Tryd.prog 46 #[.slice A n c] w fun e w' => ∃ x y : Int, e = .returned (.tuple #[.int .i64 x, .int .i64 y]) ∧ (I64 x ∧ -1 ≤ y ∧ y ≤ 8) ∧ Below w.heap.size w w' := by
  go_enter Tryd.func46, Tryd.ntmps46
  go_wp2_with fail
  refine (l1New_any A n c w hr hn).mono ?_
  rintro e w1 ⟨rfl, hc, b1⟩
  go_wp2_with fail
  refine (l1Num_any _ w1 hc).mono ?_
  rintro e w2 ⟨x, rfl, hx, hc2, hg2⟩
  go_wp2_with fail
  refine (l1Below_any _ 10 w2 hc2 (by omega)).mono ?_
  rintro e w3 ⟨y, rfl, ⟨hy0, hy1⟩, hc3, hg3⟩
  go_wp2_with fail
  go_ret2
  exact ⟨x, y - 1, rfl, ⟨hx, by omega, by omega⟩, b1.trans ((hg2.trans hg3).below (Nat.le_refl _) b1.size)⟩

theorem encv_len (j : Nat) : ∀ N : Nat, N < 128 ^ (j + 1) → (encv N).length ≤ j + 1 := by
  induction j with
  | zero => intro N h; rw [encv_small (by simpa using h)]; simp
  | succ j ih =>
    intro N h
    by_cases h2 : N < 128
    · rw [encv_small h2]; simp
    · rw [encv_big h2, List.length_cons]
      have := ih (N / 128) (by rw [Nat.pow_succ] at h; exact Nat.div_lt_of_lt_mul (by rw [Nat.mul_comm]; exact h))
      omega
theorem decV_exists (l : List UInt8) : ∃ n k, DecV l n k := by
  by_cases h : ∃ k, IsV l k
  · obtain ⟨k, hk⟩ := h
    exact ⟨_, k, .inl ⟨hk, rfl⟩⟩
  · exact ⟨0, 0, .inr ⟨rfl, rfl, fun j hj => h ⟨j, hj⟩⟩⟩
theorem decV_enc {N : Nat} (h : N ≤ 562949953421311) (t : List UInt8) : DecV (encv N ++ t) N (encv N).length := by
  have h1 := encv_pos N
  have h2 := encv_len 6 N (by omega)
  have e : (encv N ++ t).take (encv N).length = encv N := List.take_left' rfl
  refine .inl ⟨⟨h1, h2, by simp, ?_⟩, ?_⟩
  · rw [e, valV_encv]
  · rw [e, valV_encv]
theorem decF_encF : ∀ (d N : Nat), decF (encF d N) = N % 256 ^ d
  | 0, N => by simp [encF, decF, Nat.mod_one]
  | d + 1, N => by
    have ih := decF_encF d (N / 256)
    rw [encF, decF_snoc, ih, ofNat_toNat (by omega), Nat.pow_succ, Nat.mul_comm (256 ^ d) 256, Nat.mod_mul]
    omega
theorem dehex_hexOf : ∀ l : List UInt8, dehex (hexOf l) = some l
  | [] => rfl
  | b :: l => by
    have ih := dehex_hexOf l
    have hb : b.toNat < 256 := b.toNat_lt
    have e1 := unhex_hexD ⟨b.toNat / 16, by omega⟩
    have e2 := unhex_hexD ⟨b.toNat % 16, by omega⟩
    have e : hexOf (b :: l) = hexD (b.toNat / 16) :: hexD (b.toNat % 16) :: hexOf l := rfl
    simp only at e1 e2
    rw [e, dehex, ih, e1, e2, if_neg (by omega)]
    simp only [Option.map_some, Int.toNat_natCast]
    congr 2
    have : 16 * (b.toNat / 16) + b.toNat % 16 = b.toNat := by omega
    rw [this]
    exact UInt8.ofNat_toNat
theorem hexOf_len : ∀ l : List UInt8, (hexOf l).length = 2 * l.length
  | [] => rfl
  | b :: l => by
    have ih := hexOf_len l
    show (hexD (b.toNat / 16) :: hexD (b.toNat % 16) :: hexOf l).length = _
    simp only [List.length_cons, ih]
    omega
end Go.Proofs.YtmojjbhjjhdpaaaDoor
