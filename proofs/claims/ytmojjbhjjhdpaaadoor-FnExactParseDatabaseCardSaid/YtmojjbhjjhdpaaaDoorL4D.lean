/- spec.l4Digits: one digit for each number. No condition but the size that the laws let in. -/
import Derived.Test.YtmojjbhjjhdpaaaDoorDig
import Derived.Test.YtmojjbhjjhdpaaaDoorFmt
import Derived.Test.YtmojjbhjjhdpaaaDoorIsTab
namespace Go.Proofs.YtmojjbhjjhdpaaaDoor
open Go.RowKit Go.Deep

theorem fmtI_digit' {X : Nat} (h : X ≤ 9) : fmtI (X : Int) = [UInt8.ofNat (48 + X)] := by rw [fmtI_pos, decD_small (by omega)]
theorem rowB_dig {zs : List Int} {m : Int} (h : rowB zs m = true) : ∀ x ∈ zs, 0 ≤ x ∧ x ≤ 9 := fun x hx => by
  unfold rowB at h
  simp [inB] at h
  exact h.1 x hx

set_option maxRecDepth 100000 in
set_option maxHeartbeats 400000 in
theorem l4Digits_any (A : Option Addr) (n c : Nat) (zs : List Int) (w : World) (hr : RdI w w.heap.size A n zs) (hn : n ≤ 1048576) (hdig : ∀ x ∈ zs, 0 ≤ x ∧ x ≤ 9) :
    Calls Tryd.prog 73 #[.slice A n c] w fun e w' => e = .returned (.string ⟨(dtext zs).toArray⟩) ∧ Below w.heap.size w w' := by
  have HL := Lib.hid hr.1
  have HD := Lib.hid hdig
  clear hdig
  go_enter Tryd.func73, Tryd.ntmps73
  go_wp2_with fail
  go_loopw [3, 4] (fun v i wr => ∃ (k : Nat) (p : List UInt8), k ≤ n ∧ p.length ≤ k ∧ i = .int .i64 k ∧ v = .string ⟨p.toArray⟩ ∧ Below w.heap.size w wr ∧ Hid (p = dtext (zs.take k))) (fun _ i _ => n - (intOf i).toNat)
  case atStart => exact ⟨0, [], by omega, by simp, rfl, rfl, Below.refl _ _, rfl⟩
  case round =>
    obtain ⟨k, p, hk, hpk, rfl, rfl, hbel, hinv⟩ := hrel
    have hsz := hbel.size
    by_cases hlt : k < n
    · obtain ⟨b', o', x, hA, hb', hx, hc'⟩ := hr.at_ hlt
      subst hA
      have hc2 := (hbel.cell (p := ⟨b', o' + k, none⟩) hb').trans hc'
      obtain ⟨hx0, hx9⟩ := HD.out x (List.mem_of_getElem? hx)
      obtain ⟨X, rfl⟩ := Int.eq_ofNat_of_zero_le hx0
      have hfi := Lib.hid (fmtI_digit' (X := X) (by omega))
      have hst : Hid (p ++ [UInt8.ofNat (48 + X)] = dtext (zs.take (k + 1))) := by show _ = _; rw [List.take_add_one, hx, dtext, List.map_append, hinv.out]; rfl
      clear hc' hx
      go_wp2_with fail
      refine (spec_FormatInt_any _ _ (by omega) (by omega)).mono ?_
      rintro e w1 ⟨rfl, hb1⟩
      rw [hfi.out]
      go_wp2_with fail
      refine ⟨⟨k + 1, p ++ [UInt8.ofNat (48 + X)], by omega, by simp; omega, by go_num, by rw [dig_byte]; exact congrArg Value.string (bytes_append p [UInt8.ofNat (48 + X)]), below_chain hbel hb1 hsz, hst⟩, ?_⟩
      simp [intOf]
      omega
    · obtain rfl : k = n := by omega
      have hf : Hid (p = dtext zs) := by show p = dtext zs; rw [hinv.out, List.take_of_length_le (Nat.le_of_eq HL.out)]
      go_wp2_with fail
      go_ret
      exact ⟨by rw [hf.out] <;> rfl, hbel⟩
end Go.Proofs.YtmojjbhjjhdpaaaDoor
