/- FormatLocation: both texts. No condition but the size that the law lets in. -/
import Derived.Test.YtjeamafigaipcaaLocParse
import Derived.Test.YtjeamafigaipcaaFmt
namespace Go.Proofs.Ytjeamafigaipcaa
open Go.RowKit Go.Deep

def flocR (zs : List Int) : List UInt8 := if isLoc zs = true then dtext zs else []

set_option maxRecDepth 100000 in
set_option maxHeartbeats 400000 in
theorem impl_FormatLocation_any (A : Option Addr) (n c : Nat) (zs : List Int) (w : World) (hr : RdI w w.heap.size A n zs) (hn : n ≤ 1048576) :
    Calls Try.prog 35 #[.slice A n c] w fun e w' => e = .returned (.string ⟨(flocR zs).toArray⟩) ∧ Below w.heap.size w w' := by
  by_cases hloc : isLoc zs = true
  · have hf := Lib.hid (show flocR zs = dtext zs by rw [flocR, if_pos hloc])
    have hd := Lib.hid (show ∀ x ∈ zs, 0 ≤ x ∧ x ≤ 9 from fun x hx => by have := isLoc_mem hloc x hx; omega)
    go_enter Try.func35, Try.ntmps35
    go_wp2_with fail
    refine (impl_IsLocation_any _ _ _ zs _ hr (by omega)).mono ?_
    rintro e w' ⟨rfl, rfl⟩
    go_wp2_with fail
    refine (digitsText_any _ _ _ zs _ hr hn hd.out).mono ?_
    rintro e w1 ⟨rfl, hb⟩
    go_wp2_with fail
    go_ret
    exact ⟨by rw [hf.out] <;> rfl, hb⟩
  · have hloc' : isLoc zs = false := by simpa using hloc
    have hf := Lib.hid (show flocR zs = [] by rw [flocR, if_neg hloc])
    clear hloc
    go_enter Try.func35, Try.ntmps35
    go_wp2_with fail
    refine (impl_IsLocation_any _ _ _ zs _ hr (by omega)).mono ?_
    rintro e w' ⟨rfl, rfl⟩
    go_wp2_with fail
    go_ret
    exact ⟨by rw [hf.out] <;> rfl, Below.refl _ _⟩

theorem fmtI_digit {X : Nat} (h : X ≤ 9) : fmtI (X : Int) = [UInt8.ofNat (48 + X)] := by rw [fmtI_pos, decD_small (by omega)]

set_option maxRecDepth 100000 in
set_option maxHeartbeats 400000 in
theorem spec_FormatLocation_any (A : Option Addr) (n c : Nat) (zs : List Int) (w : World) (hr : RdI w w.heap.size A n zs) (hn : n ≤ 1048576) :
    Calls Try.prog 34 #[.slice A n c] w fun e w' => e = .returned (.string ⟨(flocR zs).toArray⟩) ∧ Below w.heap.size w w' := by
  have HL := Lib.hid hr.1
  by_cases hloc : isLoc zs = true
  · have hll := Lib.hid (show flocR zs = dtext zs by rw [flocR, if_pos hloc])
    have hm := Lib.hid (isLoc_mem hloc)
    go_enter Try.func34, Try.ntmps34
    go_wp2_with fail
    go_loopw [3, 4] (fun v i wr => ∃ (k : Nat) (p : List UInt8), k ≤ n ∧ p.length ≤ k ∧ i = .int .i64 k ∧ v = .string ⟨p.toArray⟩ ∧ Below w.heap.size w wr ∧ Hid (p = dtext (zs.take k))) (fun _ i _ => n - (intOf i).toNat)
    case atStart => exact ⟨0, [], by omega, by simp, rfl, rfl, Below.refl _ _, rfl⟩
    case round =>
      obtain ⟨k, p, hk, hpk, rfl, rfl, hbel, hinv⟩ := hrel
      have hsz := hbel.size
      by_cases hlt : k < n
      · obtain ⟨b', o', x, hA, hb', hx, hc'⟩ := hr.at_ hlt
        have hrr := hr.next hbel
        subst hA
        have hc2 := (hbel.cell (p := ⟨b', o' + k, none⟩) hb').trans hc'
        obtain ⟨hx0, hx7⟩ := hm.out x (List.mem_of_getElem? hx)
        obtain ⟨X, rfl⟩ := Int.eq_ofNat_of_zero_le hx0
        have hfi := Lib.hid (fmtI_digit (X := X) (by omega))
        have hst : Hid (p ++ [UInt8.ofNat (48 + X)] = dtext (zs.take (k + 1))) := by show _ = _; rw [List.take_add_one, hx, dtext, List.map_append, hinv.out]; rfl
        clear hc' hx
        go_wp2_with fail
        refine (spec_IsLocation_any _ _ _ zs _ hrr (by omega)).mono ?_
        rintro e w' ⟨rfl, rfl⟩
        go_wp2_with fail
        refine (spec_FormatInt_any _ _ (by omega) (by omega)).mono ?_
        rintro e w1 ⟨rfl, hb1⟩
        rw [hfi.out]
        go_wp2_with fail
        refine ⟨⟨k + 1, p ++ [UInt8.ofNat (48 + X)], by omega, by simp; omega, by go_num, by rw [dig_byte]; exact congrArg Value.string (bytes_append p [UInt8.ofNat (48 + X)]), below_chain hbel hb1 hsz, hst⟩, ?_⟩
        simp [intOf]
        omega
      · obtain rfl : k = n := by omega
        have hf : Hid (flocR zs = p) := by show flocR zs = p; rw [hll.out, hinv.out, List.take_of_length_le (Nat.le_of_eq HL.out)]
        go_wp2_with fail
        go_ret
        exact ⟨by rw [hf.out] <;> rfl, hbel⟩
  · have hloc' : isLoc zs = false := by simpa using hloc
    have hf := Lib.hid (show flocR zs = [] by rw [flocR, if_neg hloc])
    clear hloc
    by_cases h0 : 0 < n
    · go_enter Try.func34, Try.ntmps34
      go_wp2_with fail
      refine wp_loop_rounds 1 ?_
      rw [rounds_succ]
      go_wp2_with (go_at_call 16; refine (spec_IsLocation_any _ _ _ zs _ hr (by omega)).mono ?_; rintro e w' ⟨rfl, rfl⟩)
      go_ret
      exact ⟨by rw [hf.out] <;> rfl, Below.refl _ _⟩
    · go_enter Try.func34, Try.ntmps34
      go_wp2_with fail
      refine wp_loop_rounds 1 ?_
      rw [rounds_succ]
      go_wp2_with fail
      go_ret
      exact ⟨by rw [hf.out] <;> rfl, Below.refl _ _⟩
end Go.Proofs.Ytjeamafigaipcaa
