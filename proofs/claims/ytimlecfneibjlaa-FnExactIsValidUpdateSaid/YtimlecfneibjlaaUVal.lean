/- IsValidUpdate: both texts. No condition but the size that the laws let in. -/
import Derived.Test.YtimlecfneibjlaaUApp
namespace Go.Proofs.Ytimlecfneibjlaa
open Go.RowKit Go.Deep

set_option maxRecDepth 100000 in
set_option maxHeartbeats 1000000 in
theorem impl_IsValidUpdate_any (A : Option Addr) (n c B : Nat) (ts : List Tab) (nm : ByteArray) (ins : Bool) (A' : Option Addr) (n' c' : Nat) (r : List Int) (w : World) (hr : RdT w B A n ts) (hB : B ≤ w.heap.size) (hn : n ≤ 1048576) (hs : sumT ts ≤ 1048576) (hr' : RdI w B A' n' r) (hn' : n' ≤ 1048576) (hnm : nm.size ≤ maxLen) :
    Calls Try.prog 55 #[.agg #[.slice A n c], .agg #[.string nm, .bool ins, .slice A' n' c']] w fun e w' => e = .returned (.bool (appR ts nm ins r).2) ∧ Below w.heap.size w w' := by
  have HB := Lib.hid (Below.refl w.heap.size w)
  go_enter Try.func55, Try.ntmps55
  go_wp2_with fail
  refine (impl_ApplyUpdate_any A n c B ts nm ins A' n' c' r _ (RdT.belowB hr (((Below.refl B w).alloc hB _).alloc (by simp; omega) _) (Nat.le_refl _)) (by simp; omega) hn hs (RdI.belowB hr' (((Below.refl B w).alloc hB _).alloc (by simp; omega) _) (Nat.le_refl _)) hn' hnm).mono ?_
  rintro e w1 ⟨A1, c1, rfl, ho, hb⟩
  obtain ⟨R, hR⟩ : ∃ R, appR ts nm ins r = R := ⟨_, rfl⟩
  rw [hR] at ho ⊢
  have HR := Lib.hid hR
  clear hR
  have hbel := Lib.hid ((((HB.out).alloc (Nat.le_refl _) _).alloc (by simp) _).trans (hb.mono (by simp; omega)))
  clear ho hb
  go_wp2_with fail
  go_ret
  exact ⟨by rw [HR.out] <;> rfl, hbel.out.alloc hbel.out.size _⟩

set_option maxRecDepth 100000 in
set_option maxHeartbeats 1000000 in
theorem spec_IsValidUpdate_any (A : Option Addr) (n c B : Nat) (ts : List Tab) (nm : ByteArray) (ins : Bool) (A' : Option Addr) (n' c' : Nat) (r : List Int) (w : World) (hr : RdT w B A n ts) (hB : B ≤ w.heap.size) (hn : n ≤ 1048576) (hs : sumT ts ≤ 1048576) (hr' : RdI w B A' n' r) (hn' : n' ≤ 1048576) (hnm : nm.size ≤ maxLen) :
    Calls Try.prog 54 #[.agg #[.slice A n c], .agg #[.string nm, .bool ins, .slice A' n' c']] w fun e w' => e = .returned (.bool (appR ts nm ins r).2) ∧ Below w.heap.size w w' := by
  have HB := Lib.hid (Below.refl w.heap.size w)
  go_enter Try.func54, Try.ntmps54
  go_wp2_with fail
  refine (spec_ApplyUpdate_any A n c B ts nm ins A' n' c' r _ (RdT.belowB hr (((Below.refl B w).alloc hB _).alloc (by simp; omega) _) (Nat.le_refl _)) (by simp; omega) hn hs (RdI.belowB hr' (((Below.refl B w).alloc hB _).alloc (by simp; omega) _) (Nat.le_refl _)) hn' hnm).mono ?_
  rintro e w1 ⟨A1, c1, rfl, ho, hb⟩
  obtain ⟨R, hR⟩ : ∃ R, appR ts nm ins r = R := ⟨_, rfl⟩
  rw [hR] at ho ⊢
  have HR := Lib.hid hR
  clear hR
  have hbel := Lib.hid ((((HB.out).alloc (Nat.le_refl _) _).alloc (by simp) _).trans (hb.mono (by simp; omega)))
  clear ho hb
  go_wp2_with fail
  go_ret
  exact ⟨by rw [HR.out] <;> rfl, hbel.out.alloc hbel.out.size _⟩
end Go.Proofs.Ytimlecfneibjlaa
