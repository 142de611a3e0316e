/- EqualUpdates: both texts. No condition but the size that the laws let in. -/
import Derived.Test.YtimlecfneibjlaaEqI
import Derived.Test.YtimlecfneibjlaaUpd
namespace Go.Proofs.Ytimlecfneibjlaa
open Go.RowKit Go.Deep

/-- Two updates are the same. -/
def eqU (nm nm' : ByteArray) (ins ins' : Bool) (zs zs' : List Int) : Bool := decide (nm = nm' ∧ ins = ins' ∧ zs = zs')
theorem str_eqt (a : ByteArray) : (a.toList == a.toList) = true := by simp
theorem compareZero_q (A A' : Option Addr) (n c n' c' : Nat) (zs zs' : List Int) (w : World) (hr : RdI w w.heap.size A n zs) (hr' : RdI w w.heap.size A' n' zs') (hn : n ≤ 9223372036854775807) (hn' : n' ≤ 9223372036854775807) :
    ∃ r : Int, (r == 0) = decide (zs = zs') ∧ Calls Try.prog 81 #[.slice A n c, .slice A' n' c'] w fun e w' => e = .returned (.int .i64 r) ∧ Qt w w' :=
  ⟨cmpL zs zs', by rw [Bool.eq_iff_iff]; simp [cmpL_zero], spec_CompareRows_q A A' n c n' c' zs zs' w hr hr' hn hn'⟩

set_option maxRecDepth 100000 in
set_option maxHeartbeats 400000 in
theorem impl_EqualUpdates_any (nm nm' : ByteArray) (ins ins' : Bool) (A A' : Option Addr) (n c n' c' B B' : Nat) (zs zs' : List Int) (w : World) (hr : RdI w B A n zs) (hr' : RdI w B' A' n' zs') (hB : B ≤ w.heap.size) (hB' : B' ≤ w.heap.size) (hn : n ≤ 9223372036854775807) (hn' : n' ≤ 9223372036854775807) :
    Calls Try.prog 44 #[.agg #[.string nm, .bool ins, .slice A n c], .agg #[.string nm', .bool ins', .slice A' n' c']] w fun e w' => e = .returned (.bool (eqU nm nm' ins ins' zs zs')) ∧ Below w.heap.size w w' := by
  have HB := Lib.hid (Below.refl w.heap.size w)
  by_cases h1 : nm = nm'
  · subst h1
    by_cases h2 : ins = ins'
    · subst h2
      have hf : Hid (eqU nm nm ins ins zs zs' = decide (zs = zs')) := by show _ = _; simp [eqU]
      have q2 : (ins == ins) = true := by simp
      go_enter Try.func44, Try.ntmps44
      go_wp2_with fail
      refine (slicesEqual_q A A' n c n' c' zs zs' _ ((RdI.belowB hr (((Below.refl B w).alloc hB _).alloc (by simp; omega) _) (Nat.le_refl _)).more (by simp; omega)) ((RdI.belowB hr' (((Below.refl B' w).alloc hB' _).alloc (by simp; omega) _) (Nat.le_refl _)).more (by simp; omega)) hn hn').mono ?_
      rintro e w1 ⟨rfl, hq⟩
      have hbel := Lib.hid ((((HB.out).alloc (Nat.le_refl _) _).alloc (by simp) _).trans (hq.below _))
      clear hq
      go_wp2_with fail
      go_ret
      exact ⟨by rw [hf.out] <;> rfl, hbel.out⟩
    · have hf : Hid (eqU nm nm ins ins' zs zs' = false) := by show _ = _; simp [eqU, h2]
      have q2 : (ins == ins') = false := by simpa using h2
      clear h2
      go_enter Try.func44, Try.ntmps44
      go_wp2_with fail
      go_ret
      exact ⟨by rw [hf.out] <;> rfl, ((HB.out).alloc (Nat.le_refl _) _).alloc (by simp) _⟩
  · have hf : Hid (eqU nm nm' ins ins' zs zs' = false) := by show _ = _; simp [eqU, h1]
    have q1 := str_eq0 h1
    clear h1
    go_enter Try.func44, Try.ntmps44
    go_wp2_with fail
    go_ret
    exact ⟨by rw [hf.out] <;> rfl, ((HB.out).alloc (Nat.le_refl _) _).alloc (by simp) _⟩

set_option maxRecDepth 100000 in
set_option maxHeartbeats 400000 in
theorem spec_EqualUpdates_any (nm nm' : ByteArray) (ins ins' : Bool) (A A' : Option Addr) (n c n' c' B B' : Nat) (zs zs' : List Int) (w : World) (hr : RdI w B A n zs) (hr' : RdI w B' A' n' zs') (hB : B ≤ w.heap.size) (hB' : B' ≤ w.heap.size) (hn : n ≤ 9223372036854775807) (hn' : n' ≤ 9223372036854775807) :
    Calls Try.prog 42 #[.agg #[.string nm, .bool ins, .slice A n c], .agg #[.string nm', .bool ins', .slice A' n' c']] w fun e w' => e = .returned (.bool (eqU nm nm' ins ins' zs zs')) ∧ Below w.heap.size w w' := by
  have HB := Lib.hid (Below.refl w.heap.size w)
  by_cases h1 : nm = nm'
  · subst h1
    by_cases h2 : ins = ins'
    · subst h2
      have hf : Hid (eqU nm nm ins ins zs zs' = decide (zs = zs')) := by show _ = _; simp [eqU]
      have q2 : (ins == ins) = true := by simp
      obtain ⟨r, hrz, KC⟩ := compareZero_q A A' n c n' c' zs zs' ((w.alloc (.cells #[.string nm, .bool ins, .slice A n c] 64)).alloc (.cells #[.string nm, .bool ins, .slice A' n' c'] 64)) ((RdI.belowB hr (((Below.refl B w).alloc hB _).alloc (by simp; omega) _) (Nat.le_refl _)).more (by simp; omega)) ((RdI.belowB hr' (((Below.refl B' w).alloc hB' _).alloc (by simp; omega) _) (Nat.le_refl _)).more (by simp; omega)) hn hn'
      have HZ := Lib.hid hrz
      clear hrz
      go_enter Try.func42, Try.ntmps42
      go_wp2_with fail
      refine KC.mono ?_
      rintro e w1 ⟨rfl, hq⟩
      have hbel := Lib.hid ((((HB.out).alloc (Nat.le_refl _) _).alloc (by simp) _).trans (hq.below _))
      clear hq
      go_wp2_with fail
      go_ret
      exact ⟨by rw [hf.out, ← HZ.out] <;> rfl, hbel.out⟩
    · have hf : Hid (eqU nm nm ins ins' zs zs' = false) := by show _ = _; simp [eqU, h2]
      have q2 : (ins == ins') = false := by simpa using h2
      clear h2
      go_enter Try.func42, Try.ntmps42
      go_wp2_with fail
      go_ret
      exact ⟨by rw [hf.out] <;> rfl, ((HB.out).alloc (Nat.le_refl _) _).alloc (by simp) _⟩
  · have hf : Hid (eqU nm nm' ins ins' zs zs' = false) := by show _ = _; simp [eqU, h1]
    have q1 := str_eq0 h1
    clear h1
    go_enter Try.func42, Try.ntmps42
    go_wp2_with fail
    go_ret
    exact ⟨by rw [hf.out] <;> rfl, ((HB.out).alloc (Nat.le_refl _) _).alloc (by simp) _⟩
end Go.Proofs.Ytimlecfneibjlaa
