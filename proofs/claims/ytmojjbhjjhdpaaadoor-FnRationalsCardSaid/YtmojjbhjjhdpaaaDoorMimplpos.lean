/- MakeRational, one text, one sign of den. No condition but that an int is an int. -/
import Derived.Test.YtmojjbhjjhdpaaaDoorRatM
import Derived.Deep.RegionHeld3
namespace Go.Proofs.YtmojjbhjjhdpaaaDoor
open Go.RowKit

set_option maxRecDepth 100000 in
set_option maxHeartbeats 1000000 in
theorem impl_Make_pos (n d N D : Int) (w : World) (hN : N = -n) (hD : D = -d) (hd : 1 ≤ d ∧ d ≤ 9223372036854775807) (hn1 : -9223372036854775807 ≤ n) (hn2 : n ≤ 9223372036854775807) :
    Calls Tryd.prog 63 #[.int .i64 n, .int .i64 d] w fun e w' => e = .returned (ratV (makeP n d)) ∧ Below w.heap.size w w' := by
  obtain ⟨hda, hdb⟩ := hd
  obtain ⟨z, g1, u1, u2⟩ := gcd_facts (n := n) (d := d) (by omega) (by omega) (by omega) (by omega)
  have m1 : IntKind.i64.wrap (-n) = N := (IntWalk.i64_in _ (by omega)).trans hN.symm
  have m2 : IntKind.i64.wrap (-d) = D := (IntWalk.i64_in _ (by omega)).trans hD.symm
  have z0 : ¬ d = 0 := by omega
  have z1 : (d == 0) = false := by simp; omega
  have z2 : (d == D) = false := by simp; omega
  have z3 : decide (d < 0) = false := by simp; omega
  have KG := Lib.hid (fun W => impl_gcd_any n d W (by omega) (by omega) (by omega) (by omega))
  have hlast : ∀ v, validR (n.tdiv (Int.gcd n d)) (d.tdiv (Int.gcd n d)) = v → Hid (ratV (makeP n d) = .tuple #[.agg #[.int .i64 (if v then n.tdiv (Int.gcd n d) else 0), .int .i64 (if v then d.tdiv (Int.gcd n d) else 0)], .bool v]) := fun v hv => by
    cases v with | false => exact ratV_of (makeP_2 hv) | true => exact ratV_of (makeP_1 hv)
  cases hv : validR (n.tdiv (Int.gcd n d)) (d.tdiv (Int.gcd n d)) with
  | false =>
    have hf := hlast _ hv
    clear hlast
    by_cases hn0 : n = 0
    · have z5 : (n == N) = true := by simp; omega
      have z6 : (n != 0) = false := by simp; omega
      have z9 : (n == 0) = true := by simp; omega
      clear hn0 hN hD
      go_enter Tryd.func63, Tryd.ntmps63
      go_wp2_with fail
      refine (KG.out _).mono ?_
      rintro e w1 ⟨rfl, hb⟩
      obtain ⟨hc, hf'⟩ := bcell hb
      have hs := hb.size
      simp at hs
      have hbel : Below w.heap.size w w1 := ((Below.refl _ _).alloc (Nat.le_refl _) _).trans (hb.mono (by simp))
      have k0 : w1.cell? ⟨w.heap.size, 0, none⟩ = some (.int .i64 0) := by rw [hc _ _ (by simp)]; simp [go_sem]
      have k1 : w1.cell? ⟨w.heap.size, 1, none⟩ = some (.int .i64 0) := by rw [hc _ _ (by simp)]; simp [go_sem]
      have k2 : w1.frozen? ⟨w.heap.size, 0, none⟩ = false := by rw [hf' _ _ (by simp)]; simp [go_sem]
      have k3 : w1.frozen? ⟨w.heap.size, 1, none⟩ = false := by rw [hf' _ _ (by simp)]; simp [go_sem]
      clear hc hf' hb
      go_wp2_with fail
      go_region_held3 (fun _ => True) (trivial) (fail)
      go_wp2_with fail
      refine (impl_IsValid_any _ _ _).mono ?_
      rintro e w2 ⟨rfl, hb2⟩
      obtain ⟨hc2, hf2'⟩ := bcell hb2
      have hs2 := hb2.size
      simp at hs2
      have hbel2 : Below w.heap.size w w2 := (((hbel.alloc (by omega) _).drew)).trans (hb2.mono (by simp; omega))
      have q0 : w2.cell? ⟨w.heap.size, 0, none⟩ = some (.int .i64 0) := by rw [hc2 _ _ (by simp; omega)]; exact (((Below.refl w1.heap.size w1).alloc (Nat.le_refl _) _).drew.cell (p := ⟨w.heap.size, 0, none⟩) (by show w.heap.size < _; omega)).trans k0
      have q1 : w2.cell? ⟨w.heap.size, 1, none⟩ = some (.int .i64 0) := by rw [hc2 _ _ (by simp; omega)]; exact (((Below.refl w1.heap.size w1).alloc (Nat.le_refl _) _).drew.cell (p := ⟨w.heap.size, 1, none⟩) (by show w.heap.size < _; omega)).trans k1
      have q2 : w2.frozen? ⟨w.heap.size, 0, none⟩ = false := by rw [hf2' _ _ (by simp; omega)]; exact (((Below.refl w1.heap.size w1).alloc (Nat.le_refl _) _).drew.frozen (p := ⟨w.heap.size, 0, none⟩) (by show w.heap.size < _; omega)).trans k2
      have q3 : w2.frozen? ⟨w.heap.size, 1, none⟩ = false := by rw [hf2' _ _ (by simp; omega)]; exact (((Below.refl w1.heap.size w1).alloc (Nat.le_refl _) _).drew.frozen (p := ⟨w.heap.size, 1, none⟩) (by show w.heap.size < _; omega)).trans k3
      clear hc2 hf2' hb2
      go_wp2_with fail
      refine bodyPost_ret (v := .tuple #[.agg #[.int .i64 0, .int .i64 0], .bool false]) (by simp [results, Tryd.results63, go_sem, *]) rfl ⟨by rw [hf.out] <;> rfl, ?_⟩
      repeat first | exact hbel2 | (refine Below.setCell ?_ ?_ _; rotate_left; (simp; try omega)) | (refine Below.alloc ?_ ?_ _; rotate_left; (simp; try omega)) | refine Below.drew ?_
    · have z5 : (n == N) = false := by simp; omega
      have z6 : (n != 0) = true := by simp; omega
      have z9 : (n == 0) = false := by simp; omega
      clear hn0 hN hD
      go_enter Tryd.func63, Tryd.ntmps63
      go_wp2_with fail
      refine (KG.out _).mono ?_
      rintro e w1 ⟨rfl, hb⟩
      obtain ⟨hc, hf'⟩ := bcell hb
      have hs := hb.size
      simp at hs
      have hbel : Below w.heap.size w w1 := ((Below.refl _ _).alloc (Nat.le_refl _) _).trans (hb.mono (by simp))
      have k0 : w1.cell? ⟨w.heap.size, 0, none⟩ = some (.int .i64 0) := by rw [hc _ _ (by simp)]; simp [go_sem]
      have k1 : w1.cell? ⟨w.heap.size, 1, none⟩ = some (.int .i64 0) := by rw [hc _ _ (by simp)]; simp [go_sem]
      have k2 : w1.frozen? ⟨w.heap.size, 0, none⟩ = false := by rw [hf' _ _ (by simp)]; simp [go_sem]
      have k3 : w1.frozen? ⟨w.heap.size, 1, none⟩ = false := by rw [hf' _ _ (by simp)]; simp [go_sem]
      clear hc hf' hb
      go_wp2_with fail
      go_region_held3 (fun _ => True) (trivial) (fail)
      go_wp2_with fail
      refine (impl_IsValid_any _ _ _).mono ?_
      rintro e w2 ⟨rfl, hb2⟩
      obtain ⟨hc2, hf2'⟩ := bcell hb2
      have hs2 := hb2.size
      simp at hs2
      have hbel2 : Below w.heap.size w w2 := (((hbel.alloc (by omega) _).drew)).trans (hb2.mono (by simp; omega))
      have q0 : w2.cell? ⟨w.heap.size, 0, none⟩ = some (.int .i64 0) := by rw [hc2 _ _ (by simp; omega)]; exact (((Below.refl w1.heap.size w1).alloc (Nat.le_refl _) _).drew.cell (p := ⟨w.heap.size, 0, none⟩) (by show w.heap.size < _; omega)).trans k0
      have q1 : w2.cell? ⟨w.heap.size, 1, none⟩ = some (.int .i64 0) := by rw [hc2 _ _ (by simp; omega)]; exact (((Below.refl w1.heap.size w1).alloc (Nat.le_refl _) _).drew.cell (p := ⟨w.heap.size, 1, none⟩) (by show w.heap.size < _; omega)).trans k1
      have q2 : w2.frozen? ⟨w.heap.size, 0, none⟩ = false := by rw [hf2' _ _ (by simp; omega)]; exact (((Below.refl w1.heap.size w1).alloc (Nat.le_refl _) _).drew.frozen (p := ⟨w.heap.size, 0, none⟩) (by show w.heap.size < _; omega)).trans k2
      have q3 : w2.frozen? ⟨w.heap.size, 1, none⟩ = false := by rw [hf2' _ _ (by simp; omega)]; exact (((Below.refl w1.heap.size w1).alloc (Nat.le_refl _) _).drew.frozen (p := ⟨w.heap.size, 1, none⟩) (by show w.heap.size < _; omega)).trans k3
      clear hc2 hf2' hb2
      go_wp2_with fail
      refine bodyPost_ret (v := .tuple #[.agg #[.int .i64 0, .int .i64 0], .bool false]) (by simp [results, Tryd.results63, go_sem, *]) rfl ⟨by rw [hf.out] <;> rfl, ?_⟩
      repeat first | exact hbel2 | (refine Below.setCell ?_ ?_ _; rotate_left; (simp; try omega)) | (refine Below.alloc ?_ ?_ _; rotate_left; (simp; try omega)) | refine Below.drew ?_
  | true =>
    have hf := hlast _ hv
    clear hlast
    by_cases hn0 : n = 0
    · have z5 : (n == N) = true := by simp; omega
      have z6 : (n != 0) = false := by simp; omega
      have z9 : (n == 0) = true := by simp; omega
      clear hn0 hN hD
      go_enter Tryd.func63, Tryd.ntmps63
      go_wp2_with fail
      refine (KG.out _).mono ?_
      rintro e w1 ⟨rfl, hb⟩
      obtain ⟨hc, hf'⟩ := bcell hb
      have hs := hb.size
      simp at hs
      have hbel : Below w.heap.size w w1 := ((Below.refl _ _).alloc (Nat.le_refl _) _).trans (hb.mono (by simp))
      have k0 : w1.cell? ⟨w.heap.size, 0, none⟩ = some (.int .i64 0) := by rw [hc _ _ (by simp)]; simp [go_sem]
      have k1 : w1.cell? ⟨w.heap.size, 1, none⟩ = some (.int .i64 0) := by rw [hc _ _ (by simp)]; simp [go_sem]
      have k2 : w1.frozen? ⟨w.heap.size, 0, none⟩ = false := by rw [hf' _ _ (by simp)]; simp [go_sem]
      have k3 : w1.frozen? ⟨w.heap.size, 1, none⟩ = false := by rw [hf' _ _ (by simp)]; simp [go_sem]
      clear hc hf' hb
      go_wp2_with fail
      go_region_held3 (fun _ => True) (trivial) (fail)
      go_wp2_with fail
      refine (impl_IsValid_any _ _ _).mono ?_
      rintro e w2 ⟨rfl, hb2⟩
      obtain ⟨hc2, hf2'⟩ := bcell hb2
      have hs2 := hb2.size
      simp at hs2
      have hbel2 : Below w.heap.size w w2 := (((hbel.alloc (by omega) _).drew)).trans (hb2.mono (by simp; omega))
      have q0 : w2.cell? ⟨w.heap.size, 0, none⟩ = some (.int .i64 0) := by rw [hc2 _ _ (by simp; omega)]; exact (((Below.refl w1.heap.size w1).alloc (Nat.le_refl _) _).drew.cell (p := ⟨w.heap.size, 0, none⟩) (by show w.heap.size < _; omega)).trans k0
      have q1 : w2.cell? ⟨w.heap.size, 1, none⟩ = some (.int .i64 0) := by rw [hc2 _ _ (by simp; omega)]; exact (((Below.refl w1.heap.size w1).alloc (Nat.le_refl _) _).drew.cell (p := ⟨w.heap.size, 1, none⟩) (by show w.heap.size < _; omega)).trans k1
      have q2 : w2.frozen? ⟨w.heap.size, 0, none⟩ = false := by rw [hf2' _ _ (by simp; omega)]; exact (((Below.refl w1.heap.size w1).alloc (Nat.le_refl _) _).drew.frozen (p := ⟨w.heap.size, 0, none⟩) (by show w.heap.size < _; omega)).trans k2
      have q3 : w2.frozen? ⟨w.heap.size, 1, none⟩ = false := by rw [hf2' _ _ (by simp; omega)]; exact (((Below.refl w1.heap.size w1).alloc (Nat.le_refl _) _).drew.frozen (p := ⟨w.heap.size, 1, none⟩) (by show w.heap.size < _; omega)).trans k3
      have q4 : w2.cell? ⟨w1.heap.size, 0, none⟩ = some (.int .i64 (n.tdiv (Int.gcd n d))) := by rw [hc2 _ _ (by simp)]; simp [go_sem]
      have q5 : w2.cell? ⟨w1.heap.size, 1, none⟩ = some (.int .i64 (d.tdiv (Int.gcd n d))) := by rw [hc2 _ _ (by simp)]; simp [go_sem]
      clear hc2 hf2' hb2
      go_wp2_with fail
      refine bodyPost_ret (v := .tuple #[.agg #[.int .i64 (n.tdiv (Int.gcd n d)), .int .i64 (d.tdiv (Int.gcd n d))], .bool true]) (by simp [results, Tryd.results63, go_sem, *]) rfl ⟨by rw [hf.out] <;> rfl, ?_⟩
      repeat first | exact hbel2 | (refine Below.setCell ?_ ?_ _; rotate_left; (simp; try omega)) | (refine Below.alloc ?_ ?_ _; rotate_left; (simp; try omega)) | refine Below.drew ?_
    · have z5 : (n == N) = false := by simp; omega
      have z6 : (n != 0) = true := by simp; omega
      have z9 : (n == 0) = false := by simp; omega
      clear hn0 hN hD
      go_enter Tryd.func63, Tryd.ntmps63
      go_wp2_with fail
      refine (KG.out _).mono ?_
      rintro e w1 ⟨rfl, hb⟩
      obtain ⟨hc, hf'⟩ := bcell hb
      have hs := hb.size
      simp at hs
      have hbel : Below w.heap.size w w1 := ((Below.refl _ _).alloc (Nat.le_refl _) _).trans (hb.mono (by simp))
      have k0 : w1.cell? ⟨w.heap.size, 0, none⟩ = some (.int .i64 0) := by rw [hc _ _ (by simp)]; simp [go_sem]
      have k1 : w1.cell? ⟨w.heap.size, 1, none⟩ = some (.int .i64 0) := by rw [hc _ _ (by simp)]; simp [go_sem]
      have k2 : w1.frozen? ⟨w.heap.size, 0, none⟩ = false := by rw [hf' _ _ (by simp)]; simp [go_sem]
      have k3 : w1.frozen? ⟨w.heap.size, 1, none⟩ = false := by rw [hf' _ _ (by simp)]; simp [go_sem]
      clear hc hf' hb
      go_wp2_with fail
      go_region_held3 (fun _ => True) (trivial) (fail)
      go_wp2_with fail
      refine (impl_IsValid_any _ _ _).mono ?_
      rintro e w2 ⟨rfl, hb2⟩
      obtain ⟨hc2, hf2'⟩ := bcell hb2
      have hs2 := hb2.size
      simp at hs2
      have hbel2 : Below w.heap.size w w2 := (((hbel.alloc (by omega) _).drew)).trans (hb2.mono (by simp; omega))
      have q0 : w2.cell? ⟨w.heap.size, 0, none⟩ = some (.int .i64 0) := by rw [hc2 _ _ (by simp; omega)]; exact (((Below.refl w1.heap.size w1).alloc (Nat.le_refl _) _).drew.cell (p := ⟨w.heap.size, 0, none⟩) (by show w.heap.size < _; omega)).trans k0
      have q1 : w2.cell? ⟨w.heap.size, 1, none⟩ = some (.int .i64 0) := by rw [hc2 _ _ (by simp; omega)]; exact (((Below.refl w1.heap.size w1).alloc (Nat.le_refl _) _).drew.cell (p := ⟨w.heap.size, 1, none⟩) (by show w.heap.size < _; omega)).trans k1
      have q2 : w2.frozen? ⟨w.heap.size, 0, none⟩ = false := by rw [hf2' _ _ (by simp; omega)]; exact (((Below.refl w1.heap.size w1).alloc (Nat.le_refl _) _).drew.frozen (p := ⟨w.heap.size, 0, none⟩) (by show w.heap.size < _; omega)).trans k2
      have q3 : w2.frozen? ⟨w.heap.size, 1, none⟩ = false := by rw [hf2' _ _ (by simp; omega)]; exact (((Below.refl w1.heap.size w1).alloc (Nat.le_refl _) _).drew.frozen (p := ⟨w.heap.size, 1, none⟩) (by show w.heap.size < _; omega)).trans k3
      have q4 : w2.cell? ⟨w1.heap.size, 0, none⟩ = some (.int .i64 (n.tdiv (Int.gcd n d))) := by rw [hc2 _ _ (by simp)]; simp [go_sem]
      have q5 : w2.cell? ⟨w1.heap.size, 1, none⟩ = some (.int .i64 (d.tdiv (Int.gcd n d))) := by rw [hc2 _ _ (by simp)]; simp [go_sem]
      clear hc2 hf2' hb2
      go_wp2_with fail
      refine bodyPost_ret (v := .tuple #[.agg #[.int .i64 (n.tdiv (Int.gcd n d)), .int .i64 (d.tdiv (Int.gcd n d))], .bool true]) (by simp [results, Tryd.results63, go_sem, *]) rfl ⟨by rw [hf.out] <;> rfl, ?_⟩
      repeat first | exact hbel2 | (refine Below.setCell ?_ ?_ _; rotate_left; (simp; try omega)) | (refine Below.alloc ?_ ?_ _; rotate_left; (simp; try omega)) | refine Below.drew ?_

end Go.Proofs.YtmojjbhjjhdpaaaDoor
