/- MakeRational, one text, one sign of den. No condition but that an int is an int. -/
import Derived.Test.YtmojjbhjjhdpaaaDoorRatM
import Derived.Deep.RegionHeld3
namespace Go.Proofs.YtmojjbhjjhdpaaaDoor
open Go.RowKit

set_option maxRecDepth 100000 in
set_option maxHeartbeats 1000000 in
theorem spec_Make_pos (n d N D : Int) (w : World) (hN : N = -n) (hD : D = -d) (hd : 1 ≤ d ∧ d ≤ 9223372036854775807) (hn1 : -9223372036854775807 ≤ n) (hn2 : n ≤ 9223372036854775807) :
    Calls Tryd.prog 64 #[.int .i64 n, .int .i64 d] w fun e w' => e = .returned (ratV (makeP n d)) ∧ Below w.heap.size w w' := by
  obtain ⟨hda, hdb⟩ := hd
  obtain ⟨z, g1, u1, u2⟩ := gcd_facts (n := n) (d := d) (by omega) (by omega) (by omega) (by omega)
  have m1 : IntKind.i64.wrap (-n) = N := (IntWalk.i64_in _ (by omega)).trans hN.symm
  have m2 : IntKind.i64.wrap (-d) = D := (IntWalk.i64_in _ (by omega)).trans hD.symm
  have z0 : ¬ d = 0 := by omega
  have z1 : (d == 0) = false := by simp; omega
  have z2 : (d == D) = false := by simp; omega
  have z3 : decide (d < 0) = false := by simp; omega
  have z7 : decide (n < -9223372036854775807) = false := by simp; omega
  have z8 : decide (d < -9223372036854775807) = false := by simp; omega
  have KA := Lib.hid (fun W => l2Abs_any n W (by omega) (by omega))
  have KG := Lib.hid (show ∀ W, Calls Tryd.prog 99 #[.int .i64 (n.natAbs : Nat), .int .i64 d] W fun e w' => e = .returned (.int .i64 (Int.gcd n d : Nat)) ∧ W = w' from fun W => by
    have h := l2Gcd_any n.natAbs d.toNat W (by omega) (by omega)
    have e1 : ((d.toNat : Nat) : Int) = d := by omega
    have e2 : Nat.gcd n.natAbs d.toNat = Int.gcd n d := by unfold Int.gcd; congr 1; omega
    rwa [e1, e2] at h)
  have hlast : ∀ v, validR (n.tdiv (Int.gcd n d)) (d.tdiv (Int.gcd n d)) = v → Hid (ratV (makeP n d) = .tuple #[.agg #[.int .i64 (if v then n.tdiv (Int.gcd n d) else 0), .int .i64 (if v then d.tdiv (Int.gcd n d) else 0)], .bool v]) := fun v hv => by
    cases v with | false => exact ratV_of (makeP_2 hv) | true => exact ratV_of (makeP_1 hv)
  cases hv : validR (n.tdiv (Int.gcd n d)) (d.tdiv (Int.gcd n d)) with
  | false =>
    have hf := hlast _ hv
    clear hlast
    clear hN hD
    go_enter Tryd.func64, Tryd.ntmps64
    go_wp2_with fail
    refine (KA.out _).mono ?_
    rintro e w' ⟨rfl, rfl⟩
    go_wp2_with fail
    refine (KG.out _).mono ?_
    rintro e w' ⟨rfl, rfl⟩
    have hbel : Below w.heap.size w (w.alloc (.cells #[.int .i64 0, .int .i64 0] 30)) := (Below.refl _ _).alloc (Nat.le_refl _) _
    have hs : w.heap.size + 1 ≤ (w.alloc (.cells #[.int .i64 0, .int .i64 0] 30)).heap.size := by simp
    have k0 : (w.alloc (.cells #[.int .i64 0, .int .i64 0] 30)).cell? ⟨w.heap.size, 0, none⟩ = some (.int .i64 0) := by simp [go_sem]
    have k1 : (w.alloc (.cells #[.int .i64 0, .int .i64 0] 30)).cell? ⟨w.heap.size, 1, none⟩ = some (.int .i64 0) := by simp [go_sem]
    have k2 : (w.alloc (.cells #[.int .i64 0, .int .i64 0] 30)).frozen? ⟨w.heap.size, 0, none⟩ = false := by simp [go_sem]
    have k3 : (w.alloc (.cells #[.int .i64 0, .int .i64 0] 30)).frozen? ⟨w.heap.size, 1, none⟩ = false := by simp [go_sem]
    go_wp2_with fail
    generalize w.alloc (.cells #[.int .i64 0, .int .i64 0] 30) = w1 at *
    go_region_held3 (fun _ => True) (trivial) (fail)
    go_wp2_with fail
    refine (spec_IsValid_any _ _ _).mono ?_
    rintro e w2 ⟨rfl, hb2⟩
    obtain ⟨hc2, hf2'⟩ := bcell hb2
    have hs2 := hb2.size
    simp at hs2
    have hbel2 : Below w.heap.size w w2 := (((hbel.alloc (by omega) _).drew)).trans (hb2.mono (by simp; omega))
    have q0 : w2.cell? ⟨w.heap.size, 0, none⟩ = some (.int .i64 0) := by rw [hc2 _ _ (by simp; omega)]; exact (((Below.refl w1.heap.size w1).alloc (Nat.le_refl _) _).drew.cell (p := ⟨w.heap.size, 0, none⟩) (by show w.heap.size < _; omega)).trans k0
    have q1 : w2.cell? ⟨w.heap.size, 1, none⟩ = some (.int .i64 0) := by rw [hc2 _ _ (by simp; omega)]; exact (((Below.refl w1.heap.size w1).alloc (Nat.le_refl _) _).drew.cell (p := ⟨w.heap.size, 1, none⟩) (by show w.heap.size < _; omega)).trans k1
    have q2 : w2.frozen? ⟨w.heap.size, 0, none⟩ = false := by rw [hf2' _ _ (by simp; omega)]; exact (((Below.refl w1.heap.size w1).alloc (Nat.le_refl _) _).drew.frozen (p := ⟨w.heap.size, 0, none⟩) (by show w.heap.size < _; omega)).trans k2
    have q3 : w2.frozen? ⟨w.heap.size, 1, none⟩ = false := by rw [hf2' _ _ (by simp; omega)]; exact (((Below.refl w1.heap.size w1).alloc (Nat.le_refl _) _).drew.frozen (p := ⟨w.heap.size, 1, none⟩) (by show w.heap.size < _; omega)).trans k3
    clear hc2 hf2' hb2
    go_wp2_with fail
    refine bodyPost_ret (v := .tuple #[.agg #[.int .i64 0, .int .i64 0], .bool false]) (by simp [results, Tryd.results64, go_sem, *]) rfl ⟨by rw [hf.out] <;> rfl, ?_⟩
    repeat first | exact hbel2 | (refine Below.setCell ?_ ?_ _; rotate_left; (simp; try omega)) | (refine Below.alloc ?_ ?_ _; rotate_left; (simp; try omega)) | refine Below.drew ?_
  | true =>
    have hf := hlast _ hv
    clear hlast
    clear hN hD
    go_enter Tryd.func64, Tryd.ntmps64
    go_wp2_with fail
    refine (KA.out _).mono ?_
    rintro e w' ⟨rfl, rfl⟩
    go_wp2_with fail
    refine (KG.out _).mono ?_
    rintro e w' ⟨rfl, rfl⟩
    have hbel : Below w.heap.size w (w.alloc (.cells #[.int .i64 0, .int .i64 0] 30)) := (Below.refl _ _).alloc (Nat.le_refl _) _
    have hs : w.heap.size + 1 ≤ (w.alloc (.cells #[.int .i64 0, .int .i64 0] 30)).heap.size := by simp
    have k0 : (w.alloc (.cells #[.int .i64 0, .int .i64 0] 30)).cell? ⟨w.heap.size, 0, none⟩ = some (.int .i64 0) := by simp [go_sem]
    have k1 : (w.alloc (.cells #[.int .i64 0, .int .i64 0] 30)).cell? ⟨w.heap.size, 1, none⟩ = some (.int .i64 0) := by simp [go_sem]
    have k2 : (w.alloc (.cells #[.int .i64 0, .int .i64 0] 30)).frozen? ⟨w.heap.size, 0, none⟩ = false := by simp [go_sem]
    have k3 : (w.alloc (.cells #[.int .i64 0, .int .i64 0] 30)).frozen? ⟨w.heap.size, 1, none⟩ = false := by simp [go_sem]
    go_wp2_with fail
    generalize w.alloc (.cells #[.int .i64 0, .int .i64 0] 30) = w1 at *
    go_region_held3 (fun _ => True) (trivial) (fail)
    go_wp2_with fail
    refine (spec_IsValid_any _ _ _).mono ?_
    rintro e w2 ⟨rfl, hb2⟩
    obtain ⟨hc2, hf2'⟩ := bcell hb2
    have hs2 := hb2.size
    simp at hs2
    have hbel2 : Below w.heap.size w w2 := (((hbel.alloc (by omega) _).drew)).trans (hb2.mono (by simp; omega))
    have q0 : w2.cell? ⟨w.heap.size, 0, none⟩ = some (.int .i64 0) := by rw [hc2 _ _ (by simp; omega)]; exact (((Below.refl w1.heap.size w1).alloc (Nat.le_refl _) _).drew.cell (p := ⟨w.heap.size, 0, none⟩) (by show w.heap.size < _; omega)).trans k0
    have q1 : w2.cell? ⟨w.heap.size, 1, none⟩ = some (.int .i64 0) := by rw [hc2 _ _ (by simp; omega)]; exact (((Below.refl w1.heap.size w1).alloc (Nat.le_refl _) _).drew.cell (p := ⟨w.heap.size, 1, none⟩) (by show w.heap.size < _; omega)).trans k1
    have q2 : w2.frozen? ⟨w.heap.size, 0, none⟩ = false := by rw [hf2' _ _ (by simp; omega)]; exact (((Below.refl w1.heap.size w1).alloc (Nat.le_refl _) _).drew.frozen (p := ⟨w.heap.size, 0, none⟩) (by show w.heap.size < _; omega)).trans k2
    have q3 : w2.frozen? ⟨w.heap.size, 1, none⟩ = false := by rw [hf2' _ _ (by simp; omega)]; exact (((Below.refl w1.heap.size w1).alloc (Nat.le_refl _) _).drew.frozen (p := ⟨w.heap.size, 1, none⟩) (by show w.heap.size < _; omega)).trans k3
    have q4 : w2.cell? ⟨w1.heap.size, 0, none⟩ = some (.int .i64 (n.tdiv (Int.gcd n d))) := by rw [hc2 _ _ (by simp)]; simp [go_sem]
    have q5 : w2.cell? ⟨w1.heap.size, 1, none⟩ = some (.int .i64 (d.tdiv (Int.gcd n d))) := by rw [hc2 _ _ (by simp)]; simp [go_sem]
    clear hc2 hf2' hb2
    go_wp2_with fail
    refine bodyPost_ret (v := .tuple #[.agg #[.int .i64 (n.tdiv (Int.gcd n d)), .int .i64 (d.tdiv (Int.gcd n d))], .bool true]) (by simp [results, Tryd.results64, go_sem, *]) rfl ⟨by rw [hf.out] <;> rfl, ?_⟩
    repeat first | exact hbel2 | (refine Below.setCell ?_ ?_ _; rotate_left; (simp; try omega)) | (refine Below.alloc ?_ ?_ _; rotate_left; (simp; try omega)) | refine Below.drew ?_

end Go.Proofs.YtmojjbhjjhdpaaaDoor
