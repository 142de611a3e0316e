/- The walk of the law on MultiplyRationals. -/
import Derived.Test.YtekippmdlcbdlaaOimplMultiply
import Derived.Test.YtekippmdlcbdlaaOspecMultiply
import Derived.Test.YtekippmdlcbdlaaOwn2
import Derived.Deep.RegionHeld3
import Derived.Deep.DeepCutAuto
namespace Go.Proofs.Ytekippmdlcbdlaa
open Go.RowKit
set_option maxRecDepth 100000 in
set_option maxHeartbeats 4000000 in
theorem multiplyRationals_walk (n d n' d' : Int) (w : World) (_hn : (Lit.int .i64 n).wf = true) (_hd : (Lit.int .i64 d).wf = true) (_hn' : (Lit.int .i64 n').wf = true) (_hd' : (Lit.int .i64 d').wf = true) :
    Calls Try.prog 9 #[.agg #[.int .i64 n, .int .i64 d], .agg #[.int .i64 n', .int .i64 d']] w fun e w' => e = .returned (.bool true) ∧ Below w.heap.size w w' := by
  have KS := Lib.hid (fun W => spec_Multiply_any n d n' d' W)
  have KI := Lib.hid (fun W => impl_Multiply_any n d n' d' W)
  generalize opR n d n' d' (n * n') (d * d') = r at KS KI
  obtain ⟨r1, r2, r3⟩ := r
  simp only [ratV] at KS KI
  have i0 := (Inv2.start w n d n' d' 23).opened
  go_enter Try.func9, Try.ntmps9
  go_upto_region 1 with fail
  generalize (w.alloc (.cells #[.int .i64 n, .int .i64 d] 23)).alloc (.cells #[.int .i64 n', .int .i64 d'] 23) = W0 at *
  go_cut [5, 6] (fun p q wx => ∃ b, p = .pointer (some ⟨b, 0, none⟩) ∧ q = .bool r3 ∧ Own2 w b r1 r2 wx ∧ Open2 w n d n' d' wx)
  case first =>
    have i0' := open2_drew i0
    have z0' := open2_size i0'
    have z0 := open2_size i0
    go_region_held3 (fun W => W.cell? ⟨w.heap.size, 0, none⟩ = some (.int .i64 n) ∧ W.cell? ⟨w.heap.size, 1, none⟩ = some (.int .i64 d) ∧ W.cell? ⟨w.heap.size + 1, 0, none⟩ = some (.int .i64 n') ∧ W.cell? ⟨w.heap.size + 1, 1, none⟩ = some (.int .i64 d') ∧ Inv2 w n d n' d' W)
      (first | assumption | exact open2_drew (by assumption) | exact open2_next (by assumption) (by assumption) | exact open2_next ((Below.refl _ _).alloc (Nat.le_refl _) _) (by assumption) | exact open2_drew (open2_next ((Below.refl _ _).alloc (Nat.le_refl _) _) (by assumption)) | exact open2_set2 (by assumption) (by assumption))
      (first | (go_at_call 12; refine (toRational_any _ _ _).mono ?_; rintro e w1 ⟨rfl, b1⟩; have ok := open2_next b1 (by assumption); have oz := open2_size ok; (first | (have o1 := own2_alloc (((Below.refl _ _).drew).trans b1) (by assumption); obtain ⟨_, _, _, _, _, _⟩ := id o1) | (have o1 := own2_alloc b1 (by assumption); obtain ⟨_, _, _, _, _, _⟩ := id o1) | (have o1 := own2_next b1 (by assumption); obtain ⟨_, _, _, _, _, _⟩ := id o1) | skip)) | (go_at_call 25; refine (KS.out _).mono ?_; rintro e w1 ⟨rfl, b1⟩; have ok := open2_next b1 (by assumption); have oz := open2_size ok; (first | (have o1 := own2_alloc (((Below.refl _ _).drew).trans b1) (by assumption); obtain ⟨_, _, _, _, _, _⟩ := id o1) | (have o1 := own2_alloc b1 (by assumption); obtain ⟨_, _, _, _, _, _⟩ := id o1) | (have o1 := own2_next b1 (by assumption); obtain ⟨_, _, _, _, _, _⟩ := id o1) | skip)))
    all_goals (go_wp2_with fail)
    all_goals (go_meet; first | with_reducible exact ⟨_, rfl, rfl, own2_new (by assumption), by assumption⟩ | with_reducible exact ⟨_, rfl, rfl, own2_set2 (by assumption), by assumption⟩)
  case rest =>
    obtain ⟨b, rfl, rfl, ho, hopen⟩ := hcut
    go_upto_region 2 with fail
    go_cut [7, 8] (fun p q wx => ∃ k, p = .pointer (some ⟨k, 0, none⟩) ∧ q = .bool r3 ∧ Own2 w k r1 r2 wx ∧ Own2 w b r1 r2 wx ∧ Open2 w n d n' d' wx)
    case first =>
      have hopen' := open2_drew hopen
      have z0' := open2_size hopen'
      have ho' : Own2 w b r1 r2 wc.drew := own2_next ((Below.refl _ _).drew) ho
      have hob := ho.2.2.2.2.1
      have hob' := ho'.2.2.2.2.1
      have z0 := open2_size hopen
      go_region_held3 (fun W => W.cell? ⟨w.heap.size, 0, none⟩ = some (.int .i64 n) ∧ W.cell? ⟨w.heap.size, 1, none⟩ = some (.int .i64 d) ∧ W.cell? ⟨w.heap.size + 1, 0, none⟩ = some (.int .i64 n') ∧ W.cell? ⟨w.heap.size + 1, 1, none⟩ = some (.int .i64 d') ∧ Inv2 w n d n' d' W)
        (first | assumption | exact open2_drew (by assumption) | exact open2_next (by assumption) (by assumption) | exact open2_next ((Below.refl _ _).alloc (Nat.le_refl _) _) (by assumption) | exact open2_drew (open2_next ((Below.refl _ _).alloc (Nat.le_refl _) _) (by assumption)) | exact open2_set2 (by assumption) (by assumption))
        (first | (go_at_call 12; refine (toRational_any _ _ _).mono ?_; rintro e w1 ⟨rfl, b1⟩; have ok := open2_next b1 (by assumption); have oz := open2_size ok; have oq := (by first | exact own2_next b1 (by assumption) | exact own2_next b1 (own2_next ((Below.refl _ _).alloc (Nat.le_refl _) _) (by assumption)) | exact own2_next b1 (own2_next (((Below.refl _ _).alloc (Nat.le_refl _) _).drew) (by assumption)) : Own2 w b r1 r2 w1); have oqb := oq.2.2.2.2.1; (first | (have o1 := own2_alloc (((Below.refl _ _).drew).trans b1) (by assumption); obtain ⟨_, _, _, _, _, _⟩ := id o1) | (have o1 := own2_alloc b1 (by assumption); obtain ⟨_, _, _, _, _, _⟩ := id o1) | (have o1 := own2_next b1 (by assumption); obtain ⟨_, _, _, _, _, _⟩ := id o1) | skip)) | (go_at_call 26; refine (KI.out _).mono ?_; rintro e w1 ⟨rfl, b1⟩; have ok := open2_next b1 (by assumption); have oz := open2_size ok; have oq := (by first | exact own2_next b1 (by assumption) | exact own2_next b1 (own2_next ((Below.refl _ _).alloc (Nat.le_refl _) _) (by assumption)) | exact own2_next b1 (own2_next (((Below.refl _ _).alloc (Nat.le_refl _) _).drew) (by assumption)) : Own2 w b r1 r2 w1); have oqb := oq.2.2.2.2.1; (first | (have o1 := own2_alloc (((Below.refl _ _).drew).trans b1) (by assumption); obtain ⟨_, _, _, _, _, _⟩ := id o1) | (have o1 := own2_alloc b1 (by assumption); obtain ⟨_, _, _, _, _, _⟩ := id o1) | (have o1 := own2_next b1 (by assumption); obtain ⟨_, _, _, _, _, _⟩ := id o1) | skip)))
      all_goals (go_wp2_with fail)
      all_goals (go_meet; first | with_reducible exact ⟨_, rfl, rfl, own2_new (by assumption), own2_next ((Below.refl _ _).alloc (Nat.le_refl _) _) (by assumption), by assumption⟩ | with_reducible exact ⟨_, rfl, rfl, own2_set2 (a := 0) (b := 0) (by assumption), own2_other (by assumption) (by assumption), by assumption⟩)

    case rest =>
      obtain ⟨k, rfl, rfl, hk, hb, hopen2⟩ := hcut
      obtain ⟨_, _, _, _, _, _⟩ := id hk
      obtain ⟨_, _, _, _, _, _⟩ := id hb
      have hbel := open2_bel hopen2
      go_wp2_with fail
      refine (eqRational_same r1 r2 _).mono ?_
      rintro e w3 ⟨rfl, b3⟩
      go_wp2_with fail
      go_ret
      exact ⟨rfl, hbel.trans (b3.mono hbel.size)⟩
end Go.Proofs.Ytekippmdlcbdlaa
