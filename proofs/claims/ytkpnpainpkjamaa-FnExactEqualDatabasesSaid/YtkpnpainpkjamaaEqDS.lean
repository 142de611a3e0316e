/- spec.EqualDatabases. No condition but the size that the laws let in. -/
import Derived.Test.YtkpnpainpkjamaaEqD
import Derived.Deep.RegionHeld3
namespace Go.Proofs.Ytkpnpainpkjamaa
open Go.RowKit Go.Deep

theorem rdT_next {W w1 : World} {A : Option Addr} {n : Nat} {ts : List Tab} (b : Below W.heap.size W w1) (h : RdT W W.heap.size A n ts) : RdT w1 w1.heap.size A n ts := (RdT.belowB h b (Nat.le_refl _)).more b.size

set_option maxRecDepth 100000 in
set_option maxHeartbeats 1000000 in
theorem spec_EqualDatabases_any (A A' : Option Addr) (n c n' c' B B' : Nat) (ts ts' : List Tab) (w : World) (hr : RdT w B A n ts) (hr' : RdT w B' A' n' ts') (hB : B ≤ w.heap.size) (hB' : B' ≤ w.heap.size) (hn : n ≤ 9223372036854775806) (hn' : n' ≤ 9223372036854775806) :
    Calls Try.prog 10 #[.agg #[.slice A n c], .agg #[.slice A' n' c']] w fun e w' => e = .returned (.bool (decide (ts = ts'))) ∧ Below w.heap.size w w' := by
  have kn0 : Kn w [(w.heap.size, 0, .slice A n c), (w.heap.size + 1, 0, .slice A' n' c')] ((w.alloc (.cells #[.slice A n c] 29)).alloc (.cells #[.slice A' n' c'] 29)) := by
    simpa using ((Kn.start w).box1 (.slice A n c) 29).box1 (.slice A' n' c') 29
  by_cases hne : n = n'
  · subst hne
    go_enter Try.func10, Try.ntmps10
    go_wp2_with fail
    generalize (w.alloc (.cells #[.slice A n c] 29)).alloc (.cells #[.slice A' n c'] 29) = w0 at kn0 ⊢
    go_loopw [5] (fun i wr => ∃ k : Nat, k ≤ n ∧ i = .int .i64 k ∧ Hid (ts.take k = ts'.take k) ∧ Kn w [(w.heap.size, 0, .slice A n c), (w.heap.size + 1, 0, .slice A' n c')] wr) (fun i _ => n - (intOf i).toNat)
    case atStart => exact ⟨0, by omega, rfl, rfl, kn0⟩
    case round =>
      obtain ⟨k, hk, rfl, hpre, kn⟩ := hrel
      clear kn0
      obtain ⟨x0, x1, _⟩ := kn.all
      have hbel := Lib.hid kn.bel
      have hsz := hbel.out.size
      by_cases hlt : k < n
      · obtain ⟨b, o, t, A1, c1, rfl, hb, hx, hc0, hc1, hc2, hrd, hm, _⟩ := RdT.at_ hr hlt
        obtain ⟨b', o', t', A2, c2, rfl, hb', hx', hc0', hc1', hc2', hrd', hm', _⟩ := RdT.at_ hr' hlt
        have six : Six b b' o o' k t t' A1 A2 c1 c2 wr := Six.next ⟨hc0, hc1, hc2, hc0', hc1', hc2'⟩ hbel.out (by omega) (by omega)
        have KE : Hid (∀ W, Below wr.heap.size wr W → Calls Try.prog 32 #[.agg #[.string t.nm, .int .i64 t.ar, .slice A1 t.rs.length c1], .agg #[.string t'.nm, .int .i64 t'.ar, .slice A2 t'.rs.length c2]] W fun e w' => e = .returned (.bool (eqT t.nm t'.nm t.ar t'.ar t.rs t'.rs)) ∧ Below W.heap.size W w') := fun W b1 =>
          spec_EqualTables_any t.nm t'.nm t.ar t'.ar A1 A2 t.rs.length c1 t'.rs.length c2 B B' t.rs t'.rs W (RdR.belowB hrd (hbel.out.trans (b1.mono hsz)) hB) (RdR.belowB hrd' (hbel.out.trans (b1.mono hsz)) hB') (Nat.le_trans hB (Nat.le_trans hsz b1.size)) (Nat.le_trans hB' (Nat.le_trans hsz b1.size)) (by unfold maxLen at hm; exact hm) (by unfold maxLen at hm'; exact hm')
        have HX := Lib.hid hx
        have HX' := Lib.hid hx'
        have g1 : (0 : Int) ≤ (k : Int) := by omega
        have g2 : (k : Int) < (n : Int) := by omega
        have g3 : (k : Int).toNat = k := by omega
        obtain ⟨nm, ar, rs⟩ := t
        obtain ⟨nm', ar', rs'⟩ := t'
        have KB : Hid (∀ W, Below wr.heap.size wr W → W.cell? ⟨w.heap.size, 0, none⟩ = some (.slice (some ⟨b, o, none⟩) n c) ∧ W.cell? ⟨w.heap.size + 1, 0, none⟩ = some (.slice (some ⟨b', o', none⟩) n c') ∧ W.cell? ⟨b, o + k * 3, none⟩ = some (.string nm) ∧ W.cell? ⟨b, o + k * 3 + 1, none⟩ = some (.int .i64 ar) ∧ W.cell? ⟨b, o + k * 3 + 2, none⟩ = some (.slice A1 rs.length c1) ∧ W.cell? ⟨b', o' + k * 3, none⟩ = some (.string nm') ∧ W.cell? ⟨b', o' + k * 3 + 1, none⟩ = some (.int .i64 ar') ∧ W.cell? ⟨b', o' + k * 3 + 2, none⟩ = some (.slice A2 rs'.length c2) ∧ Below wr.heap.size wr W) := fun W bw => by
          obtain ⟨z0, z1, _⟩ := (kn.next bw).all
          obtain ⟨s0, s1, s2, s3, s4, s5⟩ := six.next bw (by omega) (by omega)
          exact ⟨z0, z1, s0, s1, s2, s3, s4, s5, bw⟩
        have KN := Lib.hid kn
        obtain ⟨d0, d1, d2, d3, d4, d5⟩ := six
        clear hx hx' hc0 hc1 hc2 hc0' hc1' hc2' hrd hrd' hm hm' kn
        by_cases he : (⟨nm, ar, rs⟩ : Tab) = ⟨nm', ar', rs'⟩
        · have hpre' : Hid (ts.take (k + 1) = ts'.take (k + 1)) := by
            show _ = _
            rw [List.take_add_one, List.take_add_one, HX.out, HX'.out, he, hpre.out]
          have KE' : Hid (∀ W, Below wr.heap.size wr W → Calls Try.prog 32 #[.agg #[.string nm, .int .i64 ar, .slice A1 rs.length c1], .agg #[.string nm', .int .i64 ar', .slice A2 rs'.length c2]] W fun e w' => e = .returned (.bool true) ∧ Below W.heap.size W w') := fun W bw => by have := KE.out W bw; rwa [eqT_yes he] at this
          clear he KE
          go_wp2_with fail
          have bz : Below wr.heap.size wr wr.drew := (Below.refl _ _).drew
          go_region_held3 (fun W => W.cell? ⟨w.heap.size, 0, none⟩ = some (.slice (some ⟨b, o, none⟩) n c) ∧ W.cell? ⟨w.heap.size + 1, 0, none⟩ = some (.slice (some ⟨b', o', none⟩) n c') ∧ W.cell? ⟨b, o + k * 3, none⟩ = some (.string nm) ∧ W.cell? ⟨b, o + k * 3 + 1, none⟩ = some (.int .i64 ar) ∧ W.cell? ⟨b, o + k * 3 + 2, none⟩ = some (.slice A1 rs.length c1) ∧ W.cell? ⟨b', o' + k * 3, none⟩ = some (.string nm') ∧ W.cell? ⟨b', o' + k * 3 + 1, none⟩ = some (.int .i64 ar') ∧ W.cell? ⟨b', o' + k * 3 + 2, none⟩ = some (.slice A2 rs'.length c2) ∧ Below wr.heap.size wr W)
            (first | assumption | exact KB.out _ (by assumption))
            (first | (go_at_call 32; ((with_reducible refine (KE'.out _ (by assumption)).mono ?_); rintro e w1 ⟨rfl, b1⟩; have bz := bel_step (by assumption) b1)))
          have HF := Lib.hid (KN.out.next bz)
          clear bz KN
          go_wp2_with fail
          refine ⟨⟨k + 1, by omega, by go_num, hpre', HF.out⟩, ?_⟩
          simp [intOf]
          omega
        · have hfin := Lib.hid (ne_of_get HX.out HX'.out he)
          have KE' : Hid (∀ W, Below wr.heap.size wr W → Calls Try.prog 32 #[.agg #[.string nm, .int .i64 ar, .slice A1 rs.length c1], .agg #[.string nm', .int .i64 ar', .slice A2 rs'.length c2]] W fun e w' => e = .returned (.bool false) ∧ Below W.heap.size W w') := fun W bw => by have := KE.out W bw; rwa [eqT_no he] at this
          clear he KE
          go_wp2_with fail
          have bz : Below wr.heap.size wr wr.drew := (Below.refl _ _).drew
          go_region_held3 (fun W => W.cell? ⟨w.heap.size, 0, none⟩ = some (.slice (some ⟨b, o, none⟩) n c) ∧ W.cell? ⟨w.heap.size + 1, 0, none⟩ = some (.slice (some ⟨b', o', none⟩) n c') ∧ W.cell? ⟨b, o + k * 3, none⟩ = some (.string nm) ∧ W.cell? ⟨b, o + k * 3 + 1, none⟩ = some (.int .i64 ar) ∧ W.cell? ⟨b, o + k * 3 + 2, none⟩ = some (.slice A1 rs.length c1) ∧ W.cell? ⟨b', o' + k * 3, none⟩ = some (.string nm') ∧ W.cell? ⟨b', o' + k * 3 + 1, none⟩ = some (.int .i64 ar') ∧ W.cell? ⟨b', o' + k * 3 + 2, none⟩ = some (.slice A2 rs'.length c2) ∧ Below wr.heap.size wr W)
            (first | assumption | exact KB.out _ (by assumption))
            (first | (go_at_call 32; ((with_reducible refine (KE'.out _ (by assumption)).mono ?_); rintro e w1 ⟨rfl, b1⟩; have bz := bel_step (by assumption) b1)))
          have HF := Lib.hid (KN.out.next bz).bel
          clear bz KN
          go_wp2_with fail
          go_ret
          exact ⟨by rw [hfin.out] <;> rfl, HF.out⟩
      · obtain rfl : k = n := by omega
        have hfin : Hid (decide (ts = ts') = true) := by
          show decide (ts = ts') = true
          rw [decide_eq_true_eq]
          have h1 := hpre.out
          rwa [List.take_of_length_le (Nat.le_of_eq hr.1), List.take_of_length_le (Nat.le_of_eq hr'.1)] at h1
        go_wp2_with fail
        go_ret
        exact ⟨by rw [hfin.out] <;> rfl, hbel.out⟩
  · have hfin : Hid (decide (ts = ts') = false) := by
      show decide (ts = ts') = false
      rw [decide_eq_false_iff_not]
      rintro rfl
      exact hne (hr.1.symm.trans hr'.1)
    have hbq : ((n : Int) != (n' : Int)) = true := by simp; omega
    clear hne
    go_enter Try.func10, Try.ntmps10
    go_wp2_with fail
    go_ret
    exact ⟨by rw [hfin.out] <;> rfl, kn0.bel⟩
end Go.Proofs.Ytkpnpainpkjamaa
