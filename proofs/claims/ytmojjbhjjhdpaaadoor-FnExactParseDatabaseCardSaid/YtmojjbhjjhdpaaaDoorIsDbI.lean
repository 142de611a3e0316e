/- impl.IsValidDatabase. No condition but the size that the laws let in. -/
import Derived.Test.YtmojjbhjjhdpaaaDoorIsDbP
import Derived.Test.YtmojjbhjjhdpaaaDoorCls
namespace Go.Proofs.YtmojjbhjjhdpaaaDoor
open Go.RowKit Go.Deep

set_option maxRecDepth 100000 in
set_option maxHeartbeats 1000000 in
theorem impl_IsValidDatabase_any (A : Option Addr) (n c B : Nat) (ts : List Tab) (w : World) (hr : RdT w B A n ts) (hB : B ≤ w.heap.size) (hn : n ≤ 1000000000) (hs : sumT ts ≤ 4294967296) :
    Calls Tryd.prog 86 #[.agg #[.slice A n c]] w fun e w' => e = .returned (.bool (validD ts)) ∧ Below w.heap.size w w' := by
  have HL := Lib.hid hr.1
  have hsm := Lib.hid hs
  clear hs
  have kn0 : Kn w [(w.heap.size, 0, .slice A n c)] (w.alloc (.cells #[.slice A n c] 55)) := by
    simpa using (Kn.start w).box1 (.slice A n c) 55
  go_enter Tryd.func86, Tryd.ntmps86
  go_wp2_with fail
  have s0 : w.heap.size + 1 ≤ (w.alloc (.cells #[.slice A n c] 55)).heap.size := by simp
  generalize w.alloc (.cells #[.slice A n c] 55) = w0 at kn0 s0 ⊢
  go_loopw [3, 4, 8] (fun _ _ i wr => ∃ k : Nat, k ≤ n ∧ i = .int .i64 k ∧ Hid ((ts.take k).all validTb = true ∧ AscN ts k) ∧ Kn w [(w.heap.size, 0, .slice A n c)] wr ∧ w.heap.size + 1 ≤ wr.heap.size) (fun _ _ i _ => n - (intOf i).toNat)
  case atStart => exact ⟨0, by omega, rfl, ⟨by simp, AscN.one _ (by omega)⟩, kn0, s0⟩
  case round =>
    obtain ⟨k, hk, rfl, hp, kn, hsr⟩ := hrel
    clear kn0 s0
    obtain ⟨x0, _⟩ := kn.all
    have hbel := Lib.hid kn.bel
    have hsz := hbel.out.size
    by_cases hlt : k < n
    · obtain ⟨b, o, t, A1, c1, rfl, hb, hx, hc0, hc1, hc2, hrd, hm, _⟩ := RdT.at_ hr hlt
      have d0 := (hbel.out.cell (p := ⟨b, o + k * 3, none⟩) (by show b < _; omega)).trans hc0
      have d1 := (hbel.out.cell (p := ⟨b, o + k * 3 + 1, none⟩) (by show b < _; omega)).trans hc1
      have d2 := (hbel.out.cell (p := ⟨b, o + k * 3 + 2, none⟩) (by show b < _; omega)).trans hc2
      have hW : ∀ v0 v1 v2, Hid (Below wr.heap.size wr (wr.alloc (.cells #[v0, v1, v2] 41))) := fun v0 v1 v2 => (Below.refl _ _).alloc (Nat.le_refl _) _
      have KV : Hid (∀ W, Below wr.heap.size wr W → Calls Tryd.prog 75 #[.agg #[.string t.nm, .int .i64 t.ar, .slice A1 t.rs.length c1]] W fun e w' => e = .returned (.bool (validTb t)) ∧ Below W.heap.size W w') := fun W bw =>
        impl_IsValidTable_any t.nm t.ar A1 t.rs.length c1 B t.rs W (RdR.belowB hrd (hbel.out.trans (bw.mono hsz)) hB) (Nat.le_trans hB (Nat.le_trans hsz bw.size)) (by have := sumT_mem (List.mem_of_getElem? hx); have := hsm.out; omega)
      have HX := Lib.hid hx
      have g1 : (0 : Int) ≤ (k : Int) := by omega
      have g2 : (k : Int) < (n : Int) := by omega
      have g3 : (k : Int).toNat = k := by omega
      have HW := Lib.hid hW
      clear hx hc0 hc1 hc2 hrd hm hW
      cases hv : validTb t with
      | false =>
        have hf := Lib.hid (validD_no HX.out hv)
        rw [hv] at KV
        clear hv
        obtain ⟨nm, ar, rs⟩ := t
        go_wp2_with fail
        have knb : Kn w [(w.heap.size, 0, .slice (some ⟨b, o, none⟩) n c), (wr.heap.size, 0, .string nm), (wr.heap.size, 1, .int .i64 ar), (wr.heap.size, 2, .slice A1 rs.length c1)] (wr.alloc (.cells #[.string nm, .int .i64 ar, .slice A1 rs.length c1] 41)) := kn.box3 (.string nm) (.int .i64 ar) (.slice A1 rs.length c1) 41
        have hwb := (HW.out (.string nm) (.int .i64 ar) (.slice A1 rs.length c1)).out
        have hs1 : wr.heap.size + 1 ≤ (wr.alloc (.cells #[.string nm, .int .i64 ar, .slice A1 rs.length c1] 41)).heap.size := by simp
        generalize wr.alloc (.cells #[.string nm, .int .i64 ar, .slice A1 rs.length c1] 41) = W1 at knb hwb hs1 ⊢
        have KN := Lib.hid knb
        have HWB := Lib.hid hwb
        have bz0 := Lib.hid (Below.refl W1.heap.size W1)
        clear kn knb hwb HW x0 d0 d1 d2
        refine wp_region_class (by kernel_rfl) (by kernel_rfl) (fun W => Below W1.heap.size W1 W) ((bz0.out).drew) (fun S _ f hG hS => ?_)
        have y0 : ∀ s, (f s).cell? ⟨w.heap.size, 0, none⟩ = some (.slice (some ⟨b, o, none⟩) n c) := fun s => ((KN.out.next (hG s)).all).1
        have y1 : ∀ s, (f s).cell? ⟨wr.heap.size, 0, none⟩ = some (.string nm) := fun s => ((KN.out.next (hG s)).all).2.1
        have y2 : ∀ s, (f s).cell? ⟨wr.heap.size, 1, none⟩ = some (.int .i64 ar) := fun s => ((KN.out.next (hG s)).all).2.2.1
        have y3 : ∀ s, (f s).cell? ⟨wr.heap.size, 2, none⟩ = some (.slice A1 rs.length c1) := fun s => ((KN.out.next (hG s)).all).2.2.2.1
        have HG := Lib.hid hG
        have HS := Lib.hid hS
        clear hG hS
        repeat (first | go_big_quiet_step ((first | (go_at_call 75; exact Calls.clsB HS.out (HG.out _) (KV.out _ (HWB.out.trans ((HG.out _).mono HWB.out.size)))))) | quiet_step ((first | (go_at_call 75; exact Calls.clsB HS.out (HG.out _) (KV.out _ (HWB.out.trans ((HG.out _).mono HWB.out.size)))))))
        refine wpQuiet_nil ?_
        rintro _ ⟨s, rfl⟩
        have HF := Lib.hid (((KN.out.next (HG.out s)).sub (L' := [(w.heap.size, 0, .slice (some ⟨b, o, none⟩) n c)]) (by simp)).bel)
        clear y0 y1 y2 y3 g3 HG HS
        go_wp2_with fail
        go_ret
        exact ⟨by rw [hf.out] <;> rfl, HF.out⟩
      | true =>
        have hp1 := Lib.hid (tabs_take hp.out.1 HX.out hv)
        rw [hv] at KV
        clear hv
        rcases Nat.eq_zero_or_pos k with hk0 | hk0
        · subst hk0
          have hp2 : Hid ((ts.take 1).all validTb = true ∧ AscN ts 1) := ⟨hp1.out, AscN.one _ (by omega)⟩
          have g2' : (0 : Int) < (n : Int) := by omega
          simp only [Nat.zero_mul, Nat.add_zero] at d0 d1 d2
          clear g1 g2 g3 hp1
          obtain ⟨nm, ar, rs⟩ := t
          go_wp2_with fail
          have knb : Kn w [(w.heap.size, 0, .slice (some ⟨b, o, none⟩) n c), (wr.heap.size, 0, .string nm), (wr.heap.size, 1, .int .i64 ar), (wr.heap.size, 2, .slice A1 rs.length c1)] (wr.alloc (.cells #[.string nm, .int .i64 ar, .slice A1 rs.length c1] 41)) := kn.box3 (.string nm) (.int .i64 ar) (.slice A1 rs.length c1) 41
          have hwb := (HW.out (.string nm) (.int .i64 ar) (.slice A1 rs.length c1)).out
          have hs1 : wr.heap.size + 1 ≤ (wr.alloc (.cells #[.string nm, .int .i64 ar, .slice A1 rs.length c1] 41)).heap.size := by simp
          generalize wr.alloc (.cells #[.string nm, .int .i64 ar, .slice A1 rs.length c1] 41) = W1 at knb hwb hs1 ⊢
          have KN := Lib.hid knb
          have HWB := Lib.hid hwb
          have bz0 := Lib.hid (Below.refl W1.heap.size W1)
          clear kn knb hwb HW x0 d0 d1 d2
          refine wp_region_class (by kernel_rfl) (by kernel_rfl) (fun W => Below W1.heap.size W1 W) ((bz0.out).drew) (fun S _ f hG hS => ?_)
          have y0 : ∀ s, (f s).cell? ⟨w.heap.size, 0, none⟩ = some (.slice (some ⟨b, o, none⟩) n c) := fun s => ((KN.out.next (hG s)).all).1
          have y1 : ∀ s, (f s).cell? ⟨wr.heap.size, 0, none⟩ = some (.string nm) := fun s => ((KN.out.next (hG s)).all).2.1
          have y2 : ∀ s, (f s).cell? ⟨wr.heap.size, 1, none⟩ = some (.int .i64 ar) := fun s => ((KN.out.next (hG s)).all).2.2.1
          have y3 : ∀ s, (f s).cell? ⟨wr.heap.size, 2, none⟩ = some (.slice A1 rs.length c1) := fun s => ((KN.out.next (hG s)).all).2.2.2.1
          have HG := Lib.hid hG
          have HS := Lib.hid hS
          clear hG hS
          repeat (first | go_big_quiet_step ((first | (go_at_call 75; exact Calls.clsB HS.out (HG.out _) (KV.out _ (HWB.out.trans ((HG.out _).mono HWB.out.size)))))) | quiet_step ((first | (go_at_call 75; exact Calls.clsB HS.out (HG.out _) (KV.out _ (HWB.out.trans ((HG.out _).mono HWB.out.size)))))))
          refine wpQuiet_nil ?_
          rintro _ ⟨s, rfl⟩
          have HF := Lib.hid (((KN.out.next (HG.out s)).sub (L' := [(w.heap.size, 0, .slice (some ⟨b, o, none⟩) n c)]) (by simp)))
          have hsf : w.heap.size + 1 ≤ (f s).heap.size := by have := (HG.out s).size; omega
          clear y0 y1 y2 y3 HG HS
          go_wp2_with fail
          refine ⟨⟨1, by omega, by go_num, hp2, HF.out, hsf⟩, ?_⟩
          simp [intOf]
          omega
        · obtain ⟨j, rfl⟩ : ∃ j, k = j + 1 := ⟨k - 1, by omega⟩
          obtain ⟨b', o', x, A2, c2, hbb, _, hx', hc0', _, _, _, _, _⟩ := RdT.at_ hr (show j < n by omega)
          injection hbb with hbb
          injection hbb with hb1 hb2
          subst hb1 hb2
          have KX : Hid (∀ W, Below wr.heap.size wr W → W.cell? ⟨b, o + j * 3, none⟩ = some (.string x.nm)) := fun W bw => (bw.cell (p := ⟨b, o + j * 3, none⟩) (by show b < _; omega)).trans ((hbel.out.cell (p := ⟨b, o + j * 3, none⟩) (by show b < _; omega)).trans hc0')
          have HX' := Lib.hid hx'
          clear hx' hc0'
          have g4 : IntKind.i64.wrap ((((j + 1 : Nat) : Int)) - 1) = (j : Int) := by rw [IntWalk.i64_in _ (by omega)]; omega
          have g5 : (0 : Int) ≤ (j : Int) := by omega
          have g6 : (j : Int) < (n : Int) := by omega
          have g7 : (j : Int).toNat = j := by omega
          have g8 : decide ((0 : Int) < (((j + 1 : Nat) : Int))) = true := decide_eq_true (by omega)
          cases hlt2 : ltN x.nm t.nm with
          | true =>
            have hp2 : Hid ((ts.take (j + 1 + 1)).all validTb = true ∧ AscN ts (j + 1 + 1)) := ⟨hp1.out, hp.out.2.step HX'.out HX.out hlt2⟩
            unfold ltN at hlt2
            clear hp1
            obtain ⟨nm, ar, rs⟩ := t
            go_wp2_with fail
            have knb : Kn w [(w.heap.size, 0, .slice (some ⟨b, o, none⟩) n c), (wr.heap.size, 0, .string nm), (wr.heap.size, 1, .int .i64 ar), (wr.heap.size, 2, .slice A1 rs.length c1)] (wr.alloc (.cells #[.string nm, .int .i64 ar, .slice A1 rs.length c1] 41)) := kn.box3 (.string nm) (.int .i64 ar) (.slice A1 rs.length c1) 41
            have hwb := (HW.out (.string nm) (.int .i64 ar) (.slice A1 rs.length c1)).out
            have hs1 : wr.heap.size + 1 ≤ (wr.alloc (.cells #[.string nm, .int .i64 ar, .slice A1 rs.length c1] 41)).heap.size := by simp
            generalize wr.alloc (.cells #[.string nm, .int .i64 ar, .slice A1 rs.length c1] 41) = W1 at knb hwb hs1 ⊢
            have KN := Lib.hid knb
            have HWB := Lib.hid hwb
            have bz0 := Lib.hid (Below.refl W1.heap.size W1)
            clear kn knb hwb HW x0 d0 d1 d2
            refine wp_region_class (by kernel_rfl) (by kernel_rfl) (fun W => Below W1.heap.size W1 W) ((bz0.out).drew) (fun S _ f hG hS => ?_)
            have y0 : ∀ s, (f s).cell? ⟨w.heap.size, 0, none⟩ = some (.slice (some ⟨b, o, none⟩) n c) := fun s => ((KN.out.next (hG s)).all).1
            have y1 : ∀ s, (f s).cell? ⟨wr.heap.size, 0, none⟩ = some (.string nm) := fun s => ((KN.out.next (hG s)).all).2.1
            have y2 : ∀ s, (f s).cell? ⟨wr.heap.size, 1, none⟩ = some (.int .i64 ar) := fun s => ((KN.out.next (hG s)).all).2.2.1
            have y3 : ∀ s, (f s).cell? ⟨wr.heap.size, 2, none⟩ = some (.slice A1 rs.length c1) := fun s => ((KN.out.next (hG s)).all).2.2.2.1
            have y4 : ∀ s, (f s).cell? ⟨b, o + j * 3, none⟩ = some (.string x.nm) := fun s => KX.out _ (HWB.out.trans ((hG s).mono HWB.out.size))
            have HG := Lib.hid hG
            have HS := Lib.hid hS
            clear hG hS
            repeat (first | go_big_quiet_step ((first | (go_at_call 75; exact Calls.clsB HS.out (HG.out _) (KV.out _ (HWB.out.trans ((HG.out _).mono HWB.out.size)))))) | quiet_step ((first | (go_at_call 75; exact Calls.clsB HS.out (HG.out _) (KV.out _ (HWB.out.trans ((HG.out _).mono HWB.out.size)))))))
            refine wpQuiet_nil ?_
            rintro _ ⟨s, rfl⟩
            have HF := Lib.hid (((KN.out.next (HG.out s)).sub (L' := [(w.heap.size, 0, .slice (some ⟨b, o, none⟩) n c)]) (by simp)))
            have hsf : w.heap.size + 1 ≤ (f s).heap.size := by have := (HG.out s).size; omega
            clear y0 y1 y2 y3 y4 g3 g4 g7 HG HS
            go_wp2_with fail
            refine ⟨⟨j + 1 + 1, by omega, by go_num, hp2, HF.out, hsf⟩, ?_⟩
            simp [intOf]
            omega
          | false =>
            have hf := Lib.hid (validD_no2 HX'.out HX.out hlt2)
            unfold ltN at hlt2
            clear hp1
            obtain ⟨nm, ar, rs⟩ := t
            go_wp2_with fail
            have knb : Kn w [(w.heap.size, 0, .slice (some ⟨b, o, none⟩) n c), (wr.heap.size, 0, .string nm), (wr.heap.size, 1, .int .i64 ar), (wr.heap.size, 2, .slice A1 rs.length c1)] (wr.alloc (.cells #[.string nm, .int .i64 ar, .slice A1 rs.length c1] 41)) := kn.box3 (.string nm) (.int .i64 ar) (.slice A1 rs.length c1) 41
            have hwb := (HW.out (.string nm) (.int .i64 ar) (.slice A1 rs.length c1)).out
            have hs1 : wr.heap.size + 1 ≤ (wr.alloc (.cells #[.string nm, .int .i64 ar, .slice A1 rs.length c1] 41)).heap.size := by simp
            generalize wr.alloc (.cells #[.string nm, .int .i64 ar, .slice A1 rs.length c1] 41) = W1 at knb hwb hs1 ⊢
            have KN := Lib.hid knb
            have HWB := Lib.hid hwb
            have bz0 := Lib.hid (Below.refl W1.heap.size W1)
            clear kn knb hwb HW x0 d0 d1 d2
            refine wp_region_class (by kernel_rfl) (by kernel_rfl) (fun W => Below W1.heap.size W1 W) ((bz0.out).drew) (fun S _ f hG hS => ?_)
            have y0 : ∀ s, (f s).cell? ⟨w.heap.size, 0, none⟩ = some (.slice (some ⟨b, o, none⟩) n c) := fun s => ((KN.out.next (hG s)).all).1
            have y1 : ∀ s, (f s).cell? ⟨wr.heap.size, 0, none⟩ = some (.string nm) := fun s => ((KN.out.next (hG s)).all).2.1
            have y2 : ∀ s, (f s).cell? ⟨wr.heap.size, 1, none⟩ = some (.int .i64 ar) := fun s => ((KN.out.next (hG s)).all).2.2.1
            have y3 : ∀ s, (f s).cell? ⟨wr.heap.size, 2, none⟩ = some (.slice A1 rs.length c1) := fun s => ((KN.out.next (hG s)).all).2.2.2.1
            have y4 : ∀ s, (f s).cell? ⟨b, o + j * 3, none⟩ = some (.string x.nm) := fun s => KX.out _ (HWB.out.trans ((hG s).mono HWB.out.size))
            have HG := Lib.hid hG
            have HS := Lib.hid hS
            clear hG hS
            repeat (first | go_big_quiet_step ((first | (go_at_call 75; exact Calls.clsB HS.out (HG.out _) (KV.out _ (HWB.out.trans ((HG.out _).mono HWB.out.size)))))) | quiet_step ((first | (go_at_call 75; exact Calls.clsB HS.out (HG.out _) (KV.out _ (HWB.out.trans ((HG.out _).mono HWB.out.size)))))))
            refine wpQuiet_nil ?_
            rintro _ ⟨s, rfl⟩
            have HF := Lib.hid (((KN.out.next (HG.out s)).sub (L' := [(w.heap.size, 0, .slice (some ⟨b, o, none⟩) n c)]) (by simp)).bel)
            clear y0 y1 y2 y3 y4 g3 g4 g7 HG HS
            go_wp2_with fail
            go_ret
            exact ⟨by rw [hf.out] <;> rfl, HF.out⟩
    · obtain rfl : k = n := by omega
      have hf := Lib.hid (validD_end hp.out.1 hp.out.2 (by rw [HL.out]; exact Nat.le_refl _))
      rw [HL.out] at hf
      have hq := Lib.hid (show decide ((k : Int) ≤ 6) = decide (k ≤ 6) by by_cases h6 : k ≤ 6 <;> simp [h6] <;> omega)
      go_wp2_with fail
      go_ret
      exact ⟨by rw [hf.out, ← hq.out] <;> rfl, hbel.out⟩
end Go.Proofs.YtmojjbhjjhdpaaaDoor
