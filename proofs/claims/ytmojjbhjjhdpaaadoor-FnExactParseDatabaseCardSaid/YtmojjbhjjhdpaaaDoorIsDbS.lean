/- spec.IsValidDatabase. No condition but the size that the laws let in. -/
import Derived.Test.YtmojjbhjjhdpaaaDoorIsDbP
import Derived.Test.YtmojjbhjjhdpaaaDoorCls
namespace Go.Proofs.YtmojjbhjjhdpaaaDoor
open Go.RowKit Go.Deep

set_option maxRecDepth 100000 in
set_option maxHeartbeats 1000000 in
theorem spec_IsValidDatabase_any (A : Option Addr) (n c B : Nat) (ts : List Tab) (w : World) (hr : RdT w B A n ts) (hB : B ≤ w.heap.size) (hn : n ≤ 1000000000) (hs : sumT ts ≤ 4294967296) :
    Calls Tryd.prog 84 #[.agg #[.slice A n c]] w fun e w' => e = .returned (.bool (validD ts)) ∧ Below w.heap.size w w' := by
  have HL := Lib.hid hr.1
  have hsm := Lib.hid hs
  clear hs
  have kn0 : Kn w [(w.heap.size, 0, .slice A n c)] (w.alloc (.cells #[.slice A n c] 55)) := by
    simpa using (Kn.start w).box1 (.slice A n c) 55
  go_enter Tryd.func84, Tryd.ntmps84
  go_wp2_with fail
  generalize w.alloc (.cells #[.slice A n c] 55) = w0 at kn0 ⊢
  go_loopw [3] (fun i wr => ∃ k : Nat, k ≤ n ∧ i = .int .i64 k ∧ Hid ((ts.take k).all validTb = true ∧ AscN ts k) ∧ Kn w [(w.heap.size, 0, .slice A n c)] wr) (fun i _ => n - (intOf i).toNat)
  case atStart => exact ⟨0, by omega, rfl, ⟨by simp, AscN.one _ (by omega)⟩, kn0⟩
  case round =>
    obtain ⟨k, hk, rfl, hp, kn⟩ := hrel
    clear kn0
    obtain ⟨x0, _⟩ := kn.all
    have hbel := Lib.hid kn.bel
    have hsz := hbel.out.size
    by_cases hlt : k < n
    · obtain ⟨b, o, t, A1, c1, rfl, hb, hx, hc0, hc1, hc2, hrd, hm, _⟩ := RdT.at_ hr hlt
      have bz0 := Lib.hid (Below.refl wr.heap.size wr)
      have KV : Hid (∀ W, Below wr.heap.size wr W → Calls Tryd.prog 72 #[.agg #[.string t.nm, .int .i64 t.ar, .slice A1 t.rs.length c1]] W fun e w' => e = .returned (.bool (validTb t)) ∧ Below W.heap.size W w') := fun W bw =>
        spec_IsValidTable_any t.nm t.ar A1 t.rs.length c1 B t.rs W (RdR.belowB hrd (hbel.out.trans (bw.mono hsz)) hB) (Nat.le_trans hB (Nat.le_trans hsz bw.size)) (by have := sumT_mem (List.mem_of_getElem? hx); have := hsm.out; omega)
      have HX := Lib.hid hx
      have g1 : (0 : Int) ≤ (k : Int) := by omega
      have g2 : (k : Int) < (n : Int) := by omega
      have g3 : (k : Int).toNat = k := by omega
      have KN := Lib.hid kn
      have KB : Hid (∀ W, Below wr.heap.size wr W → W.cell? ⟨w.heap.size, 0, none⟩ = some (.slice (some ⟨b, o, none⟩) n c) ∧ W.cell? ⟨b, o + k * 3, none⟩ = some (.string t.nm) ∧ W.cell? ⟨b, o + k * 3 + 1, none⟩ = some (.int .i64 t.ar) ∧ W.cell? ⟨b, o + k * 3 + 2, none⟩ = some (.slice A1 t.rs.length c1)) := fun W bw => by
        obtain ⟨z0, _⟩ := (KN.out.next bw).all
        exact ⟨z0, (bw.cell (p := ⟨b, o + k * 3, none⟩) (by show b < _; omega)).trans ((hbel.out.cell (p := ⟨b, o + k * 3, none⟩) (by show b < _; omega)).trans hc0), (bw.cell (p := ⟨b, o + k * 3 + 1, none⟩) (by show b < _; omega)).trans ((hbel.out.cell (p := ⟨b, o + k * 3 + 1, none⟩) (by show b < _; omega)).trans hc1),
          (bw.cell (p := ⟨b, o + k * 3 + 2, none⟩) (by show b < _; omega)).trans ((hbel.out.cell (p := ⟨b, o + k * 3 + 2, none⟩) (by show b < _; omega)).trans hc2)⟩
      clear hx hc0 hc1 hc2 hrd hm kn
      cases hv : validTb t with
      | false =>
        have hf := Lib.hid (validD_no HX.out hv)
        rw [hv] at KV
        clear hv
        obtain ⟨nm, ar, rs⟩ := t
        go_wp2_with fail
        refine wp_region_class (by kernel_rfl) (by kernel_rfl) (fun W => Below wr.heap.size wr W) ((bz0.out).drew) (fun S _ f hG hS => ?_)
        have y0 : ∀ s, (f s).cell? ⟨w.heap.size, 0, none⟩ = some (.slice (some ⟨b, o, none⟩) n c) := fun s => (KB.out _ (hG s)).1
        have y1 : ∀ s, (f s).cell? ⟨b, o + k * 3, none⟩ = some (.string nm) := fun s => (KB.out _ (hG s)).2.1
        have y2 : ∀ s, (f s).cell? ⟨b, o + k * 3 + 1, none⟩ = some (.int .i64 ar) := fun s => (KB.out _ (hG s)).2.2.1
        have y3 : ∀ s, (f s).cell? ⟨b, o + k * 3 + 2, none⟩ = some (.slice A1 rs.length c1) := fun s => (KB.out _ (hG s)).2.2.2
        have HG := Lib.hid hG
        have HS := Lib.hid hS
        clear hG hS
        repeat (first | go_big_quiet_step ((first | (go_at_call 72; exact Calls.clsB HS.out (HG.out _) (KV.out _ (HG.out _))))) | quiet_step ((first | (go_at_call 72; exact Calls.clsB HS.out (HG.out _) (KV.out _ (HG.out _))))))
        refine wpQuiet_nil ?_
        rintro _ ⟨s, rfl⟩
        have HF := Lib.hid (KN.out.next (HG.out s)).bel
        clear y0 y1 y2 y3 g3 HG HS
        go_wp2_with fail
        go_ret
        exact ⟨by rw [hf.out] <;> rfl, HF.out⟩
      | true =>
        have hp1 := Lib.hid (tabs_take hp.out.1 HX.out hv)
        rw [hv] at KV
        clear hv
        rcases Nat.eq_zero_or_pos k with hk0 | hk0
        · subst hk0
          have hp2 : Hid ((ts.take 1).all validTb = true ∧ AscN ts 1) := ⟨hp1.out, AscN.one _ (by omega)⟩
          obtain ⟨nm, ar, rs⟩ := t
          have g2' : (0 : Int) < (n : Int) := by omega
          simp only [Nat.zero_mul, Nat.add_zero] at KB
          clear g1 g2 g3 hp1
          go_wp2_with fail
          refine wp_region_class (by kernel_rfl) (by kernel_rfl) (fun W => Below wr.heap.size wr W) ((bz0.out).drew) (fun S _ f hG hS => ?_)
          have y0 : ∀ s, (f s).cell? ⟨w.heap.size, 0, none⟩ = some (.slice (some ⟨b, o, none⟩) n c) := fun s => (KB.out _ (hG s)).1
          have y1 : ∀ s, (f s).cell? ⟨b, o, none⟩ = some (.string nm) := fun s => (KB.out _ (hG s)).2.1
          have y2 : ∀ s, (f s).cell? ⟨b, o + 1, none⟩ = some (.int .i64 ar) := fun s => (KB.out _ (hG s)).2.2.1
          have y3 : ∀ s, (f s).cell? ⟨b, o + 2, none⟩ = some (.slice A1 rs.length c1) := fun s => (KB.out _ (hG s)).2.2.2
          have HG := Lib.hid hG
          have HS := Lib.hid hS
          clear hG hS
          repeat (first | go_big_quiet_step ((first | (go_at_call 72; exact Calls.clsB HS.out (HG.out _) (KV.out _ (HG.out _))))) | quiet_step ((first | (go_at_call 72; exact Calls.clsB HS.out (HG.out _) (KV.out _ (HG.out _))))))
          refine wpQuiet_nil ?_
          rintro _ ⟨s, rfl⟩
          have HF := Lib.hid (KN.out.next (HG.out s))
          clear y0 y1 y2 y3 HG HS
          go_wp2_with fail
          refine ⟨⟨1, by omega, by go_num, hp2, HF.out⟩, ?_⟩
          simp [intOf]
          omega
        · obtain ⟨j, rfl⟩ : ∃ j, k = j + 1 := ⟨k - 1, by omega⟩
          obtain ⟨b', o', x, A2, c2, hbb, _, hx', hc0', _, _, _, _, _⟩ := RdT.at_ hr (show j < n by omega)
          injection hbb with hbb
          injection hbb with hb1 hb2
          subst hb1 hb2
          have KX : Hid (∀ W, Below wr.heap.size wr W → W.cell? ⟨b, o + j * 3, none⟩ = some (.string x.nm)) := fun W bw => (bw.cell (p := ⟨b, o + j * 3, none⟩) (by show b < _; omega)).trans ((hbel.out.cell (p := ⟨b, o + j * 3, none⟩) (by show b < _; omega)).trans hc0')
          have HX' := Lib.hid hx'
          clear hx' hc0'
          have g4 : IntKind.i64.wrap ((((j + 1 : Nat) : Int)) - 1) = (j : Int) := by rw [IntWalk.i64_in _ (by omega)]; omega
          have g5 : (0 : Int) ≤ (j : Int) := by omega
          have g6 : (j : Int) < (n : Int) := by omega
          have g7 : (j : Int).toNat = j := by omega
          have g8 : decide ((0 : Int) < (((j + 1 : Nat) : Int))) = true := decide_eq_true (by omega)
          cases hlt2 : ltN x.nm t.nm with
          | true =>
            have hp2 : Hid ((ts.take (j + 1 + 1)).all validTb = true ∧ AscN ts (j + 1 + 1)) := ⟨hp1.out, hp.out.2.step HX'.out HX.out hlt2⟩
            unfold ltN at hlt2
            clear hp1
            obtain ⟨nm, ar, rs⟩ := t
            go_wp2_with fail
            refine wp_region_class (by kernel_rfl) (by kernel_rfl) (fun W => Below wr.heap.size wr W) ((bz0.out).drew) (fun S _ f hG hS => ?_)
            have y0 : ∀ s, (f s).cell? ⟨w.heap.size, 0, none⟩ = some (.slice (some ⟨b, o, none⟩) n c) := fun s => (KB.out _ (hG s)).1
            have y1 : ∀ s, (f s).cell? ⟨b, o + (j + 1) * 3, none⟩ = some (.string nm) := fun s => (KB.out _ (hG s)).2.1
            have y2 : ∀ s, (f s).cell? ⟨b, o + (j + 1) * 3 + 1, none⟩ = some (.int .i64 ar) := fun s => (KB.out _ (hG s)).2.2.1
            have y3 : ∀ s, (f s).cell? ⟨b, o + (j + 1) * 3 + 2, none⟩ = some (.slice A1 rs.length c1) := fun s => (KB.out _ (hG s)).2.2.2
            have y4 : ∀ s, (f s).cell? ⟨b, o + j * 3, none⟩ = some (.string x.nm) := fun s => KX.out _ (hG s)
            have HG := Lib.hid hG
            have HS := Lib.hid hS
            clear hG hS
            repeat (first | go_big_quiet_step ((first | (go_at_call 72; exact Calls.clsB HS.out (HG.out _) (KV.out _ (HG.out _))))) | quiet_step ((first | (go_at_call 72; exact Calls.clsB HS.out (HG.out _) (KV.out _ (HG.out _))))))
            refine wpQuiet_nil ?_
            rintro _ ⟨s, rfl⟩
            have HF := Lib.hid (KN.out.next (HG.out s))
            clear y0 y1 y2 y3 y4 g3 g4 g7 HG HS
            go_wp2_with fail
            refine ⟨⟨j + 1 + 1, by omega, by go_num, hp2, HF.out⟩, ?_⟩
            simp [intOf]
            omega
          | false =>
            have hf := Lib.hid (validD_no2 HX'.out HX.out hlt2)
            unfold ltN at hlt2
            clear hp1
            obtain ⟨nm, ar, rs⟩ := t
            go_wp2_with fail
            refine wp_region_class (by kernel_rfl) (by kernel_rfl) (fun W => Below wr.heap.size wr W) ((bz0.out).drew) (fun S _ f hG hS => ?_)
            have y0 : ∀ s, (f s).cell? ⟨w.heap.size, 0, none⟩ = some (.slice (some ⟨b, o, none⟩) n c) := fun s => (KB.out _ (hG s)).1
            have y1 : ∀ s, (f s).cell? ⟨b, o + (j + 1) * 3, none⟩ = some (.string nm) := fun s => (KB.out _ (hG s)).2.1
            have y2 : ∀ s, (f s).cell? ⟨b, o + (j + 1) * 3 + 1, none⟩ = some (.int .i64 ar) := fun s => (KB.out _ (hG s)).2.2.1
            have y3 : ∀ s, (f s).cell? ⟨b, o + (j + 1) * 3 + 2, none⟩ = some (.slice A1 rs.length c1) := fun s => (KB.out _ (hG s)).2.2.2
            have y4 : ∀ s, (f s).cell? ⟨b, o + j * 3, none⟩ = some (.string x.nm) := fun s => KX.out _ (hG s)
            have HG := Lib.hid hG
            have HS := Lib.hid hS
            clear hG hS
            repeat (first | go_big_quiet_step ((first | (go_at_call 72; exact Calls.clsB HS.out (HG.out _) (KV.out _ (HG.out _))))) | quiet_step ((first | (go_at_call 72; exact Calls.clsB HS.out (HG.out _) (KV.out _ (HG.out _))))))
            refine wpQuiet_nil ?_
            rintro _ ⟨s, rfl⟩
            have HF := Lib.hid (KN.out.next (HG.out s)).bel
            clear y0 y1 y2 y3 y4 g3 g4 g7 HG HS
            go_wp2_with fail
            go_ret
            exact ⟨by rw [hf.out] <;> rfl, HF.out⟩
    · obtain rfl : k = n := by omega
      have hf := Lib.hid (validD_end hp.out.1 hp.out.2 (by rw [HL.out]; exact Nat.le_refl _))
      rw [HL.out] at hf
      have hq := Lib.hid (show decide ((k : Int) ≤ 6) = decide (k ≤ 6) by by_cases h6 : k ≤ 6 <;> simp [h6] <;> omega)
      go_wp2_with fail
      go_ret
      exact ⟨by rw [hf.out, ← hq.out] <;> rfl, hbel.out⟩
end Go.Proofs.YtmojjbhjjhdpaaaDoor
