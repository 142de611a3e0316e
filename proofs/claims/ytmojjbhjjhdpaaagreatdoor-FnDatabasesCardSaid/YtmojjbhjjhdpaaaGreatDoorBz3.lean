/- IsDbI, Look, CopyD, SetI, SetS, DelT, DelD, Rem, CntD, EqD, EqDS, DFmt, DFmtI, L4V, TParS, Pd, in one text, as far as the seat's program has the functions (printed by tools/fit2.py). -/
import Derived.Test.YtmojjbhjjhdpaaaGreatDoorBz2
import Derived.Deep.DeepCutAuto
import Derived.Lib.SliceRun
import Derived.Deep.RegionHeld3
namespace Go.Proofs.YtmojjbhjjhdpaaaGreatDoor
section
open Go.RowKit Go.Deep

set_option maxRecDepth 100000 in
set_option maxHeartbeats 1000000 in
theorem impl_IsValidDatabase_any (A : Option Addr) (n c B : Nat) (ts : List Tab) (w : World) (hr : RdT w B A n ts) (hB : B ≤ w.heap.size) (hn : n ≤ 1000000000) (hs : sumT ts ≤ 4294967296) :
    Calls Tryz.prog 24 #[.agg #[.slice A n c]] w fun e w' => e = .returned (.bool (validD ts)) ∧ Below w.heap.size w w' := by
  have HL := Lib.hid hr.1
  have hsm := Lib.hid hs
  clear hs
  have kn0 : Kn w [(w.heap.size, 0, .slice A n c)] (w.alloc (.cells #[.slice A n c] 42)) := by
    simpa using (Kn.start w).box1 (.slice A n c) 42
  go_enter Tryz.func24, Tryz.ntmps24
  go_wp2_with fail
  have s0 : w.heap.size + 1 ≤ (w.alloc (.cells #[.slice A n c] 42)).heap.size := by simp
  generalize w.alloc (.cells #[.slice A n c] 42) = w0 at kn0 s0 ⊢
  go_loopw [3, 4, 8] (fun _ _ i wr => ∃ k : Nat, k ≤ n ∧ i = .int .i64 k ∧ Hid ((ts.take k).all validTb = true ∧ AscN ts k) ∧ Kn w [(w.heap.size, 0, .slice A n c)] wr ∧ w.heap.size + 1 ≤ wr.heap.size) (fun _ _ i _ => n - (intOf i).toNat)
  case atStart => exact ⟨0, by omega, rfl, ⟨by simp, AscN.one _ (by omega)⟩, kn0, s0⟩
  case round =>
    obtain ⟨k, hk, rfl, hp, kn, hsr⟩ := hrel
    clear kn0 s0
    obtain ⟨x0, _⟩ := kn.all
    have hbel := Lib.hid kn.bel
    have hsz := hbel.out.size
    by_cases hlt : k < n
    · obtain ⟨b, o, t, A1, c1, rfl, hb, hx, hc0, hc1, hc2, hrd, hm, _⟩ := RdT.at_ hr hlt
      have d0 := (hbel.out.cell (p := ⟨b, o + k * 3, none⟩) (by show b < _; omega)).trans hc0
      have d1 := (hbel.out.cell (p := ⟨b, o + k * 3 + 1, none⟩) (by show b < _; omega)).trans hc1
      have d2 := (hbel.out.cell (p := ⟨b, o + k * 3 + 2, none⟩) (by show b < _; omega)).trans hc2
      have hW : ∀ v0 v1 v2, Hid (Below wr.heap.size wr (wr.alloc (.cells #[v0, v1, v2] 26))) := fun v0 v1 v2 => (Below.refl _ _).alloc (Nat.le_refl _) _
      have KV : Hid (∀ W, Below wr.heap.size wr W → Calls Tryz.prog 16 #[.agg #[.string t.nm, .int .i64 t.ar, .slice A1 t.rs.length c1]] W fun e w' => e = .returned (.bool (validTb t)) ∧ Below W.heap.size W w') := fun W bw =>
        impl_IsValidTable_any t.nm t.ar A1 t.rs.length c1 B t.rs W (RdR.belowB hrd (hbel.out.trans (bw.mono hsz)) hB) (Nat.le_trans hB (Nat.le_trans hsz bw.size)) (by have := sumT_mem (List.mem_of_getElem? hx); have := hsm.out; omega)
      have HX := Lib.hid hx
      have g1 : (0 : Int) ≤ (k : Int) := by omega
      have g2 : (k : Int) < (n : Int) := by omega
      have g3 : (k : Int).toNat = k := by omega
      have HW := Lib.hid hW
      clear hx hc0 hc1 hc2 hrd hm hW
      cases hv : validTb t with
      | false =>
        have hf := Lib.hid (validD_no HX.out hv)
        rw [hv] at KV
        clear hv
        obtain ⟨nm, ar, rs⟩ := t
        go_wp2_with fail
        have knb : Kn w [(w.heap.size, 0, .slice (some ⟨b, o, none⟩) n c), (wr.heap.size, 0, .string nm), (wr.heap.size, 1, .int .i64 ar), (wr.heap.size, 2, .slice A1 rs.length c1)] (wr.alloc (.cells #[.string nm, .int .i64 ar, .slice A1 rs.length c1] 26)) := kn.box3 (.string nm) (.int .i64 ar) (.slice A1 rs.length c1) 26
        have hwb := (HW.out (.string nm) (.int .i64 ar) (.slice A1 rs.length c1)).out
        have hs1 : wr.heap.size + 1 ≤ (wr.alloc (.cells #[.string nm, .int .i64 ar, .slice A1 rs.length c1] 26)).heap.size := by simp
        generalize wr.alloc (.cells #[.string nm, .int .i64 ar, .slice A1 rs.length c1] 26) = W1 at knb hwb hs1 ⊢
        have KN := Lib.hid knb
        have HWB := Lib.hid hwb
        have bz0 := Lib.hid (Below.refl W1.heap.size W1)
        clear kn knb hwb HW x0 d0 d1 d2
        refine wp_region_class (by kernel_rfl) (by kernel_rfl) (fun W => Below W1.heap.size W1 W) ((bz0.out).drew) (fun S _ f hG hS => ?_)
        have y0 : ∀ s, (f s).cell? ⟨w.heap.size, 0, none⟩ = some (.slice (some ⟨b, o, none⟩) n c) := fun s => ((KN.out.next (hG s)).all).1
        have y1 : ∀ s, (f s).cell? ⟨wr.heap.size, 0, none⟩ = some (.string nm) := fun s => ((KN.out.next (hG s)).all).2.1
        have y2 : ∀ s, (f s).cell? ⟨wr.heap.size, 1, none⟩ = some (.int .i64 ar) := fun s => ((KN.out.next (hG s)).all).2.2.1
        have y3 : ∀ s, (f s).cell? ⟨wr.heap.size, 2, none⟩ = some (.slice A1 rs.length c1) := fun s => ((KN.out.next (hG s)).all).2.2.2.1
        have HG := Lib.hid hG
        have HS := Lib.hid hS
        clear hG hS
        repeat (first | go_big_quiet_step ((first | (go_at_call 16; exact Calls.clsB HS.out (HG.out _) (KV.out _ (HWB.out.trans ((HG.out _).mono HWB.out.size)))))) | quiet_step ((first | (go_at_call 16; exact Calls.clsB HS.out (HG.out _) (KV.out _ (HWB.out.trans ((HG.out _).mono HWB.out.size)))))))
        refine wpQuiet_nil ?_
        rintro _ ⟨s, rfl⟩
        have HF := Lib.hid (((KN.out.next (HG.out s)).sub (L' := [(w.heap.size, 0, .slice (some ⟨b, o, none⟩) n c)]) (by simp)).bel)
        clear y0 y1 y2 y3 g3 HG HS
        go_wp2_with fail
        go_ret
        exact ⟨by rw [hf.out] <;> rfl, HF.out⟩
      | true =>
        have hp1 := Lib.hid (tabs_take hp.out.1 HX.out hv)
        rw [hv] at KV
        clear hv
        rcases Nat.eq_zero_or_pos k with hk0 | hk0
        · subst hk0
          have hp2 : Hid ((ts.take 1).all validTb = true ∧ AscN ts 1) := ⟨hp1.out, AscN.one _ (by omega)⟩
          have g2' : (0 : Int) < (n : Int) := by omega
          simp only [Nat.zero_mul, Nat.add_zero] at d0 d1 d2
          clear g1 g2 g3 hp1
          obtain ⟨nm, ar, rs⟩ := t
          go_wp2_with fail
          have knb : Kn w [(w.heap.size, 0, .slice (some ⟨b, o, none⟩) n c), (wr.heap.size, 0, .string nm), (wr.heap.size, 1, .int .i64 ar), (wr.heap.size, 2, .slice A1 rs.length c1)] (wr.alloc (.cells #[.string nm, .int .i64 ar, .slice A1 rs.length c1] 26)) := kn.box3 (.string nm) (.int .i64 ar) (.slice A1 rs.length c1) 26
          have hwb := (HW.out (.string nm) (.int .i64 ar) (.slice A1 rs.length c1)).out
          have hs1 : wr.heap.size + 1 ≤ (wr.alloc (.cells #[.string nm, .int .i64 ar, .slice A1 rs.length c1] 26)).heap.size := by simp
          generalize wr.alloc (.cells #[.string nm, .int .i64 ar, .slice A1 rs.length c1] 26) = W1 at knb hwb hs1 ⊢
          have KN := Lib.hid knb
          have HWB := Lib.hid hwb
          have bz0 := Lib.hid (Below.refl W1.heap.size W1)
          clear kn knb hwb HW x0 d0 d1 d2
          refine wp_region_class (by kernel_rfl) (by kernel_rfl) (fun W => Below W1.heap.size W1 W) ((bz0.out).drew) (fun S _ f hG hS => ?_)
          have y0 : ∀ s, (f s).cell? ⟨w.heap.size, 0, none⟩ = some (.slice (some ⟨b, o, none⟩) n c) := fun s => ((KN.out.next (hG s)).all).1
          have y1 : ∀ s, (f s).cell? ⟨wr.heap.size, 0, none⟩ = some (.string nm) := fun s => ((KN.out.next (hG s)).all).2.1
          have y2 : ∀ s, (f s).cell? ⟨wr.heap.size, 1, none⟩ = some (.int .i64 ar) := fun s => ((KN.out.next (hG s)).all).2.2.1
          have y3 : ∀ s, (f s).cell? ⟨wr.heap.size, 2, none⟩ = some (.slice A1 rs.length c1) := fun s => ((KN.out.next (hG s)).all).2.2.2.1
          have HG := Lib.hid hG
          have HS := Lib.hid hS
          clear hG hS
          repeat (first | go_big_quiet_step ((first | (go_at_call 16; exact Calls.clsB HS.out (HG.out _) (KV.out _ (HWB.out.trans ((HG.out _).mono HWB.out.size)))))) | quiet_step ((first | (go_at_call 16; exact Calls.clsB HS.out (HG.out _) (KV.out _ (HWB.out.trans ((HG.out _).mono HWB.out.size)))))))
          refine wpQuiet_nil ?_
          rintro _ ⟨s, rfl⟩
          have HF := Lib.hid (((KN.out.next (HG.out s)).sub (L' := [(w.heap.size, 0, .slice (some ⟨b, o, none⟩) n c)]) (by simp)))
          have hsf : w.heap.size + 1 ≤ (f s).heap.size := by have := (HG.out s).size; omega
          clear y0 y1 y2 y3 HG HS
          go_wp2_with fail
          refine ⟨⟨1, by omega, by go_num, hp2, HF.out, hsf⟩, ?_⟩
          simp [intOf]
          omega
        · obtain ⟨j, rfl⟩ : ∃ j, k = j + 1 := ⟨k - 1, by omega⟩
          obtain ⟨b', o', x, A2, c2, hbb, _, hx', hc0', _, _, _, _, _⟩ := RdT.at_ hr (show j < n by omega)
          injection hbb with hbb
          injection hbb with hb1 hb2
          subst hb1 hb2
          have KX : Hid (∀ W, Below wr.heap.size wr W → W.cell? ⟨b, o + j * 3, none⟩ = some (.string x.nm)) := fun W bw => (bw.cell (p := ⟨b, o + j * 3, none⟩) (by show b < _; omega)).trans ((hbel.out.cell (p := ⟨b, o + j * 3, none⟩) (by show b < _; omega)).trans hc0')
          have HX' := Lib.hid hx'
          clear hx' hc0'
          have g4 : IntKind.i64.wrap ((((j + 1 : Nat) : Int)) - 1) = (j : Int) := by rw [IntWalk.i64_in _ (by omega)]; omega
          have g5 : (0 : Int) ≤ (j : Int) := by omega
          have g6 : (j : Int) < (n : Int) := by omega
          have g7 : (j : Int).toNat = j := by omega
          have g8 : decide ((0 : Int) < (((j + 1 : Nat) : Int))) = true := decide_eq_true (by omega)
          cases hlt2 : ltN x.nm t.nm with
          | true =>
            have hp2 : Hid ((ts.take (j + 1 + 1)).all validTb = true ∧ AscN ts (j + 1 + 1)) := ⟨hp1.out, hp.out.2.step HX'.out HX.out hlt2⟩
            unfold ltN at hlt2
            clear hp1
            obtain ⟨nm, ar, rs⟩ := t
            go_wp2_with fail
            have knb : Kn w [(w.heap.size, 0, .slice (some ⟨b, o, none⟩) n c), (wr.heap.size, 0, .string nm), (wr.heap.size, 1, .int .i64 ar), (wr.heap.size, 2, .slice A1 rs.length c1)] (wr.alloc (.cells #[.string nm, .int .i64 ar, .slice A1 rs.length c1] 26)) := kn.box3 (.string nm) (.int .i64 ar) (.slice A1 rs.length c1) 26
            have hwb := (HW.out (.string nm) (.int .i64 ar) (.slice A1 rs.length c1)).out
            have hs1 : wr.heap.size + 1 ≤ (wr.alloc (.cells #[.string nm, .int .i64 ar, .slice A1 rs.length c1] 26)).heap.size := by simp
            generalize wr.alloc (.cells #[.string nm, .int .i64 ar, .slice A1 rs.length c1] 26) = W1 at knb hwb hs1 ⊢
            have KN := Lib.hid knb
            have HWB := Lib.hid hwb
            have bz0 := Lib.hid (Below.refl W1.heap.size W1)
            clear kn knb hwb HW x0 d0 d1 d2
            refine wp_region_class (by kernel_rfl) (by kernel_rfl) (fun W => Below W1.heap.size W1 W) ((bz0.out).drew) (fun S _ f hG hS => ?_)
            have y0 : ∀ s, (f s).cell? ⟨w.heap.size, 0, none⟩ = some (.slice (some ⟨b, o, none⟩) n c) := fun s => ((KN.out.next (hG s)).all).1
            have y1 : ∀ s, (f s).cell? ⟨wr.heap.size, 0, none⟩ = some (.string nm) := fun s => ((KN.out.next (hG s)).all).2.1
            have y2 : ∀ s, (f s).cell? ⟨wr.heap.size, 1, none⟩ = some (.int .i64 ar) := fun s => ((KN.out.next (hG s)).all).2.2.1
            have y3 : ∀ s, (f s).cell? ⟨wr.heap.size, 2, none⟩ = some (.slice A1 rs.length c1) := fun s => ((KN.out.next (hG s)).all).2.2.2.1
            have y4 : ∀ s, (f s).cell? ⟨b, o + j * 3, none⟩ = some (.string x.nm) := fun s => KX.out _ (HWB.out.trans ((hG s).mono HWB.out.size))
            have HG := Lib.hid hG
            have HS := Lib.hid hS
            clear hG hS
            repeat (first | go_big_quiet_step ((first | (go_at_call 16; exact Calls.clsB HS.out (HG.out _) (KV.out _ (HWB.out.trans ((HG.out _).mono HWB.out.size)))))) | quiet_step ((first | (go_at_call 16; exact Calls.clsB HS.out (HG.out _) (KV.out _ (HWB.out.trans ((HG.out _).mono HWB.out.size)))))))
            refine wpQuiet_nil ?_
            rintro _ ⟨s, rfl⟩
            have HF := Lib.hid (((KN.out.next (HG.out s)).sub (L' := [(w.heap.size, 0, .slice (some ⟨b, o, none⟩) n c)]) (by simp)))
            have hsf : w.heap.size + 1 ≤ (f s).heap.size := by have := (HG.out s).size; omega
            clear y0 y1 y2 y3 y4 g3 g4 g7 HG HS
            go_wp2_with fail
            refine ⟨⟨j + 1 + 1, by omega, by go_num, hp2, HF.out, hsf⟩, ?_⟩
            simp [intOf]
            omega
          | false =>
            have hf := Lib.hid (validD_no2 HX'.out HX.out hlt2)
            unfold ltN at hlt2
            clear hp1
            obtain ⟨nm, ar, rs⟩ := t
            go_wp2_with fail
            have knb : Kn w [(w.heap.size, 0, .slice (some ⟨b, o, none⟩) n c), (wr.heap.size, 0, .string nm), (wr.heap.size, 1, .int .i64 ar), (wr.heap.size, 2, .slice A1 rs.length c1)] (wr.alloc (.cells #[.string nm, .int .i64 ar, .slice A1 rs.length c1] 26)) := kn.box3 (.string nm) (.int .i64 ar) (.slice A1 rs.length c1) 26
            have hwb := (HW.out (.string nm) (.int .i64 ar) (.slice A1 rs.length c1)).out
            have hs1 : wr.heap.size + 1 ≤ (wr.alloc (.cells #[.string nm, .int .i64 ar, .slice A1 rs.length c1] 26)).heap.size := by simp
            generalize wr.alloc (.cells #[.string nm, .int .i64 ar, .slice A1 rs.length c1] 26) = W1 at knb hwb hs1 ⊢
            have KN := Lib.hid knb
            have HWB := Lib.hid hwb
            have bz0 := Lib.hid (Below.refl W1.heap.size W1)
            clear kn knb hwb HW x0 d0 d1 d2
            refine wp_region_class (by kernel_rfl) (by kernel_rfl) (fun W => Below W1.heap.size W1 W) ((bz0.out).drew) (fun S _ f hG hS => ?_)
            have y0 : ∀ s, (f s).cell? ⟨w.heap.size, 0, none⟩ = some (.slice (some ⟨b, o, none⟩) n c) := fun s => ((KN.out.next (hG s)).all).1
            have y1 : ∀ s, (f s).cell? ⟨wr.heap.size, 0, none⟩ = some (.string nm) := fun s => ((KN.out.next (hG s)).all).2.1
            have y2 : ∀ s, (f s).cell? ⟨wr.heap.size, 1, none⟩ = some (.int .i64 ar) := fun s => ((KN.out.next (hG s)).all).2.2.1
            have y3 : ∀ s, (f s).cell? ⟨wr.heap.size, 2, none⟩ = some (.slice A1 rs.length c1) := fun s => ((KN.out.next (hG s)).all).2.2.2.1
            have y4 : ∀ s, (f s).cell? ⟨b, o + j * 3, none⟩ = some (.string x.nm) := fun s => KX.out _ (HWB.out.trans ((hG s).mono HWB.out.size))
            have HG := Lib.hid hG
            have HS := Lib.hid hS
            clear hG hS
            repeat (first | go_big_quiet_step ((first | (go_at_call 16; exact Calls.clsB HS.out (HG.out _) (KV.out _ (HWB.out.trans ((HG.out _).mono HWB.out.size)))))) | quiet_step ((first | (go_at_call 16; exact Calls.clsB HS.out (HG.out _) (KV.out _ (HWB.out.trans ((HG.out _).mono HWB.out.size)))))))
            refine wpQuiet_nil ?_
            rintro _ ⟨s, rfl⟩
            have HF := Lib.hid (((KN.out.next (HG.out s)).sub (L' := [(w.heap.size, 0, .slice (some ⟨b, o, none⟩) n c)]) (by simp)).bel)
            clear y0 y1 y2 y3 y4 g3 g4 g7 HG HS
            go_wp2_with fail
            go_ret
            exact ⟨by rw [hf.out] <;> rfl, HF.out⟩
    · obtain rfl : k = n := by omega
      have hf := Lib.hid (validD_end hp.out.1 hp.out.2 (by rw [HL.out]; exact Nat.le_refl _))
      rw [HL.out] at hf
      have hq := Lib.hid (show decide ((k : Int) ≤ 6) = decide (k ≤ 6) by by_cases h6 : k ≤ 6 <;> simp [h6] <;> omega)
      go_wp2_with fail
      go_ret
      exact ⟨by rw [hf.out, ← hq.out] <;> rfl, hbel.out⟩

end

section
open Go.RowKit Go.Deep
open Go.RowKit Go.Deep

def idxN (ts : List Tab) (nm : ByteArray) : Int := match ts.findIdx? (fun t => decide (t.nm = nm)) with | some k => k | none => -1

theorem idxN_at {ts : List Tab} {nm : ByteArray} {k : Nat} {t : Tab} (h : ts[k]? = some t) (ht : t.nm = nm) (hno : NoN ts nm k) : idxN ts nm = k := by
  obtain ⟨hk, rfl⟩ := List.getElem?_eq_some_iff.1 h
  have : ts.findIdx? (fun t => decide (t.nm = nm)) = some k := by
    rw [List.findIdx?_eq_some_iff_getElem]
    exact ⟨hk, by simpa using ht, fun j hj => by simpa using hno j ts[j] hj (List.getElem?_eq_getElem (by omega))⟩
  unfold idxN
  rw [this]

theorem idxN_none {ts : List Tab} {nm : ByteArray} {k : Nat} (hno : NoN ts nm k) (hk : ts.length ≤ k) : idxN ts nm = -1 := by
  have : ts.findIdx? (fun t => decide (t.nm = nm)) = none := by
    rw [List.findIdx?_eq_none_iff]
    intro x hx
    simpa using hno.all hk x hx
  unfold idxN
  rw [this]

theorem noN_or (ts : List Tab) (nm : ByteArray) : ∀ k, NoN ts nm k ∨ ∃ j t, ts[j]? = some t ∧ t.nm = nm ∧ NoN ts nm j
  | 0 => .inl (NoN.zero ts nm)
  | k + 1 => by
    rcases noN_or ts nm k with h | h
    · cases hx : ts[k]? with
      | none =>
        refine .inl fun j x hj hjx => ?_
        rcases Nat.lt_or_ge j k with h1 | h1
        · exact h j x h1 hjx
        · obtain rfl : j = k := by omega
          rw [hx] at hjx
          cases hjx
      | some t =>
        by_cases ht : t.nm = nm
        · exact .inr ⟨k, t, hx, ht, h⟩
        · exact .inl (h.step hx ht)
    · exact .inr h

set_option maxRecDepth 100000 in
theorem predLook_any (nm nm' : ByteArray) (ar : Int) (A : Option Addr) (n c g : Nat) (w : World) (hc : w.cell? ⟨g, 0, none⟩ = some (.string nm')) :
    Calls Tryz.prog 66 #[.agg #[.string nm, .int .i64 ar, .slice A n c], .pointer (some ⟨g, 0, none⟩)] w fun e w' => e = .returned (.bool (decide (nm = nm'))) ∧ Below w.heap.size w w' := by
  have HB := Lib.hid ((Below.refl w.heap.size w).alloc (Nat.le_refl _) (.cells #[.string nm, .int .i64 ar, .slice A n c] 26))
  have hc' := (HB.out.cell (p := ⟨g, 0, none⟩) (World.block_lt_of_cell? w _ hc)).trans hc
  clear hc
  by_cases h : nm = nm'
  · subst h
    go_enter Tryz.func66, Tryz.ntmps66
    go_wp2_with fail
    go_ret
    exact ⟨by simp, HB.out⟩
  · have hf : Hid (decide (nm = nm') = false) := decide_eq_false h
    have q1 := str_eq0 h
    clear h
    go_enter Tryz.func66, Tryz.ntmps66
    go_wp2_with fail
    go_ret
    exact ⟨by rw [hf.out] <;> rfl, HB.out⟩

set_option maxRecDepth 100000 in
set_option maxHeartbeats 400000 in
theorem indexFuncLook_any (A : Option Addr) (n c g B : Nat) (ts : List Tab) (nm' : ByteArray) (w : World) (hcell : w.cell? ⟨g, 0, none⟩ = some (.string nm')) (hg : g < w.heap.size) (hr : RdT w B A n ts) (hB : B ≤ w.heap.size) (hn : n ≤ 1000000000) :
    Calls Tryz.prog 65 #[.slice A n c, .func (.func 66) #[] #[.pointer (some ⟨g, 0, none⟩)]] w fun e w' => e = .returned (.int .i64 (idxN ts nm')) ∧ Below w.heap.size w w' := by
  have HL := Lib.hid hr.1
  have HG := Lib.hid hcell
  clear hcell
  go_enter Tryz.func65, Tryz.ntmps65
  go_wp2
  go_loopw [5, 8] (fun _ i wr => ∃ k : Nat, k ≤ n ∧ i = .int .i64 k ∧ Hid (NoN ts nm' k) ∧ Hid (Below w.heap.size w wr)) (fun _ i _ => n - (intOf i).toNat)
  case atStart => exact ⟨0, by omega, rfl, NoN.zero _ _, Below.refl _ _⟩
  case round =>
    obtain ⟨k, hk, rfl, hpre, hbel⟩ := hrel
    have hsz := hbel.out.size
    by_cases hlt : k < n
    · obtain ⟨b, o, t, A1, c1, rfl, hb, hx, hc0, hc1, hc2, hrd, hm, _⟩ := RdT.at_ hr hlt
      have d0 := (hbel.out.cell (p := ⟨b, o + k * 3, none⟩) (by show b < _; omega)).trans hc0
      have d1 := (hbel.out.cell (p := ⟨b, o + k * 3 + 1, none⟩) (by show b < _; omega)).trans hc1
      have d2 := (hbel.out.cell (p := ⟨b, o + k * 3 + 2, none⟩) (by show b < _; omega)).trans hc2
      have KE := Lib.hid (predLook_any t.nm nm' t.ar A1 t.rs.length c1 g wr ((hbel.out.cell (p := ⟨g, 0, none⟩) hg).trans HG.out))
      have HX := Lib.hid hx
      clear hx hc0 hc1 hc2 hrd hm
      by_cases he : t.nm = nm'
      · have hf : Hid (idxN ts nm' = k) := idxN_at HX.out he hpre.out
        have hd := Lib.hid (decide_eq_true he)
        clear he
        obtain ⟨nm, ar, rs⟩ := t
        go_wp2_with fail
        refine KE.out.mono ?_
        rintro e w1 ⟨rfl, hq⟩
        rw [hd.out]
        have HQ := Lib.hid (hbel.out.trans (hq.mono hsz))
        clear hq
        go_wp2_with fail
        go_ret
        exact ⟨by rw [hf.out] <;> rfl, HQ.out⟩
      · have hpre' : Hid (NoN ts nm' (k + 1)) := hpre.out.step HX.out he
        have hd := Lib.hid (decide_eq_false he)
        clear he
        obtain ⟨nm, ar, rs⟩ := t
        go_wp2_with fail
        refine KE.out.mono ?_
        rintro e w1 ⟨rfl, hq⟩
        rw [hd.out]
        have HQ := Lib.hid (hbel.out.trans (hq.mono hsz))
        clear hq
        go_wp2_with fail
        refine ⟨⟨k + 1, by omega, by go_num, hpre', HQ⟩, ?_⟩
        simp [intOf]
        omega
    · obtain rfl : k = n := by omega
      have hf : Hid (idxN ts nm' = -1) := idxN_none hpre.out (by rw [HL.out]; exact Nat.le_refl _)
      go_wp2
      go_ret
      exact ⟨by rw [hf.out] <;> rfl, hbel.out⟩

set_option maxRecDepth 100000 in
theorem predRem_any (nm nm' : ByteArray) (ar : Int) (A : Option Addr) (n c g : Nat) (w : World) (hc : w.cell? ⟨g, 0, none⟩ = some (.string nm')) :
    Calls Tryz.prog 68 #[.agg #[.string nm, .int .i64 ar, .slice A n c], .pointer (some ⟨g, 0, none⟩)] w fun e w' => e = .returned (.bool (decide (nm = nm'))) ∧ Below w.heap.size w w' := by
  have HB := Lib.hid ((Below.refl w.heap.size w).alloc (Nat.le_refl _) (.cells #[.string nm, .int .i64 ar, .slice A n c] 26))
  have hc' := (HB.out.cell (p := ⟨g, 0, none⟩) (World.block_lt_of_cell? w _ hc)).trans hc
  clear hc
  by_cases h : nm = nm'
  · subst h
    go_enter Tryz.func68, Tryz.ntmps68
    go_wp2_with fail
    go_ret
    exact ⟨by simp, HB.out⟩
  · have hf : Hid (decide (nm = nm') = false) := decide_eq_false h
    have q1 := str_eq0 h
    clear h
    go_enter Tryz.func68, Tryz.ntmps68
    go_wp2_with fail
    go_ret
    exact ⟨by rw [hf.out] <;> rfl, HB.out⟩

set_option maxRecDepth 100000 in
set_option maxHeartbeats 400000 in
theorem indexFuncRem_any (A : Option Addr) (n c g B : Nat) (ts : List Tab) (nm' : ByteArray) (w : World) (hcell : w.cell? ⟨g, 0, none⟩ = some (.string nm')) (hg : g < w.heap.size) (hr : RdT w B A n ts) (hB : B ≤ w.heap.size) (hn : n ≤ 1000000000) :
    Calls Tryz.prog 65 #[.slice A n c, .func (.func 68) #[] #[.pointer (some ⟨g, 0, none⟩)]] w fun e w' => e = .returned (.int .i64 (idxN ts nm')) ∧ Below w.heap.size w w' := by
  have HL := Lib.hid hr.1
  have HG := Lib.hid hcell
  clear hcell
  go_enter Tryz.func65, Tryz.ntmps65
  go_wp2
  go_loopw [5, 8] (fun _ i wr => ∃ k : Nat, k ≤ n ∧ i = .int .i64 k ∧ Hid (NoN ts nm' k) ∧ Hid (Below w.heap.size w wr)) (fun _ i _ => n - (intOf i).toNat)
  case atStart => exact ⟨0, by omega, rfl, NoN.zero _ _, Below.refl _ _⟩
  case round =>
    obtain ⟨k, hk, rfl, hpre, hbel⟩ := hrel
    have hsz := hbel.out.size
    by_cases hlt : k < n
    · obtain ⟨b, o, t, A1, c1, rfl, hb, hx, hc0, hc1, hc2, hrd, hm, _⟩ := RdT.at_ hr hlt
      have d0 := (hbel.out.cell (p := ⟨b, o + k * 3, none⟩) (by show b < _; omega)).trans hc0
      have d1 := (hbel.out.cell (p := ⟨b, o + k * 3 + 1, none⟩) (by show b < _; omega)).trans hc1
      have d2 := (hbel.out.cell (p := ⟨b, o + k * 3 + 2, none⟩) (by show b < _; omega)).trans hc2
      have KE := Lib.hid (predRem_any t.nm nm' t.ar A1 t.rs.length c1 g wr ((hbel.out.cell (p := ⟨g, 0, none⟩) hg).trans HG.out))
      have HX := Lib.hid hx
      clear hx hc0 hc1 hc2 hrd hm
      by_cases he : t.nm = nm'
      · have hf : Hid (idxN ts nm' = k) := idxN_at HX.out he hpre.out
        have hd := Lib.hid (decide_eq_true he)
        clear he
        obtain ⟨nm, ar, rs⟩ := t
        go_wp2_with fail
        refine KE.out.mono ?_
        rintro e w1 ⟨rfl, hq⟩
        rw [hd.out]
        have HQ := Lib.hid (hbel.out.trans (hq.mono hsz))
        clear hq
        go_wp2_with fail
        go_ret
        exact ⟨by rw [hf.out] <;> rfl, HQ.out⟩
      · have hpre' : Hid (NoN ts nm' (k + 1)) := hpre.out.step HX.out he
        have hd := Lib.hid (decide_eq_false he)
        clear he
        obtain ⟨nm, ar, rs⟩ := t
        go_wp2_with fail
        refine KE.out.mono ?_
        rintro e w1 ⟨rfl, hq⟩
        rw [hd.out]
        have HQ := Lib.hid (hbel.out.trans (hq.mono hsz))
        clear hq
        go_wp2_with fail
        refine ⟨⟨k + 1, by omega, by go_num, hpre', HQ⟩, ?_⟩
        simp [intOf]
        omega
    · obtain rfl : k = n := by omega
      have hf : Hid (idxN ts nm' = -1) := idxN_none hpre.out (by rw [HL.out]; exact Nat.le_refl _)
      go_wp2
      go_ret
      exact ⟨by rw [hf.out] <;> rfl, hbel.out⟩

set_option maxRecDepth 100000 in
set_option maxHeartbeats 1000000 in
theorem impl_LookupTable_any (A : Option Addr) (n c B : Nat) (ts : List Tab) (nm : ByteArray) (w : World) (hr : RdT w B A n ts) (hB : B ≤ w.heap.size) (hn : n ≤ 1000000000) (hs : sumT ts ≤ 4294967296) :
    Calls Tryz.prog 23 #[.agg #[.slice A n c], .string nm] w (TabBool (lookR ts nm) w) := by
  have HL := Lib.hid hr.1
  have hsm := Lib.hid hs
  have kn0 : Kn w [(w.heap.size, 0, .slice A n c), (w.heap.size + 1, 0, .string nm), (w.heap.size + 2, 0, .string { data := #[] }), (w.heap.size + 2, 1, .int .i64 0), (w.heap.size + 2, 2, .slice none 0 0)] (((w.alloc (.cells #[.slice A n c] 42)).alloc (.cells #[.string nm] 9)).alloc (.cells #[.string { data := #[] }, .int .i64 0, .slice none 0 0] 26)) := by
    simpa using ((((Kn.start w).box1 (.slice A n c) 42).box1 (.string nm) 9).box3 (.string { data := #[] }) (.int .i64 0) (.slice none 0 0) 26)
  go_enter Tryz.func23, Tryz.ntmps23
  go_wp2_with fail
  have s0 : w.heap.size + 3 ≤ (((w.alloc (.cells #[.slice A n c] 42)).alloc (.cells #[.string nm] 9)).alloc (.cells #[.string { data := #[] }, .int .i64 0, .slice none 0 0] 26)).heap.size := by simp
  generalize ((w.alloc (.cells #[.slice A n c] 42)).alloc (.cells #[.string nm] 9)).alloc (.cells #[.string { data := #[] }, .int .i64 0, .slice none 0 0] 26) = w0 at kn0 s0 ⊢
  have KIX := Lib.hid (indexFuncLook_any A n c (w.heap.size + 1) B ts nm w0 kn0.all.2.1 (by omega) (RdT.belowB hr kn0.bel hB) (Nat.le_trans hB kn0.bel.size) hn)
  rcases noN_or ts nm n with hno | ⟨k, t, hx, ht, hno⟩
  · have hf : Hid (lookR ts nm = nilR) := lookR_none hno (by rw [HL.out]; exact Nat.le_refl _)
    rw [idxN_none hno (by rw [HL.out]; exact Nat.le_refl _)] at KIX
    clear hno
    refine KIX.out.mono ?_
    rintro e w1 ⟨rfl, b1⟩
    have s1 := b1.size
    have kn1 := kn0.next b1
    clear kn0 b1
    obtain ⟨d0, d1, d2, d3, d4, _⟩ := kn1.all
    obtain ⟨f0, f1, f2, f3, f4, _⟩ := kn1.fall
    have HF := Lib.hid kn1.bel
    clear kn1
    go_wp2_with fail
    refine bodyPost_ret (v := .tuple #[.agg #[.string { data := #[] }, .int .i64 0, .slice none 0 0], .bool false]) (by simp [results, Tryz.results23, go_sem, *]) rfl (TabBool.of hf.out (OwnR.nil _ _ _) ?_)
    repeat first | exact HF.out | (refine Below.setCell ?_ ?_ _; rotate_left; (simp; try omega))
  · have hkn : k < n := by have := (List.getElem?_eq_some_iff.1 hx).1; rw [HL.out] at this; exact this
    rw [idxN_at hx ht hno] at KIX
    have hq : decide ((k : Int) < 0) = false := decide_eq_false (by omega)
    refine KIX.out.mono ?_
    rintro e w1 ⟨rfl, b1⟩
    have s1 := b1.size
    have kn1 := kn0.next b1
    clear kn0 b1
    obtain ⟨d0, d1, d2, d3, d4, _⟩ := kn1.all
    have KV := Lib.hid (impl_IsValidDatabase_any A n c B ts w1 (RdT.belowB hr kn1.bel hB) (Nat.le_trans hB kn1.bel.size) hn hs)
    cases hv : validD ts with
    | false =>
      have hf : Hid (lookR ts nm = nilR) := lookR_bad nm hv
      rw [hv] at KV
      clear hv hx ht hno
      go_wp2_with fail
      refine KV.out.mono ?_
      rintro e w2 ⟨rfl, b2⟩
      have s2 := b2.size
      have kn2 := kn1.next b2
      clear kn1 b2 d0 d1 d2 d3 d4
      obtain ⟨d0, d1, d2, d3, d4, _⟩ := kn2.all
      obtain ⟨f0, f1, f2, f3, f4, _⟩ := kn2.fall
      have HF := Lib.hid kn2.bel
      clear kn2
      go_wp2_with fail
      refine bodyPost_ret (v := .tuple #[.agg #[.string { data := #[] }, .int .i64 0, .slice none 0 0], .bool false]) (by simp [results, Tryz.results23, go_sem, *]) rfl (TabBool.of hf.out (OwnR.nil _ _ _) ?_)
      repeat first | exact HF.out | (refine Below.setCell ?_ ?_ _; rotate_left; (simp; try omega))
    | true =>
      have hf := Lib.hid (lookR_at hx ht hno hv)
      rw [hv] at KV
      have hts := Lib.hid (tab_small hx hs)
      obtain ⟨b, o, t', A1, c1, rfl, hb, hx', hc0, hc1, hc2, hrd, hm, _⟩ := RdT.at_ hr hkn
      rw [hx] at hx'
      injection hx' with hx'
      subst hx'
      clear hv hx ht hno hm
      go_wp2_with fail
      refine KV.out.mono ?_
      rintro e w2 ⟨rfl, b2⟩
      have s2 := b2.size
      have kn2 := kn1.next b2
      clear kn1 b2 d0 d1 d2 d3 d4
      have hbel := kn2.bel
      have e0 := (hbel.cell (p := ⟨b, o + k * 3, none⟩) (by show b < _; omega)).trans hc0
      have e1 := (hbel.cell (p := ⟨b, o + k * 3 + 1, none⟩) (by show b < _; omega)).trans hc1
      have e2 := (hbel.cell (p := ⟨b, o + k * 3 + 2, none⟩) (by show b < _; omega)).trans hc2
      have KC := Lib.hid (copyTable_any t.nm t.ar A1 t.rs.length c1 B t.rs w2 (RdR.belowB hrd hbel hB) (Nat.le_trans hB hbel.size) hts.out.1 hts.out.2)
      obtain ⟨d0, d1, d2, d3, d4, _⟩ := kn2.all
      clear hc0 hc1 hc2 hrd hbel
      go_wp2_with fail
      refine KC.out.mono ?_
      rintro e w3 ⟨Ao, co, rfl, oo, b3⟩
      have s3 := b3.size
      have kn3 := kn2.next b3
      have HO := Lib.hid oo
      clear kn2 b3 d0 d1 d2 d3 d4 oo e0 e1 e2
      obtain ⟨d0, d1, d2, d3, d4, _⟩ := kn3.all
      obtain ⟨f0, f1, f2, f3, f4, _⟩ := kn3.fall
      have HF := Lib.hid kn3.bel
      clear kn3
      go_wp2_with fail
      refine bodyPost_ret (v := .tuple #[.agg #[.string t.nm, .int .i64 t.ar, .slice Ao t.rs.length co], .bool true]) (by simp [results, Tryz.results23, go_sem, *]) rfl (TabBool.of hf.out ?_ ?_)
      · refine OwnR.down (lo := w2.heap.size) (OwnR.wide (hi := w3.heap.size) ?_ (by simp)) (by omega)
        repeat refine OwnR.setOff ?_ (by omega)
        exact HO.out
      · repeat first | exact HF.out | (refine Below.setCell ?_ ?_ _; rotate_left; (simp; try omega))

set_option maxRecDepth 100000 in
set_option maxHeartbeats 1000000 in
theorem spec_LookupTable_any (A : Option Addr) (n c B : Nat) (ts : List Tab) (nm : ByteArray) (w : World) (hr : RdT w B A n ts) (hB : B ≤ w.heap.size) (hn : n ≤ 1000000000) (hs : sumT ts ≤ 4294967296) :
    Calls Tryz.prog 69 #[.agg #[.slice A n c], .string nm] w (TabBool (lookR ts nm) w) := by
  have HL := Lib.hid hr.1
  have hsm := Lib.hid hs
  have kn0 : Kn w [(w.heap.size, 0, .slice A n c), (w.heap.size + 1, 0, .string { data := #[] }), (w.heap.size + 1, 1, .int .i64 0), (w.heap.size + 1, 2, .slice none 0 0)] ((w.alloc (.cells #[.slice A n c] 42)).alloc (.cells #[.string { data := #[] }, .int .i64 0, .slice none 0 0] 26)) := by
    simpa using (((Kn.start w).box1 (.slice A n c) 42).box3 (.string { data := #[] }) (.int .i64 0) (.slice none 0 0) 26)
  have KV : Hid (∀ W, Below w.heap.size w W → Calls Tryz.prog 33 #[.agg #[.slice A n c]] W fun e w' => e = .returned (.bool (validD ts)) ∧ Below W.heap.size W w') := fun W bw =>
    spec_IsValidDatabase_any A n c B ts W (RdT.belowB hr bw hB) (Nat.le_trans hB bw.size) hn hs
  clear hs
  go_enter Tryz.func69, Tryz.ntmps69
  go_wp2_with fail
  have s0 : w.heap.size + 2 ≤ ((w.alloc (.cells #[.slice A n c] 42)).alloc (.cells #[.string { data := #[] }, .int .i64 0, .slice none 0 0] 26)).heap.size := by simp
  generalize (w.alloc (.cells #[.slice A n c] 42)).alloc (.cells #[.string { data := #[] }, .int .i64 0, .slice none 0 0] 26) = w0 at kn0 s0 ⊢
  go_loopw [6] (fun i wr => ∃ k : Nat, k ≤ n ∧ i = .int .i64 k ∧ Hid (NoN ts nm k) ∧ Kn w [(w.heap.size, 0, .slice A n c), (w.heap.size + 1, 0, .string { data := #[] }), (w.heap.size + 1, 1, .int .i64 0), (w.heap.size + 1, 2, .slice none 0 0)] wr ∧ w.heap.size + 2 ≤ wr.heap.size) (fun i _ => n - (intOf i).toNat)
  case atStart => exact ⟨0, by omega, rfl, NoN.zero _ _, kn0, s0⟩
  case round =>
    obtain ⟨k, hk, rfl, hno, kn, hsr⟩ := hrel
    clear kn0 s0
    obtain ⟨d0, d1, d2, d3, _⟩ := kn.all
    by_cases hlt : k < n
    · obtain ⟨b, o, t, A1, c1, rfl, hb, hx, hc0, hc1, hc2, hrd, hm, _⟩ := RdT.at_ hr hlt
      have KV1 := Lib.hid (KV.out wr kn.bel)
      have HX := Lib.hid hx
      have hts := Lib.hid (tab_small hx hsm.out)
      have hb2 : b < w.heap.size := by omega
      clear hx hm
      cases hv : validD ts with
      | false =>
        have hf : Hid (lookR ts nm = nilR) := lookR_bad nm hv
        rw [hv] at KV1
        clear hv hc0 hc1 hc2 hrd
        go_wp2_with fail
        refine KV1.out.mono ?_
        rintro e w1 ⟨rfl, b1⟩
        have s1 := b1.size
        have kn1 := kn.next b1
        clear kn b1 d0 d1 d2 d3
        obtain ⟨d0, d1, d2, d3, _⟩ := kn1.all
        obtain ⟨f0, f1, f2, f3, _⟩ := kn1.fall
        have HF := Lib.hid kn1.bel
        clear kn1
        go_wp2_with fail
        refine bodyPost_ret (v := .tuple #[.agg #[.string { data := #[] }, .int .i64 0, .slice none 0 0], .bool false]) (by simp [results, Tryz.results69, go_sem, *]) rfl (TabBool.of hf.out (OwnR.nil _ _ _) ?_)
        repeat first | exact HF.out | (refine Below.setCell ?_ ?_ _; rotate_left; (simp; try omega))
      | true =>
        have HV := Lib.hid hv
        rw [hv] at KV1
        clear hv
        go_wp2_with fail
        refine KV1.out.mono ?_
        rintro e w1 ⟨rfl, b1⟩
        have s1 := b1.size
        have kn1 := kn.next b1
        clear kn b1 d0 d1 d2 d3
        obtain ⟨d0, d1, d2, d3, _⟩ := kn1.all
        have hbel := kn1.bel
        have e0 := (hbel.cell (p := ⟨b, o + k * 3, none⟩) hb2).trans hc0
        have e1 := (hbel.cell (p := ⟨b, o + k * 3 + 1, none⟩) hb2).trans hc1
        have e2 := (hbel.cell (p := ⟨b, o + k * 3 + 2, none⟩) hb2).trans hc2
        have KC := Lib.hid (l4Copy_any t.nm t.ar A1 t.rs.length c1 B t.rs w1 (RdR.belowB hrd hbel hB) (Nat.le_trans hB hbel.size) hts.out.1 hts.out.2)
        clear hc0 hc1 hc2 hrd hbel
        by_cases he : t.nm = nm
        · have hf := Lib.hid (lookR_at HX.out he hno.out HV.out)
          have HE := Lib.hid he
          have qe : (t.nm.toList == nm.toList) = true := by rw [he]; simp
          clear he
          go_wp2_with fail
          refine KC.out.mono ?_
          rintro e w3 ⟨Ao, co, rfl, oo, b3⟩
          have s3 := b3.size
          have kn3 := kn1.next b3
          have HO := Lib.hid oo
          clear kn1 b3 d0 d1 d2 d3 oo e0 e1 e2
          obtain ⟨d0, d1, d2, d3, _⟩ := kn3.all
          obtain ⟨f0, f1, f2, f3, _⟩ := kn3.fall
          have HF := Lib.hid kn3.bel
          clear kn3
          go_wp2_with fail
          refine bodyPost_ret (v := .tuple #[.agg #[.string t.nm, .int .i64 t.ar, .slice Ao t.rs.length co], .bool true]) (by simp [results, Tryz.results69, go_sem, *]) rfl (TabBool.of hf.out ?_ ?_)
          · refine OwnR.down (lo := w1.heap.size) (OwnR.wide (hi := w3.heap.size) ?_ (by simp)) (by omega)
            repeat refine OwnR.setOff ?_ (by omega)
            exact HO.out
          · repeat first | exact HF.out | (refine Below.setCell ?_ ?_ _; rotate_left; (simp; try omega))
        · have hno' : Hid (NoN ts nm (k + 1)) := hno.out.step HX.out he
          have qe := str_eq0 he
          clear he
          go_wp2_with fail
          refine ⟨⟨k + 1, by omega, by go_num, hno', kn1, by omega⟩, ?_⟩
          simp [intOf]
          omega
    · obtain rfl : k = n := by omega
      have hf : Hid (lookR ts nm = nilR) := lookR_none hno.out (by rw [HL.out]; exact Nat.le_refl _)
      obtain ⟨f0, f1, f2, f3, _⟩ := kn.fall
      have HF := Lib.hid kn.bel
      clear kn
      go_wp2_with fail
      refine bodyPost_ret (v := .tuple #[.agg #[.string { data := #[] }, .int .i64 0, .slice none 0 0], .bool false]) (by simp [results, Tryz.results69, go_sem, *]) rfl (TabBool.of hf.out (OwnR.nil _ _ _) ?_)
      repeat first | exact HF.out | (refine Below.setCell ?_ ?_ _; rotate_left; (simp; try omega))

end

section
open Go.RowKit Go.Deep

set_option maxRecDepth 100000 in
set_option maxHeartbeats 1000000 in
theorem copyDatabase_any (A : Option Addr) (n c B : Nat) (ts : List Tab) (w : World) (hr : RdT w B A n ts) (hB : B ≤ w.heap.size) (hn : n ≤ 1000000000) (hs : sumT ts ≤ 4294967296) :
    Calls Tryz.prog 63 #[.agg #[.slice A n c]] w (DbNew ts w) := by
  obtain ⟨i1, hi1, hz0, hz1, hz2⟩ := info_parts info_tab
  have HL := Lib.hid hr.1
  have hsm := Lib.hid hs
  clear hs
  have hd0 : DInv w [(w.heap.size, 0, .slice A n c), (w.heap.size + 1, 0, .slice none 0 0)] (w.heap.size + 2) (w.heap.size + 3) [] (.slice none 0 0) (((w.alloc (.cells #[.slice A n c] 42)).alloc (.cells #[.slice none 0 0] 42)).alloc (.cells #[.slice none 0 0] 42)) := by
    have hk := ((Kn.start w).box1 (.slice A n c) 42).box1 (.slice none 0 0) 42
    have hk2 : Kn w [(w.heap.size, 0, .slice A n c), (w.heap.size + 1, 0, .slice none 0 0)] (((w.alloc (.cells #[.slice A n c] 42)).alloc (.cells #[.slice none 0 0] 42)).alloc (.cells #[.slice none 0 0] 42)) := by simpa using hk.next ((Below.refl _ _).alloc (Nat.le_refl _) (.cells #[.slice none 0 0] 42))
    refine ⟨hk2, OwnD.nil _ _ _, by simp, by omega, by omega, by simp, by simp [go_sem], by simp [go_sem]⟩
  go_enter Tryz.func63, Tryz.ntmps63
  go_wp2_with fail
  generalize ((w.alloc (.cells #[.slice A n c] 42)).alloc (.cells #[.slice none 0 0] 42)).alloc (.cells #[.slice none 0 0] 42) = w0 at hd0 ⊢
  go_loopw [5, 10] (fun _ i wr => ∃ (k : Nat) (v : Value), k ≤ n ∧ i = .int .i64 k ∧ Hid (DInv w [(w.heap.size, 0, .slice A n c), (w.heap.size + 1, 0, .slice none 0 0)] (w.heap.size + 2) (w.heap.size + 3) (ts.take k) v wr)) (fun _ i _ => n - (intOf i).toNat)
  case atStart => exact ⟨0, _, by omega, rfl, hd0⟩
  case round =>
    obtain ⟨k, v, hk, rfl, hinv⟩ := hrel
    clear hd0
    have hbel := Lib.hid hinv.out.kn.bel
    have hsz := hbel.out.size
    by_cases hlt : k < n
    · obtain ⟨b, o, t, A', c', rfl, hb, hx, hc0, hc1, hc2, hrd, hm, hnm⟩ := RdT.at_ hr hlt
      have hts := Lib.hid (tab_small hx hsm.out)
      have HX := Lib.hid (show ts.take k ++ [t] = ts.take (k + 1) by rw [List.take_add_one, hx]; rfl)
      have hlk : (ts.take k).length ≤ 1000000000 := by rw [List.length_take]; omega
      have d0 := (hbel.out.cell (p := ⟨b, o + k * 3, none⟩) (by show b < _; omega)).trans hc0
      have d1 := (hbel.out.cell (p := ⟨b, o + k * 3 + 1, none⟩) (by show b < _; omega)).trans hc1
      have d2 := (hbel.out.cell (p := ⟨b, o + k * 3 + 2, none⟩) (by show b < _; omega)).trans hc2
      obtain ⟨nm, ar, rs⟩ := t
      have HX : Hid (ts.take k ++ [⟨nm, ar, rs⟩] = ts.take (k + 1)) := HX
      have hnm : nm.size ≤ maxLen := hnm
      generalize ts.take k = acc at hinv HX hlk
      have hW := (Below.refl wr.heap.size wr).alloc (Nat.le_refl _) (.cells #[.string nm, .int .i64 ar, .slice A' rs.length c'] 26)
      have KC : Hid (∀ U, Below (wr.alloc (.cells #[.string nm, .int .i64 ar, .slice A' rs.length c'] 26)).heap.size (wr.alloc (.cells #[.string nm, .int .i64 ar, .slice A' rs.length c'] 26)) U → Calls Tryz.prog 35 #[.agg #[.string nm, .int .i64 ar, .slice A' rs.length c']] U (TabNew nm ar rs U)) := fun U b =>
        copyTable_any nm ar A' rs.length c' B rs U (RdR.belowB hrd (hbel.out.trans ((hW.trans (b.mono hW.size)).mono hsz)) hB) (Nat.le_trans hB (Nat.le_trans hsz (Nat.le_trans hW.size b.size))) hts.out.1 hts.out.2
      have HI := Lib.hid (hinv.out.next hW)
      have x0 := HI.out.x0
      have e0 : (wr.alloc (.cells #[.string nm, .int .i64 ar, .slice A' rs.length c'] 26)).cell? ⟨wr.heap.size, 0, none⟩ = some (.string nm) := by simp [go_sem]
      have e1 : (wr.alloc (.cells #[.string nm, .int .i64 ar, .slice A' rs.length c'] 26)).cell? ⟨wr.heap.size, 1, none⟩ = some (.int .i64 ar) := by simp [go_sem]
      have e2 : (wr.alloc (.cells #[.string nm, .int .i64 ar, .slice A' rs.length c'] 26)).cell? ⟨wr.heap.size, 2, none⟩ = some (.slice A' rs.length c') := by simp [go_sem]
      have hlt1 : wr.heap.size < (wr.alloc (.cells #[.string nm, .int .i64 ar, .slice A' rs.length c'] 26)).heap.size := by simp
      clear hx hc0 hc1 hc2 hrd hm hW hinv
      go_wp2_with fail
      generalize wr.alloc (.cells #[.string nm, .int .i64 ar, .slice A' rs.length c'] 26) = W1 at KC HI x0 e0 e1 e2 hlt1 ⊢
      clear d0 d1 d2
      go_region_law (first
          | (go_simp; go_at_call 35; refine (KC.out _ ((Below.refl _ _).drew)).mono ?_; rintro e w1 ⟨A1, c1, rfl, ho1, hb1⟩
             have hb2 : Below W1.heap.size W1 w1 := ((Below.refl _ _).drew).trans hb1
             have hb3 : Below W1.heap.size W1 w1 := hb2
             have m0 : w1.cell? ⟨wr.heap.size, 0, none⟩ = some (.string nm) := (hb2.cell (p := ⟨wr.heap.size, 0, none⟩) hlt1).trans e0
             have m1 : w1.cell? ⟨wr.heap.size, 1, none⟩ = some (.int .i64 ar) := (hb2.cell (p := ⟨wr.heap.size, 1, none⟩) hlt1).trans e1
             have m2 : w1.cell? ⟨wr.heap.size, 2, none⟩ = some (.slice A' rs.length c') := (hb2.cell (p := ⟨wr.heap.size, 2, none⟩) hlt1).trans e2
             have hsw := Lib.hid hb2.size
             obtain ⟨xs, hrow, n2, happ⟩ := HI.out.app (nm := nm) (ar := ar) hb3 ho1 (Nat.le_refl _) (Nat.le_refl _) hnm
             have hx1 : w.heap.size + 2 < w1.heap.size := Nat.lt_of_lt_of_le (Nat.lt_of_lt_of_le HI.out.hxb HI.out.size) hb3.size
             have HA := Lib.hid happ
             clear hb3 hb2 ho1 hb1 happ)
          | (refine step_append_lies _ (by rfl) (.tmp 15) (.tmp 18) _ (by rfl) 0 26 i1 _ 3 48 Tryz.underlying40 hi1 hz0 hz1 hz2 (by rfl) (by omega) _ (acc).length xs (by rfl) hrow ⟨w1.heap.size, 0, none⟩ 1 1 [.string nm, .int .i64 ar, .slice A1 rs.length c1] (by rfl) rfl (World.news_of_block (cs := #[.string nm, .int .i64 ar, .slice A1 rs.length c1]) (t := 26) (fr := (0, 0)) (heap_alloc_new w1 _)) (by simp [Value.oneCell']) (by omega) (by unfold maxLen; omega) (by omega) (Nat.zero_le _) (w1.heap.size + 1) (by simp) ?_; intro g cap w2 hown2 hgrow hat hlt2
             obtain ⟨n2, n3, hF, hcl, hsz2⟩ := HA.out g cap w2 hown2 hgrow hat
             have HF := Lib.hid hF
             have hsZ := Lib.hid (Nat.le_trans hsw.out hsz2)
             clear hown2 hgrow hat hF hcl hsz2)
          | fail)
      all_goals (
        go_wp2_with fail
        refine ⟨⟨k + 1, _, by omega, by go_num, by rw [← HX.out]; exact HF⟩, ?_⟩
        simp [intOf]
        omega)
    · obtain rfl : k = n := by omega
      have HT := Lib.hid (show ts.take k = ts from List.take_of_length_le (Nat.le_of_eq HL.out))
      have hI := hinv.out
      rw [HT.out] at hI
      obtain ⟨A1, c1, rfl⟩ := hI.own.form
      obtain ⟨d0, d1, _⟩ := hI.kn.all
      obtain ⟨f0, f1, _⟩ := hI.kn.fall
      have x0 := hI.x0
      have HF := Lib.hid hI
      have hsz := hI.size
      clear hI hinv
      go_wp2_with fail
      refine bodyPost_ret (v := .agg #[.slice A1 ts.length c1]) (by simp [results, Tryz.results63, go_sem, *]) rfl (DbNew.of ?_ ?_)
      · refine OwnD.down (lo := w.heap.size + 3) (OwnD.wide (hi := wr.heap.size) ?_ (by simp)) (by omega)
        repeat refine OwnD.setOff ?_ (by omega)
        exact HF.out.own
      · repeat first | exact HF.out.kn.bel | (refine Below.setCell ?_ ?_ _; rotate_left; (simp; try omega))

set_option maxRecDepth 100000 in
set_option maxHeartbeats 1000000 in
theorem l5Copy_any (A : Option Addr) (n c B : Nat) (ts : List Tab) (w : World) (hr : RdT w B A n ts) (hB : B ≤ w.heap.size) (hn : n ≤ 1000000000) (hs : sumT ts ≤ 4294967296) :
    Calls Tryz.prog 64 #[.agg #[.slice A n c]] w (DbNew ts w) := by
  obtain ⟨i1, hi1, hz0, hz1, hz2⟩ := info_parts info_tab
  have HL := Lib.hid hr.1
  have hsm := Lib.hid hs
  clear hs
  have hd0 : DInv w [(w.heap.size, 0, .slice A n c), (w.heap.size + 1, 0, .slice none 0 0)] (w.heap.size + 2) (w.heap.size + 3) [] (.slice none 0 0) (((w.alloc (.cells #[.slice A n c] 42)).alloc (.cells #[.slice none 0 0] 42)).alloc (.cells #[.slice none 0 0] 42)) := by
    have hk := ((Kn.start w).box1 (.slice A n c) 42).box1 (.slice none 0 0) 42
    have hk2 : Kn w [(w.heap.size, 0, .slice A n c), (w.heap.size + 1, 0, .slice none 0 0)] (((w.alloc (.cells #[.slice A n c] 42)).alloc (.cells #[.slice none 0 0] 42)).alloc (.cells #[.slice none 0 0] 42)) := by simpa using hk.next ((Below.refl _ _).alloc (Nat.le_refl _) (.cells #[.slice none 0 0] 42))
    refine ⟨hk2, OwnD.nil _ _ _, by simp, by omega, by omega, by simp, by simp [go_sem], by simp [go_sem]⟩
  go_enter Tryz.func64, Tryz.ntmps64
  go_wp2_with fail
  generalize ((w.alloc (.cells #[.slice A n c] 42)).alloc (.cells #[.slice none 0 0] 42)).alloc (.cells #[.slice none 0 0] 42) = w0 at hd0 ⊢
  go_loopw [4] (fun i wr => ∃ (k : Nat) (v : Value), k ≤ n ∧ i = .int .i64 k ∧ Hid (DInv w [(w.heap.size, 0, .slice A n c), (w.heap.size + 1, 0, .slice none 0 0)] (w.heap.size + 2) (w.heap.size + 3) (ts.take k) v wr)) (fun i _ => n - (intOf i).toNat)
  case atStart => exact ⟨0, _, by omega, rfl, hd0⟩
  case round =>
    obtain ⟨k, v, hk, rfl, hinv⟩ := hrel
    clear hd0
    have hbel := Lib.hid hinv.out.kn.bel
    have hsz := hbel.out.size
    obtain ⟨k0, _⟩ := hinv.out.kn.all
    by_cases hlt : k < n
    · obtain ⟨b, o, t, A', c', rfl, hb, hx, hc0, hc1, hc2, hrd, hm, hnm⟩ := RdT.at_ hr hlt
      have hts := Lib.hid (tab_small hx hsm.out)
      have HX := Lib.hid (show ts.take k ++ [t] = ts.take (k + 1) by rw [List.take_add_one, hx]; rfl)
      have hlk : (ts.take k).length ≤ 1000000000 := by rw [List.length_take]; omega
      have d0 := (hbel.out.cell (p := ⟨b, o + k * 3, none⟩) (by show b < _; omega)).trans hc0
      have d1 := (hbel.out.cell (p := ⟨b, o + k * 3 + 1, none⟩) (by show b < _; omega)).trans hc1
      have d2 := (hbel.out.cell (p := ⟨b, o + k * 3 + 2, none⟩) (by show b < _; omega)).trans hc2
      obtain ⟨nm, ar, rs⟩ := t
      have HX : Hid (ts.take k ++ [⟨nm, ar, rs⟩] = ts.take (k + 1)) := HX
      have hnm : nm.size ≤ maxLen := hnm
      generalize ts.take k = acc at hinv HX hlk
      have KC := Lib.hid (l4Copy_any nm ar A' rs.length c' B rs wr (RdR.belowB hrd hbel.out hB) (Nat.le_trans hB hsz) hts.out.1 hts.out.2)
      clear hx hc0 hc1 hc2 hrd hm
      go_wp2_with fail
      refine KC.out.mono ?_
      rintro e w1 ⟨A1, c1, rfl, ho1, hb1⟩
      clear d0 d1 d2 k0
      obtain ⟨xs, hrow, n2, happ⟩ := hinv.out.app (nm := nm) (ar := ar) (w1 := w1.alloc (.cells #[.string nm, .int .i64 ar, .slice A1 rs.length c1] 26)) (hb1.alloc hb1.size (.cells #[.string nm, .int .i64 ar, .slice A1 rs.length c1] 26)) (ho1.below ((Below.refl w1.heap.size w1).alloc (Nat.le_refl _) (.cells #[.string nm, .int .i64 ar, .slice A1 rs.length c1] 26)) (Nat.le_refl _)) (Nat.le_refl _) (by simp) hnm
      have hnb : (w1.alloc (.cells #[.string nm, .int .i64 ar, .slice A1 rs.length c1] 26)).heap.size = w1.heap.size + 1 := by simp
      have hgn := heap_alloc_new (w1.alloc (.cells #[.string nm, .int .i64 ar, .slice A1 rs.length c1] 26)) (.cells #[.string nm, .int .i64 ar, .slice A1 rs.length c1] 26)
      have hx1 : w.heap.size + 2 < w1.heap.size := Nat.lt_of_lt_of_le (Nat.lt_of_lt_of_le hinv.out.hxb hinv.out.size) hb1.size
      rw [hnb] at hgn happ
      have n3 : w1.cell? ⟨w.heap.size + 2, 0, none⟩ = some (v) := (hb1.cell (p := ⟨w.heap.size + 2, 0, none⟩) (Nat.lt_of_lt_of_le hinv.out.hxb hinv.out.size)).trans hinv.out.x0
      have HA := Lib.hid happ
      have HR := Lib.hid hrow
      have HGN := Lib.hid hgn
      clear happ ho1 hb1 hrow hgn n2
      go_wp2_with (at_builtin; refine wpList_append_lies _ rfl _ _ _ rfl 0 26 i1 _ 3 48 Tryz.underlying40 hi1 hz0 hz1 hz2 rfl (by omega) _ (acc).length _ rfl HR.out ⟨w1.heap.size + 1, 0, none⟩ 1 1 [.string nm, .int .i64 ar, .slice A1 rs.length c1] rfl rfl (World.news_of_block (cs := #[.string nm, .int .i64 ar, .slice A1 rs.length c1]) (t := 26) (fr := (0, 0)) HGN.out) (by simp [Value.oneCell']) (by omega) (by unfold maxLen; omega) (by omega) (Nat.zero_le _) (w1.heap.size + 1 + 1) (by simp) ?_; intro g cap w2 hown2 hgrow hat hlt2; obtain ⟨m2, m3, hF, hcl, hsz2⟩ := HA.out g cap w2 hown2 hgrow hat; have HF := Lib.hid hF; clear hown2 hgrow hat hF hcl hsz2)
      refine ⟨⟨k + 1, _, by omega, by go_num, by rw [← HX.out]; exact HF⟩, ?_⟩
      simp [intOf]
      omega
    · obtain rfl : k = n := by omega
      have HT := Lib.hid (show ts.take k = ts from List.take_of_length_le (Nat.le_of_eq HL.out))
      have hI := hinv.out
      rw [HT.out] at hI
      obtain ⟨A1, c1, rfl⟩ := hI.own.form
      obtain ⟨d0, d1, _⟩ := hI.kn.all
      obtain ⟨f0, f1, _⟩ := hI.kn.fall
      have x0 := hI.x0
      have HF := Lib.hid hI
      have hsz := hI.size
      clear hI hinv
      go_wp2_with fail
      refine bodyPost_ret (v := .agg #[.slice A1 ts.length c1]) (by simp [results, Tryz.results64, go_sem, *]) rfl (DbNew.of ?_ ?_)
      · refine OwnD.down (lo := w.heap.size + 3) (OwnD.wide (hi := wr.heap.size) ?_ (by simp)) (by omega)
        repeat refine OwnD.setOff ?_ (by omega)
        exact HF.out.own
      · repeat first | exact HF.out.kn.bel | (refine Below.setCell ?_ ?_ _; rotate_left; (simp; try omega))

end

section
open Go.RowKit Go.Deep

set_option maxRecDepth 100000 in
set_option maxHeartbeats 4000000 in
theorem impl_SetTable_any (A A2 : Option Addr) (n c c2 B : Nat) (ts : List Tab) (tn : ByteArray) (ta : Int) (tr : List (List Int)) (w : World) (hr : RdT w B A n ts) (hB : B ≤ w.heap.size) (hn : n ≤ 1000000000) (hs : sumT ts ≤ 4294967296)
    (hr2 : RdR w B A2 tr.length tr) (hn2 : tr.length ≤ 5000000000) (hrow : ∀ r ∈ tr, r.length ≤ 17592186044416) (htn : tn.size ≤ maxLen) :
    Calls Tryz.prog 21 #[.agg #[.slice A n c], .agg #[.string tn, .int .i64 ta, .slice A2 tr.length c2]] w (DbBool (setR ts ⟨tn, ta, tr⟩) w) := by
  obtain ⟨i1, hi1, hz0, hz1, hz2⟩ := info_parts info_tab
  have HL := Lib.hid hr.1
  have hsm := Lib.hid hs
  have hrow' := Lib.hid hrow
  have KV : Hid (∀ W, Below w.heap.size w W → Calls Tryz.prog 24 #[.agg #[.slice A n c]] W fun e w' => e = .returned (.bool (validD ts)) ∧ Below W.heap.size W w') := fun W b => impl_IsValidDatabase_any A n c B ts W (RdT.belowB hr b hB) (Nat.le_trans hB b.size) hn hs
  have KT : Hid (∀ W, Below w.heap.size w W → Calls Tryz.prog 16 #[.agg #[.string tn, .int .i64 ta, .slice A2 tr.length c2]] W fun e w' => e = .returned (.bool (validTb ⟨tn, ta, tr⟩)) ∧ Below W.heap.size W w') := fun W b => impl_IsValidTable_any tn ta A2 tr.length c2 B tr W (RdR.belowB hr2 b hB) (Nat.le_trans hB b.size) (by omega)
  have KP : Hid (∀ W, Below w.heap.size w W → Calls Tryz.prog 63 #[.agg #[.slice A n c]] W (DbNew ts W)) := fun W b => copyDatabase_any A n c B ts W (RdT.belowB hr b hB) (Nat.le_trans hB b.size) hn hs
  have kn0 : Kn w [(w.heap.size, 0, .slice A n c), (w.heap.size + 1, 0, .string tn), (w.heap.size + 1, 1, .int .i64 ta), (w.heap.size + 1, 2, .slice A2 tr.length c2), (w.heap.size + 2, 0, .slice none 0 0)] (((w.alloc (.cells #[.slice A n c] 42)).alloc (.cells #[.string tn, .int .i64 ta, .slice A2 tr.length c2] 26)).alloc (.cells #[.slice none 0 0] 42)) := by
    simpa using ((((Kn.start w).box1 (.slice A n c) 42).box3 (.string tn) (.int .i64 ta) (.slice A2 tr.length c2) 26).box1 (.slice none 0 0) 42)
  clear hs hrow
  go_enter Tryz.func21, Tryz.ntmps21
  go_wp2_with fail
  have s0 : w.heap.size + 3 ≤ (((w.alloc (.cells #[.slice A n c] 42)).alloc (.cells #[.string tn, .int .i64 ta, .slice A2 tr.length c2] 26)).alloc (.cells #[.slice none 0 0] 42)).heap.size := by simp
  generalize ((w.alloc (.cells #[.slice A n c] 42)).alloc (.cells #[.string tn, .int .i64 ta, .slice A2 tr.length c2] 26)).alloc (.cells #[.slice none 0 0] 42) = w0 at kn0 s0 ⊢
  have KV0 := Lib.hid (KV.out w0 kn0.bel)
  cases hv : validD ts with
  | false =>
    have hf : Hid (setR ts ⟨tn, ta, tr⟩ = (ts, false)) := by show _ = _; rw [setR, if_neg (by rw [hv]; simp)]
    rw [hv] at KV0
    clear hv
    refine KV0.out.mono ?_
    rintro e w1 ⟨rfl, b1⟩
    have s1 := b1.size
    have kn1 := kn0.next b1
    clear kn0 b1
    obtain ⟨d0, d1, d2, d3, d4, _⟩ := kn1.all
    have KP1 := Lib.hid (KP.out w1 kn1.bel)
    go_wp2_with fail
    refine KP1.out.mono ?_
    rintro e w2 ⟨Ao, co, rfl, oo, b2⟩
    have s2 := b2.size
    have kn2 := kn1.next b2
    have HO := Lib.hid oo
    clear kn1 b2 oo d0 d1 d2 d3 d4
    obtain ⟨d0, d1, d2, d3, d4, _⟩ := kn2.all
    obtain ⟨f0, f1, f2, f3, f4, _⟩ := kn2.fall
    have HF := Lib.hid kn2.bel
    clear kn2
    go_wp2_with fail
    refine bodyPost_ret (v := .tuple #[.agg #[.slice Ao ts.length co], .bool false]) (by simp [results, Tryz.results21, go_sem, *]) rfl (DbBool.of hf.out ?_ ?_)
    · refine OwnD.down (lo := w1.heap.size) (OwnD.wide (hi := w2.heap.size) ?_ (by simp)) (by omega)
      repeat refine OwnD.setOff ?_ (by omega)
      exact HO.out
    · repeat first | exact HF.out | (refine Below.setCell ?_ ?_ _; rotate_left; (simp; try omega))
  | true =>
    have HV := Lib.hid hv
    rw [hv] at KV0
    clear hv
    refine KV0.out.mono ?_
    rintro e w1 ⟨rfl, b1⟩
    have s1 := b1.size
    have kn1 := kn0.next b1
    clear kn0 b1
    obtain ⟨d0, d1, d2, d3, d4, _⟩ := kn1.all
    have KT1 := Lib.hid (KT.out w1 kn1.bel)
    go_wp2_with fail
    cases hvt : validTb ⟨tn, ta, tr⟩ with
    | false =>
      have hf : Hid (setR ts ⟨tn, ta, tr⟩ = (ts, false)) := by show _ = _; rw [setR, if_neg (by rw [hvt]; simp)]
      rw [hvt] at KT1
      clear hvt
      refine KT1.out.mono ?_
      rintro e w2 ⟨rfl, b2⟩
      have s2 := b2.size
      have kn2 := kn1.next b2
      clear kn1 b2 d0 d1 d2 d3 d4
      obtain ⟨d0, d1, d2, d3, d4, _⟩ := kn2.all
      have KP2 := Lib.hid (KP.out w2 kn2.bel)
      go_wp2_with fail
      refine KP2.out.mono ?_
      rintro e w3 ⟨Ao, co, rfl, oo, b3⟩
      have s3 := b3.size
      have kn3 := kn2.next b3
      have HO := Lib.hid oo
      clear kn2 b3 oo d0 d1 d2 d3 d4
      obtain ⟨d0, d1, d2, d3, d4, _⟩ := kn3.all
      obtain ⟨f0, f1, f2, f3, f4, _⟩ := kn3.fall
      have HF := Lib.hid kn3.bel
      clear kn3
      go_wp2_with fail
      refine bodyPost_ret (v := .tuple #[.agg #[.slice Ao ts.length co], .bool false]) (by simp [results, Tryz.results21, go_sem, *]) rfl (DbBool.of hf.out ?_ ?_)
      · refine OwnD.down (lo := w2.heap.size) (OwnD.wide (hi := w3.heap.size) ?_ (by simp)) (by omega)
        repeat refine OwnD.setOff ?_ (by omega)
        exact HO.out
      · repeat first | exact HF.out | (refine Below.setCell ?_ ?_ _; rotate_left; (simp; try omega))
    | true =>
      have HVT := Lib.hid hvt
      rw [hvt] at KT1
      clear hvt
      refine KT1.out.mono ?_
      rintro e w2 ⟨rfl, b2⟩
      have s2 := b2.size
      have kn2 := kn1.next b2
      clear kn1 b2 d0 d1 d2 d3 d4 KT1 KV0
      obtain ⟨d0, d1, d2, d3, d4, _⟩ := kn2.all
      have ne0 : w.heap.size < w2.heap.size := by omega
      go_wp2_with fail
      clear ne0
      have hd0 : DInv w [(w.heap.size, 0, .slice A n c), (w.heap.size + 1, 0, .string tn), (w.heap.size + 1, 1, .int .i64 ta), (w.heap.size + 1, 2, .slice A2 tr.length c2), (w.heap.size + 2, 0, .slice none 0 0)] w2.heap.size (w2.heap.size + 1) [] (.slice none 0 0) (w2.alloc (.cells #[.slice none 0 0] 42)) :=
        ⟨kn2.next ((Below.refl _ _).alloc (Nat.le_refl _) (.cells #[.slice none 0 0] 42)), OwnD.nil _ _ _, by simp, by omega, by omega, by simp only [List.forall_mem_cons]; simp; omega, by simp [go_sem], by simp [go_sem]⟩
      have hsx : Hid (w.heap.size + 3 ≤ w2.heap.size) := by show _ ≤ _; omega
      clear kn2 d0 d1 d2 d3 d4
      generalize w2.alloc (.cells #[.slice none 0 0] 42) = w3 at hd0 ⊢
      go_loopw [7, 9, 24] (fun d _ i wr => ∃ (k : Nat) (v : Value), k ≤ n ∧ i = .int .i64 k ∧ d = .bool (setS ⟨tn, ta, tr⟩ (ts.take k)).1 ∧ Hid (DInv w [(w.heap.size, 0, .slice A n c), (w.heap.size + 1, 0, .string tn), (w.heap.size + 1, 1, .int .i64 ta), (w.heap.size + 1, 2, .slice A2 tr.length c2), (w.heap.size + 2, 0, .slice none 0 0)] w2.heap.size (w2.heap.size + 1) (setS ⟨tn, ta, tr⟩ (ts.take k)).2 v wr)) (fun _ _ i _ => n - (intOf i).toNat)
      case atStart => exact ⟨0, _, by omega, rfl, rfl, hd0⟩
      case round =>
        obtain ⟨k, v, hk, rfl, rfl, hinv⟩ := hrel
        clear hd0
        have hbel := Lib.hid hinv.out.kn.bel
        have hsz := hbel.out.size
        have hsl : (setS ⟨tn, ta, tr⟩ (ts.take k)).2.length ≤ 2000000000 := by
          have h1 := setS_len2 ⟨tn, ta, tr⟩ (ts.take k)
          rw [List.length_take] at h1
          omega
        by_cases hlt : k < n
        · obtain ⟨b, o, x, A', c', rfl, hb, hx, hc0, hc1, hc2, hrd, hm, hnm⟩ := RdT.at_ hr hlt
          have hts := Lib.hid (tab_small hx hsm.out)
          have HX0 := Lib.hid (setS_take (t := ⟨tn, ta, tr⟩) hx)
          have m0 := (hbel.out.cell (p := ⟨b, o + k * 3, none⟩) (by show b < _; omega)).trans hc0
          have m1 := (hbel.out.cell (p := ⟨b, o + k * 3 + 1, none⟩) (by show b < _; omega)).trans hc1
          have m2 := (hbel.out.cell (p := ⟨b, o + k * 3 + 2, none⟩) (by show b < _; omega)).trans hc2
          obtain ⟨xn, xa, xr⟩ := x
          have hrdx : Hid (RdR w B A' xr.length xr) := hrd
          have HX : Hid (setS ⟨tn, ta, tr⟩ (ts.take (k + 1)) = setF ⟨tn, ta, tr⟩ (setS ⟨tn, ta, tr⟩ (ts.take k)) ⟨xn, xa, xr⟩) := HX0
          generalize setS ⟨tn, ta, tr⟩ (ts.take k) = S at hinv hsl HX ⊢
          obtain ⟨d, acc⟩ := S
          have hW : Hid (Below wr.heap.size wr (wr.alloc (.cells #[.string xn, .int .i64 xa, .slice A' xr.length c'] 26))) := (Below.refl wr.heap.size wr).alloc (Nat.le_refl _) _
          have HI1 := Lib.hid (hinv.out.next hW.out)
          obtain ⟨d0, d1, d2, d3, d4, _⟩ := HI1.out.kn.all
          have x0 := HI1.out.x0
          have e0 : (wr.alloc (.cells #[.string xn, .int .i64 xa, .slice A' xr.length c'] 26)).cell? ⟨wr.heap.size, 0, none⟩ = some (.string xn) := by simp [go_sem]
          have e1 : (wr.alloc (.cells #[.string xn, .int .i64 xa, .slice A' xr.length c'] 26)).cell? ⟨wr.heap.size, 1, none⟩ = some (.int .i64 xa) := by simp [go_sem]
          have e2 : (wr.alloc (.cells #[.string xn, .int .i64 xa, .slice A' xr.length c'] 26)).cell? ⟨wr.heap.size, 2, none⟩ = some (.slice A' xr.length c') := by simp [go_sem]
          have hlt1 : wr.heap.size < (wr.alloc (.cells #[.string xn, .int .i64 xa, .slice A' xr.length c'] 26)).heap.size := by simp
          clear hx hc0 hc1 hc2 hrd hm HX0 HI1
          cases hl : ltN xn tn with
          | true =>
            by_cases he : xn = tn
            · cases d with
              | true =>
                have HN : Hid (setS ⟨tn, ta, tr⟩ (ts.take (k + 1)) = (true, acc)) := by show _ = _; rw [HX.out]; simp only [setF, hl]; rw [if_pos he]; simp
                have qe := (show (xn.toList == tn.toList) = true by rw [he]; simp)
                unfold ltN at hl
                clear he
                have hla0 : acc.length ≤ 2000000000 := hsl
                have HF := Lib.hid (hinv.out.next hW.out)
                go_wp2_with fail
                refine ⟨⟨k + 1, _, by omega, by go_num, by rw [HN.out], by rw [HN.out]; exact HF⟩, ?_⟩
                simp [intOf]
                omega
              | false =>
                have HN : Hid (setS ⟨tn, ta, tr⟩ (ts.take (k + 1)) = (false, acc)) := by show _ = _; rw [HX.out]; simp only [setF, hl]; rw [if_pos he]; simp
                have qe := (show (xn.toList == tn.toList) = true by rw [he]; simp)
                unfold ltN at hl
                clear he
                have hla0 : acc.length ≤ 2000000000 := hsl
                have HF := Lib.hid (hinv.out.next hW.out)
                go_wp2_with fail
                refine ⟨⟨k + 1, _, by omega, by go_num, by rw [HN.out], by rw [HN.out]; exact HF⟩, ?_⟩
                simp [intOf]
                omega
            · cases d with
              | true =>
                have HN : Hid (setS ⟨tn, ta, tr⟩ (ts.take (k + 1)) = (true, acc ++ [⟨xn, xa, xr⟩])) := by show _ = _; rw [HX.out]; simp only [setF, hl]; rw [if_neg he]; simp
                have qe := str_eq0 he
                unfold ltN at hl
                clear he
                have hla0 : acc.length ≤ 2000000000 := hsl
                have KX : Hid (∀ U, Below (wr.alloc (.cells #[.string xn, .int .i64 xa, .slice A' xr.length c'] 26)).heap.size (wr.alloc (.cells #[.string xn, .int .i64 xa, .slice A' xr.length c'] 26)) U → Calls Tryz.prog 35 #[.agg #[.string xn, .int .i64 xa, .slice A' xr.length c']] U (TabNew xn xa xr U)) := fun U b =>
                  copyTable_any xn xa A' xr.length c' B xr U (RdR.belowB hrdx.out (((hbel.out.trans (hW.out.mono hsz))).trans (b.mono ((hbel.out.trans (hW.out.mono hsz))).size)) hB) (Nat.le_trans hB (Nat.le_trans ((hbel.out.trans (hW.out.mono hsz))).size b.size)) hts.out.1 hts.out.2
                go_wp2_with fail
                generalize wr.alloc (.cells #[.string xn, .int .i64 xa, .slice A' xr.length c'] 26) = W1 at hW e0 e1 e2 hlt1 d0 d1 d2 d3 d4 x0 KX ⊢
                go_region_law (first
                    | (go_simp; go_at_call 35; refine (KX.out _ ((Below.refl _ _).drew)).mono ?_; rintro e w1 ⟨A1, c1, rfl, ho1, hb1⟩
                       have hb2 : Below W1.heap.size W1 w1 := ((Below.refl _ _).drew).trans hb1
                       have hb3 : Below wr.heap.size wr w1 := (hW.out).trans (hb2.mono (hW.out).size)
                       have hsw := Lib.hid hb2.size
                       obtain ⟨xs, hrow, n2, happ⟩ := hinv.out.app (nm := xn) (ar := xa) hb3 ho1 (hW.out).size (Nat.le_refl _) hnm
                       have hx1 : w2.heap.size < w1.heap.size := Nat.lt_of_lt_of_le (Nat.lt_of_lt_of_le hinv.out.hxb hinv.out.size) hb3.size
                       have HA := Lib.hid happ
                       clear hb3 hb2 ho1 hb1 happ)
                    | (refine step_append_lies _ (by rfl) (.tmp 50) (.tmp 53) _ (by rfl) 0 26 i1 _ 3 48 Tryz.underlying40 hi1 hz0 hz1 hz2 (by rfl) (by omega) _ (acc).length xs (by rfl) hrow ⟨w1.heap.size, 0, none⟩ 1 1 [.string xn, .int .i64 xa, .slice A1 xr.length c1] (by rfl) rfl (World.news_of_block (cs := #[.string xn, .int .i64 xa, .slice A1 xr.length c1]) (t := 26) (fr := (0, 0)) (heap_alloc_new w1 _)) (by simp [Value.oneCell']) (by omega) (by unfold maxLen; omega) (by omega) (Nat.zero_le _) (w1.heap.size + 1) (by simp) ?_; intro g cap w2 hown2 hgrow hat hlt2
                       obtain ⟨n2, n3, hF, hcl, hsz2⟩ := HA.out g cap w2 hown2 hgrow hat
                       have HF := Lib.hid hF
                       have hsZ := Lib.hid (Nat.le_trans hsw.out hsz2)
                       clear hown2 hgrow hat hF hcl hsz2)
                    | fail)
                all_goals (
                  go_wp2_with fail
                  refine ⟨⟨k + 1, _, by omega, by go_num, by rw [HN.out], by rw [HN.out]; exact HF⟩, ?_⟩
                  simp [intOf]
                  omega)
              | false =>
                have HN : Hid (setS ⟨tn, ta, tr⟩ (ts.take (k + 1)) = (false, acc ++ [⟨xn, xa, xr⟩])) := by show _ = _; rw [HX.out]; simp only [setF, hl]; rw [if_neg he]; simp
                have qe := str_eq0 he
                unfold ltN at hl
                clear he
                have hla0 : acc.length ≤ 2000000000 := hsl
                have KX : Hid (∀ U, Below (wr.alloc (.cells #[.string xn, .int .i64 xa, .slice A' xr.length c'] 26)).heap.size (wr.alloc (.cells #[.string xn, .int .i64 xa, .slice A' xr.length c'] 26)) U → Calls Tryz.prog 35 #[.agg #[.string xn, .int .i64 xa, .slice A' xr.length c']] U (TabNew xn xa xr U)) := fun U b =>
                  copyTable_any xn xa A' xr.length c' B xr U (RdR.belowB hrdx.out (((hbel.out.trans (hW.out.mono hsz))).trans (b.mono ((hbel.out.trans (hW.out.mono hsz))).size)) hB) (Nat.le_trans hB (Nat.le_trans ((hbel.out.trans (hW.out.mono hsz))).size b.size)) hts.out.1 hts.out.2
                go_wp2_with fail
                generalize wr.alloc (.cells #[.string xn, .int .i64 xa, .slice A' xr.length c'] 26) = W1 at hW e0 e1 e2 hlt1 d0 d1 d2 d3 d4 x0 KX ⊢
                go_region_law (first
                    | (go_simp; go_at_call 35; refine (KX.out _ ((Below.refl _ _).drew)).mono ?_; rintro e w1 ⟨A1, c1, rfl, ho1, hb1⟩
                       have hb2 : Below W1.heap.size W1 w1 := ((Below.refl _ _).drew).trans hb1
                       have hb3 : Below wr.heap.size wr w1 := (hW.out).trans (hb2.mono (hW.out).size)
                       have hsw := Lib.hid hb2.size
                       obtain ⟨xs, hrow, n2, happ⟩ := hinv.out.app (nm := xn) (ar := xa) hb3 ho1 (hW.out).size (Nat.le_refl _) hnm
                       have hx1 : w2.heap.size < w1.heap.size := Nat.lt_of_lt_of_le (Nat.lt_of_lt_of_le hinv.out.hxb hinv.out.size) hb3.size
                       have HA := Lib.hid happ
                       clear hb3 hb2 ho1 hb1 happ)
                    | (refine step_append_lies _ (by rfl) (.tmp 50) (.tmp 53) _ (by rfl) 0 26 i1 _ 3 48 Tryz.underlying40 hi1 hz0 hz1 hz2 (by rfl) (by omega) _ (acc).length xs (by rfl) hrow ⟨w1.heap.size, 0, none⟩ 1 1 [.string xn, .int .i64 xa, .slice A1 xr.length c1] (by rfl) rfl (World.news_of_block (cs := #[.string xn, .int .i64 xa, .slice A1 xr.length c1]) (t := 26) (fr := (0, 0)) (heap_alloc_new w1 _)) (by simp [Value.oneCell']) (by omega) (by unfold maxLen; omega) (by omega) (Nat.zero_le _) (w1.heap.size + 1) (by simp) ?_; intro g cap w2 hown2 hgrow hat hlt2
                       obtain ⟨n2, n3, hF, hcl, hsz2⟩ := HA.out g cap w2 hown2 hgrow hat
                       have HF := Lib.hid hF
                       have hsZ := Lib.hid (Nat.le_trans hsw.out hsz2)
                       clear hown2 hgrow hat hF hcl hsz2)
                    | fail)
                all_goals (
                  go_wp2_with fail
                  refine ⟨⟨k + 1, _, by omega, by go_num, by rw [HN.out], by rw [HN.out]; exact HF⟩, ?_⟩
                  simp [intOf]
                  omega)
          | false =>
            by_cases he : xn = tn
            · cases d with
              | true =>
                have HN : Hid (setS ⟨tn, ta, tr⟩ (ts.take (k + 1)) = (true, acc)) := by show _ = _; rw [HX.out]; simp only [setF, hl]; rw [if_pos he]; simp
                have qe := (show (xn.toList == tn.toList) = true by rw [he]; simp)
                unfold ltN at hl
                clear he
                have hla0 : acc.length ≤ 2000000000 := hsl
                have HF := Lib.hid (hinv.out.next hW.out)
                go_wp2_with fail
                refine ⟨⟨k + 1, _, by omega, by go_num, by rw [HN.out], by rw [HN.out]; exact HF⟩, ?_⟩
                simp [intOf]
                omega
              | false =>
                have HN : Hid (setS ⟨tn, ta, tr⟩ (ts.take (k + 1)) = (true, acc ++ [⟨tn, ta, tr⟩])) := by show _ = _; rw [HX.out]; simp only [setF, hl]; rw [if_pos he]; simp
                have qe := (show (xn.toList == tn.toList) = true by rw [he]; simp)
                unfold ltN at hl
                clear he
                have hla0 : acc.length ≤ 2000000000 := hsl
                have KC : Hid (∀ U, Below (wr.alloc (.cells #[.string xn, .int .i64 xa, .slice A' xr.length c'] 26)).heap.size (wr.alloc (.cells #[.string xn, .int .i64 xa, .slice A' xr.length c'] 26)) U → Calls Tryz.prog 35 #[.agg #[.string tn, .int .i64 ta, .slice A2 tr.length c2]] U (TabNew tn ta tr U)) := fun U b =>
                  copyTable_any tn ta A2 tr.length c2 B tr U (RdR.belowB hr2 (((hbel.out.trans (hW.out.mono hsz))).trans (b.mono ((hbel.out.trans (hW.out.mono hsz))).size)) hB) (Nat.le_trans hB (Nat.le_trans ((hbel.out.trans (hW.out.mono hsz))).size b.size)) hn2 hrow'.out
                go_upto_region 9 with fail
                generalize wr.alloc (.cells #[.string xn, .int .i64 xa, .slice A' xr.length c'] 26) = W1 at hW e0 e1 e2 hlt1 d0 d1 d2 d3 d4 x0 KC ⊢
                go_cut [] (fun wx => ∃ v', Hid (DInv w [(w.heap.size, 0, .slice (some ⟨b, o, none⟩) n c), (w.heap.size + 1, 0, .string tn), (w.heap.size + 1, 1, .int .i64 ta), (w.heap.size + 1, 2, .slice A2 tr.length c2), (w.heap.size + 2, 0, .slice none 0 0)] w2.heap.size (w2.heap.size + 1) (acc ++ [⟨tn, ta, tr⟩]) v' wx) ∧ Hid (wx.cell? ⟨wr.heap.size, 0, none⟩ = some (.string xn)) ∧ Hid (wx.cell? ⟨wr.heap.size, 1, none⟩ = some (.int .i64 xa)) ∧ Hid (wx.cell? ⟨wr.heap.size, 2, none⟩ = some (.slice A' xr.length c')) ∧ Hid (wr.heap.size < wx.heap.size))
                case first =>
                  go_region_law (first
                      | (go_simp; go_at_call 35; refine (KC.out _ ((Below.refl _ _).drew)).mono ?_; rintro e w1 ⟨A1, c1, rfl, ho1, hb1⟩
                         have hb2 : Below W1.heap.size W1 w1 := ((Below.refl _ _).drew).trans hb1
                         have hb3 : Below wr.heap.size wr w1 := (hW.out).trans (hb2.mono (hW.out).size)
                         have q0 : Hid (w1.cell? ⟨wr.heap.size, 0, none⟩ = some (.string xn)) := (hb2.cell (p := ⟨wr.heap.size, 0, none⟩) hlt1).trans e0
                         have q1 : Hid (w1.cell? ⟨wr.heap.size, 1, none⟩ = some (.int .i64 xa)) := (hb2.cell (p := ⟨wr.heap.size, 1, none⟩) hlt1).trans e1
                         have q2 : Hid (w1.cell? ⟨wr.heap.size, 2, none⟩ = some (.slice A' xr.length c')) := (hb2.cell (p := ⟨wr.heap.size, 2, none⟩) hlt1).trans e2
                         have hsw := Lib.hid hb2.size
                         obtain ⟨xs, hrow, n2, happ⟩ := hinv.out.app (nm := tn) (ar := ta) hb3 ho1 (hW.out).size (Nat.le_refl _) htn
                         have hx1 : w2.heap.size < w1.heap.size := Nat.lt_of_lt_of_le (Nat.lt_of_lt_of_le hinv.out.hxb hinv.out.size) hb3.size
                         have HA := Lib.hid happ
                         clear hb3 hb2 ho1 hb1 happ)
                      | (refine step_append_lies _ (by rfl) (.tmp 38) (.tmp 41) _ (by rfl) 0 26 i1 _ 3 48 Tryz.underlying40 hi1 hz0 hz1 hz2 (by rfl) (by omega) _ (acc).length xs (by rfl) hrow ⟨w1.heap.size, 0, none⟩ 1 1 [.string tn, .int .i64 ta, .slice A1 tr.length c1] (by rfl) rfl (World.news_of_block (cs := #[.string tn, .int .i64 ta, .slice A1 tr.length c1]) (t := 26) (fr := (0, 0)) (heap_alloc_new w1 _)) (by simp [Value.oneCell']) (by omega) (by unfold maxLen; omega) (by omega) (Nat.zero_le _) (w1.heap.size + 1) (by simp) ?_; intro g cap w2 hown2 hgrow hat hlt2
                         obtain ⟨n2, n3, hF, hcl, hsz2⟩ := HA.out g cap w2 hown2 hgrow hat
                         have q0 := Lib.hid ((hcl (wr.heap.size) 0 (Nat.le_refl _) (Nat.lt_of_lt_of_le hlt1 hsw.out)).trans q0.out)
                         have q1 := Lib.hid ((hcl (wr.heap.size) 1 (Nat.le_refl _) (Nat.lt_of_lt_of_le hlt1 hsw.out)).trans q1.out)
                         have q2 := Lib.hid ((hcl (wr.heap.size) 2 (Nat.le_refl _) (Nat.lt_of_lt_of_le hlt1 hsw.out)).trans q2.out)
                         have HF := Lib.hid hF
                         have hsZ := Lib.hid (Nat.le_trans hsw.out hsz2)
                         clear hown2 hgrow hat hF hcl hsz2)
                      | fail)
                  all_goals (go_wp2_with fail)
                  all_goals (go_meet; exact ⟨_, HF, q0, q1, q2, Nat.lt_of_lt_of_le hlt1 hsZ.out⟩)
                case rest =>
                  generalize wc = w5 at hcut ⊢
                  obtain ⟨v5, hD5, p0, p1, p2, hlt5⟩ := hcut
                  clear d0 d1 d2 d3 d4 x0 e0 e1 e2 KC
                  have HF := hD5
                  obtain ⟨d0, d1, d2, d3, d4, _⟩ := hD5.out.kn.all
                  have x0 := hD5.out.x0
                  have e0 := p0.out
                  go_wp2_with fail
                  refine ⟨⟨k + 1, _, by omega, by go_num, by rw [HN.out], by rw [HN.out]; exact HF⟩, ?_⟩
                  simp [intOf]
                  omega
            · cases d with
              | true =>
                have HN : Hid (setS ⟨tn, ta, tr⟩ (ts.take (k + 1)) = (true, acc ++ [⟨xn, xa, xr⟩])) := by show _ = _; rw [HX.out]; simp only [setF, hl]; rw [if_neg he]; simp
                have qe := str_eq0 he
                unfold ltN at hl
                clear he
                have hla0 : acc.length ≤ 2000000000 := hsl
                have KX : Hid (∀ U, Below (wr.alloc (.cells #[.string xn, .int .i64 xa, .slice A' xr.length c'] 26)).heap.size (wr.alloc (.cells #[.string xn, .int .i64 xa, .slice A' xr.length c'] 26)) U → Calls Tryz.prog 35 #[.agg #[.string xn, .int .i64 xa, .slice A' xr.length c']] U (TabNew xn xa xr U)) := fun U b =>
                  copyTable_any xn xa A' xr.length c' B xr U (RdR.belowB hrdx.out (((hbel.out.trans (hW.out.mono hsz))).trans (b.mono ((hbel.out.trans (hW.out.mono hsz))).size)) hB) (Nat.le_trans hB (Nat.le_trans ((hbel.out.trans (hW.out.mono hsz))).size b.size)) hts.out.1 hts.out.2
                go_wp2_with fail
                generalize wr.alloc (.cells #[.string xn, .int .i64 xa, .slice A' xr.length c'] 26) = W1 at hW e0 e1 e2 hlt1 d0 d1 d2 d3 d4 x0 KX ⊢
                go_region_law (first
                    | (go_simp; go_at_call 35; refine (KX.out _ ((Below.refl _ _).drew)).mono ?_; rintro e w1 ⟨A1, c1, rfl, ho1, hb1⟩
                       have hb2 : Below W1.heap.size W1 w1 := ((Below.refl _ _).drew).trans hb1
                       have hb3 : Below wr.heap.size wr w1 := (hW.out).trans (hb2.mono (hW.out).size)
                       have hsw := Lib.hid hb2.size
                       obtain ⟨xs, hrow, n2, happ⟩ := hinv.out.app (nm := xn) (ar := xa) hb3 ho1 (hW.out).size (Nat.le_refl _) hnm
                       have hx1 : w2.heap.size < w1.heap.size := Nat.lt_of_lt_of_le (Nat.lt_of_lt_of_le hinv.out.hxb hinv.out.size) hb3.size
                       have HA := Lib.hid happ
                       clear hb3 hb2 ho1 hb1 happ)
                    | (refine step_append_lies _ (by rfl) (.tmp 50) (.tmp 53) _ (by rfl) 0 26 i1 _ 3 48 Tryz.underlying40 hi1 hz0 hz1 hz2 (by rfl) (by omega) _ (acc).length xs (by rfl) hrow ⟨w1.heap.size, 0, none⟩ 1 1 [.string xn, .int .i64 xa, .slice A1 xr.length c1] (by rfl) rfl (World.news_of_block (cs := #[.string xn, .int .i64 xa, .slice A1 xr.length c1]) (t := 26) (fr := (0, 0)) (heap_alloc_new w1 _)) (by simp [Value.oneCell']) (by omega) (by unfold maxLen; omega) (by omega) (Nat.zero_le _) (w1.heap.size + 1) (by simp) ?_; intro g cap w2 hown2 hgrow hat hlt2
                       obtain ⟨n2, n3, hF, hcl, hsz2⟩ := HA.out g cap w2 hown2 hgrow hat
                       have HF := Lib.hid hF
                       have hsZ := Lib.hid (Nat.le_trans hsw.out hsz2)
                       clear hown2 hgrow hat hF hcl hsz2)
                    | fail)
                all_goals (
                  go_wp2_with fail
                  refine ⟨⟨k + 1, _, by omega, by go_num, by rw [HN.out], by rw [HN.out]; exact HF⟩, ?_⟩
                  simp [intOf]
                  omega)
              | false =>
                have HN : Hid (setS ⟨tn, ta, tr⟩ (ts.take (k + 1)) = (true, acc ++ [⟨tn, ta, tr⟩] ++ [⟨xn, xa, xr⟩])) := by show _ = _; rw [HX.out]; simp only [setF, hl]; rw [if_neg he]; simp
                have qe := str_eq0 he
                unfold ltN at hl
                clear he
                have hla0 : acc.length ≤ 2000000000 := hsl
                have KC : Hid (∀ U, Below (wr.alloc (.cells #[.string xn, .int .i64 xa, .slice A' xr.length c'] 26)).heap.size (wr.alloc (.cells #[.string xn, .int .i64 xa, .slice A' xr.length c'] 26)) U → Calls Tryz.prog 35 #[.agg #[.string tn, .int .i64 ta, .slice A2 tr.length c2]] U (TabNew tn ta tr U)) := fun U b =>
                  copyTable_any tn ta A2 tr.length c2 B tr U (RdR.belowB hr2 (((hbel.out.trans (hW.out.mono hsz))).trans (b.mono ((hbel.out.trans (hW.out.mono hsz))).size)) hB) (Nat.le_trans hB (Nat.le_trans ((hbel.out.trans (hW.out.mono hsz))).size b.size)) hn2 hrow'.out
                have KX : Hid (∀ U, Below (wr.alloc (.cells #[.string xn, .int .i64 xa, .slice A' xr.length c'] 26)).heap.size (wr.alloc (.cells #[.string xn, .int .i64 xa, .slice A' xr.length c'] 26)) U → Calls Tryz.prog 35 #[.agg #[.string xn, .int .i64 xa, .slice A' xr.length c']] U (TabNew xn xa xr U)) := fun U b =>
                  copyTable_any xn xa A' xr.length c' B xr U (RdR.belowB hrdx.out (((hbel.out.trans (hW.out.mono hsz))).trans (b.mono ((hbel.out.trans (hW.out.mono hsz))).size)) hB) (Nat.le_trans hB (Nat.le_trans ((hbel.out.trans (hW.out.mono hsz))).size b.size)) hts.out.1 hts.out.2
                go_upto_region 9 with fail
                generalize wr.alloc (.cells #[.string xn, .int .i64 xa, .slice A' xr.length c'] 26) = W1 at hW e0 e1 e2 hlt1 d0 d1 d2 d3 d4 x0 KC KX ⊢
                go_cut [] (fun wx => ∃ v', Hid (DInv w [(w.heap.size, 0, .slice (some ⟨b, o, none⟩) n c), (w.heap.size + 1, 0, .string tn), (w.heap.size + 1, 1, .int .i64 ta), (w.heap.size + 1, 2, .slice A2 tr.length c2), (w.heap.size + 2, 0, .slice none 0 0)] w2.heap.size (w2.heap.size + 1) (acc ++ [⟨tn, ta, tr⟩]) v' wx) ∧ Hid (wx.cell? ⟨wr.heap.size, 0, none⟩ = some (.string xn)) ∧ Hid (wx.cell? ⟨wr.heap.size, 1, none⟩ = some (.int .i64 xa)) ∧ Hid (wx.cell? ⟨wr.heap.size, 2, none⟩ = some (.slice A' xr.length c')) ∧ Hid (wr.heap.size < wx.heap.size))
                case first =>
                  go_region_law (first
                      | (go_simp; go_at_call 35; refine (KC.out _ ((Below.refl _ _).drew)).mono ?_; rintro e w1 ⟨A1, c1, rfl, ho1, hb1⟩
                         have hb2 : Below W1.heap.size W1 w1 := ((Below.refl _ _).drew).trans hb1
                         have hb3 : Below wr.heap.size wr w1 := (hW.out).trans (hb2.mono (hW.out).size)
                         have q0 : Hid (w1.cell? ⟨wr.heap.size, 0, none⟩ = some (.string xn)) := (hb2.cell (p := ⟨wr.heap.size, 0, none⟩) hlt1).trans e0
                         have q1 : Hid (w1.cell? ⟨wr.heap.size, 1, none⟩ = some (.int .i64 xa)) := (hb2.cell (p := ⟨wr.heap.size, 1, none⟩) hlt1).trans e1
                         have q2 : Hid (w1.cell? ⟨wr.heap.size, 2, none⟩ = some (.slice A' xr.length c')) := (hb2.cell (p := ⟨wr.heap.size, 2, none⟩) hlt1).trans e2
                         have hsw := Lib.hid hb2.size
                         obtain ⟨xs, hrow, n2, happ⟩ := hinv.out.app (nm := tn) (ar := ta) hb3 ho1 (hW.out).size (Nat.le_refl _) htn
                         have hx1 : w2.heap.size < w1.heap.size := Nat.lt_of_lt_of_le (Nat.lt_of_lt_of_le hinv.out.hxb hinv.out.size) hb3.size
                         have HA := Lib.hid happ
                         clear hb3 hb2 ho1 hb1 happ)
                      | (refine step_append_lies _ (by rfl) (.tmp 38) (.tmp 41) _ (by rfl) 0 26 i1 _ 3 48 Tryz.underlying40 hi1 hz0 hz1 hz2 (by rfl) (by omega) _ (acc).length xs (by rfl) hrow ⟨w1.heap.size, 0, none⟩ 1 1 [.string tn, .int .i64 ta, .slice A1 tr.length c1] (by rfl) rfl (World.news_of_block (cs := #[.string tn, .int .i64 ta, .slice A1 tr.length c1]) (t := 26) (fr := (0, 0)) (heap_alloc_new w1 _)) (by simp [Value.oneCell']) (by omega) (by unfold maxLen; omega) (by omega) (Nat.zero_le _) (w1.heap.size + 1) (by simp) ?_; intro g cap w2 hown2 hgrow hat hlt2
                         obtain ⟨n2, n3, hF, hcl, hsz2⟩ := HA.out g cap w2 hown2 hgrow hat
                         have q0 := Lib.hid ((hcl (wr.heap.size) 0 (Nat.le_refl _) (Nat.lt_of_lt_of_le hlt1 hsw.out)).trans q0.out)
                         have q1 := Lib.hid ((hcl (wr.heap.size) 1 (Nat.le_refl _) (Nat.lt_of_lt_of_le hlt1 hsw.out)).trans q1.out)
                         have q2 := Lib.hid ((hcl (wr.heap.size) 2 (Nat.le_refl _) (Nat.lt_of_lt_of_le hlt1 hsw.out)).trans q2.out)
                         have HF := Lib.hid hF
                         have hsZ := Lib.hid (Nat.le_trans hsw.out hsz2)
                         clear hown2 hgrow hat hF hcl hsz2)
                      | fail)
                  all_goals (go_wp2_with fail)
                  all_goals (go_meet; exact ⟨_, HF, q0, q1, q2, Nat.lt_of_lt_of_le hlt1 hsZ.out⟩)
                case rest =>
                  generalize wc = w5 at hcut ⊢
                  obtain ⟨v5, hD5, p0, p1, p2, hlt5⟩ := hcut
                  clear d0 d1 d2 d3 d4 x0 e0 e1 e2 KC KX
                  have hbel5 := Lib.hid hD5.out.kn.bel
                  have hla : (acc ++ [(⟨tn, ta, tr⟩ : Tab)]).length ≤ 2000000001 := by rw [List.length_append]; simp; omega
                  generalize acc ++ [(⟨tn, ta, tr⟩ : Tab)] = acc2 at hD5 HN hla
                  have KX : Hid (∀ U, Below w5.heap.size w5 U → Calls Tryz.prog 35 #[.agg #[.string xn, .int .i64 xa, .slice A' xr.length c']] U (TabNew xn xa xr U)) := fun U b =>
                    copyTable_any xn xa A' xr.length c' B xr U (RdR.belowB hrdx.out ((hbel5.out).trans (b.mono (hbel5.out).size)) hB) (Nat.le_trans hB (Nat.le_trans (hbel5.out).size b.size)) hts.out.1 hts.out.2
                  obtain ⟨d0, d1, d2, d3, d4, _⟩ := hD5.out.kn.all
                  have x0 := hD5.out.x0
                  have e0 := p0.out
                  have e1 := p1.out
                  have e2 := p2.out
                  have hlt1' := hlt5.out
                  go_wp2_with fail
                  go_region_law (first
                      | (go_simp; go_at_call 35; refine (KX.out _ ((Below.refl _ _).drew)).mono ?_; rintro e w1 ⟨A1, c1, rfl, ho1, hb1⟩
                         have hb2 : Below w5.heap.size w5 w1 := ((Below.refl _ _).drew).trans hb1
                         have hb3 : Below w5.heap.size w5 w1 := hb2
                         have hsw := Lib.hid hb2.size
                         obtain ⟨xs, hrow, n2, happ⟩ := hD5.out.app (nm := xn) (ar := xa) hb3 ho1 (Nat.le_refl _) (Nat.le_refl _) hnm
                         have hx1 : w2.heap.size < w1.heap.size := Nat.lt_of_lt_of_le (Nat.lt_of_lt_of_le hD5.out.hxb hD5.out.size) hb3.size
                         have HA := Lib.hid happ
                         clear hb3 hb2 ho1 hb1 happ)
                      | (refine step_append_lies _ (by rfl) (.tmp 50) (.tmp 53) _ (by rfl) 0 26 i1 _ 3 48 Tryz.underlying40 hi1 hz0 hz1 hz2 (by rfl) (by omega) _ (acc2).length xs (by rfl) hrow ⟨w1.heap.size, 0, none⟩ 1 1 [.string xn, .int .i64 xa, .slice A1 xr.length c1] (by rfl) rfl (World.news_of_block (cs := #[.string xn, .int .i64 xa, .slice A1 xr.length c1]) (t := 26) (fr := (0, 0)) (heap_alloc_new w1 _)) (by simp [Value.oneCell']) (by omega) (by unfold maxLen; omega) (by omega) (Nat.zero_le _) (w1.heap.size + 1) (by simp) ?_; intro g cap w2 hown2 hgrow hat hlt2
                         obtain ⟨n2, n3, hF, hcl, hsz2⟩ := HA.out g cap w2 hown2 hgrow hat
                         have HF := Lib.hid hF
                         have hsZ := Lib.hid (Nat.le_trans hsw.out hsz2)
                         clear hown2 hgrow hat hF hcl hsz2)
                      | fail)
                  all_goals (
                    go_wp2_with fail
                    refine ⟨⟨k + 1, _, by omega, by go_num, by rw [HN.out], by rw [HN.out]; exact HF⟩, ?_⟩
                    simp [intOf]
                    omega)
        · obtain rfl : k = n := by omega
          have HT := Lib.hid (show ts.take k = ts from List.take_of_length_le (Nat.le_of_eq HL.out))
          rw [HT.out] at hinv hsl ⊢
          obtain ⟨S, hS⟩ : ∃ S, S = setS ⟨tn, ta, tr⟩ ts := ⟨_, rfl⟩
          have HS := Lib.hid hS
          rw [← hS] at hinv hsl ⊢
          clear hS
          obtain ⟨d, acc⟩ := S
          have hsl : acc.length ≤ 2000000000 := hsl
          cases d with
          | true =>
            have HTs : Hid (setT ts ⟨tn, ta, tr⟩ = acc) := by show _ = _; rw [setT, ← HS.out]; simp
            generalize acc = Fl at hinv HTs hsl
            generalize wr = w6 at *
            obtain ⟨AF, cF, rfl⟩ := hinv.out.own.form
            have hD := hinv.out
            have hszD := hD.size
            obtain ⟨d0, d1, d2, d3, d4, _⟩ := hD.kn.all
            obtain ⟨f0, f1, f2, f3, f4, _⟩ := hD.kn.fall
            have x0 := hD.x0
            have hbelD := Lib.hid hD.kn.bel
            have hb3 := hsx.out
            by_cases h6 : Fl.length ≤ 6
            · have hf : Hid (setR ts ⟨tn, ta, tr⟩ = (Fl, true)) := by show _ = _; rw [setR, if_pos ⟨HV.out, HVT.out, by rw [HTs.out]; exact h6⟩, HTs.out]
              have HD := Lib.hid hD
              clear hD
              go_wp2_with fail
              refine bodyPost_ret (v := .tuple #[.agg #[.slice AF Fl.length cF], .bool true]) (by simp [results, Tryz.results21, go_sem, *]) rfl (DbBool.of hf.out ?_ ?_)
              · refine OwnD.down (lo := w2.heap.size + 1) (OwnD.wide (hi := w6.heap.size) ?_ (by simp)) (by omega)
                repeat refine OwnD.setOff ?_ (by omega)
                exact HD.out.own
              · repeat first | exact hbelD.out | (refine Below.setCell ?_ ?_ _; rotate_left; (simp; try omega))
            · have hf : Hid (setR ts ⟨tn, ta, tr⟩ = (ts, false)) := by show _ = _; rw [setR, if_neg (by rw [HTs.out]; omega)]
              have KP6 := Lib.hid (KP.out w6 hbelD.out)
              have kn6 := hD.kn
              clear hD
              go_wp2_with fail
              refine KP6.out.mono ?_
              rintro e w7 ⟨Ao, co, rfl, oo, b7⟩
              have s7 := b7.size
              have kn7 := kn6.next b7
              have HO := Lib.hid oo
              clear kn6 b7 oo d0 d1 d2 d3 d4 f0 f1 f2 f3 f4 x0
              obtain ⟨d0, d1, d2, d3, d4, _⟩ := kn7.all
              obtain ⟨f0, f1, f2, f3, f4, _⟩ := kn7.fall
              have HF := Lib.hid kn7.bel
              clear kn7
              go_wp2_with fail
              refine bodyPost_ret (v := .tuple #[.agg #[.slice Ao ts.length co], .bool false]) (by simp [results, Tryz.results21, go_sem, *]) rfl (DbBool.of hf.out ?_ ?_)
              · refine OwnD.down (lo := w6.heap.size) (OwnD.wide (hi := w7.heap.size) ?_ (by simp)) (by omega)
                repeat refine OwnD.setOff ?_ (by omega)
                exact HO.out
              · repeat first | exact HF.out | (refine Below.setCell ?_ ?_ _; rotate_left; (simp; try omega))
          | false =>
            have HTs : Hid (setT ts ⟨tn, ta, tr⟩ = acc ++ [⟨tn, ta, tr⟩]) := by show _ = _; rw [setT, ← HS.out]; simp
            have KC : Hid (∀ U, Below wr.heap.size wr U → Calls Tryz.prog 35 #[.agg #[.string tn, .int .i64 ta, .slice A2 tr.length c2]] U (TabNew tn ta tr U)) := fun U b =>
              copyTable_any tn ta A2 tr.length c2 B tr U (RdR.belowB hr2 ((hbel.out).trans (b.mono (hbel.out).size)) hB) (Nat.le_trans hB (Nat.le_trans (hbel.out).size b.size)) hn2 hrow'.out
            obtain ⟨d0, d1, d2, d3, d4, _⟩ := hinv.out.kn.all
            have x0 := hinv.out.x0
            go_upto_region 15 with fail
            go_cut [] (fun wx => ∃ v', Hid (DInv w [(w.heap.size, 0, .slice A k c), (w.heap.size + 1, 0, .string tn), (w.heap.size + 1, 1, .int .i64 ta), (w.heap.size + 1, 2, .slice A2 tr.length c2), (w.heap.size + 2, 0, .slice none 0 0)] w2.heap.size (w2.heap.size + 1) (acc ++ [⟨tn, ta, tr⟩]) v' wx))
            case first =>
              go_region_law (first
                  | (go_simp; go_at_call 35; refine (KC.out _ ((Below.refl _ _).drew)).mono ?_; rintro e w1 ⟨A1, c1, rfl, ho1, hb1⟩
                     have hb2 : Below wr.heap.size wr w1 := ((Below.refl _ _).drew).trans hb1
                     have hb3 : Below wr.heap.size wr w1 := hb2
                     have hsw := Lib.hid hb2.size
                     obtain ⟨xs, hrow, n2, happ⟩ := hinv.out.app (nm := tn) (ar := ta) hb3 ho1 (Nat.le_refl _) (Nat.le_refl _) htn
                     have hx1 : w2.heap.size < w1.heap.size := Nat.lt_of_lt_of_le (Nat.lt_of_lt_of_le hinv.out.hxb hinv.out.size) hb3.size
                     have HA := Lib.hid happ
                     clear hb3 hb2 ho1 hb1 happ)
                  | (refine step_append_lies _ (by rfl) (.tmp 60) (.tmp 63) _ (by rfl) 0 26 i1 _ 3 48 Tryz.underlying40 hi1 hz0 hz1 hz2 (by rfl) (by omega) _ (acc).length xs (by rfl) hrow ⟨w1.heap.size, 0, none⟩ 1 1 [.string tn, .int .i64 ta, .slice A1 tr.length c1] (by rfl) rfl (World.news_of_block (cs := #[.string tn, .int .i64 ta, .slice A1 tr.length c1]) (t := 26) (fr := (0, 0)) (heap_alloc_new w1 _)) (by simp [Value.oneCell']) (by omega) (by unfold maxLen; omega) (by omega) (Nat.zero_le _) (w1.heap.size + 1) (by simp) ?_; intro g cap w2 hown2 hgrow hat hlt2
                     obtain ⟨n2, n3, hF, hcl, hsz2⟩ := HA.out g cap w2 hown2 hgrow hat
                     have HF := Lib.hid hF
                     have hsZ := Lib.hid (Nat.le_trans hsw.out hsz2)
                     clear hown2 hgrow hat hF hcl hsz2)
                  | fail)
              all_goals (go_wp2_with fail)
              all_goals (go_meet; exact ⟨_, HF⟩)
            case rest =>
              generalize wc = w6 at hcut ⊢
              obtain ⟨v6, hD6⟩ := hcut
              clear d0 d1 d2 d3 d4 x0
              generalize acc ++ [(⟨tn, ta, tr⟩ : Tab)] = Fl at hD6 HTs
              obtain ⟨AF, cF, rfl⟩ := hD6.out.own.form
              have hD := hD6.out
              have hszD := hD.size
              obtain ⟨d0, d1, d2, d3, d4, _⟩ := hD.kn.all
              obtain ⟨f0, f1, f2, f3, f4, _⟩ := hD.kn.fall
              have x0 := hD.x0
              have hbelD := Lib.hid hD.kn.bel
              have hb3 := hsx.out
              by_cases h6 : Fl.length ≤ 6
              · have hf : Hid (setR ts ⟨tn, ta, tr⟩ = (Fl, true)) := by show _ = _; rw [setR, if_pos ⟨HV.out, HVT.out, by rw [HTs.out]; exact h6⟩, HTs.out]
                have HD := Lib.hid hD
                clear hD
                go_wp2_with fail
                refine bodyPost_ret (v := .tuple #[.agg #[.slice AF Fl.length cF], .bool true]) (by simp [results, Tryz.results21, go_sem, *]) rfl (DbBool.of hf.out ?_ ?_)
                · refine OwnD.down (lo := w2.heap.size + 1) (OwnD.wide (hi := w6.heap.size) ?_ (by simp)) (by omega)
                  repeat refine OwnD.setOff ?_ (by omega)
                  exact HD.out.own
                · repeat first | exact hbelD.out | (refine Below.setCell ?_ ?_ _; rotate_left; (simp; try omega))
              · have hf : Hid (setR ts ⟨tn, ta, tr⟩ = (ts, false)) := by show _ = _; rw [setR, if_neg (by rw [HTs.out]; omega)]
                have KP6 := Lib.hid (KP.out w6 hbelD.out)
                have kn6 := hD.kn
                clear hD
                go_wp2_with fail
                refine KP6.out.mono ?_
                rintro e w7 ⟨Ao, co, rfl, oo, b7⟩
                have s7 := b7.size
                have kn7 := kn6.next b7
                have HO := Lib.hid oo
                clear kn6 b7 oo d0 d1 d2 d3 d4 f0 f1 f2 f3 f4 x0
                obtain ⟨d0, d1, d2, d3, d4, _⟩ := kn7.all
                obtain ⟨f0, f1, f2, f3, f4, _⟩ := kn7.fall
                have HF := Lib.hid kn7.bel
                clear kn7
                go_wp2_with fail
                refine bodyPost_ret (v := .tuple #[.agg #[.slice Ao ts.length co], .bool false]) (by simp [results, Tryz.results21, go_sem, *]) rfl (DbBool.of hf.out ?_ ?_)
                · refine OwnD.down (lo := w6.heap.size) (OwnD.wide (hi := w7.heap.size) ?_ (by simp)) (by omega)
                  repeat refine OwnD.setOff ?_ (by omega)
                  exact HO.out
                · repeat first | exact HF.out | (refine Below.setCell ?_ ?_ _; rotate_left; (simp; try omega))

end

section
open Go.RowKit Go.Deep

set_option maxRecDepth 100000 in
set_option maxHeartbeats 4000000 in
theorem spec_SetTable_any (A A2 : Option Addr) (n c c2 B : Nat) (ts : List Tab) (tn : ByteArray) (ta : Int) (tr : List (List Int)) (w : World) (hr : RdT w B A n ts) (hB : B ≤ w.heap.size) (hn : n ≤ 1000000000) (hs : sumT ts ≤ 4294967296)
    (hr2 : RdR w B A2 tr.length tr) (hn2 : tr.length ≤ 5000000000) (hrow : ∀ r ∈ tr, r.length ≤ 17592186044416) (htn : tn.size ≤ maxLen) :
    Calls Tryz.prog 22 #[.agg #[.slice A n c], .agg #[.string tn, .int .i64 ta, .slice A2 tr.length c2]] w (DbBool (setR ts ⟨tn, ta, tr⟩) w) := by
  obtain ⟨i1, hi1, hz0, hz1, hz2⟩ := info_parts info_tab
  have HL := Lib.hid hr.1
  have hsm := Lib.hid hs
  have hrow' := Lib.hid hrow
  have KV : Hid (∀ W, Below w.heap.size w W → Calls Tryz.prog 33 #[.agg #[.slice A n c]] W fun e w' => e = .returned (.bool (validD ts)) ∧ Below W.heap.size W w') := fun W b => spec_IsValidDatabase_any A n c B ts W (RdT.belowB hr b hB) (Nat.le_trans hB b.size) hn hs
  have KT : Hid (∀ W, Below w.heap.size w W → Calls Tryz.prog 12 #[.agg #[.string tn, .int .i64 ta, .slice A2 tr.length c2]] W fun e w' => e = .returned (.bool (validTb ⟨tn, ta, tr⟩)) ∧ Below W.heap.size W w') := fun W b => spec_IsValidTable_any tn ta A2 tr.length c2 B tr W (RdR.belowB hr2 b hB) (Nat.le_trans hB b.size) (by omega)
  have KP : Hid (∀ W, Below w.heap.size w W → Calls Tryz.prog 64 #[.agg #[.slice A n c]] W (DbNew ts W)) := fun W b => l5Copy_any A n c B ts W (RdT.belowB hr b hB) (Nat.le_trans hB b.size) hn hs
  have kn0 : Kn w [(w.heap.size, 0, .slice A n c), (w.heap.size + 1, 0, .string tn), (w.heap.size + 1, 1, .int .i64 ta), (w.heap.size + 1, 2, .slice A2 tr.length c2), (w.heap.size + 2, 0, .slice none 0 0)] (((w.alloc (.cells #[.slice A n c] 42)).alloc (.cells #[.string tn, .int .i64 ta, .slice A2 tr.length c2] 26)).alloc (.cells #[.slice none 0 0] 42)) := by
    simpa using ((((Kn.start w).box1 (.slice A n c) 42).box3 (.string tn) (.int .i64 ta) (.slice A2 tr.length c2) 26).box1 (.slice none 0 0) 42)
  clear hs hrow
  go_enter Tryz.func22, Tryz.ntmps22
  go_wp2_with fail
  have s0 : w.heap.size + 3 ≤ (((w.alloc (.cells #[.slice A n c] 42)).alloc (.cells #[.string tn, .int .i64 ta, .slice A2 tr.length c2] 26)).alloc (.cells #[.slice none 0 0] 42)).heap.size := by simp
  generalize ((w.alloc (.cells #[.slice A n c] 42)).alloc (.cells #[.string tn, .int .i64 ta, .slice A2 tr.length c2] 26)).alloc (.cells #[.slice none 0 0] 42) = w0 at kn0 s0 ⊢
  have KV0 := Lib.hid (KV.out w0 kn0.bel)
  cases hv : validD ts with
  | false =>
    have hf : Hid (setR ts ⟨tn, ta, tr⟩ = (ts, false)) := by show _ = _; rw [setR, if_neg (by rw [hv]; simp)]
    rw [hv] at KV0
    clear hv
    refine KV0.out.mono ?_
    rintro e w1 ⟨rfl, b1⟩
    have s1 := b1.size
    have kn1 := kn0.next b1
    clear kn0 b1
    obtain ⟨d0, d1, d2, d3, d4, _⟩ := kn1.all
    have KP1 := Lib.hid (KP.out w1 kn1.bel)
    go_wp2_with fail
    refine KP1.out.mono ?_
    rintro e w2 ⟨Ao, co, rfl, oo, b2⟩
    have s2 := b2.size
    have kn2 := kn1.next b2
    have HO := Lib.hid oo
    clear kn1 b2 oo d0 d1 d2 d3 d4
    obtain ⟨d0, d1, d2, d3, d4, _⟩ := kn2.all
    obtain ⟨f0, f1, f2, f3, f4, _⟩ := kn2.fall
    have HF := Lib.hid kn2.bel
    clear kn2
    go_wp2_with fail
    refine bodyPost_ret (v := .tuple #[.agg #[.slice Ao ts.length co], .bool false]) (by simp [results, Tryz.results22, go_sem, *]) rfl (DbBool.of hf.out ?_ ?_)
    · refine OwnD.down (lo := w1.heap.size) (OwnD.wide (hi := w2.heap.size) ?_ (by simp)) (by omega)
      repeat refine OwnD.setOff ?_ (by omega)
      exact HO.out
    · repeat first | exact HF.out | (refine Below.setCell ?_ ?_ _; rotate_left; (simp; try omega))
  | true =>
    have HV := Lib.hid hv
    rw [hv] at KV0
    clear hv
    refine KV0.out.mono ?_
    rintro e w1 ⟨rfl, b1⟩
    have s1 := b1.size
    have kn1 := kn0.next b1
    clear kn0 b1
    obtain ⟨d0, d1, d2, d3, d4, _⟩ := kn1.all
    have KT1 := Lib.hid (KT.out w1 kn1.bel)
    go_wp2_with fail
    cases hvt : validTb ⟨tn, ta, tr⟩ with
    | false =>
      have hf : Hid (setR ts ⟨tn, ta, tr⟩ = (ts, false)) := by show _ = _; rw [setR, if_neg (by rw [hvt]; simp)]
      rw [hvt] at KT1
      clear hvt
      refine KT1.out.mono ?_
      rintro e w2 ⟨rfl, b2⟩
      have s2 := b2.size
      have kn2 := kn1.next b2
      clear kn1 b2 d0 d1 d2 d3 d4
      obtain ⟨d0, d1, d2, d3, d4, _⟩ := kn2.all
      have KP2 := Lib.hid (KP.out w2 kn2.bel)
      go_wp2_with fail
      refine KP2.out.mono ?_
      rintro e w3 ⟨Ao, co, rfl, oo, b3⟩
      have s3 := b3.size
      have kn3 := kn2.next b3
      have HO := Lib.hid oo
      clear kn2 b3 oo d0 d1 d2 d3 d4
      obtain ⟨d0, d1, d2, d3, d4, _⟩ := kn3.all
      obtain ⟨f0, f1, f2, f3, f4, _⟩ := kn3.fall
      have HF := Lib.hid kn3.bel
      clear kn3
      go_wp2_with fail
      refine bodyPost_ret (v := .tuple #[.agg #[.slice Ao ts.length co], .bool false]) (by simp [results, Tryz.results22, go_sem, *]) rfl (DbBool.of hf.out ?_ ?_)
      · refine OwnD.down (lo := w2.heap.size) (OwnD.wide (hi := w3.heap.size) ?_ (by simp)) (by omega)
        repeat refine OwnD.setOff ?_ (by omega)
        exact HO.out
      · repeat first | exact HF.out | (refine Below.setCell ?_ ?_ _; rotate_left; (simp; try omega))
    | true =>
      have HVT := Lib.hid hvt
      rw [hvt] at KT1
      clear hvt
      refine KT1.out.mono ?_
      rintro e w2 ⟨rfl, b2⟩
      have s2 := b2.size
      have kn2 := kn1.next b2
      clear kn1 b2 d0 d1 d2 d3 d4 KT1 KV0
      obtain ⟨d0, d1, d2, d3, d4, _⟩ := kn2.all
      have ne0 : w.heap.size < w2.heap.size := by omega
      go_wp2_with fail
      clear ne0
      have hd0 : DInv w [(w.heap.size, 0, .slice A n c), (w.heap.size + 1, 0, .string tn), (w.heap.size + 1, 1, .int .i64 ta), (w.heap.size + 1, 2, .slice A2 tr.length c2), (w.heap.size + 2, 0, .slice none 0 0)] w2.heap.size (w2.heap.size + 1) [] (.slice none 0 0) (w2.alloc (.cells #[.slice none 0 0] 42)) :=
        ⟨kn2.next ((Below.refl _ _).alloc (Nat.le_refl _) (.cells #[.slice none 0 0] 42)), OwnD.nil _ _ _, by simp, by omega, by omega, by simp only [List.forall_mem_cons]; simp; omega, by simp [go_sem], by simp [go_sem]⟩
      have hsx : Hid (w.heap.size + 3 ≤ w2.heap.size) := by show _ ≤ _; omega
      clear kn2 d0 d1 d2 d3 d4
      generalize w2.alloc (.cells #[.slice none 0 0] 42) = w3 at hd0 ⊢
      go_loopw [7, 8] (fun d i wr => ∃ (k : Nat) (v : Value), k ≤ n ∧ i = .int .i64 k ∧ d = .bool (setS ⟨tn, ta, tr⟩ (ts.take k)).1 ∧ Hid (DInv w [(w.heap.size, 0, .slice A n c), (w.heap.size + 1, 0, .string tn), (w.heap.size + 1, 1, .int .i64 ta), (w.heap.size + 1, 2, .slice A2 tr.length c2), (w.heap.size + 2, 0, .slice none 0 0)] w2.heap.size (w2.heap.size + 1) (setS ⟨tn, ta, tr⟩ (ts.take k)).2 v wr)) (fun _ i _ => n - (intOf i).toNat)
      case atStart => exact ⟨0, _, by omega, rfl, rfl, hd0⟩
      case round =>
        obtain ⟨k, v, hk, rfl, rfl, hinv⟩ := hrel
        clear hd0
        have hbel := Lib.hid hinv.out.kn.bel
        have hsz := hbel.out.size
        have hsl : (setS ⟨tn, ta, tr⟩ (ts.take k)).2.length ≤ 2000000000 := by
          have h1 := setS_len2 ⟨tn, ta, tr⟩ (ts.take k)
          rw [List.length_take] at h1
          omega
        obtain ⟨d0, d1, d2, d3, d4, _⟩ := hinv.out.kn.all
        have x0 := hinv.out.x0
        by_cases hlt : k < n
        · obtain ⟨b, o, x, A', c', rfl, hb, hx, hc0, hc1, hc2, hrd, hm, hnm⟩ := RdT.at_ hr hlt
          have hts := Lib.hid (tab_small hx hsm.out)
          have HX0 := Lib.hid (setS_take (t := ⟨tn, ta, tr⟩) hx)
          have hb2 : b < w.heap.size := by omega
          obtain ⟨xn, xa, xr⟩ := x
          have hm0 : Hid (w.cell? ⟨b, o + k * 3, none⟩ = some (.string xn)) := hc0
          have hm1 : Hid (w.cell? ⟨b, o + k * 3 + 1, none⟩ = some (.int .i64 xa)) := hc1
          have hm2 : Hid (w.cell? ⟨b, o + k * 3 + 2, none⟩ = some (.slice A' xr.length c')) := hc2
          have m0 := (hbel.out.cell (p := ⟨b, o + k * 3, none⟩) hb2).trans hm0.out
          have m1 := (hbel.out.cell (p := ⟨b, o + k * 3 + 1, none⟩) hb2).trans hm1.out
          have m2 := (hbel.out.cell (p := ⟨b, o + k * 3 + 2, none⟩) hb2).trans hm2.out
          have hrdx : Hid (RdR w B A' xr.length xr) := hrd
          have hnm : xn.size ≤ maxLen := hnm
          have HX : Hid (setS ⟨tn, ta, tr⟩ (ts.take (k + 1)) = setF ⟨tn, ta, tr⟩ (setS ⟨tn, ta, tr⟩ (ts.take k)) ⟨xn, xa, xr⟩) := HX0
          generalize setS ⟨tn, ta, tr⟩ (ts.take k) = S at hinv hsl HX ⊢
          obtain ⟨d, acc⟩ := S
          have g1 : (0 : Int) ≤ (k : Int) := by omega
          have g2 : (k : Int) < (n : Int) := by omega
          have g3 : (k : Int).toNat = k := by omega
          clear hx hc0 hc1 hc2 hrd hm HX0
          cases hl : ltN xn tn with
          | true =>
            by_cases he : xn = tn
            · cases d with
              | true =>
                have HN : Hid (setS ⟨tn, ta, tr⟩ (ts.take (k + 1)) = (true, acc)) := by show _ = _; rw [HX.out]; simp only [setF, hl]; rw [if_pos he]; simp
                have qe := (show (xn.toList == tn.toList) = true by rw [he]; simp)
                unfold ltN at hl
                clear he
                have hla0 : acc.length ≤ 2000000000 := hsl
                have HI0 : Hid (DInv w [(w.heap.size, 0, .slice (some ⟨b, o, none⟩) n c), (w.heap.size + 1, 0, .string tn), (w.heap.size + 1, 1, .int .i64 ta), (w.heap.size + 1, 2, .slice A2 tr.length c2), (w.heap.size + 2, 0, .slice none 0 0)] w2.heap.size (w2.heap.size + 1) acc v wr) := hinv
                clear hinv
                go_wp2_with fail
                go_quiet (fail)
                have HI4 := Lib.hid (HI0.out.drewN nq)
                generalize wr.drewN nq = w4 at HI4 ⊢
                clear d0 d1 d2 d3 d4 x0 m0 m1 m2 HI0
                obtain ⟨d0, d1, d2, d3, d4, _⟩ := HI4.out.kn.all
                have x0 := HI4.out.x0
                have hbl4 := Lib.hid HI4.out.kn.bel
                have m0 := (hbl4.out.cell (p := ⟨b, o + k * 3, none⟩) hb2).trans hm0.out
                have m1 := (hbl4.out.cell (p := ⟨b, o + k * 3 + 1, none⟩) hb2).trans hm1.out
                have m2 := (hbl4.out.cell (p := ⟨b, o + k * 3 + 2, none⟩) hb2).trans hm2.out
                go_wp2_with fail
                go_quiet (fail)
                have HI7 := Lib.hid (HI4.out.drewN nq)
                generalize w4.drewN nq = w7 at HI7 ⊢
                clear d0 d1 d2 d3 d4 x0 m0 m1 m2 HI4
                obtain ⟨d0, d1, d2, d3, d4, _⟩ := HI7.out.kn.all
                have x0 := HI7.out.x0
                have hbl7 := Lib.hid HI7.out.kn.bel
                have m0 := (hbl7.out.cell (p := ⟨b, o + k * 3, none⟩) hb2).trans hm0.out
                have m1 := (hbl7.out.cell (p := ⟨b, o + k * 3 + 1, none⟩) hb2).trans hm1.out
                have m2 := (hbl7.out.cell (p := ⟨b, o + k * 3 + 2, none⟩) hb2).trans hm2.out
                go_wp2_with fail
                refine ⟨⟨k + 1, _, by omega, by go_num, by rw [HN.out], by rw [HN.out]; exact HI7⟩, ?_⟩
                simp [intOf]
                omega
              | false =>
                have HN : Hid (setS ⟨tn, ta, tr⟩ (ts.take (k + 1)) = (false, acc)) := by show _ = _; rw [HX.out]; simp only [setF, hl]; rw [if_pos he]; simp
                have qe := (show (xn.toList == tn.toList) = true by rw [he]; simp)
                unfold ltN at hl
                clear he
                have hla0 : acc.length ≤ 2000000000 := hsl
                have HI0 : Hid (DInv w [(w.heap.size, 0, .slice (some ⟨b, o, none⟩) n c), (w.heap.size + 1, 0, .string tn), (w.heap.size + 1, 1, .int .i64 ta), (w.heap.size + 1, 2, .slice A2 tr.length c2), (w.heap.size + 2, 0, .slice none 0 0)] w2.heap.size (w2.heap.size + 1) acc v wr) := hinv
                clear hinv
                go_wp2_with fail
                go_quiet (fail)
                have HI4 := Lib.hid (HI0.out.drewN nq)
                generalize wr.drewN nq = w4 at HI4 ⊢
                clear d0 d1 d2 d3 d4 x0 m0 m1 m2 HI0
                obtain ⟨d0, d1, d2, d3, d4, _⟩ := HI4.out.kn.all
                have x0 := HI4.out.x0
                have hbl4 := Lib.hid HI4.out.kn.bel
                have m0 := (hbl4.out.cell (p := ⟨b, o + k * 3, none⟩) hb2).trans hm0.out
                have m1 := (hbl4.out.cell (p := ⟨b, o + k * 3 + 1, none⟩) hb2).trans hm1.out
                have m2 := (hbl4.out.cell (p := ⟨b, o + k * 3 + 2, none⟩) hb2).trans hm2.out
                go_wp2_with fail
                go_quiet (fail)
                have HI7 := Lib.hid (HI4.out.drewN nq)
                generalize w4.drewN nq = w7 at HI7 ⊢
                clear d0 d1 d2 d3 d4 x0 m0 m1 m2 HI4
                obtain ⟨d0, d1, d2, d3, d4, _⟩ := HI7.out.kn.all
                have x0 := HI7.out.x0
                have hbl7 := Lib.hid HI7.out.kn.bel
                have m0 := (hbl7.out.cell (p := ⟨b, o + k * 3, none⟩) hb2).trans hm0.out
                have m1 := (hbl7.out.cell (p := ⟨b, o + k * 3 + 1, none⟩) hb2).trans hm1.out
                have m2 := (hbl7.out.cell (p := ⟨b, o + k * 3 + 2, none⟩) hb2).trans hm2.out
                go_wp2_with fail
                refine ⟨⟨k + 1, _, by omega, by go_num, by rw [HN.out], by rw [HN.out]; exact HI7⟩, ?_⟩
                simp [intOf]
                omega
            · cases d with
              | true =>
                have HN : Hid (setS ⟨tn, ta, tr⟩ (ts.take (k + 1)) = (true, acc ++ [⟨xn, xa, xr⟩])) := by show _ = _; rw [HX.out]; simp only [setF, hl]; rw [if_neg he]; simp
                have qe := str_eq0 he
                unfold ltN at hl
                clear he
                have hla0 : acc.length ≤ 2000000000 := hsl
                have HI0 : Hid (DInv w [(w.heap.size, 0, .slice (some ⟨b, o, none⟩) n c), (w.heap.size + 1, 0, .string tn), (w.heap.size + 1, 1, .int .i64 ta), (w.heap.size + 1, 2, .slice A2 tr.length c2), (w.heap.size + 2, 0, .slice none 0 0)] w2.heap.size (w2.heap.size + 1) acc v wr) := hinv
                clear hinv
                go_wp2_with fail
                go_quiet (fail)
                have HI4 := Lib.hid (HI0.out.drewN nq)
                generalize wr.drewN nq = w4 at HI4 ⊢
                clear d0 d1 d2 d3 d4 x0 m0 m1 m2 HI0
                obtain ⟨d0, d1, d2, d3, d4, _⟩ := HI4.out.kn.all
                have x0 := HI4.out.x0
                have hbl4 := Lib.hid HI4.out.kn.bel
                have m0 := (hbl4.out.cell (p := ⟨b, o + k * 3, none⟩) hb2).trans hm0.out
                have m1 := (hbl4.out.cell (p := ⟨b, o + k * 3 + 1, none⟩) hb2).trans hm1.out
                have m2 := (hbl4.out.cell (p := ⟨b, o + k * 3 + 2, none⟩) hb2).trans hm2.out
                go_wp2_with fail
                go_quiet (fail)
                have HI7 := Lib.hid (HI4.out.drewN nq)
                generalize w4.drewN nq = w7 at HI7 ⊢
                clear d0 d1 d2 d3 d4 x0 m0 m1 m2 HI4
                obtain ⟨d0, d1, d2, d3, d4, _⟩ := HI7.out.kn.all
                have x0 := HI7.out.x0
                have hbl7 := Lib.hid HI7.out.kn.bel
                have m0 := (hbl7.out.cell (p := ⟨b, o + k * 3, none⟩) hb2).trans hm0.out
                have m1 := (hbl7.out.cell (p := ⟨b, o + k * 3 + 1, none⟩) hb2).trans hm1.out
                have m2 := (hbl7.out.cell (p := ⟨b, o + k * 3 + 2, none⟩) hb2).trans hm2.out
                have KX7 := Lib.hid (l4Copy_any xn xa A' xr.length c' B xr w7 (RdR.belowB hrdx.out hbl7.out hB) (Nat.le_trans hB hbl7.out.size) hts.out.1 hts.out.2)
                go_wp2_with fail
                refine KX7.out.mono ?_
                rintro e w1 ⟨A1, c1, rfl, ho1, hb1⟩
                clear d0 d1 d2 d3 d4 x0 m0 m1 m2 KX7
                obtain ⟨xs, hrow, n2, happ⟩ := HI7.out.app (nm := xn) (ar := xa) (w1 := w1.alloc (.cells #[.string xn, .int .i64 xa, .slice A1 xr.length c1] 26)) (hb1.alloc hb1.size (.cells #[.string xn, .int .i64 xa, .slice A1 xr.length c1] 26)) (ho1.below ((Below.refl w1.heap.size w1).alloc (Nat.le_refl _) (.cells #[.string xn, .int .i64 xa, .slice A1 xr.length c1] 26)) (Nat.le_refl _)) (Nat.le_refl _) (by simp) hnm
                have hnb : (w1.alloc (.cells #[.string xn, .int .i64 xa, .slice A1 xr.length c1] 26)).heap.size = w1.heap.size + 1 := by simp
                have hgn := heap_alloc_new (w1.alloc (.cells #[.string xn, .int .i64 xa, .slice A1 xr.length c1] 26)) (.cells #[.string xn, .int .i64 xa, .slice A1 xr.length c1] 26)
                have hx1 : w2.heap.size < w1.heap.size := Nat.lt_of_lt_of_le (Nat.lt_of_lt_of_le HI7.out.hxb HI7.out.size) hb1.size
                rw [hnb] at hgn happ
                have n3 : w1.cell? ⟨w2.heap.size, 0, none⟩ = some (v) := (hb1.cell (p := ⟨w2.heap.size, 0, none⟩) (Nat.lt_of_lt_of_le HI7.out.hxb HI7.out.size)).trans HI7.out.x0
                have HA := Lib.hid happ
                have HR := Lib.hid hrow
                have HGN := Lib.hid hgn
                clear happ ho1 hb1 hrow hgn n2
                go_wp2_with (at_builtin; refine wpList_append_lies _ rfl _ _ _ rfl 0 26 i1 _ 3 48 Tryz.underlying40 hi1 hz0 hz1 hz2 rfl (by omega) _ (acc).length _ rfl HR.out ⟨w1.heap.size + 1, 0, none⟩ 1 1 [.string xn, .int .i64 xa, .slice A1 xr.length c1] rfl rfl (World.news_of_block (cs := #[.string xn, .int .i64 xa, .slice A1 xr.length c1]) (t := 26) (fr := (0, 0)) HGN.out) (by simp [Value.oneCell']) (by omega) (by unfold maxLen; omega) (by omega) (Nat.zero_le _) (w1.heap.size + 1 + 1) (by simp) ?_; intro g cap w2_1 hown2 hgrow hat hlt2; obtain ⟨m2, m3, hF, hcl, hsz2⟩ := HA.out g cap w2_1 hown2 hgrow hat; have HF := Lib.hid hF; clear hown2 hgrow hat hF hcl hsz2)
                refine ⟨⟨k + 1, _, by omega, by go_num, by rw [HN.out], by rw [HN.out]; exact HF⟩, ?_⟩
                simp [intOf]
                omega
              | false =>
                have HN : Hid (setS ⟨tn, ta, tr⟩ (ts.take (k + 1)) = (false, acc ++ [⟨xn, xa, xr⟩])) := by show _ = _; rw [HX.out]; simp only [setF, hl]; rw [if_neg he]; simp
                have qe := str_eq0 he
                unfold ltN at hl
                clear he
                have hla0 : acc.length ≤ 2000000000 := hsl
                have HI0 : Hid (DInv w [(w.heap.size, 0, .slice (some ⟨b, o, none⟩) n c), (w.heap.size + 1, 0, .string tn), (w.heap.size + 1, 1, .int .i64 ta), (w.heap.size + 1, 2, .slice A2 tr.length c2), (w.heap.size + 2, 0, .slice none 0 0)] w2.heap.size (w2.heap.size + 1) acc v wr) := hinv
                clear hinv
                go_wp2_with fail
                go_quiet (fail)
                have HI4 := Lib.hid (HI0.out.drewN nq)
                generalize wr.drewN nq = w4 at HI4 ⊢
                clear d0 d1 d2 d3 d4 x0 m0 m1 m2 HI0
                obtain ⟨d0, d1, d2, d3, d4, _⟩ := HI4.out.kn.all
                have x0 := HI4.out.x0
                have hbl4 := Lib.hid HI4.out.kn.bel
                have m0 := (hbl4.out.cell (p := ⟨b, o + k * 3, none⟩) hb2).trans hm0.out
                have m1 := (hbl4.out.cell (p := ⟨b, o + k * 3 + 1, none⟩) hb2).trans hm1.out
                have m2 := (hbl4.out.cell (p := ⟨b, o + k * 3 + 2, none⟩) hb2).trans hm2.out
                go_wp2_with fail
                go_quiet (fail)
                have HI7 := Lib.hid (HI4.out.drewN nq)
                generalize w4.drewN nq = w7 at HI7 ⊢
                clear d0 d1 d2 d3 d4 x0 m0 m1 m2 HI4
                obtain ⟨d0, d1, d2, d3, d4, _⟩ := HI7.out.kn.all
                have x0 := HI7.out.x0
                have hbl7 := Lib.hid HI7.out.kn.bel
                have m0 := (hbl7.out.cell (p := ⟨b, o + k * 3, none⟩) hb2).trans hm0.out
                have m1 := (hbl7.out.cell (p := ⟨b, o + k * 3 + 1, none⟩) hb2).trans hm1.out
                have m2 := (hbl7.out.cell (p := ⟨b, o + k * 3 + 2, none⟩) hb2).trans hm2.out
                have KX7 := Lib.hid (l4Copy_any xn xa A' xr.length c' B xr w7 (RdR.belowB hrdx.out hbl7.out hB) (Nat.le_trans hB hbl7.out.size) hts.out.1 hts.out.2)
                go_wp2_with fail
                refine KX7.out.mono ?_
                rintro e w1 ⟨A1, c1, rfl, ho1, hb1⟩
                clear d0 d1 d2 d3 d4 x0 m0 m1 m2 KX7
                obtain ⟨xs, hrow, n2, happ⟩ := HI7.out.app (nm := xn) (ar := xa) (w1 := w1.alloc (.cells #[.string xn, .int .i64 xa, .slice A1 xr.length c1] 26)) (hb1.alloc hb1.size (.cells #[.string xn, .int .i64 xa, .slice A1 xr.length c1] 26)) (ho1.below ((Below.refl w1.heap.size w1).alloc (Nat.le_refl _) (.cells #[.string xn, .int .i64 xa, .slice A1 xr.length c1] 26)) (Nat.le_refl _)) (Nat.le_refl _) (by simp) hnm
                have hnb : (w1.alloc (.cells #[.string xn, .int .i64 xa, .slice A1 xr.length c1] 26)).heap.size = w1.heap.size + 1 := by simp
                have hgn := heap_alloc_new (w1.alloc (.cells #[.string xn, .int .i64 xa, .slice A1 xr.length c1] 26)) (.cells #[.string xn, .int .i64 xa, .slice A1 xr.length c1] 26)
                have hx1 : w2.heap.size < w1.heap.size := Nat.lt_of_lt_of_le (Nat.lt_of_lt_of_le HI7.out.hxb HI7.out.size) hb1.size
                rw [hnb] at hgn happ
                have n3 : w1.cell? ⟨w2.heap.size, 0, none⟩ = some (v) := (hb1.cell (p := ⟨w2.heap.size, 0, none⟩) (Nat.lt_of_lt_of_le HI7.out.hxb HI7.out.size)).trans HI7.out.x0
                have HA := Lib.hid happ
                have HR := Lib.hid hrow
                have HGN := Lib.hid hgn
                clear happ ho1 hb1 hrow hgn n2
                go_wp2_with (at_builtin; refine wpList_append_lies _ rfl _ _ _ rfl 0 26 i1 _ 3 48 Tryz.underlying40 hi1 hz0 hz1 hz2 rfl (by omega) _ (acc).length _ rfl HR.out ⟨w1.heap.size + 1, 0, none⟩ 1 1 [.string xn, .int .i64 xa, .slice A1 xr.length c1] rfl rfl (World.news_of_block (cs := #[.string xn, .int .i64 xa, .slice A1 xr.length c1]) (t := 26) (fr := (0, 0)) HGN.out) (by simp [Value.oneCell']) (by omega) (by unfold maxLen; omega) (by omega) (Nat.zero_le _) (w1.heap.size + 1 + 1) (by simp) ?_; intro g cap w2_1 hown2 hgrow hat hlt2; obtain ⟨m2, m3, hF, hcl, hsz2⟩ := HA.out g cap w2_1 hown2 hgrow hat; have HF := Lib.hid hF; clear hown2 hgrow hat hF hcl hsz2)
                refine ⟨⟨k + 1, _, by omega, by go_num, by rw [HN.out], by rw [HN.out]; exact HF⟩, ?_⟩
                simp [intOf]
                omega
          | false =>
            by_cases he : xn = tn
            · cases d with
              | true =>
                have HN : Hid (setS ⟨tn, ta, tr⟩ (ts.take (k + 1)) = (true, acc)) := by show _ = _; rw [HX.out]; simp only [setF, hl]; rw [if_pos he]; simp
                have qe := (show (xn.toList == tn.toList) = true by rw [he]; simp)
                unfold ltN at hl
                clear he
                have hla0 : acc.length ≤ 2000000000 := hsl
                have HI0 : Hid (DInv w [(w.heap.size, 0, .slice (some ⟨b, o, none⟩) n c), (w.heap.size + 1, 0, .string tn), (w.heap.size + 1, 1, .int .i64 ta), (w.heap.size + 1, 2, .slice A2 tr.length c2), (w.heap.size + 2, 0, .slice none 0 0)] w2.heap.size (w2.heap.size + 1) acc v wr) := hinv
                clear hinv
                go_wp2_with fail
                go_quiet (fail)
                have HI4 := Lib.hid (HI0.out.drewN nq)
                generalize wr.drewN nq = w4 at HI4 ⊢
                clear d0 d1 d2 d3 d4 x0 m0 m1 m2 HI0
                obtain ⟨d0, d1, d2, d3, d4, _⟩ := HI4.out.kn.all
                have x0 := HI4.out.x0
                have hbl4 := Lib.hid HI4.out.kn.bel
                have m0 := (hbl4.out.cell (p := ⟨b, o + k * 3, none⟩) hb2).trans hm0.out
                have m1 := (hbl4.out.cell (p := ⟨b, o + k * 3 + 1, none⟩) hb2).trans hm1.out
                have m2 := (hbl4.out.cell (p := ⟨b, o + k * 3 + 2, none⟩) hb2).trans hm2.out
                go_wp2_with fail
                go_quiet (fail)
                have HI7 := Lib.hid (HI4.out.drewN nq)
                generalize w4.drewN nq = w7 at HI7 ⊢
                clear d0 d1 d2 d3 d4 x0 m0 m1 m2 HI4
                obtain ⟨d0, d1, d2, d3, d4, _⟩ := HI7.out.kn.all
                have x0 := HI7.out.x0
                have hbl7 := Lib.hid HI7.out.kn.bel
                have m0 := (hbl7.out.cell (p := ⟨b, o + k * 3, none⟩) hb2).trans hm0.out
                have m1 := (hbl7.out.cell (p := ⟨b, o + k * 3 + 1, none⟩) hb2).trans hm1.out
                have m2 := (hbl7.out.cell (p := ⟨b, o + k * 3 + 2, none⟩) hb2).trans hm2.out
                go_wp2_with fail
                refine ⟨⟨k + 1, _, by omega, by go_num, by rw [HN.out], by rw [HN.out]; exact HI7⟩, ?_⟩
                simp [intOf]
                omega
              | false =>
                have HN : Hid (setS ⟨tn, ta, tr⟩ (ts.take (k + 1)) = (true, acc ++ [⟨tn, ta, tr⟩])) := by show _ = _; rw [HX.out]; simp only [setF, hl]; rw [if_pos he]; simp
                have qe := (show (xn.toList == tn.toList) = true by rw [he]; simp)
                unfold ltN at hl
                clear he
                have hla0 : acc.length ≤ 2000000000 := hsl
                have HI0 : Hid (DInv w [(w.heap.size, 0, .slice (some ⟨b, o, none⟩) n c), (w.heap.size + 1, 0, .string tn), (w.heap.size + 1, 1, .int .i64 ta), (w.heap.size + 1, 2, .slice A2 tr.length c2), (w.heap.size + 2, 0, .slice none 0 0)] w2.heap.size (w2.heap.size + 1) acc v wr) := hinv
                clear hinv
                go_wp2_with fail
                go_quiet (fail)
                have HI4 := Lib.hid (HI0.out.drewN nq)
                generalize wr.drewN nq = w4 at HI4 ⊢
                clear d0 d1 d2 d3 d4 x0 m0 m1 m2 HI0
                obtain ⟨d0, d1, d2, d3, d4, _⟩ := HI4.out.kn.all
                have x0 := HI4.out.x0
                have hbl4 := Lib.hid HI4.out.kn.bel
                have m0 := (hbl4.out.cell (p := ⟨b, o + k * 3, none⟩) hb2).trans hm0.out
                have m1 := (hbl4.out.cell (p := ⟨b, o + k * 3 + 1, none⟩) hb2).trans hm1.out
                have m2 := (hbl4.out.cell (p := ⟨b, o + k * 3 + 2, none⟩) hb2).trans hm2.out
                have KT4 := Lib.hid (l4Copy_any tn ta A2 tr.length c2 B tr w4 (RdR.belowB hr2 hbl4.out hB) (Nat.le_trans hB hbl4.out.size) hn2 hrow'.out)
                go_wp2_with fail
                refine KT4.out.mono ?_
                rintro e w1 ⟨A1, c1, rfl, ho1, hb1⟩
                clear d0 d1 d2 d3 d4 x0 m0 m1 m2 KT4
                obtain ⟨xs, hrow, n2, happ⟩ := HI4.out.app (nm := tn) (ar := ta) (w1 := w1.alloc (.cells #[.string tn, .int .i64 ta, .slice A1 tr.length c1] 26)) (hb1.alloc hb1.size (.cells #[.string tn, .int .i64 ta, .slice A1 tr.length c1] 26)) (ho1.below ((Below.refl w1.heap.size w1).alloc (Nat.le_refl _) (.cells #[.string tn, .int .i64 ta, .slice A1 tr.length c1] 26)) (Nat.le_refl _)) (Nat.le_refl _) (by simp) htn
                have hnb : (w1.alloc (.cells #[.string tn, .int .i64 ta, .slice A1 tr.length c1] 26)).heap.size = w1.heap.size + 1 := by simp
                have hgn := heap_alloc_new (w1.alloc (.cells #[.string tn, .int .i64 ta, .slice A1 tr.length c1] 26)) (.cells #[.string tn, .int .i64 ta, .slice A1 tr.length c1] 26)
                have hx1 : w2.heap.size < w1.heap.size := Nat.lt_of_lt_of_le (Nat.lt_of_lt_of_le HI4.out.hxb HI4.out.size) hb1.size
                rw [hnb] at hgn happ
                have n3 : w1.cell? ⟨w2.heap.size, 0, none⟩ = some (v) := (hb1.cell (p := ⟨w2.heap.size, 0, none⟩) (Nat.lt_of_lt_of_le HI4.out.hxb HI4.out.size)).trans HI4.out.x0
                have HA := Lib.hid happ
                have HR := Lib.hid hrow
                have HGN := Lib.hid hgn
                clear happ ho1 hb1 hrow hgn n2
                go_wp2_with (at_builtin; refine wpList_append_lies _ rfl _ _ _ rfl 0 26 i1 _ 3 48 Tryz.underlying40 hi1 hz0 hz1 hz2 rfl (by omega) _ (acc).length _ rfl HR.out ⟨w1.heap.size + 1, 0, none⟩ 1 1 [.string tn, .int .i64 ta, .slice A1 tr.length c1] rfl rfl (World.news_of_block (cs := #[.string tn, .int .i64 ta, .slice A1 tr.length c1]) (t := 26) (fr := (0, 0)) HGN.out) (by simp [Value.oneCell']) (by omega) (by unfold maxLen; omega) (by omega) (Nat.zero_le _) (w1.heap.size + 1 + 1) (by simp) ?_; intro g cap w2_1 hown2 hgrow hat hlt2; obtain ⟨m2, m3, hF, hcl, hsz2⟩ := HA.out g cap w2_1 hown2 hgrow hat; have HF := Lib.hid hF; clear hown2 hgrow hat hF hcl hsz2)
                have hla : (acc ++ [(⟨tn, ta, tr⟩ : Tab)]).length ≤ 2000000001 := by rw [List.length_append]; simp; omega
                generalize w2_1.setCell ⟨w2.heap.size, 0, none⟩ (.slice (some ⟨g, 0, none⟩) (acc.length + 1) cap) = w5 at HF ⊢
                generalize (Value.slice (some ⟨g, 0, none⟩) (acc.length + 1) cap) = v5 at HF
                clear HI4 hbl4
                clear m2 m3 n3 hx1 hnb HR HGN HA
                generalize acc ++ [(⟨tn, ta, tr⟩ : Tab)] = acc2 at HF HN hla
                obtain ⟨d0, d1, d2, d3, d4, _⟩ := HF.out.kn.all
                have x0 := HF.out.x0
                have hbl5 := Lib.hid HF.out.kn.bel
                have m0 := (hbl5.out.cell (p := ⟨b, o + k * 3, none⟩) hb2).trans hm0.out
                have m1 := (hbl5.out.cell (p := ⟨b, o + k * 3 + 1, none⟩) hb2).trans hm1.out
                have m2 := (hbl5.out.cell (p := ⟨b, o + k * 3 + 2, none⟩) hb2).trans hm2.out
                go_wp2_with fail
                go_quiet (fail)
                have HI7 := Lib.hid (HF.out.drewN nq)
                generalize w5.drewN nq = w7 at HI7 ⊢
                clear d0 d1 d2 d3 d4 x0 m0 m1 m2 HF
                obtain ⟨d0, d1, d2, d3, d4, _⟩ := HI7.out.kn.all
                have x0 := HI7.out.x0
                have hbl7 := Lib.hid HI7.out.kn.bel
                have m0 := (hbl7.out.cell (p := ⟨b, o + k * 3, none⟩) hb2).trans hm0.out
                have m1 := (hbl7.out.cell (p := ⟨b, o + k * 3 + 1, none⟩) hb2).trans hm1.out
                have m2 := (hbl7.out.cell (p := ⟨b, o + k * 3 + 2, none⟩) hb2).trans hm2.out
                go_wp2_with fail
                refine ⟨⟨k + 1, _, by omega, by go_num, by rw [HN.out], by rw [HN.out]; exact HI7⟩, ?_⟩
                simp [intOf]
                omega
            · cases d with
              | true =>
                have HN : Hid (setS ⟨tn, ta, tr⟩ (ts.take (k + 1)) = (true, acc ++ [⟨xn, xa, xr⟩])) := by show _ = _; rw [HX.out]; simp only [setF, hl]; rw [if_neg he]; simp
                have qe := str_eq0 he
                unfold ltN at hl
                clear he
                have hla0 : acc.length ≤ 2000000000 := hsl
                have HI0 : Hid (DInv w [(w.heap.size, 0, .slice (some ⟨b, o, none⟩) n c), (w.heap.size + 1, 0, .string tn), (w.heap.size + 1, 1, .int .i64 ta), (w.heap.size + 1, 2, .slice A2 tr.length c2), (w.heap.size + 2, 0, .slice none 0 0)] w2.heap.size (w2.heap.size + 1) acc v wr) := hinv
                clear hinv
                go_wp2_with fail
                go_quiet (fail)
                have HI4 := Lib.hid (HI0.out.drewN nq)
                generalize wr.drewN nq = w4 at HI4 ⊢
                clear d0 d1 d2 d3 d4 x0 m0 m1 m2 HI0
                obtain ⟨d0, d1, d2, d3, d4, _⟩ := HI4.out.kn.all
                have x0 := HI4.out.x0
                have hbl4 := Lib.hid HI4.out.kn.bel
                have m0 := (hbl4.out.cell (p := ⟨b, o + k * 3, none⟩) hb2).trans hm0.out
                have m1 := (hbl4.out.cell (p := ⟨b, o + k * 3 + 1, none⟩) hb2).trans hm1.out
                have m2 := (hbl4.out.cell (p := ⟨b, o + k * 3 + 2, none⟩) hb2).trans hm2.out
                go_wp2_with fail
                go_quiet (fail)
                have HI7 := Lib.hid (HI4.out.drewN nq)
                generalize w4.drewN nq = w7 at HI7 ⊢
                clear d0 d1 d2 d3 d4 x0 m0 m1 m2 HI4
                obtain ⟨d0, d1, d2, d3, d4, _⟩ := HI7.out.kn.all
                have x0 := HI7.out.x0
                have hbl7 := Lib.hid HI7.out.kn.bel
                have m0 := (hbl7.out.cell (p := ⟨b, o + k * 3, none⟩) hb2).trans hm0.out
                have m1 := (hbl7.out.cell (p := ⟨b, o + k * 3 + 1, none⟩) hb2).trans hm1.out
                have m2 := (hbl7.out.cell (p := ⟨b, o + k * 3 + 2, none⟩) hb2).trans hm2.out
                have KX7 := Lib.hid (l4Copy_any xn xa A' xr.length c' B xr w7 (RdR.belowB hrdx.out hbl7.out hB) (Nat.le_trans hB hbl7.out.size) hts.out.1 hts.out.2)
                go_wp2_with fail
                refine KX7.out.mono ?_
                rintro e w1 ⟨A1, c1, rfl, ho1, hb1⟩
                clear d0 d1 d2 d3 d4 x0 m0 m1 m2 KX7
                obtain ⟨xs, hrow, n2, happ⟩ := HI7.out.app (nm := xn) (ar := xa) (w1 := w1.alloc (.cells #[.string xn, .int .i64 xa, .slice A1 xr.length c1] 26)) (hb1.alloc hb1.size (.cells #[.string xn, .int .i64 xa, .slice A1 xr.length c1] 26)) (ho1.below ((Below.refl w1.heap.size w1).alloc (Nat.le_refl _) (.cells #[.string xn, .int .i64 xa, .slice A1 xr.length c1] 26)) (Nat.le_refl _)) (Nat.le_refl _) (by simp) hnm
                have hnb : (w1.alloc (.cells #[.string xn, .int .i64 xa, .slice A1 xr.length c1] 26)).heap.size = w1.heap.size + 1 := by simp
                have hgn := heap_alloc_new (w1.alloc (.cells #[.string xn, .int .i64 xa, .slice A1 xr.length c1] 26)) (.cells #[.string xn, .int .i64 xa, .slice A1 xr.length c1] 26)
                have hx1 : w2.heap.size < w1.heap.size := Nat.lt_of_lt_of_le (Nat.lt_of_lt_of_le HI7.out.hxb HI7.out.size) hb1.size
                rw [hnb] at hgn happ
                have n3 : w1.cell? ⟨w2.heap.size, 0, none⟩ = some (v) := (hb1.cell (p := ⟨w2.heap.size, 0, none⟩) (Nat.lt_of_lt_of_le HI7.out.hxb HI7.out.size)).trans HI7.out.x0
                have HA := Lib.hid happ
                have HR := Lib.hid hrow
                have HGN := Lib.hid hgn
                clear happ ho1 hb1 hrow hgn n2
                go_wp2_with (at_builtin; refine wpList_append_lies _ rfl _ _ _ rfl 0 26 i1 _ 3 48 Tryz.underlying40 hi1 hz0 hz1 hz2 rfl (by omega) _ (acc).length _ rfl HR.out ⟨w1.heap.size + 1, 0, none⟩ 1 1 [.string xn, .int .i64 xa, .slice A1 xr.length c1] rfl rfl (World.news_of_block (cs := #[.string xn, .int .i64 xa, .slice A1 xr.length c1]) (t := 26) (fr := (0, 0)) HGN.out) (by simp [Value.oneCell']) (by omega) (by unfold maxLen; omega) (by omega) (Nat.zero_le _) (w1.heap.size + 1 + 1) (by simp) ?_; intro g cap w2_1 hown2 hgrow hat hlt2; obtain ⟨m2, m3, hF, hcl, hsz2⟩ := HA.out g cap w2_1 hown2 hgrow hat; have HF := Lib.hid hF; clear hown2 hgrow hat hF hcl hsz2)
                refine ⟨⟨k + 1, _, by omega, by go_num, by rw [HN.out], by rw [HN.out]; exact HF⟩, ?_⟩
                simp [intOf]
                omega
              | false =>
                have HN : Hid (setS ⟨tn, ta, tr⟩ (ts.take (k + 1)) = (true, acc ++ [⟨tn, ta, tr⟩] ++ [⟨xn, xa, xr⟩])) := by show _ = _; rw [HX.out]; simp only [setF, hl]; rw [if_neg he]; simp
                have qe := str_eq0 he
                unfold ltN at hl
                clear he
                have hla0 : acc.length ≤ 2000000000 := hsl
                have HI0 : Hid (DInv w [(w.heap.size, 0, .slice (some ⟨b, o, none⟩) n c), (w.heap.size + 1, 0, .string tn), (w.heap.size + 1, 1, .int .i64 ta), (w.heap.size + 1, 2, .slice A2 tr.length c2), (w.heap.size + 2, 0, .slice none 0 0)] w2.heap.size (w2.heap.size + 1) acc v wr) := hinv
                clear hinv
                go_wp2_with fail
                go_quiet (fail)
                have HI4 := Lib.hid (HI0.out.drewN nq)
                generalize wr.drewN nq = w4 at HI4 ⊢
                clear d0 d1 d2 d3 d4 x0 m0 m1 m2 HI0
                obtain ⟨d0, d1, d2, d3, d4, _⟩ := HI4.out.kn.all
                have x0 := HI4.out.x0
                have hbl4 := Lib.hid HI4.out.kn.bel
                have m0 := (hbl4.out.cell (p := ⟨b, o + k * 3, none⟩) hb2).trans hm0.out
                have m1 := (hbl4.out.cell (p := ⟨b, o + k * 3 + 1, none⟩) hb2).trans hm1.out
                have m2 := (hbl4.out.cell (p := ⟨b, o + k * 3 + 2, none⟩) hb2).trans hm2.out
                have KT4 := Lib.hid (l4Copy_any tn ta A2 tr.length c2 B tr w4 (RdR.belowB hr2 hbl4.out hB) (Nat.le_trans hB hbl4.out.size) hn2 hrow'.out)
                go_wp2_with fail
                refine KT4.out.mono ?_
                rintro e w1 ⟨A1, c1, rfl, ho1, hb1⟩
                clear d0 d1 d2 d3 d4 x0 m0 m1 m2 KT4
                obtain ⟨xs, hrow, n2, happ⟩ := HI4.out.app (nm := tn) (ar := ta) (w1 := w1.alloc (.cells #[.string tn, .int .i64 ta, .slice A1 tr.length c1] 26)) (hb1.alloc hb1.size (.cells #[.string tn, .int .i64 ta, .slice A1 tr.length c1] 26)) (ho1.below ((Below.refl w1.heap.size w1).alloc (Nat.le_refl _) (.cells #[.string tn, .int .i64 ta, .slice A1 tr.length c1] 26)) (Nat.le_refl _)) (Nat.le_refl _) (by simp) htn
                have hnb : (w1.alloc (.cells #[.string tn, .int .i64 ta, .slice A1 tr.length c1] 26)).heap.size = w1.heap.size + 1 := by simp
                have hgn := heap_alloc_new (w1.alloc (.cells #[.string tn, .int .i64 ta, .slice A1 tr.length c1] 26)) (.cells #[.string tn, .int .i64 ta, .slice A1 tr.length c1] 26)
                have hx1 : w2.heap.size < w1.heap.size := Nat.lt_of_lt_of_le (Nat.lt_of_lt_of_le HI4.out.hxb HI4.out.size) hb1.size
                rw [hnb] at hgn happ
                have n3 : w1.cell? ⟨w2.heap.size, 0, none⟩ = some (v) := (hb1.cell (p := ⟨w2.heap.size, 0, none⟩) (Nat.lt_of_lt_of_le HI4.out.hxb HI4.out.size)).trans HI4.out.x0
                have HA := Lib.hid happ
                have HR := Lib.hid hrow
                have HGN := Lib.hid hgn
                clear happ ho1 hb1 hrow hgn n2
                go_wp2_with (at_builtin; refine wpList_append_lies _ rfl _ _ _ rfl 0 26 i1 _ 3 48 Tryz.underlying40 hi1 hz0 hz1 hz2 rfl (by omega) _ (acc).length _ rfl HR.out ⟨w1.heap.size + 1, 0, none⟩ 1 1 [.string tn, .int .i64 ta, .slice A1 tr.length c1] rfl rfl (World.news_of_block (cs := #[.string tn, .int .i64 ta, .slice A1 tr.length c1]) (t := 26) (fr := (0, 0)) HGN.out) (by simp [Value.oneCell']) (by omega) (by unfold maxLen; omega) (by omega) (Nat.zero_le _) (w1.heap.size + 1 + 1) (by simp) ?_; intro g cap w2_1 hown2 hgrow hat hlt2; obtain ⟨m2, m3, hF, hcl, hsz2⟩ := HA.out g cap w2_1 hown2 hgrow hat; have HF := Lib.hid hF; clear hown2 hgrow hat hF hcl hsz2)
                have hla : (acc ++ [(⟨tn, ta, tr⟩ : Tab)]).length ≤ 2000000001 := by rw [List.length_append]; simp; omega
                generalize w2_1.setCell ⟨w2.heap.size, 0, none⟩ (.slice (some ⟨g, 0, none⟩) (acc.length + 1) cap) = w5 at HF ⊢
                generalize (Value.slice (some ⟨g, 0, none⟩) (acc.length + 1) cap) = v5 at HF
                clear HI4 hbl4
                clear m2 m3 n3 hx1 hnb HR HGN HA
                generalize acc ++ [(⟨tn, ta, tr⟩ : Tab)] = acc2 at HF HN hla
                obtain ⟨d0, d1, d2, d3, d4, _⟩ := HF.out.kn.all
                have x0 := HF.out.x0
                have hbl5 := Lib.hid HF.out.kn.bel
                have m0 := (hbl5.out.cell (p := ⟨b, o + k * 3, none⟩) hb2).trans hm0.out
                have m1 := (hbl5.out.cell (p := ⟨b, o + k * 3 + 1, none⟩) hb2).trans hm1.out
                have m2 := (hbl5.out.cell (p := ⟨b, o + k * 3 + 2, none⟩) hb2).trans hm2.out
                go_wp2_with fail
                go_quiet (fail)
                have HI7 := Lib.hid (HF.out.drewN nq)
                generalize w5.drewN nq = w7 at HI7 ⊢
                clear d0 d1 d2 d3 d4 x0 m0 m1 m2 HF
                obtain ⟨d0, d1, d2, d3, d4, _⟩ := HI7.out.kn.all
                have x0 := HI7.out.x0
                have hbl7 := Lib.hid HI7.out.kn.bel
                have m0 := (hbl7.out.cell (p := ⟨b, o + k * 3, none⟩) hb2).trans hm0.out
                have m1 := (hbl7.out.cell (p := ⟨b, o + k * 3 + 1, none⟩) hb2).trans hm1.out
                have m2 := (hbl7.out.cell (p := ⟨b, o + k * 3 + 2, none⟩) hb2).trans hm2.out
                have KX7 := Lib.hid (l4Copy_any xn xa A' xr.length c' B xr w7 (RdR.belowB hrdx.out hbl7.out hB) (Nat.le_trans hB hbl7.out.size) hts.out.1 hts.out.2)
                go_wp2_with fail
                refine KX7.out.mono ?_
                rintro e w1 ⟨A1, c1, rfl, ho1, hb1⟩
                clear d0 d1 d2 d3 d4 x0 m0 m1 m2 KX7
                obtain ⟨xs, hrow, n2, happ⟩ := HI7.out.app (nm := xn) (ar := xa) (w1 := w1.alloc (.cells #[.string xn, .int .i64 xa, .slice A1 xr.length c1] 26)) (hb1.alloc hb1.size (.cells #[.string xn, .int .i64 xa, .slice A1 xr.length c1] 26)) (ho1.below ((Below.refl w1.heap.size w1).alloc (Nat.le_refl _) (.cells #[.string xn, .int .i64 xa, .slice A1 xr.length c1] 26)) (Nat.le_refl _)) (Nat.le_refl _) (by simp) hnm
                have hnb : (w1.alloc (.cells #[.string xn, .int .i64 xa, .slice A1 xr.length c1] 26)).heap.size = w1.heap.size + 1 := by simp
                have hgn := heap_alloc_new (w1.alloc (.cells #[.string xn, .int .i64 xa, .slice A1 xr.length c1] 26)) (.cells #[.string xn, .int .i64 xa, .slice A1 xr.length c1] 26)
                have hx1 : w2.heap.size < w1.heap.size := Nat.lt_of_lt_of_le (Nat.lt_of_lt_of_le HI7.out.hxb HI7.out.size) hb1.size
                rw [hnb] at hgn happ
                have n3 : w1.cell? ⟨w2.heap.size, 0, none⟩ = some (v5) := (hb1.cell (p := ⟨w2.heap.size, 0, none⟩) (Nat.lt_of_lt_of_le HI7.out.hxb HI7.out.size)).trans HI7.out.x0
                have HA := Lib.hid happ
                have HR := Lib.hid hrow
                have HGN := Lib.hid hgn
                clear happ ho1 hb1 hrow hgn n2
                go_wp2_with (at_builtin; refine wpList_append_lies _ rfl _ _ _ rfl 0 26 i1 _ 3 48 Tryz.underlying40 hi1 hz0 hz1 hz2 rfl (by omega) _ (acc2).length _ rfl HR.out ⟨w1.heap.size + 1, 0, none⟩ 1 1 [.string xn, .int .i64 xa, .slice A1 xr.length c1] rfl rfl (World.news_of_block (cs := #[.string xn, .int .i64 xa, .slice A1 xr.length c1]) (t := 26) (fr := (0, 0)) HGN.out) (by simp [Value.oneCell']) (by omega) (by unfold maxLen; omega) (by omega) (Nat.zero_le _) (w1.heap.size + 1 + 1) (by simp) ?_; intro g cap w2_1 hown2 hgrow hat hlt2; obtain ⟨m2, m3, hF, hcl, hsz2⟩ := HA.out g cap w2_1 hown2 hgrow hat; have HF := Lib.hid hF; clear hown2 hgrow hat hF hcl hsz2)
                refine ⟨⟨k + 1, _, by omega, by go_num, by rw [HN.out], by rw [HN.out]; exact HF⟩, ?_⟩
                simp [intOf]
                omega
        · obtain rfl : k = n := by omega
          have HT := Lib.hid (show ts.take k = ts from List.take_of_length_le (Nat.le_of_eq HL.out))
          rw [HT.out] at hinv hsl ⊢
          obtain ⟨S, hS⟩ : ∃ S, S = setS ⟨tn, ta, tr⟩ ts := ⟨_, rfl⟩
          have HS := Lib.hid hS
          rw [← hS] at hinv hsl ⊢
          clear hS d0 d1 d2 d3 d4 x0
          obtain ⟨d, acc⟩ := S
          have hsl : acc.length ≤ 2000000000 := hsl
          cases d with
          | true =>
            have HTs : Hid (setT ts ⟨tn, ta, tr⟩ = acc) := by show _ = _; rw [setT, ← HS.out]; simp
            generalize acc = Fl at hinv HTs hsl
            generalize wr = w6 at *
            obtain ⟨AF, cF, rfl⟩ := hinv.out.own.form
            have hD := hinv.out
            have hszD := hD.size
            obtain ⟨d0, d1, d2, d3, d4, _⟩ := hD.kn.all
            obtain ⟨f0, f1, f2, f3, f4, _⟩ := hD.kn.fall
            have x0 := hD.x0
            have hbelD := Lib.hid hD.kn.bel
            have hb3 := hsx.out
            have hsm7 := setT_small HV.out HVT.out
            have hvd := setT_valid HV.out HVT.out
            rw [HTs.out] at hsm7 hvd
            have KVx := Lib.hid (spec_IsValidDatabase_any AF Fl.length cF w6.heap.size Fl w6 (hD.own.rd rfl) (Nat.le_refl _) (by omega) (by omega))
            rw [hvd] at KVx
            have HD := Lib.hid hD
            clear hD hvd
            by_cases h6 : Fl.length ≤ 6
            · have hf : Hid (setR ts ⟨tn, ta, tr⟩ = (Fl, true)) := by show _ = _; rw [setR, if_pos ⟨HV.out, HVT.out, by rw [HTs.out]; exact h6⟩, HTs.out]
              rw [decide_eq_true h6] at KVx
              go_wp2_with fail
              refine KVx.out.mono ?_
              rintro e w7 ⟨rfl, b7⟩
              have HD7 := Lib.hid (HD.out.next b7)
              have hszD7 := HD7.out.size
              clear HD b7 d0 d1 d2 d3 d4 f0 f1 f2 f3 f4 x0
              obtain ⟨d0, d1, d2, d3, d4, _⟩ := HD7.out.kn.all
              obtain ⟨f0, f1, f2, f3, f4, _⟩ := HD7.out.kn.fall
              have x0 := HD7.out.x0
              go_wp2_with fail
              refine bodyPost_ret (v := .tuple #[.agg #[.slice AF Fl.length cF], .bool true]) (by simp [results, Tryz.results22, go_sem, *]) rfl (DbBool.of hf.out ?_ ?_)
              · refine OwnD.down (lo := w2.heap.size + 1) (OwnD.wide (hi := w7.heap.size) ?_ (by simp)) (by omega)
                repeat refine OwnD.setOff ?_ (by omega)
                exact HD7.out.own
              · repeat first | exact HD7.out.kn.bel | (refine Below.setCell ?_ ?_ _; rotate_left; (simp; try omega))
            · have hf : Hid (setR ts ⟨tn, ta, tr⟩ = (ts, false)) := by show _ = _; rw [setR, if_neg (by rw [HTs.out]; omega)]
              rw [decide_eq_false h6] at KVx
              go_wp2_with fail
              refine KVx.out.mono ?_
              rintro e w7 ⟨rfl, b7⟩
              have s7 := b7.size
              have kn7 := HD.out.kn.next b7
              have KP7 := Lib.hid (KP.out w7 kn7.bel)
              clear HD b7 d0 d1 d2 d3 d4 f0 f1 f2 f3 f4 x0
              obtain ⟨d0, d1, d2, d3, d4, _⟩ := kn7.all
              go_wp2_with fail
              refine KP7.out.mono ?_
              rintro e w8 ⟨Ao, co, rfl, oo, b8⟩
              have s8 := b8.size
              have kn8 := kn7.next b8
              have HO := Lib.hid oo
              clear kn7 b8 oo d0 d1 d2 d3 d4
              obtain ⟨d0, d1, d2, d3, d4, _⟩ := kn8.all
              obtain ⟨f0, f1, f2, f3, f4, _⟩ := kn8.fall
              have HF := Lib.hid kn8.bel
              clear kn8
              go_wp2_with fail
              refine bodyPost_ret (v := .tuple #[.agg #[.slice Ao ts.length co], .bool false]) (by simp [results, Tryz.results22, go_sem, *]) rfl (DbBool.of hf.out ?_ ?_)
              · refine OwnD.down (lo := w7.heap.size) (OwnD.wide (hi := w8.heap.size) ?_ (by simp)) (by omega)
                repeat refine OwnD.setOff ?_ (by omega)
                exact HO.out
              · repeat first | exact HF.out | (refine Below.setCell ?_ ?_ _; rotate_left; (simp; try omega))
          | false =>
            have HTs : Hid (setT ts ⟨tn, ta, tr⟩ = acc ++ [⟨tn, ta, tr⟩]) := by show _ = _; rw [setT, ← HS.out]; simp
            have HI0 : Hid (DInv w [(w.heap.size, 0, .slice A k c), (w.heap.size + 1, 0, .string tn), (w.heap.size + 1, 1, .int .i64 ta), (w.heap.size + 1, 2, .slice A2 tr.length c2), (w.heap.size + 2, 0, .slice none 0 0)] w2.heap.size (w2.heap.size + 1) acc v wr) := hinv
            clear hinv
            have KT4 := Lib.hid (l4Copy_any tn ta A2 tr.length c2 B tr wr (RdR.belowB hr2 hbel.out hB) (Nat.le_trans hB hbel.out.size) hn2 hrow'.out)
            obtain ⟨d0, d1, d2, d3, d4, _⟩ := HI0.out.kn.all
            have x0 := HI0.out.x0
            go_wp2_with fail
            refine KT4.out.mono ?_
            rintro e w1 ⟨A1, c1, rfl, ho1, hb1⟩
            clear d0 d1 d2 d3 d4 x0 KT4
            obtain ⟨xs, hrow, n2, happ⟩ := HI0.out.app (nm := tn) (ar := ta) (w1 := w1.alloc (.cells #[.string tn, .int .i64 ta, .slice A1 tr.length c1] 26)) (hb1.alloc hb1.size (.cells #[.string tn, .int .i64 ta, .slice A1 tr.length c1] 26)) (ho1.below ((Below.refl w1.heap.size w1).alloc (Nat.le_refl _) (.cells #[.string tn, .int .i64 ta, .slice A1 tr.length c1] 26)) (Nat.le_refl _)) (Nat.le_refl _) (by simp) htn
            have hnb : (w1.alloc (.cells #[.string tn, .int .i64 ta, .slice A1 tr.length c1] 26)).heap.size = w1.heap.size + 1 := by simp
            have hgn := heap_alloc_new (w1.alloc (.cells #[.string tn, .int .i64 ta, .slice A1 tr.length c1] 26)) (.cells #[.string tn, .int .i64 ta, .slice A1 tr.length c1] 26)
            have hx1 : w2.heap.size < w1.heap.size := Nat.lt_of_lt_of_le (Nat.lt_of_lt_of_le HI0.out.hxb HI0.out.size) hb1.size
            rw [hnb] at hgn happ
            have n3 : w1.cell? ⟨w2.heap.size, 0, none⟩ = some (v) := (hb1.cell (p := ⟨w2.heap.size, 0, none⟩) (Nat.lt_of_lt_of_le HI0.out.hxb HI0.out.size)).trans HI0.out.x0
            have HA := Lib.hid happ
            have HR := Lib.hid hrow
            have HGN := Lib.hid hgn
            clear happ ho1 hb1 hrow hgn n2
            go_wp2_with (at_builtin; refine wpList_append_lies _ rfl _ _ _ rfl 0 26 i1 _ 3 48 Tryz.underlying40 hi1 hz0 hz1 hz2 rfl (by omega) _ (acc).length _ rfl HR.out ⟨w1.heap.size + 1, 0, none⟩ 1 1 [.string tn, .int .i64 ta, .slice A1 tr.length c1] rfl rfl (World.news_of_block (cs := #[.string tn, .int .i64 ta, .slice A1 tr.length c1]) (t := 26) (fr := (0, 0)) HGN.out) (by simp [Value.oneCell']) (by omega) (by unfold maxLen; omega) (by omega) (Nat.zero_le _) (w1.heap.size + 1 + 1) (by simp) ?_; intro g cap w2_1 hown2 hgrow hat hlt2; obtain ⟨m2, m3, hF, hcl, hsz2⟩ := HA.out g cap w2_1 hown2 hgrow hat; have HF := Lib.hid hF; clear hown2 hgrow hat hF hcl hsz2)
            generalize w2_1.setCell ⟨w2.heap.size, 0, none⟩ (.slice (some ⟨g, 0, none⟩) (acc.length + 1) cap) = w6 at HF ⊢
            generalize (Value.slice (some ⟨g, 0, none⟩) (acc.length + 1) cap) = v6 at HF
            clear HI0 m2 m3 n3 hx1 hnb HR HGN HA
            generalize acc ++ [(⟨tn, ta, tr⟩ : Tab)] = Fl at HF HTs
            obtain ⟨AF, cF, rfl⟩ := HF.out.own.form
            have hD := HF.out
            have hszD := hD.size
            obtain ⟨d0, d1, d2, d3, d4, _⟩ := hD.kn.all
            obtain ⟨f0, f1, f2, f3, f4, _⟩ := hD.kn.fall
            have x0 := hD.x0
            have hbelD := Lib.hid hD.kn.bel
            have hb3 := hsx.out
            have hsm7 := setT_small HV.out HVT.out
            have hvd := setT_valid HV.out HVT.out
            rw [HTs.out] at hsm7 hvd
            have KVx := Lib.hid (spec_IsValidDatabase_any AF Fl.length cF w6.heap.size Fl w6 (hD.own.rd rfl) (Nat.le_refl _) (by omega) (by omega))
            rw [hvd] at KVx
            have HD := Lib.hid hD
            clear hD hvd
            by_cases h6 : Fl.length ≤ 6
            · have hf : Hid (setR ts ⟨tn, ta, tr⟩ = (Fl, true)) := by show _ = _; rw [setR, if_pos ⟨HV.out, HVT.out, by rw [HTs.out]; exact h6⟩, HTs.out]
              rw [decide_eq_true h6] at KVx
              go_wp2_with fail
              refine KVx.out.mono ?_
              rintro e w7 ⟨rfl, b7⟩
              have HD7 := Lib.hid (HD.out.next b7)
              have hszD7 := HD7.out.size
              clear HD b7 d0 d1 d2 d3 d4 f0 f1 f2 f3 f4 x0
              obtain ⟨d0, d1, d2, d3, d4, _⟩ := HD7.out.kn.all
              obtain ⟨f0, f1, f2, f3, f4, _⟩ := HD7.out.kn.fall
              have x0 := HD7.out.x0
              go_wp2_with fail
              refine bodyPost_ret (v := .tuple #[.agg #[.slice AF Fl.length cF], .bool true]) (by simp [results, Tryz.results22, go_sem, *]) rfl (DbBool.of hf.out ?_ ?_)
              · refine OwnD.down (lo := w2.heap.size + 1) (OwnD.wide (hi := w7.heap.size) ?_ (by simp)) (by omega)
                repeat refine OwnD.setOff ?_ (by omega)
                exact HD7.out.own
              · repeat first | exact HD7.out.kn.bel | (refine Below.setCell ?_ ?_ _; rotate_left; (simp; try omega))
            · have hf : Hid (setR ts ⟨tn, ta, tr⟩ = (ts, false)) := by show _ = _; rw [setR, if_neg (by rw [HTs.out]; omega)]
              rw [decide_eq_false h6] at KVx
              go_wp2_with fail
              refine KVx.out.mono ?_
              rintro e w7 ⟨rfl, b7⟩
              have s7 := b7.size
              have kn7 := HD.out.kn.next b7
              have KP7 := Lib.hid (KP.out w7 kn7.bel)
              clear HD b7 d0 d1 d2 d3 d4 f0 f1 f2 f3 f4 x0
              obtain ⟨d0, d1, d2, d3, d4, _⟩ := kn7.all
              go_wp2_with fail
              refine KP7.out.mono ?_
              rintro e w8 ⟨Ao, co, rfl, oo, b8⟩
              have s8 := b8.size
              have kn8 := kn7.next b8
              have HO := Lib.hid oo
              clear kn7 b8 oo d0 d1 d2 d3 d4
              obtain ⟨d0, d1, d2, d3, d4, _⟩ := kn8.all
              obtain ⟨f0, f1, f2, f3, f4, _⟩ := kn8.fall
              have HF := Lib.hid kn8.bel
              clear kn8
              go_wp2_with fail
              refine bodyPost_ret (v := .tuple #[.agg #[.slice Ao ts.length co], .bool false]) (by simp [results, Tryz.results22, go_sem, *]) rfl (DbBool.of hf.out ?_ ?_)
              · refine OwnD.down (lo := w7.heap.size) (OwnD.wide (hi := w8.heap.size) ?_ (by simp)) (by omega)
                repeat refine OwnD.setOff ?_ (by omega)
                exact HO.out
              · repeat first | exact HF.out | (refine Below.setCell ?_ ?_ _; rotate_left; (simp; try omega))

end

section
open Go.RowKit Go.Deep

theorem zero_tabs : ∀ n, (Builtin.zeroCells #[.string { data := #[] }, .int .i64 0, .slice none 0 0] n).toList = (List.replicate n [.string { data := #[] }, .int .i64 0, (.slice none 0 0 : Value)]).flatten
  | 0 => by simp [Builtin.zeroCells]
  | n + 1 => by
    have ih := zero_tabs n
    unfold Builtin.zeroCells at ih ⊢
    simp only [Array.toList_map, Array.toList_range, List.size_toArray, List.length_cons, List.length_nil] at ih ⊢
    have m0 : n * 3 % 3 = 0 := by omega
    have m1 : (n * 3 + 1) % 3 = 1 := by omega
    have m2 : (n * 3 + 1 + 1) % 3 = 2 := by omega
    rw [show (n + 1) * (0 + 1 + 1 + 1) = n * 3 + 1 + 1 + 1 from by omega, List.range_succ, List.range_succ, List.range_succ, List.map_append, List.map_append, List.map_append, show n * 3 = n * (0 + 1 + 1 + 1) from by omega, ih, List.replicate_succ', List.flatten_append]
    rw [show n * (0 + 1 + 1 + 1) = n * 3 from by omega]
    simp [m0, m1, m2]

theorem run_clear_tabs (w : World) (ty : TypeId) (b o n c : Nat) (hn : 0 < n) (hc : ∀ j, j < n * 3 → (w.cell? ⟨b, o + j, none⟩).isSome = true) (hf : ∀ j, j < n * 3 → w.frozen? ⟨b, o + j, none⟩ = false) :
    (Builtin.clear_ #[40] ty #[.slice (some ⟨b, o, none⟩) n c]).run Tryz.prog w = .ok (.tuple #[]) (w.setCells b o (List.replicate n [.string { data := #[] }, .int .i64 0, (.slice none 0 0 : Value)]).flatten) := by
  have hv : ∀ w, (zeroValue 26).run Tryz.prog w = .ok (.agg #[.string { data := #[] }, .int .i64 0, .slice none 0 0]) w := fun w => by kernel_rfl
  have hl : (List.replicate n [.string { data := #[] }, .int .i64 0, (.slice none 0 0 : Value)]).flatten.length = n * 3 := by
    rw [List.length_flatten, List.map_replicate]
    simp
  have hst := run_storeCells_cells (P := Tryz.prog) b o (List.replicate n [.string { data := #[] }, .int .i64 0, (.slice none 0 0 : Value)]).flatten 0 w (by simpa [hl] using hc) (by simpa [hl] using hf) (by
    intro v hv'
    obtain ⟨l, h1, h2⟩ := List.mem_flatten.1 hv'
    rw [List.eq_of_mem_replicate h1] at h2
    simp at h2
    rcases h2 with rfl | rfl | rfl <;> rfl)
  simp only [Nat.add_zero] at hst
  rw [← zero_tabs] at hst ⊢
  obtain ⟨m, rfl⟩ : ∃ m, n = m + 1 := ⟨n - 1, by omega⟩
  simp [Builtin.clear_, run_underlying Tryz.underlying40, hv, Value.cells, hst]

theorem flat_set3 {α : Type} {ts : List (Item α)} (hl : ∀ t ∈ ts, t.cs.length = 3) {j : Nat} {s : Item α} {a b c : Value} (hs : s.cs = [a, b, c]) (hj : j < ts.length) :
    (((ts.flatMap (·.cs)).set (j * 3) a).set (j * 3 + 1) b).set (j * 3 + 2) c = (ts.set j s).flatMap (·.cs) := by
  have hg : ts[j]? = some ts[j] := List.getElem?_eq_getElem hj
  have hm := hl ts[j] (List.getElem_mem hj)
  have st : ∀ (l : List (Item α)) (x : Item α), (∀ t ∈ l, t.cs.length = 3) → x.cs.length = 3 → ∀ t ∈ l.set j x, t.cs.length = 3 := fun l x h1 h2 t ht => by
    rcases List.mem_or_eq_of_mem_set ht with h | h
    · exact h1 t h
    · rw [h]; exact h2
  have e0 := flat_set (size := 3) a s.F s.a ts hl j 0 _ hg (by omega)
  rw [Nat.add_zero] at e0
  rw [e0]
  have l1 := st ts ⟨ts[j].cs.set 0 a, s.F, s.a⟩ hl (by simp [hm])
  rw [flat_set (size := 3) b s.F s.a _ l1 j 1 ⟨ts[j].cs.set 0 a, s.F, s.a⟩ (List.getElem?_set_self hj) (by omega), List.set_set]
  have l2 := st ts ⟨(ts[j].cs.set 0 a).set 1 b, s.F, s.a⟩ hl (by simp [hm])
  rw [flat_set (size := 3) c s.F s.a _ l2 j 2 ⟨(ts[j].cs.set 0 a).set 1 b, s.F, s.a⟩ (List.getElem?_set_self hj) (by omega), List.set_set]
  congr 2
  obtain ⟨cs, F, x⟩ := s
  simp only at hs ⊢
  congr 1
  match hq : ts[j].cs, hm with
  | [x0, x1, x2], _ => rw [hs]; rfl

theorem ownsRow_cut {w : World} {base : Nat} {e : TypeId} {size n m c : Nat} {A : Option Addr} {xs : List Value} (h : w.ownsRow base e size (.slice A n c) n xs) (hm : m ≤ n) (h0 : 0 < n) : w.ownsRow base e size (.slice A m c) m (xs.take (m * size)) := by
  have hle : m * size ≤ n * size := Nat.mul_le_mul_right _ hm
  rcases h.2 with ⟨_, hn⟩ | ⟨g, cap, cur, hv, hlo, hg, hnc, hcm, hsz, ht⟩
  · omega
  · injection hv with h1 _ h3
    subst h1 h3
    refine ⟨by rw [List.length_take, h.1]; omega, .inr ⟨g, c, cur, rfl, hlo, hg, by omega, hcm, hsz, ?_⟩⟩
    rw [← ht, List.take_take, Nat.min_eq_left hle]

theorem ownsRow_setCells {base g c : Nat} {e : TypeId} {size n : Nat} : ∀ (vs : List Value) (o : Nat) (w : World) (xs : List Value), w.ownsRow base e size (.slice (some ⟨g, 0, none⟩) n c) n xs → o + vs.length ≤ n * size →
    ∃ xs', (w.setCells g o vs).ownsRow base e size (.slice (some ⟨g, 0, none⟩) n c) n xs' ∧ xs'.take o = xs.take o
  | [], o, w, xs, h, _ => ⟨xs, h, rfl⟩
  | v :: vs, o, w, xs, h, hl => by
    rw [List.length_cons] at hl
    obtain ⟨g', c', hv, _, _, _, _, h1⟩ := ownsRow_set h (i := o) (by omega) v
    injection hv with hv _ _
    injection hv with hv
    injection hv with hv
    subst hv
    obtain ⟨xs', h2, h3⟩ := ownsRow_setCells vs (o + 1) _ _ h1 (by omega)
    refine ⟨xs', h2, ?_⟩
    have := congrArg (List.take o) h3
    rw [List.take_take, List.take_take, Nat.min_eq_left (by omega), List.take_set_of_le (by omega)] at this
    exact this

theorem OwnT.reorder2 {α : Type} {e : TypeId} {size : Nat} {E : World → (Nat → Prop) → List Value → α → Prop} {w w' : World} {F : Nat → Prop} {v v' : Value} {ts ts' : List (Item α)} (ok : OwnOk E) (h : OwnT e size E w F v ts) (hsub : ts'.Sublist ts)
    (hrow : w'.ownsRow 0 e size v' ts'.length (ts'.flatMap (·.cs))) (hv : ∀ g, v'.ownBlock = some g → v.ownBlock = some g) (hs : w.heap.size ≤ w'.heap.size)
    (hk : ∀ k, k < w.heap.size → v.ownBlock ≠ some k → w'.heap[k]? = w.heap[k]?) : OwnT e size E w' F v' ts' :=
  ⟨hrow, fun t ht => h.len t (hsub.subset ht), fun t ht => ok.keep (h.elem t (hsub.subset ht)) fun k hf => hk k (ok.bound (h.elem t (hsub.subset ht)) k hf) fun hvk => (h.head k hvk).2 t (hsub.subset ht) hf, h.apart.sublist hsub,
    fun g hg => ⟨(h.head g (hv g hg)).1, fun t ht => (h.head g (hv g hg)).2 t (hsub.subset ht)⟩, fun t ht => h.inF t (hsub.subset ht), fun k hf => Nat.lt_of_lt_of_le (h.bound k hf) hs⟩

/-- The items that stay, and the row behind so many rounds. -/
def ft (nm : ByteArray) (ts : List (Item Tab)) : List (Item Tab) := ts.filter fun t => decide (¬ t.a.nm = nm)

def kept (nm : ByteArray) (ts : List (Item Tab)) (j : Nat) : List (Item Tab) := ft nm (ts.take j) ++ ts.drop (ft nm (ts.take j)).length

theorem ft_len (nm : ByteArray) (ts : List (Item Tab)) (j : Nat) : (ft nm (ts.take j)).length ≤ j := Nat.le_trans (List.length_filter_le _ _) (by rw [List.length_take]; omega)

theorem ft_step {nm : ByteArray} {ts : List (Item Tab)} {j : Nat} {t : Item Tab} (h : ts[j]? = some t) : ft nm (ts.take (j + 1)) = ft nm (ts.take j) ++ if t.a.nm = nm then [] else [t] := by
  unfold ft
  rw [List.take_add_one, h, List.filter_append]
  by_cases he : t.a.nm = nm <;> simp [he]

theorem kept_len {nm : ByteArray} {ts : List (Item Tab)} {j : Nat} (hj : j ≤ ts.length) : (kept nm ts j).length = ts.length := by
  have := ft_len nm ts j
  rw [kept, List.length_append, List.length_drop]
  omega

theorem kept_mem {nm : ByteArray} {ts : List (Item Tab)} {j : Nat} {t : Item Tab} (h : t ∈ kept nm ts j) : t ∈ ts := by
  rcases List.mem_append.1 h with h | h
  · exact List.take_subset _ _ (List.mem_filter.1 h).1
  · exact List.drop_subset _ _ h

theorem kept_at {nm : ByteArray} {ts : List (Item Tab)} {j : Nat} : (kept nm ts j)[j]? = ts[j]? := by
  have := ft_len nm ts j
  rw [kept, List.getElem?_append_right this, List.getElem?_drop]
  congr 1
  omega

theorem kept_skip {nm : ByteArray} {ts : List (Item Tab)} {j : Nat} {t : Item Tab} (h : ts[j]? = some t) (he : t.a.nm = nm) : kept nm ts (j + 1) = kept nm ts j := by
  rw [kept, kept, ft_step h, if_pos he, List.append_nil]

theorem kept_keep {nm : ByteArray} {ts : List (Item Tab)} {j : Nat} {t : Item Tab} (h : ts[j]? = some t) (he : ¬ t.a.nm = nm) : kept nm ts (j + 1) = (kept nm ts j).set (ft nm (ts.take j)).length t := by
  have h1 := ft_len nm ts j
  have h2 := (List.getElem?_eq_some_iff.1 h).1
  rw [kept, kept, ft_step h, if_neg he, List.length_append, List.length_singleton, List.set_append_right _ _ (Nat.le_refl _), Nat.sub_self, List.drop_eq_getElem_cons (show (ft nm (ts.take j)).length < ts.length by omega), List.set_cons_zero, List.append_assoc, List.singleton_append]

theorem kept_end {nm : ByteArray} {ts : List (Item Tab)} : (kept nm ts ts.length).take (ft nm ts).length = ft nm ts := by
  rw [kept, List.take_length]
  simp

theorem ft_map (nm : ByteArray) (ts : List (Item Tab)) : (ft nm ts).map (·.a) = (ts.map (·.a)).filter fun t => decide (¬ t.nm = nm) := by
  rw [ft, List.filter_map]
  rfl

theorem flat_take {α : Type} {size : Nat} : ∀ (ts : List (Item α)) (m : Nat), (∀ t ∈ ts, t.cs.length = size) → (ts.flatMap (·.cs)).take (m * size) = (ts.take m).flatMap (·.cs)
  | [], m, _ => by simp
  | t :: ts, 0, _ => by simp
  | t :: ts, m + 1, h => by
    have h1 := h t (by simp)
    rw [List.flatMap_cons, List.take_succ_cons, List.flatMap_cons, Nat.succ_mul, List.take_append, List.take_of_length_le (by omega), h1, Nat.add_sub_cancel, flat_take ts m fun x hx => h x (by simp [hx])]

end

section
open Go.RowKit Go.Deep

theorem ownsRow_cap {w : World} {base : Nat} {e : TypeId} {size n c : Nat} {A : Option Addr} {xs : List Value} (h : w.ownsRow base e size (.slice A n c) n xs) : c ≤ maxLen := by
  rcases h.2 with ⟨hv, _⟩ | ⟨g, cap, cur, hv, _, _, _, hcm, _⟩
  · injection hv with _ _ h3
    subst h3
    exact Nat.zero_le _
  · injection hv with _ _ h3
    subst h3
    exact hcm

/-- All but block g is as it was; blocks may have come. -/
structure Oth (g : Nat) (w W : World) : Prop where
  os : W.os = w.os
  tape : W.tape = w.tape
  output : W.output = w.output
  size : w.heap.size ≤ W.heap.size
  block : ∀ k, k < w.heap.size → k ≠ g → W.heap[k]? = w.heap[k]?

theorem Oth.refl (g : Nat) (w : World) : Oth g w w := ⟨rfl, rfl, rfl, Nat.le_refl _, fun _ _ _ => rfl⟩

theorem Oth.below {g : Nat} {w W W' : World} (h : Oth g w W) (b : Below W.heap.size W W') : Oth g w W' :=
  ⟨b.os.trans h.os, b.tape.trans h.tape, b.output.trans h.output, Nat.le_trans h.size b.size, fun k hk hn => (b.block k (Nat.lt_of_lt_of_le hk h.size)).trans (h.block k hk hn)⟩

theorem Oth.set_ {g i : Nat} {w W : World} {x : Value} (h : Oth g w W) : Oth g w (W.setCell ⟨g, i, none⟩ x) :=
  ⟨h.os, h.tape, h.output, by simpa [World.setCell] using h.size, fun k hk hn => (Below.heap_setCell W _ _ k hn).trans (h.block k hk hn)⟩

theorem Oth.setCells {g o : Nat} {w W : World} {vs : List Value} (h : Oth g w W) : Oth g w (W.setCells g o vs) := by
  induction vs generalizing o W with
  | nil => exact h
  | cons v vs ih => exact ih h.set_

theorem Oth.cell {g b i : Nat} {w W : World} (h : Oth g w W) (hb : b < w.heap.size) (hn : b ≠ g) : W.cell? ⟨b, i, none⟩ = w.cell? ⟨b, i, none⟩ := World.cell?_of_block (h.block b hb hn)

set_option maxRecDepth 100000 in
set_option maxHeartbeats 4000000 in
theorem deleteFuncT_any (A : Option Addr) (n c lo hi b : Nat) (ts0 : List Tab) (nm' : ByteArray) (w : World) (ho : OwnD w lo hi (.slice A n c) ts0) (hcell : w.cell? ⟨b, 0, none⟩ = some (.string nm')) (hb : b < w.heap.size) (hbo : b < lo ∨ hi ≤ b) (hhi : hi ≤ w.heap.size) (hn : n ≤ 1000000000) :
    Calls Tryz.prog 67 #[.slice A n c, .func (.func 68) #[] #[.pointer (some ⟨b, 0, none⟩)]] w fun e w' =>
      ∃ m, e = .returned (.slice A m c) ∧ OwnD w' lo hi (.slice A m c) (ts0.filter fun t => decide (¬ t.nm = nm')) ∧ Chg lo hi w w' := by
  have hlen := ho.len_eq
  have KI := Lib.hid (indexFuncRem_any A n c b hi ts0 nm' w hcell hb (ho.rd hlen) hhi hn)
  rcases noN_or ts0 nm' n with hno | ⟨k0, t0, hx0, ht0, hno⟩
  · have hf : Hid (ts0.filter (fun t => decide (¬ t.nm = nm')) = ts0) := by
      show _ = _
      rw [List.filter_eq_self]
      intro x hx
      simpa using hno.all (by omega) x hx
    rw [idxN_none hno (by omega)] at KI
    have HO := Lib.hid ho
    clear ho hno hcell
    go_enter Tryz.func67, Tryz.ntmps67
    go_wp2_with fail
    refine KI.out.mono ?_
    rintro e w1 ⟨rfl, b1⟩
    have HB := Lib.hid b1
    clear b1
    go_wp2_with fail
    go_ret
    exact ⟨n, rfl, by rw [hf.out]; exact HO.out.below HB.out hhi, ⟨HB.out.os, HB.out.tape, HB.out.output, HB.out.size, fun k hk _ => HB.out.block k hk⟩⟩
  · have hk0 : k0 < n := by have := (List.getElem?_eq_some_iff.1 hx0).1; omega
    rw [idxN_at hx0 ht0 hno] at KI
    obtain ⟨F, ⟨ts, hmap, hT⟩, hF⟩ := ho
    have htl : ts.length = n := by rw [← hlen, hmap, List.length_map]
    have hrow := hT.row
    rw [htl] at hrow
    obtain ⟨g, cc, hv, _, hglt, _, _⟩ := ownsRow_cell hrow (i := 0) (by omega)
    injection hv with hA _ hcc
    subst hA hcc
    have hgF := hT.head g rfl
    have hgb := hF g hgF.1
    have hcap : n ≤ c := by
      rcases hrow.2 with ⟨hv, _⟩ | ⟨g', cap, cur, hv, _, _, hnc, hcm, _⟩
      · cases hv
      · injection hv with _ _ h3
        subst h3
        exact hnc
    have hcm := ownsRow_cap hrow
    have hbg : b ≠ g := by omega
    have HT := Lib.hid hT
    have HM := Lib.hid hmap
    have HTL := Lib.hid htl
    have HC := Lib.hid hcell
    have hel : Hid (∀ t ∈ ts, ∃ A1 c1, t.cs = [.string t.a.nm, .int .i64 t.a.ar, .slice A1 t.a.rs.length c1]) := fun t ht => by
      obtain ⟨A1, c1, _, _, h1, _⟩ := hT.elem t ht
      exact ⟨A1, c1, h1⟩
    have HR0 := Lib.hid hrow
    have hstart : Hid (ft nm' (ts.take (k0 + 1)) = ts.take k0) := by
      show _ = _
      obtain ⟨i0, h1⟩ : ∃ i0, ts[k0]? = some i0 := ⟨_, List.getElem?_eq_getElem (by omega)⟩
      have h2 : ts0[k0]? = some i0.a := by rw [hmap, List.getElem?_map, h1]; rfl
      rw [hx0] at h2
      injection h2 with h2
      rw [ft_step h1, if_pos (by rw [← h2]; exact ht0), List.append_nil, ft, List.filter_eq_self]
      intro x hx
      obtain ⟨j, hj⟩ := List.mem_iff_getElem?.1 hx
      have hjk : j < k0 := by
        have := (List.getElem?_eq_some_iff.1 hj).1
        rw [List.length_take] at this
        omega
      rw [List.getElem?_take, if_pos hjk] at hj
      have := hno j x.a hjk (by rw [hmap, List.getElem?_map, hj]; rfl)
      exact decide_eq_true this
    clear hT hmap htl hcell hrow hx0 ht0 hno
    go_enter Tryz.func67, Tryz.ntmps67
    go_wp2_with fail
    refine KI.out.mono ?_
    rintro e w1 ⟨rfl, b1⟩
    have h1b : ((k0 : Int) == -1) = false := by simp
    have HB1 := Lib.hid b1
    clear b1 KI
    go_wp2_with fail
    go_loopw [5, 6, 7] (fun i j _ wr => ∃ (m k : Nat), i = .int .i64 (m : Int) ∧ j = .int .i64 (((k + 1 : Nat) : Int)) ∧ k0 ≤ k ∧ k + 1 ≤ n ∧ m ≤ k ∧ Hid ((ft nm' (ts.take (k + 1))).length = m) ∧ Hid (wr.ownsRow 0 26 3 (.slice (some ⟨g, 0, none⟩) n c) n ((kept nm' ts (k + 1)).flatMap (·.cs))) ∧ Hid (Oth g w wr)) (fun _ j _ _ => n - (intOf j).toNat)
    case atStart =>
      refine ⟨k0, k0, rfl, by go_num, by omega, by omega, by omega, by show _ = _; rw [hstart.out, List.length_take]; have := HTL.out; omega, ?_, (Oth.refl g w).below HB1.out⟩
      show World.ownsRow _ _ _ _ _ _ _
      have e1 : kept nm' ts (k0 + 1) = ts := by
        rw [kept, hstart.out, List.length_take, Nat.min_eq_left (by have := HTL.out; omega), List.take_append_drop]
      rw [e1]
      exact ownsRow_keep HR0.out fun g' hg' => HB1.out.block g' (by have := HR0.out.lt g' hg'; omega)
    case round =>
      obtain ⟨m, k, rfl, rfl, hk0k, hkn, hmk, hm, hrow, hoth⟩ := hrel
      have hsz := hoth.out.size
      have hkl : (kept nm' ts (k + 1)).length = n := by rw [kept_len (by rw [HTL.out]; omega), HTL.out]
      have hkc : ∀ t ∈ kept nm' ts (k + 1), t.cs.length = 3 := fun t ht => HT.out.len t (kept_mem ht)
      by_cases hlt : k + 1 < n
      · have hj : ts[k + 1]? = some (ts[k + 1]'(by rw [HTL.out]; exact hlt)) := List.getElem?_eq_getElem _
        generalize ts[k + 1]'(by rw [HTL.out]; exact hlt) = t at hj
        obtain ⟨A1, c1, hcs⟩ := hel.out t (List.mem_of_getElem? hj)
        have hget : ∀ i x, t.cs[i]? = some x → i < 3 → wr.cell? ⟨g, (k + 1) * 3 + i, none⟩ = some x ∧ wr.frozen? ⟨g, (k + 1) * 3 + i, none⟩ = false := fun i x hx hi => by
          obtain ⟨g', c', hv, _, _, h2, h3⟩ := ownsRow_cell hrow.out (i := (k + 1) * 3 + i) (by omega)
          injection hv with hv _ _
          injection hv with hv
          injection hv with hv
          subst hv
          exact ⟨h2.trans ((flat_get _ hkc (k + 1) i t (kept_at.trans hj) hi).trans hx), h3⟩
        have d0 := (hget 0 _ (by rw [hcs]; rfl) (by omega)).1
        have d1 := (hget 1 _ (by rw [hcs]; rfl) (by omega)).1
        have d2 := (hget 2 _ (by rw [hcs]; rfl) (by omega)).1
        rw [Nat.add_zero] at d0
        have hO : (.cells #[.string t.a.nm, .int .i64 t.a.ar, .slice A1 t.a.rs.length c1] 26 : Obj) = .cells #[.string t.a.nm, .int .i64 t.a.ar, .slice A1 t.a.rs.length c1] 26 := rfl
        have hW := Lib.hid ((Below.refl wr.heap.size wr).alloc (Nat.le_refl _) (.cells #[.string t.a.nm, .int .i64 t.a.ar, .slice A1 t.a.rs.length c1] 26))
        have KP := Lib.hid (predRem_any t.a.nm nm' t.a.ar A1 t.a.rs.length c1 b (wr.alloc (.cells #[.string t.a.nm, .int .i64 t.a.ar, .slice A1 t.a.rs.length c1] 26)) ((hW.out.cell (p := ⟨b, 0, none⟩) (by show b < _; omega)).trans ((hoth.out.cell hb hbg).trans HC.out)))
        have e0 : (wr.alloc (.cells #[.string t.a.nm, .int .i64 t.a.ar, .slice A1 t.a.rs.length c1] 26)).cell? ⟨wr.heap.size, 0, none⟩ = some (.string t.a.nm) := by simp [go_sem]
        have e1 : (wr.alloc (.cells #[.string t.a.nm, .int .i64 t.a.ar, .slice A1 t.a.rs.length c1] 26)).cell? ⟨wr.heap.size, 1, none⟩ = some (.int .i64 t.a.ar) := by simp [go_sem]
        have e2 : (wr.alloc (.cells #[.string t.a.nm, .int .i64 t.a.ar, .slice A1 t.a.rs.length c1] 26)).cell? ⟨wr.heap.size, 2, none⟩ = some (.slice A1 t.a.rs.length c1) := by simp [go_sem]
        have hwl : wr.heap.size < (wr.alloc (.cells #[.string t.a.nm, .int .i64 t.a.ar, .slice A1 t.a.rs.length c1] 26)).heap.size := by simp
        have hgm : ∀ i, i < 3 → (wr.cell? ⟨g, m * 3 + i, none⟩).isSome = true ∧ wr.frozen? ⟨g, m * 3 + i, none⟩ = false := fun i hi => by
          obtain ⟨g', c', hv, _, _, h2, h3⟩ := ownsRow_cell hrow.out (i := m * 3 + i) (by omega)
          injection hv with hv _ _
          injection hv with hv
          injection hv with hv
          subst hv
          refine ⟨?_, h3⟩
          rw [h2, List.getElem?_eq_getElem (by rw [flat_len _ hkc, hkl]; omega)]
          rfl
        have hgw : g < wr.heap.size := by omega
        have g7 : (0 : Int) ≤ (m : Int) := by omega
        have g8 : (m : Int) < (n : Int) := by omega
        have g9 : (m : Int).toNat = m := by omega
        by_cases he : t.a.nm = nm'
        · have hks : Hid (kept nm' ts (k + 1 + 1) = kept nm' ts (k + 1)) := kept_skip hj he
          have hms : Hid ((ft nm' (ts.take (k + 1 + 1))).length = m) := by show _ = _; rw [ft_step hj, if_pos he, List.append_nil]; exact hm.out
          rw [decide_eq_true he] at KP
          clear he hj hget hgm hcs hkc hkl
          generalize t.a.nm = tn, t.a.ar = ta, t.a.rs = tr at *
          go_wp2_with fail
          refine KP.out.mono ?_
          rintro e w3 ⟨rfl, b3⟩
          have HO := Lib.hid ((hoth.out.below hW.out).below b3)
          have HR : Hid (w3.ownsRow 0 26 3 (.slice (some ⟨g, 0, none⟩) n c) n ((kept nm' ts (k + 1)).flatMap (·.cs))) := ownsRow_keep hrow.out fun g' hg' => by
            have := hrow.out.lt g' hg'
            exact (b3.block g' (by simp; omega)).trans (hW.out.block g' this.2)
          clear b3
          go_wp2_with fail
          refine ⟨⟨m, k + 1, rfl, by go_num, by omega, by omega, by omega, hms, by rw [hks.out]; exact HR, HO⟩, ?_⟩
          simp [intOf]
          omega
        · have hks : Hid (kept nm' ts (k + 1 + 1) = (kept nm' ts (k + 1)).set m t) := by have := kept_keep hj he; rw [hm.out] at this; exact this
          have hms : Hid ((ft nm' (ts.take (k + 1 + 1))).length = m + 1) := by show _ = _; rw [ft_step hj, if_neg he, List.length_append, hm.out]; rfl
          have hfs := Lib.hid (flat_set3 hkc hcs (j := m) (by rw [hkl]; omega))
          rw [decide_eq_false he] at KP
          obtain ⟨x0, hx0⟩ := Option.isSome_iff_exists.1 (hgm 0 (by omega)).1
          obtain ⟨x1, hx1⟩ := Option.isSome_iff_exists.1 (hgm 1 (by omega)).1
          obtain ⟨x2, hx2⟩ := Option.isSome_iff_exists.1 (hgm 2 (by omega)).1
          have f0 := (hgm 0 (by omega)).2
          have f1 := (hgm 1 (by omega)).2
          have f2 := (hgm 2 (by omega)).2
          rw [Nat.add_zero] at hx0 f0
          clear he hj hget hgm hcs hkc hkl
          generalize t.a.nm = tn, t.a.ar = ta, t.a.rs = tr at *
          go_wp2_with fail
          refine KP.out.mono ?_
          rintro e w3 ⟨rfl, b3⟩
          have hB := hW.out.trans (b3.mono hW.out.size)
          have HO := Lib.hid ((hoth.out.below hW.out).below b3)
          have HR : Hid (w3.ownsRow 0 26 3 (.slice (some ⟨g, 0, none⟩) n c) n ((kept nm' ts (k + 1)).flatMap (·.cs))) := ownsRow_keep hrow.out fun g' hg' => hB.block g' (hrow.out.lt g' hg').2
          have y0 := (hB.cell (p := ⟨g, m * 3, none⟩) hgw).trans hx0
          have y1 := (hB.cell (p := ⟨g, m * 3 + 1, none⟩) hgw).trans hx1
          have y2 := (hB.cell (p := ⟨g, m * 3 + 2, none⟩) hgw).trans hx2
          have z0 := (hB.frozen (p := ⟨g, m * 3, none⟩) hgw).trans f0
          have z1 := (hB.frozen (p := ⟨g, m * 3 + 1, none⟩) hgw).trans f1
          have z2 := (hB.frozen (p := ⟨g, m * 3 + 2, none⟩) hgw).trans f2
          have u0 := (b3.cell (p := ⟨wr.heap.size, 0, none⟩) hwl).trans e0
          have u1 := (b3.cell (p := ⟨wr.heap.size, 1, none⟩) hwl).trans e1
          have u2 := (b3.cell (p := ⟨wr.heap.size, 2, none⟩) hwl).trans e2
          have HS : Hid ((((w3.setCell ⟨g, m * 3, none⟩ (.string tn)).setCell ⟨g, m * 3 + 1, none⟩ (.int .i64 ta)).setCell ⟨g, m * 3 + 2, none⟩ (.slice A1 tr.length c1)).ownsRow 0 26 3 (.slice (some ⟨g, 0, none⟩) n c) n ((kept nm' ts (k + 1 + 1)).flatMap (·.cs))) := by
            show World.ownsRow _ _ _ _ _ _ _
            rw [hks.out, ← hfs.out]
            have st : ∀ (W : World) (xs : List Value) (i : Nat) (x : Value), W.ownsRow 0 26 3 (.slice (some ⟨g, 0, none⟩) n c) n xs → i < n * 3 → (W.setCell ⟨g, i, none⟩ x).ownsRow 0 26 3 (.slice (some ⟨g, 0, none⟩) n c) n (xs.set i x) := fun W xs i x h hi => by
              obtain ⟨g', c', hv, _, _, _, _, h4⟩ := ownsRow_set h hi x
              injection hv with hv _ _
              injection hv with hv
              injection hv with hv
              subst hv
              exact h4
            exact st _ _ _ _ (st _ _ _ _ (st _ _ _ _ HR.out (by omega)) (by omega)) (by omega)
          have HOS := Lib.hid (((HO.out.set_ (i := m * 3) (x := .string tn)).set_ (i := m * 3 + 1) (x := .int .i64 ta)).set_ (i := m * 3 + 2) (x := .slice A1 tr.length c1))
          clear b3 hB hx0 hx1 hx2 f0 f1 f2 e0 e1 e2 d0 d1 d2
          go_wp2_with fail
          refine ⟨⟨m + 1, k + 1, by go_num, by go_num, by omega, by omega, by omega, hms, HS, HOS⟩, ?_⟩
          simp [intOf]
          omega
      · obtain rfl : k + 1 = n := by omega
        have hmn : m < k + 1 := by omega
        have hct : ∀ j, j < (k + 1 - m) * 3 → (wr.cell? ⟨g, m * 3 + j, none⟩).isSome = true ∧ wr.frozen? ⟨g, m * 3 + j, none⟩ = false := fun j hj => by
          obtain ⟨g', c', hv, _, _, h2, h3⟩ := ownsRow_cell hrow.out (i := m * 3 + j) (by omega)
          injection hv with hv _ _
          injection hv with hv
          injection hv with hv
          subst hv
          refine ⟨?_, h3⟩
          rw [h2, List.getElem?_eq_getElem (by rw [flat_len _ hkc, hkl]; omega)]
          rfl
        have hcl : ∀ ty, (Builtin.clear_ #[40] ty #[.slice (some ⟨g, m * 3, none⟩) (k + 1 - m) (c - m)]).run Tryz.prog wr = .ok (.tuple #[]) (wr.setCells g (m * 3) (List.replicate (k + 1 - m) [.string { data := #[] }, .int .i64 0, (.slice none 0 0 : Value)]).flatten) := fun ty =>
          run_clear_tabs wr ty g (m * 3) (k + 1 - m) (c - m) (by omega) (fun j hj => (hct j hj).1) (fun j hj => (hct j hj).2)
        have hzl : (List.replicate (k + 1 - m) [.string { data := #[] }, .int .i64 0, (.slice none 0 0 : Value)]).flatten.length = (k + 1 - m) * 3 := by
          rw [List.length_flatten, List.map_replicate]
          simp
        obtain ⟨xs', hx1, hx2⟩ := ownsRow_setCells (List.replicate (k + 1 - m) [.string { data := #[] }, .int .i64 0, (.slice none 0 0 : Value)]).flatten (m * 3) wr _ hrow.out (by rw [hzl]; omega)
        have hfin := ownsRow_cut hx1 (m := m) (by omega) (by omega)
        have hm' := hm.out
        have htt : ts.take (k + 1) = ts := List.take_of_length_le (Nat.le_of_eq HTL.out)
        rw [htt] at hm'
        have hxe : xs'.take (m * 3) = (ft nm' ts).flatMap (·.cs) := by
          rw [hx2, flat_take _ _ hkc, ← HTL.out, ← hm', kept_end]
        rw [hxe] at hfin
        have HFIN := Lib.hid hfin
        have HOS := Lib.hid (hoth.out.setCells (o := m * 3) (vs := (List.replicate (k + 1 - m) [.string { data := #[] }, .int .i64 0, (.slice none 0 0 : Value)]).flatten))
        have HMM := Lib.hid hm'
        have g7 : (0 : Int) ≤ (m : Int) := by omega
        have g8 : (m : Int) ≤ ((k + 1 : Nat) : Int) := by omega
        clear hct hx1 hx2 hfin hxe hm' htt hzl hkc hkl
        go_wp2_with fail
        go_ret
        refine ⟨m, rfl, ⟨F, ⟨ft nm' ts, by rw [HM.out, ft_map], HT.out.reorder2 eTab_ok List.filter_sublist (by rw [HMM.out]; exact HFIN.out) (fun g' hg' => hg') HOS.out.size fun j hj hne => HOS.out.block j hj fun e => hne (by rw [e]; rfl)⟩, hF⟩,
          ⟨HOS.out.os, HOS.out.tape, HOS.out.output, HOS.out.size, fun j hj hne => HOS.out.block j hj (by omega)⟩⟩

end

section
open Go.RowKit Go.Deep

theorem remR_no {ts : List Tab} {nm : ByteArray} (h : (lookR ts nm).ok = false) : remR ts nm = (ts, false) := by rw [remR, if_neg (by simp [h])]

theorem remR_yes {ts : List Tab} {nm : ByteArray} (h : (lookR ts nm).ok = true) : remR ts nm = (ts.filter (fun t => decide (¬ t.nm = nm)), true) := by rw [remR, if_pos h]

theorem sumT_filter (p : Tab → Bool) (ts : List Tab) : sumT (ts.filter p) ≤ sumT ts := by
  induction ts with
  | nil => exact Nat.le_refl _
  | cons t ts ih =>
    rw [sumT_cons, List.filter_cons]
    split
    · rw [sumT_cons]
      omega
    · omega

theorem remR_small {ts : List Tab} (nm : ByteArray) (hl : ts.length ≤ 1048576) (hs : sumT ts ≤ 1048576) : (remR ts nm).1.length ≤ 1048576 ∧ sumT (remR ts nm).1 ≤ 1048576 := by
  unfold remR
  split
  · exact ⟨Nat.le_trans (List.length_filter_le _ _) hl, Nat.le_trans (sumT_filter _ _) hs⟩
  · exact ⟨hl, hs⟩

theorem chg_kn3 {w W W' : World} {lo hi : Nat} {L : List (Nat × Nat × Value)} (h : Kn w L W) (c : Chg lo hi W W') (hlo : w.heap.size ≤ lo) (hd : ∀ t ∈ L, t.1 < lo ∨ hi ≤ t.1) : Kn w L W' := h.chg c hlo hd

set_option maxRecDepth 100000 in
set_option maxHeartbeats 1000000 in
theorem impl_RemoveTable_any (A : Option Addr) (n c B : Nat) (ts : List Tab) (nm : ByteArray) (w : World) (hr : RdT w B A n ts) (hB : B ≤ w.heap.size) (hn : n ≤ 1000000000) (hs : sumT ts ≤ 4294967296) :
    Calls Tryz.prog 25 #[.agg #[.slice A n c], .string nm] w (DbBool (remR ts nm) w) := by
  obtain ⟨i1, hi1, hz0, hz1, hz2⟩ := info_parts info_tab
  have HL := Lib.hid hr.1
  have hsm := Lib.hid hs
  have kn0 : Kn w [(w.heap.size, 0, .slice A n c), (w.heap.size + 1, 0, .string nm), (w.heap.size + 2, 0, .slice none 0 0)] (((w.alloc (.cells #[.slice A n c] 42)).alloc (.cells #[.string nm] 9)).alloc (.cells #[.slice none 0 0] 42)) := by
    simpa using ((((Kn.start w).box1 (.slice A n c) 42).box1 (.string nm) 9).box1 (.slice none 0 0) 42)
  go_enter Tryz.func25, Tryz.ntmps25
  go_wp2_with fail
  have s0 : w.heap.size + 3 ≤ (((w.alloc (.cells #[.slice A n c] 42)).alloc (.cells #[.string nm] 9)).alloc (.cells #[.slice none 0 0] 42)).heap.size := by simp
  generalize ((w.alloc (.cells #[.slice A n c] 42)).alloc (.cells #[.string nm] 9)).alloc (.cells #[.slice none 0 0] 42) = w0 at kn0 s0 ⊢
  refine (copyDatabase_any A n c B ts w0 (RdT.belowB hr kn0.bel hB) (Nat.le_trans hB kn0.bel.size) hn hs).mono ?_
  rintro e w1 ⟨Ao, co, rfl, oo, b1⟩
  have s1 := b1.size
  have kn1 := kn0.next b1
  clear kn0 b1
  obtain ⟨d0, d1, d2, _⟩ := kn1.all
  have ne0 : w.heap.size < w1.heap.size := by omega
  have ne1 : w.heap.size + 1 < w1.heap.size := by omega
  go_wp2_with fail
  clear ne0 ne1
  have kn2 : Kn w [(w.heap.size, 0, .slice A n c), (w.heap.size + 1, 0, .string nm), (w.heap.size + 2, 0, .slice none 0 0), (w1.heap.size, 0, .slice Ao ts.length co)] (w1.alloc (.cells #[.slice Ao ts.length co] 42)) := kn1.box1 (.slice Ao ts.length co) 42
  have s2 : w1.heap.size + 1 ≤ (w1.alloc (.cells #[.slice Ao ts.length co] 42)).heap.size := by simp
  have oo2 := oo.below ((Below.refl _ _).alloc (Nat.le_refl _) (.cells #[.slice Ao ts.length co] 42)) (Nat.le_refl _)
  clear oo kn1 d0 d1 d2
  generalize w1.alloc (.cells #[.slice Ao ts.length co] 42) = w2 at kn2 s2 oo2 ⊢
  refine (impl_LookupTable_any A n c B ts nm w2 (RdT.belowB hr kn2.bel hB) (Nat.le_trans hB kn2.bel.size) hn hs).mono ?_
  rintro e w3 ⟨Al, cl, rfl, ol, b3⟩
  have s3 := b3.size
  have kn3 := kn2.next b3
  have oo3 := oo2.below b3 (by omega)
  clear kn2 b3 oo2 ol
  have HN := Lib.hid (remR_no (ts := ts) (nm := nm))
  have HY := Lib.hid (remR_yes (ts := ts) (nm := nm))
  generalize lookR ts nm = R at HN HY ⊢
  obtain ⟨rn, ra, rr, rok⟩ := R
  obtain ⟨d0, d1, d2, d3, _⟩ := kn3.all
  have nx : w1.heap.size < w3.heap.size := by omega
  cases rok with
  | false =>
    have hf : Hid (remR ts nm = (ts, false)) := HN.out rfl
    obtain ⟨f0, f1, f2, f3, _⟩ := kn3.fall
    have HF := Lib.hid kn3.bel
    have HO := Lib.hid oo3
    have nz : w.heap.size + 2 < w3.heap.size := by omega
    clear kn3 oo3 HN HY
    go_wp2_with fail
    refine bodyPost_ret (v := .tuple #[.agg #[.slice Ao ts.length co], .bool false]) (by simp [results, Tryz.results25, go_sem, *]) rfl (DbBool.of hf.out ?_ ?_)
    · refine OwnD.down (lo := w0.heap.size) (OwnD.wide (hi := w1.heap.size) ?_ (by simp; omega)) (by omega)
      repeat first | exact HO.out | refine OwnD.alloc ?_ _ | refine OwnD.setOff ?_ (by omega)
    · repeat first | exact HF.out | (refine Below.setCell ?_ ?_ _; rotate_left; (simp; try omega)) | (refine Below.alloc ?_ ?_ _; rotate_left; (simp; try omega))
  | true =>
    have hf : Hid (remR ts nm = (ts.filter (fun t => decide (¬ t.nm = nm)), true)) := HY.out rfl
    clear HN HY
    have hA : Below w3.heap.size w3 (w3.alloc (.cells #[.string rn, .int .i64 ra, .slice Al rr.length cl] 26)) := (Below.refl _ _).alloc (Nat.le_refl _) _
    have kn4 := kn3.next hA
    have oo4 := oo3.below hA (by omega)
    have s4 := hA.size
    clear hA
    go_wp2_with fail
    clear d0 d1 d2 d3 kn3 oo3 nx
    generalize w3.alloc (.cells #[.string rn, .int .i64 ra, .slice Al rr.length cl] 26) = w4 at kn4 oo4 s4 ⊢
    refine (deleteFuncT_any Ao ts.length co w0.heap.size w1.heap.size (w.heap.size + 1) ts nm w4 oo4 kn4.all.2.1 (by omega) (.inl (by omega)) (by omega) (by rw [HL.out]; exact hn)).mono ?_
    rintro e w5 ⟨m, rfl, oo5, c5⟩
    have s5 := c5.size
    have kn5 := kn4.chg c5 (by omega) (by simp only [List.forall_mem_cons]; simp; omega)
    clear kn4 oo4 c5
    obtain ⟨d0, d1, d2, d3, _⟩ := kn5.all
    obtain ⟨f0, f1, f2, f3, _⟩ := kn5.fall
    have HF := Lib.hid kn5.bel
    have HO := Lib.hid oo5
    have ne : ¬ w1.heap.size = w.heap.size + 2 := by omega
    have ne' : ¬ w.heap.size + 2 = w1.heap.size := by omega
    clear kn5 oo5
    go_wp2_with fail
    refine bodyPost_ret (v := .tuple #[.agg #[.slice Ao m co], .bool true]) (by simp [results, Tryz.results25, go_sem, *]) rfl (DbBool.of hf.out ?_ ?_)
    · refine OwnD.down (lo := w0.heap.size) (OwnD.wide (hi := w1.heap.size) ?_ (by simp; omega)) (by omega)
      repeat refine OwnD.setOff ?_ (by omega)
      exact HO.out
    · repeat first | exact HF.out | (refine Below.setCell ?_ ?_ _; rotate_left; (simp; try omega))

set_option maxRecDepth 100000 in
set_option maxHeartbeats 1000000 in
theorem spec_RemoveTable_any (A : Option Addr) (n c B : Nat) (ts : List Tab) (nm : ByteArray) (w : World) (hr : RdT w B A n ts) (hB : B ≤ w.heap.size) (hn : n ≤ 1000000000) (hs : sumT ts ≤ 4294967296) :
    Calls Tryz.prog 26 #[.agg #[.slice A n c], .string nm] w (DbBool (remR ts nm) w) := by
  obtain ⟨i1, hi1, hz0, hz1, hz2⟩ := info_parts info_tab
  have HL := Lib.hid hr.1
  have hsm := Lib.hid hs
  have kn0 : Kn w [(w.heap.size, 0, .slice A n c), (w.heap.size + 1, 0, .slice none 0 0)] ((w.alloc (.cells #[.slice A n c] 42)).alloc (.cells #[.slice none 0 0] 42)) := by
    simpa using (((Kn.start w).box1 (.slice A n c) 42).box1 (.slice none 0 0) 42)
  go_enter Tryz.func26, Tryz.ntmps26
  go_wp2_with fail
  have s0 : w.heap.size + 2 ≤ ((w.alloc (.cells #[.slice A n c] 42)).alloc (.cells #[.slice none 0 0] 42)).heap.size := by simp
  generalize (w.alloc (.cells #[.slice A n c] 42)).alloc (.cells #[.slice none 0 0] 42) = w0 at kn0 s0 ⊢
  refine (spec_LookupTable_any A n c B ts nm w0 (RdT.belowB hr kn0.bel hB) (Nat.le_trans hB kn0.bel.size) hn hs).mono ?_
  rintro e w3 ⟨Al, cl, rfl, ol, b3⟩
  have s3 := b3.size
  have kn3 := kn0.next b3
  clear kn0 b3 ol
  have HN := Lib.hid (remR_no (ts := ts) (nm := nm))
  have HY := Lib.hid (remR_yes (ts := ts) (nm := nm))
  generalize lookR ts nm = R at HN HY ⊢
  obtain ⟨rn, ra, rr, rok⟩ := R
  obtain ⟨d0, d1, _⟩ := kn3.all
  have nx : w.heap.size < w3.heap.size := by omega
  have hA : Below w3.heap.size w3 (w3.alloc (.cells #[.string rn, .int .i64 ra, .slice Al rr.length cl] 26)) := (Below.refl _ _).alloc (Nat.le_refl _) _
  have kn4 := kn3.next hA
  have s4 := hA.size
  clear hA kn3
  cases rok with
  | false =>
    have hf : Hid (remR ts nm = (ts, false)) := HN.out rfl
    clear HN HY
    go_wp2_with fail
    clear d0 d1 nx
    generalize w3.alloc (.cells #[.string rn, .int .i64 ra, .slice Al rr.length cl] 26) = w4 at kn4 s4 ⊢
    refine (l5Copy_any A n c B ts w4 (RdT.belowB hr kn4.bel hB) (Nat.le_trans hB kn4.bel.size) hn hs).mono ?_
    rintro e w1 ⟨Ao, co, rfl, oo, b1⟩
    have s1 := b1.size
    have kn1 := kn4.next b1
    have HO := Lib.hid oo
    clear kn4 b1 oo
    obtain ⟨d0, d1, _⟩ := kn1.all
    obtain ⟨f0, f1, _⟩ := kn1.fall
    have HF := Lib.hid kn1.bel
    clear kn1
    go_wp2_with fail
    refine bodyPost_ret (v := .tuple #[.agg #[.slice Ao ts.length co], .bool false]) (by simp [results, Tryz.results26, go_sem, *]) rfl (DbBool.of hf.out ?_ ?_)
    · refine OwnD.down (lo := w4.heap.size) (OwnD.wide (hi := w1.heap.size) ?_ (by first | (simp; done) | (simp; omega))) (by omega)
      repeat refine OwnD.setOff ?_ (by omega)
      exact HO.out
    · repeat first | exact HF.out | (refine Below.setCell ?_ ?_ _; rotate_left; (simp; try omega))
  | true =>
    have hf : Hid (remR ts nm = (ts.filter (fun t => decide (¬ t.nm = nm)), true)) := HY.out rfl
    clear HN HY
    have ne4 : w.heap.size < (w3.alloc (.cells #[.string rn, .int .i64 ra, .slice Al rr.length cl] 26)).heap.size := by omega
    go_wp2_with fail
    clear d0 d1 nx ne4
    have hd0 : DInv w [(w.heap.size, 0, .slice A n c), (w.heap.size + 1, 0, .slice none 0 0)] (w3.alloc (.cells #[.string rn, .int .i64 ra, .slice Al rr.length cl] 26)).heap.size ((w3.alloc (.cells #[.string rn, .int .i64 ra, .slice Al rr.length cl] 26)).heap.size + 1) [] (.slice none 0 0) ((w3.alloc (.cells #[.string rn, .int .i64 ra, .slice Al rr.length cl] 26)).alloc (.cells #[.slice none 0 0] 42)) :=
      ⟨kn4.next ((Below.refl _ _).alloc (Nat.le_refl _) (.cells #[.slice none 0 0] 42)), OwnD.nil _ _ _, by simp, by omega, by omega, by simp only [List.forall_mem_cons]; simp; omega, by simp [go_sem], by simp [go_sem]⟩
    have hnb : (w3.alloc (.cells #[.string rn, .int .i64 ra, .slice Al rr.length cl] 26)).heap.size = w3.heap.size + 1 := by simp
    rw [hnb] at hd0
    have hb3 : w.heap.size + 2 ≤ w3.heap.size + 1 := by omega
    clear hnb kn4 s4
    generalize (w3.alloc (.cells #[.string rn, .int .i64 ra, .slice Al rr.length cl] 26)).alloc (.cells #[.slice none 0 0] 42) = w5 at hd0 ⊢
    go_loopw [9] (fun i wr => ∃ (k : Nat) (v : Value), k ≤ n ∧ i = .int .i64 k ∧ Hid (DInv w [(w.heap.size, 0, .slice A n c), (w.heap.size + 1, 0, .slice none 0 0)] (w3.heap.size + 1) (w3.heap.size + 1 + 1) ((ts.take k).filter fun t => decide (¬ t.nm = nm)) v wr)) (fun i _ => n - (intOf i).toNat)
    case atStart => exact ⟨0, _, by omega, rfl, hd0⟩
    case round =>
      obtain ⟨k, v, hk, rfl, hinv⟩ := hrel
      clear hd0
      have hbel := Lib.hid hinv.out.kn.bel
      have hsz := hbel.out.size
      obtain ⟨d0, d1, _⟩ := hinv.out.kn.all
      have x0 := hinv.out.x0
      by_cases hlt : k < n
      · obtain ⟨b, o, t, A', c', rfl, hb, hx, hc0, hc1, hc2, hrd, hm, hnm⟩ := RdT.at_ hr hlt
        have hts := Lib.hid (tab_small hx hsm.out)
        have HX := Lib.hid (show (ts.take (k + 1)).filter (fun t => decide (¬ t.nm = nm)) = (ts.take k).filter (fun t => decide (¬ t.nm = nm)) ++ (if t.nm = nm then [] else [t]) by
          rw [List.take_add_one, hx, List.filter_append]
          by_cases he : t.nm = nm <;> simp [he])
        have hla : ((ts.take k).filter fun t => decide (¬ t.nm = nm)).length ≤ 1000000000 := Nat.le_trans (List.length_filter_le _ _) (by rw [List.length_take]; omega)
        have m0 := (hbel.out.cell (p := ⟨b, o + k * 3, none⟩) (by show b < _; omega)).trans hc0
        have m1 := (hbel.out.cell (p := ⟨b, o + k * 3 + 1, none⟩) (by show b < _; omega)).trans hc1
        have m2 := (hbel.out.cell (p := ⟨b, o + k * 3 + 2, none⟩) (by show b < _; omega)).trans hc2
        obtain ⟨xn, xa, xr⟩ := t
        have hnm : xn.size ≤ maxLen := hnm
        generalize (ts.take k).filter (fun t => decide (¬ t.nm = nm)) = acc at hinv HX hla
        have KC := Lib.hid (l4Copy_any xn xa A' xr.length c' B xr wr (RdR.belowB hrd hbel.out hB) (Nat.le_trans hB hsz) hts.out.1 hts.out.2)
        clear hx hc0 hc1 hc2 hrd hm
        by_cases he : xn = nm
        · have HX2 := Lib.hid (HX.out.trans (by rw [if_pos he, List.append_nil]))
          have qe := (show (xn.toList == nm.toList) = true by rw [he]; simp)
          clear he
          go_wp2_with fail
          refine ⟨⟨k + 1, _, by omega, by go_num, by rw [HX2.out]; exact hinv⟩, ?_⟩
          simp [intOf]
          omega
        · have HX2 : Hid ((ts.take (k + 1)).filter (fun t => decide (¬ t.nm = nm)) = acc ++ [⟨xn, xa, xr⟩]) := HX.out.trans (by rw [if_neg he])
          have qe := str_eq0 he
          clear he
          go_wp2_with fail
          refine KC.out.mono ?_
          rintro e w1 ⟨A1, c1, rfl, ho1, hb1⟩
          clear d0 d1 x0 m0 m1 m2 KC
          obtain ⟨xs, hrow, n2, happ⟩ := hinv.out.app (nm := xn) (ar := xa) (w1 := w1.alloc (.cells #[.string xn, .int .i64 xa, .slice A1 xr.length c1] 26)) (hb1.alloc hb1.size (.cells #[.string xn, .int .i64 xa, .slice A1 xr.length c1] 26)) (ho1.below ((Below.refl w1.heap.size w1).alloc (Nat.le_refl _) (.cells #[.string xn, .int .i64 xa, .slice A1 xr.length c1] 26)) (Nat.le_refl _)) (Nat.le_refl _) (by simp) hnm
          have hnb : (w1.alloc (.cells #[.string xn, .int .i64 xa, .slice A1 xr.length c1] 26)).heap.size = w1.heap.size + 1 := by simp
          have hgn := heap_alloc_new (w1.alloc (.cells #[.string xn, .int .i64 xa, .slice A1 xr.length c1] 26)) (.cells #[.string xn, .int .i64 xa, .slice A1 xr.length c1] 26)
          have hx1 : w3.heap.size + 1 < w1.heap.size := Nat.lt_of_lt_of_le (Nat.lt_of_lt_of_le hinv.out.hxb hinv.out.size) hb1.size
          rw [hnb] at hgn happ
          have n3 : w1.cell? ⟨w3.heap.size + 1, 0, none⟩ = some (v) := (hb1.cell (p := ⟨w3.heap.size + 1, 0, none⟩) (Nat.lt_of_lt_of_le hinv.out.hxb hinv.out.size)).trans hinv.out.x0
          have HA := Lib.hid happ
          have HR := Lib.hid hrow
          have HGN := Lib.hid hgn
          clear happ ho1 hb1 hrow hgn n2
          go_wp2_with (at_builtin; refine wpList_append_lies _ rfl _ _ _ rfl 0 26 i1 _ 3 48 Tryz.underlying40 hi1 hz0 hz1 hz2 rfl (by omega) _ (acc).length _ rfl HR.out ⟨w1.heap.size + 1, 0, none⟩ 1 1 [.string xn, .int .i64 xa, .slice A1 xr.length c1] rfl rfl (World.news_of_block (cs := #[.string xn, .int .i64 xa, .slice A1 xr.length c1]) (t := 26) (fr := (0, 0)) HGN.out) (by simp [Value.oneCell']) (by omega) (by unfold maxLen; omega) (by omega) (Nat.zero_le _) (w1.heap.size + 1 + 1) (by simp) ?_; intro g cap w2 hown2 hgrow hat hlt2; obtain ⟨m2, m3, hF, hcl, hsz2⟩ := HA.out g cap w2 hown2 hgrow hat; have HF := Lib.hid hF; clear hown2 hgrow hat hF hcl hsz2)
          refine ⟨⟨k + 1, _, by omega, by go_num, by rw [HX2.out]; exact HF⟩, ?_⟩
          simp [intOf]
          omega
      · obtain rfl : k = n := by omega
        have HT := Lib.hid (show ts.take k = ts from List.take_of_length_le (Nat.le_of_eq HL.out))
        have hI := hinv.out
        rw [HT.out] at hI
        generalize ts.filter (fun t => decide (¬ t.nm = nm)) = Fl at hf hI
        obtain ⟨A1, c1, rfl⟩ := hI.own.form
        obtain ⟨f0, f1, _⟩ := hI.kn.fall
        have HF := Lib.hid hI
        have hszI := hI.size
        clear hI hinv
        go_wp2_with fail
        refine bodyPost_ret (v := .tuple #[.agg #[.slice A1 Fl.length c1], .bool true]) (by simp [results, Tryz.results26, go_sem, *]) rfl (DbBool.of hf.out ?_ ?_)
        · refine OwnD.down (lo := w3.heap.size + 1 + 1) (OwnD.wide (hi := wr.heap.size) ?_ (by simp)) (by omega)
          repeat refine OwnD.setOff ?_ (by omega)
          exact HF.out.own
        · repeat first | exact HF.out.kn.bel | (refine Below.setCell ?_ ?_ _; rotate_left; (simp; try omega))

end

section
open Go.RowKit Go.Deep

theorem cntD_yes {ts : List Tab} (h : validD ts = true) : cntD ts = lenT ts := by rw [cntD, if_pos h]

theorem cntD_no {ts : List Tab} (h : validD ts = false) : cntD ts = 0 := by rw [cntD, if_neg (by simp [h])]

set_option maxRecDepth 100000 in
set_option maxHeartbeats 1000000 in
theorem impl_CountRows_any (A : Option Addr) (n c B : Nat) (ts : List Tab) (w : World) (hr : RdT w B A n ts) (hB : B ≤ w.heap.size) (hn : n ≤ 1000000000) (hs : sumT ts ≤ 4294967296) :
    Calls Tryz.prog 28 #[.agg #[.slice A n c]] w fun e w' => e = .returned (.int .i64 (cntD ts : Nat)) ∧ Below w.heap.size w w' := by
  have HL := Lib.hid hr.1
  have kn0 : Kn w [(w.heap.size, 0, .slice A n c)] (w.alloc (.cells #[.slice A n c] 42)) := by
    simpa using (Kn.start w).box1 (.slice A n c) 42
  have hle := Lib.hid (fun k => Nat.le_trans (lenT_take_le ts k) (Nat.le_trans (lenT_le ts) hs))
  have KV : Hid (∀ W, Below w.heap.size w W → Calls Tryz.prog 24 #[.agg #[.slice A n c]] W fun e w' => e = .returned (.bool (validD ts)) ∧ Below W.heap.size W w') := fun W bw =>
    impl_IsValidDatabase_any A n c B ts W (RdT.belowB hr bw hB) (Nat.le_trans hB bw.size) hn hs
  go_enter Tryz.func28, Tryz.ntmps28
  go_wp2_with fail
  generalize w.alloc (.cells #[.slice A n c] 42) = w0 at kn0 ⊢
  have KV1 := Lib.hid (KV.out w0 kn0.bel)
  obtain ⟨x0, _⟩ := kn0.all
  cases hvd : validD ts with
  | false =>
    have hf := Lib.hid (cntD_no hvd)
    rw [hvd] at KV1
    clear hvd
    refine KV1.out.mono ?_
    rintro e w1 ⟨rfl, b1⟩
    have HF := Lib.hid (kn0.next b1).bel
    clear b1 kn0 x0
    go_wp2_with fail
    go_ret
    exact ⟨by rw [hf.out] <;> rfl, HF.out⟩
  | true =>
    have hf := Lib.hid (cntD_yes hvd)
    rw [hvd] at KV1
    clear hvd
    refine KV1.out.mono ?_
    rintro e w1 ⟨rfl, b1⟩
    have kn1 := kn0.next b1
    clear b1 kn0 x0
    obtain ⟨x0, _⟩ := kn1.all
    go_wp2_with fail
    go_loopw [3, 5, 12] (fun q _ i wr => ∃ k : Nat, k ≤ n ∧ i = .int .i64 k ∧ q = .int .i64 (lenT (ts.take k) : Nat) ∧ Hid (Below w.heap.size w wr)) (fun _ _ i _ => n - (intOf i).toNat)
    case atStart => exact ⟨0, by omega, rfl, rfl, kn1.bel⟩
    case round =>
      obtain ⟨k, hk, rfl, rfl, hbel⟩ := hrel
      clear kn1 x0
      have hsz := hbel.out.size
      by_cases hlt : k < n
      · obtain ⟨b, o, t, A1, c1, rfl, hb, hx, hc0, hc1, hc2, hrd, hm, _⟩ := RdT.at_ hr hlt
        obtain ⟨nm, ar, rs⟩ := t
        have HX : Hid (lenT (ts.take (k + 1)) = lenT (ts.take k) + rs.length) := lenT_take_succ hx
        have h1 := hle.out k
        have h2 := hle.out (k + 1)
        rw [HX.out] at h2
        have d0 := (hbel.out.cell (p := ⟨b, o + k * 3, none⟩) (by show b < _; omega)).trans hc0
        have d1 := (hbel.out.cell (p := ⟨b, o + k * 3 + 1, none⟩) (by show b < _; omega)).trans hc1
        have d2 := (hbel.out.cell (p := ⟨b, o + k * 3 + 2, none⟩) (by show b < _; omega)).trans hc2
        clear hx hc0 hc1 hc2 hrd hm
        generalize lenT (ts.take k) = L at HX h1 h2 ⊢
        have HB := Lib.hid (hbel.out.alloc hsz (.cells #[.string nm, .int .i64 ar, .slice A1 rs.length c1] 26))
        go_wp2_with fail
        refine ⟨⟨k + 1, by omega, by go_num, by rw [HX.out]; go_num, HB.out⟩, ?_⟩
        simp [intOf]
        omega
      · obtain rfl : k = n := by omega
        have hf2 := Lib.hid (show ts.take k = ts from List.take_of_length_le (Nat.le_of_eq HL.out))
        go_wp2_with fail
        go_ret
        exact ⟨by rw [hf.out, hf2.out] <;> rfl, hbel.out⟩

end

section
open Go.RowKit Go.Deep

theorem tab_eq_iff {a b : Tab} : a = b ↔ a.nm = b.nm ∧ a.ar = b.ar ∧ a.rs = b.rs := by
  obtain ⟨n, r, s⟩ := a
  obtain ⟨n', r', s'⟩ := b
  simp

instance : DecidableEq Tab := fun _ _ => decidable_of_iff _ tab_eq_iff.symm

theorem eqT_yes {a b : Tab} (h : a = b) : eqT a.nm b.nm a.ar b.ar a.rs b.rs = true := decide_eq_true (tab_eq_iff.1 h)

theorem eqT_no {a b : Tab} (h : ¬ a = b) : eqT a.nm b.nm a.ar b.ar a.rs b.rs = false := decide_eq_false (mt tab_eq_iff.2 h)

theorem ne_of_get {ts ts' : List Tab} {k : Nat} {a b : Tab} (h : ts[k]? = some a) (h' : ts'[k]? = some b) (hne : ¬ a = b) : decide (ts = ts') = false := by
  rw [decide_eq_false_iff_not]
  rintro rfl
  rw [h] at h'
  injection h' with h'
  exact hne h'

/-- The six cells of two elements, at any later world. -/
def Six (b b' o o' : Nat) (k : Nat) (t t' : Tab) (A1 A2 : Option Addr) (c1 c2 : Nat) (W : World) : Prop :=
  W.cell? ⟨b, o + k * 3, none⟩ = some (.string t.nm) ∧ W.cell? ⟨b, o + k * 3 + 1, none⟩ = some (.int .i64 t.ar) ∧ W.cell? ⟨b, o + k * 3 + 2, none⟩ = some (.slice A1 t.rs.length c1) ∧ W.cell? ⟨b', o' + k * 3, none⟩ = some (.string t'.nm) ∧ W.cell? ⟨b', o' + k * 3 + 1, none⟩ = some (.int .i64 t'.ar) ∧ W.cell? ⟨b', o' + k * 3 + 2, none⟩ = some (.slice A2 t'.rs.length c2)

theorem Six.next {b b' o o' k : Nat} {t t' : Tab} {A1 A2 : Option Addr} {c1 c2 : Nat} {W W' : World} (h : Six b b' o o' k t t' A1 A2 c1 c2 W) (hb : Below W.heap.size W W') (h1 : b < W.heap.size) (h2 : b' < W.heap.size) : Six b b' o o' k t t' A1 A2 c1 c2 W' :=
  ⟨(hb.cell (p := ⟨b, o + k * 3, none⟩) h1).trans h.1, (hb.cell (p := ⟨b, o + k * 3 + 1, none⟩) h1).trans h.2.1, (hb.cell (p := ⟨b, o + k * 3 + 2, none⟩) h1).trans h.2.2.1, (hb.cell (p := ⟨b', o' + k * 3, none⟩) h2).trans h.2.2.2.1, (hb.cell (p := ⟨b', o' + k * 3 + 1, none⟩) h2).trans h.2.2.2.2.1, (hb.cell (p := ⟨b', o' + k * 3 + 2, none⟩) h2).trans h.2.2.2.2.2⟩

set_option maxRecDepth 100000 in
set_option maxHeartbeats 1000000 in
theorem equalFuncT_any (A A' : Option Addr) (n c n' c' B B' : Nat) (ts ts' : List Tab) (w : World) (hr : RdT w B A n ts) (hr' : RdT w B' A' n' ts') (hB : B ≤ w.heap.size) (hB' : B' ≤ w.heap.size) (hn : n ≤ 9223372036854775806) (hn' : n' ≤ 9223372036854775806) :
    Calls Tryz.prog 70 #[.slice A n c, .slice A' n' c', .func (.func 11) #[] #[]] w fun e w' => e = .returned (.bool (decide (ts = ts'))) ∧ Below w.heap.size w w' := by
  by_cases hne : n = n'
  · subst hne
    go_enter Tryz.func70, Tryz.ntmps70
    go_wp2_with fail
    go_loopw [7, 8, 9, 17] (fun _ _ _ i wr => ∃ k : Nat, k ≤ n ∧ i = .int .i64 k ∧ Hid (ts.take k = ts'.take k) ∧ Hid (Below w.heap.size w wr)) (fun _ _ _ i _ => n - (intOf i).toNat)
    case atStart => exact ⟨0, by omega, rfl, rfl, Below.refl _ _⟩
    case round =>
      obtain ⟨k, hk, rfl, hpre, hbel⟩ := hrel
      have hsz := hbel.out.size
      by_cases hlt : k < n
      · obtain ⟨b, o, t, A1, c1, rfl, hb, hx, hc0, hc1, hc2, hrd, hm, _⟩ := RdT.at_ hr hlt
        obtain ⟨b', o', t', A2, c2, rfl, hb', hx', hc0', hc1', hc2', hrd', hm', _⟩ := RdT.at_ hr' hlt
        have hb1 : b < wr.heap.size := by omega
        have hb1' : b' < wr.heap.size := by omega
        have d0 := (hbel.out.cell (p := ⟨b, o + k * 3, none⟩) (by show b < _; omega)).trans hc0
        have d1 := (hbel.out.cell (p := ⟨b, o + k * 3 + 1, none⟩) (by show b < _; omega)).trans hc1
        have d2 := (hbel.out.cell (p := ⟨b, o + k * 3 + 2, none⟩) (by show b < _; omega)).trans hc2
        have d3 := (hbel.out.cell (p := ⟨b', o' + k * 3, none⟩) (by show b' < _; omega)).trans hc0'
        have d4 := (hbel.out.cell (p := ⟨b', o' + k * 3 + 1, none⟩) (by show b' < _; omega)).trans hc1'
        have d5 := (hbel.out.cell (p := ⟨b', o' + k * 3 + 2, none⟩) (by show b' < _; omega)).trans hc2'
        have KE : Hid (∀ W, Below wr.heap.size wr W → Calls Tryz.prog 11 #[.agg #[.string t.nm, .int .i64 t.ar, .slice A1 t.rs.length c1], .agg #[.string t'.nm, .int .i64 t'.ar, .slice A2 t'.rs.length c2]] W fun e w' => e = .returned (.bool (eqT t.nm t'.nm t.ar t'.ar t.rs t'.rs)) ∧ Below W.heap.size W w') := fun W b1 =>
          impl_EqualTables_any t.nm t'.nm t.ar t'.ar A1 A2 t.rs.length c1 t'.rs.length c2 B B' t.rs t'.rs W (RdR.belowB hrd (hbel.out.trans (b1.mono hsz)) hB) (RdR.belowB hrd' (hbel.out.trans (b1.mono hsz)) hB') (Nat.le_trans hB (Nat.le_trans hsz b1.size)) (Nat.le_trans hB' (Nat.le_trans hsz b1.size)) (by unfold maxLen at hm; exact hm) (by unfold maxLen at hm'; exact hm')
        have HX := Lib.hid hx
        have HX' := Lib.hid hx'
        have BR := Lib.hid (Below.refl wr.heap.size wr)
        clear hx hx' hc0 hc1 hc2 hc0' hc1' hc2' hrd hrd' hm hm'
        by_cases he : t = t'
        · have hpre' : Hid (ts.take (k + 1) = ts'.take (k + 1)) := by
            show _ = _
            rw [List.take_add_one, List.take_add_one, HX.out, HX'.out, he, hpre.out]
          rw [eqT_yes he] at KE
          clear he
          obtain ⟨nm, ar, rs⟩ := t
          obtain ⟨nm', ar', rs'⟩ := t'
          go_wp2_with fail
          refine (KE.out _ ((BR.out.alloc (Nat.le_refl _) _).alloc (by simp) _)).mono ?_
          rintro e w1 ⟨rfl, hq⟩
          have HQ := Lib.hid (hbel.out.trans ((((BR.out.alloc (Nat.le_refl _) _).alloc (by simp) _).trans (hq.mono (by simp; omega))).mono hsz))
          clear hq
          go_wp2_with fail
          refine ⟨⟨k + 1, by omega, by go_num, hpre', HQ⟩, ?_⟩
          simp [intOf]
          omega
        · have hfin := Lib.hid (ne_of_get HX.out HX'.out he)
          rw [eqT_no he] at KE
          clear he
          obtain ⟨nm, ar, rs⟩ := t
          obtain ⟨nm', ar', rs'⟩ := t'
          go_wp2_with fail
          refine (KE.out _ ((BR.out.alloc (Nat.le_refl _) _).alloc (by simp) _)).mono ?_
          rintro e w1 ⟨rfl, hq⟩
          have HQ := Lib.hid (hbel.out.trans ((((BR.out.alloc (Nat.le_refl _) _).alloc (by simp) _).trans (hq.mono (by simp; omega))).mono hsz))
          clear hq
          go_wp2_with fail
          go_ret
          exact ⟨by rw [hfin.out] <;> rfl, HQ.out⟩
      · obtain rfl : k = n := by omega
        have hfin : Hid (decide (ts = ts') = true) := by
          show decide (ts = ts') = true
          rw [decide_eq_true_eq]
          have h1 := hpre.out
          rwa [List.take_of_length_le (Nat.le_of_eq hr.1), List.take_of_length_le (Nat.le_of_eq hr'.1)] at h1
        go_wp2_with fail
        go_ret
        exact ⟨by rw [hfin.out] <;> rfl, hbel.out⟩
  · have hfin : Hid (decide (ts = ts') = false) := by
      show decide (ts = ts') = false
      rw [decide_eq_false_iff_not]
      rintro rfl
      exact hne (hr.1.symm.trans hr'.1)
    have hbq : ((n : Int) != (n' : Int)) = true := by simp; omega
    clear hne
    go_enter Tryz.func70, Tryz.ntmps70
    go_wp2_with fail
    go_ret
    exact ⟨by rw [hfin.out] <;> rfl, Below.refl _ _⟩

set_option maxRecDepth 100000 in
set_option maxHeartbeats 400000 in
theorem impl_EqualDatabases_any (A A' : Option Addr) (n c n' c' B B' : Nat) (ts ts' : List Tab) (w : World) (hr : RdT w B A n ts) (hr' : RdT w B' A' n' ts') (hB : B ≤ w.heap.size) (hB' : B' ≤ w.heap.size) (hn : n ≤ 9223372036854775806) (hn' : n' ≤ 9223372036854775806) :
    Calls Tryz.prog 29 #[.agg #[.slice A n c], .agg #[.slice A' n' c']] w fun e w' => e = .returned (.bool (decide (ts = ts'))) ∧ Below w.heap.size w w' := by
  have HB := Lib.hid (Below.refl w.heap.size w)
  go_enter Tryz.func29, Tryz.ntmps29
  go_wp2_with fail
  refine (equalFuncT_any A A' n c n' c' B B' ts ts' _ (RdT.belowB hr (((Below.refl B w).alloc hB _).alloc (by simp; omega) _) (Nat.le_refl _)) (RdT.belowB hr' (((Below.refl B' w).alloc hB' _).alloc (by simp; omega) _) (Nat.le_refl _)) (by simp; omega) (by simp; omega) hn hn').mono ?_
  rintro e w1 ⟨rfl, hq⟩
  have hbel := Lib.hid ((((HB.out).alloc (Nat.le_refl _) _).alloc (by simp) _).trans (hq.mono (by simp; omega)))
  clear hq
  go_wp2_with fail
  go_ret
  exact ⟨rfl, hbel.out⟩

end

section
open Go.RowKit Go.Deep

set_option maxRecDepth 100000 in
set_option maxHeartbeats 1000000 in
theorem spec_EqualDatabases_any (A A' : Option Addr) (n c n' c' B B' : Nat) (ts ts' : List Tab) (w : World) (hr : RdT w B A n ts) (hr' : RdT w B' A' n' ts') (hB : B ≤ w.heap.size) (hB' : B' ≤ w.heap.size) (hn : n ≤ 9223372036854775806) (hn' : n' ≤ 9223372036854775806) :
    Calls Tryz.prog 27 #[.agg #[.slice A n c], .agg #[.slice A' n' c']] w fun e w' => e = .returned (.bool (decide (ts = ts'))) ∧ Below w.heap.size w w' := by
  have kn0 : Kn w [(w.heap.size, 0, .slice A n c), (w.heap.size + 1, 0, .slice A' n' c')] ((w.alloc (.cells #[.slice A n c] 42)).alloc (.cells #[.slice A' n' c'] 42)) := by
    simpa using ((Kn.start w).box1 (.slice A n c) 42).box1 (.slice A' n' c') 42
  by_cases hne : n = n'
  · subst hne
    go_enter Tryz.func27, Tryz.ntmps27
    go_wp2_with fail
    generalize (w.alloc (.cells #[.slice A n c] 42)).alloc (.cells #[.slice A' n c'] 42) = w0 at kn0 ⊢
    go_loopw [5] (fun i wr => ∃ k : Nat, k ≤ n ∧ i = .int .i64 k ∧ Hid (ts.take k = ts'.take k) ∧ Kn w [(w.heap.size, 0, .slice A n c), (w.heap.size + 1, 0, .slice A' n c')] wr) (fun i _ => n - (intOf i).toNat)
    case atStart => exact ⟨0, by omega, rfl, rfl, kn0⟩
    case round =>
      obtain ⟨k, hk, rfl, hpre, kn⟩ := hrel
      clear kn0
      obtain ⟨x0, x1, _⟩ := kn.all
      have hbel := Lib.hid kn.bel
      have hsz := hbel.out.size
      by_cases hlt : k < n
      · obtain ⟨b, o, t, A1, c1, rfl, hb, hx, hc0, hc1, hc2, hrd, hm, _⟩ := RdT.at_ hr hlt
        obtain ⟨b', o', t', A2, c2, rfl, hb', hx', hc0', hc1', hc2', hrd', hm', _⟩ := RdT.at_ hr' hlt
        have six : Six b b' o o' k t t' A1 A2 c1 c2 wr := Six.next ⟨hc0, hc1, hc2, hc0', hc1', hc2'⟩ hbel.out (by omega) (by omega)
        have KE : Hid (∀ W, Below wr.heap.size wr W → Calls Tryz.prog 19 #[.agg #[.string t.nm, .int .i64 t.ar, .slice A1 t.rs.length c1], .agg #[.string t'.nm, .int .i64 t'.ar, .slice A2 t'.rs.length c2]] W fun e w' => e = .returned (.bool (eqT t.nm t'.nm t.ar t'.ar t.rs t'.rs)) ∧ Below W.heap.size W w') := fun W b1 =>
          spec_EqualTables_any t.nm t'.nm t.ar t'.ar A1 A2 t.rs.length c1 t'.rs.length c2 B B' t.rs t'.rs W (RdR.belowB hrd (hbel.out.trans (b1.mono hsz)) hB) (RdR.belowB hrd' (hbel.out.trans (b1.mono hsz)) hB') (Nat.le_trans hB (Nat.le_trans hsz b1.size)) (Nat.le_trans hB' (Nat.le_trans hsz b1.size)) (by unfold maxLen at hm; exact hm) (by unfold maxLen at hm'; exact hm')
        have HX := Lib.hid hx
        have HX' := Lib.hid hx'
        have g1 : (0 : Int) ≤ (k : Int) := by omega
        have g2 : (k : Int) < (n : Int) := by omega
        have g3 : (k : Int).toNat = k := by omega
        obtain ⟨nm, ar, rs⟩ := t
        obtain ⟨nm', ar', rs'⟩ := t'
        have KB : Hid (∀ W, Below wr.heap.size wr W → W.cell? ⟨w.heap.size, 0, none⟩ = some (.slice (some ⟨b, o, none⟩) n c) ∧ W.cell? ⟨w.heap.size + 1, 0, none⟩ = some (.slice (some ⟨b', o', none⟩) n c') ∧ W.cell? ⟨b, o + k * 3, none⟩ = some (.string nm) ∧ W.cell? ⟨b, o + k * 3 + 1, none⟩ = some (.int .i64 ar) ∧ W.cell? ⟨b, o + k * 3 + 2, none⟩ = some (.slice A1 rs.length c1) ∧ W.cell? ⟨b', o' + k * 3, none⟩ = some (.string nm') ∧ W.cell? ⟨b', o' + k * 3 + 1, none⟩ = some (.int .i64 ar') ∧ W.cell? ⟨b', o' + k * 3 + 2, none⟩ = some (.slice A2 rs'.length c2) ∧ Below wr.heap.size wr W) := fun W bw => by
          obtain ⟨z0, z1, _⟩ := (kn.next bw).all
          obtain ⟨s0, s1, s2, s3, s4, s5⟩ := six.next bw (by omega) (by omega)
          exact ⟨z0, z1, s0, s1, s2, s3, s4, s5, bw⟩
        have KN := Lib.hid kn
        obtain ⟨d0, d1, d2, d3, d4, d5⟩ := six
        clear hx hx' hc0 hc1 hc2 hc0' hc1' hc2' hrd hrd' hm hm' kn
        by_cases he : (⟨nm, ar, rs⟩ : Tab) = ⟨nm', ar', rs'⟩
        · have hpre' : Hid (ts.take (k + 1) = ts'.take (k + 1)) := by
            show _ = _
            rw [List.take_add_one, List.take_add_one, HX.out, HX'.out, he, hpre.out]
          have KE' : Hid (∀ W, Below wr.heap.size wr W → Calls Tryz.prog 19 #[.agg #[.string nm, .int .i64 ar, .slice A1 rs.length c1], .agg #[.string nm', .int .i64 ar', .slice A2 rs'.length c2]] W fun e w' => e = .returned (.bool true) ∧ Below W.heap.size W w') := fun W bw => by have := KE.out W bw; rwa [eqT_yes he] at this
          clear he KE
          go_wp2_with fail
          have bz : Below wr.heap.size wr wr.drew := (Below.refl _ _).drew
          go_region_held3 (fun W => W.cell? ⟨w.heap.size, 0, none⟩ = some (.slice (some ⟨b, o, none⟩) n c) ∧ W.cell? ⟨w.heap.size + 1, 0, none⟩ = some (.slice (some ⟨b', o', none⟩) n c') ∧ W.cell? ⟨b, o + k * 3, none⟩ = some (.string nm) ∧ W.cell? ⟨b, o + k * 3 + 1, none⟩ = some (.int .i64 ar) ∧ W.cell? ⟨b, o + k * 3 + 2, none⟩ = some (.slice A1 rs.length c1) ∧ W.cell? ⟨b', o' + k * 3, none⟩ = some (.string nm') ∧ W.cell? ⟨b', o' + k * 3 + 1, none⟩ = some (.int .i64 ar') ∧ W.cell? ⟨b', o' + k * 3 + 2, none⟩ = some (.slice A2 rs'.length c2) ∧ Below wr.heap.size wr W)
            (first | assumption | exact KB.out _ (by assumption))
            (first | (go_at_call 19; ((with_reducible refine (KE'.out _ (by assumption)).mono ?_); rintro e w1 ⟨rfl, b1⟩; have bz := bel_step (by assumption) b1)))
          have HF := Lib.hid (KN.out.next bz)
          clear bz KN
          go_wp2_with fail
          refine ⟨⟨k + 1, by omega, by go_num, hpre', HF.out⟩, ?_⟩
          simp [intOf]
          omega
        · have hfin := Lib.hid (ne_of_get HX.out HX'.out he)
          have KE' : Hid (∀ W, Below wr.heap.size wr W → Calls Tryz.prog 19 #[.agg #[.string nm, .int .i64 ar, .slice A1 rs.length c1], .agg #[.string nm', .int .i64 ar', .slice A2 rs'.length c2]] W fun e w' => e = .returned (.bool false) ∧ Below W.heap.size W w') := fun W bw => by have := KE.out W bw; rwa [eqT_no he] at this
          clear he KE
          go_wp2_with fail
          have bz : Below wr.heap.size wr wr.drew := (Below.refl _ _).drew
          go_region_held3 (fun W => W.cell? ⟨w.heap.size, 0, none⟩ = some (.slice (some ⟨b, o, none⟩) n c) ∧ W.cell? ⟨w.heap.size + 1, 0, none⟩ = some (.slice (some ⟨b', o', none⟩) n c') ∧ W.cell? ⟨b, o + k * 3, none⟩ = some (.string nm) ∧ W.cell? ⟨b, o + k * 3 + 1, none⟩ = some (.int .i64 ar) ∧ W.cell? ⟨b, o + k * 3 + 2, none⟩ = some (.slice A1 rs.length c1) ∧ W.cell? ⟨b', o' + k * 3, none⟩ = some (.string nm') ∧ W.cell? ⟨b', o' + k * 3 + 1, none⟩ = some (.int .i64 ar') ∧ W.cell? ⟨b', o' + k * 3 + 2, none⟩ = some (.slice A2 rs'.length c2) ∧ Below wr.heap.size wr W)
            (first | assumption | exact KB.out _ (by assumption))
            (first | (go_at_call 19; ((with_reducible refine (KE'.out _ (by assumption)).mono ?_); rintro e w1 ⟨rfl, b1⟩; have bz := bel_step (by assumption) b1)))
          have HF := Lib.hid (KN.out.next bz).bel
          clear bz KN
          go_wp2_with fail
          go_ret
          exact ⟨by rw [hfin.out] <;> rfl, HF.out⟩
      · obtain rfl : k = n := by omega
        have hfin : Hid (decide (ts = ts') = true) := by
          show decide (ts = ts') = true
          rw [decide_eq_true_eq]
          have h1 := hpre.out
          rwa [List.take_of_length_le (Nat.le_of_eq hr.1), List.take_of_length_le (Nat.le_of_eq hr'.1)] at h1
        go_wp2_with fail
        go_ret
        exact ⟨by rw [hfin.out] <;> rfl, hbel.out⟩
  · have hfin : Hid (decide (ts = ts') = false) := by
      show decide (ts = ts') = false
      rw [decide_eq_false_iff_not]
      rintro rfl
      exact hne (hr.1.symm.trans hr'.1)
    have hbq : ((n : Int) != (n' : Int)) = true := by simp; omega
    clear hne
    go_enter Tryz.func27, Tryz.ntmps27
    go_wp2_with fail
    go_ret
    exact ⟨by rw [hfin.out] <;> rfl, kn0.bel⟩

end

section
open Go.RowKit Go.Deep

/-- The text of a table. -/
def fmtB (t : Tab) : ByteArray := fmtT t.nm t.ar t.rs

/-- The tables' text. -/
def dbL (ts : List Tab) : List UInt8 := Lib.join (ts.map fun t => (fmtB t).data.toList) [59]

/-- The text of a database. -/
def fmtD (ts : List Tab) : ByteArray := if validD ts = true then ⟨(dbL ts).toArray⟩ else ⟨#[]⟩

theorem fmtD_no {ts : List Tab} (h : validD ts = false) : fmtD ts = ⟨#[]⟩ := by rw [fmtD, if_neg (by rw [h]; simp)]

theorem fmtD_yes {ts : List Tab} (h : validD ts = true) : fmtD ts = ⟨(dbL ts).toArray⟩ := by rw [fmtD, if_pos h]

theorem validD_len {ts : List Tab} (h : validD ts = true) : ts.length ≤ 6 := by
  unfold validD at h
  simp only [Bool.and_eq_true, decide_eq_true_eq] at h
  exact h.2

theorem validD_all {ts : List Tab} (h : validD ts = true) : ∀ t ∈ ts, validTb t = true := by
  unfold validD at h
  simp only [Bool.and_eq_true, decide_eq_true_eq, List.all_eq_true] at h
  exact h.1.1

theorem fmtB_size {t : Tab} (h : validTb t = true) : (fmtB t).size ≤ 35 := fmtT_size h

theorem validD_pos {ts : List Tab} (h : validD ts = false) : 0 < ts.length := by
  cases ts with
  | nil => exact absurd h (by decide +kernel)
  | cons t ts => simp

theorem dbL_snoc {ts : List Tab} {k : Nat} {t : Tab} (h : ts[k]? = some t) (hk : 0 < k) : dbL (ts.take (k + 1)) = dbL (ts.take k) ++ 59 :: (fmtB t).data.toList := by
  have hl := (List.getElem?_eq_some_iff.1 h).1
  unfold dbL
  rw [List.take_add_one, h, List.map_append]
  exact join_snoc 59 _ _ (by
    intro e
    have h0 : ((ts.take k).map fun t => (fmtB t).data.toList).length = 0 := by rw [e]; rfl
    rw [List.length_map, List.length_take] at h0
    omega)

theorem dbL_one {ts : List Tab} {t : Tab} (h : ts[0]? = some t) : dbL (ts.take (0 + 1)) = (fmtB t).data.toList := by
  unfold dbL
  rw [List.take_add_one, h]
  exact Lib.join_one _ _

theorem dbL_lens : ∀ l : List Tab, (∀ t ∈ l, (fmtB t).size ≤ 35) → Lib.lens (l.map fun t => (fmtB t).data.toList) ≤ 35 * l.length := by
  intro l
  induction l with
  | nil => intro _; simp [Lib.lens]
  | cons a l ih =>
    intro h
    have h1 := ih fun r hr => h r (by simp [hr])
    have h2 := h a (by simp)
    have h3 : (fmtB a).data.toList.length = (fmtB a).size := Array.length_toList
    simp only [Lib.lens, List.map_cons, List.sum_cons, List.length_cons] at h1 ⊢
    omega

theorem dbL_len {ts : List Tab} (h : ∀ t ∈ ts, (fmtB t).size ≤ 35) : (dbL ts).length ≤ 36 * ts.length := by
  have h1 := join_len 59 (ts.map fun t => (fmtB t).data.toList)
  have h2 := dbL_lens ts h
  rw [List.length_map] at h1
  unfold dbL
  omega

/-- k tables are written. -/
def FdInv (ts : List Tab) (k : Nat) (V : ByteArray) : Prop := V = ⟨(dbL (ts.take k)).toArray⟩ ∧ V.size ≤ 36 * k

theorem FdInv.start {ts : List Tab} : FdInv ts 0 ⟨#[]⟩ := by
  refine ⟨?_, by simp [ByteArray.size]⟩
  show _ = (⟨(Lib.join [] [59]).toArray⟩ : ByteArray)
  rw [Lib.join_nil]

theorem FdInv.one {V : ByteArray} {ts : List Tab} {t : Tab} (h : FdInv ts 0 V) (hr : ts[0]? = some t) (h3 : (fmtB t).size ≤ 35) : FdInv ts (0 + 1) (V ++ fmtB t) := by
  obtain ⟨rfl, hs⟩ := h
  refine ⟨?_, ?_⟩
  · rw [dbL_one hr]
    show (⟨(Lib.join [] [59]).toArray⟩ : ByteArray) ++ _ = _
    rw [Lib.join_nil]
    apply ByteArray.ext
    simp
  · rw [bsize_append]
    omega

theorem FdInv.more {V : ByteArray} {ts : List Tab} {t : Tab} {k : Nat} (h : FdInv ts k V) (hr : ts[k]? = some t) (hk : 0 < k) (h3 : (fmtB t).size ≤ 35) : FdInv ts (k + 1) ((V ++ ⟨#[59]⟩) ++ fmtB t) := by
  obtain ⟨rfl, hs⟩ := h
  refine ⟨?_, ?_⟩
  · rw [dbL_snoc hr hk]
    apply ByteArray.ext
    simp
  · rw [bsize_append, bsize_append]
    have e1 : (⟨#[59]⟩ : ByteArray).size = 1 := rfl
    omega

set_option maxRecDepth 100000 in
set_option maxHeartbeats 2000000 in
theorem spec_FormatDatabase_any (A : Option Addr) (n c B : Nat) (ts : List Tab) (w : World) (hr : RdT w B A n ts) (hB : B ≤ w.heap.size) (hn : n ≤ 1000000000) (hs : sumT ts ≤ 4294967296) :
    Calls Tryz.prog 32 #[.agg #[.slice A n c]] w fun e w' => e = .returned (.string (fmtD ts)) ∧ Below w.heap.size w w' := by
  have HL := Lib.hid hr.1
  have hsm := Lib.hid hs
  clear hs
  have kn0 : Kn w [(w.heap.size, 0, .slice A n c)] (w.alloc (.cells #[.slice A n c] 42)) := by
    simpa using (Kn.start w).box1 (.slice A n c) 42
  have KV : Hid (∀ W, Below w.heap.size w W → Calls Tryz.prog 33 #[.agg #[.slice A n c]] W fun e w' => e = .returned (.bool (validD ts)) ∧ Below W.heap.size W w') := fun W b =>
    spec_IsValidDatabase_any A n c B ts W (RdT.belowB hr b hB) (Nat.le_trans hB b.size) (by omega) (by have := hsm.out; omega)
  cases hv : validD ts with
  | false =>
    have hn0 : 0 < n := by have := validD_pos hv; have := HL.out; omega
    have hf := Lib.hid (fmtD_no hv)
    rw [hv] at KV
    clear hv hr
    have g2 : (0 : Int) < (n : Int) := by omega
    go_enter Tryz.func32, Tryz.ntmps32
    go_wp2_with fail
    generalize w.alloc (.cells #[.slice A n c] 42) = w0 at kn0 ⊢
    go_loopw [3, 4] (fun v i wr => i = .int .i64 0 ∧ v = .string ⟨#[]⟩ ∧ Kn w [(w.heap.size, 0, .slice A n c)] wr) (fun _ _ _ => 0)
    case atStart => exact ⟨rfl, rfl, kn0⟩
    case round =>
      obtain ⟨rfl, rfl, kn⟩ := hrel
      clear kn0
      obtain ⟨x0, _⟩ := kn.all
      go_wp2_with fail
      refine (KV.out _ kn.bel).mono ?_
      rintro e w1 ⟨rfl, hb1⟩
      have HF := Lib.hid (kn.next hb1).bel
      clear hb1 kn x0
      go_wp2_with fail
      go_ret
      exact ⟨by rw [hf.out] <;> rfl, HF.out⟩
  | true =>
    have hn6 : n ≤ 6 := by have := validD_len hv; have := HL.out; omega
    have hf0 := Lib.hid (fmtD_yes hv)
    have HA := Lib.hid (validD_all hv)
    rw [hv] at KV
    clear hv
    go_enter Tryz.func32, Tryz.ntmps32
    go_wp2_with fail
    generalize w.alloc (.cells #[.slice A n c] 42) = w0 at kn0 ⊢
    go_loopw [3, 4] (fun v i wr => ∃ (k : Nat) (V : ByteArray), k ≤ n ∧ V.size ≤ 216 ∧ i = .int .i64 k ∧ v = .string V ∧ Kn w [(w.heap.size, 0, .slice A n c)] wr ∧ Hid (FdInv ts k V)) (fun _ i _ => n - (intOf i).toNat)
    case atStart => exact ⟨0, _, by omega, by simp [ByteArray.size], rfl, rfl, kn0, FdInv.start⟩
    case round =>
      obtain ⟨k, V, hk, hV, rfl, rfl, kn, hinv⟩ := hrel
      clear kn0
      obtain ⟨x0, _⟩ := kn.all
      by_cases hlt : k < n
      · have g1 : (0 : Int) ≤ (k : Int) := by omega
        have g2 : (k : Int) < (n : Int) := by omega
        have g3 : (k : Int).toNat = k := by omega
        go_wp2_with fail
        refine (KV.out _ kn.bel).mono ?_
        rintro e W ⟨rfl, hb0⟩
        have kn2 := kn.next hb0
        clear x0 hb0 kn
        obtain ⟨x0, _⟩ := kn2.all
        have HW := Lib.hid kn2.bel
        have KN := Lib.hid kn2
        clear kn2
        have hr2 := RdT.belowB hr HW.out hB
        obtain ⟨b, o, t, A1, c1, rfl, hb, hx, hc0, hc1, hc2, hrd, hm, _⟩ := RdT.at_ hr2 hlt
        have hv := HA.out t (List.mem_of_getElem? hx)
        have h35 := fmtB_size hv
        have KT : Hid (Calls Tryz.prog 73 #[.agg #[.string t.nm, .int .i64 t.ar, .slice A1 t.rs.length c1]] W fun e w' => e = .returned (.string (fmtB t)) ∧ Below W.heap.size W w') :=
          spec_FormatTable_any t.nm t.ar A1 t.rs.length c1 B t.rs W hrd (Nat.le_trans hB HW.out.size) (by have := (validT_vt hv).len; omega)
        by_cases hk0 : k = 0
        · subst hk0
          have hcz := hc0
          rw [Nat.zero_mul, Nat.add_zero] at hcz hc0 hc1 hc2
          have hst := Lib.hid (hinv.out.one hx h35)
          have hsV : Hid ((V ++ fmtB t).size ≤ 216) := by show _ ≤ _; have := hst.out.2; omega
          clear hx hrd hm hr2 hv
          generalize fmtB t = D at KT hst hsV h35
          obtain ⟨nm, ar, rs⟩ := t
          go_wp2_with fail
          refine KT.out.mono ?_
          rintro e w1 ⟨rfl, hb1⟩
          have kn3 := KN.out.next hb1
          go_wp2_with fail
          refine ⟨⟨0 + 1, V ++ D, by omega, hsV.out, by go_num, rfl, kn3, hst⟩, ?_⟩
          simp [intOf]
          omega
        · have hk1 : 0 < k := by omega
          have hst := Lib.hid (hinv.out.more hx hk1 h35)
          have hsV : Hid (((V ++ ⟨#[59]⟩) ++ fmtB t).size ≤ 216) := by show _ ≤ _; have := hst.out.2; omega
          have hsV2 : (V ++ ⟨#[59]⟩ : ByteArray).size ≤ 217 := by rw [bsize_append]; have : (⟨#[59]⟩ : ByteArray).size = 1 := rfl; omega
          clear hx hrd hm hr2 hv hk0
          generalize fmtB t = D at KT hst hsV h35
          obtain ⟨nm, ar, rs⟩ := t
          go_wp2_with fail
          refine KT.out.mono ?_
          rintro e w1 ⟨rfl, hb1⟩
          have kn3 := KN.out.next hb1
          go_wp2_with fail
          refine ⟨⟨k + 1, (V ++ ⟨#[59]⟩) ++ D, by omega, hsV.out, by go_num, rfl, kn3, hst⟩, ?_⟩
          simp [intOf]
          omega
      · obtain rfl : k = n := by omega
        have hf : Hid (fmtD ts = V) := by show _ = _; rw [hf0.out, hinv.out.1, List.take_of_length_le (Nat.le_of_eq HL.out)]
        have HF := Lib.hid kn.bel
        clear kn
        go_wp2_with fail
        go_ret
        exact ⟨by rw [hf.out] <;> rfl, HF.out⟩

end

section
open Go.RowKit Go.Deep

set_option maxRecDepth 100000 in
set_option maxHeartbeats 2000000 in
theorem impl_FormatDatabase_any (A : Option Addr) (n c B : Nat) (ts : List Tab) (w : World) (ht : Tb w) (hr : RdT w B A n ts) (hB : B ≤ w.heap.size) (hn : n ≤ 1000000000) (hs : sumT ts ≤ 4294967296) :
    Calls Tryz.prog 30 #[.agg #[.slice A n c]] w fun e w' => e = .returned (.string (fmtD ts)) ∧ Below w.heap.size w w' := by
  obtain ⟨i0, hi, hz0, hz1, hz2⟩ := info_parts info_str
  have HL := Lib.hid hr.1
  have hsm := Lib.hid hs
  clear hs
  have kn0 : Kn w [(w.heap.size, 0, .slice A n c)] (w.alloc (.cells #[.slice A n c] 42)) := by
    simpa using (Kn.start w).box1 (.slice A n c) 42
  have KV : Hid (∀ W, Below w.heap.size w W → Calls Tryz.prog 24 #[.agg #[.slice A n c]] W fun e w' => e = .returned (.bool (validD ts)) ∧ Below W.heap.size W w') := fun W b =>
    impl_IsValidDatabase_any A n c B ts W (RdT.belowB hr b hB) (Nat.le_trans hB b.size) (by omega) (by have := hsm.out; omega)
  cases hv : validD ts with
  | false =>
    have hf := Lib.hid (fmtD_no hv)
    rw [hv] at KV
    clear hv hr
    obtain ⟨x0, _⟩ := kn0.all
    go_enter Tryz.func30, Tryz.ntmps30
    go_wp2_with fail
    generalize w.alloc (.cells #[.slice A n c] 42) = w0 at kn0 x0 ⊢
    refine (KV.out _ kn0.bel).mono ?_
    rintro e w1 ⟨rfl, b1⟩
    have b2 := (kn0.next b1).bel
    clear b1
    go_wp2_with fail
    go_ret
    exact ⟨by rw [hf.out] <;> rfl, b2⟩
  | true =>
    have hn6 : n ≤ 6 := by have := validD_len hv; have := HL.out; omega
    have hf0 := Lib.hid (fmtD_yes hv)
    have HA := Lib.hid (validD_all hv)
    rw [hv] at KV
    clear hv
    obtain ⟨x0, _⟩ := kn0.all
    go_enter Tryz.func30, Tryz.ntmps30
    go_wp2_with fail
    generalize w.alloc (.cells #[.slice A n c] 42) = w0 at kn0 x0 ⊢
    refine (KV.out _ kn0.bel).mono ?_
    rintro e w1 ⟨rfl, b1⟩
    have kn1 := kn0.next b1
    clear b1 kn0 x0 KV
    obtain ⟨x0, _⟩ := kn1.all
    have HB1 := Lib.hid kn1.bel
    have l1 : w.heap.size < w1.heap.size := (kn1.cell (w.heap.size, 0, .slice A n c) (by simp)).1
    have ne1 : ¬ w.heap.size = w1.heap.size := by omega
    clear kn1
    go_wp2
    go_loopw [3, 13] (fun v i wr => ∃ (k : Nat) (p : List ByteArray), k ≤ n ∧ p.length ≤ k ∧ i = .int .i64 k ∧ wr.ownsRow w1.heap.size 9 1 v p.length (p.map Value.string) ∧ Below w1.heap.size w1 wr ∧ Hid (p = (ts.take k).map fmtB)) (fun _ i _ => n - (intOf i).toNat)
    case atStart => exact ⟨0, [], by omega, by simp, rfl, World.ownsRow_made (base := w1.heap.size) (e := 9) (size := 1) w1 #[] 0 (Nat.le_refl _) (by unfold maxLen; omega) rfl, (Below.refl _ _).alloc (Nat.le_refl _) _, rfl⟩
    case round =>
      obtain ⟨k, p, hk, hpk, rfl, hown, hbel, hinv⟩ := hrel
      have hsz := hbel.size
      have HW := Lib.hid (HB1.out.trans (hbel.mono HB1.out.size))
      by_cases hlt : k < n
      · have hr2 := RdT.belowB hr HW.out hB
        obtain ⟨b, o, t, A1, c1, rfl, hb, hx, hc0, hc1, hc2, hrd, hm, _⟩ := RdT.at_ hr2 hlt
        have hv := HA.out t (List.mem_of_getElem? hx)
        have KT : Hid (∀ W, Below wr.heap.size wr W → Calls Tryz.prog 17 #[.agg #[.string t.nm, .int .i64 t.ar, .slice A1 t.rs.length c1]] W fun e w' => e = .returned (.string (fmtB t)) ∧ Below W.heap.size W w') := fun W bw =>
          impl_FormatTable_any t.nm t.ar A1 t.rs.length c1 B t.rs W (ht.on (HW.out.trans (bw.mono HW.out.size))) (RdR.belowB hrd bw (Nat.le_trans hB HW.out.size)) (Nat.le_trans hB (Nat.le_trans HW.out.size bw.size)) (by have := (validT_vt hv).len; omega)
        have hst : Hid (p ++ [fmtB t] = (ts.take (k + 1)).map fmtB) := by show _ = _; rw [List.take_add_one, hx, List.map_append, hinv.out]; rfl
        have g1 : (0 : Int) ≤ (k : Int) := by omega
        have g2 : (k : Int) < (n : Int) := by omega
        have g3 : (k : Int).toNat = k := by omega
        clear hx hrd hm hr2 hv
        generalize fmtB t = D at KT hst
        obtain ⟨nm, ar, rs⟩ := t
        go_wp2_with fail
        refine (KT.out _ ((Below.refl _ _).alloc (Nat.le_refl _) _)).mono ?_
        rintro e w2 ⟨rfl, hb1⟩
        have hbelA := hbel.alloc (Nat.le_trans (Nat.le_refl _) hsz) (.cells #[.string nm, .int .i64 ar, .slice A1 rs.length c1] 26)
        have hbel1 := below_chain hbelA hb1 hbelA.size
        have hsz1 := hbel1.size
        have hown1 : w2.ownsRow w1.heap.size 9 1 _ p.length (p.map Value.string) := own_keep (hown.alloc _) fun g hg => hb1.block g ((hown.alloc _).lt g hg).2
        clear hown hb1 hbel hbelA x0 hc0 hc1 hc2 KT
        go_wp2_with (at_builtin; refine wpList_append_lies _ rfl _ _ _ rfl w1.heap.size 9 i0 _ 1 16 Tryz.underlying69 hi hz0 hz1 hz2 rfl (by omega) _ p.length _ rfl (hown1.alloc _) ⟨w2.heap.size, 0, none⟩ 1 1 [.string D] rfl rfl (World.news_of_block (cs := #[.string D]) (t := 9) (fr := (0, 0)) (heap_alloc_new w2 _)) (by simp [Value.oneCell']) (by omega) (by unfold maxLen; omega) (by omega) (by simp; omega) (w2.heap.size + 1) (by simp) ?_; intro g cap w3 hown2 hgrow _ _)
        have hown3 : w3.ownsRow w1.heap.size 9 1 (.slice (some ⟨g, 0, none⟩) (p.length + 1) cap) (p ++ [D]).length ((p ++ [D]).map Value.string) := by simpa using hown2
        clear hown2
        refine ⟨⟨k + 1, p ++ [D], by omega, by simp; omega, by go_num, hown3, (hbel1.alloc (by omega) _).grown hgrow (by simp; omega) (fun j hj => (hown1.lt j hj).1), hst⟩, ?_⟩
        simp [intOf]
        omega
      · obtain rfl : k = n := by omega
        have hp : Hid (p.map (·.data.toList) = ts.map fun t => (fmtB t).data.toList) := by
          show _ = _
          rw [hinv.out, List.take_of_length_le (Nat.le_of_eq HL.out), List.map_map]
          rfl
        have hlen : Hid ((Lib.join (p.map (·.data.toList)) (⟨#[59]⟩ : ByteArray).data.toList).length ≤ 140737488355328) := by
          show _ ≤ _
          rw [hp.out]
          have h1 := dbL_len fun t ht => fmtB_size (HA.out t ht)
          have h3 := HL.out
          show (dbL ts).length ≤ _
          omega
        have hf : Hid ((⟨(Lib.join (p.map (·.data.toList)) (⟨#[59]⟩ : ByteArray).data.toList).toArray⟩ : ByteArray) = fmtD ts) := by show _ = _; rw [hf0.out, hp.out]; rfl
        rcases hown.2 with ⟨rfl, h0⟩ | ⟨g, cap, cur, rfl, hb, hg, hnc, hcm, hsize, htk⟩
        · have hp0 : p = [] := List.length_eq_zero_iff.1 h0
          subst hp0
          go_wp2_with fail
          refine (Tryz.strings_Join_none none 0 ⟨#[59]⟩ _).mono ?_
          rintro e w2 ⟨rfl, rfl⟩
          go_wp2_with fail
          go_ret
          exact ⟨by rw [← hf.out] <;> rfl, HW.out⟩
        · have hlt := (Array.getElem?_eq_some_iff.1 hg).1
          have hcells : Hid (∀ (j : Nat) x, p[j]? = some x → wr.cell? ⟨g, 0 + j, none⟩ = some (.string x)) := fun j x hx => by
            rw [Nat.zero_add, cell_of_row wr g j cur _ (0, 0) hg]
            have hj : j < p.length := (List.getElem?_eq_some_iff.1 hx).1
            have h1 : (cur.toList.take (p.length * 1))[j]? = (p.map Value.string)[j]? := by rw [htk]
            rw [List.getElem?_take, if_pos (by omega), List.getElem?_map, hx] at h1
            simpa using h1
          clear hg htk
          go_wp2_with fail
          refine (Tryz.strings_Join g 0 cap p ⟨#[59]⟩ _ hcells.out hlt (by omega) hnc hlen.out).mono ?_
          rintro e w2 ⟨rfl, hb1⟩
          have hb2 := HW.out.trans (hb1.mono HW.out.size)
          clear hb1
          go_wp2_with fail
          go_ret
          exact ⟨by rw [← hf.out] <;> rfl, hb2⟩

end

section
open Go.RowKit Go.Deep

theorem linv_start (w : World) (a b : Value) (t t' : TypeId) : LInv w w.heap.size w.heap.size (w.heap.size + 1) (w.heap.size + 1 + 1) (.string ⟨#[]⟩) (.int .i64 0) (.slice none 0 0) a b [] (.slice none 0 0)
    ((w.alloc (.cells #[.string ⟨#[]⟩, .int .i64 0, .slice none 0 0] t)).alloc (.cells #[a, b, .slice none 0 0] t')) := by
  refine ⟨OwnR.nil _ _ _, ((Below.refl _ _).alloc (Nat.le_refl _) _).alloc (by simp) _, by simp, by omega, by omega, by omega, by omega, by omega, by omega, by simp [go_sem], by simp [go_sem], by simp [go_sem], by simp [go_sem], by simp [go_sem], by simp [go_sem], by simp [go_sem], fun i hi => ?_⟩
  have : i = 0 ∨ i = 1 ∨ i = 2 := by omega
  rcases this with rfl | rfl | rfl <;> simp [go_sem]

/-- While there are no rows yet, the bound may rise. -/
theorem LInv.lift {w W : World} {tb rb xb lo : Nat} {t0 t1 t2 x0 x1 : Value} (h : LInv w tb rb xb lo t0 t1 t2 x0 x1 [] (.slice none 0 0) W) : LInv w tb rb xb W.heap.size t0 t1 t2 x0 x1 [] (.slice none 0 0) W :=
  ⟨OwnR.nil _ _ _, h.bel, Nat.le_refl _, h.hw, Nat.lt_of_lt_of_le h.htb h.size, Nat.lt_of_lt_of_le h.hrb h.size, Nat.lt_of_lt_of_le h.hxb h.size, h.ntb, h.nrb, h.c0, h.c1, h.c2, h.x0, h.x1, h.x2, h.fx, h.res⟩

end

section
open Go.RowKit Go.Deep
open Go.RowKit Go.Deep
open Go.RowKit Go.Deep

def tabOf (r : TabR) : Tab := ⟨r.nm, r.ar, r.rs⟩

/-- The tables of the words. -/
def tabsP (ws : List ByteArray) : List Tab := ws.map fun b => tabOf (parT b)

/-- What a text reads as. -/
def parD (s : ByteArray) : List Tab × Bool := if s.size = 0 then ([], true) else if validD (tabsP (cutB 59 s)) = true then (tabsP (cutB 59 s), true) else ([], false)

theorem parD_nil {s : ByteArray} (h : s.size = 0) : parD s = ([], true) := by rw [parD, if_pos h]

theorem parD_yes {s : ByteArray} (h : ¬ s.size = 0) (hv : validD (tabsP (cutB 59 s)) = true) : parD s = (tabsP (cutB 59 s), true) := by rw [parD, if_neg h, if_pos hv]

theorem parD_no {s : ByteArray} (h : ¬ s.size = 0) (hv : validD (tabsP (cutB 59 s)) = false) : parD s = ([], false) := by rw [parD, if_neg h, if_neg (by rw [hv]; simp)]

theorem parT_ok {b : ByteArray} (h : (parT b).ok = true) : fmtB (tabOf (parT b)) = b := by
  by_cases h3 : 3 ≤ b.size ∧ fmtT (nmT b) (arT b) (rowsS (b.extract 3 b.size)) = b
  · rw [parT_yes h3.1 h3.2]; exact h3.2
  · rw [parT, if_neg h3] at h; cases h

theorem parT_bad {b : ByteArray} (h : (parT b).ok = false) : validTb (tabOf (parT b)) = false := by
  by_cases h3 : 3 ≤ b.size ∧ fmtT (nmT b) (arT b) (rowsS (b.extract 3 b.size)) = b
  · rw [parT_yes h3.1 h3.2] at h; cases h
  · rw [parT, if_neg h3]; decide +kernel

theorem sumL_threeP : ∀ l : List (List Int), (∀ r ∈ l, r.length ≤ 3) → sumL l ≤ 3 * l.length := by
  intro l
  induction l with
  | nil => intro _; simp [sumL]
  | cons a l ih =>
    intro h
    have h1 := ih fun r hr => h r (by simp [hr])
    have h2 := h a (by simp)
    simp only [sumL, List.map_cons, List.sum_cons, List.length_cons] at h1 ⊢
    omega

theorem tabOf_small (b : ByteArray) : (tabOf (parT b)).nm.size + ((tabOf (parT b)).rs.length + sumL (tabOf (parT b)).rs) ≤ 40 := by
  cases ho : (parT b).ok with
  | true =>
    have h3 : 3 ≤ b.size ∧ fmtT (nmT b) (arT b) (rowsS (b.extract 3 b.size)) = b := by
      by_cases h3 : 3 ≤ b.size ∧ fmtT (nmT b) (arT b) (rowsS (b.extract 3 b.size)) = b
      · exact h3
      · rw [parT, if_neg h3] at ho; cases ho
    have hv := validT_vt (fmtT_valid h3.2 h3.1)
    have h4 := sumL_threeP (rowsS (b.extract 3 b.size)) fun r hr => by have := (hv.row r hr).1; have := hv.ar3; omega
    rw [parT_yes h3.1 h3.2]
    show (nmT b).size + ((rowsS (b.extract 3 b.size)).length + sumL (rowsS (b.extract 3 b.size))) ≤ 40
    have := hv.nm1
    have := hv.len
    omega
  | false =>
    have h3 : ¬ (3 ≤ b.size ∧ fmtT (nmT b) (arT b) (rowsS (b.extract 3 b.size)) = b) := fun h3 => by rw [parT_yes h3.1 h3.2] at ho; cases ho
    rw [parT, if_neg h3]
    decide +kernel

theorem sumT_tabsP : ∀ ws : List ByteArray, sumT (tabsP ws) ≤ 40 * ws.length
  | [] => by simp [tabsP, sumT]
  | b :: ws => by
    have h1 := sumT_tabsP ws
    have h2 := tabOf_small b
    show sumT (tabOf (parT b) :: tabsP ws) ≤ _
    rw [sumT_cons, List.length_cons]
    omega

theorem tabsP_get {ws : List ByteArray} {k : Nat} {x : ByteArray} (h : ws[k]? = some x) : (tabsP ws)[k]? = some (tabOf (parT x)) := by simp [tabsP, h]

theorem tabsP_len (ws : List ByteArray) : (tabsP ws).length = ws.length := by simp [tabsP]

theorem tabsP_take {ws : List ByteArray} {k : Nat} {x : ByteArray} (h : ws[k]? = some x) : (tabsP ws).take k ++ [tabOf (parT x)] = (tabsP ws).take (k + 1) := by
  rw [List.take_add_one, tabsP_get h]
  rfl

theorem tabsP_bad {ws : List ByteArray} {k : Nat} {x : ByteArray} (h : ws[k]? = some x) (ho : (parT x).ok = false) : validD (tabsP ws) = false := validD_no (tabsP_get h) (parT_bad ho)

theorem validD_long {ts : List Tab} (h : 6 < ts.length) : validD ts = false := by
  cases hv : validD ts with
  | false => rfl
  | true => have := validD_len hv; omega

theorem fmtD_tabsP {s : ByteArray} (hv : validD (tabsP (cutB 59 s)) = true) : fmtD (tabsP (cutB 59 s)) = s := by
  have e : (tabsP (cutB 59 s)).map (fun t => (fmtB t).data.toList) = cutL 59 s.data.toList := by
    have e1 : (tabsP (cutB 59 s)).map (fun t => (fmtB t).data.toList) = (cutB 59 s).map (fun b => b.data.toList) := by
      rw [tabsP, List.map_map]
      apply List.map_congr_left
      intro b hb
      obtain ⟨k, hk⟩ := List.mem_iff_getElem?.1 hb
      have ho : (parT b).ok = true := by
        cases ho : (parT b).ok with
        | true => rfl
        | false => rw [tabsP_bad hk ho] at hv; cases hv
      show (fmtB (tabOf (parT b))).data.toList = _
      rw [parT_ok ho]
    rw [e1, cutB, List.map_map]
    conv => rhs; rw [← List.map_id (cutL 59 s.data.toList)]
    apply List.map_congr_left
    intro p _
    simp
  rw [fmtD_yes hv, dbL, e, join_cutL 59 _ _ (Nat.le_refl _)]

theorem parD_small (s : ByteArray) : (parD s).1.length ≤ 1048576 ∧ sumT (parD s).1 ≤ 1048576 := by
  by_cases h0 : s.size = 0
  · rw [parD_nil h0]; exact ⟨by simp, by simp [sumT]⟩
  · cases hv : validD (tabsP (cutB 59 s)) with
    | false => rw [parD_no h0 hv]; exact ⟨by simp, by simp [sumT]⟩
    | true =>
      rw [parD_yes h0 hv]
      have h1 := validD_len hv
      have h2 := sumT_tabsP (cutB 59 s)
      have h3 := tabsP_len (cutB 59 s)
      exact ⟨by show (tabsP (cutB 59 s)).length ≤ _; omega, by show sumT (tabsP (cutB 59 s)) ≤ _; omega⟩

/-- The known cells of a row of strings. -/
def rowK (G : Nat) (ws : List ByteArray) : List (Nat × Nat × Value) := ws.zipIdx.map fun x => (G, x.2, .string x.1)

theorem rowK_mem {G k : Nat} {ws : List ByteArray} {x : ByteArray} (h : ws[k]? = some x) : (G, k, Value.string x) ∈ rowK G ws :=
  List.mem_map.2 ⟨(x, k), List.mk_mem_zipIdx_iff_getElem?.2 h, rfl⟩

theorem rowK_at {G : Nat} {ws : List ByteArray} {t : Nat × Nat × Value} (h : t ∈ rowK G ws) : ∃ k x, ws[k]? = some x ∧ t = (G, k, Value.string x) := by
  obtain ⟨⟨x, k⟩, hx, rfl⟩ := List.mem_map.1 h
  exact ⟨k, x, List.mk_mem_zipIdx_iff_getElem?.1 hx, rfl⟩

theorem frozen_of_row (w : World) (g j : Nat) (cur : Array Value) (t : TypeId) (h : w.heap[g]? = some (.cells cur t (0, 0))) : w.frozen? ⟨g, j, none⟩ = false := by
  unfold World.frozen?
  simp [h]

theorem kn_row {w W : World} {L : List (Nat × Nat × Value)} {G : Nat} {ws : List ByteArray} {cur : Array Value} {t : TypeId} (h : Kn w L W) (hg : W.heap[G]? = some (.cells cur t (0, 0))) (hc : ∀ j x, ws[j]? = some x → W.cell? ⟨G, j, none⟩ = some (.string x)) :
    Kn w (L ++ rowK G ws) W := by
  refine ⟨h.bel, fun t ht => ?_, fun t ht => ?_⟩
  · rcases List.mem_append.1 ht with ht | ht
    · exact h.cell t ht
    · obtain ⟨k, x, hx, rfl⟩ := rowK_at ht
      exact ⟨(Array.getElem?_eq_some_iff.1 hg).1, hc k x hx⟩
  · rcases List.mem_append.1 ht with ht | ht
    · exact h.frz t ht
    · obtain ⟨k, x, hx, rfl⟩ := rowK_at ht
      exact frozen_of_row W G k cur _ hg

set_option maxRecDepth 100000 in
set_option maxHeartbeats 4000000 in
theorem impl_ParseDatabase_any (s : ByteArray) (w : World) (hs : s.size ≤ 1048576) (ht : Tb w) (hmx : Mx w) :
    Calls Tryz.prog 31 #[.string s] w (DbBool (parD s) w) := by
  obtain ⟨i1, hi1, hz0, hz1, hz2⟩ := info_parts info_tab
  by_cases h0 : s.size = 0
  · have hf := Lib.hid (parD_nil h0)
    have hz : s = ⟨#[]⟩ := str_of (List.length_eq_zero_iff.1 (by simpa using h0))
    subst hz
    clear h0
    go_enter Tryz.func31, Tryz.ntmps31
    go_wp2_with fail
    refine bodyPost_ret (v := .tuple #[.agg #[.slice none 0 0], .bool true]) (by simp [results, Tryz.results31, go_sem, *]) rfl (DbBool.of hf.out (OwnD.nil _ _ _) ?_)
    repeat first | exact Below.refl _ _ | (refine Below.setCell ?_ ?_ _; rotate_left; (simp; try omega)) | (refine Below.alloc ?_ ?_ _; rotate_left; (simp; try omega))
  · have z2 : ¬ s.toList = [] := fun e => h0 (by have := congrArg List.length e; simpa [ByteArray.toList_eq] using this)
    have z0 : (s.toList == []) = false := by simpa using z2
    have z1 : s.toList.isEmpty = false := by simpa using z2
    have hnl : (cutB 59 s).length ≤ 1048577 := by have := cutB_len 59 s; omega
    have HS : Hid (∀ x ∈ cutB 59 s, x.size ≤ 1048576) := fun x hx => Nat.le_trans (cutB_mem hx) hs
    have HY : Hid (validD (tabsP (cutB 59 s)) = true → parD s = (tabsP (cutB 59 s), true)) := fun hv => parD_yes h0 hv
    have HN : Hid (validD (tabsP (cutB 59 s)) = false → parD s = ([], false)) := fun hv => parD_no h0 hv
    have hne : Hid (¬ (cutB 59 s) = []) := fun e => cutL_ne 59 s.data.toList (by unfold cutB at e; exact List.map_eq_nil_iff.1 e)
    have HFS : Hid (validD (tabsP (cutB 59 s)) = true → fmtD (tabsP (cutB 59 s)) = s) := fun hv => fmtD_tabsP hv
    have KC : Hid (∀ W, Mx W → Calls Tryz.prog 72 #[.string s, .string ⟨#[59]⟩] W fun e w' => e = .returned (.slice (some ⟨W.heap.size, 0, none⟩) (cutB 59 s).length (cutB 59 s).length) ∧ w' = W.alloc (.cells ((cutB 59 s).map Value.string).toArray 9)) := fun W m => split_any s 59 W hs m
    clear h0
    generalize cutB 59 s = ws at hnl HS HY HN hne KC HFS
    have kn0 : Kn w [(w.heap.size, 0, .slice none 0 0), (w.heap.size + 1, 0, .slice none 0 0)] ((w.alloc (.cells #[.slice none 0 0] 42)).alloc (.cells #[.slice none 0 0] 42)) := by simpa using ((Kn.start w).box1 (.slice none 0 0) 42).box1 (.slice none 0 0) 42
    have s0 : w.heap.size + 2 ≤ ((w.alloc (.cells #[.slice none 0 0] 42)).alloc (.cells #[.slice none 0 0] 42)).heap.size := by simp
    go_enter Tryz.func31, Tryz.ntmps31
    go_wp2_with fail
    generalize (w.alloc (.cells #[.slice none 0 0] 42)).alloc (.cells #[.slice none 0 0] 42) = w0 at kn0 s0 ⊢
    refine (KC.out _ (hmx.on kn0.bel)).mono ?_
    rintro e w1 ⟨rfl, hw1⟩
    obtain ⟨G, hGe⟩ : ∃ G, w0.heap.size = G := ⟨_, rfl⟩
    have hb1 : Below w0.heap.size w0 w1 := by rw [hw1]; exact (Below.refl _ _).alloc (Nat.le_refl _) _
    have hG : w1.heap[G]? = some (.cells (ws.map Value.string).toArray 9 (0, 0)) := by rw [hw1, ← hGe]; exact heap_alloc_new w0 _
    have hcell : ∀ j x, ws[j]? = some x → w1.cell? ⟨G, j, none⟩ = some (.string x) := fun j x hx => by
      rw [cell_of_row _ G j _ 9 (0, 0) hG]
      simp [hx]
    have hGlo : w0.heap.size ≤ G := by omega
    rw [hGe]
    have kn1 := kn_row (kn0.next hb1) hG hcell
    have hG1 := (Array.getElem?_eq_some_iff.1 hG).1
    have hb1' := hb1.size
    clear hb1 hcell hw1
    obtain ⟨LP, hLP⟩ : ∃ LP, LP = rowK G ws := ⟨_, rfl⟩
    have HLP : Hid (∀ k x, ws[k]? = some x → (G, k, Value.string x) ∈ LP) := fun k x hx => by rw [hLP]; exact rowK_mem hx
    have hd0 : DInv w ((w.heap.size, 0, .slice none 0 0) :: LP) (w.heap.size + 1) w1.heap.size [] (.slice none 0 0) w1 := by
      refine ⟨kn1.sub fun t ht => ?_, OwnD.nil _ _ _, Nat.le_refl _, by omega, by omega, fun t ht => ?_, (kn1.cell (w.heap.size + 1, 0, .slice none 0 0) (by simp)).2, kn1.frz (w.heap.size + 1, 0, .slice none 0 0) (by simp)⟩
      · rcases List.mem_cons.1 ht with rfl | ht
        · simp
        · rw [hLP] at ht
          exact List.mem_append.2 (.inr ht)
      · rcases List.mem_cons.1 ht with rfl | ht
        · exact ⟨by show w.heap.size ≠ _; omega, by show w.heap.size < _; omega⟩
        · rw [hLP] at ht
          obtain ⟨k, x, hx, rfl⟩ := rowK_at ht
          exact ⟨by show G ≠ _; omega, hG1⟩
    have hxlo : w.heap.size + 2 ≤ w1.heap.size := by omega
    have hGw : w.heap.size + 2 ≤ G := by omega
    generalize w1.heap.size = lo at hd0 hG1 hxlo
    obtain ⟨n, hn⟩ : ∃ n, ws.length = n := ⟨_, rfl⟩
    rw [hn] at hnl ⊢
    have HL := Lib.hid hn
    clear hn hLP kn1 hG kn0 KC hb1' s0 hne
    go_wp2_with fail
    go_loopw [16] (fun i wr => ∃ (k : Nat) (v : Value), k ≤ n ∧ i = .int .i64 k ∧ Hid (DInv w ((w.heap.size, 0, .slice none 0 0) :: LP) (w.heap.size + 1) lo ((tabsP ws).take k) v wr)) (fun i _ => n - (intOf i).toNat)
    case atStart => exact ⟨0, .slice none 0 0, by omega, rfl, hd0⟩
    case round =>
      obtain ⟨k, v, hk, rfl, hinv⟩ := hrel
      clear hd0
      have hlk : ((tabsP ws).take k).length = k := by rw [List.length_take, tabsP_len, HL.out]; omega
      by_cases hlt : k < n
      · have g1 : (0 : Int) ≤ (k : Int) := by omega
        have g2 : (k : Int) < (n : Int) := by omega
        have g3 : (k : Int).toNat = k := by omega
        obtain ⟨x, hx⟩ : ∃ x, ws[k]? = some x := ⟨ws[k]'(by rw [HL.out]; omega), List.getElem?_eq_getElem _⟩
        have HX := Lib.hid (tabsP_take hx)
        have HXb := Lib.hid (tabsP_bad hx)
        have hxs := HS.out x (List.mem_of_getElem? hx)
        have hsm := tabOf_small x
        have hc1 := (hinv.out.kn.cell _ (List.mem_cons_of_mem _ (HLP.out k x hx))).2
        have hcG := (hinv.out.kn.cell _ (List.mem_cons_of_mem _ (HLP.out k x hx))).1
        obtain ⟨d0, _⟩ := hinv.out.kn.all
        have x0 := hinv.out.x0
        have HWB := Lib.hid hinv.out.kn.bel
        have KT : Hid (Calls Tryz.prog 18 #[.string x] wr (TabBool (parT x) wr)) := impl_ParseTable_any x wr hxs (ht.on HWB.out) (hmx.on HWB.out)
        obtain ⟨⟨nm, ar, rs, ok⟩, hP⟩ : ∃ P, parT x = P := ⟨_, rfl⟩
        rw [hP] at KT HX hsm
        have hnm : nm.size + (rs.length + sumL rs) ≤ 40 := hsm
        clear hx hP hsm hxs HXb
        go_wp2_with fail
        refine KT.out.mono ?_
        rintro e w2 ⟨A1, c1, rfl, ho2, hb2⟩
        dsimp only at ho2
        obtain ⟨xs, hrow, n2, happ⟩ := hinv.out.app (nm := nm) (ar := ar) (w1 := w2.alloc (.cells #[.string nm, .int .i64 ar, .slice A1 rs.length c1] 26)) (hb2.alloc hb2.size (.cells #[.string nm, .int .i64 ar, .slice A1 rs.length c1] 26)) (ho2.below ((Below.refl w2.heap.size w2).alloc (Nat.le_refl _) (.cells #[.string nm, .int .i64 ar, .slice A1 rs.length c1] 26)) (Nat.le_refl _)) (Nat.le_refl _) (by simp) (by unfold maxLen; omega)
        have hnb : (w2.alloc (.cells #[.string nm, .int .i64 ar, .slice A1 rs.length c1] 26)).heap.size = w2.heap.size + 1 := by simp
        have hgn := heap_alloc_new (w2.alloc (.cells #[.string nm, .int .i64 ar, .slice A1 rs.length c1] 26)) (.cells #[.string nm, .int .i64 ar, .slice A1 rs.length c1] 26)
        have hx1 : w.heap.size + 1 < w2.heap.size := Nat.lt_of_lt_of_le (Nat.lt_of_lt_of_le hinv.out.hxb hinv.out.size) hb2.size
        rw [hnb] at hgn happ
        rw [hlk] at hrow happ
        have n3 : w2.cell? ⟨w.heap.size + 1, 0, none⟩ = some v := (hb2.cell (p := ⟨w.heap.size + 1, 0, none⟩) (Nat.lt_of_lt_of_le hinv.out.hxb hinv.out.size)).trans hinv.out.x0
        have HA := Lib.hid happ
        have HR := Lib.hid hrow
        have HGN := Lib.hid hgn
        clear happ ho2 hb2 hrow hgn n2 d0 x0 hc1 hcG hinv KT
        go_wp2_with (at_builtin; refine wpList_append_lies _ rfl _ _ _ rfl 0 26 i1 _ 3 48 Tryz.underlying40 hi1 hz0 hz1 hz2 rfl (by omega) _ k _ rfl HR.out ⟨w2.heap.size + 1, 0, none⟩ 1 1 [.string nm, .int .i64 ar, .slice A1 rs.length c1] rfl rfl (World.news_of_block (cs := #[.string nm, .int .i64 ar, .slice A1 rs.length c1]) (t := 26) (fr := (0, 0)) HGN.out) (by simp [Value.oneCell']) (by omega) (by unfold maxLen; omega) (by omega) (Nat.zero_le _) (w2.heap.size + 1 + 1) (by simp) ?_; intro g cap w3 hown2 hgrow hat hlt2; obtain ⟨m2, m3, hF, hcl, hsz2⟩ := HA.out g cap w3 hown2 hgrow hat; have HF := Lib.hid hF; clear hown2 hgrow hat hF hcl hsz2)
        rw [show ((tabsP ws).take k ++ [(⟨nm, ar, rs⟩ : Tab)]) = (tabsP ws).take (k + 1) from HX.out] at HF
        refine ⟨⟨k + 1, _, by omega, by go_num, HF⟩, ?_⟩
        simp [intOf]
        omega
      · obtain rfl : k = n := by omega
        have HT : (tabsP ws).take k = tabsP ws := List.take_of_length_le (by rw [tabsP_len, HL.out]; omega)
        rw [HT] at hinv hlk
        have hFs : sumT (tabsP ws) ≤ 4294967296 := by have := sumT_tabsP ws; have := HL.out; omega
        obtain ⟨AF, cF, rfl⟩ := hinv.out.own.form
        rw [hlk] at hinv
        have hD := hinv.out
        clear hinv
        have hszD := hD.size
        obtain ⟨d0, _⟩ := hD.kn.all
        have x0 := hD.x0
        have KVx := Lib.hid (impl_FormatDatabase_any AF k cF wr.heap.size (tabsP ws) wr (ht.on hD.kn.bel) (hD.own.rd hlk) (Nat.le_refl _) (by omega) hFs)
        clear HT hFs hlt
        cases hv : validD (tabsP ws) with
        | true =>
          have HE := Lib.hid (HY.out hv)
          rw [HFS.out hv] at KVx
          have qs : (s.toList == s.toList) = true := by simp
          have qs2 : (s.toList != s.toList) = false := by simp
          clear hv
          go_wp2_with fail
          refine KVx.out.mono ?_
          rintro e w7 ⟨rfl, b7⟩
          have HD7 := Lib.hid (hD.next b7)
          have hszD7 := HD7.out.size
          clear hD b7 d0 x0 KVx
          obtain ⟨d0, _⟩ := HD7.out.kn.all
          obtain ⟨f0, _⟩ := HD7.out.kn.fall
          have x0 := HD7.out.x0
          go_wp2_with fail
          refine bodyPost_ret (v := .tuple #[.agg #[.slice AF k cF], .bool true]) (by simp [results, Tryz.results31, go_sem, *]) rfl (DbBool.of (ts := tabsP ws) HE.out ?_ ?_)
          · refine OwnD.down (lo := lo) (OwnD.wide (hi := w7.heap.size) ?_ (by simp)) (by omega)
            repeat refine OwnD.setOff ?_ (by omega)
            exact HD7.out.own
          · repeat first | exact HD7.out.kn.bel | (refine Below.setCell ?_ ?_ _; rotate_left; (simp; try omega))
        | false =>
          have HE := Lib.hid (HN.out hv)
          rw [fmtD_no hv] at KVx
          have z3 : ([] == s.toList) = false := by cases h : s.toList with | nil => exact absurd h z2 | cons a b => rfl
          have z4 : ([] != s.toList) = true := by cases h : s.toList with | nil => exact absurd h z2 | cons a b => rfl
          have z5 : ¬ [] = s.toList := fun e => z2 e.symm
          clear hv
          go_wp2_with fail
          refine KVx.out.mono ?_
          rintro e w7 ⟨rfl, b7⟩
          have HD7 := Lib.hid (hD.next b7)
          have hszD7 := HD7.out.size
          clear hD b7 d0 x0 KVx
          obtain ⟨d0, _⟩ := HD7.out.kn.all
          obtain ⟨f0, _⟩ := HD7.out.kn.fall
          go_wp2_with fail
          refine bodyPost_ret (v := .tuple #[.agg #[.slice none 0 0], .bool false]) (by simp [results, Tryz.results31, go_sem, *]) rfl (DbBool.of HE.out (OwnD.nil _ _ _) ?_)
          repeat first | exact HD7.out.kn.bel | (refine Below.setCell ?_ ?_ _; rotate_left; (simp; try omega))

end
end Go.Proofs.YtmojjbhjjhdpaaaGreatDoor
