/- slices.IndexFunc at tables, the closure 't.Name == name'. No condition but the size that the laws let in. -/
import Derived.Test.YtimlecfneibjlaaDbOpP
namespace Go.Proofs.Ytimlecfneibjlaa
open Go.RowKit Go.Deep

def idxN (ts : List Tab) (nm : ByteArray) : Int := match ts.findIdx? (fun t => decide (t.nm = nm)) with | some k => k | none => -1
theorem idxN_at {ts : List Tab} {nm : ByteArray} {k : Nat} {t : Tab} (h : ts[k]? = some t) (ht : t.nm = nm) (hno : NoN ts nm k) : idxN ts nm = k := by
  obtain ⟨hk, rfl⟩ := List.getElem?_eq_some_iff.1 h
  have : ts.findIdx? (fun t => decide (t.nm = nm)) = some k := by
    rw [List.findIdx?_eq_some_iff_getElem]
    exact ⟨hk, by simpa using ht, fun j hj => by simpa using hno j ts[j] hj (List.getElem?_eq_getElem (by omega))⟩
  unfold idxN
  rw [this]
theorem idxN_none {ts : List Tab} {nm : ByteArray} {k : Nat} (hno : NoN ts nm k) (hk : ts.length ≤ k) : idxN ts nm = -1 := by
  have : ts.findIdx? (fun t => decide (t.nm = nm)) = none := by
    rw [List.findIdx?_eq_none_iff]
    intro x hx
    simpa using hno.all hk x hx
  unfold idxN
  rw [this]
theorem noN_or (ts : List Tab) (nm : ByteArray) : ∀ k, NoN ts nm k ∨ ∃ j t, ts[j]? = some t ∧ t.nm = nm ∧ NoN ts nm j
  | 0 => .inl (NoN.zero ts nm)
  | k + 1 => by
    rcases noN_or ts nm k with h | h
    · cases hx : ts[k]? with
      | none =>
        refine .inl fun j x hj hjx => ?_
        rcases Nat.lt_or_ge j k with h1 | h1
        · exact h j x h1 hjx
        · obtain rfl : j = k := by omega
          rw [hx] at hjx
          cases hjx
      | some t =>
        by_cases ht : t.nm = nm
        · exact .inr ⟨k, t, hx, ht, h⟩
        · exact .inl (h.step hx ht)
    · exact .inr h

set_option maxRecDepth 100000 in
theorem predLook_any (nm nm' : ByteArray) (ar : Int) (A : Option Addr) (n c g : Nat) (w : World) (hc : w.cell? ⟨g, 0, none⟩ = some (.string nm')) :
    Calls Try.prog 65 #[.agg #[.string nm, .int .i64 ar, .slice A n c], .pointer (some ⟨g, 0, none⟩)] w fun e w' => e = .returned (.bool (decide (nm = nm'))) ∧ Below w.heap.size w w' := by
  have HB := Lib.hid ((Below.refl w.heap.size w).alloc (Nat.le_refl _) (.cells #[.string nm, .int .i64 ar, .slice A n c] 36))
  have hc' := (HB.out.cell (p := ⟨g, 0, none⟩) (World.block_lt_of_cell? w _ hc)).trans hc
  clear hc
  by_cases h : nm = nm'
  · subst h
    go_enter Try.func65, Try.ntmps65
    go_wp2_with fail
    go_ret
    exact ⟨by simp, HB.out⟩
  · have hf : Hid (decide (nm = nm') = false) := decide_eq_false h
    have q1 := str_eq0 h
    clear h
    go_enter Try.func65, Try.ntmps65
    go_wp2_with fail
    go_ret
    exact ⟨by rw [hf.out] <;> rfl, HB.out⟩

set_option maxRecDepth 100000 in
set_option maxHeartbeats 400000 in
theorem indexFuncLook_any (A : Option Addr) (n c g B : Nat) (ts : List Tab) (nm' : ByteArray) (w : World) (hcell : w.cell? ⟨g, 0, none⟩ = some (.string nm')) (hg : g < w.heap.size) (hr : RdT w B A n ts) (hB : B ≤ w.heap.size) (hn : n ≤ 1000000000) :
    Calls Try.prog 64 #[.slice A n c, .func (.func 65) #[] #[.pointer (some ⟨g, 0, none⟩)]] w fun e w' => e = .returned (.int .i64 (idxN ts nm')) ∧ Below w.heap.size w w' := by
  have HL := Lib.hid hr.1
  have HG := Lib.hid hcell
  clear hcell
  go_enter Try.func64, Try.ntmps64
  go_wp2
  go_loopw [5, 8] (fun _ i wr => ∃ k : Nat, k ≤ n ∧ i = .int .i64 k ∧ Hid (NoN ts nm' k) ∧ Hid (Below w.heap.size w wr)) (fun _ i _ => n - (intOf i).toNat)
  case atStart => exact ⟨0, by omega, rfl, NoN.zero _ _, Below.refl _ _⟩
  case round =>
    obtain ⟨k, hk, rfl, hpre, hbel⟩ := hrel
    have hsz := hbel.out.size
    by_cases hlt : k < n
    · obtain ⟨b, o, t, A1, c1, rfl, hb, hx, hc0, hc1, hc2, hrd, hm, _⟩ := RdT.at_ hr hlt
      have d0 := (hbel.out.cell (p := ⟨b, o + k * 3, none⟩) (by show b < _; omega)).trans hc0
      have d1 := (hbel.out.cell (p := ⟨b, o + k * 3 + 1, none⟩) (by show b < _; omega)).trans hc1
      have d2 := (hbel.out.cell (p := ⟨b, o + k * 3 + 2, none⟩) (by show b < _; omega)).trans hc2
      have KE := Lib.hid (predLook_any t.nm nm' t.ar A1 t.rs.length c1 g wr ((hbel.out.cell (p := ⟨g, 0, none⟩) hg).trans HG.out))
      have HX := Lib.hid hx
      clear hx hc0 hc1 hc2 hrd hm
      by_cases he : t.nm = nm'
      · have hf : Hid (idxN ts nm' = k) := idxN_at HX.out he hpre.out
        have hd := Lib.hid (decide_eq_true he)
        clear he
        obtain ⟨nm, ar, rs⟩ := t
        go_wp2_with fail
        refine KE.out.mono ?_
        rintro e w1 ⟨rfl, hq⟩
        rw [hd.out]
        have HQ := Lib.hid (hbel.out.trans (hq.mono hsz))
        clear hq
        go_wp2_with fail
        go_ret
        exact ⟨by rw [hf.out] <;> rfl, HQ.out⟩
      · have hpre' : Hid (NoN ts nm' (k + 1)) := hpre.out.step HX.out he
        have hd := Lib.hid (decide_eq_false he)
        clear he
        obtain ⟨nm, ar, rs⟩ := t
        go_wp2_with fail
        refine KE.out.mono ?_
        rintro e w1 ⟨rfl, hq⟩
        rw [hd.out]
        have HQ := Lib.hid (hbel.out.trans (hq.mono hsz))
        clear hq
        go_wp2_with fail
        refine ⟨⟨k + 1, by omega, by go_num, hpre', HQ⟩, ?_⟩
        simp [intOf]
        omega
    · obtain rfl : k = n := by omega
      have hf : Hid (idxN ts nm' = -1) := idxN_none hpre.out (by rw [HL.out]; exact Nat.le_refl _)
      go_wp2
      go_ret
      exact ⟨by rw [hf.out] <;> rfl, hbel.out⟩

set_option maxRecDepth 100000 in
theorem predRem_any (nm nm' : ByteArray) (ar : Int) (A : Option Addr) (n c g : Nat) (w : World) (hc : w.cell? ⟨g, 0, none⟩ = some (.string nm')) :
    Calls Try.prog 77 #[.agg #[.string nm, .int .i64 ar, .slice A n c], .pointer (some ⟨g, 0, none⟩)] w fun e w' => e = .returned (.bool (decide (nm = nm'))) ∧ Below w.heap.size w w' := by
  have HB := Lib.hid ((Below.refl w.heap.size w).alloc (Nat.le_refl _) (.cells #[.string nm, .int .i64 ar, .slice A n c] 36))
  have hc' := (HB.out.cell (p := ⟨g, 0, none⟩) (World.block_lt_of_cell? w _ hc)).trans hc
  clear hc
  by_cases h : nm = nm'
  · subst h
    go_enter Try.func77, Try.ntmps77
    go_wp2_with fail
    go_ret
    exact ⟨by simp, HB.out⟩
  · have hf : Hid (decide (nm = nm') = false) := decide_eq_false h
    have q1 := str_eq0 h
    clear h
    go_enter Try.func77, Try.ntmps77
    go_wp2_with fail
    go_ret
    exact ⟨by rw [hf.out] <;> rfl, HB.out⟩

set_option maxRecDepth 100000 in
set_option maxHeartbeats 400000 in
theorem indexFuncRem_any (A : Option Addr) (n c g B : Nat) (ts : List Tab) (nm' : ByteArray) (w : World) (hcell : w.cell? ⟨g, 0, none⟩ = some (.string nm')) (hg : g < w.heap.size) (hr : RdT w B A n ts) (hB : B ≤ w.heap.size) (hn : n ≤ 1000000000) :
    Calls Try.prog 64 #[.slice A n c, .func (.func 77) #[] #[.pointer (some ⟨g, 0, none⟩)]] w fun e w' => e = .returned (.int .i64 (idxN ts nm')) ∧ Below w.heap.size w w' := by
  have HL := Lib.hid hr.1
  have HG := Lib.hid hcell
  clear hcell
  go_enter Try.func64, Try.ntmps64
  go_wp2
  go_loopw [5, 8] (fun _ i wr => ∃ k : Nat, k ≤ n ∧ i = .int .i64 k ∧ Hid (NoN ts nm' k) ∧ Hid (Below w.heap.size w wr)) (fun _ i _ => n - (intOf i).toNat)
  case atStart => exact ⟨0, by omega, rfl, NoN.zero _ _, Below.refl _ _⟩
  case round =>
    obtain ⟨k, hk, rfl, hpre, hbel⟩ := hrel
    have hsz := hbel.out.size
    by_cases hlt : k < n
    · obtain ⟨b, o, t, A1, c1, rfl, hb, hx, hc0, hc1, hc2, hrd, hm, _⟩ := RdT.at_ hr hlt
      have d0 := (hbel.out.cell (p := ⟨b, o + k * 3, none⟩) (by show b < _; omega)).trans hc0
      have d1 := (hbel.out.cell (p := ⟨b, o + k * 3 + 1, none⟩) (by show b < _; omega)).trans hc1
      have d2 := (hbel.out.cell (p := ⟨b, o + k * 3 + 2, none⟩) (by show b < _; omega)).trans hc2
      have KE := Lib.hid (predRem_any t.nm nm' t.ar A1 t.rs.length c1 g wr ((hbel.out.cell (p := ⟨g, 0, none⟩) hg).trans HG.out))
      have HX := Lib.hid hx
      clear hx hc0 hc1 hc2 hrd hm
      by_cases he : t.nm = nm'
      · have hf : Hid (idxN ts nm' = k) := idxN_at HX.out he hpre.out
        have hd := Lib.hid (decide_eq_true he)
        clear he
        obtain ⟨nm, ar, rs⟩ := t
        go_wp2_with fail
        refine KE.out.mono ?_
        rintro e w1 ⟨rfl, hq⟩
        rw [hd.out]
        have HQ := Lib.hid (hbel.out.trans (hq.mono hsz))
        clear hq
        go_wp2_with fail
        go_ret
        exact ⟨by rw [hf.out] <;> rfl, HQ.out⟩
      · have hpre' : Hid (NoN ts nm' (k + 1)) := hpre.out.step HX.out he
        have hd := Lib.hid (decide_eq_false he)
        clear he
        obtain ⟨nm, ar, rs⟩ := t
        go_wp2_with fail
        refine KE.out.mono ?_
        rintro e w1 ⟨rfl, hq⟩
        rw [hd.out]
        have HQ := Lib.hid (hbel.out.trans (hq.mono hsz))
        clear hq
        go_wp2_with fail
        refine ⟨⟨k + 1, by omega, by go_num, hpre', HQ⟩, ?_⟩
        simp [intOf]
        omega
    · obtain rfl : k = n := by omega
      have hf : Hid (idxN ts nm' = -1) := idxN_none hpre.out (by rw [HL.out]; exact Nat.le_refl _)
      go_wp2
      go_ret
      exact ⟨by rw [hf.out] <;> rfl, hbel.out⟩
end Go.Proofs.Ytimlecfneibjlaa
