/- IdxN, Look, in one text (a claim has at most 60 files). -/
import Derived.Test.YtimlecfneibjlaaDbOpP
import Derived.Test.YtimlecfneibjlaaDInv
import Derived.Test.YtimlecfneibjlaaIsDbS
import Derived.Test.YtimlecfneibjlaaIsDbI
import Derived.Test.YtimlecfneibjlaaCopy
import Derived.Test.YtimlecfneibjlaaCopyS
namespace Go.Proofs.Ytimlecfneibjlaa
open Go.RowKit Go.Deep

def idxN (ts : List Tab) (nm : ByteArray) : Int := match ts.findIdx? (fun t => decide (t.nm = nm)) with | some k => k | none => -1
theorem idxN_at {ts : List Tab} {nm : ByteArray} {k : Nat} {t : Tab} (h : ts[k]? = some t) (ht : t.nm = nm) (hno : NoN ts nm k) : idxN ts nm = k := by
  obtain ⟨hk, rfl⟩ := List.getElem?_eq_some_iff.1 h
  have : ts.findIdx? (fun t => decide (t.nm = nm)) = some k := by
    rw [List.findIdx?_eq_some_iff_getElem]
    exact ⟨hk, by simpa using ht, fun j hj => by simpa using hno j ts[j] hj (List.getElem?_eq_getElem (by omega))⟩
  unfold idxN
  rw [this]
theorem idxN_none {ts : List Tab} {nm : ByteArray} {k : Nat} (hno : NoN ts nm k) (hk : ts.length ≤ k) : idxN ts nm = -1 := by
  have : ts.findIdx? (fun t => decide (t.nm = nm)) = none := by
    rw [List.findIdx?_eq_none_iff]
    intro x hx
    simpa using hno.all hk x hx
  unfold idxN
  rw [this]
theorem noN_or (ts : List Tab) (nm : ByteArray) : ∀ k, NoN ts nm k ∨ ∃ j t, ts[j]? = some t ∧ t.nm = nm ∧ NoN ts nm j
  | 0 => .inl (NoN.zero ts nm)
  | k + 1 => by
    rcases noN_or ts nm k with h | h
    · cases hx : ts[k]? with
      | none =>
        refine .inl fun j x hj hjx => ?_
        rcases Nat.lt_or_ge j k with h1 | h1
        · exact h j x h1 hjx
        · obtain rfl : j = k := by omega
          rw [hx] at hjx
          cases hjx
      | some t =>
        by_cases ht : t.nm = nm
        · exact .inr ⟨k, t, hx, ht, h⟩
        · exact .inl (h.step hx ht)
    · exact .inr h

set_option maxRecDepth 100000 in
theorem predLook_any (nm nm' : ByteArray) (ar : Int) (A : Option Addr) (n c g : Nat) (w : World) (hc : w.cell? ⟨g, 0, none⟩ = some (.string nm')) :
    Calls Try.prog 65 #[.agg #[.string nm, .int .i64 ar, .slice A n c], .pointer (some ⟨g, 0, none⟩)] w fun e w' => e = .returned (.bool (decide (nm = nm'))) ∧ Below w.heap.size w w' := by
  have HB := Lib.hid ((Below.refl w.heap.size w).alloc (Nat.le_refl _) (.cells #[.string nm, .int .i64 ar, .slice A n c] 36))
  have hc' := (HB.out.cell (p := ⟨g, 0, none⟩) (World.block_lt_of_cell? w _ hc)).trans hc
  clear hc
  by_cases h : nm = nm'
  · subst h
    go_enter Try.func65, Try.ntmps65
    go_wp2_with fail
    go_ret
    exact ⟨by simp, HB.out⟩
  · have hf : Hid (decide (nm = nm') = false) := decide_eq_false h
    have q1 := str_eq0 h
    clear h
    go_enter Try.func65, Try.ntmps65
    go_wp2_with fail
    go_ret
    exact ⟨by rw [hf.out] <;> rfl, HB.out⟩

set_option maxRecDepth 100000 in
set_option maxHeartbeats 400000 in
theorem indexFuncLook_any (A : Option Addr) (n c g B : Nat) (ts : List Tab) (nm' : ByteArray) (w : World) (hcell : w.cell? ⟨g, 0, none⟩ = some (.string nm')) (hg : g < w.heap.size) (hr : RdT w B A n ts) (hB : B ≤ w.heap.size) (hn : n ≤ 1000000000) :
    Calls Try.prog 64 #[.slice A n c, .func (.func 65) #[] #[.pointer (some ⟨g, 0, none⟩)]] w fun e w' => e = .returned (.int .i64 (idxN ts nm')) ∧ Below w.heap.size w w' := by
  have HL := Lib.hid hr.1
  have HG := Lib.hid hcell
  clear hcell
  go_enter Try.func64, Try.ntmps64
  go_wp2
  go_loopw [5, 8] (fun _ i wr => ∃ k : Nat, k ≤ n ∧ i = .int .i64 k ∧ Hid (NoN ts nm' k) ∧ Hid (Below w.heap.size w wr)) (fun _ i _ => n - (intOf i).toNat)
  case atStart => exact ⟨0, by omega, rfl, NoN.zero _ _, Below.refl _ _⟩
  case round =>
    obtain ⟨k, hk, rfl, hpre, hbel⟩ := hrel
    have hsz := hbel.out.size
    by_cases hlt : k < n
    · obtain ⟨b, o, t, A1, c1, rfl, hb, hx, hc0, hc1, hc2, hrd, hm, _⟩ := RdT.at_ hr hlt
      have d0 := (hbel.out.cell (p := ⟨b, o + k * 3, none⟩) (by show b < _; omega)).trans hc0
      have d1 := (hbel.out.cell (p := ⟨b, o + k * 3 + 1, none⟩) (by show b < _; omega)).trans hc1
      have d2 := (hbel.out.cell (p := ⟨b, o + k * 3 + 2, none⟩) (by show b < _; omega)).trans hc2
      have KE := Lib.hid (predLook_any t.nm nm' t.ar A1 t.rs.length c1 g wr ((hbel.out.cell (p := ⟨g, 0, none⟩) hg).trans HG.out))
      have HX := Lib.hid hx
      clear hx hc0 hc1 hc2 hrd hm
      by_cases he : t.nm = nm'
      · have hf : Hid (idxN ts nm' = k) := idxN_at HX.out he hpre.out
        have hd := Lib.hid (decide_eq_true he)
        clear he
        obtain ⟨nm, ar, rs⟩ := t
        go_wp2_with fail
        refine KE.out.mono ?_
        rintro e w1 ⟨rfl, hq⟩
        rw [hd.out]
        have HQ := Lib.hid (hbel.out.trans (hq.mono hsz))
        clear hq
        go_wp2_with fail
        go_ret
        exact ⟨by rw [hf.out] <;> rfl, HQ.out⟩
      · have hpre' : Hid (NoN ts nm' (k + 1)) := hpre.out.step HX.out he
        have hd := Lib.hid (decide_eq_false he)
        clear he
        obtain ⟨nm, ar, rs⟩ := t
        go_wp2_with fail
        refine KE.out.mono ?_
        rintro e w1 ⟨rfl, hq⟩
        rw [hd.out]
        have HQ := Lib.hid (hbel.out.trans (hq.mono hsz))
        clear hq
        go_wp2_with fail
        refine ⟨⟨k + 1, by omega, by go_num, hpre', HQ⟩, ?_⟩
        simp [intOf]
        omega
    · obtain rfl : k = n := by omega
      have hf : Hid (idxN ts nm' = -1) := idxN_none hpre.out (by rw [HL.out]; exact Nat.le_refl _)
      go_wp2
      go_ret
      exact ⟨by rw [hf.out] <;> rfl, hbel.out⟩

set_option maxRecDepth 100000 in
theorem predRem_any (nm nm' : ByteArray) (ar : Int) (A : Option Addr) (n c g : Nat) (w : World) (hc : w.cell? ⟨g, 0, none⟩ = some (.string nm')) :
    Calls Try.prog 77 #[.agg #[.string nm, .int .i64 ar, .slice A n c], .pointer (some ⟨g, 0, none⟩)] w fun e w' => e = .returned (.bool (decide (nm = nm'))) ∧ Below w.heap.size w w' := by
  have HB := Lib.hid ((Below.refl w.heap.size w).alloc (Nat.le_refl _) (.cells #[.string nm, .int .i64 ar, .slice A n c] 36))
  have hc' := (HB.out.cell (p := ⟨g, 0, none⟩) (World.block_lt_of_cell? w _ hc)).trans hc
  clear hc
  by_cases h : nm = nm'
  · subst h
    go_enter Try.func77, Try.ntmps77
    go_wp2_with fail
    go_ret
    exact ⟨by simp, HB.out⟩
  · have hf : Hid (decide (nm = nm') = false) := decide_eq_false h
    have q1 := str_eq0 h
    clear h
    go_enter Try.func77, Try.ntmps77
    go_wp2_with fail
    go_ret
    exact ⟨by rw [hf.out] <;> rfl, HB.out⟩

set_option maxRecDepth 100000 in
set_option maxHeartbeats 400000 in
theorem indexFuncRem_any (A : Option Addr) (n c g B : Nat) (ts : List Tab) (nm' : ByteArray) (w : World) (hcell : w.cell? ⟨g, 0, none⟩ = some (.string nm')) (hg : g < w.heap.size) (hr : RdT w B A n ts) (hB : B ≤ w.heap.size) (hn : n ≤ 1000000000) :
    Calls Try.prog 64 #[.slice A n c, .func (.func 77) #[] #[.pointer (some ⟨g, 0, none⟩)]] w fun e w' => e = .returned (.int .i64 (idxN ts nm')) ∧ Below w.heap.size w w' := by
  have HL := Lib.hid hr.1
  have HG := Lib.hid hcell
  clear hcell
  go_enter Try.func64, Try.ntmps64
  go_wp2
  go_loopw [5, 8] (fun _ i wr => ∃ k : Nat, k ≤ n ∧ i = .int .i64 k ∧ Hid (NoN ts nm' k) ∧ Hid (Below w.heap.size w wr)) (fun _ i _ => n - (intOf i).toNat)
  case atStart => exact ⟨0, by omega, rfl, NoN.zero _ _, Below.refl _ _⟩
  case round =>
    obtain ⟨k, hk, rfl, hpre, hbel⟩ := hrel
    have hsz := hbel.out.size
    by_cases hlt : k < n
    · obtain ⟨b, o, t, A1, c1, rfl, hb, hx, hc0, hc1, hc2, hrd, hm, _⟩ := RdT.at_ hr hlt
      have d0 := (hbel.out.cell (p := ⟨b, o + k * 3, none⟩) (by show b < _; omega)).trans hc0
      have d1 := (hbel.out.cell (p := ⟨b, o + k * 3 + 1, none⟩) (by show b < _; omega)).trans hc1
      have d2 := (hbel.out.cell (p := ⟨b, o + k * 3 + 2, none⟩) (by show b < _; omega)).trans hc2
      have KE := Lib.hid (predRem_any t.nm nm' t.ar A1 t.rs.length c1 g wr ((hbel.out.cell (p := ⟨g, 0, none⟩) hg).trans HG.out))
      have HX := Lib.hid hx
      clear hx hc0 hc1 hc2 hrd hm
      by_cases he : t.nm = nm'
      · have hf : Hid (idxN ts nm' = k) := idxN_at HX.out he hpre.out
        have hd := Lib.hid (decide_eq_true he)
        clear he
        obtain ⟨nm, ar, rs⟩ := t
        go_wp2_with fail
        refine KE.out.mono ?_
        rintro e w1 ⟨rfl, hq⟩
        rw [hd.out]
        have HQ := Lib.hid (hbel.out.trans (hq.mono hsz))
        clear hq
        go_wp2_with fail
        go_ret
        exact ⟨by rw [hf.out] <;> rfl, HQ.out⟩
      · have hpre' : Hid (NoN ts nm' (k + 1)) := hpre.out.step HX.out he
        have hd := Lib.hid (decide_eq_false he)
        clear he
        obtain ⟨nm, ar, rs⟩ := t
        go_wp2_with fail
        refine KE.out.mono ?_
        rintro e w1 ⟨rfl, hq⟩
        rw [hd.out]
        have HQ := Lib.hid (hbel.out.trans (hq.mono hsz))
        clear hq
        go_wp2_with fail
        refine ⟨⟨k + 1, by omega, by go_num, hpre', HQ⟩, ?_⟩
        simp [intOf]
        omega
    · obtain rfl : k = n := by omega
      have hf : Hid (idxN ts nm' = -1) := idxN_none hpre.out (by rw [HL.out]; exact Nat.le_refl _)
      go_wp2
      go_ret
      exact ⟨by rw [hf.out] <;> rfl, hbel.out⟩
end Go.Proofs.Ytimlecfneibjlaa
namespace Go.Proofs.Ytimlecfneibjlaa
open Go.RowKit Go.Deep

set_option maxRecDepth 100000 in
set_option maxHeartbeats 1000000 in
theorem impl_LookupTable_any (A : Option Addr) (n c B : Nat) (ts : List Tab) (nm : ByteArray) (w : World) (hr : RdT w B A n ts) (hB : B ≤ w.heap.size) (hn : n ≤ 1000000000) (hs : sumT ts ≤ 4294967296) :
    Calls Try.prog 23 #[.agg #[.slice A n c], .string nm] w (TabBool (lookR ts nm) w) := by
  have HL := Lib.hid hr.1
  have hsm := Lib.hid hs
  have kn0 : Kn w [(w.heap.size, 0, .slice A n c), (w.heap.size + 1, 0, .string nm), (w.heap.size + 2, 0, .string { data := #[] }), (w.heap.size + 2, 1, .int .i64 0), (w.heap.size + 2, 2, .slice none 0 0)] (((w.alloc (.cells #[.slice A n c] 29)).alloc (.cells #[.string nm] 9)).alloc (.cells #[.string { data := #[] }, .int .i64 0, .slice none 0 0] 36)) := by
    simpa using ((((Kn.start w).box1 (.slice A n c) 29).box1 (.string nm) 9).box3 (.string { data := #[] }) (.int .i64 0) (.slice none 0 0) 36)
  go_enter Try.func23, Try.ntmps23
  go_wp2_with fail
  have s0 : w.heap.size + 3 ≤ (((w.alloc (.cells #[.slice A n c] 29)).alloc (.cells #[.string nm] 9)).alloc (.cells #[.string { data := #[] }, .int .i64 0, .slice none 0 0] 36)).heap.size := by simp
  generalize ((w.alloc (.cells #[.slice A n c] 29)).alloc (.cells #[.string nm] 9)).alloc (.cells #[.string { data := #[] }, .int .i64 0, .slice none 0 0] 36) = w0 at kn0 s0 ⊢
  have KIX := Lib.hid (indexFuncLook_any A n c (w.heap.size + 1) B ts nm w0 kn0.all.2.1 (by omega) (RdT.belowB hr kn0.bel hB) (Nat.le_trans hB kn0.bel.size) hn)
  rcases noN_or ts nm n with hno | ⟨k, t, hx, ht, hno⟩
  · have hf : Hid (lookR ts nm = nilR) := lookR_none hno (by rw [HL.out]; exact Nat.le_refl _)
    rw [idxN_none hno (by rw [HL.out]; exact Nat.le_refl _)] at KIX
    clear hno
    refine KIX.out.mono ?_
    rintro e w1 ⟨rfl, b1⟩
    have s1 := b1.size
    have kn1 := kn0.next b1
    clear kn0 b1
    obtain ⟨d0, d1, d2, d3, d4, _⟩ := kn1.all
    obtain ⟨f0, f1, f2, f3, f4, _⟩ := kn1.fall
    have HF := Lib.hid kn1.bel
    clear kn1
    go_wp2_with fail
    refine bodyPost_ret (v := .tuple #[.agg #[.string { data := #[] }, .int .i64 0, .slice none 0 0], .bool false]) (by simp [results, Try.results23, go_sem, *]) rfl (TabBool.of hf.out (OwnR.nil _ _ _) ?_)
    repeat first | exact HF.out | (refine Below.setCell ?_ ?_ _; rotate_left; (simp; try omega))
  · have hkn : k < n := by have := (List.getElem?_eq_some_iff.1 hx).1; rw [HL.out] at this; exact this
    rw [idxN_at hx ht hno] at KIX
    have hq : decide ((k : Int) < 0) = false := decide_eq_false (by omega)
    refine KIX.out.mono ?_
    rintro e w1 ⟨rfl, b1⟩
    have s1 := b1.size
    have kn1 := kn0.next b1
    clear kn0 b1
    obtain ⟨d0, d1, d2, d3, d4, _⟩ := kn1.all
    have KV := Lib.hid (impl_IsValidDatabase_any A n c B ts w1 (RdT.belowB hr kn1.bel hB) (Nat.le_trans hB kn1.bel.size) hn hs)
    cases hv : validD ts with
    | false =>
      have hf : Hid (lookR ts nm = nilR) := lookR_bad nm hv
      rw [hv] at KV
      clear hv hx ht hno
      go_wp2_with fail
      refine KV.out.mono ?_
      rintro e w2 ⟨rfl, b2⟩
      have s2 := b2.size
      have kn2 := kn1.next b2
      clear kn1 b2 d0 d1 d2 d3 d4
      obtain ⟨d0, d1, d2, d3, d4, _⟩ := kn2.all
      obtain ⟨f0, f1, f2, f3, f4, _⟩ := kn2.fall
      have HF := Lib.hid kn2.bel
      clear kn2
      go_wp2_with fail
      refine bodyPost_ret (v := .tuple #[.agg #[.string { data := #[] }, .int .i64 0, .slice none 0 0], .bool false]) (by simp [results, Try.results23, go_sem, *]) rfl (TabBool.of hf.out (OwnR.nil _ _ _) ?_)
      repeat first | exact HF.out | (refine Below.setCell ?_ ?_ _; rotate_left; (simp; try omega))
    | true =>
      have hf := Lib.hid (lookR_at hx ht hno hv)
      rw [hv] at KV
      have hts := Lib.hid (tab_small hx hs)
      obtain ⟨b, o, t', A1, c1, rfl, hb, hx', hc0, hc1, hc2, hrd, hm, _⟩ := RdT.at_ hr hkn
      rw [hx] at hx'
      injection hx' with hx'
      subst hx'
      clear hv hx ht hno hm
      go_wp2_with fail
      refine KV.out.mono ?_
      rintro e w2 ⟨rfl, b2⟩
      have s2 := b2.size
      have kn2 := kn1.next b2
      clear kn1 b2 d0 d1 d2 d3 d4
      have hbel := kn2.bel
      have e0 := (hbel.cell (p := ⟨b, o + k * 3, none⟩) (by show b < _; omega)).trans hc0
      have e1 := (hbel.cell (p := ⟨b, o + k * 3 + 1, none⟩) (by show b < _; omega)).trans hc1
      have e2 := (hbel.cell (p := ⟨b, o + k * 3 + 2, none⟩) (by show b < _; omega)).trans hc2
      have KC := Lib.hid (copyTable_any t.nm t.ar A1 t.rs.length c1 B t.rs w2 (RdR.belowB hrd hbel hB) (Nat.le_trans hB hbel.size) hts.out.1 hts.out.2)
      obtain ⟨d0, d1, d2, d3, d4, _⟩ := kn2.all
      clear hc0 hc1 hc2 hrd hbel
      go_wp2_with fail
      refine KC.out.mono ?_
      rintro e w3 ⟨Ao, co, rfl, oo, b3⟩
      have s3 := b3.size
      have kn3 := kn2.next b3
      have HO := Lib.hid oo
      clear kn2 b3 d0 d1 d2 d3 d4 oo e0 e1 e2
      obtain ⟨d0, d1, d2, d3, d4, _⟩ := kn3.all
      obtain ⟨f0, f1, f2, f3, f4, _⟩ := kn3.fall
      have HF := Lib.hid kn3.bel
      clear kn3
      go_wp2_with fail
      refine bodyPost_ret (v := .tuple #[.agg #[.string t.nm, .int .i64 t.ar, .slice Ao t.rs.length co], .bool true]) (by simp [results, Try.results23, go_sem, *]) rfl (TabBool.of hf.out ?_ ?_)
      · refine OwnR.down (lo := w2.heap.size) (OwnR.wide (hi := w3.heap.size) ?_ (by simp)) (by omega)
        repeat refine OwnR.setOff ?_ (by omega)
        exact HO.out
      · repeat first | exact HF.out | (refine Below.setCell ?_ ?_ _; rotate_left; (simp; try omega))

set_option maxRecDepth 100000 in
set_option maxHeartbeats 1000000 in
theorem spec_LookupTable_any (A : Option Addr) (n c B : Nat) (ts : List Tab) (nm : ByteArray) (w : World) (hr : RdT w B A n ts) (hB : B ≤ w.heap.size) (hn : n ≤ 1000000000) (hs : sumT ts ≤ 4294967296) :
    Calls Try.prog 22 #[.agg #[.slice A n c], .string nm] w (TabBool (lookR ts nm) w) := by
  have HL := Lib.hid hr.1
  have hsm := Lib.hid hs
  have kn0 : Kn w [(w.heap.size, 0, .slice A n c), (w.heap.size + 1, 0, .string { data := #[] }), (w.heap.size + 1, 1, .int .i64 0), (w.heap.size + 1, 2, .slice none 0 0)] ((w.alloc (.cells #[.slice A n c] 29)).alloc (.cells #[.string { data := #[] }, .int .i64 0, .slice none 0 0] 36)) := by
    simpa using (((Kn.start w).box1 (.slice A n c) 29).box3 (.string { data := #[] }) (.int .i64 0) (.slice none 0 0) 36)
  have KV : Hid (∀ W, Below w.heap.size w W → Calls Try.prog 16 #[.agg #[.slice A n c]] W fun e w' => e = .returned (.bool (validD ts)) ∧ Below W.heap.size W w') := fun W bw =>
    spec_IsValidDatabase_any A n c B ts W (RdT.belowB hr bw hB) (Nat.le_trans hB bw.size) hn hs
  clear hs
  go_enter Try.func22, Try.ntmps22
  go_wp2_with fail
  have s0 : w.heap.size + 2 ≤ ((w.alloc (.cells #[.slice A n c] 29)).alloc (.cells #[.string { data := #[] }, .int .i64 0, .slice none 0 0] 36)).heap.size := by simp
  generalize (w.alloc (.cells #[.slice A n c] 29)).alloc (.cells #[.string { data := #[] }, .int .i64 0, .slice none 0 0] 36) = w0 at kn0 s0 ⊢
  go_loopw [6] (fun i wr => ∃ k : Nat, k ≤ n ∧ i = .int .i64 k ∧ Hid (NoN ts nm k) ∧ Kn w [(w.heap.size, 0, .slice A n c), (w.heap.size + 1, 0, .string { data := #[] }), (w.heap.size + 1, 1, .int .i64 0), (w.heap.size + 1, 2, .slice none 0 0)] wr ∧ w.heap.size + 2 ≤ wr.heap.size) (fun i _ => n - (intOf i).toNat)
  case atStart => exact ⟨0, by omega, rfl, NoN.zero _ _, kn0, s0⟩
  case round =>
    obtain ⟨k, hk, rfl, hno, kn, hsr⟩ := hrel
    clear kn0 s0
    obtain ⟨d0, d1, d2, d3, _⟩ := kn.all
    by_cases hlt : k < n
    · obtain ⟨b, o, t, A1, c1, rfl, hb, hx, hc0, hc1, hc2, hrd, hm, _⟩ := RdT.at_ hr hlt
      have KV1 := Lib.hid (KV.out wr kn.bel)
      have HX := Lib.hid hx
      have hts := Lib.hid (tab_small hx hsm.out)
      have hb2 : b < w.heap.size := by omega
      clear hx hm
      cases hv : validD ts with
      | false =>
        have hf : Hid (lookR ts nm = nilR) := lookR_bad nm hv
        rw [hv] at KV1
        clear hv hc0 hc1 hc2 hrd
        go_wp2_with fail
        refine KV1.out.mono ?_
        rintro e w1 ⟨rfl, b1⟩
        have s1 := b1.size
        have kn1 := kn.next b1
        clear kn b1 d0 d1 d2 d3
        obtain ⟨d0, d1, d2, d3, _⟩ := kn1.all
        obtain ⟨f0, f1, f2, f3, _⟩ := kn1.fall
        have HF := Lib.hid kn1.bel
        clear kn1
        go_wp2_with fail
        refine bodyPost_ret (v := .tuple #[.agg #[.string { data := #[] }, .int .i64 0, .slice none 0 0], .bool false]) (by simp [results, Try.results22, go_sem, *]) rfl (TabBool.of hf.out (OwnR.nil _ _ _) ?_)
        repeat first | exact HF.out | (refine Below.setCell ?_ ?_ _; rotate_left; (simp; try omega))
      | true =>
        have HV := Lib.hid hv
        rw [hv] at KV1
        clear hv
        go_wp2_with fail
        refine KV1.out.mono ?_
        rintro e w1 ⟨rfl, b1⟩
        have s1 := b1.size
        have kn1 := kn.next b1
        clear kn b1 d0 d1 d2 d3
        obtain ⟨d0, d1, d2, d3, _⟩ := kn1.all
        have hbel := kn1.bel
        have e0 := (hbel.cell (p := ⟨b, o + k * 3, none⟩) hb2).trans hc0
        have e1 := (hbel.cell (p := ⟨b, o + k * 3 + 1, none⟩) hb2).trans hc1
        have e2 := (hbel.cell (p := ⟨b, o + k * 3 + 2, none⟩) hb2).trans hc2
        have KC := Lib.hid (l4Copy_any t.nm t.ar A1 t.rs.length c1 B t.rs w1 (RdR.belowB hrd hbel hB) (Nat.le_trans hB hbel.size) hts.out.1 hts.out.2)
        clear hc0 hc1 hc2 hrd hbel
        by_cases he : t.nm = nm
        · have hf := Lib.hid (lookR_at HX.out he hno.out HV.out)
          have HE := Lib.hid he
          have qe : (t.nm.toList == nm.toList) = true := by rw [he]; simp
          clear he
          go_wp2_with fail
          refine KC.out.mono ?_
          rintro e w3 ⟨Ao, co, rfl, oo, b3⟩
          have s3 := b3.size
          have kn3 := kn1.next b3
          have HO := Lib.hid oo
          clear kn1 b3 d0 d1 d2 d3 oo e0 e1 e2
          obtain ⟨d0, d1, d2, d3, _⟩ := kn3.all
          obtain ⟨f0, f1, f2, f3, _⟩ := kn3.fall
          have HF := Lib.hid kn3.bel
          clear kn3
          go_wp2_with fail
          refine bodyPost_ret (v := .tuple #[.agg #[.string t.nm, .int .i64 t.ar, .slice Ao t.rs.length co], .bool true]) (by simp [results, Try.results22, go_sem, *]) rfl (TabBool.of hf.out ?_ ?_)
          · refine OwnR.down (lo := w1.heap.size) (OwnR.wide (hi := w3.heap.size) ?_ (by simp)) (by omega)
            repeat refine OwnR.setOff ?_ (by omega)
            exact HO.out
          · repeat first | exact HF.out | (refine Below.setCell ?_ ?_ _; rotate_left; (simp; try omega))
        · have hno' : Hid (NoN ts nm (k + 1)) := hno.out.step HX.out he
          have qe := str_eq0 he
          clear he
          go_wp2_with fail
          refine ⟨⟨k + 1, by omega, by go_num, hno', kn1, by omega⟩, ?_⟩
          simp [intOf]
          omega
    · obtain rfl : k = n := by omega
      have hf : Hid (lookR ts nm = nilR) := lookR_none hno.out (by rw [HL.out]; exact Nat.le_refl _)
      obtain ⟨f0, f1, f2, f3, _⟩ := kn.fall
      have HF := Lib.hid kn.bel
      clear kn
      go_wp2_with fail
      refine bodyPost_ret (v := .tuple #[.agg #[.string { data := #[] }, .int .i64 0, .slice none 0 0], .bool false]) (by simp [results, Try.results22, go_sem, *]) rfl (TabBool.of hf.out (OwnR.nil _ _ _) ?_)
      repeat first | exact HF.out | (refine Below.setCell ?_ ?_ _; rotate_left; (simp; try omega))
end Go.Proofs.Ytimlecfneibjlaa
