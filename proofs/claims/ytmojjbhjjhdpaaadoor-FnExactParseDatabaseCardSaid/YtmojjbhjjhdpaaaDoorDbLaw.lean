/- The laws' helpers on databases: toDatabase, eqDatabase, markDatabase, heldDatabase, szDatabase. No condition but the size that the laws let in. -/
import Derived.Test.YtmojjbhjjhdpaaaDoorDbPlain
import Derived.Deep.RegionHeld3
namespace Go.Proofs.YtmojjbhjjhdpaaaDoor
open Go.RowKit Go.Deep

set_option maxRecDepth 100000 in
set_option maxHeartbeats 400000 in
theorem szTableS_any (A : Option Addr) (n c B : Nat) (left : Int) (ts : List Tab) (w : World) (hr : RdT w B A n ts) (hB : B ≤ w.heap.size) (h0 : 0 ≤ left) (hl : left ≤ 1048576) (hn : n ≤ 9223372036854775807) :
    Calls Tryd.prog 83 #[.slice A n c, .int .i64 left] w (SzPostB (n + sumT ts) left w) := by
  have HL := Lib.hid hr.1
  by_cases h : left - (n : Int) < 0
  · go_enter Tryd.func83, Tryd.ntmps83
    go_wp2_with fail
    go_ret
    exact ⟨_, rfl, .inl rfl, Below.refl _ _⟩
  · go_enter Tryd.func83, Tryd.ntmps83
    go_wp2_with fail
    go_loopw [1, 5] (fun q i wr => ∃ (j : Nat) (r : Int), j ≤ n ∧ i = .int .i64 j ∧ q = .int .i64 r ∧ 0 ≤ r ∧ r ≤ 1048576 ∧ Hid (r + ((n + sumT (ts.take j) : Nat) : Int) = left) ∧ Hid (Below w.heap.size w wr)) (fun _ i _ => n - (intOf i).toNat)
    case atStart => exact ⟨0, _, by omega, rfl, rfl, by omega, by omega, by show _ = _; simp [sumT], Below.refl _ _⟩
    case round =>
      obtain ⟨j, r, hj, rfl, rfl, hr0, hr1, hinv, hbel⟩ := hrel
      have hsz := hbel.out.size
      by_cases hlt : j < n
      · obtain ⟨b, o, t, A', c', rfl, hb, hx, hc0, hc1, hc2, hrd, hm, hnm⟩ := RdT.at_ hr hlt
        have d0 := (hbel.out.cell (p := ⟨b, o + j * 3, none⟩) (by show b < _; omega)).trans hc0
        have d1 := (hbel.out.cell (p := ⟨b, o + j * 3 + 1, none⟩) (by show b < _; omega)).trans hc1
        have d2 := (hbel.out.cell (p := ⟨b, o + j * 3 + 2, none⟩) (by show b < _; omega)).trans hc2
        have KZ := Lib.hid (szTable_any t.nm t.ar A' t.rs.length c' B r t.rs wr (RdR.belowB hrd hbel.out hB) (Nat.le_trans hB hsz) hnm hr0 hr1 (by unfold maxLen at hm; omega))
        have HX := Lib.hid (sumT_take_succ hx)
        clear hx hc0 hc1 hc2 hrd hm hnm
        obtain ⟨nm, ar, rs⟩ := t
        go_wp2_with fail
        refine KZ.out.mono ?_
        rintro e w1 ⟨r', rfl, hh, hb1⟩
        have hbel1 := Lib.hid (hbel.out.trans (hb1.mono hsz))
        clear hb1 hbel
        rcases hh with rfl | ⟨hr2, hr3⟩
        · go_wp2_with fail
          go_ret
          exact ⟨_, rfl, .inl rfl, hbel1.out⟩
        · have hinv' : Hid (r' + ((n + sumT (ts.take (j + 1)) : Nat) : Int) = left) := by
            show _ = _
            have h1 := hinv.out
            have h2 := HX.out
            rw [h2]
            omega
          have hr4 : r' ≤ 1048576 := by omega
          clear hinv hr3
          have hr5 : ¬ r' < 0 := by omega
          go_wp2_with fail
          refine ⟨⟨j + 1, r', by omega, by go_num, rfl, hr2, hr4, hinv', hbel1⟩, ?_⟩
          simp [intOf]
          omega
      · obtain rfl : j = n := by omega
        have hf : Hid (r + ((j + sumT ts : Nat) : Int) = left) := by
          show _ = _
          have h1 := hinv.out
          rwa [List.take_of_length_le (Nat.le_of_eq HL.out)] at h1
        go_wp2_with fail
        go_ret
        exact ⟨_, rfl, .inr ⟨hr0, hf.out⟩, hbel.out⟩

set_option maxRecDepth 100000 in
set_option maxHeartbeats 400000 in
theorem eqTableS_same (A A' : Option Addr) (n c n' c' B B' : Nat) (ts : List Tab) (w : World) (hr : RdT w B A n ts) (hr' : RdT w B' A' n' ts) (hB : B ≤ w.heap.size) (hB' : B' ≤ w.heap.size) (hn : ts.length ≤ 1048576) :
    Calls Tryd.prog 88 #[.slice A n c, .slice A' n' c'] w fun e w' => e = .returned (.bool true) ∧ Below w.heap.size w w' := by
  have hnn : n' = n := hr'.1.symm.trans hr.1
  subst hnn
  have HL := Lib.hid hr.1
  have hn' : n' ≤ 1048576 := by rw [← hr.1]; exact hn
  have q2 : ((n' : Int) != (n' : Int)) = false := by simp
  clear hn
  go_enter Tryd.func88, Tryd.ntmps88
  go_wp2_with fail
  go_loopw [5] (fun i wr => ∃ k : Nat, k ≤ n' ∧ i = .int .i64 k ∧ Hid (Below w.heap.size w wr)) (fun i _ => n' - (intOf i).toNat)
  case atStart => exact ⟨0, by omega, rfl, Below.refl _ _⟩
  case round =>
    obtain ⟨k, hk, rfl, hbel⟩ := hrel
    have hsz := hbel.out.size
    by_cases hlt : k < n'
    · obtain ⟨b, o, t, A1, c1, rfl, hb, hx, hc0, hc1, hc2, hrd, hm, _⟩ := RdT.at_ hr hlt
      obtain ⟨b', o', t', A2, c2, rfl, hb', hx', hc0', hc1', hc2', hrd', _, _⟩ := RdT.at_ hr' hlt
      rw [hx] at hx'
      injection hx' with hx'
      subst hx'
      have d0 := (hbel.out.cell (p := ⟨b, o + k * 3, none⟩) (by show b < _; omega)).trans hc0
      have d1 := (hbel.out.cell (p := ⟨b, o + k * 3 + 1, none⟩) (by show b < _; omega)).trans hc1
      have d2 := (hbel.out.cell (p := ⟨b, o + k * 3 + 2, none⟩) (by show b < _; omega)).trans hc2
      have d3 := (hbel.out.cell (p := ⟨b', o' + k * 3, none⟩) (by show b' < _; omega)).trans hc0'
      have d4 := (hbel.out.cell (p := ⟨b', o' + k * 3 + 1, none⟩) (by show b' < _; omega)).trans hc1'
      have d5 := (hbel.out.cell (p := ⟨b', o' + k * 3 + 2, none⟩) (by show b' < _; omega)).trans hc2'
      have KE := Lib.hid (fun W (b1 : Below wr.heap.size wr W) => eqTable_any t.nm t.ar A1 A2 t.rs.length c1 t.rs.length c2 B B' t.rs W (RdR.belowB hrd (hbel.out.trans (b1.mono hsz)) hB) (RdR.belowB hrd' (hbel.out.trans (b1.mono hsz)) hB') (Nat.le_trans hB (Nat.le_trans hsz b1.size)) (Nat.le_trans hB' (Nat.le_trans hsz b1.size)) (by unfold maxLen at hm; exact hm))
      have g1 : (0 : Int) ≤ (k : Int) := by omega
      have g2 : (k : Int) < (n' : Int) := by omega
      have g3 : (k : Int).toNat = k := by omega
      clear hx hc0 hc1 hc2 hc0' hc1' hc2' hrd hrd' hm
      obtain ⟨nm, ar, rs⟩ := t
      go_wp2_with fail
      have bz : Below wr.heap.size wr wr.drew := (Below.refl _ _).drew
      have KB : Hid (∀ W, Below wr.heap.size wr W → W.cell? ⟨b, o + k * 3, none⟩ = some (.string nm) ∧ W.cell? ⟨b, o + k * 3 + 1, none⟩ = some (.int .i64 ar) ∧ W.cell? ⟨b, o + k * 3 + 2, none⟩ = some (.slice A1 rs.length c1) ∧ W.cell? ⟨b', o' + k * 3, none⟩ = some (.string nm) ∧ W.cell? ⟨b', o' + k * 3 + 1, none⟩ = some (.int .i64 ar) ∧ W.cell? ⟨b', o' + k * 3 + 2, none⟩ = some (.slice A2 rs.length c2) ∧ Below wr.heap.size wr W) := fun W bw =>
        ⟨(bw.cell (p := ⟨b, o + k * 3, none⟩) (by show b < _; omega)).trans d0, (bw.cell (p := ⟨b, o + k * 3 + 1, none⟩) (by show b < _; omega)).trans d1, (bw.cell (p := ⟨b, o + k * 3 + 2, none⟩) (by show b < _; omega)).trans d2, (bw.cell (p := ⟨b', o' + k * 3, none⟩) (by show b' < _; omega)).trans d3, (bw.cell (p := ⟨b', o' + k * 3 + 1, none⟩) (by show b' < _; omega)).trans d4, (bw.cell (p := ⟨b', o' + k * 3 + 2, none⟩) (by show b' < _; omega)).trans d5, bw⟩
      go_region_held3 (fun W => W.cell? ⟨b, o + k * 3, none⟩ = some (.string nm) ∧ W.cell? ⟨b, o + k * 3 + 1, none⟩ = some (.int .i64 ar) ∧ W.cell? ⟨b, o + k * 3 + 2, none⟩ = some (.slice A1 rs.length c1) ∧ W.cell? ⟨b', o' + k * 3, none⟩ = some (.string nm) ∧ W.cell? ⟨b', o' + k * 3 + 1, none⟩ = some (.int .i64 ar) ∧ W.cell? ⟨b', o' + k * 3 + 2, none⟩ = some (.slice A2 rs.length c2) ∧ Below wr.heap.size wr W)
        (first | assumption | exact KB.out _ (by assumption))
        (first | (go_at_call 27; ((with_reducible refine (KE.out _ (by assumption)).mono ?_); rintro e w1 ⟨rfl, b1⟩; have bz := bel_step (by assumption) b1)))
      have hbel1 := Lib.hid (hbel.out.trans (bz.mono hsz))
      clear bz hbel
      go_wp2_with fail
      refine ⟨⟨k + 1, by omega, by go_num, hbel1⟩, ?_⟩
      simp [intOf]
      omega
    · obtain rfl : k = n' := by omega
      go_wp2_with fail
      go_ret
      exact ⟨rfl, hbel.out⟩

theorem info_tab : (Tryd.prog.info? 41).map (fun i => (i.zero, i.size, i.bytes)) = some (some (.agg #[.string { data := #[] }, .int .i64 0, .slice none 0 0]), 3, 48) := by kernel_rfl
theorem made_flat (a b c : Value) : ∀ n, (madeCells #[a, b, c] (n * 3)).toList = (List.replicate n [a, b, c]).flatten
  | 0 => by simp [madeCells]
  | n + 1 => by
    have ih := made_flat a b c n
    unfold madeCells at ih ⊢
    simp only [Array.toList_map, Array.toList_range] at ih ⊢
    have m0 : n * 3 % 3 = 0 := by omega
    have m1 : (n * 3 + 1) % 3 = 1 := by omega
    have m2 : (n * 3 + 1 + 1) % 3 = 2 := by omega
    rw [show (n + 1) * 3 = n * 3 + 1 + 1 + 1 from by omega, List.range_succ, List.range_succ, List.range_succ, List.map_append, List.map_append, List.map_append, ih, List.replicate_succ', List.flatten_append]
    simp [m0, m1, m2]
def zerT (n : Nat) : Array Value := madeCells #[.string { data := #[] }, .int .i64 0, .slice none 0 0] (n * 3)
theorem make_tabs (n : Nat) (h : n ≤ 1048576) (W : World) : (Instr.makeSlice 53 (.int .i64 (n : Int)) (.int .i64 (n : Int))).run Tryd.prog W = .ok (.slice (some ⟨W.heap.size, 0, none⟩) n n) (W.alloc (.cells (zerT n) 41)) := by
  obtain ⟨i, hi, hz0, hz1, hz2⟩ := info_parts info_tab
  have := run_make (P := Tryd.prog) W 53 41 i _ Tryd.underlying53 hi hz0 .i64 .i64 n n (by omega) (by omega) (by rw [hz2]; omega) (by omega)
  rw [Int.toNat_natCast, hz1] at this
  exact this
theorem own_tabs_made (n : Nat) (hn : n ≤ 1048576) (W : World) : OwnD (W.alloc (.cells (zerT n) 41)) W.heap.size (W.alloc (.cells (zerT n) 41)).heap.size (.slice (some ⟨W.heap.size, 0, none⟩) n n) (List.replicate n nilTab) :=
  ⟨_, OwnSl.made W n [.string { data := #[] }, .int .i64 0, .slice none 0 0] nilTab (zerT n) rfl (by unfold maxLen; omega) (made_flat _ _ _ n) ⟨none, 0, 0, 0, rfl, OwnR.nil _ _ _, by show 0 ≤ _; exact Nat.zero_le _, by show 0 ≤ _; exact Nat.zero_le _, fun k hk => by omega, by simp⟩, fun k hk => by subst hk; simp⟩

set_option maxRecDepth 100000 in
set_option maxHeartbeats 400000 in
theorem toTableS_any (A : Option Addr) (n c B : Nat) (ts : List Tab) (w : World) (hr0 : RdT w B A n ts) (hB : B ≤ w.heap.size) (hn : n ≤ 1048576) (hts : ∀ t ∈ ts, t.rs.length ≤ 1048576 ∧ ∀ r ∈ t.rs, r.length ≤ 1048576) :
    Calls Tryd.prog 85 #[.slice A n c] w fun e w' => e = .returned (.slice (some ⟨w.heap.size, 0, none⟩) n n) ∧ OwnD w' w.heap.size w'.heap.size (.slice (some ⟨w.heap.size, 0, none⟩) n n) ts ∧ Below w.heap.size w w' := by
  have hr := RdT.more hr0 hB
  clear hr0
  have hmk := make_tabs n hn
  have HL := Lib.hid hr.1
  have hts' := Lib.hid hts
  clear hts
  go_enter Tryd.func85, Tryd.ntmps85
  go_wp2
  go_loopw [4] (fun i wr => ∃ k : Nat, k ≤ n ∧ i = .int .i64 k ∧ OwnD wr w.heap.size wr.heap.size (.slice (some ⟨w.heap.size, 0, none⟩) n n) (fillT ts k) ∧ Below w.heap.size w wr) (fun i _ => n - (intOf i).toNat)
  case atStart => exact ⟨0, by omega, rfl, by rw [fillT_zero, HL.out]; exact own_tabs_made n hn w, (Below.refl _ _).alloc (Nat.le_refl _) _⟩
  case round =>
    obtain ⟨k, hk, rfl, hown, hbel⟩ := hrel
    have hsz := hbel.size
    by_cases hlt : k < n
    · obtain ⟨b, o, t, A', c', rfl, hb, hx, hc0, hc1, hc2, hrd, hm, hnm⟩ := RdT.at_ hr hlt
      have d0 := (hbel.cell (p := ⟨b, o + k * 3, none⟩) hb).trans hc0
      have d1 := (hbel.cell (p := ⟨b, o + k * 3 + 1, none⟩) hb).trans hc1
      have d2 := (hbel.cell (p := ⟨b, o + k * 3 + 2, none⟩) hb).trans hc2
      have htt := hts'.out t (List.mem_of_getElem? hx)
      have KT := Lib.hid (toTable_any t.nm t.ar A' t.rs.length c' w.heap.size t.rs wr (RdR.belowB hrd hbel (Nat.le_refl _)) hsz htt.1 htt.2)
      have hl := fillT_length ts k (by rw [HL.out]; omega)
      obtain ⟨g, hg0, _, _, hg1, hcw, hput⟩ := hown.put3 (hl.trans HL.out) hlt
      injection hg0 with hg0
      injection hg0 with hg0
      subst hg0
      have HX := Lib.hid (fillT_step hx)
      obtain ⟨y0, hy0⟩ := Option.isSome_iff_exists.1 (hcw 0 (by omega)).1
      obtain ⟨y1, hy1⟩ := Option.isSome_iff_exists.1 (hcw 1 (by omega)).1
      obtain ⟨y2, hy2⟩ := Option.isSome_iff_exists.1 (hcw 2 (by omega)).1
      have f0 := (hcw 0 (by omega)).2
      have f1 := (hcw 1 (by omega)).2
      have f2 := (hcw 2 (by omega)).2
      rw [Nat.add_zero] at hy0 f0
      have HP := Lib.hid hput
      have HN := Lib.hid hnm
      clear hx hl hc0 hc1 hc2 hrd hput hown hcw hm hnm htt
      obtain ⟨nm, ar, rs⟩ := t
      go_wp2_with fail
      refine KT.out.mono ?_
      rintro e w1 ⟨A1, c1, rfl, ho1, hb1⟩
      have e0 := (hb1.cell (p := ⟨w.heap.size, k * 3, none⟩) hg1).trans hy0
      have e1 := (hb1.cell (p := ⟨w.heap.size, k * 3 + 1, none⟩) hg1).trans hy1
      have e2 := (hb1.cell (p := ⟨w.heap.size, k * 3 + 2, none⟩) hg1).trans hy2
      have f0' := (hb1.frozen (p := ⟨w.heap.size, k * 3, none⟩) hg1).trans f0
      have f1' := (hb1.frozen (p := ⟨w.heap.size, k * 3 + 1, none⟩) hg1).trans f1
      have f2' := (hb1.frozen (p := ⟨w.heap.size, k * 3 + 2, none⟩) hg1).trans f2
      have hfin := Lib.hid (HP.out w1 nm ar A1 rs c1 _ _ HN.out hb1 ho1 (Nat.le_refl _) (Nat.le_refl _) hsz)
      have hbel1 := hbel.trans (hb1.mono hsz)
      clear ho1 HP
      go_wp2_with fail
      refine ⟨⟨k + 1, by omega, by go_num, by rw [← HX.out]; simpa [World.setCell] using hfin.out, ((hbel1.setCell (Nat.le_refl _) _).setCell (Nat.le_refl _) _).setCell (Nat.le_refl _) _⟩, ?_⟩
      simp [intOf]
      omega
    · obtain rfl : k = n := by omega
      go_wp2
      go_ret
      exact ⟨rfl, by rw [← HL.out, fillT_full] at hown; rw [← HL.out]; exact hown, hbel⟩

set_option maxRecDepth 100000 in
set_option maxHeartbeats 400000 in
theorem markTableS_any (A : Option Addr) (n c lo hi : Nat) (ts : List Tab) (k : Int) (w : World) (ho : OwnD w lo hi (.slice A n c) ts) (hn : n ≤ 1048576) (hrs : ∀ t ∈ ts, t.rs.length ≤ 1048576) (hk : 0 < k) (hkn : k + (mrkT ts : Nat) ≤ 1099511627776) :
    Calls Tryd.prog 90 #[.slice A n c, .int .i64 k] w fun e w' => e = .returned (.int .i64 (k + (mrkT ts : Nat))) ∧ OwnD w' lo hi (.slice A n c) (cntT k ts) ∧ Chg lo hi w w' := by
  have HL := Lib.hid ho.len_eq
  have hrs' := Lib.hid hrs
  clear hrs
  go_enter Tryd.func90, Tryd.ntmps90
  go_wp2
  go_loopw [1, 5] (fun q i wr => ∃ j : Nat, j ≤ n ∧ i = .int .i64 j ∧ q = .int .i64 (k + (mrkT (ts.take j) : Nat)) ∧ Hid (OwnD wr lo hi (.slice A n c) (markTTo ts k j) ∧ Chg lo hi w wr)) (fun _ i _ => n - (intOf i).toNat)
  case atStart => exact ⟨0, by omega, rfl, by simp [mrkT], by rw [markTTo_zero]; exact ho, Chg.refl _ _ _⟩
  case round =>
    obtain ⟨j, hj, rfl, rfl, hinv⟩ := hrel
    by_cases hlt : j < n
    · have hml : (markTTo ts k j).length = n := by rw [markTTo_length _ _ _ (by rw [HL.out]; omega), HL.out]
      obtain ⟨g, t, A', c', rfl, hlo, hhi, hg, ht, ⟨k0, k1, k2⟩, ⟨f0, f1⟩, hrm, hup⟩ := hinv.out.1.mark3 hml hlt
      obtain ⟨t1, ht1⟩ : ∃ t1, ts[j]? = some t1 := ⟨ts[j]'(by rw [HL.out]; exact hlt), List.getElem?_eq_getElem _⟩
      rw [markTTo_get ht1] at ht
      injection ht with ht
      subst ht
      have hsum := mrkT_take_succ ht1
      have hle := mrkT_take_le ts (j + 1)
      have b1 : (0 : Int) < k + (mrkT (ts.take j) : Nat) := by omega
      have b2 : k + (mrkT (ts.take j) : Nat) + 1 + 1 + (sumL t1.rs : Nat) ≤ 1099511627776 := by omega
      have HQ := Lib.hid (show k + (mrkT (ts.take j) : Nat) + 1 + 1 + (sumL t1.rs : Nat) = k + (mrkT (ts.take (j + 1)) : Nat) by omega)
      have hrl := hrs'.out t1 (List.mem_of_getElem? ht1)
      have HS := Lib.hid (markTTo_step (k := k) ht1)
      have hC := Lib.hid hinv.out.2
      have HU := Lib.hid hup
      clear hup ht1 hsum hle hinv hml hrm
      generalize k + (mrkT (ts.take j) : Nat) = K at *
      go_wp2_with fail
      refine (markText_any K wr b1 (by omega)).mono ?_
      rintro e w1 ⟨rfl, hb1⟩
      have c0 := (hb1.cell (p := ⟨g, j * 3, none⟩) hg).trans k0
      have c1 := (hb1.cell (p := ⟨g, j * 3 + 1, none⟩) hg).trans k1
      have c2 := (hb1.cell (p := ⟨g, j * 3 + 2, none⟩) hg).trans k2
      have e0 := (hb1.frozen (p := ⟨g, j * 3, none⟩) hg).trans f0
      have e1 := (hb1.frozen (p := ⟨g, j * 3 + 1, none⟩) hg).trans f1
      obtain ⟨lo', hi', ho1, hup⟩ := HU.out w1 (mkT K) (K + 1) (mkT_size (by omega)) hb1
      have KM := Lib.hid (markIntSS_any A' t1.rs.length c' lo' hi' t1.rs (K + 1 + 1) _ ho1 hrl (by omega) (by omega))
      have h0 : Hid (Chg lo hi wr ((w1.setCell ⟨g, j * 3, none⟩ (.string (mkT K))).setCell ⟨g, j * 3 + 1, none⟩ (.int .i64 (K + 1)))) :=
        ⟨hb1.os, hb1.tape, hb1.output, by simpa [World.setCell] using hb1.size, fun i hi2 hn2 => by
          have hne : ¬ i = g := by omega
          exact ((Below.heap_setCell _ _ _ i hne).trans (Below.heap_setCell _ _ _ i hne)).trans (hb1.block i (by omega))⟩
      have HU1 := Lib.hid hup
      clear hup ho1 k0 k1 k2 f0 f1 hb1
      go_wp2_with fail
      refine KM.out.mono ?_
      rintro e w2 ⟨rfl, ho2, hc2⟩
      obtain ⟨hD, hch⟩ := HU1.out w2 _ (cntR_length _ _) ho2 hc2
      rw [HS.out] at hD
      have hfin := Lib.hid (And.intro hD (hC.out.trans (h0.out.trans hch)))
      clear hD hch ho2 hc2 KM HU1
      go_wp2_with fail
      refine ⟨⟨j + 1, by omega, by go_num, by rw [HQ.out], hfin.out⟩, ?_⟩
      simp [intOf]
      omega
    · obtain rfl : j = n := by omega
      have h1 := hinv.out
      rw [← HL.out, markTTo_full, HL.out] at h1
      have H1 := Lib.hid h1
      have HT := Lib.hid (show ts.take j = ts from List.take_of_length_le (Nat.le_of_eq HL.out))
      clear h1
      go_wp2
      go_ret
      exact ⟨by rw [HT.out] <;> rfl, H1.out⟩
end Go.Proofs.YtmojjbhjjhdpaaaDoor
