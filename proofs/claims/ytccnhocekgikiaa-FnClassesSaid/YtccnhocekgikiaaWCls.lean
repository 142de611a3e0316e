/- The walk of the law on classes. -/
import Derived.Test.YtccnhocekgikiaaDrDom
namespace Go.Proofs.Ytccnhocekgikiaa
open Go.RowKit Go.Deep

/-- A size is at most its class's, and more than the class before. -/
theorem scls_law (n : Int) : (scls n = -1) ∨ (0 ≤ scls n ∧ scls n ≤ 7 ∧ n ≤ csize (scls n) ∧ (scls n = 0 ∨ (0 < scls n ∧ csize (scls n - 1) < n))) := by
  obtain ⟨c0, c1, c2, c3, c4, c5, c6, c7⟩ := csize_vals
  by_cases h : n < 0 ∨ 4096 < n
  · exact .inl (by rw [scls, if_pos h])
  refine .inr ?_
  by_cases h0 : n ≤ 0
  · rw [show scls n = 0 by rw [scls, if_neg h, if_pos h0]]
    exact ⟨by omega, by omega, by rw [c0]; omega, .inl rfl⟩
  by_cases h1 : n ≤ 1
  · rw [show scls n = 1 by rw [scls, if_neg h, if_neg h0, if_pos h1]]
    exact ⟨by omega, by omega, by rw [c1]; omega, .inr ⟨by omega, by rw [show ((1 : Int) - 1) = 0 by omega, c0]; omega⟩⟩
  by_cases h2 : n ≤ 4
  · rw [show scls n = 2 by rw [scls, if_neg h, if_neg h0, if_neg h1, if_pos h2]]
    exact ⟨by omega, by omega, by rw [c2]; omega, .inr ⟨by omega, by rw [show ((2 : Int) - 1) = 1 by omega, c1]; omega⟩⟩
  by_cases h3 : n ≤ 16
  · rw [show scls n = 3 by rw [scls, if_neg h, if_neg h0, if_neg h1, if_neg h2, if_pos h3]]
    exact ⟨by omega, by omega, by rw [c3]; omega, .inr ⟨by omega, by rw [show ((3 : Int) - 1) = 2 by omega, c2]; omega⟩⟩
  by_cases h4 : n ≤ 64
  · rw [show scls n = 4 by rw [scls, if_neg h, if_neg h0, if_neg h1, if_neg h2, if_neg h3, if_pos h4]]
    exact ⟨by omega, by omega, by rw [c4]; omega, .inr ⟨by omega, by rw [show ((4 : Int) - 1) = 3 by omega, c3]; omega⟩⟩
  by_cases h5 : n ≤ 256
  · rw [show scls n = 5 by rw [scls, if_neg h, if_neg h0, if_neg h1, if_neg h2, if_neg h3, if_neg h4, if_pos h5]]
    exact ⟨by omega, by omega, by rw [c5]; omega, .inr ⟨by omega, by rw [show ((5 : Int) - 1) = 4 by omega, c4]; omega⟩⟩
  by_cases h6 : n ≤ 1024
  · rw [show scls n = 6 by rw [scls, if_neg h, if_neg h0, if_neg h1, if_neg h2, if_neg h3, if_neg h4, if_neg h5, if_pos h6]]
    exact ⟨by omega, by omega, by rw [c6]; omega, .inr ⟨by omega, by rw [show ((6 : Int) - 1) = 5 by omega, c5]; omega⟩⟩
  rw [show scls n = 7 by rw [scls, if_neg h, if_neg h0, if_neg h1, if_neg h2, if_neg h3, if_neg h4, if_neg h5, if_neg h6]]
  exact ⟨by omega, by omega, by rw [c7]; omega, .inr ⟨by omega, by rw [show ((7 : Int) - 1) = 6 by omega, c6]; omega⟩⟩
theorem dom_refl (a : List Int) : Dom a a := ⟨rfl, fun j x y hx hy => by rw [hx] at hy; injection hy with h; omega⟩
theorem dom_anti {a b : List Int} (h : Dom a b) (h' : Dom b a) : a = b := by
  refine List.ext_getElem? fun j => ?_
  by_cases hj : j < a.length
  · have hj' : j < b.length := by rw [← h.1]; exact hj
    have e1 := List.getElem?_eq_getElem hj
    have e2 := List.getElem?_eq_getElem hj'
    have h1 := h.2 j _ _ e1 e2
    have h2 := h'.2 j _ _ e2 e1
    rw [e1, e2]
    congr 1
    omega
  · have hj' : ¬ j < b.length := by rw [← h.1]; exact hj
    rw [List.getElem?_eq_none (by omega), List.getElem?_eq_none (by omega)]

set_option maxRecDepth 100000 in
set_option maxHeartbeats 1000000 in
theorem sameInts_same (A A' : Option Addr) (n c n' c' : Nat) (zs : List Int) (w : World) (hr : RdI w w.heap.size A n zs) (hr' : RdI w w.heap.size A' n' zs) (hn : n ≤ 1048576) :
    Calls Try.prog 14 #[.slice A n c, .slice A' n' c'] w fun e w' => e = .returned (.bool true) ∧ Below w.heap.size w w' := by
  have hnn : n' = n := hr'.1.symm.trans hr.1
  subst hnn
  have q2 : ((n' : Int) != (n' : Int)) = false := by simp
  go_enter Try.func14, Try.ntmps14
  go_wp2_with fail
  go_loopw [5] (fun i wr => ∃ k : Nat, k ≤ n' ∧ i = .int .i64 k ∧ Hid (Below w.heap.size w wr)) (fun i _ => n' - (intOf i).toNat)
  case atStart => exact ⟨0, by omega, rfl, Below.refl _ _⟩
  case round =>
    obtain ⟨k, hk, rfl, hbel⟩ := hrel
    by_cases hlt : k < n'
    · obtain ⟨b, o, rfl, hb, hc⟩ := hr.2 (by omega)
      obtain ⟨b', o', rfl, hb', hc'⟩ := hr'.2 (by omega)
      obtain ⟨x, hx⟩ : ∃ x, zs[k]? = some x := ⟨zs[k]'(by rw [hr.1]; exact hlt), List.getElem?_eq_getElem _⟩
      have d0 := (hbel.out.cell (p := ⟨b, o + k, none⟩) hb).trans (hc k x hx)
      have d1 := (hbel.out.cell (p := ⟨b', o' + k, none⟩) hb').trans (hc' k x hx)
      have g1 : (0 : Int) ≤ (k : Int) := by omega
      have g2 : (k : Int) < (n' : Int) := by omega
      have g3 : (k : Int).toNat = k := by omega
      have qx : (x != x) = false := by simp
      clear hc hc' hx
      go_wp2_with fail
      go_quiet (fail)
      have hbel2 := Lib.hid (below_drewN hbel.out nq)
      clear d0 d1
      go_wp2_with fail
      refine ⟨⟨k + 1, by omega, by go_num, hbel2⟩, ?_⟩
      simp [intOf]
      omega
    · obtain rfl : k = n' := by omega
      go_wp2_with fail
      go_ret
      exact ⟨rfl, hbel.out⟩

theorem ploc_dtext {zs : List Int} (h : isLoc zs = true) : ploc (dtext zs) = zs := by
  unfold isLoc at h
  simp only [Bool.and_eq_true, List.all_eq_true] at h
  rw [ploc, dtext, List.map_map]
  conv => rhs; rw [← List.map_id zs]
  apply List.map_congr_left
  intro x hx
  have h7 := inB_iff.1 (h.1 x hx)
  show ((UInt8.ofNat (48 + x.toNat)).toNat : Int) - 48 = x
  rw [UInt8.toNat_ofNat', Nat.mod_eq_of_lt (by omega)]
  omega
theorem plocR_flocR (zs : List Int) : (isLoc zs = true ∧ plocR (flocR zs) = (zs, true)) ∨ (isLoc zs = false ∧ plocR (flocR zs) = ([], true)) := by
  cases h : isLoc zs with
  | true =>
    refine .inl ⟨rfl, ?_⟩
    rw [flocR, if_pos h, plocR, ploc_dtext h, if_pos h]
  | false =>
    refine .inr ⟨rfl, ?_⟩
    rw [flocR, if_neg (by rw [h]; simp)]
    decide +kernel
theorem flocR_len (zs : List Int) : (⟨(flocR zs).toArray⟩ : ByteArray).size ≤ zs.length := by
  show (flocR zs).length ≤ _
  unfold flocR
  split
  · simp [dtext]
  · simp
/-- A comparison that answers whether P. -/
theorem iff_bool (P : Prop) : ∃ r : Bool, (r = true ↔ P) := by
  by_cases h : P
  · exact ⟨true, by simp [h]⟩
  · exact ⟨false, by simp [h]⟩
theorem BoolIff.to {P : Prop} {r : Bool} (hr : r = true ↔ P) {f : FuncId} {args : Array Value} {W : World} (h : Calls Try.prog f args W (BoolIff P W)) : Calls Try.prog f args W fun e w' => e = .returned (.bool r) ∧ Below W.heap.size W w' :=
  h.mono fun e w' ⟨r', hr', he, hb⟩ => by
    have : r' = r := by rw [Bool.eq_iff_iff]; exact hr'.trans hr.symm
    subst this
    exact ⟨he, hb⟩
set_option maxRecDepth 100000 in
set_option maxHeartbeats 4000000 in
theorem classes_walk (a0 : Option Addr) (len0 cap0 : Nat) (z0 : List Int) (w : World) (w0 : IsRow .u8 w a0 len0 cap0 z0) :
    Calls Try.prog 3 #[.slice a0 len0 cap0] w fun e w' => e = .returned (.bool true) ∧ Below w.heap.size w w' := by
  have hr := rdC_of_row w0
  by_cases hb : (1048576 : Int) < len0
  · have K := Lib.hid (big_any a0 len0 cap0 w)
    rw [decide_eq_true hb] at K
    go_enter Try.func3, Try.ntmps3
    go_wp2_with fail
    refine K.out.mono ?_
    rintro e w1 ⟨rfl, rfl⟩
    go_wp2_with fail
    go_ret
    exact ⟨rfl, Below.refl _ _⟩
  have K := Lib.hid (big_any a0 len0 cap0 w)
  rw [decide_eq_false hb] at K
  have hl : len0 ≤ 1048576 := by omega
  have KD1 : Hid (∀ W, Below w.heap.size w W → _) := fun W b => drawSizeClass_any a0 len0 cap0 W ((hr.keep b.block).more b.size) hl
  have KD2 : Hid (∀ W, Below w.heap.size w W → _) := fun W b => drawDominates_any a0 len0 cap0 W ((hr.keep b.block).more b.size) hl
  clear hb hl hr w0
  go_enter Try.func3, Try.ntmps3
  go_wp2_with fail
  refine K.out.mono ?_
  rintro e w1 ⟨rfl, rfl⟩
  clear K
  go_wp2_with fail
  refine (KD1.out w (Below.refl _ _)).mono ?_
  rintro e w1 ⟨n, rfl, _, b1⟩
  have HB1 := Lib.hid b1
  have hlaw := Lib.hid (scls_law n)
  have Ki := Lib.hid (impl_SizeClass_any n w1)
  have Ks := Lib.hid (spec_SizeClass_any n w1)
  have Kri := Lib.hid (impl_RoundUpSize_any n w1)
  have Krs := Lib.hid (spec_RoundUpSize_any n w1)
  generalize scls n = k at hlaw Ki Ks Kri Krs
  have Kc := Lib.hid (impl_ClassSize_any k w1)
  have Kd := Lib.hid (impl_ClassSize_any (k - 1) w1)
  have q1 : (k != k) = false := by simp
  have q2 : (csize k != csize k) = false := by simp
  generalize csize k = ck at *
  generalize csize (k - 1) = cd at *
  clear b1 KD1
  go_wp2_with fail
  refine Ki.out.mono ?_
  rintro e w2 ⟨rfl, rfl⟩
  go_wp2_with fail
  refine Ks.out.mono ?_
  rintro e w2 ⟨rfl, rfl⟩
  go_wp2_with fail
  refine Kri.out.mono ?_
  rintro e w2 ⟨rfl, rfl⟩
  go_wp2_with fail
  refine Krs.out.mono ?_
  rintro e w2 ⟨rfl, rfl⟩
  clear Ki Ks Kri Krs
  have hk : (k = -1) ∨ (k = 0 ∧ ¬ ck < n) ∨ (0 ≤ k ∧ 0 < k ∧ k ≤ 7 ∧ ¬ ck < n ∧ ¬ n ≤ cd) := by
    have := hlaw.out
    omega
  have HK := Lib.hid hk
  clear hlaw hk
  go_upto_region 7 with fail
  go_cut [47] (fun r wx => r = .bool false ∧ wx = w1)
  case first =>
    rcases HK.out with rfl | ⟨rfl, h2⟩ | ⟨h1, h2, h3, h4, h5⟩
    · clear Kc Kd HK
      go_wp2_with fail
      go_meet
      exact ⟨rfl, rfl⟩
    · clear Kd HK
      go_wp2_with fail
      refine Kc.out.mono ?_
      rintro e w2 ⟨rfl, rfl⟩
      go_wp2_with fail
      go_meet
      exact ⟨congrArg Value.bool (by simp [h2]), rfl⟩
    · clear HK
      go_wp2_with fail
      refine Kc.out.mono ?_
      rintro e w2 ⟨rfl, rfl⟩
      go_wp2_with fail
      refine Kd.out.mono ?_
      rintro e w2 ⟨rfl, rfl⟩
      go_wp2_with fail
      go_meet
      exact ⟨congrArg Value.bool (by simp [h4, h5]), rfl⟩
  case rest =>
    obtain ⟨rfl, rfl⟩ := hcut
    clear Kc Kd HK
    go_wp2_with fail
    refine (KD2.out _ HB1.out).mono ?_
    rintro e w2 ⟨A, A', n1, c1, n2, c2, zs, zs', rfl, ⟨hn1, hn2⟩, hr1, hr2, b2⟩
    have HB2 := Lib.hid (HB1.out.trans (b2.mono HB1.out.size))
    clear b2 KD2 HB1
    obtain ⟨dab, hdab⟩ := iff_bool (Dom zs zs')
    obtain ⟨dba, hdba⟩ := iff_bool (Dom zs' zs)
    have K1 : Hid (∀ W, Below w2.heap.size w2 W → _) := fun W b => BoolIff.to hdab (impl_DominatesLocation_any A A' n1 c1 n2 c2 zs zs' W ((hr1.belowB b (Nat.le_refl _)).more b.size) ((hr2.belowB b (Nat.le_refl _)).more b.size) (by omega) (by omega))
    have K2 : Hid (∀ W, Below w2.heap.size w2 W → _) := fun W b => BoolIff.to hdab (spec_DominatesLocation_any A A' n1 c1 n2 c2 zs zs' W ((hr1.belowB b (Nat.le_refl _)).more b.size) ((hr2.belowB b (Nat.le_refl _)).more b.size) (by omega) (by omega))
    have K3 : Hid (∀ W, Below w2.heap.size w2 W → _) := fun W b => BoolIff.to hdba (impl_DominatesLocation_any A' A n2 c2 n1 c1 zs' zs W ((hr2.belowB b (Nat.le_refl _)).more b.size) ((hr1.belowB b (Nat.le_refl _)).more b.size) (by omega) (by omega))
    have K4 : Hid (∀ W, Below w2.heap.size w2 W → _) := fun W b => BoolIff.to (P := Dom zs zs) (r := true) ⟨fun _ => dom_refl zs, fun _ => rfl⟩ (impl_DominatesLocation_any A A n1 c1 n1 c1 zs zs W ((hr1.belowB b (Nat.le_refl _)).more b.size) ((hr1.belowB b (Nat.le_refl _)).more b.size) (by omega) (by omega))
    have K5 : Hid (Dom zs zs' → Dom zs' zs → ∀ W, Below w2.heap.size w2 W → Calls Try.prog 14 #[.slice A n1 c1, .slice A' n2 c2] W fun e w' => e = .returned (.bool true) ∧ Below W.heap.size W w') := fun h1 h2 W b => by
      have := dom_anti h1 h2
      subst this
      exact sameInts_same A A' n1 c1 n2 c2 zs W ((hr1.belowB b (Nat.le_refl _)).more b.size) ((hr2.belowB b (Nat.le_refl _)).more b.size) (by omega)
    have HD1 := Lib.hid hdab
    have HD2 := Lib.hid hdba
    have KF : Hid (∀ W, Below w2.heap.size w2 W → _) := fun W b => impl_FormatLocation_any A n1 c1 zs W ((hr1.belowB b (Nat.le_refl _)).more b.size) (by omega)
    have KL : Hid (∀ W, Below w2.heap.size w2 W → _) := fun W b => impl_LocationSizes_any A n1 c1 zs W ((hr1.belowB b (Nat.le_refl _)).more b.size) (by omega)
    have KI : Hid (∀ W, Below w2.heap.size w2 W → _) := fun W b => impl_IsLocation_any A n1 c1 zs W ((hr1.belowB b (Nat.le_refl _)).more b.size) (by omega)
    have KS : Hid (∀ W, Below w2.heap.size w2 W → _) := fun W b => spec_IsLocation_any A n1 c1 zs W ((hr1.belowB b (Nat.le_refl _)).more b.size) (by omega)
    have HR := Lib.hid hr1
    have hzl : zs.length ≤ 18 := by rw [hr1.1]; exact hn1
    have KP : Hid (∀ W, Calls Try.prog 16 #[.string ⟨(flocR zs).toArray⟩] W (IntsBool (plocR (flocR zs)) W)) := fun W => impl_ParseLocation_any ⟨(flocR zs).toArray⟩ W (Nat.le_trans (flocR_len zs) (by omega))
    have hpl := Lib.hid (plocR_flocR zs)
    clear hr1 hr2 hdab hdba
    go_wp2_with fail
    refine (K1.out _ (Below.refl _ _)).mono ?_
    rintro e w3 ⟨rfl, b3⟩
    clear K1
    go_upto_region 11 with fail
    go_cut [80] (fun r wx => r = .bool false ∧ Below w2.heap.size w2 wx)
    case first =>
      have qd : (dab != dab) = false := by simp
      go_wp2_with fail
      refine (K2.out _ b3).mono ?_
      rintro e w4 ⟨rfl, b4⟩
      have b4 := b3.trans (b4.mono b3.size)
      cases dab with
      | false =>
        go_wp2_with fail
        refine (K4.out _ b4).mono ?_
        rintro e w5 ⟨rfl, b5⟩
        have b5 := b4.trans (b5.mono b4.size)
        go_wp2_with fail
        go_meet
        exact ⟨rfl, b5⟩
      | true =>
        go_wp2_with fail
        refine (K3.out _ b4).mono ?_
        rintro e w5 ⟨rfl, b5⟩
        have b5 := b4.trans (b5.mono b4.size)
        cases dba with
        | false =>
          go_wp2_with fail
          refine (K4.out _ b5).mono ?_
          rintro e w6 ⟨rfl, b6⟩
          have b6 := b5.trans (b6.mono b5.size)
          go_wp2_with fail
          go_meet
          exact ⟨rfl, b6⟩
        | true =>
          have K6 := Lib.hid (K5.out (by first | exact HD1.out.1 rfl | exact HD1.out.1 trivial) (by first | exact HD2.out.1 rfl | exact HD2.out.1 trivial))
          go_wp2_with fail
          refine (K6.out _ b5).mono ?_
          rintro e w6 ⟨rfl, b6⟩
          have b6 := b5.trans (b6.mono b5.size)
          go_wp2_with fail
          refine (K4.out _ b6).mono ?_
          rintro e w7 ⟨rfl, b7⟩
          have b7 := b6.trans (b7.mono b6.size)
          go_wp2_with fail
          go_meet
          exact ⟨rfl, b7⟩
    case rest =>
      obtain ⟨rfl, bc⟩ := hcut
      clear b3 K2 K3 K4 K5 HD1 HD2
      generalize wc = w4 at bc ⊢
      go_wp2_with fail
      refine (KF.out _ bc).mono ?_
      rintro e w5 ⟨rfl, b5⟩
      have b5 := bc.trans (b5.mono bc.size)
      clear KF bc
      go_wp2_with fail
      rcases hpl.out with ⟨hi, hp⟩ | ⟨hi, hp⟩
      all_goals (
        rw [hp] at KP
        rw [hi] at KI KS
        clear hpl hp)
      · refine (KP.out _).mono ?_
        rintro e w6 ⟨A3, c3, rfl, ho3, b6⟩
        have b6' := b5.trans (b6.mono b5.size)
        dsimp only at ho3
        go_wp2_with fail
        refine (KL.out _ b6').mono ?_
        rintro e w7 ⟨A4, c4, rfl, ho4, b7⟩
        have b7' := b6'.trans (b7.mono b6'.size)
        have hls : (lsizes zs).length = zs.length := by rw [lsizes, if_pos hi]; simp
        have HLS : Hid (((lsizes zs).length : Int) = (n1 : Int)) := by show _ = _; rw [hls, HR.out.1]
        have hx3 := ((ho3.rd rfl).more (Nat.le_refl _)).belowB b7 (Nat.le_refl _)
        have KQ := Lib.hid (fun W (b : Below w7.heap.size w7 W) => sameInts_same A3 A zs.length c3 n1 c1 zs W (((hx3.more b7.size).belowB b (Nat.le_refl _)).more b.size) (((HR.out.belowB b7' (Nat.le_refl _)).more b7'.size |>.belowB b (Nat.le_refl _)).more b.size) (by omega))
        have hl1 := HLS.out
        go_wp2_with fail
        refine (KI.out _ b7').mono ?_
        rintro e w8 ⟨rfl, rfl⟩
        go_wp2_with fail
        refine (KS.out _ b7').mono ?_
        rintro e w8 ⟨rfl, rfl⟩
        go_wp2_with fail
        refine (KS.out _ b7').mono ?_
        rintro e w8 ⟨rfl, rfl⟩
        go_wp2_with fail
        refine (KQ.out _ (Below.refl _ _)).mono ?_
        rintro e w8 ⟨rfl, b8⟩
        have HF := Lib.hid (HB2.out.trans ((b7'.trans (b8.mono b7'.size)).mono HB2.out.size))
        go_wp2_with fail
        go_ret
        exact ⟨by first | rfl | (show Ending.returned (Value.bool ((zs.length : Int) == (n1 : Int))) = _; rw [HR.out.1]; simp), HF.out⟩
      · refine (KP.out _).mono ?_
        rintro e w6 ⟨A3, c3, rfl, ho3, b6⟩
        have b6' := b5.trans (b6.mono b5.size)
        dsimp only at ho3
        go_wp2_with fail
        refine (KL.out _ b6').mono ?_
        rintro e w7 ⟨A4, c4, rfl, ho4, b7⟩
        have b7' := b6'.trans (b7.mono b6'.size)
        go_wp2_with fail
        refine (KI.out _ b7').mono ?_
        rintro e w8 ⟨rfl, rfl⟩
        go_wp2_with fail
        refine (KS.out _ b7').mono ?_
        rintro e w8 ⟨rfl, rfl⟩
        go_wp2_with fail
        refine (KS.out _ b7').mono ?_
        rintro e w8 ⟨rfl, rfl⟩
        have HF := Lib.hid (HB2.out.trans (b7'.mono HB2.out.size))
        go_wp2_with fail
        go_ret
        exact ⟨rfl, HF.out⟩
end Go.Proofs.Ytccnhocekgikiaa
