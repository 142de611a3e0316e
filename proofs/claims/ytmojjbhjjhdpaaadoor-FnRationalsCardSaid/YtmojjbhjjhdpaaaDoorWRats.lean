/- The walk of the law on rationals. -/
import Derived.Test.YtmojjbhjjhdpaaaDoorRatDr
import Derived.Test.YtmojjbhjjhdpaaaDoorRatOps
import Derived.Test.YtmojjbhjjhdpaaaDoorWParseRational
import Derived.Deep.DeepCutAuto
namespace Go.Proofs.YtmojjbhjjhdpaaaDoor
open Go.RowKit Go.Deep

/-- What an operation answers, its parts apart. -/
theorem fR_small (n d : Int) : (fR n d).size ≤ 1048576 := by
  unfold fR
  split
  · rename_i hv
    obtain ⟨⟨d1, d2⟩, ⟨n1, n2⟩, _⟩ := validR_iff.1 hv
    have h1 := fmtI_len (n := n) (k := 10) (by omega)
    have h2 := fmtI_len (n := d) (k := 10) (by omega)
    have h3 : (tR n d).data.toList.length = (rl n d).length := by rw [tR_list]
    have h4 : (rl n d).length ≤ (fmtI n).length + 1 + (fmtI d).length := by
      unfold rl
      split
      · omega
      · simp; omega
    have h5 : (tR n d).data.toList.length = (tR n d).size := Array.length_toList
    omega
  · show (0 : Nat) ≤ _
    omega
theorem ratV_ex (r : Int × Int × Bool) : ∃ p q b, r = (p, q, b) := ⟨_, _, _, rfl⟩
/-- All that the walk asks of the operations at two rationals. -/
structure RF (an ad bn bd sn sd : Int) (one : Bool) (pn pd : Int) (three : Bool) (xn xd : Int) (fine : Bool) (dn dd : Int) (two : Bool) (en ed : Int) (four va vb vs : Bool) (c m : Int) (t : ByteArray) (yn yd : Int) (read : Bool) : Prop where
  KA : ∀ W, Calls Tryd.prog 53 #[.agg #[.int .i64 an, .int .i64 ad], .agg #[.int .i64 bn, .int .i64 bd]] W fun e w' => e = .returned (.tuple #[.agg #[.int .i64 sn, .int .i64 sd], .bool one]) ∧ Below W.heap.size W w'
  KM : ∀ W, Calls Tryd.prog 56 #[.agg #[.int .i64 an, .int .i64 ad], .agg #[.int .i64 bn, .int .i64 bd]] W fun e w' => e = .returned (.tuple #[.agg #[.int .i64 pn, .int .i64 pd], .bool three]) ∧ Below W.heap.size W w'
  KS : ∀ W, Calls Tryd.prog 55 #[.agg #[.int .i64 an, .int .i64 ad], .agg #[.int .i64 bn, .int .i64 bd]] W fun e w' => e = .returned (.tuple #[.agg #[.int .i64 xn, .int .i64 xd], .bool fine]) ∧ Below W.heap.size W w'
  KD : ∀ W, Calls Tryd.prog 55 #[.agg #[.int .i64 sn, .int .i64 sd], .agg #[.int .i64 bn, .int .i64 bd]] W fun e w' => e = .returned (.tuple #[.agg #[.int .i64 dn, .int .i64 dd], .bool two]) ∧ Below W.heap.size W w'
  KE : ∀ W, Calls Tryd.prog 57 #[.agg #[.int .i64 pn, .int .i64 pd], .agg #[.int .i64 bn, .int .i64 bd]] W fun e w' => e = .returned (.tuple #[.agg #[.int .i64 en, .int .i64 ed], .bool four]) ∧ Below W.heap.size W w'
  KVs : ∀ W, Calls Tryd.prog 54 #[.agg #[.int .i64 sn, .int .i64 sd]] W fun e w' => e = .returned (.bool vs) ∧ Below W.heap.size W w'
  KVa : ∀ W, Calls Tryd.prog 54 #[.agg #[.int .i64 an, .int .i64 ad]] W fun e w' => e = .returned (.bool va) ∧ Below W.heap.size W w'
  KVb : ∀ W, Calls Tryd.prog 54 #[.agg #[.int .i64 bn, .int .i64 bd]] W fun e w' => e = .returned (.bool vb) ∧ Below W.heap.size W w'
  KVi : ∀ W, Calls Tryd.prog 60 #[.agg #[.int .i64 an, .int .i64 ad]] W fun e w' => e = .returned (.bool va) ∧ Below W.heap.size W w'
  KCi : ∀ W, Calls Tryd.prog 58 #[.agg #[.int .i64 an, .int .i64 ad], .agg #[.int .i64 bn, .int .i64 bd]] W fun e w' => e = .returned (.int .i64 c) ∧ Below W.heap.size W w'
  KCs : ∀ W, Calls Tryd.prog 59 #[.agg #[.int .i64 an, .int .i64 ad], .agg #[.int .i64 bn, .int .i64 bd]] W fun e w' => e = .returned (.int .i64 c) ∧ Below W.heap.size W w'
  KCe : ∀ W, Calls Tryd.prog 61 #[.agg #[.int .i64 an, .int .i64 ad]] W fun e w' => e = .returned (.int .i64 m) ∧ Below W.heap.size W w'
  KF : ∀ W, Tb W → Calls Tryd.prog 19 #[.agg #[.int .i64 an, .int .i64 ad]] W fun e w' => e = .returned (.string t) ∧ Below W.heap.size W w'
  KP : ∀ W, Tb W → Ev W → Mx W → Calls Tryd.prog 21 #[.string t] W fun e w' => e = .returned (.tuple #[.agg #[.int .i64 yn, .int .i64 yd], .bool read]) ∧ Below W.heap.size W w'
  hPa : va = true → read = true ∧ yn = an ∧ yd = ad
  hPb : va = false → read = false
  hAo : one = true → vs = true ∧ va = true ∧ vb = true
  hAn : one = false → vs = false
  hDo : one = true → two = true → dn = an ∧ dd = ad
  hEo : three = true → four = true → en = an ∧ ed = ad
  hSc : fine = true → decide (xn < 0) = decide (c < 0) ∧ decide (0 < xn) = decide (0 < c)
  hCe : va = true → an ≤ m * ad ∧ (m - 1) * ad < an ∧ (-2147483648 ≤ m ∧ m ≤ 2147483648) ∧ wrap64 (m * ad) = m * ad ∧ wrap64 ((m - 1) * ad) = (m - 1) * ad
theorem rat_facts (an ad bn bd : Int) : ∃ sn sd one pn pd three xn xd fine dn dd two en ed four va vb vs c m t yn yd read, RF an ad bn bd sn sd one pn pd three xn xd fine dn dd two en ed four va vb vs c m t yn yd read := by
  obtain ⟨sn, sd, one, hA⟩ := ratV_ex (opR an ad bn bd (an * bd + bn * ad) (ad * bd))
  obtain ⟨pn, pd, three, hM⟩ := ratV_ex (opR an ad bn bd (an * bn) (ad * bd))
  obtain ⟨xn, xd, fine, hS⟩ := ratV_ex (opR an ad bn bd (an * bd - bn * ad) (ad * bd))
  obtain ⟨dn, dd, two, hD⟩ := ratV_ex (opR sn sd bn bd (sn * bd - bn * sd) (sd * bd))
  obtain ⟨en, ed, four, hE⟩ := ratV_ex (opR pn pd bn bd (pn * bd) (pd * bn))
  obtain ⟨yn, yd, read, _, KP, hP1, hP2⟩ := parseRational_both (fR an ad) (fR_small an ad)
  refine ⟨sn, sd, one, pn, pd, three, xn, xd, fine, dn, dd, two, en, ed, four, validR an ad, validR bn bd, validR sn sd, cmpR an ad bn bd, ceilR an ad, fR an ad, yn, yd, read, ?_⟩
  exact {
    KA := (fun W => by have := impl_Add_any an ad bn bd W; rw [ratV_of hA] at this; exact this),
    KM := (fun W => by have := impl_Multiply_any an ad bn bd W; rw [ratV_of hM] at this; exact this),
    KS := (fun W => by have := impl_Subtract_any an ad bn bd W; rw [ratV_of hS] at this; exact this),
    KD := (fun W => by have := impl_Subtract_any sn sd bn bd W; rw [ratV_of hD] at this; exact this),
    KE := (fun W => by have := impl_Divide_any pn pd bn bd W; rw [ratV_of hE] at this; exact this),
    KVs := (fun W => spec_IsValid_any sn sd W),
    KVa := (fun W => spec_IsValid_any an ad W),
    KVb := (fun W => spec_IsValid_any bn bd W),
    KVi := (fun W => impl_IsValid_any an ad W),
    KCi := (fun W => impl_Compare_any an ad bn bd W),
    KCs := (fun W => spec_Compare_any an ad bn bd W),
    KCe := (fun W => impl_Ceil_any an ad W),
    KF := (fun W t => impl_FormatRational_any an ad W t),
    KP := (KP.out),
    hPa := (fun hv => by
        have hR : IsR an ad (fR an ad) := ⟨hv, by rw [fR, if_pos hv]⟩
        cases hr : read with
        | true => exact ⟨rfl, isR_uniq (hP1 hr) hR⟩
        | false => exact absurd hR (hP2 hr an ad)),
    hPb := (fun hv => by
        cases hr : read with
        | true => exact absurd (by rw [fR, if_neg (by rw [hv]; simp)]) (isR_ne (hP1 hr))
        | false => rfl),
    hAo := (fun e => by subst e; obtain ⟨h1, h2, h3, _⟩ := opR_ok hA; exact ⟨h3, h1, h2⟩),
    hAn := (fun e => by subst e; obtain ⟨rfl, rfl⟩ := opR_no hA; exact validR_zero),
    hDo := (fun e e2 => by subst e e2; exact add_back hA hD),
    hEo := (fun e e2 => by subst e e2; exact mul_back hM hE),
    hSc := (fun e => by
        subst e
        obtain ⟨h1, h2⟩ := sub_cmp hS
        exact ⟨decide_eq_decide.2 h1.symm, decide_eq_decide.2 h2.symm⟩),
    hCe := (fun hv => by
        obtain ⟨h1, h2, h3⟩ := ceil_law hv
        obtain ⟨⟨v1, v2⟩, ⟨v3, v4⟩, _⟩ := validR_iff.1 hv
        have hb1 : ceilR an ad * ad ≤ an + ad := by
          have : (ceilR an ad - 1) * ad = ceilR an ad * ad - ad := by grind
          omega
        have hb2 : (ceilR an ad - 1) * ad = ceilR an ad * ad - ad := by grind
        exact ⟨h1, h2, h3, IntWalk.wrap64_in _ (by omega), IntWalk.wrap64_in _ (by omega)⟩) }

set_option maxRecDepth 100000 in
set_option maxHeartbeats 8000000 in
theorem rationals_walk (a0 : Option Addr) (len0 cap0 : Nat) (z0 : List Int) (w : World) (ht : Tb w) (he : Ev w) (hm : Mx w) (w0 : IsRow .u8 w a0 len0 cap0 z0) :
    Calls Tryd.prog 12 #[.slice a0 len0 cap0] w fun e w' => e = .returned (.bool true) ∧ Below w.heap.size w w' := by
  have hr := rdC_of_row w0
  by_cases hb : (1048576 : Int) < len0
  · have K := Lib.hid (big_any a0 len0 cap0 w)
    rw [decide_eq_true hb] at K
    go_enter Tryd.func12, Tryd.ntmps12
    go_wp2_with fail
    refine K.out.mono ?_
    rintro e w1 ⟨rfl, rfl⟩
    go_wp2_with fail
    go_ret
    exact ⟨rfl, Below.refl _ _⟩
  have K := Lib.hid (big_any a0 len0 cap0 w)
  rw [decide_eq_false hb] at K
  have hl : len0 ≤ 1048576 := by omega
  have KD1 : Hid (∀ W, Below w.heap.size w W → _) := fun W b => drawAdd_any a0 len0 cap0 W ((hr.keep b.block).more b.size) hl
  have KD2 : Hid (∀ W, Below w.heap.size w W → _) := fun W b => drawMake_any a0 len0 cap0 W ((hr.keep b.block).more b.size) hl
  clear hb hl hr w0
  go_enter Tryd.func12, Tryd.ntmps12
  go_wp2_with fail
  refine K.out.mono ?_
  rintro e w1 ⟨rfl, rfl⟩
  clear K
  go_wp2_with fail
  refine (KD1.out w (Below.refl _ _)).mono ?_
  rintro e w1 ⟨an, ad, bn, bd, rfl, ⟨⟨ha1, ha2⟩, hb1, hb2⟩, b1⟩
  have kn1 := (Kn.start w).next b1
  clear b1 KD1
  obtain ⟨sn, sd, one, pn, pd, three, xn, xd, fine, dn, dd, two, en, ed, four, va, vb, vs, c, m, t, yn, yd, read, Fx⟩ := rat_facts an ad bn bd
  have qc : (c != c) = false := by simp
  go_wp2_with fail
  have kn2 : Kn w [(w1.heap.size, 0, .int .i64 an), (w1.heap.size, 1, .int .i64 ad), (w1.heap.size + 1, 0, .int .i64 bn), (w1.heap.size + 1, 1, .int .i64 bd)] ((w1.alloc (.cells #[.int .i64 an, .int .i64 ad] 30)).alloc (.cells #[.int .i64 bn, .int .i64 bd] 30)) := by
    simpa using (kn1.box [.int .i64 an, .int .i64 ad] 30).box [.int .i64 bn, .int .i64 bd] 30
  clear kn1
  generalize (w1.alloc (.cells #[.int .i64 an, .int .i64 ad] 30)).alloc (.cells #[.int .i64 bn, .int .i64 bd] 30) = w2 at kn2 ⊢
  generalize w1.heap.size + 1 = Bb at kn2 ⊢
  generalize w1.heap.size = Ba at kn2 ⊢
  obtain ⟨dBa_0, dBa_1, dBb_0, dBb_1, _⟩ := kn2.all
  have lBa : Ba < w2.heap.size := (kn2.cell (Ba, 0, .int .i64 an) (by simp)).1
  have lBb : Bb < w2.heap.size := (kn2.cell (Bb, 0, .int .i64 bn) (by simp)).1
  refine (Fx.KA w2).mono ?_
  rintro e w3 ⟨rfl, b3⟩
  clear dBa_0 dBa_1 dBb_0 dBb_1 lBa lBb
  have kn3 := kn2.next b3
  clear kn2 b3
  obtain ⟨dBa_0, dBa_1, dBb_0, dBb_1, _⟩ := kn3.all
  have lBa : Ba < w3.heap.size := (kn3.cell (Ba, 0, .int .i64 an) (by simp)).1
  have lBb : Bb < w3.heap.size := (kn3.cell (Bb, 0, .int .i64 bn) (by simp)).1
  go_upto_region 5 with fail
  clear dBa_0 dBa_1 dBb_0 dBb_1 lBa lBb
  have kn4 : Kn w [(Ba, 0, .int .i64 an), (Ba, 1, .int .i64 ad), (Bb, 0, .int .i64 bn), (Bb, 1, .int .i64 bd), (w3.heap.size, 0, .int .i64 sn), (w3.heap.size, 1, .int .i64 sd)] (w3.alloc (.cells #[.int .i64 sn, .int .i64 sd] 30)) := by simpa using kn3.box [.int .i64 sn, .int .i64 sd] 30
  clear kn3
  generalize w3.alloc (.cells #[.int .i64 sn, .int .i64 sd] 30) = w4 at kn4 ⊢
  generalize w3.heap.size = Bs at kn4 ⊢
  obtain ⟨dBa_0, dBa_1, dBb_0, dBb_1, dBs_0, dBs_1, _⟩ := kn4.all
  have lBa : Ba < w4.heap.size := (kn4.cell (Ba, 0, .int .i64 an) (by simp)).1
  have lBb : Bb < w4.heap.size := (kn4.cell (Bb, 0, .int .i64 bn) (by simp)).1
  have lBs : Bs < w4.heap.size := (kn4.cell (Bs, 0, .int .i64 sn) (by simp)).1
  go_cut [50] (fun r wx => r = .bool false ∧ Kn w [(Ba, 0, .int .i64 an), (Ba, 1, .int .i64 ad), (Bb, 0, .int .i64 bn), (Bb, 1, .int .i64 bd), (Bs, 0, .int .i64 sn), (Bs, 1, .int .i64 sd)] wx)
  case first =>
    as_aux_lemma =>
      cases one with
      | false =>
        have e1 := Fx.hAn (by simp)
        subst e1
        go_wp2_with fail
        refine (Fx.KVs w4).mono ?_
        rintro e w5 ⟨rfl, b5⟩
        clear dBa_0 dBa_1 dBb_0 dBb_1 dBs_0 dBs_1 lBa lBb lBs
        have kn5 := kn4.next b5
        clear kn4 b5
        obtain ⟨dBa_0, dBa_1, dBb_0, dBb_1, dBs_0, dBs_1, _⟩ := kn5.all
        have lBa : Ba < w5.heap.size := (kn5.cell (Ba, 0, .int .i64 an) (by simp)).1
        have lBb : Bb < w5.heap.size := (kn5.cell (Bb, 0, .int .i64 bn) (by simp)).1
        have lBs : Bs < w5.heap.size := (kn5.cell (Bs, 0, .int .i64 sn) (by simp)).1
        have HM := kn5
        go_wp2_with fail
        go_meet
        first | exact ⟨rfl, HM.sub (by simp)⟩ | exact ⟨rfl, (HM.next ((Below.refl _ _).alloc (Nat.le_refl _) _)).sub (by simp)⟩
      | true =>
        obtain ⟨e1, e2, e3⟩ := Fx.hAo (by simp)
        subst e1 e2 e3
        go_wp2_with fail
        refine (Fx.KVs w4).mono ?_
        rintro e w5 ⟨rfl, b5⟩
        clear dBa_0 dBa_1 dBb_0 dBb_1 dBs_0 dBs_1 lBa lBb lBs
        have kn5 := kn4.next b5
        clear kn4 b5
        obtain ⟨dBa_0, dBa_1, dBb_0, dBb_1, dBs_0, dBs_1, _⟩ := kn5.all
        have lBa : Ba < w5.heap.size := (kn5.cell (Ba, 0, .int .i64 an) (by simp)).1
        have lBb : Bb < w5.heap.size := (kn5.cell (Bb, 0, .int .i64 bn) (by simp)).1
        have lBs : Bs < w5.heap.size := (kn5.cell (Bs, 0, .int .i64 sn) (by simp)).1
        go_wp2_with fail
        refine (Fx.KVa w5).mono ?_
        rintro e w6 ⟨rfl, b6⟩
        clear dBa_0 dBa_1 dBb_0 dBb_1 dBs_0 dBs_1 lBa lBb lBs
        have kn6 := kn5.next b6
        clear kn5 b6
        obtain ⟨dBa_0, dBa_1, dBb_0, dBb_1, dBs_0, dBs_1, _⟩ := kn6.all
        have lBa : Ba < w6.heap.size := (kn6.cell (Ba, 0, .int .i64 an) (by simp)).1
        have lBb : Bb < w6.heap.size := (kn6.cell (Bb, 0, .int .i64 bn) (by simp)).1
        have lBs : Bs < w6.heap.size := (kn6.cell (Bs, 0, .int .i64 sn) (by simp)).1
        go_wp2_with fail
        refine (Fx.KVb w6).mono ?_
        rintro e w7 ⟨rfl, b7⟩
        clear dBa_0 dBa_1 dBb_0 dBb_1 dBs_0 dBs_1 lBa lBb lBs
        have kn7 := kn6.next b7
        clear kn6 b7
        obtain ⟨dBa_0, dBa_1, dBb_0, dBb_1, dBs_0, dBs_1, _⟩ := kn7.all
        have lBa : Ba < w7.heap.size := (kn7.cell (Ba, 0, .int .i64 an) (by simp)).1
        have lBb : Bb < w7.heap.size := (kn7.cell (Bb, 0, .int .i64 bn) (by simp)).1
        have lBs : Bs < w7.heap.size := (kn7.cell (Bs, 0, .int .i64 sn) (by simp)).1
        have HM := kn7
        go_wp2_with fail
        go_meet
        first | exact ⟨rfl, HM.sub (by simp)⟩ | exact ⟨rfl, (HM.next ((Below.refl _ _).alloc (Nat.le_refl _) _)).sub (by simp)⟩
  case rest =>
    clear dBa_0 dBa_1 dBb_0 dBb_1 dBs_0 dBs_1 lBa lBb lBs
    clear kn4
    obtain ⟨rfl, kn44⟩ := hcut
    generalize wc = w44 at kn44 ⊢
    obtain ⟨dBa_0, dBa_1, dBb_0, dBb_1, dBs_0, dBs_1, _⟩ := kn44.all
    have lBa : Ba < w44.heap.size := (kn44.cell (Ba, 0, .int .i64 an) (by simp)).1
    have lBb : Bb < w44.heap.size := (kn44.cell (Bb, 0, .int .i64 bn) (by simp)).1
    have lBs : Bs < w44.heap.size := (kn44.cell (Bs, 0, .int .i64 sn) (by simp)).1
    go_upto_if 51 with fail
    go_cut [2] (fun r wx => r = .bool false ∧ Kn w [(Ba, 0, .int .i64 an), (Ba, 1, .int .i64 ad), (Bb, 0, .int .i64 bn), (Bb, 1, .int .i64 bd)] wx)
    case first =>
      as_aux_lemma =>
        cases one with
        | false =>
          have HM := kn44
          go_wp2_with fail
          go_meet
          first | exact ⟨rfl, HM.sub (by simp)⟩ | exact ⟨rfl, (HM.next ((Below.refl _ _).alloc (Nat.le_refl _) _)).sub (by simp)⟩
        | true =>
          go_wp2_with fail
          refine (Fx.KD w44).mono ?_
          rintro e w45 ⟨rfl, b45⟩
          clear dBa_0 dBa_1 dBb_0 dBb_1 dBs_0 dBs_1 lBa lBb lBs
          have kn45 := kn44.next b45
          clear kn44 b45
          obtain ⟨dBa_0, dBa_1, dBb_0, dBb_1, dBs_0, dBs_1, _⟩ := kn45.all
          have lBa : Ba < w45.heap.size := (kn45.cell (Ba, 0, .int .i64 an) (by simp)).1
          have lBb : Bb < w45.heap.size := (kn45.cell (Bb, 0, .int .i64 bn) (by simp)).1
          have lBs : Bs < w45.heap.size := (kn45.cell (Bs, 0, .int .i64 sn) (by simp)).1
          cases two with
          | false =>
            have HM := kn45
            go_wp2_with fail
            go_meet
            first | exact ⟨rfl, HM.sub (by simp)⟩ | exact ⟨rfl, (HM.next ((Below.refl _ _).alloc (Nat.le_refl _) _)).sub (by simp)⟩
          | true =>
            obtain ⟨e1, e2⟩ := Fx.hDo (by simp) (by simp)
            have e1 := e1.symm
            have e2 := e2.symm
            subst e1 e2
            have HM := kn45
            go_wp2_with fail
            go_meet
            first | exact ⟨rfl, HM.sub (by simp)⟩ | exact ⟨rfl, (HM.next ((Below.refl _ _).alloc (Nat.le_refl _) _)).sub (by simp)⟩
    case rest =>
      clear dBa_0 dBa_1 dBb_0 dBb_1 dBs_0 dBs_1 lBa lBb lBs
      clear kn44
      obtain ⟨rfl, kn84⟩ := hcut
      generalize wc = w84 at kn84 ⊢
      obtain ⟨dBa_0, dBa_1, dBb_0, dBb_1, _⟩ := kn84.all
      have lBa : Ba < w84.heap.size := (kn84.cell (Ba, 0, .int .i64 an) (by simp)).1
      have lBb : Bb < w84.heap.size := (kn84.cell (Bb, 0, .int .i64 bn) (by simp)).1
      go_wp2_with fail
      refine (Fx.KM w84).mono ?_
      rintro e w85 ⟨rfl, b85⟩
      clear dBa_0 dBa_1 dBb_0 dBb_1 lBa lBb
      have kn85 := kn84.next b85
      clear kn84 b85
      obtain ⟨dBa_0, dBa_1, dBb_0, dBb_1, _⟩ := kn85.all
      have lBa : Ba < w85.heap.size := (kn85.cell (Ba, 0, .int .i64 an) (by simp)).1
      have lBb : Bb < w85.heap.size := (kn85.cell (Bb, 0, .int .i64 bn) (by simp)).1
      go_upto_region 12 with fail
      clear dBa_0 dBa_1 dBb_0 dBb_1 lBa lBb
      have kn86 : Kn w [(Ba, 0, .int .i64 an), (Ba, 1, .int .i64 ad), (Bb, 0, .int .i64 bn), (Bb, 1, .int .i64 bd), (w85.heap.size, 0, .int .i64 pn), (w85.heap.size, 1, .int .i64 pd)] (w85.alloc (.cells #[.int .i64 pn, .int .i64 pd] 30)) := by simpa using kn85.box [.int .i64 pn, .int .i64 pd] 30
      clear kn85
      generalize w85.alloc (.cells #[.int .i64 pn, .int .i64 pd] 30) = w86 at kn86 ⊢
      generalize w85.heap.size = Bp at kn86 ⊢
      obtain ⟨dBa_0, dBa_1, dBb_0, dBb_1, dBp_0, dBp_1, _⟩ := kn86.all
      have lBa : Ba < w86.heap.size := (kn86.cell (Ba, 0, .int .i64 an) (by simp)).1
      have lBb : Bb < w86.heap.size := (kn86.cell (Bb, 0, .int .i64 bn) (by simp)).1
      have lBp : Bp < w86.heap.size := (kn86.cell (Bp, 0, .int .i64 pn) (by simp)).1
      go_cut [75] (fun r wx => (∃ b : Bool, r = .bool b ∧ (b = true → three = true)) ∧ Kn w [(Ba, 0, .int .i64 an), (Ba, 1, .int .i64 ad), (Bb, 0, .int .i64 bn), (Bb, 1, .int .i64 bd), (Bp, 0, .int .i64 pn), (Bp, 1, .int .i64 pd)] wx)
      case first =>
        as_aux_lemma =>
          cases three with
          | false =>
            have HM := kn86
            go_wp2_with fail
            go_meet
            first | exact ⟨⟨false, rfl, by simp⟩, HM.sub (by simp)⟩ | exact ⟨⟨false, rfl, by simp⟩, (HM.next ((Below.refl _ _).alloc (Nat.le_refl _) _)).sub (by simp)⟩
          | true =>
            by_cases hbn : bn = 0
            · subst hbn
              have HM := kn86
              go_wp2_with fail
              go_meet
              first | exact ⟨⟨false, rfl, by simp⟩, HM.sub (by simp)⟩ | exact ⟨⟨false, rfl, by simp⟩, (HM.next ((Below.refl _ _).alloc (Nat.le_refl _) _)).sub (by simp)⟩
            · skip
              have hbn2 : (bn != 0) = true := by simp [hbn]
              have hbn3 : (bn == 0) = false := by simp [hbn]
              have HM := kn86
              go_wp2_with fail
              go_meet
              first | exact ⟨⟨true, rfl, by simp⟩, HM.sub (by simp)⟩ | exact ⟨⟨true, rfl, by simp⟩, (HM.next ((Below.refl _ _).alloc (Nat.le_refl _) _)).sub (by simp)⟩
      case rest =>
        clear dBa_0 dBa_1 dBb_0 dBb_1 dBp_0 dBp_1 lBa lBb lBp
        clear kn86
        obtain ⟨⟨b, rfl, hb3⟩, kn126⟩ := hcut
        generalize wc = w126 at kn126 ⊢
        obtain ⟨dBa_0, dBa_1, dBb_0, dBb_1, dBp_0, dBp_1, _⟩ := kn126.all
        have lBa : Ba < w126.heap.size := (kn126.cell (Ba, 0, .int .i64 an) (by simp)).1
        have lBb : Bb < w126.heap.size := (kn126.cell (Bb, 0, .int .i64 bn) (by simp)).1
        have lBp : Bp < w126.heap.size := (kn126.cell (Bp, 0, .int .i64 pn) (by simp)).1
        have HB3 := Lib.hid hb3
        clear hb3
        go_upto_if 75 with fail
        go_cut [2] (fun r wx => r = .bool false ∧ Kn w [(Ba, 0, .int .i64 an), (Ba, 1, .int .i64 ad), (Bb, 0, .int .i64 bn), (Bb, 1, .int .i64 bd)] wx)
        case first =>
          as_aux_lemma =>
            cases b with
            | false =>
              have HM := kn126
              go_wp2_with fail
              go_meet
              first | exact ⟨rfl, HM.sub (by simp)⟩ | exact ⟨rfl, (HM.next ((Below.refl _ _).alloc (Nat.le_refl _) _)).sub (by simp)⟩
            | true =>
              have e3 := HB3.out (by simp)
              subst e3
              go_wp2_with fail
              refine (Fx.KE w126).mono ?_
              rintro e w127 ⟨rfl, b127⟩
              clear dBa_0 dBa_1 dBb_0 dBb_1 dBp_0 dBp_1 lBa lBb lBp
              have kn127 := kn126.next b127
              clear kn126 b127
              obtain ⟨dBa_0, dBa_1, dBb_0, dBb_1, dBp_0, dBp_1, _⟩ := kn127.all
              have lBa : Ba < w127.heap.size := (kn127.cell (Ba, 0, .int .i64 an) (by simp)).1
              have lBb : Bb < w127.heap.size := (kn127.cell (Bb, 0, .int .i64 bn) (by simp)).1
              have lBp : Bp < w127.heap.size := (kn127.cell (Bp, 0, .int .i64 pn) (by simp)).1
              cases four with
              | false =>
                have HM := kn127
                go_wp2_with fail
                go_meet
                first | exact ⟨rfl, HM.sub (by simp)⟩ | exact ⟨rfl, (HM.next ((Below.refl _ _).alloc (Nat.le_refl _) _)).sub (by simp)⟩
              | true =>
                obtain ⟨e1, e2⟩ := Fx.hEo (by simp) (by simp)
                have e1 := e1.symm
                have e2 := e2.symm
                subst e1 e2
                have HM := kn127
                go_wp2_with fail
                go_meet
                first | exact ⟨rfl, HM.sub (by simp)⟩ | exact ⟨rfl, (HM.next ((Below.refl _ _).alloc (Nat.le_refl _) _)).sub (by simp)⟩
        case rest =>
          clear dBa_0 dBa_1 dBb_0 dBb_1 dBp_0 dBp_1 lBa lBb lBp
          clear kn126
          obtain ⟨rfl, kn166⟩ := hcut
          generalize wc = w166 at kn166 ⊢
          obtain ⟨dBa_0, dBa_1, dBb_0, dBb_1, _⟩ := kn166.all
          have lBa : Ba < w166.heap.size := (kn166.cell (Ba, 0, .int .i64 an) (by simp)).1
          have lBb : Bb < w166.heap.size := (kn166.cell (Bb, 0, .int .i64 bn) (by simp)).1
          clear HB3
          go_wp2_with fail
          refine (Fx.KS w166).mono ?_
          rintro e w167 ⟨rfl, b167⟩
          clear dBa_0 dBa_1 dBb_0 dBb_1 lBa lBb
          have kn167 := kn166.next b167
          clear kn166 b167
          obtain ⟨dBa_0, dBa_1, dBb_0, dBb_1, _⟩ := kn167.all
          have lBa : Ba < w167.heap.size := (kn167.cell (Ba, 0, .int .i64 an) (by simp)).1
          have lBb : Bb < w167.heap.size := (kn167.cell (Bb, 0, .int .i64 bn) (by simp)).1
          go_wp2_with fail
          clear dBa_0 dBa_1 dBb_0 dBb_1 lBa lBb
          have kn168 : Kn w [(Ba, 0, .int .i64 an), (Ba, 1, .int .i64 ad), (Bb, 0, .int .i64 bn), (Bb, 1, .int .i64 bd), (w167.heap.size, 0, .int .i64 xn), (w167.heap.size, 1, .int .i64 xd)] (w167.alloc (.cells #[.int .i64 xn, .int .i64 xd] 30)) := by simpa using kn167.box [.int .i64 xn, .int .i64 xd] 30
          clear kn167
          generalize w167.alloc (.cells #[.int .i64 xn, .int .i64 xd] 30) = w168 at kn168 ⊢
          generalize w167.heap.size = Bx at kn168 ⊢
          obtain ⟨dBa_0, dBa_1, dBb_0, dBb_1, dBx_0, dBx_1, _⟩ := kn168.all
          have lBa : Ba < w168.heap.size := (kn168.cell (Ba, 0, .int .i64 an) (by simp)).1
          have lBb : Bb < w168.heap.size := (kn168.cell (Bb, 0, .int .i64 bn) (by simp)).1
          have lBx : Bx < w168.heap.size := (kn168.cell (Bx, 0, .int .i64 xn) (by simp)).1
          refine (Fx.KCi w168).mono ?_
          rintro e w169 ⟨rfl, b169⟩
          clear dBa_0 dBa_1 dBb_0 dBb_1 dBx_0 dBx_1 lBa lBb lBx
          have kn169 := kn168.next b169
          clear kn168 b169
          obtain ⟨dBa_0, dBa_1, dBb_0, dBb_1, dBx_0, dBx_1, _⟩ := kn169.all
          have lBa : Ba < w169.heap.size := (kn169.cell (Ba, 0, .int .i64 an) (by simp)).1
          have lBb : Bb < w169.heap.size := (kn169.cell (Bb, 0, .int .i64 bn) (by simp)).1
          have lBx : Bx < w169.heap.size := (kn169.cell (Bx, 0, .int .i64 xn) (by simp)).1
          go_upto_region 18 with fail
          go_cut [123] (fun r wx => r = .bool false ∧ Kn w [(Ba, 0, .int .i64 an), (Ba, 1, .int .i64 ad), (Bb, 0, .int .i64 bn), (Bb, 1, .int .i64 bd)] wx)
          case first =>
            as_aux_lemma =>
              cases fine with
              | false =>
                go_wp2_with fail
                refine (Fx.KCs w169).mono ?_
                rintro e w170 ⟨rfl, b170⟩
                clear dBa_0 dBa_1 dBb_0 dBb_1 dBx_0 dBx_1 lBa lBb lBx
                have kn170 := kn169.next b170
                clear kn169 b170
                obtain ⟨dBa_0, dBa_1, dBb_0, dBb_1, dBx_0, dBx_1, _⟩ := kn170.all
                have lBa : Ba < w170.heap.size := (kn170.cell (Ba, 0, .int .i64 an) (by simp)).1
                have lBb : Bb < w170.heap.size := (kn170.cell (Bb, 0, .int .i64 bn) (by simp)).1
                have lBx : Bx < w170.heap.size := (kn170.cell (Bx, 0, .int .i64 xn) (by simp)).1
                have HM := kn170
                go_wp2_with fail
                go_meet
                first | exact ⟨rfl, HM.sub (by simp)⟩ | exact ⟨rfl, (HM.next ((Below.refl _ _).alloc (Nat.le_refl _) _)).sub (by simp)⟩
              | true =>
                go_wp2_with fail
                refine (Fx.KCs w169).mono ?_
                rintro e w170 ⟨rfl, b170⟩
                clear dBa_0 dBa_1 dBb_0 dBb_1 dBx_0 dBx_1 lBa lBb lBx
                have kn170 := kn169.next b170
                clear kn169 b170
                obtain ⟨dBa_0, dBa_1, dBb_0, dBb_1, dBx_0, dBx_1, _⟩ := kn170.all
                have lBa : Ba < w170.heap.size := (kn170.cell (Ba, 0, .int .i64 an) (by simp)).1
                have lBb : Bb < w170.heap.size := (kn170.cell (Bb, 0, .int .i64 bn) (by simp)).1
                have lBx : Bx < w170.heap.size := (kn170.cell (Bx, 0, .int .i64 xn) (by simp)).1
                obtain ⟨hc1, hc2⟩ := Fx.hSc (by simp)
                have HM := kn170
                go_wp2_with fail
                go_meet
                first | exact ⟨rfl, HM.sub (by simp)⟩ | exact ⟨rfl, (HM.next ((Below.refl _ _).alloc (Nat.le_refl _) _)).sub (by simp)⟩
          case rest =>
            clear dBa_0 dBa_1 dBb_0 dBb_1 dBx_0 dBx_1 lBa lBb lBx
            clear kn169
            obtain ⟨rfl, kn209⟩ := hcut
            generalize wc = w209 at kn209 ⊢
            obtain ⟨dBa_0, dBa_1, dBb_0, dBb_1, _⟩ := kn209.all
            have lBa : Ba < w209.heap.size := (kn209.cell (Ba, 0, .int .i64 an) (by simp)).1
            have lBb : Bb < w209.heap.size := (kn209.cell (Bb, 0, .int .i64 bn) (by simp)).1
            clear qc
            go_wp2_with fail
            refine (Fx.KF w209 (ht.on kn209.bel)).mono ?_
            rintro e w210 ⟨rfl, b210⟩
            clear dBa_0 dBa_1 dBb_0 dBb_1 lBa lBb
            have kn210 := kn209.next b210
            clear kn209 b210
            obtain ⟨dBa_0, dBa_1, dBb_0, dBb_1, _⟩ := kn210.all
            have lBa : Ba < w210.heap.size := (kn210.cell (Ba, 0, .int .i64 an) (by simp)).1
            have lBb : Bb < w210.heap.size := (kn210.cell (Bb, 0, .int .i64 bn) (by simp)).1
            go_wp2_with fail
            refine (Fx.KP w210 (ht.on kn210.bel) (he.on kn210.bel) (hm.on kn210.bel)).mono ?_
            rintro e w211 ⟨rfl, b211⟩
            clear dBa_0 dBa_1 dBb_0 dBb_1 lBa lBb
            have kn211 := kn210.next b211
            clear kn210 b211
            obtain ⟨dBa_0, dBa_1, dBb_0, dBb_1, _⟩ := kn211.all
            have lBa : Ba < w211.heap.size := (kn211.cell (Ba, 0, .int .i64 an) (by simp)).1
            have lBb : Bb < w211.heap.size := (kn211.cell (Bb, 0, .int .i64 bn) (by simp)).1
            go_upto_region 22 with fail
            clear dBa_0 dBa_1 dBb_0 dBb_1 lBa lBb
            have kn212 : Kn w [(Ba, 0, .int .i64 an), (Ba, 1, .int .i64 ad), (Bb, 0, .int .i64 bn), (Bb, 1, .int .i64 bd), (w211.heap.size, 0, .int .i64 yn), (w211.heap.size, 1, .int .i64 yd)] (w211.alloc (.cells #[.int .i64 yn, .int .i64 yd] 30)) := by simpa using kn211.box [.int .i64 yn, .int .i64 yd] 30
            clear kn211
            generalize w211.alloc (.cells #[.int .i64 yn, .int .i64 yd] 30) = w212 at kn212 ⊢
            generalize w211.heap.size = By at kn212 ⊢
            obtain ⟨dBa_0, dBa_1, dBb_0, dBb_1, dBy_0, dBy_1, _⟩ := kn212.all
            have lBa : Ba < w212.heap.size := (kn212.cell (Ba, 0, .int .i64 an) (by simp)).1
            have lBb : Bb < w212.heap.size := (kn212.cell (Bb, 0, .int .i64 bn) (by simp)).1
            have lBy : By < w212.heap.size := (kn212.cell (By, 0, .int .i64 yn) (by simp)).1
            go_cut [142] (fun r wx => r = .bool false ∧ Kn w [(Ba, 0, .int .i64 an), (Ba, 1, .int .i64 ad), (Bb, 0, .int .i64 bn), (Bb, 1, .int .i64 bd)] wx)
            case first =>
              as_aux_lemma =>
                cases va with
                | false =>
                  have e1 := Fx.hPb (by simp)
                  subst e1
                  go_wp2_with fail
                  refine (Fx.KVi w212).mono ?_
                  rintro e w213 ⟨rfl, b213⟩
                  clear dBa_0 dBa_1 dBb_0 dBb_1 dBy_0 dBy_1 lBa lBb lBy
                  have kn213 := kn212.next b213
                  clear kn212 b213
                  obtain ⟨dBa_0, dBa_1, dBb_0, dBb_1, dBy_0, dBy_1, _⟩ := kn213.all
                  have lBa : Ba < w213.heap.size := (kn213.cell (Ba, 0, .int .i64 an) (by simp)).1
                  have lBb : Bb < w213.heap.size := (kn213.cell (Bb, 0, .int .i64 bn) (by simp)).1
                  have lBy : By < w213.heap.size := (kn213.cell (By, 0, .int .i64 yn) (by simp)).1
                  have HM := kn213
                  go_wp2_with fail
                  go_meet
                  first | exact ⟨rfl, HM.sub (by simp)⟩ | exact ⟨rfl, (HM.next ((Below.refl _ _).alloc (Nat.le_refl _) _)).sub (by simp)⟩
                | true =>
                  obtain ⟨e1, e2, e3⟩ := Fx.hPa (by simp)
                  have e2 := e2.symm
                  have e3 := e3.symm
                  subst e1 e2 e3
                  go_wp2_with fail
                  refine (Fx.KVi w212).mono ?_
                  rintro e w213 ⟨rfl, b213⟩
                  clear dBa_0 dBa_1 dBb_0 dBb_1 dBy_0 dBy_1 lBa lBb lBy
                  have kn213 := kn212.next b213
                  clear kn212 b213
                  obtain ⟨dBa_0, dBa_1, dBb_0, dBb_1, dBy_0, dBy_1, _⟩ := kn213.all
                  have lBa : Ba < w213.heap.size := (kn213.cell (Ba, 0, .int .i64 an) (by simp)).1
                  have lBb : Bb < w213.heap.size := (kn213.cell (Bb, 0, .int .i64 bn) (by simp)).1
                  have lBy : By < w213.heap.size := (kn213.cell (By, 0, .int .i64 an) (by simp)).1
                  have HM := kn213
                  go_wp2_with fail
                  go_meet
                  first | exact ⟨rfl, HM.sub (by simp)⟩ | exact ⟨rfl, (HM.next ((Below.refl _ _).alloc (Nat.le_refl _) _)).sub (by simp)⟩
            case rest =>
              clear dBa_0 dBa_1 dBb_0 dBb_1 dBy_0 dBy_1 lBa lBb lBy
              clear kn212
              obtain ⟨rfl, kn252⟩ := hcut
              generalize wc = w252 at kn252 ⊢
              obtain ⟨dBa_0, dBa_1, dBb_0, dBb_1, _⟩ := kn252.all
              have lBa : Ba < w252.heap.size := (kn252.cell (Ba, 0, .int .i64 an) (by simp)).1
              have lBb : Bb < w252.heap.size := (kn252.cell (Bb, 0, .int .i64 bn) (by simp)).1
              go_wp2_with fail
              refine (Fx.KCe w252).mono ?_
              rintro e w253 ⟨rfl, b253⟩
              clear dBa_0 dBa_1 dBb_0 dBb_1 lBa lBb
              have kn253 := kn252.next b253
              clear kn252 b253
              obtain ⟨dBa_0, dBa_1, dBb_0, dBb_1, _⟩ := kn253.all
              have lBa : Ba < w253.heap.size := (kn253.cell (Ba, 0, .int .i64 an) (by simp)).1
              have lBb : Bb < w253.heap.size := (kn253.cell (Bb, 0, .int .i64 bn) (by simp)).1
              go_wp2_with fail
              refine (KD2.out w253 kn253.bel).mono ?_
              rintro e w254 ⟨mx, my, rfl, ⟨hmx, hmy⟩, b254⟩
              clear dBa_0 dBa_1 dBb_0 dBb_1 lBa lBb
              have kn254 := kn253.next b254
              clear kn253 b254
              obtain ⟨dBa_0, dBa_1, dBb_0, dBb_1, _⟩ := kn254.all
              have lBa : Ba < w254.heap.size := (kn254.cell (Ba, 0, .int .i64 an) (by simp)).1
              have lBb : Bb < w254.heap.size := (kn254.cell (Bb, 0, .int .i64 bn) (by simp)).1
              obtain ⟨zn, zd, made, hZ⟩ := ratV_ex (makeR mx my)
              have KZi : Hid (∀ W, Calls Tryd.prog 63 #[.int .i64 mx, .int .i64 my] W fun e w' => e = .returned (.tuple #[.agg #[.int .i64 zn, .int .i64 zd], .bool made]) ∧ Below W.heap.size W w') := fun W => by have := impl_Make_any mx my W hmx hmy; rw [ratV_of hZ] at this; exact this
              have KZs : Hid (∀ W, Calls Tryd.prog 64 #[.int .i64 mx, .int .i64 my] W fun e w' => e = .returned (.tuple #[.agg #[.int .i64 zn, .int .i64 zd], .bool made]) ∧ Below W.heap.size W w') := fun W => by have := spec_Make_any mx my W hmx hmy; rw [ratV_of hZ] at this; exact this
              have qm : (made == made) = true := by simp
              clear hZ hmx hmy KD2
              go_wp2_with fail
              refine (KZi.out w254).mono ?_
              rintro e w255 ⟨rfl, b255⟩
              clear dBa_0 dBa_1 dBb_0 dBb_1 lBa lBb
              have kn255 := kn254.next b255
              clear kn254 b255
              obtain ⟨dBa_0, dBa_1, dBb_0, dBb_1, _⟩ := kn255.all
              have lBa : Ba < w255.heap.size := (kn255.cell (Ba, 0, .int .i64 an) (by simp)).1
              have lBb : Bb < w255.heap.size := (kn255.cell (Bb, 0, .int .i64 bn) (by simp)).1
              go_wp2_with fail
              clear dBa_0 dBa_1 dBb_0 dBb_1 lBa lBb
              have kn256 : Kn w [(Ba, 0, .int .i64 an), (Ba, 1, .int .i64 ad), (Bb, 0, .int .i64 bn), (Bb, 1, .int .i64 bd), (w255.heap.size, 0, .int .i64 zn), (w255.heap.size, 1, .int .i64 zd)] (w255.alloc (.cells #[.int .i64 zn, .int .i64 zd] 30)) := by simpa using kn255.box [.int .i64 zn, .int .i64 zd] 30
              clear kn255
              generalize w255.alloc (.cells #[.int .i64 zn, .int .i64 zd] 30) = w256 at kn256 ⊢
              generalize w255.heap.size = Bz at kn256 ⊢
              obtain ⟨dBa_0, dBa_1, dBb_0, dBb_1, dBz_0, dBz_1, _⟩ := kn256.all
              have lBa : Ba < w256.heap.size := (kn256.cell (Ba, 0, .int .i64 an) (by simp)).1
              have lBb : Bb < w256.heap.size := (kn256.cell (Bb, 0, .int .i64 bn) (by simp)).1
              have lBz : Bz < w256.heap.size := (kn256.cell (Bz, 0, .int .i64 zn) (by simp)).1
              refine (KZs.out w256).mono ?_
              rintro e w257 ⟨rfl, b257⟩
              clear dBa_0 dBa_1 dBb_0 dBb_1 dBz_0 dBz_1 lBa lBb lBz
              have kn257 := kn256.next b257
              clear kn256 b257
              obtain ⟨dBa_0, dBa_1, dBb_0, dBb_1, dBz_0, dBz_1, _⟩ := kn257.all
              have lBa : Ba < w257.heap.size := (kn257.cell (Ba, 0, .int .i64 an) (by simp)).1
              have lBb : Bb < w257.heap.size := (kn257.cell (Bb, 0, .int .i64 bn) (by simp)).1
              have lBz : Bz < w257.heap.size := (kn257.cell (Bz, 0, .int .i64 zn) (by simp)).1
              have HB := Lib.hid kn257.bel
              cases read with
              | false =>
                clear KZi KZs Fx
                go_wp2_with fail
                go_ret
                exact ⟨rfl, HB.out.alloc HB.out.size _⟩
              | true =>
                have hv : va = true := by cases va with | true => rfl | false => exact absurd (Fx.hPb (by simp)) (by simp)
                obtain ⟨g1, g2, ⟨g3, g4⟩, g5, g6⟩ := Fx.hCe hv
                clear KZi KZs hv Fx
                go_wp2_with fail
                go_ret
                exact ⟨rfl, HB.out.alloc HB.out.size _⟩
end Go.Proofs.YtmojjbhjjhdpaaaDoor
