/- The walk of the law on updates. -/
import Derived.Test.YtccnhocekgikiaaGreatDrU8
import Derived.Deep.DeepCutAuto
namespace Go.Proofs.YtccnhocekgikiaaGreat
open Go.RowKit Go.Deep

theorem dbAns_of {R : List Tab × Bool} {ts : List Tab} {ok : Bool} (hR : R = (ts, ok)) {f : FuncId} {args : Array Value} {w : World} (h : Calls Tryz.prog f args w (DbBool R w)) : Calls Tryz.prog f args w (DbAns ts ok w) := by
  subst hR
  exact h
theorem dbAnsI_of {R : List Tab × Int} {ts : List Tab} {k : Int} (hR : R = (ts, k)) {f : FuncId} {args : Array Value} {w : World} (h : Calls Tryz.prog f args w (DbInt R w)) : Calls Tryz.prog f args w (DbAnsI ts k w) := by
  subst hR
  exact h
theorem updAns_of {R : (ByteArray × Bool × List Int) × Bool} {nm : ByteArray} {ins : Bool} {zs : List Int} {ok : Bool} (hR : R = ((nm, ins, zs), ok)) {f : FuncId} {args : Array Value} {w : World} (h : Calls Tryz.prog f args w (UpdAns R.1.1 R.1.2.1 R.1.2.2 R.2 w)) : Calls Tryz.prog f args w (UpdAns nm ins zs ok w) := by
  subst hR
  exact h
theorem boolD_of {b b' : Bool} (hb : b = b') {f : FuncId} {args : Array Value} {w : World} (h : Calls Tryz.prog f args w fun e w' => e = .returned (.bool b) ∧ Below w.heap.size w w') : Calls Tryz.prog f args w fun e w' => e = .returned (.bool b') ∧ Below w.heap.size w w' := by
  subst hb
  exact h
theorem strD_of {b b' : ByteArray} (hb : b = b') {f : FuncId} {args : Array Value} {w : World} (h : Calls Tryz.prog f args w fun e w' => e = .returned (.string b) ∧ Below w.heap.size w w') : Calls Tryz.prog f args w fun e w' => e = .returned (.string b') ∧ Below w.heap.size w w' := by
  subst hb
  exact h
theorem drawU1 (A0 : Option Addr) (n0 c0 : Nat) (w : World) (hr : RdC w w.heap.size A0 n0) (hn0 : n0 ≤ 1048576) :
    Calls Tryz.prog 5 #[.slice A0 n0 c0] w fun e w' => ∃ (A : Option Addr) (c : Nat) (ts : List Tab) (nm : ByteArray) (ins : Bool) (A' : Option Addr) (c' : Nat) (zs : List Int), e = .returned (.tuple #[.agg #[.slice A ts.length c], .agg #[.string nm, .bool ins, .slice A' zs.length c']]) ∧
      OkT ts ∧ (nm.size ≤ 2000 ∧ zs.length ≤ 2000) ∧ RdT w' w'.heap.size A ts.length ts ∧ RdI w' w'.heap.size A' zs.length zs ∧ Below w.heap.size w w' :=
  (drawApply_any A0 n0 c0 w hr hn0).mono fun e w' ⟨q, A, n, c, ts, nm, ins, A', n', c', zs, he, hok, hb, hrd, ho, b⟩ => by
    obtain ⟨h1, h2, h3⟩ := hb
    subst h3
    have hr := hrd.now
    obtain rfl := hr.1
    exact ⟨A, c, ts, nm, ins, A', c', zs, he, hok, ⟨h1, h2⟩, hr, ho.rd rfl, b⟩
theorem drawU2 (A0 : Option Addr) (n0 c0 : Nat) (w : World) (hr : RdC w w.heap.size A0 n0) (hn0 : n0 ≤ 1048576) :
    Calls Tryz.prog 11 #[.slice A0 n0 c0] w fun e w' => ∃ (A : Option Addr) (c : Nat) (ts : List Tab) (A' : Option Addr) (c' : Nat) (us : List Upd), e = .returned (.tuple #[.agg #[.slice A ts.length c], .slice A' us.length c']) ∧
      OkT ts ∧ (us.length ≤ 6 ∧ sumU us ≤ 24000) ∧ RdT w' w'.heap.size A ts.length ts ∧ RdU w' w'.heap.size A' us.length us ∧ Below w.heap.size w w' :=
  (drawApplys_any A0 n0 c0 w hr hn0).mono fun e w' ⟨A, n, c, ts, A', n', c', us, he, hok, hb, hrd, hru, b⟩ => by
    obtain ⟨h1, h2, h3⟩ := hb
    subst h1
    obtain rfl := hrd.1
    exact ⟨A, c, ts, A', c', us, he, hok, ⟨h2, h3⟩, hrd, hru, b⟩
theorem upd_facts (ts : List Tab) (nm : ByteArray) (ins : Bool) (zs : List Int) (hs : OkT ts) : ∃ X ok, appR ts nm ins zs = (X, ok) ∧ OkT X ∧ (ok = false → X = ts) ∧ (ok = true → appR X nm (!ins) zs = (ts, true) ∧ ¬ X = ts) := by
  have ha := OkT.app (nm := nm) (ins := ins) (r := zs) hs
  cases h : (appR ts nm ins zs).2 with
  | false => exact ⟨ts, false, appR_idle h, hs, fun _ => rfl, by simp⟩
  | true =>
    obtain ⟨X, h1, h2, h3⟩ := appR_back h
    rw [h1] at ha
    exact ⟨X, true, h1, ha, by simp, fun _ => ⟨h2, h3⟩⟩

theorem apps_facts (ts : List Tab) (us : List Upd) (hs : OkT ts) : ∃ Z k, appsR ts us = (Z, k) ∧ Z.length ≤ 1048576 :=
  ⟨_, _, rfl, (appsR_small (by have := hs.1; omega) (by have := hs.2; omega)).1⟩
theorem text_facts (nm : ByteArray) (ins : Bool) (zs : List Int) : ∃ s vn vi V ok, fmtU nm ins zs = s ∧ parU s = ((vn, vi, V), ok) ∧ s.size ≤ 1048576 ∧ V.length ≤ 1048576 ∧ (ok = false → s = ⟨#[]⟩) ∧ (ok = true → ¬ s.toList = [] ∧ eqU vn nm vi ins V zs = true) := by
  cases h : okU nm zs with
  | false =>
    obtain ⟨h1, h2⟩ := parU_none (ins := ins) h
    rw [h1] at h2
    exact ⟨⟨#[]⟩, _, _, _, _, h1, h2, by simp [ByteArray.size], by simp, fun _ => rfl, by simp⟩
  | true =>
    obtain ⟨h1, h2⟩ := parU_back (ins := ins) h
    obtain ⟨hn, ⟨_, hl⟩, _⟩ := okU_parts h
    have h3 : (fmtU nm ins zs).size ≤ 1048576 := by
      obtain ⟨b, rfl⟩ := nameB_data hn
      rw [fmtU, if_pos h]
      have hdl : (dtext zs).length = zs.length := by simp [dtext]
      cases ins <;> simp [ByteArray.size_append, ByteArray.size] <;> omega
    refine ⟨_, nm, ins, zs, true, rfl, h2, h3, by omega, by simp, fun _ => ⟨fun e => ?_, by simp [eqU]⟩⟩
    rw [ByteArray.toList_eq] at e
    have : (fmtU nm ins zs).size = 0 := by rw [ByteArray.size, ← Array.length_toList, e]; rfl
    omega

set_option maxRecDepth 100000 in
set_option maxHeartbeats 8000000 in
theorem updates_walk (a0 : Option Addr) (len0 cap0 : Nat) (z0 : List Int) (w : World) (w0 : IsRow .u8 w a0 len0 cap0 z0) :
    Calls Tryz.prog 3 #[.slice a0 len0 cap0] w fun e w' => e = .returned (.bool true) ∧ Below w.heap.size w w' := by
  have hr := rdC_of_row w0
  by_cases hb : (1048576 : Int) < len0
  · have K := Lib.hid (big_any a0 len0 cap0 w)
    rw [decide_eq_true hb] at K
    go_enter Tryz.func3, Tryz.ntmps3
    go_wp2_with fail
    refine K.out.mono ?_
    rintro e w1 ⟨rfl, rfl⟩
    go_wp2_with fail
    go_ret
    exact ⟨rfl, Below.refl _ _⟩
  have K := Lib.hid (big_any a0 len0 cap0 w)
  rw [decide_eq_false hb] at K
  have hl : len0 ≤ 1048576 := by omega
  have KD1 : Hid (∀ W, Below w.heap.size w W → _) := fun W b => drawU1 a0 len0 cap0 W ((hr.keep b.block).more b.size) hl
  have KD2 : Hid (∀ W, Below w.heap.size w W → _) := fun W b => drawU2 a0 len0 cap0 W ((hr.keep b.block).more b.size) hl
  clear hb hl hr w0
  go_enter Tryz.func3, Tryz.ntmps3
  go_wp2_with fail
  refine K.out.mono ?_
  rintro e w1 ⟨rfl, rfl⟩
  clear K
  go_wp2_with fail
  refine (KD1.out w (Below.refl _ _)).mono ?_
  rintro e w1 ⟨A, c, ts, nm, ins, A', c', zs, rfl, hsm, hst, hrd, hri, b1⟩
  have kn1 := (Kn.start w).next b1
  have Hrd1 := Lib.hid hrd
  have Hri1 := Lib.hid hri
  have HS := Lib.hid hsm
  have HT := Lib.hid hst
  obtain ⟨X, ok, hX, hXs, hX0, hX1⟩ := upd_facts ts nm ins zs hsm
  have HX := Lib.hid hX
  have HXs := Lib.hid hXs
  have HX0 := Lib.hid hX0
  have HX1 := Lib.hid hX1
  have q1 : (ok != ok) = false := by simp
  clear b1 KD1 hsm hst hrd hri hX hXs hX0 hX1
  go_upto_region 4 with fail
  have b2 := (((Below.refl w1.heap.size w1).alloc (Nat.le_refl _) (.cells #[.slice A ts.length c] 26)).alloc (by simp) (.cells #[.string nm, .bool ins, .slice A' zs.length c'] 29))
  have kn2 : Kn w [(w1.heap.size, 0, .slice A ts.length c), (w1.heap.size + 1, 0, .string nm), (w1.heap.size + 1, 1, .bool ins), (w1.heap.size + 1, 2, .slice A' zs.length c')] ((w1.alloc (.cells #[.slice A ts.length c] 26)).alloc (.cells #[.string nm, .bool ins, .slice A' zs.length c'] 29)) := by
    simpa using (kn1.box [.slice A ts.length c] 26).box [.string nm, .bool ins, .slice A' zs.length c'] 29
  have Hrd2 := Lib.hid (rdT_next b2 Hrd1.out)
  have Hri2 := Lib.hid (rdI_next b2 Hri1.out)
  clear kn1 b2 Hrd1 Hri1
  generalize (w1.alloc (.cells #[.slice A ts.length c] 26)).alloc (.cells #[.string nm, .bool ins, .slice A' zs.length c'] 29) = w2 at kn2 Hrd2 Hri2 ⊢
  generalize w1.heap.size + 1 = Bu at kn2 ⊢
  generalize w1.heap.size = Bd at kn2 ⊢
  obtain ⟨dBd_0, dBu_0, dBu_1, dBu_2, _⟩ := kn2.all
  have lBd : Bd < w2.heap.size := (kn2.cell (Bd, 0, .slice A ts.length c) (by simp)).1
  have lBu : Bu < w2.heap.size := (kn2.cell (Bu, 0, .string nm) (by simp)).1
  go_wp2_with fail
  have KC := Lib.hid (dbAns_of HX.out (impl_ApplyUpdate_any A ts.length c w2.heap.size ts nm ins A' zs.length c' zs w2 Hrd2.out (Nat.le_refl _) (by have := HS.out.1; omega) (by have := HS.out.2; omega) Hri2.out (by have := HT.out.2; omega) (by have := HT.out.1; unfold maxLen; omega)))
  refine KC.out.mono ?_
  rintro e w3 ⟨Ax, cx, rfl, ho, b3⟩
  clear dBd_0 dBu_0 dBu_1 dBu_2 lBd lBu
  clear KC
  have kn3 := kn2.next b3
  clear kn2
  have Hrd3 := Lib.hid (rdT_next b3 Hrd2.out)
  clear Hrd2
  have Hri3 := Lib.hid (rdI_next b3 Hri2.out)
  clear Hri2
  have Hrx3 := Lib.hid (ho.rd rfl)
  clear ho
  clear b3
  obtain ⟨dBd_0, dBu_0, dBu_1, dBu_2, _⟩ := kn3.all
  have lBd : Bd < w3.heap.size := (kn3.cell (Bd, 0, .slice A ts.length c) (by simp)).1
  have lBu : Bu < w3.heap.size := (kn3.cell (Bu, 0, .string nm) (by simp)).1
  go_upto_region 5 with fail
  clear dBd_0 dBu_0 dBu_1 dBu_2 lBd lBu
  have kn4 : Kn w [(Bd, 0, .slice A ts.length c), (Bu, 0, .string nm), (Bu, 1, .bool ins), (Bu, 2, .slice A' zs.length c'), (w3.heap.size, 0, .slice Ax X.length cx)] (w3.alloc (.cells #[.slice Ax X.length cx] 26)) := by simpa using kn3.box [.slice Ax X.length cx] 26
  have b4 := (Below.refl w3.heap.size w3).alloc (Nat.le_refl _) (.cells #[.slice Ax X.length cx] 26)
  clear kn3
  have Hrd4 := Lib.hid (rdT_next b4 Hrd3.out)
  clear Hrd3
  have Hri4 := Lib.hid (rdI_next b4 Hri3.out)
  clear Hri3
  have Hrx4 := Lib.hid (rdT_next b4 Hrx3.out)
  clear Hrx3
  clear b4
  generalize w3.alloc (.cells #[.slice Ax X.length cx] 26) = w4 at kn4 Hrd4 Hri4 Hrx4 ⊢
  generalize w3.heap.size = Bx at kn4 ⊢
  obtain ⟨dBd_0, dBu_0, dBu_1, dBu_2, dBx_0, _⟩ := kn4.all
  have lBd : Bd < w4.heap.size := (kn4.cell (Bd, 0, .slice A ts.length c) (by simp)).1
  have lBu : Bu < w4.heap.size := (kn4.cell (Bu, 0, .string nm) (by simp)).1
  have lBx : Bx < w4.heap.size := (kn4.cell (Bx, 0, .slice Ax X.length cx) (by simp)).1
  go_wp2_with fail
  have KC := Lib.hid (dbAns_of HX.out (spec_ApplyUpdate_any A ts.length c w4.heap.size ts nm ins A' zs.length c' zs w4 Hrd4.out (Nat.le_refl _) (by have := HS.out.1; omega) (by have := HS.out.2; omega) Hri4.out (by have := HT.out.2; omega) (by have := HT.out.1; unfold maxLen; omega)))
  refine KC.out.mono ?_
  rintro e w5 ⟨Au, cu, rfl, ho, b5⟩
  clear dBd_0 dBu_0 dBu_1 dBu_2 dBx_0 lBd lBu lBx
  clear KC
  have kn5 := kn4.next b5
  clear kn4
  have Hrd5 := Lib.hid (rdT_next b5 Hrd4.out)
  clear Hrd4
  have Hri5 := Lib.hid (rdI_next b5 Hri4.out)
  clear Hri4
  have Hrx5 := Lib.hid (rdT_next b5 Hrx4.out)
  clear Hrx4
  clear b5
  obtain ⟨dBd_0, dBu_0, dBu_1, dBu_2, dBx_0, _⟩ := kn5.all
  have lBd : Bd < w5.heap.size := (kn5.cell (Bd, 0, .slice A ts.length c) (by simp)).1
  have lBu : Bu < w5.heap.size := (kn5.cell (Bu, 0, .string nm) (by simp)).1
  have lBx : Bx < w5.heap.size := (kn5.cell (Bx, 0, .slice Ax X.length cx) (by simp)).1
  clear ho
  go_upto_region 6 with fail
  clear dBd_0 dBu_0 dBu_1 dBu_2 dBx_0 lBd lBu lBx
  have b6 := (Below.refl w5.heap.size w5).alloc (Nat.le_refl _) (.cells #[.slice Au X.length cu] 26)
  have kn6 := kn5.next b6
  clear kn5
  have Hrd6 := Lib.hid (rdT_next b6 Hrd5.out)
  clear Hrd5
  have Hri6 := Lib.hid (rdI_next b6 Hri5.out)
  clear Hri5
  have Hrx6 := Lib.hid (rdT_next b6 Hrx5.out)
  clear Hrx5
  clear b6
  generalize w5.alloc (.cells #[.slice Au X.length cu] 26) = w6 at kn6 Hrd6 Hri6 Hrx6 ⊢
  obtain ⟨dBd_0, dBu_0, dBu_1, dBu_2, dBx_0, _⟩ := kn6.all
  have lBd : Bd < w6.heap.size := (kn6.cell (Bd, 0, .slice A ts.length c) (by simp)).1
  have lBu : Bu < w6.heap.size := (kn6.cell (Bu, 0, .string nm) (by simp)).1
  have lBx : Bx < w6.heap.size := (kn6.cell (Bx, 0, .slice Ax X.length cx) (by simp)).1
  go_wp2_with fail
  have KC := Lib.hid (boolD_of (congrArg Prod.snd HX.out) (impl_IsValidUpdate_any A ts.length c w6.heap.size ts nm ins A' zs.length c' zs w6 Hrd6.out (Nat.le_refl _) (by have := HS.out.1; omega) (by have := HS.out.2; omega) Hri6.out (by have := HT.out.2; omega) (by have := HT.out.1; unfold maxLen; omega)))
  refine KC.out.mono ?_
  rintro e w7 ⟨rfl, b7⟩
  clear dBd_0 dBu_0 dBu_1 dBu_2 dBx_0 lBd lBu lBx
  clear KC
  have kn7 := kn6.next b7
  clear kn6
  have Hrd7 := Lib.hid (rdT_next b7 Hrd6.out)
  clear Hrd6
  have Hri7 := Lib.hid (rdI_next b7 Hri6.out)
  clear Hri6
  have Hrx7 := Lib.hid (rdT_next b7 Hrx6.out)
  clear Hrx6
  clear b7
  obtain ⟨dBd_0, dBu_0, dBu_1, dBu_2, dBx_0, _⟩ := kn7.all
  have lBd : Bd < w7.heap.size := (kn7.cell (Bd, 0, .slice A ts.length c) (by simp)).1
  have lBu : Bu < w7.heap.size := (kn7.cell (Bu, 0, .string nm) (by simp)).1
  have lBx : Bx < w7.heap.size := (kn7.cell (Bx, 0, .slice Ax X.length cx) (by simp)).1
  go_upto_if 49 with fail
  go_cut [2] (fun r wx => r = .bool false ∧ Kn w [(Bu, 0, .string nm), (Bu, 1, .bool ins), (Bu, 2, .slice A' zs.length c')] wx ∧ RdI wx wx.heap.size A' zs.length zs)
  case first =>
    as_aux_lemma =>
      cases ok with
      | false =>
        have e1 := (HX0.out rfl).symm
        subst e1
        go_wp2_with fail
        have KC := Lib.hid (boolD_of (b' := true) (by simp) (impl_EqualDatabases_any Ax A ts.length cx ts.length c w7.heap.size w7.heap.size ts ts w7 Hrx7.out Hrd7.out (Nat.le_refl _) (Nat.le_refl _) (by have := HS.out.1; omega) (by have := HS.out.1; omega)))
        refine KC.out.mono ?_
        rintro e w8 ⟨rfl, b8⟩
        clear dBd_0 dBu_0 dBu_1 dBu_2 dBx_0 lBd lBu lBx
        clear KC
        have kn8 := kn7.next b8
        clear kn7
        have Hrd8 := Lib.hid (rdT_next b8 Hrd7.out)
        clear Hrd7
        have Hri8 := Lib.hid (rdI_next b8 Hri7.out)
        clear Hri7
        have Hrx8 := Lib.hid (rdT_next b8 Hrx7.out)
        clear Hrx7
        clear b8
        obtain ⟨dBd_0, dBu_0, dBu_1, dBu_2, dBx_0, _⟩ := kn8.all
        have lBd : Bd < w8.heap.size := (kn8.cell (Bd, 0, .slice A ts.length c) (by simp)).1
        have lBu : Bu < w8.heap.size := (kn8.cell (Bu, 0, .string nm) (by simp)).1
        have lBx : Bx < w8.heap.size := (kn8.cell (Bx, 0, .slice Ax ts.length cx) (by simp)).1
        have HM := kn8
        go_wp2_with fail
        go_meet
        exact ⟨rfl, HM.sub (by simp), Hri8.out⟩
      | true =>
        obtain ⟨k1, k2⟩ := HX1.out rfl
        have HK1 := Lib.hid k1
        have HK2 := Lib.hid k2
        clear k1 k2
        have KI : Hid (∀ V, Below w7.heap.size w7 V → Calls Tryz.prog 9 #[.agg #[.string nm, .bool ins, .slice A' zs.length c']] V (UpdNew nm (!ins) zs V)) := fun V b => impl_InvertUpdate_any nm ins A' zs.length c' w7.heap.size zs V (RdI.belowB Hri7.out b (Nat.le_refl _)) b.size (by have := HT.out.2; omega)
        have KA : Hid (∀ A1 c1 V, Below w7.heap.size w7 V → RdI V V.heap.size A1 zs.length zs → Calls Tryz.prog 6 #[.agg #[.slice Ax X.length cx], .agg #[.string nm, .bool (!ins), .slice A1 zs.length c1]] V (DbAns ts true V)) := fun A1 c1 V b h => dbAns_of HK1.out (impl_ApplyUpdate_any Ax X.length cx V.heap.size X nm (!ins) A1 zs.length c1 zs V ((RdT.belowB Hrx7.out b (Nat.le_refl _)).more b.size) (Nat.le_refl _) (by have := HXs.out.1; omega) (by have := HXs.out.2; omega) h (by have := HT.out.2; omega) (by have := HT.out.1; unfold maxLen; omega))
        go_upto_region 9 with fail
        go_cut [9, 10] (fun p q wx => CutD w [(Bd, 0, .slice A ts.length c), (Bu, 0, .string nm), (Bu, 1, .bool ins), (Bu, 2, .slice A' zs.length c'), (Bx, 0, .slice Ax X.length cx)] w7 ts true p q wx)
        case first =>
          have bz : Below w7.heap.size w7 w7.drew := (Below.refl _ _).drew
          go_region_held3 (fun W => W.cell? ⟨Bd, 0, none⟩ = some (.slice A ts.length c) ∧ W.cell? ⟨Bu, 0, none⟩ = some (.string nm) ∧ W.cell? ⟨Bu, 1, none⟩ = some (.bool ins) ∧ W.cell? ⟨Bu, 2, none⟩ = some (.slice A' zs.length c') ∧ W.cell? ⟨Bx, 0, none⟩ = some (.slice Ax X.length cx) ∧ Below w7.heap.size w7 W)
            (with_reducible first | assumption | exact Kn.allB kn7 (by assumption) | exact Kn.allB kn7 bel_ald | exact Kn.allB kn7 (bel_al bz) | exact Kn.allB kn7 (bel_cell bz hB.lo))
            (first | (go_at_call 9; ((with_reducible refine (KI.out _ bz).mono ?_); rintro e v1 ⟨A1, c1, rfl, ho, b1⟩; (first | (revert hB; intro hB; obtain ⟨bo, hB, hBo, bz⟩ := box_kept bz hB b1) | (obtain ⟨bo, bz⟩ := box_none bz b1)); have rd1 := ho.rd rfl; clear ho b1)) | (go_at_call 9; ((with_reducible refine (KI.out _ bel_ald).mono ?_); rintro e v1 ⟨A1, c1, rfl, ho, b1⟩; obtain ⟨bo, hB, hBo, bz⟩ := box_madeD b1; have rd1 := ho.rd rfl; clear ho b1)) | (go_at_call 6; ((with_reducible refine (KA.out _ _ _ bz rd1).mono ?_); rintro e v1 ⟨Ay, cy, rfl, ow, b1⟩; (first | (revert hB; intro hB; obtain ⟨bo, hB, hBo, bz⟩ := box_kept bz hB b1) | (obtain ⟨bo, bz⟩ := box_none bz b1)); (first | (revert hB; intro hB; have cB := hB.cell; have fB := hB.frz) | skip))) | (go_at_call 6; ((with_reducible refine (KA.out _ _ _ (bel_al bz) (rdI_al rd1)).mono ?_); rintro e v1 ⟨Ay, cy, rfl, ow, b1⟩; obtain ⟨bo, hB, hBo, bz⟩ := box_made bz b1; have cB := hB.cell; have fB := hB.frz)))
          all_goals (go_wp2_with fail)
          all_goals (go_meet; first | exact CutD.of kn7 bo b1 ow | exact CutD.of2 kn7 bo b1 hB hBo ow)
        case rest =>
          clear dBd_0 dBu_0 dBu_1 dBu_2 dBx_0 lBd lBu lBx
          generalize wc = w8 at hcut ⊢
          obtain ⟨Ay, cy, By, hiy, rfl, rfl, kx, oy, hiyB, Bylt, b8⟩ := hcut
          have kn8 : Kn w [(Bd, 0, .slice A ts.length c), (Bu, 0, .string nm), (Bu, 1, .bool ins), (Bu, 2, .slice A' zs.length c'), (Bx, 0, .slice Ax X.length cx), (By, 0, .slice Ay ts.length cy)] w8 := kx
          clear kx KI KA kn7
          have Hrd8 := Lib.hid (rdT_next b8 Hrd7.out)
          clear Hrd7
          have Hri8 := Lib.hid (rdI_next b8 Hri7.out)
          clear Hri7
          have Hrx8 := Lib.hid (rdT_next b8 Hrx7.out)
          clear Hrx7
          have Hry8 := Lib.hid ((oy.rd rfl).more hiyB)
          clear oy hiyB Bylt b8
          obtain ⟨dBd_0, dBu_0, dBu_1, dBu_2, dBx_0, dBy_0, _⟩ := kn8.all
          have lBd : Bd < w8.heap.size := (kn8.cell (Bd, 0, .slice A ts.length c) (by simp)).1
          have lBu : Bu < w8.heap.size := (kn8.cell (Bu, 0, .string nm) (by simp)).1
          have lBx : Bx < w8.heap.size := (kn8.cell (Bx, 0, .slice Ax X.length cx) (by simp)).1
          have lBy : By < w8.heap.size := (kn8.cell (By, 0, .slice Ay ts.length cy) (by simp)).1
          go_wp2_with fail
          have KC := Lib.hid (boolD_of (b' := true) (by simp) (impl_EqualDatabases_any Ay A ts.length cy ts.length c w8.heap.size w8.heap.size ts ts w8 Hry8.out Hrd8.out (Nat.le_refl _) (Nat.le_refl _) (by have := HS.out.1; omega) (by have := HS.out.1; omega)))
          refine KC.out.mono ?_
          rintro e w9 ⟨rfl, b9⟩
          clear dBd_0 dBu_0 dBu_1 dBu_2 dBx_0 dBy_0 lBd lBu lBx lBy
          clear KC
          have kn9 := kn8.next b9
          clear kn8
          have Hrd9 := Lib.hid (rdT_next b9 Hrd8.out)
          clear Hrd8
          have Hri9 := Lib.hid (rdI_next b9 Hri8.out)
          clear Hri8
          have Hrx9 := Lib.hid (rdT_next b9 Hrx8.out)
          clear Hrx8
          have Hry9 := Lib.hid (rdT_next b9 Hry8.out)
          clear Hry8
          clear b9
          obtain ⟨dBd_0, dBu_0, dBu_1, dBu_2, dBx_0, dBy_0, _⟩ := kn9.all
          have lBd : Bd < w9.heap.size := (kn9.cell (Bd, 0, .slice A ts.length c) (by simp)).1
          have lBu : Bu < w9.heap.size := (kn9.cell (Bu, 0, .string nm) (by simp)).1
          have lBx : Bx < w9.heap.size := (kn9.cell (Bx, 0, .slice Ax X.length cx) (by simp)).1
          have lBy : By < w9.heap.size := (kn9.cell (By, 0, .slice Ay ts.length cy) (by simp)).1
          go_wp2_with fail
          have KC := Lib.hid (boolD_of (decide_eq_false HK2.out) (impl_EqualDatabases_any Ax A X.length cx ts.length c w9.heap.size w9.heap.size X ts w9 Hrx9.out Hrd9.out (Nat.le_refl _) (Nat.le_refl _) (by have := HXs.out.1; omega) (by have := HS.out.1; omega)))
          refine KC.out.mono ?_
          rintro e w10 ⟨rfl, b10⟩
          clear dBd_0 dBu_0 dBu_1 dBu_2 dBx_0 dBy_0 lBd lBu lBx lBy
          clear KC
          have kn10 := kn9.next b10
          clear kn9
          have Hrd10 := Lib.hid (rdT_next b10 Hrd9.out)
          clear Hrd9
          have Hri10 := Lib.hid (rdI_next b10 Hri9.out)
          clear Hri9
          have Hrx10 := Lib.hid (rdT_next b10 Hrx9.out)
          clear Hrx9
          have Hry10 := Lib.hid (rdT_next b10 Hry9.out)
          clear Hry9
          clear b10
          obtain ⟨dBd_0, dBu_0, dBu_1, dBu_2, dBx_0, dBy_0, _⟩ := kn10.all
          have lBd : Bd < w10.heap.size := (kn10.cell (Bd, 0, .slice A ts.length c) (by simp)).1
          have lBu : Bu < w10.heap.size := (kn10.cell (Bu, 0, .string nm) (by simp)).1
          have lBx : Bx < w10.heap.size := (kn10.cell (Bx, 0, .slice Ax X.length cx) (by simp)).1
          have lBy : By < w10.heap.size := (kn10.cell (By, 0, .slice Ay ts.length cy) (by simp)).1
          have HM := kn10
          go_wp2_with fail
          go_meet
          exact ⟨rfl, HM.sub (by simp), Hri10.out⟩
  case rest =>
    clear dBd_0 dBu_0 dBu_1 dBu_2 dBx_0 lBd lBu lBx
    obtain ⟨rfl, kn40, qri⟩ := hcut
    have Hri40 := Lib.hid qri
    clear qri
    clear kn7 Hrd7 Hri7 Hrx7
    generalize wc = w40 at kn40 Hri40 ⊢
    obtain ⟨dBu_0, dBu_1, dBu_2, _⟩ := kn40.all
    have lBu : Bu < w40.heap.size := (kn40.cell (Bu, 0, .string nm) (by simp)).1
    clear HX HXs HX0 HX1 q1 HS
    go_wp2_with fail
    refine (KD2.out w40 kn40.bel).mono ?_
    rintro e w41 ⟨A2, c2, ts2, A3, c3, us, rfl, hsm2, hst2, hrd2, hru2, b41⟩
    clear dBu_0 dBu_1 dBu_2 lBu
    clear KD2
    have kn41 := kn40.next b41
    clear kn40
    have Hri41 := Lib.hid (rdI_next b41 Hri40.out)
    clear Hri40
    have Hre41 := Lib.hid hrd2
    have Hru41 := Lib.hid hru2
    have HS2 := Lib.hid hsm2
    have HT2 := Lib.hid hst2
    clear b41 hsm2 hst2 hrd2 hru2
    obtain ⟨dBu_0, dBu_1, dBu_2, _⟩ := kn41.all
    have lBu : Bu < w41.heap.size := (kn41.cell (Bu, 0, .string nm) (by simp)).1
    obtain ⟨Z, k, hZ, hZs⟩ := apps_facts ts2 us HS2.out
    have HZ := Lib.hid hZ
    have HZs := Lib.hid hZs
    clear hZ hZs
    obtain ⟨s, vn, vi, V, ok2, hF, hP, hsz, hVl, hP0, hP1⟩ := text_facts nm ins zs
    have HHF := Lib.hid hF
    have HHP := Lib.hid hP
    have HHSZ := Lib.hid hsz
    have HHVL := Lib.hid hVl
    have HHP0 := Lib.hid hP0
    have HHP1 := Lib.hid hP1
    clear hF hP hsz hVl hP0 hP1
    go_upto_region 15 with fail
    clear dBu_0 dBu_1 dBu_2 lBu
    have kn42 : Kn w [(Bu, 0, .string nm), (Bu, 1, .bool ins), (Bu, 2, .slice A' zs.length c'), (w41.heap.size, 0, .slice A2 ts2.length c2)] (w41.alloc (.cells #[.slice A2 ts2.length c2] 26)) := by simpa using kn41.box [.slice A2 ts2.length c2] 26
    have b42 := (Below.refl w41.heap.size w41).alloc (Nat.le_refl _) (.cells #[.slice A2 ts2.length c2] 26)
    clear kn41
    have Hri42 := Lib.hid (rdI_next b42 Hri41.out)
    clear Hri41
    have Hre42 := Lib.hid (rdT_next b42 Hre41.out)
    clear Hre41
    have Hru42 := Lib.hid (rdU_next b42 Hru41.out)
    clear Hru41
    clear b42
    generalize w41.alloc (.cells #[.slice A2 ts2.length c2] 26) = w42 at kn42 Hri42 Hre42 Hru42 ⊢
    generalize w41.heap.size = Be at kn42 ⊢
    obtain ⟨dBu_0, dBu_1, dBu_2, dBe_0, _⟩ := kn42.all
    have lBu : Bu < w42.heap.size := (kn42.cell (Bu, 0, .string nm) (by simp)).1
    have lBe : Be < w42.heap.size := (kn42.cell (Be, 0, .slice A2 ts2.length c2) (by simp)).1
    go_wp2_with fail
    have KC := Lib.hid (dbAnsI_of HZ.out (impl_ApplyUpdates_any A2 ts2.length c2 w42.heap.size ts2 A3 us.length c3 us w42 Hre42.out (Nat.le_refl _) (by have := HS2.out.1; omega) (by have := HS2.out.2; omega) Hru42.out (by have := HT2.out.1; omega) (by have := HT2.out.2; omega)))
    refine KC.out.mono ?_
    rintro e w43 ⟨Az, cz, rfl, ho, b43⟩
    clear dBu_0 dBu_1 dBu_2 dBe_0 lBu lBe
    clear KC
    have kn43 := kn42.next b43
    clear kn42
    have Hri43 := Lib.hid (rdI_next b43 Hri42.out)
    clear Hri42
    have Hre43 := Lib.hid (rdT_next b43 Hre42.out)
    clear Hre42
    have Hru43 := Lib.hid (rdU_next b43 Hru42.out)
    clear Hru42
    have Hrz43 := Lib.hid (ho.rd rfl)
    clear ho
    clear b43
    obtain ⟨dBu_0, dBu_1, dBu_2, dBe_0, _⟩ := kn43.all
    have lBu : Bu < w43.heap.size := (kn43.cell (Bu, 0, .string nm) (by simp)).1
    have lBe : Be < w43.heap.size := (kn43.cell (Be, 0, .slice A2 ts2.length c2) (by simp)).1
    go_upto_region 16 with fail
    clear dBu_0 dBu_1 dBu_2 dBe_0 lBu lBe
    have kn44 : Kn w [(Bu, 0, .string nm), (Bu, 1, .bool ins), (Bu, 2, .slice A' zs.length c'), (Be, 0, .slice A2 ts2.length c2), (w43.heap.size, 0, .slice Az Z.length cz)] (w43.alloc (.cells #[.slice Az Z.length cz] 26)) := by simpa using kn43.box [.slice Az Z.length cz] 26
    have b44 := (Below.refl w43.heap.size w43).alloc (Nat.le_refl _) (.cells #[.slice Az Z.length cz] 26)
    clear kn43
    have Hri44 := Lib.hid (rdI_next b44 Hri43.out)
    clear Hri43
    have Hre44 := Lib.hid (rdT_next b44 Hre43.out)
    clear Hre43
    have Hru44 := Lib.hid (rdU_next b44 Hru43.out)
    clear Hru43
    have Hrz44 := Lib.hid (rdT_next b44 Hrz43.out)
    clear Hrz43
    clear b44
    generalize w43.alloc (.cells #[.slice Az Z.length cz] 26) = w44 at kn44 Hri44 Hre44 Hru44 Hrz44 ⊢
    generalize w43.heap.size = Bz at kn44 ⊢
    obtain ⟨dBu_0, dBu_1, dBu_2, dBe_0, dBz_0, _⟩ := kn44.all
    have lBu : Bu < w44.heap.size := (kn44.cell (Bu, 0, .string nm) (by simp)).1
    have lBe : Be < w44.heap.size := (kn44.cell (Be, 0, .slice A2 ts2.length c2) (by simp)).1
    have lBz : Bz < w44.heap.size := (kn44.cell (Bz, 0, .slice Az Z.length cz) (by simp)).1
    go_wp2_with fail
    have KC := Lib.hid (dbAnsI_of HZ.out (spec_ApplyUpdates_any A2 ts2.length c2 w44.heap.size ts2 A3 us.length c3 us w44 Hre44.out (Nat.le_refl _) (by have := HS2.out.1; omega) (by have := HS2.out.2; omega) Hru44.out (by have := HT2.out.1; omega) (by have := HT2.out.2; omega)))
    refine KC.out.mono ?_
    rintro e w45 ⟨Aw, cw, rfl, ho, b45⟩
    clear dBu_0 dBu_1 dBu_2 dBe_0 dBz_0 lBu lBe lBz
    clear KC
    have kn45 := kn44.next b45
    clear kn44
    have Hri45 := Lib.hid (rdI_next b45 Hri44.out)
    clear Hri44
    have Hre45 := Lib.hid (rdT_next b45 Hre44.out)
    clear Hre44
    have Hru45 := Lib.hid (rdU_next b45 Hru44.out)
    clear Hru44
    have Hrz45 := Lib.hid (rdT_next b45 Hrz44.out)
    clear Hrz44
    have Hrw45 := Lib.hid (ho.rd rfl)
    clear ho
    clear b45
    obtain ⟨dBu_0, dBu_1, dBu_2, dBe_0, dBz_0, _⟩ := kn45.all
    have lBu : Bu < w45.heap.size := (kn45.cell (Bu, 0, .string nm) (by simp)).1
    have lBe : Be < w45.heap.size := (kn45.cell (Be, 0, .slice A2 ts2.length c2) (by simp)).1
    have lBz : Bz < w45.heap.size := (kn45.cell (Bz, 0, .slice Az Z.length cz) (by simp)).1
    go_upto_region 17 with fail
    clear dBu_0 dBu_1 dBu_2 dBe_0 dBz_0 lBu lBe lBz
    have kn46 : Kn w [(Bu, 0, .string nm), (Bu, 1, .bool ins), (Bu, 2, .slice A' zs.length c'), (Be, 0, .slice A2 ts2.length c2), (Bz, 0, .slice Az Z.length cz), (w45.heap.size, 0, .slice Aw Z.length cw)] (w45.alloc (.cells #[.slice Aw Z.length cw] 26)) := by simpa using kn45.box [.slice Aw Z.length cw] 26
    have b46 := (Below.refl w45.heap.size w45).alloc (Nat.le_refl _) (.cells #[.slice Aw Z.length cw] 26)
    clear kn45
    have Hri46 := Lib.hid (rdI_next b46 Hri45.out)
    clear Hri45
    have Hre46 := Lib.hid (rdT_next b46 Hre45.out)
    clear Hre45
    have Hru46 := Lib.hid (rdU_next b46 Hru45.out)
    clear Hru45
    have Hrz46 := Lib.hid (rdT_next b46 Hrz45.out)
    clear Hrz45
    have Hrw46 := Lib.hid (rdT_next b46 Hrw45.out)
    clear Hrw45
    clear b46
    generalize w45.alloc (.cells #[.slice Aw Z.length cw] 26) = w46 at kn46 Hri46 Hre46 Hru46 Hrz46 Hrw46 ⊢
    generalize w45.heap.size = Bw at kn46 ⊢
    obtain ⟨dBu_0, dBu_1, dBu_2, dBe_0, dBz_0, dBw_0, _⟩ := kn46.all
    have lBu : Bu < w46.heap.size := (kn46.cell (Bu, 0, .string nm) (by simp)).1
    have lBe : Be < w46.heap.size := (kn46.cell (Be, 0, .slice A2 ts2.length c2) (by simp)).1
    have lBz : Bz < w46.heap.size := (kn46.cell (Bz, 0, .slice Az Z.length cz) (by simp)).1
    have lBw : Bw < w46.heap.size := (kn46.cell (Bw, 0, .slice Aw Z.length cw) (by simp)).1
    go_wp2_with fail
    have KC := Lib.hid (strD_of HHF.out (impl_FormatUpdate_any nm ins A' zs.length c' w46.heap.size zs w46 Hri46.out (Nat.le_refl _) (by have := HT.out.2; omega)))
    refine KC.out.mono ?_
    rintro e w47 ⟨rfl, b47⟩
    clear dBu_0 dBu_1 dBu_2 dBe_0 dBz_0 dBw_0 lBu lBe lBz lBw
    clear KC
    have kn47 := kn46.next b47
    clear kn46
    have Hri47 := Lib.hid (rdI_next b47 Hri46.out)
    clear Hri46
    have Hre47 := Lib.hid (rdT_next b47 Hre46.out)
    clear Hre46
    have Hru47 := Lib.hid (rdU_next b47 Hru46.out)
    clear Hru46
    have Hrz47 := Lib.hid (rdT_next b47 Hrz46.out)
    clear Hrz46
    have Hrw47 := Lib.hid (rdT_next b47 Hrw46.out)
    clear Hrw46
    clear b47
    obtain ⟨dBu_0, dBu_1, dBu_2, dBe_0, dBz_0, dBw_0, _⟩ := kn47.all
    have lBu : Bu < w47.heap.size := (kn47.cell (Bu, 0, .string nm) (by simp)).1
    have lBe : Be < w47.heap.size := (kn47.cell (Be, 0, .slice A2 ts2.length c2) (by simp)).1
    have lBz : Bz < w47.heap.size := (kn47.cell (Bz, 0, .slice Az Z.length cz) (by simp)).1
    have lBw : Bw < w47.heap.size := (kn47.cell (Bw, 0, .slice Aw Z.length cw) (by simp)).1
    go_wp2_with fail
    have KC := Lib.hid (updAns_of HHP.out (impl_ParseUpdate_any s w47 (by have := HHSZ.out; omega)))
    refine KC.out.mono ?_
    rintro e w48 ⟨Av, cv, rfl, ho, b48⟩
    clear dBu_0 dBu_1 dBu_2 dBe_0 dBz_0 dBw_0 lBu lBe lBz lBw
    clear KC
    have kn48 := kn47.next b48
    clear kn47
    have Hri48 := Lib.hid (rdI_next b48 Hri47.out)
    clear Hri47
    have Hre48 := Lib.hid (rdT_next b48 Hre47.out)
    clear Hre47
    have Hru48 := Lib.hid (rdU_next b48 Hru47.out)
    clear Hru47
    have Hrz48 := Lib.hid (rdT_next b48 Hrz47.out)
    clear Hrz47
    have Hrw48 := Lib.hid (rdT_next b48 Hrw47.out)
    clear Hrw47
    have Hrv48 := Lib.hid (ho.rd rfl)
    clear ho
    clear b48
    obtain ⟨dBu_0, dBu_1, dBu_2, dBe_0, dBz_0, dBw_0, _⟩ := kn48.all
    have lBu : Bu < w48.heap.size := (kn48.cell (Bu, 0, .string nm) (by simp)).1
    have lBe : Be < w48.heap.size := (kn48.cell (Be, 0, .slice A2 ts2.length c2) (by simp)).1
    have lBz : Bz < w48.heap.size := (kn48.cell (Bz, 0, .slice Az Z.length cz) (by simp)).1
    have lBw : Bw < w48.heap.size := (kn48.cell (Bw, 0, .slice Aw Z.length cw) (by simp)).1
    go_upto_region 19 with fail
    clear dBu_0 dBu_1 dBu_2 dBe_0 dBz_0 dBw_0 lBu lBe lBz lBw
    have kn49 : Kn w [(Bu, 0, .string nm), (Bu, 1, .bool ins), (Bu, 2, .slice A' zs.length c'), (Be, 0, .slice A2 ts2.length c2), (Bz, 0, .slice Az Z.length cz), (Bw, 0, .slice Aw Z.length cw), (w48.heap.size, 0, .string vn), (w48.heap.size, 1, .bool vi), (w48.heap.size, 2, .slice Av V.length cv)] (w48.alloc (.cells #[.string vn, .bool vi, .slice Av V.length cv] 29)) := by simpa using kn48.box [.string vn, .bool vi, .slice Av V.length cv] 29
    have b49 := (Below.refl w48.heap.size w48).alloc (Nat.le_refl _) (.cells #[.string vn, .bool vi, .slice Av V.length cv] 29)
    clear kn48
    have Hri49 := Lib.hid (rdI_next b49 Hri48.out)
    clear Hri48
    have Hre49 := Lib.hid (rdT_next b49 Hre48.out)
    clear Hre48
    have Hru49 := Lib.hid (rdU_next b49 Hru48.out)
    clear Hru48
    have Hrz49 := Lib.hid (rdT_next b49 Hrz48.out)
    clear Hrz48
    have Hrw49 := Lib.hid (rdT_next b49 Hrw48.out)
    clear Hrw48
    have Hrv49 := Lib.hid (rdI_next b49 Hrv48.out)
    clear Hrv48
    clear b49
    generalize w48.alloc (.cells #[.string vn, .bool vi, .slice Av V.length cv] 29) = w49 at kn49 Hri49 Hre49 Hru49 Hrz49 Hrw49 Hrv49 ⊢
    generalize w48.heap.size = Bv at kn49 ⊢
    obtain ⟨dBu_0, dBu_1, dBu_2, dBe_0, dBz_0, dBw_0, dBv_0, dBv_1, dBv_2, _⟩ := kn49.all
    have lBu : Bu < w49.heap.size := (kn49.cell (Bu, 0, .string nm) (by simp)).1
    have lBe : Be < w49.heap.size := (kn49.cell (Be, 0, .slice A2 ts2.length c2) (by simp)).1
    have lBz : Bz < w49.heap.size := (kn49.cell (Bz, 0, .slice Az Z.length cz) (by simp)).1
    have lBw : Bw < w49.heap.size := (kn49.cell (Bw, 0, .slice Aw Z.length cw) (by simp)).1
    have lBv : Bv < w49.heap.size := (kn49.cell (Bv, 0, .string vn) (by simp)).1
    have q5 : (s.toList == s.toList) = true := by simp
    cases ok2 with
    | false =>
      obtain rfl := HHP0.out rfl
      go_wp2_with fail
      have KC := Lib.hid (boolD_of (b' := true) (by simp) (spec_EqualDatabases_any Az Aw Z.length cz Z.length cw w49.heap.size w49.heap.size Z Z w49 Hrz49.out Hrw49.out (Nat.le_refl _) (Nat.le_refl _) (by have := HZs.out; omega) (by have := HZs.out; omega)))
      refine KC.out.mono ?_
      rintro e w50 ⟨rfl, b50⟩
      clear dBu_0 dBu_1 dBu_2 dBe_0 dBz_0 dBw_0 dBv_0 dBv_1 dBv_2 lBu lBe lBz lBw lBv
      clear KC
      have kn50 := kn49.next b50
      clear kn49
      have Hri50 := Lib.hid (rdI_next b50 Hri49.out)
      clear Hri49
      have Hre50 := Lib.hid (rdT_next b50 Hre49.out)
      clear Hre49
      have Hru50 := Lib.hid (rdU_next b50 Hru49.out)
      clear Hru49
      have Hrz50 := Lib.hid (rdT_next b50 Hrz49.out)
      clear Hrz49
      have Hrw50 := Lib.hid (rdT_next b50 Hrw49.out)
      clear Hrw49
      have Hrv50 := Lib.hid (rdI_next b50 Hrv49.out)
      clear Hrv49
      clear b50
      obtain ⟨dBu_0, dBu_1, dBu_2, dBe_0, dBz_0, dBw_0, dBv_0, dBv_1, dBv_2, _⟩ := kn50.all
      have lBu : Bu < w50.heap.size := (kn50.cell (Bu, 0, .string nm) (by simp)).1
      have lBe : Be < w50.heap.size := (kn50.cell (Be, 0, .slice A2 ts2.length c2) (by simp)).1
      have lBz : Bz < w50.heap.size := (kn50.cell (Bz, 0, .slice Az Z.length cz) (by simp)).1
      have lBw : Bw < w50.heap.size := (kn50.cell (Bw, 0, .slice Aw Z.length cw) (by simp)).1
      have lBv : Bv < w50.heap.size := (kn50.cell (Bv, 0, .string vn) (by simp)).1
      go_wp2_with fail
      have KC := Lib.hid (strD_of HHF.out (spec_FormatUpdate_any nm ins A' zs.length c' w50.heap.size zs w50 Hri50.out (Nat.le_refl _) (by have := HT.out.2; omega)))
      refine KC.out.mono ?_
      rintro e w51 ⟨rfl, b51⟩
      clear dBu_0 dBu_1 dBu_2 dBe_0 dBz_0 dBw_0 dBv_0 dBv_1 dBv_2 lBu lBe lBz lBw lBv
      clear KC
      have kn51 := kn50.next b51
      clear kn50
      have Hri51 := Lib.hid (rdI_next b51 Hri50.out)
      clear Hri50
      have Hre51 := Lib.hid (rdT_next b51 Hre50.out)
      clear Hre50
      have Hru51 := Lib.hid (rdU_next b51 Hru50.out)
      clear Hru50
      have Hrz51 := Lib.hid (rdT_next b51 Hrz50.out)
      clear Hrz50
      have Hrw51 := Lib.hid (rdT_next b51 Hrw50.out)
      clear Hrw50
      have Hrv51 := Lib.hid (rdI_next b51 Hrv50.out)
      clear Hrv50
      clear b51
      obtain ⟨dBu_0, dBu_1, dBu_2, dBe_0, dBz_0, dBw_0, dBv_0, dBv_1, dBv_2, _⟩ := kn51.all
      have lBu : Bu < w51.heap.size := (kn51.cell (Bu, 0, .string nm) (by simp)).1
      have lBe : Be < w51.heap.size := (kn51.cell (Be, 0, .slice A2 ts2.length c2) (by simp)).1
      have lBz : Bz < w51.heap.size := (kn51.cell (Bz, 0, .slice Az Z.length cz) (by simp)).1
      have lBw : Bw < w51.heap.size := (kn51.cell (Bw, 0, .slice Aw Z.length cw) (by simp)).1
      have lBv : Bv < w51.heap.size := (kn51.cell (Bv, 0, .string vn) (by simp)).1
      have HB := Lib.hid kn51.bel
      go_wp2_with fail
      go_ret
      exact ⟨rfl, HB.out⟩
    | true =>
      obtain ⟨z2, k2⟩ := HHP1.out rfl
      have HK2 := Lib.hid k2
      clear k2
      have z0 : (s.toList == []) = false := by simpa using z2
      have z1 : s.toList.isEmpty = false := by simpa using z2
      have z3 : (s.toList != []) = true := by simpa using z2
      go_wp2_with fail
      have KC := Lib.hid (boolD_of (b' := true) (by simp) (spec_EqualDatabases_any Az Aw Z.length cz Z.length cw w49.heap.size w49.heap.size Z Z w49 Hrz49.out Hrw49.out (Nat.le_refl _) (Nat.le_refl _) (by have := HZs.out; omega) (by have := HZs.out; omega)))
      refine KC.out.mono ?_
      rintro e w50 ⟨rfl, b50⟩
      clear dBu_0 dBu_1 dBu_2 dBe_0 dBz_0 dBw_0 dBv_0 dBv_1 dBv_2 lBu lBe lBz lBw lBv
      clear KC
      have kn50 := kn49.next b50
      clear kn49
      have Hri50 := Lib.hid (rdI_next b50 Hri49.out)
      clear Hri49
      have Hre50 := Lib.hid (rdT_next b50 Hre49.out)
      clear Hre49
      have Hru50 := Lib.hid (rdU_next b50 Hru49.out)
      clear Hru49
      have Hrz50 := Lib.hid (rdT_next b50 Hrz49.out)
      clear Hrz49
      have Hrw50 := Lib.hid (rdT_next b50 Hrw49.out)
      clear Hrw49
      have Hrv50 := Lib.hid (rdI_next b50 Hrv49.out)
      clear Hrv49
      clear b50
      obtain ⟨dBu_0, dBu_1, dBu_2, dBe_0, dBz_0, dBw_0, dBv_0, dBv_1, dBv_2, _⟩ := kn50.all
      have lBu : Bu < w50.heap.size := (kn50.cell (Bu, 0, .string nm) (by simp)).1
      have lBe : Be < w50.heap.size := (kn50.cell (Be, 0, .slice A2 ts2.length c2) (by simp)).1
      have lBz : Bz < w50.heap.size := (kn50.cell (Bz, 0, .slice Az Z.length cz) (by simp)).1
      have lBw : Bw < w50.heap.size := (kn50.cell (Bw, 0, .slice Aw Z.length cw) (by simp)).1
      have lBv : Bv < w50.heap.size := (kn50.cell (Bv, 0, .string vn) (by simp)).1
      go_wp2_with fail
      have KC := Lib.hid (strD_of HHF.out (spec_FormatUpdate_any nm ins A' zs.length c' w50.heap.size zs w50 Hri50.out (Nat.le_refl _) (by have := HT.out.2; omega)))
      refine KC.out.mono ?_
      rintro e w51 ⟨rfl, b51⟩
      clear dBu_0 dBu_1 dBu_2 dBe_0 dBz_0 dBw_0 dBv_0 dBv_1 dBv_2 lBu lBe lBz lBw lBv
      clear KC
      have kn51 := kn50.next b51
      clear kn50
      have Hri51 := Lib.hid (rdI_next b51 Hri50.out)
      clear Hri50
      have Hre51 := Lib.hid (rdT_next b51 Hre50.out)
      clear Hre50
      have Hru51 := Lib.hid (rdU_next b51 Hru50.out)
      clear Hru50
      have Hrz51 := Lib.hid (rdT_next b51 Hrz50.out)
      clear Hrz50
      have Hrw51 := Lib.hid (rdT_next b51 Hrw50.out)
      clear Hrw50
      have Hrv51 := Lib.hid (rdI_next b51 Hrv50.out)
      clear Hrv50
      clear b51
      obtain ⟨dBu_0, dBu_1, dBu_2, dBe_0, dBz_0, dBw_0, dBv_0, dBv_1, dBv_2, _⟩ := kn51.all
      have lBu : Bu < w51.heap.size := (kn51.cell (Bu, 0, .string nm) (by simp)).1
      have lBe : Be < w51.heap.size := (kn51.cell (Be, 0, .slice A2 ts2.length c2) (by simp)).1
      have lBz : Bz < w51.heap.size := (kn51.cell (Bz, 0, .slice Az Z.length cz) (by simp)).1
      have lBw : Bw < w51.heap.size := (kn51.cell (Bw, 0, .slice Aw Z.length cw) (by simp)).1
      have lBv : Bv < w51.heap.size := (kn51.cell (Bv, 0, .string vn) (by simp)).1
      go_wp2_with fail
      have KC := Lib.hid (boolD_of HK2.out (impl_EqualUpdates_any vn nm vi ins Av A' V.length cv zs.length c' w51.heap.size w51.heap.size V zs w51 Hrv51.out Hri51.out (Nat.le_refl _) (Nat.le_refl _) (by have := HHVL.out; omega) (by have := HT.out.2; omega)))
      refine KC.out.mono ?_
      rintro e w52 ⟨rfl, b52⟩
      clear dBu_0 dBu_1 dBu_2 dBe_0 dBz_0 dBw_0 dBv_0 dBv_1 dBv_2 lBu lBe lBz lBw lBv
      clear KC
      have kn52 := kn51.next b52
      clear kn51
      have Hri52 := Lib.hid (rdI_next b52 Hri51.out)
      clear Hri51
      have Hre52 := Lib.hid (rdT_next b52 Hre51.out)
      clear Hre51
      have Hru52 := Lib.hid (rdU_next b52 Hru51.out)
      clear Hru51
      have Hrz52 := Lib.hid (rdT_next b52 Hrz51.out)
      clear Hrz51
      have Hrw52 := Lib.hid (rdT_next b52 Hrw51.out)
      clear Hrw51
      have Hrv52 := Lib.hid (rdI_next b52 Hrv51.out)
      clear Hrv51
      clear b52
      obtain ⟨dBu_0, dBu_1, dBu_2, dBe_0, dBz_0, dBw_0, dBv_0, dBv_1, dBv_2, _⟩ := kn52.all
      have lBu : Bu < w52.heap.size := (kn52.cell (Bu, 0, .string nm) (by simp)).1
      have lBe : Be < w52.heap.size := (kn52.cell (Be, 0, .slice A2 ts2.length c2) (by simp)).1
      have lBz : Bz < w52.heap.size := (kn52.cell (Bz, 0, .slice Az Z.length cz) (by simp)).1
      have lBw : Bw < w52.heap.size := (kn52.cell (Bw, 0, .slice Aw Z.length cw) (by simp)).1
      have lBv : Bv < w52.heap.size := (kn52.cell (Bv, 0, .string vn) (by simp)).1
      have HB := Lib.hid kn52.bel
      go_wp2_with fail
      go_ret
      exact ⟨rfl, HB.out⟩
end Go.Proofs.YtccnhocekgikiaaGreat
