/- The walk of the law on tables. -/
import Derived.Test.YtmojjbhjjhdpaaaGreatDoorDrT5
import Derived.Deep.DeepCutAuto
namespace Go.Proofs.YtmojjbhjjhdpaaaGreatDoor
open Go.RowKit Go.Deep

theorem rdI_next {W w1 : World} {A : Option Addr} {n : Nat} {zs : List Int} (b : Below W.heap.size W w1) (h : RdI W W.heap.size A n zs) : RdI w1 w1.heap.size A n zs := (h.below b).more b.size
theorem tabAns_of {R : TabR} {nm : ByteArray} {ar : Int} {rs : List (List Int)} {ok : Bool} (hR : R = ⟨nm, ar, rs, ok⟩) {f : FuncId} {args : Array Value} {w : World} (h : Calls Tryz.prog f args w (TabBool R w)) : Calls Tryz.prog f args w (TabAns nm ar rs ok w) := by
  subst hR
  exact h
theorem bool_of {b b' : Bool} (hb : b = b') {f : FuncId} {args : Array Value} {w : World} (h : Calls Tryz.prog f args w fun e w' => e = .returned (.bool b) ∧ Below w.heap.size w w') : Calls Tryz.prog f args w fun e w' => e = .returned (.bool b') ∧ Below w.heap.size w w' := by
  subst hb
  exact h
theorem tabR_ex (r : TabR) : ∃ nm ar rs ok, r = ⟨nm, ar, rs, ok⟩ := ⟨_, _, _, _, rfl⟩
theorem fmtT_small (nm : ByteArray) (ar : Int) (rs : List (List Int)) : (fmtT nm ar rs).size ≤ 1048576 := by
  cases h : validT nm ar rs with
  | true => have := fmtT_size h; omega
  | false =>
    rw [fmtT, if_neg (by rw [h]; simp)]
    show (0 : Nat) ≤ _
    omega
/-- What InsertRow answers: its parts, and what the law asks of them. -/
theorem ins_facts (nm : ByteArray) (ar : Int) (R : List (List Int)) (zs : List Int) (hR : R.length ≤ 9 ∧ ∀ r ∈ R, r.length ≤ 16) (hz : zs.length ≤ 16) :
    ∃ X ok, insR nm ar R zs = ⟨nm, ar, X, ok⟩ ∧ (X.length ≤ 10 ∧ ∀ r ∈ X, r.length ≤ 16) ∧ (ok = false → X = R) ∧
      (ok = true → delR nm ar X zs = ⟨nm, ar, R, true⟩ ∧ contB nm ar X zs = true ∧ validT nm ar X = true ∧ X.length = R.length + 1) := by
  cases h : insB nm ar R zs with
  | true =>
    refine ⟨putA zs false R, true, insR_yes h, ⟨by have := (putA_len zs R).2; omega, fun r hr => ?_⟩, by simp, fun _ => ⟨delR_put h, contB_put h, validT_put h, putA_one (insB_parts h).2.2.1⟩⟩
    rcases (putA_mem zs R r).1 hr with rfl | hr
    · exact hz
    · exact hR.2 r hr
  | false => exact ⟨R, false, insR_no h, ⟨by omega, hR.2⟩, fun _ => rfl, by simp⟩
theorem new_facts (nm : ByteArray) (ar : Int) (R : List (List Int)) (hR : R.length ≤ 16 ∧ ∀ r ∈ R, r.length ≤ 16) :
    ∃ zn za Z ok, newR nm ar R = ⟨zn, za, Z, ok⟩ ∧ Z.length ≤ 16 ∧ (ok = true → validT zn za Z = true ∧ ∀ r ∈ R, contB zn za Z r = true) := by
  cases h : validT nm ar (sortL R) with
  | true => exact ⟨nm, ar, sortL R, true, newR_yes h, by have := sortL_len R; omega, fun _ => ⟨h, fun r hr => contB_sort h hr⟩⟩
  | false => exact ⟨⟨#[]⟩, 0, [], false, newR_no h, by simp, by simp⟩
theorem par_facts (nm : ByteArray) (ar : Int) (R : List (List Int)) : ∃ yn ya Y ok, parT (fmtT nm ar R) = ⟨yn, ya, Y, ok⟩ ∧ ok = validT nm ar R ∧ (ok = true → eqT yn nm ya ar Y R = true) ∧ Y.length ≤ 1048576 := by
  cases h : validT nm ar R with
  | true => exact ⟨nm, ar, R, true, parT_back h, rfl, fun _ => eqT_self _ _ _, by have := (validT_vt h).len; omega⟩
  | false => exact ⟨⟨#[]⟩, 0, [], false, parT_none h, rfl, by simp, by simp⟩
theorem sc_of {W : World} {xb g k : Nat} {a b c d : Value} (h0 : W.cell? ⟨xb, 0, none⟩ = some a) (h1 : W.cell? ⟨xb, 1, none⟩ = some b) (h2 : W.cell? ⟨xb, 2, none⟩ = some c) (h3 : W.cell? ⟨g, k, none⟩ = some d) (hx : xb < W.heap.size) (hg : g < W.heap.size) :
    W.cell? ⟨xb, 0, none⟩ = some a ∧ W.cell? ⟨xb, 1, none⟩ = some b ∧ W.cell? ⟨xb, 2, none⟩ = some c ∧ W.cell? ⟨g, k, none⟩ = some d ∧ xb < W.heap.size ∧ g < W.heap.size := ⟨h0, h1, h2, h3, hx, hg⟩
theorem sc_next {W W' : World} {xb g k : Nat} {a b c d : Value} (B : Below W.heap.size W W') (h : W.cell? ⟨xb, 0, none⟩ = some a ∧ W.cell? ⟨xb, 1, none⟩ = some b ∧ W.cell? ⟨xb, 2, none⟩ = some c ∧ W.cell? ⟨g, k, none⟩ = some d ∧ xb < W.heap.size ∧ g < W.heap.size) :
    W'.cell? ⟨xb, 0, none⟩ = some a ∧ W'.cell? ⟨xb, 1, none⟩ = some b ∧ W'.cell? ⟨xb, 2, none⟩ = some c ∧ W'.cell? ⟨g, k, none⟩ = some d ∧ xb < W'.heap.size ∧ g < W'.heap.size :=
  ⟨(B.cell (p := ⟨xb, 0, none⟩) h.2.2.2.2.1).trans h.1, (B.cell (p := ⟨xb, 1, none⟩) h.2.2.2.2.1).trans h.2.1, (B.cell (p := ⟨xb, 2, none⟩) h.2.2.2.2.1).trans h.2.2.1, (B.cell (p := ⟨g, k, none⟩) h.2.2.2.2.2).trans h.2.2.2.1, Nat.lt_of_lt_of_le h.2.2.2.2.1 B.size, Nat.lt_of_lt_of_le h.2.2.2.2.2 B.size⟩

set_option maxRecDepth 100000 in
set_option maxHeartbeats 8000000 in
theorem tables_walk (a0 : Option Addr) (len0 cap0 : Nat) (z0 : List Int) (w : World) (ht : Tb w) (hm : Mx w) (w0 : IsRow .u8 w a0 len0 cap0 z0) :
    Calls Tryz.prog 3 #[.slice a0 len0 cap0] w fun e w' => e = .returned (.bool true) ∧ Below w.heap.size w w' := by
  have hr := rdC_of_row w0
  by_cases hb : (1048576 : Int) < len0
  · have K := Lib.hid (big_any a0 len0 cap0 w)
    rw [decide_eq_true hb] at K
    go_enter Tryz.func3, Tryz.ntmps3
    go_wp2_with fail
    refine K.out.mono ?_
    rintro e w1 ⟨rfl, rfl⟩
    go_wp2_with fail
    go_ret
    exact ⟨rfl, Below.refl _ _⟩
  have K := Lib.hid (big_any a0 len0 cap0 w)
  rw [decide_eq_false hb] at K
  have hl : len0 ≤ 1048576 := by omega
  have KD1 : Hid (∀ W, Below w.heap.size w W → _) := fun W b => drawInsert_any a0 len0 cap0 W ((hr.keep b.block).more b.size) hl
  have KD2 : Hid (∀ W, Below w.heap.size w W → _) := fun W b => drawNew_any a0 len0 cap0 W ((hr.keep b.block).more b.size) hl
  clear hb hl hr w0
  go_enter Tryz.func3, Tryz.ntmps3
  go_wp2_with fail
  refine K.out.mono ?_
  rintro e w1 ⟨rfl, rfl⟩
  clear K
  go_wp2_with fail
  refine (KD1.out w (Below.refl _ _)).mono ?_
  rintro e w1 ⟨nm, ar, A, c, R, A', n', c', zs, rfl, hsm, ⟨hn16, hzn⟩, ho, hoi, b1⟩
  subst hzn
  have kn1 := (Kn.start w).next b1
  have Hrt1 := Lib.hid (ho.rd rfl)
  have Hrz1 := Lib.hid (hoi.rd rfl)
  have HS := Lib.hid hsm
  clear b1 KD1 ho hoi hsm
  go_upto_region 4 with fail
  have kn2 : Kn w [(w1.heap.size, 0, .string nm), (w1.heap.size, 1, .int .i64 ar), (w1.heap.size, 2, .slice A R.length c)] (w1.alloc (.cells #[.string nm, .int .i64 ar, .slice A R.length c] 26)) := by simpa using kn1.box [.string nm, .int .i64 ar, .slice A R.length c] 26
  have b2 := (Below.refl w1.heap.size w1).alloc (Nat.le_refl _) (.cells #[.string nm, .int .i64 ar, .slice A R.length c] 26)
  clear kn1
  have Hrt2 := Lib.hid (rdR_next b2 Hrt1.out)
  clear Hrt1
  have Hrz2 := Lib.hid (rdI_next b2 Hrz1.out)
  clear Hrz1
  clear b2
  generalize w1.alloc (.cells #[.string nm, .int .i64 ar, .slice A R.length c] 26) = w2 at kn2 Hrt2 Hrz2 ⊢
  generalize w1.heap.size = Bt at kn2 ⊢
  obtain ⟨dBt_0, dBt_1, dBt_2, _⟩ := kn2.all
  have lBt : Bt < w2.heap.size := (kn2.cell (Bt, 0, .string nm) (by simp)).1
  obtain ⟨X, ok, hX, hXs, hX0, hX1⟩ := ins_facts nm ar R zs HS.out.2.2 hn16
  have HX := Lib.hid hX
  have HXs := Lib.hid hXs
  have HX0 := Lib.hid hX0
  have HX1 := Lib.hid hX1
  have q1 : (ok != ok) = false := by simp
  have q2 : (ok == ok) = true := by simp
  clear hX hXs hX0 hX1
  go_wp2_with fail
  have KC := Lib.hid (tabAns_of HX.out (impl_InsertRow_any nm ar A A' R.length c zs.length c' w2.heap.size R zs w2 Hrt2.out Hrz2.out (Nat.le_refl _) (by have := HS.out.2.2.1; omega) (by omega) (fun r hr => by have := HS.out.2.2.2 r hr; omega)))
  refine KC.out.mono ?_
  rintro e w3 ⟨Ax, cx, rfl, ho, b3⟩
  clear dBt_0 dBt_1 dBt_2 lBt
  clear KC
  have kn3 := kn2.next b3
  clear kn2
  have Hrt3 := Lib.hid (rdR_next b3 Hrt2.out)
  clear Hrt2
  have Hrz3 := Lib.hid (rdI_next b3 Hrz2.out)
  clear Hrz2
  have Hrx3 := Lib.hid (ho.rd rfl)
  clear ho
  clear b3
  obtain ⟨dBt_0, dBt_1, dBt_2, _⟩ := kn3.all
  have lBt : Bt < w3.heap.size := (kn3.cell (Bt, 0, .string nm) (by simp)).1
  go_upto_region 5 with fail
  clear dBt_0 dBt_1 dBt_2 lBt
  have kn4 : Kn w [(Bt, 0, .string nm), (Bt, 1, .int .i64 ar), (Bt, 2, .slice A R.length c), (w3.heap.size, 0, .string nm), (w3.heap.size, 1, .int .i64 ar), (w3.heap.size, 2, .slice Ax X.length cx)] (w3.alloc (.cells #[.string nm, .int .i64 ar, .slice Ax X.length cx] 26)) := by simpa using kn3.box [.string nm, .int .i64 ar, .slice Ax X.length cx] 26
  have b4 := (Below.refl w3.heap.size w3).alloc (Nat.le_refl _) (.cells #[.string nm, .int .i64 ar, .slice Ax X.length cx] 26)
  clear kn3
  have Hrt4 := Lib.hid (rdR_next b4 Hrt3.out)
  clear Hrt3
  have Hrz4 := Lib.hid (rdI_next b4 Hrz3.out)
  clear Hrz3
  have Hrx4 := Lib.hid (rdR_next b4 Hrx3.out)
  clear Hrx3
  clear b4
  generalize w3.alloc (.cells #[.string nm, .int .i64 ar, .slice Ax X.length cx] 26) = w4 at kn4 Hrt4 Hrz4 Hrx4 ⊢
  generalize w3.heap.size = Bx at kn4 ⊢
  obtain ⟨dBt_0, dBt_1, dBt_2, dBx_0, dBx_1, dBx_2, _⟩ := kn4.all
  have lBt : Bt < w4.heap.size := (kn4.cell (Bt, 0, .string nm) (by simp)).1
  have lBx : Bx < w4.heap.size := (kn4.cell (Bx, 0, .string nm) (by simp)).1
  go_wp2_with fail
  have KC := Lib.hid (tabAns_of HX.out (spec_InsertRow_any nm ar A A' R.length c zs.length c' w4.heap.size R zs w4 Hrt4.out Hrz4.out (Nat.le_refl _) (by have := HS.out.2.2.1; omega) (by omega) (fun r hr => by have := HS.out.2.2.2 r hr; omega)))
  refine KC.out.mono ?_
  rintro e w5 ⟨Au, cu, rfl, ho, b5⟩
  clear dBt_0 dBt_1 dBt_2 dBx_0 dBx_1 dBx_2 lBt lBx
  clear KC
  have kn5 := kn4.next b5
  clear kn4
  have Hrt5 := Lib.hid (rdR_next b5 Hrt4.out)
  clear Hrt4
  have Hrz5 := Lib.hid (rdI_next b5 Hrz4.out)
  clear Hrz4
  have Hrx5 := Lib.hid (rdR_next b5 Hrx4.out)
  clear Hrx4
  clear b5
  obtain ⟨dBt_0, dBt_1, dBt_2, dBx_0, dBx_1, dBx_2, _⟩ := kn5.all
  have lBt : Bt < w5.heap.size := (kn5.cell (Bt, 0, .string nm) (by simp)).1
  have lBx : Bx < w5.heap.size := (kn5.cell (Bx, 0, .string nm) (by simp)).1
  clear ho
  go_upto_if 44 with fail
  clear dBt_0 dBt_1 dBt_2 dBx_0 dBx_1 dBx_2 lBt lBx
  have b6 := (Below.refl w5.heap.size w5).alloc (Nat.le_refl _) (.cells #[.string nm, .int .i64 ar, .slice Au X.length cu] 26)
  have kn6 := kn5.next b6
  clear kn5
  have Hrt6 := Lib.hid (rdR_next b6 Hrt5.out)
  clear Hrt5
  have Hrz6 := Lib.hid (rdI_next b6 Hrz5.out)
  clear Hrz5
  have Hrx6 := Lib.hid (rdR_next b6 Hrx5.out)
  clear Hrx5
  clear b6
  generalize w5.alloc (.cells #[.string nm, .int .i64 ar, .slice Au X.length cu] 26) = w6 at kn6 Hrt6 Hrz6 Hrx6 ⊢
  obtain ⟨dBt_0, dBt_1, dBt_2, dBx_0, dBx_1, dBx_2, _⟩ := kn6.all
  have lBt : Bt < w6.heap.size := (kn6.cell (Bt, 0, .string nm) (by simp)).1
  have lBx : Bx < w6.heap.size := (kn6.cell (Bx, 0, .string nm) (by simp)).1
  go_cut [2] (fun r wx => r = .bool false ∧ Kn w [(Bt, 0, .string nm), (Bt, 1, .int .i64 ar), (Bt, 2, .slice A R.length c)] wx ∧ RdR wx wx.heap.size A R.length R)
  case first =>
    as_aux_lemma =>
      cases ok with
      | false =>
        have e1 := HX0.out rfl
        subst e1
        go_wp2_with fail
        have KC := Lib.hid (bool_of (eqT_self nm ar X) (impl_EqualTables_any nm nm ar ar Ax A X.length cx X.length c w6.heap.size w6.heap.size X X w6 Hrx6.out Hrt6.out (Nat.le_refl _) (Nat.le_refl _) (by have := HXs.out.1; omega) (by have := HXs.out.1; omega)))
        refine KC.out.mono ?_
        rintro e w7 ⟨rfl, b7⟩
        clear dBt_0 dBt_1 dBt_2 dBx_0 dBx_1 dBx_2 lBt lBx
        clear KC
        have kn7 := kn6.next b7
        clear kn6
        have Hrt7 := Lib.hid (rdR_next b7 Hrt6.out)
        clear Hrt6
        have Hrz7 := Lib.hid (rdI_next b7 Hrz6.out)
        clear Hrz6
        have Hrx7 := Lib.hid (rdR_next b7 Hrx6.out)
        clear Hrx6
        clear b7
        obtain ⟨dBt_0, dBt_1, dBt_2, dBx_0, dBx_1, dBx_2, _⟩ := kn7.all
        have lBt : Bt < w7.heap.size := (kn7.cell (Bt, 0, .string nm) (by simp)).1
        have lBx : Bx < w7.heap.size := (kn7.cell (Bx, 0, .string nm) (by simp)).1
        have HM := kn7
        go_wp2_with fail
        go_meet
        exact ⟨rfl, HM.sub (by simp), Hrt7.out⟩
      | true =>
        obtain ⟨k1, k2, k3, k4⟩ := HX1.out rfl
        have HK1 := Lib.hid k1
        have HK2 := Lib.hid k2
        have HK3 := Lib.hid k3
        have HK4 := Lib.hid k4
        clear k1 k2 k3 k4
        go_wp2_with fail
        have KC := Lib.hid (tabAns_of HK1.out (impl_DeleteRow_any nm ar Ax A' X.length cx zs.length c' w6.heap.size X zs w6 Hrx6.out Hrz6.out (Nat.le_refl _) (by have := HXs.out.1; omega) (by omega) (fun r hr => by have := HXs.out.2 r hr; omega)))
        refine KC.out.mono ?_
        rintro e w7 ⟨Ay, cy, rfl, ho, b7⟩
        clear dBt_0 dBt_1 dBt_2 dBx_0 dBx_1 dBx_2 lBt lBx
        clear KC
        have kn7 := kn6.next b7
        clear kn6
        have Hrt7 := Lib.hid (rdR_next b7 Hrt6.out)
        clear Hrt6
        have Hrz7 := Lib.hid (rdI_next b7 Hrz6.out)
        clear Hrz6
        have Hrx7 := Lib.hid (rdR_next b7 Hrx6.out)
        clear Hrx6
        have Hry7 := Lib.hid (ho.rd rfl)
        clear ho
        clear b7
        obtain ⟨dBt_0, dBt_1, dBt_2, dBx_0, dBx_1, dBx_2, _⟩ := kn7.all
        have lBt : Bt < w7.heap.size := (kn7.cell (Bt, 0, .string nm) (by simp)).1
        have lBx : Bx < w7.heap.size := (kn7.cell (Bx, 0, .string nm) (by simp)).1
        go_upto_region 10 with fail
        clear dBt_0 dBt_1 dBt_2 dBx_0 dBx_1 dBx_2 lBt lBx
        have kn8 : Kn w [(Bt, 0, .string nm), (Bt, 1, .int .i64 ar), (Bt, 2, .slice A R.length c), (Bx, 0, .string nm), (Bx, 1, .int .i64 ar), (Bx, 2, .slice Ax X.length cx), (w7.heap.size, 0, .string nm), (w7.heap.size, 1, .int .i64 ar), (w7.heap.size, 2, .slice Ay R.length cy)] (w7.alloc (.cells #[.string nm, .int .i64 ar, .slice Ay R.length cy] 26)) := by simpa using kn7.box [.string nm, .int .i64 ar, .slice Ay R.length cy] 26
        have b8 := (Below.refl w7.heap.size w7).alloc (Nat.le_refl _) (.cells #[.string nm, .int .i64 ar, .slice Ay R.length cy] 26)
        clear kn7
        have Hrt8 := Lib.hid (rdR_next b8 Hrt7.out)
        clear Hrt7
        have Hrz8 := Lib.hid (rdI_next b8 Hrz7.out)
        clear Hrz7
        have Hrx8 := Lib.hid (rdR_next b8 Hrx7.out)
        clear Hrx7
        have Hry8 := Lib.hid (rdR_next b8 Hry7.out)
        clear Hry7
        clear b8
        generalize w7.alloc (.cells #[.string nm, .int .i64 ar, .slice Ay R.length cy] 26) = w8 at kn8 Hrt8 Hrz8 Hrx8 Hry8 ⊢
        generalize w7.heap.size = By at kn8 ⊢
        obtain ⟨dBt_0, dBt_1, dBt_2, dBx_0, dBx_1, dBx_2, dBy_0, dBy_1, dBy_2, _⟩ := kn8.all
        have lBt : Bt < w8.heap.size := (kn8.cell (Bt, 0, .string nm) (by simp)).1
        have lBx : Bx < w8.heap.size := (kn8.cell (Bx, 0, .string nm) (by simp)).1
        have lBy : By < w8.heap.size := (kn8.cell (By, 0, .string nm) (by simp)).1
        have g1 : ((X.length : Int) != (R.length : Int) + 1) = false := by have := HK4.out; simp; omega
        have g2 : (X.length : Int) = (R.length : Int) + 1 := by have := HK4.out; omega
        have g3 : (R.length : Int) + 1 ≤ 100 := by have := HS.out.2.2.1; omega
        have HG2 := Lib.hid g2
        clear g2
        go_wp2_with fail
        have KC := Lib.hid (bool_of HK2.out (impl_ContainsRow_any nm ar Ax A' X.length cx zs.length c' w8.heap.size X zs w8 Hrx8.out Hrz8.out (Nat.le_refl _) (by have := HXs.out.1; omega) (by omega)))
        refine KC.out.mono ?_
        rintro e w9 ⟨rfl, b9⟩
        clear dBt_0 dBt_1 dBt_2 dBx_0 dBx_1 dBx_2 dBy_0 dBy_1 dBy_2 lBt lBx lBy
        clear KC
        have kn9 := kn8.next b9
        clear kn8
        have Hrt9 := Lib.hid (rdR_next b9 Hrt8.out)
        clear Hrt8
        have Hrz9 := Lib.hid (rdI_next b9 Hrz8.out)
        clear Hrz8
        have Hrx9 := Lib.hid (rdR_next b9 Hrx8.out)
        clear Hrx8
        have Hry9 := Lib.hid (rdR_next b9 Hry8.out)
        clear Hry8
        clear b9
        obtain ⟨dBt_0, dBt_1, dBt_2, dBx_0, dBx_1, dBx_2, dBy_0, dBy_1, dBy_2, _⟩ := kn9.all
        have lBt : Bt < w9.heap.size := (kn9.cell (Bt, 0, .string nm) (by simp)).1
        have lBx : Bx < w9.heap.size := (kn9.cell (Bx, 0, .string nm) (by simp)).1
        have lBy : By < w9.heap.size := (kn9.cell (By, 0, .string nm) (by simp)).1
        go_wp2_with fail
        have KC := Lib.hid (bool_of (eqT_self nm ar R) (impl_EqualTables_any nm nm ar ar Ay A R.length cy R.length c w9.heap.size w9.heap.size R R w9 Hry9.out Hrt9.out (Nat.le_refl _) (Nat.le_refl _) (by have := HS.out.2.2.1; omega) (by have := HS.out.2.2.1; omega)))
        refine KC.out.mono ?_
        rintro e w10 ⟨rfl, b10⟩
        clear dBt_0 dBt_1 dBt_2 dBx_0 dBx_1 dBx_2 dBy_0 dBy_1 dBy_2 lBt lBx lBy
        clear KC
        have kn10 := kn9.next b10
        clear kn9
        have Hrt10 := Lib.hid (rdR_next b10 Hrt9.out)
        clear Hrt9
        have Hrz10 := Lib.hid (rdI_next b10 Hrz9.out)
        clear Hrz9
        have Hrx10 := Lib.hid (rdR_next b10 Hrx9.out)
        clear Hrx9
        have Hry10 := Lib.hid (rdR_next b10 Hry9.out)
        clear Hry9
        clear b10
        obtain ⟨dBt_0, dBt_1, dBt_2, dBx_0, dBx_1, dBx_2, dBy_0, dBy_1, dBy_2, _⟩ := kn10.all
        have lBt : Bt < w10.heap.size := (kn10.cell (Bt, 0, .string nm) (by simp)).1
        have lBx : Bx < w10.heap.size := (kn10.cell (Bx, 0, .string nm) (by simp)).1
        have lBy : By < w10.heap.size := (kn10.cell (By, 0, .string nm) (by simp)).1
        go_wp2_with fail
        have KC := Lib.hid (bool_of HK3.out (spec_IsValidTable_any nm ar Ax X.length cx w10.heap.size X w10 Hrx10.out (Nat.le_refl _) (by have := HXs.out.1; omega)))
        refine KC.out.mono ?_
        rintro e w11 ⟨rfl, b11⟩
        clear dBt_0 dBt_1 dBt_2 dBx_0 dBx_1 dBx_2 dBy_0 dBy_1 dBy_2 lBt lBx lBy
        clear KC
        have kn11 := kn10.next b11
        clear kn10
        have Hrt11 := Lib.hid (rdR_next b11 Hrt10.out)
        clear Hrt10
        have Hrz11 := Lib.hid (rdI_next b11 Hrz10.out)
        clear Hrz10
        have Hrx11 := Lib.hid (rdR_next b11 Hrx10.out)
        clear Hrx10
        have Hry11 := Lib.hid (rdR_next b11 Hry10.out)
        clear Hry10
        clear b11
        obtain ⟨dBt_0, dBt_1, dBt_2, dBx_0, dBx_1, dBx_2, dBy_0, dBy_1, dBy_2, _⟩ := kn11.all
        have lBt : Bt < w11.heap.size := (kn11.cell (Bt, 0, .string nm) (by simp)).1
        have lBx : Bx < w11.heap.size := (kn11.cell (Bx, 0, .string nm) (by simp)).1
        have lBy : By < w11.heap.size := (kn11.cell (By, 0, .string nm) (by simp)).1
        have HM := kn11
        go_wp2_with fail
        go_meet
        exact ⟨rfl, HM.sub (by simp), Hrt11.out⟩
  case rest =>
    clear dBt_0 dBt_1 dBt_2 dBx_0 dBx_1 dBx_2 lBt lBx
    obtain ⟨rfl, kn40, qrt⟩ := hcut
    have Hrt40 := Lib.hid qrt
    clear qrt
    clear kn6 Hrt6 Hrz6 Hrx6
    generalize wc = w40 at kn40 Hrt40 ⊢
    obtain ⟨dBt_0, dBt_1, dBt_2, _⟩ := kn40.all
    have lBt : Bt < w40.heap.size := (kn40.cell (Bt, 0, .string nm) (by simp)).1
    go_wp2_with fail
    refine (KD2.out w40 kn40.bel).mono ?_
    rintro e w41 ⟨nm2, ar2, A2, c2, R2, rfl, hsm2, ho, b41⟩
    clear dBt_0 dBt_1 dBt_2 lBt
    clear KD2
    have kn41 := kn40.next b41
    clear kn40
    have Hrt41 := Lib.hid (rdR_next b41 Hrt40.out)
    clear Hrt40
    have Hrn41 := Lib.hid (ho.rd rfl)
    have HS2 := Lib.hid hsm2
    clear ho b41 hsm2
    obtain ⟨dBt_0, dBt_1, dBt_2, _⟩ := kn41.all
    have lBt : Bt < w41.heap.size := (kn41.cell (Bt, 0, .string nm) (by simp)).1
    obtain ⟨zn, za, Z, made, hZ, hZl, hZ1⟩ := new_facts nm2 ar2 R2 HS2.out.2
    have HZ := Lib.hid hZ
    have HZl := Lib.hid hZl
    have HZ1 := Lib.hid hZ1
    have q3 : (made != made) = false := by simp
    clear hZ hZl hZ1
    go_wp2_with fail
    have KC := Lib.hid (tabAns_of HZ.out (impl_NewTable_any nm2 ar2 A2 R2.length c2 w41.heap.size R2 w41 Hrn41.out (Nat.le_refl _) (by have := HS2.out.2.1; omega) (fun r hr => by have := HS2.out.2.2 r hr; omega)))
    refine KC.out.mono ?_
    rintro e w42 ⟨Az, cz, rfl, ho, b42⟩
    clear dBt_0 dBt_1 dBt_2 lBt
    clear KC
    have kn42 := kn41.next b42
    clear kn41
    have Hrt42 := Lib.hid (rdR_next b42 Hrt41.out)
    clear Hrt41
    have Hrn42 := Lib.hid (rdR_next b42 Hrn41.out)
    clear Hrn41
    have Hrz242 := Lib.hid (ho.rd rfl)
    clear ho
    clear b42
    obtain ⟨dBt_0, dBt_1, dBt_2, _⟩ := kn42.all
    have lBt : Bt < w42.heap.size := (kn42.cell (Bt, 0, .string nm) (by simp)).1
    go_upto_region 16 with fail
    clear dBt_0 dBt_1 dBt_2 lBt
    have kn43 : Kn w [(Bt, 0, .string nm), (Bt, 1, .int .i64 ar), (Bt, 2, .slice A R.length c), (w42.heap.size, 0, .string zn), (w42.heap.size, 1, .int .i64 za), (w42.heap.size, 2, .slice Az Z.length cz)] (w42.alloc (.cells #[.string zn, .int .i64 za, .slice Az Z.length cz] 26)) := by simpa using kn42.box [.string zn, .int .i64 za, .slice Az Z.length cz] 26
    have b43 := (Below.refl w42.heap.size w42).alloc (Nat.le_refl _) (.cells #[.string zn, .int .i64 za, .slice Az Z.length cz] 26)
    clear kn42
    have Hrt43 := Lib.hid (rdR_next b43 Hrt42.out)
    clear Hrt42
    have Hrn43 := Lib.hid (rdR_next b43 Hrn42.out)
    clear Hrn42
    have Hrz243 := Lib.hid (rdR_next b43 Hrz242.out)
    clear Hrz242
    clear b43
    generalize w42.alloc (.cells #[.string zn, .int .i64 za, .slice Az Z.length cz] 26) = w43 at kn43 Hrt43 Hrn43 Hrz243 ⊢
    generalize w42.heap.size = Bz at kn43 ⊢
    obtain ⟨dBt_0, dBt_1, dBt_2, dBz_0, dBz_1, dBz_2, _⟩ := kn43.all
    have lBt : Bt < w43.heap.size := (kn43.cell (Bt, 0, .string nm) (by simp)).1
    have lBz : Bz < w43.heap.size := (kn43.cell (Bz, 0, .string zn) (by simp)).1
    go_wp2_with fail
    have KC := Lib.hid (tabAns_of HZ.out (spec_NewTable_any nm2 ar2 A2 R2.length c2 w43.heap.size R2 w43 Hrn43.out (Nat.le_refl _) (by have := HS2.out.2.1; omega) (fun r hr => by have := HS2.out.2.2 r hr; omega)))
    refine KC.out.mono ?_
    rintro e w44 ⟨Aw, cw, rfl, ho, b44⟩
    clear dBt_0 dBt_1 dBt_2 dBz_0 dBz_1 dBz_2 lBt lBz
    clear KC
    have kn44 := kn43.next b44
    clear kn43
    have Hrt44 := Lib.hid (rdR_next b44 Hrt43.out)
    clear Hrt43
    have Hrn44 := Lib.hid (rdR_next b44 Hrn43.out)
    clear Hrn43
    have Hrz244 := Lib.hid (rdR_next b44 Hrz243.out)
    clear Hrz243
    have Hrw244 := Lib.hid (ho.rd rfl)
    clear ho
    clear b44
    obtain ⟨dBt_0, dBt_1, dBt_2, dBz_0, dBz_1, dBz_2, _⟩ := kn44.all
    have lBt : Bt < w44.heap.size := (kn44.cell (Bt, 0, .string nm) (by simp)).1
    have lBz : Bz < w44.heap.size := (kn44.cell (Bz, 0, .string zn) (by simp)).1
    go_upto_region 17 with fail
    clear dBt_0 dBt_1 dBt_2 dBz_0 dBz_1 dBz_2 lBt lBz
    have kn45 : Kn w [(Bt, 0, .string nm), (Bt, 1, .int .i64 ar), (Bt, 2, .slice A R.length c), (Bz, 0, .string zn), (Bz, 1, .int .i64 za), (Bz, 2, .slice Az Z.length cz), (w44.heap.size, 0, .string zn), (w44.heap.size, 1, .int .i64 za), (w44.heap.size, 2, .slice Aw Z.length cw)] (w44.alloc (.cells #[.string zn, .int .i64 za, .slice Aw Z.length cw] 26)) := by simpa using kn44.box [.string zn, .int .i64 za, .slice Aw Z.length cw] 26
    have b45 := (Below.refl w44.heap.size w44).alloc (Nat.le_refl _) (.cells #[.string zn, .int .i64 za, .slice Aw Z.length cw] 26)
    clear kn44
    have Hrt45 := Lib.hid (rdR_next b45 Hrt44.out)
    clear Hrt44
    have Hrn45 := Lib.hid (rdR_next b45 Hrn44.out)
    clear Hrn44
    have Hrz245 := Lib.hid (rdR_next b45 Hrz244.out)
    clear Hrz244
    have Hrw245 := Lib.hid (rdR_next b45 Hrw244.out)
    clear Hrw244
    clear b45
    generalize w44.alloc (.cells #[.string zn, .int .i64 za, .slice Aw Z.length cw] 26) = w45 at kn45 Hrt45 Hrn45 Hrz245 Hrw245 ⊢
    generalize w44.heap.size = Bw at kn45 ⊢
    obtain ⟨dBt_0, dBt_1, dBt_2, dBz_0, dBz_1, dBz_2, dBw_0, dBw_1, dBw_2, _⟩ := kn45.all
    have lBt : Bt < w45.heap.size := (kn45.cell (Bt, 0, .string nm) (by simp)).1
    have lBz : Bz < w45.heap.size := (kn45.cell (Bz, 0, .string zn) (by simp)).1
    have lBw : Bw < w45.heap.size := (kn45.cell (Bw, 0, .string zn) (by simp)).1
    go_cut [120] (fun r wx => r = .bool false ∧ Kn w [(Bt, 0, .string nm), (Bt, 1, .int .i64 ar), (Bt, 2, .slice A R.length c), (Bz, 0, .string zn), (Bz, 1, .int .i64 za), (Bz, 2, .slice Az Z.length cz)] wx ∧ RdR wx wx.heap.size A R.length R ∧ RdR wx wx.heap.size A2 R2.length R2 ∧ RdR wx wx.heap.size Az Z.length Z)
    case first =>
      as_aux_lemma =>
        cases made with
        | false =>
          go_wp2_with fail
          have KC := Lib.hid (bool_of (eqT_self zn za Z) (impl_EqualTables_any zn zn za za Az Aw Z.length cz Z.length cw w45.heap.size w45.heap.size Z Z w45 Hrz245.out Hrw245.out (Nat.le_refl _) (Nat.le_refl _) (by have := HZl.out; omega) (by have := HZl.out; omega)))
          refine KC.out.mono ?_
          rintro e w46 ⟨rfl, b46⟩
          clear dBt_0 dBt_1 dBt_2 dBz_0 dBz_1 dBz_2 dBw_0 dBw_1 dBw_2 lBt lBz lBw
          clear KC
          have kn46 := kn45.next b46
          clear kn45
          have Hrt46 := Lib.hid (rdR_next b46 Hrt45.out)
          clear Hrt45
          have Hrn46 := Lib.hid (rdR_next b46 Hrn45.out)
          clear Hrn45
          have Hrz246 := Lib.hid (rdR_next b46 Hrz245.out)
          clear Hrz245
          have Hrw246 := Lib.hid (rdR_next b46 Hrw245.out)
          clear Hrw245
          clear b46
          obtain ⟨dBt_0, dBt_1, dBt_2, dBz_0, dBz_1, dBz_2, dBw_0, dBw_1, dBw_2, _⟩ := kn46.all
          have lBt : Bt < w46.heap.size := (kn46.cell (Bt, 0, .string nm) (by simp)).1
          have lBz : Bz < w46.heap.size := (kn46.cell (Bz, 0, .string zn) (by simp)).1
          have lBw : Bw < w46.heap.size := (kn46.cell (Bw, 0, .string zn) (by simp)).1
          have HM := kn46
          go_wp2_with fail
          go_meet
          exact ⟨rfl, HM.sub (by simp), Hrt46.out, Hrn46.out, Hrz246.out⟩
        | true =>
          have hz1 := Lib.hid (HZ1.out rfl).1
          go_wp2_with fail
          have KC := Lib.hid (bool_of (eqT_self zn za Z) (impl_EqualTables_any zn zn za za Az Aw Z.length cz Z.length cw w45.heap.size w45.heap.size Z Z w45 Hrz245.out Hrw245.out (Nat.le_refl _) (Nat.le_refl _) (by have := HZl.out; omega) (by have := HZl.out; omega)))
          refine KC.out.mono ?_
          rintro e w46 ⟨rfl, b46⟩
          clear dBt_0 dBt_1 dBt_2 dBz_0 dBz_1 dBz_2 dBw_0 dBw_1 dBw_2 lBt lBz lBw
          clear KC
          have kn46 := kn45.next b46
          clear kn45
          have Hrt46 := Lib.hid (rdR_next b46 Hrt45.out)
          clear Hrt45
          have Hrn46 := Lib.hid (rdR_next b46 Hrn45.out)
          clear Hrn45
          have Hrz246 := Lib.hid (rdR_next b46 Hrz245.out)
          clear Hrz245
          have Hrw246 := Lib.hid (rdR_next b46 Hrw245.out)
          clear Hrw245
          clear b46
          obtain ⟨dBt_0, dBt_1, dBt_2, dBz_0, dBz_1, dBz_2, dBw_0, dBw_1, dBw_2, _⟩ := kn46.all
          have lBt : Bt < w46.heap.size := (kn46.cell (Bt, 0, .string nm) (by simp)).1
          have lBz : Bz < w46.heap.size := (kn46.cell (Bz, 0, .string zn) (by simp)).1
          have lBw : Bw < w46.heap.size := (kn46.cell (Bw, 0, .string zn) (by simp)).1
          go_wp2_with fail
          have KC := Lib.hid (bool_of hz1.out (impl_IsValidTable_any zn za Az Z.length cz w46.heap.size Z w46 Hrz246.out (Nat.le_refl _) (by have := HZl.out; omega)))
          refine KC.out.mono ?_
          rintro e w47 ⟨rfl, b47⟩
          clear dBt_0 dBt_1 dBt_2 dBz_0 dBz_1 dBz_2 dBw_0 dBw_1 dBw_2 lBt lBz lBw
          clear KC
          have kn47 := kn46.next b47
          clear kn46
          have Hrt47 := Lib.hid (rdR_next b47 Hrt46.out)
          clear Hrt46
          have Hrn47 := Lib.hid (rdR_next b47 Hrn46.out)
          clear Hrn46
          have Hrz247 := Lib.hid (rdR_next b47 Hrz246.out)
          clear Hrz246
          have Hrw247 := Lib.hid (rdR_next b47 Hrw246.out)
          clear Hrw246
          clear b47
          obtain ⟨dBt_0, dBt_1, dBt_2, dBz_0, dBz_1, dBz_2, dBw_0, dBw_1, dBw_2, _⟩ := kn47.all
          have lBt : Bt < w47.heap.size := (kn47.cell (Bt, 0, .string nm) (by simp)).1
          have lBz : Bz < w47.heap.size := (kn47.cell (Bz, 0, .string zn) (by simp)).1
          have lBw : Bw < w47.heap.size := (kn47.cell (Bw, 0, .string zn) (by simp)).1
          have HM := kn47
          go_wp2_with fail
          go_meet
          exact ⟨rfl, HM.sub (by simp), Hrt47.out, Hrn47.out, Hrz247.out⟩
    case rest =>
      clear dBt_0 dBt_1 dBt_2 dBz_0 dBz_1 dBz_2 dBw_0 dBw_1 dBw_2 lBt lBz lBw
      obtain ⟨rfl, kn60, qrt, qrn, qrz2⟩ := hcut
      have Hrt60 := Lib.hid qrt
      clear qrt
      have Hrn60 := Lib.hid qrn
      clear qrn
      have Hrz260 := Lib.hid qrz2
      clear qrz2
      clear kn45 Hrt45 Hrn45 Hrz245 Hrw245
      generalize wc = w60 at kn60 Hrt60 Hrn60 Hrz260 ⊢
      obtain ⟨dBt_0, dBt_1, dBt_2, dBz_0, dBz_1, dBz_2, _⟩ := kn60.all
      have lBt : Bt < w60.heap.size := (kn60.cell (Bt, 0, .string nm) (by simp)).1
      have lBz : Bz < w60.heap.size := (kn60.cell (Bz, 0, .string zn) (by simp)).1
      go_wp2_with fail
      clear dBt_0 dBt_1 dBt_2 dBz_0 dBz_1 dBz_2 lBt lBz
      have HI0 : Hid (Kn w [(Bt, 0, .string nm), (Bt, 1, .int .i64 ar), (Bt, 2, .slice A R.length c), (Bz, 0, .string zn), (Bz, 1, .int .i64 za), (Bz, 2, .slice Az Z.length cz)] w60 ∧ RdR w60 w60.heap.size A R.length R ∧ RdR w60 w60.heap.size A2 R2.length R2 ∧ RdR w60 w60.heap.size Az Z.length Z) := ⟨kn60, Hrt60.out, Hrn60.out, Hrz260.out⟩
      go_loopw [18] (fun i wr => ∃ k : Nat, k ≤ R2.length ∧ i = .int .i64 k ∧ Hid (Kn w [(Bt, 0, .string nm), (Bt, 1, .int .i64 ar), (Bt, 2, .slice A R.length c), (Bz, 0, .string zn), (Bz, 1, .int .i64 za), (Bz, 2, .slice Az Z.length cz)] wr ∧ RdR wr wr.heap.size A R.length R ∧ RdR wr wr.heap.size A2 R2.length R2 ∧ RdR wr wr.heap.size Az Z.length Z)) (fun i _ => R2.length - (intOf i).toNat)
      case atStart => exact ⟨0, by omega, rfl, HI0⟩
      case round =>
        obtain ⟨k, hk, rfl, hI⟩ := hrel
        clear HI0 kn60 Hrt60 Hrn60 Hrz260
        generalize wr = w61 at hI ⊢
        obtain ⟨kn61, qrt, qrn, qrz2⟩ := hI.out
        have Hrt61 := Lib.hid qrt
        clear qrt
        have Hrn61 := Lib.hid qrn
        clear qrn
        have Hrz261 := Lib.hid qrz2
        clear qrz2
        have hR2 := HS2.out.2.1
        obtain ⟨dBt_0, dBt_1, dBt_2, dBz_0, dBz_1, dBz_2, _⟩ := kn61.all
        have lBt : Bt < w61.heap.size := (kn61.cell (Bt, 0, .string nm) (by simp)).1
        have lBz : Bz < w61.heap.size := (kn61.cell (Bz, 0, .string zn) (by simp)).1
        by_cases hgo : k < R2.length ∧ made = true
        · obtain ⟨hlt, hmd⟩ := hgo
          subst hmd
          obtain ⟨g, o, r, A5, c5, rfl, hgl, hrk, hcell, hrd, hrm⟩ := RdR.at_ Hrn61.out hlt
          have g0 : (0 : Int) ≤ (k : Int) := by omega
          have g1 : (k : Int) < (R2.length : Int) := by omega
          have g2 : (k : Int).toNat = k := by omega
          have hcb := Lib.hid ((HZ1.out rfl).2 r (List.mem_of_getElem? hrk))
          have hrl := Lib.hid (HS2.out.2.2 r (List.mem_of_getElem? hrk))
          have hS : (w61.cell? ⟨Bz, 0, none⟩ = some (.string zn) ∧ w61.cell? ⟨Bz, 1, none⟩ = some (.int .i64 za) ∧ w61.cell? ⟨Bz, 2, none⟩ = some (.slice Az Z.length cz) ∧ w61.cell? ⟨g, o + k, none⟩ = some (.slice A5 r.length c5) ∧ Bz < w61.heap.size ∧ g < w61.heap.size) := ⟨dBz_0, dBz_1, dBz_2, hcell, lBz, hgl⟩
          have KC : Hid (Calls Tryz.prog 10 #[.agg #[.string zn, .int .i64 za, .slice Az Z.length cz], .slice A5 r.length c5] w61.drew fun e w' => e = .returned (.bool true) ∧ Hid (Below w61.heap.size w61 w') ∧ (w'.cell? ⟨Bz, 0, none⟩ = some (.string zn) ∧ w'.cell? ⟨Bz, 1, none⟩ = some (.int .i64 za) ∧ w'.cell? ⟨Bz, 2, none⟩ = some (.slice Az Z.length cz) ∧ w'.cell? ⟨g, o + k, none⟩ = some (.slice A5 r.length c5) ∧ Bz < w'.heap.size ∧ g < w'.heap.size)) :=
            (impl_ContainsRow_any zn za Az A5 Z.length cz r.length c5 w61.drew.heap.size Z r w61.drew (rdR_drew Hrz261.out) (hrd) (Nat.le_refl _) (by have := HZl.out; omega) (by have := hrl.out; omega)).mono fun e w' ⟨he, b⟩ => ⟨by rw [he, hcb.out], ((Below.refl _ _).drew).trans b, sc_next b hS⟩
          clear dBt_0 dBt_1 dBt_2 dBz_0 dBz_1 dBz_2 lBt lBz
          clear hcell hrd hrk
          go_wp2_with fail
          go_region_held3 (fun W => (W.cell? ⟨Bz, 0, none⟩ = some (.string zn) ∧ W.cell? ⟨Bz, 1, none⟩ = some (.int .i64 za) ∧ W.cell? ⟨Bz, 2, none⟩ = some (.slice Az Z.length cz) ∧ W.cell? ⟨g, o + k, none⟩ = some (.slice A5 r.length c5) ∧ Bz < W.heap.size ∧ g < W.heap.size))
                (first | assumption | exact sc_next (Below.refl _ _).drew (by assumption))
                (first
                | (go_at_call 10; (with_reducible refine KC.out.mono ?_); rintro e w62 ⟨rfl, b62, hS62⟩)
                | fail)
          all_goals (
            go_wp2_with fail
            refine ⟨⟨k + 1, by omega, by go_num, kn61.next b62.out, rdR_next b62.out Hrt61.out, rdR_next b62.out Hrn61.out, rdR_next b62.out Hrz261.out⟩, ?_⟩
            simp [intOf]
            omega)
        · have hn : made = true → ¬ k < R2.length := fun h1 h2 => hgo ⟨h2, h1⟩
          clear hgo
          obtain ⟨yn, ya, Y, rd, hY, hYo, hYe, hYl⟩ := par_facts nm ar R
          have HY := Lib.hid hY
          have HYo := Lib.hid hYo
          have HYe := Lib.hid hYe
          have HYl := Lib.hid hYl
          clear hY hYo hYe hYl
          have HT61 : Hid (Kn w [(Bt, 0, .string nm), (Bt, 1, .int .i64 ar), (Bt, 2, .slice A R.length c)] w61) := kn61.sub (by simp)
          have HW61 := Lib.hid Hrt61.out
          have KE : Hid (∀ W : World, W = w61 → True) := fun _ _ => trivial
          clear dBt_0 dBt_1 dBt_2 dBz_0 dBz_1 dBz_2 lBt lBz
          cases made with
          | false =>
            by_cases hlt : k < R2.length
            · have g1 : (k : Int) < (R2.length : Int) := by omega
              have kn70 := HT61.out
              have Hrt70 := HW61
              clear HT61 HW61 KE
              generalize w61 = w70 at *
              obtain ⟨dBt_0, dBt_1, dBt_2, _⟩ := kn70.all
              have lBt : Bt < w70.heap.size := (kn70.cell (Bt, 0, .string nm) (by simp)).1
              go_wp2_with fail
              have KC := Lib.hid (impl_FormatTable_any nm ar A R.length c w70.heap.size R w70 (ht.on kn70.bel) Hrt70.out (Nat.le_refl _) (by have := HS.out.2.2.1; omega))
              refine KC.out.mono ?_
              rintro e w71 ⟨rfl, b71⟩
              clear dBt_0 dBt_1 dBt_2 lBt
              clear KC
              have kn71 := kn70.next b71
              clear kn70
              have Hrt71 := Lib.hid (rdR_next b71 Hrt70.out)
              clear Hrt70
              clear b71
              obtain ⟨dBt_0, dBt_1, dBt_2, _⟩ := kn71.all
              have lBt : Bt < w71.heap.size := (kn71.cell (Bt, 0, .string nm) (by simp)).1
              go_wp2_with fail
              have KC := Lib.hid (tabAns_of HY.out (impl_ParseTable_any (fmtT nm ar R) w71 (fmtT_small _ _ _) (ht.on kn71.bel) (hm.on kn71.bel)))
              refine KC.out.mono ?_
              rintro e w72 ⟨Ay, cy, rfl, ho, b72⟩
              clear dBt_0 dBt_1 dBt_2 lBt
              clear KC
              have kn72 := kn71.next b72
              clear kn71
              have Hrt72 := Lib.hid (rdR_next b72 Hrt71.out)
              clear Hrt71
              have Hry72 := Lib.hid (ho.rd rfl)
              clear ho
              clear b72
              obtain ⟨dBt_0, dBt_1, dBt_2, _⟩ := kn72.all
              have lBt : Bt < w72.heap.size := (kn72.cell (Bt, 0, .string nm) (by simp)).1
              go_upto_region 26 with fail
              clear dBt_0 dBt_1 dBt_2 lBt
              have kn73 : Kn w [(Bt, 0, .string nm), (Bt, 1, .int .i64 ar), (Bt, 2, .slice A R.length c), (w72.heap.size, 0, .string yn), (w72.heap.size, 1, .int .i64 ya), (w72.heap.size, 2, .slice Ay Y.length cy)] (w72.alloc (.cells #[.string yn, .int .i64 ya, .slice Ay Y.length cy] 26)) := by simpa using kn72.box [.string yn, .int .i64 ya, .slice Ay Y.length cy] 26
              have b73 := (Below.refl w72.heap.size w72).alloc (Nat.le_refl _) (.cells #[.string yn, .int .i64 ya, .slice Ay Y.length cy] 26)
              clear kn72
              have Hrt73 := Lib.hid (rdR_next b73 Hrt72.out)
              clear Hrt72
              have Hry73 := Lib.hid (rdR_next b73 Hry72.out)
              clear Hry72
              clear b73
              generalize w72.alloc (.cells #[.string yn, .int .i64 ya, .slice Ay Y.length cy] 26) = w73 at kn73 Hrt73 Hry73 ⊢
              generalize w72.heap.size = By at kn73 ⊢
              obtain ⟨dBt_0, dBt_1, dBt_2, dBy_0, dBy_1, dBy_2, _⟩ := kn73.all
              have lBt : Bt < w73.heap.size := (kn73.cell (Bt, 0, .string nm) (by simp)).1
              have lBy : By < w73.heap.size := (kn73.cell (By, 0, .string yn) (by simp)).1
              cases rd with
              | false =>
                go_wp2_with fail
                have KC := Lib.hid (bool_of HYo.out.symm (spec_IsValidTable_any nm ar A R.length c w73.heap.size R w73 Hrt73.out (Nat.le_refl _) (by have := HS.out.2.2.1; omega)))
                refine KC.out.mono ?_
                rintro e w74 ⟨rfl, b74⟩
                clear dBt_0 dBt_1 dBt_2 dBy_0 dBy_1 dBy_2 lBt lBy
                clear KC
                have kn74 := kn73.next b74
                clear kn73
                have Hrt74 := Lib.hid (rdR_next b74 Hrt73.out)
                clear Hrt73
                have Hry74 := Lib.hid (rdR_next b74 Hry73.out)
                clear Hry73
                clear b74
                obtain ⟨dBt_0, dBt_1, dBt_2, dBy_0, dBy_1, dBy_2, _⟩ := kn74.all
                have lBt : Bt < w74.heap.size := (kn74.cell (Bt, 0, .string nm) (by simp)).1
                have lBy : By < w74.heap.size := (kn74.cell (By, 0, .string yn) (by simp)).1
                have HB := Lib.hid kn74.bel
                go_wp2_with fail
                go_ret
                exact ⟨rfl, HB.out⟩
              | true =>
                go_wp2_with fail
                have KC := Lib.hid (bool_of HYo.out.symm (spec_IsValidTable_any nm ar A R.length c w73.heap.size R w73 Hrt73.out (Nat.le_refl _) (by have := HS.out.2.2.1; omega)))
                refine KC.out.mono ?_
                rintro e w74 ⟨rfl, b74⟩
                clear dBt_0 dBt_1 dBt_2 dBy_0 dBy_1 dBy_2 lBt lBy
                clear KC
                have kn74 := kn73.next b74
                clear kn73
                have Hrt74 := Lib.hid (rdR_next b74 Hrt73.out)
                clear Hrt73
                have Hry74 := Lib.hid (rdR_next b74 Hry73.out)
                clear Hry73
                clear b74
                obtain ⟨dBt_0, dBt_1, dBt_2, dBy_0, dBy_1, dBy_2, _⟩ := kn74.all
                have lBt : Bt < w74.heap.size := (kn74.cell (Bt, 0, .string nm) (by simp)).1
                have lBy : By < w74.heap.size := (kn74.cell (By, 0, .string yn) (by simp)).1
                go_wp2_with fail
                have KC := Lib.hid (bool_of (HYe.out (by simp)) (spec_EqualTables_any yn nm ya ar Ay A Y.length cy R.length c w74.heap.size w74.heap.size Y R w74 Hry74.out Hrt74.out (Nat.le_refl _) (Nat.le_refl _) (by have := HYl.out; omega) (by have := HS.out.2.2.1; omega)))
                refine KC.out.mono ?_
                rintro e w75 ⟨rfl, b75⟩
                clear dBt_0 dBt_1 dBt_2 dBy_0 dBy_1 dBy_2 lBt lBy
                clear KC
                have kn75 := kn74.next b75
                clear kn74
                have Hrt75 := Lib.hid (rdR_next b75 Hrt74.out)
                clear Hrt74
                have Hry75 := Lib.hid (rdR_next b75 Hry74.out)
                clear Hry74
                clear b75
                obtain ⟨dBt_0, dBt_1, dBt_2, dBy_0, dBy_1, dBy_2, _⟩ := kn75.all
                have lBt : Bt < w75.heap.size := (kn75.cell (Bt, 0, .string nm) (by simp)).1
                have lBy : By < w75.heap.size := (kn75.cell (By, 0, .string yn) (by simp)).1
                have HB := Lib.hid kn75.bel
                go_wp2_with fail
                go_ret
                exact ⟨rfl, HB.out⟩
            · have g1 : ¬ (k : Int) < (R2.length : Int) := by omega
              have kn70 := HT61.out
              have Hrt70 := HW61
              clear HT61 HW61 KE
              generalize w61 = w70 at *
              obtain ⟨dBt_0, dBt_1, dBt_2, _⟩ := kn70.all
              have lBt : Bt < w70.heap.size := (kn70.cell (Bt, 0, .string nm) (by simp)).1
              go_wp2_with fail
              have KC := Lib.hid (impl_FormatTable_any nm ar A R.length c w70.heap.size R w70 (ht.on kn70.bel) Hrt70.out (Nat.le_refl _) (by have := HS.out.2.2.1; omega))
              refine KC.out.mono ?_
              rintro e w71 ⟨rfl, b71⟩
              clear dBt_0 dBt_1 dBt_2 lBt
              clear KC
              have kn71 := kn70.next b71
              clear kn70
              have Hrt71 := Lib.hid (rdR_next b71 Hrt70.out)
              clear Hrt70
              clear b71
              obtain ⟨dBt_0, dBt_1, dBt_2, _⟩ := kn71.all
              have lBt : Bt < w71.heap.size := (kn71.cell (Bt, 0, .string nm) (by simp)).1
              go_wp2_with fail
              have KC := Lib.hid (tabAns_of HY.out (impl_ParseTable_any (fmtT nm ar R) w71 (fmtT_small _ _ _) (ht.on kn71.bel) (hm.on kn71.bel)))
              refine KC.out.mono ?_
              rintro e w72 ⟨Ay, cy, rfl, ho, b72⟩
              clear dBt_0 dBt_1 dBt_2 lBt
              clear KC
              have kn72 := kn71.next b72
              clear kn71
              have Hrt72 := Lib.hid (rdR_next b72 Hrt71.out)
              clear Hrt71
              have Hry72 := Lib.hid (ho.rd rfl)
              clear ho
              clear b72
              obtain ⟨dBt_0, dBt_1, dBt_2, _⟩ := kn72.all
              have lBt : Bt < w72.heap.size := (kn72.cell (Bt, 0, .string nm) (by simp)).1
              go_upto_region 26 with fail
              clear dBt_0 dBt_1 dBt_2 lBt
              have kn73 : Kn w [(Bt, 0, .string nm), (Bt, 1, .int .i64 ar), (Bt, 2, .slice A R.length c), (w72.heap.size, 0, .string yn), (w72.heap.size, 1, .int .i64 ya), (w72.heap.size, 2, .slice Ay Y.length cy)] (w72.alloc (.cells #[.string yn, .int .i64 ya, .slice Ay Y.length cy] 26)) := by simpa using kn72.box [.string yn, .int .i64 ya, .slice Ay Y.length cy] 26
              have b73 := (Below.refl w72.heap.size w72).alloc (Nat.le_refl _) (.cells #[.string yn, .int .i64 ya, .slice Ay Y.length cy] 26)
              clear kn72
              have Hrt73 := Lib.hid (rdR_next b73 Hrt72.out)
              clear Hrt72
              have Hry73 := Lib.hid (rdR_next b73 Hry72.out)
              clear Hry72
              clear b73
              generalize w72.alloc (.cells #[.string yn, .int .i64 ya, .slice Ay Y.length cy] 26) = w73 at kn73 Hrt73 Hry73 ⊢
              generalize w72.heap.size = By at kn73 ⊢
              obtain ⟨dBt_0, dBt_1, dBt_2, dBy_0, dBy_1, dBy_2, _⟩ := kn73.all
              have lBt : Bt < w73.heap.size := (kn73.cell (Bt, 0, .string nm) (by simp)).1
              have lBy : By < w73.heap.size := (kn73.cell (By, 0, .string yn) (by simp)).1
              cases rd with
              | false =>
                go_wp2_with fail
                have KC := Lib.hid (bool_of HYo.out.symm (spec_IsValidTable_any nm ar A R.length c w73.heap.size R w73 Hrt73.out (Nat.le_refl _) (by have := HS.out.2.2.1; omega)))
                refine KC.out.mono ?_
                rintro e w74 ⟨rfl, b74⟩
                clear dBt_0 dBt_1 dBt_2 dBy_0 dBy_1 dBy_2 lBt lBy
                clear KC
                have kn74 := kn73.next b74
                clear kn73
                have Hrt74 := Lib.hid (rdR_next b74 Hrt73.out)
                clear Hrt73
                have Hry74 := Lib.hid (rdR_next b74 Hry73.out)
                clear Hry73
                clear b74
                obtain ⟨dBt_0, dBt_1, dBt_2, dBy_0, dBy_1, dBy_2, _⟩ := kn74.all
                have lBt : Bt < w74.heap.size := (kn74.cell (Bt, 0, .string nm) (by simp)).1
                have lBy : By < w74.heap.size := (kn74.cell (By, 0, .string yn) (by simp)).1
                have HB := Lib.hid kn74.bel
                go_wp2_with fail
                go_ret
                exact ⟨rfl, HB.out⟩
              | true =>
                go_wp2_with fail
                have KC := Lib.hid (bool_of HYo.out.symm (spec_IsValidTable_any nm ar A R.length c w73.heap.size R w73 Hrt73.out (Nat.le_refl _) (by have := HS.out.2.2.1; omega)))
                refine KC.out.mono ?_
                rintro e w74 ⟨rfl, b74⟩
                clear dBt_0 dBt_1 dBt_2 dBy_0 dBy_1 dBy_2 lBt lBy
                clear KC
                have kn74 := kn73.next b74
                clear kn73
                have Hrt74 := Lib.hid (rdR_next b74 Hrt73.out)
                clear Hrt73
                have Hry74 := Lib.hid (rdR_next b74 Hry73.out)
                clear Hry73
                clear b74
                obtain ⟨dBt_0, dBt_1, dBt_2, dBy_0, dBy_1, dBy_2, _⟩ := kn74.all
                have lBt : Bt < w74.heap.size := (kn74.cell (Bt, 0, .string nm) (by simp)).1
                have lBy : By < w74.heap.size := (kn74.cell (By, 0, .string yn) (by simp)).1
                go_wp2_with fail
                have KC := Lib.hid (bool_of (HYe.out (by simp)) (spec_EqualTables_any yn nm ya ar Ay A Y.length cy R.length c w74.heap.size w74.heap.size Y R w74 Hry74.out Hrt74.out (Nat.le_refl _) (Nat.le_refl _) (by have := HYl.out; omega) (by have := HS.out.2.2.1; omega)))
                refine KC.out.mono ?_
                rintro e w75 ⟨rfl, b75⟩
                clear dBt_0 dBt_1 dBt_2 dBy_0 dBy_1 dBy_2 lBt lBy
                clear KC
                have kn75 := kn74.next b75
                clear kn74
                have Hrt75 := Lib.hid (rdR_next b75 Hrt74.out)
                clear Hrt74
                have Hry75 := Lib.hid (rdR_next b75 Hry74.out)
                clear Hry74
                clear b75
                obtain ⟨dBt_0, dBt_1, dBt_2, dBy_0, dBy_1, dBy_2, _⟩ := kn75.all
                have lBt : Bt < w75.heap.size := (kn75.cell (Bt, 0, .string nm) (by simp)).1
                have lBy : By < w75.heap.size := (kn75.cell (By, 0, .string yn) (by simp)).1
                have HB := Lib.hid kn75.bel
                go_wp2_with fail
                go_ret
                exact ⟨rfl, HB.out⟩
          | true =>
            have hlt := hn rfl
            have g1 : ¬ (k : Int) < (R2.length : Int) := by omega
            have kn70 := HT61.out
            have Hrt70 := HW61
            clear HT61 HW61 KE
            generalize w61 = w70 at *
            obtain ⟨dBt_0, dBt_1, dBt_2, _⟩ := kn70.all
            have lBt : Bt < w70.heap.size := (kn70.cell (Bt, 0, .string nm) (by simp)).1
            go_wp2_with fail
            have KC := Lib.hid (impl_FormatTable_any nm ar A R.length c w70.heap.size R w70 (ht.on kn70.bel) Hrt70.out (Nat.le_refl _) (by have := HS.out.2.2.1; omega))
            refine KC.out.mono ?_
            rintro e w71 ⟨rfl, b71⟩
            clear dBt_0 dBt_1 dBt_2 lBt
            clear KC
            have kn71 := kn70.next b71
            clear kn70
            have Hrt71 := Lib.hid (rdR_next b71 Hrt70.out)
            clear Hrt70
            clear b71
            obtain ⟨dBt_0, dBt_1, dBt_2, _⟩ := kn71.all
            have lBt : Bt < w71.heap.size := (kn71.cell (Bt, 0, .string nm) (by simp)).1
            go_wp2_with fail
            have KC := Lib.hid (tabAns_of HY.out (impl_ParseTable_any (fmtT nm ar R) w71 (fmtT_small _ _ _) (ht.on kn71.bel) (hm.on kn71.bel)))
            refine KC.out.mono ?_
            rintro e w72 ⟨Ay, cy, rfl, ho, b72⟩
            clear dBt_0 dBt_1 dBt_2 lBt
            clear KC
            have kn72 := kn71.next b72
            clear kn71
            have Hrt72 := Lib.hid (rdR_next b72 Hrt71.out)
            clear Hrt71
            have Hry72 := Lib.hid (ho.rd rfl)
            clear ho
            clear b72
            obtain ⟨dBt_0, dBt_1, dBt_2, _⟩ := kn72.all
            have lBt : Bt < w72.heap.size := (kn72.cell (Bt, 0, .string nm) (by simp)).1
            go_upto_region 26 with fail
            clear dBt_0 dBt_1 dBt_2 lBt
            have kn73 : Kn w [(Bt, 0, .string nm), (Bt, 1, .int .i64 ar), (Bt, 2, .slice A R.length c), (w72.heap.size, 0, .string yn), (w72.heap.size, 1, .int .i64 ya), (w72.heap.size, 2, .slice Ay Y.length cy)] (w72.alloc (.cells #[.string yn, .int .i64 ya, .slice Ay Y.length cy] 26)) := by simpa using kn72.box [.string yn, .int .i64 ya, .slice Ay Y.length cy] 26
            have b73 := (Below.refl w72.heap.size w72).alloc (Nat.le_refl _) (.cells #[.string yn, .int .i64 ya, .slice Ay Y.length cy] 26)
            clear kn72
            have Hrt73 := Lib.hid (rdR_next b73 Hrt72.out)
            clear Hrt72
            have Hry73 := Lib.hid (rdR_next b73 Hry72.out)
            clear Hry72
            clear b73
            generalize w72.alloc (.cells #[.string yn, .int .i64 ya, .slice Ay Y.length cy] 26) = w73 at kn73 Hrt73 Hry73 ⊢
            generalize w72.heap.size = By at kn73 ⊢
            obtain ⟨dBt_0, dBt_1, dBt_2, dBy_0, dBy_1, dBy_2, _⟩ := kn73.all
            have lBt : Bt < w73.heap.size := (kn73.cell (Bt, 0, .string nm) (by simp)).1
            have lBy : By < w73.heap.size := (kn73.cell (By, 0, .string yn) (by simp)).1
            cases rd with
            | false =>
              go_wp2_with fail
              have KC := Lib.hid (bool_of HYo.out.symm (spec_IsValidTable_any nm ar A R.length c w73.heap.size R w73 Hrt73.out (Nat.le_refl _) (by have := HS.out.2.2.1; omega)))
              refine KC.out.mono ?_
              rintro e w74 ⟨rfl, b74⟩
              clear dBt_0 dBt_1 dBt_2 dBy_0 dBy_1 dBy_2 lBt lBy
              clear KC
              have kn74 := kn73.next b74
              clear kn73
              have Hrt74 := Lib.hid (rdR_next b74 Hrt73.out)
              clear Hrt73
              have Hry74 := Lib.hid (rdR_next b74 Hry73.out)
              clear Hry73
              clear b74
              obtain ⟨dBt_0, dBt_1, dBt_2, dBy_0, dBy_1, dBy_2, _⟩ := kn74.all
              have lBt : Bt < w74.heap.size := (kn74.cell (Bt, 0, .string nm) (by simp)).1
              have lBy : By < w74.heap.size := (kn74.cell (By, 0, .string yn) (by simp)).1
              have HB := Lib.hid kn74.bel
              go_wp2_with fail
              go_ret
              exact ⟨rfl, HB.out⟩
            | true =>
              go_wp2_with fail
              have KC := Lib.hid (bool_of HYo.out.symm (spec_IsValidTable_any nm ar A R.length c w73.heap.size R w73 Hrt73.out (Nat.le_refl _) (by have := HS.out.2.2.1; omega)))
              refine KC.out.mono ?_
              rintro e w74 ⟨rfl, b74⟩
              clear dBt_0 dBt_1 dBt_2 dBy_0 dBy_1 dBy_2 lBt lBy
              clear KC
              have kn74 := kn73.next b74
              clear kn73
              have Hrt74 := Lib.hid (rdR_next b74 Hrt73.out)
              clear Hrt73
              have Hry74 := Lib.hid (rdR_next b74 Hry73.out)
              clear Hry73
              clear b74
              obtain ⟨dBt_0, dBt_1, dBt_2, dBy_0, dBy_1, dBy_2, _⟩ := kn74.all
              have lBt : Bt < w74.heap.size := (kn74.cell (Bt, 0, .string nm) (by simp)).1
              have lBy : By < w74.heap.size := (kn74.cell (By, 0, .string yn) (by simp)).1
              go_wp2_with fail
              have KC := Lib.hid (bool_of (HYe.out (by simp)) (spec_EqualTables_any yn nm ya ar Ay A Y.length cy R.length c w74.heap.size w74.heap.size Y R w74 Hry74.out Hrt74.out (Nat.le_refl _) (Nat.le_refl _) (by have := HYl.out; omega) (by have := HS.out.2.2.1; omega)))
              refine KC.out.mono ?_
              rintro e w75 ⟨rfl, b75⟩
              clear dBt_0 dBt_1 dBt_2 dBy_0 dBy_1 dBy_2 lBt lBy
              clear KC
              have kn75 := kn74.next b75
              clear kn74
              have Hrt75 := Lib.hid (rdR_next b75 Hrt74.out)
              clear Hrt74
              have Hry75 := Lib.hid (rdR_next b75 Hry74.out)
              clear Hry74
              clear b75
              obtain ⟨dBt_0, dBt_1, dBt_2, dBy_0, dBy_1, dBy_2, _⟩ := kn75.all
              have lBt : Bt < w75.heap.size := (kn75.cell (Bt, 0, .string nm) (by simp)).1
              have lBy : By < w75.heap.size := (kn75.cell (By, 0, .string yn) (by simp)).1
              have HB := Lib.hid kn75.bel
              go_wp2_with fail
              go_ret
              exact ⟨rfl, HB.out⟩
end Go.Proofs.YtmojjbhjjhdpaaaGreatDoor
