/- The walk of the law on databases. -/
import Derived.Test.YtmojjbhjjhdpaaaGreatDoorDrD3
import Derived.Deep.DeepCutAuto
namespace Go.Proofs.YtmojjbhjjhdpaaaGreatDoor
open Go.RowKit Go.Deep

theorem dbAns_of {R : List Tab × Bool} {ts : List Tab} {ok : Bool} (hR : R = (ts, ok)) {f : FuncId} {args : Array Value} {w : World} (h : Calls Tryz.prog f args w (DbBool R w)) : Calls Tryz.prog f args w (DbAns ts ok w) := by
  subst hR
  exact h
theorem tabAnsD_of {R : TabR} {nm : ByteArray} {ar : Int} {rs : List (List Int)} {ok : Bool} (hR : R = ⟨nm, ar, rs, ok⟩) {f : FuncId} {args : Array Value} {w : World} (h : Calls Tryz.prog f args w (TabBool R w)) : Calls Tryz.prog f args w (TabAns nm ar rs ok w) := by
  subst hR
  exact h
theorem boolD_of {b b' : Bool} (hb : b = b') {f : FuncId} {args : Array Value} {w : World} (h : Calls Tryz.prog f args w fun e w' => e = .returned (.bool b) ∧ Below w.heap.size w w') : Calls Tryz.prog f args w fun e w' => e = .returned (.bool b') ∧ Below w.heap.size w w' := by
  subst hb
  exact h
theorem sumL_sml : ∀ {rs : List (List Int)}, (∀ r ∈ rs, r.length ≤ 16) → sumL rs ≤ 16 * rs.length
  | [], _ => by simp [sumL]
  | r :: rs, h => by
    have h1 := h r (by simp)
    have h2 := sumL_sml (rs := rs) fun x hx => h x (by simp [hx])
    rw [sumL_cons, List.length_cons]
    omega
theorem sumT_sml : ∀ {ts : List Tab}, (∀ t ∈ ts, SmlT 9 t.nm t.ar t.rs) → sumT ts ≤ 161 * ts.length
  | [], _ => by simp [sumT]
  | t :: ts, h => by
    have h1 := h t (by simp)
    have h2 := sumT_sml (ts := ts) fun x hx => h x (by simp [hx])
    have h3 := sumL_sml h1.2.2.2
    have h4 := h1.1
    have h5 := h1.2.2.1
    rw [sumT_cons, List.length_cons]
    omega
/-- Small enough for every contract. -/
def OkT (ts : List Tab) : Prop := ts.length ≤ 100 ∧ sumT ts ≤ 2000
theorem OkT.of {ts : List Tab} (h : SmlD ts) : OkT ts := ⟨by have := h.1; omega, by have h1 := sumT_sml h.2; have h2 := h.1; omega⟩
theorem OkT.valid {ts : List Tab} (h : validD ts = true) : OkT ts := by
  obtain ⟨h1, _, h3⟩ := validD_parts h
  have := sumT_valid h1
  exact ⟨by omega, by omega⟩
theorem OkT.nil : OkT [] := ⟨by simp, by simp [sumT]⟩
theorem set_facts (ts : List Tab) (t : Tab) (hs : SmlD ts) : ∃ X ok, setR ts t = (X, ok) ∧ OkT X ∧ (ok = false → X = ts) ∧
    (ok = true → lookR X t.nm = ⟨t.nm, t.ar, t.rs, true⟩ ∧ validD X = true ∧ ∃ Z had Wd, remR X t.nm = (Z, true) ∧ remR ts t.nm = (Wd, had) ∧ OkT Z ∧ OkT Wd ∧ cntD X = cntD Z + t.rs.length ∧ cntD X ≤ 2000 ∧ (had = true → Z = Wd) ∧ (had = false → Z = ts)) := by
  cases h : (setR ts t).2 with
  | false => exact ⟨ts, false, setR_bad h, .of hs, fun _ => rfl, by simp⟩
  | true =>
    obtain ⟨hv, ht, hX, hvX⟩ := setR_ok h
    refine ⟨setT ts t, true, hX, .valid hvX, by simp, fun _ => ⟨lookR_set hv ht hvX, hvX, ?_⟩⟩
    have hc : cntD (setT ts t) ≤ 2000 := by
      have h1 := (OkT.valid hvX).2
      have h2 := lenT_le (setT ts t)
      unfold cntD
      split <;> omega
    rcases remR_elder (nm := t.nm) hv with h2 | ⟨h2, h3⟩
    · exact ⟨_, true, _, remR_set hv ht hvX, h2, .valid (validD_filter _ hv), .valid (validD_filter _ hv), cntD_set hv ht hvX, hc, fun _ => rfl, by simp⟩
    · exact ⟨_, false, _, remR_set hv ht hvX, h2, .valid (validD_filter _ hv), .of hs, cntD_set hv ht hvX, hc, by simp, fun _ => h3⟩
theorem parD_facts (ts : List Tab) : ∃ Y, parD (fmtD ts) = (Y, true) ∧ OkT Y ∧ (validD ts = true → Y = ts) := by
  cases h : validD ts with
  | true => exact ⟨ts, parD_back h, .valid h, fun _ => rfl⟩
  | false => exact ⟨[], parD_none h, .nil, by simp⟩
theorem fmtD_small (ts : List Tab) : (fmtD ts).size ≤ 1048576 := by
  cases h : validD ts with
  | false => rw [fmtD_no h]; simp [ByteArray.size]
  | true =>
    obtain ⟨h1, _, h3⟩ := validD_parts h
    have key : ∀ l : List (List UInt8), (∀ x ∈ l, x.length ≤ 35) → (Lib.join l [59]).length ≤ 36 * l.length := by
      intro l
      induction l with
      | nil => intro _; rw [Lib.join_nil]; simp
      | cons a l ih =>
        intro hl
        have h1 := hl a (by simp)
        have h2 := ih fun x hx => hl x (by simp [hx])
        cases l with
        | nil => rw [Lib.join_one]; simp; omega
        | cons b l => rw [join_c, List.length_append, List.length_cons, List.length_cons]; omega
    rw [fmtD_yes h]
    show (dbL ts).toArray.size ≤ _
    rw [List.size_toArray]
    unfold dbL
    have := key (ts.map fun t => (fmtB t).data.toList) fun x hx => by
      obtain ⟨t, ht, rfl⟩ := List.mem_map.1 hx
      have := fmtB_size (h1 t ht)
      have h5 : (fmtB t).data.toList.length = (fmtB t).size := Array.length_toList
      omega
    rw [List.length_map] at this
    omega

set_option maxRecDepth 100000 in
set_option maxHeartbeats 8000000 in
theorem databases_walk (a0 : Option Addr) (len0 cap0 : Nat) (z0 : List Int) (w : World) (ht : Tb w) (hm : Mx w) (w0 : IsRow .u8 w a0 len0 cap0 z0) :
    Calls Tryz.prog 4 #[.slice a0 len0 cap0] w fun e w' => e = .returned (.bool true) ∧ Below w.heap.size w w' := by
  have hr := rdC_of_row w0
  by_cases hb : (1048576 : Int) < len0
  · have K := Lib.hid (big_any a0 len0 cap0 w)
    rw [decide_eq_true hb] at K
    go_enter Tryz.func4, Tryz.ntmps4
    go_wp2_with fail
    refine K.out.mono ?_
    rintro e w1 ⟨rfl, rfl⟩
    go_wp2_with fail
    go_ret
    exact ⟨rfl, Below.refl _ _⟩
  have K := Lib.hid (big_any a0 len0 cap0 w)
  rw [decide_eq_false hb] at K
  have hl : len0 ≤ 1048576 := by omega
  have KD1 : Hid (∀ W, Below w.heap.size w W → _) := fun W b => drawSet_any a0 len0 cap0 W ((hr.keep b.block).more b.size) hl
  clear hb hl hr w0
  go_enter Tryz.func4, Tryz.ntmps4
  go_wp2_with fail
  refine K.out.mono ?_
  rintro e w1 ⟨rfl, rfl⟩
  clear K
  go_wp2_with fail
  refine (KD1.out w (Below.refl _ _)).mono ?_
  rintro e w1 ⟨A, n, c, ts, nm, ar, A', c', rs, rfl, hsm, hst, hrd, hrr, b1⟩
  obtain rfl := hrd.1
  have kn1 := (Kn.start w).next b1
  have Hrd1 := Lib.hid hrd
  have Hrt1 := Lib.hid hrr
  have HS := Lib.hid (OkT.of hsm)
  have HT := Lib.hid hst
  obtain ⟨X, ok, hX, hXs, hX0, hX1⟩ := set_facts ts ⟨nm, ar, rs⟩ hsm
  have HX := Lib.hid hX
  have HXs := Lib.hid hXs
  have HX0 := Lib.hid hX0
  have HX1 := Lib.hid hX1
  have q1 : (ok != ok) = false := by simp
  clear b1 KD1 hsm hst hrd hrr hX hXs hX0 hX1
  go_upto_region 4 with fail
  have b2 := (((Below.refl w1.heap.size w1).alloc (Nat.le_refl _) (.cells #[.slice A ts.length c] 42)).alloc (by simp) (.cells #[.string nm, .int .i64 ar, .slice A' rs.length c'] 26))
  have kn2 : Kn w [(w1.heap.size, 0, .slice A ts.length c), (w1.heap.size + 1, 0, .string nm), (w1.heap.size + 1, 1, .int .i64 ar), (w1.heap.size + 1, 2, .slice A' rs.length c')] ((w1.alloc (.cells #[.slice A ts.length c] 42)).alloc (.cells #[.string nm, .int .i64 ar, .slice A' rs.length c'] 26)) := by
    simpa using (kn1.box [.slice A ts.length c] 42).box [.string nm, .int .i64 ar, .slice A' rs.length c'] 26
  have Hrd2 := Lib.hid (rdT_next b2 Hrd1.out)
  have Hrt2 := Lib.hid (rdR_next b2 Hrt1.out)
  clear kn1 b2 Hrd1 Hrt1
  generalize (w1.alloc (.cells #[.slice A ts.length c] 42)).alloc (.cells #[.string nm, .int .i64 ar, .slice A' rs.length c'] 26) = w2 at kn2 Hrd2 Hrt2 ⊢
  generalize w1.heap.size + 1 = Bt at kn2 ⊢
  generalize w1.heap.size = Bd at kn2 ⊢
  obtain ⟨dBd_0, dBt_0, dBt_1, dBt_2, _⟩ := kn2.all
  have lBd : Bd < w2.heap.size := (kn2.cell (Bd, 0, .slice A ts.length c) (by simp)).1
  have lBt : Bt < w2.heap.size := (kn2.cell (Bt, 0, .string nm) (by simp)).1
  go_wp2_with fail
  have KC := Lib.hid (dbAns_of HX.out (impl_SetTable_any A A' ts.length c c' w2.heap.size ts nm ar rs w2 Hrd2.out (Nat.le_refl _) (by have := HS.out.1; omega) (by have := HS.out.2; omega) Hrt2.out (by have := HT.out.2.2.1; omega) (fun r hr => by have := HT.out.2.2.2 r hr; omega) (by have := HT.out.1; unfold maxLen; omega)))
  refine KC.out.mono ?_
  rintro e w3 ⟨Ax, cx, rfl, ho, b3⟩
  clear dBd_0 dBt_0 dBt_1 dBt_2 lBd lBt
  clear KC
  have kn3 := kn2.next b3
  clear kn2
  have Hrd3 := Lib.hid (rdT_next b3 Hrd2.out)
  clear Hrd2
  have Hrt3 := Lib.hid (rdR_next b3 Hrt2.out)
  clear Hrt2
  have Hrx3 := Lib.hid (ho.rd rfl)
  clear ho
  clear b3
  obtain ⟨dBd_0, dBt_0, dBt_1, dBt_2, _⟩ := kn3.all
  have lBd : Bd < w3.heap.size := (kn3.cell (Bd, 0, .slice A ts.length c) (by simp)).1
  have lBt : Bt < w3.heap.size := (kn3.cell (Bt, 0, .string nm) (by simp)).1
  go_upto_region 5 with fail
  clear dBd_0 dBt_0 dBt_1 dBt_2 lBd lBt
  have kn4 : Kn w [(Bd, 0, .slice A ts.length c), (Bt, 0, .string nm), (Bt, 1, .int .i64 ar), (Bt, 2, .slice A' rs.length c'), (w3.heap.size, 0, .slice Ax X.length cx)] (w3.alloc (.cells #[.slice Ax X.length cx] 42)) := by simpa using kn3.box [.slice Ax X.length cx] 42
  have b4 := (Below.refl w3.heap.size w3).alloc (Nat.le_refl _) (.cells #[.slice Ax X.length cx] 42)
  clear kn3
  have Hrd4 := Lib.hid (rdT_next b4 Hrd3.out)
  clear Hrd3
  have Hrt4 := Lib.hid (rdR_next b4 Hrt3.out)
  clear Hrt3
  have Hrx4 := Lib.hid (rdT_next b4 Hrx3.out)
  clear Hrx3
  clear b4
  generalize w3.alloc (.cells #[.slice Ax X.length cx] 42) = w4 at kn4 Hrd4 Hrt4 Hrx4 ⊢
  generalize w3.heap.size = Bx at kn4 ⊢
  obtain ⟨dBd_0, dBt_0, dBt_1, dBt_2, dBx_0, _⟩ := kn4.all
  have lBd : Bd < w4.heap.size := (kn4.cell (Bd, 0, .slice A ts.length c) (by simp)).1
  have lBt : Bt < w4.heap.size := (kn4.cell (Bt, 0, .string nm) (by simp)).1
  have lBx : Bx < w4.heap.size := (kn4.cell (Bx, 0, .slice Ax X.length cx) (by simp)).1
  go_wp2_with fail
  have KC := Lib.hid (dbAns_of HX.out (spec_SetTable_any A A' ts.length c c' w4.heap.size ts nm ar rs w4 Hrd4.out (Nat.le_refl _) (by have := HS.out.1; omega) (by have := HS.out.2; omega) Hrt4.out (by have := HT.out.2.2.1; omega) (fun r hr => by have := HT.out.2.2.2 r hr; omega) (by have := HT.out.1; unfold maxLen; omega)))
  refine KC.out.mono ?_
  rintro e w5 ⟨Au, cu, rfl, ho, b5⟩
  clear dBd_0 dBt_0 dBt_1 dBt_2 dBx_0 lBd lBt lBx
  clear KC
  have kn5 := kn4.next b5
  clear kn4
  have Hrd5 := Lib.hid (rdT_next b5 Hrd4.out)
  clear Hrd4
  have Hrt5 := Lib.hid (rdR_next b5 Hrt4.out)
  clear Hrt4
  have Hrx5 := Lib.hid (rdT_next b5 Hrx4.out)
  clear Hrx4
  clear b5
  obtain ⟨dBd_0, dBt_0, dBt_1, dBt_2, dBx_0, _⟩ := kn5.all
  have lBd : Bd < w5.heap.size := (kn5.cell (Bd, 0, .slice A ts.length c) (by simp)).1
  have lBt : Bt < w5.heap.size := (kn5.cell (Bt, 0, .string nm) (by simp)).1
  have lBx : Bx < w5.heap.size := (kn5.cell (Bx, 0, .slice Ax X.length cx) (by simp)).1
  clear ho
  go_upto_if 40 with fail
  clear dBd_0 dBt_0 dBt_1 dBt_2 dBx_0 lBd lBt lBx
  have b6 := (Below.refl w5.heap.size w5).alloc (Nat.le_refl _) (.cells #[.slice Au X.length cu] 42)
  have kn6 := kn5.next b6
  clear kn5
  have Hrd6 := Lib.hid (rdT_next b6 Hrd5.out)
  clear Hrd5
  have Hrt6 := Lib.hid (rdR_next b6 Hrt5.out)
  clear Hrt5
  have Hrx6 := Lib.hid (rdT_next b6 Hrx5.out)
  clear Hrx5
  clear b6
  generalize w5.alloc (.cells #[.slice Au X.length cu] 42) = w6 at kn6 Hrd6 Hrt6 Hrx6 ⊢
  obtain ⟨dBd_0, dBt_0, dBt_1, dBt_2, dBx_0, _⟩ := kn6.all
  have lBd : Bd < w6.heap.size := (kn6.cell (Bd, 0, .slice A ts.length c) (by simp)).1
  have lBt : Bt < w6.heap.size := (kn6.cell (Bt, 0, .string nm) (by simp)).1
  have lBx : Bx < w6.heap.size := (kn6.cell (Bx, 0, .slice Ax X.length cx) (by simp)).1
  go_cut [2] (fun r wx => r = .bool false ∧ Kn w [(Bd, 0, .slice A ts.length c)] wx ∧ RdT wx wx.heap.size A ts.length ts)
  case first =>
    as_aux_lemma =>
      cases ok with
      | false =>
        have e1 := (HX0.out rfl).symm
        subst e1
        go_wp2_with fail
        have KC := Lib.hid (boolD_of (b' := true) (by simp) (impl_EqualDatabases_any Ax A ts.length cx ts.length c w6.heap.size w6.heap.size ts ts w6 Hrx6.out Hrd6.out (Nat.le_refl _) (Nat.le_refl _) (by have := HS.out.1; omega) (by have := HS.out.1; omega)))
        refine KC.out.mono ?_
        rintro e w7 ⟨rfl, b7⟩
        clear dBd_0 dBt_0 dBt_1 dBt_2 dBx_0 lBd lBt lBx
        clear KC
        have kn7 := kn6.next b7
        clear kn6
        have Hrd7 := Lib.hid (rdT_next b7 Hrd6.out)
        clear Hrd6
        have Hrt7 := Lib.hid (rdR_next b7 Hrt6.out)
        clear Hrt6
        have Hrx7 := Lib.hid (rdT_next b7 Hrx6.out)
        clear Hrx6
        clear b7
        obtain ⟨dBd_0, dBt_0, dBt_1, dBt_2, dBx_0, _⟩ := kn7.all
        have lBd : Bd < w7.heap.size := (kn7.cell (Bd, 0, .slice A ts.length c) (by simp)).1
        have lBt : Bt < w7.heap.size := (kn7.cell (Bt, 0, .string nm) (by simp)).1
        have lBx : Bx < w7.heap.size := (kn7.cell (Bx, 0, .slice Ax ts.length cx) (by simp)).1
        have HM := kn7
        go_wp2_with fail
        go_meet
        exact ⟨rfl, HM.sub (by simp), Hrd7.out⟩
      | true =>
        obtain ⟨k1, k2, Z, had, Wd, k3, k4, hZs, hWs, hcn, hcx, hh1, hh0⟩ := HX1.out rfl
        have HK1 := Lib.hid k1
        have HK2 := Lib.hid k2
        have HK3 := Lib.hid k3
        have HK4 := Lib.hid k4
        have HHZS := Lib.hid hZs
        have HHWS := Lib.hid hWs
        have HHCN := Lib.hid hcn
        have HHH1 := Lib.hid hh1
        have HHH0 := Lib.hid hh0
        clear k1 k2 k3 k4 hZs hWs hh1 hh0
        go_wp2_with fail
        have KC := Lib.hid (tabAnsD_of HK1.out (impl_LookupTable_any Ax X.length cx w6.heap.size X nm w6 Hrx6.out (Nat.le_refl _) (by have := HXs.out.1; omega) (by have := HXs.out.2; omega)))
        refine KC.out.mono ?_
        rintro e w7 ⟨Ay, cy, rfl, ho, b7⟩
        clear dBd_0 dBt_0 dBt_1 dBt_2 dBx_0 lBd lBt lBx
        clear KC
        have kn7 := kn6.next b7
        clear kn6
        have Hrd7 := Lib.hid (rdT_next b7 Hrd6.out)
        clear Hrd6
        have Hrt7 := Lib.hid (rdR_next b7 Hrt6.out)
        clear Hrt6
        have Hrx7 := Lib.hid (rdT_next b7 Hrx6.out)
        clear Hrx6
        have Hry7 := Lib.hid (ho.rd rfl)
        clear ho
        clear b7
        obtain ⟨dBd_0, dBt_0, dBt_1, dBt_2, dBx_0, _⟩ := kn7.all
        have lBd : Bd < w7.heap.size := (kn7.cell (Bd, 0, .slice A ts.length c) (by simp)).1
        have lBt : Bt < w7.heap.size := (kn7.cell (Bt, 0, .string nm) (by simp)).1
        have lBx : Bx < w7.heap.size := (kn7.cell (Bx, 0, .slice Ax X.length cx) (by simp)).1
        go_upto_region 10 with fail
        clear dBd_0 dBt_0 dBt_1 dBt_2 dBx_0 lBd lBt lBx
        have kn8 : Kn w [(Bd, 0, .slice A ts.length c), (Bt, 0, .string nm), (Bt, 1, .int .i64 ar), (Bt, 2, .slice A' rs.length c'), (Bx, 0, .slice Ax X.length cx), (w7.heap.size, 0, .string nm), (w7.heap.size, 1, .int .i64 ar), (w7.heap.size, 2, .slice Ay rs.length cy)] (w7.alloc (.cells #[.string nm, .int .i64 ar, .slice Ay rs.length cy] 26)) := by simpa using kn7.box [.string nm, .int .i64 ar, .slice Ay rs.length cy] 26
        have b8 := (Below.refl w7.heap.size w7).alloc (Nat.le_refl _) (.cells #[.string nm, .int .i64 ar, .slice Ay rs.length cy] 26)
        clear kn7
        have Hrd8 := Lib.hid (rdT_next b8 Hrd7.out)
        clear Hrd7
        have Hrt8 := Lib.hid (rdR_next b8 Hrt7.out)
        clear Hrt7
        have Hrx8 := Lib.hid (rdT_next b8 Hrx7.out)
        clear Hrx7
        have Hry8 := Lib.hid (rdR_next b8 Hry7.out)
        clear Hry7
        clear b8
        generalize w7.alloc (.cells #[.string nm, .int .i64 ar, .slice Ay rs.length cy] 26) = w8 at kn8 Hrd8 Hrt8 Hrx8 Hry8 ⊢
        generalize w7.heap.size = By at kn8 ⊢
        obtain ⟨dBd_0, dBt_0, dBt_1, dBt_2, dBx_0, dBy_0, dBy_1, dBy_2, _⟩ := kn8.all
        have lBd : Bd < w8.heap.size := (kn8.cell (Bd, 0, .slice A ts.length c) (by simp)).1
        have lBt : Bt < w8.heap.size := (kn8.cell (Bt, 0, .string nm) (by simp)).1
        have lBx : Bx < w8.heap.size := (kn8.cell (Bx, 0, .slice Ax X.length cx) (by simp)).1
        have lBy : By < w8.heap.size := (kn8.cell (By, 0, .string nm) (by simp)).1
        go_wp2_with fail
        have KC := Lib.hid (boolD_of (eqT_self nm ar rs) (impl_EqualTables_any nm nm ar ar Ay A' rs.length cy rs.length c' w8.heap.size w8.heap.size rs rs w8 Hry8.out Hrt8.out (Nat.le_refl _) (Nat.le_refl _) (by have := HT.out.2.2.1; omega) (by have := HT.out.2.2.1; omega)))
        refine KC.out.mono ?_
        rintro e w9 ⟨rfl, b9⟩
        clear dBd_0 dBt_0 dBt_1 dBt_2 dBx_0 dBy_0 dBy_1 dBy_2 lBd lBt lBx lBy
        clear KC
        have kn9 := kn8.next b9
        clear kn8
        have Hrd9 := Lib.hid (rdT_next b9 Hrd8.out)
        clear Hrd8
        have Hrt9 := Lib.hid (rdR_next b9 Hrt8.out)
        clear Hrt8
        have Hrx9 := Lib.hid (rdT_next b9 Hrx8.out)
        clear Hrx8
        have Hry9 := Lib.hid (rdR_next b9 Hry8.out)
        clear Hry8
        clear b9
        obtain ⟨dBd_0, dBt_0, dBt_1, dBt_2, dBx_0, dBy_0, dBy_1, dBy_2, _⟩ := kn9.all
        have lBd : Bd < w9.heap.size := (kn9.cell (Bd, 0, .slice A ts.length c) (by simp)).1
        have lBt : Bt < w9.heap.size := (kn9.cell (Bt, 0, .string nm) (by simp)).1
        have lBx : Bx < w9.heap.size := (kn9.cell (Bx, 0, .slice Ax X.length cx) (by simp)).1
        have lBy : By < w9.heap.size := (kn9.cell (By, 0, .string nm) (by simp)).1
        go_wp2_with fail
        have KC := Lib.hid (boolD_of HK2.out (impl_IsValidDatabase_any Ax X.length cx w9.heap.size X w9 Hrx9.out (Nat.le_refl _) (by have := HXs.out.1; omega) (by have := HXs.out.2; omega)))
        refine KC.out.mono ?_
        rintro e w10 ⟨rfl, b10⟩
        clear dBd_0 dBt_0 dBt_1 dBt_2 dBx_0 dBy_0 dBy_1 dBy_2 lBd lBt lBx lBy
        clear KC
        have kn10 := kn9.next b10
        clear kn9
        have Hrd10 := Lib.hid (rdT_next b10 Hrd9.out)
        clear Hrd9
        have Hrt10 := Lib.hid (rdR_next b10 Hrt9.out)
        clear Hrt9
        have Hrx10 := Lib.hid (rdT_next b10 Hrx9.out)
        clear Hrx9
        have Hry10 := Lib.hid (rdR_next b10 Hry9.out)
        clear Hry9
        clear b10
        obtain ⟨dBd_0, dBt_0, dBt_1, dBt_2, dBx_0, dBy_0, dBy_1, dBy_2, _⟩ := kn10.all
        have lBd : Bd < w10.heap.size := (kn10.cell (Bd, 0, .slice A ts.length c) (by simp)).1
        have lBt : Bt < w10.heap.size := (kn10.cell (Bt, 0, .string nm) (by simp)).1
        have lBx : Bx < w10.heap.size := (kn10.cell (Bx, 0, .slice Ax X.length cx) (by simp)).1
        have lBy : By < w10.heap.size := (kn10.cell (By, 0, .string nm) (by simp)).1
        go_wp2_with fail
        have KC := Lib.hid (dbAns_of HK3.out (impl_RemoveTable_any Ax X.length cx w10.heap.size X nm w10 Hrx10.out (Nat.le_refl _) (by have := HXs.out.1; omega) (by have := HXs.out.2; omega)))
        refine KC.out.mono ?_
        rintro e w11 ⟨Az, cz, rfl, ho, b11⟩
        clear dBd_0 dBt_0 dBt_1 dBt_2 dBx_0 dBy_0 dBy_1 dBy_2 lBd lBt lBx lBy
        clear KC
        have kn11 := kn10.next b11
        clear kn10
        have Hrd11 := Lib.hid (rdT_next b11 Hrd10.out)
        clear Hrd10
        have Hrt11 := Lib.hid (rdR_next b11 Hrt10.out)
        clear Hrt10
        have Hrx11 := Lib.hid (rdT_next b11 Hrx10.out)
        clear Hrx10
        have Hry11 := Lib.hid (rdR_next b11 Hry10.out)
        clear Hry10
        have Hrz11 := Lib.hid (ho.rd rfl)
        clear ho
        clear b11
        obtain ⟨dBd_0, dBt_0, dBt_1, dBt_2, dBx_0, dBy_0, dBy_1, dBy_2, _⟩ := kn11.all
        have lBd : Bd < w11.heap.size := (kn11.cell (Bd, 0, .slice A ts.length c) (by simp)).1
        have lBt : Bt < w11.heap.size := (kn11.cell (Bt, 0, .string nm) (by simp)).1
        have lBx : Bx < w11.heap.size := (kn11.cell (Bx, 0, .slice Ax X.length cx) (by simp)).1
        have lBy : By < w11.heap.size := (kn11.cell (By, 0, .string nm) (by simp)).1
        go_upto_region 13 with fail
        clear dBd_0 dBt_0 dBt_1 dBt_2 dBx_0 dBy_0 dBy_1 dBy_2 lBd lBt lBx lBy
        have kn12 : Kn w [(Bd, 0, .slice A ts.length c), (Bt, 0, .string nm), (Bt, 1, .int .i64 ar), (Bt, 2, .slice A' rs.length c'), (Bx, 0, .slice Ax X.length cx), (By, 0, .string nm), (By, 1, .int .i64 ar), (By, 2, .slice Ay rs.length cy), (w11.heap.size, 0, .slice Az Z.length cz)] (w11.alloc (.cells #[.slice Az Z.length cz] 42)) := by simpa using kn11.box [.slice Az Z.length cz] 42
        have b12 := (Below.refl w11.heap.size w11).alloc (Nat.le_refl _) (.cells #[.slice Az Z.length cz] 42)
        clear kn11
        have Hrd12 := Lib.hid (rdT_next b12 Hrd11.out)
        clear Hrd11
        have Hrt12 := Lib.hid (rdR_next b12 Hrt11.out)
        clear Hrt11
        have Hrx12 := Lib.hid (rdT_next b12 Hrx11.out)
        clear Hrx11
        have Hry12 := Lib.hid (rdR_next b12 Hry11.out)
        clear Hry11
        have Hrz12 := Lib.hid (rdT_next b12 Hrz11.out)
        clear Hrz11
        clear b12
        generalize w11.alloc (.cells #[.slice Az Z.length cz] 42) = w12 at kn12 Hrd12 Hrt12 Hrx12 Hry12 Hrz12 ⊢
        generalize w11.heap.size = Bz at kn12 ⊢
        obtain ⟨dBd_0, dBt_0, dBt_1, dBt_2, dBx_0, dBy_0, dBy_1, dBy_2, dBz_0, _⟩ := kn12.all
        have lBd : Bd < w12.heap.size := (kn12.cell (Bd, 0, .slice A ts.length c) (by simp)).1
        have lBt : Bt < w12.heap.size := (kn12.cell (Bt, 0, .string nm) (by simp)).1
        have lBx : Bx < w12.heap.size := (kn12.cell (Bx, 0, .slice Ax X.length cx) (by simp)).1
        have lBy : By < w12.heap.size := (kn12.cell (By, 0, .string nm) (by simp)).1
        have lBz : Bz < w12.heap.size := (kn12.cell (Bz, 0, .slice Az Z.length cz) (by simp)).1
        go_wp2_with fail
        have KC := Lib.hid (dbAns_of HK4.out (spec_RemoveTable_any A ts.length c w12.heap.size ts nm w12 Hrd12.out (Nat.le_refl _) (by have := HS.out.1; omega) (by have := HS.out.2; omega)))
        refine KC.out.mono ?_
        rintro e w13 ⟨Aw, cw, rfl, ho, b13⟩
        clear dBd_0 dBt_0 dBt_1 dBt_2 dBx_0 dBy_0 dBy_1 dBy_2 dBz_0 lBd lBt lBx lBy lBz
        clear KC
        have kn13 := kn12.next b13
        clear kn12
        have Hrd13 := Lib.hid (rdT_next b13 Hrd12.out)
        clear Hrd12
        have Hrt13 := Lib.hid (rdR_next b13 Hrt12.out)
        clear Hrt12
        have Hrx13 := Lib.hid (rdT_next b13 Hrx12.out)
        clear Hrx12
        have Hry13 := Lib.hid (rdR_next b13 Hry12.out)
        clear Hry12
        have Hrz13 := Lib.hid (rdT_next b13 Hrz12.out)
        clear Hrz12
        have Hrw13 := Lib.hid (ho.rd rfl)
        clear ho
        clear b13
        obtain ⟨dBd_0, dBt_0, dBt_1, dBt_2, dBx_0, dBy_0, dBy_1, dBy_2, dBz_0, _⟩ := kn13.all
        have lBd : Bd < w13.heap.size := (kn13.cell (Bd, 0, .slice A ts.length c) (by simp)).1
        have lBt : Bt < w13.heap.size := (kn13.cell (Bt, 0, .string nm) (by simp)).1
        have lBx : Bx < w13.heap.size := (kn13.cell (Bx, 0, .slice Ax X.length cx) (by simp)).1
        have lBy : By < w13.heap.size := (kn13.cell (By, 0, .string nm) (by simp)).1
        have lBz : Bz < w13.heap.size := (kn13.cell (Bz, 0, .slice Az Z.length cz) (by simp)).1
        go_upto_region 14 with fail
        clear dBd_0 dBt_0 dBt_1 dBt_2 dBx_0 dBy_0 dBy_1 dBy_2 dBz_0 lBd lBt lBx lBy lBz
        have kn14 : Kn w [(Bd, 0, .slice A ts.length c), (Bt, 0, .string nm), (Bt, 1, .int .i64 ar), (Bt, 2, .slice A' rs.length c'), (Bx, 0, .slice Ax X.length cx), (By, 0, .string nm), (By, 1, .int .i64 ar), (By, 2, .slice Ay rs.length cy), (Bz, 0, .slice Az Z.length cz), (w13.heap.size, 0, .slice Aw Wd.length cw)] (w13.alloc (.cells #[.slice Aw Wd.length cw] 42)) := by simpa using kn13.box [.slice Aw Wd.length cw] 42
        have b14 := (Below.refl w13.heap.size w13).alloc (Nat.le_refl _) (.cells #[.slice Aw Wd.length cw] 42)
        clear kn13
        have Hrd14 := Lib.hid (rdT_next b14 Hrd13.out)
        clear Hrd13
        have Hrt14 := Lib.hid (rdR_next b14 Hrt13.out)
        clear Hrt13
        have Hrx14 := Lib.hid (rdT_next b14 Hrx13.out)
        clear Hrx13
        have Hry14 := Lib.hid (rdR_next b14 Hry13.out)
        clear Hry13
        have Hrz14 := Lib.hid (rdT_next b14 Hrz13.out)
        clear Hrz13
        have Hrw14 := Lib.hid (rdT_next b14 Hrw13.out)
        clear Hrw13
        clear b14
        generalize w13.alloc (.cells #[.slice Aw Wd.length cw] 42) = w14 at kn14 Hrd14 Hrt14 Hrx14 Hry14 Hrz14 Hrw14 ⊢
        generalize w13.heap.size = Bw at kn14 ⊢
        obtain ⟨dBd_0, dBt_0, dBt_1, dBt_2, dBx_0, dBy_0, dBy_1, dBy_2, dBz_0, dBw_0, _⟩ := kn14.all
        have lBd : Bd < w14.heap.size := (kn14.cell (Bd, 0, .slice A ts.length c) (by simp)).1
        have lBt : Bt < w14.heap.size := (kn14.cell (Bt, 0, .string nm) (by simp)).1
        have lBx : Bx < w14.heap.size := (kn14.cell (Bx, 0, .slice Ax X.length cx) (by simp)).1
        have lBy : By < w14.heap.size := (kn14.cell (By, 0, .string nm) (by simp)).1
        have lBz : Bz < w14.heap.size := (kn14.cell (Bz, 0, .slice Az Z.length cz) (by simp)).1
        have lBw : Bw < w14.heap.size := (kn14.cell (Bw, 0, .slice Aw Wd.length cw) (by simp)).1
        have g1 : ((cntD X : Int) != (cntD Z : Int) + (rs.length : Int)) = false := by have := HHCN.out; simp; omega
        have g2 : (cntD Z : Int) + (rs.length : Int) ≤ 2000 := by omega
        have g3 : (cntD Z : Int) + (rs.length : Int) = (cntD X : Int) := by omega
        clear hcn
        have q9 : ((cntD X : Int) != (cntD X : Int)) = false := by simp
        have HQ := Lib.hid hcx
        clear hcx
        cases had with
        | true =>
          have e1 := HHH1.out rfl
          subst e1
          have KE : Hid (∀ V, Below w14.heap.size w14 V → Calls Tryz.prog 27 #[.agg #[.slice Az Z.length cz], .agg #[.slice Aw Z.length cw]] V fun e w' => e = .returned (.bool true) ∧ Below V.heap.size V w') := fun V b => boolD_of (b' := true) (by simp) (spec_EqualDatabases_any Az Aw Z.length cz Z.length cw w14.heap.size w14.heap.size Z Z V (RdT.belowB Hrz14.out b (Nat.le_refl _)) (RdT.belowB Hrw14.out b (Nat.le_refl _)) b.size b.size (by have := HHZS.out.1; omega) (by have := HHZS.out.1; omega))
          have KX : Hid (∀ V, Below w14.heap.size w14 V → Calls Tryz.prog 28 #[.agg #[.slice Ax X.length cx]] V fun e w' => e = .returned (.int .i64 (cntD X : Nat)) ∧ Below V.heap.size V w') := fun V b => impl_CountRows_any Ax X.length cx w14.heap.size X V (RdT.belowB Hrx14.out b (Nat.le_refl _)) b.size (by have := HXs.out.1; omega) (by have := HXs.out.2; omega)
          have KZ : Hid (∀ V, Below w14.heap.size w14 V → Calls Tryz.prog 28 #[.agg #[.slice Az Z.length cz]] V fun e w' => e = .returned (.int .i64 (cntD Z : Nat)) ∧ Below V.heap.size V w') := fun V b => impl_CountRows_any Az Z.length cz w14.heap.size Z V (RdT.belowB Hrz14.out b (Nat.le_refl _)) b.size (by have := HHZS.out.1; omega) (by have := HHZS.out.2; omega)
          refine wp_region_class (by kernel_rfl) (by kernel_rfl) (fun V => Below w14.heap.size w14 V) ((Below.refl _ _).drew) (fun S _ f hG hS => ?_)
          have yBd_0 : ∀ s, (f s).cell? ⟨Bd, 0, none⟩ = some (.slice A ts.length c) := fun s => ((hG s).cell (p := ⟨Bd, 0, none⟩) lBd).trans dBd_0
          have yBt_0 : ∀ s, (f s).cell? ⟨Bt, 0, none⟩ = some (.string nm) := fun s => ((hG s).cell (p := ⟨Bt, 0, none⟩) lBt).trans dBt_0
          have yBt_1 : ∀ s, (f s).cell? ⟨Bt, 1, none⟩ = some (.int .i64 ar) := fun s => ((hG s).cell (p := ⟨Bt, 1, none⟩) lBt).trans dBt_1
          have yBt_2 : ∀ s, (f s).cell? ⟨Bt, 2, none⟩ = some (.slice A' rs.length c') := fun s => ((hG s).cell (p := ⟨Bt, 2, none⟩) lBt).trans dBt_2
          have yBx_0 : ∀ s, (f s).cell? ⟨Bx, 0, none⟩ = some (.slice Ax X.length cx) := fun s => ((hG s).cell (p := ⟨Bx, 0, none⟩) lBx).trans dBx_0
          have yBy_0 : ∀ s, (f s).cell? ⟨By, 0, none⟩ = some (.string nm) := fun s => ((hG s).cell (p := ⟨By, 0, none⟩) lBy).trans dBy_0
          have yBy_1 : ∀ s, (f s).cell? ⟨By, 1, none⟩ = some (.int .i64 ar) := fun s => ((hG s).cell (p := ⟨By, 1, none⟩) lBy).trans dBy_1
          have yBy_2 : ∀ s, (f s).cell? ⟨By, 2, none⟩ = some (.slice Ay rs.length cy) := fun s => ((hG s).cell (p := ⟨By, 2, none⟩) lBy).trans dBy_2
          have yBz_0 : ∀ s, (f s).cell? ⟨Bz, 0, none⟩ = some (.slice Az Z.length cz) := fun s => ((hG s).cell (p := ⟨Bz, 0, none⟩) lBz).trans dBz_0
          have yBw_0 : ∀ s, (f s).cell? ⟨Bw, 0, none⟩ = some (.slice Aw Z.length cw) := fun s => ((hG s).cell (p := ⟨Bw, 0, none⟩) lBw).trans dBw_0
          have HG := Lib.hid hG
          have HSS := Lib.hid hS
          clear hG hS
          repeat (first | go_big_quiet_step ((first | (go_at_call 27; with_reducible exact Calls.clsB HSS.out (HG.out _) (KE.out _ (HG.out _))) | (go_at_call 28; with_reducible exact Calls.clsB HSS.out (HG.out _) (KX.out _ (HG.out _))) | (go_at_call 28; with_reducible exact Calls.clsB HSS.out (HG.out _) (KZ.out _ (HG.out _))))) | quiet_step ((first | (go_at_call 27; with_reducible exact Calls.clsB HSS.out (HG.out _) (KE.out _ (HG.out _))) | (go_at_call 28; with_reducible exact Calls.clsB HSS.out (HG.out _) (KX.out _ (HG.out _))) | (go_at_call 28; with_reducible exact Calls.clsB HSS.out (HG.out _) (KZ.out _ (HG.out _))))))
          refine wpQuiet_nil ?_
          rintro _ ⟨s, rfl⟩
          have HB := Lib.hid (HG.out s)
          clear yBd_0 yBt_0 yBt_1 yBt_2 yBx_0 yBy_0 yBy_1 yBy_2 yBz_0 yBw_0
          go_wp2_with fail
          go_meet
          exact ⟨rfl, (kn14.next HB.out).sub (by simp), rdT_next HB.out Hrd14.out⟩
        | false =>
          have e1 := HHH0.out rfl
          subst e1
          have KE : Hid (∀ V, Below w14.heap.size w14 V → Calls Tryz.prog 27 #[.agg #[.slice Az Z.length cz], .agg #[.slice A Z.length c]] V fun e w' => e = .returned (.bool true) ∧ Below V.heap.size V w') := fun V b => boolD_of (b' := true) (by simp) (spec_EqualDatabases_any Az A Z.length cz Z.length c w14.heap.size w14.heap.size Z Z V (RdT.belowB Hrz14.out b (Nat.le_refl _)) (RdT.belowB Hrd14.out b (Nat.le_refl _)) b.size b.size (by have := HHZS.out.1; omega) (by have := HHZS.out.1; omega))
          have KX : Hid (∀ V, Below w14.heap.size w14 V → Calls Tryz.prog 28 #[.agg #[.slice Ax X.length cx]] V fun e w' => e = .returned (.int .i64 (cntD X : Nat)) ∧ Below V.heap.size V w') := fun V b => impl_CountRows_any Ax X.length cx w14.heap.size X V (RdT.belowB Hrx14.out b (Nat.le_refl _)) b.size (by have := HXs.out.1; omega) (by have := HXs.out.2; omega)
          have KZ : Hid (∀ V, Below w14.heap.size w14 V → Calls Tryz.prog 28 #[.agg #[.slice Az Z.length cz]] V fun e w' => e = .returned (.int .i64 (cntD Z : Nat)) ∧ Below V.heap.size V w') := fun V b => impl_CountRows_any Az Z.length cz w14.heap.size Z V (RdT.belowB Hrz14.out b (Nat.le_refl _)) b.size (by have := HHZS.out.1; omega) (by have := HHZS.out.2; omega)
          refine wp_region_class (by kernel_rfl) (by kernel_rfl) (fun V => Below w14.heap.size w14 V) ((Below.refl _ _).drew) (fun S _ f hG hS => ?_)
          have yBd_0 : ∀ s, (f s).cell? ⟨Bd, 0, none⟩ = some (.slice A Z.length c) := fun s => ((hG s).cell (p := ⟨Bd, 0, none⟩) lBd).trans dBd_0
          have yBt_0 : ∀ s, (f s).cell? ⟨Bt, 0, none⟩ = some (.string nm) := fun s => ((hG s).cell (p := ⟨Bt, 0, none⟩) lBt).trans dBt_0
          have yBt_1 : ∀ s, (f s).cell? ⟨Bt, 1, none⟩ = some (.int .i64 ar) := fun s => ((hG s).cell (p := ⟨Bt, 1, none⟩) lBt).trans dBt_1
          have yBt_2 : ∀ s, (f s).cell? ⟨Bt, 2, none⟩ = some (.slice A' rs.length c') := fun s => ((hG s).cell (p := ⟨Bt, 2, none⟩) lBt).trans dBt_2
          have yBx_0 : ∀ s, (f s).cell? ⟨Bx, 0, none⟩ = some (.slice Ax X.length cx) := fun s => ((hG s).cell (p := ⟨Bx, 0, none⟩) lBx).trans dBx_0
          have yBy_0 : ∀ s, (f s).cell? ⟨By, 0, none⟩ = some (.string nm) := fun s => ((hG s).cell (p := ⟨By, 0, none⟩) lBy).trans dBy_0
          have yBy_1 : ∀ s, (f s).cell? ⟨By, 1, none⟩ = some (.int .i64 ar) := fun s => ((hG s).cell (p := ⟨By, 1, none⟩) lBy).trans dBy_1
          have yBy_2 : ∀ s, (f s).cell? ⟨By, 2, none⟩ = some (.slice Ay rs.length cy) := fun s => ((hG s).cell (p := ⟨By, 2, none⟩) lBy).trans dBy_2
          have yBz_0 : ∀ s, (f s).cell? ⟨Bz, 0, none⟩ = some (.slice Az Z.length cz) := fun s => ((hG s).cell (p := ⟨Bz, 0, none⟩) lBz).trans dBz_0
          have yBw_0 : ∀ s, (f s).cell? ⟨Bw, 0, none⟩ = some (.slice Aw Wd.length cw) := fun s => ((hG s).cell (p := ⟨Bw, 0, none⟩) lBw).trans dBw_0
          have HG := Lib.hid hG
          have HSS := Lib.hid hS
          clear hG hS
          repeat (first | go_big_quiet_step ((first | (go_at_call 27; with_reducible exact Calls.clsB HSS.out (HG.out _) (KE.out _ (HG.out _))) | (go_at_call 28; with_reducible exact Calls.clsB HSS.out (HG.out _) (KX.out _ (HG.out _))) | (go_at_call 28; with_reducible exact Calls.clsB HSS.out (HG.out _) (KZ.out _ (HG.out _))))) | quiet_step ((first | (go_at_call 27; with_reducible exact Calls.clsB HSS.out (HG.out _) (KE.out _ (HG.out _))) | (go_at_call 28; with_reducible exact Calls.clsB HSS.out (HG.out _) (KX.out _ (HG.out _))) | (go_at_call 28; with_reducible exact Calls.clsB HSS.out (HG.out _) (KZ.out _ (HG.out _))))))
          refine wpQuiet_nil ?_
          rintro _ ⟨s, rfl⟩
          have HB := Lib.hid (HG.out s)
          clear yBd_0 yBt_0 yBt_1 yBt_2 yBx_0 yBy_0 yBy_1 yBy_2 yBz_0 yBw_0
          go_wp2_with fail
          go_meet
          exact ⟨rfl, (kn14.next HB.out).sub (by simp), rdT_next HB.out Hrd14.out⟩
  case rest =>
    clear dBd_0 dBt_0 dBt_1 dBt_2 dBx_0 lBd lBt lBx
    obtain ⟨rfl, kn40, qrd⟩ := hcut
    have Hrd40 := Lib.hid qrd
    clear qrd
    clear kn6 Hrd6 Hrt6 Hrx6
    generalize wc = w40 at kn40 Hrd40 ⊢
    obtain ⟨dBd_0, _⟩ := kn40.all
    have lBd : Bd < w40.heap.size := (kn40.cell (Bd, 0, .slice A ts.length c) (by simp)).1
    have ht40 := ht.on kn40.bel
    obtain ⟨Y, hY, hYs, hYv⟩ := parD_facts ts
    have HY := Lib.hid hY
    have HYs := Lib.hid hYs
    have HYv := Lib.hid hYv
    clear hY hYs hYv
    go_wp2_with fail
    have KC := Lib.hid (impl_FormatDatabase_any A ts.length c w40.heap.size ts w40 (ht.on kn40.bel) Hrd40.out (Nat.le_refl _) (by have := HS.out.1; omega) (by have := HS.out.2; omega))
    refine KC.out.mono ?_
    rintro e w41 ⟨rfl, b41⟩
    clear dBd_0 lBd
    clear KC
    have kn41 := kn40.next b41
    clear kn40
    have Hrd41 := Lib.hid (rdT_next b41 Hrd40.out)
    clear Hrd40
    clear b41
    obtain ⟨dBd_0, _⟩ := kn41.all
    have lBd : Bd < w41.heap.size := (kn41.cell (Bd, 0, .slice A ts.length c) (by simp)).1
    go_wp2_with fail
    have KC := Lib.hid (dbAns_of HY.out (impl_ParseDatabase_any (fmtD ts) w41 (fmtD_small _) (ht.on kn41.bel) (hm.on kn41.bel)))
    refine KC.out.mono ?_
    rintro e w42 ⟨Ay, cy, rfl, ho, b42⟩
    clear dBd_0 lBd
    clear KC
    have kn42 := kn41.next b42
    clear kn41
    have Hrd42 := Lib.hid (rdT_next b42 Hrd41.out)
    clear Hrd41
    have Hry42 := Lib.hid (ho.rd rfl)
    clear ho
    clear b42
    obtain ⟨dBd_0, _⟩ := kn42.all
    have lBd : Bd < w42.heap.size := (kn42.cell (Bd, 0, .slice A ts.length c) (by simp)).1
    go_upto_region 20 with fail
    clear dBd_0 lBd
    have kn43 : Kn w [(Bd, 0, .slice A ts.length c), (w42.heap.size, 0, .slice Ay Y.length cy)] (w42.alloc (.cells #[.slice Ay Y.length cy] 42)) := by simpa using kn42.box [.slice Ay Y.length cy] 42
    have b43 := (Below.refl w42.heap.size w42).alloc (Nat.le_refl _) (.cells #[.slice Ay Y.length cy] 42)
    clear kn42
    have Hrd43 := Lib.hid (rdT_next b43 Hrd42.out)
    clear Hrd42
    have Hry43 := Lib.hid (rdT_next b43 Hry42.out)
    clear Hry42
    clear b43
    generalize w42.alloc (.cells #[.slice Ay Y.length cy] 42) = w43 at kn43 Hrd43 Hry43 ⊢
    generalize w42.heap.size = By at kn43 ⊢
    obtain ⟨dBd_0, dBy_0, _⟩ := kn43.all
    have lBd : Bd < w43.heap.size := (kn43.cell (Bd, 0, .slice A ts.length c) (by simp)).1
    have lBy : By < w43.heap.size := (kn43.cell (By, 0, .slice Ay Y.length cy) (by simp)).1
    have q5 : ((fmtD ts).toList == (fmtD ts).toList) = true := by simp
    go_wp2_with fail
    have KC := Lib.hid (spec_FormatDatabase_any A ts.length c w43.heap.size ts w43 Hrd43.out (Nat.le_refl _) (by have := HS.out.1; omega) (by have := HS.out.2; omega))
    refine KC.out.mono ?_
    rintro e w44 ⟨rfl, b44⟩
    clear dBd_0 dBy_0 lBd lBy
    clear KC
    have kn44 := kn43.next b44
    clear kn43
    have Hrd44 := Lib.hid (rdT_next b44 Hrd43.out)
    clear Hrd43
    have Hry44 := Lib.hid (rdT_next b44 Hry43.out)
    clear Hry43
    clear b44
    obtain ⟨dBd_0, dBy_0, _⟩ := kn44.all
    have lBd : Bd < w44.heap.size := (kn44.cell (Bd, 0, .slice A ts.length c) (by simp)).1
    have lBy : By < w44.heap.size := (kn44.cell (By, 0, .slice Ay Y.length cy) (by simp)).1
    cases hv : validD ts with
    | false =>
      have HV := Lib.hid hv
      clear hv
      go_wp2_with fail
      have KC := Lib.hid (boolD_of HV.out (spec_IsValidDatabase_any A ts.length c w44.heap.size ts w44 Hrd44.out (Nat.le_refl _) (by have := HS.out.1; omega) (by have := HS.out.2; omega)))
      refine KC.out.mono ?_
      rintro e w45 ⟨rfl, b45⟩
      clear dBd_0 dBy_0 lBd lBy
      clear KC
      have kn45 := kn44.next b45
      clear kn44
      have Hrd45 := Lib.hid (rdT_next b45 Hrd44.out)
      clear Hrd44
      have Hry45 := Lib.hid (rdT_next b45 Hry44.out)
      clear Hry44
      clear b45
      obtain ⟨dBd_0, dBy_0, _⟩ := kn45.all
      have lBd : Bd < w45.heap.size := (kn45.cell (Bd, 0, .slice A ts.length c) (by simp)).1
      have lBy : By < w45.heap.size := (kn45.cell (By, 0, .slice Ay Y.length cy) (by simp)).1
      have HB := Lib.hid kn45.bel
      go_wp2_with fail
      go_ret
      exact ⟨rfl, HB.out⟩
    | true =>
      have HV := Lib.hid hv
      clear hv
      have HYe := Lib.hid (HYv.out HV.out)
      go_wp2_with fail
      have KC := Lib.hid (boolD_of HV.out (spec_IsValidDatabase_any A ts.length c w44.heap.size ts w44 Hrd44.out (Nat.le_refl _) (by have := HS.out.1; omega) (by have := HS.out.2; omega)))
      refine KC.out.mono ?_
      rintro e w45 ⟨rfl, b45⟩
      clear dBd_0 dBy_0 lBd lBy
      clear KC
      have kn45 := kn44.next b45
      clear kn44
      have Hrd45 := Lib.hid (rdT_next b45 Hrd44.out)
      clear Hrd44
      have Hry45 := Lib.hid (rdT_next b45 Hry44.out)
      clear Hry44
      clear b45
      obtain ⟨dBd_0, dBy_0, _⟩ := kn45.all
      have lBd : Bd < w45.heap.size := (kn45.cell (Bd, 0, .slice A ts.length c) (by simp)).1
      have lBy : By < w45.heap.size := (kn45.cell (By, 0, .slice Ay Y.length cy) (by simp)).1
      go_wp2_with fail
      have KC := Lib.hid (boolD_of (decide_eq_true HYe.out) (spec_EqualDatabases_any Ay A Y.length cy ts.length c w45.heap.size w45.heap.size Y ts w45 Hry45.out Hrd45.out (Nat.le_refl _) (Nat.le_refl _) (by have := HYs.out.1; omega) (by have := HS.out.1; omega)))
      refine KC.out.mono ?_
      rintro e w46 ⟨rfl, b46⟩
      clear dBd_0 dBy_0 lBd lBy
      clear KC
      have kn46 := kn45.next b46
      clear kn45
      have Hrd46 := Lib.hid (rdT_next b46 Hrd45.out)
      clear Hrd45
      have Hry46 := Lib.hid (rdT_next b46 Hry45.out)
      clear Hry45
      clear b46
      obtain ⟨dBd_0, dBy_0, _⟩ := kn46.all
      have lBd : Bd < w46.heap.size := (kn46.cell (Bd, 0, .slice A ts.length c) (by simp)).1
      have lBy : By < w46.heap.size := (kn46.cell (By, 0, .slice Ay Y.length cy) (by simp)).1
      have HB := Lib.hid kn46.bel
      go_wp2_with fail
      go_ret
      exact ⟨rfl, HB.out⟩
end Go.Proofs.YtmojjbhjjhdpaaaGreatDoor
