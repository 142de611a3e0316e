/- UApps, UAppsS, in one text (a claim has at most 60 files). -/
import Derived.Test.YtimlecfneibjlaaUApp
import Derived.Test.YtimlecfneibjlaaULaw
import Derived.Test.YtimlecfneibjlaaCutD
import Derived.Test.YtimlecfneibjlaaOpenDb
namespace Go.Proofs.Ytimlecfneibjlaa
open Go.RowKit Go.Deep

theorem Kn.set1 {w W : World} {L : List (Nat × Nat × Value)} {B : Nat} {x : Value} (h : Kn w (L ++ [(B, 0, x)]) W) (hB : w.heap.size ≤ B) (hL : ∀ t ∈ L, t.1 < B) (x' : Value) :
    Kn w (L ++ [(B, 0, x')]) (W.setCell ⟨B, 0, none⟩ x') := by
  have b3 : Below B W (W.setCell ⟨B, 0, none⟩ x') := (Below.refl B W).setCell (Nat.le_refl _) _
  have e0 := (h.cell (B, 0, x) (by simp)).2
  have f0 := h.frz (B, 0, x) (by simp)
  have hlt := (h.cell (B, 0, x) (by simp)).1
  simp only at e0 f0 hlt
  refine ⟨h.bel.trans (b3.mono hB), fun t ht => ?_, fun t ht => ?_⟩
  · rcases List.mem_append.1 ht with ht | ht
    · exact ⟨Nat.lt_of_lt_of_le (h.cell t (by simp [ht])).1 b3.size, (b3.cell (p := ⟨t.1, t.2.1, none⟩) (hL t ht)).trans (h.cell t (by simp [ht])).2⟩
    · simp only [List.mem_cons, List.not_mem_nil, or_false] at ht
      subst ht
      exact ⟨Nat.lt_of_lt_of_le hlt b3.size, by simp [go_sem, e0]⟩
  · rcases List.mem_append.1 ht with ht | ht
    · exact (b3.frozen (p := ⟨t.1, t.2.1, none⟩) (hL t ht)).trans (h.frz t (by simp [ht]))
    · simp only [List.mem_cons, List.not_mem_nil, or_false] at ht
      subst ht
      simp [go_sem, f0]
/-- The updates from number k on, applied up to the first impossible one. -/
def appsF : List Tab → Nat → List Upd → List Tab × Int
  | ts, k, [] => (ts, (k : Int))
  | ts, k, u :: us => if (appR ts u.nm u.ins u.zs).2 = true then appsF (appR ts u.nm u.ins u.zs).1 (k + 1) us else (ts, (k : Int))
def appsR (ts : List Tab) (us : List Upd) : List Tab × Int := appsF ts 0 us
theorem appsF_step {us : List Upd} {k : Nat} {u : Upd} {cur Q : List Tab} (h : us[k]? = some u) (ha : appR cur u.nm u.ins u.zs = (Q, true)) : appsF cur k (us.drop k) = appsF Q (k + 1) (us.drop (k + 1)) := by
  obtain ⟨hk, rfl⟩ := List.getElem?_eq_some_iff.1 h
  rw [List.drop_eq_getElem_cons hk, appsF, ha, if_pos rfl]
theorem appsF_stop {us : List Upd} {k : Nat} {u : Upd} {cur Q : List Tab} (h : us[k]? = some u) (ha : appR cur u.nm u.ins u.zs = (Q, false)) : appsF cur k (us.drop k) = (cur, (k : Int)) := by
  obtain ⟨hk, rfl⟩ := List.getElem?_eq_some_iff.1 h
  rw [List.drop_eq_getElem_cons hk, appsF, ha, if_neg (by simp)]
theorem appsF_end {us : List Upd} {k : Nat} (cur : List Tab) (h : us.length ≤ k) : appsF cur k (us.drop k) = (cur, (k : Int)) := by
  rw [List.drop_eq_nil_of_le h, appsF]
theorem appsF_small : ∀ (us : List Upd) (ts : List Tab) (k : Nat), ts.length ≤ 1048576 → sumT ts ≤ 1048576 → (appsF ts k us).1.length ≤ 1048576 ∧ sumT (appsF ts k us).1 ≤ 1048576
  | [], ts, k, h1, h2 => ⟨h1, h2⟩
  | u :: us, ts, k, h1, h2 => by
    rw [appsF]
    split
    · have := appR_small (nm := u.nm) (ins := u.ins) (r := u.zs) h1 h2
      exact appsF_small us _ (k + 1) this.1 this.2
    · exact ⟨h1, h2⟩
theorem appsR_small {ts : List Tab} {us : List Upd} (h1 : ts.length ≤ 1048576) (h2 : sumT ts ≤ 1048576) : (appsR ts us).1.length ≤ 1048576 ∧ sumT (appsR ts us).1 ≤ 1048576 := appsF_small us ts 0 h1 h2
/-- A new database and an int. -/
def DbInt (R : List Tab × Int) (w : World) (e : Ending) (w' : World) : Prop :=
  ∃ (A : Option Addr) (c : Nat), e = .returned (.tuple #[.agg #[.slice A R.1.length c], .int .i64 R.2]) ∧ OwnD w' w.heap.size w'.heap.size (.slice A R.1.length c) R.1 ∧ Below w.heap.size w w'
theorem DbInt.of {R : List Tab × Int} {ts : List Tab} {b : Int} {w w' : World} {A : Option Addr} {n c : Nat} (hR : R = (ts, b)) (h : OwnD w' w.heap.size w'.heap.size (.slice A n c) ts) (hb : Below w.heap.size w w') :
    DbInt R w (.returned (.tuple #[.agg #[.slice A n c], .int .i64 b])) w' := by
  subst hR
  have hn := h.len_eq
  subst hn
  exact ⟨A, c, rfl, h, hb⟩
def DbAnsI (ts : List Tab) (k : Int) (w : World) (e : Ending) (w' : World) : Prop :=
  ∃ (A : Option Addr) (c : Nat), e = .returned (.tuple #[.agg #[.slice A ts.length c], .int .i64 k]) ∧ OwnD w' w.heap.size w'.heap.size (.slice A ts.length c) ts ∧ Below w.heap.size w w'

set_option maxRecDepth 100000 in
set_option maxHeartbeats 2000000 in
theorem impl_ApplyUpdates_any (A : Option Addr) (n c B : Nat) (ts : List Tab) (A' : Option Addr) (n' c' : Nat) (us : List Upd) (w : World) (hr : RdT w B A n ts) (hB : B ≤ w.heap.size) (hn : n ≤ 1048576) (hs : sumT ts ≤ 1048576) (hr' : RdU w B A' n' us) (hn' : n' ≤ 1048576) (hus : sumU us ≤ 1048576) :
    Calls Try.prog 38 #[.agg #[.slice A n c], .slice A' n' c'] w (DbInt (appsR ts us) w) := by
  have HL := Lib.hid hr.1
  have HL' := Lib.hid hr'.1
  have hus' := Lib.hid hus
  have hs' := Lib.hid hs
  clear hus hs
  go_enter Try.func38, Try.ntmps38
  go_wp2_with fail
  have kn0 : Kn w [(w.heap.size, 0, .slice A n c), (w.heap.size + 1, 0, .slice none 0 0)] ((w.alloc (.cells #[.slice A n c] 29)).alloc (.cells #[.slice none 0 0] 29)) := by
    simpa using ((Kn.start w).box1 (.slice A n c) 29).box1 (.slice none 0 0) 29
  have s0 : w.heap.size + 2 ≤ ((w.alloc (.cells #[.slice A n c] 29)).alloc (.cells #[.slice none 0 0] 29)).heap.size := by simp
  generalize (w.alloc (.cells #[.slice A n c] 29)).alloc (.cells #[.slice none 0 0] 29) = w0 at kn0 s0 ⊢
  refine (copyDatabase_any A n c B ts w0 (RdT.belowB hr kn0.bel hB) (Nat.le_trans hB kn0.bel.size) (by omega) (by have := hs'.out; omega)).mono ?_
  rintro e w1 ⟨A1, c1, rfl, ho, hb⟩
  have s1 := hb.size
  have kn1 := kn0.next hb
  obtain ⟨d0, d1, _⟩ := kn1.all
  have ne0 : w.heap.size < w1.heap.size := by omega
  have ne1 : w.heap.size + 1 < w1.heap.size := by omega
  go_wp2_with fail
  have kn2 : Kn w ([(w.heap.size, 0, .slice A n c), (w.heap.size + 1, 0, .slice none 0 0)] ++ [(w1.heap.size, 0, .slice A1 ts.length c1)]) (w1.alloc (.cells #[.slice A1 ts.length c1] 29)) := kn1.box1 (.slice A1 ts.length c1) 29
  have HO2 : Hid (OwnD (w1.alloc (.cells #[.slice A1 ts.length c1] 29)) w0.heap.size w1.heap.size (.slice A1 ts.length c1) ts) := OwnD.alloc ho _
  have s2 : w1.heap.size + 1 ≤ (w1.alloc (.cells #[.slice A1 ts.length c1] 29)).heap.size := by simp
  generalize w1.alloc (.cells #[.slice A1 ts.length c1] 29) = w2 at kn2 HO2 s2 ⊢
  clear ho hb kn0 kn1 d0 d1
  go_loopw [7, 8, 9, 10, 15] (fun _ _ _ _ i wr => ∃ (k : Nat) (cur : List Tab) (Ac : Option Addr) (cc lo hi : Nat), k ≤ n' ∧ i = .int .i64 k ∧ Hid (Kn w ([(w.heap.size, 0, .slice A n c), (w.heap.size + 1, 0, .slice none 0 0)] ++ [(w1.heap.size, 0, .slice Ac cur.length cc)]) wr) ∧ Hid (OwnD wr lo hi (.slice Ac cur.length cc) cur) ∧ w.heap.size + 2 ≤ lo ∧ hi ≤ wr.heap.size ∧ (hi ≤ w1.heap.size ∨ w1.heap.size < lo) ∧ Hid (appsF cur k (us.drop k) = appsR ts us) ∧ cur.length ≤ 1048576 ∧ Hid (sumT cur ≤ 1048576) ∧ w1.heap.size + 1 ≤ wr.heap.size) (fun _ _ _ _ i _ => n' - (intOf i).toNat)
  case atStart => exact ⟨0, ts, A1, c1, w0.heap.size, w1.heap.size, by omega, rfl, kn2, HO2.out, by omega, by omega, .inl (Nat.le_refl _), by show _ = _; rfl, by rw [HL.out]; exact hn, hs'.out, s2⟩
  case round =>
    obtain ⟨k, cur, Ac, cc, lo, hi, hk, rfl, hkn, hown, hlo, hhi, hoff, hap, hcl, hcs, hw1⟩ := hrel
    have HCL := Lib.hid hcl
    obtain ⟨e0, e1, e2, _⟩ := hkn.out.all
    obtain ⟨f0, f1, f2, _⟩ := hkn.out.fall
    have ner0 : w.heap.size < wr.heap.size := by omega
    have ner1 : w.heap.size + 1 < wr.heap.size := by omega
    have ner2 : w1.heap.size < wr.heap.size := by omega
    by_cases hlt : k < n'
    · obtain ⟨b, o, u, Au, cu, rfl, hb', hx, hc0, hc1, hc2, hrd, hm, hnm⟩ := RdU.at_ hr' hlt
      have x0 := (hkn.out.bel.cell (p := ⟨b, o + k * 3, none⟩) (by show b < _; omega)).trans hc0
      have x1 := (hkn.out.bel.cell (p := ⟨b, o + k * 3 + 1, none⟩) (by show b < _; omega)).trans hc1
      have x2 := (hkn.out.bel.cell (p := ⟨b, o + k * 3 + 2, none⟩) (by show b < _; omega)).trans hc2
      have neb : b < wr.heap.size := by omega
      have hul := sumU_mem (List.mem_of_getElem? hx)
      have hul' : Hid (u.zs.length ≤ 1048576) := by show _ ≤ _; have := hus'.out; omega
      have HX := Lib.hid hx
      have HRD := Lib.hid hrd
      have HNM := Lib.hid hnm
      obtain ⟨Q, okq, hQ⟩ : ∃ a b, appR cur u.nm u.ins u.zs = (a, b) := ⟨_, _, rfl⟩
      have HQ := Lib.hid hQ
      have hqs := appR_small (nm := u.nm) (ins := u.ins) (r := u.zs) hcl hcs.out
      rw [hQ] at hqs
      have HQS := Lib.hid hqs
      clear hx hc0 hc1 hc2 hrd hm hnm hul hQ hqs hcl
      obtain ⟨xn, xi, xz⟩ := u
      go_wp2_with fail
      have knw := hkn.out.box3 (.string xn) (.bool xi) (.slice Au xz.length cu) 64
      have HOW : Hid (OwnD (wr.alloc (.cells #[.string xn, .bool xi, .slice Au xz.length cu] 64)) lo hi (.slice Ac cur.length cc) cur) := OwnD.alloc hown.out _
      have s4 : wr.heap.size + 1 ≤ (wr.alloc (.cells #[.string xn, .bool xi, .slice Au xz.length cu] 64)).heap.size := by simp
      generalize wr.alloc (.cells #[.string xn, .bool xi, .slice Au xz.length cu] 64) = w4 at knw HOW s4 ⊢
      refine (impl_ApplyUpdate_any Ac cur.length cc w4.heap.size cur xn xi Au xz.length cu xz w4 ((HOW.out.rd rfl).more (by omega)) (Nat.le_refl _) HCL.out hcs.out ((RdI.belowB HRD.out knw.bel hB).more (Nat.le_trans hB knw.bel.size)) hul'.out HNM.out).mono ?_
      rintro e w5 ⟨A5, c5, rfl, ho5, hb5⟩
      have s5 := hb5.size
      have kn5 : Hid (Kn w ([(w.heap.size, 0, .slice A n c), (w.heap.size + 1, 0, .slice none 0 0)] ++ [(w1.heap.size, 0, .slice Ac cur.length cc)]) w5) := (knw.next hb5).sub fun t ht => List.mem_append.2 (.inl ht)
      have HOC := Lib.hid (HOW.out.below hb5 (by omega))
      have hq5 : appR cur xn xi xz = (Q, okq) := HQ.out
      rw [hq5] at ho5 ⊢
      have HO5 : Hid (OwnD w5 w4.heap.size w5.heap.size (.slice A5 Q.length c5) Q) := ho5
      clear ho5 hb5 knw HOW hkn hown e0 e1 e2 f0 f1 f2 x0 x1 x2 hq5 ner0 ner1 ner2 neb
      obtain ⟨e0, e1, e2, _⟩ := kn5.out.all
      obtain ⟨f0, f1, f2, _⟩ := kn5.out.fall
      have ner0 : w.heap.size < w5.heap.size := by omega
      have ner1 : w.heap.size + 1 < w5.heap.size := by omega
      have ner2 : w1.heap.size < w5.heap.size := by omega
      cases okq
      case false =>
        have hf := Lib.hid (hap.out.symm.trans (appsF_stop HX.out HQ.out))
        go_wp2_with fail
        refine bodyPost_ret (v := .tuple #[.agg #[.slice Ac cur.length cc], .int .i64 k]) (by simp [results, Try.results38, go_sem, *]) rfl (DbInt.of hf.out ?_ ?_)
        · refine OwnD.down (lo := lo) (OwnD.wide (hi := hi) ?_ (by simp; omega)) (by omega)
          repeat (with_reducible first | exact HOC.out | refine OwnD.alloc ?_ _ | refine OwnD.setOff ?_ (.inl (by omega)))
        · repeat first | exact kn5.out.bel | (refine Below.setCell ?_ ?_ _; rotate_left; (simp; try omega)) | (refine Below.alloc ?_ ?_ _; rotate_left; (simp; try omega))
      case true =>
        have hst := Lib.hid ((appsF_step HX.out HQ.out).symm.trans hap.out)
        go_wp2_with fail
        have kn6 : Hid (Kn w ([(w.heap.size, 0, .slice A n c), (w.heap.size + 1, 0, .slice none 0 0)] ++ [(w1.heap.size, 0, .slice A5 Q.length c5)]) ((w5.setCell ⟨w1.heap.size, 0, none⟩ (.slice A5 Q.length c5)).alloc (.cells #[.slice A5 Q.length c5] 29))) :=
          (Kn.set1 kn5.out (by omega) (by simp only [List.forall_mem_cons]; simp; omega) _).next ((Below.refl _ _).alloc (Nat.le_refl _) _)
        refine ⟨⟨k + 1, Q, A5, c5, w4.heap.size, w5.heap.size, by omega, by go_num, kn6, ?_, by omega, by simp, .inr (by omega), hst, HQS.out.1, HQS.out.2, by simp; omega⟩, ?_⟩
        · exact OwnD.alloc (OwnD.setOff HO5.out (.inl (by omega))) _
        · simp [intOf]
          omega
    · obtain rfl : k = n' := by omega
      have hf := Lib.hid (hap.out.symm.trans (appsF_end cur (Nat.le_of_eq HL'.out)))
      go_wp2_with fail
      refine bodyPost_ret (v := .tuple #[.agg #[.slice Ac cur.length cc], .int .i64 k]) (by simp [results, Try.results38, go_sem, *]) rfl (DbInt.of hf.out ?_ ?_)
      · refine OwnD.down (lo := lo) (OwnD.wide (hi := hi) ?_ (by simp; omega)) (by omega)
        repeat (with_reducible first | exact hown.out | refine OwnD.setOff ?_ (.inl (by omega)))
      · repeat first | exact hkn.out.bel | (refine Below.setCell ?_ ?_ _; rotate_left; (simp; try omega))
end Go.Proofs.Ytimlecfneibjlaa
namespace Go.Proofs.Ytimlecfneibjlaa
open Go.RowKit Go.Deep

section
open Go.ChangeShapes Go.WideShapes Go.Joins
variable {H : Type} {enc : TypeId × Value → H} {W : World}
theorem open_rUpd {n : Nat} {cs' : List Value} {y : DataW H × List MemPlace} (hl : cs'.length = 3) (h : DataW.trod enc Try.prog W 0 (fun _ => true) true n 61 cs' = some y) : ∃ t, RUpd W W.heap.size cs' t := by
  match cs', hl with
  | [c0, c1, c2], _ =>
    obtain ⟨y0, y1, y2, m, h0, h1, h2⟩ := trod_three Try.underlying61 (by kernel_rfl) h
    obtain ⟨s, e0, _, hs⟩ := DataW.trod_string Try.underlying9 h0
    obtain ⟨k, e1, _⟩ := DataW.trod_bool Try.underlying4 h1
    obtain ⟨A, len, cap, rs, e2, hm, hr⟩ := open_ints1 h2
    simp at e0 e1 e2
    subst e0 e1 e2
    have hlen := hr.1
    subst hlen
    exact ⟨⟨s, k, rs⟩, A, cap, rfl, hr, hm, hs⟩
theorem open_upds {fuel : Nat} {cs : List Value} {x : DataW H × List MemPlace} (h : DataW.trod enc Try.prog W 0 (fun _ => true) true fuel 50 cs = some x) :
    ∃ (A : Option Addr) (len cap : Nat) (ts : List Upd), cs = [.slice A len cap] ∧ len ≤ maxLen ∧ RdU W W.heap.size A len ts :=
  open_rdSl Try.underlying50 (by kernel_rfl) (by omega) (fun _ _ _ hl ht => open_rUpd hl ht) h
end

set_option maxRecDepth 100000 in
set_option maxHeartbeats 2000000 in
theorem spec_ApplyUpdates_any (A : Option Addr) (n c B : Nat) (ts : List Tab) (A' : Option Addr) (n' c' : Nat) (us : List Upd) (w : World) (hr : RdT w B A n ts) (hB : B ≤ w.heap.size) (hn : n ≤ 1048576) (hs : sumT ts ≤ 1048576) (hr' : RdU w B A' n' us) (hn' : n' ≤ 1048576) (hus : sumU us ≤ 1048576) :
    Calls Try.prog 36 #[.agg #[.slice A n c], .slice A' n' c'] w (DbInt (appsR ts us) w) := by
  have HL := Lib.hid hr.1
  have HL' := Lib.hid hr'.1
  have hus' := Lib.hid hus
  have hs' := Lib.hid hs
  clear hus hs
  go_enter Try.func36, Try.ntmps36
  go_wp2_with fail
  have kn0 : Kn w [(w.heap.size, 0, .slice A n c), (w.heap.size + 1, 0, .slice none 0 0)] ((w.alloc (.cells #[.slice A n c] 29)).alloc (.cells #[.slice none 0 0] 29)) := by
    simpa using ((Kn.start w).box1 (.slice A n c) 29).box1 (.slice none 0 0) 29
  have s0 : w.heap.size + 2 ≤ ((w.alloc (.cells #[.slice A n c] 29)).alloc (.cells #[.slice none 0 0] 29)).heap.size := by simp
  generalize (w.alloc (.cells #[.slice A n c] 29)).alloc (.cells #[.slice none 0 0] 29) = w0 at kn0 s0 ⊢
  refine (l5Copy_any A n c B ts w0 (RdT.belowB hr kn0.bel hB) (Nat.le_trans hB kn0.bel.size) (by omega) (by have := hs'.out; omega)).mono ?_
  rintro e w1 ⟨A1, c1, rfl, ho, hb⟩
  have s1 := hb.size
  have kn1 := kn0.next hb
  obtain ⟨d0, d1, _⟩ := kn1.all
  have ne0 : w.heap.size < w1.heap.size := by omega
  have ne1 : w.heap.size + 1 < w1.heap.size := by omega
  go_wp2_with fail
  have kn2 : Kn w ([(w.heap.size, 0, .slice A n c), (w.heap.size + 1, 0, .slice none 0 0)] ++ [(w1.heap.size, 0, .slice A1 ts.length c1)]) (w1.alloc (.cells #[.slice A1 ts.length c1] 29)) := kn1.box1 (.slice A1 ts.length c1) 29
  have HO2 : Hid (OwnD (w1.alloc (.cells #[.slice A1 ts.length c1] 29)) w0.heap.size w1.heap.size (.slice A1 ts.length c1) ts) := OwnD.alloc ho _
  have s2 : w1.heap.size + 1 ≤ (w1.alloc (.cells #[.slice A1 ts.length c1] 29)).heap.size := by simp
  generalize w1.alloc (.cells #[.slice A1 ts.length c1] 29) = w2 at kn2 HO2 s2 ⊢
  clear ho hb kn0 kn1 d0 d1
  go_loopw [7, 8, 9] (fun i _ _ wr => ∃ (k : Nat) (cur : List Tab) (Ac : Option Addr) (cc lo hi : Nat), k ≤ n' ∧ i = .int .i64 k ∧ Hid (Kn w ([(w.heap.size, 0, .slice A n c), (w.heap.size + 1, 0, .slice none 0 0)] ++ [(w1.heap.size, 0, .slice Ac cur.length cc)]) wr) ∧ Hid (OwnD wr lo hi (.slice Ac cur.length cc) cur) ∧ w.heap.size + 2 ≤ lo ∧ hi ≤ wr.heap.size ∧ (hi ≤ w1.heap.size ∨ w1.heap.size < lo) ∧ Hid (appsF cur k (us.drop k) = appsR ts us) ∧ cur.length ≤ 1048576 ∧ Hid (sumT cur ≤ 1048576) ∧ w1.heap.size + 1 ≤ wr.heap.size) (fun i _ _ _ => n' - (intOf i).toNat)
  case atStart => exact ⟨0, ts, A1, c1, w0.heap.size, w1.heap.size, by omega, rfl, kn2, HO2.out, by omega, by omega, .inl (Nat.le_refl _), by show _ = _; rfl, by rw [HL.out]; exact hn, hs'.out, s2⟩
  case round =>
    obtain ⟨k, cur, Ac, cc, lo, hi, hk, rfl, hkn, hown, hlo, hhi, hoff, hap, hcl, hcs, hw1⟩ := hrel
    have HCL := Lib.hid hcl
    obtain ⟨e0, e1, e2, _⟩ := hkn.out.all
    obtain ⟨f0, f1, f2, _⟩ := hkn.out.fall
    have ner0 : w.heap.size < wr.heap.size := by omega
    have ner1 : w.heap.size + 1 < wr.heap.size := by omega
    have ner2 : w1.heap.size < wr.heap.size := by omega
    by_cases hlt : k < n'
    · obtain ⟨b, o, u, Au, cu, rfl, hb', hx, hc0, hc1, hc2, hrd, hm, hnm⟩ := RdU.at_ hr' hlt
      have x0 := (hkn.out.bel.cell (p := ⟨b, o + k * 3, none⟩) (by show b < _; omega)).trans hc0
      have x1 := (hkn.out.bel.cell (p := ⟨b, o + k * 3 + 1, none⟩) (by show b < _; omega)).trans hc1
      have x2 := (hkn.out.bel.cell (p := ⟨b, o + k * 3 + 2, none⟩) (by show b < _; omega)).trans hc2
      have neb : b < wr.heap.size := by omega
      have hul := sumU_mem (List.mem_of_getElem? hx)
      have hul' : Hid (u.zs.length ≤ 1048576) := by show _ ≤ _; have := hus'.out; omega
      have HX := Lib.hid hx
      have HRD := Lib.hid hrd
      have HNM := Lib.hid hnm
      obtain ⟨Q, okq, hQ⟩ : ∃ a b, appR cur u.nm u.ins u.zs = (a, b) := ⟨_, _, rfl⟩
      have HQ := Lib.hid hQ
      have hqs := appR_small (nm := u.nm) (ins := u.ins) (r := u.zs) hcl hcs.out
      rw [hQ] at hqs
      have HQS := Lib.hid hqs
      clear hx hc0 hc1 hc2 hrd hm hnm hul hQ hqs hcl
      obtain ⟨xn, xi, xz⟩ := u
      have g1 : (0 : Int) ≤ (k : Int) := by omega
      have g2 : (k : Int) < (n' : Int) := by omega
      have g3 : (k : Int).toNat = k := by omega
      have KS : Hid (∀ W, Below wr.heap.size wr W → Calls Try.prog 56 #[.agg #[.slice Ac cur.length cc], .agg #[.string xn, .bool xi, .slice Au xz.length cu]] W (DbAns Q okq W)) := fun W bw => by
        have := spec_ApplyUpdate_any Ac cur.length cc W.heap.size cur xn xi Au xz.length cu xz W ((RdT.belowB (hown.out.rd rfl) bw hhi).more (Nat.le_trans hhi bw.size)) (Nat.le_refl _) HCL.out hcs.out ((RdI.belowB HRD.out (hkn.out.bel.trans (bw.mono hkn.out.bel.size)) hB).more (Nat.le_trans hB (Nat.le_trans hkn.out.bel.size bw.size))) hul'.out HNM.out
        rw [(HQ.out : appR cur xn xi xz = (Q, okq))] at this
        exact this
      have KB : Hid (∀ W, Below wr.heap.size wr W → W.cell? ⟨w.heap.size, 0, none⟩ = some (.slice A n c) ∧ W.cell? ⟨w.heap.size + 1, 0, none⟩ = some (.slice none 0 0) ∧ W.cell? ⟨w1.heap.size, 0, none⟩ = some (.slice Ac cur.length cc) ∧ W.cell? ⟨b, o + k * 3, none⟩ = some (.string xn) ∧ W.cell? ⟨b, o + k * 3 + 1, none⟩ = some (.bool xi) ∧ W.cell? ⟨b, o + k * 3 + 2, none⟩ = some (.slice Au xz.length cu) ∧ Below wr.heap.size wr W) := fun W bw =>
        ⟨(bw.cell (p := ⟨w.heap.size, 0, none⟩) ner0).trans e0, (bw.cell (p := ⟨w.heap.size + 1, 0, none⟩) ner1).trans e1, (bw.cell (p := ⟨w1.heap.size, 0, none⟩) ner2).trans e2, (bw.cell (p := ⟨b, o + k * 3, none⟩) neb).trans x0, (bw.cell (p := ⟨b, o + k * 3 + 1, none⟩) neb).trans x1, (bw.cell (p := ⟨b, o + k * 3 + 2, none⟩) neb).trans x2, bw⟩
      have hkn0 : Kn w ([(w.heap.size, 0, .slice A n c), (w.heap.size + 1, 0, .slice none 0 0)] ++ [(w1.heap.size, 0, .slice Ac cur.length cc)]) wr := hkn.out
      go_upto_region 5 with fail
      go_cut [8, 9] from 12 to 31 (fun p q wx => CutD w ([(w.heap.size, 0, .slice A n c), (w.heap.size + 1, 0, .slice none 0 0)] ++ [(w1.heap.size, 0, .slice Ac cur.length cc)]) wr Q okq p q wx)
      case first =>
        have bz : Below wr.heap.size wr wr.drew := (Below.refl _ _).drew
        go_region_held3 (fun W => W.cell? ⟨w.heap.size, 0, none⟩ = some (.slice A n c) ∧ W.cell? ⟨w.heap.size + 1, 0, none⟩ = some (.slice none 0 0) ∧ W.cell? ⟨w1.heap.size, 0, none⟩ = some (.slice Ac cur.length cc) ∧ W.cell? ⟨b, o + k * 3, none⟩ = some (.string xn) ∧ W.cell? ⟨b, o + k * 3 + 1, none⟩ = some (.bool xi) ∧ W.cell? ⟨b, o + k * 3 + 2, none⟩ = some (.slice Au xz.length cu) ∧ Below wr.heap.size wr W)
          (first | assumption | exact KB.out _ (by assumption) | exact KB.out _ bel_ald | exact KB.out _ (bel_al bz) | exact KB.out _ (bel_cell bz hB.lo))
          (first
            | (go_at_call 56; ((with_reducible refine (KS.out _ bz).mono ?_); rintro e w5 ⟨A5, c5, rfl, ow, b1⟩; obtain ⟨bo, bz⟩ := box_none bz b1))
            | (go_at_call 56; ((with_reducible refine (KS.out _ bel_ald).mono ?_); rintro e w5 ⟨A5, c5, rfl, ow, b1⟩; obtain ⟨bo, hB, hBo, bz⟩ := box_madeD b1; have cB := hB.cell; have fB := hB.frz)))
        all_goals (go_wp2_with fail)
        all_goals (go_meet; first | exact CutD.of hkn0 bo b1 ow | exact CutD.of2 hkn0 bo b1 hB hBo ow)
      case rest =>
      generalize wc = w5 at hcut ⊢
      obtain ⟨A5, c5, B5, hi5, rfl, rfl, kx, ow, hi5B, B5lt, b5⟩ := hcut
      have s5 := b5.size
      have kn5 : Hid (Kn w ([(w.heap.size, 0, .slice A n c), (w.heap.size + 1, 0, .slice none 0 0)] ++ [(w1.heap.size, 0, .slice Ac cur.length cc)]) w5) := kx.sub fun t ht => List.mem_append.2 (.inl ht)
      have HOC := Lib.hid (hown.out.below b5 hhi)
      have HO5 : Hid (OwnD w5 wr.heap.size hi5 (.slice A5 Q.length c5) Q) := ow
      have eB := (kx.cell (B5, 0, .slice A5 Q.length c5) (by simp)).2
      simp only at eB
      clear kx ow b5 KS KB hkn0 hkn hown e0 e1 e2 f0 f1 f2 x0 x1 x2 ner0 ner1 ner2 neb g1 g2 g3
      obtain ⟨e0, e1, e2, _⟩ := kn5.out.all
      obtain ⟨f0, f1, f2, _⟩ := kn5.out.fall
      cases okq
      case false =>
        have hf := Lib.hid (hap.out.symm.trans (appsF_stop HX.out HQ.out))
        go_wp2_with fail
        refine bodyPost_ret (v := .tuple #[.agg #[.slice Ac cur.length cc], .int .i64 k]) (by simp [results, Try.results36, go_sem, *]) rfl (DbInt.of hf.out ?_ ?_)
        · refine OwnD.down (lo := lo) (OwnD.wide (hi := hi) ?_ (by simp; omega)) (by omega)
          repeat (with_reducible first | exact HOC.out | refine OwnD.alloc ?_ _ | refine OwnD.setOff ?_ (.inl (by omega)))
        · repeat first | exact kn5.out.bel | (refine Below.setCell ?_ ?_ _; rotate_left; (simp; try omega)) | (refine Below.alloc ?_ ?_ _; rotate_left; (simp; try omega))
      case true =>
        have hst := Lib.hid ((appsF_step HX.out HQ.out).symm.trans hap.out)
        go_wp2_with fail
        have kn6 : Hid (Kn w ([(w.heap.size, 0, .slice A n c), (w.heap.size + 1, 0, .slice none 0 0)] ++ [(w1.heap.size, 0, .slice A5 Q.length c5)]) (w5.setCell ⟨w1.heap.size, 0, none⟩ (.slice A5 Q.length c5))) :=
          Kn.set1 kn5.out (by omega) (by simp only [List.forall_mem_cons]; simp; omega) _
        refine ⟨⟨k + 1, Q, A5, c5, wr.heap.size, hi5, by omega, by go_num, kn6, ?_, by omega, by simp; omega, .inr (by omega), hst, HQS.out.1, HQS.out.2, by simp; omega⟩, ?_⟩
        · exact OwnD.setOff HO5.out (.inl (by omega))
        · simp [intOf]
          omega
    · obtain rfl : k = n' := by omega
      have hf := Lib.hid (hap.out.symm.trans (appsF_end cur (Nat.le_of_eq HL'.out)))
      go_wp2_with fail
      refine bodyPost_ret (v := .tuple #[.agg #[.slice Ac cur.length cc], .int .i64 k]) (by simp [results, Try.results36, go_sem, *]) rfl (DbInt.of hf.out ?_ ?_)
      · refine OwnD.down (lo := lo) (OwnD.wide (hi := hi) ?_ (by simp; omega)) (by omega)
        repeat (with_reducible first | exact hown.out | refine OwnD.setOff ?_ (.inl (by omega)))
      · repeat first | exact hkn.out.bel | (refine Below.setCell ?_ ?_ _; rotate_left; (simp; try omega))
end Go.Proofs.Ytimlecfneibjlaa
