/- UApp, UAppS, in one text (a claim has at most 60 files). -/
import Derived.Test.YtimlecfneibjlaaLook
import Derived.Test.YtimlecfneibjlaaIns
import Derived.Test.YtimlecfneibjlaaDel
import Derived.Test.YtimlecfneibjlaaDelS
import Derived.Test.YtimlecfneibjlaaSetI
import Derived.Test.YtimlecfneibjlaaSetS
import Derived.Test.YtimlecfneibjlaaCopyD
import Derived.Test.YtimlecfneibjlaaUpd
namespace Go.Proofs.Ytimlecfneibjlaa
open Go.RowKit Go.Deep

theorem Kn.set3 {w W : World} {L : List (Nat × Nat × Value)} {B : Nat} {x y z : Value} (h : Kn w (L ++ [(B, 0, x), (B, 1, y), (B, 2, z)]) W) (hB : w.heap.size ≤ B) (hL : ∀ t ∈ L, t.1 < B) (x' y' z' : Value) :
    Kn w (L ++ [(B, 0, x'), (B, 1, y'), (B, 2, z')]) (((W.setCell ⟨B, 0, none⟩ x').setCell ⟨B, 1, none⟩ y').setCell ⟨B, 2, none⟩ z') := by
  have b3 : Below B W (((W.setCell ⟨B, 0, none⟩ x').setCell ⟨B, 1, none⟩ y').setCell ⟨B, 2, none⟩ z') := (((Below.refl B W).setCell (Nat.le_refl _) _).setCell (Nat.le_refl _) _).setCell (Nat.le_refl _) _
  have e0 := (h.cell (B, 0, x) (by simp)).2
  have e1 := (h.cell (B, 1, y) (by simp)).2
  have e2 := (h.cell (B, 2, z) (by simp)).2
  have f0 := h.frz (B, 0, x) (by simp)
  have f1 := h.frz (B, 1, y) (by simp)
  have f2 := h.frz (B, 2, z) (by simp)
  have hlt := (h.cell (B, 0, x) (by simp)).1
  simp only at e0 e1 e2 f0 f1 f2 hlt
  refine ⟨h.bel.trans (b3.mono hB), fun t ht => ?_, fun t ht => ?_⟩
  · rcases List.mem_append.1 ht with ht | ht
    · exact ⟨Nat.lt_of_lt_of_le (h.cell t (by simp [ht])).1 b3.size, (b3.cell (p := ⟨t.1, t.2.1, none⟩) (hL t ht)).trans (h.cell t (by simp [ht])).2⟩
    · simp only [List.mem_cons, List.not_mem_nil, or_false] at ht
      rcases ht with rfl | rfl | rfl
      · exact ⟨Nat.lt_of_lt_of_le hlt b3.size, by simp [go_sem, e0]⟩
      · exact ⟨Nat.lt_of_lt_of_le hlt b3.size, by simp [go_sem, e1]⟩
      · exact ⟨Nat.lt_of_lt_of_le hlt b3.size, by simp [go_sem, e2]⟩
  · rcases List.mem_append.1 ht with ht | ht
    · exact (b3.frozen (p := ⟨t.1, t.2.1, none⟩) (hL t ht)).trans (h.frz t (by simp [ht]))
    · simp only [List.mem_cons, List.not_mem_nil, or_false] at ht
      rcases ht with rfl | rfl | rfl <;> simp [go_sem, f0, f1, f2]

/-- A row put into or out of the table of that name. -/
def modR (t : TabR) (ins : Bool) (r : List Int) : TabR := if ins = true then insR t.nm t.ar t.rs r else delR t.nm t.ar t.rs r
/-- What ApplyUpdate answers. -/
def appR (ts : List Tab) (nm : ByteArray) (ins : Bool) (r : List Int) : List Tab × Bool :=
  if (lookR ts nm).ok = true then (if (modR (lookR ts nm) ins r).ok = true then setR ts ⟨(modR (lookR ts nm) ins r).nm, (modR (lookR ts nm) ins r).ar, (modR (lookR ts nm) ins r).rs⟩ else (ts, false)) else (ts, false)
theorem appR_none {ts : List Tab} {nm : ByteArray} {ins : Bool} {r : List Int} (h : (lookR ts nm).ok = false) : appR ts nm ins r = (ts, false) := by rw [appR, if_neg (by simp [h])]
theorem appR_no {ts : List Tab} {nm : ByteArray} {ins : Bool} {r : List Int} (h : (lookR ts nm).ok = true) (h2 : (modR (lookR ts nm) ins r).ok = false) : appR ts nm ins r = (ts, false) := by rw [appR, if_pos h, if_neg (by simp [h2])]
theorem appR_yes {ts : List Tab} {nm : ByteArray} {ins : Bool} {r : List Int} {yn : ByteArray} {ya : Int} {yr : List (List Int)} (h : (lookR ts nm).ok = true) (h2 : modR (lookR ts nm) ins r = ⟨yn, ya, yr, true⟩) : appR ts nm ins r = setR ts ⟨yn, ya, yr⟩ := by rw [appR, if_pos h, h2, if_pos rfl]
theorem appR_small {ts : List Tab} {nm : ByteArray} {ins : Bool} {r : List Int} (hl : ts.length ≤ 1048576) (hs : sumT ts ≤ 1048576) : (appR ts nm ins r).1.length ≤ 1048576 ∧ sumT (appR ts nm ins r).1 ≤ 1048576 := by
  unfold appR
  split
  · split
    · exact setR_small hl hs
    · exact ⟨hl, hs⟩
  · exact ⟨hl, hs⟩
theorem look_small {ts : List Tab} {nm : ByteArray} (hs : sumT ts ≤ 1048576) (h : (lookR ts nm).ok = true) : (lookR ts nm).nm = nm ∧ (lookR ts nm).rs.length ≤ 1048576 ∧ sumL (lookR ts nm).rs ≤ 1048576 := by
  obtain ⟨_, t, ht, hn, hR⟩ := lookR_ok h
  have := sumT_mem ht
  rw [hR]
  exact ⟨hn, by show t.rs.length ≤ _; omega, by show sumL t.rs ≤ _; omega⟩
theorem modR_small {nm : ByteArray} {ar : Int} {rs : List (List Int)} {ok : Bool} (ins : Bool) {r : List Int} (hl : rs.length ≤ 1048576) (hs : sumL rs ≤ 1048576) (hr : r.length ≤ 1048576) :
    (modR ⟨nm, ar, rs, ok⟩ ins r).nm = nm ∧ (modR ⟨nm, ar, rs, ok⟩ ins r).rs.length ≤ 1048576 ∧ sumL (modR ⟨nm, ar, rs, ok⟩ ins r).rs ≤ 4294967296 := by
  cases ins
  · have h := delR_small nm ar rs r hl hs
    have e : modR ⟨nm, ar, rs, ok⟩ false r = delR nm ar rs r := by simp [modR]
    rw [e]
    exact ⟨by unfold delR; split <;> rfl, h⟩
  · have h := insR_small nm ar rs r hl hs hr
    have e : modR ⟨nm, ar, rs, ok⟩ true r = insR nm ar rs r := by simp [modR]
    rw [e]
    exact ⟨by unfold insR; split <;> rfl, h⟩

set_option maxRecDepth 100000 in
set_option maxHeartbeats 2000000 in
theorem impl_ApplyUpdate_any (A : Option Addr) (n c B : Nat) (ts : List Tab) (nm : ByteArray) (ins : Bool) (A' : Option Addr) (n' c' : Nat) (r : List Int) (w : World) (hr : RdT w B A n ts) (hB : B ≤ w.heap.size) (hn : n ≤ 1048576) (hs : sumT ts ≤ 1048576) (hr' : RdI w B A' n' r) (hn' : n' ≤ 1048576) (hnm : nm.size ≤ maxLen) :
    Calls Try.prog 57 #[.agg #[.slice A n c], .agg #[.string nm, .bool ins, .slice A' n' c']] w (DbBool (appR ts nm ins r) w) := by
  have hsm : Hid (sumT ts ≤ 4294967296) := by show _ ≤ _; omega
  have hsm' := Lib.hid hs
  have hrl : r.length ≤ 1048576 := by rw [hr'.1]; exact hn'
  clear hs
  go_enter Try.func57, Try.ntmps57
  go_wp2_with fail
  have kn0 : Kn w [(w.heap.size, 0, .slice A n c), (w.heap.size + 1, 0, .string nm), (w.heap.size + 1, 1, .bool ins), (w.heap.size + 1, 2, .slice A' n' c'), (w.heap.size + 1 + 1, 0, .slice none 0 0)] (((w.alloc (.cells #[.slice A n c] 29)).alloc (.cells #[.string nm, .bool ins, .slice A' n' c'] 64)).alloc (.cells #[.slice none 0 0] 29)) := by simpa using (((Kn.start w).box1 (.slice A n c) 29).box3 (.string nm) (.bool ins) (.slice A' n' c') 64).box1 (.slice none 0 0) 29
  have s0 : w.heap.size + 3 ≤ (((w.alloc (.cells #[.slice A n c] 29)).alloc (.cells #[.string nm, .bool ins, .slice A' n' c'] 64)).alloc (.cells #[.slice none 0 0] 29)).heap.size := by simp
  generalize ((w.alloc (.cells #[.slice A n c] 29)).alloc (.cells #[.string nm, .bool ins, .slice A' n' c'] 64)).alloc (.cells #[.slice none 0 0] 29) = w0 at kn0 s0 ⊢
  refine (impl_LookupTable_any A n c B ts nm w0 (RdT.belowB hr kn0.bel hB) (Nat.le_trans hB kn0.bel.size) (by omega) hsm.out).mono ?_
  rintro e w1 ⟨A1, c1, rfl, ho, hb⟩
  have s1 := hb.size
  have kn1 := kn0.next hb
  obtain ⟨xn, xa, xr, ok, hR⟩ : ∃ a b c d, lookR ts nm = ⟨a, b, c, d⟩ := ⟨_, _, _, _, rfl⟩
  rw [hR] at ho ⊢
  have HR := Lib.hid hR
  have HO1 : Hid (OwnR w1 w0.heap.size w1.heap.size (.slice A1 xr.length c1) xr) := ho
  clear hR ho hb kn0
  obtain ⟨d0, d1, d2, d3, d4, _⟩ := kn1.all
  have ne0 : w.heap.size < w1.heap.size := by omega
  have ne1 : w.heap.size + 1 < w1.heap.size := by omega
  have ne2 : w.heap.size + 1 + 1 < w1.heap.size := by omega
  cases ok
  case false =>
    have hf := Lib.hid (appR_none (ins := ins) (r := r) (by rw [HR.out] : (lookR ts nm).ok = false))
    go_wp2_with fail
    have kn2 : Kn w [(w.heap.size, 0, .slice A n c), (w.heap.size + 1, 0, .string nm), (w.heap.size + 1, 1, .bool ins), (w.heap.size + 1, 2, .slice A' n' c'), (w.heap.size + 1 + 1, 0, .slice none 0 0), (w1.heap.size, 0, .string xn), (w1.heap.size, 1, .int .i64 xa), (w1.heap.size, 2, .slice A1 xr.length c1)] (w1.alloc (.cells #[.string xn, .int .i64 xa, .slice A1 xr.length c1] 36)) := by simpa using kn1.box3 (.string xn) (.int .i64 xa) (.slice A1 xr.length c1) 36
    have s2 : w1.heap.size + 1 ≤ (w1.alloc (.cells #[.string xn, .int .i64 xa, .slice A1 xr.length c1] 36)).heap.size := by simp
    generalize w1.alloc (.cells #[.string xn, .int .i64 xa, .slice A1 xr.length c1] 36) = w2 at kn2 s2 ⊢
    refine (copyDatabase_any A n c B ts w2 (RdT.belowB hr kn2.bel hB) (Nat.le_trans hB kn2.bel.size) (by omega) hsm.out).mono ?_
    rintro e wc ⟨Ac, cc, rfl, hoc, hbc⟩
    have knc := kn2.next hbc
    have sc := hbc.size
    obtain ⟨k0, k1, k2, k3, k4, _⟩ := knc.all
    obtain ⟨f0, f1, f2, f3, f4, _⟩ := knc.fall
    have HOC := Lib.hid hoc
    have HKC := Lib.hid knc.bel
    clear hoc hbc knc
    go_wp2_with fail
    refine bodyPost_ret (v := .tuple #[.agg #[.slice Ac ts.length cc], .bool false]) (by simp [results, Try.results57, go_sem, *]) rfl (DbBool.of hf.out ?_ ?_)
    · refine OwnD.down (lo := w2.heap.size) (OwnD.wide (hi := wc.heap.size) ?_ (by simp)) (by omega)
      repeat refine OwnD.setOff ?_ (by omega)
      exact HOC.out
    · repeat first | exact HKC.out | (refine Below.setCell ?_ ?_ _; rotate_left; (simp; try omega))
  case true =>
    have hlk := look_small hsm'.out (by rw [HR.out] : (lookR ts nm).ok = true)
    rw [HR.out] at hlk
    obtain ⟨hxn0, hxl, hxs⟩ : xn = nm ∧ xr.length ≤ 1048576 ∧ sumL xr ≤ 1048576 := hlk
    have hxn := Lib.hid hxn0
    clear hxn0
    have hrow : Hid (∀ r ∈ xr, r.length ≤ 17592186044416) := fun r hr => by have := sumL_mem hr; omega
    cases ins
    case false =>
      have hms := Lib.hid (modR_small (nm := xn) (ar := xa) (ok := true) false hxl hxs hrl)
      have hmod : Hid (modR (lookR ts nm) false r = delR xn xa xr r) := by show _ = _; rw [HR.out]; simp [modR]
      go_wp2_with fail
      have kn2 : Kn w [(w.heap.size, 0, .slice A n c), (w.heap.size + 1, 0, .string nm), (w.heap.size + 1, 1, .bool false), (w.heap.size + 1, 2, .slice A' n' c'), (w.heap.size + 1 + 1, 0, .slice none 0 0), (w1.heap.size, 0, .string xn), (w1.heap.size, 1, .int .i64 xa), (w1.heap.size, 2, .slice A1 xr.length c1)] (w1.alloc (.cells #[.string xn, .int .i64 xa, .slice A1 xr.length c1] 36)) := by simpa using kn1.box3 (.string xn) (.int .i64 xa) (.slice A1 xr.length c1) 36
      have s2 : w1.heap.size + 1 ≤ (w1.alloc (.cells #[.string xn, .int .i64 xa, .slice A1 xr.length c1] 36)).heap.size := by simp
      have HO2 : Hid (OwnR (w1.alloc (.cells #[.string xn, .int .i64 xa, .slice A1 xr.length c1] 36)) w0.heap.size w1.heap.size (.slice A1 xr.length c1) xr) := OwnR.alloc HO1.out _
      generalize w1.alloc (.cells #[.string xn, .int .i64 xa, .slice A1 xr.length c1] 36) = w2 at kn2 s2 HO2 ⊢
      refine (impl_DeleteRow_any xn xa A1 A' xr.length c1 n' c' w2.heap.size xr r w2 ((HO2.out.rd rfl).more (by omega)) ((RdI.belowB hr' kn2.bel hB).more (Nat.le_trans hB kn2.bel.size)) (Nat.le_refl _) (by omega) (by omega) hrow.out).mono ?_
      rintro e w3 ⟨A3, c3, rfl, ho3, hb3⟩
      have s3 := hb3.size
      have kn3 := kn2.next hb3
      obtain ⟨yn, ya, yr, ok2, hY⟩ : ∃ a b c d, delR xn xa xr r = ⟨a, b, c, d⟩ := ⟨_, _, _, _, rfl⟩
      rw [hY] at ho3 ⊢
      have HM : Hid (modR (lookR ts nm) false r = ⟨yn, ya, yr, ok2⟩) := hmod.out.trans hY
      have hms2 := hms.out
      rw [← HR.out, HM.out] at hms2
      obtain ⟨hyn, hyl, hys⟩ : yn = xn ∧ yr.length ≤ 1048576 ∧ sumL yr ≤ 4294967296 := hms2
      have hyrow : Hid (∀ r ∈ yr, r.length ≤ 17592186044416) := fun r hr => by have := sumL_mem hr; omega
      have hynm : Hid (yn.size ≤ maxLen) := by show _ ≤ _; rw [hyn, hxn.out]; exact hnm
      have HO3 : Hid (OwnR w3 w2.heap.size w3.heap.size (.slice A3 yr.length c3) yr) := ho3
      clear hY hmod hms hyn ho3 hb3 HO2 HO1
      clear d0 d1 d2 d3 d4
      obtain ⟨d0, d1, d2, d3, d4, b0, b1, b2, _⟩ := kn3.all
      obtain ⟨fd0, fd1, fd2, fd3, fd4, fb0, fb1, fb2, _⟩ := kn3.fall
      cases ok2
      case false =>
        have hf := Lib.hid (appR_no (by rw [HR.out] : (lookR ts nm).ok = true) (by rw [HM.out] : (modR (lookR ts nm) false r).ok = false))
        go_wp2_with fail
        have kn4 : Kn w ([(w.heap.size, 0, .slice A n c), (w.heap.size + 1, 0, .string nm), (w.heap.size + 1, 1, .bool false), (w.heap.size + 1, 2, .slice A' n' c'), (w.heap.size + 1 + 1, 0, .slice none 0 0)] ++ [(w1.heap.size, 0, .string yn), (w1.heap.size, 1, .int .i64 ya), (w1.heap.size, 2, .slice A3 yr.length c3)]) (((w3.setCell ⟨w1.heap.size, 0, none⟩ (.string yn)).setCell ⟨w1.heap.size, 1, none⟩ (.int .i64 ya)).setCell ⟨w1.heap.size, 2, none⟩ (.slice A3 yr.length c3)) := Kn.set3 (L := [(w.heap.size, 0, .slice A n c), (w.heap.size + 1, 0, .string nm), (w.heap.size + 1, 1, .bool false), (w.heap.size + 1, 2, .slice A' n' c'), (w.heap.size + 1 + 1, 0, .slice none 0 0)]) kn3 (by omega) (by simp only [List.forall_mem_cons]; simp; try omega) _ _ _
        have s4 : (((w3.setCell ⟨w1.heap.size, 0, none⟩ (.string yn)).setCell ⟨w1.heap.size, 1, none⟩ (.int .i64 ya)).setCell ⟨w1.heap.size, 2, none⟩ (.slice A3 yr.length c3)).heap.size = w3.heap.size := by simp
        have HO4 : Hid (OwnR (((w3.setCell ⟨w1.heap.size, 0, none⟩ (.string yn)).setCell ⟨w1.heap.size, 1, none⟩ (.int .i64 ya)).setCell ⟨w1.heap.size, 2, none⟩ (.slice A3 yr.length c3)) w2.heap.size w3.heap.size (.slice A3 yr.length c3) yr) := OwnR.setOff (OwnR.setOff (OwnR.setOff HO3.out (.inl (by omega))) (.inl (by omega))) (.inl (by omega))
        generalize ((w3.setCell ⟨w1.heap.size, 0, none⟩ (.string yn)).setCell ⟨w1.heap.size, 1, none⟩ (.int .i64 ya)).setCell ⟨w1.heap.size, 2, none⟩ (.slice A3 yr.length c3) = w4 at kn4 s4 HO4 ⊢
        clear kn3 kn2 kn1 HO3 d0 d1 d2 d3 d4 b0 b1 b2 fd0 fd1 fd2 fd3 fd4 fb0 fb1 fb2
        refine (copyDatabase_any A n c B ts w4 (RdT.belowB hr kn4.bel hB) (Nat.le_trans hB kn4.bel.size) (by omega) hsm.out).mono ?_
        rintro e wc ⟨Ac, cc, rfl, hoc, hbc⟩
        have knc := kn4.next hbc
        have sc := hbc.size
        obtain ⟨k0, k1, k2, k3, k4, _⟩ := knc.all
        obtain ⟨f0, f1, f2, f3, f4, _⟩ := knc.fall
        have HOC := Lib.hid hoc
        have HKC := Lib.hid knc.bel
        clear hoc hbc knc
        go_wp2_with fail
        refine bodyPost_ret (v := .tuple #[.agg #[.slice Ac ts.length cc], .bool false]) (by simp [results, Try.results57, go_sem, *]) rfl (DbBool.of hf.out ?_ ?_)
        · refine OwnD.down (lo := w4.heap.size) (OwnD.wide (hi := wc.heap.size) ?_ (by simp)) (by omega)
          repeat refine OwnD.setOff ?_ (by omega)
          exact HOC.out
        · repeat first | exact HKC.out | (refine Below.setCell ?_ ?_ _; rotate_left; (simp; try omega))
      case true =>
        have hf := Lib.hid (appR_yes (by rw [HR.out] : (lookR ts nm).ok = true) HM.out)
        go_wp2_with fail
        have kn4 : Kn w ([(w.heap.size, 0, .slice A n c), (w.heap.size + 1, 0, .string nm), (w.heap.size + 1, 1, .bool false), (w.heap.size + 1, 2, .slice A' n' c'), (w.heap.size + 1 + 1, 0, .slice none 0 0)] ++ [(w1.heap.size, 0, .string yn), (w1.heap.size, 1, .int .i64 ya), (w1.heap.size, 2, .slice A3 yr.length c3)]) (((w3.setCell ⟨w1.heap.size, 0, none⟩ (.string yn)).setCell ⟨w1.heap.size, 1, none⟩ (.int .i64 ya)).setCell ⟨w1.heap.size, 2, none⟩ (.slice A3 yr.length c3)) := Kn.set3 (L := [(w.heap.size, 0, .slice A n c), (w.heap.size + 1, 0, .string nm), (w.heap.size + 1, 1, .bool false), (w.heap.size + 1, 2, .slice A' n' c'), (w.heap.size + 1 + 1, 0, .slice none 0 0)]) kn3 (by omega) (by simp only [List.forall_mem_cons]; simp; try omega) _ _ _
        have s4 : (((w3.setCell ⟨w1.heap.size, 0, none⟩ (.string yn)).setCell ⟨w1.heap.size, 1, none⟩ (.int .i64 ya)).setCell ⟨w1.heap.size, 2, none⟩ (.slice A3 yr.length c3)).heap.size = w3.heap.size := by simp
        have HO4 : Hid (OwnR (((w3.setCell ⟨w1.heap.size, 0, none⟩ (.string yn)).setCell ⟨w1.heap.size, 1, none⟩ (.int .i64 ya)).setCell ⟨w1.heap.size, 2, none⟩ (.slice A3 yr.length c3)) w2.heap.size w3.heap.size (.slice A3 yr.length c3) yr) := OwnR.setOff (OwnR.setOff (OwnR.setOff HO3.out (.inl (by omega))) (.inl (by omega))) (.inl (by omega))
        generalize ((w3.setCell ⟨w1.heap.size, 0, none⟩ (.string yn)).setCell ⟨w1.heap.size, 1, none⟩ (.int .i64 ya)).setCell ⟨w1.heap.size, 2, none⟩ (.slice A3 yr.length c3) = w4 at kn4 s4 HO4 ⊢
        clear kn3 kn2 kn1 HO3 d0 d1 d2 d3 d4 b0 b1 b2 fd0 fd1 fd2 fd3 fd4 fb0 fb1 fb2
        refine (impl_SetTable_any A A3 n c c3 w4.heap.size ts yn ya yr w4 ((RdT.belowB hr kn4.bel hB).more (Nat.le_trans hB kn4.bel.size)) (Nat.le_refl _) (by omega) hsm.out ((HO4.out.rd rfl).more (by omega)) (by omega) hyrow.out hynm.out).mono ?_
        rintro e w5 ⟨A5, c5, rfl, ho5, hb5⟩
        have s5 := hb5.size
        have kn5 := kn4.next hb5
        obtain ⟨Q, okq, hQ⟩ : ∃ a b, setR ts ⟨yn, ya, yr⟩ = (a, b) := ⟨_, _, rfl⟩
        rw [hQ] at ho5 ⊢
        have HQ := Lib.hid (hf.out.trans hQ)
        have HO5 : Hid (OwnD w5 w4.heap.size w5.heap.size (.slice A5 Q.length c5) Q) := ho5
        have HK5 := Lib.hid kn5.bel
        obtain ⟨k0, k1, k2, k3, k4, _⟩ := kn5.all
        obtain ⟨f0, f1, f2, f3, f4, _⟩ := kn5.fall
        have nf : w.heap.size + 1 + 1 < w5.heap.size := by omega
        clear hQ ho5 hb5 kn5 kn4
        go_wp2_with fail
        refine bodyPost_ret (v := .tuple #[.agg #[.slice A5 Q.length c5], .bool okq]) (by simp [results, Try.results57, go_sem, *]) rfl (DbBool.of HQ.out ?_ ?_)
        · refine OwnD.down (lo := w4.heap.size) (OwnD.wide (hi := w5.heap.size) ?_ (by simp)) (by omega)
          repeat first | with_reducible exact HO5.out | (with_reducible refine OwnD.alloc ?_ _) | (with_reducible refine OwnD.setOff ?_ (by omega))
        · repeat first | exact HK5.out | (refine Below.setCell ?_ ?_ _; rotate_left; (simp; try omega)) | (refine Below.alloc ?_ ?_ _; rotate_left; (simp; try omega))
    case true =>
      have hms := Lib.hid (modR_small (nm := xn) (ar := xa) (ok := true) true hxl hxs hrl)
      have hmod : Hid (modR (lookR ts nm) true r = insR xn xa xr r) := by show _ = _; rw [HR.out]; simp [modR]
      go_wp2_with fail
      have kn2 : Kn w [(w.heap.size, 0, .slice A n c), (w.heap.size + 1, 0, .string nm), (w.heap.size + 1, 1, .bool true), (w.heap.size + 1, 2, .slice A' n' c'), (w.heap.size + 1 + 1, 0, .slice none 0 0), (w1.heap.size, 0, .string xn), (w1.heap.size, 1, .int .i64 xa), (w1.heap.size, 2, .slice A1 xr.length c1)] (w1.alloc (.cells #[.string xn, .int .i64 xa, .slice A1 xr.length c1] 36)) := by simpa using kn1.box3 (.string xn) (.int .i64 xa) (.slice A1 xr.length c1) 36
      have s2 : w1.heap.size + 1 ≤ (w1.alloc (.cells #[.string xn, .int .i64 xa, .slice A1 xr.length c1] 36)).heap.size := by simp
      have HO2 : Hid (OwnR (w1.alloc (.cells #[.string xn, .int .i64 xa, .slice A1 xr.length c1] 36)) w0.heap.size w1.heap.size (.slice A1 xr.length c1) xr) := OwnR.alloc HO1.out _
      generalize w1.alloc (.cells #[.string xn, .int .i64 xa, .slice A1 xr.length c1] 36) = w2 at kn2 s2 HO2 ⊢
      refine (impl_InsertRow_any xn xa A1 A' xr.length c1 n' c' w2.heap.size xr r w2 ((HO2.out.rd rfl).more (by omega)) ((RdI.belowB hr' kn2.bel hB).more (Nat.le_trans hB kn2.bel.size)) (Nat.le_refl _) (by omega) (by omega) hrow.out).mono ?_
      rintro e w3 ⟨A3, c3, rfl, ho3, hb3⟩
      have s3 := hb3.size
      have kn3 := kn2.next hb3
      obtain ⟨yn, ya, yr, ok2, hY⟩ : ∃ a b c d, insR xn xa xr r = ⟨a, b, c, d⟩ := ⟨_, _, _, _, rfl⟩
      rw [hY] at ho3 ⊢
      have HM : Hid (modR (lookR ts nm) true r = ⟨yn, ya, yr, ok2⟩) := hmod.out.trans hY
      have hms2 := hms.out
      rw [← HR.out, HM.out] at hms2
      obtain ⟨hyn, hyl, hys⟩ : yn = xn ∧ yr.length ≤ 1048576 ∧ sumL yr ≤ 4294967296 := hms2
      have hyrow : Hid (∀ r ∈ yr, r.length ≤ 17592186044416) := fun r hr => by have := sumL_mem hr; omega
      have hynm : Hid (yn.size ≤ maxLen) := by show _ ≤ _; rw [hyn, hxn.out]; exact hnm
      have HO3 : Hid (OwnR w3 w2.heap.size w3.heap.size (.slice A3 yr.length c3) yr) := ho3
      clear hY hmod hms hyn ho3 hb3 HO2 HO1
      clear d0 d1 d2 d3 d4
      obtain ⟨d0, d1, d2, d3, d4, b0, b1, b2, _⟩ := kn3.all
      obtain ⟨fd0, fd1, fd2, fd3, fd4, fb0, fb1, fb2, _⟩ := kn3.fall
      cases ok2
      case false =>
        have hf := Lib.hid (appR_no (by rw [HR.out] : (lookR ts nm).ok = true) (by rw [HM.out] : (modR (lookR ts nm) true r).ok = false))
        go_wp2_with fail
        have kn4 : Kn w ([(w.heap.size, 0, .slice A n c), (w.heap.size + 1, 0, .string nm), (w.heap.size + 1, 1, .bool true), (w.heap.size + 1, 2, .slice A' n' c'), (w.heap.size + 1 + 1, 0, .slice none 0 0)] ++ [(w1.heap.size, 0, .string yn), (w1.heap.size, 1, .int .i64 ya), (w1.heap.size, 2, .slice A3 yr.length c3)]) (((w3.setCell ⟨w1.heap.size, 0, none⟩ (.string yn)).setCell ⟨w1.heap.size, 1, none⟩ (.int .i64 ya)).setCell ⟨w1.heap.size, 2, none⟩ (.slice A3 yr.length c3)) := Kn.set3 (L := [(w.heap.size, 0, .slice A n c), (w.heap.size + 1, 0, .string nm), (w.heap.size + 1, 1, .bool true), (w.heap.size + 1, 2, .slice A' n' c'), (w.heap.size + 1 + 1, 0, .slice none 0 0)]) kn3 (by omega) (by simp only [List.forall_mem_cons]; simp; try omega) _ _ _
        have s4 : (((w3.setCell ⟨w1.heap.size, 0, none⟩ (.string yn)).setCell ⟨w1.heap.size, 1, none⟩ (.int .i64 ya)).setCell ⟨w1.heap.size, 2, none⟩ (.slice A3 yr.length c3)).heap.size = w3.heap.size := by simp
        have HO4 : Hid (OwnR (((w3.setCell ⟨w1.heap.size, 0, none⟩ (.string yn)).setCell ⟨w1.heap.size, 1, none⟩ (.int .i64 ya)).setCell ⟨w1.heap.size, 2, none⟩ (.slice A3 yr.length c3)) w2.heap.size w3.heap.size (.slice A3 yr.length c3) yr) := OwnR.setOff (OwnR.setOff (OwnR.setOff HO3.out (.inl (by omega))) (.inl (by omega))) (.inl (by omega))
        generalize ((w3.setCell ⟨w1.heap.size, 0, none⟩ (.string yn)).setCell ⟨w1.heap.size, 1, none⟩ (.int .i64 ya)).setCell ⟨w1.heap.size, 2, none⟩ (.slice A3 yr.length c3) = w4 at kn4 s4 HO4 ⊢
        clear kn3 kn2 kn1 HO3 d0 d1 d2 d3 d4 b0 b1 b2 fd0 fd1 fd2 fd3 fd4 fb0 fb1 fb2
        refine (copyDatabase_any A n c B ts w4 (RdT.belowB hr kn4.bel hB) (Nat.le_trans hB kn4.bel.size) (by omega) hsm.out).mono ?_
        rintro e wc ⟨Ac, cc, rfl, hoc, hbc⟩
        have knc := kn4.next hbc
        have sc := hbc.size
        obtain ⟨k0, k1, k2, k3, k4, _⟩ := knc.all
        obtain ⟨f0, f1, f2, f3, f4, _⟩ := knc.fall
        have HOC := Lib.hid hoc
        have HKC := Lib.hid knc.bel
        clear hoc hbc knc
        go_wp2_with fail
        refine bodyPost_ret (v := .tuple #[.agg #[.slice Ac ts.length cc], .bool false]) (by simp [results, Try.results57, go_sem, *]) rfl (DbBool.of hf.out ?_ ?_)
        · refine OwnD.down (lo := w4.heap.size) (OwnD.wide (hi := wc.heap.size) ?_ (by simp)) (by omega)
          repeat refine OwnD.setOff ?_ (by omega)
          exact HOC.out
        · repeat first | exact HKC.out | (refine Below.setCell ?_ ?_ _; rotate_left; (simp; try omega))
      case true =>
        have hf := Lib.hid (appR_yes (by rw [HR.out] : (lookR ts nm).ok = true) HM.out)
        go_wp2_with fail
        have kn4 : Kn w ([(w.heap.size, 0, .slice A n c), (w.heap.size + 1, 0, .string nm), (w.heap.size + 1, 1, .bool true), (w.heap.size + 1, 2, .slice A' n' c'), (w.heap.size + 1 + 1, 0, .slice none 0 0)] ++ [(w1.heap.size, 0, .string yn), (w1.heap.size, 1, .int .i64 ya), (w1.heap.size, 2, .slice A3 yr.length c3)]) (((w3.setCell ⟨w1.heap.size, 0, none⟩ (.string yn)).setCell ⟨w1.heap.size, 1, none⟩ (.int .i64 ya)).setCell ⟨w1.heap.size, 2, none⟩ (.slice A3 yr.length c3)) := Kn.set3 (L := [(w.heap.size, 0, .slice A n c), (w.heap.size + 1, 0, .string nm), (w.heap.size + 1, 1, .bool true), (w.heap.size + 1, 2, .slice A' n' c'), (w.heap.size + 1 + 1, 0, .slice none 0 0)]) kn3 (by omega) (by simp only [List.forall_mem_cons]; simp; try omega) _ _ _
        have s4 : (((w3.setCell ⟨w1.heap.size, 0, none⟩ (.string yn)).setCell ⟨w1.heap.size, 1, none⟩ (.int .i64 ya)).setCell ⟨w1.heap.size, 2, none⟩ (.slice A3 yr.length c3)).heap.size = w3.heap.size := by simp
        have HO4 : Hid (OwnR (((w3.setCell ⟨w1.heap.size, 0, none⟩ (.string yn)).setCell ⟨w1.heap.size, 1, none⟩ (.int .i64 ya)).setCell ⟨w1.heap.size, 2, none⟩ (.slice A3 yr.length c3)) w2.heap.size w3.heap.size (.slice A3 yr.length c3) yr) := OwnR.setOff (OwnR.setOff (OwnR.setOff HO3.out (.inl (by omega))) (.inl (by omega))) (.inl (by omega))
        generalize ((w3.setCell ⟨w1.heap.size, 0, none⟩ (.string yn)).setCell ⟨w1.heap.size, 1, none⟩ (.int .i64 ya)).setCell ⟨w1.heap.size, 2, none⟩ (.slice A3 yr.length c3) = w4 at kn4 s4 HO4 ⊢
        clear kn3 kn2 kn1 HO3 d0 d1 d2 d3 d4 b0 b1 b2 fd0 fd1 fd2 fd3 fd4 fb0 fb1 fb2
        refine (impl_SetTable_any A A3 n c c3 w4.heap.size ts yn ya yr w4 ((RdT.belowB hr kn4.bel hB).more (Nat.le_trans hB kn4.bel.size)) (Nat.le_refl _) (by omega) hsm.out ((HO4.out.rd rfl).more (by omega)) (by omega) hyrow.out hynm.out).mono ?_
        rintro e w5 ⟨A5, c5, rfl, ho5, hb5⟩
        have s5 := hb5.size
        have kn5 := kn4.next hb5
        obtain ⟨Q, okq, hQ⟩ : ∃ a b, setR ts ⟨yn, ya, yr⟩ = (a, b) := ⟨_, _, rfl⟩
        rw [hQ] at ho5 ⊢
        have HQ := Lib.hid (hf.out.trans hQ)
        have HO5 : Hid (OwnD w5 w4.heap.size w5.heap.size (.slice A5 Q.length c5) Q) := ho5
        have HK5 := Lib.hid kn5.bel
        obtain ⟨k0, k1, k2, k3, k4, _⟩ := kn5.all
        obtain ⟨f0, f1, f2, f3, f4, _⟩ := kn5.fall
        have nf : w.heap.size + 1 + 1 < w5.heap.size := by omega
        clear hQ ho5 hb5 kn5 kn4
        go_wp2_with fail
        refine bodyPost_ret (v := .tuple #[.agg #[.slice A5 Q.length c5], .bool okq]) (by simp [results, Try.results57, go_sem, *]) rfl (DbBool.of HQ.out ?_ ?_)
        · refine OwnD.down (lo := w4.heap.size) (OwnD.wide (hi := w5.heap.size) ?_ (by simp)) (by omega)
          repeat first | with_reducible exact HO5.out | (with_reducible refine OwnD.alloc ?_ _) | (with_reducible refine OwnD.setOff ?_ (by omega))
        · repeat first | exact HK5.out | (refine Below.setCell ?_ ?_ _; rotate_left; (simp; try omega)) | (refine Below.alloc ?_ ?_ _; rotate_left; (simp; try omega))
end Go.Proofs.Ytimlecfneibjlaa
namespace Go.Proofs.Ytimlecfneibjlaa
open Go.RowKit Go.Deep

set_option maxRecDepth 100000 in
set_option maxHeartbeats 2000000 in
theorem spec_ApplyUpdate_any (A : Option Addr) (n c B : Nat) (ts : List Tab) (nm : ByteArray) (ins : Bool) (A' : Option Addr) (n' c' : Nat) (r : List Int) (w : World) (hr : RdT w B A n ts) (hB : B ≤ w.heap.size) (hn : n ≤ 1048576) (hs : sumT ts ≤ 1048576) (hr' : RdI w B A' n' r) (hn' : n' ≤ 1048576) (hnm : nm.size ≤ maxLen) :
    Calls Try.prog 56 #[.agg #[.slice A n c], .agg #[.string nm, .bool ins, .slice A' n' c']] w (DbBool (appR ts nm ins r) w) := by
  have hsm : Hid (sumT ts ≤ 4294967296) := by show _ ≤ _; omega
  have hsm' := Lib.hid hs
  have hrl : r.length ≤ 1048576 := by rw [hr'.1]; exact hn'
  clear hs
  go_enter Try.func56, Try.ntmps56
  go_wp2_with fail
  have kn0 : Kn w [(w.heap.size, 0, .slice A n c), (w.heap.size + 1, 0, .string nm), (w.heap.size + 1, 1, .bool ins), (w.heap.size + 1, 2, .slice A' n' c'), (w.heap.size + 1 + 1, 0, .slice none 0 0)] (((w.alloc (.cells #[.slice A n c] 29)).alloc (.cells #[.string nm, .bool ins, .slice A' n' c'] 64)).alloc (.cells #[.slice none 0 0] 29)) := by simpa using (((Kn.start w).box1 (.slice A n c) 29).box3 (.string nm) (.bool ins) (.slice A' n' c') 64).box1 (.slice none 0 0) 29
  have s0 : w.heap.size + 3 ≤ (((w.alloc (.cells #[.slice A n c] 29)).alloc (.cells #[.string nm, .bool ins, .slice A' n' c'] 64)).alloc (.cells #[.slice none 0 0] 29)).heap.size := by simp
  generalize ((w.alloc (.cells #[.slice A n c] 29)).alloc (.cells #[.string nm, .bool ins, .slice A' n' c'] 64)).alloc (.cells #[.slice none 0 0] 29) = w0 at kn0 s0 ⊢
  refine (spec_LookupTable_any A n c B ts nm w0 (RdT.belowB hr kn0.bel hB) (Nat.le_trans hB kn0.bel.size) (by omega) hsm.out).mono ?_
  rintro e w1 ⟨A1, c1, rfl, ho, hb⟩
  have s1 := hb.size
  have kn1 := kn0.next hb
  obtain ⟨xn, xa, xr, ok, hR⟩ : ∃ a b c d, lookR ts nm = ⟨a, b, c, d⟩ := ⟨_, _, _, _, rfl⟩
  rw [hR] at ho ⊢
  have HR := Lib.hid hR
  have HO1 : Hid (OwnR w1 w0.heap.size w1.heap.size (.slice A1 xr.length c1) xr) := ho
  clear hR ho hb kn0
  obtain ⟨d0, d1, d2, d3, d4, _⟩ := kn1.all
  have ne0 : w.heap.size < w1.heap.size := by omega
  have ne1 : w.heap.size + 1 < w1.heap.size := by omega
  have ne2 : w.heap.size + 1 + 1 < w1.heap.size := by omega
  cases ok
  case false =>
    have hf := Lib.hid (appR_none (ins := ins) (r := r) (by rw [HR.out] : (lookR ts nm).ok = false))
    go_wp2_with fail
    have kn2 : Kn w [(w.heap.size, 0, .slice A n c), (w.heap.size + 1, 0, .string nm), (w.heap.size + 1, 1, .bool ins), (w.heap.size + 1, 2, .slice A' n' c'), (w.heap.size + 1 + 1, 0, .slice none 0 0), (w1.heap.size, 0, .string xn), (w1.heap.size, 1, .int .i64 xa), (w1.heap.size, 2, .slice A1 xr.length c1)] (w1.alloc (.cells #[.string xn, .int .i64 xa, .slice A1 xr.length c1] 36)) := by simpa using kn1.box3 (.string xn) (.int .i64 xa) (.slice A1 xr.length c1) 36
    have s2 : w1.heap.size + 1 ≤ (w1.alloc (.cells #[.string xn, .int .i64 xa, .slice A1 xr.length c1] 36)).heap.size := by simp
    generalize w1.alloc (.cells #[.string xn, .int .i64 xa, .slice A1 xr.length c1] 36) = w2 at kn2 s2 ⊢
    refine (l5Copy_any A n c B ts w2 (RdT.belowB hr kn2.bel hB) (Nat.le_trans hB kn2.bel.size) (by omega) hsm.out).mono ?_
    rintro e wc ⟨Ac, cc, rfl, hoc, hbc⟩
    have knc := kn2.next hbc
    have sc := hbc.size
    obtain ⟨k0, k1, k2, k3, k4, _⟩ := knc.all
    obtain ⟨f0, f1, f2, f3, f4, _⟩ := knc.fall
    have HOC := Lib.hid hoc
    have HKC := Lib.hid knc.bel
    clear hoc hbc knc
    go_wp2_with fail
    refine bodyPost_ret (v := .tuple #[.agg #[.slice Ac ts.length cc], .bool false]) (by simp [results, Try.results56, go_sem, *]) rfl (DbBool.of hf.out ?_ ?_)
    · refine OwnD.down (lo := w2.heap.size) (OwnD.wide (hi := wc.heap.size) ?_ (by simp)) (by omega)
      repeat refine OwnD.setOff ?_ (by omega)
      exact HOC.out
    · repeat first | exact HKC.out | (refine Below.setCell ?_ ?_ _; rotate_left; (simp; try omega))
  case true =>
    have hlk := look_small hsm'.out (by rw [HR.out] : (lookR ts nm).ok = true)
    rw [HR.out] at hlk
    obtain ⟨hxn0, hxl, hxs⟩ : xn = nm ∧ xr.length ≤ 1048576 ∧ sumL xr ≤ 1048576 := hlk
    have hxn := Lib.hid hxn0
    clear hxn0
    have hrow : Hid (∀ r ∈ xr, r.length ≤ 17592186044416) := fun r hr => by have := sumL_mem hr; omega
    cases ins
    case false =>
      have hms := Lib.hid (modR_small (nm := xn) (ar := xa) (ok := true) false hxl hxs hrl)
      have hmod : Hid (modR (lookR ts nm) false r = delR xn xa xr r) := by show _ = _; rw [HR.out]; simp [modR]
      go_wp2_with fail
      have kn2 : Kn w [(w.heap.size, 0, .slice A n c), (w.heap.size + 1, 0, .string nm), (w.heap.size + 1, 1, .bool false), (w.heap.size + 1, 2, .slice A' n' c'), (w.heap.size + 1 + 1, 0, .slice none 0 0), (w1.heap.size, 0, .string xn), (w1.heap.size, 1, .int .i64 xa), (w1.heap.size, 2, .slice A1 xr.length c1), (w1.heap.size + 1, 0, .string ⟨#[]⟩), (w1.heap.size + 1, 1, .int .i64 0), (w1.heap.size + 1, 2, .slice none 0 0)] ((w1.alloc (.cells #[.string xn, .int .i64 xa, .slice A1 xr.length c1] 36)).alloc (.cells #[.string ⟨#[]⟩, .int .i64 0, .slice none 0 0] 36)) := by simpa using (kn1.box3 (.string xn) (.int .i64 xa) (.slice A1 xr.length c1) 36).box3 (.string ⟨#[]⟩) (.int .i64 0) (.slice none 0 0) 36
      have s2 : w1.heap.size + 2 ≤ ((w1.alloc (.cells #[.string xn, .int .i64 xa, .slice A1 xr.length c1] 36)).alloc (.cells #[.string ⟨#[]⟩, .int .i64 0, .slice none 0 0] 36)).heap.size := by simp
      have HO2 : Hid (OwnR ((w1.alloc (.cells #[.string xn, .int .i64 xa, .slice A1 xr.length c1] 36)).alloc (.cells #[.string ⟨#[]⟩, .int .i64 0, .slice none 0 0] 36)) w0.heap.size w1.heap.size (.slice A1 xr.length c1) xr) := OwnR.alloc (OwnR.alloc HO1.out _) _
      generalize (w1.alloc (.cells #[.string xn, .int .i64 xa, .slice A1 xr.length c1] 36)).alloc (.cells #[.string ⟨#[]⟩, .int .i64 0, .slice none 0 0] 36) = w2 at kn2 s2 HO2 ⊢
      refine (spec_DeleteRow_any xn xa A1 A' xr.length c1 n' c' w2.heap.size xr r w2 ((HO2.out.rd rfl).more (by omega)) ((RdI.belowB hr' kn2.bel hB).more (Nat.le_trans hB kn2.bel.size)) (Nat.le_refl _) (by omega) (by omega) hrow.out).mono ?_
      rintro e w3 ⟨A3, c3, rfl, ho3, hb3⟩
      have s3 := hb3.size
      have kn3 := kn2.next hb3
      obtain ⟨yn, ya, yr, ok2, hY⟩ : ∃ a b c d, delR xn xa xr r = ⟨a, b, c, d⟩ := ⟨_, _, _, _, rfl⟩
      rw [hY] at ho3 ⊢
      have HM : Hid (modR (lookR ts nm) false r = ⟨yn, ya, yr, ok2⟩) := hmod.out.trans hY
      have hms2 := hms.out
      rw [← HR.out, HM.out] at hms2
      obtain ⟨hyn, hyl, hys⟩ : yn = xn ∧ yr.length ≤ 1048576 ∧ sumL yr ≤ 4294967296 := hms2
      have hyrow : Hid (∀ r ∈ yr, r.length ≤ 17592186044416) := fun r hr => by have := sumL_mem hr; omega
      have hynm : Hid (yn.size ≤ maxLen) := by show _ ≤ _; rw [hyn, hxn.out]; exact hnm
      have HO3 : Hid (OwnR w3 w2.heap.size w3.heap.size (.slice A3 yr.length c3) yr) := ho3
      clear hY hmod hms hyn ho3 hb3 HO2 HO1
      clear d0 d1 d2 d3 d4
      obtain ⟨d0, d1, d2, d3, d4, b0, b1, b2, g0, g1, g2, _⟩ := kn3.all
      obtain ⟨fd0, fd1, fd2, fd3, fd4, fb0, fb1, fb2, fg0, fg1, fg2, _⟩ := kn3.fall
      cases ok2
      case false =>
        have hf := Lib.hid (appR_no (by rw [HR.out] : (lookR ts nm).ok = true) (by rw [HM.out] : (modR (lookR ts nm) false r).ok = false))
        go_wp2_with fail
        have kn4 : Kn w ([(w.heap.size, 0, .slice A n c), (w.heap.size + 1, 0, .string nm), (w.heap.size + 1, 1, .bool false), (w.heap.size + 1, 2, .slice A' n' c'), (w.heap.size + 1 + 1, 0, .slice none 0 0), (w1.heap.size, 0, .string xn), (w1.heap.size, 1, .int .i64 xa), (w1.heap.size, 2, .slice A1 xr.length c1)] ++ [(w1.heap.size + 1, 0, .string yn), (w1.heap.size + 1, 1, .int .i64 ya), (w1.heap.size + 1, 2, .slice A3 yr.length c3)]) (((w3.setCell ⟨w1.heap.size + 1, 0, none⟩ (.string yn)).setCell ⟨w1.heap.size + 1, 1, none⟩ (.int .i64 ya)).setCell ⟨w1.heap.size + 1, 2, none⟩ (.slice A3 yr.length c3)) := Kn.set3 (L := [(w.heap.size, 0, .slice A n c), (w.heap.size + 1, 0, .string nm), (w.heap.size + 1, 1, .bool false), (w.heap.size + 1, 2, .slice A' n' c'), (w.heap.size + 1 + 1, 0, .slice none 0 0), (w1.heap.size, 0, .string xn), (w1.heap.size, 1, .int .i64 xa), (w1.heap.size, 2, .slice A1 xr.length c1)]) kn3 (by omega) (by simp only [List.forall_mem_cons]; simp; try omega) _ _ _
        have s4 : (((w3.setCell ⟨w1.heap.size + 1, 0, none⟩ (.string yn)).setCell ⟨w1.heap.size + 1, 1, none⟩ (.int .i64 ya)).setCell ⟨w1.heap.size + 1, 2, none⟩ (.slice A3 yr.length c3)).heap.size = w3.heap.size := by simp
        have HO4 : Hid (OwnR (((w3.setCell ⟨w1.heap.size + 1, 0, none⟩ (.string yn)).setCell ⟨w1.heap.size + 1, 1, none⟩ (.int .i64 ya)).setCell ⟨w1.heap.size + 1, 2, none⟩ (.slice A3 yr.length c3)) w2.heap.size w3.heap.size (.slice A3 yr.length c3) yr) := OwnR.setOff (OwnR.setOff (OwnR.setOff HO3.out (.inl (by omega))) (.inl (by omega))) (.inl (by omega))
        generalize ((w3.setCell ⟨w1.heap.size + 1, 0, none⟩ (.string yn)).setCell ⟨w1.heap.size + 1, 1, none⟩ (.int .i64 ya)).setCell ⟨w1.heap.size + 1, 2, none⟩ (.slice A3 yr.length c3) = w4 at kn4 s4 HO4 ⊢
        clear kn3 kn2 kn1 HO3 d0 d1 d2 d3 d4 b0 b1 b2 g0 g1 g2 fd0 fd1 fd2 fd3 fd4 fb0 fb1 fb2 fg0 fg1 fg2
        refine (l5Copy_any A n c B ts w4 (RdT.belowB hr kn4.bel hB) (Nat.le_trans hB kn4.bel.size) (by omega) hsm.out).mono ?_
        rintro e wc ⟨Ac, cc, rfl, hoc, hbc⟩
        have knc := kn4.next hbc
        have sc := hbc.size
        obtain ⟨k0, k1, k2, k3, k4, _⟩ := knc.all
        obtain ⟨f0, f1, f2, f3, f4, _⟩ := knc.fall
        have HOC := Lib.hid hoc
        have HKC := Lib.hid knc.bel
        clear hoc hbc knc
        go_wp2_with fail
        refine bodyPost_ret (v := .tuple #[.agg #[.slice Ac ts.length cc], .bool false]) (by simp [results, Try.results56, go_sem, *]) rfl (DbBool.of hf.out ?_ ?_)
        · refine OwnD.down (lo := w4.heap.size) (OwnD.wide (hi := wc.heap.size) ?_ (by simp)) (by omega)
          repeat refine OwnD.setOff ?_ (by omega)
          exact HOC.out
        · repeat first | exact HKC.out | (refine Below.setCell ?_ ?_ _; rotate_left; (simp; try omega))
      case true =>
        have hf := Lib.hid (appR_yes (by rw [HR.out] : (lookR ts nm).ok = true) HM.out)
        go_wp2_with fail
        have kn4 : Kn w ([(w.heap.size, 0, .slice A n c), (w.heap.size + 1, 0, .string nm), (w.heap.size + 1, 1, .bool false), (w.heap.size + 1, 2, .slice A' n' c'), (w.heap.size + 1 + 1, 0, .slice none 0 0), (w1.heap.size, 0, .string xn), (w1.heap.size, 1, .int .i64 xa), (w1.heap.size, 2, .slice A1 xr.length c1)] ++ [(w1.heap.size + 1, 0, .string yn), (w1.heap.size + 1, 1, .int .i64 ya), (w1.heap.size + 1, 2, .slice A3 yr.length c3)]) (((w3.setCell ⟨w1.heap.size + 1, 0, none⟩ (.string yn)).setCell ⟨w1.heap.size + 1, 1, none⟩ (.int .i64 ya)).setCell ⟨w1.heap.size + 1, 2, none⟩ (.slice A3 yr.length c3)) := Kn.set3 (L := [(w.heap.size, 0, .slice A n c), (w.heap.size + 1, 0, .string nm), (w.heap.size + 1, 1, .bool false), (w.heap.size + 1, 2, .slice A' n' c'), (w.heap.size + 1 + 1, 0, .slice none 0 0), (w1.heap.size, 0, .string xn), (w1.heap.size, 1, .int .i64 xa), (w1.heap.size, 2, .slice A1 xr.length c1)]) kn3 (by omega) (by simp only [List.forall_mem_cons]; simp; try omega) _ _ _
        have s4 : (((w3.setCell ⟨w1.heap.size + 1, 0, none⟩ (.string yn)).setCell ⟨w1.heap.size + 1, 1, none⟩ (.int .i64 ya)).setCell ⟨w1.heap.size + 1, 2, none⟩ (.slice A3 yr.length c3)).heap.size = w3.heap.size := by simp
        have HO4 : Hid (OwnR (((w3.setCell ⟨w1.heap.size + 1, 0, none⟩ (.string yn)).setCell ⟨w1.heap.size + 1, 1, none⟩ (.int .i64 ya)).setCell ⟨w1.heap.size + 1, 2, none⟩ (.slice A3 yr.length c3)) w2.heap.size w3.heap.size (.slice A3 yr.length c3) yr) := OwnR.setOff (OwnR.setOff (OwnR.setOff HO3.out (.inl (by omega))) (.inl (by omega))) (.inl (by omega))
        generalize ((w3.setCell ⟨w1.heap.size + 1, 0, none⟩ (.string yn)).setCell ⟨w1.heap.size + 1, 1, none⟩ (.int .i64 ya)).setCell ⟨w1.heap.size + 1, 2, none⟩ (.slice A3 yr.length c3) = w4 at kn4 s4 HO4 ⊢
        clear kn3 kn2 kn1 HO3 d0 d1 d2 d3 d4 b0 b1 b2 g0 g1 g2 fd0 fd1 fd2 fd3 fd4 fb0 fb1 fb2 fg0 fg1 fg2
        refine (spec_SetTable_any A A3 n c c3 w4.heap.size ts yn ya yr w4 ((RdT.belowB hr kn4.bel hB).more (Nat.le_trans hB kn4.bel.size)) (Nat.le_refl _) (by omega) hsm.out ((HO4.out.rd rfl).more (by omega)) (by omega) hyrow.out hynm.out).mono ?_
        rintro e w5 ⟨A5, c5, rfl, ho5, hb5⟩
        have s5 := hb5.size
        have kn5 := kn4.next hb5
        obtain ⟨Q, okq, hQ⟩ : ∃ a b, setR ts ⟨yn, ya, yr⟩ = (a, b) := ⟨_, _, rfl⟩
        rw [hQ] at ho5 ⊢
        have HQ := Lib.hid (hf.out.trans hQ)
        have HO5 : Hid (OwnD w5 w4.heap.size w5.heap.size (.slice A5 Q.length c5) Q) := ho5
        have HK5 := Lib.hid kn5.bel
        obtain ⟨k0, k1, k2, k3, k4, _⟩ := kn5.all
        obtain ⟨f0, f1, f2, f3, f4, _⟩ := kn5.fall
        have nf : w.heap.size + 1 + 1 < w5.heap.size := by omega
        clear hQ ho5 hb5 kn5 kn4
        go_wp2_with fail
        refine bodyPost_ret (v := .tuple #[.agg #[.slice A5 Q.length c5], .bool okq]) (by simp [results, Try.results56, go_sem, *]) rfl (DbBool.of HQ.out ?_ ?_)
        · refine OwnD.down (lo := w4.heap.size) (OwnD.wide (hi := w5.heap.size) ?_ (by simp)) (by omega)
          repeat first | with_reducible exact HO5.out | (with_reducible refine OwnD.alloc ?_ _) | (with_reducible refine OwnD.setOff ?_ (by omega))
        · repeat first | exact HK5.out | (refine Below.setCell ?_ ?_ _; rotate_left; (simp; try omega)) | (refine Below.alloc ?_ ?_ _; rotate_left; (simp; try omega))
    case true =>
      have hms := Lib.hid (modR_small (nm := xn) (ar := xa) (ok := true) true hxl hxs hrl)
      have hmod : Hid (modR (lookR ts nm) true r = insR xn xa xr r) := by show _ = _; rw [HR.out]; simp [modR]
      go_wp2_with fail
      have kn2 : Kn w [(w.heap.size, 0, .slice A n c), (w.heap.size + 1, 0, .string nm), (w.heap.size + 1, 1, .bool true), (w.heap.size + 1, 2, .slice A' n' c'), (w.heap.size + 1 + 1, 0, .slice none 0 0), (w1.heap.size, 0, .string xn), (w1.heap.size, 1, .int .i64 xa), (w1.heap.size, 2, .slice A1 xr.length c1), (w1.heap.size + 1, 0, .string ⟨#[]⟩), (w1.heap.size + 1, 1, .int .i64 0), (w1.heap.size + 1, 2, .slice none 0 0)] ((w1.alloc (.cells #[.string xn, .int .i64 xa, .slice A1 xr.length c1] 36)).alloc (.cells #[.string ⟨#[]⟩, .int .i64 0, .slice none 0 0] 36)) := by simpa using (kn1.box3 (.string xn) (.int .i64 xa) (.slice A1 xr.length c1) 36).box3 (.string ⟨#[]⟩) (.int .i64 0) (.slice none 0 0) 36
      have s2 : w1.heap.size + 2 ≤ ((w1.alloc (.cells #[.string xn, .int .i64 xa, .slice A1 xr.length c1] 36)).alloc (.cells #[.string ⟨#[]⟩, .int .i64 0, .slice none 0 0] 36)).heap.size := by simp
      have HO2 : Hid (OwnR ((w1.alloc (.cells #[.string xn, .int .i64 xa, .slice A1 xr.length c1] 36)).alloc (.cells #[.string ⟨#[]⟩, .int .i64 0, .slice none 0 0] 36)) w0.heap.size w1.heap.size (.slice A1 xr.length c1) xr) := OwnR.alloc (OwnR.alloc HO1.out _) _
      generalize (w1.alloc (.cells #[.string xn, .int .i64 xa, .slice A1 xr.length c1] 36)).alloc (.cells #[.string ⟨#[]⟩, .int .i64 0, .slice none 0 0] 36) = w2 at kn2 s2 HO2 ⊢
      refine (spec_InsertRow_any xn xa A1 A' xr.length c1 n' c' w2.heap.size xr r w2 ((HO2.out.rd rfl).more (by omega)) ((RdI.belowB hr' kn2.bel hB).more (Nat.le_trans hB kn2.bel.size)) (Nat.le_refl _) (by omega) (by omega) hrow.out).mono ?_
      rintro e w3 ⟨A3, c3, rfl, ho3, hb3⟩
      have s3 := hb3.size
      have kn3 := kn2.next hb3
      obtain ⟨yn, ya, yr, ok2, hY⟩ : ∃ a b c d, insR xn xa xr r = ⟨a, b, c, d⟩ := ⟨_, _, _, _, rfl⟩
      rw [hY] at ho3 ⊢
      have HM : Hid (modR (lookR ts nm) true r = ⟨yn, ya, yr, ok2⟩) := hmod.out.trans hY
      have hms2 := hms.out
      rw [← HR.out, HM.out] at hms2
      obtain ⟨hyn, hyl, hys⟩ : yn = xn ∧ yr.length ≤ 1048576 ∧ sumL yr ≤ 4294967296 := hms2
      have hyrow : Hid (∀ r ∈ yr, r.length ≤ 17592186044416) := fun r hr => by have := sumL_mem hr; omega
      have hynm : Hid (yn.size ≤ maxLen) := by show _ ≤ _; rw [hyn, hxn.out]; exact hnm
      have HO3 : Hid (OwnR w3 w2.heap.size w3.heap.size (.slice A3 yr.length c3) yr) := ho3
      clear hY hmod hms hyn ho3 hb3 HO2 HO1
      clear d0 d1 d2 d3 d4
      obtain ⟨d0, d1, d2, d3, d4, b0, b1, b2, g0, g1, g2, _⟩ := kn3.all
      obtain ⟨fd0, fd1, fd2, fd3, fd4, fb0, fb1, fb2, fg0, fg1, fg2, _⟩ := kn3.fall
      cases ok2
      case false =>
        have hf := Lib.hid (appR_no (by rw [HR.out] : (lookR ts nm).ok = true) (by rw [HM.out] : (modR (lookR ts nm) true r).ok = false))
        go_wp2_with fail
        have kn4 : Kn w ([(w.heap.size, 0, .slice A n c), (w.heap.size + 1, 0, .string nm), (w.heap.size + 1, 1, .bool true), (w.heap.size + 1, 2, .slice A' n' c'), (w.heap.size + 1 + 1, 0, .slice none 0 0), (w1.heap.size, 0, .string xn), (w1.heap.size, 1, .int .i64 xa), (w1.heap.size, 2, .slice A1 xr.length c1)] ++ [(w1.heap.size + 1, 0, .string yn), (w1.heap.size + 1, 1, .int .i64 ya), (w1.heap.size + 1, 2, .slice A3 yr.length c3)]) (((w3.setCell ⟨w1.heap.size + 1, 0, none⟩ (.string yn)).setCell ⟨w1.heap.size + 1, 1, none⟩ (.int .i64 ya)).setCell ⟨w1.heap.size + 1, 2, none⟩ (.slice A3 yr.length c3)) := Kn.set3 (L := [(w.heap.size, 0, .slice A n c), (w.heap.size + 1, 0, .string nm), (w.heap.size + 1, 1, .bool true), (w.heap.size + 1, 2, .slice A' n' c'), (w.heap.size + 1 + 1, 0, .slice none 0 0), (w1.heap.size, 0, .string xn), (w1.heap.size, 1, .int .i64 xa), (w1.heap.size, 2, .slice A1 xr.length c1)]) kn3 (by omega) (by simp only [List.forall_mem_cons]; simp; try omega) _ _ _
        have s4 : (((w3.setCell ⟨w1.heap.size + 1, 0, none⟩ (.string yn)).setCell ⟨w1.heap.size + 1, 1, none⟩ (.int .i64 ya)).setCell ⟨w1.heap.size + 1, 2, none⟩ (.slice A3 yr.length c3)).heap.size = w3.heap.size := by simp
        have HO4 : Hid (OwnR (((w3.setCell ⟨w1.heap.size + 1, 0, none⟩ (.string yn)).setCell ⟨w1.heap.size + 1, 1, none⟩ (.int .i64 ya)).setCell ⟨w1.heap.size + 1, 2, none⟩ (.slice A3 yr.length c3)) w2.heap.size w3.heap.size (.slice A3 yr.length c3) yr) := OwnR.setOff (OwnR.setOff (OwnR.setOff HO3.out (.inl (by omega))) (.inl (by omega))) (.inl (by omega))
        generalize ((w3.setCell ⟨w1.heap.size + 1, 0, none⟩ (.string yn)).setCell ⟨w1.heap.size + 1, 1, none⟩ (.int .i64 ya)).setCell ⟨w1.heap.size + 1, 2, none⟩ (.slice A3 yr.length c3) = w4 at kn4 s4 HO4 ⊢
        clear kn3 kn2 kn1 HO3 d0 d1 d2 d3 d4 b0 b1 b2 g0 g1 g2 fd0 fd1 fd2 fd3 fd4 fb0 fb1 fb2 fg0 fg1 fg2
        refine (l5Copy_any A n c B ts w4 (RdT.belowB hr kn4.bel hB) (Nat.le_trans hB kn4.bel.size) (by omega) hsm.out).mono ?_
        rintro e wc ⟨Ac, cc, rfl, hoc, hbc⟩
        have knc := kn4.next hbc
        have sc := hbc.size
        obtain ⟨k0, k1, k2, k3, k4, _⟩ := knc.all
        obtain ⟨f0, f1, f2, f3, f4, _⟩ := knc.fall
        have HOC := Lib.hid hoc
        have HKC := Lib.hid knc.bel
        clear hoc hbc knc
        go_wp2_with fail
        refine bodyPost_ret (v := .tuple #[.agg #[.slice Ac ts.length cc], .bool false]) (by simp [results, Try.results56, go_sem, *]) rfl (DbBool.of hf.out ?_ ?_)
        · refine OwnD.down (lo := w4.heap.size) (OwnD.wide (hi := wc.heap.size) ?_ (by simp)) (by omega)
          repeat refine OwnD.setOff ?_ (by omega)
          exact HOC.out
        · repeat first | exact HKC.out | (refine Below.setCell ?_ ?_ _; rotate_left; (simp; try omega))
      case true =>
        have hf := Lib.hid (appR_yes (by rw [HR.out] : (lookR ts nm).ok = true) HM.out)
        go_wp2_with fail
        have kn4 : Kn w ([(w.heap.size, 0, .slice A n c), (w.heap.size + 1, 0, .string nm), (w.heap.size + 1, 1, .bool true), (w.heap.size + 1, 2, .slice A' n' c'), (w.heap.size + 1 + 1, 0, .slice none 0 0), (w1.heap.size, 0, .string xn), (w1.heap.size, 1, .int .i64 xa), (w1.heap.size, 2, .slice A1 xr.length c1)] ++ [(w1.heap.size + 1, 0, .string yn), (w1.heap.size + 1, 1, .int .i64 ya), (w1.heap.size + 1, 2, .slice A3 yr.length c3)]) (((w3.setCell ⟨w1.heap.size + 1, 0, none⟩ (.string yn)).setCell ⟨w1.heap.size + 1, 1, none⟩ (.int .i64 ya)).setCell ⟨w1.heap.size + 1, 2, none⟩ (.slice A3 yr.length c3)) := Kn.set3 (L := [(w.heap.size, 0, .slice A n c), (w.heap.size + 1, 0, .string nm), (w.heap.size + 1, 1, .bool true), (w.heap.size + 1, 2, .slice A' n' c'), (w.heap.size + 1 + 1, 0, .slice none 0 0), (w1.heap.size, 0, .string xn), (w1.heap.size, 1, .int .i64 xa), (w1.heap.size, 2, .slice A1 xr.length c1)]) kn3 (by omega) (by simp only [List.forall_mem_cons]; simp; try omega) _ _ _
        have s4 : (((w3.setCell ⟨w1.heap.size + 1, 0, none⟩ (.string yn)).setCell ⟨w1.heap.size + 1, 1, none⟩ (.int .i64 ya)).setCell ⟨w1.heap.size + 1, 2, none⟩ (.slice A3 yr.length c3)).heap.size = w3.heap.size := by simp
        have HO4 : Hid (OwnR (((w3.setCell ⟨w1.heap.size + 1, 0, none⟩ (.string yn)).setCell ⟨w1.heap.size + 1, 1, none⟩ (.int .i64 ya)).setCell ⟨w1.heap.size + 1, 2, none⟩ (.slice A3 yr.length c3)) w2.heap.size w3.heap.size (.slice A3 yr.length c3) yr) := OwnR.setOff (OwnR.setOff (OwnR.setOff HO3.out (.inl (by omega))) (.inl (by omega))) (.inl (by omega))
        generalize ((w3.setCell ⟨w1.heap.size + 1, 0, none⟩ (.string yn)).setCell ⟨w1.heap.size + 1, 1, none⟩ (.int .i64 ya)).setCell ⟨w1.heap.size + 1, 2, none⟩ (.slice A3 yr.length c3) = w4 at kn4 s4 HO4 ⊢
        clear kn3 kn2 kn1 HO3 d0 d1 d2 d3 d4 b0 b1 b2 g0 g1 g2 fd0 fd1 fd2 fd3 fd4 fb0 fb1 fb2 fg0 fg1 fg2
        refine (spec_SetTable_any A A3 n c c3 w4.heap.size ts yn ya yr w4 ((RdT.belowB hr kn4.bel hB).more (Nat.le_trans hB kn4.bel.size)) (Nat.le_refl _) (by omega) hsm.out ((HO4.out.rd rfl).more (by omega)) (by omega) hyrow.out hynm.out).mono ?_
        rintro e w5 ⟨A5, c5, rfl, ho5, hb5⟩
        have s5 := hb5.size
        have kn5 := kn4.next hb5
        obtain ⟨Q, okq, hQ⟩ : ∃ a b, setR ts ⟨yn, ya, yr⟩ = (a, b) := ⟨_, _, rfl⟩
        rw [hQ] at ho5 ⊢
        have HQ := Lib.hid (hf.out.trans hQ)
        have HO5 : Hid (OwnD w5 w4.heap.size w5.heap.size (.slice A5 Q.length c5) Q) := ho5
        have HK5 := Lib.hid kn5.bel
        obtain ⟨k0, k1, k2, k3, k4, _⟩ := kn5.all
        obtain ⟨f0, f1, f2, f3, f4, _⟩ := kn5.fall
        have nf : w.heap.size + 1 + 1 < w5.heap.size := by omega
        clear hQ ho5 hb5 kn5 kn4
        go_wp2_with fail
        refine bodyPost_ret (v := .tuple #[.agg #[.slice A5 Q.length c5], .bool okq]) (by simp [results, Try.results56, go_sem, *]) rfl (DbBool.of HQ.out ?_ ?_)
        · refine OwnD.down (lo := w4.heap.size) (OwnD.wide (hi := w5.heap.size) ?_ (by simp)) (by omega)
          repeat first | with_reducible exact HO5.out | (with_reducible refine OwnD.alloc ?_ _) | (with_reducible refine OwnD.setOff ?_ (by omega))
        · repeat first | exact HK5.out | (refine Below.setCell ?_ ?_ _; rotate_left; (simp; try omega)) | (refine Below.alloc ?_ ?_ _; rotate_left; (simp; try omega))
end Go.Proofs.Ytimlecfneibjlaa
