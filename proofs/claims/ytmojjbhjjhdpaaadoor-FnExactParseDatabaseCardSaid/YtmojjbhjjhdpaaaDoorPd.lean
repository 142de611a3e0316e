/- PdP, PdS, PdI, in one text (a claim has at most 60 files). -/
import Derived.Test.YtmojjbhjjhdpaaaDoorDFmt
import Derived.Test.YtmojjbhjjhdpaaaDoorL4C
import Derived.Test.YtmojjbhjjhdpaaaDoorDInv
import Derived.Test.YtmojjbhjjhdpaaaDoorTParS
import Derived.Test.YtmojjbhjjhdpaaaDoorIsDbS
import Derived.Deep.RegionHeld3
import Derived.Deep.DeepCutAuto
import Derived.Test.YtmojjbhjjhdpaaaDoorTParI
import Derived.Test.YtmojjbhjjhdpaaaDoorDFmtI
import Derived.Test.YtmojjbhjjhdpaaaDoorRowsOf
namespace Go.Proofs.YtmojjbhjjhdpaaaDoor
open Go.RowKit Go.Deep

def tabOf (r : TabR) : Tab := ⟨r.nm, r.ar, r.rs⟩
/-- The tables of the words. -/
def tabsP (ws : List ByteArray) : List Tab := ws.map fun b => tabOf (parT b)
/-- What a text reads as. -/
def parD (s : ByteArray) : List Tab × Bool := if s.size = 0 then ([], true) else if validD (tabsP (cutB 59 s)) = true then (tabsP (cutB 59 s), true) else ([], false)
theorem parD_nil {s : ByteArray} (h : s.size = 0) : parD s = ([], true) := by rw [parD, if_pos h]
theorem parD_yes {s : ByteArray} (h : ¬ s.size = 0) (hv : validD (tabsP (cutB 59 s)) = true) : parD s = (tabsP (cutB 59 s), true) := by rw [parD, if_neg h, if_pos hv]
theorem parD_no {s : ByteArray} (h : ¬ s.size = 0) (hv : validD (tabsP (cutB 59 s)) = false) : parD s = ([], false) := by rw [parD, if_neg h, if_neg (by rw [hv]; simp)]
theorem parT_ok {b : ByteArray} (h : (parT b).ok = true) : fmtB (tabOf (parT b)) = b := by
  by_cases h3 : 3 ≤ b.size ∧ fmtT (nmT b) (arT b) (rowsS (b.extract 3 b.size)) = b
  · rw [parT_yes h3.1 h3.2]; exact h3.2
  · rw [parT, if_neg h3] at h; cases h
theorem parT_bad {b : ByteArray} (h : (parT b).ok = false) : validTb (tabOf (parT b)) = false := by
  by_cases h3 : 3 ≤ b.size ∧ fmtT (nmT b) (arT b) (rowsS (b.extract 3 b.size)) = b
  · rw [parT_yes h3.1 h3.2] at h; cases h
  · rw [parT, if_neg h3]; decide +kernel
theorem sumL_three : ∀ l : List (List Int), (∀ r ∈ l, r.length ≤ 3) → sumL l ≤ 3 * l.length := by
  intro l
  induction l with
  | nil => intro _; simp [sumL]
  | cons a l ih =>
    intro h
    have h1 := ih fun r hr => h r (by simp [hr])
    have h2 := h a (by simp)
    simp only [sumL, List.map_cons, List.sum_cons, List.length_cons] at h1 ⊢
    omega
theorem tabOf_small (b : ByteArray) : (tabOf (parT b)).nm.size + ((tabOf (parT b)).rs.length + sumL (tabOf (parT b)).rs) ≤ 40 := by
  cases ho : (parT b).ok with
  | true =>
    have h3 : 3 ≤ b.size ∧ fmtT (nmT b) (arT b) (rowsS (b.extract 3 b.size)) = b := by
      by_cases h3 : 3 ≤ b.size ∧ fmtT (nmT b) (arT b) (rowsS (b.extract 3 b.size)) = b
      · exact h3
      · rw [parT, if_neg h3] at ho; cases ho
    have hv := validT_vt (fmtT_valid h3.2 h3.1)
    have h4 := sumL_three (rowsS (b.extract 3 b.size)) fun r hr => by have := (hv.row r hr).1; have := hv.ar3; omega
    rw [parT_yes h3.1 h3.2]
    show (nmT b).size + ((rowsS (b.extract 3 b.size)).length + sumL (rowsS (b.extract 3 b.size))) ≤ 40
    have := hv.nm1
    have := hv.len
    omega
  | false =>
    have h3 : ¬ (3 ≤ b.size ∧ fmtT (nmT b) (arT b) (rowsS (b.extract 3 b.size)) = b) := fun h3 => by rw [parT_yes h3.1 h3.2] at ho; cases ho
    rw [parT, if_neg h3]
    decide +kernel
theorem sumT_tabsP : ∀ ws : List ByteArray, sumT (tabsP ws) ≤ 40 * ws.length
  | [] => by simp [tabsP, sumT]
  | b :: ws => by
    have h1 := sumT_tabsP ws
    have h2 := tabOf_small b
    show sumT (tabOf (parT b) :: tabsP ws) ≤ _
    rw [sumT_cons, List.length_cons]
    omega
theorem tabsP_get {ws : List ByteArray} {k : Nat} {x : ByteArray} (h : ws[k]? = some x) : (tabsP ws)[k]? = some (tabOf (parT x)) := by simp [tabsP, h]
theorem tabsP_len (ws : List ByteArray) : (tabsP ws).length = ws.length := by simp [tabsP]
theorem tabsP_take {ws : List ByteArray} {k : Nat} {x : ByteArray} (h : ws[k]? = some x) : (tabsP ws).take k ++ [tabOf (parT x)] = (tabsP ws).take (k + 1) := by
  rw [List.take_add_one, tabsP_get h]
  rfl
theorem tabsP_bad {ws : List ByteArray} {k : Nat} {x : ByteArray} (h : ws[k]? = some x) (ho : (parT x).ok = false) : validD (tabsP ws) = false := validD_no (tabsP_get h) (parT_bad ho)
theorem validD_long {ts : List Tab} (h : 6 < ts.length) : validD ts = false := by
  cases hv : validD ts with
  | false => rfl
  | true => have := validD_len hv; omega
theorem fmtD_tabsP {s : ByteArray} (hv : validD (tabsP (cutB 59 s)) = true) : fmtD (tabsP (cutB 59 s)) = s := by
  have e : (tabsP (cutB 59 s)).map (fun t => (fmtB t).data.toList) = cutL 59 s.data.toList := by
    have e1 : (tabsP (cutB 59 s)).map (fun t => (fmtB t).data.toList) = (cutB 59 s).map (fun b => b.data.toList) := by
      rw [tabsP, List.map_map]
      apply List.map_congr_left
      intro b hb
      obtain ⟨k, hk⟩ := List.mem_iff_getElem?.1 hb
      have ho : (parT b).ok = true := by
        cases ho : (parT b).ok with
        | true => rfl
        | false => rw [tabsP_bad hk ho] at hv; cases hv
      show (fmtB (tabOf (parT b))).data.toList = _
      rw [parT_ok ho]
    rw [e1, cutB, List.map_map]
    conv => rhs; rw [← List.map_id (cutL 59 s.data.toList)]
    apply List.map_congr_left
    intro p _
    simp
  rw [fmtD_yes hv, dbL, e, join_cutL 59 _ _ (Nat.le_refl _)]
theorem parD_small (s : ByteArray) : (parD s).1.length ≤ 1048576 ∧ sumT (parD s).1 ≤ 1048576 := by
  by_cases h0 : s.size = 0
  · rw [parD_nil h0]; exact ⟨by simp, by simp [sumT]⟩
  · cases hv : validD (tabsP (cutB 59 s)) with
    | false => rw [parD_no h0 hv]; exact ⟨by simp, by simp [sumT]⟩
    | true =>
      rw [parD_yes h0 hv]
      have h1 := validD_len hv
      have h2 := sumT_tabsP (cutB 59 s)
      have h3 := tabsP_len (cutB 59 s)
      exact ⟨by show (tabsP (cutB 59 s)).length ≤ _; omega, by show sumT (tabsP (cutB 59 s)) ≤ _; omega⟩
/-- The known cells of a row of strings. -/
def rowK (G : Nat) (ws : List ByteArray) : List (Nat × Nat × Value) := ws.zipIdx.map fun x => (G, x.2, .string x.1)
theorem rowK_mem {G k : Nat} {ws : List ByteArray} {x : ByteArray} (h : ws[k]? = some x) : (G, k, Value.string x) ∈ rowK G ws :=
  List.mem_map.2 ⟨(x, k), List.mk_mem_zipIdx_iff_getElem?.2 h, rfl⟩
theorem rowK_at {G : Nat} {ws : List ByteArray} {t : Nat × Nat × Value} (h : t ∈ rowK G ws) : ∃ k x, ws[k]? = some x ∧ t = (G, k, Value.string x) := by
  obtain ⟨⟨x, k⟩, hx, rfl⟩ := List.mem_map.1 h
  exact ⟨k, x, List.mk_mem_zipIdx_iff_getElem?.1 hx, rfl⟩
theorem frozen_of_row (w : World) (g j : Nat) (cur : Array Value) (t : TypeId) (h : w.heap[g]? = some (.cells cur t (0, 0))) : w.frozen? ⟨g, j, none⟩ = false := by
  unfold World.frozen?
  simp [h]
theorem kn_row {w W : World} {L : List (Nat × Nat × Value)} {G : Nat} {ws : List ByteArray} {cur : Array Value} {t : TypeId} (h : Kn w L W) (hg : W.heap[G]? = some (.cells cur t (0, 0))) (hc : ∀ j x, ws[j]? = some x → W.cell? ⟨G, j, none⟩ = some (.string x)) :
    Kn w (L ++ rowK G ws) W := by
  refine ⟨h.bel, fun t ht => ?_, fun t ht => ?_⟩
  · rcases List.mem_append.1 ht with ht | ht
    · exact h.cell t ht
    · obtain ⟨k, x, hx, rfl⟩ := rowK_at ht
      exact ⟨(Array.getElem?_eq_some_iff.1 hg).1, hc k x hx⟩
  · rcases List.mem_append.1 ht with ht | ht
    · exact h.frz t ht
    · obtain ⟨k, x, hx, rfl⟩ := rowK_at ht
      exact frozen_of_row W G k cur _ hg
end Go.Proofs.YtmojjbhjjhdpaaaDoor
namespace Go.Proofs.YtmojjbhjjhdpaaaDoor
open Go.RowKit Go.Deep

set_option maxRecDepth 100000 in
set_option maxHeartbeats 4000000 in
theorem spec_ParseDatabase_any (s : ByteArray) (w : World) (hs : s.size ≤ 1048576) :
    Calls Tryd.prog 37 #[.string s] w (DbBool (parD s) w) := by
  obtain ⟨i1, hi1, hz0, hz1, hz2⟩ := info_parts info_tab
  by_cases h0 : s.size = 0
  · have hf := Lib.hid (parD_nil h0)
    have hz : s = ⟨#[]⟩ := str_of (List.length_eq_zero_iff.1 (by simpa using h0))
    subst hz
    clear h0
    go_enter Tryd.func37, Tryd.ntmps37
    go_wp2_with fail
    refine bodyPost_ret (v := .tuple #[.agg #[.slice none 0 0], .bool true]) (by simp [results, Tryd.results37, go_sem, *]) rfl (DbBool.of hf.out (OwnD.nil _ _ _) ?_)
    repeat first | exact Below.refl _ _ | (refine Below.setCell ?_ ?_ _; rotate_left; (simp; try omega)) | (refine Below.alloc ?_ ?_ _; rotate_left; (simp; try omega))
  · have z2 : ¬ s.toList = [] := fun e => h0 (by have := congrArg List.length e; simpa [ByteArray.toList_eq] using this)
    have z0 : (s.toList == []) = false := by simpa using z2
    have z1 : s.toList.isEmpty = false := by simpa using z2
    have hnl : (cutB 59 s).length ≤ 1048577 := by have := cutB_len 59 s; omega
    have HS : Hid (∀ x ∈ cutB 59 s, x.size ≤ 1048576) := fun x hx => Nat.le_trans (cutB_mem hx) hs
    have HY : Hid (validD (tabsP (cutB 59 s)) = true → parD s = (tabsP (cutB 59 s), true)) := fun hv => parD_yes h0 hv
    have HN : Hid (validD (tabsP (cutB 59 s)) = false → parD s = ([], false)) := fun hv => parD_no h0 hv
    have hne : Hid (¬ (cutB 59 s) = []) := fun e => cutL_ne 59 s.data.toList (by unfold cutB at e; exact List.map_eq_nil_iff.1 e)
    have KC : Hid (∀ W, Calls Tryd.prog 78 #[.string s, .int .u8 59] W (StrsNew (cutB 59 s) W)) := fun W => l4Cut_any s 59 59 W hs rfl
    clear h0
    generalize cutB 59 s = ws at hnl HS HY HN hne KC
    have kn0 : Kn w [(w.heap.size, 0, .slice none 0 0), (w.heap.size + 1, 0, .slice none 0 0)] ((w.alloc (.cells #[.slice none 0 0] 55)).alloc (.cells #[.slice none 0 0] 55)) := by simpa using ((Kn.start w).box1 (.slice none 0 0) 55).box1 (.slice none 0 0) 55
    have s0 : w.heap.size + 2 ≤ ((w.alloc (.cells #[.slice none 0 0] 55)).alloc (.cells #[.slice none 0 0] 55)).heap.size := by simp
    go_enter Tryd.func37, Tryd.ntmps37
    go_wp2_with fail
    generalize (w.alloc (.cells #[.slice none 0 0] 55)).alloc (.cells #[.slice none 0 0] 55) = w0 at kn0 s0 ⊢
    refine (KC.out _).mono ?_
    rintro e w1 ⟨A1, c1, rfl, hown1, hb1⟩
    obtain ⟨G, cur, rfl, hGlo, hG⟩ : ∃ G cur, A1 = some ⟨G, 0, none⟩ ∧ w0.heap.size ≤ G ∧ w1.heap[G]? = some (.cells cur 9 (0, 0)) := by
      rcases hown1.2 with ⟨_, h0⟩ | ⟨g, cap, cur, hv, hlo, hg, _⟩
      · exact absurd (List.length_eq_zero_iff.1 h0) hne.out
      · injection hv with hA _ _
        exact ⟨g, cur, hA, hlo, hg⟩
    have hcell : ∀ j x, ws[j]? = some x → w1.cell? ⟨G, j, none⟩ = some (.string x) := fun j x hx => by
      obtain ⟨g, hg, _, _, hc⟩ := strs_at hown1 rfl hx
      injection hg with hg
      injection hg with hg
      subst hg
      exact hc
    have kn1 := kn_row (kn0.next hb1) hG hcell
    have hG1 := (Array.getElem?_eq_some_iff.1 hG).1
    have hb1' := hb1.size
    clear hown1 hb1 hcell
    obtain ⟨LP, hLP⟩ : ∃ LP, LP = rowK G ws := ⟨_, rfl⟩
    have HLP : Hid (∀ k x, ws[k]? = some x → (G, k, Value.string x) ∈ LP) := fun k x hx => by rw [hLP]; exact rowK_mem hx
    have hd0 : DInv w ((w.heap.size, 0, .slice none 0 0) :: LP) (w.heap.size + 1) w1.heap.size [] (.slice none 0 0) w1 := by
      refine ⟨kn1.sub fun t ht => ?_, OwnD.nil _ _ _, Nat.le_refl _, by omega, by omega, fun t ht => ?_, (kn1.cell (w.heap.size + 1, 0, .slice none 0 0) (by simp)).2, kn1.frz (w.heap.size + 1, 0, .slice none 0 0) (by simp)⟩
      · rcases List.mem_cons.1 ht with rfl | ht
        · simp
        · rw [hLP] at ht
          exact List.mem_append.2 (.inr ht)
      · rcases List.mem_cons.1 ht with rfl | ht
        · exact ⟨by show w.heap.size ≠ _; omega, by show w.heap.size < _; omega⟩
        · rw [hLP] at ht
          obtain ⟨k, x, hx, rfl⟩ := rowK_at ht
          exact ⟨by show G ≠ _; omega, hG1⟩
    have hxlo : w.heap.size + 2 ≤ w1.heap.size := by omega
    have hGw : w.heap.size + 2 ≤ G := by omega
    generalize w1.heap.size = lo at hd0 hG1 hxlo
    obtain ⟨n, hn⟩ : ∃ n, ws.length = n := ⟨_, rfl⟩
    rw [hn] at hnl ⊢
    have HL := Lib.hid hn
    clear hn hLP kn1 hG kn0 KC hb1' s0 hne 
    go_wp2_with fail
    go_loopw [6] (fun i wr => ∃ (k : Nat) (v : Value), k ≤ n ∧ k ≤ 7 ∧ i = .int .i64 k ∧ Hid (DInv w ((w.heap.size, 0, .slice none 0 0) :: LP) (w.heap.size + 1) lo ((tabsP ws).take k) v wr)) (fun i _ => n - (intOf i).toNat)
    case atStart => exact ⟨0, .slice none 0 0, by omega, by omega, rfl, hd0⟩
    case round =>
      obtain ⟨k, v, hk, hk7, rfl, hinv⟩ := hrel
      clear hd0
      have hlk : ((tabsP ws).take k).length = k := by rw [List.length_take, tabsP_len, HL.out]; omega
      by_cases hlt : k < n ∧ k ≤ 6
      · have g1 : (0 : Int) ≤ (k : Int) := by omega
        have g2 : (k : Int) < (n : Int) := by omega
        have g3 : (k : Int).toNat = k := by omega
        have g4 : (k : Int) ≤ 6 := by omega
        obtain ⟨x, hx⟩ : ∃ x, ws[k]? = some x := ⟨ws[k]'(by rw [HL.out]; omega), List.getElem?_eq_getElem _⟩
        have HX := Lib.hid (tabsP_take hx)
        have HXb := Lib.hid (tabsP_bad hx)
        have hxs := HS.out x (List.mem_of_getElem? hx)
        have hsm := tabOf_small x
        have hc1 := (hinv.out.kn.cell _ (List.mem_cons_of_mem _ (HLP.out k x hx))).2
        have hcG := (hinv.out.kn.cell _ (List.mem_cons_of_mem _ (HLP.out k x hx))).1
        obtain ⟨d0, _⟩ := hinv.out.kn.all
        have x0 := hinv.out.x0
        have KT : Hid (Calls Tryd.prog 28 #[.string x] wr (TabBool (parT x) wr)) := spec_ParseTable_any x wr hxs
        obtain ⟨⟨nm, ar, rs, ok⟩, hP⟩ : ∃ P, parT x = P := ⟨_, rfl⟩
        rw [hP] at KT HX HXb hsm
        have hnm : nm.size + (rs.length + sumL rs) ≤ 40 := hsm
        clear hx hP hsm hxs
        cases ok with
        | false =>
          have hf := Lib.hid (HN.out (HXb.out rfl))
          have hB := Lib.hid hinv.out.kn.bel
          obtain ⟨f0, _⟩ := hinv.out.kn.fall
          have hbl : w.heap.size < wr.heap.size := Nat.lt_of_lt_of_le (by omega) hinv.out.size
          go_wp2_with fail
          refine KT.out.mono ?_
          rintro e w2 ⟨A1, c1, rfl, ho2, hb2⟩
          have y0 := (hb2.cell (p := ⟨w.heap.size, 0, none⟩) hbl).trans d0
          have yf := (hb2.frozen (p := ⟨w.heap.size, 0, none⟩) hbl).trans f0
          have HB2 := Lib.hid (hB.out.trans (hb2.mono hB.out.size))
          have hbl2 : w.heap.size < w2.heap.size := Nat.lt_of_lt_of_le hbl hb2.size
          clear d0 f0 x0 hc1 hcG hinv KT hb2 ho2
          go_wp2_with fail
          refine bodyPost_ret (v := .tuple #[.agg #[.slice none 0 0], .bool false]) (by simp [results, Tryd.results37, go_sem, *]) rfl (DbBool.of hf.out (OwnD.nil _ _ _) ?_)
          repeat first | exact HB2.out | (refine Below.setCell ?_ ?_ _; rotate_left; (simp; try omega)) | (refine Below.alloc ?_ ?_ _; rotate_left; (simp; try omega))
        | true =>
          go_wp2_with fail
          refine KT.out.mono ?_
          rintro e w2 ⟨A1, c1, rfl, ho2, hb2⟩
          dsimp only at ho2
          obtain ⟨xs, hrow, n2, happ⟩ := hinv.out.app (nm := nm) (ar := ar) (w1 := w2.alloc (.cells #[.string nm, .int .i64 ar, .slice A1 rs.length c1] 41)) (hb2.alloc hb2.size (.cells #[.string nm, .int .i64 ar, .slice A1 rs.length c1] 41)) (ho2.below ((Below.refl w2.heap.size w2).alloc (Nat.le_refl _) (.cells #[.string nm, .int .i64 ar, .slice A1 rs.length c1] 41)) (Nat.le_refl _)) (Nat.le_refl _) (by simp) (by unfold maxLen; omega)
          have hnb : (w2.alloc (.cells #[.string nm, .int .i64 ar, .slice A1 rs.length c1] 41)).heap.size = w2.heap.size + 1 := by simp
          have hgn := heap_alloc_new (w2.alloc (.cells #[.string nm, .int .i64 ar, .slice A1 rs.length c1] 41)) (.cells #[.string nm, .int .i64 ar, .slice A1 rs.length c1] 41)
          have hx1 : w.heap.size + 1 < w2.heap.size := Nat.lt_of_lt_of_le (Nat.lt_of_lt_of_le hinv.out.hxb hinv.out.size) hb2.size
          rw [hnb] at hgn happ
          rw [hlk] at hrow happ
          have n3 : w2.cell? ⟨w.heap.size + 1, 0, none⟩ = some v := (hb2.cell (p := ⟨w.heap.size + 1, 0, none⟩) (Nat.lt_of_lt_of_le hinv.out.hxb hinv.out.size)).trans hinv.out.x0
          have HA := Lib.hid happ
          have HR := Lib.hid hrow
          have HGN := Lib.hid hgn
          clear happ ho2 hb2 hrow hgn n2 d0 x0 hc1 hcG hinv KT
          go_wp2_with (at_builtin; refine wpList_append_lies _ rfl _ _ _ rfl 0 41 i1 _ 3 48 Tryd.underlying53 hi1 hz0 hz1 hz2 rfl (by omega) _ k _ rfl HR.out ⟨w2.heap.size + 1, 0, none⟩ 1 1 [.string nm, .int .i64 ar, .slice A1 rs.length c1] rfl rfl (World.news_of_block (cs := #[.string nm, .int .i64 ar, .slice A1 rs.length c1]) (t := 41) (fr := (0, 0)) HGN.out) (by simp [Value.oneCell']) (by omega) (by unfold maxLen; omega) (by omega) (Nat.zero_le _) (w2.heap.size + 1 + 1) (by simp) ?_; intro g cap w3 hown2 hgrow hat hlt2; obtain ⟨m2, m3, hF, hcl, hsz2⟩ := HA.out g cap w3 hown2 hgrow hat; have HF := Lib.hid hF; clear hown2 hgrow hat hF hcl hsz2)
          rw [show ((tabsP ws).take k ++ [(⟨nm, ar, rs⟩ : Tab)]) = (tabsP ws).take (k + 1) from HX.out] at HF
          refine ⟨⟨k + 1, _, by omega, by omega, by go_num, HF⟩, ?_⟩
          simp [intOf]
          omega
      · obtain ⟨Fl, hFl⟩ : ∃ Fl, (tabsP ws).take k = Fl := ⟨_, rfl⟩
        rw [hFl] at hinv hlk
        have hvd : validD Fl = validD (tabsP ws) := by
          by_cases hkn : k = n
          · rw [← hFl, List.take_of_length_le (by rw [tabsP_len, HL.out]; omega)]
          · rw [validD_long (ts := Fl) (by omega), validD_long (ts := tabsP ws) (by rw [tabsP_len, HL.out]; omega)]
        have hFs : sumT Fl ≤ 4294967296 := by
          have h1 := sumT_tabsP ws
          have h2 := sumT_append ((tabsP ws).take k) ((tabsP ws).drop k)
          rw [List.take_append_drop, hFl] at h2
          have := HL.out
          omega
        have g2 : (k < n → ¬ (k : Int) ≤ 6) := by omega
        obtain ⟨AF, cF, rfl⟩ := hinv.out.own.form
        rw [hlk] at hinv
        have hD := hinv.out
        clear hinv
        have hszD := hD.size
        obtain ⟨d0, _⟩ := hD.kn.all
        have x0 := hD.x0
        have KVx := Lib.hid (spec_IsValidDatabase_any AF k cF wr.heap.size Fl wr (hD.own.rd hlk) (Nat.le_refl _) (by omega) hFs)
        rw [hvd] at KVx
        have HFL := Lib.hid (show k = n → Fl = tabsP ws from fun h => by rw [← hFl, List.take_of_length_le (by rw [tabsP_len, HL.out]; omega)])
        have hknv : validD (tabsP ws) = true → k = n := fun h => by have := validD_len h; rw [tabsP_len, HL.out] at this; omega
        clear hFl hvd hFs
        have hgo : ((k : Int) < (n : Int) ∧ (k : Int) ≤ 6) → False := by omega
        cases hv : validD (tabsP ws) with
        | true =>
          have hkn := hknv hv
          have HE := Lib.hid (HY.out hv)
          have HFE := Lib.hid (HFL.out hkn)
          rw [hv] at KVx
          subst hkn
          clear hv hknv g2 hgo HFL hlt
          go_wp2_with fail
          refine KVx.out.mono ?_
          rintro e w7 ⟨rfl, b7⟩
          have HD7 := Lib.hid (hD.next b7)
          have hszD7 := HD7.out.size
          clear hD b7 d0 x0 KVx
          obtain ⟨d0, _⟩ := HD7.out.kn.all
          obtain ⟨f0, _⟩ := HD7.out.kn.fall
          have x0 := HD7.out.x0
          go_wp2_with fail
          refine bodyPost_ret (v := .tuple #[.agg #[.slice AF k cF], .bool true]) (by simp [results, Tryd.results37, go_sem, *]) rfl (DbBool.of (ts := Fl) (by rw [HE.out, HFE.out]) ?_ ?_)
          · refine OwnD.down (lo := lo) (OwnD.wide (hi := w7.heap.size) ?_ (by simp)) (by omega)
            repeat refine OwnD.setOff ?_ (by omega)
            exact HD7.out.own
          · repeat first | exact HD7.out.kn.bel | (refine Below.setCell ?_ ?_ _; rotate_left; (simp; try omega))
        | false =>
          have HE := Lib.hid (HN.out hv)
          rw [hv] at KVx
          clear hv hknv HFL
          by_cases hkn : k = n
          · subst hkn
            clear g2 hgo hlt
            go_wp2_with fail
            refine KVx.out.mono ?_
            rintro e w7 ⟨rfl, b7⟩
            have HD7 := Lib.hid (hD.next b7)
            have hszD7 := HD7.out.size
            clear hD b7 d0 x0 KVx
            obtain ⟨d0, _⟩ := HD7.out.kn.all
            obtain ⟨f0, _⟩ := HD7.out.kn.fall
            go_wp2_with fail
            refine bodyPost_ret (v := .tuple #[.agg #[.slice none 0 0], .bool false]) (by simp [results, Tryd.results37, go_sem, *]) rfl (DbBool.of HE.out (OwnD.nil _ _ _) ?_)
            repeat first | exact HD7.out.kn.bel | (refine Below.setCell ?_ ?_ _; rotate_left; (simp; try omega))
          · have g5 : (k : Int) < (n : Int) := by omega
            have g6 : ¬ (k : Int) ≤ 6 := by omega
            have g7 : (k : Int) = 7 := by omega
            clear g2 hgo hlt hkn
            go_wp2_with fail
            refine KVx.out.mono ?_
            rintro e w7 ⟨rfl, b7⟩
            have HD7 := Lib.hid (hD.next b7)
            have hszD7 := HD7.out.size
            clear hD b7 d0 x0 KVx
            obtain ⟨d0, _⟩ := HD7.out.kn.all
            obtain ⟨f0, _⟩ := HD7.out.kn.fall
            go_wp2_with fail
            refine bodyPost_ret (v := .tuple #[.agg #[.slice none 0 0], .bool false]) (by simp [results, Tryd.results37, go_sem, *]) rfl (DbBool.of HE.out (OwnD.nil _ _ _) ?_)
            repeat first | exact HD7.out.kn.bel | (refine Below.setCell ?_ ?_ _; rotate_left; (simp; try omega))
end Go.Proofs.YtmojjbhjjhdpaaaDoor
namespace Go.Proofs.YtmojjbhjjhdpaaaDoor
open Go.RowKit Go.Deep

set_option maxRecDepth 100000 in
set_option maxHeartbeats 4000000 in
theorem impl_ParseDatabase_any (s : ByteArray) (w : World) (hs : s.size ≤ 1048576) (ht : Tb w) (hmx : Mx w) :
    Calls Tryd.prog 38 #[.string s] w (DbBool (parD s) w) := by
  obtain ⟨i1, hi1, hz0, hz1, hz2⟩ := info_parts info_tab
  by_cases h0 : s.size = 0
  · have hf := Lib.hid (parD_nil h0)
    have hz : s = ⟨#[]⟩ := str_of (List.length_eq_zero_iff.1 (by simpa using h0))
    subst hz
    clear h0
    go_enter Tryd.func38, Tryd.ntmps38
    go_wp2_with fail
    refine bodyPost_ret (v := .tuple #[.agg #[.slice none 0 0], .bool true]) (by simp [results, Tryd.results38, go_sem, *]) rfl (DbBool.of hf.out (OwnD.nil _ _ _) ?_)
    repeat first | exact Below.refl _ _ | (refine Below.setCell ?_ ?_ _; rotate_left; (simp; try omega)) | (refine Below.alloc ?_ ?_ _; rotate_left; (simp; try omega))
  · have z2 : ¬ s.toList = [] := fun e => h0 (by have := congrArg List.length e; simpa [ByteArray.toList_eq] using this)
    have z0 : (s.toList == []) = false := by simpa using z2
    have z1 : s.toList.isEmpty = false := by simpa using z2
    have hnl : (cutB 59 s).length ≤ 1048577 := by have := cutB_len 59 s; omega
    have HS : Hid (∀ x ∈ cutB 59 s, x.size ≤ 1048576) := fun x hx => Nat.le_trans (cutB_mem hx) hs
    have HY : Hid (validD (tabsP (cutB 59 s)) = true → parD s = (tabsP (cutB 59 s), true)) := fun hv => parD_yes h0 hv
    have HN : Hid (validD (tabsP (cutB 59 s)) = false → parD s = ([], false)) := fun hv => parD_no h0 hv
    have hne : Hid (¬ (cutB 59 s) = []) := fun e => cutL_ne 59 s.data.toList (by unfold cutB at e; exact List.map_eq_nil_iff.1 e)
    have HFS : Hid (validD (tabsP (cutB 59 s)) = true → fmtD (tabsP (cutB 59 s)) = s) := fun hv => fmtD_tabsP hv
    have KC : Hid (∀ W, Mx W → Calls Tryd.prog 89 #[.string s, .string ⟨#[59]⟩] W fun e w' => e = .returned (.slice (some ⟨W.heap.size, 0, none⟩) (cutB 59 s).length (cutB 59 s).length) ∧ w' = W.alloc (.cells ((cutB 59 s).map Value.string).toArray 9)) := fun W m => split_any s 59 W hs m
    clear h0
    generalize cutB 59 s = ws at hnl HS HY HN hne KC HFS
    have kn0 : Kn w [(w.heap.size, 0, .slice none 0 0), (w.heap.size + 1, 0, .slice none 0 0)] ((w.alloc (.cells #[.slice none 0 0] 55)).alloc (.cells #[.slice none 0 0] 55)) := by simpa using ((Kn.start w).box1 (.slice none 0 0) 55).box1 (.slice none 0 0) 55
    have s0 : w.heap.size + 2 ≤ ((w.alloc (.cells #[.slice none 0 0] 55)).alloc (.cells #[.slice none 0 0] 55)).heap.size := by simp
    go_enter Tryd.func38, Tryd.ntmps38
    go_wp2_with fail
    generalize (w.alloc (.cells #[.slice none 0 0] 55)).alloc (.cells #[.slice none 0 0] 55) = w0 at kn0 s0 ⊢
    refine (KC.out _ (hmx.on kn0.bel)).mono ?_
    rintro e w1 ⟨rfl, hw1⟩
    obtain ⟨G, hGe⟩ : ∃ G, w0.heap.size = G := ⟨_, rfl⟩
    have hb1 : Below w0.heap.size w0 w1 := by rw [hw1]; exact (Below.refl _ _).alloc (Nat.le_refl _) _
    have hG : w1.heap[G]? = some (.cells (ws.map Value.string).toArray 9 (0, 0)) := by rw [hw1, ← hGe]; exact heap_alloc_new w0 _
    have hcell : ∀ j x, ws[j]? = some x → w1.cell? ⟨G, j, none⟩ = some (.string x) := fun j x hx => by
      rw [cell_of_row _ G j _ 9 (0, 0) hG]
      simp [hx]
    have hGlo : w0.heap.size ≤ G := by omega
    rw [hGe]
    have kn1 := kn_row (kn0.next hb1) hG hcell
    have hG1 := (Array.getElem?_eq_some_iff.1 hG).1
    have hb1' := hb1.size
    clear hb1 hcell hw1
    obtain ⟨LP, hLP⟩ : ∃ LP, LP = rowK G ws := ⟨_, rfl⟩
    have HLP : Hid (∀ k x, ws[k]? = some x → (G, k, Value.string x) ∈ LP) := fun k x hx => by rw [hLP]; exact rowK_mem hx
    have hd0 : DInv w ((w.heap.size, 0, .slice none 0 0) :: LP) (w.heap.size + 1) w1.heap.size [] (.slice none 0 0) w1 := by
      refine ⟨kn1.sub fun t ht => ?_, OwnD.nil _ _ _, Nat.le_refl _, by omega, by omega, fun t ht => ?_, (kn1.cell (w.heap.size + 1, 0, .slice none 0 0) (by simp)).2, kn1.frz (w.heap.size + 1, 0, .slice none 0 0) (by simp)⟩
      · rcases List.mem_cons.1 ht with rfl | ht
        · simp
        · rw [hLP] at ht
          exact List.mem_append.2 (.inr ht)
      · rcases List.mem_cons.1 ht with rfl | ht
        · exact ⟨by show w.heap.size ≠ _; omega, by show w.heap.size < _; omega⟩
        · rw [hLP] at ht
          obtain ⟨k, x, hx, rfl⟩ := rowK_at ht
          exact ⟨by show G ≠ _; omega, hG1⟩
    have hxlo : w.heap.size + 2 ≤ w1.heap.size := by omega
    have hGw : w.heap.size + 2 ≤ G := by omega
    generalize w1.heap.size = lo at hd0 hG1 hxlo
    obtain ⟨n, hn⟩ : ∃ n, ws.length = n := ⟨_, rfl⟩
    rw [hn] at hnl ⊢
    have HL := Lib.hid hn
    clear hn hLP kn1 hG kn0 KC hb1' s0 hne
    go_wp2_with fail
    go_loopw [16] (fun i wr => ∃ (k : Nat) (v : Value), k ≤ n ∧ i = .int .i64 k ∧ Hid (DInv w ((w.heap.size, 0, .slice none 0 0) :: LP) (w.heap.size + 1) lo ((tabsP ws).take k) v wr)) (fun i _ => n - (intOf i).toNat)
    case atStart => exact ⟨0, .slice none 0 0, by omega, rfl, hd0⟩
    case round =>
      obtain ⟨k, v, hk, rfl, hinv⟩ := hrel
      clear hd0
      have hlk : ((tabsP ws).take k).length = k := by rw [List.length_take, tabsP_len, HL.out]; omega
      by_cases hlt : k < n
      · have g1 : (0 : Int) ≤ (k : Int) := by omega
        have g2 : (k : Int) < (n : Int) := by omega
        have g3 : (k : Int).toNat = k := by omega
        obtain ⟨x, hx⟩ : ∃ x, ws[k]? = some x := ⟨ws[k]'(by rw [HL.out]; omega), List.getElem?_eq_getElem _⟩
        have HX := Lib.hid (tabsP_take hx)
        have HXb := Lib.hid (tabsP_bad hx)
        have hxs := HS.out x (List.mem_of_getElem? hx)
        have hsm := tabOf_small x
        have hc1 := (hinv.out.kn.cell _ (List.mem_cons_of_mem _ (HLP.out k x hx))).2
        have hcG := (hinv.out.kn.cell _ (List.mem_cons_of_mem _ (HLP.out k x hx))).1
        obtain ⟨d0, _⟩ := hinv.out.kn.all
        have x0 := hinv.out.x0
        have HWB := Lib.hid hinv.out.kn.bel
        have KT : Hid (Calls Tryd.prog 29 #[.string x] wr (TabBool (parT x) wr)) := impl_ParseTable_any x wr hxs (ht.on HWB.out) (hmx.on HWB.out)
        obtain ⟨⟨nm, ar, rs, ok⟩, hP⟩ : ∃ P, parT x = P := ⟨_, rfl⟩
        rw [hP] at KT HX hsm
        have hnm : nm.size + (rs.length + sumL rs) ≤ 40 := hsm
        clear hx hP hsm hxs HXb
        go_wp2_with fail
        refine KT.out.mono ?_
        rintro e w2 ⟨A1, c1, rfl, ho2, hb2⟩
        dsimp only at ho2
        obtain ⟨xs, hrow, n2, happ⟩ := hinv.out.app (nm := nm) (ar := ar) (w1 := w2.alloc (.cells #[.string nm, .int .i64 ar, .slice A1 rs.length c1] 41)) (hb2.alloc hb2.size (.cells #[.string nm, .int .i64 ar, .slice A1 rs.length c1] 41)) (ho2.below ((Below.refl w2.heap.size w2).alloc (Nat.le_refl _) (.cells #[.string nm, .int .i64 ar, .slice A1 rs.length c1] 41)) (Nat.le_refl _)) (Nat.le_refl _) (by simp) (by unfold maxLen; omega)
        have hnb : (w2.alloc (.cells #[.string nm, .int .i64 ar, .slice A1 rs.length c1] 41)).heap.size = w2.heap.size + 1 := by simp
        have hgn := heap_alloc_new (w2.alloc (.cells #[.string nm, .int .i64 ar, .slice A1 rs.length c1] 41)) (.cells #[.string nm, .int .i64 ar, .slice A1 rs.length c1] 41)
        have hx1 : w.heap.size + 1 < w2.heap.size := Nat.lt_of_lt_of_le (Nat.lt_of_lt_of_le hinv.out.hxb hinv.out.size) hb2.size
        rw [hnb] at hgn happ
        rw [hlk] at hrow happ
        have n3 : w2.cell? ⟨w.heap.size + 1, 0, none⟩ = some v := (hb2.cell (p := ⟨w.heap.size + 1, 0, none⟩) (Nat.lt_of_lt_of_le hinv.out.hxb hinv.out.size)).trans hinv.out.x0
        have HA := Lib.hid happ
        have HR := Lib.hid hrow
        have HGN := Lib.hid hgn
        clear happ ho2 hb2 hrow hgn n2 d0 x0 hc1 hcG hinv KT
        go_wp2_with (at_builtin; refine wpList_append_lies _ rfl _ _ _ rfl 0 41 i1 _ 3 48 Tryd.underlying53 hi1 hz0 hz1 hz2 rfl (by omega) _ k _ rfl HR.out ⟨w2.heap.size + 1, 0, none⟩ 1 1 [.string nm, .int .i64 ar, .slice A1 rs.length c1] rfl rfl (World.news_of_block (cs := #[.string nm, .int .i64 ar, .slice A1 rs.length c1]) (t := 41) (fr := (0, 0)) HGN.out) (by simp [Value.oneCell']) (by omega) (by unfold maxLen; omega) (by omega) (Nat.zero_le _) (w2.heap.size + 1 + 1) (by simp) ?_; intro g cap w3 hown2 hgrow hat hlt2; obtain ⟨m2, m3, hF, hcl, hsz2⟩ := HA.out g cap w3 hown2 hgrow hat; have HF := Lib.hid hF; clear hown2 hgrow hat hF hcl hsz2)
        rw [show ((tabsP ws).take k ++ [(⟨nm, ar, rs⟩ : Tab)]) = (tabsP ws).take (k + 1) from HX.out] at HF
        refine ⟨⟨k + 1, _, by omega, by go_num, HF⟩, ?_⟩
        simp [intOf]
        omega
      · obtain rfl : k = n := by omega
        have HT : (tabsP ws).take k = tabsP ws := List.take_of_length_le (by rw [tabsP_len, HL.out]; omega)
        rw [HT] at hinv hlk
        have hFs : sumT (tabsP ws) ≤ 4294967296 := by have := sumT_tabsP ws; have := HL.out; omega
        obtain ⟨AF, cF, rfl⟩ := hinv.out.own.form
        rw [hlk] at hinv
        have hD := hinv.out
        clear hinv
        have hszD := hD.size
        obtain ⟨d0, _⟩ := hD.kn.all
        have x0 := hD.x0
        have KVx := Lib.hid (impl_FormatDatabase_any AF k cF wr.heap.size (tabsP ws) wr (ht.on hD.kn.bel) (hD.own.rd hlk) (Nat.le_refl _) (by omega) hFs)
        clear HT hFs hlt
        cases hv : validD (tabsP ws) with
        | true =>
          have HE := Lib.hid (HY.out hv)
          rw [HFS.out hv] at KVx
          have qs : (s.toList == s.toList) = true := by simp
          have qs2 : (s.toList != s.toList) = false := by simp
          clear hv
          go_wp2_with fail
          refine KVx.out.mono ?_
          rintro e w7 ⟨rfl, b7⟩
          have HD7 := Lib.hid (hD.next b7)
          have hszD7 := HD7.out.size
          clear hD b7 d0 x0 KVx
          obtain ⟨d0, _⟩ := HD7.out.kn.all
          obtain ⟨f0, _⟩ := HD7.out.kn.fall
          have x0 := HD7.out.x0
          go_wp2_with fail
          refine bodyPost_ret (v := .tuple #[.agg #[.slice AF k cF], .bool true]) (by simp [results, Tryd.results38, go_sem, *]) rfl (DbBool.of (ts := tabsP ws) HE.out ?_ ?_)
          · refine OwnD.down (lo := lo) (OwnD.wide (hi := w7.heap.size) ?_ (by simp)) (by omega)
            repeat refine OwnD.setOff ?_ (by omega)
            exact HD7.out.own
          · repeat first | exact HD7.out.kn.bel | (refine Below.setCell ?_ ?_ _; rotate_left; (simp; try omega))
        | false =>
          have HE := Lib.hid (HN.out hv)
          rw [fmtD_no hv] at KVx
          have z3 : ([] == s.toList) = false := by cases h : s.toList with | nil => exact absurd h z2 | cons a b => rfl
          have z4 : ([] != s.toList) = true := by cases h : s.toList with | nil => exact absurd h z2 | cons a b => rfl
          have z5 : ¬ [] = s.toList := fun e => z2 e.symm
          clear hv
          go_wp2_with fail
          refine KVx.out.mono ?_
          rintro e w7 ⟨rfl, b7⟩
          have HD7 := Lib.hid (hD.next b7)
          have hszD7 := HD7.out.size
          clear hD b7 d0 x0 KVx
          obtain ⟨d0, _⟩ := HD7.out.kn.all
          obtain ⟨f0, _⟩ := HD7.out.kn.fall
          go_wp2_with fail
          refine bodyPost_ret (v := .tuple #[.agg #[.slice none 0 0], .bool false]) (by simp [results, Tryd.results38, go_sem, *]) rfl (DbBool.of HE.out (OwnD.nil _ _ _) ?_)
          repeat first | exact HD7.out.kn.bel | (refine Below.setCell ?_ ?_ _; rotate_left; (simp; try omega))
end Go.Proofs.YtmojjbhjjhdpaaaDoor
