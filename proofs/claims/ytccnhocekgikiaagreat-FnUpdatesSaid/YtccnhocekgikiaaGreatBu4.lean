/- EqDS, NewT, TabL, DbL, UpL, Draw, Draw2, in one text, as far as the seat's program has the functions (printed by tools/fit2.py). -/
import Derived.Test.YtccnhocekgikiaaGreatBu3
import Derived.Deep.RegionHeld3
import Derived.Laws.BitsLemmas
import Derived.Deep.DeepCutAuto
import Derived.OwnWalk
namespace Go.Proofs.YtccnhocekgikiaaGreat
section
open Go.RowKit Go.Deep

set_option maxRecDepth 100000 in
set_option maxHeartbeats 1000000 in
theorem spec_EqualDatabases_any (A A' : Option Addr) (n c n' c' B B' : Nat) (ts ts' : List Tab) (w : World) (hr : RdT w B A n ts) (hr' : RdT w B' A' n' ts') (hB : B ≤ w.heap.size) (hB' : B' ≤ w.heap.size) (hn : n ≤ 9223372036854775806) (hn' : n' ≤ 9223372036854775806) :
    Calls Tryz.prog 16 #[.agg #[.slice A n c], .agg #[.slice A' n' c']] w fun e w' => e = .returned (.bool (decide (ts = ts'))) ∧ Below w.heap.size w w' := by
  have kn0 : Kn w [(w.heap.size, 0, .slice A n c), (w.heap.size + 1, 0, .slice A' n' c')] ((w.alloc (.cells #[.slice A n c] 26)).alloc (.cells #[.slice A' n' c'] 26)) := by
    simpa using ((Kn.start w).box1 (.slice A n c) 26).box1 (.slice A' n' c') 26
  by_cases hne : n = n'
  · subst hne
    go_enter Tryz.func16, Tryz.ntmps16
    go_wp2_with fail
    generalize (w.alloc (.cells #[.slice A n c] 26)).alloc (.cells #[.slice A' n c'] 26) = w0 at kn0 ⊢
    go_loopw [5] (fun i wr => ∃ k : Nat, k ≤ n ∧ i = .int .i64 k ∧ Hid (ts.take k = ts'.take k) ∧ Kn w [(w.heap.size, 0, .slice A n c), (w.heap.size + 1, 0, .slice A' n c')] wr) (fun i _ => n - (intOf i).toNat)
    case atStart => exact ⟨0, by omega, rfl, rfl, kn0⟩
    case round =>
      obtain ⟨k, hk, rfl, hpre, kn⟩ := hrel
      clear kn0
      obtain ⟨x0, x1, _⟩ := kn.all
      have hbel := Lib.hid kn.bel
      have hsz := hbel.out.size
      by_cases hlt : k < n
      · obtain ⟨b, o, t, A1, c1, rfl, hb, hx, hc0, hc1, hc2, hrd, hm, _⟩ := RdT.at_ hr hlt
        obtain ⟨b', o', t', A2, c2, rfl, hb', hx', hc0', hc1', hc2', hrd', hm', _⟩ := RdT.at_ hr' hlt
        have six : Six b b' o o' k t t' A1 A2 c1 c2 wr := Six.next ⟨hc0, hc1, hc2, hc0', hc1', hc2'⟩ hbel.out (by omega) (by omega)
        have KE : Hid (∀ W, Below wr.heap.size wr W → Calls Tryz.prog 41 #[.agg #[.string t.nm, .int .i64 t.ar, .slice A1 t.rs.length c1], .agg #[.string t'.nm, .int .i64 t'.ar, .slice A2 t'.rs.length c2]] W fun e w' => e = .returned (.bool (eqT t.nm t'.nm t.ar t'.ar t.rs t'.rs)) ∧ Below W.heap.size W w') := fun W b1 =>
          spec_EqualTables_any t.nm t'.nm t.ar t'.ar A1 A2 t.rs.length c1 t'.rs.length c2 B B' t.rs t'.rs W (RdR.belowB hrd (hbel.out.trans (b1.mono hsz)) hB) (RdR.belowB hrd' (hbel.out.trans (b1.mono hsz)) hB') (Nat.le_trans hB (Nat.le_trans hsz b1.size)) (Nat.le_trans hB' (Nat.le_trans hsz b1.size)) (by unfold maxLen at hm; exact hm) (by unfold maxLen at hm'; exact hm')
        have HX := Lib.hid hx
        have HX' := Lib.hid hx'
        have g1 : (0 : Int) ≤ (k : Int) := by omega
        have g2 : (k : Int) < (n : Int) := by omega
        have g3 : (k : Int).toNat = k := by omega
        obtain ⟨nm, ar, rs⟩ := t
        obtain ⟨nm', ar', rs'⟩ := t'
        have KB : Hid (∀ W, Below wr.heap.size wr W → W.cell? ⟨w.heap.size, 0, none⟩ = some (.slice (some ⟨b, o, none⟩) n c) ∧ W.cell? ⟨w.heap.size + 1, 0, none⟩ = some (.slice (some ⟨b', o', none⟩) n c') ∧ W.cell? ⟨b, o + k * 3, none⟩ = some (.string nm) ∧ W.cell? ⟨b, o + k * 3 + 1, none⟩ = some (.int .i64 ar) ∧ W.cell? ⟨b, o + k * 3 + 2, none⟩ = some (.slice A1 rs.length c1) ∧ W.cell? ⟨b', o' + k * 3, none⟩ = some (.string nm') ∧ W.cell? ⟨b', o' + k * 3 + 1, none⟩ = some (.int .i64 ar') ∧ W.cell? ⟨b', o' + k * 3 + 2, none⟩ = some (.slice A2 rs'.length c2) ∧ Below wr.heap.size wr W) := fun W bw => by
          obtain ⟨z0, z1, _⟩ := (kn.next bw).all
          obtain ⟨s0, s1, s2, s3, s4, s5⟩ := six.next bw (by omega) (by omega)
          exact ⟨z0, z1, s0, s1, s2, s3, s4, s5, bw⟩
        have KN := Lib.hid kn
        obtain ⟨d0, d1, d2, d3, d4, d5⟩ := six
        clear hx hx' hc0 hc1 hc2 hc0' hc1' hc2' hrd hrd' hm hm' kn
        by_cases he : (⟨nm, ar, rs⟩ : Tab) = ⟨nm', ar', rs'⟩
        · have hpre' : Hid (ts.take (k + 1) = ts'.take (k + 1)) := by
            show _ = _
            rw [List.take_add_one, List.take_add_one, HX.out, HX'.out, he, hpre.out]
          have KE' : Hid (∀ W, Below wr.heap.size wr W → Calls Tryz.prog 41 #[.agg #[.string nm, .int .i64 ar, .slice A1 rs.length c1], .agg #[.string nm', .int .i64 ar', .slice A2 rs'.length c2]] W fun e w' => e = .returned (.bool true) ∧ Below W.heap.size W w') := fun W bw => by have := KE.out W bw; rwa [eqT_yes he] at this
          clear he KE
          go_wp2_with fail
          have bz : Below wr.heap.size wr wr.drew := (Below.refl _ _).drew
          go_region_held3 (fun W => W.cell? ⟨w.heap.size, 0, none⟩ = some (.slice (some ⟨b, o, none⟩) n c) ∧ W.cell? ⟨w.heap.size + 1, 0, none⟩ = some (.slice (some ⟨b', o', none⟩) n c') ∧ W.cell? ⟨b, o + k * 3, none⟩ = some (.string nm) ∧ W.cell? ⟨b, o + k * 3 + 1, none⟩ = some (.int .i64 ar) ∧ W.cell? ⟨b, o + k * 3 + 2, none⟩ = some (.slice A1 rs.length c1) ∧ W.cell? ⟨b', o' + k * 3, none⟩ = some (.string nm') ∧ W.cell? ⟨b', o' + k * 3 + 1, none⟩ = some (.int .i64 ar') ∧ W.cell? ⟨b', o' + k * 3 + 2, none⟩ = some (.slice A2 rs'.length c2) ∧ Below wr.heap.size wr W)
            (first | assumption | exact KB.out _ (by assumption))
            (first | (go_at_call 41; ((with_reducible refine (KE'.out _ (by assumption)).mono ?_); rintro e w1 ⟨rfl, b1⟩; have bz := bel_step (by assumption) b1)))
          have HF := Lib.hid (KN.out.next bz)
          clear bz KN
          go_wp2_with fail
          refine ⟨⟨k + 1, by omega, by go_num, hpre', HF.out⟩, ?_⟩
          simp [intOf]
          omega
        · have hfin := Lib.hid (ne_of_get HX.out HX'.out he)
          have KE' : Hid (∀ W, Below wr.heap.size wr W → Calls Tryz.prog 41 #[.agg #[.string nm, .int .i64 ar, .slice A1 rs.length c1], .agg #[.string nm', .int .i64 ar', .slice A2 rs'.length c2]] W fun e w' => e = .returned (.bool false) ∧ Below W.heap.size W w') := fun W bw => by have := KE.out W bw; rwa [eqT_no he] at this
          clear he KE
          go_wp2_with fail
          have bz : Below wr.heap.size wr wr.drew := (Below.refl _ _).drew
          go_region_held3 (fun W => W.cell? ⟨w.heap.size, 0, none⟩ = some (.slice (some ⟨b, o, none⟩) n c) ∧ W.cell? ⟨w.heap.size + 1, 0, none⟩ = some (.slice (some ⟨b', o', none⟩) n c') ∧ W.cell? ⟨b, o + k * 3, none⟩ = some (.string nm) ∧ W.cell? ⟨b, o + k * 3 + 1, none⟩ = some (.int .i64 ar) ∧ W.cell? ⟨b, o + k * 3 + 2, none⟩ = some (.slice A1 rs.length c1) ∧ W.cell? ⟨b', o' + k * 3, none⟩ = some (.string nm') ∧ W.cell? ⟨b', o' + k * 3 + 1, none⟩ = some (.int .i64 ar') ∧ W.cell? ⟨b', o' + k * 3 + 2, none⟩ = some (.slice A2 rs'.length c2) ∧ Below wr.heap.size wr W)
            (first | assumption | exact KB.out _ (by assumption))
            (first | (go_at_call 41; ((with_reducible refine (KE'.out _ (by assumption)).mono ?_); rintro e w1 ⟨rfl, b1⟩; have bz := bel_step (by assumption) b1)))
          have HF := Lib.hid (KN.out.next bz).bel
          clear bz KN
          go_wp2_with fail
          go_ret
          exact ⟨by rw [hfin.out] <;> rfl, HF.out⟩
      · obtain rfl : k = n := by omega
        have hfin : Hid (decide (ts = ts') = true) := by
          show decide (ts = ts') = true
          rw [decide_eq_true_eq]
          have h1 := hpre.out
          rwa [List.take_of_length_le (Nat.le_of_eq hr.1), List.take_of_length_le (Nat.le_of_eq hr'.1)] at h1
        go_wp2_with fail
        go_ret
        exact ⟨by rw [hfin.out] <;> rfl, hbel.out⟩
  · have hfin : Hid (decide (ts = ts') = false) := by
      show decide (ts = ts') = false
      rw [decide_eq_false_iff_not]
      rintro rfl
      exact hne (hr.1.symm.trans hr'.1)
    have hbq : ((n : Int) != (n' : Int)) = true := by simp; omega
    clear hne
    go_enter Tryz.func16, Tryz.ntmps16
    go_wp2_with fail
    go_ret
    exact ⟨by rw [hfin.out] <;> rfl, kn0.bel⟩

end

section
open Go.RowKit

theorem putA_back (r : List Int) : ∀ (rs : List (List Int)) (put : Bool), r ∉ rs → (putA r put rs).filter (fun x => decide (¬ x = r)) = rs
  | [], put, _ => by cases put <;> simp [putA]
  | x :: l, put, h => by
    have hx : ¬ x = r := fun e => h (by simp [e])
    have hl : r ∉ l := fun e => h (by simp [e])
    have hf : l.filter (fun x => decide (¬ x = r)) = l := List.filter_eq_self.2 fun y hy => by
      simp only [decide_eq_true_eq]
      rintro rfl
      exact hl hy
    rw [putA]
    split
    · rw [putA_true, List.filter_cons_of_neg (by simp), List.filter_cons_of_pos (by simpa using hx), hf]
    · rw [List.filter_cons_of_pos (by simpa using hx), putA_back r l _ hl]

theorem putA_one {r : List Int} {rs : List (List Int)} (h : r ∉ rs) : (putA r false rs).length = rs.length + 1 := by
  have h1 := (putA_len r rs).2
  have h2 : ((putA r false rs).filter (fun x => decide (¬ x = r))).length < (putA r false rs).length :=
    List.length_filter_lt_length_iff_exists.2 ⟨r, (putA_mem r rs r).2 (.inl rfl), by simp⟩
  rw [putA_back r rs false h] at h2
  omega

theorem insB_parts {nm : ByteArray} {ar : Int} {rs : List (List Int)} {r : List Int} (h : insB nm ar rs r = true) : validT nm ar rs = true ∧ rowB r ar = true ∧ r ∉ rs ∧ rs.length < 8 := by
  unfold insB at h
  simp only [Bool.and_eq_true, Bool.not_eq_true', decide_eq_false_iff_not, decide_eq_true_eq] at h
  exact ⟨h.1, h.2.1, h.2.2.1, h.2.2.2⟩

theorem validT_put {nm : ByteArray} {ar : Int} {rs : List (List Int)} {r : List Int} (h : insB nm ar rs r = true) : validT nm ar (putA r false rs) = true := by
  obtain ⟨hv, hr, hn, hl⟩ := insB_parts h
  have ha := validT_asc hv
  unfold validT at hv ⊢
  simp only [Bool.and_eq_true, decide_eq_true_eq, List.all_eq_true] at hv ⊢
  refine ⟨hv.1, hv.2.1, by rw [putA_one hn]; omega, fun x hx => ?_, ascB_of (putA_asc r rs ha)⟩
  rcases (putA_mem r rs x).1 hx with rfl | hx
  · exact hr
  · exact hv.2.2.2.1 x hx

theorem contB_put {nm : ByteArray} {ar : Int} {rs : List (List Int)} {r : List Int} (h : insB nm ar rs r = true) : contB nm ar (putA r false rs) r = true := by
  unfold contB
  rw [validT_put h, decide_eq_true ((putA_mem r rs r).2 (.inl rfl))]
  rfl

theorem delR_put {nm : ByteArray} {ar : Int} {rs : List (List Int)} {r : List Int} (h : insB nm ar rs r = true) : delR nm ar (putA r false rs) r = ⟨nm, ar, rs, true⟩ := by
  unfold delR
  rw [if_pos (contB_put h), putA_back r rs false (insB_parts h).2.2.1]

theorem insR_yes {nm : ByteArray} {ar : Int} {rs : List (List Int)} {r : List Int} (h : insB nm ar rs r = true) : insR nm ar rs r = ⟨nm, ar, putA r false rs, true⟩ := by rw [insR, if_pos h]

theorem insR_no {nm : ByteArray} {ar : Int} {rs : List (List Int)} {r : List Int} (h : insB nm ar rs r = false) : insR nm ar rs r = ⟨nm, ar, rs, false⟩ := by rw [insR, if_neg (by rw [h]; simp)]

theorem eqT_self (nm : ByteArray) (ar : Int) (rs : List (List Int)) : eqT nm nm ar ar rs rs = true := by simp [eqT]

theorem newR_yes {nm : ByteArray} {ar : Int} {rs : List (List Int)} (h : validT nm ar (sortL rs) = true) : newR nm ar rs = ⟨nm, ar, sortL rs, true⟩ := by rw [newR, if_pos h]

theorem newR_no {nm : ByteArray} {ar : Int} {rs : List (List Int)} (h : validT nm ar (sortL rs) = false) : newR nm ar rs = ⟨⟨#[]⟩, 0, [], false⟩ := by rw [newR, if_neg (by rw [h]; simp)]

theorem contB_sort {nm : ByteArray} {ar : Int} {rs : List (List Int)} {r : List Int} (h : validT nm ar (sortL rs) = true) (hr : r ∈ rs) : contB nm ar (sortL rs) r = true := by
  unfold contB
  rw [h, decide_eq_true ((sortL_mem rs r).2 hr)]
  rfl

end

section
open Go.RowKit

theorem filter_split (k : Nat) : ∀ {ts : List Tab}, AscK ts → ts.filter (fun x => decide (¬ keyB x.nm = k)) = ts.filter (fun x => decide (keyB x.nm < k)) ++ ts.filter fun x => decide (k < keyB x.nm)
  | [], _ => rfl
  | x :: l, h => by
    have h' := List.pairwise_cons.1 h
    have ih := filter_split k h'.2
    rcases Nat.lt_trichotomy (keyB x.nm) k with h1 | h1 | h1
    · rw [List.filter_cons_of_pos (by simp; omega), List.filter_cons_of_pos (by simpa using h1), List.filter_cons_of_neg (by simp; omega), ih]
      rfl
    · rw [List.filter_cons_of_neg (by simp [h1]), List.filter_cons_of_neg (by simp [h1]), List.filter_cons_of_neg (by simp [h1]), ih]
    · have f1 : l.filter (fun y => decide (keyB y.nm < k)) = [] := List.filter_eq_nil_iff.2 fun y hy => by have := h'.1 y hy; simp; omega
      rw [List.filter_cons_of_pos (by simp; omega), List.filter_cons_of_neg (by simp; omega), List.filter_cons_of_pos (by simpa using h1), ih, f1]
      rfl

theorem ascK_inj {ts : List Tab} (h : AscK ts) {a b : Tab} (ha : a ∈ ts) (hb : b ∈ ts) (he : keyB a.nm = keyB b.nm) : a = b := by
  obtain ⟨i, hi, rfl⟩ := List.getElem_of_mem ha
  obtain ⟨j, hj, rfl⟩ := List.getElem_of_mem hb
  rcases Nat.lt_trichotomy i j with h1 | h1 | h1
  · have := List.pairwise_iff_getElem.1 h i j hi hj h1
    omega
  · subst h1; rfl
  · have := List.pairwise_iff_getElem.1 h j i hj hi h1
    omega

/-- A valid database, about one of its tables. -/
theorem ts_split : ∀ {ts : List Tab} {t : Tab}, AscK ts → t ∈ ts → ts.filter (fun x => decide (keyB x.nm < keyB t.nm)) ++ t :: ts.filter (fun x => decide (keyB t.nm < keyB x.nm)) = ts
  | [], _, _, h => by cases h
  | x :: l, t, h, ht => by
    have h' := List.pairwise_cons.1 h
    rcases List.mem_cons.1 ht with rfl | ht
    · have f1 : l.filter (fun y => decide (keyB y.nm < keyB t.nm)) = [] := List.filter_eq_nil_iff.2 fun y hy => by have := h'.1 y hy; simp; omega
      have f2 : l.filter (fun y => decide (keyB t.nm < keyB y.nm)) = l := List.filter_eq_self.2 fun y hy => by simpa using h'.1 y hy
      rw [List.filter_cons_of_neg (by simp), List.filter_cons_of_neg (by simp), f1, f2]
      rfl
    · have h1 := h'.1 t ht
      rw [List.filter_cons_of_pos (by simpa using h1), List.filter_cons_of_neg (by simp; omega), List.cons_append, ts_split h'.2 ht]

theorem lookR_of {ts : List Tab} {t : Tab} (hv : validD ts = true) (ht : t ∈ ts) : lookR ts t.nm = ⟨t.nm, t.ar, t.rs, true⟩ := by
  obtain ⟨h1, h2, _⟩ := validD_parts hv
  unfold lookR
  cases hf : ts.find? fun x => decide (x.nm = t.nm) with
  | none => exact absurd (List.find?_eq_none.1 hf t ht) (by simp)
  | some t' =>
    have he : t'.nm = t.nm := by simpa using List.find?_some hf
    obtain rfl : t' = t := ascK_inj h2 (List.mem_of_find?_eq_some hf) ht (by rw [he])
    simp [hv]

theorem lookR_ne {ts : List Tab} {nm : ByteArray} (hv : validD ts = true) (h : (lookR ts nm).ok = false) : ts.filter (fun x => decide (¬ x.nm = nm)) = ts := List.filter_eq_self.2 fun x hx => by
  simp only [decide_eq_true_eq]
  rintro rfl
  rw [lookR_of hv hx] at h
  cases h

theorem setT_mem {ts : List Tab} {t : Tab} (hv : validD ts = true) (ht : validTb t = true) : t ∈ setT ts t := by rw [setT_norm hv ht]; simp

theorem setR_ok {ts : List Tab} {t : Tab} (h : (setR ts t).2 = true) : validD ts = true ∧ validTb t = true ∧ setR ts t = (setT ts t, true) ∧ validD (setT ts t) = true := by
  unfold setR at h ⊢
  split at h
  · rename_i h1
    exact ⟨h1.1, h1.2.1, by rw [if_pos h1], by rw [setT_valid h1.1 h1.2.1, decide_eq_true h1.2.2]⟩
  · cases h

theorem setR_bad {ts : List Tab} {t : Tab} (h : (setR ts t).2 = false) : setR ts t = (ts, false) := by
  unfold setR at h ⊢
  split at h
  · cases h
  · rename_i h1
    rw [if_neg h1]

/-- The table found again. -/
theorem lookR_set {ts : List Tab} {t : Tab} (hv : validD ts = true) (ht : validTb t = true) (hx : validD (setT ts t) = true) : lookR (setT ts t) t.nm = ⟨t.nm, t.ar, t.rs, true⟩ := lookR_of hx (setT_mem hv ht)

theorem filter_names {ts : List Tab} {t : Tab} (hn : ∀ x ∈ ts, nameB x.nm = true) (ht : nameB t.nm = true) : ts.filter (fun x => decide (¬ x.nm = t.nm)) = ts.filter fun x => decide (¬ keyB x.nm = keyB t.nm) :=
  List.filter_congr fun x hx => decide_eq_decide.2 (not_congr (eq_key (hn x hx) ht))

theorem setT_filter {ts : List Tab} {t : Tab} (hv : validD ts = true) (ht : validTb t = true) : (setT ts t).filter (fun x => decide (¬ x.nm = t.nm)) = ts.filter fun x => decide (¬ x.nm = t.nm) := by
  obtain ⟨h1, h2, _⟩ := validD_parts hv
  have p := setT_parts hv ht
  rw [filter_names (fun x hx => validTb_name (p.1 x hx)) (validTb_name ht), filter_names (fun x hx => validTb_name (h1 x hx)) (validTb_name ht), filter_split _ h2, setT_norm hv ht, List.filter_append, List.filter_cons_of_neg (by simp)]
  congr 1
  · exact List.filter_eq_self.2 fun x hx => by have := (List.mem_filter.1 hx).2; simp at this ⊢; omega
  · exact List.filter_eq_self.2 fun x hx => by have := (List.mem_filter.1 hx).2; simp at this ⊢; omega

theorem remR_set {ts : List Tab} {t : Tab} (hv : validD ts = true) (ht : validTb t = true) (hx : validD (setT ts t) = true) : remR (setT ts t) t.nm = (ts.filter (fun x => decide (¬ x.nm = t.nm)), true) := by
  rw [remR, lookR_set hv ht hx, if_pos rfl, setT_filter hv ht]

/-- What is removed from the elder database: the same is left. -/
theorem remR_elder {ts : List Tab} {nm : ByteArray} (hv : validD ts = true) : remR ts nm = (ts.filter (fun x => decide (¬ x.nm = nm)), true) ∨ (remR ts nm = (ts, false) ∧ ts.filter (fun x => decide (¬ x.nm = nm)) = ts) := by
  unfold remR
  cases h : (lookR ts nm).ok with
  | true => exact .inl (by simp)
  | false => exact .inr ⟨by simp, lookR_ne hv h⟩

theorem validD_filter {ts : List Tab} (p : Tab → Bool) (hv : validD ts = true) : validD (ts.filter p) = true := by
  obtain ⟨h1, h2, h3⟩ := validD_parts hv
  rw [validD_of (fun t ht => h1 t (List.mem_filter.1 ht).1) (h2.filter _), decide_eq_true_eq]
  have := List.length_filter_le p ts
  omega

theorem cntD_set {ts : List Tab} {t : Tab} (hv : validD ts = true) (ht : validTb t = true) (hx : validD (setT ts t) = true) : cntD (setT ts t) = cntD (ts.filter fun x => decide (¬ x.nm = t.nm)) + t.rs.length := by
  obtain ⟨h1, h2, _⟩ := validD_parts hv
  rw [cntD, if_pos hx, cntD, if_pos (validD_filter _ hv), filter_names (fun x hx => validTb_name (h1 x hx)) (validTb_name ht), filter_split _ h2, setT_norm hv ht, lenT_append, lenT_append, lenT_cons]
  omega

end

section
open Go.RowKit

theorem modR_valid {t : Tab} {ins : Bool} {r : List Int} (hv : validTb t = true) (hok : (modR ⟨t.nm, t.ar, t.rs, true⟩ ins r).ok = true) :
    ∃ rs', modR ⟨t.nm, t.ar, t.rs, true⟩ ins r = ⟨t.nm, t.ar, rs', true⟩ ∧ validT t.nm t.ar rs' = true ∧ ¬ rs' = t.rs ∧ modR ⟨t.nm, t.ar, rs', true⟩ (!ins) r = ⟨t.nm, t.ar, t.rs, true⟩ := by
  cases ins with
  | true =>
    have e1 : modR ⟨t.nm, t.ar, t.rs, true⟩ true r = insR t.nm t.ar t.rs r := rfl
    rw [e1] at hok ⊢
    have hi : insB t.nm t.ar t.rs r = true := by
      cases h : insB t.nm t.ar t.rs r with
      | true => rfl
      | false => rw [insR_no h] at hok; cases hok
    refine ⟨putA r false t.rs, insR_yes hi, validT_put hi, fun e => (insB_parts hi).2.2.1 (e ▸ (putA_mem r t.rs r).2 (.inl rfl)), ?_⟩
    show delR t.nm t.ar (putA r false t.rs) r = _
    exact delR_put hi
  | false =>
    have e1 : modR ⟨t.nm, t.ar, t.rs, true⟩ false r = delR t.nm t.ar t.rs r := rfl
    rw [e1] at hok ⊢
    have hc : contB t.nm t.ar t.rs r = true := by
      cases h : contB t.nm t.ar t.rs r with
      | true => rfl
      | false => rw [delR, if_neg (by rw [h]; simp)] at hok; cases hok
    have hmem : r ∈ t.rs := by
      unfold contB at hc
      simp only [Bool.and_eq_true, decide_eq_true_eq] at hc
      exact hc.2
    have hasc := validT_asc hv
    have hasc' : AscP (t.rs.filter fun x => decide (¬ x = r)) := hasc.filter _
    have hno : r ∉ t.rs.filter fun x => decide (¬ x = r) := fun h => by simpa using (List.mem_filter.1 h).2
    have hlen : (t.rs.filter fun x => decide (¬ x = r)).length < t.rs.length := List.length_filter_lt_length_iff_exists.2 ⟨r, hmem, by simp⟩
    have hv2 : validT t.nm t.ar (t.rs.filter fun x => decide (¬ x = r)) = true := by
      have hv' := hv
      unfold validTb validT at hv'
      unfold validT
      simp only [Bool.and_eq_true, decide_eq_true_eq, List.all_eq_true] at hv' ⊢
      exact ⟨hv'.1, hv'.2.1, by omega, fun x hx => hv'.2.2.2.1 x (List.mem_filter.1 hx).1, ascB_of hasc'⟩
    refine ⟨t.rs.filter fun x => decide (¬ x = r), by rw [delR, if_pos hc], hv2, fun e => hno (e.symm ▸ hmem), ?_⟩
    show insR t.nm t.ar (t.rs.filter fun x => decide (¬ x = r)) r = _
    have hi : insB t.nm t.ar (t.rs.filter fun x => decide (¬ x = r)) r = true := by
      unfold validTb validT at hv
      simp only [Bool.and_eq_true, decide_eq_true_eq, List.all_eq_true] at hv
      unfold insB
      simp only [Bool.and_eq_true, Bool.not_eq_true', decide_eq_false_iff_not, decide_eq_true_eq]
      exact ⟨hv2, hv.2.2.2.1 r hmem, hno, by omega⟩
    rw [insR_yes hi]
    congr 1
    refine ascP_unique (putA_asc r _ hasc') hasc fun x => ?_
    rw [putA_mem, List.mem_filter]
    constructor
    · rintro (rfl | h)
      · exact hmem
      · exact h.1
    · intro h
      by_cases hx : x = r
      · exact .inl hx
      · exact .inr ⟨h, by simpa using hx⟩

/-- An update done is undone by its inverse, and was no idle one. -/
theorem appR_back {ts : List Tab} {nm : ByteArray} {ins : Bool} {r : List Int} (h : (appR ts nm ins r).2 = true) :
    ∃ xs, appR ts nm ins r = (xs, true) ∧ appR xs nm (!ins) r = (ts, true) ∧ ¬ xs = ts := by
  have hl : (lookR ts nm).ok = true := by
    cases hq : (lookR ts nm).ok with
    | true => rfl
    | false => rw [appR_none hq] at h; cases h
  have hm : (modR (lookR ts nm) ins r).ok = true := by
    cases hq : (modR (lookR ts nm) ins r).ok with
    | true => rfl
    | false => rw [appR_no hl hq] at h; cases h
  obtain ⟨hv, t, ht, rfl, hlk⟩ := lookR_ok hl
  obtain ⟨h1, h2, h3⟩ := validD_parts hv
  rw [hlk] at hm
  obtain ⟨rs', hM, hv', hne, hback⟩ := modR_valid (h1 t ht) hm
  have hM' := hM
  rw [← hlk] at hM'
  have e1 := appR_yes hl hM'
  rw [e1] at h
  obtain ⟨_, hvt', hset, hvx⟩ := setR_ok h
  rw [hset] at e1
  refine ⟨setT ts ⟨t.nm, t.ar, rs'⟩, e1, ?_, fun e => ?_⟩
  · have hlx := lookR_set hv hvt' hvx
    have e2 : appR (setT ts ⟨t.nm, t.ar, rs'⟩) t.nm (!ins) r = setR (setT ts ⟨t.nm, t.ar, rs'⟩) ⟨t.nm, t.ar, t.rs⟩ :=
      appR_yes (by rw [hlx]) (by rw [hlx]; exact hback)
    rw [e2]
    have e3 : setT (setT ts ⟨t.nm, t.ar, rs'⟩) t = ts := by
      rw [setT_norm hvx (h1 t ht)]
      have f1 : (setT ts ⟨t.nm, t.ar, rs'⟩).filter (fun x => decide (keyB x.nm < keyB t.nm)) = ts.filter fun x => decide (keyB x.nm < keyB t.nm) := by
        rw [setT_norm hv hvt', List.filter_append, List.filter_cons_of_neg (by simp), List.filter_filter, List.filter_filter]
        rw [show (ts.filter fun x => decide (keyB x.nm < keyB t.nm) && decide (keyB t.nm < keyB x.nm)) = [] from List.filter_eq_nil_iff.2 fun x _ => by simp; omega, List.append_nil]
        exact List.filter_congr fun x _ => by simp
      have f2 : (setT ts ⟨t.nm, t.ar, rs'⟩).filter (fun x => decide (keyB t.nm < keyB x.nm)) = ts.filter fun x => decide (keyB t.nm < keyB x.nm) := by
        rw [setT_norm hv hvt', List.filter_append, List.filter_cons_of_neg (by simp), List.filter_filter, List.filter_filter]
        rw [show (ts.filter fun x => decide (keyB t.nm < keyB x.nm) && decide (keyB x.nm < keyB t.nm)) = [] from List.filter_eq_nil_iff.2 fun x _ => by simp; omega, List.nil_append]
        exact List.filter_congr fun x _ => by simp
      rw [f1, f2]
      exact ts_split h2 ht
    have e4 : (⟨t.nm, t.ar, t.rs⟩ : Tab) = t := rfl
    rw [e4, setR, if_pos ⟨hvx, h1 t ht, by rw [e3]; exact h3⟩, e3]
  · have hlx := lookR_set hv hvt' hvx
    rw [e] at hlx
    have := hlk.symm.trans hlx
    injection this with _ _ this _
    exact hne this.symm

theorem appR_idle {ts : List Tab} {nm : ByteArray} {ins : Bool} {r : List Int} (h : (appR ts nm ins r).2 = false) : appR ts nm ins r = (ts, false) := by
  unfold appR at h ⊢
  split
  · split
    · rename_i h1 h2
      rw [if_pos h1, if_pos h2] at h
      exact setR_bad h
    · rfl
  · rfl

theorem okU_parts {nm : ByteArray} {zs : List Int} (h : okU nm zs = true) : nameB nm = true ∧ (1 ≤ zs.length ∧ zs.length ≤ 3) ∧ ∀ x ∈ zs, 0 ≤ x ∧ x ≤ 9 := by
  unfold okU at h
  simp only [Bool.and_eq_true] at h
  obtain ⟨a, b, c⟩ := h
  have := inB_iff.1 b
  unfold rowB at c
  simp only [Bool.and_eq_true, List.all_eq_true] at c
  exact ⟨a, ⟨by omega, by omega⟩, fun x hx => inB_iff.1 (c.1 x hx)⟩

theorem digN {x : Int} (h : 0 ≤ x ∧ x ≤ 9) : (UInt8.ofNat (48 + x.toNat)).toNat = 48 + x.toNat := by
  rw [UInt8.toNat_ofNat']
  omega

theorem parU_back {nm : ByteArray} {ins : Bool} {zs : List Int} (h : okU nm zs = true) : 3 ≤ (fmtU nm ins zs).size ∧ parU (fmtU nm ins zs) = ((nm, ins, zs), true) := by
  obtain ⟨hn, ⟨hl, _⟩, hd⟩ := okU_parts h
  obtain ⟨b, rfl⟩ := nameB_data hn
  obtain ⟨s, hs⟩ : ∃ s : UInt8, s = if ins = true then 43 else 45 := ⟨_, rfl⟩
  have e : fmtU ⟨#[b]⟩ ins zs = ⟨(s :: b :: dtext zs).toArray⟩ := by
    rw [fmtU, if_pos h, hs]
    apply ByteArray.ext
    cases ins <;> simp
  have hdl : (dtext zs).length = zs.length := by simp [dtext]
  have e0 : 3 ≤ (fmtU ⟨#[b]⟩ ins zs).size := by
    rw [e]
    show 3 ≤ (s :: b :: dtext zs).toArray.size
    simp
    omega
  have e1 : (fmtU ⟨#[b]⟩ ins zs).extract 1 2 = ⟨#[b]⟩ := by
    rw [e]
    apply ByteArray.ext
    simp
  have e2 : insU (fmtU ⟨#[b]⟩ ins zs) = ins := by
    rw [e, insU]
    show ((s.toNat : Int) == 43) = ins
    rw [hs]
    cases ins <;> decide
  have e3 : rowU (fmtU ⟨#[b]⟩ ins zs) = zs := by
    rw [e, rowU]
    have : ((⟨(s :: b :: dtext zs).toArray⟩ : ByteArray).extract 2 (⟨(s :: b :: dtext zs).toArray⟩ : ByteArray).size).data.toList = dtext zs := by simp [ByteArray.size]
    rw [this]
    unfold ploc dtext
    rw [List.map_map]
    conv => rhs; rw [← List.map_id zs]
    refine List.map_congr_left fun x hx => ?_
    have := hd x hx
    show ((UInt8.ofNat (48 + x.toNat)).toNat : Int) - 48 = x
    rw [digN this]
    omega
  refine ⟨e0, ?_⟩
  rw [parU, if_pos ⟨e0, by rw [e1, e2, e3]⟩, e1, e2, e3]

theorem parU_none {nm : ByteArray} {ins : Bool} {zs : List Int} (h : okU nm zs = false) : fmtU nm ins zs = ⟨#[]⟩ ∧ parU (fmtU nm ins zs) = ((⟨#[]⟩, false, []), false) := by
  have e : fmtU nm ins zs = ⟨#[]⟩ := by rw [fmtU, if_neg (by rw [h]; simp)]
  refine ⟨e, ?_⟩
  rw [e, parU, if_neg (by simp [ByteArray.size])]

end

section
open Go.RowKit Go.Deep

theorem and255 (n : Int) : bits .and .i64 n 255 = n % 256 := by
  have h127 : (BitVec.ofInt 64 255).toNat = 2 ^ 8 - 1 := by decide
  have key : (BitVec.ofInt 64 n &&& BitVec.ofInt 64 255).toNat = (n % ((2 ^ 64 : Nat) : Int)).toNat % 2 ^ 8 := by
    rw [BitVec.toNat_and, BitVec.toNat_ofInt, h127, Nat.and_two_pow_sub_one_eq_mod]
  show IntKind.i64.wrap ((BitVec.ofInt 64 n &&& BitVec.ofInt 64 255).toNat : Nat) = n % 256
  rw [key, IntKind.wrap_i64]
  omega

theorem and30 (n : Int) : bits .and .i64 n 1073741823 = n % 1073741824 := by
  have h127 : (BitVec.ofInt 64 1073741823).toNat = 2 ^ 30 - 1 := by decide
  have key : (BitVec.ofInt 64 n &&& BitVec.ofInt 64 1073741823).toNat = (n % ((2 ^ 64 : Nat) : Int)).toNat % 2 ^ 30 := by
    rw [BitVec.toNat_and, BitVec.toNat_ofInt, h127, Nat.and_two_pow_sub_one_eq_mod]
  show IntKind.i64.wrap ((BitVec.ofInt 64 n &&& BitVec.ofInt 64 1073741823).toNat : Nat) = n % 1073741824
  rw [key, IntKind.wrap_i64]
  omega

def I64 (z : Int) : Prop := -9223372036854775808 ≤ z ∧ z ≤ 9223372036854775807

theorem i64_wrap (z : Int) : I64 (wrap64 z) := by
  unfold I64 wrap64
  omega

/-- A slice of bytes that lies below block B. -/
def RdC (w : World) (B : Nat) (A : Option Addr) (n : Nat) : Prop := ∀ k, k < n → ∃ b o x, A = some ⟨b, o, none⟩ ∧ b < B ∧ w.cell? ⟨b, o + k, none⟩ = some (.int .u8 x) ∧ 0 ≤ x ∧ x < 256

theorem RdC.keep {w w' : World} {B n : Nat} {A : Option Addr} (h : RdC w B A n) (hk : ∀ b, b < B → w'.heap[b]? = w.heap[b]?) : RdC w' B A n := fun k hlt => by
  obtain ⟨b, o, x, hA, hb, hc, hx⟩ := h k hlt
  exact ⟨b, o, x, hA, hb, (World.cell?_of_block (hk b hb)).trans hc, hx⟩

theorem RdC.more {w : World} {B B' n : Nat} {A : Option Addr} (h : RdC w B A n) (hB : B ≤ B') : RdC w B' A n := fun k hlt => by
  obtain ⟨b, o, x, hA, hb, hc⟩ := h k hlt
  exact ⟨b, o, x, hA, by omega, hc⟩

/-- The cursor in block q. -/
structure Cur (w : World) (q : Nat) : Prop where
  ex : ∃ (A : Option Addr) (n c : Nat) (i h : Int), w.cell? ⟨q, 0, none⟩ = some (.slice A n c) ∧ w.cell? ⟨q, 1, none⟩ = some (.int .i64 i) ∧ w.cell? ⟨q, 2, none⟩ = some (.int .i64 h) ∧ RdC w q A n ∧ 0 ≤ i ∧ i ≤ n ∧ n ≤ 1048576
  fz : ∀ i, w.frozen? ⟨q, i, none⟩ = false
  lt : q < w.heap.size

theorem Cur.keep {w w' : World} {q : Nat} (h : Cur w q) (hk : ∀ b, b ≤ q → w'.heap[b]? = w.heap[b]?) (hs : w.heap.size ≤ w'.heap.size) : Cur w' q := by
  obtain ⟨⟨A, n, c, i, hh, c0, c1, c2, hr, hi⟩, hf, hl⟩ := h
  have e := hk q (Nat.le_refl _)
  exact ⟨⟨A, n, c, i, hh, (World.cell?_of_block e).trans c0, (World.cell?_of_block e).trans c1, (World.cell?_of_block e).trans c2, hr.keep fun b hb => hk b (by omega), hi⟩, fun i => (World.frozen?_of_block e).trans (hf i), Nat.lt_of_lt_of_le hl hs⟩

theorem Cur.next {w w' : World} {q : Nat} (h : Cur w q) (b : Below w.heap.size w w') : Cur w' q := h.keep (fun k hk => b.block k (Nat.lt_of_le_of_lt hk h.lt)) b.size

theorem Cur.drew {w : World} {q : Nat} (h : Cur w q) : Cur w.drew q := h.next (Below.refl _ _).drew

theorem Cur.drewN {w : World} {q : Nat} (h : Cur w q) (k : Nat) : Cur (w.drewN k) q := h.next (below_drewN (Below.refl _ _) k)

theorem Chg.setCell {w : World} {q i : Nat} {x : Value} : Chg q (q + 1) w (w.setCell ⟨q, i, none⟩ x) :=
  ⟨rfl, rfl, rfl, by simp [World.setCell], fun k _ hn => Below.heap_setCell _ _ _ k (by show ¬ k = q; omega)⟩

theorem Chg.drewN {lo hi : Nat} {w : World} (k : Nat) : Chg lo hi w (w.drewN k) := by
  have h := below_drewN (Below.refl w.heap.size w) k
  exact ⟨h.os, h.tape, h.output, h.size, fun i hi _ => h.block i hi⟩

/-- Behind a change, blocks may come. -/
theorem Chg.after {lo hi : Nat} {w w1 w2 : World} (h : Chg lo hi w w1) (b : Below w.heap.size w1 w2) : Chg lo hi w w2 :=
  ⟨b.os.trans h.os, b.tape.trans h.tape, b.output.trans h.output, Nat.le_trans h.size b.size, fun i hi hn => (b.block i hi).trans (h.block i hi hn)⟩

theorem Cur.set {w : World} {q j : Nat} {x : Int} {A : Option Addr} {n c : Nat} {i h : Int} (hc : Cur w q) (c0 : w.cell? ⟨q, 0, none⟩ = some (.slice A n c)) (c1 : w.cell? ⟨q, 1, none⟩ = some (.int .i64 i)) (c2 : w.cell? ⟨q, 2, none⟩ = some (.int .i64 h))
    (hj : j = 1 ∧ 0 ≤ x ∧ x ≤ n ∨ j = 2) : Cur (w.setCell ⟨q, j, none⟩ (.int .i64 x)) q := by
  obtain ⟨⟨A', n', c', i', h', d0, d1, d2, hr, hi⟩, hf, hl⟩ := hc
  rw [c0] at d0
  injection d0 with d0
  injection d0 with e1 e2 e3
  subst e1 e2 e3
  rw [c1] at d1
  injection d1 with d1
  injection d1 with _ e4
  subst e4
  have hrr : RdC (w.setCell ⟨q, j, none⟩ (.int .i64 x)) q A n := hr.keep fun b hb => Below.heap_setCell _ _ _ b (by show ¬ b = q; omega)
  have hsz : q < (w.setCell ⟨q, j, none⟩ (.int .i64 x)).heap.size := by simpa [World.setCell] using hl
  rcases hj with ⟨rfl, hx⟩ | rfl
  · exact ⟨⟨A, n, c, x, h, (cell_set_other (by omega)).trans c0, cell_set_same c1, (cell_set_other (by omega)).trans c2, hrr, hx.1, hx.2, hi.2.2⟩, fun i => frozen_set.trans (hf i), hsz⟩
  · exact ⟨⟨A, n, c, i, x, (cell_set_other (by omega)).trans c0, (cell_set_other (by omega)).trans c1, cell_set_same c2, hrr, hi⟩, fun i => frozen_set.trans (hf i), hsz⟩

/-- A number drawn, and the cursor moved on. -/
def DrI (P : Int → Prop) (q : Nat) (w : World) (e : Ending) (w' : World) : Prop := ∃ x : Int, e = .returned (.int .i64 x) ∧ P x ∧ Cur w' q ∧ Chg q (q + 1) w w'

set_option maxRecDepth 100000 in
set_option maxHeartbeats 1000000 in
theorem l1Byte_any (q : Nat) (w : World) (hc : Cur w q) :
    Calls Tryz.prog 84 #[.pointer (some ⟨q, 0, none⟩)] w (DrI (fun x => 0 ≤ x ∧ x ≤ 255) q w) := by
  obtain ⟨A, n, c, i, h, c0, c1, c2, hr, hi0, hin, hn⟩ := hc.ex
  have f2 := hc.fz 2
  go_enter Tryz.func84, Tryz.ntmps84
  go_wp2_with fail
  generalize (wrap64 (wrap64 (h * 6364136223846793005) + 1442695040888963407)) = H
  have HC1 := Lib.hid (hc.set (j := 2) (x := H) c0 c1 c2 (.inr rfl))
  have HG1 : Hid (Chg q (q + 1) w (w.setCell ⟨q, 2, none⟩ (.int .i64 H))) := Chg.setCell
  have d0 : (w.setCell ⟨q, 2, none⟩ (.int .i64 H)).cell? ⟨q, 0, none⟩ = some (.slice A n c) := (cell_set_other (by omega)).trans c0
  have d1 : (w.setCell ⟨q, 2, none⟩ (.int .i64 H)).cell? ⟨q, 1, none⟩ = some (.int .i64 i) := (cell_set_other (by omega)).trans c1
  have d2 : (w.setCell ⟨q, 2, none⟩ (.int .i64 H)).cell? ⟨q, 2, none⟩ = some (.int .i64 H) := cell_set_same c2
  have HR : Hid (RdC (w.setCell ⟨q, 2, none⟩ (.int .i64 H)) q A n) := hr.keep fun b hb => Below.heap_setCell _ _ _ b (by show ¬ b = q; omega)
  clear hc c0 c1 c2 hr f2
  generalize w.setCell ⟨q, 2, none⟩ (.int .i64 H) = w1 at HC1 HG1 d0 d1 d2 HR ⊢
  go_quiet (fail)
  obtain ⟨X, hX⟩ : ∃ X, bits BinOp.and IntKind.i64 (bits BinOp.xor IntKind.i64 (H / 8589934592) (H / 35184372088832)) 255 = X := ⟨_, rfl⟩
  have hx0 : 0 ≤ X ∧ X ≤ 255 := by rw [← hX, and255]; omega
  rw [hX]
  clear hX
  have HC2 := Lib.hid (HC1.out.drewN nq)
  have HG2 := Lib.hid (HG1.out.trans (Chg.drewN nq))
  have e0 : (w1.drewN nq).cell? ⟨q, 0, none⟩ = some (.slice A n c) := d0
  have e1 : (w1.drewN nq).cell? ⟨q, 1, none⟩ = some (.int .i64 i) := d1
  have e2 : (w1.drewN nq).cell? ⟨q, 2, none⟩ = some (.int .i64 H) := d2
  have HR2 : Hid (RdC (w1.drewN nq) q A n) := HR.out.keep fun b hb => rfl
  clear d0 d1 d2 HC1 HG1 HR
  generalize w1.drewN nq = w2 at HC2 HG2 e0 e1 e2 HR2 ⊢
  obtain ⟨k, rfl⟩ := Int.eq_ofNat_of_zero_le hi0
  go_wp2_with fail
  by_cases hlt : k < n
  · have g1 : (0 : Int) ≤ (k : Int) := by omega
    have g2 : (k : Int) < (n : Int) := by omega
    have g3 : (k : Int).toNat = k := by omega
    obtain ⟨b, o, x, rfl, hb, hc, hx⟩ := HR2.out k hlt
    go_quiet (fail)
    have HC3 := Lib.hid (HC2.out.drewN nq)
    have HG3 := Lib.hid (HG2.out.trans (Chg.drewN nq))
    have d0 : (w2.drewN nq).cell? ⟨q, 0, none⟩ = some (.slice (some ⟨b, o, none⟩) n c) := e0
    have d1 : (w2.drewN nq).cell? ⟨q, 1, none⟩ = some (.int .i64 (k : Int)) := e1
    have d2 : (w2.drewN nq).cell? ⟨q, 2, none⟩ = some (.int .i64 H) := e2
    have d3 : (w2.drewN nq).cell? ⟨b, o + k, none⟩ = some (.int .u8 x) := hc
    clear e0 e1 e2 hc HC2 HG2 HR2
    generalize w2.drewN nq = w3 at HC3 HG3 d0 d1 d2 d3 ⊢
    go_wp2_with fail
    go_quiet (fail)
    have HC4 := Lib.hid (HC3.out.drewN nq)
    have HG4 := Lib.hid (HG3.out.trans (Chg.drewN nq))
    have e0 : (w3.drewN nq).cell? ⟨q, 0, none⟩ = some (.slice (some ⟨b, o, none⟩) n c) := d0
    have e1 : (w3.drewN nq).cell? ⟨q, 1, none⟩ = some (.int .i64 (k : Int)) := d1
    have e2 : (w3.drewN nq).cell? ⟨q, 2, none⟩ = some (.int .i64 H) := d2
    clear d0 d1 d2 d3 HC3 HG3
    generalize w3.drewN nq = w4 at HC4 HG4 e0 e1 e2 ⊢
    have hY : 0 ≤ bits .and .i64 (X + x) 255 ∧ bits .and .i64 (X + x) 255 ≤ 255 := by rw [and255]; omega
    have f1 := HC4.out.fz 1
    trace_state
    go_wp2_with fail
    trace_state
    have HC5 := Lib.hid (HC4.out.set (j := 1) (x := (k : Int) + 1) e0 e1 e2 (.inl ⟨rfl, by omega, by omega⟩))
    go_ret
    exact ⟨_, rfl, hY, HC5.out, HG4.out.trans Chg.setCell⟩
  · have g2 : ¬ (k : Int) < (n : Int) := by omega
    go_quiet (fail)
    have HC3 := Lib.hid (HC2.out.drewN nq)
    have HG3 := Lib.hid (HG2.out.trans (Chg.drewN nq))
    go_wp2_with fail
    go_ret
    exact ⟨_, rfl, hx0, HC3.out, HG3.out⟩

end

section
open Go.RowKit Go.Deep

/-- The cursor is made. -/
def DrC (w : World) (e : Ending) (w' : World) : Prop := e = .returned (.pointer (some ⟨w.heap.size, 0, none⟩)) ∧ Cur w' w.heap.size ∧ Below w.heap.size w w'

set_option maxRecDepth 100000 in
set_option maxHeartbeats 1000000 in
theorem l1New_any (A : Option Addr) (n c : Nat) (w : World) (hr : RdC w w.heap.size A n) (hn : n ≤ 1048576) :
    Calls Tryz.prog 33 #[.slice A n c] w (DrC w) := by
  go_enter Tryz.func33, Tryz.ntmps33
  go_wp2_with fail
  go_loopw [3, 4] (fun h i wr => ∃ (H : Int) (k : Nat), h = .int .i64 H ∧ i = .int .i64 k ∧ 0 ≤ H ∧ H ≤ 1073741824 ∧ k ≤ n ∧ k ≤ 4000 ∧ wr = w) (fun _ i _ => n - (intOf i).toNat)
  case atStart => exact ⟨_, 0, rfl, rfl, by omega, by omega, by omega, by omega, rfl⟩
  case round =>
    obtain ⟨H, k, rfl, rfl, h0, h1, hk, hk4, rfl⟩ := hrel
    by_cases hlt : k < n
    · by_cases h4 : k < 4000
      · have g1 : (0 : Int) ≤ (k : Int) := by omega
        have g2 : (k : Int) < (n : Int) := by omega
        have g3 : (k : Int).toNat = k := by omega
        have g4 : (k : Int) < 4000 := by omega
        obtain ⟨b, o, x, rfl, hb, hc, hx0, hx1⟩ := hr k hlt
        have hY : ∀ z, 0 ≤ bits .and .i64 z 1073741823 ∧ bits .and .i64 z 1073741823 ≤ 1073741824 := fun z => by rw [and30]; omega
        go_wp2_with fail
        refine ⟨⟨_, k + 1, rfl, by go_num, (hY _).1, (hY _).2, by omega, by omega, trivial⟩, ?_⟩
        simp [intOf]
        omega
      · have g2 : (k : Int) < (n : Int) := by omega
        have g4 : ¬ (k : Int) < 4000 := by omega
        go_wp2_with fail
        go_ret
        refine ⟨rfl, ⟨⟨A, n, c, 0, H, by simp [go_sem], by simp [go_sem], by simp [go_sem], hr.keep fun b hb => ?_, by omega, by omega, hn⟩, fun i => by simp [go_sem], by simp⟩, (Below.refl _ _).alloc (Nat.le_refl _) _⟩
        exact ((Below.refl _ _).alloc (Nat.le_refl _) _).block b hb
    · have g2 : ¬ (k : Int) < (n : Int) := by omega
      go_wp2_with fail
      go_ret
      refine ⟨rfl, ⟨⟨A, n, c, 0, H, by simp [go_sem], by simp [go_sem], by simp [go_sem], hr.keep fun b hb => ?_, by omega, by omega, hn⟩, fun i => by simp [go_sem], by simp⟩, (Below.refl _ _).alloc (Nat.le_refl _) _⟩
      exact ((Below.refl _ _).alloc (Nat.le_refl _) _).block b hb

set_option maxRecDepth 100000 in
set_option maxHeartbeats 1000000 in
theorem l1Below_any (q : Nat) (n : Int) (w : World) (hc : Cur w q) (hn : n ≤ 9223372036854775807) :
    Calls Tryz.prog 66 #[.pointer (some ⟨q, 0, none⟩), .int .i64 n] w (DrI (fun x => 0 ≤ x ∧ (x < n ∨ x = 0)) q w) := by
  by_cases h0 : n ≤ 0
  · go_enter Tryz.func66, Tryz.ntmps66
    go_wp2_with fail
    go_ret
    exact ⟨0, rfl, ⟨by omega, .inr rfl⟩, hc, Chg.refl _ _ _⟩
  · have hz : ¬ n = 0 := by omega
    by_cases h1 : n ≤ 256
    · go_enter Tryz.func66, Tryz.ntmps66
      go_wp2_with fail
      refine (l1Byte_any q w hc).mono ?_
      rintro e w1 ⟨x, rfl, ⟨hx0, hx1⟩, hc1, hg1⟩
      have e1 : x.tmod n = x % n := Int.tmod_eq_emod_of_nonneg hx0
      have r0 : 0 ≤ x % n := Int.emod_nonneg _ hz
      have r1 : x % n < n := Int.emod_lt_of_pos _ (by omega)
      have e2 : IntKind.i64.wrap (x % n) = x % n := IntWalk.i64_in _ (by omega)
      go_wp2_with fail
      go_ret
      exact ⟨x % n, rfl, ⟨r0, .inl r1⟩, hc1, hg1⟩
    · go_enter Tryz.func66, Tryz.ntmps66
      go_wp2_with fail
      refine (l1Byte_any q w hc).mono ?_
      rintro e w1 ⟨x, rfl, ⟨hx0, hx1⟩, hc1, hg1⟩
      go_wp2_with fail
      refine (l1Byte_any q w1 hc1).mono ?_
      rintro e w2 ⟨y, rfl, ⟨hy0, hy1⟩, hc2, hg2⟩
      go_wp2_with fail
      refine (l1Byte_any q w2 hc2).mono ?_
      rintro e w3 ⟨z, rfl, ⟨hz0, hz1⟩, hc3, hg3⟩
      go_wp2_with fail
      refine (l1Byte_any q w3 hc3).mono ?_
      rintro e w4 ⟨u, rfl, ⟨hu0, hu1⟩, hc4, hg4⟩
      obtain ⟨X, hX⟩ : ∃ X, x * 16777216 + y * 65536 + z * 256 + u = X := ⟨_, rfl⟩
      have hX0 : 0 ≤ X := by omega
      have e1 : X.tmod n = X % n := Int.tmod_eq_emod_of_nonneg hX0
      have r0 : 0 ≤ X % n := Int.emod_nonneg _ hz
      have r1 : X % n < n := Int.emod_lt_of_pos _ (by omega)
      have e2 : IntKind.i64.wrap (X % n) = X % n := IntWalk.i64_in _ (by omega)
      go_wp2_with fail
      go_ret
      exact ⟨X % n, rfl, ⟨r0, .inl r1⟩, hc4, ((hg1.trans hg2).trans hg3).trans hg4⟩

set_option maxRecDepth 100000 in
set_option maxHeartbeats 1000000 in
theorem l1PickInt_any (q b o n c : Nat) (P : Int → Prop) (w : World) (hc : Cur w q) (hb : b < w.heap.size) (hbq : b ≠ q) (hn : 0 < n) (hn2 : n ≤ 1048576) (hcell : ∀ k, k < n → ∃ z, w.cell? ⟨b, o + k, none⟩ = some (.int .i64 z) ∧ P z) :
    Calls Tryz.prog 83 #[.pointer (some ⟨q, 0, none⟩), .slice (some ⟨b, o, none⟩) n c] w (DrI P q w) := by
  go_enter Tryz.func83, Tryz.ntmps83
  go_wp2_with fail
  refine (l1Below_any q n w hc (by omega)).mono ?_
  rintro e w1 ⟨x, rfl, ⟨hx0, hx1⟩, hc1, hg1⟩
  obtain ⟨k, rfl⟩ := Int.eq_ofNat_of_zero_le hx0
  have hk : k < n := by omega
  have g2 : (k : Int) < (n : Int) := by omega
  have g3 : (k : Int).toNat = k := by omega
  obtain ⟨z, hz, hP⟩ := hcell k hk
  have d0 : w1.cell? ⟨b, o + k, none⟩ = some (.int .i64 z) := (World.cell?_of_block (hg1.block b hb (by omega))).trans hz
  go_wp2_with fail
  go_ret
  exact ⟨z, rfl, hP, hc1, hg1⟩

theorem i64_of (z : Int) (h : (Lit.int .i64 z).wf = true) : I64 z := by
  exact int_wf h

theorem row_ints (w : World) (l : List Int) (t : TypeId) (k : Nat) (hk : k < l.length) : (w.alloc (.cells (l.map (Value.int .i64)).toArray t)).cell? ⟨w.heap.size, 0 + k, none⟩ = some (.int .i64 l[k]) := by
  simp [go_sem, hk]

theorem all_i64 (l : List Int) (h : (l.all fun z => decide (-9223372036854775808 ≤ z ∧ z ≤ 9223372036854775807)) = true) : ∀ z ∈ l, I64 z := fun z hz => by
  have := List.all_eq_true.1 h z hz
  simp only [decide_eq_true_eq] at this
  exact this

theorem Chg.setOff {q lo i : Nat} {w w1 : World} {x : Value} (h : Chg q (q + 1) w w1) (hl : w.heap.size ≤ lo) : Chg q (q + 1) w (w1.setCell ⟨lo, i, none⟩ x) :=
  h.after ((Below.refl _ _).setCell hl x)

theorem Cur.setOff {q lo i : Nat} {w : World} {x : Value} (h : Cur w q) (hl : q < lo) : Cur (w.setCell ⟨lo, i, none⟩ x) q :=
  h.keep (fun b hb => Below.heap_setCell _ _ _ b (by show ¬ b = lo; omega)) (by simp [World.setCell])

theorem Chg.al {lo hi : Nat} {w w1 : World} {o : Obj} (h : Chg lo hi w w1) : Chg lo hi w (w1.alloc o) := h.after ((Below.refl _ _).alloc h.size o)

theorem Cur.al {q : Nat} {w : World} {o : Obj} (h : Cur w q) : Cur (w.alloc o) q := h.next ((Below.refl _ _).alloc (Nat.le_refl _) o)

theorem l1Once_any (q : Nat) (n : Int) (w : World) (hc : Cur w q) (hn : n ≤ 9223372036854775807) :
    Calls Tryz.prog 71 #[.pointer (some ⟨q, 0, none⟩), .int .i64 n] w fun e w' => ∃ b : Bool, e = .returned (.bool b) ∧ Cur w' q ∧ Chg q (q + 1) w w' := by
  go_enter Tryz.func71, Tryz.ntmps71
  go_wp2_with fail
  refine (l1Below_any q n w hc hn).mono ?_
  rintro e w1 ⟨x, rfl, _, hc1, hg1⟩
  go_wp2_with fail
  go_ret
  exact ⟨_, rfl, hc1, hg1⟩

theorem rdC_of_row {w : World} {a : Option Addr} {len cap : Nat} {zs : List Int} (h : IsRow .u8 w a len cap zs) : RdC w w.heap.size a len := fun k hk => by
  rcases h with ⟨_, h0, _⟩ | ⟨x, rfl, hl, hm, hz, hcell, hwz⟩
  · omega
  · have hk2 : k < zs.length := by omega
    obtain ⟨b, o, spot⟩ := x
    have hc0 := hcell 0 (by omega)
    have hspot : spot = none := by simpa [Addr.add] using World.cell?_spot hc0
    subst hspot
    have hc := hcell k hk2
    have hw := hwz (zs.getD k 0) (by simp [List.getD, List.getElem?_eq_getElem hk2])
    rw [addr_add] at hc
    have h' : (decide (IntKind.u8.min ≤ zs.getD k 0) && decide (zs.getD k 0 ≤ IntKind.u8.max)) = true := hw
    have e1 : IntKind.u8.min = 0 := by decide
    have e2 : IntKind.u8.max = 255 := by decide
    rw [e1, e2] at h'
    simp only [Bool.and_eq_true, decide_eq_true_eq] at h'
    exact ⟨b, o, zs.getD k 0, rfl, World.block_lt_of_cell? w _ hc, hc, by omega, by omega⟩

theorem big_any (A : Option Addr) (n c : Nat) (w : World) : Calls Tryz.prog 4 #[.slice A n c] w fun e w' => e = .returned (.bool (decide ((1048576 : Int) < n))) ∧ w = w' := by
  by_cases h : (1048576 : Int) < n
  · have h2 := decide_eq_true h
    go_enter Tryz.func4, Tryz.ntmps4
    go_wp2_with fail
    go_ret
    exact ⟨by first | (rw [h2] <;> rfl) | rfl, rfl⟩
  · have h2 := decide_eq_false h
    go_enter Tryz.func4, Tryz.ntmps4
    go_wp2_with fail
    go_ret
    exact ⟨by first | (rw [h2] <;> rfl) | rfl, rfl⟩

def CurAt (q : Nat) (w1 W : World) : Prop := Cur W q ∧ Chg q (q + 1) w1 W

end
end Go.Proofs.YtccnhocekgikiaaGreat
