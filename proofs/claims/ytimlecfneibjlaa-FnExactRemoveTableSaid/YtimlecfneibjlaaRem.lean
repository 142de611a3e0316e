/- RemoveTable: both texts. No condition but the size that the laws let in. -/
import Derived.Test.YtimlecfneibjlaaLook
import Derived.Test.YtimlecfneibjlaaCopyD
import Derived.Test.YtimlecfneibjlaaDelD
namespace Go.Proofs.Ytimlecfneibjlaa
open Go.RowKit Go.Deep

theorem remR_no {ts : List Tab} {nm : ByteArray} (h : (lookR ts nm).ok = false) : remR ts nm = (ts, false) := by rw [remR, if_neg (by simp [h])]
theorem remR_yes {ts : List Tab} {nm : ByteArray} (h : (lookR ts nm).ok = true) : remR ts nm = (ts.filter (fun t => decide (¬ t.nm = nm)), true) := by rw [remR, if_pos h]
theorem sumT_filter (p : Tab → Bool) (ts : List Tab) : sumT (ts.filter p) ≤ sumT ts := by
  induction ts with
  | nil => exact Nat.le_refl _
  | cons t ts ih =>
    rw [sumT_cons, List.filter_cons]
    split
    · rw [sumT_cons]
      omega
    · omega
theorem remR_small {ts : List Tab} (nm : ByteArray) (hl : ts.length ≤ 1048576) (hs : sumT ts ≤ 1048576) : (remR ts nm).1.length ≤ 1048576 ∧ sumT (remR ts nm).1 ≤ 1048576 := by
  unfold remR
  split
  · exact ⟨Nat.le_trans (List.length_filter_le _ _) hl, Nat.le_trans (sumT_filter _ _) hs⟩
  · exact ⟨hl, hs⟩
theorem chg_kn3 {w W W' : World} {lo hi : Nat} {L : List (Nat × Nat × Value)} (h : Kn w L W) (c : Chg lo hi W W') (hlo : w.heap.size ≤ lo) (hd : ∀ t ∈ L, t.1 < lo ∨ hi ≤ t.1) : Kn w L W' := h.chg c hlo hd

set_option maxRecDepth 100000 in
set_option maxHeartbeats 1000000 in
theorem impl_RemoveTable_any (A : Option Addr) (n c B : Nat) (ts : List Tab) (nm : ByteArray) (w : World) (hr : RdT w B A n ts) (hB : B ≤ w.heap.size) (hn : n ≤ 1000000000) (hs : sumT ts ≤ 4294967296) :
    Calls Try.prog 34 #[.agg #[.slice A n c], .string nm] w (DbBool (remR ts nm) w) := by
  obtain ⟨i1, hi1, hz0, hz1, hz2⟩ := info_parts info_tab
  have HL := Lib.hid hr.1
  have hsm := Lib.hid hs
  have kn0 : Kn w [(w.heap.size, 0, .slice A n c), (w.heap.size + 1, 0, .string nm), (w.heap.size + 2, 0, .slice none 0 0)] (((w.alloc (.cells #[.slice A n c] 29)).alloc (.cells #[.string nm] 9)).alloc (.cells #[.slice none 0 0] 29)) := by
    simpa using ((((Kn.start w).box1 (.slice A n c) 29).box1 (.string nm) 9).box1 (.slice none 0 0) 29)
  go_enter Try.func34, Try.ntmps34
  go_wp2_with fail
  have s0 : w.heap.size + 3 ≤ (((w.alloc (.cells #[.slice A n c] 29)).alloc (.cells #[.string nm] 9)).alloc (.cells #[.slice none 0 0] 29)).heap.size := by simp
  generalize ((w.alloc (.cells #[.slice A n c] 29)).alloc (.cells #[.string nm] 9)).alloc (.cells #[.slice none 0 0] 29) = w0 at kn0 s0 ⊢
  refine (copyDatabase_any A n c B ts w0 (RdT.belowB hr kn0.bel hB) (Nat.le_trans hB kn0.bel.size) hn hs).mono ?_
  rintro e w1 ⟨Ao, co, rfl, oo, b1⟩
  have s1 := b1.size
  have kn1 := kn0.next b1
  clear kn0 b1
  obtain ⟨d0, d1, d2, _⟩ := kn1.all
  have ne0 : w.heap.size < w1.heap.size := by omega
  have ne1 : w.heap.size + 1 < w1.heap.size := by omega
  go_wp2_with fail
  clear ne0 ne1
  have kn2 : Kn w [(w.heap.size, 0, .slice A n c), (w.heap.size + 1, 0, .string nm), (w.heap.size + 2, 0, .slice none 0 0), (w1.heap.size, 0, .slice Ao ts.length co)] (w1.alloc (.cells #[.slice Ao ts.length co] 29)) := kn1.box1 (.slice Ao ts.length co) 29
  have s2 : w1.heap.size + 1 ≤ (w1.alloc (.cells #[.slice Ao ts.length co] 29)).heap.size := by simp
  have oo2 := oo.below ((Below.refl _ _).alloc (Nat.le_refl _) (.cells #[.slice Ao ts.length co] 29)) (Nat.le_refl _)
  clear oo kn1 d0 d1 d2
  generalize w1.alloc (.cells #[.slice Ao ts.length co] 29) = w2 at kn2 s2 oo2 ⊢
  refine (impl_LookupTable_any A n c B ts nm w2 (RdT.belowB hr kn2.bel hB) (Nat.le_trans hB kn2.bel.size) hn hs).mono ?_
  rintro e w3 ⟨Al, cl, rfl, ol, b3⟩
  have s3 := b3.size
  have kn3 := kn2.next b3
  have oo3 := oo2.below b3 (by omega)
  clear kn2 b3 oo2 ol
  have HN := Lib.hid (remR_no (ts := ts) (nm := nm))
  have HY := Lib.hid (remR_yes (ts := ts) (nm := nm))
  generalize lookR ts nm = R at HN HY ⊢
  obtain ⟨rn, ra, rr, rok⟩ := R
  obtain ⟨d0, d1, d2, d3, _⟩ := kn3.all
  have nx : w1.heap.size < w3.heap.size := by omega
  cases rok with
  | false =>
    have hf : Hid (remR ts nm = (ts, false)) := HN.out rfl
    obtain ⟨f0, f1, f2, f3, _⟩ := kn3.fall
    have HF := Lib.hid kn3.bel
    have HO := Lib.hid oo3
    have nz : w.heap.size + 2 < w3.heap.size := by omega
    clear kn3 oo3 HN HY
    go_wp2_with fail
    refine bodyPost_ret (v := .tuple #[.agg #[.slice Ao ts.length co], .bool false]) (by simp [results, Try.results34, go_sem, *]) rfl (DbBool.of hf.out ?_ ?_)
    · refine OwnD.down (lo := w0.heap.size) (OwnD.wide (hi := w1.heap.size) ?_ (by simp; omega)) (by omega)
      repeat first | exact HO.out | refine OwnD.alloc ?_ _ | refine OwnD.setOff ?_ (by omega)
    · repeat first | exact HF.out | (refine Below.setCell ?_ ?_ _; rotate_left; (simp; try omega)) | (refine Below.alloc ?_ ?_ _; rotate_left; (simp; try omega))
  | true =>
    have hf : Hid (remR ts nm = (ts.filter (fun t => decide (¬ t.nm = nm)), true)) := HY.out rfl
    clear HN HY
    have hA : Below w3.heap.size w3 (w3.alloc (.cells #[.string rn, .int .i64 ra, .slice Al rr.length cl] 36)) := (Below.refl _ _).alloc (Nat.le_refl _) _
    have kn4 := kn3.next hA
    have oo4 := oo3.below hA (by omega)
    have s4 := hA.size
    clear hA
    go_wp2_with fail
    clear d0 d1 d2 d3 kn3 oo3 nx
    generalize w3.alloc (.cells #[.string rn, .int .i64 ra, .slice Al rr.length cl] 36) = w4 at kn4 oo4 s4 ⊢
    refine (deleteFuncT_any Ao ts.length co w0.heap.size w1.heap.size (w.heap.size + 1) ts nm w4 oo4 kn4.all.2.1 (by omega) (.inl (by omega)) (by omega) (by rw [HL.out]; exact hn)).mono ?_
    rintro e w5 ⟨m, rfl, oo5, c5⟩
    have s5 := c5.size
    have kn5 := kn4.chg c5 (by omega) (by simp only [List.forall_mem_cons]; simp; omega)
    clear kn4 oo4 c5
    obtain ⟨d0, d1, d2, d3, _⟩ := kn5.all
    obtain ⟨f0, f1, f2, f3, _⟩ := kn5.fall
    have HF := Lib.hid kn5.bel
    have HO := Lib.hid oo5
    have ne : ¬ w1.heap.size = w.heap.size + 2 := by omega
    have ne' : ¬ w.heap.size + 2 = w1.heap.size := by omega
    clear kn5 oo5
    go_wp2_with fail
    refine bodyPost_ret (v := .tuple #[.agg #[.slice Ao m co], .bool true]) (by simp [results, Try.results34, go_sem, *]) rfl (DbBool.of hf.out ?_ ?_)
    · refine OwnD.down (lo := w0.heap.size) (OwnD.wide (hi := w1.heap.size) ?_ (by simp; omega)) (by omega)
      repeat refine OwnD.setOff ?_ (by omega)
      exact HO.out
    · repeat first | exact HF.out | (refine Below.setCell ?_ ?_ _; rotate_left; (simp; try omega))

set_option maxRecDepth 100000 in
set_option maxHeartbeats 1000000 in
theorem spec_RemoveTable_any (A : Option Addr) (n c B : Nat) (ts : List Tab) (nm : ByteArray) (w : World) (hr : RdT w B A n ts) (hB : B ≤ w.heap.size) (hn : n ≤ 1000000000) (hs : sumT ts ≤ 4294967296) :
    Calls Try.prog 33 #[.agg #[.slice A n c], .string nm] w (DbBool (remR ts nm) w) := by
  obtain ⟨i1, hi1, hz0, hz1, hz2⟩ := info_parts info_tab
  have HL := Lib.hid hr.1
  have hsm := Lib.hid hs
  have kn0 : Kn w [(w.heap.size, 0, .slice A n c), (w.heap.size + 1, 0, .slice none 0 0)] ((w.alloc (.cells #[.slice A n c] 29)).alloc (.cells #[.slice none 0 0] 29)) := by
    simpa using (((Kn.start w).box1 (.slice A n c) 29).box1 (.slice none 0 0) 29)
  go_enter Try.func33, Try.ntmps33
  go_wp2_with fail
  have s0 : w.heap.size + 2 ≤ ((w.alloc (.cells #[.slice A n c] 29)).alloc (.cells #[.slice none 0 0] 29)).heap.size := by simp
  generalize (w.alloc (.cells #[.slice A n c] 29)).alloc (.cells #[.slice none 0 0] 29) = w0 at kn0 s0 ⊢
  refine (spec_LookupTable_any A n c B ts nm w0 (RdT.belowB hr kn0.bel hB) (Nat.le_trans hB kn0.bel.size) hn hs).mono ?_
  rintro e w3 ⟨Al, cl, rfl, ol, b3⟩
  have s3 := b3.size
  have kn3 := kn0.next b3
  clear kn0 b3 ol
  have HN := Lib.hid (remR_no (ts := ts) (nm := nm))
  have HY := Lib.hid (remR_yes (ts := ts) (nm := nm))
  generalize lookR ts nm = R at HN HY ⊢
  obtain ⟨rn, ra, rr, rok⟩ := R
  obtain ⟨d0, d1, _⟩ := kn3.all
  have nx : w.heap.size < w3.heap.size := by omega
  have hA : Below w3.heap.size w3 (w3.alloc (.cells #[.string rn, .int .i64 ra, .slice Al rr.length cl] 36)) := (Below.refl _ _).alloc (Nat.le_refl _) _
  have kn4 := kn3.next hA
  have s4 := hA.size
  clear hA kn3
  cases rok with
  | false =>
    have hf : Hid (remR ts nm = (ts, false)) := HN.out rfl
    clear HN HY
    go_wp2_with fail
    clear d0 d1 nx
    generalize w3.alloc (.cells #[.string rn, .int .i64 ra, .slice Al rr.length cl] 36) = w4 at kn4 s4 ⊢
    refine (l5Copy_any A n c B ts w4 (RdT.belowB hr kn4.bel hB) (Nat.le_trans hB kn4.bel.size) hn hs).mono ?_
    rintro e w1 ⟨Ao, co, rfl, oo, b1⟩
    have s1 := b1.size
    have kn1 := kn4.next b1
    have HO := Lib.hid oo
    clear kn4 b1 oo
    obtain ⟨d0, d1, _⟩ := kn1.all
    obtain ⟨f0, f1, _⟩ := kn1.fall
    have HF := Lib.hid kn1.bel
    clear kn1
    go_wp2_with fail
    refine bodyPost_ret (v := .tuple #[.agg #[.slice Ao ts.length co], .bool false]) (by simp [results, Try.results33, go_sem, *]) rfl (DbBool.of hf.out ?_ ?_)
    · refine OwnD.down (lo := w4.heap.size) (OwnD.wide (hi := w1.heap.size) ?_ (by first | (simp; done) | (simp; omega))) (by omega)
      repeat refine OwnD.setOff ?_ (by omega)
      exact HO.out
    · repeat first | exact HF.out | (refine Below.setCell ?_ ?_ _; rotate_left; (simp; try omega))
  | true =>
    have hf : Hid (remR ts nm = (ts.filter (fun t => decide (¬ t.nm = nm)), true)) := HY.out rfl
    clear HN HY
    have ne4 : w.heap.size < (w3.alloc (.cells #[.string rn, .int .i64 ra, .slice Al rr.length cl] 36)).heap.size := by omega
    go_wp2_with fail
    clear d0 d1 nx ne4
    have hd0 : DInv w [(w.heap.size, 0, .slice A n c), (w.heap.size + 1, 0, .slice none 0 0)] (w3.alloc (.cells #[.string rn, .int .i64 ra, .slice Al rr.length cl] 36)).heap.size ((w3.alloc (.cells #[.string rn, .int .i64 ra, .slice Al rr.length cl] 36)).heap.size + 1) [] (.slice none 0 0) ((w3.alloc (.cells #[.string rn, .int .i64 ra, .slice Al rr.length cl] 36)).alloc (.cells #[.slice none 0 0] 29)) :=
      ⟨kn4.next ((Below.refl _ _).alloc (Nat.le_refl _) (.cells #[.slice none 0 0] 29)), OwnD.nil _ _ _, by simp, by omega, by omega, by simp only [List.forall_mem_cons]; simp; omega, by simp [go_sem], by simp [go_sem]⟩
    have hnb : (w3.alloc (.cells #[.string rn, .int .i64 ra, .slice Al rr.length cl] 36)).heap.size = w3.heap.size + 1 := by simp
    rw [hnb] at hd0
    have hb3 : w.heap.size + 2 ≤ w3.heap.size + 1 := by omega
    clear hnb kn4 s4
    generalize (w3.alloc (.cells #[.string rn, .int .i64 ra, .slice Al rr.length cl] 36)).alloc (.cells #[.slice none 0 0] 29) = w5 at hd0 ⊢
    go_loopw [9] (fun i wr => ∃ (k : Nat) (v : Value), k ≤ n ∧ i = .int .i64 k ∧ Hid (DInv w [(w.heap.size, 0, .slice A n c), (w.heap.size + 1, 0, .slice none 0 0)] (w3.heap.size + 1) (w3.heap.size + 1 + 1) ((ts.take k).filter fun t => decide (¬ t.nm = nm)) v wr)) (fun i _ => n - (intOf i).toNat)
    case atStart => exact ⟨0, _, by omega, rfl, hd0⟩
    case round =>
      obtain ⟨k, v, hk, rfl, hinv⟩ := hrel
      clear hd0
      have hbel := Lib.hid hinv.out.kn.bel
      have hsz := hbel.out.size
      obtain ⟨d0, d1, _⟩ := hinv.out.kn.all
      have x0 := hinv.out.x0
      by_cases hlt : k < n
      · obtain ⟨b, o, t, A', c', rfl, hb, hx, hc0, hc1, hc2, hrd, hm, hnm⟩ := RdT.at_ hr hlt
        have hts := Lib.hid (tab_small hx hsm.out)
        have HX := Lib.hid (show (ts.take (k + 1)).filter (fun t => decide (¬ t.nm = nm)) = (ts.take k).filter (fun t => decide (¬ t.nm = nm)) ++ (if t.nm = nm then [] else [t]) by
          rw [List.take_add_one, hx, List.filter_append]
          by_cases he : t.nm = nm <;> simp [he])
        have hla : ((ts.take k).filter fun t => decide (¬ t.nm = nm)).length ≤ 1000000000 := Nat.le_trans (List.length_filter_le _ _) (by rw [List.length_take]; omega)
        have m0 := (hbel.out.cell (p := ⟨b, o + k * 3, none⟩) (by show b < _; omega)).trans hc0
        have m1 := (hbel.out.cell (p := ⟨b, o + k * 3 + 1, none⟩) (by show b < _; omega)).trans hc1
        have m2 := (hbel.out.cell (p := ⟨b, o + k * 3 + 2, none⟩) (by show b < _; omega)).trans hc2
        obtain ⟨xn, xa, xr⟩ := t
        have hnm : xn.size ≤ maxLen := hnm
        generalize (ts.take k).filter (fun t => decide (¬ t.nm = nm)) = acc at hinv HX hla
        have KC := Lib.hid (l4Copy_any xn xa A' xr.length c' B xr wr (RdR.belowB hrd hbel.out hB) (Nat.le_trans hB hsz) hts.out.1 hts.out.2)
        clear hx hc0 hc1 hc2 hrd hm
        by_cases he : xn = nm
        · have HX2 := Lib.hid (HX.out.trans (by rw [if_pos he, List.append_nil]))
          have qe := (show (xn.toList == nm.toList) = true by rw [he]; simp)
          clear he
          go_wp2_with fail
          refine ⟨⟨k + 1, _, by omega, by go_num, by rw [HX2.out]; exact hinv⟩, ?_⟩
          simp [intOf]
          omega
        · have HX2 : Hid ((ts.take (k + 1)).filter (fun t => decide (¬ t.nm = nm)) = acc ++ [⟨xn, xa, xr⟩]) := HX.out.trans (by rw [if_neg he])
          have qe := str_eq0 he
          clear he
          go_wp2_with fail
          refine KC.out.mono ?_
          rintro e w1 ⟨A1, c1, rfl, ho1, hb1⟩
          clear d0 d1 x0 m0 m1 m2 KC
          obtain ⟨xs, hrow, n2, happ⟩ := hinv.out.app (nm := xn) (ar := xa) (w1 := w1.alloc (.cells #[.string xn, .int .i64 xa, .slice A1 xr.length c1] 36)) (hb1.alloc hb1.size (.cells #[.string xn, .int .i64 xa, .slice A1 xr.length c1] 36)) (ho1.below ((Below.refl w1.heap.size w1).alloc (Nat.le_refl _) (.cells #[.string xn, .int .i64 xa, .slice A1 xr.length c1] 36)) (Nat.le_refl _)) (Nat.le_refl _) (by simp) hnm
          have hnb : (w1.alloc (.cells #[.string xn, .int .i64 xa, .slice A1 xr.length c1] 36)).heap.size = w1.heap.size + 1 := by simp
          have hgn := heap_alloc_new (w1.alloc (.cells #[.string xn, .int .i64 xa, .slice A1 xr.length c1] 36)) (.cells #[.string xn, .int .i64 xa, .slice A1 xr.length c1] 36)
          have hx1 : w3.heap.size + 1 < w1.heap.size := Nat.lt_of_lt_of_le (Nat.lt_of_lt_of_le hinv.out.hxb hinv.out.size) hb1.size
          rw [hnb] at hgn happ
          have n3 : w1.cell? ⟨w3.heap.size + 1, 0, none⟩ = some (v) := (hb1.cell (p := ⟨w3.heap.size + 1, 0, none⟩) (Nat.lt_of_lt_of_le hinv.out.hxb hinv.out.size)).trans hinv.out.x0
          have HA := Lib.hid happ
          have HR := Lib.hid hrow
          have HGN := Lib.hid hgn
          clear happ ho1 hb1 hrow hgn n2
          go_wp2_with (at_builtin; refine wpList_append_lies _ rfl _ _ _ rfl 0 36 i1 _ 3 48 Try.underlying27 hi1 hz0 hz1 hz2 rfl (by omega) _ (acc).length _ rfl HR.out ⟨w1.heap.size + 1, 0, none⟩ 1 1 [.string xn, .int .i64 xa, .slice A1 xr.length c1] rfl rfl (World.news_of_block (cs := #[.string xn, .int .i64 xa, .slice A1 xr.length c1]) (t := 36) (fr := (0, 0)) HGN.out) (by simp [Value.oneCell']) (by omega) (by unfold maxLen; omega) (by omega) (Nat.zero_le _) (w1.heap.size + 1 + 1) (by simp) ?_; intro g cap w2 hown2 hgrow hat hlt2; obtain ⟨m2, m3, hF, hcl, hsz2⟩ := HA.out g cap w2 hown2 hgrow hat; have HF := Lib.hid hF; clear hown2 hgrow hat hF hcl hsz2)
          refine ⟨⟨k + 1, _, by omega, by go_num, by rw [HX2.out]; exact HF⟩, ?_⟩
          simp [intOf]
          omega
      · obtain rfl : k = n := by omega
        have HT := Lib.hid (show ts.take k = ts from List.take_of_length_le (Nat.le_of_eq HL.out))
        have hI := hinv.out
        rw [HT.out] at hI
        generalize ts.filter (fun t => decide (¬ t.nm = nm)) = Fl at hf hI
        obtain ⟨A1, c1, rfl⟩ := hI.own.form
        obtain ⟨f0, f1, _⟩ := hI.kn.fall
        have HF := Lib.hid hI
        have hszI := hI.size
        clear hI hinv
        go_wp2_with fail
        refine bodyPost_ret (v := .tuple #[.agg #[.slice A1 Fl.length c1], .bool true]) (by simp [results, Try.results33, go_sem, *]) rfl (DbBool.of hf.out ?_ ?_)
        · refine OwnD.down (lo := w3.heap.size + 1 + 1) (OwnD.wide (hi := wr.heap.size) ?_ (by simp)) (by omega)
          repeat refine OwnD.setOff ?_ (by omega)
          exact HF.out.own
        · repeat first | exact HF.out.kn.bel | (refine Below.setCell ?_ ?_ _; rotate_left; (simp; try omega))
end Go.Proofs.Ytimlecfneibjlaa
