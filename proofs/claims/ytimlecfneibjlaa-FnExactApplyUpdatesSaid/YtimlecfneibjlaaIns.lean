/- InsertRow: both texts. No condition but the size that the laws let in. (Printed by tools/ins.py.) -/
import Derived.Test.YtimlecfneibjlaaNewP
namespace Go.Proofs.Ytimlecfneibjlaa
open Go.RowKit Go.Deep

/-- What InsertRow answers. -/
def insB (nm : ByteArray) (ar : Int) (rs : List (List Int)) (r : List Int) : Bool := validT nm ar rs && (rowB r ar && (!decide (r ∈ rs) && decide (rs.length < 8)))
def insR (nm : ByteArray) (ar : Int) (rs : List (List Int)) (r : List Int) : TabR := if insB nm ar rs r = true then ⟨nm, ar, putA r false rs, true⟩ else ⟨nm, ar, rs, false⟩
theorem insR_small (nm : ByteArray) (ar : Int) (rs : List (List Int)) (r : List Int) (hb : rs.length ≤ 1048576) (hs : sumL rs ≤ 1048576) (hr : r.length ≤ 1048576) : (insR nm ar rs r).rs.length ≤ 1048576 ∧ sumL (insR nm ar rs r).rs ≤ 4294967296 := by
  unfold insR
  by_cases h : insB nm ar rs r = true
  · rw [if_pos h]
    have h8 : rs.length < 8 := by
      unfold insB at h
      simp only [Bool.and_eq_true] at h
      exact of_decide_eq_true h.2.2.2
    have h1 := (putA_len r rs).2
    have h2 := putA_sum r rs
    exact ⟨by show (putA r false rs).length ≤ _; omega, by show sumL (putA r false rs) ≤ _; omega⟩
  · rw [if_neg h]
    exact ⟨hb, by show sumL rs ≤ _; omega⟩
/-- Owned rows, laid open for one header more, of whatever row: how they read then. -/
theorem OwnR.openRd {w : World} {lo hi : Nat} {v : Value} {rs : List (List Int)} (h : OwnR w lo hi v rs) : ∃ xs : List Value, w.ownsRow 0 59 1 v rs.length xs ∧ (∀ g, v.ownBlock = some g → lo ≤ g ∧ g < hi ∧ g < w.heap.size) ∧
    ∀ (w1 w' : World) (A1 : Option Addr) (r : List Int) (c1 g cap : Nat), Below w.heap.size w w1 → RdI w' w'.heap.size A1 r.length r → r.length ≤ maxLen →
      w'.ownsRow 0 59 1 (.slice (some ⟨g, 0, none⟩) (rs.length + 1) cap) (rs.length + 1) (xs ++ [.slice A1 r.length c1]) → w1.grownBy w' v.ownBlock → RdR w' w'.heap.size (some ⟨g, 0, none⟩) (rs.length + 1) (rs ++ [r]) := by
  obtain ⟨F, ⟨ts, rfl, hT⟩, hF⟩ := h
  have hrow := hT.row
  rw [flat_hd hT.len] at hrow
  refine ⟨ts.map hd, by rw [List.length_map]; exact hrow, fun g hg => ⟨(hF g (hT.head g hg).1).1, (hF g (hT.head g hg).1).2, hT.bound g (hT.head g hg).1⟩, fun w1 w' A1 r c1 g cap hb hr hm hown hgrow => ⟨by simp, fun _ => ⟨g, 0, rfl, (hown.lt g rfl).2, fun j a ha => ?_⟩⟩⟩
  have hj : j < (ts.map (·.a)).length + 1 := by have := (List.getElem?_eq_some_iff.1 ha).1; simpa using this
  obtain ⟨g', c', hv, _, _, hc, _⟩ := ownsRow_cell hown (i := j) (by omega)
  injection hv with h1 _ _
  injection h1 with h1
  injection h1 with h1
  subst h1
  rw [List.length_map] at hj
  rcases Nat.lt_or_ge j ts.length with hlt | hge
  · rw [List.getElem?_append_left (by simpa using hlt), List.getElem?_map, List.getElem?_eq_getElem hlt, Option.map_some] at ha
    injection ha with ha
    rw [List.getElem?_append_left (by simpa using hlt), List.getElem?_map, List.getElem?_eq_getElem hlt, Option.map_some] at hc
    have hmem := List.getElem_mem hlt
    have hbd := eRow_ok.bound (hT.elem _ hmem)
    have hE := eRow_ok.keep (w' := w') (hT.elem _ hmem) fun k hf => (hgrow.block k (Nat.lt_of_lt_of_le (hbd k hf) hb.size) fun e => (hT.head k e.symm).2 _ hmem hf).trans (hb.block k (hbd k hf))
    have hR := rRow_of (B := w'.heap.size) hE (fun k hf => eRow_ok.bound hE k hf)
    obtain ⟨A2, c2, e1, e2⟩ := eRow_hd hE
    refine ⟨ts[j].cs, hT.len _ hmem, fun i x hx => ?_, ha ▸ hR⟩
    rw [e2] at hx
    have hi : i = 0 := by
      have := (List.getElem?_eq_some_iff.1 hx).1
      simp at this
      exact this
    subst hi
    simp at hx
    rw [← hx, ← e1, Nat.mul_one, Nat.add_zero, Nat.zero_add]
    exact hc
  · obtain rfl : j = ts.length := by omega
    rw [List.getElem?_append_right (by simp), List.length_map, Nat.sub_self] at ha
    rw [List.getElem?_append_right (by simp), List.length_map, Nat.sub_self] at hc
    simp at ha
    simp at hc
    subst ha
    refine ⟨[.slice A1 r.length c1], rfl, fun i x hx => ?_, ⟨A1, c1, rfl, hr, hm⟩⟩
    have hi : i = 0 := by
      have := (List.getElem?_eq_some_iff.1 hx).1
      simp at this
      exact this
    subst hi
    simp at hx
    rw [← hx, Nat.mul_one, Nat.add_zero, Nat.zero_add]
    exact hc

set_option maxRecDepth 100000 in
set_option maxHeartbeats 4000000 in
theorem spec_InsertRow_any (nm : ByteArray) (ar : Int) (A A' : Option Addr) (n c n' c' B : Nat) (rs : List (List Int)) (r : List Int) (w : World) (hr : RdR w B A n rs) (hr' : RdI w B A' n' r) (hB : B ≤ w.heap.size) (hn : n ≤ 5000000000) (hn' : n' ≤ 17592186044416) (hrow : ∀ r ∈ rs, r.length ≤ 17592186044416) :
    Calls Try.prog 97 #[.agg #[.string nm, .int .i64 ar, .slice A n c], .slice A' n' c'] w (TabBool (insR nm ar rs r) w) := by
  obtain ⟨i1, hi', hz0', hz1', hz2'⟩ := info_parts info_row
  have HL := Lib.hid hr.1
  have hrow' := Lib.hid hrow
  clear hrow
  have kn0 : Kn w [(w.heap.size, 0, .string nm), (w.heap.size, 1, .int .i64 ar), (w.heap.size, 2, .slice A n c), (w.heap.size + 1, 0, .string { data := #[] }), (w.heap.size + 1, 1, .int .i64 0), (w.heap.size + 1, 2, .slice none 0 0)]
      ((w.alloc (.cells #[.string nm, .int .i64 ar, .slice A n c] 36)).alloc (.cells #[.string { data := #[] }, .int .i64 0, .slice none 0 0] 36)) := by
    simpa using ((Kn.start w).box3 (.string nm) (.int .i64 ar) (.slice A n c) 36).box3 (.string { data := #[] }) (.int .i64 0) (.slice none 0 0) 36
  go_enter Try.func97, Try.ntmps97
  go_wp2_with fail
  have s0 : w.heap.size + 2 ≤ ((w.alloc (.cells #[.string nm, .int .i64 ar, .slice A n c] 36)).alloc (.cells #[.string { data := #[] }, .int .i64 0, .slice none 0 0] 36)).heap.size := by simp
  generalize (w.alloc (.cells #[.string nm, .int .i64 ar, .slice A n c] 36)).alloc (.cells #[.string { data := #[] }, .int .i64 0, .slice none 0 0] 36) = w0 at kn0 s0 ⊢
  with_reducible refine (l4Copy_any nm ar A n c B rs w0 (RdR.belowB hr kn0.bel hB) (Nat.le_trans hB kn0.bel.size) hn hrow'.out).mono ?_
  rintro e w1 ⟨Ao, co, rfl, oo, b1⟩
  have s1 := b1.size
  have kn1 := kn0.next b1
  clear kn0 b1
  obtain ⟨d0, d1, d2, d3, d4, d5, _⟩ := kn1.all
  have ne0 : w.heap.size < w1.heap.size := by omega
  have ne1 : w.heap.size + 1 < w1.heap.size := by omega
  go_wp2_with fail
  clear ne0 ne1
  have kn2 : Kn w [(w.heap.size, 0, .string nm), (w.heap.size, 1, .int .i64 ar), (w.heap.size, 2, .slice A n c), (w.heap.size + 1, 0, .string { data := #[] }), (w.heap.size + 1, 1, .int .i64 0), (w.heap.size + 1, 2, .slice none 0 0), (w1.heap.size, 0, .string nm), (w1.heap.size, 1, .int .i64 ar), (w1.heap.size, 2, .slice Ao rs.length co)]
      (w1.alloc (.cells #[.string nm, .int .i64 ar, .slice Ao rs.length co] 36)) := kn1.box3 (.string nm) (.int .i64 ar) (.slice Ao rs.length co) 36
  have s2 : w1.heap.size + 1 ≤ (w1.alloc (.cells #[.string nm, .int .i64 ar, .slice Ao rs.length co] 36)).heap.size := by simp
  have oo2 := oo.below ((Below.refl _ _).alloc (Nat.le_refl _) (.cells #[.string nm, .int .i64 ar, .slice Ao rs.length co] 36)) (Nat.le_refl _)
  clear oo kn1 d0 d1 d2 d3 d4 d5
  generalize w1.alloc (.cells #[.string nm, .int .i64 ar, .slice Ao rs.length co] 36) = w2 at kn2 s2 oo2 ⊢
  have KV : Hid (∀ W, Below w.heap.size w W → Calls Try.prog 59 #[.agg #[.string nm, .int .i64 ar, .slice A n c]] W fun e w' => e = .returned (.bool (validT nm ar rs)) ∧ Below W.heap.size W w') := fun W b => spec_IsValidTable_any nm ar A n c B rs W (RdR.belowB hr b hB) (Nat.le_trans hB b.size) (by omega)
  have KR : Hid (∀ W, Below w.heap.size w W → Calls Try.prog 88 #[.slice A' n' c', .int .i64 ar] W fun e w' => e = .returned (.bool (rowB r ar)) ∧ W = w') := fun W b => l4Row_any A' n' c' r ar W ((hr'.belowB b hB).more (Nat.le_trans hB b.size)) (by omega)
  obtain ⟨d0, d1, d2, d3, d4, d5, d6, d7, d8, _⟩ := kn2.all
  have KI : Hid (∀ W, Below w.heap.size w W → Calls Try.prog 105 #[.agg #[.string nm, .int .i64 ar, .slice A n c], .slice A' n' c'] W fun e w' => e = .returned (.bool (contB nm ar rs r)) ∧ Below W.heap.size W w') := fun W b => spec_ContainsRow_any nm ar A A' n c n' c' B rs r W (RdR.belowB hr b hB) (hr'.belowB b hB) (Nat.le_trans hB b.size) (by omega) (by omega)
  cases hv : validT nm ar rs with
  | false =>
    have hno : Hid (insB nm ar rs r = false) := by show _ = _; rw [insB, hv]; rfl
    rw [hv] at KV
    clear hv KR KI
    refine (KV.out _ kn2.bel).mono ?_
    rintro e w3 ⟨rfl, b3⟩
    have s3 := b3.size
    have oo3 := oo2.below b3 (by omega)
    have kn3 := kn2.next b3
    clear kn2 b3 oo2 d0 d1 d2 d3 d4 d5 d6 d7 d8
    obtain ⟨d0, d1, d2, d3, d4, d5, d6, d7, d8, _⟩ := kn3.all
    have hf : Hid (insR nm ar rs r = ⟨nm, ar, rs, false⟩) := by show _ = _; rw [insR, if_neg (by rw [hno.out]; simp)]
    obtain ⟨f0, f1, f2, f3, f4, f5, f6, f7, f8, _⟩ := kn3.fall
    have hbel := Lib.hid kn3.bel
    have HO := Lib.hid oo3
    have nn : ¬ w1.heap.size = w.heap.size + 1 := by omega
    clear kn3 oo3
    go_wp2_with fail
    refine bodyPost_ret (v := .tuple #[.agg #[.string nm, .int .i64 ar, .slice Ao rs.length co], .bool false]) (by simp [results, Try.results97, go_sem, *]) rfl (TabBool.of hf.out ?_ ?_)
    · refine OwnR.down (lo := w0.heap.size) (OwnR.wide (hi := w1.heap.size) ?_ (by simp; omega)) (by omega)
      repeat refine OwnR.setLow ?_ (by omega)
      exact HO.out
    · repeat first | exact hbel.out | (refine Below.setCell ?_ ?_ _; rotate_left; (simp; try omega))
  | true =>
    have hasc := Lib.hid (validT_asc hv)
    rw [hv] at KV
    cases hw : rowB r ar with
    | false =>
      have hno : Hid (insB nm ar rs r = false) := by show _ = _; rw [insB, hv, hw]; rfl
      rw [hw] at KR
      clear hv hw KI
      refine (KV.out _ kn2.bel).mono ?_
      rintro e w3 ⟨rfl, b3⟩
      have s3 := b3.size
      have oo3 := oo2.below b3 (by omega)
      have kn3 := kn2.next b3
      clear kn2 b3 oo2 d0 d1 d2 d3 d4 d5 d6 d7 d8
      obtain ⟨d0, d1, d2, d3, d4, d5, d6, d7, d8, _⟩ := kn3.all
      go_wp2_with fail
      refine (KR.out _ kn3.bel).mono ?_
      rintro e wz ⟨rfl, rfl⟩
      have hf : Hid (insR nm ar rs r = ⟨nm, ar, rs, false⟩) := by show _ = _; rw [insR, if_neg (by rw [hno.out]; simp)]
      obtain ⟨f0, f1, f2, f3, f4, f5, f6, f7, f8, _⟩ := kn3.fall
      have hbel := Lib.hid kn3.bel
      have HO := Lib.hid oo3
      have nn : ¬ w1.heap.size = w.heap.size + 1 := by omega
      clear kn3 oo3
      go_wp2_with fail
      refine bodyPost_ret (v := .tuple #[.agg #[.string nm, .int .i64 ar, .slice Ao rs.length co], .bool false]) (by simp [results, Try.results97, go_sem, *]) rfl (TabBool.of hf.out ?_ ?_)
      · refine OwnR.down (lo := w0.heap.size) (OwnR.wide (hi := w1.heap.size) ?_ (by simp; omega)) (by omega)
        repeat refine OwnR.setLow ?_ (by omega)
        exact HO.out
      · repeat first | exact hbel.out | (refine Below.setCell ?_ ?_ _; rotate_left; (simp; try omega))
    | true =>
      rw [hw] at KR
      by_cases hm : r ∈ rs
      · have hno : Hid (insB nm ar rs r = false) := by show _ = _; rw [insB, hv, hw, decide_eq_true hm]; rfl
        rw [show contB nm ar rs r = true by rw [contB, hv, decide_eq_true hm]; rfl] at KI
        clear hv hw hm 
        refine (KV.out _ kn2.bel).mono ?_
        rintro e w3 ⟨rfl, b3⟩
        have s3 := b3.size
        have oo3 := oo2.below b3 (by omega)
        have kn3 := kn2.next b3
        clear kn2 b3 oo2 d0 d1 d2 d3 d4 d5 d6 d7 d8
        obtain ⟨d0, d1, d2, d3, d4, d5, d6, d7, d8, _⟩ := kn3.all
        go_wp2_with fail
        refine (KR.out _ kn3.bel).mono ?_
        rintro e wz ⟨rfl, rfl⟩
        go_wp2_with fail
        refine (KI.out _ kn3.bel).mono ?_
        rintro e w4 ⟨rfl, b4⟩
        have s4 := b4.size
        have oo4 := oo3.below b4 (by omega)
        have kn4 := kn3.next b4
        clear kn3 b4 oo3 d0 d1 d2 d3 d4 d5 d6 d7 d8
        obtain ⟨d0, d1, d2, d3, d4, d5, d6, d7, d8, _⟩ := kn4.all
        have hf : Hid (insR nm ar rs r = ⟨nm, ar, rs, false⟩) := by show _ = _; rw [insR, if_neg (by rw [hno.out]; simp)]
        obtain ⟨f0, f1, f2, f3, f4, f5, f6, f7, f8, _⟩ := kn4.fall
        have hbel := Lib.hid kn4.bel
        have HO := Lib.hid oo4
        have nn : ¬ w1.heap.size = w.heap.size + 1 := by omega
        clear kn4 oo4
        go_wp2_with fail
        refine bodyPost_ret (v := .tuple #[.agg #[.string nm, .int .i64 ar, .slice Ao rs.length co], .bool false]) (by simp [results, Try.results97, go_sem, *]) rfl (TabBool.of hf.out ?_ ?_)
        · refine OwnR.down (lo := w0.heap.size) (OwnR.wide (hi := w1.heap.size) ?_ (by simp; omega)) (by omega)
          repeat refine OwnR.setLow ?_ (by omega)
          exact HO.out
        · repeat first | exact hbel.out | (refine Below.setCell ?_ ?_ _; rotate_left; (simp; try omega))
      · by_cases h8 : rs.length < 8
        rotate_left
        · have hno : Hid (insB nm ar rs r = false) := by show _ = _; rw [insB, hv, hw, decide_eq_false hm, decide_eq_false h8]; rfl
          rw [show contB nm ar rs r = false by rw [contB, hv, decide_eq_false hm]; rfl] at KI
          have hn8 : n = 8 := by
            have h := HL.out
            have : ¬ 8 < rs.length := fun h => by rw [validT_long h] at hv; cases hv
            omega
          have q8 : ((n : Int) == 8) = true := by simp [hn8]
          clear hn8
          clear hv hw hm h8 
          refine (KV.out _ kn2.bel).mono ?_
          rintro e w3 ⟨rfl, b3⟩
          have s3 := b3.size
          have oo3 := oo2.below b3 (by omega)
          have kn3 := kn2.next b3
          clear kn2 b3 oo2 d0 d1 d2 d3 d4 d5 d6 d7 d8
          obtain ⟨d0, d1, d2, d3, d4, d5, d6, d7, d8, _⟩ := kn3.all
          go_wp2_with fail
          refine (KR.out _ kn3.bel).mono ?_
          rintro e wz ⟨rfl, rfl⟩
          go_wp2_with fail
          refine (KI.out _ kn3.bel).mono ?_
          rintro e w4 ⟨rfl, b4⟩
          have s4 := b4.size
          have oo4 := oo3.below b4 (by omega)
          have kn4 := kn3.next b4
          clear kn3 b4 oo3 d0 d1 d2 d3 d4 d5 d6 d7 d8
          obtain ⟨d0, d1, d2, d3, d4, d5, d6, d7, d8, _⟩ := kn4.all
          have hf : Hid (insR nm ar rs r = ⟨nm, ar, rs, false⟩) := by show _ = _; rw [insR, if_neg (by rw [hno.out]; simp)]
          obtain ⟨f0, f1, f2, f3, f4, f5, f6, f7, f8, _⟩ := kn4.fall
          have hbel := Lib.hid kn4.bel
          have HO := Lib.hid oo4
          have nn : ¬ w1.heap.size = w.heap.size + 1 := by omega
          clear kn4 oo4
          go_wp2_with fail
          refine bodyPost_ret (v := .tuple #[.agg #[.string nm, .int .i64 ar, .slice Ao rs.length co], .bool false]) (by simp [results, Try.results97, go_sem, *]) rfl (TabBool.of hf.out ?_ ?_)
          · refine OwnR.down (lo := w0.heap.size) (OwnR.wide (hi := w1.heap.size) ?_ (by simp; omega)) (by omega)
            repeat refine OwnR.setLow ?_ (by omega)
            exact HO.out
          · repeat first | exact hbel.out | (refine Below.setCell ?_ ?_ _; rotate_left; (simp; try omega))
        · have hf : Hid (insR nm ar rs r = ⟨nm, ar, putA r false rs, true⟩) := by show _ = _; rw [insR, if_pos (by rw [insB, hv, hw, decide_eq_false hm, decide_eq_true h8]; rfl)]
          rw [show contB nm ar rs r = false by rw [contB, hv, decide_eq_false hm]; rfl] at KI
          have q8 : ((n : Int) == 8) = false := by have := HL.out; simp; omega
          have hsm := Lib.hid h8
          clear hv hw hm h8 
          refine (KV.out _ kn2.bel).mono ?_
          rintro e w3 ⟨rfl, b3⟩
          have s3 := b3.size
          have oo3 := oo2.below b3 (by omega)
          have kn3 := kn2.next b3
          clear kn2 b3 oo2 d0 d1 d2 d3 d4 d5 d6 d7 d8
          obtain ⟨d0, d1, d2, d3, d4, d5, d6, d7, d8, _⟩ := kn3.all
          go_wp2_with fail
          refine (KR.out _ kn3.bel).mono ?_
          rintro e wz ⟨rfl, rfl⟩
          go_wp2_with fail
          refine (KI.out _ kn3.bel).mono ?_
          rintro e w4 ⟨rfl, b4⟩
          have s4 := b4.size
          have oo4 := oo3.below b4 (by omega)
          have kn4 := kn3.next b4
          clear kn3 b4 oo3 d0 d1 d2 d3 d4 d5 d6 d7 d8
          obtain ⟨d0, d1, d2, d3, d4, d5, d6, d7, d8, _⟩ := kn4.all
          have KP := Lib.hid (l4Put_any Ao A' rs.length co n' c' w4.heap.size rs r w4 ((oo4.rd rfl).more (by omega)) ((hr'.belowB kn4.bel hB).more (Nat.le_trans hB kn4.bel.size)) (Nat.le_refl _) (by have := hsm.out; omega) hn' hrow'.out)
          go_wp2_with fail
          refine KP.out.mono ?_
          rintro e w5 ⟨A5, c5, rfl, oo5, b5⟩
          have s5 := b5.size
          have kn5 := kn4.next b5
          clear kn4 b5 oo4 d0 d1 d2 d3 d4 d5 d6 d7 d8
          obtain ⟨d0, d1, d2, d3, d4, d5, d6, d7, d8, _⟩ := kn5.all
          obtain ⟨f0, f1, f2, f3, f4, f5, f6, f7, f8, _⟩ := kn5.fall
          have hbel := Lib.hid kn5.bel
          have HO := Lib.hid oo5
          have nn : ¬ w1.heap.size = w.heap.size + 1 := by omega
          clear kn5 oo5
          generalize putA r false rs = R at hf HO ⊢
          go_wp2_with fail
          refine bodyPost_ret (v := .tuple #[.agg #[.string nm, .int .i64 ar, .slice A5 R.length c5], .bool true]) (by simp [results, Try.results97, go_sem, *]) rfl (TabBool.of hf.out ?_ ?_)
          · refine OwnR.down (lo := w4.heap.size) (OwnR.wide (hi := w5.heap.size) ?_ (by simp)) (by omega)
            repeat refine OwnR.setOff ?_ (by omega)
            exact HO.out
          · repeat first | exact hbel.out | (refine Below.setCell ?_ ?_ _; rotate_left; (simp; try omega))

set_option maxRecDepth 100000 in
set_option maxHeartbeats 4000000 in
theorem impl_InsertRow_any (nm : ByteArray) (ar : Int) (A A' : Option Addr) (n c n' c' B : Nat) (rs : List (List Int)) (r : List Int) (w : World) (hr : RdR w B A n rs) (hr' : RdI w B A' n' r) (hB : B ≤ w.heap.size) (hn : n ≤ 5000000000) (hn' : n' ≤ 17592186044416) (hrow : ∀ r ∈ rs, r.length ≤ 17592186044416) :
    Calls Try.prog 99 #[.agg #[.string nm, .int .i64 ar, .slice A n c], .slice A' n' c'] w (TabBool (insR nm ar rs r) w) := by
  obtain ⟨i1, hi', hz0', hz1', hz2'⟩ := info_parts info_row
  have HL := Lib.hid hr.1
  have hrow' := Lib.hid hrow
  clear hrow
  have kn0 : Kn w [(w.heap.size, 0, .string nm), (w.heap.size, 1, .int .i64 ar), (w.heap.size, 2, .slice A n c), (w.heap.size + 1, 0, .string { data := #[] }), (w.heap.size + 1, 1, .int .i64 0), (w.heap.size + 1, 2, .slice none 0 0)]
      ((w.alloc (.cells #[.string nm, .int .i64 ar, .slice A n c] 36)).alloc (.cells #[.string { data := #[] }, .int .i64 0, .slice none 0 0] 36)) := by
    simpa using ((Kn.start w).box3 (.string nm) (.int .i64 ar) (.slice A n c) 36).box3 (.string { data := #[] }) (.int .i64 0) (.slice none 0 0) 36
  go_enter Try.func99, Try.ntmps99
  go_wp2_with fail
  have s0 : w.heap.size + 2 ≤ ((w.alloc (.cells #[.string nm, .int .i64 ar, .slice A n c] 36)).alloc (.cells #[.string { data := #[] }, .int .i64 0, .slice none 0 0] 36)).heap.size := by simp
  generalize (w.alloc (.cells #[.string nm, .int .i64 ar, .slice A n c] 36)).alloc (.cells #[.string { data := #[] }, .int .i64 0, .slice none 0 0] 36) = w0 at kn0 s0 ⊢
  with_reducible refine (copyTable_any nm ar A n c B rs w0 (RdR.belowB hr kn0.bel hB) (Nat.le_trans hB kn0.bel.size) hn hrow'.out).mono ?_
  rintro e w1 ⟨Ao, co, rfl, oo, b1⟩
  have s1 := b1.size
  have kn1 := kn0.next b1
  clear kn0 b1
  obtain ⟨d0, d1, d2, d3, d4, d5, _⟩ := kn1.all
  have ne0 : w.heap.size < w1.heap.size := by omega
  have ne1 : w.heap.size + 1 < w1.heap.size := by omega
  go_wp2_with fail
  clear ne0 ne1
  have kn2 : Kn w [(w.heap.size, 0, .string nm), (w.heap.size, 1, .int .i64 ar), (w.heap.size, 2, .slice A n c), (w.heap.size + 1, 0, .string { data := #[] }), (w.heap.size + 1, 1, .int .i64 0), (w.heap.size + 1, 2, .slice none 0 0), (w1.heap.size, 0, .string nm), (w1.heap.size, 1, .int .i64 ar), (w1.heap.size, 2, .slice Ao rs.length co)]
      (w1.alloc (.cells #[.string nm, .int .i64 ar, .slice Ao rs.length co] 36)) := kn1.box3 (.string nm) (.int .i64 ar) (.slice Ao rs.length co) 36
  have s2 : w1.heap.size + 1 ≤ (w1.alloc (.cells #[.string nm, .int .i64 ar, .slice Ao rs.length co] 36)).heap.size := by simp
  have oo2 := oo.below ((Below.refl _ _).alloc (Nat.le_refl _) (.cells #[.string nm, .int .i64 ar, .slice Ao rs.length co] 36)) (Nat.le_refl _)
  clear oo kn1 d0 d1 d2 d3 d4 d5
  generalize w1.alloc (.cells #[.string nm, .int .i64 ar, .slice Ao rs.length co] 36) = w2 at kn2 s2 oo2 ⊢
  have KV : Hid (∀ W, Below w.heap.size w W → Calls Try.prog 61 #[.agg #[.string nm, .int .i64 ar, .slice A n c]] W fun e w' => e = .returned (.bool (validT nm ar rs)) ∧ Below W.heap.size W w') := fun W b => impl_IsValidTable_any nm ar A n c B rs W (RdR.belowB hr b hB) (Nat.le_trans hB b.size) (by omega)
  have KR : Hid (∀ W, Below w.heap.size w W → Calls Try.prog 93 #[.slice A' n' c', .int .i64 ar] W fun e w' => e = .returned (.bool (rowB r ar)) ∧ W = w') := fun W b => rowOk_any A' n' c' r ar W ((hr'.belowB b hB).more (Nat.le_trans hB b.size)) (by omega)
  obtain ⟨d0, d1, d2, d3, d4, d5, d6, d7, d8, _⟩ := kn2.all
  have KI : Hid (∀ W, Below w.heap.size w W → Calls Try.prog 107 #[.agg #[.string nm, .int .i64 ar, .slice A n c], .slice A' n' c'] W fun e w' => e = .returned (.int .i64 (idxR rs r)) ∧ Below W.heap.size W w') := fun W b => rowIndex_any nm ar A A' n c n' c' B rs r W (RdR.belowB hr b hB) (hr'.belowB b hB) (Nat.le_trans hB b.size) (by omega) (by omega)
  cases hv : validT nm ar rs with
  | false =>
    have hno : Hid (insB nm ar rs r = false) := by show _ = _; rw [insB, hv]; rfl
    rw [hv] at KV
    clear hv KR KI
    refine (KV.out _ kn2.bel).mono ?_
    rintro e w3 ⟨rfl, b3⟩
    have s3 := b3.size
    have oo3 := oo2.below b3 (by omega)
    have kn3 := kn2.next b3
    clear kn2 b3 oo2 d0 d1 d2 d3 d4 d5 d6 d7 d8
    obtain ⟨d0, d1, d2, d3, d4, d5, d6, d7, d8, _⟩ := kn3.all
    have hf : Hid (insR nm ar rs r = ⟨nm, ar, rs, false⟩) := by show _ = _; rw [insR, if_neg (by rw [hno.out]; simp)]
    obtain ⟨f0, f1, f2, f3, f4, f5, f6, f7, f8, _⟩ := kn3.fall
    have hbel := Lib.hid kn3.bel
    have HO := Lib.hid oo3
    have nn : ¬ w1.heap.size = w.heap.size + 1 := by omega
    clear kn3 oo3
    go_wp2_with fail
    refine bodyPost_ret (v := .tuple #[.agg #[.string nm, .int .i64 ar, .slice Ao rs.length co], .bool false]) (by simp [results, Try.results99, go_sem, *]) rfl (TabBool.of hf.out ?_ ?_)
    · refine OwnR.down (lo := w0.heap.size) (OwnR.wide (hi := w1.heap.size) ?_ (by simp; omega)) (by omega)
      repeat refine OwnR.setLow ?_ (by omega)
      exact HO.out
    · repeat first | exact hbel.out | (refine Below.setCell ?_ ?_ _; rotate_left; (simp; try omega))
  | true =>
    have hasc := Lib.hid (validT_asc hv)
    rw [hv] at KV
    cases hw : rowB r ar with
    | false =>
      have hno : Hid (insB nm ar rs r = false) := by show _ = _; rw [insB, hv, hw]; rfl
      rw [hw] at KR
      clear hv hw KI
      refine (KV.out _ kn2.bel).mono ?_
      rintro e w3 ⟨rfl, b3⟩
      have s3 := b3.size
      have oo3 := oo2.below b3 (by omega)
      have kn3 := kn2.next b3
      clear kn2 b3 oo2 d0 d1 d2 d3 d4 d5 d6 d7 d8
      obtain ⟨d0, d1, d2, d3, d4, d5, d6, d7, d8, _⟩ := kn3.all
      go_wp2_with fail
      refine (KR.out _ kn3.bel).mono ?_
      rintro e wz ⟨rfl, rfl⟩
      have hf : Hid (insR nm ar rs r = ⟨nm, ar, rs, false⟩) := by show _ = _; rw [insR, if_neg (by rw [hno.out]; simp)]
      obtain ⟨f0, f1, f2, f3, f4, f5, f6, f7, f8, _⟩ := kn3.fall
      have hbel := Lib.hid kn3.bel
      have HO := Lib.hid oo3
      have nn : ¬ w1.heap.size = w.heap.size + 1 := by omega
      clear kn3 oo3
      go_wp2_with fail
      refine bodyPost_ret (v := .tuple #[.agg #[.string nm, .int .i64 ar, .slice Ao rs.length co], .bool false]) (by simp [results, Try.results99, go_sem, *]) rfl (TabBool.of hf.out ?_ ?_)
      · refine OwnR.down (lo := w0.heap.size) (OwnR.wide (hi := w1.heap.size) ?_ (by simp; omega)) (by omega)
        repeat refine OwnR.setLow ?_ (by omega)
        exact HO.out
      · repeat first | exact hbel.out | (refine Below.setCell ?_ ?_ _; rotate_left; (simp; try omega))
    | true =>
      rw [hw] at KR
      by_cases hm : r ∈ rs
      · have hno : Hid (insB nm ar rs r = false) := by show _ = _; rw [insB, hv, hw, decide_eq_true hm]; rfl
        have hm2 := idxR_iff.2 hm
        obtain ⟨y, hy⟩ : ∃ y, y = idxR rs r := ⟨_, rfl⟩
        rw [← hy] at KI hm2
        have q1 : decide (0 ≤ y) = true := decide_eq_true hm2
        clear hv hw hm hy hm2 
        refine (KV.out _ kn2.bel).mono ?_
        rintro e w3 ⟨rfl, b3⟩
        have s3 := b3.size
        have oo3 := oo2.below b3 (by omega)
        have kn3 := kn2.next b3
        clear kn2 b3 oo2 d0 d1 d2 d3 d4 d5 d6 d7 d8
        obtain ⟨d0, d1, d2, d3, d4, d5, d6, d7, d8, _⟩ := kn3.all
        go_wp2_with fail
        refine (KR.out _ kn3.bel).mono ?_
        rintro e wz ⟨rfl, rfl⟩
        go_wp2_with fail
        refine (KI.out _ kn3.bel).mono ?_
        rintro e w4 ⟨rfl, b4⟩
        have s4 := b4.size
        have oo4 := oo3.below b4 (by omega)
        have kn4 := kn3.next b4
        clear kn3 b4 oo3 d0 d1 d2 d3 d4 d5 d6 d7 d8
        obtain ⟨d0, d1, d2, d3, d4, d5, d6, d7, d8, _⟩ := kn4.all
        have hf : Hid (insR nm ar rs r = ⟨nm, ar, rs, false⟩) := by show _ = _; rw [insR, if_neg (by rw [hno.out]; simp)]
        obtain ⟨f0, f1, f2, f3, f4, f5, f6, f7, f8, _⟩ := kn4.fall
        have hbel := Lib.hid kn4.bel
        have HO := Lib.hid oo4
        have nn : ¬ w1.heap.size = w.heap.size + 1 := by omega
        clear kn4 oo4
        go_wp2_with fail
        refine bodyPost_ret (v := .tuple #[.agg #[.string nm, .int .i64 ar, .slice Ao rs.length co], .bool false]) (by simp [results, Try.results99, go_sem, *]) rfl (TabBool.of hf.out ?_ ?_)
        · refine OwnR.down (lo := w0.heap.size) (OwnR.wide (hi := w1.heap.size) ?_ (by simp; omega)) (by omega)
          repeat refine OwnR.setLow ?_ (by omega)
          exact HO.out
        · repeat first | exact hbel.out | (refine Below.setCell ?_ ?_ _; rotate_left; (simp; try omega))
      · by_cases h8 : rs.length < 8
        rotate_left
        · have hno : Hid (insB nm ar rs r = false) := by show _ = _; rw [insB, hv, hw, decide_eq_false hm, decide_eq_false h8]; rfl
          have hm2 := mt idxR_iff.1 hm
          obtain ⟨y, hy⟩ : ∃ y, y = idxR rs r := ⟨_, rfl⟩
          rw [← hy] at KI hm2
          have q1 : decide (0 ≤ y) = false := decide_eq_false hm2
          have q8 : decide (8 ≤ (n : Int)) = true := by have := HL.out; exact decide_eq_true (by omega)
          clear hv hw hm h8 hy hm2 
          refine (KV.out _ kn2.bel).mono ?_
          rintro e w3 ⟨rfl, b3⟩
          have s3 := b3.size
          have oo3 := oo2.below b3 (by omega)
          have kn3 := kn2.next b3
          clear kn2 b3 oo2 d0 d1 d2 d3 d4 d5 d6 d7 d8
          obtain ⟨d0, d1, d2, d3, d4, d5, d6, d7, d8, _⟩ := kn3.all
          go_wp2_with fail
          refine (KR.out _ kn3.bel).mono ?_
          rintro e wz ⟨rfl, rfl⟩
          go_wp2_with fail
          refine (KI.out _ kn3.bel).mono ?_
          rintro e w4 ⟨rfl, b4⟩
          have s4 := b4.size
          have oo4 := oo3.below b4 (by omega)
          have kn4 := kn3.next b4
          clear kn3 b4 oo3 d0 d1 d2 d3 d4 d5 d6 d7 d8
          obtain ⟨d0, d1, d2, d3, d4, d5, d6, d7, d8, _⟩ := kn4.all
          have hf : Hid (insR nm ar rs r = ⟨nm, ar, rs, false⟩) := by show _ = _; rw [insR, if_neg (by rw [hno.out]; simp)]
          obtain ⟨f0, f1, f2, f3, f4, f5, f6, f7, f8, _⟩ := kn4.fall
          have hbel := Lib.hid kn4.bel
          have HO := Lib.hid oo4
          have nn : ¬ w1.heap.size = w.heap.size + 1 := by omega
          clear kn4 oo4
          go_wp2_with fail
          refine bodyPost_ret (v := .tuple #[.agg #[.string nm, .int .i64 ar, .slice Ao rs.length co], .bool false]) (by simp [results, Try.results99, go_sem, *]) rfl (TabBool.of hf.out ?_ ?_)
          · refine OwnR.down (lo := w0.heap.size) (OwnR.wide (hi := w1.heap.size) ?_ (by simp; omega)) (by omega)
            repeat refine OwnR.setLow ?_ (by omega)
            exact HO.out
          · repeat first | exact hbel.out | (refine Below.setCell ?_ ?_ _; rotate_left; (simp; try omega))
        · have hf : Hid (insR nm ar rs r = ⟨nm, ar, putA r false rs, true⟩) := by show _ = _; rw [insR, if_pos (by rw [insB, hv, hw, decide_eq_false hm, decide_eq_true h8]; rfl)]
          have hm2 := mt idxR_iff.1 hm
          obtain ⟨y, hy⟩ : ∃ y, y = idxR rs r := ⟨_, rfl⟩
          rw [← hy] at KI hm2
          have q1 : decide (0 ≤ y) = false := decide_eq_false hm2
          have q8 : decide (8 ≤ (n : Int)) = false := by have := HL.out; exact decide_eq_false (by omega)
          have hsm := Lib.hid h8
          clear hv hw hm h8 hy hm2 
          refine (KV.out _ kn2.bel).mono ?_
          rintro e w3 ⟨rfl, b3⟩
          have s3 := b3.size
          have oo3 := oo2.below b3 (by omega)
          have kn3 := kn2.next b3
          clear kn2 b3 oo2 d0 d1 d2 d3 d4 d5 d6 d7 d8
          obtain ⟨d0, d1, d2, d3, d4, d5, d6, d7, d8, _⟩ := kn3.all
          go_wp2_with fail
          refine (KR.out _ kn3.bel).mono ?_
          rintro e wz ⟨rfl, rfl⟩
          go_wp2_with fail
          refine (KI.out _ kn3.bel).mono ?_
          rintro e w4 ⟨rfl, b4⟩
          have s4 := b4.size
          have oo4 := oo3.below b4 (by omega)
          have kn4 := kn3.next b4
          clear kn3 b4 oo3 d0 d1 d2 d3 d4 d5 d6 d7 d8
          obtain ⟨d0, d1, d2, d3, d4, d5, d6, d7, d8, _⟩ := kn4.all
          have hl := hr'.1
          subst hl
          obtain ⟨xs, hrow1, hblk, hclose⟩ := oo4.openRd
          have HC := Lib.hid hclose
          have HBK := Lib.hid hblk
          have hrow2 := hrow1.alloc (.cells #[.slice A' r.length c'] 59)
          clear hclose hblk hrow1 oo4
          have h8 := hsm.out
          go_wp2_with (at_builtin; refine wpList_append_lies _ rfl _ _ _ rfl 0 59 i1 _ 1 24 Try.underlying34 hi' hz0' hz1' hz2' rfl (by omega) _ rs.length xs rfl hrow2 ⟨w4.heap.size, 0, none⟩ 1 1 [.slice A' r.length c'] rfl rfl (World.news_of_block (cs := #[.slice A' r.length c']) (t := 59) (fr := (0, 0)) (heap_alloc_new w4 _)) (by simp [Value.oneCell']) (by omega) (by unfold maxLen; omega) (by omega) (Nat.zero_le _) (w4.heap.size + 1) (by simp) ?_; intro g cap w5 hown2 hgrow hat hlt2)
          have hch : Chg w0.heap.size w1.heap.size w4 w5 := by
            have h1 := chgF_of_grown hgrow
            exact ⟨h1.os, h1.tape, h1.output, Nat.le_trans (by simp) h1.size, fun k hk hn => (h1.block k (by simp; omega) fun e => by have := HBK.out k e; omega).trans (heap_alloc_old w4 _ hk)⟩
          have s5 := hch.size
          have kn5 := kn4.chg hch (by omega) (by simp only [List.forall_mem_cons]; simp; try omega)
          have hR := HC.out _ w5 A' r c' g cap ((Below.refl _ _).alloc (Nat.le_refl _) (.cells #[.slice A' r.length c'] 59)) ((hr'.belowB kn5.bel hB).more (Nat.le_trans hB kn5.bel.size)) (by unfold maxLen; omega) hown2 hgrow
          have KP := Lib.hid (sorted_any (some ⟨g, 0, none⟩) (rs.length + 1) cap w5.heap.size (rs ++ [r]) w5 hR (Nat.le_refl _) (by omega) (fun x hx => by
            rcases List.mem_append.1 hx with h | h
            · exact hrow'.out x h
            · rw [List.mem_singleton.1 h]
              omega))
          rw [sortL_snoc hasc.out] at KP
          clear kn4 hown2 hgrow hat hlt2 hR HC HBK hch hrow2 d0 d1 d2 d3 d4 d5 d6 d7 d8
          obtain ⟨d0, d1, d2, d3, d4, d5, d6, d7, d8, _⟩ := kn5.all
          refine KP.out.mono ?_
          rintro e w6 ⟨A6, c6, rfl, oo6, b6⟩
          have s6 := b6.size
          have kn6 := kn5.next b6
          clear kn5 b6 d0 d1 d2 d3 d4 d5 d6 d7 d8
          obtain ⟨d0, d1, d2, d3, d4, d5, d6, d7, d8, _⟩ := kn6.all
          obtain ⟨f0, f1, f2, f3, f4, f5, f6, f7, f8, _⟩ := kn6.fall
          have hbel := Lib.hid kn6.bel
          have HO := Lib.hid oo6
          have nn : ¬ w1.heap.size = w.heap.size + 1 := by omega
          clear kn6 oo6
          generalize putA r false rs = R at hf HO ⊢
          go_wp2_with fail
          refine bodyPost_ret (v := .tuple #[.agg #[.string nm, .int .i64 ar, .slice A6 R.length c6], .bool true]) (by simp [results, Try.results99, go_sem, *]) rfl (TabBool.of hf.out ?_ ?_)
          · refine OwnR.down (lo := w5.heap.size) (OwnR.wide (hi := w6.heap.size) ?_ (by simp)) (by omega)
            repeat refine OwnR.setOff ?_ (by omega)
            exact HO.out
          · repeat first | exact hbel.out | (refine Below.setCell ?_ ?_ _; rotate_left; (simp; try omega))
end Go.Proofs.Ytimlecfneibjlaa
