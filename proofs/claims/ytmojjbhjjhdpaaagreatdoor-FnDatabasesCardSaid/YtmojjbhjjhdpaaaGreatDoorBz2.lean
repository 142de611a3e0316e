/- Ins, EqT, EqTab, NewT, FmtP, NumT, CutT, Dig, TFmtP, Fmt, L4D, Cls, Pow, Strs, TFmt, L4C, Door, Mx, RowsOf, Box3, TPar0, TParI, TabL, TabF, Draw, Draw2, Open, Tb, DbPlain, DbLaw, DbW, IsDbP, DbOpP, DInv, IsDbS, in one text, as far as the seat's program has the functions (printed by tools/fit2.py). -/
import Derived.Test.YtmojjbhjjhdpaaaGreatDoorBz1
import Derived.OwnWalk
import Derived.Outline
import Derived.Lib.ItoaNum
import Derived.Lib.AtoiAll
import Derived.Lib.AtoiTie
import Derived.Lib.Split
import Derived.Lib.SplitLaws
import Derived.Lib.Join
import Derived.Lib.JoinLaws
import Derived.Deep.AppendLies
import Derived.Deep.QuietTactic
import Derived.BigQuiet
import Derived.Test.YtmojjbhjjhdpaaaGreatDoorShelf
import Derived.Lib.AppendIntMem
import Derived.Lib.IndexBytes
import Derived.Test.YtmojjbhjjhdpaaaGreatDoorRows
import Derived.Lib.LaidTab
import Derived.LaidLaws
import Derived.LaidHandle
import Derived.LaidMore
import Derived.MakeChecks
import Derived.Stop.LaidErr
import Derived.SizedLaws
import Derived.Shelf.Vars
import Derived.Deep.RegionHeld3
import Derived.Deep.DeepCutAuto
import Derived.Laws.BitsLemmas
import Derived.Deep.Slices
import Derived.ChangeSame
import Derived.OpenShut
import Derived.ProofKit
namespace Go.Proofs.YtmojjbhjjhdpaaaGreatDoor
section
open Go.RowKit Go.Deep

/-- What InsertRow answers. -/
def insB (nm : ByteArray) (ar : Int) (rs : List (List Int)) (r : List Int) : Bool := validT nm ar rs && (rowB r ar && (!decide (r ∈ rs) && decide (rs.length < 8)))

def insR (nm : ByteArray) (ar : Int) (rs : List (List Int)) (r : List Int) : TabR := if insB nm ar rs r = true then ⟨nm, ar, putA r false rs, true⟩ else ⟨nm, ar, rs, false⟩

theorem insR_small (nm : ByteArray) (ar : Int) (rs : List (List Int)) (r : List Int) (hb : rs.length ≤ 1048576) (hs : sumL rs ≤ 1048576) (hr : r.length ≤ 1048576) : (insR nm ar rs r).rs.length ≤ 1048576 ∧ sumL (insR nm ar rs r).rs ≤ 4294967296 := by
  unfold insR
  by_cases h : insB nm ar rs r = true
  · rw [if_pos h]
    have h8 : rs.length < 8 := by
      unfold insB at h
      simp only [Bool.and_eq_true] at h
      exact of_decide_eq_true h.2.2.2
    have h1 := (putA_len r rs).2
    have h2 := putA_sum r rs
    exact ⟨by show (putA r false rs).length ≤ _; omega, by show sumL (putA r false rs) ≤ _; omega⟩
  · rw [if_neg h]
    exact ⟨hb, by show sumL rs ≤ _; omega⟩

/-- Owned rows, laid open for one header more, of whatever row: how they read then. -/
theorem OwnR.openRd {w : World} {lo hi : Nat} {v : Value} {rs : List (List Int)} (h : OwnR w lo hi v rs) : ∃ xs : List Value, w.ownsRow 0 27 1 v rs.length xs ∧ (∀ g, v.ownBlock = some g → lo ≤ g ∧ g < hi ∧ g < w.heap.size) ∧
    ∀ (w1 w' : World) (A1 : Option Addr) (r : List Int) (c1 g cap : Nat), Below w.heap.size w w1 → RdI w' w'.heap.size A1 r.length r → r.length ≤ maxLen →
      w'.ownsRow 0 27 1 (.slice (some ⟨g, 0, none⟩) (rs.length + 1) cap) (rs.length + 1) (xs ++ [.slice A1 r.length c1]) → w1.grownBy w' v.ownBlock → RdR w' w'.heap.size (some ⟨g, 0, none⟩) (rs.length + 1) (rs ++ [r]) := by
  obtain ⟨F, ⟨ts, rfl, hT⟩, hF⟩ := h
  have hrow := hT.row
  rw [flat_hd hT.len] at hrow
  refine ⟨ts.map hd, by rw [List.length_map]; exact hrow, fun g hg => ⟨(hF g (hT.head g hg).1).1, (hF g (hT.head g hg).1).2, hT.bound g (hT.head g hg).1⟩, fun w1 w' A1 r c1 g cap hb hr hm hown hgrow => ⟨by simp, fun _ => ⟨g, 0, rfl, (hown.lt g rfl).2, fun j a ha => ?_⟩⟩⟩
  have hj : j < (ts.map (·.a)).length + 1 := by have := (List.getElem?_eq_some_iff.1 ha).1; simpa using this
  obtain ⟨g', c', hv, _, _, hc, _⟩ := ownsRow_cell hown (i := j) (by omega)
  injection hv with h1 _ _
  injection h1 with h1
  injection h1 with h1
  subst h1
  rw [List.length_map] at hj
  rcases Nat.lt_or_ge j ts.length with hlt | hge
  · rw [List.getElem?_append_left (by simpa using hlt), List.getElem?_map, List.getElem?_eq_getElem hlt, Option.map_some] at ha
    injection ha with ha
    rw [List.getElem?_append_left (by simpa using hlt), List.getElem?_map, List.getElem?_eq_getElem hlt, Option.map_some] at hc
    have hmem := List.getElem_mem hlt
    have hbd := eRow_ok.bound (hT.elem _ hmem)
    have hE := eRow_ok.keep (w' := w') (hT.elem _ hmem) fun k hf => (hgrow.block k (Nat.lt_of_lt_of_le (hbd k hf) hb.size) fun e => (hT.head k e.symm).2 _ hmem hf).trans (hb.block k (hbd k hf))
    have hR := rRow_of (B := w'.heap.size) hE (fun k hf => eRow_ok.bound hE k hf)
    obtain ⟨A2, c2, e1, e2⟩ := eRow_hd hE
    refine ⟨ts[j].cs, hT.len _ hmem, fun i x hx => ?_, ha ▸ hR⟩
    rw [e2] at hx
    have hi : i = 0 := by
      have := (List.getElem?_eq_some_iff.1 hx).1
      simp at this
      exact this
    subst hi
    simp at hx
    rw [← hx, ← e1, Nat.mul_one, Nat.add_zero, Nat.zero_add]
    exact hc
  · obtain rfl : j = ts.length := by omega
    rw [List.getElem?_append_right (by simp), List.length_map, Nat.sub_self] at ha
    rw [List.getElem?_append_right (by simp), List.length_map, Nat.sub_self] at hc
    simp at ha
    simp at hc
    subst ha
    refine ⟨[.slice A1 r.length c1], rfl, fun i x hx => ?_, ⟨A1, c1, rfl, hr, hm⟩⟩
    have hi : i = 0 := by
      have := (List.getElem?_eq_some_iff.1 hx).1
      simp at this
      exact this
    subst hi
    simp at hx
    rw [← hx, Nat.mul_one, Nat.add_zero, Nat.zero_add]
    exact hc

set_option maxRecDepth 100000 in
set_option maxHeartbeats 4000000 in
theorem spec_InsertRow_any (nm : ByteArray) (ar : Int) (A A' : Option Addr) (n c n' c' B : Nat) (rs : List (List Int)) (r : List Int) (w : World) (hr : RdR w B A n rs) (hr' : RdI w B A' n' r) (hB : B ≤ w.heap.size) (hn : n ≤ 5000000000) (hn' : n' ≤ 17592186044416) (hrow : ∀ r ∈ rs, r.length ≤ 17592186044416) :
    Calls Tryz.prog 8 #[.agg #[.string nm, .int .i64 ar, .slice A n c], .slice A' n' c'] w (TabBool (insR nm ar rs r) w) := by
  obtain ⟨i1, hi', hz0', hz1', hz2'⟩ := info_parts info_row
  have HL := Lib.hid hr.1
  have hrow' := Lib.hid hrow
  clear hrow
  have kn0 : Kn w [(w.heap.size, 0, .string nm), (w.heap.size, 1, .int .i64 ar), (w.heap.size, 2, .slice A n c), (w.heap.size + 1, 0, .string { data := #[] }), (w.heap.size + 1, 1, .int .i64 0), (w.heap.size + 1, 2, .slice none 0 0)]
      ((w.alloc (.cells #[.string nm, .int .i64 ar, .slice A n c] 26)).alloc (.cells #[.string { data := #[] }, .int .i64 0, .slice none 0 0] 26)) := by
    simpa using ((Kn.start w).box3 (.string nm) (.int .i64 ar) (.slice A n c) 26).box3 (.string { data := #[] }) (.int .i64 0) (.slice none 0 0) 26
  go_enter Tryz.func8, Tryz.ntmps8
  go_wp2_with fail
  have s0 : w.heap.size + 2 ≤ ((w.alloc (.cells #[.string nm, .int .i64 ar, .slice A n c] 26)).alloc (.cells #[.string { data := #[] }, .int .i64 0, .slice none 0 0] 26)).heap.size := by simp
  generalize (w.alloc (.cells #[.string nm, .int .i64 ar, .slice A n c] 26)).alloc (.cells #[.string { data := #[] }, .int .i64 0, .slice none 0 0] 26) = w0 at kn0 s0 ⊢
  with_reducible refine (l4Copy_any nm ar A n c B rs w0 (RdR.belowB hr kn0.bel hB) (Nat.le_trans hB kn0.bel.size) hn hrow'.out).mono ?_
  rintro e w1 ⟨Ao, co, rfl, oo, b1⟩
  have s1 := b1.size
  have kn1 := kn0.next b1
  clear kn0 b1
  obtain ⟨d0, d1, d2, d3, d4, d5, _⟩ := kn1.all
  have ne0 : w.heap.size < w1.heap.size := by omega
  have ne1 : w.heap.size + 1 < w1.heap.size := by omega
  go_wp2_with fail
  clear ne0 ne1
  have kn2 : Kn w [(w.heap.size, 0, .string nm), (w.heap.size, 1, .int .i64 ar), (w.heap.size, 2, .slice A n c), (w.heap.size + 1, 0, .string { data := #[] }), (w.heap.size + 1, 1, .int .i64 0), (w.heap.size + 1, 2, .slice none 0 0), (w1.heap.size, 0, .string nm), (w1.heap.size, 1, .int .i64 ar), (w1.heap.size, 2, .slice Ao rs.length co)]
      (w1.alloc (.cells #[.string nm, .int .i64 ar, .slice Ao rs.length co] 26)) := kn1.box3 (.string nm) (.int .i64 ar) (.slice Ao rs.length co) 26
  have s2 : w1.heap.size + 1 ≤ (w1.alloc (.cells #[.string nm, .int .i64 ar, .slice Ao rs.length co] 26)).heap.size := by simp
  have oo2 := oo.below ((Below.refl _ _).alloc (Nat.le_refl _) (.cells #[.string nm, .int .i64 ar, .slice Ao rs.length co] 26)) (Nat.le_refl _)
  clear oo kn1 d0 d1 d2 d3 d4 d5
  generalize w1.alloc (.cells #[.string nm, .int .i64 ar, .slice Ao rs.length co] 26) = w2 at kn2 s2 oo2 ⊢
  have KV : Hid (∀ W, Below w.heap.size w W → Calls Tryz.prog 12 #[.agg #[.string nm, .int .i64 ar, .slice A n c]] W fun e w' => e = .returned (.bool (validT nm ar rs)) ∧ Below W.heap.size W w') := fun W b => spec_IsValidTable_any nm ar A n c B rs W (RdR.belowB hr b hB) (Nat.le_trans hB b.size) (by omega)
  have KR : Hid (∀ W, Below w.heap.size w W → Calls Tryz.prog 40 #[.slice A' n' c', .int .i64 ar] W fun e w' => e = .returned (.bool (rowB r ar)) ∧ W = w') := fun W b => l4Row_any A' n' c' r ar W ((hr'.belowB b hB).more (Nat.le_trans hB b.size)) (by omega)
  obtain ⟨d0, d1, d2, d3, d4, d5, d6, d7, d8, _⟩ := kn2.all
  have KI : Hid (∀ W, Below w.heap.size w W → Calls Tryz.prog 41 #[.agg #[.string nm, .int .i64 ar, .slice A n c], .slice A' n' c'] W fun e w' => e = .returned (.bool (contB nm ar rs r)) ∧ Below W.heap.size W w') := fun W b => spec_ContainsRow_any nm ar A A' n c n' c' B rs r W (RdR.belowB hr b hB) (hr'.belowB b hB) (Nat.le_trans hB b.size) (by omega) (by omega)
  cases hv : validT nm ar rs with
  | false =>
    have hno : Hid (insB nm ar rs r = false) := by show _ = _; rw [insB, hv]; rfl
    rw [hv] at KV
    clear hv KR KI
    refine (KV.out _ kn2.bel).mono ?_
    rintro e w3 ⟨rfl, b3⟩
    have s3 := b3.size
    have oo3 := oo2.below b3 (by omega)
    have kn3 := kn2.next b3
    clear kn2 b3 oo2 d0 d1 d2 d3 d4 d5 d6 d7 d8
    obtain ⟨d0, d1, d2, d3, d4, d5, d6, d7, d8, _⟩ := kn3.all
    have hf : Hid (insR nm ar rs r = ⟨nm, ar, rs, false⟩) := by show _ = _; rw [insR, if_neg (by rw [hno.out]; simp)]
    obtain ⟨f0, f1, f2, f3, f4, f5, f6, f7, f8, _⟩ := kn3.fall
    have hbel := Lib.hid kn3.bel
    have HO := Lib.hid oo3
    have nn : ¬ w1.heap.size = w.heap.size + 1 := by omega
    clear kn3 oo3
    go_wp2_with fail
    refine bodyPost_ret (v := .tuple #[.agg #[.string nm, .int .i64 ar, .slice Ao rs.length co], .bool false]) (by simp [results, Tryz.results8, go_sem, *]) rfl (TabBool.of hf.out ?_ ?_)
    · refine OwnR.down (lo := w0.heap.size) (OwnR.wide (hi := w1.heap.size) ?_ (by simp; omega)) (by omega)
      repeat refine OwnR.setLow ?_ (by omega)
      exact HO.out
    · repeat first | exact hbel.out | (refine Below.setCell ?_ ?_ _; rotate_left; (simp; try omega))
  | true =>
    have hasc := Lib.hid (validT_asc hv)
    rw [hv] at KV
    cases hw : rowB r ar with
    | false =>
      have hno : Hid (insB nm ar rs r = false) := by show _ = _; rw [insB, hv, hw]; rfl
      rw [hw] at KR
      clear hv hw KI
      refine (KV.out _ kn2.bel).mono ?_
      rintro e w3 ⟨rfl, b3⟩
      have s3 := b3.size
      have oo3 := oo2.below b3 (by omega)
      have kn3 := kn2.next b3
      clear kn2 b3 oo2 d0 d1 d2 d3 d4 d5 d6 d7 d8
      obtain ⟨d0, d1, d2, d3, d4, d5, d6, d7, d8, _⟩ := kn3.all
      go_wp2_with fail
      refine (KR.out _ kn3.bel).mono ?_
      rintro e wz ⟨rfl, rfl⟩
      have hf : Hid (insR nm ar rs r = ⟨nm, ar, rs, false⟩) := by show _ = _; rw [insR, if_neg (by rw [hno.out]; simp)]
      obtain ⟨f0, f1, f2, f3, f4, f5, f6, f7, f8, _⟩ := kn3.fall
      have hbel := Lib.hid kn3.bel
      have HO := Lib.hid oo3
      have nn : ¬ w1.heap.size = w.heap.size + 1 := by omega
      clear kn3 oo3
      go_wp2_with fail
      refine bodyPost_ret (v := .tuple #[.agg #[.string nm, .int .i64 ar, .slice Ao rs.length co], .bool false]) (by simp [results, Tryz.results8, go_sem, *]) rfl (TabBool.of hf.out ?_ ?_)
      · refine OwnR.down (lo := w0.heap.size) (OwnR.wide (hi := w1.heap.size) ?_ (by simp; omega)) (by omega)
        repeat refine OwnR.setLow ?_ (by omega)
        exact HO.out
      · repeat first | exact hbel.out | (refine Below.setCell ?_ ?_ _; rotate_left; (simp; try omega))
    | true =>
      rw [hw] at KR
      by_cases hm : r ∈ rs
      · have hno : Hid (insB nm ar rs r = false) := by show _ = _; rw [insB, hv, hw, decide_eq_true hm]; rfl
        rw [show contB nm ar rs r = true by rw [contB, hv, decide_eq_true hm]; rfl] at KI
        clear hv hw hm 
        refine (KV.out _ kn2.bel).mono ?_
        rintro e w3 ⟨rfl, b3⟩
        have s3 := b3.size
        have oo3 := oo2.below b3 (by omega)
        have kn3 := kn2.next b3
        clear kn2 b3 oo2 d0 d1 d2 d3 d4 d5 d6 d7 d8
        obtain ⟨d0, d1, d2, d3, d4, d5, d6, d7, d8, _⟩ := kn3.all
        go_wp2_with fail
        refine (KR.out _ kn3.bel).mono ?_
        rintro e wz ⟨rfl, rfl⟩
        go_wp2_with fail
        refine (KI.out _ kn3.bel).mono ?_
        rintro e w4 ⟨rfl, b4⟩
        have s4 := b4.size
        have oo4 := oo3.below b4 (by omega)
        have kn4 := kn3.next b4
        clear kn3 b4 oo3 d0 d1 d2 d3 d4 d5 d6 d7 d8
        obtain ⟨d0, d1, d2, d3, d4, d5, d6, d7, d8, _⟩ := kn4.all
        have hf : Hid (insR nm ar rs r = ⟨nm, ar, rs, false⟩) := by show _ = _; rw [insR, if_neg (by rw [hno.out]; simp)]
        obtain ⟨f0, f1, f2, f3, f4, f5, f6, f7, f8, _⟩ := kn4.fall
        have hbel := Lib.hid kn4.bel
        have HO := Lib.hid oo4
        have nn : ¬ w1.heap.size = w.heap.size + 1 := by omega
        clear kn4 oo4
        go_wp2_with fail
        refine bodyPost_ret (v := .tuple #[.agg #[.string nm, .int .i64 ar, .slice Ao rs.length co], .bool false]) (by simp [results, Tryz.results8, go_sem, *]) rfl (TabBool.of hf.out ?_ ?_)
        · refine OwnR.down (lo := w0.heap.size) (OwnR.wide (hi := w1.heap.size) ?_ (by simp; omega)) (by omega)
          repeat refine OwnR.setLow ?_ (by omega)
          exact HO.out
        · repeat first | exact hbel.out | (refine Below.setCell ?_ ?_ _; rotate_left; (simp; try omega))
      · by_cases h8 : rs.length < 8
        rotate_left
        · have hno : Hid (insB nm ar rs r = false) := by show _ = _; rw [insB, hv, hw, decide_eq_false hm, decide_eq_false h8]; rfl
          rw [show contB nm ar rs r = false by rw [contB, hv, decide_eq_false hm]; rfl] at KI
          have hn8 : n = 8 := by
            have h := HL.out
            have : ¬ 8 < rs.length := fun h => by rw [validT_long h] at hv; cases hv
            omega
          have q8 : ((n : Int) == 8) = true := by simp [hn8]
          clear hn8
          clear hv hw hm h8 
          refine (KV.out _ kn2.bel).mono ?_
          rintro e w3 ⟨rfl, b3⟩
          have s3 := b3.size
          have oo3 := oo2.below b3 (by omega)
          have kn3 := kn2.next b3
          clear kn2 b3 oo2 d0 d1 d2 d3 d4 d5 d6 d7 d8
          obtain ⟨d0, d1, d2, d3, d4, d5, d6, d7, d8, _⟩ := kn3.all
          go_wp2_with fail
          refine (KR.out _ kn3.bel).mono ?_
          rintro e wz ⟨rfl, rfl⟩
          go_wp2_with fail
          refine (KI.out _ kn3.bel).mono ?_
          rintro e w4 ⟨rfl, b4⟩
          have s4 := b4.size
          have oo4 := oo3.below b4 (by omega)
          have kn4 := kn3.next b4
          clear kn3 b4 oo3 d0 d1 d2 d3 d4 d5 d6 d7 d8
          obtain ⟨d0, d1, d2, d3, d4, d5, d6, d7, d8, _⟩ := kn4.all
          have hf : Hid (insR nm ar rs r = ⟨nm, ar, rs, false⟩) := by show _ = _; rw [insR, if_neg (by rw [hno.out]; simp)]
          obtain ⟨f0, f1, f2, f3, f4, f5, f6, f7, f8, _⟩ := kn4.fall
          have hbel := Lib.hid kn4.bel
          have HO := Lib.hid oo4
          have nn : ¬ w1.heap.size = w.heap.size + 1 := by omega
          clear kn4 oo4
          go_wp2_with fail
          refine bodyPost_ret (v := .tuple #[.agg #[.string nm, .int .i64 ar, .slice Ao rs.length co], .bool false]) (by simp [results, Tryz.results8, go_sem, *]) rfl (TabBool.of hf.out ?_ ?_)
          · refine OwnR.down (lo := w0.heap.size) (OwnR.wide (hi := w1.heap.size) ?_ (by simp; omega)) (by omega)
            repeat refine OwnR.setLow ?_ (by omega)
            exact HO.out
          · repeat first | exact hbel.out | (refine Below.setCell ?_ ?_ _; rotate_left; (simp; try omega))
        · have hf : Hid (insR nm ar rs r = ⟨nm, ar, putA r false rs, true⟩) := by show _ = _; rw [insR, if_pos (by rw [insB, hv, hw, decide_eq_false hm, decide_eq_true h8]; rfl)]
          rw [show contB nm ar rs r = false by rw [contB, hv, decide_eq_false hm]; rfl] at KI
          have q8 : ((n : Int) == 8) = false := by have := HL.out; simp; omega
          have hsm := Lib.hid h8
          clear hv hw hm h8 
          refine (KV.out _ kn2.bel).mono ?_
          rintro e w3 ⟨rfl, b3⟩
          have s3 := b3.size
          have oo3 := oo2.below b3 (by omega)
          have kn3 := kn2.next b3
          clear kn2 b3 oo2 d0 d1 d2 d3 d4 d5 d6 d7 d8
          obtain ⟨d0, d1, d2, d3, d4, d5, d6, d7, d8, _⟩ := kn3.all
          go_wp2_with fail
          refine (KR.out _ kn3.bel).mono ?_
          rintro e wz ⟨rfl, rfl⟩
          go_wp2_with fail
          refine (KI.out _ kn3.bel).mono ?_
          rintro e w4 ⟨rfl, b4⟩
          have s4 := b4.size
          have oo4 := oo3.below b4 (by omega)
          have kn4 := kn3.next b4
          clear kn3 b4 oo3 d0 d1 d2 d3 d4 d5 d6 d7 d8
          obtain ⟨d0, d1, d2, d3, d4, d5, d6, d7, d8, _⟩ := kn4.all
          have KP := Lib.hid (l4Put_any Ao A' rs.length co n' c' w4.heap.size rs r w4 ((oo4.rd rfl).more (by omega)) ((hr'.belowB kn4.bel hB).more (Nat.le_trans hB kn4.bel.size)) (Nat.le_refl _) (by have := hsm.out; omega) hn' hrow'.out)
          go_wp2_with fail
          refine KP.out.mono ?_
          rintro e w5 ⟨A5, c5, rfl, oo5, b5⟩
          have s5 := b5.size
          have kn5 := kn4.next b5
          clear kn4 b5 oo4 d0 d1 d2 d3 d4 d5 d6 d7 d8
          obtain ⟨d0, d1, d2, d3, d4, d5, d6, d7, d8, _⟩ := kn5.all
          obtain ⟨f0, f1, f2, f3, f4, f5, f6, f7, f8, _⟩ := kn5.fall
          have hbel := Lib.hid kn5.bel
          have HO := Lib.hid oo5
          have nn : ¬ w1.heap.size = w.heap.size + 1 := by omega
          clear kn5 oo5
          generalize putA r false rs = R at hf HO ⊢
          go_wp2_with fail
          refine bodyPost_ret (v := .tuple #[.agg #[.string nm, .int .i64 ar, .slice A5 R.length c5], .bool true]) (by simp [results, Tryz.results8, go_sem, *]) rfl (TabBool.of hf.out ?_ ?_)
          · refine OwnR.down (lo := w4.heap.size) (OwnR.wide (hi := w5.heap.size) ?_ (by simp)) (by omega)
            repeat refine OwnR.setOff ?_ (by omega)
            exact HO.out
          · repeat first | exact hbel.out | (refine Below.setCell ?_ ?_ _; rotate_left; (simp; try omega))

set_option maxRecDepth 100000 in
set_option maxHeartbeats 4000000 in
theorem impl_InsertRow_any (nm : ByteArray) (ar : Int) (A A' : Option Addr) (n c n' c' B : Nat) (rs : List (List Int)) (r : List Int) (w : World) (hr : RdR w B A n rs) (hr' : RdI w B A' n' r) (hB : B ≤ w.heap.size) (hn : n ≤ 5000000000) (hn' : n' ≤ 17592186044416) (hrow : ∀ r ∈ rs, r.length ≤ 17592186044416) :
    Calls Tryz.prog 7 #[.agg #[.string nm, .int .i64 ar, .slice A n c], .slice A' n' c'] w (TabBool (insR nm ar rs r) w) := by
  obtain ⟨i1, hi', hz0', hz1', hz2'⟩ := info_parts info_row
  have HL := Lib.hid hr.1
  have hrow' := Lib.hid hrow
  clear hrow
  have kn0 : Kn w [(w.heap.size, 0, .string nm), (w.heap.size, 1, .int .i64 ar), (w.heap.size, 2, .slice A n c), (w.heap.size + 1, 0, .string { data := #[] }), (w.heap.size + 1, 1, .int .i64 0), (w.heap.size + 1, 2, .slice none 0 0)]
      ((w.alloc (.cells #[.string nm, .int .i64 ar, .slice A n c] 26)).alloc (.cells #[.string { data := #[] }, .int .i64 0, .slice none 0 0] 26)) := by
    simpa using ((Kn.start w).box3 (.string nm) (.int .i64 ar) (.slice A n c) 26).box3 (.string { data := #[] }) (.int .i64 0) (.slice none 0 0) 26
  go_enter Tryz.func7, Tryz.ntmps7
  go_wp2_with fail
  have s0 : w.heap.size + 2 ≤ ((w.alloc (.cells #[.string nm, .int .i64 ar, .slice A n c] 26)).alloc (.cells #[.string { data := #[] }, .int .i64 0, .slice none 0 0] 26)).heap.size := by simp
  generalize (w.alloc (.cells #[.string nm, .int .i64 ar, .slice A n c] 26)).alloc (.cells #[.string { data := #[] }, .int .i64 0, .slice none 0 0] 26) = w0 at kn0 s0 ⊢
  with_reducible refine (copyTable_any nm ar A n c B rs w0 (RdR.belowB hr kn0.bel hB) (Nat.le_trans hB kn0.bel.size) hn hrow'.out).mono ?_
  rintro e w1 ⟨Ao, co, rfl, oo, b1⟩
  have s1 := b1.size
  have kn1 := kn0.next b1
  clear kn0 b1
  obtain ⟨d0, d1, d2, d3, d4, d5, _⟩ := kn1.all
  have ne0 : w.heap.size < w1.heap.size := by omega
  have ne1 : w.heap.size + 1 < w1.heap.size := by omega
  go_wp2_with fail
  clear ne0 ne1
  have kn2 : Kn w [(w.heap.size, 0, .string nm), (w.heap.size, 1, .int .i64 ar), (w.heap.size, 2, .slice A n c), (w.heap.size + 1, 0, .string { data := #[] }), (w.heap.size + 1, 1, .int .i64 0), (w.heap.size + 1, 2, .slice none 0 0), (w1.heap.size, 0, .string nm), (w1.heap.size, 1, .int .i64 ar), (w1.heap.size, 2, .slice Ao rs.length co)]
      (w1.alloc (.cells #[.string nm, .int .i64 ar, .slice Ao rs.length co] 26)) := kn1.box3 (.string nm) (.int .i64 ar) (.slice Ao rs.length co) 26
  have s2 : w1.heap.size + 1 ≤ (w1.alloc (.cells #[.string nm, .int .i64 ar, .slice Ao rs.length co] 26)).heap.size := by simp
  have oo2 := oo.below ((Below.refl _ _).alloc (Nat.le_refl _) (.cells #[.string nm, .int .i64 ar, .slice Ao rs.length co] 26)) (Nat.le_refl _)
  clear oo kn1 d0 d1 d2 d3 d4 d5
  generalize w1.alloc (.cells #[.string nm, .int .i64 ar, .slice Ao rs.length co] 26) = w2 at kn2 s2 oo2 ⊢
  have KV : Hid (∀ W, Below w.heap.size w W → Calls Tryz.prog 16 #[.agg #[.string nm, .int .i64 ar, .slice A n c]] W fun e w' => e = .returned (.bool (validT nm ar rs)) ∧ Below W.heap.size W w') := fun W b => impl_IsValidTable_any nm ar A n c B rs W (RdR.belowB hr b hB) (Nat.le_trans hB b.size) (by omega)
  have KR : Hid (∀ W, Below w.heap.size w W → Calls Tryz.prog 36 #[.slice A' n' c', .int .i64 ar] W fun e w' => e = .returned (.bool (rowB r ar)) ∧ W = w') := fun W b => rowOk_any A' n' c' r ar W ((hr'.belowB b hB).more (Nat.le_trans hB b.size)) (by omega)
  obtain ⟨d0, d1, d2, d3, d4, d5, d6, d7, d8, _⟩ := kn2.all
  have KI : Hid (∀ W, Below w.heap.size w W → Calls Tryz.prog 37 #[.agg #[.string nm, .int .i64 ar, .slice A n c], .slice A' n' c'] W fun e w' => e = .returned (.int .i64 (idxR rs r)) ∧ Below W.heap.size W w') := fun W b => rowIndex_any nm ar A A' n c n' c' B rs r W (RdR.belowB hr b hB) (hr'.belowB b hB) (Nat.le_trans hB b.size) (by omega) (by omega)
  cases hv : validT nm ar rs with
  | false =>
    have hno : Hid (insB nm ar rs r = false) := by show _ = _; rw [insB, hv]; rfl
    rw [hv] at KV
    clear hv KR KI
    refine (KV.out _ kn2.bel).mono ?_
    rintro e w3 ⟨rfl, b3⟩
    have s3 := b3.size
    have oo3 := oo2.below b3 (by omega)
    have kn3 := kn2.next b3
    clear kn2 b3 oo2 d0 d1 d2 d3 d4 d5 d6 d7 d8
    obtain ⟨d0, d1, d2, d3, d4, d5, d6, d7, d8, _⟩ := kn3.all
    have hf : Hid (insR nm ar rs r = ⟨nm, ar, rs, false⟩) := by show _ = _; rw [insR, if_neg (by rw [hno.out]; simp)]
    obtain ⟨f0, f1, f2, f3, f4, f5, f6, f7, f8, _⟩ := kn3.fall
    have hbel := Lib.hid kn3.bel
    have HO := Lib.hid oo3
    have nn : ¬ w1.heap.size = w.heap.size + 1 := by omega
    clear kn3 oo3
    go_wp2_with fail
    refine bodyPost_ret (v := .tuple #[.agg #[.string nm, .int .i64 ar, .slice Ao rs.length co], .bool false]) (by simp [results, Tryz.results7, go_sem, *]) rfl (TabBool.of hf.out ?_ ?_)
    · refine OwnR.down (lo := w0.heap.size) (OwnR.wide (hi := w1.heap.size) ?_ (by simp; omega)) (by omega)
      repeat refine OwnR.setLow ?_ (by omega)
      exact HO.out
    · repeat first | exact hbel.out | (refine Below.setCell ?_ ?_ _; rotate_left; (simp; try omega))
  | true =>
    have hasc := Lib.hid (validT_asc hv)
    rw [hv] at KV
    cases hw : rowB r ar with
    | false =>
      have hno : Hid (insB nm ar rs r = false) := by show _ = _; rw [insB, hv, hw]; rfl
      rw [hw] at KR
      clear hv hw KI
      refine (KV.out _ kn2.bel).mono ?_
      rintro e w3 ⟨rfl, b3⟩
      have s3 := b3.size
      have oo3 := oo2.below b3 (by omega)
      have kn3 := kn2.next b3
      clear kn2 b3 oo2 d0 d1 d2 d3 d4 d5 d6 d7 d8
      obtain ⟨d0, d1, d2, d3, d4, d5, d6, d7, d8, _⟩ := kn3.all
      go_wp2_with fail
      refine (KR.out _ kn3.bel).mono ?_
      rintro e wz ⟨rfl, rfl⟩
      have hf : Hid (insR nm ar rs r = ⟨nm, ar, rs, false⟩) := by show _ = _; rw [insR, if_neg (by rw [hno.out]; simp)]
      obtain ⟨f0, f1, f2, f3, f4, f5, f6, f7, f8, _⟩ := kn3.fall
      have hbel := Lib.hid kn3.bel
      have HO := Lib.hid oo3
      have nn : ¬ w1.heap.size = w.heap.size + 1 := by omega
      clear kn3 oo3
      go_wp2_with fail
      refine bodyPost_ret (v := .tuple #[.agg #[.string nm, .int .i64 ar, .slice Ao rs.length co], .bool false]) (by simp [results, Tryz.results7, go_sem, *]) rfl (TabBool.of hf.out ?_ ?_)
      · refine OwnR.down (lo := w0.heap.size) (OwnR.wide (hi := w1.heap.size) ?_ (by simp; omega)) (by omega)
        repeat refine OwnR.setLow ?_ (by omega)
        exact HO.out
      · repeat first | exact hbel.out | (refine Below.setCell ?_ ?_ _; rotate_left; (simp; try omega))
    | true =>
      rw [hw] at KR
      by_cases hm : r ∈ rs
      · have hno : Hid (insB nm ar rs r = false) := by show _ = _; rw [insB, hv, hw, decide_eq_true hm]; rfl
        have hm2 := idxR_iff.2 hm
        obtain ⟨y, hy⟩ : ∃ y, y = idxR rs r := ⟨_, rfl⟩
        rw [← hy] at KI hm2
        have q1 : decide (0 ≤ y) = true := decide_eq_true hm2
        clear hv hw hm hy hm2 
        refine (KV.out _ kn2.bel).mono ?_
        rintro e w3 ⟨rfl, b3⟩
        have s3 := b3.size
        have oo3 := oo2.below b3 (by omega)
        have kn3 := kn2.next b3
        clear kn2 b3 oo2 d0 d1 d2 d3 d4 d5 d6 d7 d8
        obtain ⟨d0, d1, d2, d3, d4, d5, d6, d7, d8, _⟩ := kn3.all
        go_wp2_with fail
        refine (KR.out _ kn3.bel).mono ?_
        rintro e wz ⟨rfl, rfl⟩
        go_wp2_with fail
        refine (KI.out _ kn3.bel).mono ?_
        rintro e w4 ⟨rfl, b4⟩
        have s4 := b4.size
        have oo4 := oo3.below b4 (by omega)
        have kn4 := kn3.next b4
        clear kn3 b4 oo3 d0 d1 d2 d3 d4 d5 d6 d7 d8
        obtain ⟨d0, d1, d2, d3, d4, d5, d6, d7, d8, _⟩ := kn4.all
        have hf : Hid (insR nm ar rs r = ⟨nm, ar, rs, false⟩) := by show _ = _; rw [insR, if_neg (by rw [hno.out]; simp)]
        obtain ⟨f0, f1, f2, f3, f4, f5, f6, f7, f8, _⟩ := kn4.fall
        have hbel := Lib.hid kn4.bel
        have HO := Lib.hid oo4
        have nn : ¬ w1.heap.size = w.heap.size + 1 := by omega
        clear kn4 oo4
        go_wp2_with fail
        refine bodyPost_ret (v := .tuple #[.agg #[.string nm, .int .i64 ar, .slice Ao rs.length co], .bool false]) (by simp [results, Tryz.results7, go_sem, *]) rfl (TabBool.of hf.out ?_ ?_)
        · refine OwnR.down (lo := w0.heap.size) (OwnR.wide (hi := w1.heap.size) ?_ (by simp; omega)) (by omega)
          repeat refine OwnR.setLow ?_ (by omega)
          exact HO.out
        · repeat first | exact hbel.out | (refine Below.setCell ?_ ?_ _; rotate_left; (simp; try omega))
      · by_cases h8 : rs.length < 8
        rotate_left
        · have hno : Hid (insB nm ar rs r = false) := by show _ = _; rw [insB, hv, hw, decide_eq_false hm, decide_eq_false h8]; rfl
          have hm2 := mt idxR_iff.1 hm
          obtain ⟨y, hy⟩ : ∃ y, y = idxR rs r := ⟨_, rfl⟩
          rw [← hy] at KI hm2
          have q1 : decide (0 ≤ y) = false := decide_eq_false hm2
          have q8 : decide (8 ≤ (n : Int)) = true := by have := HL.out; exact decide_eq_true (by omega)
          clear hv hw hm h8 hy hm2 
          refine (KV.out _ kn2.bel).mono ?_
          rintro e w3 ⟨rfl, b3⟩
          have s3 := b3.size
          have oo3 := oo2.below b3 (by omega)
          have kn3 := kn2.next b3
          clear kn2 b3 oo2 d0 d1 d2 d3 d4 d5 d6 d7 d8
          obtain ⟨d0, d1, d2, d3, d4, d5, d6, d7, d8, _⟩ := kn3.all
          go_wp2_with fail
          refine (KR.out _ kn3.bel).mono ?_
          rintro e wz ⟨rfl, rfl⟩
          go_wp2_with fail
          refine (KI.out _ kn3.bel).mono ?_
          rintro e w4 ⟨rfl, b4⟩
          have s4 := b4.size
          have oo4 := oo3.below b4 (by omega)
          have kn4 := kn3.next b4
          clear kn3 b4 oo3 d0 d1 d2 d3 d4 d5 d6 d7 d8
          obtain ⟨d0, d1, d2, d3, d4, d5, d6, d7, d8, _⟩ := kn4.all
          have hf : Hid (insR nm ar rs r = ⟨nm, ar, rs, false⟩) := by show _ = _; rw [insR, if_neg (by rw [hno.out]; simp)]
          obtain ⟨f0, f1, f2, f3, f4, f5, f6, f7, f8, _⟩ := kn4.fall
          have hbel := Lib.hid kn4.bel
          have HO := Lib.hid oo4
          have nn : ¬ w1.heap.size = w.heap.size + 1 := by omega
          clear kn4 oo4
          go_wp2_with fail
          refine bodyPost_ret (v := .tuple #[.agg #[.string nm, .int .i64 ar, .slice Ao rs.length co], .bool false]) (by simp [results, Tryz.results7, go_sem, *]) rfl (TabBool.of hf.out ?_ ?_)
          · refine OwnR.down (lo := w0.heap.size) (OwnR.wide (hi := w1.heap.size) ?_ (by simp; omega)) (by omega)
            repeat refine OwnR.setLow ?_ (by omega)
            exact HO.out
          · repeat first | exact hbel.out | (refine Below.setCell ?_ ?_ _; rotate_left; (simp; try omega))
        · have hf : Hid (insR nm ar rs r = ⟨nm, ar, putA r false rs, true⟩) := by show _ = _; rw [insR, if_pos (by rw [insB, hv, hw, decide_eq_false hm, decide_eq_true h8]; rfl)]
          have hm2 := mt idxR_iff.1 hm
          obtain ⟨y, hy⟩ : ∃ y, y = idxR rs r := ⟨_, rfl⟩
          rw [← hy] at KI hm2
          have q1 : decide (0 ≤ y) = false := decide_eq_false hm2
          have q8 : decide (8 ≤ (n : Int)) = false := by have := HL.out; exact decide_eq_false (by omega)
          have hsm := Lib.hid h8
          clear hv hw hm h8 hy hm2 
          refine (KV.out _ kn2.bel).mono ?_
          rintro e w3 ⟨rfl, b3⟩
          have s3 := b3.size
          have oo3 := oo2.below b3 (by omega)
          have kn3 := kn2.next b3
          clear kn2 b3 oo2 d0 d1 d2 d3 d4 d5 d6 d7 d8
          obtain ⟨d0, d1, d2, d3, d4, d5, d6, d7, d8, _⟩ := kn3.all
          go_wp2_with fail
          refine (KR.out _ kn3.bel).mono ?_
          rintro e wz ⟨rfl, rfl⟩
          go_wp2_with fail
          refine (KI.out _ kn3.bel).mono ?_
          rintro e w4 ⟨rfl, b4⟩
          have s4 := b4.size
          have oo4 := oo3.below b4 (by omega)
          have kn4 := kn3.next b4
          clear kn3 b4 oo3 d0 d1 d2 d3 d4 d5 d6 d7 d8
          obtain ⟨d0, d1, d2, d3, d4, d5, d6, d7, d8, _⟩ := kn4.all
          have hl := hr'.1
          subst hl
          obtain ⟨xs, hrow1, hblk, hclose⟩ := oo4.openRd
          have HC := Lib.hid hclose
          have HBK := Lib.hid hblk
          have hrow2 := hrow1.alloc (.cells #[.slice A' r.length c'] 27)
          clear hclose hblk hrow1 oo4
          have h8 := hsm.out
          go_wp2_with (at_builtin; refine wpList_append_lies _ rfl _ _ _ rfl 0 27 i1 _ 1 24 Tryz.underlying24 hi' hz0' hz1' hz2' rfl (by omega) _ rs.length xs rfl hrow2 ⟨w4.heap.size, 0, none⟩ 1 1 [.slice A' r.length c'] rfl rfl (World.news_of_block (cs := #[.slice A' r.length c']) (t := 27) (fr := (0, 0)) (heap_alloc_new w4 _)) (by simp [Value.oneCell']) (by omega) (by unfold maxLen; omega) (by omega) (Nat.zero_le _) (w4.heap.size + 1) (by simp) ?_; intro g cap w5 hown2 hgrow hat hlt2)
          have hch : Chg w0.heap.size w1.heap.size w4 w5 := by
            have h1 := chgF_of_grown hgrow
            exact ⟨h1.os, h1.tape, h1.output, Nat.le_trans (by simp) h1.size, fun k hk hn => (h1.block k (by simp; omega) fun e => by have := HBK.out k e; omega).trans (heap_alloc_old w4 _ hk)⟩
          have s5 := hch.size
          have kn5 := kn4.chg hch (by omega) (by simp only [List.forall_mem_cons]; simp; try omega)
          have hR := HC.out _ w5 A' r c' g cap ((Below.refl _ _).alloc (Nat.le_refl _) (.cells #[.slice A' r.length c'] 27)) ((hr'.belowB kn5.bel hB).more (Nat.le_trans hB kn5.bel.size)) (by unfold maxLen; omega) hown2 hgrow
          have KP := Lib.hid (sorted_any (some ⟨g, 0, none⟩) (rs.length + 1) cap w5.heap.size (rs ++ [r]) w5 hR (Nat.le_refl _) (by omega) (fun x hx => by
            rcases List.mem_append.1 hx with h | h
            · exact hrow'.out x h
            · rw [List.mem_singleton.1 h]
              omega))
          rw [sortL_snoc hasc.out] at KP
          clear kn4 hown2 hgrow hat hlt2 hR HC HBK hch hrow2 d0 d1 d2 d3 d4 d5 d6 d7 d8
          obtain ⟨d0, d1, d2, d3, d4, d5, d6, d7, d8, _⟩ := kn5.all
          refine KP.out.mono ?_
          rintro e w6 ⟨A6, c6, rfl, oo6, b6⟩
          have s6 := b6.size
          have kn6 := kn5.next b6
          clear kn5 b6 d0 d1 d2 d3 d4 d5 d6 d7 d8
          obtain ⟨d0, d1, d2, d3, d4, d5, d6, d7, d8, _⟩ := kn6.all
          obtain ⟨f0, f1, f2, f3, f4, f5, f6, f7, f8, _⟩ := kn6.fall
          have hbel := Lib.hid kn6.bel
          have HO := Lib.hid oo6
          have nn : ¬ w1.heap.size = w.heap.size + 1 := by omega
          clear kn6 oo6
          generalize putA r false rs = R at hf HO ⊢
          go_wp2_with fail
          refine bodyPost_ret (v := .tuple #[.agg #[.string nm, .int .i64 ar, .slice A6 R.length c6], .bool true]) (by simp [results, Tryz.results7, go_sem, *]) rfl (TabBool.of hf.out ?_ ?_)
          · refine OwnR.down (lo := w5.heap.size) (OwnR.wide (hi := w6.heap.size) ?_ (by simp)) (by omega)
            repeat refine OwnR.setOff ?_ (by omega)
            exact HO.out
          · repeat first | exact hbel.out | (refine Below.setCell ?_ ?_ _; rotate_left; (simp; try omega))

end

section
open Go.RowKit Go.Deep

theorem equalRows1_q (A A' : Option Addr) (n c n' c' : Nat) (zs zs' : List Int) (w : World) (hr : RdI w w.heap.size A n zs) (hr' : RdI w w.heap.size A' n' zs') (hn : n ≤ 9223372036854775807) (hn' : n' ≤ 9223372036854775807) :
    Calls Tryz.prog 83 #[.slice A n c, .slice A' n' c'] w fun e w' => e = .returned (.bool (decide (zs = zs'))) ∧ Qt w w' := by
  go_enter Tryz.func83, Tryz.ntmps83
  go_wp2_with fail
  refine (slicesEqual_q A A' n c n' c' zs zs' w hr hr' hn hn').mono ?_
  rintro e w' ⟨rfl, hq⟩
  have HQ := Lib.hid hq
  clear hq
  go_wp2_with fail
  go_ret
  exact ⟨rfl, HQ.out⟩

set_option maxRecDepth 100000 in
set_option maxHeartbeats 400000 in
theorem equalFunc_q (A A' : Option Addr) (n c n' c' : Nat) (zs zs' : List (List Int)) (w : World) (hr : RdR w w.heap.size A n zs) (hr' : RdR w w.heap.size A' n' zs') (hn : n ≤ 9223372036854775807) (hn' : n' ≤ 9223372036854775807) :
    Calls Tryz.prog 82 #[.slice A n c, .slice A' n' c', .func (.func 83) #[] #[]] w fun e w' => e = .returned (.bool (decide (zs = zs'))) ∧ Qt w w' := by
  by_cases hne : n = n'
  · subst hne
    go_enter Tryz.func82, Tryz.ntmps82
    go_wp2
    go_loopw [17] (fun i wr => ∃ k : Nat, k ≤ n ∧ i = .int .i64 k ∧ Hid (zs.take k = zs'.take k) ∧ Qt w wr) (fun i _ => n - (intOf i).toNat)
    case atStart => exact ⟨0, by omega, rfl, rfl, Qt.refl _⟩
    case round =>
      obtain ⟨k, hk, rfl, hpre, hbel⟩ := hrel
      by_cases hlt : k < n
      · obtain ⟨b, o, x, A1, c1, rfl, _, hx, hc, hrd, hm⟩ := RdR.at_ hr hlt
        obtain ⟨b', o', x', A2, c2, rfl, _, hx', hc', hrd', hm'⟩ := RdR.at_ hr' hlt
        have hc1 := (hbel.cell (p := ⟨b, o + k, none⟩)).trans hc
        have hc2 := (hbel.cell (p := ⟨b', o' + k, none⟩)).trans hc'
        have HX := Lib.hid hx
        have HX' := Lib.hid hx'
        have KE := Lib.hid (equalRows1_q A1 A2 x.length c1 x'.length c2 x x' wr (hbel.rdI hrd) (hbel.rdI hrd') (by unfold maxLen at hm; omega) (by unfold maxLen at hm'; omega))
        clear hx hx' hc hc' hrd hrd'
        by_cases he : x = x'
        · have hpre' : Hid (zs.take (k + 1) = zs'.take (k + 1)) := by
            show zs.take (k + 1) = zs'.take (k + 1)
            rw [List.take_add_one, List.take_add_one, HX.out, HX'.out, he, hpre.out]
          have hd := Lib.hid (decide_eq_true he)
          clear he
          go_wp2_with fail
          refine KE.out.mono ?_
          rintro e w1 ⟨rfl, hq⟩
          rw [hd.out]
          have HQ := Lib.hid (hbel.trans hq)
          clear hq
          go_wp2_with fail
          refine ⟨⟨k + 1, by omega, by go_num, hpre', HQ.out⟩, ?_⟩
          simp [intOf]
          omega
        · have hfin : Hid (decide (zs = zs') = false) := by
            show decide (zs = zs') = false
            rw [decide_eq_false_iff_not]
            rintro rfl
            have h1 := HX.out
            rw [HX'.out] at h1
            exact he (by injection h1 with h1; exact h1.symm)
          have hd := Lib.hid (decide_eq_false he)
          clear he
          go_wp2_with fail
          refine KE.out.mono ?_
          rintro e w1 ⟨rfl, hq⟩
          rw [hd.out]
          have HQ := Lib.hid (hbel.trans hq)
          clear hq
          go_wp2_with fail
          go_ret
          exact ⟨by rw [hfin.out] <;> rfl, HQ.out⟩
      · obtain rfl : k = n := by omega
        have hfin : Hid (decide (zs = zs') = true) := by
          show decide (zs = zs') = true
          rw [decide_eq_true_eq]
          have h1 := hpre.out
          rwa [List.take_of_length_le (Nat.le_of_eq hr.1), List.take_of_length_le (Nat.le_of_eq hr'.1)] at h1
        go_wp2
        go_ret
        exact ⟨by rw [hfin.out] <;> rfl, hbel⟩
  · have hfin : Hid (decide (zs = zs') = false) := by
      show decide (zs = zs') = false
      rw [decide_eq_false_iff_not]
      rintro rfl
      exact hne (hr.1.symm.trans hr'.1)
    have hbq : ((n : Int) != (n' : Int)) = true := by simp; omega
    clear hne
    go_enter Tryz.func82, Tryz.ntmps82
    go_wp2
    go_ret
    exact ⟨by rw [hfin.out] <;> rfl, Qt.refl _⟩

theorem equalRows_q (A A' : Option Addr) (n c n' c' : Nat) (zs zs' : List (List Int)) (w : World) (hr : RdR w w.heap.size A n zs) (hr' : RdR w w.heap.size A' n' zs') (hn : n ≤ 9223372036854775807) (hn' : n' ≤ 9223372036854775807) :
    Calls Tryz.prog 44 #[.slice A n c, .slice A' n' c'] w fun e w' => e = .returned (.bool (decide (zs = zs'))) ∧ Qt w w' := by
  go_enter Tryz.func44, Tryz.ntmps44
  go_wp2_with fail
  refine (equalFunc_q A A' n c n' c' zs zs' w hr hr' hn hn').mono ?_
  rintro e w' ⟨rfl, hq⟩
  have HQ := Lib.hid hq
  clear hq
  go_wp2_with fail
  go_ret
  exact ⟨rfl, HQ.out⟩

end

section
open Go.RowKit Go.Deep

/-- Two tables are the same. -/
def eqT (nm nm' : ByteArray) (ar ar' : Int) (rs rs' : List (List Int)) : Bool := decide (nm = nm' ∧ ar = ar' ∧ rs = rs')

set_option maxRecDepth 100000 in
set_option maxHeartbeats 400000 in
theorem impl_EqualTables_any (nm nm' : ByteArray) (ar ar' : Int) (A A' : Option Addr) (n c n' c' B B' : Nat) (rs rs' : List (List Int)) (w : World) (hr : RdR w B A n rs) (hr' : RdR w B' A' n' rs') (hB : B ≤ w.heap.size) (hB' : B' ≤ w.heap.size) (hn : n ≤ 9223372036854775807) (hn' : n' ≤ 9223372036854775807) :
    Calls Tryz.prog 11 #[.agg #[.string nm, .int .i64 ar, .slice A n c], .agg #[.string nm', .int .i64 ar', .slice A' n' c']] w fun e w' => e = .returned (.bool (eqT nm nm' ar ar' rs rs')) ∧ Below w.heap.size w w' := by
  have HB := Lib.hid (Below.refl w.heap.size w)
  by_cases h1 : nm = nm'
  · subst h1
    by_cases h2 : ar = ar'
    · subst h2
      have hf : Hid (eqT nm nm ar ar rs rs' = decide (rs = rs')) := by show _ = _; simp [eqT]
      go_enter Tryz.func11, Tryz.ntmps11
      go_wp2_with fail
      refine (equalRows_q A A' n c n' c' rs rs' _ ((RdR.belowB hr (((Below.refl B w).alloc hB _).alloc (by simp; omega) _) (Nat.le_refl _)).more (by simp; omega)) ((RdR.belowB hr' (((Below.refl B' w).alloc hB' _).alloc (by simp; omega) _) (Nat.le_refl _)).more (by simp; omega)) hn hn').mono ?_
      rintro e w1 ⟨rfl, hq⟩
      have hbel := Lib.hid ((((HB.out).alloc (Nat.le_refl _) _).alloc (by simp) _).trans (hq.below _))
      clear hq
      go_wp2_with fail
      go_ret
      exact ⟨by rw [hf.out] <;> rfl, hbel.out⟩
    · have hf : Hid (eqT nm nm ar ar' rs rs' = false) := by show _ = _; simp [eqT, h2]
      have q2 : (ar == ar') = false := by simpa using h2
      clear h2
      go_enter Tryz.func11, Tryz.ntmps11
      go_wp2_with fail
      go_ret
      exact ⟨by rw [hf.out] <;> rfl, ((HB.out).alloc (Nat.le_refl _) _).alloc (by simp) _⟩
  · have hf : Hid (eqT nm nm' ar ar' rs rs' = false) := by show _ = _; simp [eqT, h1]
    have q1 := str_eq0 h1
    clear h1
    go_enter Tryz.func11, Tryz.ntmps11
    go_wp2_with fail
    go_ret
    exact ⟨by rw [hf.out] <;> rfl, ((HB.out).alloc (Nat.le_refl _) _).alloc (by simp) _⟩

set_option maxRecDepth 100000 in
set_option maxHeartbeats 1000000 in
theorem spec_EqualTables_any (nm nm' : ByteArray) (ar ar' : Int) (A A' : Option Addr) (n c n' c' B B' : Nat) (rs rs' : List (List Int)) (w : World) (hr : RdR w B A n rs) (hr' : RdR w B' A' n' rs') (hB : B ≤ w.heap.size) (hB' : B' ≤ w.heap.size) (hn : n ≤ 9223372036854775807) (hn' : n' ≤ 9223372036854775807) :
    Calls Tryz.prog 19 #[.agg #[.string nm, .int .i64 ar, .slice A n c], .agg #[.string nm', .int .i64 ar', .slice A' n' c']] w fun e w' => e = .returned (.bool (eqT nm nm' ar ar' rs rs')) ∧ Below w.heap.size w w' := by
  have HB := Lib.hid (Below.refl w.heap.size w)
  by_cases h1 : nm = nm'
  · subst h1
    by_cases h2 : ar = ar'
    · subst h2
      by_cases hne : n = n'
      · subst hne
        have hf : Hid (eqT nm nm ar ar rs rs' = decide (rs = rs')) := by show _ = _; simp [eqT]
        have q2 : (ar != ar) = false := by simp
        have q3 : ((n : Int) != (n : Int)) = false := by simp
        go_enter Tryz.func19, Tryz.ntmps19
        go_wp2_with fail
        generalize hW : (w.alloc (.cells #[.string nm, .int .i64 ar, .slice A n c] 26)).alloc (.cells #[.string nm, .int .i64 ar, .slice A' n c'] 26) = W
        have hWb : Hid (Below w.heap.size w W) := by rw [← hW]; exact ((HB.out).alloc (Nat.le_refl _) _).alloc (by simp) _
        have w1 : W.cell? ⟨w.heap.size, 2, none⟩ = some (.slice A n c) := by rw [← hW]; simp [go_sem]
        have w2 : W.cell? ⟨w.heap.size + 1, 2, none⟩ = some (.slice A' n c') := by rw [← hW]; simp [go_sem]
        have hr1 : RdR W W.heap.size A n rs := by rw [← hW]; exact (RdR.belowB hr (((Below.refl B w).alloc hB _).alloc (by simp; omega) _) (Nat.le_refl _)).more (by simp; omega)
        have hr2 : RdR W W.heap.size A' n rs' := by rw [← hW]; exact (RdR.belowB hr' (((Below.refl B' w).alloc hB' _).alloc (by simp; omega) _) (Nat.le_refl _)).more (by simp; omega)
        clear hW hr hr'
        go_loopw [5] (fun i wr => ∃ k : Nat, k ≤ n ∧ i = .int .i64 k ∧ Hid (rs.take k = rs'.take k) ∧ Qt W wr) (fun i _ => n - (intOf i).toNat)
        case atStart => exact ⟨0, by omega, rfl, rfl, Qt.refl _⟩
        case round =>
          obtain ⟨k, hk, rfl, hpre, hbel⟩ := hrel
          have c1 := (hbel.cell (p := ⟨w.heap.size, 2, none⟩)).trans w1
          have c2 := (hbel.cell (p := ⟨w.heap.size + 1, 2, none⟩)).trans w2
          by_cases hlt : k < n
          · obtain ⟨b, o, x, A1, cc1, rfl, _, hx, hc, hrd, hm⟩ := RdR.at_ hr1 hlt
            obtain ⟨b', o', x', A2, cc2, rfl, _, hx', hc', hrd', hm'⟩ := RdR.at_ hr2 hlt
            have hc1 := (hbel.cell (p := ⟨b, o + k, none⟩)).trans hc
            have hc2 := (hbel.cell (p := ⟨b', o' + k, none⟩)).trans hc'
            have g1 : (0 : Int) ≤ (k : Int) := by omega
            have g2 : (k : Int) < (n : Int) := by omega
            have g3 : (k : Int).toNat = k := by omega
            have HX := Lib.hid hx
            have HX' := Lib.hid hx'
            have KE := Lib.hid (fun q => spec_CompareRows_q A1 A2 x.length cc1 x'.length cc2 x x' (wr.drewN q) (hbel.rdI hrd) (hbel.rdI hrd') (by unfold maxLen at hm; omega) (by unfold maxLen at hm'; omega))
            clear hx hx' hc hc' hrd hrd'
            by_cases he : x = x'
            · have hpre' : Hid (rs.take (k + 1) = rs'.take (k + 1)) := by
                show rs.take (k + 1) = rs'.take (k + 1)
                rw [List.take_add_one, List.take_add_one, HX.out, HX'.out, he, hpre.out]
              have KE' : Hid (∀ q, Calls Tryz.prog 47 #[.slice A1 x.length cc1, .slice A2 x'.length cc2] (wr.drewN q) fun e w' => e = .returned (.int .i64 0) ∧ Qt (wr.drewN q) w') := fun q => (KE.out q).mono fun _ _ ⟨h, hq⟩ => ⟨by rw [h, cmpL_zero.2 he], hq⟩
              clear he KE
              go_wp2_with fail
              go_quiet ((go_at_call 47; exact Calls.quiet_of (KE'.out _)))
              clear g3
              go_wp2_with fail
              refine ⟨⟨k + 1, by omega, by go_num, hpre', hbel.drewN _⟩, ?_⟩
              simp [intOf]
              omega
            · have hfin : Hid (decide (rs = rs') = false) := by
                show decide (rs = rs') = false
                rw [decide_eq_false_iff_not]
                rintro rfl
                have h1 := HX.out
                rw [HX'.out] at h1
                exact he (by injection h1 with h1; exact h1.symm)
              obtain ⟨y, hy⟩ : ∃ y, y = cmpL x x' := ⟨_, rfl⟩
              have hy0 : (y != 0) = true := by
                rw [hy]
                have := mt cmpL_zero.1 he
                simpa using this
              rw [← hy] at KE
              clear hy he
              go_wp2_with fail
              go_quiet ((go_at_call 47; exact Calls.quiet_of (KE.out _)))
              clear g3
              go_wp2_with fail
              go_ret
              exact ⟨by rw [hf.out, hfin.out] <;> rfl, hWb.out.trans ((hbel.drewN _).below _)⟩
          · obtain rfl : k = n := by omega
            have hfin : Hid (decide (rs = rs') = true) := by
              show decide (rs = rs') = true
              rw [decide_eq_true_eq]
              have h1 := hpre.out
              rwa [List.take_of_length_le (Nat.le_of_eq hr1.1), List.take_of_length_le (Nat.le_of_eq hr2.1)] at h1
            go_wp2_with fail
            go_ret
            exact ⟨by rw [hf.out, hfin.out] <;> rfl, hWb.out.trans (hbel.below _)⟩
      · have hf : Hid (eqT nm nm ar ar rs rs' = false) := by
          have : ¬ rs = rs' := fun e => hne (by rw [← hr.1, ← hr'.1, e])
          show _ = _
          simp [eqT, this]
        have q2 : (ar != ar) = false := by simp
        have q3 : ((n : Int) != (n' : Int)) = true := by simp; omega
        clear hne
        go_enter Tryz.func19, Tryz.ntmps19
        go_wp2_with fail
        go_ret
        exact ⟨by rw [hf.out] <;> rfl, ((HB.out).alloc (Nat.le_refl _) _).alloc (by simp) _⟩
    · have hf : Hid (eqT nm nm ar ar' rs rs' = false) := by show _ = _; simp [eqT, h2]
      have q2 : (ar != ar') = true := by simpa using h2
      clear h2
      go_enter Tryz.func19, Tryz.ntmps19
      go_wp2_with fail
      go_ret
      exact ⟨by rw [hf.out] <;> rfl, ((HB.out).alloc (Nat.le_refl _) _).alloc (by simp) _⟩
  · have hf : Hid (eqT nm nm' ar ar' rs rs' = false) := by show _ = _; simp [eqT, h1]
    have q1 := str_ne1 h1
    have q2 := str_eq0 h1
    have q3 := str_ne h1
    clear h1
    go_enter Tryz.func19, Tryz.ntmps19
    go_wp2_with fail
    go_ret
    exact ⟨by rw [hf.out] <;> rfl, ((HB.out).alloc (Nat.le_refl _) _).alloc (by simp) _⟩

end

section
open Go.RowKit Go.Deep

set_option maxRecDepth 100000 in
set_option maxHeartbeats 1000000 in
theorem impl_NewTable_any (nm : ByteArray) (ar : Int) (A : Option Addr) (n c B : Nat) (rs : List (List Int)) (w : World) (hr : RdR w B A n rs) (hB : B ≤ w.heap.size) (hn : n ≤ 5000000000) (hrow : ∀ r ∈ rs, r.length ≤ 17592186044416) :
    Calls Tryz.prog 14 #[.string nm, .int .i64 ar, .slice A n c] w (TabBool (newR nm ar rs) w) := by
  have HL := Lib.hid hr.1
  have hrow' := Lib.hid hrow
  clear hrow
  have kn0 : Kn w [(w.heap.size, 0, .string { data := #[] }), (w.heap.size, 1, .int .i64 0), (w.heap.size, 2, .slice none 0 0)]
      (w.alloc (.cells #[.string { data := #[] }, .int .i64 0, .slice none 0 0] 26)) := by
    simpa using (Kn.start w).box3 (.string { data := #[] }) (.int .i64 0) (.slice none 0 0) 26
  go_enter Tryz.func14, Tryz.ntmps14
  go_wp2_with fail
  have s0 : w.heap.size + 1 ≤ (w.alloc (.cells #[.string { data := #[] }, .int .i64 0, .slice none 0 0] 26)).heap.size := by simp
  generalize w.alloc (.cells #[.string { data := #[] }, .int .i64 0, .slice none 0 0] 26) = w0 at kn0 s0 ⊢
  with_reducible refine (sorted_any A n c B rs w0 (RdR.belowB hr kn0.bel hB) (Nat.le_trans hB kn0.bel.size) hn hrow'.out).mono ?_
  rintro e w1 ⟨Ao, co, rfl, oo, b1⟩
  have s1 := b1.size
  have kn1 := kn0.next b1
  clear kn0 b1
  have hlen := Lib.hid (sortL_len rs)
  have HR := Lib.hid (show newR nm ar rs = if validT nm ar (sortL rs) = true then ⟨nm, ar, sortL rs, true⟩ else ⟨{ data := #[] }, 0, [], false⟩ from rfl)
  generalize sortL rs = R at oo hlen HR ⊢
  obtain ⟨d0, d1, d2, _⟩ := kn1.all
  have ne0 : w.heap.size < w1.heap.size := by omega
  go_wp2_with fail
  clear ne0
  have kn2 : Kn w [(w.heap.size, 0, .string { data := #[] }), (w.heap.size, 1, .int .i64 0), (w.heap.size, 2, .slice none 0 0), (w1.heap.size, 0, .string nm), (w1.heap.size, 1, .int .i64 ar), (w1.heap.size, 2, .slice Ao R.length co)]
      (w1.alloc (.cells #[.string nm, .int .i64 ar, .slice Ao R.length co] 26)) := kn1.box3 (.string nm) (.int .i64 ar) (.slice Ao R.length co) 26
  have s2 : w1.heap.size + 1 ≤ (w1.alloc (.cells #[.string nm, .int .i64 ar, .slice Ao R.length co] 26)).heap.size := by simp
  have oo2 := oo.below ((Below.refl _ _).alloc (Nat.le_refl _) (.cells #[.string nm, .int .i64 ar, .slice Ao R.length co] 26)) (Nat.le_refl _)
  clear oo kn1 d0 d1 d2
  generalize w1.alloc (.cells #[.string nm, .int .i64 ar, .slice Ao R.length co] 26) = w2 at kn2 s2 oo2 ⊢
  have KV := Lib.hid (impl_IsValidTable_any nm ar Ao R.length co w1.heap.size R w2 (oo2.rd rfl) (by omega) (by have := hlen.out; have := HL.out; omega))
  obtain ⟨d0, d1, d2, d3, d4, d5, _⟩ := kn2.all
  cases hv : validT nm ar R with
  | false =>
    have hf : Hid (newR nm ar rs = ⟨{ data := #[] }, 0, [], false⟩) := by show _ = _; rw [HR.out, hv]; rfl
    rw [hv] at KV
    clear hv oo2
    refine KV.out.mono ?_
    rintro e w3 ⟨rfl, b3⟩
    have s3 := b3.size
    have kn3 := kn2.next b3
    clear kn2 b3 d0 d1 d2 d3 d4 d5
    obtain ⟨d0, d1, d2, d3, d4, d5, _⟩ := kn3.all
    obtain ⟨f0, f1, f2, f3, f4, f5, _⟩ := kn3.fall
    have hbel := Lib.hid kn3.bel
    clear kn3
    go_wp2_with fail
    refine bodyPost_ret (v := .tuple #[.agg #[.string { data := #[] }, .int .i64 0, .slice none 0 0], .bool false]) (by simp [results, Tryz.results14, go_sem, *]) rfl (TabBool.of hf.out (OwnR.nil _ _ _) ?_)
    repeat first | exact hbel.out | (refine Below.setCell ?_ ?_ _; rotate_left; (simp; try omega))
  | true =>
    have hf : Hid (newR nm ar rs = ⟨nm, ar, R, true⟩) := by show _ = _; rw [HR.out, hv]; rfl
    rw [hv] at KV
    clear hv
    refine KV.out.mono ?_
    rintro e w3 ⟨rfl, b3⟩
    have s3 := b3.size
    have oo3 := oo2.below b3 (by omega)
    have kn3 := kn2.next b3
    clear kn2 b3 oo2 d0 d1 d2 d3 d4 d5
    obtain ⟨d0, d1, d2, d3, d4, d5, _⟩ := kn3.all
    obtain ⟨f0, f1, f2, f3, f4, f5, _⟩ := kn3.fall
    have hbel := Lib.hid kn3.bel
    have HO := Lib.hid oo3
    clear kn3 oo3
    go_wp2_with fail
    refine bodyPost_ret (v := .tuple #[.agg #[.string nm, .int .i64 ar, .slice Ao R.length co], .bool true]) (by simp [results, Tryz.results14, go_sem, *]) rfl (TabBool.of hf.out ?_ ?_)
    · refine OwnR.down (lo := w0.heap.size) (OwnR.wide (hi := w1.heap.size) ?_ (by simp; omega)) (by omega)
      repeat refine OwnR.setOff ?_ (by omega)
      exact HO.out
    · repeat first | exact hbel.out | (refine Below.setCell ?_ ?_ _; rotate_left; (simp; try omega))

set_option maxRecDepth 100000 in
set_option maxHeartbeats 4000000 in
theorem spec_NewTable_any (nm : ByteArray) (ar : Int) (A : Option Addr) (n c B : Nat) (rs : List (List Int)) (w : World) (hr : RdR w B A n rs) (hB : B ≤ w.heap.size) (hn : n ≤ 5000000000) (hrow : ∀ r ∈ rs, r.length ≤ 17592186044416) :
    Calls Tryz.prog 15 #[.string nm, .int .i64 ar, .slice A n c] w (TabBool (newR nm ar rs) w) := by
  have HL := Lib.hid hr.1
  have hrow' := Lib.hid hrow
  clear hrow
  go_enter Tryz.func15, Tryz.ntmps15
  go_wp2_with fail
  go_loopw [9] (fun i wr => ∃ (k : Nat) (v : Value), k ≤ n ∧ i = .int .i64 k ∧ LInv w w.heap.size w.heap.size (w.heap.size + 1) (w.heap.size + 1 + 1) (.string { data := #[] }) (.int .i64 0) (.slice none 0 0) (.string nm) (.int .i64 ar) (sortL (rs.take k)) v wr) (fun i _ => n - (intOf i).toNat)
  case atStart =>
    refine ⟨0, .slice none 0 0, by omega, rfl, OwnR.nil _ _ _, ((Below.refl _ _).alloc (Nat.le_refl _) _).alloc (by simp) _, by simp, by omega, by omega, by omega, by omega, by omega, by omega, by simp [go_sem], by simp [go_sem], by simp [go_sem], by simp [go_sem], by simp [go_sem], by simp [go_sem], by simp [go_sem], fun i hi => ?_⟩
    have : i = 0 ∨ i = 1 ∨ i = 2 := by omega
    rcases this with rfl | rfl | rfl <;> simp [go_sem]
  case round =>
    obtain ⟨k, v, hk, rfl, hinv⟩ := hrel
    have hRm : Hid (∀ r ∈ sortL (rs.take k), r ∈ rs) := fun r hr => List.take_subset _ _ ((sortL_mem _ _).1 hr)
    have hRl := Lib.hid (sortL_take rs k)
    have hRk := Lib.hid (show k = n → sortL (rs.take k) = sortL rs from fun h => by rw [List.take_of_length_le (by rw [HL.out]; omega)])
    have HN := Lib.hid (show k < n → ∀ x, rs[k]? = some x → sortL (rs.take (k + 1)) = putA x false (sortL (rs.take k)) from fun _ x hx => by
      rw [List.take_add_one, hx]
      exact putAll_append [] (rs.take k) [x])
    generalize sortL (rs.take k) = R at hinv hRm hRl hRk HN
    obtain ⟨A1, c1, rfl⟩ := hinv.own.form
    by_cases hgo : k < n ∧ R.length ≤ 8
    · obtain ⟨hlt, h8⟩ := hgo
      obtain ⟨b, o, x, A', c', rfl, hb, hx, hc, hrd, _⟩ := RdR.at_ (RdR.more hr hB) hlt
      have hbel := hinv.bel
      have hsz := hinv.size
      have x2 := hinv.x2
      have fx := hinv.fx
      have hc1 := (hbel.cell (p := ⟨b, o + k, none⟩) hb).trans hc
      have hxl := hrow'.out x (List.mem_of_getElem? hx)
      have KP : Hid (∀ W, Below wr.heap.size wr W → Calls Tryz.prog 42 #[.slice A1 R.length c1, .slice A' x.length c'] W (RowsNew (putA x false R) W)) := fun W b =>
        l4Put_any A1 A' R.length c1 x.length c' wr.heap.size R x W (RdR.belowB (hinv.own.rd rfl) b (Nat.le_refl _)) ((hrd.below (hbel.trans (b.mono hbel.size))).more hbel.size) b.size (by omega) hxl (fun r hr => hrow'.out r (hRm.out r hr))
      have HX := Lib.hid (HN.out hlt x hx)
      have HI := Lib.hid hinv
      have g1 : (0 : Int) ≤ (k : Int) := by omega
      have g2 : (k : Int) < (n : Int) := by omega
      have g3 : (k : Int).toNat = k := by omega
      have l0 : b < wr.heap.size := by omega
      have l2 : w.heap.size + 1 < wr.heap.size := by omega
      clear hx hc hrd hinv hbel
      go_wp2_with fail
      go_region_law (first
          | (go_simp; go_at_call 42; refine (KP.out _ ((Below.refl _ _).drew)).mono ?_; rintro e w1 ⟨A2, c2, rfl, ho1, hb1⟩
             have hb2 : Below wr.heap.size wr w1 := ((Below.refl _ _).drew).trans hb1
             have n2 : w1.cell? ⟨w.heap.size + 1, 2, none⟩ = some (.slice A1 R.length c1) := (hb2.cell (p := ⟨w.heap.size + 1, 2, none⟩) l2).trans x2
             have n3 : w1.frozen? ⟨w.heap.size + 1, 2, none⟩ = false := (hb2.frozen (p := ⟨w.heap.size + 1, 2, none⟩) l2).trans fx
             have HF := Lib.hid (HI.out.push (hb2.mono hsz) (OwnR.down ho1 hsz))
             clear hb2 ho1 hb1)
          | fail)
      all_goals (
        go_wp2_with fail
        refine ⟨⟨k + 1, _, by omega, by go_num, by rw [HX.out]; exact HF.out⟩, ?_⟩
        simp [intOf]
        omega)
    · have x0 := hinv.x0
      have x1 := hinv.x1
      have x2 := hinv.x2
      have hsz := hinv.size
      have HI := Lib.hid hinv
      have hRlen : Hid (R.length ≤ n) := by
        have h1 := hRl.out
        have h2 := sortL_len rs
        rw [HL.out] at h2
        exact Nat.le_trans h1 h2
      have KV := Lib.hid (spec_IsValidTable_any nm ar A1 R.length c1 wr.heap.size R wr (hinv.own.rd rfl) (Nat.le_refl _) (by have := hRlen.out; omega))
      have HV : Hid (R = sortL rs ∨ (8 < R.length ∧ 8 < (sortL rs).length)) := by
        by_cases h : k < n
        · exact .inr ⟨by omega, by have := hRl.out; omega⟩
        · exact .inl (hRk.out (by omega))
      clear hinv hRm hRl hRk HN
      cases hv : validT nm ar R with
      | false =>
        have hf : Hid (newR nm ar rs = ⟨{ data := #[] }, 0, [], false⟩) := by show _ = _; rw [newR_of HV.out hv]; rfl
        rw [hv] at KV
        clear hv HV
        by_cases hlt : k < n
        · have h8 : ¬ R.length ≤ 8 := fun h => hgo ⟨hlt, h⟩
          clear hgo
          go_wp2_with fail
          refine KV.out.mono ?_
          rintro e w3 ⟨rfl, b3⟩
          have h3 := HI.out.next b3
          have d0 := h3.c0
          have d1 := h3.c1
          have d2 := h3.c2
          have e0 := (h3.res 0 (by omega)).2
          have e1 := (h3.res 1 (by omega)).2
          have e2 := (h3.res 2 (by omega)).2
          have hbel := Lib.hid h3.bel
          clear h3 b3 x0 x1 x2
          go_wp2_with fail
          refine bodyPost_ret (v := .tuple #[.agg #[.string { data := #[] }, .int .i64 0, .slice none 0 0], .bool false]) (by simp [results, Tryz.results15, go_sem, *]) rfl (TabBool.of hf.out (OwnR.nil _ _ _) ?_)
          repeat first | exact hbel.out | (refine Below.setCell ?_ ?_ _; rotate_left; (simp; try omega))
        · clear hgo
          go_wp2_with fail
          refine KV.out.mono ?_
          rintro e w3 ⟨rfl, b3⟩
          have h3 := HI.out.next b3
          have d0 := h3.c0
          have d1 := h3.c1
          have d2 := h3.c2
          have e0 := (h3.res 0 (by omega)).2
          have e1 := (h3.res 1 (by omega)).2
          have e2 := (h3.res 2 (by omega)).2
          have hbel := Lib.hid h3.bel
          clear h3 b3 x0 x1 x2
          go_wp2_with fail
          refine bodyPost_ret (v := .tuple #[.agg #[.string { data := #[] }, .int .i64 0, .slice none 0 0], .bool false]) (by simp [results, Tryz.results15, go_sem, *]) rfl (TabBool.of hf.out (OwnR.nil _ _ _) ?_)
          repeat first | exact hbel.out | (refine Below.setCell ?_ ?_ _; rotate_left; (simp; try omega))
      | true =>
        have hf : Hid (newR nm ar rs = ⟨nm, ar, R, true⟩) := by show _ = _; rw [newR_of HV.out hv]; rfl
        rw [hv] at KV
        have h8 := Lib.hid (show ¬ 8 < R.length from fun h => by rw [validT_long h] at hv; cases hv)
        clear hv HV
        have hlt : ¬ k < n := fun h => hgo ⟨h, by have := h8.out; omega⟩
        clear hgo
        go_wp2_with fail
        refine KV.out.mono ?_
        rintro e w3 ⟨rfl, b3⟩
        have h3 := HI.out.next b3
        have d0 := h3.c0
        have d1 := h3.c1
        have d2 := h3.c2
        have y0 := h3.x0
        have y1 := h3.x1
        have y2 := h3.x2
        have e0 := (h3.res 0 (by omega)).2
        have e1 := (h3.res 1 (by omega)).2
        have e2 := (h3.res 2 (by omega)).2
        have HF := Lib.hid (h3.fin (by omega) (by omega) (.string nm) (.int .i64 ar) (.slice A1 R.length c1))
        clear h3 b3 x0 x1 x2
        go_wp2_with fail
        exact bodyPost_ret (v := .tuple #[.agg #[.string nm, .int .i64 ar, .slice A1 R.length c1], .bool true]) (by simp [results, Tryz.results15, go_sem, *]) rfl (TabBool.of hf.out HF.out.1 HF.out.2)

end

section
open Go.RowKit

/-- The decimal digits of a number. -/
def decD (n : Nat) : List UInt8 := if n < 10 then [UInt8.ofNat (48 + n)] else decD (n / 10) ++ [UInt8.ofNat (48 + n % 10)]
  termination_by n
  decreasing_by omega

theorem decD_small {n : Nat} (h : n < 10) : decD n = [UInt8.ofNat (48 + n)] := by rw [decD, if_pos h]

theorem decD_big {n : Nat} (h : ¬ n < 10) : decD n = decD (n / 10) ++ [UInt8.ofNat (48 + n % 10)] := by rw [decD, if_neg h]

/-- The text of an int. -/
def fmtI (n : Int) : List UInt8 := if n < 0 then 45 :: decD n.natAbs else decD n.natAbs

theorem fmtI_pos (N : Nat) : fmtI N = decD N := by rw [fmtI, if_neg (by omega), Int.natAbs_natCast]

theorem fmtI_neg {N : Nat} (h : 0 < N) : fmtI (-(N : Int)) = 45 :: decD N := by rw [fmtI, if_pos (by omega), Int.natAbs_neg, Int.natAbs_natCast]

theorem dig_byte (k : Nat) : (48 + UInt8.ofNat k : UInt8) = UInt8.ofNat (48 + k) := by simp

/-- m is left to be written, o is written. -/
def FInv (N m : Nat) (o : List UInt8) : Prop := (m = 0 → decD N = o) ∧ (m ≠ 0 → decD N = decD m ++ o) ∧ m ≤ N ∧ o.length ≤ 20 ∧ (m ≠ 0 → m * 10 ^ o.length ≤ N)

theorem FInv.start {N : Nat} (h : 0 < N) : FInv N N [] := ⟨fun h' => by omega, fun _ => by simp, Nat.le_refl _, by simp, fun _ => by simp⟩

theorem FInv.step {N m : Nat} {o : List UInt8} (h : FInv N m o) (hm : m ≠ 0) (hN : N ≤ 9223372036854775808) : FInv N (m / 10) (UInt8.ofNat (48 + m % 10) :: o) := by
  obtain ⟨_, h2, h3, h4, h5⟩ := h
  have hl : o.length ≤ 19 := by
    rcases Nat.lt_or_ge 19 o.length with hh | hh
    · have h6 := h5 hm
      have h7 : 10 ^ 20 ≤ 10 ^ o.length := Nat.pow_le_pow_right (by omega) hh
      have h8 : 1 * 10 ^ o.length ≤ m * 10 ^ o.length := Nat.mul_le_mul_right _ (by omega)
      omega
    · exact hh
  refine ⟨fun h0 => ?_, fun h0 => ?_, by omega, by simp; omega, fun h0 => ?_⟩
  · rw [h2 hm, decD_small (by omega), show m % 10 = m from by omega]
    rfl
  · rw [h2 hm, decD_big (by omega), List.append_assoc]
    rfl
  · have h6 := h5 hm
    rw [List.length_cons, Nat.pow_succ, Nat.mul_comm (10 ^ o.length) 10, ← Nat.mul_assoc]
    have h9 : m / 10 * 10 * 10 ^ o.length ≤ m * 10 ^ o.length := Nat.mul_le_mul_right _ (by omega)
    omega

end

section
open Go.RowKit

theorem decD_eq (n : Nat) : Lib.decDigits n = decD n := by
  induction n using Nat.strongRecOn with
  | _ n ih =>
    by_cases h : n < 10
    · rw [Lib.decDigits, dif_pos h, decD_small h]
    · rw [Lib.decDigits, dif_neg h, decD_big h, ih (n / 10) (by omega)]

theorem itoa_eq (n : Int) : Lib.itoa n = fmtI n := by
  unfold Lib.itoa fmtI
  split
  · rw [decD_eq]
  · rw [decD_eq, show n.toNat = n.natAbs by omega]

theorem ofNat_dig {k : Nat} (h : k < 10) : (UInt8.ofNat (48 + k)).toNat = 48 + k := by
  rw [UInt8.toNat_ofNat']
  exact Nat.mod_eq_of_lt (by omega)

/-- The number that bytes spell. -/
def valD (l : List UInt8) : Nat := l.foldl (fun a b => a * 10 + (b.toNat - 48)) 0

theorem valD_snoc (l : List UInt8) (b : UInt8) : valD (l ++ [b]) = valD l * 10 + (b.toNat - 48) := by simp [valD, List.foldl_append]

theorem valD_decD (n : Nat) : valD (decD n) = n := by
  induction n using Nat.strongRecOn with
  | _ n ih =>
    by_cases h : n < 10
    · rw [decD_small h, ← List.nil_append [_], valD_snoc, ofNat_dig h]
      show 0 * 10 + _ = n
      omega
    · rw [decD_big h, valD_snoc, ih (n / 10) (by omega), ofNat_dig (by omega)]
      omega

theorem decD_dig (n : Nat) : ∀ b ∈ decD n, 48 ≤ b.toNat ∧ b.toNat ≤ 57 := by
  induction n using Nat.strongRecOn with
  | _ n ih =>
    intro b hb
    by_cases h : n < 10
    · rw [decD_small h, List.mem_singleton] at hb
      subst hb
      rw [ofNat_dig h]
      omega
    · rw [decD_big h, List.mem_append, List.mem_singleton] at hb
      rcases hb with hb | rfl
      · exact ih (n / 10) (by omega) b hb
      · rw [ofNat_dig (by omega)]
        omega

theorem decD_ne (n : Nat) : decD n ≠ [] := by
  by_cases h : n < 10
  · rw [decD_small h]; simp
  · rw [decD_big h]; simp

theorem decD_cons (n : Nat) : ∃ b r, decD n = b :: r ∧ 48 ≤ b.toNat ∧ b.toNat ≤ 57 := by
  cases h : decD n with
  | nil => exact absurd h (decD_ne n)
  | cons b r => exact ⟨b, r, rfl, decD_dig n b (by rw [h]; simp)⟩

/-- k digits for a number below 10 ^ k. -/
theorem decD_len (k : Nat) : ∀ n : Nat, n < 10 ^ (k + 1) → (decD n).length ≤ k + 1 := by
  induction k with
  | zero => intro n h; rw [decD_small (by simpa using h)]; simp
  | succ k ih =>
    intro n h
    by_cases hn : n < 10
    · rw [decD_small hn]; simp
    · rw [decD_big hn, List.length_append, List.length_singleton]
      have := ih (n / 10) (by rw [Nat.pow_succ] at h; omega)
      omega

theorem fmtI_ne (n : Int) : fmtI n ≠ [] := by
  unfold fmtI
  split
  · simp
  · exact decD_ne _

theorem fmtI_inj {a b : Int} (h : fmtI a = fmtI b) : a = b := by
  unfold fmtI at h
  obtain ⟨x, r, hx, hx1, _⟩ := decD_cons a.natAbs
  obtain ⟨y, q, hy, hy1, _⟩ := decD_cons b.natAbs
  split at h <;> split at h
  · injection h with _ h
    have := congrArg valD h
    rw [valD_decD, valD_decD] at this
    omega
  · rw [hy] at h
    injection h with h _
    subst h
    simp at hy1
  · rw [hx] at h
    injection h with h _
    subst h
    simp at hx1
  · have := congrArg valD h
    rw [valD_decD, valD_decD] at this
    omega

/-- Digits, read by the library's scan. -/
theorem decFrom_digs (l : List UInt8) : ∀ (acc : Nat), (∀ b ∈ l, 48 ≤ b.toNat ∧ b.toNat ≤ 57) → Lib.decFrom acc l = some (l.foldl (fun a b => a * 10 + (b.toNat - 48)) acc) := by
  induction l with
  | nil => intro acc _; rfl
  | cons b r ih =>
    intro acc h
    have hb := h b (by simp)
    rw [Lib.decFrom, show Lib.digitVal b = some (b.toNat - 48) by rw [Lib.digitVal, if_pos hb]]
    exact ih _ fun c hc => h c (by simp [hc])

theorem decNat_decD (n : Nat) : Lib.decNat (decD n) = some n := by
  obtain ⟨b, r, hb, _⟩ := decD_cons n
  unfold Lib.decNat
  rw [if_neg (by rw [hb]; simp), decFrom_digs _ 0 (decD_dig n)]
  exact congrArg some (valD_decD n)

theorem parseUint_digs (l : List UInt8) : ∀ (acc : Nat), (∀ b ∈ l, 48 ≤ b.toNat ∧ b.toNat ≤ 57) → l.foldl (fun a b => a * 10 + (b.toNat - 48)) acc < 18446744073709551616 →
    Lib.parseUint10 acc l = .ok (l.foldl (fun a b => a * 10 + (b.toNat - 48)) acc) := by
  induction l with
  | nil => intro acc _ _; rfl
  | cons b r ih =>
    intro acc h hlt
    have hb := h b (by simp)
    have hmono : ∀ (q : List UInt8) (x : Nat), x ≤ q.foldl (fun a b => a * 10 + (b.toNat - 48)) x := by
      intro q
      induction q with
      | nil => intro x; exact Nat.le_refl _
      | cons c q ihq => intro x; exact Nat.le_trans (show x ≤ x * 10 + (c.toNat - 48) by omega) (ihq _)
    have hm := hmono r (acc * 10 + (b.toNat - 48))
    rw [List.foldl_cons] at hlt ⊢
    rw [Lib.parseUint10, if_pos hb, if_neg (by omega), if_neg (by omega)]
    exact ih _ (fun c hc => h c (by simp [hc])) hlt

theorem parseMag_decD {n : Nat} (h : n < 18446744073709551616) : Lib.parseMag (decD n) = .ok n := by
  have hv := valD_decD n
  unfold Lib.parseMag
  rw [if_neg (decD_ne n), parseUint_digs _ 0 (decD_dig n) (by show valD (decD n) < _; rw [hv]; exact h)]
  exact congrArg Lib.NumEnd.ok hv

theorem atoiAll_fmtI {n : Int} (h1 : -9223372036854775808 ≤ n) (h2 : n ≤ 9223372036854775807) : Lib.atoiAll (fmtI n) = .ok n := by
  unfold fmtI
  split
  · rename_i hn
    have hp := parseMag_decD (n := n.natAbs) (by omega)
    simp only [Lib.atoiAll, show (45 : UInt8).toNat = 45 from rfl, or_true, if_true, hp, not_true, false_and, if_false, true_and]
    rw [if_neg (show ¬ 9223372036854775808 < n.natAbs by omega)]
    congr 1
    omega
  · rename_i hn
    have hp := parseMag_decD (n := n.natAbs) (by omega)
    obtain ⟨b, r, hb, hb1, hb2⟩ := decD_cons n.natAbs
    rw [hb] at hp ⊢
    simp only [Lib.atoiAll]
    rw [if_neg (show ¬ (b.toNat = 43 ∨ b.toNat = 45) by omega), hp]
    simp only [show ¬ b.toNat = 45 by omega, if_false, false_and, not_false_eq_true, true_and]
    rw [if_neg (by omega)]
    congr 1
    omega

theorem atoi_fmtI {n : Int} (h1 : -999999999999 ≤ n) (h2 : n ≤ 999999999999) (hl : (fmtI n).length ≤ 18) : Lib.atoi (fmtI n) = some n := by
  have h := Lib.atoiAll_short (fmtI n) hl
  rw [atoiAll_fmtI (by omega) (by omega)] at h
  cases ha : Lib.atoi (fmtI n) with
  | none => rw [ha] at h; cases h
  | some m =>
    rw [ha] at h
    have h' : Lib.NumEnd.ok n = Lib.NumEnd.ok m := h
    injection h' with h'
    rw [h']

theorem fmtI_len {n : Int} {k : Nat} (h : n.natAbs < 10 ^ (k + 1)) : (fmtI n).length ≤ k + 2 := by
  have := decD_len k n.natAbs h
  unfold fmtI
  split
  · simp; omega
  · omega

/-- The text of an int. -/
def tI (n : Int) : ByteArray := ⟨(fmtI n).toArray⟩

theorem tI_size {n : Int} (h : n.natAbs < 10 ^ 10) : (tI n).size ≤ 11 := fmtI_len (k := 9) h

end

section
open Go.RowKit

/-- The pieces between the bytes c. -/
def cutL (c : UInt8) : List UInt8 → List (List UInt8)
  | [] => [[]]
  | b :: r => if b = c then [] :: cutL c r else (b :: (cutL c r).headD []) :: (cutL c r).tail

theorem cutL_ne (c : UInt8) (l : List UInt8) : cutL c l ≠ [] := by
  cases l with
  | nil => simp [cutL]
  | cons b r => unfold cutL; split <;> simp

theorem cutL_none (c : UInt8) : ∀ l : List UInt8, (∀ b ∈ l, b ≠ c) → cutL c l = [l]
  | [], _ => rfl
  | b :: r, h => by
    have h1 := cutL_none c r fun x hx => h x (by simp [hx])
    rw [cutL, if_neg (h b (by simp)), h1]
    rfl

theorem cutL_step (c : UInt8) (r : List UInt8) : ∀ p : List UInt8, (∀ b ∈ p, b ≠ c) → cutL c (p ++ c :: r) = p :: cutL c r
  | [], _ => by rw [List.nil_append, cutL, if_pos rfl]
  | b :: p, h => by
    have h1 := cutL_step c r p fun x hx => h x (by simp [hx])
    rw [List.cons_append, cutL, if_neg (h b (by simp)), h1]
    rfl

/-- What stands ahead of the first c, and whether there is one. -/
theorem first_c (c : UInt8) : ∀ l : List UInt8, (∀ b ∈ l, b ≠ c) ∨ ∃ p r, l = p ++ c :: r ∧ ∀ b ∈ p, b ≠ c
  | [] => .inl (by simp)
  | b :: l => by
    by_cases hb : b = c
    · exact .inr ⟨[], l, by rw [hb]; rfl, by simp⟩
    · rcases first_c c l with h | ⟨p, r, rfl, hp⟩
      · exact .inl fun x hx => by
          rcases List.mem_cons.1 hx with rfl | hx
          · exact hb
          · exact h x hx
      · exact .inr ⟨b :: p, r, rfl, fun x hx => by
          rcases List.mem_cons.1 hx with rfl | hx
          · exact hb
          · exact hp x hx⟩

theorem join_two (x y : List UInt8) (ws : List (List UInt8)) (sep : List UInt8) : Lib.join (x :: y :: ws) sep = x ++ sep ++ Lib.join (y :: ws) sep := by
  rw [Lib.join_cons, Lib.join_cons]
  simp [Lib.joinTail]

theorem join_c (c : UInt8) (x y : List UInt8) (ws : List (List UInt8)) : Lib.join (x :: y :: ws) [c] = x ++ c :: Lib.join (y :: ws) [c] := by
  rw [join_two]
  simp

theorem cutL_join (c : UInt8) : ∀ ws : List (List UInt8), ws ≠ [] → (∀ w ∈ ws, ∀ b ∈ w, b ≠ c) → cutL c (Lib.join ws [c]) = ws
  | [], h, _ => absurd rfl h
  | [x], _, h => by rw [Lib.join_one]; exact cutL_none c x (h x (by simp))
  | x :: y :: ws, _, h => by
    rw [join_c, cutL_step c _ x (h x (by simp)), cutL_join c (y :: ws) (by simp) fun w hw => h w (by simp [hw])]

theorem join_cutL (c : UInt8) : ∀ (n : Nat) (l : List UInt8), l.length ≤ n → Lib.join (cutL c l) [c] = l
  | 0, l, h => by
    obtain rfl : l = [] := List.length_eq_zero_iff.1 (by omega)
    rw [cutL, Lib.join_one]
  | n + 1, l, h => by
    rcases first_c c l with h1 | ⟨p, r, rfl, hp⟩
    · rw [cutL_none c l h1, Lib.join_one]
    · rw [cutL_step c r p hp]
      have ih := join_cutL c n r (by simp at h; omega)
      cases hq : cutL c r with
      | nil => exact absurd hq (cutL_ne c r)
      | cons y ws => rw [join_c, ← hq, ih]

theorem cutL_pieces (c : UInt8) : ∀ (n : Nat) (l : List UInt8), l.length ≤ n → ∀ w ∈ cutL c l, (∀ b ∈ w, b ≠ c) ∧ w.length ≤ l.length
  | 0, l, h => by
    obtain rfl : l = [] := List.length_eq_zero_iff.1 (by omega)
    intro w hw
    rw [cutL, List.mem_singleton] at hw
    subst hw
    exact ⟨by simp, Nat.le_refl _⟩
  | n + 1, l, h => by
    intro w hw
    rcases first_c c l with h1 | ⟨p, r, rfl, hp⟩
    · rw [cutL_none c l h1, List.mem_singleton] at hw
      subst hw
      exact ⟨h1, Nat.le_refl _⟩
    · rw [cutL_step c r p hp, List.mem_cons] at hw
      rcases hw with rfl | hw
      · exact ⟨hp, by simp⟩
      · have := cutL_pieces c n r (by simp at h; omega) w hw
        exact ⟨this.1, by simp; omega⟩

theorem cutL_len (c : UInt8) : ∀ l : List UInt8, (cutL c l).length ≤ l.length + 1
  | [] => by simp [cutL]
  | b :: r => by
    have := cutL_len c r
    unfold cutL
    split <;> simp <;> omega

/-- The library's index of one byte. -/
theorem index_none (c : UInt8) : ∀ l : List UInt8, (∀ b ∈ l, b ≠ c) → Lib.index l [c] = -1
  | [], _ => rfl
  | b :: r, h => by
    have h1 := index_none c r fun x hx => h x (by simp [hx])
    have hb := h b (by simp)
    rw [Lib.index, if_neg (by simp [List.isPrefixOf]; exact fun e => hb e.symm), if_pos (by rw [h1]; rfl)]

theorem index_hit (c : UInt8) (r : List UInt8) : ∀ p : List UInt8, (∀ b ∈ p, b ≠ c) → Lib.index (p ++ c :: r) [c] = p.length
  | [], _ => by rw [List.nil_append, Lib.index, if_pos (by simp [List.isPrefixOf])]; rfl
  | b :: p, h => by
    have h1 := index_hit c r p fun x hx => h x (by simp [hx])
    have hb := h b (by simp)
    rw [List.cons_append, Lib.index, if_neg (by simp [List.isPrefixOf]; exact fun e => hb e.symm), h1, if_neg (by simp)]
    simp

theorem cut_none {c : UInt8} {l : List UInt8} (h : ∀ b ∈ l, b ≠ c) : Lib.cut l [c] = (l, [], false) := by
  unfold Lib.cut
  rw [index_none c l h, if_neg (by omega)]

theorem cut_hit {c : UInt8} {p r : List UInt8} (h : ∀ b ∈ p, b ≠ c) : Lib.cut (p ++ c :: r) [c] = (p, r, true) := by
  unfold Lib.cut
  rw [index_hit c r p h, if_pos (by omega), Int.toNat_natCast]
  simp

theorem splitK_cutL (c : UInt8) : ∀ (n : Nat) (l : List UInt8), l.length ≤ n → Lib.splitK [c] 0 (Lib.count l [c]) l = cutL c l
  | 0, l, h => by
    obtain rfl : l = [] := List.length_eq_zero_iff.1 (by omega)
    rfl
  | n + 1, l, h => by
    rcases first_c c l with h1 | ⟨p, r, rfl, hp⟩
    · rw [Lib.count_miss (index_none c l h1), cutL_none c l h1]
      rfl
    · have hi := index_hit c r p hp
      rw [Lib.count_hit (by simp) hi, Nat.add_comm 1, Lib.splitK, hi, if_neg (by simp), Int.toNat_natCast, cutL_step c r p hp]
      have e : (p ++ c :: r).drop (p.length + [c].length) = r := by simp
      rw [e, splitK_cutL c n r (by simp at h; omega)]
      simp

theorem count_cutL (c : UInt8) (l : List UInt8) : (cutL c l).length = Lib.count l [c] + 1 := by
  rw [← splitK_cutL c l.length l (Nat.le_refl _)]
  have h := Lib.splitB_all ⟨#[c]⟩ (Nat.le_refl 1) 0 (Lib.count l [c]) ⟨l.toArray⟩ (by show Lib.count _ _ = _; simp)
  have e := Lib.splitB_data ⟨#[c]⟩ 0 (Lib.count l [c]) ⟨l.toArray⟩
  have e2 := congrArg List.length e
  rw [List.length_map, h] at e2
  simpa using e2.symm

/-- strings.Split at one byte. -/
theorem splitB_cutL (c : UInt8) (s : ByteArray) : (Lib.splitB ⟨#[c]⟩ 0 (Lib.countB s ⟨#[c]⟩) s).map (·.data.toList) = cutL c s.data.toList := by
  rw [Lib.splitB_data]
  exact splitK_cutL c _ s.data.toList (Nat.le_refl _)

theorem join_len (c : UInt8) : ∀ ws : List (List UInt8), (Lib.join ws [c]).length ≤ Lib.lens ws + ws.length
  | [] => by simp [Lib.join_nil]
  | x :: ws => by
    rw [Lib.join_length]
    simp
    omega

end

section
open Go.RowKit Go.Deep

/-- Each byte less '0'. -/
def ploc (l : List UInt8) : List Int := l.map fun b => (b.toNat : Int) - 48

theorem ploc_snoc (l : List UInt8) (b : UInt8) : ploc (l ++ [b]) = ploc l ++ [(b.toNat : Int) - 48] := by simp [ploc]

def isDig (b : UInt8) : Bool := inB b.toNat 48 57

/-- The digits of a text; false if there is another byte. -/
def digR (l : List UInt8) : List Int × Bool := if l.all isDig = true then (ploc l, true) else ([], false)

theorem digR_len (l : List UInt8) : (digR l).1.length ≤ l.length := by
  unfold digR
  split <;> simp [ploc]

/-- One digit for each number. -/
def dtext (zs : List Int) : List UInt8 := zs.map fun x => UInt8.ofNat (48 + x.toNat)

theorem mem_bytes (s : ByteArray) (k : Nat) (h : k < s.size) : s[k] ∈ s.data.toList := by
  have h1 : s.data.toList[k]'(by simpa using h) = s[k] := rfl
  rw [← h1]
  exact List.getElem_mem _

set_option maxRecDepth 100000 in
set_option maxHeartbeats 400000 in
theorem digitsOf_any (s : ByteArray) (w : World) (hs : s.size ≤ 1048576) :
    Calls Tryz.prog 87 #[.string s] w (IntsBool (digR s.data.toList) w) := by
  obtain ⟨i0, hi, hz0, hz1, hz2⟩ := info_parts info_int
  go_enter Tryz.func87, Tryz.ntmps87
  go_wp2
  go_loopw [4, 5] (fun v i wr => ∃ (k : Nat) (p : List Int), k ≤ s.size ∧ p.length ≤ k ∧ i = .int .i64 k ∧ wr.ownsRow w.heap.size 3 1 v p.length (p.map iv) ∧ Below w.heap.size w wr ∧ Hid (p = ploc (s.data.toList.take k) ∧ (s.data.toList.take k).all isDig = true)) (fun _ i _ => s.size - (intOf i).toNat)
  case atStart => exact ⟨0, [], by omega, by simp, rfl, own_empty w _ (Nat.le_refl _), (Below.refl _ _).alloc (Nat.le_refl _) _, rfl, rfl⟩
  case round =>
    obtain ⟨k, p, hk, hpk, rfl, hown, hbel, hinv⟩ := hrel
    have hsz := hbel.size
    by_cases hlt : k < s.size
    · obtain ⟨x, hx⟩ : ∃ x, s[k].toNat = x := ⟨_, rfl⟩
      have hx256 : x < 256 := by have := s[k].toNat_lt; omega
      by_cases hin : 48 ≤ x ∧ x ≤ 57
      · obtain ⟨h48, h57⟩ := hin
        have hin' : inB (x : Int) 48 57 = true := inB_true (by omega) (by omega)
        have hst : Hid (p ++ [(x : Int) - 48] = ploc (s.data.toList.take (k + 1)) ∧ (s.data.toList.take (k + 1)).all isDig = true) := by
          show _ ∧ _
          rw [take_snoc s k hlt, ploc_snoc, ← hinv.out.1, List.all_append, hinv.out.2, hx]
          exact ⟨rfl, by simp [isDig, hx, hin']⟩
        go_wp2_with (first | (go_at_call 54; refine (within_any _ _ _ _).mono ?_; rintro e w' ⟨rfl, rfl⟩) | (at_builtin; refine wpList_append_lies _ rfl _ _ _ rfl w.heap.size 3 i0 _ 1 8 Tryz.underlying27 hi hz0 hz1 hz2 rfl (by omega) _ p.length _ rfl (hown.alloc _) ⟨wr.heap.size, 0, none⟩ 1 1 [.int .i64 ((x : Int) - 48)] rfl rfl (World.news_of_block (cs := #[.int .i64 ((x : Int) - 48)]) (t := 3) (fr := (0, 0)) (heap_alloc_new wr _)) (by simp [Value.oneCell']) (by omega) (by unfold maxLen; omega) (by omega) (by simp; omega) (wr.heap.size + 1) (by simp) ?_; intro g cap w1 hown1 hgrow _ _))
        have hown2 := own_snoc hown1
        clear hown1
        refine ⟨⟨k + 1, p ++ [(x : Int) - 48], by omega, by simp; omega, by go_num, by simpa using hown2, (hbel.alloc (by omega) _).grown hgrow (by simp; omega) (fun j hj => (hown.lt j hj).1), hst⟩, ?_⟩
        simp [intOf]
        omega
      · have hin' : inB (x : Int) 48 57 = false := inB_false (by omega)
        have hf : Hid (digR s.data.toList = ([], false)) := by
          show digR s.data.toList = ([], false)
          rw [digR, if_neg]
          intro h
          rw [List.all_eq_true] at h
          have := h s[k] (mem_bytes s k hlt)
          rw [isDig, hx, hin'] at this
          cases this
        clear hin
        go_wp2_with (go_at_call 54; refine (within_any _ _ _ _).mono ?_; rintro e w' ⟨rfl, rfl⟩)
        go_ret2
        exact IntsBool.of hf.out (OwnI.nil _ _ _) hbel
    · obtain rfl : k = s.size := by omega
      obtain ⟨A0, c0, rfl⟩ := own_form hown
      have hf : Hid (digR s.data.toList = (p, true)) := by
        show digR s.data.toList = (p, true)
        have h1 := hinv.out
        rw [take_all] at h1
        rw [digR, if_pos h1.2, h1.1]
      go_wp2
      go_ret2
      exact IntsBool.of hf.out (ownI_of hown) hbel

theorem info_u8 : (Tryz.prog.info? 5).map (fun i => (i.zero, i.size, i.bytes)) = some (some (.int .u8 0), 1, 1) := by kernel_rfl

set_option maxRecDepth 100000 in
set_option maxHeartbeats 400000 in
theorem digitsText_any (A : Option Addr) (n c : Nat) (zs : List Int) (w : World) (hr : RdI w w.heap.size A n zs) (hn : n ≤ 1048576) (hdig : ∀ x ∈ zs, 0 ≤ x ∧ x ≤ 9) :
    Calls Tryz.prog 86 #[.slice A n c] w fun e w' => e = .returned (.string ⟨(dtext zs).toArray⟩) ∧ Below w.heap.size w w' := by
  obtain ⟨i0, hi, hz0, hz1, hz2⟩ := info_parts info_u8
  have HL := Lib.hid hr.1
  have HD := Lib.hid hdig
  clear hdig
  go_enter Tryz.func86, Tryz.ntmps86
  go_wp2
  go_loopw [3, 9] (fun v i wr => ∃ (k : Nat) (p : List UInt8), k ≤ n ∧ p.length ≤ k ∧ i = .int .i64 k ∧ wr.ownsRow w.heap.size 5 1 v p.length (p.map bv) ∧ Below w.heap.size w wr ∧ Hid (p = dtext (zs.take k))) (fun _ i _ => n - (intOf i).toNat)
  case atStart => exact ⟨0, [], by omega, by simp, rfl, World.ownsRow_made (base := w.heap.size) (e := 5) (size := 1) w #[] 0 (Nat.le_refl _) (by unfold maxLen; omega) rfl, (Below.refl _ _).alloc (Nat.le_refl _) _, rfl⟩
  case round =>
    obtain ⟨k, p, hk, hpk, rfl, hown, hbel, hinv⟩ := hrel
    have hsz := hbel.size
    by_cases hlt : k < n
    · obtain ⟨b', o', x, rfl, hb', hx, hc'⟩ := hr.at_ hlt
      have hc2 := (hbel.cell (p := ⟨b', o' + k, none⟩) hb').trans hc'
      obtain ⟨hx0, hx9⟩ := HD.out x (List.mem_of_getElem? hx)
      obtain ⟨X, rfl⟩ := Int.eq_ofNat_of_zero_le hx0
      have hst : Hid (p ++ [UInt8.ofNat (48 + X)] = dtext (zs.take (k + 1))) := by show _ = _; rw [List.take_add_one, hx, dtext, List.map_append, hinv.out]; rfl
      clear hc' hx
      go_wp2_with (at_builtin; refine wpList_append_lies _ rfl _ _ _ rfl w.heap.size 5 i0 _ 1 1 Tryz.underlying22 hi hz0 hz1 hz2 rfl (by omega) _ p.length _ rfl (hown.alloc _) ⟨wr.heap.size, 0, none⟩ 1 1 [.int .u8 (48 + (X : Int))] rfl rfl (World.news_of_block (cs := #[.int .u8 (48 + (X : Int))]) (t := 5) (fr := (0, 0)) (heap_alloc_new wr _)) (by simp [Value.oneCell']) (by omega) (by unfold maxLen; omega) (by omega) (by simp; omega) (wr.heap.size + 1) (by simp) ?_; intro g cap w1 hown1 hgrow _ _)
      have hown2 : w1.ownsRow w.heap.size 5 1 (.slice (some ⟨g, 0, none⟩) (p.length + 1) cap) (p ++ [UInt8.ofNat (48 + X)]).length ((p ++ [UInt8.ofNat (48 + X)]).map bv) := by
        have h1 : Value.int .u8 (48 + (X : Int)) = bv (UInt8.ofNat (48 + X)) := by rw [← bv_of (48 + X) (by omega)]; congr 1
        rw [h1] at hown1
        simpa using hown1
      clear hown1
      refine ⟨⟨k + 1, p ++ [UInt8.ofNat (48 + X)], by omega, by simp; omega, by go_num, hown2, (hbel.alloc (by omega) _).grown hgrow (by simp; omega) (fun j hj => (hown.lt j hj).1), hst⟩, ?_⟩
      simp [intOf]
      omega
    · obtain rfl : k = n := by omega
      have hconv := own_string (P := Tryz.prog) hown (src := 22) (dst := 9) Tryz.underlying22 Tryz.underlying5 Tryz.underlying9
      have hf : Hid (p = dtext zs) := by show p = dtext zs; rw [hinv.out, List.take_of_length_le (Nat.le_of_eq HL.out)]
      go_wp2
      go_ret
      exact ⟨by rw [← hf.out] <;> rfl, hbel⟩

end

section
open Go.RowKit

/-- The rows' text. -/
def rowsL (rs : List (List Int)) : List UInt8 := Lib.join (rs.map dtext) [32]

/-- The text of a table. -/
def fmtT (nm : ByteArray) (ar : Int) (rs : List (List Int)) : ByteArray := if validT nm ar rs = true then ((nm ++ tI ar) ++ ⟨#[58]⟩) ++ ⟨(rowsL rs).toArray⟩ else ⟨#[]⟩

theorem rowB_dig9 {zs : List Int} {m : Int} (h : rowB zs m = true) : ∀ x ∈ zs, 0 ≤ x ∧ x ≤ 9 := fun x hx => by
  unfold rowB at h
  simp [inB] at h
  exact h.1 x hx

theorem rowB_len {zs : List Int} {m : Int} (h : rowB zs m = true) : (zs.length : Int) = m := by
  unfold rowB at h
  simp at h
  exact h.2

theorem nameB_size {s : ByteArray} (h : nameB s = true) : s.size = 1 := by
  by_cases hs : s.size = 1
  · exact hs
  · rw [nameB_not hs] at h; cases h

structure VT (nm : ByteArray) (ar : Int) (rs : List (List Int)) : Prop where
  nm1 : nm.size = 1
  ar1 : 1 ≤ ar
  ar3 : ar ≤ 3
  len : rs.length ≤ 8
  row : ∀ r ∈ rs, (r.length : Int) = ar ∧ ∀ x ∈ r, 0 ≤ x ∧ x ≤ 9

theorem validT_vt {nm : ByteArray} {ar : Int} {rs : List (List Int)} (h : validT nm ar rs = true) : VT nm ar rs := by
  unfold validT at h
  simp only [Bool.and_eq_true, decide_eq_true_eq, List.all_eq_true] at h
  obtain ⟨h1, h2, h3, h4, _⟩ := h
  obtain ⟨a1, a2⟩ := inB_iff.1 h2
  exact ⟨nameB_size h1, a1, a2, h3, fun r hr => ⟨rowB_len (h4 r hr), rowB_dig9 (h4 r hr)⟩⟩

theorem join_snoc (c : UInt8) (x : List UInt8) : ∀ ws : List (List UInt8), ws ≠ [] → Lib.join (ws ++ [x]) [c] = Lib.join ws [c] ++ c :: x
  | [], h => absurd rfl h
  | [y], _ => by rw [List.singleton_append, join_c, Lib.join_one, Lib.join_one]
  | y :: z :: ws, _ => by
    rw [List.cons_append, List.cons_append, join_c, join_c, ← List.cons_append, join_snoc c x (z :: ws) (by simp)]
    simp

theorem rowsL_snoc {rs : List (List Int)} {k : Nat} {r : List Int} (h : rs[k]? = some r) (hk : 0 < k) : rowsL (rs.take (k + 1)) = rowsL (rs.take k) ++ 32 :: dtext r := by
  have hl := (List.getElem?_eq_some_iff.1 h).1
  unfold rowsL
  rw [List.take_add_one, h, List.map_append]
  exact join_snoc 32 _ _ (by
    intro e
    have h0 : ((rs.take k).map dtext).length = 0 := by rw [e]; rfl
    rw [List.length_map, List.length_take] at h0
    omega)

theorem rowsL_one {rs : List (List Int)} {r : List Int} (h : rs[0]? = some r) : rowsL (rs.take (0 + 1)) = dtext r := by
  unfold rowsL
  rw [List.take_add_one, h]
  exact Lib.join_one _ _

theorem dtext_len (zs : List Int) : (dtext zs).length = zs.length := by simp [dtext]

theorem bsize_append (a b : ByteArray) : (a ++ b).size = a.size + b.size := by
  show (a ++ b).data.size = _
  simp

theorem tI_size3 {ar : Int} (h1 : 1 ≤ ar) (h3 : ar ≤ 3) : (tI ar).size ≤ 11 := tI_size (by omega)

theorem rowsL_lens : ∀ l : List (List Int), (∀ r ∈ l, r.length ≤ 3) → Lib.lens (l.map dtext) ≤ 3 * l.length := by
  intro l
  induction l with
  | nil => intro _; simp [Lib.lens]
  | cons a l ih =>
    intro h
    have h1 := ih fun r hr => h r (by simp [hr])
    have h2 := h a (by simp)
    have h3 := dtext_len a
    simp only [Lib.lens, List.map_cons, List.sum_cons, List.length_cons] at h1 ⊢
    omega

theorem rowsL_len {rs : List (List Int)} (h : ∀ r ∈ rs, r.length ≤ 3) : (rowsL rs).length ≤ 4 * rs.length := by
  have h1 := join_len 32 (rs.map dtext)
  have h2 := rowsL_lens rs h
  rw [List.length_map] at h1
  unfold rowsL
  omega

/-- Head and k rows are written. -/
def TInv (H : ByteArray) (rs : List (List Int)) (k : Nat) (V : ByteArray) : Prop := V = H ++ ⟨(rowsL (rs.take k)).toArray⟩ ∧ V.size ≤ 13 + 4 * k

theorem TInv.start {H : ByteArray} {rs : List (List Int)} (h : H.size ≤ 13) : TInv H rs 0 H := by
  refine ⟨?_, by omega⟩
  show H = H ++ ⟨(Lib.join [] [32]).toArray⟩
  rw [Lib.join_nil]
  apply ByteArray.ext
  simp

theorem TInv.one {H V : ByteArray} {rs : List (List Int)} {r : List Int} (h : TInv H rs 0 V) (hr : rs[0]? = some r) (h3 : r.length ≤ 3) : TInv H rs (0 + 1) (V ++ ⟨(dtext r).toArray⟩) := by
  obtain ⟨rfl, hs⟩ := h
  refine ⟨?_, ?_⟩
  · rw [rowsL_one hr]
    show H ++ ⟨(Lib.join [] [32]).toArray⟩ ++ _ = _
    rw [Lib.join_nil]
    apply ByteArray.ext
    simp
  · rw [bsize_append]
    have : (⟨(dtext r).toArray⟩ : ByteArray).size = r.length := dtext_len r
    omega

theorem TInv.more {H V : ByteArray} {rs : List (List Int)} {r : List Int} {k : Nat} (h : TInv H rs k V) (hr : rs[k]? = some r) (hk : 0 < k) (h3 : r.length ≤ 3) : TInv H rs (k + 1) ((V ++ ⟨#[32]⟩) ++ ⟨(dtext r).toArray⟩) := by
  obtain ⟨rfl, hs⟩ := h
  refine ⟨?_, ?_⟩
  · rw [rowsL_snoc hr hk]
    apply ByteArray.ext
    simp
  · rw [bsize_append, bsize_append]
    have : (⟨(dtext r).toArray⟩ : ByteArray).size = r.length := dtext_len r
    have e1 : (⟨#[32]⟩ : ByteArray).size = 1 := rfl
    omega

end

section
open Go.RowKit

set_option maxRecDepth 100000 in
set_option maxHeartbeats 400000 in
theorem spec_FormatInt_pos (N : Nat) (w : World) (h0 : 0 < N) (hN : N ≤ 9223372036854775807) :
    Calls Tryz.prog 93 #[.int .i64 N] w fun e w' => e = .returned (.string ⟨(decD N).toArray⟩) ∧ Below w.heap.size w w' := by
  have hz : ((N : Int) == 0) = false := by simp; omega
  have hneg : decide ((N : Int) < 0) = false := by simp
  go_enter Tryz.func93, Tryz.ntmps93
  go_wp2
  go_loopw [0, 3] (fun n v wr => ∃ (m : Nat) (o : List UInt8), n = .int .i64 m ∧ v = .string ⟨o.toArray⟩ ∧ FInv N m o ∧ Below w.heap.size w wr) (fun n _ _ => (intOf n).toNat)
  case atStart => exact ⟨N, [], rfl, rfl, FInv.start h0, Below.refl _ _⟩
  case round =>
    obtain ⟨m, o, rfl, rfl, hinv, hbel⟩ := hrel
    have hmN : m ≤ N := hinv.2.2.1
    have hol : o.length ≤ 20 := hinv.2.2.2.1
    have hsz := hbel.size
    by_cases hm : m = 0
    · subst hm
      have hf := Lib.hid (hinv.1 rfl)
      go_wp2
      go_ret
      exact ⟨by rw [hf.out] <;> rfl, hbel⟩
    · have hmb : ((m : Int) != 0) = true := by simp; omega
      have hst := hinv.step hm (by omega)
      have hcv := fun W : World => one_byte (P := Tryz.prog) W 22 9 5 (48 + (m : Int) % 10) (by omega) (by omega) Tryz.underlying22 Tryz.underlying5 Tryz.underlying9
      have hb10 : ((48 : Int) + (m : Int) % 10).toNat = 48 + m % 10 := by omega
      rw [hb10] at hcv
      clear hb10
      go_wp2
      refine ⟨⟨m / 10, UInt8.ofNat (48 + m % 10) :: o, by go_num, by rw [dig_byte]; exact congrArg Value.string (bytes_append [UInt8.ofNat (48 + m % 10)] o), hst, hbel.alloc hsz _⟩, ?_⟩
      simp [intOf]
      omega

set_option maxRecDepth 100000 in
set_option maxHeartbeats 400000 in
theorem spec_FormatInt_neg (N : Nat) (w : World) (h0 : 0 < N) (hN : N ≤ 9223372036854775808) :
    Calls Tryz.prog 93 #[.int .i64 (-(N : Int))] w fun e w' => e = .returned (.string ⟨(45 :: decD N).toArray⟩) ∧ Below w.heap.size w w' := by
  have hz : (-(N : Int) == 0) = false := by simp; omega
  have hneg : decide (-(N : Int) < 0) = true := by simp; omega
  obtain ⟨X, hX⟩ : ∃ X : Int, X = -(N : Int) := ⟨_, rfl⟩
  rw [← hX] at hz hneg ⊢
  have HX := Lib.hid hX
  have g1 : X < 0 := by omega
  have g2 : -9223372036854775808 ≤ X := by omega
  clear hX
  go_enter Tryz.func93, Tryz.ntmps93
  go_wp2
  go_loopw [0, 3] (fun n v wr => ∃ (x : Int) (m : Nat) (o : List UInt8), n = .int .i64 x ∧ v = .string ⟨o.toArray⟩ ∧ x ≤ 0 ∧ X ≤ x ∧ Hid (x = -(m : Int)) ∧ FInv N m o ∧ Below w.heap.size w wr) (fun n _ _ => (- intOf n).toNat)
  case atStart => exact ⟨X, N, [], rfl, rfl, by omega, by omega, HX.out, FInv.start h0, Below.refl _ _⟩
  case round =>
    obtain ⟨x, m, o, rfl, rfl, hx0, hxX, hxm, hinv, hbel⟩ := hrel
    have hol : o.length ≤ 20 := hinv.2.2.2.1
    have hsz := hbel.size
    by_cases hm : m = 0
    · have hf := Lib.hid (hinv.1 hm)
      obtain rfl : x = 0 := by have := hxm.out; omega
      go_wp2
      go_ret
      exact ⟨by rw [hf.out]; exact congrArg Ending.returned (congrArg Value.string (bytes_append [45] o)), hbel⟩
    · have hmb : (x != 0) = true := by have := hxm.out; simp; omega
      have hst := hinv.step hm hN
      have e1 : x.tmod 10 = -((m % 10 : Nat) : Int) := by rw [hxm.out, Int.neg_tmod]; rfl
      have e2 : x.tdiv 10 = -((m / 10 : Nat) : Int) := by rw [hxm.out, Int.neg_tdiv]; rfl
      have hd : m % 10 < 10 := Nat.mod_lt _ (by omega)
      have hcv := fun W : World => one_byte (P := Tryz.prog) W 22 9 5 (48 + ((m % 10 : Nat) : Int)) (by omega) (by omega) Tryz.underlying22 Tryz.underlying5 Tryz.underlying9
      have hb10 : ((48 : Int) + ((m % 10 : Nat) : Int)).toNat = 48 + m % 10 := by omega
      rw [hb10] at hcv
      have hq : m / 10 ≤ m := Nat.div_le_self _ _
      have hq2 : (m : Int) ≤ -X := by have := hxm.out; omega
      have hq3 : m / 10 < m := by omega
      have hmx := hxm.out
      have hlt : Hid (((m / 10 : Nat) : Int) < -x) := by show ((m / 10 : Nat) : Int) < -x; omega
      clear hb10 hmx
      generalize hD : m % 10 = D at *
      generalize hQ : m / 10 = Q at *
      clear hD hQ
      by_cases hD0 : D = 0
      · subst hD0
        clear hcv
        have hcv := fun W : World => one_byte (P := Tryz.prog) W 22 9 5 48 (by omega) (by omega) Tryz.underlying22 Tryz.underlying5 Tryz.underlying9
        go_wp2
        refine ⟨⟨-(Q : Int), Q, UInt8.ofNat 48 :: o, by go_num, congrArg Value.string (bytes_append [UInt8.ofNat 48] o), by omega, by omega, rfl, hst, hbel.alloc hsz _⟩, ?_⟩
        have := hlt.out
        simp [intOf]
        omega
      · have hD1 : 0 < D := by omega
        clear hD0
        go_wp2
        refine ⟨⟨-(Q : Int), Q, UInt8.ofNat (48 + D) :: o, by go_num, by rw [dig_byte]; exact congrArg Value.string (bytes_append [UInt8.ofNat (48 + D)] o), by omega, by omega, rfl, hst, hbel.alloc hsz _⟩, ?_⟩
        have := hlt.out
        simp [intOf]
        omega

theorem spec_FormatInt_any (n : Int) (w : World) (h1 : -9223372036854775808 ≤ n) (h2 : n ≤ 9223372036854775807) :
    Calls Tryz.prog 93 #[.int .i64 n] w fun e w' => e = .returned (.string ⟨(fmtI n).toArray⟩) ∧ Below w.heap.size w w' := by
  rcases Int.lt_trichotomy n 0 with h | h | h
  · obtain ⟨N, rfl⟩ : ∃ N : Nat, n = -(N : Int) := ⟨n.natAbs, by omega⟩
    rw [fmtI_neg (by omega)]
    exact spec_FormatInt_neg N w (by omega) (by omega)
  · subst h
    go_enter Tryz.func93, Tryz.ntmps93
    go_wp2
    go_ret
    exact ⟨by rw [fmtI, if_neg (by omega), show (0 : Int).natAbs = 0 from rfl, decD_small (by omega)] <;> rfl, Below.refl _ _⟩
  · obtain ⟨N, rfl⟩ := Int.eq_ofNat_of_zero_le (show 0 ≤ n by omega)
    rw [fmtI_pos]
    exact spec_FormatInt_pos N w (by omega) (by omega)

end

section
open Go.RowKit Go.Deep

theorem fmtI_digit' {X : Nat} (h : X ≤ 9) : fmtI (X : Int) = [UInt8.ofNat (48 + X)] := by rw [fmtI_pos, decD_small (by omega)]

theorem rowB_dig {zs : List Int} {m : Int} (h : rowB zs m = true) : ∀ x ∈ zs, 0 ≤ x ∧ x ≤ 9 := fun x hx => by
  unfold rowB at h
  simp [inB] at h
  exact h.1 x hx

set_option maxRecDepth 100000 in
set_option maxHeartbeats 400000 in
theorem l4Digits_any (A : Option Addr) (n c : Nat) (zs : List Int) (w : World) (hr : RdI w w.heap.size A n zs) (hn : n ≤ 1048576) (hdig : ∀ x ∈ zs, 0 ≤ x ∧ x ≤ 9) :
    Calls Tryz.prog 94 #[.slice A n c] w fun e w' => e = .returned (.string ⟨(dtext zs).toArray⟩) ∧ Below w.heap.size w w' := by
  have HL := Lib.hid hr.1
  have HD := Lib.hid hdig
  clear hdig
  go_enter Tryz.func94, Tryz.ntmps94
  go_wp2_with fail
  go_loopw [3, 4] (fun v i wr => ∃ (k : Nat) (p : List UInt8), k ≤ n ∧ p.length ≤ k ∧ i = .int .i64 k ∧ v = .string ⟨p.toArray⟩ ∧ Below w.heap.size w wr ∧ Hid (p = dtext (zs.take k))) (fun _ i _ => n - (intOf i).toNat)
  case atStart => exact ⟨0, [], by omega, by simp, rfl, rfl, Below.refl _ _, rfl⟩
  case round =>
    obtain ⟨k, p, hk, hpk, rfl, rfl, hbel, hinv⟩ := hrel
    have hsz := hbel.size
    by_cases hlt : k < n
    · obtain ⟨b', o', x, hA, hb', hx, hc'⟩ := hr.at_ hlt
      subst hA
      have hc2 := (hbel.cell (p := ⟨b', o' + k, none⟩) hb').trans hc'
      obtain ⟨hx0, hx9⟩ := HD.out x (List.mem_of_getElem? hx)
      obtain ⟨X, rfl⟩ := Int.eq_ofNat_of_zero_le hx0
      have hfi := Lib.hid (fmtI_digit' (X := X) (by omega))
      have hst : Hid (p ++ [UInt8.ofNat (48 + X)] = dtext (zs.take (k + 1))) := by show _ = _; rw [List.take_add_one, hx, dtext, List.map_append, hinv.out]; rfl
      clear hc' hx
      go_wp2_with fail
      refine (spec_FormatInt_any _ _ (by omega) (by omega)).mono ?_
      rintro e w1 ⟨rfl, hb1⟩
      rw [hfi.out]
      go_wp2_with fail
      refine ⟨⟨k + 1, p ++ [UInt8.ofNat (48 + X)], by omega, by simp; omega, by go_num, by rw [dig_byte]; exact congrArg Value.string (bytes_append p [UInt8.ofNat (48 + X)]), below_chain hbel hb1 hsz, hst⟩, ?_⟩
      simp [intOf]
      omega
    · obtain rfl : k = n := by omega
      have hf : Hid (p = dtext zs) := by show p = dtext zs; rw [hinv.out, List.take_of_length_le (Nat.le_of_eq HL.out)]
      go_wp2_with fail
      go_ret
      exact ⟨by rw [hf.out] <;> rfl, hbel⟩

end

section
open Go.RowKit

/-- One walk of the text's order serves every order, where each operation yields one value in every world of the class 'Good' and leaves a world of it. The class is handed over as the image of a function that is a letter, so that the walk's facts on cells bear no condition. -/
theorem wp_region_class {P : Program} {id : Nat} {Q : Exit → Act → World → Prop} {a : Act} {w : World} {l : List Oper} (hm : P.follows .mixedOrders = true) (hB : Region.lexB .any l.toArray = true) (Good : World → Prop) (h0 : Good w.drew)
    (h : ∀ (S : Type) [Nonempty S] (f : S → World), (∀ s, Good (f s)) → (∀ W, Good W → ∃ s, W = f s) → wpQuiet P l.toArray (fun w' => ∃ s, w' = f s) (fun a' => ∀ w', (∃ s, w' = f s) → Q .normal a' w') l a) : (Code.region id l.toArray true).wp P Q a w :=
  wp_region_quiet (C := fun w' => ∃ s : {W : World // Good W}, w' = s.1) hm hB ⟨⟨_, h0⟩, rfl⟩ (by simpa using @h {W : World // Good W} ⟨⟨_, h0⟩⟩ (fun s => s.1) (fun s => s.2) (fun W hW => ⟨⟨W, hW⟩, rfl⟩))

theorem Calls.cls {P : Program} {f : FuncId} {args : Array Value} {w : World} {v : Value} {S : Type} {g : S → World} {Good : World → Prop} (hS : ∀ W, Good W → ∃ s, W = g s)
    (h : Calls P f args w fun e w' => e = .returned v ∧ Good w') : Calls P f args w fun e w'' => e = .returned v ∧ ∃ s, w'' = g s := h.mono fun _ _ ⟨he, hg⟩ => ⟨he, hS _ hg⟩

/-- .. for a callee that leaves all that was there. -/
theorem Calls.clsB {P : Program} {f : FuncId} {args : Array Value} {w w0 : World} {v : Value} {S : Type} {g : S → World} (hS : ∀ W, Below w0.heap.size w0 W → ∃ s, W = g s) (hw : Below w0.heap.size w0 w)
    (h : Calls P f args w fun e w' => e = .returned v ∧ Below w.heap.size w w') : Calls P f args w fun e w'' => e = .returned v ∧ ∃ s, w'' = g s := h.mono fun _ _ ⟨he, hg⟩ => ⟨he, hS _ (hw.trans (hg.mono hw.size))⟩

theorem Calls.clsQ {P : Program} {f : FuncId} {args : Array Value} {w w0 : World} {v : Value} {S : Type} {g : S → World} (hS : ∀ W, Below w0.heap.size w0 W → ∃ s, W = g s) (hw : Below w0.heap.size w0 w)
    (h : Calls P f args w fun e w' => e = .returned v ∧ Qt w w') : Calls P f args w fun e w'' => e = .returned v ∧ ∃ s, w'' = g s := Calls.clsB hS hw (h.mono fun _ _ ⟨he, hq⟩ => ⟨he, hq.below _⟩)

theorem Calls.clsE {P : Program} {f : FuncId} {args : Array Value} {w w0 : World} {v : Value} {S : Type} {g : S → World} (hS : ∀ W, Below w0.heap.size w0 W → ∃ s, W = g s) (hw : Below w0.heap.size w0 w)
    (h : Calls P f args w fun e w' => e = .returned v ∧ w = w') : Calls P f args w fun e w'' => e = .returned v ∧ ∃ s, w'' = g s := Calls.clsB hS hw (h.mono fun _ _ ⟨he, hq⟩ => ⟨he, hq ▸ Below.refl _ _⟩)

end

section
open Go.RowKit Go.Sort

/-- The library's table of the powers of ten reads as its initialiser lays it. -/
def Tb (w : World) : Prop := Lib.TabIs Tryz.prog w "internal/strconv.uint64pow10" .u64 Lib.pow10Tab

theorem Tb.on {w w' : World} (h : Tb w) (hb : Below w.heap.size w w') : Tb w' := Lib.tabBelow_of_tabIs h w' hb

theorem Tb.of_heap {w w' : World} (h : Tb w) (e : w'.heap = w.heap) : Tb w' := by
  unfold Tb Lib.TabIs World.var? at *
  rw [e]
  exact h

theorem below_grow (w : World) (q : Nat) (os : Array Obj) : Below w.heap.size w (grow (w.drewN q) os) :=
  ⟨rfl, rfl, rfl, by show w.heap.size ≤ (w.heap ++ os).size; simp, fun k hk => by show (w.heap ++ os)[k]? = w.heap[k]?; rw [Array.getElem?_append_left hk]⟩

theorem itoa_any (n : Int) (w : World) (h1 : -9223372036854775808 ≤ n) (h2 : n ≤ 9223372036854775807) (ht : Tb w) :
    Calls Tryz.prog 85 #[.int .i64 n] w fun e w' => e = .returned (.string ⟨(fmtI n).toArray⟩) ∧ Below w.heap.size w w' := by
  refine (Tryz.strconv_Itoa n h1 h2 w ht).mono fun e w' h => ?_
  obtain ⟨he, k, os, rfl⟩ := h
  exact ⟨by rw [he, itoa_eq], below_grow w k os⟩

set_option maxRecDepth 100000 in
theorem impl_FormatInt_any (n : Int) (w : World) (h1 : -9223372036854775808 ≤ n) (h2 : n ≤ 9223372036854775807) (ht : Tb w) :
    Calls Tryz.prog 56 #[.int .i64 n] w fun e w' => e = .returned (.string ⟨(fmtI n).toArray⟩) ∧ Below w.heap.size w w' := by
  go_enter Tryz.func56, Tryz.ntmps56
  go_wp2_with (go_at_call 85; refine (itoa_any n _ h1 h2 ht).mono ?_; rintro e w1 ⟨rfl, hb⟩)
  go_ret
  exact ⟨rfl, hb⟩

end

section
open Go.RowKit Go.Deep

theorem info_str : (Tryz.prog.info? 9).map (fun i => (i.zero, i.size, i.bytes)) = some (some (.string ByteArray.empty), 1, 16) := by kernel_rfl

/-- New strings, behind a name. -/
def StrsNew (ws : List ByteArray) (w : World) (e : Ending) (w' : World) : Prop :=
  ∃ (A : Option Addr) (c : Nat), e = .returned (.slice A ws.length c) ∧ w'.ownsRow w.heap.size 9 1 (.slice A ws.length c) ws.length (ws.map Value.string) ∧ Below w.heap.size w w'

theorem StrsNew.of {R ws : List ByteArray} {w w' : World} {A : Option Addr} {n c : Nat} (hR : R = ws) (h : w'.ownsRow w.heap.size 9 1 (.slice A n c) ws.length (ws.map Value.string)) (hb : Below w.heap.size w w') :
    StrsNew R w (.returned (.slice A n c)) w' := by
  subst hR
  have hn : R.length = n := by obtain ⟨A1, c1, h1⟩ := own_form h; injection h1 with _ h2 _; exact h2.symm
  subst hn
  exact ⟨A, c, rfl, h, hb⟩

/-- Element k of a row of strings. -/
theorem strs_at {w : World} {lo : Nat} {A : Option Addr} {n c k : Nat} {ws : List ByteArray} {x : ByteArray} (h : w.ownsRow lo 9 1 (.slice A n c) n (ws.map Value.string)) (hn : ws.length = n) (hx : ws[k]? = some x) :
    ∃ g, A = some ⟨g, 0, none⟩ ∧ lo ≤ g ∧ g < w.heap.size ∧ w.cell? ⟨g, k, none⟩ = some (.string x) := by
  have hk : k < ws.length := (List.getElem?_eq_some_iff.1 hx).1
  rcases h.2 with ⟨_, h0⟩ | ⟨g, cap, cur, hv, hlo, hg, hnc, hcm, hsz, ht⟩
  · omega
  · injection hv with hA _ _
    refine ⟨g, hA, hlo, (Array.getElem?_eq_some_iff.1 hg).1, ?_⟩
    rw [cell_of_row w g k cur _ (0, 0) hg]
    have h1 : (cur.toList.take (n * 1))[k]? = (ws.map Value.string)[k]? := by rw [ht]
    rw [List.getElem?_take, if_pos (by omega), List.getElem?_map, hx] at h1
    simpa using h1

end

section
open Go.RowKit Go.Deep

set_option maxRecDepth 100000 in
set_option maxHeartbeats 2000000 in
theorem spec_FormatTable_any (nm : ByteArray) (ar : Int) (A : Option Addr) (n c B : Nat) (rs : List (List Int)) (w : World) (hr : RdR w B A n rs) (hB : B ≤ w.heap.size) (hn : n ≤ 1048576) :
    Calls Tryz.prog 73 #[.agg #[.string nm, .int .i64 ar, .slice A n c]] w fun e w' => e = .returned (.string (fmtT nm ar rs)) ∧ Below w.heap.size w w' := by
  have K0 := Lib.hid (fun (W : World) (b : Below w.heap.size w W) => spec_IsValidTable_any nm ar A n c B rs W (RdR.belowB hr b hB) (Nat.le_trans hB b.size) (by omega))
  have l0 : w.heap.size < (w.alloc (.cells #[.string nm, .int .i64 ar, .slice A n c] 26)).heap.size := by simp
  have HB : Hid (Below w.heap.size w (w.alloc (.cells #[.string nm, .int .i64 ar, .slice A n c] 26))) := (Below.refl _ _).alloc (Nat.le_refl _) _
  have c0 : (w.alloc (.cells #[.string nm, .int .i64 ar, .slice A n c] 26)).cell? ⟨w.heap.size, 0, none⟩ = some (.string nm) := by simp [go_sem]
  have c1 : (w.alloc (.cells #[.string nm, .int .i64 ar, .slice A n c] 26)).cell? ⟨w.heap.size, 1, none⟩ = some (.int .i64 ar) := by simp [go_sem]
  have c2 : (w.alloc (.cells #[.string nm, .int .i64 ar, .slice A n c] 26)).cell? ⟨w.heap.size, 2, none⟩ = some (.slice A n c) := by simp [go_sem]
  cases hv : validT nm ar rs with
  | false =>
    rw [hv] at K0
    have hf : Hid (fmtT nm ar rs = ⟨#[]⟩) := by show _ = _; rw [fmtT, if_neg (by rw [hv]; simp)]
    clear hv hr
    go_enter Tryz.func73, Tryz.ntmps73
    go_wp2_with fail
    generalize w.alloc (.cells #[.string nm, .int .i64 ar, .slice A n c] 26) = W0 at l0 HB c0 c1 c2 ⊢
    refine (K0.out _ HB.out).mono ?_
    rintro e w1 ⟨rfl, b1⟩
    have b2 := HB.out.trans (b1.mono HB.out.size)
    clear b1
    go_wp2_with fail
    go_ret
    exact ⟨by rw [hf.out] <;> rfl, b2⟩
  | true =>
    rw [hv] at K0
    obtain ⟨v1, v2, v3, v4, v5⟩ := validT_vt hv
    have HV := Lib.hid v5
    have hnl : n ≤ 8 := by have := hr.1; omega
    have z1 := tI_size3 v2 v3
    have hz1 : nm.size ≤ 1 := by omega
    obtain ⟨T1, hT1⟩ : ∃ T1, tI ar = T1 := ⟨_, rfl⟩
    have hf0 : Hid (fmtT nm ar rs = ((nm ++ T1) ++ ⟨#[58]⟩) ++ ⟨(rowsL rs).toArray⟩) := by show _ = _; rw [fmtT, if_pos hv, hT1]
    have K1 : Hid (∀ W, Calls Tryz.prog 93 #[.int .i64 ar] W fun e w' => e = .returned (.string T1) ∧ Below W.heap.size W w') := fun W => by rw [← hT1]; exact spec_FormatInt_any ar W (by omega) (by omega)
    rw [hT1] at z1
    have HL := Lib.hid hr.1
    clear hv v1 v5 hT1
    go_enter Tryz.func73, Tryz.ntmps73
    go_wp2_with fail
    generalize w.alloc (.cells #[.string nm, .int .i64 ar, .slice A n c] 26) = W0 at l0 HB c0 c1 c2 ⊢
    refine (K0.out _ HB.out).mono ?_
    rintro e W ⟨rfl, b1⟩
    have HB1 := Lib.hid (HB.out.trans (b1.mono HB.out.size))
    have e0 := (b1.cell (p := ⟨w.heap.size, 0, none⟩) l0).trans c0
    have e1 := (b1.cell (p := ⟨w.heap.size, 1, none⟩) l0).trans c1
    have e2 := (b1.cell (p := ⟨w.heap.size, 2, none⟩) l0).trans c2
    have l1 : w.heap.size < W.heap.size := Nat.lt_of_lt_of_le l0 b1.size
    clear b1 c0 c1 c2 l0 K0
    go_wp2_with fail
    refine wp_region_class (by kernel_rfl) (by kernel_rfl) (fun X => Below W.heap.size W X) ((Below.refl _ _).drew) (fun S _ f hG hS => ?_)
    have y0 : ∀ s, (f s).cell? ⟨w.heap.size, 0, none⟩ = some (.string nm) := fun s => ((hG s).cell (p := ⟨w.heap.size, 0, none⟩) l1).trans e0
    have y1 : ∀ s, (f s).cell? ⟨w.heap.size, 1, none⟩ = some (.int .i64 ar) := fun s => ((hG s).cell (p := ⟨w.heap.size, 1, none⟩) l1).trans e1
    have HG := Lib.hid hG
    have HS := Lib.hid hS
    clear hG hS
    repeat (first | go_big_quiet_step ((go_at_call 93; exact Calls.clsB HS.out (HG.out _) (K1.out _))) | quiet_step ((go_at_call 93; exact Calls.clsB HS.out (HG.out _) (K1.out _))))
    refine wpQuiet_nil ?_
    rintro _ ⟨s, rfl⟩
    have hb2 := HG.out s
    have HB2 := Lib.hid (HB1.out.trans (hb2.mono HB1.out.size))
    have g2 := (hb2.cell (p := ⟨w.heap.size, 2, none⟩) l1).trans e2
    have l2 : w.heap.size < (f s).heap.size := Nat.lt_of_lt_of_le l1 hb2.size
    clear y0 y1 e0 e1 e2 hb2 HG HS HB1
    generalize f s = W2 at g2 l2 HB2 ⊢
    have hH : Hid ((nm ++ T1 ++ ⟨#[58]⟩ : ByteArray).size ≤ 13) := by
      show _ ≤ _
      rw [bsize_append, bsize_append]
      have : (⟨#[58]⟩ : ByteArray).size = 1 := rfl
      omega
    go_wp2_with fail
    go_loopw [3, 4] (fun v i wr => ∃ (k : Nat) (V : ByteArray), k ≤ n ∧ V.size ≤ 45 ∧ i = .int .i64 k ∧ v = .string V ∧ Below W2.heap.size W2 wr ∧ Hid (TInv (nm ++ T1 ++ ⟨#[58]⟩) rs k V)) (fun _ i _ => n - (intOf i).toNat)
    case atStart => exact ⟨0, _, by omega, by have := hH.out; omega, rfl, rfl, Below.refl _ _, TInv.start hH.out⟩
    case round =>
      obtain ⟨k, V, hk, hV, rfl, rfl, hbel, hinv⟩ := hrel
      have hsz := hbel.size
      have d2 := (hbel.cell (p := ⟨w.heap.size, 2, none⟩) l2).trans g2
      have HW := Lib.hid (HB2.out.trans (hbel.mono HB2.out.size))
      by_cases hlt : k < n
      · have hr2 := RdR.belowB hr HW.out hB
        obtain ⟨b, o, x, A', c', rfl, hb, hx, hc, hrd, hm⟩ := RdR.at_ hr2 hlt
        obtain ⟨hx3, hxd⟩ := HV.out x (List.mem_of_getElem? hx)
        have hx3' : x.length ≤ 3 := by omega
        have HX := Lib.hid hxd
        have hrd' := hrd.more (Nat.le_trans hB HW.out.size)
        obtain ⟨D, hD⟩ : ∃ D : ByteArray, D = ⟨(dtext x).toArray⟩ := ⟨_, rfl⟩
        have hDs : D.size ≤ 3 := by rw [hD]; have : (⟨(dtext x).toArray⟩ : ByteArray).size = x.length := dtext_len x; omega
        have KD : Hid (Calls Tryz.prog 94 #[.slice A' x.length c'] wr fun e w' => e = .returned (.string D) ∧ Below wr.heap.size wr w') := by rw [hD]; exact l4Digits_any A' x.length c' x wr hrd' (by omega) HX.out
        by_cases hk0 : k = 0
        · subst hk0
          have hcz := hc
          rw [Nat.add_zero] at hcz
          have hst : Hid (TInv (nm ++ T1 ++ ⟨#[58]⟩) rs (0 + 1) (V ++ D)) := by rw [hD]; exact hinv.out.one hx hx3'
          have hsV : Hid ((V ++ D).size ≤ 45) := by show _ ≤ _; have := hst.out.2; omega
          clear hx hxd hrd hrd' hx3 hm hD hr2
          go_wp2_with fail
          refine KD.out.mono ?_
          rintro e w1 ⟨rfl, hb1⟩
          go_wp2_with fail
          refine ⟨⟨0 + 1, V ++ D, by omega, hsV.out, by go_num, rfl, below_chain hbel hb1 hsz, hst⟩, ?_⟩
          simp [intOf]
          omega
        · have hk1 : 0 < k := by omega
          have hst : Hid (TInv (nm ++ T1 ++ ⟨#[58]⟩) rs (k + 1) ((V ++ ⟨#[32]⟩) ++ D)) := by rw [hD]; exact hinv.out.more hx hk1 hx3'
          have hsV : Hid (((V ++ ⟨#[32]⟩) ++ D).size ≤ 45) := by show _ ≤ _; have := hst.out.2; omega
          have hsV2 : (V ++ ⟨#[32]⟩ : ByteArray).size ≤ 46 := by rw [bsize_append]; have : (⟨#[32]⟩ : ByteArray).size = 1 := rfl; omega
          clear hx hxd hrd hrd' hx3 hm hD hr2 hk0
          go_wp2_with fail
          refine KD.out.mono ?_
          rintro e w1 ⟨rfl, hb1⟩
          go_wp2_with fail
          refine ⟨⟨k + 1, (V ++ ⟨#[32]⟩) ++ D, by omega, hsV.out, by go_num, rfl, below_chain hbel hb1 hsz, hst⟩, ?_⟩
          simp [intOf]
          omega
      · obtain rfl : k = n := by omega
        have hf : Hid (fmtT nm ar rs = V) := by show _ = _; rw [hf0.out, hinv.out.1, List.take_of_length_le (Nat.le_of_eq HL.out)]
        go_wp2_with fail
        go_ret
        exact ⟨by rw [hf.out] <;> rfl, HW.out⟩

set_option maxRecDepth 100000 in
set_option maxHeartbeats 2000000 in
theorem rowsText_any (A : Option Addr) (n c : Nat) (rs : List (List Int)) (w : World) (hr : RdR w w.heap.size A n rs) (hn : n ≤ 8) (hrow : ∀ r ∈ rs, r.length ≤ 3 ∧ ∀ x ∈ r, 0 ≤ x ∧ x ≤ 9) :
    Calls Tryz.prog 57 #[.slice A n c] w fun e w' => e = .returned (.string ⟨(rowsL rs).toArray⟩) ∧ Below w.heap.size w w' := by
  obtain ⟨i0, hi, hz0, hz1, hz2⟩ := info_parts info_str
  have HL := Lib.hid hr.1
  have HV := Lib.hid hrow
  clear hrow
  go_enter Tryz.func57, Tryz.ntmps57
  go_wp2
  go_loopw [3, 9] (fun v i wr => ∃ (k : Nat) (p : List ByteArray), k ≤ n ∧ p.length ≤ k ∧ i = .int .i64 k ∧ wr.ownsRow w.heap.size 9 1 v p.length (p.map Value.string) ∧ Below w.heap.size w wr ∧ Hid (p = (rs.take k).map fun r => ⟨(dtext r).toArray⟩)) (fun _ i _ => n - (intOf i).toNat)
  case atStart => exact ⟨0, [], by omega, by simp, rfl, World.ownsRow_made (base := w.heap.size) (e := 9) (size := 1) w #[] 0 (Nat.le_refl _) (by unfold maxLen; omega) rfl, (Below.refl _ _).alloc (Nat.le_refl _) _, rfl⟩
  case round =>
    obtain ⟨k, p, hk, hpk, rfl, hown, hbel, hinv⟩ := hrel
    have hsz := hbel.size
    by_cases hlt : k < n
    · have hr2 := RdR.belowB hr hbel (Nat.le_refl _)
      obtain ⟨b, o, x, A', c', rfl, hb, hx, hc, hrd, hm⟩ := RdR.at_ hr2 hlt
      obtain ⟨hx3, hxd⟩ := HV.out x (List.mem_of_getElem? hx)
      have HX := Lib.hid hxd
      have hrd' := hrd.more hsz
      obtain ⟨D, hD⟩ : ∃ D : ByteArray, D = ⟨(dtext x).toArray⟩ := ⟨_, rfl⟩
      have KD : Hid (Calls Tryz.prog 86 #[.slice A' x.length c'] wr fun e w' => e = .returned (.string D) ∧ Below wr.heap.size wr w') := by rw [hD]; exact digitsText_any A' x.length c' x wr hrd' (by omega) HX.out
      have hst : Hid (p ++ [D] = (rs.take (k + 1)).map fun r => ⟨(dtext r).toArray⟩) := by show _ = _; rw [List.take_add_one, hx, List.map_append, hinv.out, hD]; rfl
      clear hx hxd hrd hrd' hm hD hr2
      go_wp2_with fail
      refine KD.out.mono ?_
      rintro e w1 ⟨rfl, hb1⟩
      have hbel1 := below_chain hbel hb1 hsz
      have hsz1 := hbel1.size
      have hown1 : w1.ownsRow w.heap.size 9 1 _ p.length (p.map Value.string) := own_keep hown fun g hg => hb1.block g (hown.lt g hg).2
      clear hown hb1 hbel
      go_wp2_with (at_builtin; refine wpList_append_lies _ rfl _ _ _ rfl w.heap.size 9 i0 _ 1 16 Tryz.underlying69 hi hz0 hz1 hz2 rfl (by omega) _ p.length _ rfl (hown1.alloc _) ⟨w1.heap.size, 0, none⟩ 1 1 [.string D] rfl rfl (World.news_of_block (cs := #[.string D]) (t := 9) (fr := (0, 0)) (heap_alloc_new w1 _)) (by simp [Value.oneCell']) (by omega) (by unfold maxLen; omega) (by omega) (by simp; omega) (w1.heap.size + 1) (by simp) ?_; intro g cap w2 hown2 hgrow _ _)
      have hown3 : w2.ownsRow w.heap.size 9 1 (.slice (some ⟨g, 0, none⟩) (p.length + 1) cap) (p ++ [D]).length ((p ++ [D]).map Value.string) := by simpa using hown2
      clear hown2
      refine ⟨⟨k + 1, p ++ [D], by omega, by simp; omega, by go_num, hown3, (hbel1.alloc (by omega) _).grown hgrow (by simp; omega) (fun j hj => (hown1.lt j hj).1), hst⟩, ?_⟩
      simp [intOf]
      omega
    · obtain rfl : k = n := by omega
      have hp : Hid (p.map (·.data.toList) = rs.map dtext) := by
        show _ = _
        rw [hinv.out, List.take_of_length_le (Nat.le_of_eq HL.out), List.map_map]
        rfl
      have hlen : Hid ((Lib.join (p.map (·.data.toList)) (⟨#[32]⟩ : ByteArray).data.toList).length ≤ 140737488355328) := by
        show _ ≤ _
        rw [hp.out]
        have h1 := rowsL_len fun r hr => (HV.out r hr).1
        have h3 := HL.out
        show (rowsL rs).length ≤ _
        omega
      have hf : Hid ((⟨(Lib.join (p.map (·.data.toList)) (⟨#[32]⟩ : ByteArray).data.toList).toArray⟩ : ByteArray) = ⟨(rowsL rs).toArray⟩) := by show _ = _; rw [hp.out]; rfl
      rcases hown.2 with ⟨rfl, h0⟩ | ⟨g, cap, cur, rfl, hb, hg, hnc, hcm, hsize, ht⟩
      · have hp0 : p = [] := List.length_eq_zero_iff.1 h0
        subst hp0
        go_wp2_with fail
        refine (Tryz.strings_Join_none none 0 ⟨#[32]⟩ _).mono ?_
        rintro e w1 ⟨rfl, rfl⟩
        go_wp2_with fail
        go_ret
        exact ⟨by rw [← hf.out] <;> rfl, hbel⟩
      · have hlt := (Array.getElem?_eq_some_iff.1 hg).1
        have hcells : Hid (∀ (j : Nat) x, p[j]? = some x → wr.cell? ⟨g, 0 + j, none⟩ = some (.string x)) := fun j x hx => by
          rw [Nat.zero_add, cell_of_row wr g j cur _ (0, 0) hg]
          have hj : j < p.length := (List.getElem?_eq_some_iff.1 hx).1
          have h1 : (cur.toList.take (p.length * 1))[j]? = (p.map Value.string)[j]? := by rw [ht]
          rw [List.getElem?_take, if_pos (by omega), List.getElem?_map, hx] at h1
          simpa using h1
        clear hg ht
        go_wp2_with fail
        refine (Tryz.strings_Join g 0 cap p ⟨#[32]⟩ _ hcells.out hlt (by omega) hnc hlen.out).mono ?_
        rintro e w1 ⟨rfl, hb1⟩
        have hb2 := below_chain hbel hb1 hsz
        clear hb1
        go_wp2_with fail
        go_ret
        exact ⟨by rw [hf.out] <;> rfl, hb2⟩

set_option maxRecDepth 100000 in
set_option maxHeartbeats 2000000 in
theorem impl_FormatTable_any (nm : ByteArray) (ar : Int) (A : Option Addr) (n c B : Nat) (rs : List (List Int)) (w : World) (ht : Tb w) (hr : RdR w B A n rs) (hB : B ≤ w.heap.size) (hn : n ≤ 1048576) :
    Calls Tryz.prog 17 #[.agg #[.string nm, .int .i64 ar, .slice A n c]] w fun e w' => e = .returned (.string (fmtT nm ar rs)) ∧ Below w.heap.size w w' := by
  have K0 := Lib.hid (fun (W : World) (b : Below w.heap.size w W) => impl_IsValidTable_any nm ar A n c B rs W (RdR.belowB hr b hB) (Nat.le_trans hB b.size) (by omega))
  have l0 : w.heap.size < (w.alloc (.cells #[.string nm, .int .i64 ar, .slice A n c] 26)).heap.size := by simp
  have HB : Hid (Below w.heap.size w (w.alloc (.cells #[.string nm, .int .i64 ar, .slice A n c] 26))) := (Below.refl _ _).alloc (Nat.le_refl _) _
  have c0 : (w.alloc (.cells #[.string nm, .int .i64 ar, .slice A n c] 26)).cell? ⟨w.heap.size, 0, none⟩ = some (.string nm) := by simp [go_sem]
  have c1 : (w.alloc (.cells #[.string nm, .int .i64 ar, .slice A n c] 26)).cell? ⟨w.heap.size, 1, none⟩ = some (.int .i64 ar) := by simp [go_sem]
  have c2 : (w.alloc (.cells #[.string nm, .int .i64 ar, .slice A n c] 26)).cell? ⟨w.heap.size, 2, none⟩ = some (.slice A n c) := by simp [go_sem]
  cases hv : validT nm ar rs with
  | false =>
    rw [hv] at K0
    have hf : Hid (fmtT nm ar rs = ⟨#[]⟩) := by show _ = _; rw [fmtT, if_neg (by rw [hv]; simp)]
    clear hv hr
    go_enter Tryz.func17, Tryz.ntmps17
    go_wp2_with fail
    generalize w.alloc (.cells #[.string nm, .int .i64 ar, .slice A n c] 26) = W0 at l0 HB c0 c1 c2 ⊢
    refine (K0.out _ HB.out).mono ?_
    rintro e w1 ⟨rfl, b1⟩
    have b2 := HB.out.trans (b1.mono HB.out.size)
    clear b1
    go_wp2_with fail
    go_ret
    exact ⟨by rw [hf.out] <;> rfl, b2⟩
  | true =>
    rw [hv] at K0
    obtain ⟨v1, v2, v3, v4, v5⟩ := validT_vt hv
    have hnl : n ≤ 8 := by have := hr.1; omega
    have z1 := tI_size3 v2 v3
    have hz1 : nm.size ≤ 1 := by omega
    obtain ⟨T1, hT1⟩ : ∃ T1, tI ar = T1 := ⟨_, rfl⟩
    obtain ⟨T2, hT2⟩ : ∃ T2 : ByteArray, T2 = ⟨(rowsL rs).toArray⟩ := ⟨_, rfl⟩
    have hf : Hid (fmtT nm ar rs = ((nm ++ T1) ++ ⟨#[58]⟩) ++ T2) := by show _ = _; rw [fmtT, if_pos hv, hT1, hT2]
    have z2 : T2.size ≤ 40 := by
      have h1 := rowsL_len (fun r hr => by have := (v5 r hr).1; omega) (rs := rs)
      have : T2.size = (rowsL rs).length := by rw [hT2]; rfl
      omega
    have K1 : Hid (∀ W, Tb W → Calls Tryz.prog 56 #[.int .i64 ar] W fun e w' => e = .returned (.string T1) ∧ Below W.heap.size W w') := fun W t => by rw [← hT1]; exact impl_FormatInt_any ar W (by omega) (by omega) t
    have K2 : Hid (∀ W, Below w.heap.size w W → Calls Tryz.prog 57 #[.slice A n c] W fun e w' => e = .returned (.string T2) ∧ Below W.heap.size W w') := fun W b => by rw [hT2]; exact rowsText_any A n c rs W ((RdR.belowB hr b hB).more (Nat.le_trans hB b.size)) hnl fun r hr => ⟨by have := (v5 r hr).1; omega, (v5 r hr).2⟩
    rw [hT1] at z1
    clear hv v1 v5 hT1 hT2
    go_enter Tryz.func17, Tryz.ntmps17
    go_wp2_with fail
    generalize w.alloc (.cells #[.string nm, .int .i64 ar, .slice A n c] 26) = W0 at l0 HB c0 c1 c2 ⊢
    refine (K0.out _ HB.out).mono ?_
    rintro e W ⟨rfl, b1⟩
    have HB1 := Lib.hid (HB.out.trans (b1.mono HB.out.size))
    have e0 := (b1.cell (p := ⟨w.heap.size, 0, none⟩) l0).trans c0
    have e1 := (b1.cell (p := ⟨w.heap.size, 1, none⟩) l0).trans c1
    have e2 := (b1.cell (p := ⟨w.heap.size, 2, none⟩) l0).trans c2
    have l1 : w.heap.size < W.heap.size := Nat.lt_of_lt_of_le l0 b1.size
    have HT : Hid (Tb W) := ht.on HB1.out
    clear b1 c0 c1 c2 l0 K0 ht
    go_wp2_with fail
    refine wp_region_class (by kernel_rfl) (by kernel_rfl) (fun X => Below W.heap.size W X) ((Below.refl _ _).drew) (fun S _ f hG hS => ?_)
    have y0 : ∀ s, (f s).cell? ⟨w.heap.size, 0, none⟩ = some (.string nm) := fun s => ((hG s).cell (p := ⟨w.heap.size, 0, none⟩) l1).trans e0
    have y1 : ∀ s, (f s).cell? ⟨w.heap.size, 1, none⟩ = some (.int .i64 ar) := fun s => ((hG s).cell (p := ⟨w.heap.size, 1, none⟩) l1).trans e1
    have y2 : ∀ s, (f s).cell? ⟨w.heap.size, 2, none⟩ = some (.slice A n c) := fun s => ((hG s).cell (p := ⟨w.heap.size, 2, none⟩) l1).trans e2
    have HG := Lib.hid hG
    have HS := Lib.hid hS
    clear hG hS
    have s1 : (nm ++ T1 : ByteArray).size ≤ 12 := by rw [bsize_append]; omega
    have s2 : (nm ++ T1 ++ ⟨#[58]⟩ : ByteArray).size ≤ 13 := by rw [bsize_append]; have : (⟨#[58]⟩ : ByteArray).size = 1 := rfl; omega
    repeat (first | go_big_quiet_step ((first | (go_at_call 56; exact Calls.clsB HS.out (HG.out _) (K1.out _ (HT.out.on (HG.out _)))) | (go_at_call 57; exact Calls.clsB HS.out (HG.out _) (K2.out _ (HB1.out.trans ((HG.out _).mono HB1.out.size)))))) | quiet_step ((first | (go_at_call 56; exact Calls.clsB HS.out (HG.out _) (K1.out _ (HT.out.on (HG.out _)))) | (go_at_call 57; exact Calls.clsB HS.out (HG.out _) (K2.out _ (HB1.out.trans ((HG.out _).mono HB1.out.size)))))))
    refine wpQuiet_nil ?_
    rintro _ ⟨s, rfl⟩
    go_wp2_with fail
    go_ret
    exact ⟨by rw [hf.out] <;> rfl, HB1.out.trans ((HG.out s).mono HB1.out.size)⟩

end

section
open Go.RowKit Go.Deep

def cutB (c : UInt8) (s : ByteArray) : List ByteArray := (cutL c s.data.toList).map fun p => ⟨p.toArray⟩

theorem cutB_len (c : UInt8) (s : ByteArray) : (cutB c s).length ≤ s.size + 1 := by
  unfold cutB
  rw [List.length_map]
  have := cutL_len c s.data.toList
  simpa using this

theorem cutB_mem {c : UInt8} {s x : ByteArray} (h : x ∈ cutB c s) : x.size ≤ s.size := by
  unfold cutB at h
  obtain ⟨p, hp, rfl⟩ := List.mem_map.1 h
  have := (cutL_pieces c _ s.data.toList (Nat.le_refl _) p hp).2
  have h1 : (⟨p.toArray⟩ : ByteArray).size = p.length := rfl
  have h2 : s.data.toList.length = s.size := by simp
  omega

/-- From place f to place k no byte c; the pieces p are done. -/
def CInv (c : UInt8) (s : ByteArray) (f k : Nat) (p : List ByteArray) : Prop :=
  cutB c s = p ++ (cutL c (s.data.toList.drop f)).map (fun q => ⟨q.toArray⟩) ∧ ∀ b ∈ (s.data.toList.drop f).take (k - f), b ≠ c

theorem CInv.start (c : UInt8) (s : ByteArray) : CInv c s 0 0 [] := ⟨by simp [cutB], by simp⟩

theorem drop_split {s : ByteArray} {f k : Nat} (hk : k < s.size) (hf : f ≤ k) : s.data.toList.drop f = (s.data.toList.drop f).take (k - f) ++ s[k] :: s.data.toList.drop (k + 1) := by
  have hl : k < s.data.toList.length := by simpa using hk
  have h1 : s.data.toList[k] = s[k] := rfl
  have h2 := List.take_append_drop (k - f) (s.data.toList.drop f)
  rw [List.drop_drop, show f + (k - f) = k by omega, List.drop_eq_getElem_cons hl, h1] at h2
  exact h2.symm

theorem CInv.cut {c : UInt8} {s : ByteArray} {f k : Nat} {p : List ByteArray} (h : CInv c s f k p) (hk : k < s.size) (hf : f ≤ k) (hc : s[k] = c) : CInv c s (k + 1) (k + 1) (p ++ [s.extract f k]) := by
  refine ⟨?_, by simp⟩
  rw [h.1, drop_split hk hf, hc, cutL_step c _ _ h.2, List.append_assoc, Lib.extract_eq]
  rfl

theorem CInv.go {c : UInt8} {s : ByteArray} {f k : Nat} {p : List ByteArray} (h : CInv c s f k p) (hk : k < s.size) (hf : f ≤ k) (hc : ¬ s[k] = c) : CInv c s f (k + 1) p := by
  refine ⟨h.1, fun b hb => ?_⟩
  have hl : k - f < (s.data.toList.drop f).length := by rw [List.length_drop]; simp; omega
  rw [show k + 1 - f = (k - f) + 1 by omega, List.take_succ_eq_append_getElem hl, List.mem_append, List.mem_singleton] at hb
  rcases hb with hb | rfl
  · exact h.2 b hb
  · rw [List.getElem_drop]
    have : s.data.toList[f + (k - f)]'(by simp; omega) = s[k] := by
      have e : f + (k - f) = k := by omega
      simp only [e]
      rfl
    rw [this]
    exact hc

theorem CInv.fin {c : UInt8} {s : ByteArray} {f : Nat} {p : List ByteArray} (h : CInv c s f s.size p) : cutB c s = p ++ [s.extract f s.size] := by
  have hl : s.data.toList.length = s.size := by simp
  have ht : (s.data.toList.drop f).take (s.size - f) = s.data.toList.drop f := List.take_of_length_le (by rw [List.length_drop]; omega)
  have h2 := h.2
  rw [ht] at h2
  rw [h.1, cutL_none c _ h2, Lib.extract_eq, ht]
  rfl

end

section
open Go.RowKit

theorem gPow : Tryz.prog.globalNamed "internal/strconv.uint64pow10" = some 1 := by kernel_rfl

theorem powData : (Rows.laid_internal_strconv_uint64pow10 : DataW Unit) = Lib.tabData .u64 Lib.pow10Tab := by kernel_rfl

theorem tb_of_laid {W : World} {rest : List (String × DataW Unit)} (h : laidMet Tryz.prog (("internal/strconv.uint64pow10", Rows.laid_internal_strconv_uint64pow10) :: rest) W) : Tb W := by
  rw [powData] at h
  exact Lib.tabIs_of_head gPow (t := 151) (e := 125) (n := 20) (by kernel_rfl) Tryz.underlying151 Tryz.underlying125 (by kernel_rfl) (by kernel_rfl) h

/-- The two errors of the library are there. -/
def Ev (w : World) : Prop := (∃ tp p, w.var? Tryz.prog "strconv.ErrSyntax" = some #[.iface tp p]) ∧ ∃ tp p, w.var? Tryz.prog "strconv.ErrRange" = some #[.iface tp p]

theorem var_on {P : Program} {w w' : World} {name : String} {cs : Array Value} (h : w.var? P name = some cs) (hb : Below w.heap.size w w') : w'.var? P name = some cs := by
  unfold World.var? at *
  cases hg : P.globalNamed name with
  | none => simp [hg] at h
  | some g =>
    simp only [hg, Option.bind_some] at h ⊢
    have hlt : g < w.heap.size := by
      rcases Nat.lt_or_ge g w.heap.size with h' | h'
      · exact h'
      · rw [Array.getElem?_eq_none h'] at h
        cases h
    rw [hb.block g hlt]
    exact h

theorem Ev.on {w w' : World} (h : Ev w) (hb : Below w.heap.size w w') : Ev w' := by
  obtain ⟨⟨t1, p1, e1⟩, t2, p2, e2⟩ := h
  exact ⟨⟨t1, p1, var_on e1 hb⟩, t2, p2, var_on e2 hb⟩

/-- The builder: the row's listed variables, and the world's shape. -/
theorem lifted_and_shaped {H : Type} {enc : TypeId × Value → H} {a : Assume} {C : Checked} {os : Os} {f : FuncId} {fn : Func} {s : ChangeSpec} {conds : List PathCond} {apart fresh handsOn again : Bool} {X : World → Array Value → Prop}
    (hX : ∀ (w w' : World) (args : Array Value), w.heap = w'.heap → X w args → X w' args)
    (own : ownKnob C.prog.godebug = none) (started : os.Started) (noInit : C.prog.inits.idxOf? f = none) (hfn : C.prog.funcs[f]? = some fn)
    (witness : ∃ (w : World) (tape : Tape) (i : Input), w.os = os ∧ (w.forCall tape i).Shaped C.prog ∧ i.vars = [] ∧ Input.okWide C.prog (w.forCall tape i) .any w.heap.size f i ∧
      ((s.pre enc C.prog fn conds apart (w.forCall tape i).memory i.args ∧ X (w.forCall tape i).memory i.args) ∧ sizedMet enc C.prog fn (OpenSpec.ofChange s) apart (w.forCall tape i).memory i.args) ∧ a.holds C.prog (lone (Frame.enter C.prog f i.args .normal) [] (w.forCall tape i)))
    (contract : ∀ (W : World) (base : Nat) (args : Array Value) (ds gs : List (DataW H)) (before : List MemPlace),
      (∀ (j : Nat) t v, fn.params[j]? = some t → args[j]? = some v → Value.okWide C.prog W .any base t v) →
      DataW.Whole enc C.prog fn.params.toList s.vars apart W args.toList ds gs before → X W args → W.ShapedOpen C.prog →
      Calls C.prog f args W fun e W' => ∃ v, e = .returned v ∧ s.post enc C.prog fn apart fresh handsOn again W args v W') :
    ReturnsInHanded a C os f .any (fun w args => (s.pre enc C.prog fn conds apart w args ∧ X w args) ∧ sizedMet enc C.prog fn (OpenSpec.ofChange s) apart w args) (s.post enc C.prog fn apart fresh handsOn again) := by
  refine returnsInHanded_of_calls own started noInit witness ?_
  intro w tape i _ hsh _ hok hpre _
  obtain ⟨_, _, _, fn', hfn', _, _, _, _, hval⟩ := hok
  have e : fn' = fn := Option.some.inj (hfn'.symm.trans hfn)
  subst e
  obtain ⟨⟨⟨ds, gs, before, hw, _⟩, hx⟩, _⟩ := hpre
  have hw' := DataW.Whole.of_heap (w' := w.forCall tape i) (by rfl) hw
  refine (contract (w.forCall tape i) w.heap.size i.args ds gs before hval hw' (hX _ _ _ (by rfl) hx) hsh).mono fun e W' ⟨v, he, hp⟩ => ?_
  subst he
  exact ChangeSpec.post_blind hp

end

section
open Go.RowKit

/-- The cell of the library's that its search reads. -/
def Mx (w : World) : Prop := ∃ m : Int, w.cell? ⟨0, 0, none⟩ = some (.int .i64 m)

theorem Mx.on {w w' : World} (h : Mx w) (hb : Below w.heap.size w w') : Mx w' := by
  obtain ⟨m, hm⟩ := h
  exact ⟨m, (hb.cell (p := ⟨0, 0, none⟩) (World.block_lt_of_cell? w _ hm)).trans hm⟩

theorem mx_of_shaped {w : World} (h : w.ShapedOpen Tryz.prog) : Mx w :=
  cell_of_shapedOpen_int h (of_decide_eq_true (by kernel_rfl)) (t := 3) (zero := #[.int .i64 0]) (by kernel_rfl) rfl (by kernel_rfl) (by kernel_rfl) Tryz.underlying3

end

section
open Go.RowKit Go.Deep

/-- The rows of the words, as the program reads them. -/
def rowsI (s : ByteArray) : List (List Int) := if s.size = 0 then [] else (cutL 32 s.data.toList).map fun p => (digR p).1

theorem rowsI_nil {s : ByteArray} (h : s.size = 0) : rowsI s = [] := by rw [rowsI, if_pos h]

theorem rowsI_cut {s : ByteArray} (h : ¬ s.size = 0) : rowsI s = (cutL 32 s.data.toList).map fun p => (digR p).1 := by rw [rowsI, if_neg h]

/-- strings.Split at one byte. -/
theorem split_any (s : ByteArray) (c : UInt8) (w : World) (hs : s.size ≤ 1048576) (hm : Mx w) :
    Calls Tryz.prog 72 #[.string s, .string ⟨#[c]⟩] w fun e w' => e = .returned (.slice (some ⟨w.heap.size, 0, none⟩) (cutB c s).length (cutB c s).length) ∧ w' = w.alloc (.cells ((cutB c s).map Value.string).toArray 9) := by
  obtain ⟨m, hm⟩ := hm
  have e1 : Lib.splitB ⟨#[c]⟩ 0 (Lib.countB s ⟨#[c]⟩) s = cutB c s := by
    have h := splitB_cutL c s
    unfold cutB
    rw [← h, List.map_map]
    conv => lhs; rw [← List.map_id (Lib.splitB ⟨#[c]⟩ 0 (Lib.countB s ⟨#[c]⟩) s)]
    apply List.map_congr_left
    intro b _
    exact str_of rfl
  have e2 : Lib.countB s ⟨#[c]⟩ + 1 = (cutB c s).length := by
    unfold cutB
    rw [List.length_map]
    exact (count_cutL c s.data.toList).symm
  refine (Tryz.strings_Split s ⟨#[c]⟩ m w (by omega) hm (Nat.le_refl 1)).mono fun e w' ⟨he, hw⟩ => ?_
  rw [e1] at hw
  rw [e2] at he
  exact ⟨he, hw⟩

set_option maxRecDepth 100000 in
set_option maxHeartbeats 2000000 in
theorem rowsOf_any (s : ByteArray) (w : World) (hs : s.size ≤ 1048576) (hm : Mx w) :
    Calls Tryz.prog 58 #[.string s] w (RowsNew (rowsI s) w) := by
  obtain ⟨i0, hi, hz0, hz1, hz2⟩ := info_parts info_row
  by_cases h0 : s.size = 0
  · have hf := Lib.hid (rowsI_nil h0)
    have hz : s = ⟨#[]⟩ := str_of (List.length_eq_zero_iff.1 (by simpa using h0))
    subst hz
    clear h0
    go_enter Tryz.func58, Tryz.ntmps58
    go_wp2_with fail
    go_ret
    rw [hf.out]
    exact RowsNew.of (OwnR.empty w (Nat.le_refl _)) ((Below.refl _ _).alloc (Nat.le_refl _) _)
  · have hf := Lib.hid (rowsI_cut h0)
    have z2 : ¬ s.toList = [] := fun e => h0 (by have := congrArg List.length e; simpa [ByteArray.toList_eq] using this)
    have z0 : (s.toList == []) = false := by simpa using z2
    have z1 : s.toList.isEmpty = false := by simpa using z2
    have hnl : (cutB 32 s).length ≤ 1048577 := by have := cutB_len 32 s; omega
    have HW : Hid ((cutB 32 s).map (fun b => (digR b.data.toList).1) = rowsI s) := by
      show _ = _
      rw [hf.out, cutB, List.map_map]
      rfl
    have HS : Hid (∀ x ∈ cutB 32 s, x.size ≤ 1048576) := fun x hx => Nat.le_trans (cutB_mem hx) hs
    have KS : Hid (∀ W, Mx W → Calls Tryz.prog 72 #[.string s, .string ⟨#[32]⟩] W fun e w' => e = .returned (.slice (some ⟨W.heap.size, 0, none⟩) (cutB 32 s).length (cutB 32 s).length) ∧ w' = W.alloc (.cells ((cutB 32 s).map Value.string).toArray 9)) := fun W m => split_any s 32 W hs m
    clear h0 hf
    generalize cutB 32 s = ws at hnl HW HS KS
    obtain ⟨n, hn⟩ : ∃ n, ws.length = n := ⟨_, rfl⟩
    rw [hn] at hnl KS
    have HL := Lib.hid hn
    clear hn
    go_enter Tryz.func58, Tryz.ntmps58
    go_wp2_with fail
    have hb0 : Below w.heap.size w (w.alloc (.cells #[] 27)) := (Below.refl _ _).alloc (Nat.le_refl _) _
    have hE : Hid (OwnR (w.alloc (.cells #[] 27)) w.heap.size (w.heap.size + 1) (.slice (some ⟨w.heap.size, 0, none⟩) 0 0) []) := by
      show OwnR _ _ _ _ _
      have := OwnR.empty w (Nat.le_refl w.heap.size)
      simpa using this
    have hs0 : (w.alloc (.cells #[] 27)).heap.size = w.heap.size + 1 := by simp
    generalize w.alloc (.cells #[] 27) = w0 at hb0 hE hs0 ⊢
    refine (KS.out _ (hm.on hb0)).mono ?_
    rintro e w1 ⟨rfl, hw1⟩
    have hcell : Hid (∀ (j : Nat) x, ws[j]? = some x → w1.cell? ⟨w0.heap.size, j, none⟩ = some (.string x)) := fun j x hx => by
      rw [hw1, cell_of_row _ w0.heap.size j _ 9 (0, 0) (heap_alloc_new w0 _)]
      simp [hx]
    have hb1 : Below w0.heap.size w0 w1 := by rw [hw1]; exact (Below.refl _ _).alloc (Nat.le_refl _) _
    have hlt0 : w0.heap.size < w1.heap.size := by rw [hw1]; simp
    clear hw1
    have hE1 : Hid (OwnR w1 w.heap.size w1.heap.size (.slice (some ⟨w.heap.size, 0, none⟩) 0 0) []) := (hE.out.below hb1 (by omega)).wide (by omega)
    have hB1 : Below w.heap.size w w1 := hb0.trans (hb1.mono (by omega))
    have hlow : w.heap.size < w0.heap.size := by omega
    clear hE hb1 hb0 hs0
    generalize w0.heap.size = G at hcell hlt0 hlow ⊢
    go_wp2_with fail
    go_loopw [3, 15] (fun v i wr => ∃ k : Nat, k ≤ n ∧ i = .int .i64 k ∧ Hid (OwnR wr w.heap.size wr.heap.size v ((ws.map (fun b => (digR b.data.toList).1)).take k)) ∧ Hid (∀ j, w1.cell? ⟨G, j, none⟩ = wr.cell? ⟨G, j, none⟩) ∧ Hid (∀ g, v.ownBlock = some g → g ≠ G) ∧ Below w.heap.size w wr ∧ G < wr.heap.size) (fun _ i _ => n - (intOf i).toNat)
    case atStart => exact ⟨0, by omega, rfl, hE1.out, fun _ => rfl, fun g hg => by simp [Value.ownBlock] at hg; omega, hB1, hlt0⟩
    case round =>
      obtain ⟨k, hk, rfl, hown, hsame, hne, hbel, hG⟩ := hrel
      have hsz := hbel.size
      by_cases hlt : k < n
      · obtain ⟨x, hx⟩ : ∃ x, ws[k]? = some x := ⟨ws[k]'(by rw [HL.out]; exact hlt), List.getElem?_eq_getElem _⟩
        have hc1 : wr.cell? ⟨G, k, none⟩ = some (.string x) := (hsame.out k).symm.trans (hcell.out k x hx)
        have KD : Hid (Calls Tryz.prog 87 #[.string x] wr (IntsBool (digR x.data.toList) wr)) := digitsOf_any x wr (HS.out x (List.mem_of_getElem? hx))
        have hdl : (digR x.data.toList).1.length ≤ 1048576 := by
          have h1 := digR_len x.data.toList
          have h2 : x.data.toList.length = x.size := by simp
          have h3 := HS.out x (List.mem_of_getElem? hx)
          omega
        obtain ⟨⟨D, okD⟩, hD⟩ : ∃ D, digR x.data.toList = D := ⟨_, rfl⟩
        have HX : Hid ((ws.map (fun b => (digR b.data.toList).1)).take k ++ [D] = (ws.map (fun b => (digR b.data.toList).1)).take (k + 1)) := by
          show _ = _
          rw [List.take_add_one, List.getElem?_map, hx]
          simp [hD]
        have hlk : ((ws.map (fun b => (digR b.data.toList).1)).take k).length = k := by rw [List.length_take, List.length_map, HL.out]; omega
        have HK := Lib.hid hlk
        rw [hD] at KD hdl
        simp only at hdl
        clear hx hD hlk
        go_wp2_with fail
        refine KD.out.mono ?_
        rintro e w2 ⟨A1, c1, rfl, ho1, hb1⟩
        obtain ⟨xs, hrow1, hblk, hclose⟩ := (hown.out.below hb1 (Nat.le_refl _)).open_
        have hs1 := hb1.size
        have HC := Lib.hid hclose
        have HBK := Lib.hid hblk
        have HO := Lib.hid ho1
        rw [HK.out] at hrow1
        clear hclose hblk ho1 hown
        have hrow2 := hrow1.alloc (.cells #[.slice A1 D.length c1] 27)
        clear hrow1
        go_wp2_with (at_builtin; refine wpList_append_lies _ rfl _ _ _ rfl 0 27 i0 _ 1 24 Tryz.underlying24 hi hz0 hz1 hz2 rfl (by omega) _ k _ rfl hrow2 ⟨w2.heap.size, 0, none⟩ 1 1 [.slice A1 D.length c1] rfl rfl (World.news_of_block (cs := #[.slice A1 D.length c1]) (t := 27) (fr := (0, 0)) (heap_alloc_new w2 _)) (by simp [Value.oneCell']) (by omega) (by unfold maxLen; omega) (by omega) (Nat.zero_le _) (w2.heap.size + 1) (by simp) ?_; intro g cap w3 hown2 hgrow hat hlt2)
        have hbel2 : Below w.heap.size w w3 := ((hbel.trans (hb1.mono hsz)).alloc (by omega) (.cells #[.slice A1 D.length c1] 27)).grown hgrow (by simp; omega) (fun j hj => (HBK.out j hj).1)
        have hfin := HC.out (w2.alloc (.cells #[.slice A1 D.length c1] 27)) w3 A1 D c1 wr.heap.size w2.heap.size g cap ((Below.refl _ _).alloc (Nat.le_refl _) _) (HO.out.below ((Below.refl w2.heap.size w2).alloc (Nat.le_refl _) _) (Nat.le_refl _)) (Nat.le_refl _) hsz (by simp) (by simp; omega) (by rw [HK.out]; exact hown2) hgrow (hat.imp (fun h => h) (fun h => by rw [h]; simp))
        rw [HX.out, HK.out] at hfin
        have HF := Lib.hid hfin
        have hG2 : G < (w2.alloc (.cells #[.slice A1 D.length c1] 27)).heap.size := by simp; omega
        have hG3 : G < w3.heap.size := Nat.lt_of_lt_of_le hG2 hgrow.size
        have hsame2 : Hid (∀ j, w1.cell? ⟨G, j, none⟩ = w3.cell? ⟨G, j, none⟩) := fun j => ((hsame.out j).trans (hb1.cell (p := ⟨G, j, none⟩) hG).symm).trans ((((Below.refl w2.heap.size w2).alloc (Nat.le_refl _) (.cells #[.slice A1 D.length c1] 27)).cell (p := ⟨G, j, none⟩) (by show G < _; omega)).symm.trans (World.cell?_of_block (hgrow.block G hG2 fun e => hne.out G e.symm rfl)).symm)
        have hne2 : Hid (∀ g', (Value.slice (some ⟨g, 0, none⟩) (k + 1) cap).ownBlock = some g' → g' ≠ G) := fun g' hg' => by
          simp [Value.ownBlock] at hg'
          subst hg'
          rcases hat with h | h
          · exact hne.out _ h
          · omega
        clear hfin hown2 hgrow hat
        refine ⟨⟨k + 1, by omega, by go_num, HF.out, hsame2, hne2, hbel2, hG3⟩, ?_⟩
        simp [intOf]
        omega
      · obtain rfl : k = n := by omega
        have hf := hown.out
        rw [List.take_of_length_le (by rw [List.length_map, HL.out]; exact Nat.le_refl _), HW.out] at hf
        have HF := Lib.hid hf
        clear hown hf
        go_wp2
        go_ret
        exact RowsNew.of HF.out hbel

end

section
open Go.RowKit Go.Deep

theorem box3_madeD {c w2 : World} {x y z : Value} {t : TypeId} (b1 : Below (c.alloc (.cells #[x, y, z] t)).drew.heap.size (c.alloc (.cells #[x, y, z] t)).drew w2) :
    (w2.cell? ⟨c.heap.size, 0, none⟩ = some x ∧ w2.cell? ⟨c.heap.size, 1, none⟩ = some y ∧ w2.cell? ⟨c.heap.size, 2, none⟩ = some z) ∧ (w2.frozen? ⟨c.heap.size, 0, none⟩ = false ∧ w2.frozen? ⟨c.heap.size, 1, none⟩ = false ∧ w2.frozen? ⟨c.heap.size, 2, none⟩ = false) ∧ c.heap.size < w2.heap.size := by
  have hX : (c.alloc (.cells #[x, y, z] t)).drew.heap.size = c.heap.size + 1 := by show (c.alloc _).heap.size = _; simp
  have hl : ∀ i, ({ block := c.heap.size, off := i } : Addr).block < (c.alloc (.cells #[x, y, z] t)).drew.heap.size := fun i => by rw [hX]; exact Nat.lt_succ_self _
  refine ⟨⟨(b1.cell (hl 0)).trans (by simp [go_sem]), (b1.cell (hl 1)).trans (by simp [go_sem]), (b1.cell (hl 2)).trans (by simp [go_sem])⟩, ⟨(b1.frozen (hl 0)).trans (by simp [go_sem]), (b1.frozen (hl 1)).trans (by simp [go_sem]), (b1.frozen (hl 2)).trans (by simp [go_sem])⟩, ?_⟩
  have := b1.size
  omega

theorem outU {w c : World} {x y z : Value} {t : TypeId} (b : Below (w.alloc (.cells #[x, y, z] t)).heap.size (w.alloc (.cells #[x, y, z] t)) c) :
    (c.cell? ⟨w.heap.size, 0, none⟩ = some x ∧ c.cell? ⟨w.heap.size, 1, none⟩ = some y ∧ c.cell? ⟨w.heap.size, 2, none⟩ = some z) ∧ (c.frozen? ⟨w.heap.size, 0, none⟩ = false ∧ c.frozen? ⟨w.heap.size, 1, none⟩ = false ∧ c.frozen? ⟨w.heap.size, 2, none⟩ = false) ∧ w.heap.size < c.heap.size ∧ Below w.heap.size w c := by
  have hX : (w.alloc (.cells #[x, y, z] t)).heap.size = w.heap.size + 1 := by simp
  have hl : ∀ i, ({ block := w.heap.size, off := i } : Addr).block < (w.alloc (.cells #[x, y, z] t)).heap.size := fun i => by rw [hX]; exact Nat.lt_succ_self _
  refine ⟨⟨(b.cell (hl 0)).trans (by simp [go_sem]), (b.cell (hl 1)).trans (by simp [go_sem]), (b.cell (hl 2)).trans (by simp [go_sem])⟩, ⟨(b.frozen (hl 0)).trans (by simp [go_sem]), (b.frozen (hl 1)).trans (by simp [go_sem]), (b.frozen (hl 2)).trans (by simp [go_sem])⟩, ?_, ?_⟩
  · have := b.size
    omega
  · exact ((Below.refl _ _).alloc (Nat.le_refl _) _).trans (b.mono (by rw [hX]; omega))

end

section
open Go.RowKit Go.Deep

def nmT (s : ByteArray) : ByteArray := s.extract 0 1

def arT (s : ByteArray) : Int := match s.data.toList with | _ :: b :: _ => (b.toNat : Int) - 48 | _ => 0

theorem arT_eq {s : ByteArray} (h : 1 < s.size) : arT s = (s[1].toNat : Int) - 48 := by
  obtain ⟨⟨l⟩⟩ := s
  match l, h with
  | _ :: b :: _, _ => rfl

/-- The rows of the words, as the reference reads them. -/
def rowsS (t : ByteArray) : List (List Int) := if t.size = 0 then [] else (cutL 32 t.data.toList).map ploc

theorem rowsS_nil {s : ByteArray} (h : s.size = 0) : rowsS s = [] := by rw [rowsS, if_pos h]

theorem rowsS_cut {s : ByteArray} (h : ¬ s.size = 0) : rowsS s = (cutB 32 s).map fun b => ploc b.data.toList := by
  rw [rowsS, if_neg h, cutB, List.map_map]
  rfl

theorem rowsS_len (t : ByteArray) : (rowsS t).length ≤ t.size + 1 := by
  unfold rowsS
  split
  · simp
  · rw [List.length_map]
    have := cutL_len 32 t.data.toList
    simpa using this

theorem rowsI_len (t : ByteArray) : (rowsI t).length ≤ t.size + 1 := by
  unfold rowsI
  split
  · simp
  · rw [List.length_map]
    have := cutL_len 32 t.data.toList
    simpa using this

theorem dig_of_ploc {p : List UInt8} (h : ∀ x ∈ ploc p, 0 ≤ x ∧ x ≤ 9) : p.all isDig = true := by
  rw [List.all_eq_true]
  intro b hb
  have := h ((b.toNat : Int) - 48) (List.mem_map.2 ⟨b, hb, rfl⟩)
  exact inB_true (by omega) (by omega)

theorem rows_alike {nm : ByteArray} {ar : Int} {t : ByteArray} (h : validT nm ar (rowsI t) = true ∨ validT nm ar (rowsS t) = true) : rowsI t = rowsS t := by
  by_cases h0 : t.size = 0
  · rw [rowsI_nil h0, rowsS_nil h0]
  · rw [rowsI_cut h0] at h ⊢
    rw [rowsS, if_neg h0] at h ⊢
    have key : ∀ p ∈ cutL 32 t.data.toList, p.all isDig = true := by
      rcases h with h | h
      · have hv := validT_vt h
        intro p hp
        have h1 := (hv.row (digR p).1 (List.mem_map.2 ⟨p, hp, rfl⟩)).1
        have h2 := hv.ar1
        unfold digR at h1
        by_cases hd : p.all isDig = true
        · exact hd
        · rw [if_neg hd] at h1
          simp at h1
          omega
      · have hv := validT_vt h
        intro p hp
        exact dig_of_ploc (hv.row (ploc p) (List.mem_map.2 ⟨p, hp, rfl⟩)).2
    refine List.map_congr_left fun p hp => ?_
    rw [digR, if_pos (key p hp)]

/-- What a text reads as. -/
def parT (s : ByteArray) : TabR := if 3 ≤ s.size ∧ fmtT (nmT s) (arT s) (rowsS (s.extract 3 s.size)) = s then ⟨nmT s, arT s, rowsS (s.extract 3 s.size), true⟩ else ⟨⟨#[]⟩, 0, [], false⟩

theorem parT_no {s : ByteArray} (h : s.size < 3) : parT s = ⟨⟨#[]⟩, 0, [], false⟩ := by rw [parT, if_neg (by omega)]

theorem parT_yes {s : ByteArray} (h : 3 ≤ s.size) (hf : fmtT (nmT s) (arT s) (rowsS (s.extract 3 s.size)) = s) : parT s = ⟨nmT s, arT s, rowsS (s.extract 3 s.size), true⟩ := by rw [parT, if_pos ⟨h, hf⟩]

theorem parT_not {s : ByteArray} (hf : ¬ fmtT (nmT s) (arT s) (rowsS (s.extract 3 s.size)) = s) : parT s = ⟨⟨#[]⟩, 0, [], false⟩ := by rw [parT, if_neg fun h => hf h.2]

theorem fmtT_valid {nm : ByteArray} {ar : Int} {rs : List (List Int)} {s : ByteArray} (h : fmtT nm ar rs = s) (h3 : 3 ≤ s.size) : validT nm ar rs = true := by
  unfold fmtT at h
  split at h
  · assumption
  · subst h; simp [ByteArray.size] at h3

theorem tI_size1 {ar : Int} (h1 : 1 ≤ ar) (h3 : ar ≤ 3) : (tI ar).size ≤ 1 := by
  obtain ⟨N, rfl⟩ := Int.eq_ofNat_of_zero_le (show 0 ≤ ar by omega)
  unfold tI
  rw [fmtI_pos]
  exact decD_len 0 N (by omega)

theorem fmtT_size {nm : ByteArray} {ar : Int} {rs : List (List Int)} (h : validT nm ar rs = true) : (fmtT nm ar rs).size ≤ 35 := by
  have hv := validT_vt h
  rw [fmtT, if_pos h, bsize_append, bsize_append, bsize_append]
  have h1 := tI_size1 hv.ar1 hv.ar3
  have h2 := rowsL_len (rs := rs) fun r hr => by have := (hv.row r hr).1; have := hv.ar3; omega
  have h3 : (⟨(rowsL rs).toArray⟩ : ByteArray).size = (rowsL rs).length := rfl
  have h4 : (⟨#[58]⟩ : ByteArray).size = 1 := rfl
  have := hv.nm1
  have := hv.len
  omega

theorem parT_short {s : ByteArray} (h3 : 3 ≤ s.size) (hf : fmtT (nmT s) (arT s) (rowsS (s.extract 3 s.size)) = s) : s.size ≤ 35 := by
  have := fmtT_size (fmtT_valid hf h3)
  rw [hf] at this
  exact this

/-- The program's rows and the reference's say the same. -/
theorem fmtT_rows {s : ByteArray} (h3 : 3 ≤ s.size) : (fmtT (nmT s) (arT s) (rowsI (s.extract 3 s.size)) = s → rowsI (s.extract 3 s.size) = rowsS (s.extract 3 s.size)) ∧ (fmtT (nmT s) (arT s) (rowsS (s.extract 3 s.size)) = s → rowsI (s.extract 3 s.size) = rowsS (s.extract 3 s.size)) :=
  ⟨fun h => rows_alike (.inl (fmtT_valid h h3)), fun h => rows_alike (.inr (fmtT_valid h h3))⟩

theorem parT_small (s : ByteArray) : (parT s).rs.length ≤ 1048576 ∧ sumL (parT s).rs ≤ 4294967296 := by
  unfold parT
  split
  · rename_i h
    have hv := validT_vt (fmtT_valid h.2 h.1)
    refine ⟨by have := hv.len; show (rowsS _).length ≤ _; omega, ?_⟩
    have key : ∀ l : List (List Int), (∀ r ∈ l, r.length ≤ 3) → sumL l ≤ 3 * l.length := by
      intro l
      induction l with
      | nil => intro _; simp [sumL]
      | cons a l ih =>
        intro h
        have h1 := ih fun r hr => h r (by simp [hr])
        have h2 := h a (by simp)
        simp only [sumL, List.map_cons, List.sum_cons, List.length_cons] at h1 ⊢
        omega
    have h1 := key (rowsS (s.extract 3 s.size)) fun r hr => by have := (hv.row r hr).1; have := hv.ar3; omega
    have h2 := hv.len
    show sumL (rowsS _) ≤ _
    omega
  · simp [sumL]

/-- Behind the world c: p is a new box that holds a table of the call's own. -/
def CutTb (L : Nat) (c : World) (nm : ByteArray) (ar : Int) (rs : List (List Int)) (p : Value) (wx : World) : Prop :=
  ∃ (A : Option Addr) (cc B lo hi : Nat), p = .pointer (some ⟨B, 0, none⟩) ∧ (wx.cell? ⟨B, 0, none⟩ = some (.string nm) ∧ wx.cell? ⟨B, 1, none⟩ = some (.int .i64 ar) ∧ wx.cell? ⟨B, 2, none⟩ = some (.slice A rs.length cc)) ∧
    OwnR wx lo hi (.slice A rs.length cc) rs ∧ hi ≤ wx.heap.size ∧ B < wx.heap.size ∧ c.heap.size ≤ B ∧ L ≤ lo ∧ Below c.heap.size c wx

/-- The box is made last. -/
theorem CutTb.last {L : Nat} {c w1 : World} {nm : ByteArray} {ar : Int} {rs : List (List Int)} {A : Option Addr} {cc lo hi : Nat} (b1 : Below c.heap.size c w1) (ow : OwnR w1 lo hi (.slice A rs.length cc) rs) (hhi : hi ≤ w1.heap.size) (hL : L ≤ lo) :
    CutTb L c nm ar rs (.pointer (some ⟨w1.heap.size, 0, none⟩)) (w1.alloc (.cells #[.string nm, .int .i64 ar, .slice A rs.length cc] 26)) :=
  ⟨A, cc, w1.heap.size, lo, hi, rfl, ⟨by simp [go_sem], by simp [go_sem], by simp [go_sem]⟩, ow.alloc _, by simp; omega, by simp, b1.size, hL, b1.alloc b1.size _⟩

/-- The box is made first, behind the draw. -/
theorem CutTb.first {L : Nat} {c w1 : World} {nm : ByteArray} {ar : Int} {rs : List (List Int)} {A : Option Addr} {cc : Nat} {x y z : Value} {t : TypeId} (b1 : Below (c.alloc (.cells #[x, y, z] t)).drew.heap.size (c.alloc (.cells #[x, y, z] t)).drew w1)
    (ow : OwnR w1 (c.alloc (.cells #[x, y, z] t)).drew.heap.size w1.heap.size (.slice A rs.length cc) rs) (hL : L ≤ c.heap.size) :
    CutTb L c nm ar rs (.pointer (some ⟨c.heap.size, 0, none⟩)) (((w1.setCell ⟨c.heap.size, 0, none⟩ (.string nm)).setCell ⟨c.heap.size, 1, none⟩ (.int .i64 ar)).setCell ⟨c.heap.size, 2, none⟩ (.slice A rs.length cc)) := by
  have hX : (c.alloc (.cells #[x, y, z] t)).drew.heap.size = c.heap.size + 1 := by show (c.alloc _).heap.size = _; simp
  have hs := b1.size
  rw [hX] at hs ow
  have e : ∀ i, (i < 3) → ∃ v, w1.cell? ⟨c.heap.size, i, none⟩ = some v := fun i hi => by
    have := (b1.cell (p := ⟨c.heap.size, i, none⟩) (by rw [hX]; exact Nat.lt_succ_self _))
    rcases i with _ | _ | _ | i
    · exact ⟨x, this.trans (by simp [go_sem])⟩
    · exact ⟨y, this.trans (by simp [go_sem])⟩
    · exact ⟨z, this.trans (by simp [go_sem])⟩
    · omega
  obtain ⟨v0, e0⟩ := e 0 (by omega)
  obtain ⟨v1, e1⟩ := e 1 (by omega)
  obtain ⟨v2, e2⟩ := e 2 (by omega)
  refine ⟨A, cc, c.heap.size, c.heap.size + 1, w1.heap.size, rfl, ⟨?_, ?_, ?_⟩, ((ow.setOff (.inl (by omega))).setOff (.inl (by omega))).setOff (.inl (by omega)), by simp, by simp; omega, Nat.le_refl _, by omega, ?_⟩
  · simp [go_sem, e0]
  · simp [go_sem, e1]
  · simp [go_sem, e2]
  · have h1 : Below c.heap.size c w1 := (((Below.refl _ _).alloc (Nat.le_refl _) (.cells #[x, y, z] t)).drew).trans (b1.mono (by rw [hX]; omega))
    exact ((h1.setCell (Nat.le_refl _) _).setCell (Nat.le_refl _) _).setCell (Nat.le_refl _) _

theorem CutTb.drew {L : Nat} {c wx : World} {nm : ByteArray} {ar : Int} {rs : List (List Int)} {p : Value} (h : CutTb L c nm ar rs p wx) : CutTb L c nm ar rs p wx.drew := by
  obtain ⟨A, cc, B, lo, hi, h1, h2, h3, h4, h5, h6, h7, h8⟩ := h
  exact ⟨A, cc, B, lo, hi, h1, h2, h3.drewN 1, h4, h5, h6, h7, h8.drew⟩

theorem ext_le {s : ByteArray} {k : Nat} (hs : s.size ≤ 1048576) : (s.extract k s.size).size ≤ 1048576 := by rw [ByteArray.size_extract]; omega

end

section
open Go.RowKit Go.Deep

theorem bel_step' {wj W w1 : World} (h : Below wj.heap.size wj W) (b1 : Below W.heap.size W w1) : Below wj.heap.size wj w1 := h.trans (b1.mono h.size)

set_option maxRecDepth 100000 in
set_option maxHeartbeats 2000000 in
theorem impl_ParseTable_any (s : ByteArray) (w : World) (hs : s.size ≤ 1048576) (ht : Tb w) (hm : Mx w) :
    Calls Tryz.prog 18 #[.string s] w (TabBool (parT s) w) := by
  by_cases h3 : 3 ≤ s.size
  · have H3 := Lib.hid h3
    obtain ⟨x, hx⟩ : ∃ x, s[1].toNat = x := ⟨_, rfl⟩
    have hx256 : x < 256 := by have := s[1].toNat_lt; omega
    have har : Hid (arT s = (x : Int) - 48) := by show _ = _; rw [arT_eq (by omega), hx]
    obtain ⟨D, hD⟩ : ∃ D, rowsI (s.extract 3 s.size) = D := ⟨_, rfl⟩
    have hDl : Hid (D.length ≤ 1048576) := by
      show D.length ≤ _
      rw [← hD]
      have h1 := rowsI_len (s.extract 3 s.size)
      rw [ByteArray.size_extract] at h1
      omega
    have HDG := Lib.hid (fmtT_rows h3)
    have KR : Hid (∀ W, Below w.heap.size w W → Calls Tryz.prog 58 #[.string (s.extract 3 s.size)] W (RowsNew D W)) := fun W b => by rw [← hD]; exact rowsOf_any (s.extract 3 s.size) W (ext_le hs) (hm.on b)
    rw [hD, har.out] at HDG
    go_enter Tryz.func18, Tryz.ntmps18
    go_upto_region 3 with fail
    generalize hW : w.alloc (.cells #[.string ⟨#[]⟩, .int .i64 0, .slice none 0 0] 26) = w1
    obtain ⟨⟨r0, r1, r2⟩, ⟨t0, t1, t2⟩, l0, bw⟩ : (w1.cell? ⟨w.heap.size, 0, none⟩ = some (.string ⟨#[]⟩) ∧ w1.cell? ⟨w.heap.size, 1, none⟩ = some (.int .i64 0) ∧ w1.cell? ⟨w.heap.size, 2, none⟩ = some (.slice none 0 0)) ∧ (w1.frozen? ⟨w.heap.size, 0, none⟩ = false ∧ w1.frozen? ⟨w.heap.size, 1, none⟩ = false ∧ w1.frozen? ⟨w.heap.size, 2, none⟩ = false) ∧ w.heap.size < w1.heap.size ∧ Below w.heap.size w w1 := by
      rw [← hW]
      exact outU (Below.refl _ _)
    clear hW
    go_cut [4] (fun p wx => CutTb (w.heap.size + 1) w1 (nmT s) ((x : Int) - 48) D p wx)
    case first =>
      have g0 : (0 : Int) < (s.size : Int) := by omega
      have g1 : (3 : Int) ≤ (s.size : Int) := by omega
      have g2 : 1 < s.size := by omega
      have g3 : (1 : Int) < (s.size : Int) := by omega
      have g4 : (1 : Int) ≤ (s.size : Int) := by omega
      have gw0 : IntKind.i64.wrap (x : Int) = (x : Int) := IntWalk.i64_in _ (by omega)
      have gw : IntKind.i64.wrap ((x : Int) - 48) = (x : Int) - 48 := IntWalk.i64_in _ (by omega)
      have HBW := Lib.hid bw
      have bz : Below w1.heap.size w1 w1.drew := (Below.refl _ _).drew
      have KA : Hid (∀ x y z t, Calls Tryz.prog 58 #[.string (s.extract 3 s.size)] (w1.alloc (.cells #[x, y, z] t)).drew fun e w4 => RowsNew D (w1.alloc (.cells #[x, y, z] t)).drew e w4 ∧
          (w4.cell? ⟨w1.heap.size, 0, none⟩ = some x ∧ w4.cell? ⟨w1.heap.size, 1, none⟩ = some y ∧ w4.cell? ⟨w1.heap.size, 2, none⟩ = some z) ∧ (w4.frozen? ⟨w1.heap.size, 0, none⟩ = false ∧ w4.frozen? ⟨w1.heap.size, 1, none⟩ = false ∧ w4.frozen? ⟨w1.heap.size, 2, none⟩ = false) ∧ w1.heap.size < w4.heap.size) := fun x y z t =>
        (KR.out _ ((HBW.out.alloc HBW.out.size _).drew)).mono fun e w4 h => by
          obtain ⟨A1, c1, he, ho, b1⟩ := h
          exact ⟨⟨A1, c1, he, ho, b1⟩, box3_madeD b1⟩
      have KB : Hid (∀ W, Below w1.heap.size w1 W → Calls Tryz.prog 58 #[.string (s.extract 3 s.size)] W (RowsNew D W)) := fun W b => KR.out W (HBW.out.trans (b.mono HBW.out.size))
      clear bw
      go_region_held3 (fun _ => True) (trivial) (first
        | (go_at_call 58; (with_reducible refine (KA.out _ _ _ _).mono ?_); rintro e w4 ⟨⟨A1, c1, rfl, ho, b1⟩, ⟨e0, e1, e2⟩, ⟨f0, f1, f2⟩, lb⟩)
        | (go_at_call 58; (with_reducible refine (KB.out _ bz).mono ?_); rintro e w4 ⟨A1, c1, rfl, ho, b1⟩))
      all_goals (go_wp2_with fail)
      all_goals (go_meet; (try simp only [gw0, gw]); first | exact CutTb.first b1 ho l0 | exact CutTb.last (bel_step' bz b1) ho (Nat.le_refl _) l0)
    case rest =>
      generalize wc = w2 at hcut ⊢
      obtain ⟨A2, cc, B, lo, hi, rfl, ⟨e0, e1, e2⟩, ow, hhi, hBlt, hcB, hlo, hbw⟩ := hcut
      have ht2 : Tb w2 := ht.on (bw.trans (hbw.mono bw.size))
      go_wp2_with fail
      refine (impl_FormatTable_any _ _ A2 _ cc _ D _ ht2 (ow.rd rfl) hhi hDl.out).mono ?_
      rintro e w3 ⟨rfl, hb3⟩
      have hB0 := hbw.trans (hb3.mono hbw.size)
      have x0 := (hB0.cell (p := ⟨w.heap.size, 0, none⟩) l0).trans r0
      have x1 := (hB0.cell (p := ⟨w.heap.size, 1, none⟩) l0).trans r1
      have x2 := (hB0.cell (p := ⟨w.heap.size, 2, none⟩) l0).trans r2
      have u0 := (hB0.frozen (p := ⟨w.heap.size, 0, none⟩) l0).trans t0
      have u1 := (hB0.frozen (p := ⟨w.heap.size, 1, none⟩) l0).trans t1
      have u2 := (hB0.frozen (p := ⟨w.heap.size, 2, none⟩) l0).trans t2
      have z0 := (hb3.cell (p := ⟨B, 0, none⟩) hBlt).trans e0
      have z1 := (hb3.cell (p := ⟨B, 1, none⟩) hBlt).trans e1
      have z2 := (hb3.cell (p := ⟨B, 2, none⟩) hBlt).trans e2
      have HO := Lib.hid (ow.below hb3 hhi)
      have HBL := Lib.hid (bw.trans (hB0.mono (by omega)))
      have hs3 := hb3.size
      clear ow hbw hb3 hB0 e0 e1 e2 r0 r1 r2 t0 t1 t2
      by_cases hq : fmtT (nmT s) ((x : Int) - 48) D = s
      · have hDS := HDG.out.1 hq
        have hf : Hid (parT s = ⟨nmT s, (x : Int) - 48, D, true⟩) := by
          show _ = _
          rw [parT_yes h3 (by rw [har.out, ← hDS]; exact hq), har.out, ← hDS]
        have q1 : ((fmtT (nmT s) ((x : Int) - 48) D).toList == s.toList) = true := by rw [hq]; simp
        clear hq hDS hD HDG
        go_wp2_with fail
        refine bodyPost_ret (v := .tuple #[.agg #[.string (nmT s), .int .i64 ((x : Int) - 48), .slice A2 (D).length cc], .bool true]) (by simp [results, Tryz.results18, go_sem, *]) rfl (TabBool.of hf.out ?_ ?_)
        · refine OwnR.down (lo := lo) (OwnR.wide (hi := hi) ?_ (by simp; omega)) (by omega)
          repeat (with_reducible first | exact HO.out | refine OwnR.setOff ?_ (.inl (by omega)))
        · repeat (first | exact HBL.out | (refine Below.setCell ?_ ?_ _; rotate_left; (simp; try omega)))
      · have hf : Hid (parT s = ⟨⟨#[]⟩, 0, [], false⟩) := by
          show _ = _
          refine parT_not fun h => hq ?_
          rw [har.out] at h
          rw [HDG.out.2 h]
          exact h
        have q1 := str_eq0 hq
        clear hq hD HDG
        go_wp2_with fail
        refine bodyPost_ret (v := .tuple #[.agg #[.string ⟨#[]⟩, .int .i64 0, .slice none 0 0], .bool false]) (by simp [results, Tryz.results18, go_sem, *]) rfl (TabBool.of hf.out (OwnR.nil _ _ _) ?_)
        repeat (first | exact HBL.out | (refine Below.setCell ?_ ?_ _; rotate_left; (simp; try omega)))
  · have h3' : s.size < 3 := by omega
    have hf := Lib.hid (parT_no h3')
    clear h3
    go_enter Tryz.func18, Tryz.ntmps18
    go_wp2_with fail
    refine bodyPost_ret (v := .tuple #[.agg #[.string ⟨#[]⟩, .int .i64 0, .slice none 0 0], .bool false]) (by simp [results, Tryz.results18, go_sem, *]) rfl (TabBool.of hf.out (OwnR.nil _ _ _) ?_)
    repeat (first | exact (Below.refl _ _).alloc (Nat.le_refl _) _ | (refine Below.setCell ?_ ?_ _; rotate_left; (simp; try omega)))

end

section
open Go.RowKit

theorem putA_back (r : List Int) : ∀ (rs : List (List Int)) (put : Bool), r ∉ rs → (putA r put rs).filter (fun x => decide (¬ x = r)) = rs
  | [], put, _ => by cases put <;> simp [putA]
  | x :: l, put, h => by
    have hx : ¬ x = r := fun e => h (by simp [e])
    have hl : r ∉ l := fun e => h (by simp [e])
    have hf : l.filter (fun x => decide (¬ x = r)) = l := List.filter_eq_self.2 fun y hy => by
      simp only [decide_eq_true_eq]
      rintro rfl
      exact hl hy
    rw [putA]
    split
    · rw [putA_true, List.filter_cons_of_neg (by simp), List.filter_cons_of_pos (by simpa using hx), hf]
    · rw [List.filter_cons_of_pos (by simpa using hx), putA_back r l _ hl]

theorem putA_one {r : List Int} {rs : List (List Int)} (h : r ∉ rs) : (putA r false rs).length = rs.length + 1 := by
  have h1 := (putA_len r rs).2
  have h2 : ((putA r false rs).filter (fun x => decide (¬ x = r))).length < (putA r false rs).length :=
    List.length_filter_lt_length_iff_exists.2 ⟨r, (putA_mem r rs r).2 (.inl rfl), by simp⟩
  rw [putA_back r rs false h] at h2
  omega

theorem insB_parts {nm : ByteArray} {ar : Int} {rs : List (List Int)} {r : List Int} (h : insB nm ar rs r = true) : validT nm ar rs = true ∧ rowB r ar = true ∧ r ∉ rs ∧ rs.length < 8 := by
  unfold insB at h
  simp only [Bool.and_eq_true, Bool.not_eq_true', decide_eq_false_iff_not, decide_eq_true_eq] at h
  exact ⟨h.1, h.2.1, h.2.2.1, h.2.2.2⟩

theorem validT_put {nm : ByteArray} {ar : Int} {rs : List (List Int)} {r : List Int} (h : insB nm ar rs r = true) : validT nm ar (putA r false rs) = true := by
  obtain ⟨hv, hr, hn, hl⟩ := insB_parts h
  have ha := validT_asc hv
  unfold validT at hv ⊢
  simp only [Bool.and_eq_true, decide_eq_true_eq, List.all_eq_true] at hv ⊢
  refine ⟨hv.1, hv.2.1, by rw [putA_one hn]; omega, fun x hx => ?_, ascB_of (putA_asc r rs ha)⟩
  rcases (putA_mem r rs x).1 hx with rfl | hx
  · exact hr
  · exact hv.2.2.2.1 x hx

theorem contB_put {nm : ByteArray} {ar : Int} {rs : List (List Int)} {r : List Int} (h : insB nm ar rs r = true) : contB nm ar (putA r false rs) r = true := by
  unfold contB
  rw [validT_put h, decide_eq_true ((putA_mem r rs r).2 (.inl rfl))]
  rfl

theorem delR_put {nm : ByteArray} {ar : Int} {rs : List (List Int)} {r : List Int} (h : insB nm ar rs r = true) : delR nm ar (putA r false rs) r = ⟨nm, ar, rs, true⟩ := by
  unfold delR
  rw [if_pos (contB_put h), putA_back r rs false (insB_parts h).2.2.1]

theorem insR_yes {nm : ByteArray} {ar : Int} {rs : List (List Int)} {r : List Int} (h : insB nm ar rs r = true) : insR nm ar rs r = ⟨nm, ar, putA r false rs, true⟩ := by rw [insR, if_pos h]

theorem insR_no {nm : ByteArray} {ar : Int} {rs : List (List Int)} {r : List Int} (h : insB nm ar rs r = false) : insR nm ar rs r = ⟨nm, ar, rs, false⟩ := by rw [insR, if_neg (by rw [h]; simp)]

theorem eqT_self (nm : ByteArray) (ar : Int) (rs : List (List Int)) : eqT nm nm ar ar rs rs = true := by simp [eqT]

theorem newR_yes {nm : ByteArray} {ar : Int} {rs : List (List Int)} (h : validT nm ar (sortL rs) = true) : newR nm ar rs = ⟨nm, ar, sortL rs, true⟩ := by rw [newR, if_pos h]

theorem newR_no {nm : ByteArray} {ar : Int} {rs : List (List Int)} (h : validT nm ar (sortL rs) = false) : newR nm ar rs = ⟨⟨#[]⟩, 0, [], false⟩ := by rw [newR, if_neg (by rw [h]; simp)]

theorem contB_sort {nm : ByteArray} {ar : Int} {rs : List (List Int)} {r : List Int} (h : validT nm ar (sortL rs) = true) (hr : r ∈ rs) : contB nm ar (sortL rs) r = true := by
  unfold contB
  rw [h, decide_eq_true ((sortL_mem rs r).2 hr)]
  rfl

end

section
open Go.RowKit

theorem dig_nat {x : Int} (h : 0 ≤ x ∧ x ≤ 9) : (UInt8.ofNat (48 + x.toNat)).toNat = 48 + x.toNat := by
  rw [UInt8.toNat_ofNat']
  omega

theorem ploc_dig {zs : List Int} (h : ∀ x ∈ zs, 0 ≤ x ∧ x ≤ 9) : ploc (dtext zs) = zs := by
  unfold ploc dtext
  rw [List.map_map]
  conv => rhs; rw [← List.map_id zs]
  refine List.map_congr_left fun x hx => ?_
  have := h x hx
  show ((UInt8.ofNat (48 + x.toNat)).toNat : Int) - 48 = x
  rw [dig_nat this]
  omega

theorem dtext_free {zs : List Int} (h : ∀ x ∈ zs, 0 ≤ x ∧ x ≤ 9) : ∀ b ∈ dtext zs, 48 ≤ b.toNat ∧ b.toNat ≤ 57 := fun b hb => by
  obtain ⟨x, hx, rfl⟩ := List.mem_map.1 hb
  have := h x hx
  rw [dig_nat this]
  omega

theorem tI_one {ar : Int} (h1 : 1 ≤ ar) (h3 : ar ≤ 3) : tI ar = ⟨#[UInt8.ofNat (48 + ar.toNat)]⟩ := by
  obtain ⟨N, rfl⟩ := Int.eq_ofNat_of_zero_le (show 0 ≤ ar by omega)
  unfold tI
  rw [fmtI_pos, decD_small (by omega)]
  rfl

/-- The rows of a valid table, behind its head, are read back. -/
theorem rowsS_back {nm : ByteArray} {ar : Int} {rs : List (List Int)} (h : validT nm ar rs = true) : rowsS ⟨(rowsL rs).toArray⟩ = rs := by
  have hv := validT_vt h
  cases rs with
  | nil => rw [rowsS_nil]; simp [rowsL, Lib.join_nil, ByteArray.size]
  | cons r l =>
    have hsz : ¬ (⟨(rowsL (r :: l)).toArray⟩ : ByteArray).size = 0 := by
      have h1 := (hv.row r (by simp)).1
      have h2 := hv.ar1
      have h3 := dtext_len r
      show ¬ (rowsL (r :: l)).toArray.size = 0
      rw [List.size_toArray]
      unfold rowsL
      cases l with
      | nil => rw [List.map_singleton, Lib.join_one]; omega
      | cons s l => rw [List.map_cons, List.map_cons, join_c, List.length_append]; omega
    rw [rowsS, if_neg hsz]
    show (cutL 32 (rowsL (r :: l))).map ploc = r :: l
    unfold rowsL
    rw [cutL_join 32 _ (by simp) (fun w hw b hb e => by
      obtain ⟨x, hx, rfl⟩ := List.mem_map.1 hw
      have := dtext_free (hv.row x hx).2 b hb
      rw [e] at this
      exact absurd this.1 (by decide)), List.map_map]
    conv => rhs; rw [← List.map_id (r :: l)]
    exact List.map_congr_left fun x hx => ploc_dig (hv.row x hx).2

theorem parT_back {nm : ByteArray} {ar : Int} {rs : List (List Int)} (h : validT nm ar rs = true) : parT (fmtT nm ar rs) = ⟨nm, ar, rs, true⟩ := by
  have hv := validT_vt h
  have hnm : nameB nm = true := by
    unfold validT at h
    simp only [Bool.and_eq_true] at h
    exact h.1
  obtain ⟨b, rfl⟩ := nameB_data hnm
  have e : fmtT ⟨#[b]⟩ ar rs = ⟨(b :: UInt8.ofNat (48 + ar.toNat) :: 58 :: rowsL rs).toArray⟩ := by
    rw [fmtT, if_pos h, tI_one hv.ar1 hv.ar3]
    apply ByteArray.ext
    simp
  have e1 : nmT (fmtT ⟨#[b]⟩ ar rs) = ⟨#[b]⟩ := by
    rw [e, nmT]
    apply ByteArray.ext
    simp
  have e2 : arT (fmtT ⟨#[b]⟩ ar rs) = ar := by
    rw [e, arT]
    show ((UInt8.ofNat (48 + ar.toNat)).toNat : Int) - 48 = ar
    have h1 := hv.ar1
    have h3 := hv.ar3
    rw [dig_nat (by omega)]
    omega
  have e3 : (fmtT ⟨#[b]⟩ ar rs).extract 3 (fmtT ⟨#[b]⟩ ar rs).size = ⟨(rowsL rs).toArray⟩ := by
    rw [e]
    apply ByteArray.ext
    simp [ByteArray.size]
  have e4 : 3 ≤ (fmtT ⟨#[b]⟩ ar rs).size := by
    rw [e]
    show 3 ≤ (b :: UInt8.ofNat (48 + ar.toNat) :: 58 :: rowsL rs).toArray.size
    simp
  rw [parT_yes e4 (by rw [e3, e1, e2, rowsS_back h]), e3, e1, e2, rowsS_back h]

theorem parT_none {nm : ByteArray} {ar : Int} {rs : List (List Int)} (h : validT nm ar rs = false) : parT (fmtT nm ar rs) = ⟨⟨#[]⟩, 0, [], false⟩ := by
  rw [fmtT, if_neg (by rw [h]; simp)]
  exact parT_no (by simp [ByteArray.size])

end

section
open Go.RowKit Go.Deep

theorem and255 (n : Int) : bits .and .i64 n 255 = n % 256 := by
  have h127 : (BitVec.ofInt 64 255).toNat = 2 ^ 8 - 1 := by decide
  have key : (BitVec.ofInt 64 n &&& BitVec.ofInt 64 255).toNat = (n % ((2 ^ 64 : Nat) : Int)).toNat % 2 ^ 8 := by
    rw [BitVec.toNat_and, BitVec.toNat_ofInt, h127, Nat.and_two_pow_sub_one_eq_mod]
  show IntKind.i64.wrap ((BitVec.ofInt 64 n &&& BitVec.ofInt 64 255).toNat : Nat) = n % 256
  rw [key, IntKind.wrap_i64]
  omega

theorem and30 (n : Int) : bits .and .i64 n 1073741823 = n % 1073741824 := by
  have h127 : (BitVec.ofInt 64 1073741823).toNat = 2 ^ 30 - 1 := by decide
  have key : (BitVec.ofInt 64 n &&& BitVec.ofInt 64 1073741823).toNat = (n % ((2 ^ 64 : Nat) : Int)).toNat % 2 ^ 30 := by
    rw [BitVec.toNat_and, BitVec.toNat_ofInt, h127, Nat.and_two_pow_sub_one_eq_mod]
  show IntKind.i64.wrap ((BitVec.ofInt 64 n &&& BitVec.ofInt 64 1073741823).toNat : Nat) = n % 1073741824
  rw [key, IntKind.wrap_i64]
  omega

def I64 (z : Int) : Prop := -9223372036854775808 ≤ z ∧ z ≤ 9223372036854775807

theorem i64_wrap (z : Int) : I64 (wrap64 z) := by
  unfold I64 wrap64
  omega

/-- A slice of bytes that lies below block B. -/
def RdC (w : World) (B : Nat) (A : Option Addr) (n : Nat) : Prop := ∀ k, k < n → ∃ b o x, A = some ⟨b, o, none⟩ ∧ b < B ∧ w.cell? ⟨b, o + k, none⟩ = some (.int .u8 x) ∧ 0 ≤ x ∧ x < 256

theorem RdC.keep {w w' : World} {B n : Nat} {A : Option Addr} (h : RdC w B A n) (hk : ∀ b, b < B → w'.heap[b]? = w.heap[b]?) : RdC w' B A n := fun k hlt => by
  obtain ⟨b, o, x, hA, hb, hc, hx⟩ := h k hlt
  exact ⟨b, o, x, hA, hb, (World.cell?_of_block (hk b hb)).trans hc, hx⟩

theorem RdC.more {w : World} {B B' n : Nat} {A : Option Addr} (h : RdC w B A n) (hB : B ≤ B') : RdC w B' A n := fun k hlt => by
  obtain ⟨b, o, x, hA, hb, hc⟩ := h k hlt
  exact ⟨b, o, x, hA, by omega, hc⟩

/-- The cursor in block q. -/
structure Cur (w : World) (q : Nat) : Prop where
  ex : ∃ (A : Option Addr) (n c : Nat) (i h : Int), w.cell? ⟨q, 0, none⟩ = some (.slice A n c) ∧ w.cell? ⟨q, 1, none⟩ = some (.int .i64 i) ∧ w.cell? ⟨q, 2, none⟩ = some (.int .i64 h) ∧ RdC w q A n ∧ 0 ≤ i ∧ i ≤ n ∧ n ≤ 1048576
  fz : ∀ i, w.frozen? ⟨q, i, none⟩ = false
  lt : q < w.heap.size

theorem Cur.keep {w w' : World} {q : Nat} (h : Cur w q) (hk : ∀ b, b ≤ q → w'.heap[b]? = w.heap[b]?) (hs : w.heap.size ≤ w'.heap.size) : Cur w' q := by
  obtain ⟨⟨A, n, c, i, hh, c0, c1, c2, hr, hi⟩, hf, hl⟩ := h
  have e := hk q (Nat.le_refl _)
  exact ⟨⟨A, n, c, i, hh, (World.cell?_of_block e).trans c0, (World.cell?_of_block e).trans c1, (World.cell?_of_block e).trans c2, hr.keep fun b hb => hk b (by omega), hi⟩, fun i => (World.frozen?_of_block e).trans (hf i), Nat.lt_of_lt_of_le hl hs⟩

theorem Cur.next {w w' : World} {q : Nat} (h : Cur w q) (b : Below w.heap.size w w') : Cur w' q := h.keep (fun k hk => b.block k (Nat.lt_of_le_of_lt hk h.lt)) b.size

theorem Cur.drew {w : World} {q : Nat} (h : Cur w q) : Cur w.drew q := h.next (Below.refl _ _).drew

theorem Cur.drewN {w : World} {q : Nat} (h : Cur w q) (k : Nat) : Cur (w.drewN k) q := h.next (below_drewN (Below.refl _ _) k)

theorem Chg.setCell {w : World} {q i : Nat} {x : Value} : Chg q (q + 1) w (w.setCell ⟨q, i, none⟩ x) :=
  ⟨rfl, rfl, rfl, by simp [World.setCell], fun k _ hn => Below.heap_setCell _ _ _ k (by show ¬ k = q; omega)⟩

theorem Chg.drewN {lo hi : Nat} {w : World} (k : Nat) : Chg lo hi w (w.drewN k) := by
  have h := below_drewN (Below.refl w.heap.size w) k
  exact ⟨h.os, h.tape, h.output, h.size, fun i hi _ => h.block i hi⟩

/-- Behind a change, blocks may come. -/
theorem Chg.after {lo hi : Nat} {w w1 w2 : World} (h : Chg lo hi w w1) (b : Below w.heap.size w1 w2) : Chg lo hi w w2 :=
  ⟨b.os.trans h.os, b.tape.trans h.tape, b.output.trans h.output, Nat.le_trans h.size b.size, fun i hi hn => (b.block i hi).trans (h.block i hi hn)⟩

theorem Cur.set {w : World} {q j : Nat} {x : Int} {A : Option Addr} {n c : Nat} {i h : Int} (hc : Cur w q) (c0 : w.cell? ⟨q, 0, none⟩ = some (.slice A n c)) (c1 : w.cell? ⟨q, 1, none⟩ = some (.int .i64 i)) (c2 : w.cell? ⟨q, 2, none⟩ = some (.int .i64 h))
    (hj : j = 1 ∧ 0 ≤ x ∧ x ≤ n ∨ j = 2) : Cur (w.setCell ⟨q, j, none⟩ (.int .i64 x)) q := by
  obtain ⟨⟨A', n', c', i', h', d0, d1, d2, hr, hi⟩, hf, hl⟩ := hc
  rw [c0] at d0
  injection d0 with d0
  injection d0 with e1 e2 e3
  subst e1 e2 e3
  rw [c1] at d1
  injection d1 with d1
  injection d1 with _ e4
  subst e4
  have hrr : RdC (w.setCell ⟨q, j, none⟩ (.int .i64 x)) q A n := hr.keep fun b hb => Below.heap_setCell _ _ _ b (by show ¬ b = q; omega)
  have hsz : q < (w.setCell ⟨q, j, none⟩ (.int .i64 x)).heap.size := by simpa [World.setCell] using hl
  rcases hj with ⟨rfl, hx⟩ | rfl
  · exact ⟨⟨A, n, c, x, h, (cell_set_other (by omega)).trans c0, cell_set_same c1, (cell_set_other (by omega)).trans c2, hrr, hx.1, hx.2, hi.2.2⟩, fun i => frozen_set.trans (hf i), hsz⟩
  · exact ⟨⟨A, n, c, i, x, (cell_set_other (by omega)).trans c0, (cell_set_other (by omega)).trans c1, cell_set_same c2, hrr, hi⟩, fun i => frozen_set.trans (hf i), hsz⟩

/-- A number drawn, and the cursor moved on. -/
def DrI (P : Int → Prop) (q : Nat) (w : World) (e : Ending) (w' : World) : Prop := ∃ x : Int, e = .returned (.int .i64 x) ∧ P x ∧ Cur w' q ∧ Chg q (q + 1) w w'

set_option maxRecDepth 100000 in
set_option maxHeartbeats 1000000 in
theorem l1Byte_any (q : Nat) (w : World) (hc : Cur w q) :
    Calls Tryz.prog 84 #[.pointer (some ⟨q, 0, none⟩)] w (DrI (fun x => 0 ≤ x ∧ x ≤ 255) q w) := by
  obtain ⟨A, n, c, i, h, c0, c1, c2, hr, hi0, hin, hn⟩ := hc.ex
  have f2 := hc.fz 2
  go_enter Tryz.func84, Tryz.ntmps84
  go_wp2_with fail
  generalize (wrap64 (wrap64 (h * 6364136223846793005) + 1442695040888963407)) = H
  have HC1 := Lib.hid (hc.set (j := 2) (x := H) c0 c1 c2 (.inr rfl))
  have HG1 : Hid (Chg q (q + 1) w (w.setCell ⟨q, 2, none⟩ (.int .i64 H))) := Chg.setCell
  have d0 : (w.setCell ⟨q, 2, none⟩ (.int .i64 H)).cell? ⟨q, 0, none⟩ = some (.slice A n c) := (cell_set_other (by omega)).trans c0
  have d1 : (w.setCell ⟨q, 2, none⟩ (.int .i64 H)).cell? ⟨q, 1, none⟩ = some (.int .i64 i) := (cell_set_other (by omega)).trans c1
  have d2 : (w.setCell ⟨q, 2, none⟩ (.int .i64 H)).cell? ⟨q, 2, none⟩ = some (.int .i64 H) := cell_set_same c2
  have HR : Hid (RdC (w.setCell ⟨q, 2, none⟩ (.int .i64 H)) q A n) := hr.keep fun b hb => Below.heap_setCell _ _ _ b (by show ¬ b = q; omega)
  clear hc c0 c1 c2 hr f2
  generalize w.setCell ⟨q, 2, none⟩ (.int .i64 H) = w1 at HC1 HG1 d0 d1 d2 HR ⊢
  go_quiet (fail)
  obtain ⟨X, hX⟩ : ∃ X, bits BinOp.and IntKind.i64 (bits BinOp.xor IntKind.i64 (H / 8589934592) (H / 35184372088832)) 255 = X := ⟨_, rfl⟩
  have hx0 : 0 ≤ X ∧ X ≤ 255 := by rw [← hX, and255]; omega
  rw [hX]
  clear hX
  have HC2 := Lib.hid (HC1.out.drewN nq)
  have HG2 := Lib.hid (HG1.out.trans (Chg.drewN nq))
  have e0 : (w1.drewN nq).cell? ⟨q, 0, none⟩ = some (.slice A n c) := d0
  have e1 : (w1.drewN nq).cell? ⟨q, 1, none⟩ = some (.int .i64 i) := d1
  have e2 : (w1.drewN nq).cell? ⟨q, 2, none⟩ = some (.int .i64 H) := d2
  have HR2 : Hid (RdC (w1.drewN nq) q A n) := HR.out.keep fun b hb => rfl
  clear d0 d1 d2 HC1 HG1 HR
  generalize w1.drewN nq = w2 at HC2 HG2 e0 e1 e2 HR2 ⊢
  obtain ⟨k, rfl⟩ := Int.eq_ofNat_of_zero_le hi0
  go_wp2_with fail
  by_cases hlt : k < n
  · have g1 : (0 : Int) ≤ (k : Int) := by omega
    have g2 : (k : Int) < (n : Int) := by omega
    have g3 : (k : Int).toNat = k := by omega
    obtain ⟨b, o, x, rfl, hb, hc, hx⟩ := HR2.out k hlt
    go_quiet (fail)
    have HC3 := Lib.hid (HC2.out.drewN nq)
    have HG3 := Lib.hid (HG2.out.trans (Chg.drewN nq))
    have d0 : (w2.drewN nq).cell? ⟨q, 0, none⟩ = some (.slice (some ⟨b, o, none⟩) n c) := e0
    have d1 : (w2.drewN nq).cell? ⟨q, 1, none⟩ = some (.int .i64 (k : Int)) := e1
    have d2 : (w2.drewN nq).cell? ⟨q, 2, none⟩ = some (.int .i64 H) := e2
    have d3 : (w2.drewN nq).cell? ⟨b, o + k, none⟩ = some (.int .u8 x) := hc
    clear e0 e1 e2 hc HC2 HG2 HR2
    generalize w2.drewN nq = w3 at HC3 HG3 d0 d1 d2 d3 ⊢
    go_wp2_with fail
    go_quiet (fail)
    have HC4 := Lib.hid (HC3.out.drewN nq)
    have HG4 := Lib.hid (HG3.out.trans (Chg.drewN nq))
    have e0 : (w3.drewN nq).cell? ⟨q, 0, none⟩ = some (.slice (some ⟨b, o, none⟩) n c) := d0
    have e1 : (w3.drewN nq).cell? ⟨q, 1, none⟩ = some (.int .i64 (k : Int)) := d1
    have e2 : (w3.drewN nq).cell? ⟨q, 2, none⟩ = some (.int .i64 H) := d2
    clear d0 d1 d2 d3 HC3 HG3
    generalize w3.drewN nq = w4 at HC4 HG4 e0 e1 e2 ⊢
    have hY : 0 ≤ bits .and .i64 (X + x) 255 ∧ bits .and .i64 (X + x) 255 ≤ 255 := by rw [and255]; omega
    have f1 := HC4.out.fz 1
    trace_state
    go_wp2_with fail
    trace_state
    have HC5 := Lib.hid (HC4.out.set (j := 1) (x := (k : Int) + 1) e0 e1 e2 (.inl ⟨rfl, by omega, by omega⟩))
    go_ret
    exact ⟨_, rfl, hY, HC5.out, HG4.out.trans Chg.setCell⟩
  · have g2 : ¬ (k : Int) < (n : Int) := by omega
    go_quiet (fail)
    have HC3 := Lib.hid (HC2.out.drewN nq)
    have HG3 := Lib.hid (HG2.out.trans (Chg.drewN nq))
    go_wp2_with fail
    go_ret
    exact ⟨_, rfl, hx0, HC3.out, HG3.out⟩

end

section
open Go.RowKit Go.Deep

/-- The cursor is made. -/
def DrC (w : World) (e : Ending) (w' : World) : Prop := e = .returned (.pointer (some ⟨w.heap.size, 0, none⟩)) ∧ Cur w' w.heap.size ∧ Below w.heap.size w w'

set_option maxRecDepth 100000 in
set_option maxHeartbeats 1000000 in
theorem l1New_any (A : Option Addr) (n c : Nat) (w : World) (hr : RdC w w.heap.size A n) (hn : n ≤ 1048576) :
    Calls Tryz.prog 48 #[.slice A n c] w (DrC w) := by
  go_enter Tryz.func48, Tryz.ntmps48
  go_wp2_with fail
  go_loopw [3, 4] (fun h i wr => ∃ (H : Int) (k : Nat), h = .int .i64 H ∧ i = .int .i64 k ∧ 0 ≤ H ∧ H ≤ 1073741824 ∧ k ≤ n ∧ k ≤ 4000 ∧ wr = w) (fun _ i _ => n - (intOf i).toNat)
  case atStart => exact ⟨_, 0, rfl, rfl, by omega, by omega, by omega, by omega, rfl⟩
  case round =>
    obtain ⟨H, k, rfl, rfl, h0, h1, hk, hk4, rfl⟩ := hrel
    by_cases hlt : k < n
    · by_cases h4 : k < 4000
      · have g1 : (0 : Int) ≤ (k : Int) := by omega
        have g2 : (k : Int) < (n : Int) := by omega
        have g3 : (k : Int).toNat = k := by omega
        have g4 : (k : Int) < 4000 := by omega
        obtain ⟨b, o, x, rfl, hb, hc, hx0, hx1⟩ := hr k hlt
        have hY : ∀ z, 0 ≤ bits .and .i64 z 1073741823 ∧ bits .and .i64 z 1073741823 ≤ 1073741824 := fun z => by rw [and30]; omega
        go_wp2_with fail
        refine ⟨⟨_, k + 1, rfl, by go_num, (hY _).1, (hY _).2, by omega, by omega, trivial⟩, ?_⟩
        simp [intOf]
        omega
      · have g2 : (k : Int) < (n : Int) := by omega
        have g4 : ¬ (k : Int) < 4000 := by omega
        go_wp2_with fail
        go_ret
        refine ⟨rfl, ⟨⟨A, n, c, 0, H, by simp [go_sem], by simp [go_sem], by simp [go_sem], hr.keep fun b hb => ?_, by omega, by omega, hn⟩, fun i => by simp [go_sem], by simp⟩, (Below.refl _ _).alloc (Nat.le_refl _) _⟩
        exact ((Below.refl _ _).alloc (Nat.le_refl _) _).block b hb
    · have g2 : ¬ (k : Int) < (n : Int) := by omega
      go_wp2_with fail
      go_ret
      refine ⟨rfl, ⟨⟨A, n, c, 0, H, by simp [go_sem], by simp [go_sem], by simp [go_sem], hr.keep fun b hb => ?_, by omega, by omega, hn⟩, fun i => by simp [go_sem], by simp⟩, (Below.refl _ _).alloc (Nat.le_refl _) _⟩
      exact ((Below.refl _ _).alloc (Nat.le_refl _) _).block b hb

set_option maxRecDepth 100000 in
set_option maxHeartbeats 1000000 in
theorem l1Below_any (q : Nat) (n : Int) (w : World) (hc : Cur w q) (hn : n ≤ 9223372036854775807) :
    Calls Tryz.prog 49 #[.pointer (some ⟨q, 0, none⟩), .int .i64 n] w (DrI (fun x => 0 ≤ x ∧ (x < n ∨ x = 0)) q w) := by
  by_cases h0 : n ≤ 0
  · go_enter Tryz.func49, Tryz.ntmps49
    go_wp2_with fail
    go_ret
    exact ⟨0, rfl, ⟨by omega, .inr rfl⟩, hc, Chg.refl _ _ _⟩
  · have hz : ¬ n = 0 := by omega
    by_cases h1 : n ≤ 256
    · go_enter Tryz.func49, Tryz.ntmps49
      go_wp2_with fail
      refine (l1Byte_any q w hc).mono ?_
      rintro e w1 ⟨x, rfl, ⟨hx0, hx1⟩, hc1, hg1⟩
      have e1 : x.tmod n = x % n := Int.tmod_eq_emod_of_nonneg hx0
      have r0 : 0 ≤ x % n := Int.emod_nonneg _ hz
      have r1 : x % n < n := Int.emod_lt_of_pos _ (by omega)
      have e2 : IntKind.i64.wrap (x % n) = x % n := IntWalk.i64_in _ (by omega)
      go_wp2_with fail
      go_ret
      exact ⟨x % n, rfl, ⟨r0, .inl r1⟩, hc1, hg1⟩
    · go_enter Tryz.func49, Tryz.ntmps49
      go_wp2_with fail
      refine (l1Byte_any q w hc).mono ?_
      rintro e w1 ⟨x, rfl, ⟨hx0, hx1⟩, hc1, hg1⟩
      go_wp2_with fail
      refine (l1Byte_any q w1 hc1).mono ?_
      rintro e w2 ⟨y, rfl, ⟨hy0, hy1⟩, hc2, hg2⟩
      go_wp2_with fail
      refine (l1Byte_any q w2 hc2).mono ?_
      rintro e w3 ⟨z, rfl, ⟨hz0, hz1⟩, hc3, hg3⟩
      go_wp2_with fail
      refine (l1Byte_any q w3 hc3).mono ?_
      rintro e w4 ⟨u, rfl, ⟨hu0, hu1⟩, hc4, hg4⟩
      obtain ⟨X, hX⟩ : ∃ X, x * 16777216 + y * 65536 + z * 256 + u = X := ⟨_, rfl⟩
      have hX0 : 0 ≤ X := by omega
      have e1 : X.tmod n = X % n := Int.tmod_eq_emod_of_nonneg hX0
      have r0 : 0 ≤ X % n := Int.emod_nonneg _ hz
      have r1 : X % n < n := Int.emod_lt_of_pos _ (by omega)
      have e2 : IntKind.i64.wrap (X % n) = X % n := IntWalk.i64_in _ (by omega)
      go_wp2_with fail
      go_ret
      exact ⟨X % n, rfl, ⟨r0, .inl r1⟩, hc4, ((hg1.trans hg2).trans hg3).trans hg4⟩

set_option maxRecDepth 100000 in
set_option maxHeartbeats 1000000 in
theorem l1PickInt_any (q b o n c : Nat) (P : Int → Prop) (w : World) (hc : Cur w q) (hb : b < w.heap.size) (hbq : b ≠ q) (hn : 0 < n) (hn2 : n ≤ 1048576) (hcell : ∀ k, k < n → ∃ z, w.cell? ⟨b, o + k, none⟩ = some (.int .i64 z) ∧ P z) :
    Calls Tryz.prog 52 #[.pointer (some ⟨q, 0, none⟩), .slice (some ⟨b, o, none⟩) n c] w (DrI P q w) := by
  go_enter Tryz.func52, Tryz.ntmps52
  go_wp2_with fail
  refine (l1Below_any q n w hc (by omega)).mono ?_
  rintro e w1 ⟨x, rfl, ⟨hx0, hx1⟩, hc1, hg1⟩
  obtain ⟨k, rfl⟩ := Int.eq_ofNat_of_zero_le hx0
  have hk : k < n := by omega
  have g2 : (k : Int) < (n : Int) := by omega
  have g3 : (k : Int).toNat = k := by omega
  obtain ⟨z, hz, hP⟩ := hcell k hk
  have d0 : w1.cell? ⟨b, o + k, none⟩ = some (.int .i64 z) := (World.cell?_of_block (hg1.block b hb (by omega))).trans hz
  go_wp2_with fail
  go_ret
  exact ⟨z, rfl, hP, hc1, hg1⟩

theorem i64_of (z : Int) (h : (Lit.int .i64 z).wf = true) : I64 z := by
  exact int_wf h

theorem row_ints (w : World) (l : List Int) (t : TypeId) (k : Nat) (hk : k < l.length) : (w.alloc (.cells (l.map (Value.int .i64)).toArray t)).cell? ⟨w.heap.size, 0 + k, none⟩ = some (.int .i64 l[k]) := by
  simp [go_sem, hk]

theorem all_i64 (l : List Int) (h : (l.all fun z => decide (-9223372036854775808 ≤ z ∧ z ≤ 9223372036854775807)) = true) : ∀ z ∈ l, I64 z := fun z hz => by
  have := List.all_eq_true.1 h z hz
  simp only [decide_eq_true_eq] at this
  exact this

theorem Chg.setOff {q lo i : Nat} {w w1 : World} {x : Value} (h : Chg q (q + 1) w w1) (hl : w.heap.size ≤ lo) : Chg q (q + 1) w (w1.setCell ⟨lo, i, none⟩ x) :=
  h.after ((Below.refl _ _).setCell hl x)

theorem Cur.setOff {q lo i : Nat} {w : World} {x : Value} (h : Cur w q) (hl : q < lo) : Cur (w.setCell ⟨lo, i, none⟩ x) q :=
  h.keep (fun b hb => Below.heap_setCell _ _ _ b (by show ¬ b = lo; omega)) (by simp [World.setCell])

theorem Chg.al {lo hi : Nat} {w w1 : World} {o : Obj} (h : Chg lo hi w w1) : Chg lo hi w (w1.alloc o) := h.after ((Below.refl _ _).alloc h.size o)

theorem Cur.al {q : Nat} {w : World} {o : Obj} (h : Cur w q) : Cur (w.alloc o) q := h.next ((Below.refl _ _).alloc (Nat.le_refl _) o)

theorem l1Once_any (q : Nat) (n : Int) (w : World) (hc : Cur w q) (hn : n ≤ 9223372036854775807) :
    Calls Tryz.prog 60 #[.pointer (some ⟨q, 0, none⟩), .int .i64 n] w fun e w' => ∃ b : Bool, e = .returned (.bool b) ∧ Cur w' q ∧ Chg q (q + 1) w w' := by
  go_enter Tryz.func60, Tryz.ntmps60
  go_wp2_with fail
  refine (l1Below_any q n w hc hn).mono ?_
  rintro e w1 ⟨x, rfl, _, hc1, hg1⟩
  go_wp2_with fail
  go_ret
  exact ⟨_, rfl, hc1, hg1⟩

theorem rdC_of_row {w : World} {a : Option Addr} {len cap : Nat} {zs : List Int} (h : IsRow .u8 w a len cap zs) : RdC w w.heap.size a len := fun k hk => by
  rcases h with ⟨_, h0, _⟩ | ⟨x, rfl, hl, hm, hz, hcell, hwz⟩
  · omega
  · have hk2 : k < zs.length := by omega
    obtain ⟨b, o, spot⟩ := x
    have hc0 := hcell 0 (by omega)
    have hspot : spot = none := by simpa [Addr.add] using World.cell?_spot hc0
    subst hspot
    have hc := hcell k hk2
    have hw := hwz (zs.getD k 0) (by simp [List.getD, List.getElem?_eq_getElem hk2])
    rw [addr_add] at hc
    have h' : (decide (IntKind.u8.min ≤ zs.getD k 0) && decide (zs.getD k 0 ≤ IntKind.u8.max)) = true := hw
    have e1 : IntKind.u8.min = 0 := by decide
    have e2 : IntKind.u8.max = 255 := by decide
    rw [e1, e2] at h'
    simp only [Bool.and_eq_true, decide_eq_true_eq] at h'
    exact ⟨b, o, zs.getD k 0, rfl, World.block_lt_of_cell? w _ hc, hc, by omega, by omega⟩

theorem big_any (A : Option Addr) (n c : Nat) (w : World) : Calls Tryz.prog 5 #[.slice A n c] w fun e w' => e = .returned (.bool (decide ((1048576 : Int) < n))) ∧ w = w' := by
  by_cases h : (1048576 : Int) < n
  · have h2 := decide_eq_true h
    go_enter Tryz.func5, Tryz.ntmps5
    go_wp2_with fail
    go_ret
    exact ⟨by first | (rw [h2] <;> rfl) | rfl, rfl⟩
  · have h2 := decide_eq_false h
    go_enter Tryz.func5, Tryz.ntmps5
    go_wp2_with fail
    go_ret
    exact ⟨by first | (rw [h2] <;> rfl) | rfl, rfl⟩

def CurAt (q : Nat) (w1 W : World) : Prop := Cur W q ∧ Chg q (q + 1) w1 W

end

section
open Go.RowKit Go.Deep Go.ChangeShapes Go.WideShapes

theorem list_of_each {α : Type} {Q : Nat → α → Prop} : ∀ n : Nat, (∀ i, i < n → ∃ a, Q i a) → ∃ ls : List α, ls.length = n ∧ ∀ j a, ls[j]? = some a → Q j a
  | 0, _ => ⟨[], rfl, fun j a h => by simp at h⟩
  | n + 1, h => by
    obtain ⟨ls, h1, h2⟩ := list_of_each n fun i hi => h i (by omega)
    obtain ⟨a, ha⟩ := h n (by omega)
    refine ⟨ls ++ [a], by simp [h1], fun j b hb => ?_⟩
    rw [List.getElem?_append] at hb
    split at hb
    · exact h2 j b hb
    · rename_i hj
      have hj' : j < (ls ++ [a]).length := by
        rcases Nat.lt_or_ge j (ls ++ [a]).length with h3 | h3
        · exact h3
        · rw [List.getElem?_eq_none (by simp at h3 ⊢; omega)] at hb
          cases hb
      have : j = n := by simp at hj'; omega
      subst this
      rw [h1, Nat.sub_self] at hb
      simp at hb
      exact hb ▸ ha

section

variable {H : Type} {enc : TypeId × Value → H} {W : World}

theorem open_rdSl {α : Type} {R : World → Nat → List Value → α → Prop} {t e : TypeId} {size fuel : Nat} {cs : List Value} {x : DataW H × List MemPlace}
    (ht : Tryz.prog.underlying t = some (.slice e)) (hC : Tryz.prog.cellsOf e = size) (h0 : 0 < size)
    (hR : ∀ (n : Nat) (cs' : List Value) (y : DataW H × List MemPlace), cs'.length = size → DataW.trod enc Tryz.prog W 0 (fun _ => true) true n e cs' = some y → ∃ a, R W W.heap.size cs' a)
    (h : DataW.trod enc Tryz.prog W 0 (fun _ => true) true fuel t cs = some x) :
    ∃ (A : Option Addr) (len cap : Nat) (ls : List α), cs = [.slice A len cap] ∧ len ≤ maxLen ∧ RdSl size R W W.heap.size A len ls := by
  rcases open_slice ht h with ⟨hcs, _⟩ | ⟨a, len, cap, m, n, D, Pl, hcs, _, hl, hm, hmm, _, hi⟩
  · exact ⟨none, 0, 0, [], hcs, by unfold maxLen; omega, rfl, fun h => absurd h (by omega)⟩
  · simp only [if_true] at hmm
    subst hmm
    obtain ⟨b, off, spot⟩ := a
    obtain ⟨ls, h1, h2⟩ := list_of_each (α := α) (Q := fun i a' => ∃ cs' : List Value, cs'.length = size ∧ (∀ j y, cs'[j]? = some y → W.cell? (((⟨b, off, spot⟩ : Addr).add (i * size)).add j) = some y) ∧ R W W.heap.size cs' a') len fun i hil => by
      obtain ⟨cs', hc, htr⟩ := hi i (by omega)
      rw [hC] at hc
      obtain ⟨_, hcl, hat⟩ := World.cells?_some hc
      obtain ⟨a', ha'⟩ := hR n cs' _ hcl htr
      exact ⟨a', cs', hcl, fun j y hy => by rw [hat j (by rw [← hcl]; exact (List.getElem?_eq_some_iff.1 hy).1)]; exact hy, ha'⟩
    refine ⟨some ⟨b, off, spot⟩, len, m, ls, hcs, by omega, h1, fun hn => ?_⟩
    obtain ⟨cs0, hl0, hc0, _⟩ := h2 0 ls[0] (List.getElem?_eq_getElem (by omega))
    have hc := hc0 0 cs0[0] (List.getElem?_eq_getElem (by omega))
    have hspot : spot = none := by simpa [Addr.add] using World.cell?_spot hc
    subst hspot
    rw [addr_add, addr_add] at hc
    refine ⟨b, off, rfl, World.block_lt_of_cell? W _ hc, fun j a' ha' => ?_⟩
    obtain ⟨cs', k1, k2, k3⟩ := h2 j a' ha'
    exact ⟨cs', k1, fun i y hy => by
      have := k2 i y hy
      rwa [addr_add, addr_add, Nat.add_assoc] at this, k3⟩

/-- A slice of ints among the cells. -/
theorem open_rRow {n : Nat} {cs' : List Value} {y : DataW H × List MemPlace} (h : DataW.trod enc Tryz.prog W 0 (fun _ => true) true n 27 cs' = some y) : ∃ r, RRow W W.heap.size cs' r := by
  rcases open_ints Tryz.underlying27 Tryz.underlying3 (by kernel_rfl) h with ⟨hcs, _⟩ | ⟨x, l, c, zs, hcs, _, hl, hm, hz, _, hcell, hwz⟩
  · exact ⟨[], none, 0, hcs, ⟨rfl, fun h => absurd h (by simp)⟩, by unfold maxLen; simp⟩
  · have hr := (rdI_of_row (w := W) (a := some x) (len := l) (cap := c) (zs := zs) (.inr ⟨_, rfl, hl, hm, by simpa using hz, hcell, hwz⟩)).1
    have hlen := hr.1
    refine ⟨zs.take l, some x, c, by rw [hlen]; exact hcs, by rw [hlen]; exact hr, by omega⟩

/-- An argument of type [][]int. -/
theorem open_rows {fuel : Nat} {cs : List Value} {x : DataW H × List MemPlace} (h : DataW.trod enc Tryz.prog W 0 (fun _ => true) true fuel 24 cs = some x) :
    ∃ (A : Option Addr) (len cap : Nat) (rs : List (List Int)), cs = [.slice A len cap] ∧ len ≤ maxLen ∧ RdR W W.heap.size A len rs :=
  open_rdSl Tryz.underlying24 (by kernel_rfl) (by omega) (fun _ _ _ _ ht => open_rRow ht) h

end

end

section
open Go.RowKit Go.Deep

structure Tab where
  nm : ByteArray
  ar : Int
  rs : List (List Int)

/-- A table among the cells of a slice. -/
def RTab (w : World) (B : Nat) (cs : List Value) (t : Tab) : Prop := ∃ A c, cs = [.string t.nm, .int .i64 t.ar, .slice A t.rs.length c] ∧ RdR w B A t.rs.length t.rs ∧ t.rs.length ≤ maxLen ∧ t.nm.size ≤ maxLen

theorem rTab_ok : RdOk RTab where
  keep := fun ⟨A, c, h1, h2, h3, h4⟩ hk => ⟨A, c, h1, RdSl.keep rRow_ok h2 hk, h3, h4⟩
  more := fun ⟨A, c, h1, h2, h3, h4⟩ hB => ⟨A, c, h1, RdR.more h2 hB, h3, h4⟩

abbrev RdT (w : World) (B : Nat) (A : Option Addr) (n : Nat) (ts : List Tab) : Prop := RdSl 3 RTab w B A n ts

theorem RdT.at_ {w : World} {B n : Nat} {A : Option Addr} {ts : List Tab} (h : RdT w B A n ts) {k : Nat} (hk : k < n) :
    ∃ b o t A' c', A = some ⟨b, o, none⟩ ∧ b < B ∧ ts[k]? = some t ∧ w.cell? ⟨b, o + k * 3, none⟩ = some (.string t.nm) ∧ w.cell? ⟨b, o + k * 3 + 1, none⟩ = some (.int .i64 t.ar) ∧ w.cell? ⟨b, o + k * 3 + 2, none⟩ = some (.slice A' t.rs.length c') ∧
      RdR w B A' t.rs.length t.rs ∧ t.rs.length ≤ maxLen ∧ t.nm.size ≤ maxLen := by
  obtain ⟨b, o, t, cs, hA, hb, hr, _, hc, A', c', rfl, hrd, hm, hn⟩ := RdSl.at_ h hk
  refine ⟨b, o, t, A', c', hA, hb, hr, ?_, ?_, ?_, hrd, hm, hn⟩
  · have := hc 0 _ rfl
    rwa [Nat.add_zero] at this
  · have := hc 1 _ rfl
    rwa [← Nat.add_assoc] at this
  · have := hc 2 _ rfl
    rwa [← Nat.add_assoc] at this

theorem RdT.chg {w w' : World} {B n a b : Nat} {A : Option Addr} {ts : List Tab} (h : RdT w B A n ts) (c : Chg a b w w') (hB : B ≤ a) (hs : B ≤ w.heap.size) : RdT w' B A n ts := RdSl.keep rTab_ok h fun k hk => c.block k (by omega) (by omega)

theorem RdT.belowB {w w' : World} {B B' n : Nat} {A : Option Addr} {ts : List Tab} (h : RdT w B A n ts) (b : Below B' w w') (hB : B ≤ B') : RdT w' B A n ts := RdSl.below rTab_ok h b hB

theorem RdT.more {w : World} {B B' n : Nat} {A : Option Addr} {ts : List Tab} (h : RdT w B A n ts) (hB : B ≤ B') : RdT w B' A n ts := RdSl.more rTab_ok h hB

theorem Qt.rdT {w w' : World} {A : Option Addr} {n : Nat} {ts : List Tab} (hq : Qt w w') (h : RdT w w.heap.size A n ts) : RdT w' w'.heap.size A n ts := by
  have := RdT.belowB h (hq.below w.heap.size) (Nat.le_refl _)
  rwa [← hq.heap] at this

theorem rdT_next {W w1 : World} {A : Option Addr} {n : Nat} {ts : List Tab} (b : Below W.heap.size W w1) (h : RdT W W.heap.size A n ts) : RdT w1 w1.heap.size A n ts := (RdT.belowB h b (Nat.le_refl _)).more b.size

theorem OwnT.keepH {α : Type} {e : TypeId} {size : Nat} {E : World → (Nat → Prop) → List Value → α → Prop} {w w' : World} {F : Nat → Prop} {v : Value} {ts : List (Item α)} (ok : OwnOk E) (h : OwnT e size E w F v ts) (hk : ∀ k, F k → w'.heap[k]? = w.heap[k]?) : OwnT e size E w' F v ts :=
  ⟨ownsRow_keep h.row fun g hg => hk g (h.head g hg).1, h.len, fun t ht => ok.keep (h.elem t ht) fun k hf => hk k (h.inF t ht k hf), h.apart, h.head, h.inF, fun k hf => lt_of_heap_eq (hk k hf) (h.bound k hf)⟩

theorem OwnR.keepH {w w' : World} {lo hi : Nat} {v : Value} {rs : List (List Int)} (h : OwnR w lo hi v rs) (hk : ∀ k, lo ≤ k ∧ k < hi → w'.heap[k]? = w.heap[k]?) : OwnR w' lo hi v rs := by
  obtain ⟨F, ⟨ts, h0, h1⟩, h2⟩ := h
  exact ⟨F, ⟨ts, h0, h1.keepH eRow_ok fun k hf => hk k (h2 k hf)⟩, h2⟩

/-- A table of the call's own. -/
def ETab (w : World) (F : Nat → Prop) (cs : List Value) (t : Tab) : Prop :=
  ∃ A c lo hi, cs = [.string t.nm, .int .i64 t.ar, .slice A t.rs.length c] ∧ OwnR w lo hi (.slice A t.rs.length c) t.rs ∧ t.nm.size ≤ maxLen ∧ t.rs.length ≤ maxLen ∧ (∀ k, lo ≤ k ∧ k < hi → F k) ∧ ∀ k, F k → k < w.heap.size

theorem eTab_ok : OwnOk ETab where
  bound := fun ⟨_, _, _, _, _, _, _, _, _, h⟩ => h
  keep := fun ⟨A, c, lo, hi, h1, h2, h3, h3', h4, h5⟩ hk => ⟨A, c, lo, hi, h1, h2.keepH fun k hk' => hk k (h4 k hk'), h3, h3', h4, fun k hf => lt_of_heap_eq (hk k hf) (h5 k hf)⟩

theorem OwnR.len_max {w : World} {lo hi : Nat} {v : Value} {rs : List (List Int)} (h : OwnR w lo hi v rs) : rs.length ≤ maxLen := by
  obtain ⟨F, ⟨ts, rfl, h1⟩, _⟩ := h
  rw [List.length_map]
  exact ownsRow_max h1.row

theorem ETab.of {w : World} {lo hi c : Nat} {A : Option Addr} {nm : ByteArray} {ar : Int} {rs : List (List Int)} (h : OwnR w lo hi (.slice A rs.length c) rs) (hn : nm.size ≤ maxLen) (hh : hi ≤ w.heap.size) :
    ETab w (fun k => lo ≤ k ∧ k < hi) [.string nm, .int .i64 ar, .slice A rs.length c] ⟨nm, ar, rs⟩ :=
  ⟨A, c, lo, hi, rfl, h, hn, h.len_max, fun _ h => h, fun k hk => by omega⟩

theorem rTab_of {w : World} {G : Nat → Prop} {B : Nat} {cs : List Value} {t : Tab} (h : ETab w G cs t) (hB : ∀ k, G k → k < B) : RTab w B cs t := by
  obtain ⟨A, c, lo, hi, h1, h2, h3, h3', h4, h5⟩ := h
  obtain ⟨F, k1, k2⟩ := h2
  exact ⟨A, c, h1, k1.rd rfl (by omega) (fun k hk => hB k (h4 k (k2 k hk))) fun G cs a hE hG => rRow_of hE hG, h3', h3⟩

/-- A slice of tables of the call's own, in blocks from lo to hi. -/
def OwnD (w : World) (lo hi : Nat) (v : Value) (ts : List Tab) : Prop := ∃ F, OwnSl 26 3 ETab w F v ts ∧ ∀ k, F k → lo ≤ k ∧ k < hi

theorem OwnD.form {w : World} {lo hi : Nat} {v : Value} {ts : List Tab} (h : OwnD w lo hi v ts) : ∃ A c, v = .slice A ts.length c := by
  obtain ⟨F, h1, _⟩ := h
  exact h1.form

theorem OwnD.len_eq {w : World} {lo hi n c : Nat} {A : Option Addr} {ts : List Tab} (h : OwnD w lo hi (.slice A n c) ts) : ts.length = n := by
  obtain ⟨A', c', hv⟩ := h.form
  injection hv with _ hn _
  exact hn.symm

theorem OwnD.rd {w : World} {lo hi n c : Nat} {A : Option Addr} {ts : List Tab} (h : OwnD w lo hi (.slice A n c) ts) (hn : ts.length = n) : RdT w hi A n ts := by
  obtain ⟨F, h1, h2⟩ := h
  exact h1.rd hn (by omega) (fun k hk => (h2 k hk).2) fun G cs a hE hG => rTab_of hE hG

theorem OwnD.chg {w w' : World} {lo hi a b : Nat} {v : Value} {ts : List Tab} (h : OwnD w lo hi v ts) (c : Chg a b w w') (hd : hi ≤ a ∨ b ≤ lo) : OwnD w' lo hi v ts := by
  obtain ⟨F, h1, h2⟩ := h
  exact ⟨F, h1.keep eTab_ok c.size fun k hk => c.block k (h1.bound k hk) (by have := h2 k hk; omega), h2⟩

theorem OwnD.below {w w' : World} {lo hi B : Nat} {v : Value} {ts : List Tab} (h : OwnD w lo hi v ts) (b : Below B w w') (hd : hi ≤ B) : OwnD w' lo hi v ts := by
  obtain ⟨F, h1, h2⟩ := h
  exact ⟨F, h1.keep eTab_ok b.size fun k hk => b.block k (by have := h2 k hk; omega), h2⟩

theorem OwnD.wide {w : World} {lo hi hi' : Nat} {v : Value} {ts : List Tab} (h : OwnD w lo hi v ts) (hd : hi ≤ hi') : OwnD w lo hi' v ts := by
  obtain ⟨F, h1, h2⟩ := h
  exact ⟨F, h1, fun k hk => by have := h2 k hk; omega⟩

theorem OwnD.down {w : World} {lo lo' hi : Nat} {v : Value} {ts : List Tab} (h : OwnD w lo hi v ts) (hd : lo' ≤ lo) : OwnD w lo' hi v ts := by
  obtain ⟨F, h1, h2⟩ := h
  exact ⟨F, h1, fun k hk => by have := h2 k hk; omega⟩

theorem OwnD.nil (w : World) (lo hi : Nat) : OwnD w lo hi (.slice none 0 0) [] := ⟨fun _ => False, OwnSl.nil w _ (by simp), by simp⟩

theorem OwnD.setOff {w : World} {lo hi b i : Nat} {v x : Value} {ts : List Tab} (h : OwnD w lo hi v ts) (hb : b < lo ∨ hi ≤ b) : OwnD (w.setCell ⟨b, i, none⟩ x) lo hi v ts := by
  obtain ⟨F, h1, h2⟩ := h
  exact ⟨F, h1.chgF eTab_ok (chgF_setCell w b i x) fun k hk e => by have := h2 k hk; omega, h2⟩

theorem OwnD.drewN {w : World} {lo hi : Nat} {v : Value} {ts : List Tab} (h : OwnD w lo hi v ts) (q : Nat) : OwnD (w.drewN q) lo hi v ts := by
  obtain ⟨F, h1, h2⟩ := h
  exact ⟨F, h1.chgF eTab_ok (chgF_drewN w q fun _ => False) (fun _ _ => id), h2⟩

theorem OwnD.alloc {w : World} {lo hi : Nat} {v : Value} {ts : List Tab} (h : OwnD w lo hi v ts) (o : Obj) : OwnD (w.alloc o) lo hi v ts := by
  obtain ⟨F, h1, h2⟩ := h
  exact ⟨F, h1.chgF eTab_ok (chgF_alloc w o fun _ => False) (fun _ _ => id), h2⟩

/-- Owned tables, laid open for one table more. -/
theorem OwnD.open_ {w : World} {lo hi : Nat} {v : Value} {ts : List Tab} (h : OwnD w lo hi v ts) : ∃ xs : List Value, w.ownsRow 0 26 3 v ts.length xs ∧ (∀ g, v.ownBlock = some g → lo ≤ g ∧ g < hi ∧ g < w.heap.size) ∧
    ∀ (w1 w' : World) (A1 : Option Addr) (nm : ByteArray) (ar : Int) (rs : List (List Int)) (c1 lo1 hi1 g cap : Nat), Below w.heap.size w w1 → OwnR w1 lo1 hi1 (.slice A1 rs.length c1) rs → nm.size ≤ maxLen → hi ≤ lo1 → lo ≤ lo1 → hi1 ≤ w1.heap.size → lo ≤ w1.heap.size →
      w'.ownsRow 0 26 3 (.slice (some ⟨g, 0, none⟩) (ts.length + 1) cap) (ts.length + 1) (xs ++ [.string nm, .int .i64 ar, .slice A1 rs.length c1]) → w1.grownBy w' v.ownBlock → (v.ownBlock = some g ∨ g = w1.heap.size) →
      OwnD w' lo w'.heap.size (.slice (some ⟨g, 0, none⟩) (ts.length + 1) cap) (ts ++ [⟨nm, ar, rs⟩]) := by
  obtain ⟨F, h1, h2⟩ := h
  obtain ⟨xs, k1, k2, k3⟩ := h1.open_ eTab_ok
  refine ⟨xs, k1, fun g hg => ⟨(h2 g (k2 g hg)).1, (h2 g (k2 g hg)).2, h1.bound g (k2 g hg)⟩, fun w1 w' A1 nm ar rs c1 lo1 hi1 g cap hb ho hnm hlo hlo' hhi hl hown hgrow hat => ?_⟩
  have := k3 w1 w' (fun k => lo1 ≤ k ∧ k < hi1) [.string nm, .int .i64 ar, .slice A1 rs.length c1] ⟨nm, ar, rs⟩ g cap ⟨hb.os, hb.tape, hb.output, hb.size, fun i hi _ => hb.block i hi⟩ (ETab.of ho hnm hhi) rfl (fun k hk hk' => by have := h2 k hk; omega) hown hgrow (by rcases hat with h | h; exact .inl h; exact .inr (by omega))
  refine ⟨_, this, fun k hk => ⟨?_, this.bound k hk⟩⟩
  rcases hk with hk | hk | rfl
  · exact (h2 k hk).1
  · omega
  · rcases hat with h | h
    · exact (h2 k (k2 k h)).1
    · omega

/-- Element k of owned tables: its cells, its rows, and what becomes of the whole. -/
theorem OwnD.at_ {w : World} {lo hi n c k : Nat} {A : Option Addr} {ts : List Tab} (h : OwnD w lo hi (.slice A n c) ts) (hn : ts.length = n) (hk : k < n) :
    ∃ g t A' c' lo' hi', A = some ⟨g, 0, none⟩ ∧ lo ≤ g ∧ g < hi ∧ g < w.heap.size ∧ ts[k]? = some t ∧
      (w.cell? ⟨g, k * 3, none⟩ = some (.string t.nm) ∧ w.cell? ⟨g, k * 3 + 1, none⟩ = some (.int .i64 t.ar) ∧ w.cell? ⟨g, k * 3 + 2, none⟩ = some (.slice A' t.rs.length c')) ∧
      (w.frozen? ⟨g, k * 3, none⟩ = false ∧ w.frozen? ⟨g, k * 3 + 1, none⟩ = false ∧ w.frozen? ⟨g, k * 3 + 2, none⟩ = false) ∧ OwnR w lo' hi' (.slice A' t.rs.length c') t.rs ∧ t.rs.length ≤ maxLen ∧
      (∀ w' rs', rs'.length = t.rs.length → OwnR w' lo' hi' (.slice A' t.rs.length c') rs' → Chg lo' hi' w w' → OwnD w' lo hi (.slice A n c) (ts.set k ⟨t.nm, t.ar, rs'⟩) ∧ Chg lo hi w w') ∧
      (∀ w1 (nm : ByteArray), nm.size ≤ maxLen → Below w.heap.size w w1 → OwnD (w1.setCell ⟨g, k * 3, none⟩ (.string nm)) lo hi (.slice A n c) (ts.set k ⟨nm, t.ar, t.rs⟩)) ∧
      (∀ w1 (ar : Int), Below w.heap.size w w1 → OwnD (w1.setCell ⟨g, k * 3 + 1, none⟩ (.int .i64 ar)) lo hi (.slice A n c) (ts.set k ⟨t.nm, ar, t.rs⟩)) ∧
      (∀ w1 A1 (rs : List (List Int)) c1 lo1 hi1, Below w.heap.size w w1 → OwnR w1 lo1 hi1 (.slice A1 rs.length c1) rs → w.heap.size ≤ lo1 → hi1 ≤ w1.heap.size → lo ≤ w.heap.size → OwnD (w1.setCell ⟨g, k * 3 + 2, none⟩ (.slice A1 rs.length c1)) lo w1.heap.size (.slice A n c) (ts.set k ⟨t.nm, t.ar, rs⟩)) := by
  obtain ⟨F, h1, h2⟩ := h
  subst hn
  obtain ⟨g, cap, hv, hFg, cs, t, H, hr, hl, hE, hH, hc, hup, hput⟩ := h1.at_ eTab_ok hk (by omega)
  injection hv with hA _ _
  have hE0 := hE
  obtain ⟨A', c', lo', hi', rfl, ho, hnm, hrl, hiv, hHb⟩ := hE
  have c0 := hc 0 _ rfl
  have c1 := hc 1 _ rfl
  have c2 := hc 2 _ rfl
  rw [Nat.add_zero] at c0
  have cF : ∀ w1, Below w.heap.size w w1 → ChgF (fun _ => False) w w1 := fun w1 b => ⟨b.os, b.tape, b.output, b.size, fun i hi _ => b.block i hi⟩
  have fin : ∀ (w1 : World) (i : Nat) (x : Value) (ts' : List Tab), OwnSl 26 3 ETab (w1.setCell ⟨g, i, none⟩ x) (fun k => F k ∨ H k) (.slice A ts.length c) ts' → OwnD (w1.setCell ⟨g, i, none⟩ x) lo hi (.slice A ts.length c) ts' := fun w1 i x ts' hh =>
    ⟨_, hh, fun k hk => by rcases hk with hk | hk; exact h2 k hk; exact h2 k (hH k hk).1⟩
  refine ⟨g, t, A', c', lo', hi', hA, (h2 g hFg).1, (h2 g hFg).2, h1.bound g hFg, hr, ⟨c0.1, c1.1, c2.1⟩, ⟨c0.2, c1.2, c2.2⟩, ho, hrl, fun w' rs' hl' ho' hch => ?_, fun w1 nm hnm' b => ?_, fun w1 ar b => ?_, fun w1 A1 rs c1' lo1 hi1 b ho1 hlo1 hhi1 hlo => ?_⟩
  · have hcF : ChgF H w w' := ⟨hch.os, hch.tape, hch.output, hch.size, fun k hk hne => hch.block k hk (by
      rcases Nat.lt_or_ge k lo' with h | h
      · exact .inl h
      · rcases Nat.lt_or_ge k hi' with h' | h'
        · exact absurd (hiv k ⟨h, h'⟩) hne
        · exact .inr h')⟩
    have hE' : ETab w' H [.string t.nm, .int .i64 t.ar, .slice A' t.rs.length c'] ⟨t.nm, t.ar, rs'⟩ := ⟨A', c', lo', hi', by rw [hl'], by rw [hl']; exact ho', hnm, by rw [hl']; exact hrl, hiv, fun k hk => Nat.lt_of_lt_of_le (hHb k hk) hch.size⟩
    exact ⟨⟨F, hup w' _ hcF hE', h2⟩, ⟨hcF.os, hcF.tape, hcF.output, hcF.size, fun i hi hne => hcF.block i hi fun hHi => by have := h2 i (hH i hHi).1; omega⟩⟩
  · have := hput w1 H 0 (.string nm) ⟨nm, t.ar, t.rs⟩ (cF w1 b) (by omega) (eTab_ok.keep (w := w) (w' := w1) (cs := [.string nm, .int .i64 t.ar, .slice A' t.rs.length c']) (a := ⟨nm, t.ar, t.rs⟩) ⟨A', c', lo', hi', rfl, ho, hnm', hrl, hiv, hHb⟩ fun k hk => b.block k (hHb k hk)) (fun k hk => .inl hk)
    rw [Nat.add_zero] at this
    exact fin _ _ _ _ this
  · exact fin _ _ _ _ (hput w1 H 1 (.int .i64 ar) ⟨t.nm, ar, t.rs⟩ (cF w1 b) (by omega) (eTab_ok.keep (w := w) (w' := w1) (cs := [.string t.nm, .int .i64 ar, .slice A' t.rs.length c']) (a := ⟨t.nm, ar, t.rs⟩) ⟨A', c', lo', hi', rfl, ho, hnm, hrl, hiv, hHb⟩ fun k hk => b.block k (hHb k hk)) (fun k hk => .inl hk))
  · have := hput w1 (fun i => lo1 ≤ i ∧ i < hi1) 2 (.slice A1 rs.length c1') ⟨t.nm, t.ar, rs⟩ (cF w1 b) (by omega) (ETab.of ho1 hnm hhi1) (fun i hi => .inr (by omega))
    refine ⟨_, this, fun i hi => ?_⟩
    have hbd := this.bound i hi
    simp [World.setCell] at hbd
    rcases hi with hi | hi
    · exact ⟨(h2 i hi).1, hbd⟩
    · exact ⟨by omega, hbd⟩

theorem setCell_comm (w : World) (g i j : Nat) (x y : Value) (h : i ≠ j) : (w.setCell ⟨g, i, none⟩ x).setCell ⟨g, j, none⟩ y = (w.setCell ⟨g, j, none⟩ y).setCell ⟨g, i, none⟩ x := by
  have e : ∀ (c : Array Value), (c.setIfInBounds i x).setIfInBounds j y = (c.setIfInBounds j y).setIfInBounds i x := fun c => Array.setIfInBounds_comm x y h
  unfold World.setCell
  congr 1
  apply Array.ext_getElem?
  intro k
  simp only [Array.getElem?_modify]
  by_cases hk : g = k
  · simp only [if_pos hk]
    cases w.heap[k]? with
    | none => rfl
    | some o => cases o <;> simp [e]
  · simp only [if_neg hk]

/-- Element k takes a whole new table. -/
theorem OwnD.put3 {w : World} {lo hi n c k : Nat} {A : Option Addr} {ts : List Tab} (h : OwnD w lo hi (.slice A n c) ts) (hn : ts.length = n) (hk : k < n) :
    ∃ g, A = some ⟨g, 0, none⟩ ∧ lo ≤ g ∧ g < hi ∧ g < w.heap.size ∧ (∀ i, i < 3 → (w.cell? ⟨g, k * 3 + i, none⟩).isSome = true ∧ w.frozen? ⟨g, k * 3 + i, none⟩ = false) ∧
      ∀ (w1 : World) (nm : ByteArray) (ar : Int) (A1 : Option Addr) (rs : List (List Int)) (c1 lo1 hi1 : Nat), nm.size ≤ maxLen → Below w.heap.size w w1 → OwnR w1 lo1 hi1 (.slice A1 rs.length c1) rs → w.heap.size ≤ lo1 → hi1 ≤ w1.heap.size → lo ≤ w.heap.size →
        OwnD (((w1.setCell ⟨g, k * 3, none⟩ (.string nm)).setCell ⟨g, k * 3 + 1, none⟩ (.int .i64 ar)).setCell ⟨g, k * 3 + 2, none⟩ (.slice A1 rs.length c1)) lo w1.heap.size (.slice A n c) (ts.set k ⟨nm, ar, rs⟩) := by
  obtain ⟨g, t, A', c', lo', hi', hA, h1, h2, h3, ht, ⟨k0, k1, k2⟩, ⟨f0, f1, f2⟩, _, _, _, _, _, hp⟩ := h.at_ hn hk
  refine ⟨g, hA, h1, h2, h3, fun i hi => ?_, fun w1 nm ar A1 rs c1 lo1 hi1 hnm b ho hlo1 hhi1 hlo => ?_⟩
  · have : i = 0 ∨ i = 1 ∨ i = 2 := by omega
    rcases this with rfl | rfl | rfl
    · exact ⟨by rw [Nat.add_zero, k0]; rfl, by rw [Nat.add_zero]; exact f0⟩
    · exact ⟨by rw [k1]; rfl, f1⟩
    · exact ⟨by rw [k2]; rfl, f2⟩
  · rw [setCell_comm _ g (k * 3 + 1) (k * 3 + 2) _ _ (by omega), setCell_comm w1 g (k * 3) (k * 3 + 2) _ _ (by omega)]
    have d1 := hp w1 A1 rs c1 lo1 hi1 b ho hlo1 hhi1 hlo
    subst hA
    have hl1 : (ts.set k ⟨t.nm, t.ar, rs⟩).length = n := by rw [List.length_set, hn]
    have hkt : k < ts.length := by rw [hn]; exact hk
    obtain ⟨g2, t2, _, _, _, _, hA2, _, _, _, ht2, _, _, _, _, _, hs2, _, _⟩ := d1.at_ hl1 hk
    injection hA2 with hA2
    injection hA2 with hA2
    subst hA2
    rw [List.getElem?_set_self hkt] at ht2
    injection ht2 with ht2
    subst ht2
    have d2 := hs2 _ nm hnm (Below.refl _ _)
    rw [List.set_set] at d2
    have hl2 : (ts.set k ⟨nm, t.ar, rs⟩).length = n := by rw [List.length_set, hn]
    obtain ⟨g3, t3, _, _, _, _, hA3, _, _, _, ht3, _, _, _, _, _, _, hs3, _⟩ := d2.at_ hl2 hk
    injection hA3 with hA3
    injection hA3 with hA3
    subst hA3
    rw [List.getElem?_set_self hkt] at ht3
    injection ht3 with ht3
    subst ht3
    have d3 := hs3 _ ar (Below.refl _ _)
    rw [List.set_set] at d3
    exact d3

/-- Element k takes a new name and a new number; its rows may then change in place. -/
theorem OwnD.mark3 {w : World} {lo hi n c k : Nat} {A : Option Addr} {ts : List Tab} (h : OwnD w lo hi (.slice A n c) ts) (hn : ts.length = n) (hk : k < n) :
    ∃ g t A' c', A = some ⟨g, 0, none⟩ ∧ lo ≤ g ∧ g < hi ∧ g < w.heap.size ∧ ts[k]? = some t ∧
      (w.cell? ⟨g, k * 3, none⟩ = some (.string t.nm) ∧ w.cell? ⟨g, k * 3 + 1, none⟩ = some (.int .i64 t.ar) ∧ w.cell? ⟨g, k * 3 + 2, none⟩ = some (.slice A' t.rs.length c')) ∧
      (w.frozen? ⟨g, k * 3, none⟩ = false ∧ w.frozen? ⟨g, k * 3 + 1, none⟩ = false) ∧ t.rs.length ≤ maxLen ∧
      ∀ (w1 : World) (nm : ByteArray) (ar : Int), nm.size ≤ maxLen → Below w.heap.size w w1 →
        ∃ lo' hi', OwnR ((w1.setCell ⟨g, k * 3, none⟩ (.string nm)).setCell ⟨g, k * 3 + 1, none⟩ (.int .i64 ar)) lo' hi' (.slice A' t.rs.length c') t.rs ∧
          ∀ w' rs', rs'.length = t.rs.length → OwnR w' lo' hi' (.slice A' t.rs.length c') rs' → Chg lo' hi' ((w1.setCell ⟨g, k * 3, none⟩ (.string nm)).setCell ⟨g, k * 3 + 1, none⟩ (.int .i64 ar)) w' →
            OwnD w' lo hi (.slice A n c) (ts.set k ⟨nm, ar, rs'⟩) ∧ Chg lo hi ((w1.setCell ⟨g, k * 3, none⟩ (.string nm)).setCell ⟨g, k * 3 + 1, none⟩ (.int .i64 ar)) w' := by
  obtain ⟨g, t, A', c', lo', hi', hA, h1, h2, h3, ht, ⟨k0, k1, k2⟩, ⟨f0, f1, f2⟩, _, hrl, _, hs, _, _⟩ := h.at_ hn hk
  refine ⟨g, t, A', c', hA, h1, h2, h3, ht, ⟨k0, k1, k2⟩, ⟨f0, f1⟩, hrl, fun w1 nm ar hnm b => ?_⟩
  have d1 := hs w1 nm hnm b
  subst hA
  have hkt : k < ts.length := by rw [hn]; exact hk
  have hl1 : (ts.set k ⟨nm, t.ar, t.rs⟩).length = n := by rw [List.length_set, hn]
  obtain ⟨g2, t2, _, _, _, _, hA2, _, _, _, ht2, _, _, _, _, _, _, hs2, _⟩ := d1.at_ hl1 hk
  injection hA2 with hA2
  injection hA2 with hA2
  subst hA2
  rw [List.getElem?_set_self hkt] at ht2
  injection ht2 with ht2
  subst ht2
  have d2 := hs2 _ ar (Below.refl _ _)
  rw [List.set_set] at d2
  have hl2 : (ts.set k ⟨nm, ar, t.rs⟩).length = n := by rw [List.length_set, hn]
  obtain ⟨g3, t3, A3, c3, lo3, hi3, hA3, _, _, _, ht3, ⟨_, _, q2⟩, _, ho3, _, hup, _, _, _⟩ := d2.at_ hl2 hk
  injection hA3 with hA3
  injection hA3 with hA3
  subst hA3
  rw [List.getElem?_set_self hkt] at ht3
  injection ht3 with ht3
  subst ht3
  rw [cell_set_other (by omega), cell_set_other (by omega), b.cell (p := ⟨g, k * 3 + 2, none⟩) h3, k2] at q2
  injection q2 with q2
  injection q2 with q3 _ q4
  subst q3 q4
  refine ⟨lo3, hi3, ho3, fun w' rs' hl ho' hc => ?_⟩
  have := hup w' rs' hl ho' hc
  rw [List.set_set] at this
  exact this

end

section
open Go.RowKit Go.Deep

/-- All that a purse pays for tables. -/
def sumT (ts : List Tab) : Nat := (ts.map fun t => t.nm.size + (t.rs.length + sumL t.rs)).sum

theorem sumT_nil : sumT [] = 0 := rfl

theorem sumT_cons (t : Tab) (ts : List Tab) : sumT (t :: ts) = (t.nm.size + (t.rs.length + sumL t.rs)) + sumT ts := rfl

theorem sumT_append (a b : List Tab) : sumT (a ++ b) = sumT a + sumT b := by simp [sumT]

theorem sumT_mem {ts : List Tab} {t : Tab} (h : t ∈ ts) : t.nm.size + (t.rs.length + sumL t.rs) ≤ sumT ts := by
  induction ts with
  | nil => cases h
  | cons s ts ih =>
    rw [sumT_cons]
    rcases List.mem_cons.1 h with rfl | h
    · omega
    · have := ih h; omega

theorem sumT_take_succ {ts : List Tab} {j : Nat} {t : Tab} (h : ts[j]? = some t) : sumT (ts.take (j + 1)) = sumT (ts.take j) + (t.nm.size + (t.rs.length + sumL t.rs)) := by
  obtain ⟨hj, rfl⟩ := List.getElem?_eq_some_iff.1 h
  rw [List.take_succ_eq_append_getElem hj, sumT_append]
  simp [sumT]

/-- All that a mark counts in tables. -/
def mrkT (ts : List Tab) : Nat := (ts.map fun t => 2 + sumL t.rs).sum

theorem mrkT_nil : mrkT [] = 0 := rfl

theorem mrkT_cons (t : Tab) (ts : List Tab) : mrkT (t :: ts) = (2 + sumL t.rs) + mrkT ts := rfl

theorem mrkT_append (a b : List Tab) : mrkT (a ++ b) = mrkT a + mrkT b := by simp [mrkT]

theorem mrkT_take_succ {ts : List Tab} {j : Nat} {t : Tab} (h : ts[j]? = some t) : mrkT (ts.take (j + 1)) = mrkT (ts.take j) + (2 + sumL t.rs) := by
  obtain ⟨hj, rfl⟩ := List.getElem?_eq_some_iff.1 h
  rw [List.take_succ_eq_append_getElem hj, mrkT_append]
  simp [mrkT]

theorem mrkT_take_le (ts : List Tab) (j : Nat) : mrkT (ts.take j) ≤ mrkT ts := by
  have := mrkT_append (ts.take j) (ts.drop j)
  rw [List.take_append_drop] at this
  omega

theorem mrkT_le (ts : List Tab) : mrkT ts ≤ 2 * ts.length + sumT ts := by
  induction ts with
  | nil => simp [mrkT, sumT]
  | cons t ts ih =>
    rw [mrkT_cons, sumT_cons, List.length_cons]
    omega

/-- The text that a mark writes. -/
def mkT (k : Int) : ByteArray := ⟨(109 :: decD k.toNat).toArray⟩

theorem decD_len1 (n : Nat) : (decD n).length ≤ n + 1 := by
  induction n using decD.induct with
  | case1 n h => rw [decD_small h]; simp
  | case2 n h ih => rw [decD_big h, List.length_append, List.length_singleton]; omega

theorem mkT_size {k : Int} (h : k ≤ 1099511627776) : (mkT k).size ≤ maxLen := by
  have h1 := decD_len1 k.toNat
  have h2 : (mkT k).size = (decD k.toNat).length + 1 := by simp [mkT, ByteArray.size]
  unfold maxLen
  omega

/-- Tables, marked from k on. -/
def cntT : Int → List Tab → List Tab
  | _, [] => []
  | k, t :: ts => ⟨mkT k, k + 1, cntR (k + 1 + 1) t.rs⟩ :: cntT (k + 1 + 1 + (sumL t.rs : Nat)) ts

theorem cntT_length : ∀ (k : Int) (ts : List Tab), (cntT k ts).length = ts.length
  | _, [] => rfl
  | k, t :: ts => by rw [cntT, List.length_cons, List.length_cons, cntT_length]

theorem cntT_get : ∀ (k : Int) (ts : List Tab) (j : Nat) (t : Tab), ts[j]? = some t → (cntT k ts)[j]? = some ⟨mkT (k + (mrkT (ts.take j) : Nat)), k + (mrkT (ts.take j) : Nat) + 1, cntR (k + (mrkT (ts.take j) : Nat) + 1 + 1) t.rs⟩
  | k, [], j, t, h => by simp at h
  | k, s :: ts, 0, t, h => by
    simp at h
    subst h
    simp [cntT, mrkT]
  | k, s :: ts, j + 1, t, h => by
    have := cntT_get (k + 1 + 1 + (sumL s.rs : Nat)) ts j t (by simpa using h)
    have e : k + 1 + 1 + (sumL s.rs : Nat) + (mrkT (ts.take j) : Nat) = k + ((mrkT ((s :: ts).take (j + 1)) : Nat) : Int) := by
      rw [List.take_succ_cons, mrkT_cons]
      omega
    rw [cntT, List.getElem?_cons_succ, this, e]

/-- The first j tables marked, the rest as they were. -/
def markTTo (ts : List Tab) (k : Int) (j : Nat) : List Tab := (cntT k ts).take j ++ ts.drop j

theorem markTTo_zero (ts : List Tab) (k : Int) : markTTo ts k 0 = ts := by simp [markTTo]

theorem markTTo_full (ts : List Tab) (k : Int) : markTTo ts k ts.length = cntT k ts := by
  rw [markTTo, List.take_of_length_le (by rw [cntT_length]; exact Nat.le_refl _)]
  simp

theorem markTTo_length (ts : List Tab) (k : Int) (j : Nat) (hj : j ≤ ts.length) : (markTTo ts k j).length = ts.length := by
  rw [markTTo, List.length_append, List.length_take, List.length_drop, cntT_length]
  omega

theorem markTTo_get {ts : List Tab} {k : Int} {j : Nat} {t : Tab} (h : ts[j]? = some t) : (markTTo ts k j)[j]? = some t := by
  have hj := (List.getElem?_eq_some_iff.1 h).1
  rw [markTTo, List.getElem?_append_right (by rw [List.length_take, cntT_length]; omega), List.length_take, cntT_length, Nat.min_eq_left (by omega), Nat.sub_self, List.getElem?_drop, Nat.add_zero, h]

theorem markTTo_step {ts : List Tab} {k : Int} {j : Nat} {t : Tab} (h : ts[j]? = some t) : (markTTo ts k j).set j ⟨mkT (k + (mrkT (ts.take j) : Nat)), k + (mrkT (ts.take j) : Nat) + 1, cntR (k + (mrkT (ts.take j) : Nat) + 1 + 1) t.rs⟩ = markTTo ts k (j + 1) := by
  have hj := (List.getElem?_eq_some_iff.1 h).1
  have hg := cntT_get k ts j t h
  have hj' : j < (cntT k ts).length := by rw [cntT_length]; exact hj
  have hv : (cntT k ts)[j] = ⟨mkT (k + (mrkT (ts.take j) : Nat)), k + (mrkT (ts.take j) : Nat) + 1, cntR (k + (mrkT (ts.take j) : Nat) + 1 + 1) t.rs⟩ := by rw [List.getElem?_eq_getElem hj'] at hg; injection hg
  rw [markTTo, markTTo, List.set_append_right _ _ (by rw [List.length_take]; omega), List.length_take, Nat.min_eq_left (by omega), Nat.sub_self, List.drop_eq_getElem_cons hj, List.set_cons_zero, List.take_succ_eq_append_getElem hj', hv,
    List.append_assoc, List.singleton_append]

/-- An empty table. -/
def nilTab : Tab := ⟨{ data := #[] }, 0, []⟩

/-- The first k tables, then empty ones. -/
def fillT (ts : List Tab) (k : Nat) : List Tab := ts.take k ++ List.replicate (ts.length - k) nilTab

theorem fillT_zero (ts : List Tab) : fillT ts 0 = List.replicate ts.length nilTab := by simp [fillT]

theorem fillT_full (ts : List Tab) : fillT ts ts.length = ts := by simp [fillT]

theorem fillT_length (ts : List Tab) (k : Nat) (h : k ≤ ts.length) : (fillT ts k).length = ts.length := by simp [fillT]; omega

theorem fillT_step {ts : List Tab} {k : Nat} {t : Tab} (h : ts[k]? = some t) : (fillT ts k).set k t = fillT ts (k + 1) := by
  have hk : k < ts.length := (List.getElem?_eq_some_iff.1 h).1
  have hx : ts[k] = t := (List.getElem?_eq_some_iff.1 h).2
  unfold fillT
  obtain ⟨m, hm⟩ : ∃ m, ts.length - k = m + 1 := ⟨ts.length - k - 1, by omega⟩
  rw [List.set_append_right _ _ (by rw [List.length_take]; omega), List.length_take, Nat.min_eq_left (by omega), Nat.sub_self, hm, List.replicate_succ, List.set_cons_zero, List.take_succ_eq_append_getElem hk, hx,
    List.append_assoc, List.singleton_append, show ts.length - (k + 1) = m from by omega]

end

section
open Go.RowKit Go.Deep

theorem info_tab : (Tryz.prog.info? 26).map (fun i => (i.zero, i.size, i.bytes)) = some (some (.agg #[.string { data := #[] }, .int .i64 0, .slice none 0 0]), 3, 48) := by kernel_rfl

theorem made_flat (a b c : Value) : ∀ n, (madeCells #[a, b, c] (n * 3)).toList = (List.replicate n [a, b, c]).flatten
  | 0 => by simp [madeCells]
  | n + 1 => by
    have ih := made_flat a b c n
    unfold madeCells at ih ⊢
    simp only [Array.toList_map, Array.toList_range] at ih ⊢
    have m0 : n * 3 % 3 = 0 := by omega
    have m1 : (n * 3 + 1) % 3 = 1 := by omega
    have m2 : (n * 3 + 1 + 1) % 3 = 2 := by omega
    rw [show (n + 1) * 3 = n * 3 + 1 + 1 + 1 from by omega, List.range_succ, List.range_succ, List.range_succ, List.map_append, List.map_append, List.map_append, ih, List.replicate_succ', List.flatten_append]
    simp [m0, m1, m2]

def zerT (n : Nat) : Array Value := madeCells #[.string { data := #[] }, .int .i64 0, .slice none 0 0] (n * 3)

theorem make_tabs (n : Nat) (h : n ≤ 1048576) (W : World) : (Instr.makeSlice 40 (.int .i64 (n : Int)) (.int .i64 (n : Int))).run Tryz.prog W = .ok (.slice (some ⟨W.heap.size, 0, none⟩) n n) (W.alloc (.cells (zerT n) 26)) := by
  obtain ⟨i, hi, hz0, hz1, hz2⟩ := info_parts info_tab
  have := run_make (P := Tryz.prog) W 40 26 i _ Tryz.underlying40 hi hz0 .i64 .i64 n n (by omega) (by omega) (by rw [hz2]; omega) (by omega)
  rw [Int.toNat_natCast, hz1] at this
  exact this

theorem own_tabs_made (n : Nat) (hn : n ≤ 1048576) (W : World) : OwnD (W.alloc (.cells (zerT n) 26)) W.heap.size (W.alloc (.cells (zerT n) 26)).heap.size (.slice (some ⟨W.heap.size, 0, none⟩) n n) (List.replicate n nilTab) :=
  ⟨_, OwnSl.made W n [.string { data := #[] }, .int .i64 0, .slice none 0 0] nilTab (zerT n) rfl (by unfold maxLen; omega) (made_flat _ _ _ n) ⟨none, 0, 0, 0, rfl, OwnR.nil _ _ _, by show 0 ≤ _; exact Nat.zero_le _, by show 0 ≤ _; exact Nat.zero_le _, fun k hk => by omega, by simp⟩, fun k hk => by subst hk; simp⟩

end

section
open Go.RowKit Go.Deep

/-- A new database, behind a name. -/
def DbNew (ts : List Tab) (w : World) (e : Ending) (w' : World) : Prop :=
  ∃ (A : Option Addr) (c : Nat), e = .returned (.agg #[.slice A ts.length c]) ∧ OwnD w' w.heap.size w'.heap.size (.slice A ts.length c) ts ∧ Below w.heap.size w w'

theorem DbNew.of {ts : List Tab} {w w' : World} {A : Option Addr} {n c : Nat} (h : OwnD w' w.heap.size w'.heap.size (.slice A n c) ts) (hb : Below w.heap.size w w') : DbNew ts w (.returned (.agg #[.slice A n c])) w' := by
  have hn := h.len_eq
  subst hn
  exact ⟨A, c, rfl, h, hb⟩

theorem sumT_small {ts : List Tab} (h : sumT ts ≤ 1048576) : ∀ t ∈ ts, t.rs.length ≤ 1048576 ∧ ∀ r ∈ t.rs, r.length ≤ 1048576 := fun t ht => by
  have h1 := sumT_mem ht
  exact ⟨by omega, fun r hr => by have := sumL_mem hr; omega⟩

end

section
open Go.RowKit Go.Deep

/-- The model's order of names. -/
def ltN (a b : ByteArray) : Bool := Op.bytesLess a.toList b.toList

def ascN : List Tab → Bool
  | a :: b :: l => ltN a.nm b.nm && ascN (b :: l)
  | _ => true

def validTb (t : Tab) : Bool := validT t.nm t.ar t.rs

def validD (ts : List Tab) : Bool := (ts.all validTb && ascN ts) && decide (ts.length ≤ 6)

theorem ascN_iff : ∀ {ts : List Tab}, ascN ts = true ↔ ∀ j x y, ts[j]? = some x → ts[j + 1]? = some y → ltN x.nm y.nm = true
  | [] => by simp [ascN]
  | [a] => by simp [ascN]
  | a :: b :: l => by
    rw [ascN, Bool.and_eq_true, ascN_iff]
    constructor
    · rintro ⟨h1, h2⟩ j x y hx hy
      cases j with
      | zero =>
        simp at hx hy
        subst hx hy
        exact h1
      | succ j => exact h2 j x y (by simpa using hx) (by simpa using hy)
    · intro h
      exact ⟨h 0 a b rfl rfl, fun j x y hx hy => h (j + 1) x y (by simpa using hx) (by simpa using hy)⟩

/-- Ascending up to place k. -/
def AscN (ts : List Tab) (k : Nat) : Prop := ∀ j x y, j + 1 < k → ts[j]? = some x → ts[j + 1]? = some y → ltN x.nm y.nm = true

theorem AscN.one (ts : List Tab) {k : Nat} (h : k ≤ 1) : AscN ts k := fun j _ _ hj => by omega

theorem AscN.step {ts : List Tab} {j : Nat} {x y : Tab} (h : AscN ts (j + 1)) (hx : ts[j]? = some x) (hy : ts[j + 1]? = some y) (hl : ltN x.nm y.nm = true) : AscN ts (j + 1 + 1) := fun i a b hi ha hb => by
  rcases Nat.lt_or_ge (i + 1) (j + 1) with h1 | h1
  · exact h i a b h1 ha hb
  · obtain rfl : i = j := by omega
    rw [hx] at ha
    rw [hy] at hb
    injection ha with ha
    injection hb with hb
    subst ha hb
    exact hl

theorem AscN.done {ts : List Tab} {k : Nat} (h : AscN ts k) (hk : ts.length ≤ k) : ascN ts = true := ascN_iff.2 fun j x y hx hy => h j x y (by have := (List.getElem?_eq_some_iff.1 hy).1; omega) hx hy

theorem ascN_no {ts : List Tab} {j : Nat} {x y : Tab} (hx : ts[j]? = some x) (hy : ts[j + 1]? = some y) (hl : ltN x.nm y.nm = false) : ascN ts = false := by
  rw [← Bool.not_eq_true]
  intro h
  rw [ascN_iff.1 h j x y hx hy] at hl
  cases hl

theorem validD_no {ts : List Tab} {k : Nat} {t : Tab} (h : ts[k]? = some t) (hv : validTb t = false) : validD ts = false := by
  have : ts.all validTb = false := by
    rw [← Bool.not_eq_true, List.all_eq_true]
    intro hall
    rw [hall t (List.mem_of_getElem? h)] at hv
    cases hv
  rw [validD, this]
  rfl

theorem validD_no2 {ts : List Tab} {j : Nat} {x y : Tab} (hx : ts[j]? = some x) (hy : ts[j + 1]? = some y) (hl : ltN x.nm y.nm = false) : validD ts = false := by
  rw [validD, ascN_no hx hy hl, Bool.and_false]
  rfl

theorem validD_end {ts : List Tab} {k : Nat} (h1 : (ts.take k).all validTb = true) (h2 : AscN ts k) (hk : ts.length ≤ k) : validD ts = decide (ts.length ≤ 6) := by
  rw [List.take_of_length_le hk] at h1
  rw [validD, h1, h2.done hk]
  rfl

theorem tabs_take {ts : List Tab} {k : Nat} {t : Tab} (h : (ts.take k).all validTb = true) (hx : ts[k]? = some t) (hv : validTb t = true) : (ts.take (k + 1)).all validTb = true := by
  rw [List.take_add_one, hx, List.all_append, h]
  simp [hv]

end

section
open Go.RowKit Go.Deep

/-- A name's first letter. -/
def keyB (s : ByteArray) : Nat := match s.data.toList with | b :: _ => b.toNat | [] => 0

theorem toList_one (b : UInt8) : ByteArray.toList ⟨#[b]⟩ = [b] := by
  unfold ByteArray.toList
  unfold ByteArray.toList.loop
  rw [if_pos (show 0 < ByteArray.size ⟨#[b]⟩ from Nat.zero_lt_one)]
  unfold ByteArray.toList.loop
  rw [if_neg (show ¬ 0 + 1 < ByteArray.size ⟨#[b]⟩ from Nat.lt_irrefl 1)]
  rfl

theorem ltN_key {a b : ByteArray} (ha : nameB a = true) (hb : nameB b = true) : ltN a b = decide (keyB a < keyB b) := by
  obtain ⟨x, rfl⟩ := nameB_data ha
  obtain ⟨y, rfl⟩ := nameB_data hb
  unfold ltN
  rw [toList_one, toList_one]
  show Op.bytesLess [x] [y] = decide (x.toNat < y.toNat)
  simp only [Op.bytesLess]
  by_cases h1 : x.toNat < y.toNat
  · simp [h1, UInt8.lt_iff_toNat_lt]
  · simp [h1, UInt8.lt_iff_toNat_lt]

theorem eq_key {a b : ByteArray} (ha : nameB a = true) (hb : nameB b = true) : a = b ↔ keyB a = keyB b := by
  obtain ⟨x, rfl⟩ := nameB_data ha
  obtain ⟨y, rfl⟩ := nameB_data hb
  constructor
  · intro h
    rw [h]
  · intro h
    have : x = y := UInt8.toNat_inj.1 h
    rw [this]

theorem validTb_name {t : Tab} (h : validTb t = true) : nameB t.nm = true := by
  unfold validTb validT at h
  simp only [Bool.and_eq_true] at h
  exact h.1

/-- The tables' letters ascend. -/
abbrev AscK (ts : List Tab) : Prop := ts.Pairwise fun a b => keyB a.nm < keyB b.nm

theorem ascK_of : ∀ {ts : List Tab}, (∀ t ∈ ts, nameB t.nm = true) → ascN ts = true → AscK ts
  | [], _, _ => .nil
  | [a], _, _ => List.pairwise_singleton _ _
  | a :: b :: l, hn, h => by
    rw [ascN, Bool.and_eq_true] at h
    have ih := ascK_of (fun t ht => hn t (by simp [ht])) h.2
    have hab : keyB a.nm < keyB b.nm := by
      have := h.1
      rw [ltN_key (hn a (by simp)) (hn b (by simp))] at this
      simpa using this
    refine .cons (fun x hx => ?_) ih
    rcases List.mem_cons.1 hx with rfl | hx
    · exact hab
    · have := (List.pairwise_cons.1 ih).1 x hx
      omega

theorem ascN_of : ∀ {ts : List Tab}, (∀ t ∈ ts, nameB t.nm = true) → AscK ts → ascN ts = true
  | [], _, _ => rfl
  | [a], _, _ => rfl
  | a :: b :: l, hn, h => by
    rw [ascN, Bool.and_eq_true]
    have h' := List.pairwise_cons.1 h
    refine ⟨?_, ascN_of (fun t ht => hn t (by simp [ht])) h'.2⟩
    rw [ltN_key (hn a (by simp)) (hn b (by simp))]
    simpa using h'.1 b (by simp)

theorem validD_parts {ts : List Tab} (h : validD ts = true) : (∀ t ∈ ts, validTb t = true) ∧ AscK ts ∧ ts.length ≤ 6 := by
  unfold validD at h
  simp only [Bool.and_eq_true, List.all_eq_true, decide_eq_true_eq] at h
  exact ⟨h.1.1, ascK_of (fun t ht => validTb_name (h.1.1 t ht)) h.1.2, h.2⟩

theorem validD_of {ts : List Tab} (h1 : ∀ t ∈ ts, validTb t = true) (h2 : AscK ts) : validD ts = decide (ts.length ≤ 6) := by
  unfold validD
  rw [ascN_of (fun t ht => validTb_name (h1 t ht)) h2, List.all_eq_true.2 h1]
  rfl

/-- LookupTable's answer. -/
def nilR : TabR := ⟨{ data := #[] }, 0, [], false⟩

def lookR (ts : List Tab) (nm : ByteArray) : TabR := match ts.find? fun t => decide (t.nm = nm) with | some t => if validD ts = true then ⟨t.nm, t.ar, t.rs, true⟩ else nilR | none => nilR

theorem find_at {ts : List Tab} {nm : ByteArray} {k : Nat} {t : Tab} (h : ts[k]? = some t) (ht : t.nm = nm) (hno : ∀ j x, j < k → ts[j]? = some x → ¬ x.nm = nm) : ts.find? (fun t => decide (t.nm = nm)) = some t := by
  obtain ⟨hk, rfl⟩ := List.getElem?_eq_some_iff.1 h
  rw [List.find?_eq_some_iff_getElem]
  refine ⟨by simpa using ht, k, hk, rfl, fun j hj => ?_⟩
  have := hno j ts[j] hj (List.getElem?_eq_getElem (by omega))
  simpa using this

theorem find_none {ts : List Tab} {nm : ByteArray} (hno : ∀ x ∈ ts, ¬ x.nm = nm) : ts.find? (fun t => decide (t.nm = nm)) = none := by
  rw [List.find?_eq_none]
  intro x hx
  simpa using hno x hx

/-- No name below k. -/
def NoN (ts : List Tab) (nm : ByteArray) (k : Nat) : Prop := ∀ j x, j < k → ts[j]? = some x → ¬ x.nm = nm

theorem NoN.zero (ts : List Tab) (nm : ByteArray) : NoN ts nm 0 := fun j _ h => by omega

theorem NoN.step {ts : List Tab} {nm : ByteArray} {k : Nat} {t : Tab} (h : NoN ts nm k) (hx : ts[k]? = some t) (ht : ¬ t.nm = nm) : NoN ts nm (k + 1) := fun j x hj hjx => by
  rcases Nat.lt_or_ge j k with h1 | h1
  · exact h j x h1 hjx
  · obtain rfl : j = k := by omega
    rw [hx] at hjx
    injection hjx with hjx
    subst hjx
    exact ht

theorem NoN.all {ts : List Tab} {nm : ByteArray} {k : Nat} (h : NoN ts nm k) (hk : ts.length ≤ k) : ∀ x ∈ ts, ¬ x.nm = nm := fun x hx => by
  obtain ⟨j, hj⟩ := List.mem_iff_getElem?.1 hx
  exact h j x (by have := (List.getElem?_eq_some_iff.1 hj).1; omega) hj

theorem lookR_at {ts : List Tab} {nm : ByteArray} {k : Nat} {t : Tab} (h : ts[k]? = some t) (ht : t.nm = nm) (hno : NoN ts nm k) (hv : validD ts = true) : lookR ts nm = ⟨t.nm, t.ar, t.rs, true⟩ := by
  unfold lookR
  rw [find_at h ht hno]
  simp [hv]

theorem lookR_none {ts : List Tab} {nm : ByteArray} {k : Nat} (hno : NoN ts nm k) (hk : ts.length ≤ k) : lookR ts nm = nilR := by
  unfold lookR
  rw [find_none (hno.all hk)]

theorem lookR_bad {ts : List Tab} (nm : ByteArray) (hv : validD ts = false) : lookR ts nm = nilR := by
  unfold lookR
  cases ts.find? fun t => decide (t.nm = nm) with
  | none => rfl
  | some t => simp [hv]

theorem lookR_ok {ts : List Tab} {nm : ByteArray} (h : (lookR ts nm).ok = true) : validD ts = true ∧ ∃ t ∈ ts, t.nm = nm ∧ lookR ts nm = ⟨t.nm, t.ar, t.rs, true⟩ := by
  unfold lookR at h ⊢
  cases hf : ts.find? fun t => decide (t.nm = nm) with
  | none => rw [hf] at h; cases h
  | some t =>
    rw [hf] at h
    by_cases hv : validD ts = true
    · refine ⟨hv, t, List.mem_of_find?_eq_some hf, ?_, by simp [hv]⟩
      have := List.find?_some hf
      simpa using this
    · simp [hv, nilR] at h

theorem lookR_small {ts : List Tab} (nm : ByteArray) (h : sumT ts ≤ 1048576) : (lookR ts nm).rs.length ≤ 1048576 ∧ sumL (lookR ts nm).rs ≤ 4294967296 := by
  unfold lookR
  cases hf : ts.find? fun t => decide (t.nm = nm) with
  | none => exact ⟨Nat.zero_le _, Nat.zero_le _⟩
  | some t =>
    have hm := sumT_mem (List.mem_of_find?_eq_some hf)
    dsimp only
    split
    · exact ⟨by show t.rs.length ≤ _; omega, by show sumL t.rs ≤ _; omega⟩
    · exact ⟨Nat.zero_le _, Nat.zero_le _⟩

/-- SetTable's round, and its answer. -/
def setF (t : Tab) (s : Bool × List Tab) (x : Tab) : Bool × List Tab :=
  ⟨s.1 || !ltN x.nm t.nm, (s.2 ++ if (!s.1 && !ltN x.nm t.nm) = true then [t] else []) ++ if x.nm = t.nm then [] else [x]⟩

def setS (t : Tab) (ts : List Tab) : Bool × List Tab := ts.foldl (setF t) (false, [])

def setT (ts : List Tab) (t : Tab) : List Tab := (setS t ts).2 ++ if (setS t ts).1 = true then [] else [t]

def setR (ts : List Tab) (t : Tab) : List Tab × Bool := if validD ts = true ∧ validTb t = true ∧ (setT ts t).length ≤ 6 then (setT ts t, true) else (ts, false)

theorem setS_take {t : Tab} {ts : List Tab} {k : Nat} {x : Tab} (h : ts[k]? = some x) : setS t (ts.take (k + 1)) = setF t (setS t (ts.take k)) x := by
  unfold setS
  rw [List.take_add_one, h, List.foldl_append]
  rfl

theorem setS_done (t : Tab) (ht : nameB t.nm = true) : ∀ (ts acc : List Tab), (∀ x ∈ ts, nameB x.nm = true) → (∀ x ∈ ts, keyB t.nm < keyB x.nm) → ts.foldl (setF t) (true, acc) = (true, acc ++ ts)
  | [], acc, _, _ => by simp
  | x :: l, acc, hn, hk => by
    have hx := hk x (by simp)
    have hne : ¬ x.nm = t.nm := fun e => by rw [e] at hx; omega
    rw [List.foldl_cons, show setF t (true, acc) x = (true, acc ++ [x]) by simp [setF, hne], setS_done t ht l _ (fun y hy => hn y (by simp [hy])) (fun y hy => hk y (by simp [hy]))]
    simp

theorem setS_norm (t : Tab) (ht : nameB t.nm = true) : ∀ (ts acc : List Tab), (∀ x ∈ ts, nameB x.nm = true) → AscK ts →
    (ts.foldl (setF t) (false, acc)).2 ++ (if (ts.foldl (setF t) (false, acc)).1 = true then [] else [t]) = acc ++ (ts.filter (fun x => decide (keyB x.nm < keyB t.nm)) ++ t :: ts.filter fun x => decide (keyB t.nm < keyB x.nm))
  | [], acc, _, _ => by simp
  | x :: l, acc, hn, ha => by
    have ha' := List.pairwise_cons.1 ha
    have hx := hn x (by simp)
    have hl : ∀ y ∈ l, nameB y.nm = true := fun y hy => hn y (by simp [hy])
    have hlt := ltN_key hx ht
    rw [List.foldl_cons]
    rcases Nat.lt_trichotomy (keyB x.nm) (keyB t.nm) with h | h | h
    · have hne : ¬ x.nm = t.nm := fun e => by rw [e] at h; omega
      rw [show setF t (false, acc) x = (false, acc ++ [x]) by simp [setF, hne, hlt, h], setS_norm t ht l _ hl ha'.2]
      simp [h, Nat.lt_asymm h]
    · have he : x.nm = t.nm := (eq_key hx ht).2 h
      have hgt : ∀ y ∈ l, keyB t.nm < keyB y.nm := fun y hy => by have := ha'.1 y hy; omega
      rw [show setF t (false, acc) x = (true, acc ++ [t]) by simp [setF, he, ltN_key ht ht], setS_done t ht l _ hl hgt]
      have f1 : l.filter (fun y => decide (keyB y.nm < keyB t.nm)) = [] := List.filter_eq_nil_iff.2 fun y hy => by have := hgt y hy; simp; omega
      have f2 : l.filter (fun y => decide (keyB t.nm < keyB y.nm)) = l := List.filter_eq_self.2 fun y hy => by simpa using hgt y hy
      simp [h, f1, f2]
    · have hne : ¬ x.nm = t.nm := fun e => by rw [e] at h; omega
      have hgt : ∀ y ∈ l, keyB t.nm < keyB y.nm := fun y hy => by have := ha'.1 y hy; omega
      rw [show setF t (false, acc) x = (true, acc ++ [t] ++ [x]) by simp [setF, hne, hlt, Nat.lt_asymm h], setS_done t ht l _ hl hgt]
      have f1 : l.filter (fun y => decide (keyB y.nm < keyB t.nm)) = [] := List.filter_eq_nil_iff.2 fun y hy => by have := hgt y hy; simp; omega
      have f2 : l.filter (fun y => decide (keyB t.nm < keyB y.nm)) = l := List.filter_eq_self.2 fun y hy => by simpa using hgt y hy
      simp [h, f1, f2, Nat.lt_asymm h]

theorem setT_norm {ts : List Tab} {t : Tab} (hv : validD ts = true) (ht : validTb t = true) : setT ts t = ts.filter (fun x => decide (keyB x.nm < keyB t.nm)) ++ t :: ts.filter fun x => decide (keyB t.nm < keyB x.nm) := by
  obtain ⟨h1, h2, _⟩ := validD_parts hv
  have := setS_norm t (validTb_name ht) ts [] (fun x hx => validTb_name (h1 x hx)) h2
  rw [List.nil_append] at this
  exact this

theorem setT_parts {ts : List Tab} {t : Tab} (hv : validD ts = true) (ht : validTb t = true) : (∀ x ∈ setT ts t, validTb x = true) ∧ AscK (setT ts t) := by
  obtain ⟨h1, h2, _⟩ := validD_parts hv
  rw [setT_norm hv ht]
  refine ⟨fun x hx => ?_, ?_⟩
  · rcases List.mem_append.1 hx with hx | hx
    · exact h1 x (List.mem_filter.1 hx).1
    · rcases List.mem_cons.1 hx with rfl | hx
      · exact ht
      · exact h1 x (List.mem_filter.1 hx).1
  · rw [AscK, List.pairwise_append]
    refine ⟨h2.filter _, List.pairwise_cons.2 ⟨fun x hx => by simpa using (List.mem_filter.1 hx).2, h2.filter _⟩, fun a ha b hb => ?_⟩
    have h3 : keyB a.nm < keyB t.nm := by simpa using (List.mem_filter.1 ha).2
    rcases List.mem_cons.1 hb with rfl | hb
    · exact h3
    · have h4 : keyB t.nm < keyB b.nm := by simpa using (List.mem_filter.1 hb).2
      omega

theorem setT_valid {ts : List Tab} {t : Tab} (hv : validD ts = true) (ht : validTb t = true) : validD (setT ts t) = decide ((setT ts t).length ≤ 6) :=
  validD_of (setT_parts hv ht).1 (setT_parts hv ht).2

theorem sumL_three : ∀ {rs : List (List Int)}, (∀ r ∈ rs, r.length ≤ 3) → sumL rs ≤ 3 * rs.length
  | [], _ => Nat.zero_le _
  | r :: rs, h => by
    rw [sumL_cons, List.length_cons]
    have h1 := h r (by simp)
    have h2 := sumL_three (rs := rs) fun x hx => h x (by simp [hx])
    omega

theorem validTb_size {t : Tab} (h : validTb t = true) : t.nm.size + (t.rs.length + sumL t.rs) ≤ 33 := by
  have hn := validTb_name h
  obtain ⟨b, hb⟩ := nameB_data hn
  have h1 : t.nm.size = 1 := by rw [hb]; rfl
  unfold validTb validT at h
  simp only [Bool.and_eq_true, decide_eq_true_eq, List.all_eq_true] at h
  obtain ⟨_, har, hl, hrow, _⟩ := h
  have ha := inB_iff.1 har
  have h2 : sumL t.rs ≤ 3 * t.rs.length := sumL_three fun r hr => by
    have := hrow r hr
    unfold rowB at this
    simp only [Bool.and_eq_true, beq_iff_eq] at this
    omega
  omega

theorem sumT_valid : ∀ {ts : List Tab}, (∀ t ∈ ts, validTb t = true) → sumT ts ≤ 33 * ts.length
  | [], _ => Nat.zero_le _
  | t :: ts, h => by
    rw [sumT_cons, List.length_cons]
    have h1 := validTb_size (h t (by simp))
    have h2 := sumT_valid (ts := ts) fun x hx => h x (by simp [hx])
    omega

theorem setT_small {ts : List Tab} {t : Tab} (hv : validD ts = true) (ht : validTb t = true) : (setT ts t).length ≤ 13 ∧ sumT (setT ts t) ≤ 429 := by
  have h1 := sumT_valid (setT_parts hv ht).1
  have h2 := (validD_parts hv).2.2
  have h3 : (setT ts t).length ≤ 13 := by
    rw [setT_norm hv ht, List.length_append, List.length_cons]
    have a1 := List.length_filter_le (fun x : Tab => decide (keyB x.nm < keyB t.nm)) ts
    have a2 := List.length_filter_le (fun x : Tab => decide (keyB t.nm < keyB x.nm)) ts
    omega
  exact ⟨h3, by omega⟩

theorem setR_small {ts : List Tab} {t : Tab} (hl : ts.length ≤ 1048576) (hs : sumT ts ≤ 1048576) : (setR ts t).1.length ≤ 1048576 ∧ sumT (setR ts t).1 ≤ 1048576 := by
  unfold setR
  split
  · rename_i h
    have := setT_small h.1 h.2.1
    exact ⟨by show (setT ts t).length ≤ _; omega, by show sumT (setT ts t) ≤ _; omega⟩
  · exact ⟨hl, hs⟩

theorem setF_len (t : Tab) (s : Bool × List Tab) (x : Tab) : (setF t s x).2.length ≤ s.2.length + 2 := by
  unfold setF
  simp only [List.length_append]
  split <;> split <;> simp

theorem setS_len (t : Tab) : ∀ (l : List Tab) (s : Bool × List Tab), (l.foldl (setF t) s).2.length ≤ s.2.length + 2 * l.length
  | [], s => by simp
  | x :: l, s => by
    rw [List.foldl_cons, List.length_cons]
    have h1 := setS_len t l (setF t s x)
    have h2 := setF_len t s x
    omega

theorem setS_len2 (t : Tab) (l : List Tab) : (setS t l).2.length ≤ 2 * l.length := by
  have := setS_len t l (false, [])
  rw [List.length_nil, Nat.zero_add] at this
  exact this

/-- RemoveTable's answer, CountRows's. -/
def remR (ts : List Tab) (nm : ByteArray) : List Tab × Bool := if (lookR ts nm).ok = true then (ts.filter fun t => decide (¬ t.nm = nm), true) else (ts, false)

def lenT (ts : List Tab) : Nat := (ts.map fun t => t.rs.length).sum

theorem lenT_append (a b : List Tab) : lenT (a ++ b) = lenT a + lenT b := by simp [lenT]

theorem lenT_cons (t : Tab) (ts : List Tab) : lenT (t :: ts) = t.rs.length + lenT ts := by simp [lenT]

theorem lenT_take_succ {ts : List Tab} {j : Nat} {t : Tab} (h : ts[j]? = some t) : lenT (ts.take (j + 1)) = lenT (ts.take j) + t.rs.length := by
  obtain ⟨hj, rfl⟩ := List.getElem?_eq_some_iff.1 h
  rw [List.take_succ_eq_append_getElem hj, lenT_append, lenT_cons]
  rfl

theorem lenT_le (ts : List Tab) : lenT ts ≤ sumT ts := by
  induction ts with
  | nil => exact Nat.le_refl _
  | cons t ts ih =>
    rw [sumT_cons]
    rw [lenT_cons]
    omega

theorem lenT_take_le (ts : List Tab) (j : Nat) : lenT (ts.take j) ≤ lenT ts := by
  have := lenT_append (ts.take j) (ts.drop j)
  rw [List.take_append_drop] at this
  omega

def cntD (ts : List Tab) : Nat := if validD ts = true then lenT ts else 0

end

section
open Go.RowKit Go.Deep

/-- Beside the known cells L lie the tables ts in the slice v, which the box xb holds; all boxes lie below lo. -/
structure DInv (w : World) (L : List (Nat × Nat × Value)) (xb lo : Nat) (ts : List Tab) (v : Value) (W : World) : Prop where
  kn : Kn w L W
  own : OwnD W lo W.heap.size v ts
  size : lo ≤ W.heap.size
  hw : w.heap.size ≤ xb
  hxb : xb < lo
  nL : ∀ t ∈ L, t.1 ≠ xb ∧ t.1 < lo
  x0 : W.cell? ⟨xb, 0, none⟩ = some v
  fx : W.frozen? ⟨xb, 0, none⟩ = false

theorem DInv.next {w W W' : World} {L : List (Nat × Nat × Value)} {xb lo : Nat} {ts : List Tab} {v : Value} (h : DInv w L xb lo ts v W) (b : Below W.heap.size W W') : DInv w L xb lo ts v W' :=
  ⟨h.kn.next b, (h.own.below b (Nat.le_refl _)).wide b.size, Nat.le_trans h.size b.size, h.hw, h.hxb, h.nL,
    (b.cell (p := ⟨xb, 0, none⟩) (Nat.lt_of_lt_of_le h.hxb h.size)).trans h.x0, (b.frozen (p := ⟨xb, 0, none⟩) (Nat.lt_of_lt_of_le h.hxb h.size)).trans h.fx⟩

theorem DInv.drew {w W : World} {L : List (Nat × Nat × Value)} {xb lo : Nat} {ts : List Tab} {v : Value} (h : DInv w L xb lo ts v W) : DInv w L xb lo ts v W.drew := h.next (Below.refl _ _).drew

theorem DInv.drewN {w W : World} {L : List (Nat × Nat × Value)} {xb lo : Nat} {ts : List Tab} {v : Value} (h : DInv w L xb lo ts v W) (q : Nat) : DInv w L xb lo ts v (W.drewN q) := h.next (below_drewN (Below.refl _ _) q)

theorem DInv.push {w W w2 : World} {L : List (Nat × Nat × Value)} {xb lo : Nat} {ts ts' : List Tab} {v v' : Value} (h : DInv w L xb lo ts v W) (hB : Below lo W w2) (ho : OwnD w2 lo w2.heap.size v' ts') :
    DInv w L xb lo ts' v' (w2.setCell ⟨xb, 0, none⟩ v') := by
  have hhs : (w2.setCell ⟨xb, 0, none⟩ v').heap.size = w2.heap.size := by simp [World.setCell]
  have hlo : w.heap.size ≤ lo := Nat.le_of_lt (Nat.lt_of_le_of_lt h.hw h.hxb)
  refine ⟨⟨(h.kn.bel.trans (hB.mono hlo)).setCell h.hw _, fun t ht => ⟨?_, ?_⟩, fun t ht => ?_⟩, ?_, ?_, h.hw, h.hxb, h.nL, ?_, ?_⟩
  · rw [hhs]
    exact Nat.lt_of_lt_of_le (h.kn.cell t ht).1 hB.size
  · have hn := h.nL t ht
    rw [cell_set_other (by omega)]
    exact (hB.cell (p := ⟨t.1, t.2.1, none⟩) hn.2).trans (h.kn.cell t ht).2
  · have hn := h.nL t ht
    rw [frozen_set]
    exact (hB.frozen (p := ⟨t.1, t.2.1, none⟩) hn.2).trans (h.kn.frz t ht)
  · rw [hhs]
    exact ho.setOff (.inl h.hxb)
  · rw [hhs]
    exact Nat.le_trans h.size hB.size
  · exact cell_set_same ((hB.cell (p := ⟨xb, 0, none⟩) h.hxb).trans h.x0)
  · rw [frozen_set]
    exact (hB.frozen (p := ⟨xb, 0, none⟩) h.hxb).trans h.fx

/-- One table more: what the append asks, and what it leaves. -/
theorem DInv.app {w W w1 : World} {L : List (Nat × Nat × Value)} {xb lo lo1 hi c1 : Nat} {ts : List Tab} {v : Value} {A1 : Option Addr} {nm : ByteArray} {ar : Int} {rs : List (List Int)} (h : DInv w L xb lo ts v W) (hb1 : Below W.heap.size W w1)
    (ho : OwnR w1 lo1 hi (.slice A1 rs.length c1) rs) (hlo1 : W.heap.size ≤ lo1) (hhi : hi ≤ w1.heap.size) (hnm : nm.size ≤ maxLen) :
    ∃ xs : List Value, (w1.alloc (.cells #[.string nm, .int .i64 ar, .slice A1 rs.length c1] 26)).ownsRow 0 26 3 v ts.length xs ∧ w1.cell? ⟨xb, 0, none⟩ = some v ∧
      ∀ (g cap : Nat) (w2 : World), w2.ownsRow 0 26 3 (.slice (some ⟨g, 0, none⟩) (ts.length + 1) cap) (ts.length + 1) (xs ++ [.string nm, .int .i64 ar, .slice A1 rs.length c1]) →
        (w1.alloc (.cells #[.string nm, .int .i64 ar, .slice A1 rs.length c1] 26)).grownBy w2 v.ownBlock → (v.ownBlock = some g ∨ g = w1.heap.size + 1) →
        w2.cell? ⟨xb, 0, none⟩ = some v ∧ w2.frozen? ⟨xb, 0, none⟩ = false ∧ DInv w L xb lo (ts ++ [⟨nm, ar, rs⟩]) (.slice (some ⟨g, 0, none⟩) (ts.length + 1) cap) (w2.setCell ⟨xb, 0, none⟩ (.slice (some ⟨g, 0, none⟩) (ts.length + 1) cap)) ∧
          (∀ X i, W.heap.size ≤ X → X < w1.heap.size → (w2.setCell ⟨xb, 0, none⟩ (.slice (some ⟨g, 0, none⟩) (ts.length + 1) cap)).cell? ⟨X, i, none⟩ = w1.cell? ⟨X, i, none⟩) ∧ w1.heap.size ≤ (w2.setCell ⟨xb, 0, none⟩ (.slice (some ⟨g, 0, none⟩) (ts.length + 1) cap)).heap.size := by
  obtain ⟨xs, k1, k2, k3⟩ := h.own.open_
  have hxW := Nat.lt_of_lt_of_le h.hxb h.size
  have hs1 := hb1.size
  have hA : Below w1.heap.size w1 (w1.alloc (.cells #[.string nm, .int .i64 ar, .slice A1 rs.length c1] 26)) := (Below.refl _ _).alloc (Nat.le_refl _) _
  have hB1 : Below W.heap.size W (w1.alloc (.cells #[.string nm, .int .i64 ar, .slice A1 rs.length c1] 26)) := hb1.trans (hA.mono hs1)
  refine ⟨xs, ownsRow_keep k1 fun g hg => hB1.block g (k2 g hg).2.2, (hb1.cell (p := ⟨xb, 0, none⟩) hxW).trans h.x0, fun g cap w2 hown hgrow hat => ?_⟩
  have hB2 : Below lo W w2 := (hB1.mono h.size).grown hgrow (by simp; exact Nat.le_trans h.size (Nat.le_succ_of_le hs1)) (fun j hj => (k2 j hj).1)
  have hD := k3 _ w2 A1 nm ar rs c1 lo1 hi g cap hB1 (ho.below hA (by omega)) hnm hlo1 (Nat.le_trans h.size hlo1) (by simp; omega) (by simp; exact Nat.le_succ_of_le (Nat.le_trans h.size hs1)) hown hgrow (by simpa using hat)
  refine ⟨(hB2.cell (p := ⟨xb, 0, none⟩) h.hxb).trans h.x0, (hB2.frozen (p := ⟨xb, 0, none⟩) h.hxb).trans h.fx, h.push hB2 hD, fun X i hX hX1 => ?_, ?_⟩
  · rw [cell_set_other (by omega)]
    have e1 : w2.heap[X]? = (w1.alloc (.cells #[.string nm, .int .i64 ar, .slice A1 rs.length c1] 26)).heap[X]? := hgrow.block X (by simp; omega) fun e => by have := k2 X e.symm; omega
    exact (World.cell?_of_block e1).trans (hA.cell (p := ⟨X, i, none⟩) hX1)
  · have := hgrow.size
    simp at this
    simp [World.setCell]
    omega

theorem tab_small {ts : List Tab} {k : Nat} {t : Tab} (hx : ts[k]? = some t) (hs : sumT ts ≤ 4294967296) : t.rs.length ≤ 5000000000 ∧ ∀ r ∈ t.rs, r.length ≤ 17592186044416 := by
  have h1 := sumT_mem (List.mem_of_getElem? hx)
  exact ⟨by omega, fun r hr => by have := sumL_mem hr; omega⟩

/-- A new database and a bool, behind a name. -/
def DbBool (R : List Tab × Bool) (w : World) (e : Ending) (w' : World) : Prop :=
  ∃ (A : Option Addr) (c : Nat), e = .returned (.tuple #[.agg #[.slice A R.1.length c], .bool R.2]) ∧ OwnD w' w.heap.size w'.heap.size (.slice A R.1.length c) R.1 ∧ Below w.heap.size w w'

theorem DbBool.of {R : List Tab × Bool} {ts : List Tab} {b : Bool} {w w' : World} {A : Option Addr} {n c : Nat} (hR : R = (ts, b)) (h : OwnD w' w.heap.size w'.heap.size (.slice A n c) ts) (hb : Below w.heap.size w w') :
    DbBool R w (.returned (.tuple #[.agg #[.slice A n c], .bool b])) w' := by
  subst hR
  have hn := h.len_eq
  subst hn
  exact ⟨A, c, rfl, h, hb⟩

/-- DbBool, its parts apart. -/
def DbAns (ts : List Tab) (ok : Bool) (w : World) (e : Ending) (w' : World) : Prop :=
  ∃ (A : Option Addr) (c : Nat), e = .returned (.tuple #[.agg #[.slice A ts.length c], .bool ok]) ∧ OwnD w' w.heap.size w'.heap.size (.slice A ts.length c) ts ∧ Below w.heap.size w w'

end

section
open Go.RowKit Go.Deep

set_option maxRecDepth 100000 in
set_option maxHeartbeats 1000000 in
theorem spec_IsValidDatabase_any (A : Option Addr) (n c B : Nat) (ts : List Tab) (w : World) (hr : RdT w B A n ts) (hB : B ≤ w.heap.size) (hn : n ≤ 1000000000) (hs : sumT ts ≤ 4294967296) :
    Calls Tryz.prog 33 #[.agg #[.slice A n c]] w fun e w' => e = .returned (.bool (validD ts)) ∧ Below w.heap.size w w' := by
  have HL := Lib.hid hr.1
  have hsm := Lib.hid hs
  clear hs
  have kn0 : Kn w [(w.heap.size, 0, .slice A n c)] (w.alloc (.cells #[.slice A n c] 42)) := by
    simpa using (Kn.start w).box1 (.slice A n c) 42
  go_enter Tryz.func33, Tryz.ntmps33
  go_wp2_with fail
  generalize w.alloc (.cells #[.slice A n c] 42) = w0 at kn0 ⊢
  go_loopw [3] (fun i wr => ∃ k : Nat, k ≤ n ∧ i = .int .i64 k ∧ Hid ((ts.take k).all validTb = true ∧ AscN ts k) ∧ Kn w [(w.heap.size, 0, .slice A n c)] wr) (fun i _ => n - (intOf i).toNat)
  case atStart => exact ⟨0, by omega, rfl, ⟨by simp, AscN.one _ (by omega)⟩, kn0⟩
  case round =>
    obtain ⟨k, hk, rfl, hp, kn⟩ := hrel
    clear kn0
    obtain ⟨x0, _⟩ := kn.all
    have hbel := Lib.hid kn.bel
    have hsz := hbel.out.size
    by_cases hlt : k < n
    · obtain ⟨b, o, t, A1, c1, rfl, hb, hx, hc0, hc1, hc2, hrd, hm, _⟩ := RdT.at_ hr hlt
      have bz0 := Lib.hid (Below.refl wr.heap.size wr)
      have KV : Hid (∀ W, Below wr.heap.size wr W → Calls Tryz.prog 12 #[.agg #[.string t.nm, .int .i64 t.ar, .slice A1 t.rs.length c1]] W fun e w' => e = .returned (.bool (validTb t)) ∧ Below W.heap.size W w') := fun W bw =>
        spec_IsValidTable_any t.nm t.ar A1 t.rs.length c1 B t.rs W (RdR.belowB hrd (hbel.out.trans (bw.mono hsz)) hB) (Nat.le_trans hB (Nat.le_trans hsz bw.size)) (by have := sumT_mem (List.mem_of_getElem? hx); have := hsm.out; omega)
      have HX := Lib.hid hx
      have g1 : (0 : Int) ≤ (k : Int) := by omega
      have g2 : (k : Int) < (n : Int) := by omega
      have g3 : (k : Int).toNat = k := by omega
      have KN := Lib.hid kn
      have KB : Hid (∀ W, Below wr.heap.size wr W → W.cell? ⟨w.heap.size, 0, none⟩ = some (.slice (some ⟨b, o, none⟩) n c) ∧ W.cell? ⟨b, o + k * 3, none⟩ = some (.string t.nm) ∧ W.cell? ⟨b, o + k * 3 + 1, none⟩ = some (.int .i64 t.ar) ∧ W.cell? ⟨b, o + k * 3 + 2, none⟩ = some (.slice A1 t.rs.length c1)) := fun W bw => by
        obtain ⟨z0, _⟩ := (KN.out.next bw).all
        exact ⟨z0, (bw.cell (p := ⟨b, o + k * 3, none⟩) (by show b < _; omega)).trans ((hbel.out.cell (p := ⟨b, o + k * 3, none⟩) (by show b < _; omega)).trans hc0), (bw.cell (p := ⟨b, o + k * 3 + 1, none⟩) (by show b < _; omega)).trans ((hbel.out.cell (p := ⟨b, o + k * 3 + 1, none⟩) (by show b < _; omega)).trans hc1),
          (bw.cell (p := ⟨b, o + k * 3 + 2, none⟩) (by show b < _; omega)).trans ((hbel.out.cell (p := ⟨b, o + k * 3 + 2, none⟩) (by show b < _; omega)).trans hc2)⟩
      clear hx hc0 hc1 hc2 hrd hm kn
      cases hv : validTb t with
      | false =>
        have hf := Lib.hid (validD_no HX.out hv)
        rw [hv] at KV
        clear hv
        obtain ⟨nm, ar, rs⟩ := t
        go_wp2_with fail
        refine wp_region_class (by kernel_rfl) (by kernel_rfl) (fun W => Below wr.heap.size wr W) ((bz0.out).drew) (fun S _ f hG hS => ?_)
        have y0 : ∀ s, (f s).cell? ⟨w.heap.size, 0, none⟩ = some (.slice (some ⟨b, o, none⟩) n c) := fun s => (KB.out _ (hG s)).1
        have y1 : ∀ s, (f s).cell? ⟨b, o + k * 3, none⟩ = some (.string nm) := fun s => (KB.out _ (hG s)).2.1
        have y2 : ∀ s, (f s).cell? ⟨b, o + k * 3 + 1, none⟩ = some (.int .i64 ar) := fun s => (KB.out _ (hG s)).2.2.1
        have y3 : ∀ s, (f s).cell? ⟨b, o + k * 3 + 2, none⟩ = some (.slice A1 rs.length c1) := fun s => (KB.out _ (hG s)).2.2.2
        have HG := Lib.hid hG
        have HS := Lib.hid hS
        clear hG hS
        repeat (first | go_big_quiet_step ((first | (go_at_call 12; exact Calls.clsB HS.out (HG.out _) (KV.out _ (HG.out _))))) | quiet_step ((first | (go_at_call 12; exact Calls.clsB HS.out (HG.out _) (KV.out _ (HG.out _))))))
        refine wpQuiet_nil ?_
        rintro _ ⟨s, rfl⟩
        have HF := Lib.hid (KN.out.next (HG.out s)).bel
        clear y0 y1 y2 y3 g3 HG HS
        go_wp2_with fail
        go_ret
        exact ⟨by rw [hf.out] <;> rfl, HF.out⟩
      | true =>
        have hp1 := Lib.hid (tabs_take hp.out.1 HX.out hv)
        rw [hv] at KV
        clear hv
        rcases Nat.eq_zero_or_pos k with hk0 | hk0
        · subst hk0
          have hp2 : Hid ((ts.take 1).all validTb = true ∧ AscN ts 1) := ⟨hp1.out, AscN.one _ (by omega)⟩
          obtain ⟨nm, ar, rs⟩ := t
          have g2' : (0 : Int) < (n : Int) := by omega
          simp only [Nat.zero_mul, Nat.add_zero] at KB
          clear g1 g2 g3 hp1
          go_wp2_with fail
          refine wp_region_class (by kernel_rfl) (by kernel_rfl) (fun W => Below wr.heap.size wr W) ((bz0.out).drew) (fun S _ f hG hS => ?_)
          have y0 : ∀ s, (f s).cell? ⟨w.heap.size, 0, none⟩ = some (.slice (some ⟨b, o, none⟩) n c) := fun s => (KB.out _ (hG s)).1
          have y1 : ∀ s, (f s).cell? ⟨b, o, none⟩ = some (.string nm) := fun s => (KB.out _ (hG s)).2.1
          have y2 : ∀ s, (f s).cell? ⟨b, o + 1, none⟩ = some (.int .i64 ar) := fun s => (KB.out _ (hG s)).2.2.1
          have y3 : ∀ s, (f s).cell? ⟨b, o + 2, none⟩ = some (.slice A1 rs.length c1) := fun s => (KB.out _ (hG s)).2.2.2
          have HG := Lib.hid hG
          have HS := Lib.hid hS
          clear hG hS
          repeat (first | go_big_quiet_step ((first | (go_at_call 12; exact Calls.clsB HS.out (HG.out _) (KV.out _ (HG.out _))))) | quiet_step ((first | (go_at_call 12; exact Calls.clsB HS.out (HG.out _) (KV.out _ (HG.out _))))))
          refine wpQuiet_nil ?_
          rintro _ ⟨s, rfl⟩
          have HF := Lib.hid (KN.out.next (HG.out s))
          clear y0 y1 y2 y3 HG HS
          go_wp2_with fail
          refine ⟨⟨1, by omega, by go_num, hp2, HF.out⟩, ?_⟩
          simp [intOf]
          omega
        · obtain ⟨j, rfl⟩ : ∃ j, k = j + 1 := ⟨k - 1, by omega⟩
          obtain ⟨b', o', x, A2, c2, hbb, _, hx', hc0', _, _, _, _, _⟩ := RdT.at_ hr (show j < n by omega)
          injection hbb with hbb
          injection hbb with hb1 hb2
          subst hb1 hb2
          have KX : Hid (∀ W, Below wr.heap.size wr W → W.cell? ⟨b, o + j * 3, none⟩ = some (.string x.nm)) := fun W bw => (bw.cell (p := ⟨b, o + j * 3, none⟩) (by show b < _; omega)).trans ((hbel.out.cell (p := ⟨b, o + j * 3, none⟩) (by show b < _; omega)).trans hc0')
          have HX' := Lib.hid hx'
          clear hx' hc0'
          have g4 : IntKind.i64.wrap ((((j + 1 : Nat) : Int)) - 1) = (j : Int) := by rw [IntWalk.i64_in _ (by omega)]; omega
          have g5 : (0 : Int) ≤ (j : Int) := by omega
          have g6 : (j : Int) < (n : Int) := by omega
          have g7 : (j : Int).toNat = j := by omega
          have g8 : decide ((0 : Int) < (((j + 1 : Nat) : Int))) = true := decide_eq_true (by omega)
          cases hlt2 : ltN x.nm t.nm with
          | true =>
            have hp2 : Hid ((ts.take (j + 1 + 1)).all validTb = true ∧ AscN ts (j + 1 + 1)) := ⟨hp1.out, hp.out.2.step HX'.out HX.out hlt2⟩
            unfold ltN at hlt2
            clear hp1
            obtain ⟨nm, ar, rs⟩ := t
            go_wp2_with fail
            refine wp_region_class (by kernel_rfl) (by kernel_rfl) (fun W => Below wr.heap.size wr W) ((bz0.out).drew) (fun S _ f hG hS => ?_)
            have y0 : ∀ s, (f s).cell? ⟨w.heap.size, 0, none⟩ = some (.slice (some ⟨b, o, none⟩) n c) := fun s => (KB.out _ (hG s)).1
            have y1 : ∀ s, (f s).cell? ⟨b, o + (j + 1) * 3, none⟩ = some (.string nm) := fun s => (KB.out _ (hG s)).2.1
            have y2 : ∀ s, (f s).cell? ⟨b, o + (j + 1) * 3 + 1, none⟩ = some (.int .i64 ar) := fun s => (KB.out _ (hG s)).2.2.1
            have y3 : ∀ s, (f s).cell? ⟨b, o + (j + 1) * 3 + 2, none⟩ = some (.slice A1 rs.length c1) := fun s => (KB.out _ (hG s)).2.2.2
            have y4 : ∀ s, (f s).cell? ⟨b, o + j * 3, none⟩ = some (.string x.nm) := fun s => KX.out _ (hG s)
            have HG := Lib.hid hG
            have HS := Lib.hid hS
            clear hG hS
            repeat (first | go_big_quiet_step ((first | (go_at_call 12; exact Calls.clsB HS.out (HG.out _) (KV.out _ (HG.out _))))) | quiet_step ((first | (go_at_call 12; exact Calls.clsB HS.out (HG.out _) (KV.out _ (HG.out _))))))
            refine wpQuiet_nil ?_
            rintro _ ⟨s, rfl⟩
            have HF := Lib.hid (KN.out.next (HG.out s))
            clear y0 y1 y2 y3 y4 g3 g4 g7 HG HS
            go_wp2_with fail
            refine ⟨⟨j + 1 + 1, by omega, by go_num, hp2, HF.out⟩, ?_⟩
            simp [intOf]
            omega
          | false =>
            have hf := Lib.hid (validD_no2 HX'.out HX.out hlt2)
            unfold ltN at hlt2
            clear hp1
            obtain ⟨nm, ar, rs⟩ := t
            go_wp2_with fail
            refine wp_region_class (by kernel_rfl) (by kernel_rfl) (fun W => Below wr.heap.size wr W) ((bz0.out).drew) (fun S _ f hG hS => ?_)
            have y0 : ∀ s, (f s).cell? ⟨w.heap.size, 0, none⟩ = some (.slice (some ⟨b, o, none⟩) n c) := fun s => (KB.out _ (hG s)).1
            have y1 : ∀ s, (f s).cell? ⟨b, o + (j + 1) * 3, none⟩ = some (.string nm) := fun s => (KB.out _ (hG s)).2.1
            have y2 : ∀ s, (f s).cell? ⟨b, o + (j + 1) * 3 + 1, none⟩ = some (.int .i64 ar) := fun s => (KB.out _ (hG s)).2.2.1
            have y3 : ∀ s, (f s).cell? ⟨b, o + (j + 1) * 3 + 2, none⟩ = some (.slice A1 rs.length c1) := fun s => (KB.out _ (hG s)).2.2.2
            have y4 : ∀ s, (f s).cell? ⟨b, o + j * 3, none⟩ = some (.string x.nm) := fun s => KX.out _ (hG s)
            have HG := Lib.hid hG
            have HS := Lib.hid hS
            clear hG hS
            repeat (first | go_big_quiet_step ((first | (go_at_call 12; exact Calls.clsB HS.out (HG.out _) (KV.out _ (HG.out _))))) | quiet_step ((first | (go_at_call 12; exact Calls.clsB HS.out (HG.out _) (KV.out _ (HG.out _))))))
            refine wpQuiet_nil ?_
            rintro _ ⟨s, rfl⟩
            have HF := Lib.hid (KN.out.next (HG.out s)).bel
            clear y0 y1 y2 y3 y4 g3 g4 g7 HG HS
            go_wp2_with fail
            go_ret
            exact ⟨by rw [hf.out] <;> rfl, HF.out⟩
    · obtain rfl : k = n := by omega
      have hf := Lib.hid (validD_end hp.out.1 hp.out.2 (by rw [HL.out]; exact Nat.le_refl _))
      rw [HL.out] at hf
      have hq := Lib.hid (show decide ((k : Int) ≤ 6) = decide (k ≤ 6) by by_cases h6 : k ≤ 6 <;> simp [h6] <;> omega)
      go_wp2_with fail
      go_ret
      exact ⟨by rw [hf.out, ← hq.out] <;> rfl, hbel.out⟩

end
end Go.Proofs.YtmojjbhjjhdpaaaGreatDoor
