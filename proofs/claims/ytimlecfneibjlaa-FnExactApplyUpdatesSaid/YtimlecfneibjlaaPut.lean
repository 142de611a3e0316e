/- Put, PutS, in one text (a claim has at most 60 files). -/
import Derived.Test.YtimlecfneibjlaaCpt
import Derived.Test.YtimlecfneibjlaaLInv
namespace Go.Proofs.Ytimlecfneibjlaa
open Go.RowKit Go.Deep

/-- What spec.l4Put lays behind the rows it has seen ('put': the new row lies already). -/
def putA (r : List Int) : Bool → List (List Int) → List (List Int)
  | put, [] => if put then [] else [r]
  | put, x :: l => if 0 < cmpL x r ∧ put = false then r :: x :: putA r true l else x :: putA r (put || decide (cmpL x r = 0)) l
theorem putA_true (r : List Int) : ∀ l : List (List Int), putA r true l = l
  | [] => rfl
  | x :: l => by rw [putA, if_neg (by simp), Bool.true_or, putA_true r l]
theorem putA_mem (r : List Int) : ∀ (l : List (List Int)) (x : List Int), x ∈ putA r false l ↔ x = r ∨ x ∈ l
  | [], x => by simp [putA]
  | y :: l, x => by
    rw [putA]
    by_cases h : 0 < cmpL y r
    · rw [if_pos ⟨h, rfl⟩, putA_true]
      simp
    · rw [if_neg (by simp [h]), Bool.false_or]
      by_cases e : cmpL y r = 0
      · rw [decide_eq_true e, putA_true, cmpL_eq e]
        simp
      · rw [decide_eq_false e, List.mem_cons, putA_mem r l x, List.mem_cons]
        constructor
        · rintro (h | h | h)
          · exact .inr (.inl h)
          · exact .inl h
          · exact .inr (.inr h)
        · rintro (h | h | h)
          · exact .inr (.inl h)
          · exact .inl h
          · exact .inr (.inr h)
theorem putA_asc (r : List Int) : ∀ (l : List (List Int)), AscP l → AscP (putA r false l)
  | [], _ => by simp [putA]
  | y :: l, h => by
    obtain ⟨h1, h2⟩ := List.pairwise_cons.1 h
    rw [putA]
    by_cases hp : 0 < cmpL y r
    · rw [if_pos ⟨hp, rfl⟩, putA_true]
      have hr : cmpL r y < 0 := by rw [cmpL_swap]; omega
      refine List.pairwise_cons.2 ⟨fun z hz => ?_, h⟩
      rcases List.mem_cons.1 hz with rfl | hz
      · exact hr
      · exact cmpL_trans hr (h1 z hz)
    · rw [if_neg (by simp [hp]), Bool.false_or]
      by_cases e : cmpL y r = 0
      · rw [decide_eq_true e, putA_true]
        exact h
      · rw [decide_eq_false e]
        refine List.pairwise_cons.2 ⟨fun z hz => ?_, putA_asc r l h2⟩
        rcases (putA_mem r l z).1 hz with rfl | hz
        · omega
        · exact h1 z hz
theorem putA_len (r : List Int) : ∀ (l : List (List Int)), l.length ≤ (putA r false l).length ∧ (putA r false l).length ≤ l.length + 1
  | [] => by simp [putA]
  | y :: l => by
    rw [putA]
    by_cases hp : 0 < cmpL y r
    · rw [if_pos ⟨hp, rfl⟩, putA_true]
      simp
    · rw [if_neg (by simp [hp]), Bool.false_or]
      by_cases e : cmpL y r = 0
      · rw [decide_eq_true e, putA_true]
        simp
      · rw [decide_eq_false e]
        have := putA_len r l
        simp only [List.length_cons]
        omega
theorem putA_sum (r : List Int) : ∀ (l : List (List Int)), sumL (putA r false l) ≤ sumL l + r.length
  | [] => by simp [putA, sumL]
  | y :: l => by
    rw [putA]
    by_cases hp : 0 < cmpL y r
    · rw [if_pos ⟨hp, rfl⟩, putA_true]
      simp only [sumL_cons]
      omega
    · rw [if_neg (by simp [hp]), Bool.false_or]
      by_cases e : cmpL y r = 0
      · rw [decide_eq_true e, putA_true]
        simp only [sumL_cons]
        omega
      · rw [decide_eq_false e]
        have := putA_sum r l
        simp only [sumL_cons]
        omega
/-- Rows put one by one. -/
def putAll (acc : List (List Int)) (rs : List (List Int)) : List (List Int) := rs.foldl (fun a r => putA r false a) acc
/-- Rows in order, each once. -/
def sortL (rs : List (List Int)) : List (List Int) := putAll [] rs
theorem putAll_mem : ∀ (rs acc : List (List Int)) (x : List Int), x ∈ putAll acc rs ↔ x ∈ acc ∨ x ∈ rs
  | [], acc, x => by simp [putAll]
  | r :: rs, acc, x => by
    show x ∈ putAll (putA r false acc) rs ↔ _
    rw [putAll_mem rs, putA_mem, List.mem_cons]
    constructor
    · rintro ((h | h) | h)
      · exact .inr (.inl h)
      · exact .inl h
      · exact .inr (.inr h)
    · rintro (h | h | h)
      · exact .inl (.inr h)
      · exact .inl (.inl h)
      · exact .inr h
theorem putAll_asc : ∀ (rs acc : List (List Int)), AscP acc → AscP (putAll acc rs)
  | [], _, h => h
  | r :: rs, acc, h => putAll_asc rs _ (putA_asc r acc h)
theorem putAll_len : ∀ (rs acc : List (List Int)), acc.length ≤ (putAll acc rs).length ∧ (putAll acc rs).length ≤ acc.length + rs.length
  | [], acc => by simp [putAll]
  | r :: rs, acc => by
    have h1 := putAll_len rs (putA r false acc)
    have h2 := putA_len r acc
    show _ ≤ (putAll (putA r false acc) rs).length ∧ (putAll (putA r false acc) rs).length ≤ _
    simp only [List.length_cons]
    omega
theorem putAll_sum : ∀ (rs acc : List (List Int)), sumL (putAll acc rs) ≤ sumL acc + sumL rs
  | [], acc => by simp [putAll, sumL]
  | r :: rs, acc => by
    have h1 := putAll_sum rs (putA r false acc)
    have h2 := putA_sum r acc
    show sumL (putAll (putA r false acc) rs) ≤ _
    rw [sumL_cons]
    omega
theorem putAll_append (acc a b : List (List Int)) : putAll acc (a ++ b) = putAll (putAll acc a) b := List.foldl_append
theorem sortL_asc (rs : List (List Int)) : AscP (sortL rs) := putAll_asc rs [] .nil
theorem sortL_mem (rs : List (List Int)) (x : List Int) : x ∈ sortL rs ↔ x ∈ rs := by rw [sortL, putAll_mem]; simp
theorem sortL_len (rs : List (List Int)) : (sortL rs).length ≤ rs.length := by have := (putAll_len rs []).2; rw [List.length_nil, Nat.zero_add] at this; exact this
theorem sortL_sum (rs : List (List Int)) : sumL (sortL rs) ≤ sumL rs := by have := putAll_sum rs []; rw [sumL_nil, Nat.zero_add] at this; exact this
theorem sortL_take (rs : List (List Int)) (j : Nat) : (sortL (rs.take j)).length ≤ (sortL rs).length := by
  have h := putAll_append [] (rs.take j) (rs.drop j)
  rw [List.take_append_drop] at h
  rw [sortL, sortL, h]
  exact (putAll_len _ _).1
theorem sortL_of {rs rs' : List (List Int)} (h : AscP rs') (hm : ∀ x, x ∈ rs' ↔ x ∈ rs) : rs' = sortL rs := ascP_unique h (sortL_asc rs) fun x => by rw [hm, sortL_mem]
theorem sortL_snoc {rs : List (List Int)} (h : AscP rs) (r : List Int) : sortL (rs ++ [r]) = putA r false rs := (sortL_of (putA_asc r rs h) fun x => by rw [putA_mem, List.mem_append, List.mem_singleton]; exact or_comm).symm

set_option maxRecDepth 100000 in
theorem sorted_any (A : Option Addr) (n c B : Nat) (rs : List (List Int)) (w : World) (hr : RdR w B A n rs) (hB : B ≤ w.heap.size) (hn : n ≤ 5000000000) (hrow : ∀ r ∈ rs, r.length ≤ 17592186044416) :
    Calls Try.prog 108 #[.slice A n c] w (RowsNew (sortL rs) w) := by
  have HN := Lib.hid hr.1
  have hrow' := Lib.hid hrow
  clear hrow
  go_enter Try.func108, Try.ntmps108
  go_wp2_with fail
  refine (copyRows_any A n c B rs w hr hB hn hrow'.out).mono ?_
  rintro e w1 ⟨A1, c1, rfl, o1, b1⟩
  go_wp2_with fail
  refine (sortRows_own A1 rs.length c1 _ _ rs w1 o1 (by rw [HN.out]; omega)).mono ?_
  rintro e w2 ⟨rfl, rs2, o2, p2, s2, k2⟩
  have S2 := Lib.hid s2
  clear s2
  go_wp2_with fail
  refine (compactRows_own A1 rs.length c1 _ _ rs2 w2 o2 (List.Pairwise.imp (fun {_ _} h => by omega) S2.out)).mono ?_
  rintro e w3 ⟨m, rs3, rfl, o3, a3, m3, k3⟩
  have HF : Hid (rs3 = sortL rs) := sortL_of a3 fun x => by rw [m3, p2.mem_iff]
  have hb := Lib.hid ((b1.trans ((k2.below (Nat.le_refl _) b1.size))).trans ((k3.below (Nat.le_refl _) (Nat.le_trans b1.size k2.size))))
  have ho := Lib.hid (o3.wide (Nat.le_trans k2.size k3.size))
  clear o1 b1 o2 p2 k2 o3 a3 m3 k3
  go_wp2_with fail
  go_ret
  refine RowsNew.of ?_ hb.out
  rw [← HF.out]
  exact ho.out
end Go.Proofs.Ytimlecfneibjlaa
namespace Go.Proofs.Ytimlecfneibjlaa
open Go.RowKit Go.Deep

set_option maxRecDepth 100000 in
set_option maxHeartbeats 4000000 in
theorem l4Put_any (A A' : Option Addr) (n c n' c' B : Nat) (rs : List (List Int)) (r : List Int) (w : World) (hr : RdR w B A n rs) (hr' : RdI w B A' n' r) (hB : B ≤ w.heap.size) (hn : n ≤ 5000000000) (hn' : n' ≤ 17592186044416) (hrow : ∀ r ∈ rs, r.length ≤ 17592186044416) :
    Calls Try.prog 106 #[.slice A n c, .slice A' n' c'] w (RowsNew (putA r false rs) w) := by
  obtain ⟨i0, hi, hz0, hz1, hz2⟩ := info_parts info_int
  obtain ⟨i1, hi', hz0', hz1', hz2'⟩ := info_parts info_row
  have hl' := hr'.1
  subst hl'
  have HL := Lib.hid hr.1
  have hrow' := Lib.hid hrow
  clear hrow
  go_enter Try.func106, Try.ntmps106
  go_wp2_with fail
  go_loopw [5, 6, 7, 8] (fun v put i _ wr => ∃ (k : Nat) (pb : Bool) (R : List (List Int)), k ≤ n ∧ i = .int .i64 k ∧ put = .bool pb ∧ Hid (R ++ putA r pb (rs.drop k) = putA r false rs) ∧ R.length ≤ 2 * k + 1 ∧ Hid (OwnR wr w.heap.size wr.heap.size v R) ∧ Hid (Below w.heap.size w wr)) (fun _ _ i _ _ => n - (intOf i).toNat)
  case atStart => exact ⟨0, false, [], by omega, rfl, rfl, rfl, by simp, OwnR.empty w (Nat.le_refl _), (Below.refl _ _).alloc (Nat.le_refl _) _⟩
  case round =>
    obtain ⟨k, pb, R, hk, rfl, rfl, hput, hRk, hown, hbel⟩ := hrel
    have hsz := hbel.out.size
    obtain ⟨m, hm⟩ : ∃ m, R.length = m := ⟨_, rfl⟩
    have mH := Lib.hid hm
    rw [hm] at hRk
    clear hm
    by_cases hlt : k < n
    · obtain ⟨b, o, x, A1, c1, rfl, hb, hx, hc, hrd, _⟩ := RdR.at_ (RdR.more hr hB) hlt
      have hc1 := (hbel.out.cell (p := ⟨b, o + k, none⟩) hb).trans hc
      have hxl := hrow'.out x (List.mem_of_getElem? hx)
      have hrd1 := (hrd.below hbel.out).more (show w.heap.size ≤ wr.heap.size by omega)
      have hrr1 := (hr'.belowB hbel.out hB).more (show B ≤ wr.heap.size by omega)
      have KE := Lib.hid (spec_CompareRows_q A1 A' x.length c1 r.length c' x r wr hrd1 hrr1 (by omega) (by omega))
      have HD := Lib.hid (show rs.drop k = x :: rs.drop (k + 1) from by
        obtain ⟨h1, h2⟩ := List.getElem?_eq_some_iff.1 hx
        rw [List.drop_eq_getElem_cons h1, h2])
      have g1 : (0 : Int) ≤ (k : Int) := by omega
      have g2 : (k : Int) < (n : Int) := by omega
      have g3 : (k : Int).toNat = k := by omega
      have RD := Lib.hid (show ∀ W, Below w.heap.size w W → RdI W W.heap.size A1 x.length x from fun W b => (hrd.below b).more b.size)
      have RR := Lib.hid (show ∀ W, Below w.heap.size w W → RdI W W.heap.size A' r.length r from fun W b => (hr'.belowB b hB).more (Nat.le_trans hB b.size))
      clear hx hc hrd hrd1 hrr1
      obtain ⟨y, hy⟩ : ∃ y, y = cmpL x r := ⟨_, rfl⟩
      rw [← hy] at KE
      have HY := Lib.hid hy
      clear hy
      by_cases h0 : y = 0
      · subst h0
        have gz := Lib.hid (show cmpL x r = 0 from HY.out.symm)
        have HP : Hid (R ++ [x] ++ putA r true (rs.drop (k + 1)) = putA r false rs) := by
          show _ = _
          rw [← hput.out, HD.out, putA, if_neg (by rw [gz.out]; simp), decide_eq_true gz.out, Bool.or_true]
          simp
        go_wp2_with fail
        refine KE.out.mono ?_
        rintro e w4 ⟨rfl, hq⟩
        have hb4 := hq.below wr.heap.size
        have hs4 := hb4.size
        have own4 := Lib.hid ((hown.out.below hb4 (Nat.le_refl _)).wide hs4)
        have bel4 := Lib.hid (hbel.out.trans (hb4.mono hsz))
        have hc4 := (hb4.cell (p := ⟨b, o + k, none⟩) (by show b < _; omega)).trans hc1
        have l4 : b < w4.heap.size := by omega
        replace hsz : w.heap.size ≤ w4.heap.size := by omega
        clear hc1 hq hb4 hown hbel
        go_wp2_with (first
          | (at_builtin; refine wpList_append_src _ rfl _ _ _ rfl 3 i0 _ 8 Try.underlying59 hi hz0 hz1 hz2 rfl (.slice (some ⟨w4.heap.size, 0, none⟩) 0 0) 0 [] rfl (own_at (heap_alloc_new w4 _)) A1 x.length c1 (x.map iv) rfl ((RD.out _ bel4.out).below ((Below.refl _ _).alloc (Nat.le_refl _) _)).src (by simp [iv, Value.oneCell']) (by unfold maxLen; omega) (by omega) ?_; intro v1 w5 hown1 hgrow1 hat1
             obtain ⟨A2, c2', rfl, ho1⟩ := own_of_copy (w := w4) hown1 (hat_ge hat1 (by simp))
             have hb1 : Below w4.heap.size w4 w5 := ((Below.refl w4.heap.size w4).alloc (Nat.le_refl _) (.cells #[] 3)).grown hgrow1 (by simp) (fun j hj => by simp [Value.ownBlock] at hj; omega)
             obtain ⟨xs, hrow1, hblk, hclose⟩ := (own4.out.below hb1 (Nat.le_refl _)).open_
             rw [mH.out] at hrow1
             have hs1 := hb1.size
             have HC := Lib.hid hclose
             have HBK := Lib.hid hblk
             have HO := Lib.hid ho1
             have HB1 := Lib.hid hb1
             have hrow2 := hrow1.alloc (.cells #[.slice A2 x.length c2'] 59)
             clear hown1 hgrow1 hat1 hclose hblk ho1 hb1 hrow1)
          | (at_builtin; refine wpList_append_lies _ rfl _ _ _ rfl 0 59 i1 _ 1 24 Try.underlying34 hi' hz0' hz1' hz2' rfl (by omega) _ m xs rfl hrow2 ⟨w5.heap.size, 0, none⟩ 1 1 [.slice A2 x.length c2'] rfl rfl (World.news_of_block (cs := #[.slice A2 x.length c2']) (t := 59) (fr := (0, 0)) (heap_alloc_new w5 _)) (by simp [Value.oneCell']) (by omega) (by unfold maxLen; omega) (by omega) (Nat.zero_le _) (w5.heap.size + 1) (by simp) ?_; intro g cap w6 hown2 hgrow hat hlt2
             have hB2 : Below w.heap.size w4 w6 := ((HB1.out.mono hsz).alloc (by omega) (.cells #[.slice A2 x.length c2'] 59)).grown hgrow (by simp; omega) (fun j hj => (HBK.out j hj).1)
             have hfin := HC.out (w5.alloc (.cells #[.slice A2 x.length c2'] 59)) w6 A2 x c2' w4.heap.size w5.heap.size g cap ((Below.refl _ _).alloc (Nat.le_refl _) _) (HO.out.below ((Below.refl w5.heap.size w5).alloc (Nat.le_refl _) _) (Nat.le_refl _)) (Nat.le_refl _) hsz (by simp) (by simp; omega) (by rw [mH.out]; exact hown2) hgrow (hat.imp (fun h => h) (fun h => by rw [h]; simp))
             rw [mH.out] at hfin
             have HF := Lib.hid (And.intro hfin hB2)
             clear hown2 hgrow hat hB2 hfin HC HBK HO HB1 hrow2 hlt2 hs1)
          | fail)
        refine ⟨⟨k + 1, true, R ++ [x], by omega, by go_num, rfl, HP, by rw [List.length_append, mH.out]; simp; omega, HF.out.1, bel4.out.trans HF.out.2⟩, ?_⟩
        simp [intOf]
        omega
      have q0 : (y == 0) = false := by simpa using h0
      have gz := Lib.hid (show ¬ cmpL x r = 0 from by rw [← HY.out]; exact h0)
      by_cases h1 : 0 < y
      · have q1 : decide (0 < y) = true := decide_eq_true h1
        have gz1 := Lib.hid (show 0 < cmpL x r from by rw [← HY.out]; exact h1)
        clear h0 h1
        cases pb
        · have HP : Hid ((R ++ [r]) ++ [x] ++ putA r true (rs.drop (k + 1)) = putA r false rs) := by
            show _ = _
            rw [← hput.out, HD.out, putA, if_pos ⟨gz1.out, rfl⟩]
            simp
          go_wp2_with fail
          refine KE.out.mono ?_
          rintro e w4 ⟨rfl, hq⟩
          have hb4 := hq.below wr.heap.size
          have hs4 := hb4.size
          have own4 := Lib.hid ((hown.out.below hb4 (Nat.le_refl _)).wide hs4)
          have bel4 := Lib.hid (hbel.out.trans (hb4.mono hsz))
          have hc4 := (hb4.cell (p := ⟨b, o + k, none⟩) (by show b < _; omega)).trans hc1
          have l4 : b < w4.heap.size := by omega
          replace hsz : w.heap.size ≤ w4.heap.size := by omega
          clear hc1 hq hb4 hown hbel
          have mH2 := Lib.hid (show (R ++ [r]).length = m + 1 by rw [List.length_append, mH.out]; rfl)
          go_wp2_with (first
            | (at_builtin; refine wpList_append_src _ rfl _ _ _ rfl 3 i0 _ 8 Try.underlying59 hi hz0 hz1 hz2 rfl (.slice (some ⟨w4.heap.size, 0, none⟩) 0 0) 0 [] rfl (own_at (heap_alloc_new w4 _)) A' r.length c' (r.map iv) rfl ((RR.out _ bel4.out).below ((Below.refl _ _).alloc (Nat.le_refl _) _)).src (by simp [iv, Value.oneCell']) (by unfold maxLen; omega) (by omega) ?_; intro v1 w5 hown1 hgrow1 hat1
               obtain ⟨A2, c2', rfl, ho1⟩ := own_of_copy (w := w4) hown1 (hat_ge hat1 (by simp))
               have hb1 : Below w4.heap.size w4 w5 := ((Below.refl w4.heap.size w4).alloc (Nat.le_refl _) (.cells #[] 3)).grown hgrow1 (by simp) (fun j hj => by simp [Value.ownBlock] at hj; omega)
               obtain ⟨xs, hrow1, hblk, hclose⟩ := (own4.out.below hb1 (Nat.le_refl _)).open_
               rw [mH.out] at hrow1
               have hs1 := hb1.size
               have HC := Lib.hid hclose
               have HBK := Lib.hid hblk
               have HO := Lib.hid ho1
               have HB1 := Lib.hid hb1
               have hrow2 := hrow1.alloc (.cells #[.slice A2 r.length c2'] 59)
               clear hown1 hgrow1 hat1 hclose hblk ho1 hb1 hrow1)
            | (at_builtin; refine wpList_append_lies _ rfl _ _ _ rfl 0 59 i1 _ 1 24 Try.underlying34 hi' hz0' hz1' hz2' rfl (by omega) _ m xs rfl hrow2 ⟨w5.heap.size, 0, none⟩ 1 1 [.slice A2 r.length c2'] rfl rfl (World.news_of_block (cs := #[.slice A2 r.length c2']) (t := 59) (fr := (0, 0)) (heap_alloc_new w5 _)) (by simp [Value.oneCell']) (by omega) (by unfold maxLen; omega) (by omega) (Nat.zero_le _) (w5.heap.size + 1) (by simp) ?_; intro g cap w6 hown2 hgrow hat hlt2
               have hB2 : Below w.heap.size w4 w6 := ((HB1.out.mono hsz).alloc (by omega) (.cells #[.slice A2 r.length c2'] 59)).grown hgrow (by simp; omega) (fun j hj => (HBK.out j hj).1)
               have hfin := HC.out (w5.alloc (.cells #[.slice A2 r.length c2'] 59)) w6 A2 r c2' w4.heap.size w5.heap.size g cap ((Below.refl _ _).alloc (Nat.le_refl _) _) (HO.out.below ((Below.refl w5.heap.size w5).alloc (Nat.le_refl _) _) (Nat.le_refl _)) (Nat.le_refl _) hsz (by simp) (by simp; omega) (by rw [mH.out]; exact hown2) hgrow (hat.imp (fun h => h) (fun h => by rw [h]; simp))
               rw [mH.out] at hfin
               have HF0 := Lib.hid (And.intro hfin hB2)
               clear hown2 hgrow hat hB2 hfin HC HBK HO HB1 hrow2 hlt2 hs1
               have own6 := Lib.hid HF0.out.1
               have bel6 := Lib.hid (bel4.out.trans HF0.out.2)
               have hc6 := (HF0.out.2.cell (p := ⟨b, o + k, none⟩) hb).trans hc4
               have hs6 := HF0.out.2.size
               have l6 : b < w6.heap.size := by omega
               clear hc4
               replace hsz : w.heap.size ≤ w6.heap.size := by omega)
            | (at_builtin; refine wpList_append_src _ rfl _ _ _ rfl 3 i0 _ 8 Try.underlying59 hi hz0 hz1 hz2 rfl (.slice (some ⟨w6.heap.size, 0, none⟩) 0 0) 0 [] rfl (own_at (heap_alloc_new w6 _)) A1 x.length c1 (x.map iv) rfl ((RD.out _ bel6.out).below ((Below.refl _ _).alloc (Nat.le_refl _) _)).src (by simp [iv, Value.oneCell']) (by unfold maxLen; omega) (by omega) ?_; intro v1 w7 hown1 hgrow1 hat1
               obtain ⟨A2, c2', rfl, ho1⟩ := own_of_copy (w := w6) hown1 (hat_ge hat1 (by simp))
               have hb1 : Below w6.heap.size w6 w7 := ((Below.refl w6.heap.size w6).alloc (Nat.le_refl _) (.cells #[] 3)).grown hgrow1 (by simp) (fun j hj => by simp [Value.ownBlock] at hj; omega)
               obtain ⟨xs, hrow1, hblk, hclose⟩ := (own6.out.below hb1 (Nat.le_refl _)).open_
               rw [mH2.out] at hrow1
               have hs1 := hb1.size
               have HC := Lib.hid hclose
               have HBK := Lib.hid hblk
               have HO := Lib.hid ho1
               have HB1 := Lib.hid hb1
               have hrow2 := hrow1.alloc (.cells #[.slice A2 x.length c2'] 59)
               clear hown1 hgrow1 hat1 hclose hblk ho1 hb1 hrow1)
            | (at_builtin; refine wpList_append_lies _ rfl _ _ _ rfl 0 59 i1 _ 1 24 Try.underlying34 hi' hz0' hz1' hz2' rfl (by omega) _ (m + 1) xs rfl hrow2 ⟨w7.heap.size, 0, none⟩ 1 1 [.slice A2 x.length c2'] rfl rfl (World.news_of_block (cs := #[.slice A2 x.length c2']) (t := 59) (fr := (0, 0)) (heap_alloc_new w7 _)) (by simp [Value.oneCell']) (by omega) (by unfold maxLen; omega) (by omega) (Nat.zero_le _) (w7.heap.size + 1) (by simp) ?_; intro g cap w8 hown2 hgrow hat hlt2
               have hB2 : Below w.heap.size w6 w8 := ((HB1.out.mono hsz).alloc (by omega) (.cells #[.slice A2 x.length c2'] 59)).grown hgrow (by simp; omega) (fun j hj => (HBK.out j hj).1)
               have hfin := HC.out (w7.alloc (.cells #[.slice A2 x.length c2'] 59)) w8 A2 x c2' w6.heap.size w7.heap.size g cap ((Below.refl _ _).alloc (Nat.le_refl _) _) (HO.out.below ((Below.refl w7.heap.size w7).alloc (Nat.le_refl _) _) (Nat.le_refl _)) (Nat.le_refl _) hsz (by simp) (by simp; omega) (by rw [mH2.out]; exact hown2) hgrow (hat.imp (fun h => h) (fun h => by rw [h]; simp))
               rw [mH2.out] at hfin
               have HF := Lib.hid (And.intro hfin hB2)
               clear hown2 hgrow hat hB2 hfin HC HBK HO HB1 hrow2 hlt2 hs1)
            | fail)
          refine ⟨⟨k + 1, true, (R ++ [r]) ++ [x], by omega, by go_num, rfl, HP, by rw [List.length_append, mH2.out]; simp; omega, HF.out.1, bel6.out.trans HF.out.2⟩, ?_⟩
          simp [intOf]
          omega
        · have HP : Hid (R ++ [x] ++ putA r true (rs.drop (k + 1)) = putA r false rs) := by
            show _ = _
            rw [← hput.out, HD.out, putA, if_neg (by simp), Bool.true_or]
            simp
          go_wp2_with fail
          refine KE.out.mono ?_
          rintro e w4 ⟨rfl, hq⟩
          have hb4 := hq.below wr.heap.size
          have hs4 := hb4.size
          have own4 := Lib.hid ((hown.out.below hb4 (Nat.le_refl _)).wide hs4)
          have bel4 := Lib.hid (hbel.out.trans (hb4.mono hsz))
          have hc4 := (hb4.cell (p := ⟨b, o + k, none⟩) (by show b < _; omega)).trans hc1
          have l4 : b < w4.heap.size := by omega
          replace hsz : w.heap.size ≤ w4.heap.size := by omega
          clear hc1 hq hb4 hown hbel
          go_wp2_with (first
            | (at_builtin; refine wpList_append_src _ rfl _ _ _ rfl 3 i0 _ 8 Try.underlying59 hi hz0 hz1 hz2 rfl (.slice (some ⟨w4.heap.size, 0, none⟩) 0 0) 0 [] rfl (own_at (heap_alloc_new w4 _)) A1 x.length c1 (x.map iv) rfl ((RD.out _ bel4.out).below ((Below.refl _ _).alloc (Nat.le_refl _) _)).src (by simp [iv, Value.oneCell']) (by unfold maxLen; omega) (by omega) ?_; intro v1 w5 hown1 hgrow1 hat1
               obtain ⟨A2, c2', rfl, ho1⟩ := own_of_copy (w := w4) hown1 (hat_ge hat1 (by simp))
               have hb1 : Below w4.heap.size w4 w5 := ((Below.refl w4.heap.size w4).alloc (Nat.le_refl _) (.cells #[] 3)).grown hgrow1 (by simp) (fun j hj => by simp [Value.ownBlock] at hj; omega)
               obtain ⟨xs, hrow1, hblk, hclose⟩ := (own4.out.below hb1 (Nat.le_refl _)).open_
               rw [mH.out] at hrow1
               have hs1 := hb1.size
               have HC := Lib.hid hclose
               have HBK := Lib.hid hblk
               have HO := Lib.hid ho1
               have HB1 := Lib.hid hb1
               have hrow2 := hrow1.alloc (.cells #[.slice A2 x.length c2'] 59)
               clear hown1 hgrow1 hat1 hclose hblk ho1 hb1 hrow1)
            | (at_builtin; refine wpList_append_lies _ rfl _ _ _ rfl 0 59 i1 _ 1 24 Try.underlying34 hi' hz0' hz1' hz2' rfl (by omega) _ m xs rfl hrow2 ⟨w5.heap.size, 0, none⟩ 1 1 [.slice A2 x.length c2'] rfl rfl (World.news_of_block (cs := #[.slice A2 x.length c2']) (t := 59) (fr := (0, 0)) (heap_alloc_new w5 _)) (by simp [Value.oneCell']) (by omega) (by unfold maxLen; omega) (by omega) (Nat.zero_le _) (w5.heap.size + 1) (by simp) ?_; intro g cap w6 hown2 hgrow hat hlt2
               have hB2 : Below w.heap.size w4 w6 := ((HB1.out.mono hsz).alloc (by omega) (.cells #[.slice A2 x.length c2'] 59)).grown hgrow (by simp; omega) (fun j hj => (HBK.out j hj).1)
               have hfin := HC.out (w5.alloc (.cells #[.slice A2 x.length c2'] 59)) w6 A2 x c2' w4.heap.size w5.heap.size g cap ((Below.refl _ _).alloc (Nat.le_refl _) _) (HO.out.below ((Below.refl w5.heap.size w5).alloc (Nat.le_refl _) _) (Nat.le_refl _)) (Nat.le_refl _) hsz (by simp) (by simp; omega) (by rw [mH.out]; exact hown2) hgrow (hat.imp (fun h => h) (fun h => by rw [h]; simp))
               rw [mH.out] at hfin
               have HF := Lib.hid (And.intro hfin hB2)
               clear hown2 hgrow hat hB2 hfin HC HBK HO HB1 hrow2 hlt2 hs1)
            | fail)
          refine ⟨⟨k + 1, true, R ++ [x], by omega, by go_num, rfl, HP, by rw [List.length_append, mH.out]; simp; omega, HF.out.1, bel4.out.trans HF.out.2⟩, ?_⟩
          simp [intOf]
          omega
      · have q1 : decide (0 < y) = false := decide_eq_false h1
        have gz1 := Lib.hid (show ¬ 0 < cmpL x r from by rw [← HY.out]; exact h1)
        clear h0 h1
        have HP : Hid (R ++ [x] ++ putA r pb (rs.drop (k + 1)) = putA r false rs) := by
          show _ = _
          rw [← hput.out, HD.out, putA, if_neg (by simp [gz1.out]), decide_eq_false gz.out, Bool.or_false]
          simp
        go_wp2_with fail
        refine KE.out.mono ?_
        rintro e w4 ⟨rfl, hq⟩
        have hb4 := hq.below wr.heap.size
        have hs4 := hb4.size
        have own4 := Lib.hid ((hown.out.below hb4 (Nat.le_refl _)).wide hs4)
        have bel4 := Lib.hid (hbel.out.trans (hb4.mono hsz))
        have hc4 := (hb4.cell (p := ⟨b, o + k, none⟩) (by show b < _; omega)).trans hc1
        have l4 : b < w4.heap.size := by omega
        replace hsz : w.heap.size ≤ w4.heap.size := by omega
        clear hc1 hq hb4 hown hbel
        go_wp2_with (first
          | (at_builtin; refine wpList_append_src _ rfl _ _ _ rfl 3 i0 _ 8 Try.underlying59 hi hz0 hz1 hz2 rfl (.slice (some ⟨w4.heap.size, 0, none⟩) 0 0) 0 [] rfl (own_at (heap_alloc_new w4 _)) A1 x.length c1 (x.map iv) rfl ((RD.out _ bel4.out).below ((Below.refl _ _).alloc (Nat.le_refl _) _)).src (by simp [iv, Value.oneCell']) (by unfold maxLen; omega) (by omega) ?_; intro v1 w5 hown1 hgrow1 hat1
             obtain ⟨A2, c2', rfl, ho1⟩ := own_of_copy (w := w4) hown1 (hat_ge hat1 (by simp))
             have hb1 : Below w4.heap.size w4 w5 := ((Below.refl w4.heap.size w4).alloc (Nat.le_refl _) (.cells #[] 3)).grown hgrow1 (by simp) (fun j hj => by simp [Value.ownBlock] at hj; omega)
             obtain ⟨xs, hrow1, hblk, hclose⟩ := (own4.out.below hb1 (Nat.le_refl _)).open_
             rw [mH.out] at hrow1
             have hs1 := hb1.size
             have HC := Lib.hid hclose
             have HBK := Lib.hid hblk
             have HO := Lib.hid ho1
             have HB1 := Lib.hid hb1
             have hrow2 := hrow1.alloc (.cells #[.slice A2 x.length c2'] 59)
             clear hown1 hgrow1 hat1 hclose hblk ho1 hb1 hrow1)
          | (at_builtin; refine wpList_append_lies _ rfl _ _ _ rfl 0 59 i1 _ 1 24 Try.underlying34 hi' hz0' hz1' hz2' rfl (by omega) _ m xs rfl hrow2 ⟨w5.heap.size, 0, none⟩ 1 1 [.slice A2 x.length c2'] rfl rfl (World.news_of_block (cs := #[.slice A2 x.length c2']) (t := 59) (fr := (0, 0)) (heap_alloc_new w5 _)) (by simp [Value.oneCell']) (by omega) (by unfold maxLen; omega) (by omega) (Nat.zero_le _) (w5.heap.size + 1) (by simp) ?_; intro g cap w6 hown2 hgrow hat hlt2
             have hB2 : Below w.heap.size w4 w6 := ((HB1.out.mono hsz).alloc (by omega) (.cells #[.slice A2 x.length c2'] 59)).grown hgrow (by simp; omega) (fun j hj => (HBK.out j hj).1)
             have hfin := HC.out (w5.alloc (.cells #[.slice A2 x.length c2'] 59)) w6 A2 x c2' w4.heap.size w5.heap.size g cap ((Below.refl _ _).alloc (Nat.le_refl _) _) (HO.out.below ((Below.refl w5.heap.size w5).alloc (Nat.le_refl _) _) (Nat.le_refl _)) (Nat.le_refl _) hsz (by simp) (by simp; omega) (by rw [mH.out]; exact hown2) hgrow (hat.imp (fun h => h) (fun h => by rw [h]; simp))
             rw [mH.out] at hfin
             have HF := Lib.hid (And.intro hfin hB2)
             clear hown2 hgrow hat hB2 hfin HC HBK HO HB1 hrow2 hlt2 hs1)
          | fail)
        refine ⟨⟨k + 1, pb, R ++ [x], by omega, by go_num, rfl, HP, by rw [List.length_append, mH.out]; simp; omega, HF.out.1, bel4.out.trans HF.out.2⟩, ?_⟩
        simp [intOf]
        omega
    · obtain rfl : k = n := by omega
      have hd := Lib.hid (show rs.drop k = [] from List.drop_of_length_le (Nat.le_of_eq HL.out))
      have RR := Lib.hid (show ∀ W, Below w.heap.size w W → RdI W W.heap.size A' r.length r from fun W b => (hr'.belowB b hB).more (Nat.le_trans hB b.size))
      cases pb
      · have HP : Hid (R ++ [r] = putA r false rs) := by
          show _ = _
          rw [← hput.out, hd.out]
          rfl
        go_wp2_with (first
          | (at_builtin; refine wpList_append_src _ rfl _ _ _ rfl 3 i0 _ 8 Try.underlying59 hi hz0 hz1 hz2 rfl (.slice (some ⟨wr.heap.size, 0, none⟩) 0 0) 0 [] rfl (own_at (heap_alloc_new wr _)) A' r.length c' (r.map iv) rfl ((RR.out _ hbel.out).below ((Below.refl _ _).alloc (Nat.le_refl _) _)).src (by simp [iv, Value.oneCell']) (by unfold maxLen; omega) (by omega) ?_; intro v1 w5 hown1 hgrow1 hat1
             obtain ⟨A2, c2', rfl, ho1⟩ := own_of_copy (w := wr) hown1 (hat_ge hat1 (by simp))
             have hb1 : Below wr.heap.size wr w5 := ((Below.refl wr.heap.size wr).alloc (Nat.le_refl _) (.cells #[] 3)).grown hgrow1 (by simp) (fun j hj => by simp [Value.ownBlock] at hj; omega)
             obtain ⟨xs, hrow1, hblk, hclose⟩ := (hown.out.below hb1 (Nat.le_refl _)).open_
             rw [mH.out] at hrow1
             have hs1 := hb1.size
             have HC := Lib.hid hclose
             have HBK := Lib.hid hblk
             have HO := Lib.hid ho1
             have HB1 := Lib.hid hb1
             have hrow2 := hrow1.alloc (.cells #[.slice A2 r.length c2'] 59)
             clear hown1 hgrow1 hat1 hclose hblk ho1 hb1 hrow1)
          | (at_builtin; refine wpList_append_lies _ rfl _ _ _ rfl 0 59 i1 _ 1 24 Try.underlying34 hi' hz0' hz1' hz2' rfl (by omega) _ m xs rfl hrow2 ⟨w5.heap.size, 0, none⟩ 1 1 [.slice A2 r.length c2'] rfl rfl (World.news_of_block (cs := #[.slice A2 r.length c2']) (t := 59) (fr := (0, 0)) (heap_alloc_new w5 _)) (by simp [Value.oneCell']) (by omega) (by unfold maxLen; omega) (by omega) (Nat.zero_le _) (w5.heap.size + 1) (by simp) ?_; intro g cap w6 hown2 hgrow hat hlt2
             have hB2 : Below w.heap.size wr w6 := ((HB1.out.mono hsz).alloc (by omega) (.cells #[.slice A2 r.length c2'] 59)).grown hgrow (by simp; omega) (fun j hj => (HBK.out j hj).1)
             have hfin := HC.out (w5.alloc (.cells #[.slice A2 r.length c2'] 59)) w6 A2 r c2' wr.heap.size w5.heap.size g cap ((Below.refl _ _).alloc (Nat.le_refl _) _) (HO.out.below ((Below.refl w5.heap.size w5).alloc (Nat.le_refl _) _) (Nat.le_refl _)) (Nat.le_refl _) hsz (by simp) (by simp; omega) (by rw [mH.out]; exact hown2) hgrow (hat.imp (fun h => h) (fun h => by rw [h]; simp))
             rw [mH.out] at hfin
             have HF := Lib.hid (And.intro hfin hB2)
             clear hown2 hgrow hat hB2 hfin HC HBK HO HB1 hrow2 hlt2 hs1)
          | fail)
        go_ret
        refine RowsNew.of ?_ (hbel.out.trans HF.out.2)
        rw [← HP.out]
        exact HF.out.1
      · have HP : Hid (R = putA r false rs) := by
          show _ = _
          rw [← hput.out, hd.out, putA, if_pos rfl, List.append_nil]
        go_wp2_with fail
        go_ret
        refine RowsNew.of ?_ hbel.out
        rw [← HP.out]
        exact hown.out
end Go.Proofs.Ytimlecfneibjlaa
