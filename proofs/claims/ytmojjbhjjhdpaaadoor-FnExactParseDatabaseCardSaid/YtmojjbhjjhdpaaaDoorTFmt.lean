/- FormatTable, both texts. No condition but the size that the laws let in (and, of the program's, that the library's table is laid). -/
import Derived.Test.YtmojjbhjjhdpaaaDoorTFmtP
import Derived.Test.YtmojjbhjjhdpaaaDoorIsTabS
import Derived.Test.YtmojjbhjjhdpaaaDoorL4D
import Derived.Test.YtmojjbhjjhdpaaaDoorCls
import Derived.Test.YtmojjbhjjhdpaaaDoorPow
import Derived.Test.YtmojjbhjjhdpaaaDoorStrs
namespace Go.Proofs.YtmojjbhjjhdpaaaDoor
open Go.RowKit Go.Deep

set_option maxRecDepth 100000 in
set_option maxHeartbeats 2000000 in
theorem spec_FormatTable_any (nm : ByteArray) (ar : Int) (A : Option Addr) (n c B : Nat) (rs : List (List Int)) (w : World) (hr : RdR w B A n rs) (hB : B ≤ w.heap.size) (hn : n ≤ 1048576) :
    Calls Tryd.prog 24 #[.agg #[.string nm, .int .i64 ar, .slice A n c]] w fun e w' => e = .returned (.string (fmtT nm ar rs)) ∧ Below w.heap.size w w' := by
  have K0 := Lib.hid (fun (W : World) (b : Below w.heap.size w W) => spec_IsValidTable_any nm ar A n c B rs W (RdR.belowB hr b hB) (Nat.le_trans hB b.size) (by omega))
  have l0 : w.heap.size < (w.alloc (.cells #[.string nm, .int .i64 ar, .slice A n c] 41)).heap.size := by simp
  have HB : Hid (Below w.heap.size w (w.alloc (.cells #[.string nm, .int .i64 ar, .slice A n c] 41))) := (Below.refl _ _).alloc (Nat.le_refl _) _
  have c0 : (w.alloc (.cells #[.string nm, .int .i64 ar, .slice A n c] 41)).cell? ⟨w.heap.size, 0, none⟩ = some (.string nm) := by simp [go_sem]
  have c1 : (w.alloc (.cells #[.string nm, .int .i64 ar, .slice A n c] 41)).cell? ⟨w.heap.size, 1, none⟩ = some (.int .i64 ar) := by simp [go_sem]
  have c2 : (w.alloc (.cells #[.string nm, .int .i64 ar, .slice A n c] 41)).cell? ⟨w.heap.size, 2, none⟩ = some (.slice A n c) := by simp [go_sem]
  cases hv : validT nm ar rs with
  | false =>
    rw [hv] at K0
    have hf : Hid (fmtT nm ar rs = ⟨#[]⟩) := by show _ = _; rw [fmtT, if_neg (by rw [hv]; simp)]
    clear hv hr
    go_enter Tryd.func24, Tryd.ntmps24
    go_wp2_with fail
    generalize w.alloc (.cells #[.string nm, .int .i64 ar, .slice A n c] 41) = W0 at l0 HB c0 c1 c2 ⊢
    refine (K0.out _ HB.out).mono ?_
    rintro e w1 ⟨rfl, b1⟩
    have b2 := HB.out.trans (b1.mono HB.out.size)
    clear b1
    go_wp2_with fail
    go_ret
    exact ⟨by rw [hf.out] <;> rfl, b2⟩
  | true =>
    rw [hv] at K0
    obtain ⟨v1, v2, v3, v4, v5⟩ := validT_vt hv
    have HV := Lib.hid v5
    have hnl : n ≤ 8 := by have := hr.1; omega
    have z1 := tI_size3 v2 v3
    have hz1 : nm.size ≤ 1 := by omega
    obtain ⟨T1, hT1⟩ : ∃ T1, tI ar = T1 := ⟨_, rfl⟩
    have hf0 : Hid (fmtT nm ar rs = ((nm ++ T1) ++ ⟨#[58]⟩) ++ ⟨(rowsL rs).toArray⟩) := by show _ = _; rw [fmtT, if_pos hv, hT1]
    have K1 : Hid (∀ W, Calls Tryd.prog 13 #[.int .i64 ar] W fun e w' => e = .returned (.string T1) ∧ Below W.heap.size W w') := fun W => by rw [← hT1]; exact spec_FormatInt_any ar W (by omega) (by omega)
    rw [hT1] at z1
    have HL := Lib.hid hr.1
    clear hv v1 v5 hT1
    go_enter Tryd.func24, Tryd.ntmps24
    go_wp2_with fail
    generalize w.alloc (.cells #[.string nm, .int .i64 ar, .slice A n c] 41) = W0 at l0 HB c0 c1 c2 ⊢
    refine (K0.out _ HB.out).mono ?_
    rintro e W ⟨rfl, b1⟩
    have HB1 := Lib.hid (HB.out.trans (b1.mono HB.out.size))
    have e0 := (b1.cell (p := ⟨w.heap.size, 0, none⟩) l0).trans c0
    have e1 := (b1.cell (p := ⟨w.heap.size, 1, none⟩) l0).trans c1
    have e2 := (b1.cell (p := ⟨w.heap.size, 2, none⟩) l0).trans c2
    have l1 : w.heap.size < W.heap.size := Nat.lt_of_lt_of_le l0 b1.size
    clear b1 c0 c1 c2 l0 K0
    go_wp2_with fail
    refine wp_region_class (by kernel_rfl) (by kernel_rfl) (fun X => Below W.heap.size W X) ((Below.refl _ _).drew) (fun S _ f hG hS => ?_)
    have y0 : ∀ s, (f s).cell? ⟨w.heap.size, 0, none⟩ = some (.string nm) := fun s => ((hG s).cell (p := ⟨w.heap.size, 0, none⟩) l1).trans e0
    have y1 : ∀ s, (f s).cell? ⟨w.heap.size, 1, none⟩ = some (.int .i64 ar) := fun s => ((hG s).cell (p := ⟨w.heap.size, 1, none⟩) l1).trans e1
    have HG := Lib.hid hG
    have HS := Lib.hid hS
    clear hG hS
    repeat (first | go_big_quiet_step ((go_at_call 13; exact Calls.clsB HS.out (HG.out _) (K1.out _))) | quiet_step ((go_at_call 13; exact Calls.clsB HS.out (HG.out _) (K1.out _))))
    refine wpQuiet_nil ?_
    rintro _ ⟨s, rfl⟩
    have hb2 := HG.out s
    have HB2 := Lib.hid (HB1.out.trans (hb2.mono HB1.out.size))
    have g2 := (hb2.cell (p := ⟨w.heap.size, 2, none⟩) l1).trans e2
    have l2 : w.heap.size < (f s).heap.size := Nat.lt_of_lt_of_le l1 hb2.size
    clear y0 y1 e0 e1 e2 hb2 HG HS HB1
    generalize f s = W2 at g2 l2 HB2 ⊢
    have hH : Hid ((nm ++ T1 ++ ⟨#[58]⟩ : ByteArray).size ≤ 13) := by
      show _ ≤ _
      rw [bsize_append, bsize_append]
      have : (⟨#[58]⟩ : ByteArray).size = 1 := rfl
      omega
    go_wp2_with fail
    go_loopw [3, 4] (fun v i wr => ∃ (k : Nat) (V : ByteArray), k ≤ n ∧ V.size ≤ 45 ∧ i = .int .i64 k ∧ v = .string V ∧ Below W2.heap.size W2 wr ∧ Hid (TInv (nm ++ T1 ++ ⟨#[58]⟩) rs k V)) (fun _ i _ => n - (intOf i).toNat)
    case atStart => exact ⟨0, _, by omega, by have := hH.out; omega, rfl, rfl, Below.refl _ _, TInv.start hH.out⟩
    case round =>
      obtain ⟨k, V, hk, hV, rfl, rfl, hbel, hinv⟩ := hrel
      have hsz := hbel.size
      have d2 := (hbel.cell (p := ⟨w.heap.size, 2, none⟩) l2).trans g2
      have HW := Lib.hid (HB2.out.trans (hbel.mono HB2.out.size))
      by_cases hlt : k < n
      · have hr2 := RdR.belowB hr HW.out hB
        obtain ⟨b, o, x, A', c', rfl, hb, hx, hc, hrd, hm⟩ := RdR.at_ hr2 hlt
        obtain ⟨hx3, hxd⟩ := HV.out x (List.mem_of_getElem? hx)
        have hx3' : x.length ≤ 3 := by omega
        have HX := Lib.hid hxd
        have hrd' := hrd.more (Nat.le_trans hB HW.out.size)
        obtain ⟨D, hD⟩ : ∃ D : ByteArray, D = ⟨(dtext x).toArray⟩ := ⟨_, rfl⟩
        have hDs : D.size ≤ 3 := by rw [hD]; have : (⟨(dtext x).toArray⟩ : ByteArray).size = x.length := dtext_len x; omega
        have KD : Hid (Calls Tryd.prog 73 #[.slice A' x.length c'] wr fun e w' => e = .returned (.string D) ∧ Below wr.heap.size wr w') := by rw [hD]; exact l4Digits_any A' x.length c' x wr hrd' (by omega) HX.out
        by_cases hk0 : k = 0
        · subst hk0
          have hcz := hc
          rw [Nat.add_zero] at hcz
          have hst : Hid (TInv (nm ++ T1 ++ ⟨#[58]⟩) rs (0 + 1) (V ++ D)) := by rw [hD]; exact hinv.out.one hx hx3'
          have hsV : Hid ((V ++ D).size ≤ 45) := by show _ ≤ _; have := hst.out.2; omega
          clear hx hxd hrd hrd' hx3 hm hD hr2
          go_wp2_with fail
          refine KD.out.mono ?_
          rintro e w1 ⟨rfl, hb1⟩
          go_wp2_with fail
          refine ⟨⟨0 + 1, V ++ D, by omega, hsV.out, by go_num, rfl, below_chain hbel hb1 hsz, hst⟩, ?_⟩
          simp [intOf]
          omega
        · have hk1 : 0 < k := by omega
          have hst : Hid (TInv (nm ++ T1 ++ ⟨#[58]⟩) rs (k + 1) ((V ++ ⟨#[32]⟩) ++ D)) := by rw [hD]; exact hinv.out.more hx hk1 hx3'
          have hsV : Hid (((V ++ ⟨#[32]⟩) ++ D).size ≤ 45) := by show _ ≤ _; have := hst.out.2; omega
          have hsV2 : (V ++ ⟨#[32]⟩ : ByteArray).size ≤ 46 := by rw [bsize_append]; have : (⟨#[32]⟩ : ByteArray).size = 1 := rfl; omega
          clear hx hxd hrd hrd' hx3 hm hD hr2 hk0
          go_wp2_with fail
          refine KD.out.mono ?_
          rintro e w1 ⟨rfl, hb1⟩
          go_wp2_with fail
          refine ⟨⟨k + 1, (V ++ ⟨#[32]⟩) ++ D, by omega, hsV.out, by go_num, rfl, below_chain hbel hb1 hsz, hst⟩, ?_⟩
          simp [intOf]
          omega
      · obtain rfl : k = n := by omega
        have hf : Hid (fmtT nm ar rs = V) := by show _ = _; rw [hf0.out, hinv.out.1, List.take_of_length_le (Nat.le_of_eq HL.out)]
        go_wp2_with fail
        go_ret
        exact ⟨by rw [hf.out] <;> rfl, HW.out⟩

set_option maxRecDepth 100000 in
set_option maxHeartbeats 2000000 in
theorem rowsText_any (A : Option Addr) (n c : Nat) (rs : List (List Int)) (w : World) (hr : RdR w w.heap.size A n rs) (hn : n ≤ 8) (hrow : ∀ r ∈ rs, r.length ≤ 3 ∧ ∀ x ∈ r, 0 ≤ x ∧ x ≤ 9) :
    Calls Tryd.prog 76 #[.slice A n c] w fun e w' => e = .returned (.string ⟨(rowsL rs).toArray⟩) ∧ Below w.heap.size w w' := by
  obtain ⟨i0, hi, hz0, hz1, hz2⟩ := info_parts info_str
  have HL := Lib.hid hr.1
  have HV := Lib.hid hrow
  clear hrow
  go_enter Tryd.func76, Tryd.ntmps76
  go_wp2
  go_loopw [3, 9] (fun v i wr => ∃ (k : Nat) (p : List ByteArray), k ≤ n ∧ p.length ≤ k ∧ i = .int .i64 k ∧ wr.ownsRow w.heap.size 9 1 v p.length (p.map Value.string) ∧ Below w.heap.size w wr ∧ Hid (p = (rs.take k).map fun r => ⟨(dtext r).toArray⟩)) (fun _ i _ => n - (intOf i).toNat)
  case atStart => exact ⟨0, [], by omega, by simp, rfl, World.ownsRow_made (base := w.heap.size) (e := 9) (size := 1) w #[] 0 (Nat.le_refl _) (by unfold maxLen; omega) rfl, (Below.refl _ _).alloc (Nat.le_refl _) _, rfl⟩
  case round =>
    obtain ⟨k, p, hk, hpk, rfl, hown, hbel, hinv⟩ := hrel
    have hsz := hbel.size
    by_cases hlt : k < n
    · have hr2 := RdR.belowB hr hbel (Nat.le_refl _)
      obtain ⟨b, o, x, A', c', rfl, hb, hx, hc, hrd, hm⟩ := RdR.at_ hr2 hlt
      obtain ⟨hx3, hxd⟩ := HV.out x (List.mem_of_getElem? hx)
      have HX := Lib.hid hxd
      have hrd' := hrd.more hsz
      obtain ⟨D, hD⟩ : ∃ D : ByteArray, D = ⟨(dtext x).toArray⟩ := ⟨_, rfl⟩
      have KD : Hid (Calls Tryd.prog 116 #[.slice A' x.length c'] wr fun e w' => e = .returned (.string D) ∧ Below wr.heap.size wr w') := by rw [hD]; exact digitsText_any A' x.length c' x wr hrd' (by omega) HX.out
      have hst : Hid (p ++ [D] = (rs.take (k + 1)).map fun r => ⟨(dtext r).toArray⟩) := by show _ = _; rw [List.take_add_one, hx, List.map_append, hinv.out, hD]; rfl
      clear hx hxd hrd hrd' hm hD hr2
      go_wp2_with fail
      refine KD.out.mono ?_
      rintro e w1 ⟨rfl, hb1⟩
      have hbel1 := below_chain hbel hb1 hsz
      have hsz1 := hbel1.size
      have hown1 : w1.ownsRow w.heap.size 9 1 _ p.length (p.map Value.string) := own_keep hown fun g hg => hb1.block g (hown.lt g hg).2
      clear hown hb1 hbel
      go_wp2_with (at_builtin; refine wpList_append_lies _ rfl _ _ _ rfl w.heap.size 9 i0 _ 1 16 Tryd.underlying96 hi hz0 hz1 hz2 rfl (by omega) _ p.length _ rfl (hown1.alloc _) ⟨w1.heap.size, 0, none⟩ 1 1 [.string D] rfl rfl (World.news_of_block (cs := #[.string D]) (t := 9) (fr := (0, 0)) (heap_alloc_new w1 _)) (by simp [Value.oneCell']) (by omega) (by unfold maxLen; omega) (by omega) (by simp; omega) (w1.heap.size + 1) (by simp) ?_; intro g cap w2 hown2 hgrow _ _)
      have hown3 : w2.ownsRow w.heap.size 9 1 (.slice (some ⟨g, 0, none⟩) (p.length + 1) cap) (p ++ [D]).length ((p ++ [D]).map Value.string) := by simpa using hown2
      clear hown2
      refine ⟨⟨k + 1, p ++ [D], by omega, by simp; omega, by go_num, hown3, (hbel1.alloc (by omega) _).grown hgrow (by simp; omega) (fun j hj => (hown1.lt j hj).1), hst⟩, ?_⟩
      simp [intOf]
      omega
    · obtain rfl : k = n := by omega
      have hp : Hid (p.map (·.data.toList) = rs.map dtext) := by
        show _ = _
        rw [hinv.out, List.take_of_length_le (Nat.le_of_eq HL.out), List.map_map]
        rfl
      have hlen : Hid ((Lib.join (p.map (·.data.toList)) (⟨#[32]⟩ : ByteArray).data.toList).length ≤ 140737488355328) := by
        show _ ≤ _
        rw [hp.out]
        have h1 := rowsL_len fun r hr => (HV.out r hr).1
        have h3 := HL.out
        show (rowsL rs).length ≤ _
        omega
      have hf : Hid ((⟨(Lib.join (p.map (·.data.toList)) (⟨#[32]⟩ : ByteArray).data.toList).toArray⟩ : ByteArray) = ⟨(rowsL rs).toArray⟩) := by show _ = _; rw [hp.out]; rfl
      rcases hown.2 with ⟨rfl, h0⟩ | ⟨g, cap, cur, rfl, hb, hg, hnc, hcm, hsize, ht⟩
      · have hp0 : p = [] := List.length_eq_zero_iff.1 h0
        subst hp0
        go_wp2_with fail
        refine (Tryd.strings_Join_none none 0 ⟨#[32]⟩ _).mono ?_
        rintro e w1 ⟨rfl, rfl⟩
        go_wp2_with fail
        go_ret
        exact ⟨by rw [← hf.out] <;> rfl, hbel⟩
      · have hlt := (Array.getElem?_eq_some_iff.1 hg).1
        have hcells : Hid (∀ (j : Nat) x, p[j]? = some x → wr.cell? ⟨g, 0 + j, none⟩ = some (.string x)) := fun j x hx => by
          rw [Nat.zero_add, cell_of_row wr g j cur _ (0, 0) hg]
          have hj : j < p.length := (List.getElem?_eq_some_iff.1 hx).1
          have h1 : (cur.toList.take (p.length * 1))[j]? = (p.map Value.string)[j]? := by rw [ht]
          rw [List.getElem?_take, if_pos (by omega), List.getElem?_map, hx] at h1
          simpa using h1
        clear hg ht
        go_wp2_with fail
        refine (Tryd.strings_Join g 0 cap p ⟨#[32]⟩ _ hcells.out hlt (by omega) hnc hlen.out).mono ?_
        rintro e w1 ⟨rfl, hb1⟩
        have hb2 := below_chain hbel hb1 hsz
        clear hb1
        go_wp2_with fail
        go_ret
        exact ⟨by rw [hf.out] <;> rfl, hb2⟩

set_option maxRecDepth 100000 in
set_option maxHeartbeats 2000000 in
theorem impl_FormatTable_any (nm : ByteArray) (ar : Int) (A : Option Addr) (n c B : Nat) (rs : List (List Int)) (w : World) (ht : Tb w) (hr : RdR w B A n rs) (hB : B ≤ w.heap.size) (hn : n ≤ 1048576) :
    Calls Tryd.prog 26 #[.agg #[.string nm, .int .i64 ar, .slice A n c]] w fun e w' => e = .returned (.string (fmtT nm ar rs)) ∧ Below w.heap.size w w' := by
  have K0 := Lib.hid (fun (W : World) (b : Below w.heap.size w W) => impl_IsValidTable_any nm ar A n c B rs W (RdR.belowB hr b hB) (Nat.le_trans hB b.size) (by omega))
  have l0 : w.heap.size < (w.alloc (.cells #[.string nm, .int .i64 ar, .slice A n c] 41)).heap.size := by simp
  have HB : Hid (Below w.heap.size w (w.alloc (.cells #[.string nm, .int .i64 ar, .slice A n c] 41))) := (Below.refl _ _).alloc (Nat.le_refl _) _
  have c0 : (w.alloc (.cells #[.string nm, .int .i64 ar, .slice A n c] 41)).cell? ⟨w.heap.size, 0, none⟩ = some (.string nm) := by simp [go_sem]
  have c1 : (w.alloc (.cells #[.string nm, .int .i64 ar, .slice A n c] 41)).cell? ⟨w.heap.size, 1, none⟩ = some (.int .i64 ar) := by simp [go_sem]
  have c2 : (w.alloc (.cells #[.string nm, .int .i64 ar, .slice A n c] 41)).cell? ⟨w.heap.size, 2, none⟩ = some (.slice A n c) := by simp [go_sem]
  cases hv : validT nm ar rs with
  | false =>
    rw [hv] at K0
    have hf : Hid (fmtT nm ar rs = ⟨#[]⟩) := by show _ = _; rw [fmtT, if_neg (by rw [hv]; simp)]
    clear hv hr
    go_enter Tryd.func26, Tryd.ntmps26
    go_wp2_with fail
    generalize w.alloc (.cells #[.string nm, .int .i64 ar, .slice A n c] 41) = W0 at l0 HB c0 c1 c2 ⊢
    refine (K0.out _ HB.out).mono ?_
    rintro e w1 ⟨rfl, b1⟩
    have b2 := HB.out.trans (b1.mono HB.out.size)
    clear b1
    go_wp2_with fail
    go_ret
    exact ⟨by rw [hf.out] <;> rfl, b2⟩
  | true =>
    rw [hv] at K0
    obtain ⟨v1, v2, v3, v4, v5⟩ := validT_vt hv
    have hnl : n ≤ 8 := by have := hr.1; omega
    have z1 := tI_size3 v2 v3
    have hz1 : nm.size ≤ 1 := by omega
    obtain ⟨T1, hT1⟩ : ∃ T1, tI ar = T1 := ⟨_, rfl⟩
    obtain ⟨T2, hT2⟩ : ∃ T2 : ByteArray, T2 = ⟨(rowsL rs).toArray⟩ := ⟨_, rfl⟩
    have hf : Hid (fmtT nm ar rs = ((nm ++ T1) ++ ⟨#[58]⟩) ++ T2) := by show _ = _; rw [fmtT, if_pos hv, hT1, hT2]
    have z2 : T2.size ≤ 40 := by
      have h1 := rowsL_len (fun r hr => by have := (v5 r hr).1; omega) (rs := rs)
      have : T2.size = (rowsL rs).length := by rw [hT2]; rfl
      omega
    have K1 : Hid (∀ W, Tb W → Calls Tryd.prog 14 #[.int .i64 ar] W fun e w' => e = .returned (.string T1) ∧ Below W.heap.size W w') := fun W t => by rw [← hT1]; exact impl_FormatInt_any ar W (by omega) (by omega) t
    have K2 : Hid (∀ W, Below w.heap.size w W → Calls Tryd.prog 76 #[.slice A n c] W fun e w' => e = .returned (.string T2) ∧ Below W.heap.size W w') := fun W b => by rw [hT2]; exact rowsText_any A n c rs W ((RdR.belowB hr b hB).more (Nat.le_trans hB b.size)) hnl fun r hr => ⟨by have := (v5 r hr).1; omega, (v5 r hr).2⟩
    rw [hT1] at z1
    clear hv v1 v5 hT1 hT2
    go_enter Tryd.func26, Tryd.ntmps26
    go_wp2_with fail
    generalize w.alloc (.cells #[.string nm, .int .i64 ar, .slice A n c] 41) = W0 at l0 HB c0 c1 c2 ⊢
    refine (K0.out _ HB.out).mono ?_
    rintro e W ⟨rfl, b1⟩
    have HB1 := Lib.hid (HB.out.trans (b1.mono HB.out.size))
    have e0 := (b1.cell (p := ⟨w.heap.size, 0, none⟩) l0).trans c0
    have e1 := (b1.cell (p := ⟨w.heap.size, 1, none⟩) l0).trans c1
    have e2 := (b1.cell (p := ⟨w.heap.size, 2, none⟩) l0).trans c2
    have l1 : w.heap.size < W.heap.size := Nat.lt_of_lt_of_le l0 b1.size
    have HT : Hid (Tb W) := ht.on HB1.out
    clear b1 c0 c1 c2 l0 K0 ht
    go_wp2_with fail
    refine wp_region_class (by kernel_rfl) (by kernel_rfl) (fun X => Below W.heap.size W X) ((Below.refl _ _).drew) (fun S _ f hG hS => ?_)
    have y0 : ∀ s, (f s).cell? ⟨w.heap.size, 0, none⟩ = some (.string nm) := fun s => ((hG s).cell (p := ⟨w.heap.size, 0, none⟩) l1).trans e0
    have y1 : ∀ s, (f s).cell? ⟨w.heap.size, 1, none⟩ = some (.int .i64 ar) := fun s => ((hG s).cell (p := ⟨w.heap.size, 1, none⟩) l1).trans e1
    have y2 : ∀ s, (f s).cell? ⟨w.heap.size, 2, none⟩ = some (.slice A n c) := fun s => ((hG s).cell (p := ⟨w.heap.size, 2, none⟩) l1).trans e2
    have HG := Lib.hid hG
    have HS := Lib.hid hS
    clear hG hS
    have s1 : (nm ++ T1 : ByteArray).size ≤ 12 := by rw [bsize_append]; omega
    have s2 : (nm ++ T1 ++ ⟨#[58]⟩ : ByteArray).size ≤ 13 := by rw [bsize_append]; have : (⟨#[58]⟩ : ByteArray).size = 1 := rfl; omega
    repeat (first | go_big_quiet_step ((first | (go_at_call 14; exact Calls.clsB HS.out (HG.out _) (K1.out _ (HT.out.on (HG.out _)))) | (go_at_call 76; exact Calls.clsB HS.out (HG.out _) (K2.out _ (HB1.out.trans ((HG.out _).mono HB1.out.size)))))) | quiet_step ((first | (go_at_call 14; exact Calls.clsB HS.out (HG.out _) (K1.out _ (HT.out.on (HG.out _)))) | (go_at_call 76; exact Calls.clsB HS.out (HG.out _) (K2.out _ (HB1.out.trans ((HG.out _).mono HB1.out.size)))))))
    refine wpQuiet_nil ?_
    rintro _ ⟨s, rfl⟩
    go_wp2_with fail
    go_ret
    exact ⟨by rw [hf.out] <;> rfl, HB1.out.trans ((HG.out s).mono HB1.out.size)⟩
end Go.Proofs.YtmojjbhjjhdpaaaDoor
