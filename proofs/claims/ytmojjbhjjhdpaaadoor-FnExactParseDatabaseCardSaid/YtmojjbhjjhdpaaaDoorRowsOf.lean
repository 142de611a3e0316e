/- impl.rowsOf: the rows of a text. No condition but the size that the laws let in. -/
import Derived.Test.YtmojjbhjjhdpaaaDoorL4C
import Derived.Test.YtmojjbhjjhdpaaaDoorApp
import Derived.Test.YtmojjbhjjhdpaaaDoorDig
import Derived.Test.YtmojjbhjjhdpaaaDoorMx
namespace Go.Proofs.YtmojjbhjjhdpaaaDoor
open Go.RowKit Go.Deep

/-- The rows of the words, as the program reads them. -/
def rowsI (s : ByteArray) : List (List Int) := if s.size = 0 then [] else (cutL 32 s.data.toList).map fun p => (digR p).1
theorem rowsI_nil {s : ByteArray} (h : s.size = 0) : rowsI s = [] := by rw [rowsI, if_pos h]
theorem rowsI_cut {s : ByteArray} (h : ¬ s.size = 0) : rowsI s = (cutL 32 s.data.toList).map fun p => (digR p).1 := by rw [rowsI, if_neg h]
/-- strings.Split at one byte. -/
theorem split_any (s : ByteArray) (c : UInt8) (w : World) (hs : s.size ≤ 1048576) (hm : Mx w) :
    Calls Tryd.prog 89 #[.string s, .string ⟨#[c]⟩] w fun e w' => e = .returned (.slice (some ⟨w.heap.size, 0, none⟩) (cutB c s).length (cutB c s).length) ∧ w' = w.alloc (.cells ((cutB c s).map Value.string).toArray 9) := by
  obtain ⟨m, hm⟩ := hm
  have e1 : Lib.splitB ⟨#[c]⟩ 0 (Lib.countB s ⟨#[c]⟩) s = cutB c s := by
    have h := splitB_cutL c s
    unfold cutB
    rw [← h, List.map_map]
    conv => lhs; rw [← List.map_id (Lib.splitB ⟨#[c]⟩ 0 (Lib.countB s ⟨#[c]⟩) s)]
    apply List.map_congr_left
    intro b _
    exact str_of rfl
  have e2 : Lib.countB s ⟨#[c]⟩ + 1 = (cutB c s).length := by
    unfold cutB
    rw [List.length_map]
    exact (count_cutL c s.data.toList).symm
  refine (Tryd.strings_Split s ⟨#[c]⟩ m w (by omega) hm (Nat.le_refl 1)).mono fun e w' ⟨he, hw⟩ => ?_
  rw [e1] at hw
  rw [e2] at he
  exact ⟨he, hw⟩

set_option maxRecDepth 100000 in
set_option maxHeartbeats 2000000 in
theorem rowsOf_any (s : ByteArray) (w : World) (hs : s.size ≤ 1048576) (hm : Mx w) :
    Calls Tryd.prog 80 #[.string s] w (RowsNew (rowsI s) w) := by
  obtain ⟨i0, hi, hz0, hz1, hz2⟩ := info_parts info_row
  by_cases h0 : s.size = 0
  · have hf := Lib.hid (rowsI_nil h0)
    have hz : s = ⟨#[]⟩ := str_of (List.length_eq_zero_iff.1 (by simpa using h0))
    subst hz
    clear h0
    go_enter Tryd.func80, Tryd.ntmps80
    go_wp2_with fail
    go_ret
    rw [hf.out]
    exact RowsNew.of (OwnR.empty w (Nat.le_refl _)) ((Below.refl _ _).alloc (Nat.le_refl _) _)
  · have hf := Lib.hid (rowsI_cut h0)
    have z2 : ¬ s.toList = [] := fun e => h0 (by have := congrArg List.length e; simpa [ByteArray.toList_eq] using this)
    have z0 : (s.toList == []) = false := by simpa using z2
    have z1 : s.toList.isEmpty = false := by simpa using z2
    have hnl : (cutB 32 s).length ≤ 1048577 := by have := cutB_len 32 s; omega
    have HW : Hid ((cutB 32 s).map (fun b => (digR b.data.toList).1) = rowsI s) := by
      show _ = _
      rw [hf.out, cutB, List.map_map]
      rfl
    have HS : Hid (∀ x ∈ cutB 32 s, x.size ≤ 1048576) := fun x hx => Nat.le_trans (cutB_mem hx) hs
    have KS : Hid (∀ W, Mx W → Calls Tryd.prog 89 #[.string s, .string ⟨#[32]⟩] W fun e w' => e = .returned (.slice (some ⟨W.heap.size, 0, none⟩) (cutB 32 s).length (cutB 32 s).length) ∧ w' = W.alloc (.cells ((cutB 32 s).map Value.string).toArray 9)) := fun W m => split_any s 32 W hs m
    clear h0 hf
    generalize cutB 32 s = ws at hnl HW HS KS
    obtain ⟨n, hn⟩ : ∃ n, ws.length = n := ⟨_, rfl⟩
    rw [hn] at hnl KS
    have HL := Lib.hid hn
    clear hn
    go_enter Tryd.func80, Tryd.ntmps80
    go_wp2_with fail
    have hb0 : Below w.heap.size w (w.alloc (.cells #[] 92)) := (Below.refl _ _).alloc (Nat.le_refl _) _
    have hE : Hid (OwnR (w.alloc (.cells #[] 92)) w.heap.size (w.heap.size + 1) (.slice (some ⟨w.heap.size, 0, none⟩) 0 0) []) := by
      show OwnR _ _ _ _ _
      have := OwnR.empty w (Nat.le_refl w.heap.size)
      simpa using this
    have hs0 : (w.alloc (.cells #[] 92)).heap.size = w.heap.size + 1 := by simp
    generalize w.alloc (.cells #[] 92) = w0 at hb0 hE hs0 ⊢
    refine (KS.out _ (hm.on hb0)).mono ?_
    rintro e w1 ⟨rfl, hw1⟩
    have hcell : Hid (∀ (j : Nat) x, ws[j]? = some x → w1.cell? ⟨w0.heap.size, j, none⟩ = some (.string x)) := fun j x hx => by
      rw [hw1, cell_of_row _ w0.heap.size j _ 9 (0, 0) (heap_alloc_new w0 _)]
      simp [hx]
    have hb1 : Below w0.heap.size w0 w1 := by rw [hw1]; exact (Below.refl _ _).alloc (Nat.le_refl _) _
    have hlt0 : w0.heap.size < w1.heap.size := by rw [hw1]; simp
    clear hw1
    have hE1 : Hid (OwnR w1 w.heap.size w1.heap.size (.slice (some ⟨w.heap.size, 0, none⟩) 0 0) []) := (hE.out.below hb1 (by omega)).wide (by omega)
    have hB1 : Below w.heap.size w w1 := hb0.trans (hb1.mono (by omega))
    have hlow : w.heap.size < w0.heap.size := by omega
    clear hE hb1 hb0 hs0
    generalize w0.heap.size = G at hcell hlt0 hlow ⊢
    go_wp2_with fail
    go_loopw [3, 15] (fun v i wr => ∃ k : Nat, k ≤ n ∧ i = .int .i64 k ∧ Hid (OwnR wr w.heap.size wr.heap.size v ((ws.map (fun b => (digR b.data.toList).1)).take k)) ∧ Hid (∀ j, w1.cell? ⟨G, j, none⟩ = wr.cell? ⟨G, j, none⟩) ∧ Hid (∀ g, v.ownBlock = some g → g ≠ G) ∧ Below w.heap.size w wr ∧ G < wr.heap.size) (fun _ i _ => n - (intOf i).toNat)
    case atStart => exact ⟨0, by omega, rfl, hE1.out, fun _ => rfl, fun g hg => by simp [Value.ownBlock] at hg; omega, hB1, hlt0⟩
    case round =>
      obtain ⟨k, hk, rfl, hown, hsame, hne, hbel, hG⟩ := hrel
      have hsz := hbel.size
      by_cases hlt : k < n
      · obtain ⟨x, hx⟩ : ∃ x, ws[k]? = some x := ⟨ws[k]'(by rw [HL.out]; exact hlt), List.getElem?_eq_getElem _⟩
        have hc1 : wr.cell? ⟨G, k, none⟩ = some (.string x) := (hsame.out k).symm.trans (hcell.out k x hx)
        have KD : Hid (Calls Tryd.prog 118 #[.string x] wr (IntsBool (digR x.data.toList) wr)) := digitsOf_any x wr (HS.out x (List.mem_of_getElem? hx))
        have hdl : (digR x.data.toList).1.length ≤ 1048576 := by
          have h1 := digR_len x.data.toList
          have h2 : x.data.toList.length = x.size := by simp
          have h3 := HS.out x (List.mem_of_getElem? hx)
          omega
        obtain ⟨⟨D, okD⟩, hD⟩ : ∃ D, digR x.data.toList = D := ⟨_, rfl⟩
        have HX : Hid ((ws.map (fun b => (digR b.data.toList).1)).take k ++ [D] = (ws.map (fun b => (digR b.data.toList).1)).take (k + 1)) := by
          show _ = _
          rw [List.take_add_one, List.getElem?_map, hx]
          simp [hD]
        have hlk : ((ws.map (fun b => (digR b.data.toList).1)).take k).length = k := by rw [List.length_take, List.length_map, HL.out]; omega
        have HK := Lib.hid hlk
        rw [hD] at KD hdl
        simp only at hdl
        clear hx hD hlk
        go_wp2_with fail
        refine KD.out.mono ?_
        rintro e w2 ⟨A1, c1, rfl, ho1, hb1⟩
        obtain ⟨xs, hrow1, hblk, hclose⟩ := (hown.out.below hb1 (Nat.le_refl _)).open_
        have hs1 := hb1.size
        have HC := Lib.hid hclose
        have HBK := Lib.hid hblk
        have HO := Lib.hid ho1
        rw [HK.out] at hrow1
        clear hclose hblk ho1 hown
        have hrow2 := hrow1.alloc (.cells #[.slice A1 D.length c1] 92)
        clear hrow1
        go_wp2_with (at_builtin; refine wpList_append_lies _ rfl _ _ _ rfl 0 92 i0 _ 1 24 Tryd.underlying36 hi hz0 hz1 hz2 rfl (by omega) _ k _ rfl hrow2 ⟨w2.heap.size, 0, none⟩ 1 1 [.slice A1 D.length c1] rfl rfl (World.news_of_block (cs := #[.slice A1 D.length c1]) (t := 92) (fr := (0, 0)) (heap_alloc_new w2 _)) (by simp [Value.oneCell']) (by omega) (by unfold maxLen; omega) (by omega) (Nat.zero_le _) (w2.heap.size + 1) (by simp) ?_; intro g cap w3 hown2 hgrow hat hlt2)
        have hbel2 : Below w.heap.size w w3 := ((hbel.trans (hb1.mono hsz)).alloc (by omega) (.cells #[.slice A1 D.length c1] 92)).grown hgrow (by simp; omega) (fun j hj => (HBK.out j hj).1)
        have hfin := HC.out (w2.alloc (.cells #[.slice A1 D.length c1] 92)) w3 A1 D c1 wr.heap.size w2.heap.size g cap ((Below.refl _ _).alloc (Nat.le_refl _) _) (HO.out.below ((Below.refl w2.heap.size w2).alloc (Nat.le_refl _) _) (Nat.le_refl _)) (Nat.le_refl _) hsz (by simp) (by simp; omega) (by rw [HK.out]; exact hown2) hgrow (hat.imp (fun h => h) (fun h => by rw [h]; simp))
        rw [HX.out, HK.out] at hfin
        have HF := Lib.hid hfin
        have hG2 : G < (w2.alloc (.cells #[.slice A1 D.length c1] 92)).heap.size := by simp; omega
        have hG3 : G < w3.heap.size := Nat.lt_of_lt_of_le hG2 hgrow.size
        have hsame2 : Hid (∀ j, w1.cell? ⟨G, j, none⟩ = w3.cell? ⟨G, j, none⟩) := fun j => ((hsame.out j).trans (hb1.cell (p := ⟨G, j, none⟩) hG).symm).trans ((((Below.refl w2.heap.size w2).alloc (Nat.le_refl _) (.cells #[.slice A1 D.length c1] 92)).cell (p := ⟨G, j, none⟩) (by show G < _; omega)).symm.trans (World.cell?_of_block (hgrow.block G hG2 fun e => hne.out G e.symm rfl)).symm)
        have hne2 : Hid (∀ g', (Value.slice (some ⟨g, 0, none⟩) (k + 1) cap).ownBlock = some g' → g' ≠ G) := fun g' hg' => by
          simp [Value.ownBlock] at hg'
          subst hg'
          rcases hat with h | h
          · exact hne.out _ h
          · omega
        clear hfin hown2 hgrow hat
        refine ⟨⟨k + 1, by omega, by go_num, HF.out, hsame2, hne2, hbel2, hG3⟩, ?_⟩
        simp [intOf]
        omega
      · obtain rfl : k = n := by omega
        have hf := hown.out
        rw [List.take_of_length_le (by rw [List.length_map, HL.out]; exact Nat.le_refl _), HW.out] at hf
        have HF := Lib.hid hf
        clear hown hf
        go_wp2
        go_ret
        exact RowsNew.of HF.out hbel
end Go.Proofs.YtmojjbhjjhdpaaaDoor
