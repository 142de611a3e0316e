/- FormatDatabase, the program's. No condition but the size that the laws let in and that the library's table is laid. -/
import Derived.Test.YtmojjbhjjhdpaaaDoorDFmt
namespace Go.Proofs.YtmojjbhjjhdpaaaDoor
open Go.RowKit Go.Deep

set_option maxRecDepth 100000 in
set_option maxHeartbeats 2000000 in
theorem impl_FormatDatabase_any (A : Option Addr) (n c B : Nat) (ts : List Tab) (w : World) (ht : Tb w) (hr : RdT w B A n ts) (hB : B ≤ w.heap.size) (hn : n ≤ 1000000000) (hs : sumT ts ≤ 4294967296) :
    Calls Tryd.prog 35 #[.agg #[.slice A n c]] w fun e w' => e = .returned (.string (fmtD ts)) ∧ Below w.heap.size w w' := by
  obtain ⟨i0, hi, hz0, hz1, hz2⟩ := info_parts info_str
  have HL := Lib.hid hr.1
  have hsm := Lib.hid hs
  clear hs
  have kn0 : Kn w [(w.heap.size, 0, .slice A n c)] (w.alloc (.cells #[.slice A n c] 55)) := by
    simpa using (Kn.start w).box1 (.slice A n c) 55
  have KV : Hid (∀ W, Below w.heap.size w W → Calls Tryd.prog 86 #[.agg #[.slice A n c]] W fun e w' => e = .returned (.bool (validD ts)) ∧ Below W.heap.size W w') := fun W b =>
    impl_IsValidDatabase_any A n c B ts W (RdT.belowB hr b hB) (Nat.le_trans hB b.size) (by omega) (by have := hsm.out; omega)
  cases hv : validD ts with
  | false =>
    have hf := Lib.hid (fmtD_no hv)
    rw [hv] at KV
    clear hv hr
    obtain ⟨x0, _⟩ := kn0.all
    go_enter Tryd.func35, Tryd.ntmps35
    go_wp2_with fail
    generalize w.alloc (.cells #[.slice A n c] 55) = w0 at kn0 x0 ⊢
    refine (KV.out _ kn0.bel).mono ?_
    rintro e w1 ⟨rfl, b1⟩
    have b2 := (kn0.next b1).bel
    clear b1
    go_wp2_with fail
    go_ret
    exact ⟨by rw [hf.out] <;> rfl, b2⟩
  | true =>
    have hn6 : n ≤ 6 := by have := validD_len hv; have := HL.out; omega
    have hf0 := Lib.hid (fmtD_yes hv)
    have HA := Lib.hid (validD_all hv)
    rw [hv] at KV
    clear hv
    obtain ⟨x0, _⟩ := kn0.all
    go_enter Tryd.func35, Tryd.ntmps35
    go_wp2_with fail
    generalize w.alloc (.cells #[.slice A n c] 55) = w0 at kn0 x0 ⊢
    refine (KV.out _ kn0.bel).mono ?_
    rintro e w1 ⟨rfl, b1⟩
    have kn1 := kn0.next b1
    clear b1 kn0 x0 KV
    obtain ⟨x0, _⟩ := kn1.all
    have HB1 := Lib.hid kn1.bel
    have l1 : w.heap.size < w1.heap.size := (kn1.cell (w.heap.size, 0, .slice A n c) (by simp)).1
    have ne1 : ¬ w.heap.size = w1.heap.size := by omega
    clear kn1
    go_wp2
    go_loopw [3, 13] (fun v i wr => ∃ (k : Nat) (p : List ByteArray), k ≤ n ∧ p.length ≤ k ∧ i = .int .i64 k ∧ wr.ownsRow w1.heap.size 9 1 v p.length (p.map Value.string) ∧ Below w1.heap.size w1 wr ∧ Hid (p = (ts.take k).map fmtB)) (fun _ i _ => n - (intOf i).toNat)
    case atStart => exact ⟨0, [], by omega, by simp, rfl, World.ownsRow_made (base := w1.heap.size) (e := 9) (size := 1) w1 #[] 0 (Nat.le_refl _) (by unfold maxLen; omega) rfl, (Below.refl _ _).alloc (Nat.le_refl _) _, rfl⟩
    case round =>
      obtain ⟨k, p, hk, hpk, rfl, hown, hbel, hinv⟩ := hrel
      have hsz := hbel.size
      have HW := Lib.hid (HB1.out.trans (hbel.mono HB1.out.size))
      by_cases hlt : k < n
      · have hr2 := RdT.belowB hr HW.out hB
        obtain ⟨b, o, t, A1, c1, rfl, hb, hx, hc0, hc1, hc2, hrd, hm, _⟩ := RdT.at_ hr2 hlt
        have hv := HA.out t (List.mem_of_getElem? hx)
        have KT : Hid (∀ W, Below wr.heap.size wr W → Calls Tryd.prog 26 #[.agg #[.string t.nm, .int .i64 t.ar, .slice A1 t.rs.length c1]] W fun e w' => e = .returned (.string (fmtB t)) ∧ Below W.heap.size W w') := fun W bw =>
          impl_FormatTable_any t.nm t.ar A1 t.rs.length c1 B t.rs W (ht.on (HW.out.trans (bw.mono HW.out.size))) (RdR.belowB hrd bw (Nat.le_trans hB HW.out.size)) (Nat.le_trans hB (Nat.le_trans HW.out.size bw.size)) (by have := (validT_vt hv).len; omega)
        have hst : Hid (p ++ [fmtB t] = (ts.take (k + 1)).map fmtB) := by show _ = _; rw [List.take_add_one, hx, List.map_append, hinv.out]; rfl
        have g1 : (0 : Int) ≤ (k : Int) := by omega
        have g2 : (k : Int) < (n : Int) := by omega
        have g3 : (k : Int).toNat = k := by omega
        clear hx hrd hm hr2 hv
        generalize fmtB t = D at KT hst
        obtain ⟨nm, ar, rs⟩ := t
        go_wp2_with fail
        refine (KT.out _ ((Below.refl _ _).alloc (Nat.le_refl _) _)).mono ?_
        rintro e w2 ⟨rfl, hb1⟩
        have hbelA := hbel.alloc (Nat.le_trans (Nat.le_refl _) hsz) (.cells #[.string nm, .int .i64 ar, .slice A1 rs.length c1] 41)
        have hbel1 := below_chain hbelA hb1 hbelA.size
        have hsz1 := hbel1.size
        have hown1 : w2.ownsRow w1.heap.size 9 1 _ p.length (p.map Value.string) := own_keep (hown.alloc _) fun g hg => hb1.block g ((hown.alloc _).lt g hg).2
        clear hown hb1 hbel hbelA x0 hc0 hc1 hc2 KT
        go_wp2_with (at_builtin; refine wpList_append_lies _ rfl _ _ _ rfl w1.heap.size 9 i0 _ 1 16 Tryd.underlying96 hi hz0 hz1 hz2 rfl (by omega) _ p.length _ rfl (hown1.alloc _) ⟨w2.heap.size, 0, none⟩ 1 1 [.string D] rfl rfl (World.news_of_block (cs := #[.string D]) (t := 9) (fr := (0, 0)) (heap_alloc_new w2 _)) (by simp [Value.oneCell']) (by omega) (by unfold maxLen; omega) (by omega) (by simp; omega) (w2.heap.size + 1) (by simp) ?_; intro g cap w3 hown2 hgrow _ _)
        have hown3 : w3.ownsRow w1.heap.size 9 1 (.slice (some ⟨g, 0, none⟩) (p.length + 1) cap) (p ++ [D]).length ((p ++ [D]).map Value.string) := by simpa using hown2
        clear hown2
        refine ⟨⟨k + 1, p ++ [D], by omega, by simp; omega, by go_num, hown3, (hbel1.alloc (by omega) _).grown hgrow (by simp; omega) (fun j hj => (hown1.lt j hj).1), hst⟩, ?_⟩
        simp [intOf]
        omega
      · obtain rfl : k = n := by omega
        have hp : Hid (p.map (·.data.toList) = ts.map fun t => (fmtB t).data.toList) := by
          show _ = _
          rw [hinv.out, List.take_of_length_le (Nat.le_of_eq HL.out), List.map_map]
          rfl
        have hlen : Hid ((Lib.join (p.map (·.data.toList)) (⟨#[59]⟩ : ByteArray).data.toList).length ≤ 140737488355328) := by
          show _ ≤ _
          rw [hp.out]
          have h1 := dbL_len fun t ht => fmtB_size (HA.out t ht)
          have h3 := HL.out
          show (dbL ts).length ≤ _
          omega
        have hf : Hid ((⟨(Lib.join (p.map (·.data.toList)) (⟨#[59]⟩ : ByteArray).data.toList).toArray⟩ : ByteArray) = fmtD ts) := by show _ = _; rw [hf0.out, hp.out]; rfl
        rcases hown.2 with ⟨rfl, h0⟩ | ⟨g, cap, cur, rfl, hb, hg, hnc, hcm, hsize, htk⟩
        · have hp0 : p = [] := List.length_eq_zero_iff.1 h0
          subst hp0
          go_wp2_with fail
          refine (Tryd.strings_Join_none none 0 ⟨#[59]⟩ _).mono ?_
          rintro e w2 ⟨rfl, rfl⟩
          go_wp2_with fail
          go_ret
          exact ⟨by rw [← hf.out] <;> rfl, HW.out⟩
        · have hlt := (Array.getElem?_eq_some_iff.1 hg).1
          have hcells : Hid (∀ (j : Nat) x, p[j]? = some x → wr.cell? ⟨g, 0 + j, none⟩ = some (.string x)) := fun j x hx => by
            rw [Nat.zero_add, cell_of_row wr g j cur _ (0, 0) hg]
            have hj : j < p.length := (List.getElem?_eq_some_iff.1 hx).1
            have h1 : (cur.toList.take (p.length * 1))[j]? = (p.map Value.string)[j]? := by rw [htk]
            rw [List.getElem?_take, if_pos (by omega), List.getElem?_map, hx] at h1
            simpa using h1
          clear hg htk
          go_wp2_with fail
          refine (Tryd.strings_Join g 0 cap p ⟨#[59]⟩ _ hcells.out hlt (by omega) hnc hlen.out).mono ?_
          rintro e w2 ⟨rfl, hb1⟩
          have hb2 := HW.out.trans (hb1.mono HW.out.size)
          clear hb1
          go_wp2_with fail
          go_ret
          exact ⟨by rw [← hf.out] <;> rfl, hb2⟩
end Go.Proofs.YtmojjbhjjhdpaaaDoor
