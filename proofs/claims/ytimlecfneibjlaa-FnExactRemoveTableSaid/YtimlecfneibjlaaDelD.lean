/- slices.DeleteFunc at owned tables: the walk. No condition but the size that the laws let in. -/
import Derived.Test.YtimlecfneibjlaaDelT
namespace Go.Proofs.Ytimlecfneibjlaa
open Go.RowKit Go.Deep

theorem ownsRow_cap {w : World} {base : Nat} {e : TypeId} {size n c : Nat} {A : Option Addr} {xs : List Value} (h : w.ownsRow base e size (.slice A n c) n xs) : c ≤ maxLen := by
  rcases h.2 with ⟨hv, _⟩ | ⟨g, cap, cur, hv, _, _, _, hcm, _⟩
  · injection hv with _ _ h3
    subst h3
    exact Nat.zero_le _
  · injection hv with _ _ h3
    subst h3
    exact hcm
/-- All but block g is as it was; blocks may have come. -/
structure Oth (g : Nat) (w W : World) : Prop where
  os : W.os = w.os
  tape : W.tape = w.tape
  output : W.output = w.output
  size : w.heap.size ≤ W.heap.size
  block : ∀ k, k < w.heap.size → k ≠ g → W.heap[k]? = w.heap[k]?
theorem Oth.refl (g : Nat) (w : World) : Oth g w w := ⟨rfl, rfl, rfl, Nat.le_refl _, fun _ _ _ => rfl⟩
theorem Oth.below {g : Nat} {w W W' : World} (h : Oth g w W) (b : Below W.heap.size W W') : Oth g w W' :=
  ⟨b.os.trans h.os, b.tape.trans h.tape, b.output.trans h.output, Nat.le_trans h.size b.size, fun k hk hn => (b.block k (Nat.lt_of_lt_of_le hk h.size)).trans (h.block k hk hn)⟩
theorem Oth.set_ {g i : Nat} {w W : World} {x : Value} (h : Oth g w W) : Oth g w (W.setCell ⟨g, i, none⟩ x) :=
  ⟨h.os, h.tape, h.output, by simpa [World.setCell] using h.size, fun k hk hn => (Below.heap_setCell W _ _ k hn).trans (h.block k hk hn)⟩
theorem Oth.setCells {g o : Nat} {w W : World} {vs : List Value} (h : Oth g w W) : Oth g w (W.setCells g o vs) := by
  induction vs generalizing o W with
  | nil => exact h
  | cons v vs ih => exact ih h.set_
theorem Oth.cell {g b i : Nat} {w W : World} (h : Oth g w W) (hb : b < w.heap.size) (hn : b ≠ g) : W.cell? ⟨b, i, none⟩ = w.cell? ⟨b, i, none⟩ := World.cell?_of_block (h.block b hb hn)

set_option maxRecDepth 100000 in
set_option maxHeartbeats 4000000 in
theorem deleteFuncT_any (A : Option Addr) (n c lo hi b : Nat) (ts0 : List Tab) (nm' : ByteArray) (w : World) (ho : OwnD w lo hi (.slice A n c) ts0) (hcell : w.cell? ⟨b, 0, none⟩ = some (.string nm')) (hb : b < w.heap.size) (hbo : b < lo ∨ hi ≤ b) (hhi : hi ≤ w.heap.size) (hn : n ≤ 1000000000) :
    Calls Try.prog 76 #[.slice A n c, .func (.func 77) #[] #[.pointer (some ⟨b, 0, none⟩)]] w fun e w' =>
      ∃ m, e = .returned (.slice A m c) ∧ OwnD w' lo hi (.slice A m c) (ts0.filter fun t => decide (¬ t.nm = nm')) ∧ Chg lo hi w w' := by
  have hlen := ho.len_eq
  have KI := Lib.hid (indexFuncRem_any A n c b hi ts0 nm' w hcell hb (ho.rd hlen) hhi hn)
  rcases noN_or ts0 nm' n with hno | ⟨k0, t0, hx0, ht0, hno⟩
  · have hf : Hid (ts0.filter (fun t => decide (¬ t.nm = nm')) = ts0) := by
      show _ = _
      rw [List.filter_eq_self]
      intro x hx
      simpa using hno.all (by omega) x hx
    rw [idxN_none hno (by omega)] at KI
    have HO := Lib.hid ho
    clear ho hno hcell
    go_enter Try.func76, Try.ntmps76
    go_wp2_with fail
    refine KI.out.mono ?_
    rintro e w1 ⟨rfl, b1⟩
    have HB := Lib.hid b1
    clear b1
    go_wp2_with fail
    go_ret
    exact ⟨n, rfl, by rw [hf.out]; exact HO.out.below HB.out hhi, ⟨HB.out.os, HB.out.tape, HB.out.output, HB.out.size, fun k hk _ => HB.out.block k hk⟩⟩
  · have hk0 : k0 < n := by have := (List.getElem?_eq_some_iff.1 hx0).1; omega
    rw [idxN_at hx0 ht0 hno] at KI
    obtain ⟨F, ⟨ts, hmap, hT⟩, hF⟩ := ho
    have htl : ts.length = n := by rw [← hlen, hmap, List.length_map]
    have hrow := hT.row
    rw [htl] at hrow
    obtain ⟨g, cc, hv, _, hglt, _, _⟩ := ownsRow_cell hrow (i := 0) (by omega)
    injection hv with hA _ hcc
    subst hA hcc
    have hgF := hT.head g rfl
    have hgb := hF g hgF.1
    have hcap : n ≤ c := by
      rcases hrow.2 with ⟨hv, _⟩ | ⟨g', cap, cur, hv, _, _, hnc, hcm, _⟩
      · cases hv
      · injection hv with _ _ h3
        subst h3
        exact hnc
    have hcm := ownsRow_cap hrow
    have hbg : b ≠ g := by omega
    have HT := Lib.hid hT
    have HM := Lib.hid hmap
    have HTL := Lib.hid htl
    have HC := Lib.hid hcell
    have hel : Hid (∀ t ∈ ts, ∃ A1 c1, t.cs = [.string t.a.nm, .int .i64 t.a.ar, .slice A1 t.a.rs.length c1]) := fun t ht => by
      obtain ⟨A1, c1, _, _, h1, _⟩ := hT.elem t ht
      exact ⟨A1, c1, h1⟩
    have HR0 := Lib.hid hrow
    have hstart : Hid (ft nm' (ts.take (k0 + 1)) = ts.take k0) := by
      show _ = _
      obtain ⟨i0, h1⟩ : ∃ i0, ts[k0]? = some i0 := ⟨_, List.getElem?_eq_getElem (by omega)⟩
      have h2 : ts0[k0]? = some i0.a := by rw [hmap, List.getElem?_map, h1]; rfl
      rw [hx0] at h2
      injection h2 with h2
      rw [ft_step h1, if_pos (by rw [← h2]; exact ht0), List.append_nil, ft, List.filter_eq_self]
      intro x hx
      obtain ⟨j, hj⟩ := List.mem_iff_getElem?.1 hx
      have hjk : j < k0 := by
        have := (List.getElem?_eq_some_iff.1 hj).1
        rw [List.length_take] at this
        omega
      rw [List.getElem?_take, if_pos hjk] at hj
      have := hno j x.a hjk (by rw [hmap, List.getElem?_map, hj]; rfl)
      exact decide_eq_true this
    clear hT hmap htl hcell hrow hx0 ht0 hno
    go_enter Try.func76, Try.ntmps76
    go_wp2_with fail
    refine KI.out.mono ?_
    rintro e w1 ⟨rfl, b1⟩
    have h1b : ((k0 : Int) == -1) = false := by simp
    have HB1 := Lib.hid b1
    clear b1 KI
    go_wp2_with fail
    go_loopw [5, 6, 7] (fun i j _ wr => ∃ (m k : Nat), i = .int .i64 (m : Int) ∧ j = .int .i64 (((k + 1 : Nat) : Int)) ∧ k0 ≤ k ∧ k + 1 ≤ n ∧ m ≤ k ∧ Hid ((ft nm' (ts.take (k + 1))).length = m) ∧ Hid (wr.ownsRow 0 36 3 (.slice (some ⟨g, 0, none⟩) n c) n ((kept nm' ts (k + 1)).flatMap (·.cs))) ∧ Hid (Oth g w wr)) (fun _ j _ _ => n - (intOf j).toNat)
    case atStart =>
      refine ⟨k0, k0, rfl, by go_num, by omega, by omega, by omega, by show _ = _; rw [hstart.out, List.length_take]; have := HTL.out; omega, ?_, (Oth.refl g w).below HB1.out⟩
      show World.ownsRow _ _ _ _ _ _ _
      have e1 : kept nm' ts (k0 + 1) = ts := by
        rw [kept, hstart.out, List.length_take, Nat.min_eq_left (by have := HTL.out; omega), List.take_append_drop]
      rw [e1]
      exact ownsRow_keep HR0.out fun g' hg' => HB1.out.block g' (by have := HR0.out.lt g' hg'; omega)
    case round =>
      obtain ⟨m, k, rfl, rfl, hk0k, hkn, hmk, hm, hrow, hoth⟩ := hrel
      have hsz := hoth.out.size
      have hkl : (kept nm' ts (k + 1)).length = n := by rw [kept_len (by rw [HTL.out]; omega), HTL.out]
      have hkc : ∀ t ∈ kept nm' ts (k + 1), t.cs.length = 3 := fun t ht => HT.out.len t (kept_mem ht)
      by_cases hlt : k + 1 < n
      · have hj : ts[k + 1]? = some (ts[k + 1]'(by rw [HTL.out]; exact hlt)) := List.getElem?_eq_getElem _
        generalize ts[k + 1]'(by rw [HTL.out]; exact hlt) = t at hj
        obtain ⟨A1, c1, hcs⟩ := hel.out t (List.mem_of_getElem? hj)
        have hget : ∀ i x, t.cs[i]? = some x → i < 3 → wr.cell? ⟨g, (k + 1) * 3 + i, none⟩ = some x ∧ wr.frozen? ⟨g, (k + 1) * 3 + i, none⟩ = false := fun i x hx hi => by
          obtain ⟨g', c', hv, _, _, h2, h3⟩ := ownsRow_cell hrow.out (i := (k + 1) * 3 + i) (by omega)
          injection hv with hv _ _
          injection hv with hv
          injection hv with hv
          subst hv
          exact ⟨h2.trans ((flat_get _ hkc (k + 1) i t (kept_at.trans hj) hi).trans hx), h3⟩
        have d0 := (hget 0 _ (by rw [hcs]; rfl) (by omega)).1
        have d1 := (hget 1 _ (by rw [hcs]; rfl) (by omega)).1
        have d2 := (hget 2 _ (by rw [hcs]; rfl) (by omega)).1
        rw [Nat.add_zero] at d0
        have hO : (.cells #[.string t.a.nm, .int .i64 t.a.ar, .slice A1 t.a.rs.length c1] 36 : Obj) = .cells #[.string t.a.nm, .int .i64 t.a.ar, .slice A1 t.a.rs.length c1] 36 := rfl
        have hW := Lib.hid ((Below.refl wr.heap.size wr).alloc (Nat.le_refl _) (.cells #[.string t.a.nm, .int .i64 t.a.ar, .slice A1 t.a.rs.length c1] 36))
        have KP := Lib.hid (predRem_any t.a.nm nm' t.a.ar A1 t.a.rs.length c1 b (wr.alloc (.cells #[.string t.a.nm, .int .i64 t.a.ar, .slice A1 t.a.rs.length c1] 36)) ((hW.out.cell (p := ⟨b, 0, none⟩) (by show b < _; omega)).trans ((hoth.out.cell hb hbg).trans HC.out)))
        have e0 : (wr.alloc (.cells #[.string t.a.nm, .int .i64 t.a.ar, .slice A1 t.a.rs.length c1] 36)).cell? ⟨wr.heap.size, 0, none⟩ = some (.string t.a.nm) := by simp [go_sem]
        have e1 : (wr.alloc (.cells #[.string t.a.nm, .int .i64 t.a.ar, .slice A1 t.a.rs.length c1] 36)).cell? ⟨wr.heap.size, 1, none⟩ = some (.int .i64 t.a.ar) := by simp [go_sem]
        have e2 : (wr.alloc (.cells #[.string t.a.nm, .int .i64 t.a.ar, .slice A1 t.a.rs.length c1] 36)).cell? ⟨wr.heap.size, 2, none⟩ = some (.slice A1 t.a.rs.length c1) := by simp [go_sem]
        have hwl : wr.heap.size < (wr.alloc (.cells #[.string t.a.nm, .int .i64 t.a.ar, .slice A1 t.a.rs.length c1] 36)).heap.size := by simp
        have hgm : ∀ i, i < 3 → (wr.cell? ⟨g, m * 3 + i, none⟩).isSome = true ∧ wr.frozen? ⟨g, m * 3 + i, none⟩ = false := fun i hi => by
          obtain ⟨g', c', hv, _, _, h2, h3⟩ := ownsRow_cell hrow.out (i := m * 3 + i) (by omega)
          injection hv with hv _ _
          injection hv with hv
          injection hv with hv
          subst hv
          refine ⟨?_, h3⟩
          rw [h2, List.getElem?_eq_getElem (by rw [flat_len _ hkc, hkl]; omega)]
          rfl
        have hgw : g < wr.heap.size := by omega
        have g7 : (0 : Int) ≤ (m : Int) := by omega
        have g8 : (m : Int) < (n : Int) := by omega
        have g9 : (m : Int).toNat = m := by omega
        by_cases he : t.a.nm = nm'
        · have hks : Hid (kept nm' ts (k + 1 + 1) = kept nm' ts (k + 1)) := kept_skip hj he
          have hms : Hid ((ft nm' (ts.take (k + 1 + 1))).length = m) := by show _ = _; rw [ft_step hj, if_pos he, List.append_nil]; exact hm.out
          rw [decide_eq_true he] at KP
          clear he hj hget hgm hcs hkc hkl
          generalize t.a.nm = tn, t.a.ar = ta, t.a.rs = tr at *
          go_wp2_with fail
          refine KP.out.mono ?_
          rintro e w3 ⟨rfl, b3⟩
          have HO := Lib.hid ((hoth.out.below hW.out).below b3)
          have HR : Hid (w3.ownsRow 0 36 3 (.slice (some ⟨g, 0, none⟩) n c) n ((kept nm' ts (k + 1)).flatMap (·.cs))) := ownsRow_keep hrow.out fun g' hg' => by
            have := hrow.out.lt g' hg'
            exact (b3.block g' (by simp; omega)).trans (hW.out.block g' this.2)
          clear b3
          go_wp2_with fail
          refine ⟨⟨m, k + 1, rfl, by go_num, by omega, by omega, by omega, hms, by rw [hks.out]; exact HR, HO⟩, ?_⟩
          simp [intOf]
          omega
        · have hks : Hid (kept nm' ts (k + 1 + 1) = (kept nm' ts (k + 1)).set m t) := by have := kept_keep hj he; rw [hm.out] at this; exact this
          have hms : Hid ((ft nm' (ts.take (k + 1 + 1))).length = m + 1) := by show _ = _; rw [ft_step hj, if_neg he, List.length_append, hm.out]; rfl
          have hfs := Lib.hid (flat_set3 hkc hcs (j := m) (by rw [hkl]; omega))
          rw [decide_eq_false he] at KP
          obtain ⟨x0, hx0⟩ := Option.isSome_iff_exists.1 (hgm 0 (by omega)).1
          obtain ⟨x1, hx1⟩ := Option.isSome_iff_exists.1 (hgm 1 (by omega)).1
          obtain ⟨x2, hx2⟩ := Option.isSome_iff_exists.1 (hgm 2 (by omega)).1
          have f0 := (hgm 0 (by omega)).2
          have f1 := (hgm 1 (by omega)).2
          have f2 := (hgm 2 (by omega)).2
          rw [Nat.add_zero] at hx0 f0
          clear he hj hget hgm hcs hkc hkl
          generalize t.a.nm = tn, t.a.ar = ta, t.a.rs = tr at *
          go_wp2_with fail
          refine KP.out.mono ?_
          rintro e w3 ⟨rfl, b3⟩
          have hB := hW.out.trans (b3.mono hW.out.size)
          have HO := Lib.hid ((hoth.out.below hW.out).below b3)
          have HR : Hid (w3.ownsRow 0 36 3 (.slice (some ⟨g, 0, none⟩) n c) n ((kept nm' ts (k + 1)).flatMap (·.cs))) := ownsRow_keep hrow.out fun g' hg' => hB.block g' (hrow.out.lt g' hg').2
          have y0 := (hB.cell (p := ⟨g, m * 3, none⟩) hgw).trans hx0
          have y1 := (hB.cell (p := ⟨g, m * 3 + 1, none⟩) hgw).trans hx1
          have y2 := (hB.cell (p := ⟨g, m * 3 + 2, none⟩) hgw).trans hx2
          have z0 := (hB.frozen (p := ⟨g, m * 3, none⟩) hgw).trans f0
          have z1 := (hB.frozen (p := ⟨g, m * 3 + 1, none⟩) hgw).trans f1
          have z2 := (hB.frozen (p := ⟨g, m * 3 + 2, none⟩) hgw).trans f2
          have u0 := (b3.cell (p := ⟨wr.heap.size, 0, none⟩) hwl).trans e0
          have u1 := (b3.cell (p := ⟨wr.heap.size, 1, none⟩) hwl).trans e1
          have u2 := (b3.cell (p := ⟨wr.heap.size, 2, none⟩) hwl).trans e2
          have HS : Hid ((((w3.setCell ⟨g, m * 3, none⟩ (.string tn)).setCell ⟨g, m * 3 + 1, none⟩ (.int .i64 ta)).setCell ⟨g, m * 3 + 2, none⟩ (.slice A1 tr.length c1)).ownsRow 0 36 3 (.slice (some ⟨g, 0, none⟩) n c) n ((kept nm' ts (k + 1 + 1)).flatMap (·.cs))) := by
            show World.ownsRow _ _ _ _ _ _ _
            rw [hks.out, ← hfs.out]
            have st : ∀ (W : World) (xs : List Value) (i : Nat) (x : Value), W.ownsRow 0 36 3 (.slice (some ⟨g, 0, none⟩) n c) n xs → i < n * 3 → (W.setCell ⟨g, i, none⟩ x).ownsRow 0 36 3 (.slice (some ⟨g, 0, none⟩) n c) n (xs.set i x) := fun W xs i x h hi => by
              obtain ⟨g', c', hv, _, _, _, _, h4⟩ := ownsRow_set h hi x
              injection hv with hv _ _
              injection hv with hv
              injection hv with hv
              subst hv
              exact h4
            exact st _ _ _ _ (st _ _ _ _ (st _ _ _ _ HR.out (by omega)) (by omega)) (by omega)
          have HOS := Lib.hid (((HO.out.set_ (i := m * 3) (x := .string tn)).set_ (i := m * 3 + 1) (x := .int .i64 ta)).set_ (i := m * 3 + 2) (x := .slice A1 tr.length c1))
          clear b3 hB hx0 hx1 hx2 f0 f1 f2 e0 e1 e2 d0 d1 d2
          go_wp2_with fail
          refine ⟨⟨m + 1, k + 1, by go_num, by go_num, by omega, by omega, by omega, hms, HS, HOS⟩, ?_⟩
          simp [intOf]
          omega
      · obtain rfl : k + 1 = n := by omega
        have hmn : m < k + 1 := by omega
        have hct : ∀ j, j < (k + 1 - m) * 3 → (wr.cell? ⟨g, m * 3 + j, none⟩).isSome = true ∧ wr.frozen? ⟨g, m * 3 + j, none⟩ = false := fun j hj => by
          obtain ⟨g', c', hv, _, _, h2, h3⟩ := ownsRow_cell hrow.out (i := m * 3 + j) (by omega)
          injection hv with hv _ _
          injection hv with hv
          injection hv with hv
          subst hv
          refine ⟨?_, h3⟩
          rw [h2, List.getElem?_eq_getElem (by rw [flat_len _ hkc, hkl]; omega)]
          rfl
        have hcl : ∀ ty, (Builtin.clear_ #[27] ty #[.slice (some ⟨g, m * 3, none⟩) (k + 1 - m) (c - m)]).run Try.prog wr = .ok (.tuple #[]) (wr.setCells g (m * 3) (List.replicate (k + 1 - m) [.string { data := #[] }, .int .i64 0, (.slice none 0 0 : Value)]).flatten) := fun ty =>
          run_clear_tabs wr ty g (m * 3) (k + 1 - m) (c - m) (by omega) (fun j hj => (hct j hj).1) (fun j hj => (hct j hj).2)
        have hzl : (List.replicate (k + 1 - m) [.string { data := #[] }, .int .i64 0, (.slice none 0 0 : Value)]).flatten.length = (k + 1 - m) * 3 := by
          rw [List.length_flatten, List.map_replicate]
          simp
        obtain ⟨xs', hx1, hx2⟩ := ownsRow_setCells (List.replicate (k + 1 - m) [.string { data := #[] }, .int .i64 0, (.slice none 0 0 : Value)]).flatten (m * 3) wr _ hrow.out (by rw [hzl]; omega)
        have hfin := ownsRow_cut hx1 (m := m) (by omega) (by omega)
        have hm' := hm.out
        have htt : ts.take (k + 1) = ts := List.take_of_length_le (Nat.le_of_eq HTL.out)
        rw [htt] at hm'
        have hxe : xs'.take (m * 3) = (ft nm' ts).flatMap (·.cs) := by
          rw [hx2, flat_take _ _ hkc, ← HTL.out, ← hm', kept_end]
        rw [hxe] at hfin
        have HFIN := Lib.hid hfin
        have HOS := Lib.hid (hoth.out.setCells (o := m * 3) (vs := (List.replicate (k + 1 - m) [.string { data := #[] }, .int .i64 0, (.slice none 0 0 : Value)]).flatten))
        have HMM := Lib.hid hm'
        have g7 : (0 : Int) ≤ (m : Int) := by omega
        have g8 : (m : Int) ≤ ((k + 1 : Nat) : Int) := by omega
        clear hct hx1 hx2 hfin hxe hm' htt hzl hkc hkl
        go_wp2_with fail
        go_ret
        refine ⟨m, rfl, ⟨F, ⟨ft nm' ts, by rw [HM.out, ft_map], HT.out.reorder2 eTab_ok List.filter_sublist (by rw [HMM.out]; exact HFIN.out) (fun g' hg' => hg') HOS.out.size fun j hj hne => HOS.out.block j hj fun e => hne (by rw [e]; rfl)⟩, hF⟩,
          ⟨HOS.out.os, HOS.out.tape, HOS.out.output, HOS.out.size, fun j hj hne => HOS.out.block j hj (by omega)⟩⟩
end Go.Proofs.Ytimlecfneibjlaa
