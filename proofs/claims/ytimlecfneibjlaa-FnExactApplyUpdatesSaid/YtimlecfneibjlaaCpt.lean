/- slices.CompactFunc at owned rows; impl.sorted. No condition but the size. -/
import Derived.Test.YtimlecfneibjlaaSrt
import Derived.Test.YtimlecfneibjlaaEqI
import Derived.Test.YtimlecfneibjlaaCopy
namespace Go.Proofs.Ytimlecfneibjlaa
open Go.RowKit Go.Deep Go.Sort Go.Lib

theorem sorted1_q (A A' : Option Addr) (n c n' c' : Nat) (zs zs' : List Int) (w : World) (hr : RdI w w.heap.size A n zs) (hr' : RdI w w.heap.size A' n' zs') (hn : n ≤ 9223372036854775807) (hn' : n' ≤ 9223372036854775807) :
    Calls Try.prog 116 #[.slice A n c, .slice A' n' c'] w fun e w' => e = .returned (.bool (decide (zs = zs'))) ∧ Qt w w' := by
  go_enter Try.func116, Try.ntmps116
  go_wp2_with fail
  refine (slicesEqual_q A A' n c n' c' zs zs' w hr hr' hn hn').mono ?_
  rintro e w' ⟨rfl, hq⟩
  have HQ := Lib.hid hq
  clear hq
  go_wp2_with fail
  go_ret
  exact ⟨rfl, HQ.out⟩

theorem take_set_succ {α : Type} (d : Array α) (k : Nat) (x : α) (h : k < d.size) : (d.setIfInBounds k x).toList.take (k + 1) = d.toList.take k ++ [x] := by
  rw [Array.toList_setIfInBounds, List.set_eq_take_append_cons_drop, if_pos (by simpa using h)]
  have hl : (d.toList.take k).length = k := by simp; omega
  rw [List.take_append, hl, List.take_of_length_le (by omega), Nat.add_sub_cancel_left]
  rfl
/-- j places have been looked at; what is kept of them, k items, lies at the head; behind place k - 1 all is as it was. -/
structure CI {ts : List (Item (List Int))} (d : Array (Mv ts)) (j k : Nat) (dk : Array (Mv ts)) : Prop where
  size : dk.size = d.size
  lt : k < j
  low : dk.toList.take k = dd keyM (d.toList.take j)
  high : ∀ i, k ≤ i → dk[i]! = d[i]!
section
variable {ts : List (Item (List Int))} {d dk : Array (Mv ts)} {j k : Nat}
theorem CI.start (h : dd keyM (d.toList.take (j + 1)) = d.toList.take (j + 1)) (h2 : j + 1 < d.size) (he : keyM d[j + 1]! = keyM d[j]!) : CI d (j + 1 + 1) (j + 1) d :=
  ⟨rfl, by omega, by rw [dd_take keyM d h2, if_pos he, h, List.append_nil], fun _ _ => rfl⟩
theorem CI.skip (h : CI d (j + 1) k dk) (h2 : j + 1 < d.size) (he : keyM d[j + 1]! = keyM d[j]!) : CI d (j + 1 + 1) k dk :=
  ⟨h.size, by have := h.lt; omega, by rw [dd_take keyM d h2, if_pos he, h.low, List.append_nil], h.high⟩
theorem CI.keep (h : CI d (j + 1) k dk) (h2 : j + 1 < d.size) (he : ¬ keyM d[j + 1]! = keyM d[j]!) : CI d (j + 1 + 1) (k + 1) (dk.setIfInBounds k d[j + 1]!) :=
  ⟨by simp [h.size], by have := h.lt; omega, by rw [take_set_succ _ _ _ (by have := h.lt; have := h.size; omega), dd_take keyM d h2, if_neg he, h.low], fun i hi => by
    rw [getElem!_set_other dk k i _ (by omega), h.high i (by omega)]⟩
end

set_option maxRecDepth 100000 in
set_option maxHeartbeats 1000000 in
theorem compact_any {F : Nat → Prop} {ts : List (Item (List Int))} (g n c : Nat) (d : Array (Mv ts)) (w : World) (hT : OwnT 59 1 ERow w F (.slice (some ⟨g, 0, none⟩) n c) ts) (hcap : n ≤ c) (hmax : c ≤ 9223372036854775807) (hd : d.size = n) (hH : Holds encM w g 0 d) :
    Calls Try.prog 115 #[.slice (some ⟨g, 0, none⟩) n c, .func (.func 116) #[] #[]] w fun e w' =>
      ∃ (m q : Nat) (dk : Array (Mv ts)), e = .returned (.slice (some ⟨g, 0, none⟩) m c) ∧ w' = putRow encM (Sort.ahead w q) g 0 dk ∧ dk.size = n ∧ m ≤ n ∧ dk.toList.take m = dd keyM d.toList := by
  have HD := Lib.hid hd
  have same : Hid (∀ w', Qt w w' → dd keyM d.toList = d.toList → ∃ (m q : Nat) (dk : Array (Mv ts)), Ending.returned (.slice (some ⟨g, 0, none⟩) n c) = .returned (.slice (some ⟨g, 0, none⟩) m c) ∧ w' = putRow encM (Sort.ahead w q) g 0 dk ∧ dk.size = n ∧ m ≤ n ∧ dk.toList.take m = dd keyM d.toList) := fun w' ⟨q, hq⟩ hall =>
    ⟨n, q, d, rfl, hq.trans (putRow_self encM (Sort.ahead w q) g 0 d (holds_ahead encM w q g 0 d hH)).symm, hd, Nat.le_refl _, by rw [hall]; exact List.take_of_length_le (by simp [hd])⟩
  clear hd
  by_cases h2 : n < 2
  · have hall : Hid (dd keyM d.toList = d.toList) := by
      show _ = _
      have hl : d.toList.length < 2 := by simpa [HD.out] using h2
      match h : d.toList with
      | [] => rfl
      | [x] => rfl
      | x :: y :: l => rw [h] at hl; simp at hl; omega
    clear hH
    go_enter Try.func115, Try.ntmps115
    go_wp2_with fail
    go_ret
    exact same.out w (Qt.refl _) hall.out
  have KS : Hid (∀ (W : World) (x y : Mv ts), w.heap.size ≤ W.heap.size → (∀ k, k < w.heap.size → k ≠ g → W.heap[k]? = w.heap[k]?) → Calls Try.prog 116 #[encM x, encM y] W fun e w' => e = .returned (.bool (decide (keyM x = keyM y))) ∧ Qt W w') := fun W x y hs hk => by
    obtain ⟨A1, c1, e1, r1, m1⟩ := mv_rd (W := W) hT rfl hs hk x
    obtain ⟨A2, c2, e2, r2, m2⟩ := mv_rd (W := W) hT rfl hs hk y
    rw [e1, e2]
    exact sorted1_q A1 A2 _ c1 _ c2 _ _ W r1 r2 m1 m2
  have KF : Hid (∀ x : Mv ts, ∃ A c, encM x = .slice A (keyM x).length c) := fun x => by
    obtain ⟨A1, c1, e1, _⟩ := mv_rd (W := w) hT rfl (Nat.le_refl _) (fun _ _ _ => rfl) x
    exact ⟨A1, c1, e1⟩
  have HH := Lib.hid hH
  have HC : Hid (∀ j, j < n → w.cell? ⟨g, j, none⟩ = some (encM d[j]!) ∧ w.frozen? ⟨g, j, none⟩ = false) := fun j hj => by have := HH.out j (by rw [HD.out]; exact hj); rwa [Nat.zero_add] at this
  clear hH
  go_enter Try.func115, Try.ntmps115
  go_wp2_with fail
  go_loopw [5] (fun i wr => ∃ k : Nat, k + 1 ≤ n ∧ i = .int .i64 (((k + 1 : Nat) : Int)) ∧ Hid (dd keyM (d.toList.take (k + 1)) = d.toList.take (k + 1)) ∧ Qt w wr) (fun i _ => n - (intOf i).toNat)
  case atStart =>
    refine ⟨0, by omega, by go_num, ?_, Qt.refl _⟩
    show _ = _
    match h : d.toList with
    | [] => rfl
    | x :: l => rfl
  case round =>
    obtain ⟨k, hk, rfl, hall, hqt⟩ := hrel
    by_cases hlt : k + 1 < n
    · have hc1 := (hqt.cell (p := ⟨g, k + 1, none⟩)).trans (HC.out (k + 1) hlt).1
      have hc0 := (hqt.cell (p := ⟨g, k, none⟩)).trans (HC.out k (by omega)).1
      have KE := fun q => KS.out (wr.drewN q) d[k + 1]! d[k]! (by show _ ≤ wr.heap.size; rw [hqt.heap]; exact Nat.le_refl _) (fun j _ _ => by show wr.heap[j]? = _; rw [hqt.heap])
      obtain ⟨A1, l1, e1⟩ := KF.out d[k + 1]!
      obtain ⟨A0, l0, e0⟩ := KF.out d[k]!
      rw [e1] at hc1
      rw [e0] at hc0
      rw [e1, e0] at KE
      generalize (keyM d[k + 1]!).length = n1 at hc1 KE
      generalize (keyM d[k]!).length = n0 at hc0 KE
      clear e1 e0
      have g0 : IntKind.i64.wrap ((((k + 1 : Nat) : Int)) - 1) = (k : Int) := by rw [IntWalk.i64_in _ (by omega)]; omega
      have g1 : (0 : Int) ≤ (k : Int) := by omega
      have g2 : (k : Int) < (n : Int) := by omega
      have g3 : (k : Int).toNat = k := by omega
      have g4 : (0 : Int) ≤ (((k + 1 : Nat) : Int)) := by omega
      have g5 : (((k + 1 : Nat) : Int)) < (n : Int) := by omega
      have g6 : (((k + 1 : Nat) : Int)).toNat = k + 1 := by omega
      by_cases hdup : keyM d[k + 1]! = keyM d[k]!
      · have HE := Lib.hid hdup
        have KE' : Hid (∀ q, Calls Try.prog 116 #[.slice A1 n1 l1, .slice A0 n0 l0] (wr.drewN q) fun e w' => e = .returned (.bool true) ∧ Qt (wr.drewN q) w') := fun q => by have := KE q; rwa [decide_eq_true hdup] at this
        clear KE hdup
        go_wp2_with fail
        go_quiet ((go_at_call 116; exact Calls.quiet_of (KE'.out _)))
        clear g0 g3 g6
        go_wp2_with fail
        go_loopw [5, 7] (fun s5 s7 wr => ∃ (kk k2 : Nat) (dk : Array (Mv ts)), s5 = .int .i64 (kk : Int) ∧ s7 = .int .i64 (((k2 + 1 : Nat) : Int)) ∧ k + 1 + (k2 + 1) ≤ n ∧ Hid (∃ q, wr = putRow encM (Sort.ahead w q) g 0 dk) ∧ Hid (CI d (k + 1 + (k2 + 1)) kk dk)) (fun _ s7 _ => n - (intOf s7).toNat)
        case atStart =>
          refine ⟨k + 1, 0, d, by go_num, by go_num, by omega, ?_, CI.start hall.out (by rw [HD.out]; omega) HE.out⟩
          obtain ⟨q, hq⟩ := hqt.drewN nq
          exact ⟨q, hq.trans (putRow_self encM (Sort.ahead w q) g 0 d (holds_ahead encM w q g 0 d HH.out)).symm⟩
        case round =>
          clear hc1 hc0 KE' g1 g2 g4 g5
          obtain ⟨kk, k2, dk, rfl, rfl, hle, hw, hI⟩ := hrel
          have hkk := hI.out.lt
          have hds := hI.out.size
          rw [HD.out] at hds
          have HS := Lib.hid hds
          have hHk : ∀ j, j < n → wr.cell? ⟨g, j, none⟩ = some (encM dk[j]!) ∧ wr.frozen? ⟨g, j, none⟩ = false := fun j hj => by
            obtain ⟨q, hq⟩ := hw.out
            have := holds_putRow encM (Sort.ahead w q) g 0 d dk (holds_ahead encM w q g 0 d HH.out) hI.out.size j (by rw [HS.out]; exact hj)
            rw [← hq] at this
            rwa [Nat.zero_add] at this
          by_cases hlt2 : k + 1 + (k2 + 1) < n
          · have hc1 := (hHk (k + 1 + (k2 + 1)) hlt2).1
            have hc0 := (hHk (k + 1 + k2) (by omega)).1
            have hcs := hHk kk (by omega)
            have hcs0 := hcs.1
            have hcs1 := hcs.2
            rw [hI.out.high _ (by omega)] at hc1 hc0
            have KE := fun q => KS.out (wr.drewN q) d[k + 1 + (k2 + 1)]! d[k + 1 + k2]! (by obtain ⟨q', hq'⟩ := hw.out; rw [hq']; simp [putRow, mapBlock, Sort.ahead, World.drewN]) (fun j _ hne => by obtain ⟨q', hq'⟩ := hw.out; show wr.heap[j]? = _; rw [hq']; exact putRow_other encM w dk hne)
            obtain ⟨A1, l1, e1⟩ := KF.out d[k + 1 + (k2 + 1)]!
            obtain ⟨A0, l0, e0⟩ := KF.out d[k + 1 + k2]!
            have E1 := Lib.hid e1
            rw [e1] at hc1
            rw [e0] at hc0
            rw [e1, e0] at KE
            generalize (keyM d[k + 1 + (k2 + 1)]!).length = n1 at hc1 KE E1
            generalize (keyM d[k + 1 + k2]!).length = n0 at hc0 KE
            generalize encM dk[kk]! = old at hcs0
            clear e1 e0 hcs hHk hds
            have g0 : IntKind.i64.wrap ((((k2 + 1 : Nat) : Int)) - 1) = (k2 : Int) := by rw [IntWalk.i64_in _ (by omega)]; omega
            have g1 : (0 : Int) ≤ (k2 : Int) := by omega
            have g2 : (k2 : Int) < ((n - (k + 1) : Nat) : Int) := by omega
            have g3 : (k2 : Int).toNat = k2 := by omega
            have g4 : (0 : Int) ≤ (((k2 + 1 : Nat) : Int)) := by omega
            have g5 : (((k2 + 1 : Nat) : Int)) < ((n - (k + 1) : Nat) : Int) := by omega
            have g6 : (((k2 + 1 : Nat) : Int)).toNat = k2 + 1 := by omega
            have g7 : (0 : Int) ≤ (kk : Int) := by omega
            have g8 : (kk : Int) < (n : Int) := by omega
            have g9 : (kk : Int).toNat = kk := by omega
            have HI2 := Lib.hid (show k + 1 + (k2 + 1) < d.size by rw [HD.out]; exact hlt2)
            by_cases hdup2 : keyM d[k + 1 + (k2 + 1)]! = keyM d[k + 1 + k2]!
            · have HE2 := Lib.hid hdup2
              have KE' : Hid (∀ q, Calls Try.prog 116 #[.slice A1 n1 l1, .slice A0 n0 l0] (wr.drewN q) fun e w' => e = .returned (.bool true) ∧ Qt (wr.drewN q) w') := fun q => by have := KE q; rwa [decide_eq_true hdup2] at this
              clear KE hdup2
              go_wp2_with fail
              go_quiet ((go_at_call 116; exact Calls.quiet_of (KE'.out _)))
              clear g0 g3 g6 g9
              go_wp2_with fail
              refine ⟨⟨kk, k2 + 1, dk, by go_num, by go_num, by omega, ?_, hI.out.skip HI2.out HE2.out⟩, ?_⟩
              · obtain ⟨q', hq'⟩ := hw.out
                exact ⟨q' + _, by rw [hq', putRow_drewN]⟩
              · simp [intOf]
                omega
            · have HE2 := Lib.hid hdup2
              have KE' : Hid (∀ q, Calls Try.prog 116 #[.slice A1 n1 l1, .slice A0 n0 l0] (wr.drewN q) fun e w' => e = .returned (.bool false) ∧ Qt (wr.drewN q) w') := fun q => by have := KE q; rwa [decide_eq_false hdup2] at this
              clear KE hdup2
              go_wp2_with fail
              go_quiet ((go_at_call 116; exact Calls.quiet_of (KE'.out _)))
              clear g0 g3 g6
              go_wp2_with fail
              refine ⟨⟨kk + 1, k2 + 1, dk.setIfInBounds kk d[k + 1 + (k2 + 1)]!, by go_num, by go_num, by omega, ?_, hI.out.keep HI2.out HE2.out⟩, ?_⟩
              · obtain ⟨q', hq'⟩ := hw.out
                refine ⟨q' + nq, ?_⟩
                rw [← E1.out, hq', putRow_drewN]
                have := putRow_set encM (Sort.ahead w (q' + nq)) g 0 dk kk d[k + 1 + (k2 + 1)]! (by rw [HS.out]; omega)
                rwa [Nat.zero_add] at this
              · simp [intOf]
                omega
          · have hend : k + 1 + (k2 + 1) = n := by omega
            have hkn : kk < n := by omega
            have hcl : ∀ ty, (Builtin.clear_ #[34] ty #[.slice (some ⟨g, kk, none⟩) (n - kk) (c - kk)]).run Try.prog wr = .ok (.tuple #[]) (wr.setCells g kk (List.replicate (n - kk) (.slice none 0 0))) := fun ty =>
              Lib.run_clear_slice wr _ 59 ty (.slice none 0 0) Try.underlying34 (fun w => by kernel_rfl) rfl rfl g kk _ _ (by omega) (fun j hj => by rw [(hHk (kk + j) (by omega)).1]; rfl) (fun j hj => (hHk (kk + j) (by omega)).2)
            have HE := Lib.hid hend
            have g7 : (0 : Int) ≤ (kk : Int) := by omega
            have g8 : (kk : Int) < (n : Int) := by omega
            have hfin : Hid (∃ q, wr.setCells g kk (List.replicate (n - kk) (.slice none 0 0)) = putRow encM (Sort.ahead w q) g 0 (lay dk kk (List.replicate (n - kk) (⟨nilT, .inl rfl⟩ : Mv ts)))) := by
              obtain ⟨q, hq⟩ := hw.out
              refine ⟨q, ?_⟩
              have := putRow_setCells encM (Sort.ahead w q) g 0 (List.replicate (n - kk) (⟨nilT, .inl rfl⟩ : Mv ts)) dk kk (by rw [HS.out]; simp; omega)
              rw [Nat.zero_add, List.map_replicate, ← hq] at this
              exact this
            clear hHk hend hds
            go_wp2_with fail
            go_ret
            obtain ⟨q, hq⟩ := hfin.out
            have hI2 := hI.out
            rw [HE.out] at hI2
            refine ⟨kk, q, _, rfl, hq, ?_, by omega, ?_⟩
            · rw [lay_size, HS.out]
            · have hz : (List.replicate (n - kk) (⟨nilT, .inl rfl⟩ : Mv ts)).length = n - kk := by simp
              have h1 : (lay dk kk (List.replicate (n - kk) (⟨nilT, .inl rfl⟩ : Mv ts))).toList.take kk = dk.toList.take kk := by
                apply List.ext_getElem?
                intro i
                rw [List.getElem?_take, List.getElem?_take]
                split
                · rename_i hi
                  rw [Array.getElem?_toList, Array.getElem?_toList, lay_get? _ _ _ _ (by rw [hz, HS.out]; omega), if_neg (by omega)]
                · rfl
              rw [h1, hI2.low, List.take_of_length_le (by simp [HD.out])]
      · have HE := Lib.hid hdup
        have KE' : Hid (∀ q, Calls Try.prog 116 #[.slice A1 n1 l1, .slice A0 n0 l0] (wr.drewN q) fun e w' => e = .returned (.bool false) ∧ Qt (wr.drewN q) w') := fun q => by have := KE q; rwa [decide_eq_false hdup] at this
        clear KE hdup
        go_wp2_with fail
        go_quiet ((go_at_call 116; exact Calls.quiet_of (KE'.out _)))
        clear g0 g3 g6
        go_wp2_with fail
        refine ⟨⟨k + 1, by omega, by go_num, ?_, hqt.drewN _⟩, ?_⟩
        · show _ = _
          rw [dd_take keyM d (by rw [HD.out]; exact hlt), if_neg HE.out, hall.out, List.take_add_one (i := k + 1), Array.getElem?_toList, Array.getElem?_eq_getElem (by rw [HD.out]; exact hlt), getElem!_pos d (k + 1) (by rw [HD.out]; exact hlt)]
          rfl
        · simp [intOf]
          omega
    · obtain rfl : k + 1 = n := by omega
      have hf := hall.out
      rw [List.take_of_length_le (by simp [HD.out])] at hf
      have HF := Lib.hid hf
      clear hf hall
      go_wp2_with fail
      go_ret
      exact same.out _ hqt HF.out

theorem putRow_sort {α : Type} [Inhabited α] (enc : α → Value) (w : World) (g q : Nat) (d : Array α) : putRow enc (Sort.ahead w q) g 0 d = sortWorld enc w g 0 q d #[] := by
  unfold sortWorld
  rw [grow_empty]
set_option maxRecDepth 100000 in
theorem compactRows_own (A : Option Addr) (n c lo hi : Nat) (rs : List (List Int)) (w : World) (ho : OwnR w lo hi (.slice A n c) rs) (hs : rs.Pairwise (fun a b => ¬ cmpL b a < 0)) :
    Calls Try.prog 115 #[.slice A n c, .func (.func 116) #[] #[]] w fun e w' => ∃ (m : Nat) (rs' : List (List Int)), e = .returned (.slice A m c) ∧ OwnR w' lo hi (.slice A m c) rs' ∧ AscP rs' ∧ (∀ x, x ∈ rs' ↔ x ∈ rs) ∧ Chg lo hi w w' := by
  have hlen := ho.len_eq
  by_cases h0 : n = 0
  · subst h0
    obtain rfl := List.length_eq_zero_iff.1 hlen
    have HO := Lib.hid ho
    clear ho hs
    go_enter Try.func115, Try.ntmps115
    go_wp2_with fail
    go_ret
    exact ⟨0, [], rfl, HO.out, .nil, fun _ => Iff.rfl, ⟨rfl, rfl, rfl, Nat.le_refl _, fun _ _ _ => rfl⟩⟩
  obtain ⟨F, ⟨ts, rfl, hT⟩, hF⟩ := ho
  rw [List.length_map] at hlen
  have hrow := hT.row
  rw [flat_hd hT.len, hlen] at hrow
  obtain ⟨g, c', hv, _, hglt, _, _⟩ := ownsRow_cell hrow (i := 0) (by omega)
  injection hv with hA _ hcc
  subst hA hcc
  have hcap : n ≤ c ∧ c ≤ maxLen := by
    rcases hrow.2 with ⟨hv, _⟩ | ⟨g', cap, cur, hv, _, _, hnc, hcm, _⟩
    · cases hv
    · injection hv with _ _ h3
      subst h3
      exact ⟨hnc, hcm⟩
  have hsz : (arrM ts).size = n := by rw [arrM_size, hlen]
  have hg := hF g (hT.head g rfl).1
  refine (compact_any g n c (arrM ts) w hT hcap.1 (by have := hcap.2; unfold maxLen at this; omega) hsz (holds_row hrow hlen encM _ (arrM_enc ts))).mono ?_
  rintro e w' ⟨m, q, dk, rfl, rfl, hd1, hm, hlow⟩
  rw [putRow_sort]
  have hsub : ((dd keyM (arrM ts).toList).map (·.1)).Sublist ts := by have := (dd_sub keyM (arrM ts).toList).map (fun x : Mv ts => x.1); rwa [arrM_val] at this
  have hmain := ownT_put (q := q) hT hlen dk hd1 hm #[] (by rw [hlow]; exact fun t ht => hsub.subset ht) (by rw [hlow]; exact hT.apart.sublist hsub)
  rw [hlow] at hmain
  have hmm : ((dd keyM (arrM ts).toList).map (·.1)).map (·.a) = (dd keyM (arrM ts).toList).map keyM := by rw [List.map_map]; rfl
  have hall : ts.map (·.a) = (arrM ts).toList.map keyM := by
    have : (arrM ts).toList.map keyM = ((arrM ts).toList.map (·.1)).map (·.a) := by rw [List.map_map]; rfl
    rw [this, arrM_val]
  rw [hall] at hs ⊢
  refine ⟨m, (dd keyM (arrM ts).toList).map keyM, rfl, ⟨F, ⟨_, hmm.symm, hmain⟩, hF⟩, List.pairwise_map.2 (dd_asc keyM _ (List.pairwise_map.1 hs)), fun x => ⟨fun hx => ?_, fun hx => ?_⟩, sortWorld_chg _ _ _ _ _ _ _ _ hg.1 hg.2⟩
  · obtain ⟨y, hy, rfl⟩ := List.mem_map.1 hx
    exact List.mem_map.2 ⟨y, (dd_sub keyM _).subset hy, rfl⟩
  · obtain ⟨y, hy, rfl⟩ := List.mem_map.1 hx
    obtain ⟨z, hz, he⟩ := dd_mem keyM _ y hy
    exact List.mem_map.2 ⟨z, hz, he⟩
end Go.Proofs.Ytimlecfneibjlaa
