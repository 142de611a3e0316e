/- Owned rows, sorted: slices.SortFunc with CompareRows. No condition but the size. And the plain law of a run's first. -/
import Derived.Test.YtimlecfneibjlaaPerm
namespace Go.Proofs.Ytimlecfneibjlaa
open Go.RowKit Go.Deep Go.Sort Go.Lib

/-- The first of each run of one key. -/
def ddA {β : Type} (key : β → List Int) : β → List β → List β
  | _, [] => []
  | p, x :: l => if key x = key p then ddA key x l else x :: ddA key x l
def dd {β : Type} (key : β → List Int) : List β → List β
  | [] => []
  | x :: l => x :: ddA key x l
section
variable {β : Type} (key : β → List Int)
theorem ddA_snoc (x y : β) : ∀ (l : List β) (p : β), ddA key p (l ++ [x, y]) = ddA key p (l ++ [x]) ++ if key y = key x then [] else [y]
  | [], p => by
    simp only [List.nil_append, ddA]
    by_cases h : key x = key p
    · rw [if_pos h, if_pos h]
      simp
    · rw [if_neg h, if_neg h]
      simp
  | z :: l, p => by
    rw [List.cons_append, List.cons_append, ddA, ddA, ddA_snoc x y l z]
    by_cases h : key z = key p
    · rw [if_pos h, if_pos h]
    · rw [if_neg h, if_neg h, List.cons_append]
theorem dd_snoc (x y : β) : ∀ (l : List β), dd key (l ++ [x, y]) = dd key (l ++ [x]) ++ if key y = key x then [] else [y]
  | [] => by simp [dd, ddA]
  | z :: l => by rw [List.cons_append, List.cons_append, dd, dd, ddA_snoc, List.cons_append]
theorem ddA_sub : ∀ (l : List β) (p : β), (ddA key p l).Sublist l
  | [], _ => .slnil
  | x :: l, p => by
    rw [ddA]
    by_cases h : key x = key p
    · rw [if_pos h]
      exact (ddA_sub l x).cons x
    · rw [if_neg h]
      exact (ddA_sub l x).cons_cons x
theorem dd_sub : ∀ (l : List β), (dd key l).Sublist l
  | [] => .slnil
  | x :: l => (ddA_sub key l x).cons_cons x
theorem ddA_asc : ∀ (l : List β) (p : β), (p :: l).Pairwise (fun a b => ¬ cmpL (key b) (key a) < 0) → (∀ y ∈ ddA key p l, cmpL (key p) (key y) < 0) ∧ (ddA key p l).Pairwise (fun a b => cmpL (key a) (key b) < 0)
  | [], _, _ => ⟨by simp [ddA], .nil⟩
  | x :: l, p, h => by
    obtain ⟨h1, h2⟩ := List.pairwise_cons.1 h
    obtain ⟨i1, i2⟩ := ddA_asc l x h2
    rw [ddA]
    by_cases e : key x = key p
    · rw [if_pos e, ← e]
      exact ⟨i1, i2⟩
    · rw [if_neg e]
      have hlt : cmpL (key p) (key x) < 0 := by
        have := h1 x (by simp)
        rw [cmpL_swap] at this
        rcases Int.lt_or_eq_of_le (show cmpL (key p) (key x) ≤ 0 by omega) with h | h
        · exact h
        · exact absurd (cmpL_eq h).symm e
      refine ⟨fun y hy => ?_, List.pairwise_cons.2 ⟨i1, i2⟩⟩
      rcases List.mem_cons.1 hy with rfl | hy
      · exact hlt
      · exact cmpL_trans hlt (i1 y hy)
theorem dd_asc : ∀ (l : List β), l.Pairwise (fun a b => ¬ cmpL (key b) (key a) < 0) → (dd key l).Pairwise (fun a b => cmpL (key a) (key b) < 0)
  | [], _ => .nil
  | x :: l, h => by
    obtain ⟨i1, i2⟩ := ddA_asc key l x h
    exact List.pairwise_cons.2 ⟨i1, i2⟩
theorem ddA_mem : ∀ (l : List β) (p x : β), x ∈ l → key x = key p ∨ ∃ y ∈ ddA key p l, key y = key x
  | z :: l, p, x, h => by
    rw [ddA]
    rcases List.mem_cons.1 h with rfl | h
    · by_cases e : key x = key p
      · exact .inl e
      · rw [if_neg e]
        exact .inr ⟨x, by simp, rfl⟩
    · by_cases e : key z = key p
      · rw [if_pos e, ← e]
        exact ddA_mem l z x h
      · rw [if_neg e]
        rcases ddA_mem l z x h with h1 | ⟨y, hy, h1⟩
        · exact .inr ⟨z, by simp, h1.symm⟩
        · exact .inr ⟨y, by simp [hy], h1⟩
theorem dd_mem : ∀ (l : List β) (x : β), x ∈ l → ∃ y ∈ dd key l, key y = key x
  | z :: l, x, h => by
    rcases List.mem_cons.1 h with rfl | h
    · exact ⟨x, by simp [dd], rfl⟩
    · rcases ddA_mem key l z x h with h1 | ⟨y, hy, h1⟩
      · exact ⟨z, by simp [dd], h1.symm⟩
      · exact ⟨y, by simp [dd, hy], h1⟩
theorem dd_take [Inhabited β] (d : Array β) {i : Nat} (h2 : i + 1 < d.size) : dd key (d.toList.take (i + 1 + 1)) = dd key (d.toList.take (i + 1)) ++ if key d[i + 1]! = key d[i]! then [] else [d[i + 1]!] := by
  have e1 : d.toList.take (i + 1) = d.toList.take i ++ [d[i]!] := by
    rw [List.take_add_one, Array.getElem?_toList, Array.getElem?_eq_getElem (by omega), getElem!_pos d i (by omega)]
    rfl
  have e2 : d.toList.take (i + 1 + 1) = d.toList.take i ++ [d[i]!, d[i + 1]!] := by
    rw [List.take_add_one, e1, Array.getElem?_toList, Array.getElem?_eq_getElem h2, getElem!_pos d (i + 1) h2, List.append_assoc]
    rfl
  rw [e1, e2, dd_snoc]
end

/-- What a sort moves: the items ts (and the nil row, which clear lays). -/
def nilT : Item (List Int) := ⟨[.slice none 0 0], fun _ => False, []⟩
abbrev Mv (ts : List (Item (List Int))) := { t : Item (List Int) // t = nilT ∨ t ∈ ts }
instance (ts : List (Item (List Int))) : Inhabited (Mv ts) := ⟨⟨nilT, .inl rfl⟩⟩
def encM {ts : List (Item (List Int))} (x : Mv ts) : Value := hd x.1
def keyM {ts : List (Item (List Int))} (x : Mv ts) : List Int := x.1.a
def cfM {ts : List (Item (List Int))} (x y : Mv ts) : Int := cmpL (keyM x) (keyM y)
def arrM (ts : List (Item (List Int))) : Array (Mv ts) := (ts.attach.map fun t => (⟨t.1, .inr t.2⟩ : Mv ts)).toArray
theorem arrM_size (ts : List (Item (List Int))) : (arrM ts).size = ts.length := by simp [arrM]
theorem arrM_val (ts : List (Item (List Int))) : (arrM ts).toList.map (·.1) = ts := by simp [arrM, List.map_map, Function.comp_def]
theorem arrM_enc (ts : List (Item (List Int))) : (arrM ts).toList.map encM = ts.map hd := by
  have : (arrM ts).toList.map encM = ((arrM ts).toList.map (·.1)).map hd := by rw [List.map_map]; rfl
  rw [this, arrM_val]
section
variable {w W : World} {F : Nat → Prop} {v : Value} {ts : List (Item (List Int))} {g : Nat}
theorem mv_one (hT : OwnT 59 1 ERow w F v ts) : ∀ x : Mv ts, (encM x).oneCell' = true := fun x => by
  obtain ⟨t, rfl | ht⟩ := x
  · rfl
  · obtain ⟨A, c, h, _⟩ := eRow_hd (hT.elem t ht)
    rw [encM, h]
    rfl
theorem mv_rd (hT : OwnT 59 1 ERow w F v ts) (hv : v.ownBlock = some g) (hs : w.heap.size ≤ W.heap.size) (hk : ∀ k, k < w.heap.size → k ≠ g → W.heap[k]? = w.heap[k]?) (x : Mv ts) :
    ∃ A c, encM x = .slice A (keyM x).length c ∧ RdI W W.heap.size A (keyM x).length (keyM x) ∧ (keyM x).length ≤ 9223372036854775807 := by
  obtain ⟨t, rfl | ht⟩ := x
  · exact ⟨none, 0, rfl, (OwnI.nil W 0 W.heap.size).rd rfl, by simp [keyM, nilT]⟩
  · have hb := eRow_ok.bound (hT.elem t ht)
    obtain ⟨A, c, h1, h2, h3⟩ := rRow_of (B := W.heap.size) (eRow_ok.keep (w' := W) (hT.elem t ht) fun k hf => hk k (hb k hf) fun e => (hT.head g hv).2 t ht (e ▸ hf)) fun k hf => Nat.lt_of_lt_of_le (hb k hf) hs
    unfold maxLen at h3
    exact ⟨A, c, by rw [encM, hd, h1]; rfl, h2, h3⟩
end
theorem cfM_swo (ts : List (Item (List Int))) : SWO (ltOf (cfM (ts := ts))) where
  irrefl x := by simp [ltOf, cfM, cmpL_self]
  trans x y z h1 h2 := by
    unfold ltOf cfM at *
    exact decide_eq_true (cmpL_trans (of_decide_eq_true h1) (of_decide_eq_true h2))
  ntrans x y z h1 h2 := by
    unfold ltOf cfM at *
    replace h1 := of_decide_eq_false h1
    replace h2 := of_decide_eq_false h2
    refine decide_eq_false fun h => ?_
    have h3 : cmpL (keyM y) (keyM x) ≤ 0 := by rw [cmpL_swap]; omega
    rcases Int.lt_or_eq_of_le h3 with h4 | h4
    · exact h2 (cmpL_trans h4 h)
    · exact h2 (by rw [cmpL_eq h4]; exact h)
theorem sortWorld_other {α : Type} [Inhabited α] (enc : α → Value) (w : World) (g m : Nat) (d : Array α) (os : Array Obj) {k : Nat} (h1 : k < w.heap.size) (h2 : k ≠ g) : (sortWorld enc w g 0 m d os).heap[k]? = w.heap[k]? := by
  unfold sortWorld
  rw [heap_grow_old _ _ (by simp [putRow, mapBlock]; omega)]
  exact putRow_other enc w d h2
theorem sortWorld_size {α : Type} [Inhabited α] (enc : α → Value) (w : World) (g m : Nat) (d : Array α) (os : Array Obj) : w.heap.size ≤ (sortWorld enc w g 0 m d os).heap.size := by
  unfold sortWorld
  simp [putRow, mapBlock, grow]
theorem sortWorld_chg {α : Type} [Inhabited α] (enc : α → Value) (w : World) (g m lo hi : Nat) (d : Array α) (os : Array Obj) (h1 : lo ≤ g) (h2 : g < hi) : Chg lo hi w (sortWorld enc w g 0 m d os) :=
  ⟨rfl, rfl, rfl, sortWorld_size enc w g m d os, fun k hk hn => sortWorld_other enc w g m d os hk (by omega)⟩
/-- Items moved about by putRow and new blocks. -/
theorem ownT_put {w : World} {F : Nat → Prop} {g n c q m : Nat} {ts : List (Item (List Int))} (hT : OwnT 59 1 ERow w F (.slice (some ⟨g, 0, none⟩) n c) ts) (hn : ts.length = n) (d : Array (Mv ts)) (hd1 : d.size = n) (hm : m ≤ n) (os : Array Obj)
    (hsub : ∀ t ∈ (d.toList.take m).map (·.1), t ∈ ts) (hp : ((d.toList.take m).map (·.1)).Pairwise fun s t => ∀ k, s.F k → ¬ t.F k) :
    OwnT 59 1 ERow (sortWorld encM w g 0 q d os) F (.slice (some ⟨g, 0, none⟩) m c) ((d.toList.take m).map (·.1)) := by
  have hrow := hT.row
  rw [flat_hd hT.len, hn] at hrow
  have hgl := (hrow.lt g rfl).2
  refine OwnT.reorder eRow_ok hT hsub hp ?_ (fun g' hg' => hg') (sortWorld_size _ _ _ _ _ _) (fun k hk hne => sortWorld_other _ _ _ _ _ _ hk fun e => hne (by rw [e]; rfl))
  have hl : ((d.toList.take m).map (·.1)).length = m := by simp; omega
  rw [hl, flat_hd fun t ht => hT.len t (hsub t ht), List.map_map]
  have h1 := ownsRow_put encM (q := q) hrow d hd1 hm
  have h2 : (d.toList.map encM).take m = (d.toList.take m).map (hd ∘ fun x => x.1) := by rw [← List.map_take]; rfl
  rw [h2] at h1
  refine ownsRow_keep (ownsRow_base h1 fun _ _ => Nat.zero_le _) fun g' hg' => ?_
  unfold sortWorld
  rw [heap_grow_old _ _ ?_]
  simp [Value.ownBlock] at hg'
  subst hg'
  simp [putRow, mapBlock]
  exact hgl

set_option maxRecDepth 100000 in
theorem sortRows_own (A : Option Addr) (n c lo hi : Nat) (rs : List (List Int)) (w : World) (ho : OwnR w lo hi (.slice A n c) rs) (hn62 : n < 4611686018427387904) :
    Calls Try.prog 114 #[.slice A n c, .func (.func 111) #[] #[]] w fun e w' => e = .returned (.tuple #[]) ∧ ∃ rs', OwnR w' lo hi (.slice A n c) rs' ∧ rs'.Perm rs ∧ rs'.Pairwise (fun a b => ¬ cmpL b a < 0) ∧ Chg lo hi w w' := by
  have hlen := ho.len_eq
  by_cases h0 : n = 0
  · subst h0
    obtain rfl := List.length_eq_zero_iff.1 hlen
    refine (Try.slices_SortFunc_none (α := Nat) A c (.func (.func 111) #[] #[]) w).mono ?_
    rintro e w' ⟨rfl, rfl⟩
    exact ⟨rfl, [], ho, .refl _, .nil, ⟨rfl, rfl, rfl, Nat.le_refl _, fun _ _ _ => rfl⟩⟩
  obtain ⟨F, ⟨ts, rfl, hT⟩, hF⟩ := ho
  rw [List.length_map] at hlen
  have hrow := hT.row
  rw [flat_hd hT.len, hlen] at hrow
  obtain ⟨g, c', hv, _, hglt, _, _⟩ := ownsRow_cell hrow (i := 0) (by omega)
  injection hv with hA _ hcc
  subst hA hcc
  have hcap : n ≤ c ∧ c ≤ maxLen := by
    rcases hrow.2 with ⟨hv, _⟩ | ⟨g', cap, cur, hv, _, _, hnc, hcm, _⟩
    · cases hv
    · injection hv with _ _ h3
      subst h3
      exact ⟨hnc, hcm⟩
  have hsz : (arrM ts).size = n := by rw [arrM_size, hlen]
  have hg := hF g (hT.head g rfl).1
  have eg : ∀ args w, (callFunc 111 args).run Try.prog w = .ok (.enter 111 args) w := enters_of Try.func111 (by kernel_rfl) rfl
  have hcmp : CmpReads Try.prog 111 #[] (encM (ts := ts)) cfM g 0 (arrM ts).size w := fun m os dk hs x y => by
    obtain ⟨A1, c1, e1, r1, m1⟩ := mv_rd (W := sortWorld encM w g 0 m dk os) hT rfl (sortWorld_size _ _ _ _ _ _) (fun k hk hne => sortWorld_other _ _ _ _ _ _ hk hne) x
    obtain ⟨A2, c2, e2, r2, m2⟩ := mv_rd (W := sortWorld encM w g 0 m dk os) hT rfl (sortWorld_size _ _ _ _ _ _) (fun k hk hne => sortWorld_other _ _ _ _ _ _ hk hne) y
    rw [Array.append_empty, e1, e2]
    exact (impl_CompareRows_any A1 A2 _ c1 _ c2 _ _ _ r1 r2 m1 m2).mono fun _ _ ⟨he, hw⟩ => ⟨he, 0, hw.symm⟩
  have hcon := Try.slices_SortFunc (encM (ts := ts)) (mv_one hT) cfM (cfM_swo ts) 111 #[] g 0 c (arrM ts) w eg hcmp.lays (holds_row hrow hlen encM _ (arrM_enc ts)) hglt (by rw [hsz]; exact hn62)
  rw [hsz] at hcon
  refine hcon.mono ?_
  rintro e w' ⟨rfl, d', q, os, hp, hso, rfl⟩
  have hd1 : d'.size = n := by rw [hp.1, hsz]
  have hperm : d'.toList.Perm (arrM ts).toList := by
    have := hp.2.2
    rwa [show (arrM ts).extract 0 n = arrM ts by rw [← hsz]; simp, show d'.extract 0 n = d' by rw [← hd1]; simp] at this
  have hpt : (d'.toList.map (·.1)).Perm ts := by have := hperm.map (fun x : Mv ts => x.1); rwa [arrM_val] at this
  have htk : d'.toList.take n = d'.toList := List.take_of_length_le (by simp [hd1])
  have hmain := ownT_put (q := q) (m := n) hT hlen d' hd1 (Nat.le_refl _) os (by rw [htk]; exact fun t ht => hpt.mem_iff.1 ht) (by rw [htk]; exact (List.Perm.pairwise_iff (fun {x y} h k hy hx => h k hx hy) hpt).2 hT.apart)
  rw [htk] at hmain
  refine ⟨rfl, (d'.toList.map (·.1)).map (·.a), ⟨F, ⟨_, rfl, hmain⟩, hF⟩, hpt.map _, ?_, sortWorld_chg _ _ _ _ _ _ _ _ hg.1 hg.2⟩
  rw [List.pairwise_iff_getElem]
  intro i j hi hj hij
  simp at hi hj
  have := hso i j (Nat.zero_le _) hij (by omega)
  unfold ltOf cfM at this
  replace this := of_decide_eq_false this
  rw [getElem!_pos d' j hj, getElem!_pos d' i hi] at this
  simpa [keyM] using this
end Go.Proofs.Ytimlecfneibjlaa
