/- Perm, Ord, in one text (a claim has at most 60 files). -/
import Derived.Test.YtimlecfneibjlaaApp
import Derived.Test.YtimlecfneibjlaaCmp
import Derived.Test.YtimlecfneibjlaaShelf
import Derived.Test.YtimlecfneibjlaaIsTab
namespace Go.Proofs.Ytimlecfneibjlaa
open Go.RowKit Go.Deep Go.Sort Go.Lib

theorem putRow_block {α : Type} [Inhabited α] (enc : α → Value) {w : World} {g q : Nat} {cur : Array Value} {e : TypeId} (d : Array α) (h : w.heap[g]? = some (.cells cur e (0, 0))) :
    (putRow enc (Sort.ahead w q) g 0 d).heap[g]? = some (.cells (putCells enc 0 d cur) e (0, 0)) := by
  show (w.heap.modify g (onCells (putCells enc 0 d)))[g]? = _
  rw [Array.getElem?_modify, if_pos rfl, h]
  rfl
theorem putRow_other {α : Type} [Inhabited α] (enc : α → Value) (w : World) {g q k : Nat} (d : Array α) (h : k ≠ g) : (putRow enc (Sort.ahead w q) g 0 d).heap[k]? = w.heap[k]? := by
  show (w.heap.modify g (onCells (putCells enc 0 d)))[k]? = _
  rw [Array.getElem?_modify, if_neg (fun e => h e.symm)]
theorem putCells_take {α : Type} [Inhabited α] (enc : α → Value) (d : Array α) (cur : Array Value) {m : Nat} (hm : m ≤ d.size) (hd : d.size ≤ cur.size) : (putCells enc 0 d cur).toList.take m = (d.toList.map enc).take m := by
  apply List.ext_getElem?
  intro i
  rw [List.getElem?_take, List.getElem?_take]
  split
  · rename_i hi
    have h1 : i < cur.size := by omega
    have h2 : i < d.size := by omega
    simp [putCells, h1, h2]
  · rfl
theorem ownsRow_put {α : Type} [Inhabited α] (enc : α → Value) {w : World} {base g n c q m : Nat} {e : TypeId} {xs : List Value} (h : w.ownsRow base e 1 (.slice (some ⟨g, 0, none⟩) n c) n xs) (d : Array α) (hd : d.size = n) (hm : m ≤ n) :
    (putRow enc (Sort.ahead w q) g 0 d).ownsRow base e 1 (.slice (some ⟨g, 0, none⟩) m c) m ((d.toList.map enc).take m) := by
  rcases h.2 with ⟨hv, _⟩ | ⟨g', cap, cur, hv, hlo, hg, hnc, hcm, hsz, _⟩
  · cases hv
  · injection hv with h1 _ h3
    injection h1 with h1
    injection h1 with h1
    subst h1 h3
    refine ⟨by simp; omega, .inr ⟨g, c, putCells enc 0 d cur, rfl, hlo, putRow_block enc d hg, by omega, hcm, by simp [putCells, hsz], ?_⟩⟩
    rw [Nat.mul_one]
    exact putCells_take enc d cur (by omega) (by omega)

/-- A header. -/
def hd (t : Item (List Int)) : Value := t.cs.headD (.slice none 0 0)
def oc (v : Value) : { v : Value // v.oneCell' = true } := if h : v.oneCell' = true then ⟨v, h⟩ else ⟨.slice none 0 0, rfl⟩
theorem oc_val {v : Value} (h : v.oneCell' = true) : (oc v).1 = v := by rw [oc, dif_pos h]
instance : Inhabited { v : Value // v.oneCell' = true } := ⟨⟨.slice none 0 0, rfl⟩⟩
theorem flat_hd : ∀ {ts : List (Item (List Int))}, (∀ t ∈ ts, t.cs.length = 1) → ts.flatMap (·.cs) = ts.map hd
  | [], _ => rfl
  | t :: ts, h => by
    have h1 := h t (by simp)
    rw [List.flatMap_cons, List.map_cons, flat_hd fun s hs => h s (by simp [hs])]
    obtain ⟨cs, F, a⟩ := t
    match cs, h1 with
    | [v], _ => rfl
theorem eRow_hd {w : World} {F : Nat → Prop} {t : Item (List Int)} (h : ERow w F t.cs t.a) : ∃ A c, hd t = .slice A t.a.length c ∧ t.cs = [.slice A t.a.length c] := by
  obtain ⟨A, c, _, _, h1, _, _⟩ := h.iv
  exact ⟨A, c, by rw [hd, h1]; rfl, h1⟩

theorem OwnT.reorder {α : Type} {e : TypeId} {size : Nat} {E : World → (Nat → Prop) → List Value → α → Prop} {w w' : World} {F : Nat → Prop} {v v' : Value} {ts ts' : List (Item α)} (ok : OwnOk E) (h : OwnT e size E w F v ts) (hsub : ∀ t ∈ ts', t ∈ ts)
    (hp : ts'.Pairwise fun s t => ∀ k, s.F k → ¬ t.F k) (hrow : w'.ownsRow 0 e size v' ts'.length (ts'.flatMap (·.cs))) (hv : ∀ g, v'.ownBlock = some g → v.ownBlock = some g) (hs : w.heap.size ≤ w'.heap.size)
    (hk : ∀ k, k < w.heap.size → v.ownBlock ≠ some k → w'.heap[k]? = w.heap[k]?) : OwnT e size E w' F v' ts' :=
  ⟨hrow, fun t ht => h.len t (hsub t ht), fun t ht => ok.keep (h.elem t (hsub t ht)) fun k hf => hk k (ok.bound (h.elem t (hsub t ht)) k hf) fun hvk => (h.head k hvk).2 t (hsub t ht) hf, hp,
    fun g hg => ⟨(h.head g (hv g hg)).1, fun t ht => (h.head g (hv g hg)).2 t (hsub t ht)⟩, fun t ht => h.inF t (hsub t ht), fun k hf => Nat.lt_of_lt_of_le (h.bound k hf) hs⟩

theorem holds_row {w : World} {base g n c : Nat} {e : TypeId} {ts : List (Item (List Int))} (h : w.ownsRow base e 1 (.slice (some ⟨g, 0, none⟩) n c) n (ts.map hd)) (hn : ts.length = n) {α : Type} [Inhabited α] (enc : α → Value) (d : Array α) (hd' : d.toList.map enc = ts.map hd) : Holds enc w g 0 d := by
  intro j hj
  have hjn : j < n * 1 := by
    have := congrArg List.length hd'
    simp at this
    omega
  obtain ⟨g', c', hv, _, _, hc, hf⟩ := ownsRow_cell h hjn
  injection hv with h1 _ _
  injection h1 with h1
  injection h1 with h1
  subst h1
  rw [Nat.zero_add]
  refine ⟨hc.trans ?_, hf⟩
  rw [← hd', List.getElem?_map, Array.getElem?_toList, Array.getElem?_eq_getElem hj, Option.map_some, getElem!_pos d j hj]

set_option maxRecDepth 100000 in
theorem deleteRow_own (A : Option Addr) (n c lo hi k : Nat) (rs : List (List Int)) (w : World) (ho : OwnR w lo hi (.slice A n c) rs) (hk : k < n) :
    Calls Try.prog 110 #[.slice A n c, .int .i64 k, .int .i64 ((k : Int) + 1)] w fun e w' => e = .returned (.slice A (n - 1) c) ∧ OwnR w' lo hi (.slice A (n - 1) c) (rs.eraseIdx k) ∧ Chg lo hi w w' := by
  have hlen := ho.len_eq
  obtain ⟨F, ⟨ts, rfl, hT⟩, hF⟩ := ho
  rw [List.length_map] at hlen
  have hrow := hT.row
  rw [flat_hd hT.len, hlen] at hrow
  have hone : ∀ t ∈ ts, (hd t).oneCell' = true := fun t ht => by
    obtain ⟨A', c', h, _⟩ := eRow_hd (hT.elem t ht)
    rw [h]
    rfl
  obtain ⟨g, c', hv, _, hglt, _, _⟩ := ownsRow_cell hrow (i := 0) (by omega)
  injection hv with hA _ hcc
  subst hA hcc
  have hcap : n ≤ c ∧ c ≤ maxLen := by
    rcases hrow.2 with ⟨hv, _⟩ | ⟨g', cap, cur, hv, _, _, hnc, hcm, _⟩
    · cases hv
    · injection hv with _ _ h3
      subst h3
      exact ⟨hnc, hcm⟩
  have hdm : ((ts.map fun t => oc (hd t)).toArray.toList.map Subtype.val) = ts.map hd := by
    rw [List.map_map]
    exact List.map_congr_left fun t ht => oc_val (hone t ht)
  have hsz : (ts.map fun t => oc (hd t)).toArray.size = n := by simp [hlen]
  obtain ⟨i0, hi0, hz0, hz1, _⟩ := info_parts info_row
  have hcon := Try.slices_Delete (α := { v : Value // v.oneCell' = true }) Subtype.val (fun x => x.2) ⟨.slice none 0 0, rfl⟩ (fun w => by kernel_rfl) i0 hi0 hz1 g 0 c k (k + 1) (ts.map fun t => oc (hd t)).toArray w (holds_row hrow hlen Subtype.val _ hdm) (by rw [hsz]; exact hcap.1) (by have := hcap.2; unfold maxLen at this; omega) (by omega) (by rw [hsz]; omega)
  rw [hsz, show (((k + 1 : Nat)) : Int) = (k : Int) + 1 from by omega] at hcon
  refine hcon.mono ?_
  rintro e w' ⟨rfl, q, rfl⟩
  have hg : F g := (hT.head g rfl).1
  generalize hdd : ((ts.map fun t => oc (hd t)).toArray.toList.take k ++ (ts.map fun t => oc (hd t)).toArray.toList.drop (k + 1) ++ List.replicate (k + 1 - k) (⟨.slice none 0 0, rfl⟩ : { v : Value // v.oneCell' = true })).toArray = d'
  have hd1 : d'.size = n := by rw [← hdd]; simp [hlen]; omega
  have hval : (d'.toList.map Subtype.val).take (n - 1) = (ts.eraseIdx k).map hd := by
    rw [← hdd, List.eraseIdx_eq_take_drop_succ]
    simp only [List.map_append, List.map_take, List.map_drop] at hdm ⊢
    rw [hdm, List.take_left' (by simp [hlen]; omega)]
  have hchg : Chg lo hi w (putRow Subtype.val (Sort.ahead w q) g 0 d') :=
    ⟨rfl, rfl, rfl, by simp [putRow, mapBlock], fun j _ hne => putRow_other _ w _ (by have := hF g hg; omega)⟩
  have hel : (ts.eraseIdx k).length = n - 1 := by rw [List.length_eraseIdx, if_pos (by omega), hlen]
  refine ⟨by rw [Nat.add_sub_cancel_left], ⟨F, ⟨ts.eraseIdx k, by rw [List.eraseIdx_eq_take_drop_succ, List.eraseIdx_eq_take_drop_succ, List.map_append, List.map_take, List.map_drop], OwnT.reorder eRow_ok hT (fun t ht => (List.eraseIdx_sublist ts k).subset ht) (hT.apart.sublist (List.eraseIdx_sublist ts k)) ?_ (fun g' hg' => hg') (by simp [putRow, mapBlock]) (fun j _ hne => putRow_other _ w _ (fun e => hne (by rw [e]; rfl)))⟩, hF⟩, hchg⟩
  rw [flat_hd fun t ht => hT.len t ((List.eraseIdx_sublist ts k).subset ht), hel, ← hval]
  exact ownsRow_base (ownsRow_put Subtype.val hrow d' hd1 (by omega)) fun _ _ => Nat.zero_le _
end Go.Proofs.Ytimlecfneibjlaa
namespace Go.Proofs.Ytimlecfneibjlaa

theorem cmpL_swap : ∀ a b : List Int, cmpL b a = -cmpL a b
  | [], [] => rfl
  | [], _ :: _ => rfl
  | _ :: _, [] => rfl
  | x :: a, y :: b => by
    rw [cmpL, cmpL]
    by_cases h1 : x < y
    · rw [if_pos h1, if_neg (by omega), if_pos h1]
      rfl
    · rw [if_neg h1]
      by_cases h2 : y < x
      · rw [if_pos h2, if_neg h1, if_pos h2]
      · rw [if_neg h2, if_neg h2, if_neg h1]
        exact cmpL_swap a b
theorem cmpL_trans : ∀ {a b c : List Int}, cmpL a b < 0 → cmpL b c < 0 → cmpL a c < 0
  | _, [], [], _, h => by simp [cmpL] at h
  | [], [], _ :: _, h, _ => by simp [cmpL] at h
  | _ :: _, [], _, h, _ => by simp [cmpL] at h
  | _, _ :: _, [], _, h => by simp [cmpL] at h
  | [], _ :: _, _ :: _, _, _ => by simp [cmpL]
  | x :: a, y :: b, z :: c, h, k => by
    rw [cmpL] at h k ⊢
    by_cases h1 : x < y
    · by_cases k1 : y < z
      · rw [if_pos (by omega)]; omega
      · rw [if_neg k1] at k
        by_cases k2 : z < y
        · rw [if_pos k2] at k; omega
        · rw [if_pos (by omega)]; omega
    · rw [if_neg h1] at h
      by_cases h2 : y < x
      · rw [if_pos h2] at h; omega
      · rw [if_neg h2] at h
        have hxy : x = y := by omega
        subst hxy
        by_cases k1 : x < z
        · rw [if_pos k1]; omega
        · rw [if_neg k1] at k ⊢
          by_cases k2 : z < x
          · rw [if_pos k2] at k; omega
          · rw [if_neg k2] at k ⊢
            exact cmpL_trans h k
/-- Strictly ascending. -/
abbrev AscP (rs : List (List Int)) : Prop := rs.Pairwise fun a b => cmpL a b < 0
theorem ascP_of : ∀ {rs : List (List Int)}, ascB rs = true → AscP rs
  | [], _ => .nil
  | [a], _ => by simp
  | a :: b :: l, h => by
    rw [ascB, Bool.and_eq_true, decide_eq_true_eq] at h
    have ih := ascP_of h.2
    refine List.pairwise_cons.2 ⟨fun y hy => ?_, ih⟩
    rcases List.mem_cons.1 hy with rfl | hy
    · exact h.1
    · exact cmpL_trans h.1 ((List.pairwise_cons.1 ih).1 y hy)
theorem ascB_of : ∀ {rs : List (List Int)}, AscP rs → ascB rs = true
  | [], _ => rfl
  | [a], _ => rfl
  | a :: b :: l, h => by
    have h' := List.pairwise_cons.1 h
    rw [ascB, Bool.and_eq_true, decide_eq_true_eq]
    exact ⟨h'.1 b (by simp), ascB_of h'.2⟩
theorem ascP_nodup {rs : List (List Int)} (h : AscP rs) : rs.Nodup := h.imp fun {a b} hab e => by
  subst e
  rw [cmpL_self] at hab
  omega
/-- Two ascending lists of the same rows are one. -/
theorem ascP_unique : ∀ {a b : List (List Int)}, AscP a → AscP b → (∀ x, x ∈ a ↔ x ∈ b) → a = b
  | [], [], _, _, _ => rfl
  | [], y :: b, _, _, h => by have := (h y).2 (by simp); cases this
  | x :: a, [], _, _, h => by have := (h x).1 (by simp); cases this
  | x :: a, y :: b, ha, hb, h => by
    have ha' := List.pairwise_cons.1 ha
    have hb' := List.pairwise_cons.1 hb
    have hxy : x = y := by
      rcases List.mem_cons.1 ((h x).1 (by simp)) with e | hx
      · exact e
      · rcases List.mem_cons.1 ((h y).2 (by simp)) with e | hy
        · exact e.symm
        · have h1 := hb'.1 x hx
          have h2 := ha'.1 y hy
          rw [cmpL_swap] at h1
          omega
    subst hxy
    congr 1
    refine ascP_unique ha'.2 hb'.2 fun z => ⟨fun hz => ?_, fun hz => ?_⟩
    · rcases List.mem_cons.1 ((h z).1 (List.mem_cons_of_mem _ hz)) with e | h1
      · subst e
        have := ha'.1 z hz
        rw [cmpL_self] at this
        omega
      · exact h1
    · rcases List.mem_cons.1 ((h z).2 (List.mem_cons_of_mem _ hz)) with e | h1
      · subst e
        have := hb'.1 z hz
        rw [cmpL_self] at this
        omega
      · exact h1
theorem eraseIdx_filter {rs : List (List Int)} {r : List Int} {k : Nat} (h : AscP rs) (hk : rs[k]? = some r) : rs.eraseIdx k = rs.filter fun x => decide (¬ x = r) := by
  have hnd := ascP_nodup h
  refine ascP_unique (h.sublist (List.eraseIdx_sublist rs k)) (h.sublist List.filter_sublist) fun x => ?_
  obtain ⟨hlt, hx⟩ := List.getElem?_eq_some_iff.1 hk
  rw [List.mem_eraseIdx_iff_getElem?, List.mem_filter, decide_eq_true_eq]
  constructor
  · rintro ⟨i, hne, hi⟩
    refine ⟨List.mem_of_getElem? hi, fun e => hne ?_⟩
    obtain ⟨hil, hix⟩ := List.getElem?_eq_some_iff.1 hi
    rcases Nat.lt_trichotomy i k with hlt' | heq | hgt
    · exact absurd (by rw [hix, hx, e]) (List.pairwise_iff_getElem.1 hnd i k hil hlt hlt')
    · exact heq
    · exact absurd (by rw [hix, hx, e]) (List.pairwise_iff_getElem.1 hnd k i hlt hil hgt)
  · rintro ⟨hm, hne⟩
    obtain ⟨i, hi⟩ := List.mem_iff_getElem?.1 hm
    exact ⟨i, fun e => hne (by subst e; rw [hk] at hi; injection hi with hi; exact hi.symm), hi⟩
theorem validT_asc {nm : ByteArray} {ar : Int} {rs : List (List Int)} (h : validT nm ar rs = true) : AscP rs := by
  unfold validT at h
  simp only [Bool.and_eq_true] at h
  exact ascP_of h.2.2.2.2
end Go.Proofs.Ytimlecfneibjlaa
