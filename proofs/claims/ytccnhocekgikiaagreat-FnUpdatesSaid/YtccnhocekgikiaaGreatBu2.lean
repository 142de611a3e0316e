/- Perm, Cont, ContS, Del, Srt, Cpt, Put, DelS, NewP, Ins, CopyD, SetI, in one text, as far as the seat's program has the functions (printed by tools/fit2.py). -/
import Derived.Test.YtccnhocekgikiaaGreatBu1
import Derived.Test.YtccnhocekgikiaaGreatShelf
import Derived.Deep.DeepCutAuto
namespace Go.Proofs.YtccnhocekgikiaaGreat
section
open Go.RowKit Go.Deep Go.Sort Go.Lib

theorem putRow_block {α : Type} [Inhabited α] (enc : α → Value) {w : World} {g q : Nat} {cur : Array Value} {e : TypeId} (d : Array α) (h : w.heap[g]? = some (.cells cur e (0, 0))) :
    (putRow enc (Sort.ahead w q) g 0 d).heap[g]? = some (.cells (putCells enc 0 d cur) e (0, 0)) := by
  show (w.heap.modify g (onCells (putCells enc 0 d)))[g]? = _
  rw [Array.getElem?_modify, if_pos rfl, h]
  rfl

theorem putRow_other {α : Type} [Inhabited α] (enc : α → Value) (w : World) {g q k : Nat} (d : Array α) (h : k ≠ g) : (putRow enc (Sort.ahead w q) g 0 d).heap[k]? = w.heap[k]? := by
  show (w.heap.modify g (onCells (putCells enc 0 d)))[k]? = _
  rw [Array.getElem?_modify, if_neg (fun e => h e.symm)]

theorem putCells_take {α : Type} [Inhabited α] (enc : α → Value) (d : Array α) (cur : Array Value) {m : Nat} (hm : m ≤ d.size) (hd : d.size ≤ cur.size) : (putCells enc 0 d cur).toList.take m = (d.toList.map enc).take m := by
  apply List.ext_getElem?
  intro i
  rw [List.getElem?_take, List.getElem?_take]
  split
  · rename_i hi
    have h1 : i < cur.size := by omega
    have h2 : i < d.size := by omega
    simp [putCells, h1, h2]
  · rfl

theorem ownsRow_put {α : Type} [Inhabited α] (enc : α → Value) {w : World} {base g n c q m : Nat} {e : TypeId} {xs : List Value} (h : w.ownsRow base e 1 (.slice (some ⟨g, 0, none⟩) n c) n xs) (d : Array α) (hd : d.size = n) (hm : m ≤ n) :
    (putRow enc (Sort.ahead w q) g 0 d).ownsRow base e 1 (.slice (some ⟨g, 0, none⟩) m c) m ((d.toList.map enc).take m) := by
  rcases h.2 with ⟨hv, _⟩ | ⟨g', cap, cur, hv, hlo, hg, hnc, hcm, hsz, _⟩
  · cases hv
  · injection hv with h1 _ h3
    injection h1 with h1
    injection h1 with h1
    subst h1 h3
    refine ⟨by simp; omega, .inr ⟨g, c, putCells enc 0 d cur, rfl, hlo, putRow_block enc d hg, by omega, hcm, by simp [putCells, hsz], ?_⟩⟩
    rw [Nat.mul_one]
    exact putCells_take enc d cur (by omega) (by omega)

/-- A header. -/
def hd (t : Item (List Int)) : Value := t.cs.headD (.slice none 0 0)

def oc (v : Value) : { v : Value // v.oneCell' = true } := if h : v.oneCell' = true then ⟨v, h⟩ else ⟨.slice none 0 0, rfl⟩

theorem oc_val {v : Value} (h : v.oneCell' = true) : (oc v).1 = v := by rw [oc, dif_pos h]

instance : Inhabited { v : Value // v.oneCell' = true } := ⟨⟨.slice none 0 0, rfl⟩⟩

theorem flat_hd : ∀ {ts : List (Item (List Int))}, (∀ t ∈ ts, t.cs.length = 1) → ts.flatMap (·.cs) = ts.map hd
  | [], _ => rfl
  | t :: ts, h => by
    have h1 := h t (by simp)
    rw [List.flatMap_cons, List.map_cons, flat_hd fun s hs => h s (by simp [hs])]
    obtain ⟨cs, F, a⟩ := t
    match cs, h1 with
    | [v], _ => rfl

theorem eRow_hd {w : World} {F : Nat → Prop} {t : Item (List Int)} (h : ERow w F t.cs t.a) : ∃ A c, hd t = .slice A t.a.length c ∧ t.cs = [.slice A t.a.length c] := by
  obtain ⟨A, c, _, _, h1, _, _⟩ := h.iv
  exact ⟨A, c, by rw [hd, h1]; rfl, h1⟩

theorem OwnT.reorder {α : Type} {e : TypeId} {size : Nat} {E : World → (Nat → Prop) → List Value → α → Prop} {w w' : World} {F : Nat → Prop} {v v' : Value} {ts ts' : List (Item α)} (ok : OwnOk E) (h : OwnT e size E w F v ts) (hsub : ∀ t ∈ ts', t ∈ ts)
    (hp : ts'.Pairwise fun s t => ∀ k, s.F k → ¬ t.F k) (hrow : w'.ownsRow 0 e size v' ts'.length (ts'.flatMap (·.cs))) (hv : ∀ g, v'.ownBlock = some g → v.ownBlock = some g) (hs : w.heap.size ≤ w'.heap.size)
    (hk : ∀ k, k < w.heap.size → v.ownBlock ≠ some k → w'.heap[k]? = w.heap[k]?) : OwnT e size E w' F v' ts' :=
  ⟨hrow, fun t ht => h.len t (hsub t ht), fun t ht => ok.keep (h.elem t (hsub t ht)) fun k hf => hk k (ok.bound (h.elem t (hsub t ht)) k hf) fun hvk => (h.head k hvk).2 t (hsub t ht) hf, hp,
    fun g hg => ⟨(h.head g (hv g hg)).1, fun t ht => (h.head g (hv g hg)).2 t (hsub t ht)⟩, fun t ht => h.inF t (hsub t ht), fun k hf => Nat.lt_of_lt_of_le (h.bound k hf) hs⟩

theorem holds_row {w : World} {base g n c : Nat} {e : TypeId} {ts : List (Item (List Int))} (h : w.ownsRow base e 1 (.slice (some ⟨g, 0, none⟩) n c) n (ts.map hd)) (hn : ts.length = n) {α : Type} [Inhabited α] (enc : α → Value) (d : Array α) (hd' : d.toList.map enc = ts.map hd) : Holds enc w g 0 d := by
  intro j hj
  have hjn : j < n * 1 := by
    have := congrArg List.length hd'
    simp at this
    omega
  obtain ⟨g', c', hv, _, _, hc, hf⟩ := ownsRow_cell h hjn
  injection hv with h1 _ _
  injection h1 with h1
  injection h1 with h1
  subst h1
  rw [Nat.zero_add]
  refine ⟨hc.trans ?_, hf⟩
  rw [← hd', List.getElem?_map, Array.getElem?_toList, Array.getElem?_eq_getElem hj, Option.map_some, getElem!_pos d j hj]

set_option maxRecDepth 100000 in
theorem deleteRow_own (A : Option Addr) (n c lo hi k : Nat) (rs : List (List Int)) (w : World) (ho : OwnR w lo hi (.slice A n c) rs) (hk : k < n) :
    Calls Tryz.prog 56 #[.slice A n c, .int .i64 k, .int .i64 ((k : Int) + 1)] w fun e w' => e = .returned (.slice A (n - 1) c) ∧ OwnR w' lo hi (.slice A (n - 1) c) (rs.eraseIdx k) ∧ Chg lo hi w w' := by
  have hlen := ho.len_eq
  obtain ⟨F, ⟨ts, rfl, hT⟩, hF⟩ := ho
  rw [List.length_map] at hlen
  have hrow := hT.row
  rw [flat_hd hT.len, hlen] at hrow
  have hone : ∀ t ∈ ts, (hd t).oneCell' = true := fun t ht => by
    obtain ⟨A', c', h, _⟩ := eRow_hd (hT.elem t ht)
    rw [h]
    rfl
  obtain ⟨g, c', hv, _, hglt, _, _⟩ := ownsRow_cell hrow (i := 0) (by omega)
  injection hv with hA _ hcc
  subst hA hcc
  have hcap : n ≤ c ∧ c ≤ maxLen := by
    rcases hrow.2 with ⟨hv, _⟩ | ⟨g', cap, cur, hv, _, _, hnc, hcm, _⟩
    · cases hv
    · injection hv with _ _ h3
      subst h3
      exact ⟨hnc, hcm⟩
  have hdm : ((ts.map fun t => oc (hd t)).toArray.toList.map Subtype.val) = ts.map hd := by
    rw [List.map_map]
    exact List.map_congr_left fun t ht => oc_val (hone t ht)
  have hsz : (ts.map fun t => oc (hd t)).toArray.size = n := by simp [hlen]
  obtain ⟨i0, hi0, hz0, hz1, _⟩ := info_parts info_row
  have hcon := Tryz.slices_Delete (α := { v : Value // v.oneCell' = true }) Subtype.val (fun x => x.2) ⟨.slice none 0 0, rfl⟩ (fun w => by kernel_rfl) i0 hi0 hz1 g 0 c k (k + 1) (ts.map fun t => oc (hd t)).toArray w (holds_row hrow hlen Subtype.val _ hdm) (by rw [hsz]; exact hcap.1) (by have := hcap.2; unfold maxLen at this; omega) (by omega) (by rw [hsz]; omega)
  rw [hsz, show (((k + 1 : Nat)) : Int) = (k : Int) + 1 from by omega] at hcon
  refine hcon.mono ?_
  rintro e w' ⟨rfl, q, rfl⟩
  have hg : F g := (hT.head g rfl).1
  generalize hdd : ((ts.map fun t => oc (hd t)).toArray.toList.take k ++ (ts.map fun t => oc (hd t)).toArray.toList.drop (k + 1) ++ List.replicate (k + 1 - k) (⟨.slice none 0 0, rfl⟩ : { v : Value // v.oneCell' = true })).toArray = d'
  have hd1 : d'.size = n := by rw [← hdd]; simp [hlen]; omega
  have hval : (d'.toList.map Subtype.val).take (n - 1) = (ts.eraseIdx k).map hd := by
    rw [← hdd, List.eraseIdx_eq_take_drop_succ]
    simp only [List.map_append, List.map_take, List.map_drop] at hdm ⊢
    rw [hdm, List.take_left' (by simp [hlen]; omega)]
  have hchg : Chg lo hi w (putRow Subtype.val (Sort.ahead w q) g 0 d') :=
    ⟨rfl, rfl, rfl, by simp [putRow, mapBlock], fun j _ hne => putRow_other _ w _ (by have := hF g hg; omega)⟩
  have hel : (ts.eraseIdx k).length = n - 1 := by rw [List.length_eraseIdx, if_pos (by omega), hlen]
  refine ⟨by rw [Nat.add_sub_cancel_left], ⟨F, ⟨ts.eraseIdx k, by rw [List.eraseIdx_eq_take_drop_succ, List.eraseIdx_eq_take_drop_succ, List.map_append, List.map_take, List.map_drop], OwnT.reorder eRow_ok hT (fun t ht => (List.eraseIdx_sublist ts k).subset ht) (hT.apart.sublist (List.eraseIdx_sublist ts k)) ?_ (fun g' hg' => hg') (by simp [putRow, mapBlock]) (fun j _ hne => putRow_other _ w _ (fun e => hne (by rw [e]; rfl)))⟩, hF⟩, hchg⟩
  rw [flat_hd fun t ht => hT.len t ((List.eraseIdx_sublist ts k).subset ht), hel, ← hval]
  exact ownsRow_base (ownsRow_put Subtype.val hrow d' hd1 (by omega)) fun _ _ => Nat.zero_le _

theorem cmpL_swap : ∀ a b : List Int, cmpL b a = -cmpL a b
  | [], [] => rfl
  | [], _ :: _ => rfl
  | _ :: _, [] => rfl
  | x :: a, y :: b => by
    rw [cmpL, cmpL]
    by_cases h1 : x < y
    · rw [if_pos h1, if_neg (by omega), if_pos h1]
      rfl
    · rw [if_neg h1]
      by_cases h2 : y < x
      · rw [if_pos h2, if_neg h1, if_pos h2]
      · rw [if_neg h2, if_neg h2, if_neg h1]
        exact cmpL_swap a b

theorem cmpL_trans : ∀ {a b c : List Int}, cmpL a b < 0 → cmpL b c < 0 → cmpL a c < 0
  | _, [], [], _, h => by simp [cmpL] at h
  | [], [], _ :: _, h, _ => by simp [cmpL] at h
  | _ :: _, [], _, h, _ => by simp [cmpL] at h
  | _, _ :: _, [], _, h => by simp [cmpL] at h
  | [], _ :: _, _ :: _, _, _ => by simp [cmpL]
  | x :: a, y :: b, z :: c, h, k => by
    rw [cmpL] at h k ⊢
    by_cases h1 : x < y
    · by_cases k1 : y < z
      · rw [if_pos (by omega)]; omega
      · rw [if_neg k1] at k
        by_cases k2 : z < y
        · rw [if_pos k2] at k; omega
        · rw [if_pos (by omega)]; omega
    · rw [if_neg h1] at h
      by_cases h2 : y < x
      · rw [if_pos h2] at h; omega
      · rw [if_neg h2] at h
        have hxy : x = y := by omega
        subst hxy
        by_cases k1 : x < z
        · rw [if_pos k1]; omega
        · rw [if_neg k1] at k ⊢
          by_cases k2 : z < x
          · rw [if_pos k2] at k; omega
          · rw [if_neg k2] at k ⊢
            exact cmpL_trans h k

/-- Strictly ascending. -/
abbrev AscP (rs : List (List Int)) : Prop := rs.Pairwise fun a b => cmpL a b < 0

theorem ascP_of : ∀ {rs : List (List Int)}, ascB rs = true → AscP rs
  | [], _ => .nil
  | [a], _ => by simp
  | a :: b :: l, h => by
    rw [ascB, Bool.and_eq_true, decide_eq_true_eq] at h
    have ih := ascP_of h.2
    refine List.pairwise_cons.2 ⟨fun y hy => ?_, ih⟩
    rcases List.mem_cons.1 hy with rfl | hy
    · exact h.1
    · exact cmpL_trans h.1 ((List.pairwise_cons.1 ih).1 y hy)

theorem ascB_of : ∀ {rs : List (List Int)}, AscP rs → ascB rs = true
  | [], _ => rfl
  | [a], _ => rfl
  | a :: b :: l, h => by
    have h' := List.pairwise_cons.1 h
    rw [ascB, Bool.and_eq_true, decide_eq_true_eq]
    exact ⟨h'.1 b (by simp), ascB_of h'.2⟩

theorem ascP_nodup {rs : List (List Int)} (h : AscP rs) : rs.Nodup := h.imp fun {a b} hab e => by
  subst e
  rw [cmpL_self] at hab
  omega

/-- Two ascending lists of the same rows are one. -/
theorem ascP_unique : ∀ {a b : List (List Int)}, AscP a → AscP b → (∀ x, x ∈ a ↔ x ∈ b) → a = b
  | [], [], _, _, _ => rfl
  | [], y :: b, _, _, h => by have := (h y).2 (by simp); cases this
  | x :: a, [], _, _, h => by have := (h x).1 (by simp); cases this
  | x :: a, y :: b, ha, hb, h => by
    have ha' := List.pairwise_cons.1 ha
    have hb' := List.pairwise_cons.1 hb
    have hxy : x = y := by
      rcases List.mem_cons.1 ((h x).1 (by simp)) with e | hx
      · exact e
      · rcases List.mem_cons.1 ((h y).2 (by simp)) with e | hy
        · exact e.symm
        · have h1 := hb'.1 x hx
          have h2 := ha'.1 y hy
          rw [cmpL_swap] at h1
          omega
    subst hxy
    congr 1
    refine ascP_unique ha'.2 hb'.2 fun z => ⟨fun hz => ?_, fun hz => ?_⟩
    · rcases List.mem_cons.1 ((h z).1 (List.mem_cons_of_mem _ hz)) with e | h1
      · subst e
        have := ha'.1 z hz
        rw [cmpL_self] at this
        omega
      · exact h1
    · rcases List.mem_cons.1 ((h z).2 (List.mem_cons_of_mem _ hz)) with e | h1
      · subst e
        have := hb'.1 z hz
        rw [cmpL_self] at this
        omega
      · exact h1

theorem eraseIdx_filter {rs : List (List Int)} {r : List Int} {k : Nat} (h : AscP rs) (hk : rs[k]? = some r) : rs.eraseIdx k = rs.filter fun x => decide (¬ x = r) := by
  have hnd := ascP_nodup h
  refine ascP_unique (h.sublist (List.eraseIdx_sublist rs k)) (h.sublist List.filter_sublist) fun x => ?_
  obtain ⟨hlt, hx⟩ := List.getElem?_eq_some_iff.1 hk
  rw [List.mem_eraseIdx_iff_getElem?, List.mem_filter, decide_eq_true_eq]
  constructor
  · rintro ⟨i, hne, hi⟩
    refine ⟨List.mem_of_getElem? hi, fun e => hne ?_⟩
    obtain ⟨hil, hix⟩ := List.getElem?_eq_some_iff.1 hi
    rcases Nat.lt_trichotomy i k with hlt' | heq | hgt
    · exact absurd (by rw [hix, hx, e]) (List.pairwise_iff_getElem.1 hnd i k hil hlt hlt')
    · exact heq
    · exact absurd (by rw [hix, hx, e]) (List.pairwise_iff_getElem.1 hnd k i hlt hil hgt)
  · rintro ⟨hm, hne⟩
    obtain ⟨i, hi⟩ := List.mem_iff_getElem?.1 hm
    exact ⟨i, fun e => hne (by subst e; rw [hk] at hi; injection hi with hi; exact hi.symm), hi⟩

theorem validT_asc {nm : ByteArray} {ar : Int} {rs : List (List Int)} (h : validT nm ar rs = true) : AscP rs := by
  unfold validT at h
  simp only [Bool.and_eq_true] at h
  exact ascP_of h.2.2.2.2

end

section
open Go.RowKit Go.Deep

/-- Where a row stands first; -1. -/
def idxR (rs : List (List Int)) (r : List Int) : Int := match rs.findIdx? (fun x => decide (x = r)) with | some k => k | none => -1

theorem idxR_at {rs : List (List Int)} {r : List Int} {k : Nat} (h : rs[k]? = some r) (hno : ∀ j x, j < k → rs[j]? = some x → ¬ x = r) : idxR rs r = k := by
  obtain ⟨hk, hx⟩ := List.getElem?_eq_some_iff.1 h
  have : rs.findIdx? (fun x => decide (x = r)) = some k := List.findIdx?_eq_some_iff_getElem.2 ⟨hk, by simpa using hx, fun j hj => by simpa using hno j _ hj (List.getElem?_eq_getElem (by omega))⟩
  rw [idxR, this]

theorem idxR_none {rs : List (List Int)} {r : List Int} (hno : ∀ x ∈ rs, ¬ x = r) : idxR rs r = -1 := by
  have : rs.findIdx? (fun x => decide (x = r)) = none := List.findIdx?_eq_none_iff.2 fun x hx => by simpa using hno x hx
  rw [idxR, this]

theorem idxR_iff {rs : List (List Int)} {r : List Int} : 0 ≤ idxR rs r ↔ r ∈ rs := by
  unfold idxR
  split
  · rename_i k hk
    obtain ⟨h1, h2, _⟩ := List.findIdx?_eq_some_iff_getElem.1 hk
    simp at h2
    constructor
    · intro _
      rw [← h2]
      exact List.getElem_mem h1
    · intro _
      omega
  · rename_i hn
    have := List.findIdx?_eq_none_iff.1 hn
    constructor
    · intro h; omega
    · intro h
      have := this r h
      simp at this

theorem idxR_lt {rs : List (List Int)} {r : List Int} {k : Nat} (h : idxR rs r = k) : rs[k]? = some r := by
  unfold idxR at h
  split at h
  · rename_i j hj
    obtain ⟨h1, h2, _⟩ := List.findIdx?_eq_some_iff_getElem.1 hj
    simp at h2
    obtain rfl : j = k := by omega
    rw [List.getElem?_eq_getElem h1, h2]
  · omega

set_option maxRecDepth 100000 in
theorem rowIndex1_q (A A' : Option Addr) (n c n' c' g : Nat) (zs zs' : List Int) (w : World) (hc : w.cell? ⟨g, 0, none⟩ = some (.slice A' n' c')) (hr : RdI w w.heap.size A n zs) (hr' : RdI w w.heap.size A' n' zs') (hn : n ≤ 9223372036854775807) (hn' : n' ≤ 9223372036854775807) :
    Calls Tryz.prog 76 #[.slice A n c, .pointer (some ⟨g, 0, none⟩)] w fun e w' => e = .returned (.bool (decide (zs = zs'))) ∧ Qt w w' := by
  go_enter Tryz.func76, Tryz.ntmps76
  go_wp2_with fail
  refine (slicesEqual_q A A' n c n' c' zs zs' w hr hr' hn hn').mono ?_
  rintro e w' ⟨rfl, hq⟩
  have HQ := Lib.hid hq
  clear hq
  go_wp2_with fail
  go_ret
  exact ⟨rfl, HQ.out⟩

set_option maxRecDepth 100000 in
set_option maxHeartbeats 400000 in
theorem indexFunc_q (A A' : Option Addr) (n c n' c' g : Nat) (rs : List (List Int)) (r : List Int) (w : World) (hcell : w.cell? ⟨g, 0, none⟩ = some (.slice A' n' c')) (hr : RdR w w.heap.size A n rs) (hr' : RdI w w.heap.size A' n' r) (hn : n ≤ 9223372036854775807) (hn' : n' ≤ 9223372036854775807) :
    Calls Tryz.prog 75 #[.slice A n c, .func (.func 76) #[] #[.pointer (some ⟨g, 0, none⟩)]] w fun e w' => e = .returned (.int .i64 (idxR rs r)) ∧ Qt w w' := by
  have HL := Lib.hid hr.1
  go_enter Tryz.func75, Tryz.ntmps75
  go_wp2
  go_loopw [8] (fun i wr => ∃ k : Nat, k ≤ n ∧ i = .int .i64 k ∧ Hid (∀ j x, j < k → rs[j]? = some x → ¬ x = r) ∧ Qt w wr) (fun i _ => n - (intOf i).toNat)
  case atStart => exact ⟨0, by omega, rfl, fun j x h => by omega, Qt.refl _⟩
  case round =>
    obtain ⟨k, hk, rfl, hpre, hbel⟩ := hrel
    by_cases hlt : k < n
    · obtain ⟨b, o, x, A1, c1, rfl, _, hx, hc, hrd, hm⟩ := RdR.at_ hr hlt
      have hc1 := (hbel.cell (p := ⟨b, o + k, none⟩)).trans hc
      have HX := Lib.hid hx
      have KE := Lib.hid (rowIndex1_q A1 A' x.length c1 n' c' g x r wr (hbel.cell.trans hcell) (hbel.rdI hrd) (hbel.rdI hr') (by unfold maxLen at hm; omega) hn')
      clear hx hc hrd
      by_cases he : x = r
      · have hf : Hid (idxR rs r = k) := idxR_at (he ▸ HX.out) hpre.out
        have hd := Lib.hid (decide_eq_true he)
        clear he
        go_wp2_with fail
        refine KE.out.mono ?_
        rintro e w1 ⟨rfl, hq⟩
        rw [hd.out]
        have HQ := Lib.hid (hbel.trans hq)
        clear hq
        go_wp2_with fail
        go_ret
        exact ⟨by rw [hf.out] <;> rfl, HQ.out⟩
      · have hpre' : Hid (∀ j x, j < k + 1 → rs[j]? = some x → ¬ x = r) := fun j y hj hy => by
          rcases Nat.lt_or_ge j k with h | h
          · exact hpre.out j y h hy
          · obtain rfl : j = k := by omega
            rw [HX.out] at hy
            injection hy with hy
            rw [← hy]
            exact he
        have hd := Lib.hid (decide_eq_false he)
        clear he
        go_wp2_with fail
        refine KE.out.mono ?_
        rintro e w1 ⟨rfl, hq⟩
        rw [hd.out]
        have HQ := Lib.hid (hbel.trans hq)
        clear hq
        go_wp2_with fail
        refine ⟨⟨k + 1, by omega, by go_num, hpre', HQ.out⟩, ?_⟩
        simp [intOf]
        omega
    · obtain rfl : k = n := by omega
      have hf : Hid (idxR rs r = -1) := idxR_none fun x hx => by
        obtain ⟨j, hj⟩ := List.mem_iff_getElem?.1 hx
        exact hpre.out j x (by have := (List.getElem?_eq_some_iff.1 hj).1; rw [HL.out] at this; exact this) hj
      go_wp2
      go_ret
      exact ⟨by rw [hf.out] <;> rfl, hbel⟩

set_option maxRecDepth 100000 in
set_option maxHeartbeats 400000 in
theorem rowIndex_any (nm : ByteArray) (ar : Int) (A A' : Option Addr) (n c n' c' B : Nat) (rs : List (List Int)) (r : List Int) (w : World) (hr : RdR w B A n rs) (hr' : RdI w B A' n' r) (hB : B ≤ w.heap.size) (hn : n ≤ 9223372036854775806) (hn' : n' ≤ 9223372036854775806) :
    Calls Tryz.prog 53 #[.agg #[.string nm, .int .i64 ar, .slice A n c], .slice A' n' c'] w fun e w' => e = .returned (.int .i64 (idxR rs r)) ∧ Below w.heap.size w w' := by
  have HB := Lib.hid (Below.refl w.heap.size w)
  have HB2 := Lib.hid (((Below.refl B w).alloc hB (.cells #[.string nm, .int .i64 ar, .slice A n c] 51)).alloc (by simp; omega) (.cells #[.slice A' n' c'] 27))
  go_enter Tryz.func53, Tryz.ntmps53
  go_wp2_with fail
  refine (indexFunc_q A A' n c n' c' (w.heap.size + 1) rs r _ (by simp [go_sem]) ((RdR.belowB hr HB2.out (Nat.le_refl _)).more (by simp; omega)) ((hr'.belowB HB2.out (Nat.le_refl _)).more (by simp; omega)) (by omega) (by omega)).mono ?_
  rintro e w1 ⟨rfl, hq⟩
  have hbel := Lib.hid ((((HB.out).alloc (Nat.le_refl _) _).alloc (by simp) _).trans (hq.below _))
  clear hq
  go_wp2_with fail
  go_ret
  exact ⟨rfl, hbel.out⟩

/-- A valid table holds the row. -/
def contB (nm : ByteArray) (ar : Int) (rs : List (List Int)) (r : List Int) : Bool := validT nm ar rs && decide (r ∈ rs)

set_option maxRecDepth 100000 in
set_option maxHeartbeats 400000 in
theorem impl_ContainsRow_any (nm : ByteArray) (ar : Int) (A A' : Option Addr) (n c n' c' B : Nat) (rs : List (List Int)) (r : List Int) (w : World) (hr : RdR w B A n rs) (hr' : RdI w B A' n' r) (hB : B ≤ w.heap.size) (hn : n ≤ 9223372036854775806) (hn' : n' ≤ 9223372036854775806) :
    Calls Tryz.prog 55 #[.agg #[.string nm, .int .i64 ar, .slice A n c], .slice A' n' c'] w fun e w' => e = .returned (.bool (contB nm ar rs r)) ∧ Below w.heap.size w w' := by
  have HB := Lib.hid ((Below.refl w.heap.size w).alloc (Nat.le_refl _) (.cells #[.string nm, .int .i64 ar, .slice A n c] 51))
  have HB2 := Lib.hid ((Below.refl B w).alloc hB (.cells #[.string nm, .int .i64 ar, .slice A n c] 51))
  have KV := Lib.hid (impl_IsValidTable_any nm ar A n c B rs (w.alloc (.cells #[.string nm, .int .i64 ar, .slice A n c] 51)) (RdR.belowB hr HB2.out (Nat.le_refl _)) (by simp; omega) hn)
  cases hv : validT nm ar rs with
  | false =>
    have hf : Hid (contB nm ar rs r = false) := by show _ = _; rw [contB, hv]; rfl
    rw [hv] at KV
    clear hv
    go_enter Tryz.func55, Tryz.ntmps55
    go_wp2_with fail
    refine KV.out.mono ?_
    rintro e w1 ⟨rfl, hb⟩
    have hbel := Lib.hid (HB.out.trans (hb.mono (by simp)))
    clear hb
    go_wp2_with fail
    go_ret
    exact ⟨by rw [hf.out] <;> rfl, hbel.out⟩
  | true =>
    have hf : Hid (contB nm ar rs r = decide (0 ≤ idxR rs r)) := by show _ = _; rw [contB, hv, decide_eq_decide.2 idxR_iff]; rfl
    rw [hv] at KV
    clear hv
    go_enter Tryz.func55, Tryz.ntmps55
    go_wp2_with fail
    refine KV.out.mono ?_
    rintro e w1 ⟨rfl, hb⟩
    have hs := hb.size
    simp at hs
    obtain ⟨hc, hfz⟩ := bcells hb
    have hbel := Lib.hid (HB.out.trans (hb.mono (by simp)))
    have hrd := Lib.hid (RdR.belowB (RdR.belowB hr HB2.out (Nat.le_refl _)) hb (by simp; omega))
    have hrd' := Lib.hid ((hr'.belowB HB2.out (Nat.le_refl _)).belowB hb (by simp; omega))
    clear hb
    go_wp2_with fail
    refine (rowIndex_any nm ar A A' n c n' c' B rs r w1 hrd.out hrd'.out (by omega) hn hn').mono ?_
    rintro e w2 ⟨rfl, hb2⟩
    have hbel2 := Lib.hid (hbel.out.trans (hb2.mono (by omega)))
    clear hb2 hc hfz
    generalize idxR rs r = y at hf
    go_wp2_with fail
    go_ret
    exact ⟨by rw [hf.out] <;> rfl, hbel2.out⟩

end

section
open Go.RowKit Go.Deep

set_option maxRecDepth 100000 in
set_option maxHeartbeats 1000000 in
theorem spec_ContainsRow_any (nm : ByteArray) (ar : Int) (A A' : Option Addr) (n c n' c' B : Nat) (rs : List (List Int)) (r : List Int) (w : World) (hr : RdR w B A n rs) (hr' : RdI w B A' n' r) (hB : B ≤ w.heap.size) (hn : n ≤ 9223372036854775806) (hn' : n' ≤ 9223372036854775806) :
    Calls Tryz.prog 60 #[.agg #[.string nm, .int .i64 ar, .slice A n c], .slice A' n' c'] w fun e w' => e = .returned (.bool (contB nm ar rs r)) ∧ Below w.heap.size w w' := by
  have HL := Lib.hid hr.1
  have kn0 : Kn w [(w.heap.size, 0, .string nm), (w.heap.size, 1, .int .i64 ar), (w.heap.size, 2, .slice A n c)] (w.alloc (.cells #[.string nm, .int .i64 ar, .slice A n c] 51)) := by simpa using (Kn.start w).box3 (.string nm) (.int .i64 ar) (.slice A n c) 51
  have KV := Lib.hid (fun W (kn : Kn w [(w.heap.size, 0, .string nm), (w.heap.size, 1, .int .i64 ar), (w.heap.size, 2, .slice A n c)] W) => spec_IsValidTable_any nm ar A n c B rs W (RdR.belowB hr kn.bel hB) (Nat.le_trans hB kn.bel.size) hn)
  cases hv : validT nm ar rs with
  | false =>
    have hf : Hid (contB nm ar rs r = false) := by show _ = _; rw [contB, hv]; rfl
    rw [hv] at KV
    clear hv
    go_enter Tryz.func60, Tryz.ntmps60
    go_wp2_with fail
    generalize w.alloc (.cells #[.string nm, .int .i64 ar, .slice A n c] 51) = W at kn0 ⊢
    go_loopw [5] (fun i wr => i = .int .i64 0 ∧ wr = W) (fun i _ => 0)
    case atStart => exact ⟨rfl, rfl⟩
    case round =>
      obtain ⟨rfl, rfl⟩ := hrel
      obtain ⟨d0, d1, d2, _⟩ := kn0.all
      by_cases h0 : 0 < n
      · have h0' : (0 : Int) < (n : Int) := by omega
        go_wp2_with fail
        refine (KV.out _ kn0).mono ?_
        rintro e w1 ⟨rfl, hb⟩
        have hbel := Lib.hid (kn0.next hb).bel
        clear hb
        go_wp2_with fail
        go_ret
        exact ⟨by rw [hf.out] <;> rfl, hbel.out⟩
      · obtain rfl : n = 0 := by omega
        have hbel := kn0.bel
        go_wp2_with fail
        go_ret
        exact ⟨by rw [hf.out] <;> rfl, hbel⟩
  | true =>
    have hf : Hid (contB nm ar rs r = decide (r ∈ rs)) := by show _ = _; rw [contB, hv]; rfl
    rw [hv] at KV
    clear hv
    go_enter Tryz.func60, Tryz.ntmps60
    go_wp2_with fail
    generalize w.alloc (.cells #[.string nm, .int .i64 ar, .slice A n c] 51) = W at kn0 ⊢
    go_loopw [5] (fun i wr => ∃ k : Nat, k ≤ n ∧ i = .int .i64 k ∧ Hid (∀ j x, j < k → rs[j]? = some x → ¬ x = r) ∧ Kn w [(w.heap.size, 0, .string nm), (w.heap.size, 1, .int .i64 ar), (w.heap.size, 2, .slice A n c)] wr) (fun i _ => n - (intOf i).toNat)
    case atStart => exact ⟨0, by omega, rfl, fun j x h => by omega, kn0⟩
    case round =>
      obtain ⟨k, hk, rfl, hpre, kn⟩ := hrel
      clear kn0
      obtain ⟨d0, d1, d2, _⟩ := kn.all
      by_cases hlt : k < n
      · go_wp2_with fail
        refine (KV.out _ kn).mono ?_
        rintro e w1 ⟨rfl, hb⟩
        have kn1 := kn.next hb
        clear kn hb d0 d1 d2
        obtain ⟨d0, d1, d2, _⟩ := kn1.all
        have hbel := kn1.bel
        obtain ⟨b, o, x, A1, c1, rfl, hb0, hx, hc, hrd, hm⟩ := RdR.at_ (RdR.belowB hr hbel hB) hlt
        have HX := Lib.hid hx
        have hs := hbel.size
        have KE := Lib.hid (spec_CompareRows_q A1 A' x.length c1 n' c' x r w1 (hrd.more (by omega)) ((hr'.belowB hbel hB).more (by omega)) (by unfold maxLen at hm; omega) (by omega))
        clear hx hrd hbel
        by_cases he : x = r
        · have hfin : Hid (decide (r ∈ rs) = true) := by
            show _ = _
            rw [decide_eq_true_eq, ← he]
            exact List.mem_of_getElem? HX.out
          have hcz := Lib.hid (cmpL_zero.2 he)
          clear he
          go_wp2_with fail
          refine KE.out.mono ?_
          rintro e w2 ⟨rfl, hq⟩
          rw [hcz.out]
          have HQ := Lib.hid (kn1.next (hq.below _)).bel
          clear hq
          go_wp2_with fail
          go_ret
          exact ⟨by rw [hf.out, hfin.out] <;> rfl, HQ.out⟩
        · have hpre' : Hid (∀ j x, j < k + 1 → rs[j]? = some x → ¬ x = r) := fun j y hj hy => by
            rcases Nat.lt_or_ge j k with h | h
            · exact hpre.out j y h hy
            · obtain rfl : j = k := by omega
              rw [HX.out] at hy
              injection hy with hy
              rw [← hy]
              exact he
          obtain ⟨y, hy⟩ : ∃ y, y = cmpL x r := ⟨_, rfl⟩
          have hy0 : (y == 0) = false := by rw [hy]; simpa using mt cmpL_zero.1 he
          rw [← hy] at KE
          clear hy he
          go_wp2_with fail
          refine KE.out.mono ?_
          rintro e w2 ⟨rfl, hq⟩
          have HQ := Lib.hid (kn1.next (hq.below _))
          clear hq
          go_wp2_with fail
          refine ⟨⟨k + 1, by omega, by go_num, hpre', HQ.out⟩, ?_⟩
          simp [intOf]
          omega
      · obtain rfl : k = n := by omega
        have hfin : Hid (decide (r ∈ rs) = false) := by
          show _ = _
          rw [decide_eq_false_iff_not]
          intro hmem
          obtain ⟨j, hj⟩ := List.mem_iff_getElem?.1 hmem
          exact hpre.out j r (by have := (List.getElem?_eq_some_iff.1 hj).1; rw [HL.out] at this; exact this) hj rfl
        have hbel := kn.bel
        go_wp2_with fail
        go_ret
        exact ⟨by rw [hf.out, hfin.out] <;> rfl, hbel⟩

end

section
open Go.RowKit Go.Deep

/-- What DeleteRow answers. -/
def delR (nm : ByteArray) (ar : Int) (rs : List (List Int)) (r : List Int) : TabR := if contB nm ar rs r = true then ⟨nm, ar, rs.filter fun x => decide (¬ x = r), true⟩ else ⟨nm, ar, rs, false⟩

set_option maxRecDepth 100000 in
set_option maxHeartbeats 2000000 in
theorem impl_DeleteRow_any (nm : ByteArray) (ar : Int) (A A' : Option Addr) (n c n' c' B : Nat) (rs : List (List Int)) (r : List Int) (w : World) (hr : RdR w B A n rs) (hr' : RdI w B A' n' r) (hB : B ≤ w.heap.size) (hn : n ≤ 5000000000) (hn' : n' ≤ 9223372036854775806) (hrow : ∀ r ∈ rs, r.length ≤ 17592186044416) :
    Calls Tryz.prog 23 #[.agg #[.string nm, .int .i64 ar, .slice A n c], .slice A' n' c'] w (TabBool (delR nm ar rs r) w) := by
  have HL := Lib.hid hr.1
  have hrow' := Lib.hid hrow
  clear hrow
  have kn0 : Kn w [(w.heap.size, 0, .string nm), (w.heap.size, 1, .int .i64 ar), (w.heap.size, 2, .slice A n c), (w.heap.size + 1, 0, .string { data := #[] }), (w.heap.size + 1, 1, .int .i64 0), (w.heap.size + 1, 2, .slice none 0 0)]
      ((w.alloc (.cells #[.string nm, .int .i64 ar, .slice A n c] 51)).alloc (.cells #[.string { data := #[] }, .int .i64 0, .slice none 0 0] 51)) := by
    simpa using ((Kn.start w).box3 (.string nm) (.int .i64 ar) (.slice A n c) 51).box3 (.string { data := #[] }) (.int .i64 0) (.slice none 0 0) 51
  go_enter Tryz.func23, Tryz.ntmps23
  go_wp2_with fail
  have s0 : w.heap.size + 2 ≤ ((w.alloc (.cells #[.string nm, .int .i64 ar, .slice A n c] 51)).alloc (.cells #[.string { data := #[] }, .int .i64 0, .slice none 0 0] 51)).heap.size := by simp
  generalize (w.alloc (.cells #[.string nm, .int .i64 ar, .slice A n c] 51)).alloc (.cells #[.string { data := #[] }, .int .i64 0, .slice none 0 0] 51) = w0 at kn0 s0 ⊢
  with_reducible refine (copyTable_any nm ar A n c B rs w0 (RdR.belowB hr kn0.bel hB) (Nat.le_trans hB kn0.bel.size) hn hrow'.out).mono ?_
  rintro e w1 ⟨Ao, co, rfl, oo, b1⟩
  have s1 := b1.size
  have kn1 := kn0.next b1
  clear kn0 b1
  obtain ⟨d0, d1, d2, d3, d4, d5, _⟩ := kn1.all
  have ne0 : w.heap.size < w1.heap.size := by omega
  have ne1 : w.heap.size + 1 < w1.heap.size := by omega
  go_wp2_with fail
  clear ne0 ne1
  have kn2 : Kn w [(w.heap.size, 0, .string nm), (w.heap.size, 1, .int .i64 ar), (w.heap.size, 2, .slice A n c), (w.heap.size + 1, 0, .string { data := #[] }), (w.heap.size + 1, 1, .int .i64 0), (w.heap.size + 1, 2, .slice none 0 0), (w1.heap.size, 0, .string nm), (w1.heap.size, 1, .int .i64 ar), (w1.heap.size, 2, .slice Ao rs.length co)]
      (w1.alloc (.cells #[.string nm, .int .i64 ar, .slice Ao rs.length co] 51)) := kn1.box3 (.string nm) (.int .i64 ar) (.slice Ao rs.length co) 51
  have s2 : w1.heap.size + 1 ≤ (w1.alloc (.cells #[.string nm, .int .i64 ar, .slice Ao rs.length co] 51)).heap.size := by simp
  have oo2 := oo.below ((Below.refl _ _).alloc (Nat.le_refl _) (.cells #[.string nm, .int .i64 ar, .slice Ao rs.length co] 51)) (Nat.le_refl _)
  clear oo kn1 d0 d1 d2 d3 d4 d5
  generalize w1.alloc (.cells #[.string nm, .int .i64 ar, .slice Ao rs.length co] 51) = w2 at kn2 s2 oo2 ⊢
  have KC := Lib.hid (impl_ContainsRow_any nm ar A A' n c n' c' B rs r w2 (RdR.belowB hr kn2.bel hB) (hr'.belowB kn2.bel hB) (Nat.le_trans hB kn2.bel.size) (by omega) hn')
  obtain ⟨d0, d1, d2, d3, d4, d5, d6, d7, d8, _⟩ := kn2.all
  cases hcont : contB nm ar rs r with
  | false =>
    have hf : Hid (delR nm ar rs r = ⟨nm, ar, rs, false⟩) := by show _ = _; rw [delR, if_neg (by simp [hcont])]
    rw [hcont] at KC
    clear hcont
    refine KC.out.mono ?_
    rintro e w3 ⟨rfl, b3⟩
    have s3 := b3.size
    have oo3 := oo2.below b3 (by omega)
    have kn3 := kn2.next b3
    clear kn2 b3 oo2 d0 d1 d2 d3 d4 d5 d6 d7 d8
    obtain ⟨d0, d1, d2, d3, d4, d5, d6, d7, d8, _⟩ := kn3.all
    obtain ⟨f0, f1, f2, f3, f4, f5, f6, f7, f8, _⟩ := kn3.fall
    have hbel := Lib.hid kn3.bel
    have HO := Lib.hid oo3
    have nn : ¬ w1.heap.size = w.heap.size + 1 := by omega
    clear kn3 oo3
    go_wp2_with fail
    refine bodyPost_ret (v := .tuple #[.agg #[.string nm, .int .i64 ar, .slice Ao rs.length co], .bool false]) (by simp [results, Tryz.results23, go_sem, *]) rfl (TabBool.of hf.out ?_ ?_)
    · refine OwnR.down (lo := w0.heap.size) (OwnR.wide (hi := w1.heap.size) ?_ (by simp; omega)) (by omega)
      repeat refine OwnR.setLow ?_ (by omega)
      exact HO.out
    · repeat first | exact hbel.out | (refine Below.setCell ?_ ?_ _; rotate_left; (simp; try omega))
  | true =>
    have hmem : r ∈ rs := of_decide_eq_true (Bool.and_eq_true _ _ ▸ hcont).2
    have hasc : AscP rs := validT_asc (Bool.and_eq_true _ _ ▸ hcont).1
    obtain ⟨k, hk⟩ := Int.eq_ofNat_of_zero_le (idxR_iff.2 hmem)
    have hkr := idxR_lt hk
    have hkn : k < n := by have := (List.getElem?_eq_some_iff.1 hkr).1; rw [HL.out] at this; exact this
    have HE := Lib.hid (eraseIdx_filter hasc hkr)
    have hf : Hid (delR nm ar rs r = ⟨nm, ar, rs.filter fun x => decide (¬ x = r), true⟩) := by show _ = _; rw [delR, if_pos hcont]
    have KX : Hid (∀ W, Below w.heap.size w W → Calls Tryz.prog 53 #[.agg #[.string nm, .int .i64 ar, .slice A n c], .slice A' n' c'] W fun e w' => e = .returned (.int .i64 (k : Int)) ∧ Below W.heap.size W w') := fun W b =>
      (rowIndex_any nm ar A A' n c n' c' B rs r W (RdR.belowB hr b hB) (hr'.belowB b hB) (Nat.le_trans hB b.size) (by omega) hn').mono fun _ _ ⟨he, hb⟩ => ⟨by rw [he, hk], hb⟩
    rw [hcont] at KC
    have g1 : IntKind.i64.wrap ((k : Int) + 1) = (k : Int) + 1 := IntWalk.i64_in _ (by omega)
    clear hcont hmem hasc hk hkr
    refine KC.out.mono ?_
    rintro e w3 ⟨rfl, b3⟩
    have s3 := b3.size
    have oo3 := oo2.below b3 (by omega)
    have kn3 := kn2.next b3
    clear kn2 b3 oo2 d0 d1 d2 d3 d4 d5 d6 d7 d8
    obtain ⟨d0, d1, d2, d3, d4, d5, d6, d7, d8, _⟩ := kn3.all
    go_wp2_with fail
    refine (KX.out _ kn3.bel).mono ?_
    rintro e w4 ⟨rfl, b4⟩
    have s4 := b4.size
    have oo4 := oo3.below b4 (by omega)
    have kn4 := kn3.next b4
    clear kn3 b4 oo3 d0 d1 d2 d3 d4 d5 d6 d7 d8
    obtain ⟨d0, d1, d2, d3, d4, d5, d6, d7, d8, _⟩ := kn4.all
    have hnr := HL.out
    subst hnr
    go_wp2_with fail
    refine (deleteRow_own Ao rs.length co w0.heap.size w1.heap.size k rs w4 oo4 hkn).mono ?_
    rintro e w5 ⟨rfl, oo5, c5⟩
    have s5 := c5.size
    have kn5 := kn4.chg c5 (by omega) (by simp only [List.forall_mem_cons]; simp; try omega)
    clear kn4 c5 oo4 d0 d1 d2 d3 d4 d5 d6 d7 d8
    obtain ⟨d0, d1, d2, d3, d4, d5, d6, d7, d8, _⟩ := kn5.all
    obtain ⟨f0, f1, f2, f3, f4, f5, f6, f7, f8, _⟩ := kn5.fall
    have hbel := Lib.hid kn5.bel
    rw [HE.out] at oo5
    have HO := Lib.hid oo5
    have nn : ¬ w1.heap.size = w.heap.size + 1 := by omega
    clear kn5 oo5
    go_wp2_with fail
    refine bodyPost_ret (v := .tuple #[.agg #[.string nm, .int .i64 ar, .slice Ao (rs.length - 1) co], .bool true]) (by simp [results, Tryz.results23, go_sem, *]) rfl (TabBool.of hf.out ?_ ?_)
    · refine OwnR.down (lo := w0.heap.size) (OwnR.wide (hi := w1.heap.size) ?_ (by simp; omega)) (by omega)
      repeat refine OwnR.setOff ?_ (by omega)
      exact HO.out
    · repeat first | exact hbel.out | (refine Below.setCell ?_ ?_ _; rotate_left; (simp; try omega))

end

section
open Go.RowKit Go.Deep Go.Sort Go.Lib

/-- The first of each run of one key. -/
def ddA {β : Type} (key : β → List Int) : β → List β → List β
  | _, [] => []
  | p, x :: l => if key x = key p then ddA key x l else x :: ddA key x l

def dd {β : Type} (key : β → List Int) : List β → List β
  | [] => []
  | x :: l => x :: ddA key x l

section

variable {β : Type} (key : β → List Int)

theorem ddA_snoc (x y : β) : ∀ (l : List β) (p : β), ddA key p (l ++ [x, y]) = ddA key p (l ++ [x]) ++ if key y = key x then [] else [y]
  | [], p => by
    simp only [List.nil_append, ddA]
    by_cases h : key x = key p
    · rw [if_pos h, if_pos h]
      simp
    · rw [if_neg h, if_neg h]
      simp
  | z :: l, p => by
    rw [List.cons_append, List.cons_append, ddA, ddA, ddA_snoc x y l z]
    by_cases h : key z = key p
    · rw [if_pos h, if_pos h]
    · rw [if_neg h, if_neg h, List.cons_append]

theorem dd_snoc (x y : β) : ∀ (l : List β), dd key (l ++ [x, y]) = dd key (l ++ [x]) ++ if key y = key x then [] else [y]
  | [] => by simp [dd, ddA]
  | z :: l => by rw [List.cons_append, List.cons_append, dd, dd, ddA_snoc, List.cons_append]

theorem ddA_sub : ∀ (l : List β) (p : β), (ddA key p l).Sublist l
  | [], _ => .slnil
  | x :: l, p => by
    rw [ddA]
    by_cases h : key x = key p
    · rw [if_pos h]
      exact (ddA_sub l x).cons x
    · rw [if_neg h]
      exact (ddA_sub l x).cons_cons x

theorem dd_sub : ∀ (l : List β), (dd key l).Sublist l
  | [] => .slnil
  | x :: l => (ddA_sub key l x).cons_cons x

theorem ddA_asc : ∀ (l : List β) (p : β), (p :: l).Pairwise (fun a b => ¬ cmpL (key b) (key a) < 0) → (∀ y ∈ ddA key p l, cmpL (key p) (key y) < 0) ∧ (ddA key p l).Pairwise (fun a b => cmpL (key a) (key b) < 0)
  | [], _, _ => ⟨by simp [ddA], .nil⟩
  | x :: l, p, h => by
    obtain ⟨h1, h2⟩ := List.pairwise_cons.1 h
    obtain ⟨i1, i2⟩ := ddA_asc l x h2
    rw [ddA]
    by_cases e : key x = key p
    · rw [if_pos e, ← e]
      exact ⟨i1, i2⟩
    · rw [if_neg e]
      have hlt : cmpL (key p) (key x) < 0 := by
        have := h1 x (by simp)
        rw [cmpL_swap] at this
        rcases Int.lt_or_eq_of_le (show cmpL (key p) (key x) ≤ 0 by omega) with h | h
        · exact h
        · exact absurd (cmpL_eq h).symm e
      refine ⟨fun y hy => ?_, List.pairwise_cons.2 ⟨i1, i2⟩⟩
      rcases List.mem_cons.1 hy with rfl | hy
      · exact hlt
      · exact cmpL_trans hlt (i1 y hy)

theorem dd_asc : ∀ (l : List β), l.Pairwise (fun a b => ¬ cmpL (key b) (key a) < 0) → (dd key l).Pairwise (fun a b => cmpL (key a) (key b) < 0)
  | [], _ => .nil
  | x :: l, h => by
    obtain ⟨i1, i2⟩ := ddA_asc key l x h
    exact List.pairwise_cons.2 ⟨i1, i2⟩

theorem ddA_mem : ∀ (l : List β) (p x : β), x ∈ l → key x = key p ∨ ∃ y ∈ ddA key p l, key y = key x
  | z :: l, p, x, h => by
    rw [ddA]
    rcases List.mem_cons.1 h with rfl | h
    · by_cases e : key x = key p
      · exact .inl e
      · rw [if_neg e]
        exact .inr ⟨x, by simp, rfl⟩
    · by_cases e : key z = key p
      · rw [if_pos e, ← e]
        exact ddA_mem l z x h
      · rw [if_neg e]
        rcases ddA_mem l z x h with h1 | ⟨y, hy, h1⟩
        · exact .inr ⟨z, by simp, h1.symm⟩
        · exact .inr ⟨y, by simp [hy], h1⟩

theorem dd_mem : ∀ (l : List β) (x : β), x ∈ l → ∃ y ∈ dd key l, key y = key x
  | z :: l, x, h => by
    rcases List.mem_cons.1 h with rfl | h
    · exact ⟨x, by simp [dd], rfl⟩
    · rcases ddA_mem key l z x h with h1 | ⟨y, hy, h1⟩
      · exact ⟨z, by simp [dd], h1.symm⟩
      · exact ⟨y, by simp [dd, hy], h1⟩

theorem dd_take [Inhabited β] (d : Array β) {i : Nat} (h2 : i + 1 < d.size) : dd key (d.toList.take (i + 1 + 1)) = dd key (d.toList.take (i + 1)) ++ if key d[i + 1]! = key d[i]! then [] else [d[i + 1]!] := by
  have e1 : d.toList.take (i + 1) = d.toList.take i ++ [d[i]!] := by
    rw [List.take_add_one, Array.getElem?_toList, Array.getElem?_eq_getElem (by omega), getElem!_pos d i (by omega)]
    rfl
  have e2 : d.toList.take (i + 1 + 1) = d.toList.take i ++ [d[i]!, d[i + 1]!] := by
    rw [List.take_add_one, e1, Array.getElem?_toList, Array.getElem?_eq_getElem h2, getElem!_pos d (i + 1) h2, List.append_assoc]
    rfl
  rw [e1, e2, dd_snoc]

end

/-- What a sort moves: the items ts (and the nil row, which clear lays). -/
def nilT : Item (List Int) := ⟨[.slice none 0 0], fun _ => False, []⟩

abbrev Mv (ts : List (Item (List Int))) := { t : Item (List Int) // t = nilT ∨ t ∈ ts }

instance (ts : List (Item (List Int))) : Inhabited (Mv ts) := ⟨⟨nilT, .inl rfl⟩⟩

def encM {ts : List (Item (List Int))} (x : Mv ts) : Value := hd x.1

def keyM {ts : List (Item (List Int))} (x : Mv ts) : List Int := x.1.a

def cfM {ts : List (Item (List Int))} (x y : Mv ts) : Int := cmpL (keyM x) (keyM y)

def arrM (ts : List (Item (List Int))) : Array (Mv ts) := (ts.attach.map fun t => (⟨t.1, .inr t.2⟩ : Mv ts)).toArray

theorem arrM_size (ts : List (Item (List Int))) : (arrM ts).size = ts.length := by simp [arrM]

theorem arrM_val (ts : List (Item (List Int))) : (arrM ts).toList.map (·.1) = ts := by simp [arrM, List.map_map, Function.comp_def]

theorem arrM_enc (ts : List (Item (List Int))) : (arrM ts).toList.map encM = ts.map hd := by
  have : (arrM ts).toList.map encM = ((arrM ts).toList.map (·.1)).map hd := by rw [List.map_map]; rfl
  rw [this, arrM_val]

section

variable {w W : World} {F : Nat → Prop} {v : Value} {ts : List (Item (List Int))} {g : Nat}

theorem mv_one (hT : OwnT 27 1 ERow w F v ts) : ∀ x : Mv ts, (encM x).oneCell' = true := fun x => by
  obtain ⟨t, rfl | ht⟩ := x
  · rfl
  · obtain ⟨A, c, h, _⟩ := eRow_hd (hT.elem t ht)
    rw [encM, h]
    rfl

theorem mv_rd (hT : OwnT 27 1 ERow w F v ts) (hv : v.ownBlock = some g) (hs : w.heap.size ≤ W.heap.size) (hk : ∀ k, k < w.heap.size → k ≠ g → W.heap[k]? = w.heap[k]?) (x : Mv ts) :
    ∃ A c, encM x = .slice A (keyM x).length c ∧ RdI W W.heap.size A (keyM x).length (keyM x) ∧ (keyM x).length ≤ 9223372036854775807 := by
  obtain ⟨t, rfl | ht⟩ := x
  · exact ⟨none, 0, rfl, (OwnI.nil W 0 W.heap.size).rd rfl, by simp [keyM, nilT]⟩
  · have hb := eRow_ok.bound (hT.elem t ht)
    obtain ⟨A, c, h1, h2, h3⟩ := rRow_of (B := W.heap.size) (eRow_ok.keep (w' := W) (hT.elem t ht) fun k hf => hk k (hb k hf) fun e => (hT.head g hv).2 t ht (e ▸ hf)) fun k hf => Nat.lt_of_lt_of_le (hb k hf) hs
    unfold maxLen at h3
    exact ⟨A, c, by rw [encM, hd, h1]; rfl, h2, h3⟩

end

theorem cfM_swo (ts : List (Item (List Int))) : SWO (ltOf (cfM (ts := ts))) where
  irrefl x := by simp [ltOf, cfM, cmpL_self]
  trans x y z h1 h2 := by
    unfold ltOf cfM at *
    exact decide_eq_true (cmpL_trans (of_decide_eq_true h1) (of_decide_eq_true h2))
  ntrans x y z h1 h2 := by
    unfold ltOf cfM at *
    replace h1 := of_decide_eq_false h1
    replace h2 := of_decide_eq_false h2
    refine decide_eq_false fun h => ?_
    have h3 : cmpL (keyM y) (keyM x) ≤ 0 := by rw [cmpL_swap]; omega
    rcases Int.lt_or_eq_of_le h3 with h4 | h4
    · exact h2 (cmpL_trans h4 h)
    · exact h2 (by rw [cmpL_eq h4]; exact h)

theorem sortWorld_other {α : Type} [Inhabited α] (enc : α → Value) (w : World) (g m : Nat) (d : Array α) (os : Array Obj) {k : Nat} (h1 : k < w.heap.size) (h2 : k ≠ g) : (sortWorld enc w g 0 m d os).heap[k]? = w.heap[k]? := by
  unfold sortWorld
  rw [heap_grow_old _ _ (by simp [putRow, mapBlock]; omega)]
  exact putRow_other enc w d h2

theorem sortWorld_size {α : Type} [Inhabited α] (enc : α → Value) (w : World) (g m : Nat) (d : Array α) (os : Array Obj) : w.heap.size ≤ (sortWorld enc w g 0 m d os).heap.size := by
  unfold sortWorld
  simp [putRow, mapBlock, grow]

theorem sortWorld_chg {α : Type} [Inhabited α] (enc : α → Value) (w : World) (g m lo hi : Nat) (d : Array α) (os : Array Obj) (h1 : lo ≤ g) (h2 : g < hi) : Chg lo hi w (sortWorld enc w g 0 m d os) :=
  ⟨rfl, rfl, rfl, sortWorld_size enc w g m d os, fun k hk hn => sortWorld_other enc w g m d os hk (by omega)⟩

/-- Items moved about by putRow and new blocks. -/
theorem ownT_put {w : World} {F : Nat → Prop} {g n c q m : Nat} {ts : List (Item (List Int))} (hT : OwnT 27 1 ERow w F (.slice (some ⟨g, 0, none⟩) n c) ts) (hn : ts.length = n) (d : Array (Mv ts)) (hd1 : d.size = n) (hm : m ≤ n) (os : Array Obj)
    (hsub : ∀ t ∈ (d.toList.take m).map (·.1), t ∈ ts) (hp : ((d.toList.take m).map (·.1)).Pairwise fun s t => ∀ k, s.F k → ¬ t.F k) :
    OwnT 27 1 ERow (sortWorld encM w g 0 q d os) F (.slice (some ⟨g, 0, none⟩) m c) ((d.toList.take m).map (·.1)) := by
  have hrow := hT.row
  rw [flat_hd hT.len, hn] at hrow
  have hgl := (hrow.lt g rfl).2
  refine OwnT.reorder eRow_ok hT hsub hp ?_ (fun g' hg' => hg') (sortWorld_size _ _ _ _ _ _) (fun k hk hne => sortWorld_other _ _ _ _ _ _ hk fun e => hne (by rw [e]; rfl))
  have hl : ((d.toList.take m).map (·.1)).length = m := by simp; omega
  rw [hl, flat_hd fun t ht => hT.len t (hsub t ht), List.map_map]
  have h1 := ownsRow_put encM (q := q) hrow d hd1 hm
  have h2 : (d.toList.map encM).take m = (d.toList.take m).map (hd ∘ fun x => x.1) := by rw [← List.map_take]; rfl
  rw [h2] at h1
  refine ownsRow_keep (ownsRow_base h1 fun _ _ => Nat.zero_le _) fun g' hg' => ?_
  unfold sortWorld
  rw [heap_grow_old _ _ ?_]
  simp [Value.ownBlock] at hg'
  subst hg'
  simp [putRow, mapBlock]
  exact hgl

set_option maxRecDepth 100000 in
theorem sortRows_own (A : Option Addr) (n c lo hi : Nat) (rs : List (List Int)) (w : World) (ho : OwnR w lo hi (.slice A n c) rs) (hn62 : n < 4611686018427387904) :
    Calls Tryz.prog 77 #[.slice A n c, .func (.func 78) #[] #[]] w fun e w' => e = .returned (.tuple #[]) ∧ ∃ rs', OwnR w' lo hi (.slice A n c) rs' ∧ rs'.Perm rs ∧ rs'.Pairwise (fun a b => ¬ cmpL b a < 0) ∧ Chg lo hi w w' := by
  have hlen := ho.len_eq
  by_cases h0 : n = 0
  · subst h0
    obtain rfl := List.length_eq_zero_iff.1 hlen
    refine (Tryz.slices_SortFunc_none (α := Nat) A c (.func (.func 78) #[] #[]) w).mono ?_
    rintro e w' ⟨rfl, rfl⟩
    exact ⟨rfl, [], ho, .refl _, .nil, ⟨rfl, rfl, rfl, Nat.le_refl _, fun _ _ _ => rfl⟩⟩
  obtain ⟨F, ⟨ts, rfl, hT⟩, hF⟩ := ho
  rw [List.length_map] at hlen
  have hrow := hT.row
  rw [flat_hd hT.len, hlen] at hrow
  obtain ⟨g, c', hv, _, hglt, _, _⟩ := ownsRow_cell hrow (i := 0) (by omega)
  injection hv with hA _ hcc
  subst hA hcc
  have hcap : n ≤ c ∧ c ≤ maxLen := by
    rcases hrow.2 with ⟨hv, _⟩ | ⟨g', cap, cur, hv, _, _, hnc, hcm, _⟩
    · cases hv
    · injection hv with _ _ h3
      subst h3
      exact ⟨hnc, hcm⟩
  have hsz : (arrM ts).size = n := by rw [arrM_size, hlen]
  have hg := hF g (hT.head g rfl).1
  have eg : ∀ args w, (callFunc 78 args).run Tryz.prog w = .ok (.enter 78 args) w := enters_of Tryz.func78 (by kernel_rfl) rfl
  have hcmp : CmpReads Tryz.prog 78 #[] (encM (ts := ts)) cfM g 0 (arrM ts).size w := fun m os dk hs x y => by
    obtain ⟨A1, c1, e1, r1, m1⟩ := mv_rd (W := sortWorld encM w g 0 m dk os) hT rfl (sortWorld_size _ _ _ _ _ _) (fun k hk hne => sortWorld_other _ _ _ _ _ _ hk hne) x
    obtain ⟨A2, c2, e2, r2, m2⟩ := mv_rd (W := sortWorld encM w g 0 m dk os) hT rfl (sortWorld_size _ _ _ _ _ _) (fun k hk hne => sortWorld_other _ _ _ _ _ _ hk hne) y
    rw [Array.append_empty, e1, e2]
    exact (impl_CompareRows_any A1 A2 _ c1 _ c2 _ _ _ r1 r2 m1 m2).mono fun _ _ ⟨he, hw⟩ => ⟨he, 0, hw.symm⟩
  have hcon := Tryz.slices_SortFunc (encM (ts := ts)) (mv_one hT) cfM (cfM_swo ts) 78 #[] g 0 c (arrM ts) w eg hcmp.lays (holds_row hrow hlen encM _ (arrM_enc ts)) hglt (by rw [hsz]; exact hn62)
  rw [hsz] at hcon
  refine hcon.mono ?_
  rintro e w' ⟨rfl, d', q, os, hp, hso, rfl⟩
  have hd1 : d'.size = n := by rw [hp.1, hsz]
  have hperm : d'.toList.Perm (arrM ts).toList := by
    have := hp.2.2
    rwa [show (arrM ts).extract 0 n = arrM ts by rw [← hsz]; simp, show d'.extract 0 n = d' by rw [← hd1]; simp] at this
  have hpt : (d'.toList.map (·.1)).Perm ts := by have := hperm.map (fun x : Mv ts => x.1); rwa [arrM_val] at this
  have htk : d'.toList.take n = d'.toList := List.take_of_length_le (by simp [hd1])
  have hmain := ownT_put (q := q) (m := n) hT hlen d' hd1 (Nat.le_refl _) os (by rw [htk]; exact fun t ht => hpt.mem_iff.1 ht) (by rw [htk]; exact (List.Perm.pairwise_iff (fun {x y} h k hy hx => h k hx hy) hpt).2 hT.apart)
  rw [htk] at hmain
  refine ⟨rfl, (d'.toList.map (·.1)).map (·.a), ⟨F, ⟨_, rfl, hmain⟩, hF⟩, hpt.map _, ?_, sortWorld_chg _ _ _ _ _ _ _ _ hg.1 hg.2⟩
  rw [List.pairwise_iff_getElem]
  intro i j hi hj hij
  simp at hi hj
  have := hso i j (Nat.zero_le _) hij (by omega)
  unfold ltOf cfM at this
  replace this := of_decide_eq_false this
  rw [getElem!_pos d' j hj, getElem!_pos d' i hi] at this
  simpa [keyM] using this

end

section
open Go.RowKit Go.Deep Go.Sort Go.Lib

theorem sorted1_q (A A' : Option Addr) (n c n' c' : Nat) (zs zs' : List Int) (w : World) (hr : RdI w w.heap.size A n zs) (hr' : RdI w w.heap.size A' n' zs') (hn : n ≤ 9223372036854775807) (hn' : n' ≤ 9223372036854775807) :
    Calls Tryz.prog 80 #[.slice A n c, .slice A' n' c'] w fun e w' => e = .returned (.bool (decide (zs = zs'))) ∧ Qt w w' := by
  go_enter Tryz.func80, Tryz.ntmps80
  go_wp2_with fail
  refine (slicesEqual_q A A' n c n' c' zs zs' w hr hr' hn hn').mono ?_
  rintro e w' ⟨rfl, hq⟩
  have HQ := Lib.hid hq
  clear hq
  go_wp2_with fail
  go_ret
  exact ⟨rfl, HQ.out⟩

theorem take_set_succ {α : Type} (d : Array α) (k : Nat) (x : α) (h : k < d.size) : (d.setIfInBounds k x).toList.take (k + 1) = d.toList.take k ++ [x] := by
  rw [Array.toList_setIfInBounds, List.set_eq_take_append_cons_drop, if_pos (by simpa using h)]
  have hl : (d.toList.take k).length = k := by simp; omega
  rw [List.take_append, hl, List.take_of_length_le (by omega), Nat.add_sub_cancel_left]
  rfl

/-- j places have been looked at; what is kept of them, k items, lies at the head; behind place k - 1 all is as it was. -/
structure CI {ts : List (Item (List Int))} (d : Array (Mv ts)) (j k : Nat) (dk : Array (Mv ts)) : Prop where
  size : dk.size = d.size
  lt : k < j
  low : dk.toList.take k = dd keyM (d.toList.take j)
  high : ∀ i, k ≤ i → dk[i]! = d[i]!

section

variable {ts : List (Item (List Int))} {d dk : Array (Mv ts)} {j k : Nat}

theorem CI.start (h : dd keyM (d.toList.take (j + 1)) = d.toList.take (j + 1)) (h2 : j + 1 < d.size) (he : keyM d[j + 1]! = keyM d[j]!) : CI d (j + 1 + 1) (j + 1) d :=
  ⟨rfl, by omega, by rw [dd_take keyM d h2, if_pos he, h, List.append_nil], fun _ _ => rfl⟩

theorem CI.skip (h : CI d (j + 1) k dk) (h2 : j + 1 < d.size) (he : keyM d[j + 1]! = keyM d[j]!) : CI d (j + 1 + 1) k dk :=
  ⟨h.size, by have := h.lt; omega, by rw [dd_take keyM d h2, if_pos he, h.low, List.append_nil], h.high⟩

theorem CI.keep (h : CI d (j + 1) k dk) (h2 : j + 1 < d.size) (he : ¬ keyM d[j + 1]! = keyM d[j]!) : CI d (j + 1 + 1) (k + 1) (dk.setIfInBounds k d[j + 1]!) :=
  ⟨by simp [h.size], by have := h.lt; omega, by rw [take_set_succ _ _ _ (by have := h.lt; have := h.size; omega), dd_take keyM d h2, if_neg he, h.low], fun i hi => by
    rw [getElem!_set_other dk k i _ (by omega), h.high i (by omega)]⟩

end

set_option maxRecDepth 100000 in
set_option maxHeartbeats 1000000 in
theorem compact_any {F : Nat → Prop} {ts : List (Item (List Int))} (g n c : Nat) (d : Array (Mv ts)) (w : World) (hT : OwnT 27 1 ERow w F (.slice (some ⟨g, 0, none⟩) n c) ts) (hcap : n ≤ c) (hmax : c ≤ 9223372036854775807) (hd : d.size = n) (hH : Holds encM w g 0 d) :
    Calls Tryz.prog 79 #[.slice (some ⟨g, 0, none⟩) n c, .func (.func 80) #[] #[]] w fun e w' =>
      ∃ (m q : Nat) (dk : Array (Mv ts)), e = .returned (.slice (some ⟨g, 0, none⟩) m c) ∧ w' = putRow encM (Sort.ahead w q) g 0 dk ∧ dk.size = n ∧ m ≤ n ∧ dk.toList.take m = dd keyM d.toList := by
  have HD := Lib.hid hd
  have same : Hid (∀ w', Qt w w' → dd keyM d.toList = d.toList → ∃ (m q : Nat) (dk : Array (Mv ts)), Ending.returned (.slice (some ⟨g, 0, none⟩) n c) = .returned (.slice (some ⟨g, 0, none⟩) m c) ∧ w' = putRow encM (Sort.ahead w q) g 0 dk ∧ dk.size = n ∧ m ≤ n ∧ dk.toList.take m = dd keyM d.toList) := fun w' ⟨q, hq⟩ hall =>
    ⟨n, q, d, rfl, hq.trans (putRow_self encM (Sort.ahead w q) g 0 d (holds_ahead encM w q g 0 d hH)).symm, hd, Nat.le_refl _, by rw [hall]; exact List.take_of_length_le (by simp [hd])⟩
  clear hd
  by_cases h2 : n < 2
  · have hall : Hid (dd keyM d.toList = d.toList) := by
      show _ = _
      have hl : d.toList.length < 2 := by simpa [HD.out] using h2
      match h : d.toList with
      | [] => rfl
      | [x] => rfl
      | x :: y :: l => rw [h] at hl; simp at hl; omega
    clear hH
    go_enter Tryz.func79, Tryz.ntmps79
    go_wp2_with fail
    go_ret
    exact same.out w (Qt.refl _) hall.out
  have KS : Hid (∀ (W : World) (x y : Mv ts), w.heap.size ≤ W.heap.size → (∀ k, k < w.heap.size → k ≠ g → W.heap[k]? = w.heap[k]?) → Calls Tryz.prog 80 #[encM x, encM y] W fun e w' => e = .returned (.bool (decide (keyM x = keyM y))) ∧ Qt W w') := fun W x y hs hk => by
    obtain ⟨A1, c1, e1, r1, m1⟩ := mv_rd (W := W) hT rfl hs hk x
    obtain ⟨A2, c2, e2, r2, m2⟩ := mv_rd (W := W) hT rfl hs hk y
    rw [e1, e2]
    exact sorted1_q A1 A2 _ c1 _ c2 _ _ W r1 r2 m1 m2
  have KF : Hid (∀ x : Mv ts, ∃ A c, encM x = .slice A (keyM x).length c) := fun x => by
    obtain ⟨A1, c1, e1, _⟩ := mv_rd (W := w) hT rfl (Nat.le_refl _) (fun _ _ _ => rfl) x
    exact ⟨A1, c1, e1⟩
  have HH := Lib.hid hH
  have HC : Hid (∀ j, j < n → w.cell? ⟨g, j, none⟩ = some (encM d[j]!) ∧ w.frozen? ⟨g, j, none⟩ = false) := fun j hj => by have := HH.out j (by rw [HD.out]; exact hj); rwa [Nat.zero_add] at this
  clear hH
  go_enter Tryz.func79, Tryz.ntmps79
  go_wp2_with fail
  go_loopw [5] (fun i wr => ∃ k : Nat, k + 1 ≤ n ∧ i = .int .i64 (((k + 1 : Nat) : Int)) ∧ Hid (dd keyM (d.toList.take (k + 1)) = d.toList.take (k + 1)) ∧ Qt w wr) (fun i _ => n - (intOf i).toNat)
  case atStart =>
    refine ⟨0, by omega, by go_num, ?_, Qt.refl _⟩
    show _ = _
    match h : d.toList with
    | [] => rfl
    | x :: l => rfl
  case round =>
    obtain ⟨k, hk, rfl, hall, hqt⟩ := hrel
    by_cases hlt : k + 1 < n
    · have hc1 := (hqt.cell (p := ⟨g, k + 1, none⟩)).trans (HC.out (k + 1) hlt).1
      have hc0 := (hqt.cell (p := ⟨g, k, none⟩)).trans (HC.out k (by omega)).1
      have KE := fun q => KS.out (wr.drewN q) d[k + 1]! d[k]! (by show _ ≤ wr.heap.size; rw [hqt.heap]; exact Nat.le_refl _) (fun j _ _ => by show wr.heap[j]? = _; rw [hqt.heap])
      obtain ⟨A1, l1, e1⟩ := KF.out d[k + 1]!
      obtain ⟨A0, l0, e0⟩ := KF.out d[k]!
      rw [e1] at hc1
      rw [e0] at hc0
      rw [e1, e0] at KE
      generalize (keyM d[k + 1]!).length = n1 at hc1 KE
      generalize (keyM d[k]!).length = n0 at hc0 KE
      clear e1 e0
      have g0 : IntKind.i64.wrap ((((k + 1 : Nat) : Int)) - 1) = (k : Int) := by rw [IntWalk.i64_in _ (by omega)]; omega
      have g1 : (0 : Int) ≤ (k : Int) := by omega
      have g2 : (k : Int) < (n : Int) := by omega
      have g3 : (k : Int).toNat = k := by omega
      have g4 : (0 : Int) ≤ (((k + 1 : Nat) : Int)) := by omega
      have g5 : (((k + 1 : Nat) : Int)) < (n : Int) := by omega
      have g6 : (((k + 1 : Nat) : Int)).toNat = k + 1 := by omega
      by_cases hdup : keyM d[k + 1]! = keyM d[k]!
      · have HE := Lib.hid hdup
        have KE' : Hid (∀ q, Calls Tryz.prog 80 #[.slice A1 n1 l1, .slice A0 n0 l0] (wr.drewN q) fun e w' => e = .returned (.bool true) ∧ Qt (wr.drewN q) w') := fun q => by have := KE q; rwa [decide_eq_true hdup] at this
        clear KE hdup
        go_wp2_with fail
        go_quiet ((go_at_call 80; exact Calls.quiet_of (KE'.out _)))
        clear g0 g3 g6
        go_wp2_with fail
        go_loopw [5, 7] (fun s5 s7 wr => ∃ (kk k2 : Nat) (dk : Array (Mv ts)), s5 = .int .i64 (kk : Int) ∧ s7 = .int .i64 (((k2 + 1 : Nat) : Int)) ∧ k + 1 + (k2 + 1) ≤ n ∧ Hid (∃ q, wr = putRow encM (Sort.ahead w q) g 0 dk) ∧ Hid (CI d (k + 1 + (k2 + 1)) kk dk)) (fun _ s7 _ => n - (intOf s7).toNat)
        case atStart =>
          refine ⟨k + 1, 0, d, by go_num, by go_num, by omega, ?_, CI.start hall.out (by rw [HD.out]; omega) HE.out⟩
          obtain ⟨q, hq⟩ := hqt.drewN nq
          exact ⟨q, hq.trans (putRow_self encM (Sort.ahead w q) g 0 d (holds_ahead encM w q g 0 d HH.out)).symm⟩
        case round =>
          clear hc1 hc0 KE' g1 g2 g4 g5
          obtain ⟨kk, k2, dk, rfl, rfl, hle, hw, hI⟩ := hrel
          have hkk := hI.out.lt
          have hds := hI.out.size
          rw [HD.out] at hds
          have HS := Lib.hid hds
          have hHk : ∀ j, j < n → wr.cell? ⟨g, j, none⟩ = some (encM dk[j]!) ∧ wr.frozen? ⟨g, j, none⟩ = false := fun j hj => by
            obtain ⟨q, hq⟩ := hw.out
            have := holds_putRow encM (Sort.ahead w q) g 0 d dk (holds_ahead encM w q g 0 d HH.out) hI.out.size j (by rw [HS.out]; exact hj)
            rw [← hq] at this
            rwa [Nat.zero_add] at this
          by_cases hlt2 : k + 1 + (k2 + 1) < n
          · have hc1 := (hHk (k + 1 + (k2 + 1)) hlt2).1
            have hc0 := (hHk (k + 1 + k2) (by omega)).1
            have hcs := hHk kk (by omega)
            have hcs0 := hcs.1
            have hcs1 := hcs.2
            rw [hI.out.high _ (by omega)] at hc1 hc0
            have KE := fun q => KS.out (wr.drewN q) d[k + 1 + (k2 + 1)]! d[k + 1 + k2]! (by obtain ⟨q', hq'⟩ := hw.out; rw [hq']; simp [putRow, mapBlock, Sort.ahead, World.drewN]) (fun j _ hne => by obtain ⟨q', hq'⟩ := hw.out; show wr.heap[j]? = _; rw [hq']; exact putRow_other encM w dk hne)
            obtain ⟨A1, l1, e1⟩ := KF.out d[k + 1 + (k2 + 1)]!
            obtain ⟨A0, l0, e0⟩ := KF.out d[k + 1 + k2]!
            have E1 := Lib.hid e1
            rw [e1] at hc1
            rw [e0] at hc0
            rw [e1, e0] at KE
            generalize (keyM d[k + 1 + (k2 + 1)]!).length = n1 at hc1 KE E1
            generalize (keyM d[k + 1 + k2]!).length = n0 at hc0 KE
            generalize encM dk[kk]! = old at hcs0
            clear e1 e0 hcs hHk hds
            have g0 : IntKind.i64.wrap ((((k2 + 1 : Nat) : Int)) - 1) = (k2 : Int) := by rw [IntWalk.i64_in _ (by omega)]; omega
            have g1 : (0 : Int) ≤ (k2 : Int) := by omega
            have g2 : (k2 : Int) < ((n - (k + 1) : Nat) : Int) := by omega
            have g3 : (k2 : Int).toNat = k2 := by omega
            have g4 : (0 : Int) ≤ (((k2 + 1 : Nat) : Int)) := by omega
            have g5 : (((k2 + 1 : Nat) : Int)) < ((n - (k + 1) : Nat) : Int) := by omega
            have g6 : (((k2 + 1 : Nat) : Int)).toNat = k2 + 1 := by omega
            have g7 : (0 : Int) ≤ (kk : Int) := by omega
            have g8 : (kk : Int) < (n : Int) := by omega
            have g9 : (kk : Int).toNat = kk := by omega
            have HI2 := Lib.hid (show k + 1 + (k2 + 1) < d.size by rw [HD.out]; exact hlt2)
            by_cases hdup2 : keyM d[k + 1 + (k2 + 1)]! = keyM d[k + 1 + k2]!
            · have HE2 := Lib.hid hdup2
              have KE' : Hid (∀ q, Calls Tryz.prog 80 #[.slice A1 n1 l1, .slice A0 n0 l0] (wr.drewN q) fun e w' => e = .returned (.bool true) ∧ Qt (wr.drewN q) w') := fun q => by have := KE q; rwa [decide_eq_true hdup2] at this
              clear KE hdup2
              go_wp2_with fail
              go_quiet ((go_at_call 80; exact Calls.quiet_of (KE'.out _)))
              clear g0 g3 g6 g9
              go_wp2_with fail
              refine ⟨⟨kk, k2 + 1, dk, by go_num, by go_num, by omega, ?_, hI.out.skip HI2.out HE2.out⟩, ?_⟩
              · obtain ⟨q', hq'⟩ := hw.out
                exact ⟨q' + _, by rw [hq', putRow_drewN]⟩
              · simp [intOf]
                omega
            · have HE2 := Lib.hid hdup2
              have KE' : Hid (∀ q, Calls Tryz.prog 80 #[.slice A1 n1 l1, .slice A0 n0 l0] (wr.drewN q) fun e w' => e = .returned (.bool false) ∧ Qt (wr.drewN q) w') := fun q => by have := KE q; rwa [decide_eq_false hdup2] at this
              clear KE hdup2
              go_wp2_with fail
              go_quiet ((go_at_call 80; exact Calls.quiet_of (KE'.out _)))
              clear g0 g3 g6
              go_wp2_with fail
              refine ⟨⟨kk + 1, k2 + 1, dk.setIfInBounds kk d[k + 1 + (k2 + 1)]!, by go_num, by go_num, by omega, ?_, hI.out.keep HI2.out HE2.out⟩, ?_⟩
              · obtain ⟨q', hq'⟩ := hw.out
                refine ⟨q' + nq, ?_⟩
                rw [← E1.out, hq', putRow_drewN]
                have := putRow_set encM (Sort.ahead w (q' + nq)) g 0 dk kk d[k + 1 + (k2 + 1)]! (by rw [HS.out]; omega)
                rwa [Nat.zero_add] at this
              · simp [intOf]
                omega
          · have hend : k + 1 + (k2 + 1) = n := by omega
            have hkn : kk < n := by omega
            have hcl : ∀ ty, (Builtin.clear_ #[49] ty #[.slice (some ⟨g, kk, none⟩) (n - kk) (c - kk)]).run Tryz.prog wr = .ok (.tuple #[]) (wr.setCells g kk (List.replicate (n - kk) (.slice none 0 0))) := fun ty =>
              Lib.run_clear_slice wr _ 27 ty (.slice none 0 0) Tryz.underlying49 (fun w => by kernel_rfl) rfl rfl g kk _ _ (by omega) (fun j hj => by rw [(hHk (kk + j) (by omega)).1]; rfl) (fun j hj => (hHk (kk + j) (by omega)).2)
            have HE := Lib.hid hend
            have g7 : (0 : Int) ≤ (kk : Int) := by omega
            have g8 : (kk : Int) < (n : Int) := by omega
            have hfin : Hid (∃ q, wr.setCells g kk (List.replicate (n - kk) (.slice none 0 0)) = putRow encM (Sort.ahead w q) g 0 (lay dk kk (List.replicate (n - kk) (⟨nilT, .inl rfl⟩ : Mv ts)))) := by
              obtain ⟨q, hq⟩ := hw.out
              refine ⟨q, ?_⟩
              have := putRow_setCells encM (Sort.ahead w q) g 0 (List.replicate (n - kk) (⟨nilT, .inl rfl⟩ : Mv ts)) dk kk (by rw [HS.out]; simp; omega)
              rw [Nat.zero_add, List.map_replicate, ← hq] at this
              exact this
            clear hHk hend hds
            go_wp2_with fail
            go_ret
            obtain ⟨q, hq⟩ := hfin.out
            have hI2 := hI.out
            rw [HE.out] at hI2
            refine ⟨kk, q, _, rfl, hq, ?_, by omega, ?_⟩
            · rw [lay_size, HS.out]
            · have hz : (List.replicate (n - kk) (⟨nilT, .inl rfl⟩ : Mv ts)).length = n - kk := by simp
              have h1 : (lay dk kk (List.replicate (n - kk) (⟨nilT, .inl rfl⟩ : Mv ts))).toList.take kk = dk.toList.take kk := by
                apply List.ext_getElem?
                intro i
                rw [List.getElem?_take, List.getElem?_take]
                split
                · rename_i hi
                  rw [Array.getElem?_toList, Array.getElem?_toList, lay_get? _ _ _ _ (by rw [hz, HS.out]; omega), if_neg (by omega)]
                · rfl
              rw [h1, hI2.low, List.take_of_length_le (by simp [HD.out])]
      · have HE := Lib.hid hdup
        have KE' : Hid (∀ q, Calls Tryz.prog 80 #[.slice A1 n1 l1, .slice A0 n0 l0] (wr.drewN q) fun e w' => e = .returned (.bool false) ∧ Qt (wr.drewN q) w') := fun q => by have := KE q; rwa [decide_eq_false hdup] at this
        clear KE hdup
        go_wp2_with fail
        go_quiet ((go_at_call 80; exact Calls.quiet_of (KE'.out _)))
        clear g0 g3 g6
        go_wp2_with fail
        refine ⟨⟨k + 1, by omega, by go_num, ?_, hqt.drewN _⟩, ?_⟩
        · show _ = _
          rw [dd_take keyM d (by rw [HD.out]; exact hlt), if_neg HE.out, hall.out, List.take_add_one (i := k + 1), Array.getElem?_toList, Array.getElem?_eq_getElem (by rw [HD.out]; exact hlt), getElem!_pos d (k + 1) (by rw [HD.out]; exact hlt)]
          rfl
        · simp [intOf]
          omega
    · obtain rfl : k + 1 = n := by omega
      have hf := hall.out
      rw [List.take_of_length_le (by simp [HD.out])] at hf
      have HF := Lib.hid hf
      clear hf hall
      go_wp2_with fail
      go_ret
      exact same.out _ hqt HF.out

theorem putRow_sort {α : Type} [Inhabited α] (enc : α → Value) (w : World) (g q : Nat) (d : Array α) : putRow enc (Sort.ahead w q) g 0 d = sortWorld enc w g 0 q d #[] := by
  unfold sortWorld
  rw [grow_empty]

set_option maxRecDepth 100000 in
theorem compactRows_own (A : Option Addr) (n c lo hi : Nat) (rs : List (List Int)) (w : World) (ho : OwnR w lo hi (.slice A n c) rs) (hs : rs.Pairwise (fun a b => ¬ cmpL b a < 0)) :
    Calls Tryz.prog 79 #[.slice A n c, .func (.func 80) #[] #[]] w fun e w' => ∃ (m : Nat) (rs' : List (List Int)), e = .returned (.slice A m c) ∧ OwnR w' lo hi (.slice A m c) rs' ∧ AscP rs' ∧ (∀ x, x ∈ rs' ↔ x ∈ rs) ∧ Chg lo hi w w' := by
  have hlen := ho.len_eq
  by_cases h0 : n = 0
  · subst h0
    obtain rfl := List.length_eq_zero_iff.1 hlen
    have HO := Lib.hid ho
    clear ho hs
    go_enter Tryz.func79, Tryz.ntmps79
    go_wp2_with fail
    go_ret
    exact ⟨0, [], rfl, HO.out, .nil, fun _ => Iff.rfl, ⟨rfl, rfl, rfl, Nat.le_refl _, fun _ _ _ => rfl⟩⟩
  obtain ⟨F, ⟨ts, rfl, hT⟩, hF⟩ := ho
  rw [List.length_map] at hlen
  have hrow := hT.row
  rw [flat_hd hT.len, hlen] at hrow
  obtain ⟨g, c', hv, _, hglt, _, _⟩ := ownsRow_cell hrow (i := 0) (by omega)
  injection hv with hA _ hcc
  subst hA hcc
  have hcap : n ≤ c ∧ c ≤ maxLen := by
    rcases hrow.2 with ⟨hv, _⟩ | ⟨g', cap, cur, hv, _, _, hnc, hcm, _⟩
    · cases hv
    · injection hv with _ _ h3
      subst h3
      exact ⟨hnc, hcm⟩
  have hsz : (arrM ts).size = n := by rw [arrM_size, hlen]
  have hg := hF g (hT.head g rfl).1
  refine (compact_any g n c (arrM ts) w hT hcap.1 (by have := hcap.2; unfold maxLen at this; omega) hsz (holds_row hrow hlen encM _ (arrM_enc ts))).mono ?_
  rintro e w' ⟨m, q, dk, rfl, rfl, hd1, hm, hlow⟩
  rw [putRow_sort]
  have hsub : ((dd keyM (arrM ts).toList).map (·.1)).Sublist ts := by have := (dd_sub keyM (arrM ts).toList).map (fun x : Mv ts => x.1); rwa [arrM_val] at this
  have hmain := ownT_put (q := q) hT hlen dk hd1 hm #[] (by rw [hlow]; exact fun t ht => hsub.subset ht) (by rw [hlow]; exact hT.apart.sublist hsub)
  rw [hlow] at hmain
  have hmm : ((dd keyM (arrM ts).toList).map (·.1)).map (·.a) = (dd keyM (arrM ts).toList).map keyM := by rw [List.map_map]; rfl
  have hall : ts.map (·.a) = (arrM ts).toList.map keyM := by
    have : (arrM ts).toList.map keyM = ((arrM ts).toList.map (·.1)).map (·.a) := by rw [List.map_map]; rfl
    rw [this, arrM_val]
  rw [hall] at hs ⊢
  refine ⟨m, (dd keyM (arrM ts).toList).map keyM, rfl, ⟨F, ⟨_, hmm.symm, hmain⟩, hF⟩, List.pairwise_map.2 (dd_asc keyM _ (List.pairwise_map.1 hs)), fun x => ⟨fun hx => ?_, fun hx => ?_⟩, sortWorld_chg _ _ _ _ _ _ _ _ hg.1 hg.2⟩
  · obtain ⟨y, hy, rfl⟩ := List.mem_map.1 hx
    exact List.mem_map.2 ⟨y, (dd_sub keyM _).subset hy, rfl⟩
  · obtain ⟨y, hy, rfl⟩ := List.mem_map.1 hx
    obtain ⟨z, hz, he⟩ := dd_mem keyM _ y hy
    exact List.mem_map.2 ⟨z, hz, he⟩

end

section
open Go.RowKit Go.Deep
open Go.RowKit Go.Deep

/-- What spec.l4Put lays behind the rows it has seen ('put': the new row lies already). -/
def putA (r : List Int) : Bool → List (List Int) → List (List Int)
  | put, [] => if put then [] else [r]
  | put, x :: l => if 0 < cmpL x r ∧ put = false then r :: x :: putA r true l else x :: putA r (put || decide (cmpL x r = 0)) l

theorem putA_true (r : List Int) : ∀ l : List (List Int), putA r true l = l
  | [] => rfl
  | x :: l => by rw [putA, if_neg (by simp), Bool.true_or, putA_true r l]

theorem putA_mem (r : List Int) : ∀ (l : List (List Int)) (x : List Int), x ∈ putA r false l ↔ x = r ∨ x ∈ l
  | [], x => by simp [putA]
  | y :: l, x => by
    rw [putA]
    by_cases h : 0 < cmpL y r
    · rw [if_pos ⟨h, rfl⟩, putA_true]
      simp
    · rw [if_neg (by simp [h]), Bool.false_or]
      by_cases e : cmpL y r = 0
      · rw [decide_eq_true e, putA_true, cmpL_eq e]
        simp
      · rw [decide_eq_false e, List.mem_cons, putA_mem r l x, List.mem_cons]
        constructor
        · rintro (h | h | h)
          · exact .inr (.inl h)
          · exact .inl h
          · exact .inr (.inr h)
        · rintro (h | h | h)
          · exact .inr (.inl h)
          · exact .inl h
          · exact .inr (.inr h)

theorem putA_asc (r : List Int) : ∀ (l : List (List Int)), AscP l → AscP (putA r false l)
  | [], _ => by simp [putA]
  | y :: l, h => by
    obtain ⟨h1, h2⟩ := List.pairwise_cons.1 h
    rw [putA]
    by_cases hp : 0 < cmpL y r
    · rw [if_pos ⟨hp, rfl⟩, putA_true]
      have hr : cmpL r y < 0 := by rw [cmpL_swap]; omega
      refine List.pairwise_cons.2 ⟨fun z hz => ?_, h⟩
      rcases List.mem_cons.1 hz with rfl | hz
      · exact hr
      · exact cmpL_trans hr (h1 z hz)
    · rw [if_neg (by simp [hp]), Bool.false_or]
      by_cases e : cmpL y r = 0
      · rw [decide_eq_true e, putA_true]
        exact h
      · rw [decide_eq_false e]
        refine List.pairwise_cons.2 ⟨fun z hz => ?_, putA_asc r l h2⟩
        rcases (putA_mem r l z).1 hz with rfl | hz
        · omega
        · exact h1 z hz

theorem putA_len (r : List Int) : ∀ (l : List (List Int)), l.length ≤ (putA r false l).length ∧ (putA r false l).length ≤ l.length + 1
  | [] => by simp [putA]
  | y :: l => by
    rw [putA]
    by_cases hp : 0 < cmpL y r
    · rw [if_pos ⟨hp, rfl⟩, putA_true]
      simp
    · rw [if_neg (by simp [hp]), Bool.false_or]
      by_cases e : cmpL y r = 0
      · rw [decide_eq_true e, putA_true]
        simp
      · rw [decide_eq_false e]
        have := putA_len r l
        simp only [List.length_cons]
        omega

theorem putA_sum (r : List Int) : ∀ (l : List (List Int)), sumL (putA r false l) ≤ sumL l + r.length
  | [] => by simp [putA, sumL]
  | y :: l => by
    rw [putA]
    by_cases hp : 0 < cmpL y r
    · rw [if_pos ⟨hp, rfl⟩, putA_true]
      simp only [sumL_cons]
      omega
    · rw [if_neg (by simp [hp]), Bool.false_or]
      by_cases e : cmpL y r = 0
      · rw [decide_eq_true e, putA_true]
        simp only [sumL_cons]
        omega
      · rw [decide_eq_false e]
        have := putA_sum r l
        simp only [sumL_cons]
        omega

/-- Rows put one by one. -/
def putAll (acc : List (List Int)) (rs : List (List Int)) : List (List Int) := rs.foldl (fun a r => putA r false a) acc

/-- Rows in order, each once. -/
def sortL (rs : List (List Int)) : List (List Int) := putAll [] rs

theorem putAll_mem : ∀ (rs acc : List (List Int)) (x : List Int), x ∈ putAll acc rs ↔ x ∈ acc ∨ x ∈ rs
  | [], acc, x => by simp [putAll]
  | r :: rs, acc, x => by
    show x ∈ putAll (putA r false acc) rs ↔ _
    rw [putAll_mem rs, putA_mem, List.mem_cons]
    constructor
    · rintro ((h | h) | h)
      · exact .inr (.inl h)
      · exact .inl h
      · exact .inr (.inr h)
    · rintro (h | h | h)
      · exact .inl (.inr h)
      · exact .inl (.inl h)
      · exact .inr h

theorem putAll_asc : ∀ (rs acc : List (List Int)), AscP acc → AscP (putAll acc rs)
  | [], _, h => h
  | r :: rs, acc, h => putAll_asc rs _ (putA_asc r acc h)

theorem putAll_len : ∀ (rs acc : List (List Int)), acc.length ≤ (putAll acc rs).length ∧ (putAll acc rs).length ≤ acc.length + rs.length
  | [], acc => by simp [putAll]
  | r :: rs, acc => by
    have h1 := putAll_len rs (putA r false acc)
    have h2 := putA_len r acc
    show _ ≤ (putAll (putA r false acc) rs).length ∧ (putAll (putA r false acc) rs).length ≤ _
    simp only [List.length_cons]
    omega

theorem putAll_sum : ∀ (rs acc : List (List Int)), sumL (putAll acc rs) ≤ sumL acc + sumL rs
  | [], acc => by simp [putAll, sumL]
  | r :: rs, acc => by
    have h1 := putAll_sum rs (putA r false acc)
    have h2 := putA_sum r acc
    show sumL (putAll (putA r false acc) rs) ≤ _
    rw [sumL_cons]
    omega

theorem putAll_append (acc a b : List (List Int)) : putAll acc (a ++ b) = putAll (putAll acc a) b := List.foldl_append

theorem sortL_asc (rs : List (List Int)) : AscP (sortL rs) := putAll_asc rs [] .nil

theorem sortL_mem (rs : List (List Int)) (x : List Int) : x ∈ sortL rs ↔ x ∈ rs := by rw [sortL, putAll_mem]; simp

theorem sortL_len (rs : List (List Int)) : (sortL rs).length ≤ rs.length := by have := (putAll_len rs []).2; rw [List.length_nil, Nat.zero_add] at this; exact this

theorem sortL_sum (rs : List (List Int)) : sumL (sortL rs) ≤ sumL rs := by have := putAll_sum rs []; rw [sumL_nil, Nat.zero_add] at this; exact this

theorem sortL_take (rs : List (List Int)) (j : Nat) : (sortL (rs.take j)).length ≤ (sortL rs).length := by
  have h := putAll_append [] (rs.take j) (rs.drop j)
  rw [List.take_append_drop] at h
  rw [sortL, sortL, h]
  exact (putAll_len _ _).1

theorem sortL_of {rs rs' : List (List Int)} (h : AscP rs') (hm : ∀ x, x ∈ rs' ↔ x ∈ rs) : rs' = sortL rs := ascP_unique h (sortL_asc rs) fun x => by rw [hm, sortL_mem]

theorem sortL_snoc {rs : List (List Int)} (h : AscP rs) (r : List Int) : sortL (rs ++ [r]) = putA r false rs := (sortL_of (putA_asc r rs h) fun x => by rw [putA_mem, List.mem_append, List.mem_singleton]; exact or_comm).symm

set_option maxRecDepth 100000 in
theorem sorted_any (A : Option Addr) (n c B : Nat) (rs : List (List Int)) (w : World) (hr : RdR w B A n rs) (hB : B ≤ w.heap.size) (hn : n ≤ 5000000000) (hrow : ∀ r ∈ rs, r.length ≤ 17592186044416) :
    Calls Tryz.prog 54 #[.slice A n c] w (RowsNew (sortL rs) w) := by
  have HN := Lib.hid hr.1
  have hrow' := Lib.hid hrow
  clear hrow
  go_enter Tryz.func54, Tryz.ntmps54
  go_wp2_with fail
  refine (copyRows_any A n c B rs w hr hB hn hrow'.out).mono ?_
  rintro e w1 ⟨A1, c1, rfl, o1, b1⟩
  go_wp2_with fail
  refine (sortRows_own A1 rs.length c1 _ _ rs w1 o1 (by rw [HN.out]; omega)).mono ?_
  rintro e w2 ⟨rfl, rs2, o2, p2, s2, k2⟩
  have S2 := Lib.hid s2
  clear s2
  go_wp2_with fail
  refine (compactRows_own A1 rs.length c1 _ _ rs2 w2 o2 (List.Pairwise.imp (fun {_ _} h => by omega) S2.out)).mono ?_
  rintro e w3 ⟨m, rs3, rfl, o3, a3, m3, k3⟩
  have HF : Hid (rs3 = sortL rs) := sortL_of a3 fun x => by rw [m3, p2.mem_iff]
  have hb := Lib.hid ((b1.trans ((k2.below (Nat.le_refl _) b1.size))).trans ((k3.below (Nat.le_refl _) (Nat.le_trans b1.size k2.size))))
  have ho := Lib.hid (o3.wide (Nat.le_trans k2.size k3.size))
  clear o1 b1 o2 p2 k2 o3 a3 m3 k3
  go_wp2_with fail
  go_ret
  refine RowsNew.of ?_ hb.out
  rw [← HF.out]
  exact ho.out

set_option maxRecDepth 100000 in
set_option maxHeartbeats 4000000 in
theorem l4Put_any (A A' : Option Addr) (n c n' c' B : Nat) (rs : List (List Int)) (r : List Int) (w : World) (hr : RdR w B A n rs) (hr' : RdI w B A' n' r) (hB : B ≤ w.heap.size) (hn : n ≤ 5000000000) (hn' : n' ≤ 17592186044416) (hrow : ∀ r ∈ rs, r.length ≤ 17592186044416) :
    Calls Tryz.prog 61 #[.slice A n c, .slice A' n' c'] w (RowsNew (putA r false rs) w) := by
  obtain ⟨i0, hi, hz0, hz1, hz2⟩ := info_parts info_int
  obtain ⟨i1, hi', hz0', hz1', hz2'⟩ := info_parts info_row
  have hl' := hr'.1
  subst hl'
  have HL := Lib.hid hr.1
  have hrow' := Lib.hid hrow
  clear hrow
  go_enter Tryz.func61, Tryz.ntmps61
  go_wp2_with fail
  go_loopw [5, 6, 7, 8] (fun v put i _ wr => ∃ (k : Nat) (pb : Bool) (R : List (List Int)), k ≤ n ∧ i = .int .i64 k ∧ put = .bool pb ∧ Hid (R ++ putA r pb (rs.drop k) = putA r false rs) ∧ R.length ≤ 2 * k + 1 ∧ Hid (OwnR wr w.heap.size wr.heap.size v R) ∧ Hid (Below w.heap.size w wr)) (fun _ _ i _ _ => n - (intOf i).toNat)
  case atStart => exact ⟨0, false, [], by omega, rfl, rfl, rfl, by simp, OwnR.empty w (Nat.le_refl _), (Below.refl _ _).alloc (Nat.le_refl _) _⟩
  case round =>
    obtain ⟨k, pb, R, hk, rfl, rfl, hput, hRk, hown, hbel⟩ := hrel
    have hsz := hbel.out.size
    obtain ⟨m, hm⟩ : ∃ m, R.length = m := ⟨_, rfl⟩
    have mH := Lib.hid hm
    rw [hm] at hRk
    clear hm
    by_cases hlt : k < n
    · obtain ⟨b, o, x, A1, c1, rfl, hb, hx, hc, hrd, _⟩ := RdR.at_ (RdR.more hr hB) hlt
      have hc1 := (hbel.out.cell (p := ⟨b, o + k, none⟩) hb).trans hc
      have hxl := hrow'.out x (List.mem_of_getElem? hx)
      have hrd1 := (hrd.below hbel.out).more (show w.heap.size ≤ wr.heap.size by omega)
      have hrr1 := (hr'.belowB hbel.out hB).more (show B ≤ wr.heap.size by omega)
      have KE := Lib.hid (spec_CompareRows_q A1 A' x.length c1 r.length c' x r wr hrd1 hrr1 (by omega) (by omega))
      have HD := Lib.hid (show rs.drop k = x :: rs.drop (k + 1) from by
        obtain ⟨h1, h2⟩ := List.getElem?_eq_some_iff.1 hx
        rw [List.drop_eq_getElem_cons h1, h2])
      have g1 : (0 : Int) ≤ (k : Int) := by omega
      have g2 : (k : Int) < (n : Int) := by omega
      have g3 : (k : Int).toNat = k := by omega
      have RD := Lib.hid (show ∀ W, Below w.heap.size w W → RdI W W.heap.size A1 x.length x from fun W b => (hrd.below b).more b.size)
      have RR := Lib.hid (show ∀ W, Below w.heap.size w W → RdI W W.heap.size A' r.length r from fun W b => (hr'.belowB b hB).more (Nat.le_trans hB b.size))
      clear hx hc hrd hrd1 hrr1
      obtain ⟨y, hy⟩ : ∃ y, y = cmpL x r := ⟨_, rfl⟩
      rw [← hy] at KE
      have HY := Lib.hid hy
      clear hy
      by_cases h0 : y = 0
      · subst h0
        have gz := Lib.hid (show cmpL x r = 0 from HY.out.symm)
        have HP : Hid (R ++ [x] ++ putA r true (rs.drop (k + 1)) = putA r false rs) := by
          show _ = _
          rw [← hput.out, HD.out, putA, if_neg (by rw [gz.out]; simp), decide_eq_true gz.out, Bool.or_true]
          simp
        go_wp2_with fail
        refine KE.out.mono ?_
        rintro e w4 ⟨rfl, hq⟩
        have hb4 := hq.below wr.heap.size
        have hs4 := hb4.size
        have own4 := Lib.hid ((hown.out.below hb4 (Nat.le_refl _)).wide hs4)
        have bel4 := Lib.hid (hbel.out.trans (hb4.mono hsz))
        have hc4 := (hb4.cell (p := ⟨b, o + k, none⟩) (by show b < _; omega)).trans hc1
        have l4 : b < w4.heap.size := by omega
        replace hsz : w.heap.size ≤ w4.heap.size := by omega
        clear hc1 hq hb4 hown hbel
        go_wp2_with (first
          | (at_builtin; refine wpList_append_src _ rfl _ _ _ rfl 3 i0 _ 8 Tryz.underlying27 hi hz0 hz1 hz2 rfl (.slice (some ⟨w4.heap.size, 0, none⟩) 0 0) 0 [] rfl (own_at (heap_alloc_new w4 _)) A1 x.length c1 (x.map iv) rfl ((RD.out _ bel4.out).below ((Below.refl _ _).alloc (Nat.le_refl _) _)).src (by simp [iv, Value.oneCell']) (by unfold maxLen; omega) (by omega) ?_; intro v1 w5 hown1 hgrow1 hat1
             obtain ⟨A2, c2', rfl, ho1⟩ := own_of_copy (w := w4) hown1 (hat_ge hat1 (by simp))
             have hb1 : Below w4.heap.size w4 w5 := ((Below.refl w4.heap.size w4).alloc (Nat.le_refl _) (.cells #[] 3)).grown hgrow1 (by simp) (fun j hj => by simp [Value.ownBlock] at hj; omega)
             obtain ⟨xs, hrow1, hblk, hclose⟩ := (own4.out.below hb1 (Nat.le_refl _)).open_
             rw [mH.out] at hrow1
             have hs1 := hb1.size
             have HC := Lib.hid hclose
             have HBK := Lib.hid hblk
             have HO := Lib.hid ho1
             have HB1 := Lib.hid hb1
             have hrow2 := hrow1.alloc (.cells #[.slice A2 x.length c2'] 27)
             clear hown1 hgrow1 hat1 hclose hblk ho1 hb1 hrow1)
          | (at_builtin; refine wpList_append_lies _ rfl _ _ _ rfl 0 27 i1 _ 1 24 Tryz.underlying49 hi' hz0' hz1' hz2' rfl (by omega) _ m xs rfl hrow2 ⟨w5.heap.size, 0, none⟩ 1 1 [.slice A2 x.length c2'] rfl rfl (World.news_of_block (cs := #[.slice A2 x.length c2']) (t := 27) (fr := (0, 0)) (heap_alloc_new w5 _)) (by simp [Value.oneCell']) (by omega) (by unfold maxLen; omega) (by omega) (Nat.zero_le _) (w5.heap.size + 1) (by simp) ?_; intro g cap w6 hown2 hgrow hat hlt2
             have hB2 : Below w.heap.size w4 w6 := ((HB1.out.mono hsz).alloc (by omega) (.cells #[.slice A2 x.length c2'] 27)).grown hgrow (by simp; omega) (fun j hj => (HBK.out j hj).1)
             have hfin := HC.out (w5.alloc (.cells #[.slice A2 x.length c2'] 27)) w6 A2 x c2' w4.heap.size w5.heap.size g cap ((Below.refl _ _).alloc (Nat.le_refl _) _) (HO.out.below ((Below.refl w5.heap.size w5).alloc (Nat.le_refl _) _) (Nat.le_refl _)) (Nat.le_refl _) hsz (by simp) (by simp; omega) (by rw [mH.out]; exact hown2) hgrow (hat.imp (fun h => h) (fun h => by rw [h]; simp))
             rw [mH.out] at hfin
             have HF := Lib.hid (And.intro hfin hB2)
             clear hown2 hgrow hat hB2 hfin HC HBK HO HB1 hrow2 hlt2 hs1)
          | fail)
        refine ⟨⟨k + 1, true, R ++ [x], by omega, by go_num, rfl, HP, by rw [List.length_append, mH.out]; simp; omega, HF.out.1, bel4.out.trans HF.out.2⟩, ?_⟩
        simp [intOf]
        omega
      have q0 : (y == 0) = false := by simpa using h0
      have gz := Lib.hid (show ¬ cmpL x r = 0 from by rw [← HY.out]; exact h0)
      by_cases h1 : 0 < y
      · have q1 : decide (0 < y) = true := decide_eq_true h1
        have gz1 := Lib.hid (show 0 < cmpL x r from by rw [← HY.out]; exact h1)
        clear h0 h1
        cases pb
        · have HP : Hid ((R ++ [r]) ++ [x] ++ putA r true (rs.drop (k + 1)) = putA r false rs) := by
            show _ = _
            rw [← hput.out, HD.out, putA, if_pos ⟨gz1.out, rfl⟩]
            simp
          go_wp2_with fail
          refine KE.out.mono ?_
          rintro e w4 ⟨rfl, hq⟩
          have hb4 := hq.below wr.heap.size
          have hs4 := hb4.size
          have own4 := Lib.hid ((hown.out.below hb4 (Nat.le_refl _)).wide hs4)
          have bel4 := Lib.hid (hbel.out.trans (hb4.mono hsz))
          have hc4 := (hb4.cell (p := ⟨b, o + k, none⟩) (by show b < _; omega)).trans hc1
          have l4 : b < w4.heap.size := by omega
          replace hsz : w.heap.size ≤ w4.heap.size := by omega
          clear hc1 hq hb4 hown hbel
          have mH2 := Lib.hid (show (R ++ [r]).length = m + 1 by rw [List.length_append, mH.out]; rfl)
          go_wp2_with (first
            | (at_builtin; refine wpList_append_src _ rfl _ _ _ rfl 3 i0 _ 8 Tryz.underlying27 hi hz0 hz1 hz2 rfl (.slice (some ⟨w4.heap.size, 0, none⟩) 0 0) 0 [] rfl (own_at (heap_alloc_new w4 _)) A' r.length c' (r.map iv) rfl ((RR.out _ bel4.out).below ((Below.refl _ _).alloc (Nat.le_refl _) _)).src (by simp [iv, Value.oneCell']) (by unfold maxLen; omega) (by omega) ?_; intro v1 w5 hown1 hgrow1 hat1
               obtain ⟨A2, c2', rfl, ho1⟩ := own_of_copy (w := w4) hown1 (hat_ge hat1 (by simp))
               have hb1 : Below w4.heap.size w4 w5 := ((Below.refl w4.heap.size w4).alloc (Nat.le_refl _) (.cells #[] 3)).grown hgrow1 (by simp) (fun j hj => by simp [Value.ownBlock] at hj; omega)
               obtain ⟨xs, hrow1, hblk, hclose⟩ := (own4.out.below hb1 (Nat.le_refl _)).open_
               rw [mH.out] at hrow1
               have hs1 := hb1.size
               have HC := Lib.hid hclose
               have HBK := Lib.hid hblk
               have HO := Lib.hid ho1
               have HB1 := Lib.hid hb1
               have hrow2 := hrow1.alloc (.cells #[.slice A2 r.length c2'] 27)
               clear hown1 hgrow1 hat1 hclose hblk ho1 hb1 hrow1)
            | (at_builtin; refine wpList_append_lies _ rfl _ _ _ rfl 0 27 i1 _ 1 24 Tryz.underlying49 hi' hz0' hz1' hz2' rfl (by omega) _ m xs rfl hrow2 ⟨w5.heap.size, 0, none⟩ 1 1 [.slice A2 r.length c2'] rfl rfl (World.news_of_block (cs := #[.slice A2 r.length c2']) (t := 27) (fr := (0, 0)) (heap_alloc_new w5 _)) (by simp [Value.oneCell']) (by omega) (by unfold maxLen; omega) (by omega) (Nat.zero_le _) (w5.heap.size + 1) (by simp) ?_; intro g cap w6 hown2 hgrow hat hlt2
               have hB2 : Below w.heap.size w4 w6 := ((HB1.out.mono hsz).alloc (by omega) (.cells #[.slice A2 r.length c2'] 27)).grown hgrow (by simp; omega) (fun j hj => (HBK.out j hj).1)
               have hfin := HC.out (w5.alloc (.cells #[.slice A2 r.length c2'] 27)) w6 A2 r c2' w4.heap.size w5.heap.size g cap ((Below.refl _ _).alloc (Nat.le_refl _) _) (HO.out.below ((Below.refl w5.heap.size w5).alloc (Nat.le_refl _) _) (Nat.le_refl _)) (Nat.le_refl _) hsz (by simp) (by simp; omega) (by rw [mH.out]; exact hown2) hgrow (hat.imp (fun h => h) (fun h => by rw [h]; simp))
               rw [mH.out] at hfin
               have HF0 := Lib.hid (And.intro hfin hB2)
               clear hown2 hgrow hat hB2 hfin HC HBK HO HB1 hrow2 hlt2 hs1
               have own6 := Lib.hid HF0.out.1
               have bel6 := Lib.hid (bel4.out.trans HF0.out.2)
               have hc6 := (HF0.out.2.cell (p := ⟨b, o + k, none⟩) hb).trans hc4
               have hs6 := HF0.out.2.size
               have l6 : b < w6.heap.size := by omega
               clear hc4
               replace hsz : w.heap.size ≤ w6.heap.size := by omega)
            | (at_builtin; refine wpList_append_src _ rfl _ _ _ rfl 3 i0 _ 8 Tryz.underlying27 hi hz0 hz1 hz2 rfl (.slice (some ⟨w6.heap.size, 0, none⟩) 0 0) 0 [] rfl (own_at (heap_alloc_new w6 _)) A1 x.length c1 (x.map iv) rfl ((RD.out _ bel6.out).below ((Below.refl _ _).alloc (Nat.le_refl _) _)).src (by simp [iv, Value.oneCell']) (by unfold maxLen; omega) (by omega) ?_; intro v1 w7 hown1 hgrow1 hat1
               obtain ⟨A2, c2', rfl, ho1⟩ := own_of_copy (w := w6) hown1 (hat_ge hat1 (by simp))
               have hb1 : Below w6.heap.size w6 w7 := ((Below.refl w6.heap.size w6).alloc (Nat.le_refl _) (.cells #[] 3)).grown hgrow1 (by simp) (fun j hj => by simp [Value.ownBlock] at hj; omega)
               obtain ⟨xs, hrow1, hblk, hclose⟩ := (own6.out.below hb1 (Nat.le_refl _)).open_
               rw [mH2.out] at hrow1
               have hs1 := hb1.size
               have HC := Lib.hid hclose
               have HBK := Lib.hid hblk
               have HO := Lib.hid ho1
               have HB1 := Lib.hid hb1
               have hrow2 := hrow1.alloc (.cells #[.slice A2 x.length c2'] 27)
               clear hown1 hgrow1 hat1 hclose hblk ho1 hb1 hrow1)
            | (at_builtin; refine wpList_append_lies _ rfl _ _ _ rfl 0 27 i1 _ 1 24 Tryz.underlying49 hi' hz0' hz1' hz2' rfl (by omega) _ (m + 1) xs rfl hrow2 ⟨w7.heap.size, 0, none⟩ 1 1 [.slice A2 x.length c2'] rfl rfl (World.news_of_block (cs := #[.slice A2 x.length c2']) (t := 27) (fr := (0, 0)) (heap_alloc_new w7 _)) (by simp [Value.oneCell']) (by omega) (by unfold maxLen; omega) (by omega) (Nat.zero_le _) (w7.heap.size + 1) (by simp) ?_; intro g cap w8 hown2 hgrow hat hlt2
               have hB2 : Below w.heap.size w6 w8 := ((HB1.out.mono hsz).alloc (by omega) (.cells #[.slice A2 x.length c2'] 27)).grown hgrow (by simp; omega) (fun j hj => (HBK.out j hj).1)
               have hfin := HC.out (w7.alloc (.cells #[.slice A2 x.length c2'] 27)) w8 A2 x c2' w6.heap.size w7.heap.size g cap ((Below.refl _ _).alloc (Nat.le_refl _) _) (HO.out.below ((Below.refl w7.heap.size w7).alloc (Nat.le_refl _) _) (Nat.le_refl _)) (Nat.le_refl _) hsz (by simp) (by simp; omega) (by rw [mH2.out]; exact hown2) hgrow (hat.imp (fun h => h) (fun h => by rw [h]; simp))
               rw [mH2.out] at hfin
               have HF := Lib.hid (And.intro hfin hB2)
               clear hown2 hgrow hat hB2 hfin HC HBK HO HB1 hrow2 hlt2 hs1)
            | fail)
          refine ⟨⟨k + 1, true, (R ++ [r]) ++ [x], by omega, by go_num, rfl, HP, by rw [List.length_append, mH2.out]; simp; omega, HF.out.1, bel6.out.trans HF.out.2⟩, ?_⟩
          simp [intOf]
          omega
        · have HP : Hid (R ++ [x] ++ putA r true (rs.drop (k + 1)) = putA r false rs) := by
            show _ = _
            rw [← hput.out, HD.out, putA, if_neg (by simp), Bool.true_or]
            simp
          go_wp2_with fail
          refine KE.out.mono ?_
          rintro e w4 ⟨rfl, hq⟩
          have hb4 := hq.below wr.heap.size
          have hs4 := hb4.size
          have own4 := Lib.hid ((hown.out.below hb4 (Nat.le_refl _)).wide hs4)
          have bel4 := Lib.hid (hbel.out.trans (hb4.mono hsz))
          have hc4 := (hb4.cell (p := ⟨b, o + k, none⟩) (by show b < _; omega)).trans hc1
          have l4 : b < w4.heap.size := by omega
          replace hsz : w.heap.size ≤ w4.heap.size := by omega
          clear hc1 hq hb4 hown hbel
          go_wp2_with (first
            | (at_builtin; refine wpList_append_src _ rfl _ _ _ rfl 3 i0 _ 8 Tryz.underlying27 hi hz0 hz1 hz2 rfl (.slice (some ⟨w4.heap.size, 0, none⟩) 0 0) 0 [] rfl (own_at (heap_alloc_new w4 _)) A1 x.length c1 (x.map iv) rfl ((RD.out _ bel4.out).below ((Below.refl _ _).alloc (Nat.le_refl _) _)).src (by simp [iv, Value.oneCell']) (by unfold maxLen; omega) (by omega) ?_; intro v1 w5 hown1 hgrow1 hat1
               obtain ⟨A2, c2', rfl, ho1⟩ := own_of_copy (w := w4) hown1 (hat_ge hat1 (by simp))
               have hb1 : Below w4.heap.size w4 w5 := ((Below.refl w4.heap.size w4).alloc (Nat.le_refl _) (.cells #[] 3)).grown hgrow1 (by simp) (fun j hj => by simp [Value.ownBlock] at hj; omega)
               obtain ⟨xs, hrow1, hblk, hclose⟩ := (own4.out.below hb1 (Nat.le_refl _)).open_
               rw [mH.out] at hrow1
               have hs1 := hb1.size
               have HC := Lib.hid hclose
               have HBK := Lib.hid hblk
               have HO := Lib.hid ho1
               have HB1 := Lib.hid hb1
               have hrow2 := hrow1.alloc (.cells #[.slice A2 x.length c2'] 27)
               clear hown1 hgrow1 hat1 hclose hblk ho1 hb1 hrow1)
            | (at_builtin; refine wpList_append_lies _ rfl _ _ _ rfl 0 27 i1 _ 1 24 Tryz.underlying49 hi' hz0' hz1' hz2' rfl (by omega) _ m xs rfl hrow2 ⟨w5.heap.size, 0, none⟩ 1 1 [.slice A2 x.length c2'] rfl rfl (World.news_of_block (cs := #[.slice A2 x.length c2']) (t := 27) (fr := (0, 0)) (heap_alloc_new w5 _)) (by simp [Value.oneCell']) (by omega) (by unfold maxLen; omega) (by omega) (Nat.zero_le _) (w5.heap.size + 1) (by simp) ?_; intro g cap w6 hown2 hgrow hat hlt2
               have hB2 : Below w.heap.size w4 w6 := ((HB1.out.mono hsz).alloc (by omega) (.cells #[.slice A2 x.length c2'] 27)).grown hgrow (by simp; omega) (fun j hj => (HBK.out j hj).1)
               have hfin := HC.out (w5.alloc (.cells #[.slice A2 x.length c2'] 27)) w6 A2 x c2' w4.heap.size w5.heap.size g cap ((Below.refl _ _).alloc (Nat.le_refl _) _) (HO.out.below ((Below.refl w5.heap.size w5).alloc (Nat.le_refl _) _) (Nat.le_refl _)) (Nat.le_refl _) hsz (by simp) (by simp; omega) (by rw [mH.out]; exact hown2) hgrow (hat.imp (fun h => h) (fun h => by rw [h]; simp))
               rw [mH.out] at hfin
               have HF := Lib.hid (And.intro hfin hB2)
               clear hown2 hgrow hat hB2 hfin HC HBK HO HB1 hrow2 hlt2 hs1)
            | fail)
          refine ⟨⟨k + 1, true, R ++ [x], by omega, by go_num, rfl, HP, by rw [List.length_append, mH.out]; simp; omega, HF.out.1, bel4.out.trans HF.out.2⟩, ?_⟩
          simp [intOf]
          omega
      · have q1 : decide (0 < y) = false := decide_eq_false h1
        have gz1 := Lib.hid (show ¬ 0 < cmpL x r from by rw [← HY.out]; exact h1)
        clear h0 h1
        have HP : Hid (R ++ [x] ++ putA r pb (rs.drop (k + 1)) = putA r false rs) := by
          show _ = _
          rw [← hput.out, HD.out, putA, if_neg (by simp [gz1.out]), decide_eq_false gz.out, Bool.or_false]
          simp
        go_wp2_with fail
        refine KE.out.mono ?_
        rintro e w4 ⟨rfl, hq⟩
        have hb4 := hq.below wr.heap.size
        have hs4 := hb4.size
        have own4 := Lib.hid ((hown.out.below hb4 (Nat.le_refl _)).wide hs4)
        have bel4 := Lib.hid (hbel.out.trans (hb4.mono hsz))
        have hc4 := (hb4.cell (p := ⟨b, o + k, none⟩) (by show b < _; omega)).trans hc1
        have l4 : b < w4.heap.size := by omega
        replace hsz : w.heap.size ≤ w4.heap.size := by omega
        clear hc1 hq hb4 hown hbel
        go_wp2_with (first
          | (at_builtin; refine wpList_append_src _ rfl _ _ _ rfl 3 i0 _ 8 Tryz.underlying27 hi hz0 hz1 hz2 rfl (.slice (some ⟨w4.heap.size, 0, none⟩) 0 0) 0 [] rfl (own_at (heap_alloc_new w4 _)) A1 x.length c1 (x.map iv) rfl ((RD.out _ bel4.out).below ((Below.refl _ _).alloc (Nat.le_refl _) _)).src (by simp [iv, Value.oneCell']) (by unfold maxLen; omega) (by omega) ?_; intro v1 w5 hown1 hgrow1 hat1
             obtain ⟨A2, c2', rfl, ho1⟩ := own_of_copy (w := w4) hown1 (hat_ge hat1 (by simp))
             have hb1 : Below w4.heap.size w4 w5 := ((Below.refl w4.heap.size w4).alloc (Nat.le_refl _) (.cells #[] 3)).grown hgrow1 (by simp) (fun j hj => by simp [Value.ownBlock] at hj; omega)
             obtain ⟨xs, hrow1, hblk, hclose⟩ := (own4.out.below hb1 (Nat.le_refl _)).open_
             rw [mH.out] at hrow1
             have hs1 := hb1.size
             have HC := Lib.hid hclose
             have HBK := Lib.hid hblk
             have HO := Lib.hid ho1
             have HB1 := Lib.hid hb1
             have hrow2 := hrow1.alloc (.cells #[.slice A2 x.length c2'] 27)
             clear hown1 hgrow1 hat1 hclose hblk ho1 hb1 hrow1)
          | (at_builtin; refine wpList_append_lies _ rfl _ _ _ rfl 0 27 i1 _ 1 24 Tryz.underlying49 hi' hz0' hz1' hz2' rfl (by omega) _ m xs rfl hrow2 ⟨w5.heap.size, 0, none⟩ 1 1 [.slice A2 x.length c2'] rfl rfl (World.news_of_block (cs := #[.slice A2 x.length c2']) (t := 27) (fr := (0, 0)) (heap_alloc_new w5 _)) (by simp [Value.oneCell']) (by omega) (by unfold maxLen; omega) (by omega) (Nat.zero_le _) (w5.heap.size + 1) (by simp) ?_; intro g cap w6 hown2 hgrow hat hlt2
             have hB2 : Below w.heap.size w4 w6 := ((HB1.out.mono hsz).alloc (by omega) (.cells #[.slice A2 x.length c2'] 27)).grown hgrow (by simp; omega) (fun j hj => (HBK.out j hj).1)
             have hfin := HC.out (w5.alloc (.cells #[.slice A2 x.length c2'] 27)) w6 A2 x c2' w4.heap.size w5.heap.size g cap ((Below.refl _ _).alloc (Nat.le_refl _) _) (HO.out.below ((Below.refl w5.heap.size w5).alloc (Nat.le_refl _) _) (Nat.le_refl _)) (Nat.le_refl _) hsz (by simp) (by simp; omega) (by rw [mH.out]; exact hown2) hgrow (hat.imp (fun h => h) (fun h => by rw [h]; simp))
             rw [mH.out] at hfin
             have HF := Lib.hid (And.intro hfin hB2)
             clear hown2 hgrow hat hB2 hfin HC HBK HO HB1 hrow2 hlt2 hs1)
          | fail)
        refine ⟨⟨k + 1, pb, R ++ [x], by omega, by go_num, rfl, HP, by rw [List.length_append, mH.out]; simp; omega, HF.out.1, bel4.out.trans HF.out.2⟩, ?_⟩
        simp [intOf]
        omega
    · obtain rfl : k = n := by omega
      have hd := Lib.hid (show rs.drop k = [] from List.drop_of_length_le (Nat.le_of_eq HL.out))
      have RR := Lib.hid (show ∀ W, Below w.heap.size w W → RdI W W.heap.size A' r.length r from fun W b => (hr'.belowB b hB).more (Nat.le_trans hB b.size))
      cases pb
      · have HP : Hid (R ++ [r] = putA r false rs) := by
          show _ = _
          rw [← hput.out, hd.out]
          rfl
        go_wp2_with (first
          | (at_builtin; refine wpList_append_src _ rfl _ _ _ rfl 3 i0 _ 8 Tryz.underlying27 hi hz0 hz1 hz2 rfl (.slice (some ⟨wr.heap.size, 0, none⟩) 0 0) 0 [] rfl (own_at (heap_alloc_new wr _)) A' r.length c' (r.map iv) rfl ((RR.out _ hbel.out).below ((Below.refl _ _).alloc (Nat.le_refl _) _)).src (by simp [iv, Value.oneCell']) (by unfold maxLen; omega) (by omega) ?_; intro v1 w5 hown1 hgrow1 hat1
             obtain ⟨A2, c2', rfl, ho1⟩ := own_of_copy (w := wr) hown1 (hat_ge hat1 (by simp))
             have hb1 : Below wr.heap.size wr w5 := ((Below.refl wr.heap.size wr).alloc (Nat.le_refl _) (.cells #[] 3)).grown hgrow1 (by simp) (fun j hj => by simp [Value.ownBlock] at hj; omega)
             obtain ⟨xs, hrow1, hblk, hclose⟩ := (hown.out.below hb1 (Nat.le_refl _)).open_
             rw [mH.out] at hrow1
             have hs1 := hb1.size
             have HC := Lib.hid hclose
             have HBK := Lib.hid hblk
             have HO := Lib.hid ho1
             have HB1 := Lib.hid hb1
             have hrow2 := hrow1.alloc (.cells #[.slice A2 r.length c2'] 27)
             clear hown1 hgrow1 hat1 hclose hblk ho1 hb1 hrow1)
          | (at_builtin; refine wpList_append_lies _ rfl _ _ _ rfl 0 27 i1 _ 1 24 Tryz.underlying49 hi' hz0' hz1' hz2' rfl (by omega) _ m xs rfl hrow2 ⟨w5.heap.size, 0, none⟩ 1 1 [.slice A2 r.length c2'] rfl rfl (World.news_of_block (cs := #[.slice A2 r.length c2']) (t := 27) (fr := (0, 0)) (heap_alloc_new w5 _)) (by simp [Value.oneCell']) (by omega) (by unfold maxLen; omega) (by omega) (Nat.zero_le _) (w5.heap.size + 1) (by simp) ?_; intro g cap w6 hown2 hgrow hat hlt2
             have hB2 : Below w.heap.size wr w6 := ((HB1.out.mono hsz).alloc (by omega) (.cells #[.slice A2 r.length c2'] 27)).grown hgrow (by simp; omega) (fun j hj => (HBK.out j hj).1)
             have hfin := HC.out (w5.alloc (.cells #[.slice A2 r.length c2'] 27)) w6 A2 r c2' wr.heap.size w5.heap.size g cap ((Below.refl _ _).alloc (Nat.le_refl _) _) (HO.out.below ((Below.refl w5.heap.size w5).alloc (Nat.le_refl _) _) (Nat.le_refl _)) (Nat.le_refl _) hsz (by simp) (by simp; omega) (by rw [mH.out]; exact hown2) hgrow (hat.imp (fun h => h) (fun h => by rw [h]; simp))
             rw [mH.out] at hfin
             have HF := Lib.hid (And.intro hfin hB2)
             clear hown2 hgrow hat hB2 hfin HC HBK HO HB1 hrow2 hlt2 hs1)
          | fail)
        go_ret
        refine RowsNew.of ?_ (hbel.out.trans HF.out.2)
        rw [← HP.out]
        exact HF.out.1
      · have HP : Hid (R = putA r false rs) := by
          show _ = _
          rw [← hput.out, hd.out, putA, if_pos rfl, List.append_nil]
        go_wp2_with fail
        go_ret
        refine RowsNew.of ?_ hbel.out
        rw [← HP.out]
        exact hown.out

end

section
open Go.RowKit Go.Deep

theorem LInv.qt {w W W' : World} {tb rb xb lo : Nat} {t0 t1 t2 x0 x1 v : Value} {R : List (List Int)} (h : LInv w tb rb xb lo t0 t1 t2 x0 x1 R v W) (q : Qt W W') : LInv w tb rb xb lo t0 t1 t2 x0 x1 R v W' := h.next (q.below _)

set_option maxRecDepth 100000 in
set_option maxHeartbeats 4000000 in
theorem spec_DeleteRow_any (nm : ByteArray) (ar : Int) (A A' : Option Addr) (n c n' c' B : Nat) (rs : List (List Int)) (r : List Int) (w : World) (hr : RdR w B A n rs) (hr' : RdI w B A' n' r) (hB : B ≤ w.heap.size) (hn : n ≤ 5000000000) (hn' : n' ≤ 9223372036854775806) (hrow : ∀ r ∈ rs, r.length ≤ 17592186044416) :
    Calls Tryz.prog 28 #[.agg #[.string nm, .int .i64 ar, .slice A n c], .slice A' n' c'] w (TabBool (delR nm ar rs r) w) := by
  obtain ⟨i0, hi, hz0, hz1, hz2⟩ := info_parts info_int
  obtain ⟨i1, hi', hz0', hz1', hz2'⟩ := info_parts info_row
  have HL := Lib.hid hr.1
  have hrow' := Lib.hid hrow
  clear hrow
  have kn0 : Kn w [(w.heap.size, 0, .string nm), (w.heap.size, 1, .int .i64 ar), (w.heap.size, 2, .slice A n c), (w.heap.size + 1, 0, .string { data := #[] }), (w.heap.size + 1, 1, .int .i64 0), (w.heap.size + 1, 2, .slice none 0 0)]
      ((w.alloc (.cells #[.string nm, .int .i64 ar, .slice A n c] 51)).alloc (.cells #[.string { data := #[] }, .int .i64 0, .slice none 0 0] 51)) := by
    simpa using ((Kn.start w).box3 (.string nm) (.int .i64 ar) (.slice A n c) 51).box3 (.string { data := #[] }) (.int .i64 0) (.slice none 0 0) 51
  go_enter Tryz.func28, Tryz.ntmps28
  go_wp2_with fail
  have s0 : w.heap.size + 2 ≤ ((w.alloc (.cells #[.string nm, .int .i64 ar, .slice A n c] 51)).alloc (.cells #[.string { data := #[] }, .int .i64 0, .slice none 0 0] 51)).heap.size := by simp
  generalize (w.alloc (.cells #[.string nm, .int .i64 ar, .slice A n c] 51)).alloc (.cells #[.string { data := #[] }, .int .i64 0, .slice none 0 0] 51) = w0 at kn0 s0 ⊢
  with_reducible refine (l4Copy_any nm ar A n c B rs w0 (RdR.belowB hr kn0.bel hB) (Nat.le_trans hB kn0.bel.size) hn hrow'.out).mono ?_
  rintro e w1 ⟨Ao, co, rfl, oo, b1⟩
  have s1 := b1.size
  have kn1 := kn0.next b1
  clear kn0 b1
  obtain ⟨d0, d1, d2, d3, d4, d5, _⟩ := kn1.all
  have ne0 : w.heap.size < w1.heap.size := by omega
  have ne1 : w.heap.size + 1 < w1.heap.size := by omega
  go_wp2_with fail
  clear ne0 ne1
  have kn2 : Kn w [(w.heap.size, 0, .string nm), (w.heap.size, 1, .int .i64 ar), (w.heap.size, 2, .slice A n c), (w.heap.size + 1, 0, .string { data := #[] }), (w.heap.size + 1, 1, .int .i64 0), (w.heap.size + 1, 2, .slice none 0 0), (w1.heap.size, 0, .string nm), (w1.heap.size, 1, .int .i64 ar), (w1.heap.size, 2, .slice Ao rs.length co)]
      (w1.alloc (.cells #[.string nm, .int .i64 ar, .slice Ao rs.length co] 51)) := kn1.box3 (.string nm) (.int .i64 ar) (.slice Ao rs.length co) 51
  have s2 : w1.heap.size + 1 ≤ (w1.alloc (.cells #[.string nm, .int .i64 ar, .slice Ao rs.length co] 51)).heap.size := by simp
  have oo2 := oo.below ((Below.refl _ _).alloc (Nat.le_refl _) (.cells #[.string nm, .int .i64 ar, .slice Ao rs.length co] 51)) (Nat.le_refl _)
  clear oo kn1 d0 d1 d2 d3 d4 d5
  generalize w1.alloc (.cells #[.string nm, .int .i64 ar, .slice Ao rs.length co] 51) = w2 at kn2 s2 oo2 ⊢
  have KC := Lib.hid (spec_ContainsRow_any nm ar A A' n c n' c' B rs r w2 (RdR.belowB hr kn2.bel hB) (hr'.belowB kn2.bel hB) (Nat.le_trans hB kn2.bel.size) (by omega) hn')
  obtain ⟨d0, d1, d2, d3, d4, d5, d6, d7, d8, _⟩ := kn2.all
  cases hcont : contB nm ar rs r with
  | false =>
    have hf : Hid (delR nm ar rs r = ⟨nm, ar, rs, false⟩) := by show _ = _; rw [delR, if_neg (by simp [hcont])]
    rw [hcont] at KC
    clear hcont
    refine KC.out.mono ?_
    rintro e w3 ⟨rfl, b3⟩
    have s3 := b3.size
    have oo3 := oo2.below b3 (by omega)
    have kn3 := kn2.next b3
    clear kn2 b3 oo2 d0 d1 d2 d3 d4 d5 d6 d7 d8
    obtain ⟨d0, d1, d2, d3, d4, d5, d6, d7, d8, _⟩ := kn3.all
    obtain ⟨f0, f1, f2, f3, f4, f5, f6, f7, f8, _⟩ := kn3.fall
    have hbel := Lib.hid kn3.bel
    have HO := Lib.hid oo3
    have nn : ¬ w1.heap.size = w.heap.size + 1 := by omega
    clear kn3 oo3
    go_wp2_with fail
    refine bodyPost_ret (v := .tuple #[.agg #[.string nm, .int .i64 ar, .slice Ao rs.length co], .bool false]) (by simp [results, Tryz.results28, go_sem, *]) rfl (TabBool.of hf.out ?_ ?_)
    · refine OwnR.down (lo := w0.heap.size) (OwnR.wide (hi := w1.heap.size) ?_ (by simp; omega)) (by omega)
      repeat refine OwnR.setLow ?_ (by omega)
      exact HO.out
    · repeat first | exact hbel.out | (refine Below.setCell ?_ ?_ _; rotate_left; (simp; try omega))
  | true =>
    have hf : Hid (delR nm ar rs r = ⟨nm, ar, rs.filter fun x => decide (¬ x = r), true⟩) := by show _ = _; rw [delR, if_pos hcont]
    rw [hcont] at KC
    clear hcont oo2
    refine KC.out.mono ?_
    rintro e w3 ⟨rfl, b3⟩
    have s3 := b3.size
    have kn3 := kn2.next b3
    clear kn2 b3 d0 d1 d2 d3 d4 d5 d6 d7 d8
    obtain ⟨d0, d1, d2, d3, d4, d5, d6, d7, d8, _⟩ := kn3.all
    obtain ⟨f0, f1, f2, f3, f4, f5, f6, f7, f8, _⟩ := kn3.fall
    have hbel := Lib.hid kn3.bel
    have ne0 : w.heap.size < w3.heap.size := by omega
    have ne1 : w.heap.size + 1 < w3.heap.size := by omega
    have ne2 : w1.heap.size < w3.heap.size := by omega
    have nn : ¬ w1.heap.size = w.heap.size + 1 := by omega
    have nm' : ¬ w1.heap.size = w.heap.size := by omega
    clear kn3
    go_wp2_with fail
    go_loopw [7] (fun i wr => ∃ (k : Nat) (v : Value), k ≤ n ∧ i = .int .i64 k ∧ LInv w w.heap.size (w.heap.size + 1) w1.heap.size (w1.heap.size + 1) (.string nm) (.int .i64 ar) (.slice A n c) (.string nm) (.int .i64 ar) ((rs.take k).filter fun x => decide (¬ x = r)) v wr) (fun i _ => n - (intOf i).toNat)
    case atStart =>
      refine ⟨0, .slice (some ⟨w3.heap.size, 0, none⟩) 0 0, by omega, rfl, ?_⟩
      have hhs : (w3.setCell ⟨w1.heap.size, 2, none⟩ (.slice (some ⟨w3.heap.size, 0, none⟩) 0 0)).heap.size = w3.heap.size := by simp [World.setCell]
      have hO := OwnR.empty (w3.setCell ⟨w1.heap.size, 2, none⟩ (.slice (some ⟨w3.heap.size, 0, none⟩) 0 0)) (lo := w1.heap.size + 1) (by rw [hhs]; omega)
      rw [hhs] at hO
      refine ⟨hO, (hbel.out.setCell (show w.heap.size ≤ w1.heap.size by omega) _).alloc (by rw [hhs]; omega) _, by simp [World.setCell]; omega, by omega, by omega, by omega, by omega, by omega, by omega, ?_, ?_, ?_, ?_, ?_, ?_, ?_, fun i hi => ?_⟩
      all_goals first
        | (have : i = 0 ∨ i = 1 ∨ i = 2 := by omega
           rcases this with rfl | rfl | rfl <;> simp [go_sem, *])
        | simp [go_sem, *]
    case round =>
      obtain ⟨k, v, hk, rfl, hinv⟩ := hrel
      have c2 := hinv.c2
      by_cases hlt : k < n
      · obtain ⟨b, o, x, A1, c1, rfl, hb, hx, hc, hrd, _⟩ := RdR.at_ (RdR.more hr hB) hlt
        have hbel' := hinv.bel
        have hsz := hinv.size
        have hc1 := (hbel'.cell (p := ⟨b, o + k, none⟩) hb).trans hc
        have hrd1 := (hrd.below hbel').more (show w.heap.size ≤ wr.heap.size by omega)
        have KE := Lib.hid (spec_CompareRows_q A1 A' x.length c1 n' c' x r wr hrd1 ((hr'.belowB hbel' hB).more (by omega)) (by have := hrow'.out x (List.mem_of_getElem? hx); omega) (by omega))
        have g1 : (0 : Int) ≤ (k : Int) := by omega
        have g2 : (k : Int) < (n : Int) := by omega
        have g3 : (k : Int).toNat = k := by omega
        have hxl := hrow'.out x (List.mem_of_getElem? hx)
        have HX := Lib.hid (show rs.take (k + 1) = rs.take k ++ [x] by rw [List.take_add_one, hx]; rfl)
        have HK := Lib.hid (show ((rs.take k).filter fun x => decide (¬ x = r)).length ≤ k from Nat.le_trans (List.length_filter_le _ _) (by rw [List.length_take]; omega))
        by_cases he : x = r
        · have hcz := Lib.hid (cmpL_zero.2 he)
          have HE : Hid ((rs.take (k + 1)).filter (fun x => decide (¬ x = r)) = (rs.take k).filter fun x => decide (¬ x = r)) := by
            show _ = _
            rw [HX.out, List.filter_append, List.filter_cons_of_neg (by simp [he]), List.filter_nil, List.append_nil]
          have HI := Lib.hid hinv
          clear he hx hc hrd hrd1 hbel' hinv
          go_wp2_with fail
          refine KE.out.mono ?_
          rintro e w4 ⟨rfl, hq⟩
          rw [hcz.out]
          have HF := Lib.hid (HI.out.qt hq)
          clear hq
          go_wp2_with fail
          refine ⟨⟨k + 1, v, by omega, by go_num, by rw [HE.out]; exact HF.out⟩, ?_⟩
          simp [intOf]
          omega
        · obtain ⟨y, hy⟩ : ∃ y, y = cmpL x r := ⟨_, rfl⟩
          have hy0 : (y != 0) = true := by rw [hy]; simpa using mt cmpL_zero.1 he
          have HE : Hid ((rs.take (k + 1)).filter (fun x => decide (¬ x = r)) = ((rs.take k).filter fun x => decide (¬ x = r)) ++ [x]) := by
            show _ = _
            rw [HX.out, List.filter_append, List.filter_cons_of_pos (by simp [he]), List.filter_nil]
          rw [← hy] at KE
          clear hy he hx hc hrd hbel'
          generalize hR : ((rs.take k).filter fun x => decide (¬ x = r)) = R at hinv HE HK
          obtain ⟨m, hm⟩ : ∃ m, R.length = m := ⟨_, rfl⟩
          have hmk : m ≤ k := by rw [← hm]; exact HK.out
          have HM := Lib.hid hm
          clear hR hm
          go_wp2_with fail
          refine KE.out.mono ?_
          rintro e w4 ⟨rfl, hq⟩
          have hb4 := hq.below wr.heap.size
          have hinv4 := hinv.next hb4
          have hrd4 := Lib.hid (hrd1.below hb4 |>.more hb4.size)
          have hc4 := (hb4.cell (p := ⟨b, o + k, none⟩) (by show b < _; omega)).trans hc1
          clear hinv hq hb4 hrd1 hc1 c2 hsz
          have hsz := hinv4.size
          have c2 := hinv4.c2
          have x2 := hinv4.x2
          have fx := hinv4.fx
          have l0 : b < w4.heap.size := by omega
          have l1 : w.heap.size < w4.heap.size := by omega
          have l2 : w1.heap.size < w4.heap.size := by omega
          have HI := Lib.hid hinv4
          clear hinv4
          go_wp2_with fail
          go_region_law (first
              | (refine step_append_src _ (by rfl) (.tmp 34) (.tmp 39) _ (by rfl) 3 i0 _ 8 Tryz.underlying27 hi hz0 hz1 hz2 (by rfl) (.slice (some ⟨w4.heap.size, 0, none⟩) 0 0) 0 [] (by rfl) (own_at (heap_alloc_new w4 _)) A1 x.length c1 (x.map iv) (by rfl) (hrd4.out.below ((Below.refl _ _).alloc (Nat.le_refl _) _)).src (by simp [iv, Value.oneCell']) (by unfold maxLen; omega) (by omega) ?_; intro v1 w5 hown1 hgrow1 hat1
                 obtain ⟨A2, c2', rfl, ho1⟩ := own_of_copy (w := w4) hown1 (hat_ge hat1 (by simp))
                 have hb1 : Below w4.heap.size w4 w5 := ((Below.refl w4.heap.size w4).alloc (Nat.le_refl _) (.cells #[] 3)).drew.grown hgrow1 (by simp) (fun j hj => by simp [Value.ownBlock] at hj; omega)
                 obtain ⟨xs, hrow1, hblk, hclose⟩ := (HI.out.own.below hb1 (Nat.le_refl _)).open_
                 rw [HM.out] at hrow1
                 have m1 : w5.cell? ⟨w.heap.size, 2, none⟩ = some (.slice (some ⟨b, o, none⟩) n c) := (hb1.cell (p := ⟨w.heap.size, 2, none⟩) l1).trans c2
                 have m2 : w5.cell? ⟨b, o + k, none⟩ = some (.slice A1 x.length c1) := (hb1.cell (p := ⟨b, o + k, none⟩) l0).trans hc4
                 have m3 : w5.cell? ⟨w1.heap.size, 2, none⟩ = some v := (hb1.cell (p := ⟨w1.heap.size, 2, none⟩) l2).trans x2
                 have hs1 := hb1.size
                 have l0' : b < w5.heap.size := by omega
                 have l1' : w.heap.size < w5.heap.size := by omega
                 have l2' : w1.heap.size < w5.heap.size := by omega
                 have HC := Lib.hid hclose
                 have HBK := Lib.hid hblk
                 have HO := Lib.hid ho1
                 have HB1 := Lib.hid hb1
                 have hrow2 := hrow1.alloc (.cells #[.slice A2 x.length c2'] 27)
                 clear hown1 hgrow1 hat1 hclose hblk ho1 hb1 hrow1)
              | (refine step_append_lies _ (by rfl) (.tmp 33) (.tmp 41) _ (by rfl) 0 27 i1 _ 1 24 Tryz.underlying49 hi' hz0' hz1' hz2' (by rfl) (by omega) v m xs (by rfl) hrow2 ⟨w5.heap.size, 0, none⟩ 1 1 [.slice A2 x.length c2'] (by rfl) rfl (World.news_of_block (cs := #[.slice A2 x.length c2']) (t := 27) (fr := (0, 0)) (heap_alloc_new w5 _)) (by simp [Value.oneCell']) (by omega) (by unfold maxLen; omega) (by omega) (Nat.zero_le _) (w5.heap.size + 1) (by simp) ?_; intro g cap w6 hown2 hgrow hat hlt2
                 have hB2 : Below (w1.heap.size + 1) w4 w6 := ((HB1.out.mono hsz).alloc (by omega) (.cells #[.slice A2 x.length c2'] 27)).grown hgrow (by simp; omega) (fun j hj => (HBK.out j hj).1)
                 have hfin := HC.out (w5.alloc (.cells #[.slice A2 x.length c2'] 27)) w6 A2 x c2' w4.heap.size w5.heap.size g cap ((Below.refl _ _).alloc (Nat.le_refl _) _) (HO.out.below ((Below.refl w5.heap.size w5).alloc (Nat.le_refl _) _) (Nat.le_refl _)) (Nat.le_refl _) hsz (by simp) (by simp; omega) (by rw [HM.out]; exact hown2) hgrow (hat.imp (fun h => h) (fun h => by rw [h]; simp))
                 have n2 : w6.cell? ⟨w1.heap.size, 2, none⟩ = some v := (hB2.cell (p := ⟨w1.heap.size, 2, none⟩) (Nat.lt_succ_self _)).trans x2
                 have n3 : w6.frozen? ⟨w1.heap.size, 2, none⟩ = false := (hB2.frozen (p := ⟨w1.heap.size, 2, none⟩) (Nat.lt_succ_self _)).trans fx
                 rw [← HE.out, HM.out] at hfin
                 have HF := Lib.hid (HI.out.push hB2 hfin)
                 clear hown2 hgrow hat hB2 hfin)
              | fail)
          all_goals (
            go_wp2_with fail
            refine ⟨⟨k + 1, _, by omega, by go_num, HF.out⟩, ?_⟩
            simp [intOf]
            omega)
      · obtain rfl : k = n := by omega
        have x0 := hinv.x0
        have x1 := hinv.x1
        have x2 := hinv.x2
        have hr0 := hinv.res 0 (by omega)
        have hr1 := hinv.res 1 (by omega)
        have hr2 := hinv.res 2 (by omega)
        obtain ⟨y0, hy0⟩ := Option.isSome_iff_exists.1 hr0.1
        obtain ⟨y1, hy1⟩ := Option.isSome_iff_exists.1 hr1.1
        obtain ⟨y2, hy2⟩ := Option.isSome_iff_exists.1 hr2.1
        have e0 := hr0.2
        have e1 := hr1.2
        have e2 := hr2.2
        have HT := Lib.hid (show rs.take k = rs from List.take_of_length_le (Nat.le_of_eq HL.out))
        rw [HT.out] at hinv
        obtain ⟨A1, c1, rfl⟩ := hinv.own.form
        have HF := Lib.hid (hinv.fin (by omega) (by omega) (.string nm) (.int .i64 ar) (.slice A1 (rs.filter fun x => decide (¬ x = r)).length c1))
        clear hinv hr0 hr1 hr2
        generalize hG : (rs.filter fun x => decide (¬ x = r)) = G at HF hf x2
        clear hG
        go_wp2_with fail
        exact bodyPost_ret (v := .tuple #[.agg #[.string nm, .int .i64 ar, .slice A1 G.length c1], .bool true]) (by simp [results, Tryz.results28, go_sem, *]) rfl (TabBool.of hf.out HF.out.1 HF.out.2)

end

section
open Go.RowKit Go.Deep
open Go.RowKit Go.Deep
open Go.RowKit Go.Deep

theorem sumL_filter (p : List Int → Bool) (rs : List (List Int)) : sumL (rs.filter p) ≤ sumL rs := by
  induction rs with
  | nil => exact Nat.le_refl _
  | cons r rs ih =>
    rw [sumL_cons, List.filter_cons]
    by_cases h : p r = true
    · rw [if_pos h, sumL_cons]
      omega
    · rw [if_neg h]
      omega

theorem delR_small (nm : ByteArray) (ar : Int) (rs : List (List Int)) (r : List Int) (hb : rs.length ≤ 1048576) (hs : sumL rs ≤ 1048576) : (delR nm ar rs r).rs.length ≤ 1048576 ∧ sumL (delR nm ar rs r).rs ≤ 4294967296 := by
  unfold delR
  by_cases h : contB nm ar rs r = true
  · rw [if_pos h]
    exact ⟨Nat.le_trans (List.length_filter_le _ _) hb, Nat.le_trans (sumL_filter _ _) (by omega)⟩
  · rw [if_neg h]
    exact ⟨hb, by show sumL rs ≤ _; omega⟩

/-- What NewTable answers. -/
def newR (nm : ByteArray) (ar : Int) (rs : List (List Int)) : TabR := if validT nm ar (sortL rs) = true then ⟨nm, ar, sortL rs, true⟩ else ⟨{ data := #[] }, 0, [], false⟩

theorem validT_long {nm : ByteArray} {ar : Int} {rs : List (List Int)} (h : 8 < rs.length) : validT nm ar rs = false := by
  unfold validT
  rw [decide_eq_false (by omega)]
  simp

theorem newR_of {nm : ByteArray} {ar : Int} {rs R : List (List Int)} {b : Bool} (h : R = sortL rs ∨ (8 < R.length ∧ 8 < (sortL rs).length)) (hb : validT nm ar R = b) : newR nm ar rs = if b = true then ⟨nm, ar, R, true⟩ else ⟨{ data := #[] }, 0, [], false⟩ := by
  rcases h with rfl | ⟨h1, h2⟩
  · rw [newR, hb]
  · rw [newR, validT_long h2, ← hb, validT_long h1]
    rfl

theorem newR_small (nm : ByteArray) (ar : Int) (rs : List (List Int)) (hb : rs.length ≤ 1048576) (hs : sumL rs ≤ 1048576) : (newR nm ar rs).rs.length ≤ 1048576 ∧ sumL (newR nm ar rs).rs ≤ 4294967296 := by
  unfold newR
  by_cases h : validT nm ar (sortL rs) = true
  · rw [if_pos h]
    exact ⟨Nat.le_trans (sortL_len rs) hb, Nat.le_trans (sortL_sum rs) (by omega)⟩
  · rw [if_neg h]
    exact ⟨Nat.zero_le _, Nat.zero_le _⟩

end

section
open Go.RowKit Go.Deep

/-- What InsertRow answers. -/
def insB (nm : ByteArray) (ar : Int) (rs : List (List Int)) (r : List Int) : Bool := validT nm ar rs && (rowB r ar && (!decide (r ∈ rs) && decide (rs.length < 8)))

def insR (nm : ByteArray) (ar : Int) (rs : List (List Int)) (r : List Int) : TabR := if insB nm ar rs r = true then ⟨nm, ar, putA r false rs, true⟩ else ⟨nm, ar, rs, false⟩

theorem insR_small (nm : ByteArray) (ar : Int) (rs : List (List Int)) (r : List Int) (hb : rs.length ≤ 1048576) (hs : sumL rs ≤ 1048576) (hr : r.length ≤ 1048576) : (insR nm ar rs r).rs.length ≤ 1048576 ∧ sumL (insR nm ar rs r).rs ≤ 4294967296 := by
  unfold insR
  by_cases h : insB nm ar rs r = true
  · rw [if_pos h]
    have h8 : rs.length < 8 := by
      unfold insB at h
      simp only [Bool.and_eq_true] at h
      exact of_decide_eq_true h.2.2.2
    have h1 := (putA_len r rs).2
    have h2 := putA_sum r rs
    exact ⟨by show (putA r false rs).length ≤ _; omega, by show sumL (putA r false rs) ≤ _; omega⟩
  · rw [if_neg h]
    exact ⟨hb, by show sumL rs ≤ _; omega⟩

/-- Owned rows, laid open for one header more, of whatever row: how they read then. -/
theorem OwnR.openRd {w : World} {lo hi : Nat} {v : Value} {rs : List (List Int)} (h : OwnR w lo hi v rs) : ∃ xs : List Value, w.ownsRow 0 27 1 v rs.length xs ∧ (∀ g, v.ownBlock = some g → lo ≤ g ∧ g < hi ∧ g < w.heap.size) ∧
    ∀ (w1 w' : World) (A1 : Option Addr) (r : List Int) (c1 g cap : Nat), Below w.heap.size w w1 → RdI w' w'.heap.size A1 r.length r → r.length ≤ maxLen →
      w'.ownsRow 0 27 1 (.slice (some ⟨g, 0, none⟩) (rs.length + 1) cap) (rs.length + 1) (xs ++ [.slice A1 r.length c1]) → w1.grownBy w' v.ownBlock → RdR w' w'.heap.size (some ⟨g, 0, none⟩) (rs.length + 1) (rs ++ [r]) := by
  obtain ⟨F, ⟨ts, rfl, hT⟩, hF⟩ := h
  have hrow := hT.row
  rw [flat_hd hT.len] at hrow
  refine ⟨ts.map hd, by rw [List.length_map]; exact hrow, fun g hg => ⟨(hF g (hT.head g hg).1).1, (hF g (hT.head g hg).1).2, hT.bound g (hT.head g hg).1⟩, fun w1 w' A1 r c1 g cap hb hr hm hown hgrow => ⟨by simp, fun _ => ⟨g, 0, rfl, (hown.lt g rfl).2, fun j a ha => ?_⟩⟩⟩
  have hj : j < (ts.map (·.a)).length + 1 := by have := (List.getElem?_eq_some_iff.1 ha).1; simpa using this
  obtain ⟨g', c', hv, _, _, hc, _⟩ := ownsRow_cell hown (i := j) (by omega)
  injection hv with h1 _ _
  injection h1 with h1
  injection h1 with h1
  subst h1
  rw [List.length_map] at hj
  rcases Nat.lt_or_ge j ts.length with hlt | hge
  · rw [List.getElem?_append_left (by simpa using hlt), List.getElem?_map, List.getElem?_eq_getElem hlt, Option.map_some] at ha
    injection ha with ha
    rw [List.getElem?_append_left (by simpa using hlt), List.getElem?_map, List.getElem?_eq_getElem hlt, Option.map_some] at hc
    have hmem := List.getElem_mem hlt
    have hbd := eRow_ok.bound (hT.elem _ hmem)
    have hE := eRow_ok.keep (w' := w') (hT.elem _ hmem) fun k hf => (hgrow.block k (Nat.lt_of_lt_of_le (hbd k hf) hb.size) fun e => (hT.head k e.symm).2 _ hmem hf).trans (hb.block k (hbd k hf))
    have hR := rRow_of (B := w'.heap.size) hE (fun k hf => eRow_ok.bound hE k hf)
    obtain ⟨A2, c2, e1, e2⟩ := eRow_hd hE
    refine ⟨ts[j].cs, hT.len _ hmem, fun i x hx => ?_, ha ▸ hR⟩
    rw [e2] at hx
    have hi : i = 0 := by
      have := (List.getElem?_eq_some_iff.1 hx).1
      simp at this
      exact this
    subst hi
    simp at hx
    rw [← hx, ← e1, Nat.mul_one, Nat.add_zero, Nat.zero_add]
    exact hc
  · obtain rfl : j = ts.length := by omega
    rw [List.getElem?_append_right (by simp), List.length_map, Nat.sub_self] at ha
    rw [List.getElem?_append_right (by simp), List.length_map, Nat.sub_self] at hc
    simp at ha
    simp at hc
    subst ha
    refine ⟨[.slice A1 r.length c1], rfl, fun i x hx => ?_, ⟨A1, c1, rfl, hr, hm⟩⟩
    have hi : i = 0 := by
      have := (List.getElem?_eq_some_iff.1 hx).1
      simp at this
      exact this
    subst hi
    simp at hx
    rw [← hx, Nat.mul_one, Nat.add_zero, Nat.zero_add]
    exact hc

set_option maxRecDepth 100000 in
set_option maxHeartbeats 4000000 in
theorem spec_InsertRow_any (nm : ByteArray) (ar : Int) (A A' : Option Addr) (n c n' c' B : Nat) (rs : List (List Int)) (r : List Int) (w : World) (hr : RdR w B A n rs) (hr' : RdI w B A' n' r) (hB : B ≤ w.heap.size) (hn : n ≤ 5000000000) (hn' : n' ≤ 17592186044416) (hrow : ∀ r ∈ rs, r.length ≤ 17592186044416) :
    Calls Tryz.prog 27 #[.agg #[.string nm, .int .i64 ar, .slice A n c], .slice A' n' c'] w (TabBool (insR nm ar rs r) w) := by
  obtain ⟨i1, hi', hz0', hz1', hz2'⟩ := info_parts info_row
  have HL := Lib.hid hr.1
  have hrow' := Lib.hid hrow
  clear hrow
  have kn0 : Kn w [(w.heap.size, 0, .string nm), (w.heap.size, 1, .int .i64 ar), (w.heap.size, 2, .slice A n c), (w.heap.size + 1, 0, .string { data := #[] }), (w.heap.size + 1, 1, .int .i64 0), (w.heap.size + 1, 2, .slice none 0 0)]
      ((w.alloc (.cells #[.string nm, .int .i64 ar, .slice A n c] 51)).alloc (.cells #[.string { data := #[] }, .int .i64 0, .slice none 0 0] 51)) := by
    simpa using ((Kn.start w).box3 (.string nm) (.int .i64 ar) (.slice A n c) 51).box3 (.string { data := #[] }) (.int .i64 0) (.slice none 0 0) 51
  go_enter Tryz.func27, Tryz.ntmps27
  go_wp2_with fail
  have s0 : w.heap.size + 2 ≤ ((w.alloc (.cells #[.string nm, .int .i64 ar, .slice A n c] 51)).alloc (.cells #[.string { data := #[] }, .int .i64 0, .slice none 0 0] 51)).heap.size := by simp
  generalize (w.alloc (.cells #[.string nm, .int .i64 ar, .slice A n c] 51)).alloc (.cells #[.string { data := #[] }, .int .i64 0, .slice none 0 0] 51) = w0 at kn0 s0 ⊢
  with_reducible refine (l4Copy_any nm ar A n c B rs w0 (RdR.belowB hr kn0.bel hB) (Nat.le_trans hB kn0.bel.size) hn hrow'.out).mono ?_
  rintro e w1 ⟨Ao, co, rfl, oo, b1⟩
  have s1 := b1.size
  have kn1 := kn0.next b1
  clear kn0 b1
  obtain ⟨d0, d1, d2, d3, d4, d5, _⟩ := kn1.all
  have ne0 : w.heap.size < w1.heap.size := by omega
  have ne1 : w.heap.size + 1 < w1.heap.size := by omega
  go_wp2_with fail
  clear ne0 ne1
  have kn2 : Kn w [(w.heap.size, 0, .string nm), (w.heap.size, 1, .int .i64 ar), (w.heap.size, 2, .slice A n c), (w.heap.size + 1, 0, .string { data := #[] }), (w.heap.size + 1, 1, .int .i64 0), (w.heap.size + 1, 2, .slice none 0 0), (w1.heap.size, 0, .string nm), (w1.heap.size, 1, .int .i64 ar), (w1.heap.size, 2, .slice Ao rs.length co)]
      (w1.alloc (.cells #[.string nm, .int .i64 ar, .slice Ao rs.length co] 51)) := kn1.box3 (.string nm) (.int .i64 ar) (.slice Ao rs.length co) 51
  have s2 : w1.heap.size + 1 ≤ (w1.alloc (.cells #[.string nm, .int .i64 ar, .slice Ao rs.length co] 51)).heap.size := by simp
  have oo2 := oo.below ((Below.refl _ _).alloc (Nat.le_refl _) (.cells #[.string nm, .int .i64 ar, .slice Ao rs.length co] 51)) (Nat.le_refl _)
  clear oo kn1 d0 d1 d2 d3 d4 d5
  generalize w1.alloc (.cells #[.string nm, .int .i64 ar, .slice Ao rs.length co] 51) = w2 at kn2 s2 oo2 ⊢
  have KV : Hid (∀ W, Below w.heap.size w W → Calls Tryz.prog 59 #[.agg #[.string nm, .int .i64 ar, .slice A n c]] W fun e w' => e = .returned (.bool (validT nm ar rs)) ∧ Below W.heap.size W w') := fun W b => spec_IsValidTable_any nm ar A n c B rs W (RdR.belowB hr b hB) (Nat.le_trans hB b.size) (by omega)
  have KR : Hid (∀ W, Below w.heap.size w W → Calls Tryz.prog 43 #[.slice A' n' c', .int .i64 ar] W fun e w' => e = .returned (.bool (rowB r ar)) ∧ W = w') := fun W b => l4Row_any A' n' c' r ar W ((hr'.belowB b hB).more (Nat.le_trans hB b.size)) (by omega)
  obtain ⟨d0, d1, d2, d3, d4, d5, d6, d7, d8, _⟩ := kn2.all
  have KI : Hid (∀ W, Below w.heap.size w W → Calls Tryz.prog 60 #[.agg #[.string nm, .int .i64 ar, .slice A n c], .slice A' n' c'] W fun e w' => e = .returned (.bool (contB nm ar rs r)) ∧ Below W.heap.size W w') := fun W b => spec_ContainsRow_any nm ar A A' n c n' c' B rs r W (RdR.belowB hr b hB) (hr'.belowB b hB) (Nat.le_trans hB b.size) (by omega) (by omega)
  cases hv : validT nm ar rs with
  | false =>
    have hno : Hid (insB nm ar rs r = false) := by show _ = _; rw [insB, hv]; rfl
    rw [hv] at KV
    clear hv KR KI
    refine (KV.out _ kn2.bel).mono ?_
    rintro e w3 ⟨rfl, b3⟩
    have s3 := b3.size
    have oo3 := oo2.below b3 (by omega)
    have kn3 := kn2.next b3
    clear kn2 b3 oo2 d0 d1 d2 d3 d4 d5 d6 d7 d8
    obtain ⟨d0, d1, d2, d3, d4, d5, d6, d7, d8, _⟩ := kn3.all
    have hf : Hid (insR nm ar rs r = ⟨nm, ar, rs, false⟩) := by show _ = _; rw [insR, if_neg (by rw [hno.out]; simp)]
    obtain ⟨f0, f1, f2, f3, f4, f5, f6, f7, f8, _⟩ := kn3.fall
    have hbel := Lib.hid kn3.bel
    have HO := Lib.hid oo3
    have nn : ¬ w1.heap.size = w.heap.size + 1 := by omega
    clear kn3 oo3
    go_wp2_with fail
    refine bodyPost_ret (v := .tuple #[.agg #[.string nm, .int .i64 ar, .slice Ao rs.length co], .bool false]) (by simp [results, Tryz.results27, go_sem, *]) rfl (TabBool.of hf.out ?_ ?_)
    · refine OwnR.down (lo := w0.heap.size) (OwnR.wide (hi := w1.heap.size) ?_ (by simp; omega)) (by omega)
      repeat refine OwnR.setLow ?_ (by omega)
      exact HO.out
    · repeat first | exact hbel.out | (refine Below.setCell ?_ ?_ _; rotate_left; (simp; try omega))
  | true =>
    have hasc := Lib.hid (validT_asc hv)
    rw [hv] at KV
    cases hw : rowB r ar with
    | false =>
      have hno : Hid (insB nm ar rs r = false) := by show _ = _; rw [insB, hv, hw]; rfl
      rw [hw] at KR
      clear hv hw KI
      refine (KV.out _ kn2.bel).mono ?_
      rintro e w3 ⟨rfl, b3⟩
      have s3 := b3.size
      have oo3 := oo2.below b3 (by omega)
      have kn3 := kn2.next b3
      clear kn2 b3 oo2 d0 d1 d2 d3 d4 d5 d6 d7 d8
      obtain ⟨d0, d1, d2, d3, d4, d5, d6, d7, d8, _⟩ := kn3.all
      go_wp2_with fail
      refine (KR.out _ kn3.bel).mono ?_
      rintro e wz ⟨rfl, rfl⟩
      have hf : Hid (insR nm ar rs r = ⟨nm, ar, rs, false⟩) := by show _ = _; rw [insR, if_neg (by rw [hno.out]; simp)]
      obtain ⟨f0, f1, f2, f3, f4, f5, f6, f7, f8, _⟩ := kn3.fall
      have hbel := Lib.hid kn3.bel
      have HO := Lib.hid oo3
      have nn : ¬ w1.heap.size = w.heap.size + 1 := by omega
      clear kn3 oo3
      go_wp2_with fail
      refine bodyPost_ret (v := .tuple #[.agg #[.string nm, .int .i64 ar, .slice Ao rs.length co], .bool false]) (by simp [results, Tryz.results27, go_sem, *]) rfl (TabBool.of hf.out ?_ ?_)
      · refine OwnR.down (lo := w0.heap.size) (OwnR.wide (hi := w1.heap.size) ?_ (by simp; omega)) (by omega)
        repeat refine OwnR.setLow ?_ (by omega)
        exact HO.out
      · repeat first | exact hbel.out | (refine Below.setCell ?_ ?_ _; rotate_left; (simp; try omega))
    | true =>
      rw [hw] at KR
      by_cases hm : r ∈ rs
      · have hno : Hid (insB nm ar rs r = false) := by show _ = _; rw [insB, hv, hw, decide_eq_true hm]; rfl
        rw [show contB nm ar rs r = true by rw [contB, hv, decide_eq_true hm]; rfl] at KI
        clear hv hw hm 
        refine (KV.out _ kn2.bel).mono ?_
        rintro e w3 ⟨rfl, b3⟩
        have s3 := b3.size
        have oo3 := oo2.below b3 (by omega)
        have kn3 := kn2.next b3
        clear kn2 b3 oo2 d0 d1 d2 d3 d4 d5 d6 d7 d8
        obtain ⟨d0, d1, d2, d3, d4, d5, d6, d7, d8, _⟩ := kn3.all
        go_wp2_with fail
        refine (KR.out _ kn3.bel).mono ?_
        rintro e wz ⟨rfl, rfl⟩
        go_wp2_with fail
        refine (KI.out _ kn3.bel).mono ?_
        rintro e w4 ⟨rfl, b4⟩
        have s4 := b4.size
        have oo4 := oo3.below b4 (by omega)
        have kn4 := kn3.next b4
        clear kn3 b4 oo3 d0 d1 d2 d3 d4 d5 d6 d7 d8
        obtain ⟨d0, d1, d2, d3, d4, d5, d6, d7, d8, _⟩ := kn4.all
        have hf : Hid (insR nm ar rs r = ⟨nm, ar, rs, false⟩) := by show _ = _; rw [insR, if_neg (by rw [hno.out]; simp)]
        obtain ⟨f0, f1, f2, f3, f4, f5, f6, f7, f8, _⟩ := kn4.fall
        have hbel := Lib.hid kn4.bel
        have HO := Lib.hid oo4
        have nn : ¬ w1.heap.size = w.heap.size + 1 := by omega
        clear kn4 oo4
        go_wp2_with fail
        refine bodyPost_ret (v := .tuple #[.agg #[.string nm, .int .i64 ar, .slice Ao rs.length co], .bool false]) (by simp [results, Tryz.results27, go_sem, *]) rfl (TabBool.of hf.out ?_ ?_)
        · refine OwnR.down (lo := w0.heap.size) (OwnR.wide (hi := w1.heap.size) ?_ (by simp; omega)) (by omega)
          repeat refine OwnR.setLow ?_ (by omega)
          exact HO.out
        · repeat first | exact hbel.out | (refine Below.setCell ?_ ?_ _; rotate_left; (simp; try omega))
      · by_cases h8 : rs.length < 8
        rotate_left
        · have hno : Hid (insB nm ar rs r = false) := by show _ = _; rw [insB, hv, hw, decide_eq_false hm, decide_eq_false h8]; rfl
          rw [show contB nm ar rs r = false by rw [contB, hv, decide_eq_false hm]; rfl] at KI
          have hn8 : n = 8 := by
            have h := HL.out
            have : ¬ 8 < rs.length := fun h => by rw [validT_long h] at hv; cases hv
            omega
          have q8 : ((n : Int) == 8) = true := by simp [hn8]
          clear hn8
          clear hv hw hm h8 
          refine (KV.out _ kn2.bel).mono ?_
          rintro e w3 ⟨rfl, b3⟩
          have s3 := b3.size
          have oo3 := oo2.below b3 (by omega)
          have kn3 := kn2.next b3
          clear kn2 b3 oo2 d0 d1 d2 d3 d4 d5 d6 d7 d8
          obtain ⟨d0, d1, d2, d3, d4, d5, d6, d7, d8, _⟩ := kn3.all
          go_wp2_with fail
          refine (KR.out _ kn3.bel).mono ?_
          rintro e wz ⟨rfl, rfl⟩
          go_wp2_with fail
          refine (KI.out _ kn3.bel).mono ?_
          rintro e w4 ⟨rfl, b4⟩
          have s4 := b4.size
          have oo4 := oo3.below b4 (by omega)
          have kn4 := kn3.next b4
          clear kn3 b4 oo3 d0 d1 d2 d3 d4 d5 d6 d7 d8
          obtain ⟨d0, d1, d2, d3, d4, d5, d6, d7, d8, _⟩ := kn4.all
          have hf : Hid (insR nm ar rs r = ⟨nm, ar, rs, false⟩) := by show _ = _; rw [insR, if_neg (by rw [hno.out]; simp)]
          obtain ⟨f0, f1, f2, f3, f4, f5, f6, f7, f8, _⟩ := kn4.fall
          have hbel := Lib.hid kn4.bel
          have HO := Lib.hid oo4
          have nn : ¬ w1.heap.size = w.heap.size + 1 := by omega
          clear kn4 oo4
          go_wp2_with fail
          refine bodyPost_ret (v := .tuple #[.agg #[.string nm, .int .i64 ar, .slice Ao rs.length co], .bool false]) (by simp [results, Tryz.results27, go_sem, *]) rfl (TabBool.of hf.out ?_ ?_)
          · refine OwnR.down (lo := w0.heap.size) (OwnR.wide (hi := w1.heap.size) ?_ (by simp; omega)) (by omega)
            repeat refine OwnR.setLow ?_ (by omega)
            exact HO.out
          · repeat first | exact hbel.out | (refine Below.setCell ?_ ?_ _; rotate_left; (simp; try omega))
        · have hf : Hid (insR nm ar rs r = ⟨nm, ar, putA r false rs, true⟩) := by show _ = _; rw [insR, if_pos (by rw [insB, hv, hw, decide_eq_false hm, decide_eq_true h8]; rfl)]
          rw [show contB nm ar rs r = false by rw [contB, hv, decide_eq_false hm]; rfl] at KI
          have q8 : ((n : Int) == 8) = false := by have := HL.out; simp; omega
          have hsm := Lib.hid h8
          clear hv hw hm h8 
          refine (KV.out _ kn2.bel).mono ?_
          rintro e w3 ⟨rfl, b3⟩
          have s3 := b3.size
          have oo3 := oo2.below b3 (by omega)
          have kn3 := kn2.next b3
          clear kn2 b3 oo2 d0 d1 d2 d3 d4 d5 d6 d7 d8
          obtain ⟨d0, d1, d2, d3, d4, d5, d6, d7, d8, _⟩ := kn3.all
          go_wp2_with fail
          refine (KR.out _ kn3.bel).mono ?_
          rintro e wz ⟨rfl, rfl⟩
          go_wp2_with fail
          refine (KI.out _ kn3.bel).mono ?_
          rintro e w4 ⟨rfl, b4⟩
          have s4 := b4.size
          have oo4 := oo3.below b4 (by omega)
          have kn4 := kn3.next b4
          clear kn3 b4 oo3 d0 d1 d2 d3 d4 d5 d6 d7 d8
          obtain ⟨d0, d1, d2, d3, d4, d5, d6, d7, d8, _⟩ := kn4.all
          have KP := Lib.hid (l4Put_any Ao A' rs.length co n' c' w4.heap.size rs r w4 ((oo4.rd rfl).more (by omega)) ((hr'.belowB kn4.bel hB).more (Nat.le_trans hB kn4.bel.size)) (Nat.le_refl _) (by have := hsm.out; omega) hn' hrow'.out)
          go_wp2_with fail
          refine KP.out.mono ?_
          rintro e w5 ⟨A5, c5, rfl, oo5, b5⟩
          have s5 := b5.size
          have kn5 := kn4.next b5
          clear kn4 b5 oo4 d0 d1 d2 d3 d4 d5 d6 d7 d8
          obtain ⟨d0, d1, d2, d3, d4, d5, d6, d7, d8, _⟩ := kn5.all
          obtain ⟨f0, f1, f2, f3, f4, f5, f6, f7, f8, _⟩ := kn5.fall
          have hbel := Lib.hid kn5.bel
          have HO := Lib.hid oo5
          have nn : ¬ w1.heap.size = w.heap.size + 1 := by omega
          clear kn5 oo5
          generalize putA r false rs = R at hf HO ⊢
          go_wp2_with fail
          refine bodyPost_ret (v := .tuple #[.agg #[.string nm, .int .i64 ar, .slice A5 R.length c5], .bool true]) (by simp [results, Tryz.results27, go_sem, *]) rfl (TabBool.of hf.out ?_ ?_)
          · refine OwnR.down (lo := w4.heap.size) (OwnR.wide (hi := w5.heap.size) ?_ (by simp)) (by omega)
            repeat refine OwnR.setOff ?_ (by omega)
            exact HO.out
          · repeat first | exact hbel.out | (refine Below.setCell ?_ ?_ _; rotate_left; (simp; try omega))

set_option maxRecDepth 100000 in
set_option maxHeartbeats 4000000 in
theorem impl_InsertRow_any (nm : ByteArray) (ar : Int) (A A' : Option Addr) (n c n' c' B : Nat) (rs : List (List Int)) (r : List Int) (w : World) (hr : RdR w B A n rs) (hr' : RdI w B A' n' r) (hB : B ≤ w.heap.size) (hn : n ≤ 5000000000) (hn' : n' ≤ 17592186044416) (hrow : ∀ r ∈ rs, r.length ≤ 17592186044416) :
    Calls Tryz.prog 22 #[.agg #[.string nm, .int .i64 ar, .slice A n c], .slice A' n' c'] w (TabBool (insR nm ar rs r) w) := by
  obtain ⟨i1, hi', hz0', hz1', hz2'⟩ := info_parts info_row
  have HL := Lib.hid hr.1
  have hrow' := Lib.hid hrow
  clear hrow
  have kn0 : Kn w [(w.heap.size, 0, .string nm), (w.heap.size, 1, .int .i64 ar), (w.heap.size, 2, .slice A n c), (w.heap.size + 1, 0, .string { data := #[] }), (w.heap.size + 1, 1, .int .i64 0), (w.heap.size + 1, 2, .slice none 0 0)]
      ((w.alloc (.cells #[.string nm, .int .i64 ar, .slice A n c] 51)).alloc (.cells #[.string { data := #[] }, .int .i64 0, .slice none 0 0] 51)) := by
    simpa using ((Kn.start w).box3 (.string nm) (.int .i64 ar) (.slice A n c) 51).box3 (.string { data := #[] }) (.int .i64 0) (.slice none 0 0) 51
  go_enter Tryz.func22, Tryz.ntmps22
  go_wp2_with fail
  have s0 : w.heap.size + 2 ≤ ((w.alloc (.cells #[.string nm, .int .i64 ar, .slice A n c] 51)).alloc (.cells #[.string { data := #[] }, .int .i64 0, .slice none 0 0] 51)).heap.size := by simp
  generalize (w.alloc (.cells #[.string nm, .int .i64 ar, .slice A n c] 51)).alloc (.cells #[.string { data := #[] }, .int .i64 0, .slice none 0 0] 51) = w0 at kn0 s0 ⊢
  with_reducible refine (copyTable_any nm ar A n c B rs w0 (RdR.belowB hr kn0.bel hB) (Nat.le_trans hB kn0.bel.size) hn hrow'.out).mono ?_
  rintro e w1 ⟨Ao, co, rfl, oo, b1⟩
  have s1 := b1.size
  have kn1 := kn0.next b1
  clear kn0 b1
  obtain ⟨d0, d1, d2, d3, d4, d5, _⟩ := kn1.all
  have ne0 : w.heap.size < w1.heap.size := by omega
  have ne1 : w.heap.size + 1 < w1.heap.size := by omega
  go_wp2_with fail
  clear ne0 ne1
  have kn2 : Kn w [(w.heap.size, 0, .string nm), (w.heap.size, 1, .int .i64 ar), (w.heap.size, 2, .slice A n c), (w.heap.size + 1, 0, .string { data := #[] }), (w.heap.size + 1, 1, .int .i64 0), (w.heap.size + 1, 2, .slice none 0 0), (w1.heap.size, 0, .string nm), (w1.heap.size, 1, .int .i64 ar), (w1.heap.size, 2, .slice Ao rs.length co)]
      (w1.alloc (.cells #[.string nm, .int .i64 ar, .slice Ao rs.length co] 51)) := kn1.box3 (.string nm) (.int .i64 ar) (.slice Ao rs.length co) 51
  have s2 : w1.heap.size + 1 ≤ (w1.alloc (.cells #[.string nm, .int .i64 ar, .slice Ao rs.length co] 51)).heap.size := by simp
  have oo2 := oo.below ((Below.refl _ _).alloc (Nat.le_refl _) (.cells #[.string nm, .int .i64 ar, .slice Ao rs.length co] 51)) (Nat.le_refl _)
  clear oo kn1 d0 d1 d2 d3 d4 d5
  generalize w1.alloc (.cells #[.string nm, .int .i64 ar, .slice Ao rs.length co] 51) = w2 at kn2 s2 oo2 ⊢
  have KV : Hid (∀ W, Below w.heap.size w W → Calls Tryz.prog 52 #[.agg #[.string nm, .int .i64 ar, .slice A n c]] W fun e w' => e = .returned (.bool (validT nm ar rs)) ∧ Below W.heap.size W w') := fun W b => impl_IsValidTable_any nm ar A n c B rs W (RdR.belowB hr b hB) (Nat.le_trans hB b.size) (by omega)
  have KR : Hid (∀ W, Below w.heap.size w W → Calls Tryz.prog 38 #[.slice A' n' c', .int .i64 ar] W fun e w' => e = .returned (.bool (rowB r ar)) ∧ W = w') := fun W b => rowOk_any A' n' c' r ar W ((hr'.belowB b hB).more (Nat.le_trans hB b.size)) (by omega)
  obtain ⟨d0, d1, d2, d3, d4, d5, d6, d7, d8, _⟩ := kn2.all
  have KI : Hid (∀ W, Below w.heap.size w W → Calls Tryz.prog 53 #[.agg #[.string nm, .int .i64 ar, .slice A n c], .slice A' n' c'] W fun e w' => e = .returned (.int .i64 (idxR rs r)) ∧ Below W.heap.size W w') := fun W b => rowIndex_any nm ar A A' n c n' c' B rs r W (RdR.belowB hr b hB) (hr'.belowB b hB) (Nat.le_trans hB b.size) (by omega) (by omega)
  cases hv : validT nm ar rs with
  | false =>
    have hno : Hid (insB nm ar rs r = false) := by show _ = _; rw [insB, hv]; rfl
    rw [hv] at KV
    clear hv KR KI
    refine (KV.out _ kn2.bel).mono ?_
    rintro e w3 ⟨rfl, b3⟩
    have s3 := b3.size
    have oo3 := oo2.below b3 (by omega)
    have kn3 := kn2.next b3
    clear kn2 b3 oo2 d0 d1 d2 d3 d4 d5 d6 d7 d8
    obtain ⟨d0, d1, d2, d3, d4, d5, d6, d7, d8, _⟩ := kn3.all
    have hf : Hid (insR nm ar rs r = ⟨nm, ar, rs, false⟩) := by show _ = _; rw [insR, if_neg (by rw [hno.out]; simp)]
    obtain ⟨f0, f1, f2, f3, f4, f5, f6, f7, f8, _⟩ := kn3.fall
    have hbel := Lib.hid kn3.bel
    have HO := Lib.hid oo3
    have nn : ¬ w1.heap.size = w.heap.size + 1 := by omega
    clear kn3 oo3
    go_wp2_with fail
    refine bodyPost_ret (v := .tuple #[.agg #[.string nm, .int .i64 ar, .slice Ao rs.length co], .bool false]) (by simp [results, Tryz.results22, go_sem, *]) rfl (TabBool.of hf.out ?_ ?_)
    · refine OwnR.down (lo := w0.heap.size) (OwnR.wide (hi := w1.heap.size) ?_ (by simp; omega)) (by omega)
      repeat refine OwnR.setLow ?_ (by omega)
      exact HO.out
    · repeat first | exact hbel.out | (refine Below.setCell ?_ ?_ _; rotate_left; (simp; try omega))
  | true =>
    have hasc := Lib.hid (validT_asc hv)
    rw [hv] at KV
    cases hw : rowB r ar with
    | false =>
      have hno : Hid (insB nm ar rs r = false) := by show _ = _; rw [insB, hv, hw]; rfl
      rw [hw] at KR
      clear hv hw KI
      refine (KV.out _ kn2.bel).mono ?_
      rintro e w3 ⟨rfl, b3⟩
      have s3 := b3.size
      have oo3 := oo2.below b3 (by omega)
      have kn3 := kn2.next b3
      clear kn2 b3 oo2 d0 d1 d2 d3 d4 d5 d6 d7 d8
      obtain ⟨d0, d1, d2, d3, d4, d5, d6, d7, d8, _⟩ := kn3.all
      go_wp2_with fail
      refine (KR.out _ kn3.bel).mono ?_
      rintro e wz ⟨rfl, rfl⟩
      have hf : Hid (insR nm ar rs r = ⟨nm, ar, rs, false⟩) := by show _ = _; rw [insR, if_neg (by rw [hno.out]; simp)]
      obtain ⟨f0, f1, f2, f3, f4, f5, f6, f7, f8, _⟩ := kn3.fall
      have hbel := Lib.hid kn3.bel
      have HO := Lib.hid oo3
      have nn : ¬ w1.heap.size = w.heap.size + 1 := by omega
      clear kn3 oo3
      go_wp2_with fail
      refine bodyPost_ret (v := .tuple #[.agg #[.string nm, .int .i64 ar, .slice Ao rs.length co], .bool false]) (by simp [results, Tryz.results22, go_sem, *]) rfl (TabBool.of hf.out ?_ ?_)
      · refine OwnR.down (lo := w0.heap.size) (OwnR.wide (hi := w1.heap.size) ?_ (by simp; omega)) (by omega)
        repeat refine OwnR.setLow ?_ (by omega)
        exact HO.out
      · repeat first | exact hbel.out | (refine Below.setCell ?_ ?_ _; rotate_left; (simp; try omega))
    | true =>
      rw [hw] at KR
      by_cases hm : r ∈ rs
      · have hno : Hid (insB nm ar rs r = false) := by show _ = _; rw [insB, hv, hw, decide_eq_true hm]; rfl
        have hm2 := idxR_iff.2 hm
        obtain ⟨y, hy⟩ : ∃ y, y = idxR rs r := ⟨_, rfl⟩
        rw [← hy] at KI hm2
        have q1 : decide (0 ≤ y) = true := decide_eq_true hm2
        clear hv hw hm hy hm2 
        refine (KV.out _ kn2.bel).mono ?_
        rintro e w3 ⟨rfl, b3⟩
        have s3 := b3.size
        have oo3 := oo2.below b3 (by omega)
        have kn3 := kn2.next b3
        clear kn2 b3 oo2 d0 d1 d2 d3 d4 d5 d6 d7 d8
        obtain ⟨d0, d1, d2, d3, d4, d5, d6, d7, d8, _⟩ := kn3.all
        go_wp2_with fail
        refine (KR.out _ kn3.bel).mono ?_
        rintro e wz ⟨rfl, rfl⟩
        go_wp2_with fail
        refine (KI.out _ kn3.bel).mono ?_
        rintro e w4 ⟨rfl, b4⟩
        have s4 := b4.size
        have oo4 := oo3.below b4 (by omega)
        have kn4 := kn3.next b4
        clear kn3 b4 oo3 d0 d1 d2 d3 d4 d5 d6 d7 d8
        obtain ⟨d0, d1, d2, d3, d4, d5, d6, d7, d8, _⟩ := kn4.all
        have hf : Hid (insR nm ar rs r = ⟨nm, ar, rs, false⟩) := by show _ = _; rw [insR, if_neg (by rw [hno.out]; simp)]
        obtain ⟨f0, f1, f2, f3, f4, f5, f6, f7, f8, _⟩ := kn4.fall
        have hbel := Lib.hid kn4.bel
        have HO := Lib.hid oo4
        have nn : ¬ w1.heap.size = w.heap.size + 1 := by omega
        clear kn4 oo4
        go_wp2_with fail
        refine bodyPost_ret (v := .tuple #[.agg #[.string nm, .int .i64 ar, .slice Ao rs.length co], .bool false]) (by simp [results, Tryz.results22, go_sem, *]) rfl (TabBool.of hf.out ?_ ?_)
        · refine OwnR.down (lo := w0.heap.size) (OwnR.wide (hi := w1.heap.size) ?_ (by simp; omega)) (by omega)
          repeat refine OwnR.setLow ?_ (by omega)
          exact HO.out
        · repeat first | exact hbel.out | (refine Below.setCell ?_ ?_ _; rotate_left; (simp; try omega))
      · by_cases h8 : rs.length < 8
        rotate_left
        · have hno : Hid (insB nm ar rs r = false) := by show _ = _; rw [insB, hv, hw, decide_eq_false hm, decide_eq_false h8]; rfl
          have hm2 := mt idxR_iff.1 hm
          obtain ⟨y, hy⟩ : ∃ y, y = idxR rs r := ⟨_, rfl⟩
          rw [← hy] at KI hm2
          have q1 : decide (0 ≤ y) = false := decide_eq_false hm2
          have q8 : decide (8 ≤ (n : Int)) = true := by have := HL.out; exact decide_eq_true (by omega)
          clear hv hw hm h8 hy hm2 
          refine (KV.out _ kn2.bel).mono ?_
          rintro e w3 ⟨rfl, b3⟩
          have s3 := b3.size
          have oo3 := oo2.below b3 (by omega)
          have kn3 := kn2.next b3
          clear kn2 b3 oo2 d0 d1 d2 d3 d4 d5 d6 d7 d8
          obtain ⟨d0, d1, d2, d3, d4, d5, d6, d7, d8, _⟩ := kn3.all
          go_wp2_with fail
          refine (KR.out _ kn3.bel).mono ?_
          rintro e wz ⟨rfl, rfl⟩
          go_wp2_with fail
          refine (KI.out _ kn3.bel).mono ?_
          rintro e w4 ⟨rfl, b4⟩
          have s4 := b4.size
          have oo4 := oo3.below b4 (by omega)
          have kn4 := kn3.next b4
          clear kn3 b4 oo3 d0 d1 d2 d3 d4 d5 d6 d7 d8
          obtain ⟨d0, d1, d2, d3, d4, d5, d6, d7, d8, _⟩ := kn4.all
          have hf : Hid (insR nm ar rs r = ⟨nm, ar, rs, false⟩) := by show _ = _; rw [insR, if_neg (by rw [hno.out]; simp)]
          obtain ⟨f0, f1, f2, f3, f4, f5, f6, f7, f8, _⟩ := kn4.fall
          have hbel := Lib.hid kn4.bel
          have HO := Lib.hid oo4
          have nn : ¬ w1.heap.size = w.heap.size + 1 := by omega
          clear kn4 oo4
          go_wp2_with fail
          refine bodyPost_ret (v := .tuple #[.agg #[.string nm, .int .i64 ar, .slice Ao rs.length co], .bool false]) (by simp [results, Tryz.results22, go_sem, *]) rfl (TabBool.of hf.out ?_ ?_)
          · refine OwnR.down (lo := w0.heap.size) (OwnR.wide (hi := w1.heap.size) ?_ (by simp; omega)) (by omega)
            repeat refine OwnR.setLow ?_ (by omega)
            exact HO.out
          · repeat first | exact hbel.out | (refine Below.setCell ?_ ?_ _; rotate_left; (simp; try omega))
        · have hf : Hid (insR nm ar rs r = ⟨nm, ar, putA r false rs, true⟩) := by show _ = _; rw [insR, if_pos (by rw [insB, hv, hw, decide_eq_false hm, decide_eq_true h8]; rfl)]
          have hm2 := mt idxR_iff.1 hm
          obtain ⟨y, hy⟩ : ∃ y, y = idxR rs r := ⟨_, rfl⟩
          rw [← hy] at KI hm2
          have q1 : decide (0 ≤ y) = false := decide_eq_false hm2
          have q8 : decide (8 ≤ (n : Int)) = false := by have := HL.out; exact decide_eq_false (by omega)
          have hsm := Lib.hid h8
          clear hv hw hm h8 hy hm2 
          refine (KV.out _ kn2.bel).mono ?_
          rintro e w3 ⟨rfl, b3⟩
          have s3 := b3.size
          have oo3 := oo2.below b3 (by omega)
          have kn3 := kn2.next b3
          clear kn2 b3 oo2 d0 d1 d2 d3 d4 d5 d6 d7 d8
          obtain ⟨d0, d1, d2, d3, d4, d5, d6, d7, d8, _⟩ := kn3.all
          go_wp2_with fail
          refine (KR.out _ kn3.bel).mono ?_
          rintro e wz ⟨rfl, rfl⟩
          go_wp2_with fail
          refine (KI.out _ kn3.bel).mono ?_
          rintro e w4 ⟨rfl, b4⟩
          have s4 := b4.size
          have oo4 := oo3.below b4 (by omega)
          have kn4 := kn3.next b4
          clear kn3 b4 oo3 d0 d1 d2 d3 d4 d5 d6 d7 d8
          obtain ⟨d0, d1, d2, d3, d4, d5, d6, d7, d8, _⟩ := kn4.all
          have hl := hr'.1
          subst hl
          obtain ⟨xs, hrow1, hblk, hclose⟩ := oo4.openRd
          have HC := Lib.hid hclose
          have HBK := Lib.hid hblk
          have hrow2 := hrow1.alloc (.cells #[.slice A' r.length c'] 27)
          clear hclose hblk hrow1 oo4
          have h8 := hsm.out
          go_wp2_with (at_builtin; refine wpList_append_lies _ rfl _ _ _ rfl 0 27 i1 _ 1 24 Tryz.underlying49 hi' hz0' hz1' hz2' rfl (by omega) _ rs.length xs rfl hrow2 ⟨w4.heap.size, 0, none⟩ 1 1 [.slice A' r.length c'] rfl rfl (World.news_of_block (cs := #[.slice A' r.length c']) (t := 27) (fr := (0, 0)) (heap_alloc_new w4 _)) (by simp [Value.oneCell']) (by omega) (by unfold maxLen; omega) (by omega) (Nat.zero_le _) (w4.heap.size + 1) (by simp) ?_; intro g cap w5 hown2 hgrow hat hlt2)
          have hch : Chg w0.heap.size w1.heap.size w4 w5 := by
            have h1 := chgF_of_grown hgrow
            exact ⟨h1.os, h1.tape, h1.output, Nat.le_trans (by simp) h1.size, fun k hk hn => (h1.block k (by simp; omega) fun e => by have := HBK.out k e; omega).trans (heap_alloc_old w4 _ hk)⟩
          have s5 := hch.size
          have kn5 := kn4.chg hch (by omega) (by simp only [List.forall_mem_cons]; simp; try omega)
          have hR := HC.out _ w5 A' r c' g cap ((Below.refl _ _).alloc (Nat.le_refl _) (.cells #[.slice A' r.length c'] 27)) ((hr'.belowB kn5.bel hB).more (Nat.le_trans hB kn5.bel.size)) (by unfold maxLen; omega) hown2 hgrow
          have KP := Lib.hid (sorted_any (some ⟨g, 0, none⟩) (rs.length + 1) cap w5.heap.size (rs ++ [r]) w5 hR (Nat.le_refl _) (by omega) (fun x hx => by
            rcases List.mem_append.1 hx with h | h
            · exact hrow'.out x h
            · rw [List.mem_singleton.1 h]
              omega))
          rw [sortL_snoc hasc.out] at KP
          clear kn4 hown2 hgrow hat hlt2 hR HC HBK hch hrow2 d0 d1 d2 d3 d4 d5 d6 d7 d8
          obtain ⟨d0, d1, d2, d3, d4, d5, d6, d7, d8, _⟩ := kn5.all
          refine KP.out.mono ?_
          rintro e w6 ⟨A6, c6, rfl, oo6, b6⟩
          have s6 := b6.size
          have kn6 := kn5.next b6
          clear kn5 b6 d0 d1 d2 d3 d4 d5 d6 d7 d8
          obtain ⟨d0, d1, d2, d3, d4, d5, d6, d7, d8, _⟩ := kn6.all
          obtain ⟨f0, f1, f2, f3, f4, f5, f6, f7, f8, _⟩ := kn6.fall
          have hbel := Lib.hid kn6.bel
          have HO := Lib.hid oo6
          have nn : ¬ w1.heap.size = w.heap.size + 1 := by omega
          clear kn6 oo6
          generalize putA r false rs = R at hf HO ⊢
          go_wp2_with fail
          refine bodyPost_ret (v := .tuple #[.agg #[.string nm, .int .i64 ar, .slice A6 R.length c6], .bool true]) (by simp [results, Tryz.results22, go_sem, *]) rfl (TabBool.of hf.out ?_ ?_)
          · refine OwnR.down (lo := w5.heap.size) (OwnR.wide (hi := w6.heap.size) ?_ (by simp)) (by omega)
            repeat refine OwnR.setOff ?_ (by omega)
            exact HO.out
          · repeat first | exact hbel.out | (refine Below.setCell ?_ ?_ _; rotate_left; (simp; try omega))

end

section
open Go.RowKit Go.Deep

set_option maxRecDepth 100000 in
set_option maxHeartbeats 1000000 in
theorem copyDatabase_any (A : Option Addr) (n c B : Nat) (ts : List Tab) (w : World) (hr : RdT w B A n ts) (hB : B ≤ w.heap.size) (hn : n ≤ 1000000000) (hs : sumT ts ≤ 4294967296) :
    Calls Tryz.prog 21 #[.agg #[.slice A n c]] w (DbNew ts w) := by
  obtain ⟨i1, hi1, hz0, hz1, hz2⟩ := info_parts info_tab
  have HL := Lib.hid hr.1
  have hsm := Lib.hid hs
  clear hs
  have hd0 : DInv w [(w.heap.size, 0, .slice A n c), (w.heap.size + 1, 0, .slice none 0 0)] (w.heap.size + 2) (w.heap.size + 3) [] (.slice none 0 0) (((w.alloc (.cells #[.slice A n c] 26)).alloc (.cells #[.slice none 0 0] 26)).alloc (.cells #[.slice none 0 0] 26)) := by
    have hk := ((Kn.start w).box1 (.slice A n c) 26).box1 (.slice none 0 0) 26
    have hk2 : Kn w [(w.heap.size, 0, .slice A n c), (w.heap.size + 1, 0, .slice none 0 0)] (((w.alloc (.cells #[.slice A n c] 26)).alloc (.cells #[.slice none 0 0] 26)).alloc (.cells #[.slice none 0 0] 26)) := by simpa using hk.next ((Below.refl _ _).alloc (Nat.le_refl _) (.cells #[.slice none 0 0] 26))
    refine ⟨hk2, OwnD.nil _ _ _, by simp, by omega, by omega, by simp, by simp [go_sem], by simp [go_sem]⟩
  go_enter Tryz.func21, Tryz.ntmps21
  go_wp2_with fail
  generalize ((w.alloc (.cells #[.slice A n c] 26)).alloc (.cells #[.slice none 0 0] 26)).alloc (.cells #[.slice none 0 0] 26) = w0 at hd0 ⊢
  go_loopw [5, 10] (fun _ i wr => ∃ (k : Nat) (v : Value), k ≤ n ∧ i = .int .i64 k ∧ Hid (DInv w [(w.heap.size, 0, .slice A n c), (w.heap.size + 1, 0, .slice none 0 0)] (w.heap.size + 2) (w.heap.size + 3) (ts.take k) v wr)) (fun _ i _ => n - (intOf i).toNat)
  case atStart => exact ⟨0, _, by omega, rfl, hd0⟩
  case round =>
    obtain ⟨k, v, hk, rfl, hinv⟩ := hrel
    clear hd0
    have hbel := Lib.hid hinv.out.kn.bel
    have hsz := hbel.out.size
    by_cases hlt : k < n
    · obtain ⟨b, o, t, A', c', rfl, hb, hx, hc0, hc1, hc2, hrd, hm, hnm⟩ := RdT.at_ hr hlt
      have hts := Lib.hid (tab_small hx hsm.out)
      have HX := Lib.hid (show ts.take k ++ [t] = ts.take (k + 1) by rw [List.take_add_one, hx]; rfl)
      have hlk : (ts.take k).length ≤ 1000000000 := by rw [List.length_take]; omega
      have d0 := (hbel.out.cell (p := ⟨b, o + k * 3, none⟩) (by show b < _; omega)).trans hc0
      have d1 := (hbel.out.cell (p := ⟨b, o + k * 3 + 1, none⟩) (by show b < _; omega)).trans hc1
      have d2 := (hbel.out.cell (p := ⟨b, o + k * 3 + 2, none⟩) (by show b < _; omega)).trans hc2
      obtain ⟨nm, ar, rs⟩ := t
      have HX : Hid (ts.take k ++ [⟨nm, ar, rs⟩] = ts.take (k + 1)) := HX
      have hnm : nm.size ≤ maxLen := hnm
      generalize ts.take k = acc at hinv HX hlk
      have hW := (Below.refl wr.heap.size wr).alloc (Nat.le_refl _) (.cells #[.string nm, .int .i64 ar, .slice A' rs.length c'] 51)
      have KC : Hid (∀ U, Below (wr.alloc (.cells #[.string nm, .int .i64 ar, .slice A' rs.length c'] 51)).heap.size (wr.alloc (.cells #[.string nm, .int .i64 ar, .slice A' rs.length c'] 51)) U → Calls Tryz.prog 51 #[.agg #[.string nm, .int .i64 ar, .slice A' rs.length c']] U (TabNew nm ar rs U)) := fun U b =>
        copyTable_any nm ar A' rs.length c' B rs U (RdR.belowB hrd (hbel.out.trans ((hW.trans (b.mono hW.size)).mono hsz)) hB) (Nat.le_trans hB (Nat.le_trans hsz (Nat.le_trans hW.size b.size))) hts.out.1 hts.out.2
      have HI := Lib.hid (hinv.out.next hW)
      have x0 := HI.out.x0
      have e0 : (wr.alloc (.cells #[.string nm, .int .i64 ar, .slice A' rs.length c'] 51)).cell? ⟨wr.heap.size, 0, none⟩ = some (.string nm) := by simp [go_sem]
      have e1 : (wr.alloc (.cells #[.string nm, .int .i64 ar, .slice A' rs.length c'] 51)).cell? ⟨wr.heap.size, 1, none⟩ = some (.int .i64 ar) := by simp [go_sem]
      have e2 : (wr.alloc (.cells #[.string nm, .int .i64 ar, .slice A' rs.length c'] 51)).cell? ⟨wr.heap.size, 2, none⟩ = some (.slice A' rs.length c') := by simp [go_sem]
      have hlt1 : wr.heap.size < (wr.alloc (.cells #[.string nm, .int .i64 ar, .slice A' rs.length c'] 51)).heap.size := by simp
      clear hx hc0 hc1 hc2 hrd hm hW hinv
      go_wp2_with fail
      generalize wr.alloc (.cells #[.string nm, .int .i64 ar, .slice A' rs.length c'] 51) = W1 at KC HI x0 e0 e1 e2 hlt1 ⊢
      clear d0 d1 d2
      go_region_law (first
          | (go_simp; go_at_call 51; refine (KC.out _ ((Below.refl _ _).drew)).mono ?_; rintro e w1 ⟨A1, c1, rfl, ho1, hb1⟩
             have hb2 : Below W1.heap.size W1 w1 := ((Below.refl _ _).drew).trans hb1
             have hb3 : Below W1.heap.size W1 w1 := hb2
             have m0 : w1.cell? ⟨wr.heap.size, 0, none⟩ = some (.string nm) := (hb2.cell (p := ⟨wr.heap.size, 0, none⟩) hlt1).trans e0
             have m1 : w1.cell? ⟨wr.heap.size, 1, none⟩ = some (.int .i64 ar) := (hb2.cell (p := ⟨wr.heap.size, 1, none⟩) hlt1).trans e1
             have m2 : w1.cell? ⟨wr.heap.size, 2, none⟩ = some (.slice A' rs.length c') := (hb2.cell (p := ⟨wr.heap.size, 2, none⟩) hlt1).trans e2
             have hsw := Lib.hid hb2.size
             obtain ⟨xs, hrow, n2, happ⟩ := HI.out.app (nm := nm) (ar := ar) hb3 ho1 (Nat.le_refl _) (Nat.le_refl _) hnm
             have hx1 : w.heap.size + 2 < w1.heap.size := Nat.lt_of_lt_of_le (Nat.lt_of_lt_of_le HI.out.hxb HI.out.size) hb3.size
             have HA := Lib.hid happ
             clear hb3 hb2 ho1 hb1 happ)
          | (refine step_append_lies _ (by rfl) (.tmp 15) (.tmp 18) _ (by rfl) 0 51 i1 _ 3 48 Tryz.underlying24 hi1 hz0 hz1 hz2 (by rfl) (by omega) _ (acc).length xs (by rfl) hrow ⟨w1.heap.size, 0, none⟩ 1 1 [.string nm, .int .i64 ar, .slice A1 rs.length c1] (by rfl) rfl (World.news_of_block (cs := #[.string nm, .int .i64 ar, .slice A1 rs.length c1]) (t := 51) (fr := (0, 0)) (heap_alloc_new w1 _)) (by simp [Value.oneCell']) (by omega) (by unfold maxLen; omega) (by omega) (Nat.zero_le _) (w1.heap.size + 1) (by simp) ?_; intro g cap w2 hown2 hgrow hat hlt2
             obtain ⟨n2, n3, hF, hcl, hsz2⟩ := HA.out g cap w2 hown2 hgrow hat
             have HF := Lib.hid hF
             have hsZ := Lib.hid (Nat.le_trans hsw.out hsz2)
             clear hown2 hgrow hat hF hcl hsz2)
          | fail)
      all_goals (
        go_wp2_with fail
        refine ⟨⟨k + 1, _, by omega, by go_num, by rw [← HX.out]; exact HF⟩, ?_⟩
        simp [intOf]
        omega)
    · obtain rfl : k = n := by omega
      have HT := Lib.hid (show ts.take k = ts from List.take_of_length_le (Nat.le_of_eq HL.out))
      have hI := hinv.out
      rw [HT.out] at hI
      obtain ⟨A1, c1, rfl⟩ := hI.own.form
      obtain ⟨d0, d1, _⟩ := hI.kn.all
      obtain ⟨f0, f1, _⟩ := hI.kn.fall
      have x0 := hI.x0
      have HF := Lib.hid hI
      have hsz := hI.size
      clear hI hinv
      go_wp2_with fail
      refine bodyPost_ret (v := .agg #[.slice A1 ts.length c1]) (by simp [results, Tryz.results21, go_sem, *]) rfl (DbNew.of ?_ ?_)
      · refine OwnD.down (lo := w.heap.size + 3) (OwnD.wide (hi := wr.heap.size) ?_ (by simp)) (by omega)
        repeat refine OwnD.setOff ?_ (by omega)
        exact HF.out.own
      · repeat first | exact HF.out.kn.bel | (refine Below.setCell ?_ ?_ _; rotate_left; (simp; try omega))

set_option maxRecDepth 100000 in
set_option maxHeartbeats 1000000 in
theorem l5Copy_any (A : Option Addr) (n c B : Nat) (ts : List Tab) (w : World) (hr : RdT w B A n ts) (hB : B ≤ w.heap.size) (hn : n ≤ 1000000000) (hs : sumT ts ≤ 4294967296) :
    Calls Tryz.prog 26 #[.agg #[.slice A n c]] w (DbNew ts w) := by
  obtain ⟨i1, hi1, hz0, hz1, hz2⟩ := info_parts info_tab
  have HL := Lib.hid hr.1
  have hsm := Lib.hid hs
  clear hs
  have hd0 : DInv w [(w.heap.size, 0, .slice A n c), (w.heap.size + 1, 0, .slice none 0 0)] (w.heap.size + 2) (w.heap.size + 3) [] (.slice none 0 0) (((w.alloc (.cells #[.slice A n c] 26)).alloc (.cells #[.slice none 0 0] 26)).alloc (.cells #[.slice none 0 0] 26)) := by
    have hk := ((Kn.start w).box1 (.slice A n c) 26).box1 (.slice none 0 0) 26
    have hk2 : Kn w [(w.heap.size, 0, .slice A n c), (w.heap.size + 1, 0, .slice none 0 0)] (((w.alloc (.cells #[.slice A n c] 26)).alloc (.cells #[.slice none 0 0] 26)).alloc (.cells #[.slice none 0 0] 26)) := by simpa using hk.next ((Below.refl _ _).alloc (Nat.le_refl _) (.cells #[.slice none 0 0] 26))
    refine ⟨hk2, OwnD.nil _ _ _, by simp, by omega, by omega, by simp, by simp [go_sem], by simp [go_sem]⟩
  go_enter Tryz.func26, Tryz.ntmps26
  go_wp2_with fail
  generalize ((w.alloc (.cells #[.slice A n c] 26)).alloc (.cells #[.slice none 0 0] 26)).alloc (.cells #[.slice none 0 0] 26) = w0 at hd0 ⊢
  go_loopw [4] (fun i wr => ∃ (k : Nat) (v : Value), k ≤ n ∧ i = .int .i64 k ∧ Hid (DInv w [(w.heap.size, 0, .slice A n c), (w.heap.size + 1, 0, .slice none 0 0)] (w.heap.size + 2) (w.heap.size + 3) (ts.take k) v wr)) (fun i _ => n - (intOf i).toNat)
  case atStart => exact ⟨0, _, by omega, rfl, hd0⟩
  case round =>
    obtain ⟨k, v, hk, rfl, hinv⟩ := hrel
    clear hd0
    have hbel := Lib.hid hinv.out.kn.bel
    have hsz := hbel.out.size
    obtain ⟨k0, _⟩ := hinv.out.kn.all
    by_cases hlt : k < n
    · obtain ⟨b, o, t, A', c', rfl, hb, hx, hc0, hc1, hc2, hrd, hm, hnm⟩ := RdT.at_ hr hlt
      have hts := Lib.hid (tab_small hx hsm.out)
      have HX := Lib.hid (show ts.take k ++ [t] = ts.take (k + 1) by rw [List.take_add_one, hx]; rfl)
      have hlk : (ts.take k).length ≤ 1000000000 := by rw [List.length_take]; omega
      have d0 := (hbel.out.cell (p := ⟨b, o + k * 3, none⟩) (by show b < _; omega)).trans hc0
      have d1 := (hbel.out.cell (p := ⟨b, o + k * 3 + 1, none⟩) (by show b < _; omega)).trans hc1
      have d2 := (hbel.out.cell (p := ⟨b, o + k * 3 + 2, none⟩) (by show b < _; omega)).trans hc2
      obtain ⟨nm, ar, rs⟩ := t
      have HX : Hid (ts.take k ++ [⟨nm, ar, rs⟩] = ts.take (k + 1)) := HX
      have hnm : nm.size ≤ maxLen := hnm
      generalize ts.take k = acc at hinv HX hlk
      have KC := Lib.hid (l4Copy_any nm ar A' rs.length c' B rs wr (RdR.belowB hrd hbel.out hB) (Nat.le_trans hB hsz) hts.out.1 hts.out.2)
      clear hx hc0 hc1 hc2 hrd hm
      go_wp2_with fail
      refine KC.out.mono ?_
      rintro e w1 ⟨A1, c1, rfl, ho1, hb1⟩
      clear d0 d1 d2 k0
      obtain ⟨xs, hrow, n2, happ⟩ := hinv.out.app (nm := nm) (ar := ar) (w1 := w1.alloc (.cells #[.string nm, .int .i64 ar, .slice A1 rs.length c1] 51)) (hb1.alloc hb1.size (.cells #[.string nm, .int .i64 ar, .slice A1 rs.length c1] 51)) (ho1.below ((Below.refl w1.heap.size w1).alloc (Nat.le_refl _) (.cells #[.string nm, .int .i64 ar, .slice A1 rs.length c1] 51)) (Nat.le_refl _)) (Nat.le_refl _) (by simp) hnm
      have hnb : (w1.alloc (.cells #[.string nm, .int .i64 ar, .slice A1 rs.length c1] 51)).heap.size = w1.heap.size + 1 := by simp
      have hgn := heap_alloc_new (w1.alloc (.cells #[.string nm, .int .i64 ar, .slice A1 rs.length c1] 51)) (.cells #[.string nm, .int .i64 ar, .slice A1 rs.length c1] 51)
      have hx1 : w.heap.size + 2 < w1.heap.size := Nat.lt_of_lt_of_le (Nat.lt_of_lt_of_le hinv.out.hxb hinv.out.size) hb1.size
      rw [hnb] at hgn happ
      have n3 : w1.cell? ⟨w.heap.size + 2, 0, none⟩ = some (v) := (hb1.cell (p := ⟨w.heap.size + 2, 0, none⟩) (Nat.lt_of_lt_of_le hinv.out.hxb hinv.out.size)).trans hinv.out.x0
      have HA := Lib.hid happ
      have HR := Lib.hid hrow
      have HGN := Lib.hid hgn
      clear happ ho1 hb1 hrow hgn n2
      go_wp2_with (at_builtin; refine wpList_append_lies _ rfl _ _ _ rfl 0 51 i1 _ 3 48 Tryz.underlying24 hi1 hz0 hz1 hz2 rfl (by omega) _ (acc).length _ rfl HR.out ⟨w1.heap.size + 1, 0, none⟩ 1 1 [.string nm, .int .i64 ar, .slice A1 rs.length c1] rfl rfl (World.news_of_block (cs := #[.string nm, .int .i64 ar, .slice A1 rs.length c1]) (t := 51) (fr := (0, 0)) HGN.out) (by simp [Value.oneCell']) (by omega) (by unfold maxLen; omega) (by omega) (Nat.zero_le _) (w1.heap.size + 1 + 1) (by simp) ?_; intro g cap w2 hown2 hgrow hat hlt2; obtain ⟨m2, m3, hF, hcl, hsz2⟩ := HA.out g cap w2 hown2 hgrow hat; have HF := Lib.hid hF; clear hown2 hgrow hat hF hcl hsz2)
      refine ⟨⟨k + 1, _, by omega, by go_num, by rw [← HX.out]; exact HF⟩, ?_⟩
      simp [intOf]
      omega
    · obtain rfl : k = n := by omega
      have HT := Lib.hid (show ts.take k = ts from List.take_of_length_le (Nat.le_of_eq HL.out))
      have hI := hinv.out
      rw [HT.out] at hI
      obtain ⟨A1, c1, rfl⟩ := hI.own.form
      obtain ⟨d0, d1, _⟩ := hI.kn.all
      obtain ⟨f0, f1, _⟩ := hI.kn.fall
      have x0 := hI.x0
      have HF := Lib.hid hI
      have hsz := hI.size
      clear hI hinv
      go_wp2_with fail
      refine bodyPost_ret (v := .agg #[.slice A1 ts.length c1]) (by simp [results, Tryz.results26, go_sem, *]) rfl (DbNew.of ?_ ?_)
      · refine OwnD.down (lo := w.heap.size + 3) (OwnD.wide (hi := wr.heap.size) ?_ (by simp)) (by omega)
        repeat refine OwnD.setOff ?_ (by omega)
        exact HF.out.own
      · repeat first | exact HF.out.kn.bel | (refine Below.setCell ?_ ?_ _; rotate_left; (simp; try omega))

end

section
open Go.RowKit Go.Deep

set_option maxRecDepth 100000 in
set_option maxHeartbeats 4000000 in
theorem impl_SetTable_any (A A2 : Option Addr) (n c c2 B : Nat) (ts : List Tab) (tn : ByteArray) (ta : Int) (tr : List (List Int)) (w : World) (hr : RdT w B A n ts) (hB : B ≤ w.heap.size) (hn : n ≤ 1000000000) (hs : sumT ts ≤ 4294967296)
    (hr2 : RdR w B A2 tr.length tr) (hn2 : tr.length ≤ 5000000000) (hrow : ∀ r ∈ tr, r.length ≤ 17592186044416) (htn : tn.size ≤ maxLen) :
    Calls Tryz.prog 24 #[.agg #[.slice A n c], .agg #[.string tn, .int .i64 ta, .slice A2 tr.length c2]] w (DbBool (setR ts ⟨tn, ta, tr⟩) w) := by
  obtain ⟨i1, hi1, hz0, hz1, hz2⟩ := info_parts info_tab
  have HL := Lib.hid hr.1
  have hsm := Lib.hid hs
  have hrow' := Lib.hid hrow
  have KV : Hid (∀ W, Below w.heap.size w W → Calls Tryz.prog 50 #[.agg #[.slice A n c]] W fun e w' => e = .returned (.bool (validD ts)) ∧ Below W.heap.size W w') := fun W b => impl_IsValidDatabase_any A n c B ts W (RdT.belowB hr b hB) (Nat.le_trans hB b.size) hn hs
  have KT : Hid (∀ W, Below w.heap.size w W → Calls Tryz.prog 52 #[.agg #[.string tn, .int .i64 ta, .slice A2 tr.length c2]] W fun e w' => e = .returned (.bool (validTb ⟨tn, ta, tr⟩)) ∧ Below W.heap.size W w') := fun W b => impl_IsValidTable_any tn ta A2 tr.length c2 B tr W (RdR.belowB hr2 b hB) (Nat.le_trans hB b.size) (by omega)
  have KP : Hid (∀ W, Below w.heap.size w W → Calls Tryz.prog 21 #[.agg #[.slice A n c]] W (DbNew ts W)) := fun W b => copyDatabase_any A n c B ts W (RdT.belowB hr b hB) (Nat.le_trans hB b.size) hn hs
  have kn0 : Kn w [(w.heap.size, 0, .slice A n c), (w.heap.size + 1, 0, .string tn), (w.heap.size + 1, 1, .int .i64 ta), (w.heap.size + 1, 2, .slice A2 tr.length c2), (w.heap.size + 2, 0, .slice none 0 0)] (((w.alloc (.cells #[.slice A n c] 26)).alloc (.cells #[.string tn, .int .i64 ta, .slice A2 tr.length c2] 51)).alloc (.cells #[.slice none 0 0] 26)) := by
    simpa using ((((Kn.start w).box1 (.slice A n c) 26).box3 (.string tn) (.int .i64 ta) (.slice A2 tr.length c2) 51).box1 (.slice none 0 0) 26)
  clear hs hrow
  go_enter Tryz.func24, Tryz.ntmps24
  go_wp2_with fail
  have s0 : w.heap.size + 3 ≤ (((w.alloc (.cells #[.slice A n c] 26)).alloc (.cells #[.string tn, .int .i64 ta, .slice A2 tr.length c2] 51)).alloc (.cells #[.slice none 0 0] 26)).heap.size := by simp
  generalize ((w.alloc (.cells #[.slice A n c] 26)).alloc (.cells #[.string tn, .int .i64 ta, .slice A2 tr.length c2] 51)).alloc (.cells #[.slice none 0 0] 26) = w0 at kn0 s0 ⊢
  have KV0 := Lib.hid (KV.out w0 kn0.bel)
  cases hv : validD ts with
  | false =>
    have hf : Hid (setR ts ⟨tn, ta, tr⟩ = (ts, false)) := by show _ = _; rw [setR, if_neg (by rw [hv]; simp)]
    rw [hv] at KV0
    clear hv
    refine KV0.out.mono ?_
    rintro e w1 ⟨rfl, b1⟩
    have s1 := b1.size
    have kn1 := kn0.next b1
    clear kn0 b1
    obtain ⟨d0, d1, d2, d3, d4, _⟩ := kn1.all
    have KP1 := Lib.hid (KP.out w1 kn1.bel)
    go_wp2_with fail
    refine KP1.out.mono ?_
    rintro e w2 ⟨Ao, co, rfl, oo, b2⟩
    have s2 := b2.size
    have kn2 := kn1.next b2
    have HO := Lib.hid oo
    clear kn1 b2 oo d0 d1 d2 d3 d4
    obtain ⟨d0, d1, d2, d3, d4, _⟩ := kn2.all
    obtain ⟨f0, f1, f2, f3, f4, _⟩ := kn2.fall
    have HF := Lib.hid kn2.bel
    clear kn2
    go_wp2_with fail
    refine bodyPost_ret (v := .tuple #[.agg #[.slice Ao ts.length co], .bool false]) (by simp [results, Tryz.results24, go_sem, *]) rfl (DbBool.of hf.out ?_ ?_)
    · refine OwnD.down (lo := w1.heap.size) (OwnD.wide (hi := w2.heap.size) ?_ (by simp)) (by omega)
      repeat refine OwnD.setOff ?_ (by omega)
      exact HO.out
    · repeat first | exact HF.out | (refine Below.setCell ?_ ?_ _; rotate_left; (simp; try omega))
  | true =>
    have HV := Lib.hid hv
    rw [hv] at KV0
    clear hv
    refine KV0.out.mono ?_
    rintro e w1 ⟨rfl, b1⟩
    have s1 := b1.size
    have kn1 := kn0.next b1
    clear kn0 b1
    obtain ⟨d0, d1, d2, d3, d4, _⟩ := kn1.all
    have KT1 := Lib.hid (KT.out w1 kn1.bel)
    go_wp2_with fail
    cases hvt : validTb ⟨tn, ta, tr⟩ with
    | false =>
      have hf : Hid (setR ts ⟨tn, ta, tr⟩ = (ts, false)) := by show _ = _; rw [setR, if_neg (by rw [hvt]; simp)]
      rw [hvt] at KT1
      clear hvt
      refine KT1.out.mono ?_
      rintro e w2 ⟨rfl, b2⟩
      have s2 := b2.size
      have kn2 := kn1.next b2
      clear kn1 b2 d0 d1 d2 d3 d4
      obtain ⟨d0, d1, d2, d3, d4, _⟩ := kn2.all
      have KP2 := Lib.hid (KP.out w2 kn2.bel)
      go_wp2_with fail
      refine KP2.out.mono ?_
      rintro e w3 ⟨Ao, co, rfl, oo, b3⟩
      have s3 := b3.size
      have kn3 := kn2.next b3
      have HO := Lib.hid oo
      clear kn2 b3 oo d0 d1 d2 d3 d4
      obtain ⟨d0, d1, d2, d3, d4, _⟩ := kn3.all
      obtain ⟨f0, f1, f2, f3, f4, _⟩ := kn3.fall
      have HF := Lib.hid kn3.bel
      clear kn3
      go_wp2_with fail
      refine bodyPost_ret (v := .tuple #[.agg #[.slice Ao ts.length co], .bool false]) (by simp [results, Tryz.results24, go_sem, *]) rfl (DbBool.of hf.out ?_ ?_)
      · refine OwnD.down (lo := w2.heap.size) (OwnD.wide (hi := w3.heap.size) ?_ (by simp)) (by omega)
        repeat refine OwnD.setOff ?_ (by omega)
        exact HO.out
      · repeat first | exact HF.out | (refine Below.setCell ?_ ?_ _; rotate_left; (simp; try omega))
    | true =>
      have HVT := Lib.hid hvt
      rw [hvt] at KT1
      clear hvt
      refine KT1.out.mono ?_
      rintro e w2 ⟨rfl, b2⟩
      have s2 := b2.size
      have kn2 := kn1.next b2
      clear kn1 b2 d0 d1 d2 d3 d4 KT1 KV0
      obtain ⟨d0, d1, d2, d3, d4, _⟩ := kn2.all
      have ne0 : w.heap.size < w2.heap.size := by omega
      go_wp2_with fail
      clear ne0
      have hd0 : DInv w [(w.heap.size, 0, .slice A n c), (w.heap.size + 1, 0, .string tn), (w.heap.size + 1, 1, .int .i64 ta), (w.heap.size + 1, 2, .slice A2 tr.length c2), (w.heap.size + 2, 0, .slice none 0 0)] w2.heap.size (w2.heap.size + 1) [] (.slice none 0 0) (w2.alloc (.cells #[.slice none 0 0] 26)) :=
        ⟨kn2.next ((Below.refl _ _).alloc (Nat.le_refl _) (.cells #[.slice none 0 0] 26)), OwnD.nil _ _ _, by simp, by omega, by omega, by simp only [List.forall_mem_cons]; simp; omega, by simp [go_sem], by simp [go_sem]⟩
      have hsx : Hid (w.heap.size + 3 ≤ w2.heap.size) := by show _ ≤ _; omega
      clear kn2 d0 d1 d2 d3 d4
      generalize w2.alloc (.cells #[.slice none 0 0] 26) = w3 at hd0 ⊢
      go_loopw [7, 9, 24] (fun d _ i wr => ∃ (k : Nat) (v : Value), k ≤ n ∧ i = .int .i64 k ∧ d = .bool (setS ⟨tn, ta, tr⟩ (ts.take k)).1 ∧ Hid (DInv w [(w.heap.size, 0, .slice A n c), (w.heap.size + 1, 0, .string tn), (w.heap.size + 1, 1, .int .i64 ta), (w.heap.size + 1, 2, .slice A2 tr.length c2), (w.heap.size + 2, 0, .slice none 0 0)] w2.heap.size (w2.heap.size + 1) (setS ⟨tn, ta, tr⟩ (ts.take k)).2 v wr)) (fun _ _ i _ => n - (intOf i).toNat)
      case atStart => exact ⟨0, _, by omega, rfl, rfl, hd0⟩
      case round =>
        obtain ⟨k, v, hk, rfl, rfl, hinv⟩ := hrel
        clear hd0
        have hbel := Lib.hid hinv.out.kn.bel
        have hsz := hbel.out.size
        have hsl : (setS ⟨tn, ta, tr⟩ (ts.take k)).2.length ≤ 2000000000 := by
          have h1 := setS_len2 ⟨tn, ta, tr⟩ (ts.take k)
          rw [List.length_take] at h1
          omega
        by_cases hlt : k < n
        · obtain ⟨b, o, x, A', c', rfl, hb, hx, hc0, hc1, hc2, hrd, hm, hnm⟩ := RdT.at_ hr hlt
          have hts := Lib.hid (tab_small hx hsm.out)
          have HX0 := Lib.hid (setS_take (t := ⟨tn, ta, tr⟩) hx)
          have m0 := (hbel.out.cell (p := ⟨b, o + k * 3, none⟩) (by show b < _; omega)).trans hc0
          have m1 := (hbel.out.cell (p := ⟨b, o + k * 3 + 1, none⟩) (by show b < _; omega)).trans hc1
          have m2 := (hbel.out.cell (p := ⟨b, o + k * 3 + 2, none⟩) (by show b < _; omega)).trans hc2
          obtain ⟨xn, xa, xr⟩ := x
          have hrdx : Hid (RdR w B A' xr.length xr) := hrd
          have HX : Hid (setS ⟨tn, ta, tr⟩ (ts.take (k + 1)) = setF ⟨tn, ta, tr⟩ (setS ⟨tn, ta, tr⟩ (ts.take k)) ⟨xn, xa, xr⟩) := HX0
          generalize setS ⟨tn, ta, tr⟩ (ts.take k) = S at hinv hsl HX ⊢
          obtain ⟨d, acc⟩ := S
          have hW : Hid (Below wr.heap.size wr (wr.alloc (.cells #[.string xn, .int .i64 xa, .slice A' xr.length c'] 51))) := (Below.refl wr.heap.size wr).alloc (Nat.le_refl _) _
          have HI1 := Lib.hid (hinv.out.next hW.out)
          obtain ⟨d0, d1, d2, d3, d4, _⟩ := HI1.out.kn.all
          have x0 := HI1.out.x0
          have e0 : (wr.alloc (.cells #[.string xn, .int .i64 xa, .slice A' xr.length c'] 51)).cell? ⟨wr.heap.size, 0, none⟩ = some (.string xn) := by simp [go_sem]
          have e1 : (wr.alloc (.cells #[.string xn, .int .i64 xa, .slice A' xr.length c'] 51)).cell? ⟨wr.heap.size, 1, none⟩ = some (.int .i64 xa) := by simp [go_sem]
          have e2 : (wr.alloc (.cells #[.string xn, .int .i64 xa, .slice A' xr.length c'] 51)).cell? ⟨wr.heap.size, 2, none⟩ = some (.slice A' xr.length c') := by simp [go_sem]
          have hlt1 : wr.heap.size < (wr.alloc (.cells #[.string xn, .int .i64 xa, .slice A' xr.length c'] 51)).heap.size := by simp
          clear hx hc0 hc1 hc2 hrd hm HX0 HI1
          cases hl : ltN xn tn with
          | true =>
            by_cases he : xn = tn
            · cases d with
              | true =>
                have HN : Hid (setS ⟨tn, ta, tr⟩ (ts.take (k + 1)) = (true, acc)) := by show _ = _; rw [HX.out]; simp only [setF, hl]; rw [if_pos he]; simp
                have qe := (show (xn.toList == tn.toList) = true by rw [he]; simp)
                unfold ltN at hl
                clear he
                have hla0 : acc.length ≤ 2000000000 := hsl
                have HF := Lib.hid (hinv.out.next hW.out)
                go_wp2_with fail
                refine ⟨⟨k + 1, _, by omega, by go_num, by rw [HN.out], by rw [HN.out]; exact HF⟩, ?_⟩
                simp [intOf]
                omega
              | false =>
                have HN : Hid (setS ⟨tn, ta, tr⟩ (ts.take (k + 1)) = (false, acc)) := by show _ = _; rw [HX.out]; simp only [setF, hl]; rw [if_pos he]; simp
                have qe := (show (xn.toList == tn.toList) = true by rw [he]; simp)
                unfold ltN at hl
                clear he
                have hla0 : acc.length ≤ 2000000000 := hsl
                have HF := Lib.hid (hinv.out.next hW.out)
                go_wp2_with fail
                refine ⟨⟨k + 1, _, by omega, by go_num, by rw [HN.out], by rw [HN.out]; exact HF⟩, ?_⟩
                simp [intOf]
                omega
            · cases d with
              | true =>
                have HN : Hid (setS ⟨tn, ta, tr⟩ (ts.take (k + 1)) = (true, acc ++ [⟨xn, xa, xr⟩])) := by show _ = _; rw [HX.out]; simp only [setF, hl]; rw [if_neg he]; simp
                have qe := str_eq0 he
                unfold ltN at hl
                clear he
                have hla0 : acc.length ≤ 2000000000 := hsl
                have KX : Hid (∀ U, Below (wr.alloc (.cells #[.string xn, .int .i64 xa, .slice A' xr.length c'] 51)).heap.size (wr.alloc (.cells #[.string xn, .int .i64 xa, .slice A' xr.length c'] 51)) U → Calls Tryz.prog 51 #[.agg #[.string xn, .int .i64 xa, .slice A' xr.length c']] U (TabNew xn xa xr U)) := fun U b =>
                  copyTable_any xn xa A' xr.length c' B xr U (RdR.belowB hrdx.out (((hbel.out.trans (hW.out.mono hsz))).trans (b.mono ((hbel.out.trans (hW.out.mono hsz))).size)) hB) (Nat.le_trans hB (Nat.le_trans ((hbel.out.trans (hW.out.mono hsz))).size b.size)) hts.out.1 hts.out.2
                go_wp2_with fail
                generalize wr.alloc (.cells #[.string xn, .int .i64 xa, .slice A' xr.length c'] 51) = W1 at hW e0 e1 e2 hlt1 d0 d1 d2 d3 d4 x0 KX ⊢
                go_region_law (first
                    | (go_simp; go_at_call 51; refine (KX.out _ ((Below.refl _ _).drew)).mono ?_; rintro e w1 ⟨A1, c1, rfl, ho1, hb1⟩
                       have hb2 : Below W1.heap.size W1 w1 := ((Below.refl _ _).drew).trans hb1
                       have hb3 : Below wr.heap.size wr w1 := (hW.out).trans (hb2.mono (hW.out).size)
                       have hsw := Lib.hid hb2.size
                       obtain ⟨xs, hrow, n2, happ⟩ := hinv.out.app (nm := xn) (ar := xa) hb3 ho1 (hW.out).size (Nat.le_refl _) hnm
                       have hx1 : w2.heap.size < w1.heap.size := Nat.lt_of_lt_of_le (Nat.lt_of_lt_of_le hinv.out.hxb hinv.out.size) hb3.size
                       have HA := Lib.hid happ
                       clear hb3 hb2 ho1 hb1 happ)
                    | (refine step_append_lies _ (by rfl) (.tmp 50) (.tmp 53) _ (by rfl) 0 51 i1 _ 3 48 Tryz.underlying24 hi1 hz0 hz1 hz2 (by rfl) (by omega) _ (acc).length xs (by rfl) hrow ⟨w1.heap.size, 0, none⟩ 1 1 [.string xn, .int .i64 xa, .slice A1 xr.length c1] (by rfl) rfl (World.news_of_block (cs := #[.string xn, .int .i64 xa, .slice A1 xr.length c1]) (t := 51) (fr := (0, 0)) (heap_alloc_new w1 _)) (by simp [Value.oneCell']) (by omega) (by unfold maxLen; omega) (by omega) (Nat.zero_le _) (w1.heap.size + 1) (by simp) ?_; intro g cap w2 hown2 hgrow hat hlt2
                       obtain ⟨n2, n3, hF, hcl, hsz2⟩ := HA.out g cap w2 hown2 hgrow hat
                       have HF := Lib.hid hF
                       have hsZ := Lib.hid (Nat.le_trans hsw.out hsz2)
                       clear hown2 hgrow hat hF hcl hsz2)
                    | fail)
                all_goals (
                  go_wp2_with fail
                  refine ⟨⟨k + 1, _, by omega, by go_num, by rw [HN.out], by rw [HN.out]; exact HF⟩, ?_⟩
                  simp [intOf]
                  omega)
              | false =>
                have HN : Hid (setS ⟨tn, ta, tr⟩ (ts.take (k + 1)) = (false, acc ++ [⟨xn, xa, xr⟩])) := by show _ = _; rw [HX.out]; simp only [setF, hl]; rw [if_neg he]; simp
                have qe := str_eq0 he
                unfold ltN at hl
                clear he
                have hla0 : acc.length ≤ 2000000000 := hsl
                have KX : Hid (∀ U, Below (wr.alloc (.cells #[.string xn, .int .i64 xa, .slice A' xr.length c'] 51)).heap.size (wr.alloc (.cells #[.string xn, .int .i64 xa, .slice A' xr.length c'] 51)) U → Calls Tryz.prog 51 #[.agg #[.string xn, .int .i64 xa, .slice A' xr.length c']] U (TabNew xn xa xr U)) := fun U b =>
                  copyTable_any xn xa A' xr.length c' B xr U (RdR.belowB hrdx.out (((hbel.out.trans (hW.out.mono hsz))).trans (b.mono ((hbel.out.trans (hW.out.mono hsz))).size)) hB) (Nat.le_trans hB (Nat.le_trans ((hbel.out.trans (hW.out.mono hsz))).size b.size)) hts.out.1 hts.out.2
                go_wp2_with fail
                generalize wr.alloc (.cells #[.string xn, .int .i64 xa, .slice A' xr.length c'] 51) = W1 at hW e0 e1 e2 hlt1 d0 d1 d2 d3 d4 x0 KX ⊢
                go_region_law (first
                    | (go_simp; go_at_call 51; refine (KX.out _ ((Below.refl _ _).drew)).mono ?_; rintro e w1 ⟨A1, c1, rfl, ho1, hb1⟩
                       have hb2 : Below W1.heap.size W1 w1 := ((Below.refl _ _).drew).trans hb1
                       have hb3 : Below wr.heap.size wr w1 := (hW.out).trans (hb2.mono (hW.out).size)
                       have hsw := Lib.hid hb2.size
                       obtain ⟨xs, hrow, n2, happ⟩ := hinv.out.app (nm := xn) (ar := xa) hb3 ho1 (hW.out).size (Nat.le_refl _) hnm
                       have hx1 : w2.heap.size < w1.heap.size := Nat.lt_of_lt_of_le (Nat.lt_of_lt_of_le hinv.out.hxb hinv.out.size) hb3.size
                       have HA := Lib.hid happ
                       clear hb3 hb2 ho1 hb1 happ)
                    | (refine step_append_lies _ (by rfl) (.tmp 50) (.tmp 53) _ (by rfl) 0 51 i1 _ 3 48 Tryz.underlying24 hi1 hz0 hz1 hz2 (by rfl) (by omega) _ (acc).length xs (by rfl) hrow ⟨w1.heap.size, 0, none⟩ 1 1 [.string xn, .int .i64 xa, .slice A1 xr.length c1] (by rfl) rfl (World.news_of_block (cs := #[.string xn, .int .i64 xa, .slice A1 xr.length c1]) (t := 51) (fr := (0, 0)) (heap_alloc_new w1 _)) (by simp [Value.oneCell']) (by omega) (by unfold maxLen; omega) (by omega) (Nat.zero_le _) (w1.heap.size + 1) (by simp) ?_; intro g cap w2 hown2 hgrow hat hlt2
                       obtain ⟨n2, n3, hF, hcl, hsz2⟩ := HA.out g cap w2 hown2 hgrow hat
                       have HF := Lib.hid hF
                       have hsZ := Lib.hid (Nat.le_trans hsw.out hsz2)
                       clear hown2 hgrow hat hF hcl hsz2)
                    | fail)
                all_goals (
                  go_wp2_with fail
                  refine ⟨⟨k + 1, _, by omega, by go_num, by rw [HN.out], by rw [HN.out]; exact HF⟩, ?_⟩
                  simp [intOf]
                  omega)
          | false =>
            by_cases he : xn = tn
            · cases d with
              | true =>
                have HN : Hid (setS ⟨tn, ta, tr⟩ (ts.take (k + 1)) = (true, acc)) := by show _ = _; rw [HX.out]; simp only [setF, hl]; rw [if_pos he]; simp
                have qe := (show (xn.toList == tn.toList) = true by rw [he]; simp)
                unfold ltN at hl
                clear he
                have hla0 : acc.length ≤ 2000000000 := hsl
                have HF := Lib.hid (hinv.out.next hW.out)
                go_wp2_with fail
                refine ⟨⟨k + 1, _, by omega, by go_num, by rw [HN.out], by rw [HN.out]; exact HF⟩, ?_⟩
                simp [intOf]
                omega
              | false =>
                have HN : Hid (setS ⟨tn, ta, tr⟩ (ts.take (k + 1)) = (true, acc ++ [⟨tn, ta, tr⟩])) := by show _ = _; rw [HX.out]; simp only [setF, hl]; rw [if_pos he]; simp
                have qe := (show (xn.toList == tn.toList) = true by rw [he]; simp)
                unfold ltN at hl
                clear he
                have hla0 : acc.length ≤ 2000000000 := hsl
                have KC : Hid (∀ U, Below (wr.alloc (.cells #[.string xn, .int .i64 xa, .slice A' xr.length c'] 51)).heap.size (wr.alloc (.cells #[.string xn, .int .i64 xa, .slice A' xr.length c'] 51)) U → Calls Tryz.prog 51 #[.agg #[.string tn, .int .i64 ta, .slice A2 tr.length c2]] U (TabNew tn ta tr U)) := fun U b =>
                  copyTable_any tn ta A2 tr.length c2 B tr U (RdR.belowB hr2 (((hbel.out.trans (hW.out.mono hsz))).trans (b.mono ((hbel.out.trans (hW.out.mono hsz))).size)) hB) (Nat.le_trans hB (Nat.le_trans ((hbel.out.trans (hW.out.mono hsz))).size b.size)) hn2 hrow'.out
                go_upto_region 9 with fail
                generalize wr.alloc (.cells #[.string xn, .int .i64 xa, .slice A' xr.length c'] 51) = W1 at hW e0 e1 e2 hlt1 d0 d1 d2 d3 d4 x0 KC ⊢
                go_cut [] (fun wx => ∃ v', Hid (DInv w [(w.heap.size, 0, .slice (some ⟨b, o, none⟩) n c), (w.heap.size + 1, 0, .string tn), (w.heap.size + 1, 1, .int .i64 ta), (w.heap.size + 1, 2, .slice A2 tr.length c2), (w.heap.size + 2, 0, .slice none 0 0)] w2.heap.size (w2.heap.size + 1) (acc ++ [⟨tn, ta, tr⟩]) v' wx) ∧ Hid (wx.cell? ⟨wr.heap.size, 0, none⟩ = some (.string xn)) ∧ Hid (wx.cell? ⟨wr.heap.size, 1, none⟩ = some (.int .i64 xa)) ∧ Hid (wx.cell? ⟨wr.heap.size, 2, none⟩ = some (.slice A' xr.length c')) ∧ Hid (wr.heap.size < wx.heap.size))
                case first =>
                  go_region_law (first
                      | (go_simp; go_at_call 51; refine (KC.out _ ((Below.refl _ _).drew)).mono ?_; rintro e w1 ⟨A1, c1, rfl, ho1, hb1⟩
                         have hb2 : Below W1.heap.size W1 w1 := ((Below.refl _ _).drew).trans hb1
                         have hb3 : Below wr.heap.size wr w1 := (hW.out).trans (hb2.mono (hW.out).size)
                         have q0 : Hid (w1.cell? ⟨wr.heap.size, 0, none⟩ = some (.string xn)) := (hb2.cell (p := ⟨wr.heap.size, 0, none⟩) hlt1).trans e0
                         have q1 : Hid (w1.cell? ⟨wr.heap.size, 1, none⟩ = some (.int .i64 xa)) := (hb2.cell (p := ⟨wr.heap.size, 1, none⟩) hlt1).trans e1
                         have q2 : Hid (w1.cell? ⟨wr.heap.size, 2, none⟩ = some (.slice A' xr.length c')) := (hb2.cell (p := ⟨wr.heap.size, 2, none⟩) hlt1).trans e2
                         have hsw := Lib.hid hb2.size
                         obtain ⟨xs, hrow, n2, happ⟩ := hinv.out.app (nm := tn) (ar := ta) hb3 ho1 (hW.out).size (Nat.le_refl _) htn
                         have hx1 : w2.heap.size < w1.heap.size := Nat.lt_of_lt_of_le (Nat.lt_of_lt_of_le hinv.out.hxb hinv.out.size) hb3.size
                         have HA := Lib.hid happ
                         clear hb3 hb2 ho1 hb1 happ)
                      | (refine step_append_lies _ (by rfl) (.tmp 38) (.tmp 41) _ (by rfl) 0 51 i1 _ 3 48 Tryz.underlying24 hi1 hz0 hz1 hz2 (by rfl) (by omega) _ (acc).length xs (by rfl) hrow ⟨w1.heap.size, 0, none⟩ 1 1 [.string tn, .int .i64 ta, .slice A1 tr.length c1] (by rfl) rfl (World.news_of_block (cs := #[.string tn, .int .i64 ta, .slice A1 tr.length c1]) (t := 51) (fr := (0, 0)) (heap_alloc_new w1 _)) (by simp [Value.oneCell']) (by omega) (by unfold maxLen; omega) (by omega) (Nat.zero_le _) (w1.heap.size + 1) (by simp) ?_; intro g cap w2 hown2 hgrow hat hlt2
                         obtain ⟨n2, n3, hF, hcl, hsz2⟩ := HA.out g cap w2 hown2 hgrow hat
                         have q0 := Lib.hid ((hcl (wr.heap.size) 0 (Nat.le_refl _) (Nat.lt_of_lt_of_le hlt1 hsw.out)).trans q0.out)
                         have q1 := Lib.hid ((hcl (wr.heap.size) 1 (Nat.le_refl _) (Nat.lt_of_lt_of_le hlt1 hsw.out)).trans q1.out)
                         have q2 := Lib.hid ((hcl (wr.heap.size) 2 (Nat.le_refl _) (Nat.lt_of_lt_of_le hlt1 hsw.out)).trans q2.out)
                         have HF := Lib.hid hF
                         have hsZ := Lib.hid (Nat.le_trans hsw.out hsz2)
                         clear hown2 hgrow hat hF hcl hsz2)
                      | fail)
                  all_goals (go_wp2_with fail)
                  all_goals (go_meet; exact ⟨_, HF, q0, q1, q2, Nat.lt_of_lt_of_le hlt1 hsZ.out⟩)
                case rest =>
                  generalize wc = w5 at hcut ⊢
                  obtain ⟨v5, hD5, p0, p1, p2, hlt5⟩ := hcut
                  clear d0 d1 d2 d3 d4 x0 e0 e1 e2 KC
                  have HF := hD5
                  obtain ⟨d0, d1, d2, d3, d4, _⟩ := hD5.out.kn.all
                  have x0 := hD5.out.x0
                  have e0 := p0.out
                  go_wp2_with fail
                  refine ⟨⟨k + 1, _, by omega, by go_num, by rw [HN.out], by rw [HN.out]; exact HF⟩, ?_⟩
                  simp [intOf]
                  omega
            · cases d with
              | true =>
                have HN : Hid (setS ⟨tn, ta, tr⟩ (ts.take (k + 1)) = (true, acc ++ [⟨xn, xa, xr⟩])) := by show _ = _; rw [HX.out]; simp only [setF, hl]; rw [if_neg he]; simp
                have qe := str_eq0 he
                unfold ltN at hl
                clear he
                have hla0 : acc.length ≤ 2000000000 := hsl
                have KX : Hid (∀ U, Below (wr.alloc (.cells #[.string xn, .int .i64 xa, .slice A' xr.length c'] 51)).heap.size (wr.alloc (.cells #[.string xn, .int .i64 xa, .slice A' xr.length c'] 51)) U → Calls Tryz.prog 51 #[.agg #[.string xn, .int .i64 xa, .slice A' xr.length c']] U (TabNew xn xa xr U)) := fun U b =>
                  copyTable_any xn xa A' xr.length c' B xr U (RdR.belowB hrdx.out (((hbel.out.trans (hW.out.mono hsz))).trans (b.mono ((hbel.out.trans (hW.out.mono hsz))).size)) hB) (Nat.le_trans hB (Nat.le_trans ((hbel.out.trans (hW.out.mono hsz))).size b.size)) hts.out.1 hts.out.2
                go_wp2_with fail
                generalize wr.alloc (.cells #[.string xn, .int .i64 xa, .slice A' xr.length c'] 51) = W1 at hW e0 e1 e2 hlt1 d0 d1 d2 d3 d4 x0 KX ⊢
                go_region_law (first
                    | (go_simp; go_at_call 51; refine (KX.out _ ((Below.refl _ _).drew)).mono ?_; rintro e w1 ⟨A1, c1, rfl, ho1, hb1⟩
                       have hb2 : Below W1.heap.size W1 w1 := ((Below.refl _ _).drew).trans hb1
                       have hb3 : Below wr.heap.size wr w1 := (hW.out).trans (hb2.mono (hW.out).size)
                       have hsw := Lib.hid hb2.size
                       obtain ⟨xs, hrow, n2, happ⟩ := hinv.out.app (nm := xn) (ar := xa) hb3 ho1 (hW.out).size (Nat.le_refl _) hnm
                       have hx1 : w2.heap.size < w1.heap.size := Nat.lt_of_lt_of_le (Nat.lt_of_lt_of_le hinv.out.hxb hinv.out.size) hb3.size
                       have HA := Lib.hid happ
                       clear hb3 hb2 ho1 hb1 happ)
                    | (refine step_append_lies _ (by rfl) (.tmp 50) (.tmp 53) _ (by rfl) 0 51 i1 _ 3 48 Tryz.underlying24 hi1 hz0 hz1 hz2 (by rfl) (by omega) _ (acc).length xs (by rfl) hrow ⟨w1.heap.size, 0, none⟩ 1 1 [.string xn, .int .i64 xa, .slice A1 xr.length c1] (by rfl) rfl (World.news_of_block (cs := #[.string xn, .int .i64 xa, .slice A1 xr.length c1]) (t := 51) (fr := (0, 0)) (heap_alloc_new w1 _)) (by simp [Value.oneCell']) (by omega) (by unfold maxLen; omega) (by omega) (Nat.zero_le _) (w1.heap.size + 1) (by simp) ?_; intro g cap w2 hown2 hgrow hat hlt2
                       obtain ⟨n2, n3, hF, hcl, hsz2⟩ := HA.out g cap w2 hown2 hgrow hat
                       have HF := Lib.hid hF
                       have hsZ := Lib.hid (Nat.le_trans hsw.out hsz2)
                       clear hown2 hgrow hat hF hcl hsz2)
                    | fail)
                all_goals (
                  go_wp2_with fail
                  refine ⟨⟨k + 1, _, by omega, by go_num, by rw [HN.out], by rw [HN.out]; exact HF⟩, ?_⟩
                  simp [intOf]
                  omega)
              | false =>
                have HN : Hid (setS ⟨tn, ta, tr⟩ (ts.take (k + 1)) = (true, acc ++ [⟨tn, ta, tr⟩] ++ [⟨xn, xa, xr⟩])) := by show _ = _; rw [HX.out]; simp only [setF, hl]; rw [if_neg he]; simp
                have qe := str_eq0 he
                unfold ltN at hl
                clear he
                have hla0 : acc.length ≤ 2000000000 := hsl
                have KC : Hid (∀ U, Below (wr.alloc (.cells #[.string xn, .int .i64 xa, .slice A' xr.length c'] 51)).heap.size (wr.alloc (.cells #[.string xn, .int .i64 xa, .slice A' xr.length c'] 51)) U → Calls Tryz.prog 51 #[.agg #[.string tn, .int .i64 ta, .slice A2 tr.length c2]] U (TabNew tn ta tr U)) := fun U b =>
                  copyTable_any tn ta A2 tr.length c2 B tr U (RdR.belowB hr2 (((hbel.out.trans (hW.out.mono hsz))).trans (b.mono ((hbel.out.trans (hW.out.mono hsz))).size)) hB) (Nat.le_trans hB (Nat.le_trans ((hbel.out.trans (hW.out.mono hsz))).size b.size)) hn2 hrow'.out
                have KX : Hid (∀ U, Below (wr.alloc (.cells #[.string xn, .int .i64 xa, .slice A' xr.length c'] 51)).heap.size (wr.alloc (.cells #[.string xn, .int .i64 xa, .slice A' xr.length c'] 51)) U → Calls Tryz.prog 51 #[.agg #[.string xn, .int .i64 xa, .slice A' xr.length c']] U (TabNew xn xa xr U)) := fun U b =>
                  copyTable_any xn xa A' xr.length c' B xr U (RdR.belowB hrdx.out (((hbel.out.trans (hW.out.mono hsz))).trans (b.mono ((hbel.out.trans (hW.out.mono hsz))).size)) hB) (Nat.le_trans hB (Nat.le_trans ((hbel.out.trans (hW.out.mono hsz))).size b.size)) hts.out.1 hts.out.2
                go_upto_region 9 with fail
                generalize wr.alloc (.cells #[.string xn, .int .i64 xa, .slice A' xr.length c'] 51) = W1 at hW e0 e1 e2 hlt1 d0 d1 d2 d3 d4 x0 KC KX ⊢
                go_cut [] (fun wx => ∃ v', Hid (DInv w [(w.heap.size, 0, .slice (some ⟨b, o, none⟩) n c), (w.heap.size + 1, 0, .string tn), (w.heap.size + 1, 1, .int .i64 ta), (w.heap.size + 1, 2, .slice A2 tr.length c2), (w.heap.size + 2, 0, .slice none 0 0)] w2.heap.size (w2.heap.size + 1) (acc ++ [⟨tn, ta, tr⟩]) v' wx) ∧ Hid (wx.cell? ⟨wr.heap.size, 0, none⟩ = some (.string xn)) ∧ Hid (wx.cell? ⟨wr.heap.size, 1, none⟩ = some (.int .i64 xa)) ∧ Hid (wx.cell? ⟨wr.heap.size, 2, none⟩ = some (.slice A' xr.length c')) ∧ Hid (wr.heap.size < wx.heap.size))
                case first =>
                  go_region_law (first
                      | (go_simp; go_at_call 51; refine (KC.out _ ((Below.refl _ _).drew)).mono ?_; rintro e w1 ⟨A1, c1, rfl, ho1, hb1⟩
                         have hb2 : Below W1.heap.size W1 w1 := ((Below.refl _ _).drew).trans hb1
                         have hb3 : Below wr.heap.size wr w1 := (hW.out).trans (hb2.mono (hW.out).size)
                         have q0 : Hid (w1.cell? ⟨wr.heap.size, 0, none⟩ = some (.string xn)) := (hb2.cell (p := ⟨wr.heap.size, 0, none⟩) hlt1).trans e0
                         have q1 : Hid (w1.cell? ⟨wr.heap.size, 1, none⟩ = some (.int .i64 xa)) := (hb2.cell (p := ⟨wr.heap.size, 1, none⟩) hlt1).trans e1
                         have q2 : Hid (w1.cell? ⟨wr.heap.size, 2, none⟩ = some (.slice A' xr.length c')) := (hb2.cell (p := ⟨wr.heap.size, 2, none⟩) hlt1).trans e2
                         have hsw := Lib.hid hb2.size
                         obtain ⟨xs, hrow, n2, happ⟩ := hinv.out.app (nm := tn) (ar := ta) hb3 ho1 (hW.out).size (Nat.le_refl _) htn
                         have hx1 : w2.heap.size < w1.heap.size := Nat.lt_of_lt_of_le (Nat.lt_of_lt_of_le hinv.out.hxb hinv.out.size) hb3.size
                         have HA := Lib.hid happ
                         clear hb3 hb2 ho1 hb1 happ)
                      | (refine step_append_lies _ (by rfl) (.tmp 38) (.tmp 41) _ (by rfl) 0 51 i1 _ 3 48 Tryz.underlying24 hi1 hz0 hz1 hz2 (by rfl) (by omega) _ (acc).length xs (by rfl) hrow ⟨w1.heap.size, 0, none⟩ 1 1 [.string tn, .int .i64 ta, .slice A1 tr.length c1] (by rfl) rfl (World.news_of_block (cs := #[.string tn, .int .i64 ta, .slice A1 tr.length c1]) (t := 51) (fr := (0, 0)) (heap_alloc_new w1 _)) (by simp [Value.oneCell']) (by omega) (by unfold maxLen; omega) (by omega) (Nat.zero_le _) (w1.heap.size + 1) (by simp) ?_; intro g cap w2 hown2 hgrow hat hlt2
                         obtain ⟨n2, n3, hF, hcl, hsz2⟩ := HA.out g cap w2 hown2 hgrow hat
                         have q0 := Lib.hid ((hcl (wr.heap.size) 0 (Nat.le_refl _) (Nat.lt_of_lt_of_le hlt1 hsw.out)).trans q0.out)
                         have q1 := Lib.hid ((hcl (wr.heap.size) 1 (Nat.le_refl _) (Nat.lt_of_lt_of_le hlt1 hsw.out)).trans q1.out)
                         have q2 := Lib.hid ((hcl (wr.heap.size) 2 (Nat.le_refl _) (Nat.lt_of_lt_of_le hlt1 hsw.out)).trans q2.out)
                         have HF := Lib.hid hF
                         have hsZ := Lib.hid (Nat.le_trans hsw.out hsz2)
                         clear hown2 hgrow hat hF hcl hsz2)
                      | fail)
                  all_goals (go_wp2_with fail)
                  all_goals (go_meet; exact ⟨_, HF, q0, q1, q2, Nat.lt_of_lt_of_le hlt1 hsZ.out⟩)
                case rest =>
                  generalize wc = w5 at hcut ⊢
                  obtain ⟨v5, hD5, p0, p1, p2, hlt5⟩ := hcut
                  clear d0 d1 d2 d3 d4 x0 e0 e1 e2 KC KX
                  have hbel5 := Lib.hid hD5.out.kn.bel
                  have hla : (acc ++ [(⟨tn, ta, tr⟩ : Tab)]).length ≤ 2000000001 := by rw [List.length_append]; simp; omega
                  generalize acc ++ [(⟨tn, ta, tr⟩ : Tab)] = acc2 at hD5 HN hla
                  have KX : Hid (∀ U, Below w5.heap.size w5 U → Calls Tryz.prog 51 #[.agg #[.string xn, .int .i64 xa, .slice A' xr.length c']] U (TabNew xn xa xr U)) := fun U b =>
                    copyTable_any xn xa A' xr.length c' B xr U (RdR.belowB hrdx.out ((hbel5.out).trans (b.mono (hbel5.out).size)) hB) (Nat.le_trans hB (Nat.le_trans (hbel5.out).size b.size)) hts.out.1 hts.out.2
                  obtain ⟨d0, d1, d2, d3, d4, _⟩ := hD5.out.kn.all
                  have x0 := hD5.out.x0
                  have e0 := p0.out
                  have e1 := p1.out
                  have e2 := p2.out
                  have hlt1' := hlt5.out
                  go_wp2_with fail
                  go_region_law (first
                      | (go_simp; go_at_call 51; refine (KX.out _ ((Below.refl _ _).drew)).mono ?_; rintro e w1 ⟨A1, c1, rfl, ho1, hb1⟩
                         have hb2 : Below w5.heap.size w5 w1 := ((Below.refl _ _).drew).trans hb1
                         have hb3 : Below w5.heap.size w5 w1 := hb2
                         have hsw := Lib.hid hb2.size
                         obtain ⟨xs, hrow, n2, happ⟩ := hD5.out.app (nm := xn) (ar := xa) hb3 ho1 (Nat.le_refl _) (Nat.le_refl _) hnm
                         have hx1 : w2.heap.size < w1.heap.size := Nat.lt_of_lt_of_le (Nat.lt_of_lt_of_le hD5.out.hxb hD5.out.size) hb3.size
                         have HA := Lib.hid happ
                         clear hb3 hb2 ho1 hb1 happ)
                      | (refine step_append_lies _ (by rfl) (.tmp 50) (.tmp 53) _ (by rfl) 0 51 i1 _ 3 48 Tryz.underlying24 hi1 hz0 hz1 hz2 (by rfl) (by omega) _ (acc2).length xs (by rfl) hrow ⟨w1.heap.size, 0, none⟩ 1 1 [.string xn, .int .i64 xa, .slice A1 xr.length c1] (by rfl) rfl (World.news_of_block (cs := #[.string xn, .int .i64 xa, .slice A1 xr.length c1]) (t := 51) (fr := (0, 0)) (heap_alloc_new w1 _)) (by simp [Value.oneCell']) (by omega) (by unfold maxLen; omega) (by omega) (Nat.zero_le _) (w1.heap.size + 1) (by simp) ?_; intro g cap w2 hown2 hgrow hat hlt2
                         obtain ⟨n2, n3, hF, hcl, hsz2⟩ := HA.out g cap w2 hown2 hgrow hat
                         have HF := Lib.hid hF
                         have hsZ := Lib.hid (Nat.le_trans hsw.out hsz2)
                         clear hown2 hgrow hat hF hcl hsz2)
                      | fail)
                  all_goals (
                    go_wp2_with fail
                    refine ⟨⟨k + 1, _, by omega, by go_num, by rw [HN.out], by rw [HN.out]; exact HF⟩, ?_⟩
                    simp [intOf]
                    omega)
        · obtain rfl : k = n := by omega
          have HT := Lib.hid (show ts.take k = ts from List.take_of_length_le (Nat.le_of_eq HL.out))
          rw [HT.out] at hinv hsl ⊢
          obtain ⟨S, hS⟩ : ∃ S, S = setS ⟨tn, ta, tr⟩ ts := ⟨_, rfl⟩
          have HS := Lib.hid hS
          rw [← hS] at hinv hsl ⊢
          clear hS
          obtain ⟨d, acc⟩ := S
          have hsl : acc.length ≤ 2000000000 := hsl
          cases d with
          | true =>
            have HTs : Hid (setT ts ⟨tn, ta, tr⟩ = acc) := by show _ = _; rw [setT, ← HS.out]; simp
            generalize acc = Fl at hinv HTs hsl
            generalize wr = w6 at *
            obtain ⟨AF, cF, rfl⟩ := hinv.out.own.form
            have hD := hinv.out
            have hszD := hD.size
            obtain ⟨d0, d1, d2, d3, d4, _⟩ := hD.kn.all
            obtain ⟨f0, f1, f2, f3, f4, _⟩ := hD.kn.fall
            have x0 := hD.x0
            have hbelD := Lib.hid hD.kn.bel
            have hb3 := hsx.out
            by_cases h6 : Fl.length ≤ 6
            · have hf : Hid (setR ts ⟨tn, ta, tr⟩ = (Fl, true)) := by show _ = _; rw [setR, if_pos ⟨HV.out, HVT.out, by rw [HTs.out]; exact h6⟩, HTs.out]
              have HD := Lib.hid hD
              clear hD
              go_wp2_with fail
              refine bodyPost_ret (v := .tuple #[.agg #[.slice AF Fl.length cF], .bool true]) (by simp [results, Tryz.results24, go_sem, *]) rfl (DbBool.of hf.out ?_ ?_)
              · refine OwnD.down (lo := w2.heap.size + 1) (OwnD.wide (hi := w6.heap.size) ?_ (by simp)) (by omega)
                repeat refine OwnD.setOff ?_ (by omega)
                exact HD.out.own
              · repeat first | exact hbelD.out | (refine Below.setCell ?_ ?_ _; rotate_left; (simp; try omega))
            · have hf : Hid (setR ts ⟨tn, ta, tr⟩ = (ts, false)) := by show _ = _; rw [setR, if_neg (by rw [HTs.out]; omega)]
              have KP6 := Lib.hid (KP.out w6 hbelD.out)
              have kn6 := hD.kn
              clear hD
              go_wp2_with fail
              refine KP6.out.mono ?_
              rintro e w7 ⟨Ao, co, rfl, oo, b7⟩
              have s7 := b7.size
              have kn7 := kn6.next b7
              have HO := Lib.hid oo
              clear kn6 b7 oo d0 d1 d2 d3 d4 f0 f1 f2 f3 f4 x0
              obtain ⟨d0, d1, d2, d3, d4, _⟩ := kn7.all
              obtain ⟨f0, f1, f2, f3, f4, _⟩ := kn7.fall
              have HF := Lib.hid kn7.bel
              clear kn7
              go_wp2_with fail
              refine bodyPost_ret (v := .tuple #[.agg #[.slice Ao ts.length co], .bool false]) (by simp [results, Tryz.results24, go_sem, *]) rfl (DbBool.of hf.out ?_ ?_)
              · refine OwnD.down (lo := w6.heap.size) (OwnD.wide (hi := w7.heap.size) ?_ (by simp)) (by omega)
                repeat refine OwnD.setOff ?_ (by omega)
                exact HO.out
              · repeat first | exact HF.out | (refine Below.setCell ?_ ?_ _; rotate_left; (simp; try omega))
          | false =>
            have HTs : Hid (setT ts ⟨tn, ta, tr⟩ = acc ++ [⟨tn, ta, tr⟩]) := by show _ = _; rw [setT, ← HS.out]; simp
            have KC : Hid (∀ U, Below wr.heap.size wr U → Calls Tryz.prog 51 #[.agg #[.string tn, .int .i64 ta, .slice A2 tr.length c2]] U (TabNew tn ta tr U)) := fun U b =>
              copyTable_any tn ta A2 tr.length c2 B tr U (RdR.belowB hr2 ((hbel.out).trans (b.mono (hbel.out).size)) hB) (Nat.le_trans hB (Nat.le_trans (hbel.out).size b.size)) hn2 hrow'.out
            obtain ⟨d0, d1, d2, d3, d4, _⟩ := hinv.out.kn.all
            have x0 := hinv.out.x0
            go_upto_region 15 with fail
            go_cut [] (fun wx => ∃ v', Hid (DInv w [(w.heap.size, 0, .slice A k c), (w.heap.size + 1, 0, .string tn), (w.heap.size + 1, 1, .int .i64 ta), (w.heap.size + 1, 2, .slice A2 tr.length c2), (w.heap.size + 2, 0, .slice none 0 0)] w2.heap.size (w2.heap.size + 1) (acc ++ [⟨tn, ta, tr⟩]) v' wx))
            case first =>
              go_region_law (first
                  | (go_simp; go_at_call 51; refine (KC.out _ ((Below.refl _ _).drew)).mono ?_; rintro e w1 ⟨A1, c1, rfl, ho1, hb1⟩
                     have hb2 : Below wr.heap.size wr w1 := ((Below.refl _ _).drew).trans hb1
                     have hb3 : Below wr.heap.size wr w1 := hb2
                     have hsw := Lib.hid hb2.size
                     obtain ⟨xs, hrow, n2, happ⟩ := hinv.out.app (nm := tn) (ar := ta) hb3 ho1 (Nat.le_refl _) (Nat.le_refl _) htn
                     have hx1 : w2.heap.size < w1.heap.size := Nat.lt_of_lt_of_le (Nat.lt_of_lt_of_le hinv.out.hxb hinv.out.size) hb3.size
                     have HA := Lib.hid happ
                     clear hb3 hb2 ho1 hb1 happ)
                  | (refine step_append_lies _ (by rfl) (.tmp 60) (.tmp 63) _ (by rfl) 0 51 i1 _ 3 48 Tryz.underlying24 hi1 hz0 hz1 hz2 (by rfl) (by omega) _ (acc).length xs (by rfl) hrow ⟨w1.heap.size, 0, none⟩ 1 1 [.string tn, .int .i64 ta, .slice A1 tr.length c1] (by rfl) rfl (World.news_of_block (cs := #[.string tn, .int .i64 ta, .slice A1 tr.length c1]) (t := 51) (fr := (0, 0)) (heap_alloc_new w1 _)) (by simp [Value.oneCell']) (by omega) (by unfold maxLen; omega) (by omega) (Nat.zero_le _) (w1.heap.size + 1) (by simp) ?_; intro g cap w2 hown2 hgrow hat hlt2
                     obtain ⟨n2, n3, hF, hcl, hsz2⟩ := HA.out g cap w2 hown2 hgrow hat
                     have HF := Lib.hid hF
                     have hsZ := Lib.hid (Nat.le_trans hsw.out hsz2)
                     clear hown2 hgrow hat hF hcl hsz2)
                  | fail)
              all_goals (go_wp2_with fail)
              all_goals (go_meet; exact ⟨_, HF⟩)
            case rest =>
              generalize wc = w6 at hcut ⊢
              obtain ⟨v6, hD6⟩ := hcut
              clear d0 d1 d2 d3 d4 x0
              generalize acc ++ [(⟨tn, ta, tr⟩ : Tab)] = Fl at hD6 HTs
              obtain ⟨AF, cF, rfl⟩ := hD6.out.own.form
              have hD := hD6.out
              have hszD := hD.size
              obtain ⟨d0, d1, d2, d3, d4, _⟩ := hD.kn.all
              obtain ⟨f0, f1, f2, f3, f4, _⟩ := hD.kn.fall
              have x0 := hD.x0
              have hbelD := Lib.hid hD.kn.bel
              have hb3 := hsx.out
              by_cases h6 : Fl.length ≤ 6
              · have hf : Hid (setR ts ⟨tn, ta, tr⟩ = (Fl, true)) := by show _ = _; rw [setR, if_pos ⟨HV.out, HVT.out, by rw [HTs.out]; exact h6⟩, HTs.out]
                have HD := Lib.hid hD
                clear hD
                go_wp2_with fail
                refine bodyPost_ret (v := .tuple #[.agg #[.slice AF Fl.length cF], .bool true]) (by simp [results, Tryz.results24, go_sem, *]) rfl (DbBool.of hf.out ?_ ?_)
                · refine OwnD.down (lo := w2.heap.size + 1) (OwnD.wide (hi := w6.heap.size) ?_ (by simp)) (by omega)
                  repeat refine OwnD.setOff ?_ (by omega)
                  exact HD.out.own
                · repeat first | exact hbelD.out | (refine Below.setCell ?_ ?_ _; rotate_left; (simp; try omega))
              · have hf : Hid (setR ts ⟨tn, ta, tr⟩ = (ts, false)) := by show _ = _; rw [setR, if_neg (by rw [HTs.out]; omega)]
                have KP6 := Lib.hid (KP.out w6 hbelD.out)
                have kn6 := hD.kn
                clear hD
                go_wp2_with fail
                refine KP6.out.mono ?_
                rintro e w7 ⟨Ao, co, rfl, oo, b7⟩
                have s7 := b7.size
                have kn7 := kn6.next b7
                have HO := Lib.hid oo
                clear kn6 b7 oo d0 d1 d2 d3 d4 f0 f1 f2 f3 f4 x0
                obtain ⟨d0, d1, d2, d3, d4, _⟩ := kn7.all
                obtain ⟨f0, f1, f2, f3, f4, _⟩ := kn7.fall
                have HF := Lib.hid kn7.bel
                clear kn7
                go_wp2_with fail
                refine bodyPost_ret (v := .tuple #[.agg #[.slice Ao ts.length co], .bool false]) (by simp [results, Tryz.results24, go_sem, *]) rfl (DbBool.of hf.out ?_ ?_)
                · refine OwnD.down (lo := w6.heap.size) (OwnD.wide (hi := w7.heap.size) ?_ (by simp)) (by omega)
                  repeat refine OwnD.setOff ?_ (by omega)
                  exact HO.out
                · repeat first | exact HF.out | (refine Below.setCell ?_ ?_ _; rotate_left; (simp; try omega))

end
end Go.Proofs.YtccnhocekgikiaaGreat
