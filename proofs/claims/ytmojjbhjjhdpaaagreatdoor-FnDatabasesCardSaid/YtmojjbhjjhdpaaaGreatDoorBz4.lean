/- OpenDb, DbL, DbF, CutD, in one text, as far as the seat's program has the functions (printed by tools/fit2.py). -/
import Derived.Test.YtmojjbhjjhdpaaaGreatDoorBz3
import Derived.Lib.SmallJoins
import Derived.Deep.RegionHeld3
import Derived.Deep.DeepCutAuto
namespace Go.Proofs.YtmojjbhjjhdpaaaGreatDoor
section
open Go.RowKit Go.Deep Go.ChangeShapes Go.WideShapes Go.Joins

section

variable {H : Type} {enc : TypeId × Value → H} {P : Program} {w : World} {base : Nat} {spare : Nat → Bool} {held : Bool}

theorem array1 {α : Type} {cs : Array α} (h : cs.size = 1) : ∃ c0, cs = #[c0] := by
  obtain ⟨l⟩ := cs
  match l, h with
  | [c0], _ => exact ⟨c0, rfl⟩

/-- A struct of one one-cell field, by value, opened. -/
theorem open_agg1 {r : Reach} {b0 : Nat} {t : TypeId} {f0 : Field} {v : Value} {d : DataW H} {p : List MemPlace} (hs : P.underlying t = some (.struct #[f0])) (hone : oneCellFields P #[f0] = true) (hC : P.cellsOf t = 1)
    (hv : Value.okWide P w r b0 t v) (h : DataW.Trod enc P w base spare held t v d p) :
    ∃ (v0 : Value) (y0 : DataW H × List MemPlace) (n : Nat), v = .agg #[v0] ∧ d = .agg [y0.1] ∧ p = y0.2 ∧ DataW.trod enc P w base spare held n f0.type [v0] = some y0 := by
  obtain ⟨cs, rfl, hsz⟩ := okWide_struct hs hv
  obtain ⟨c0, rfl⟩ := array1 (hsz.trans hC)
  obtain ⟨fuel, hf⟩ := h
  obtain ⟨xs, n, _, hx, _, hlen, hff⟩ := DataW.trod_struct hs hf
  obtain ⟨o0, k0⟩ := hone_of hone 0 f0 rfl
  match xs, hlen with
  | [y0], _ =>
    simp only [Prod.mk.injEq] at hx
    exact ⟨c0, y0, n, rfl, by simpa using hx.1, by simpa using hx.2, by simpa [Value.cells, o0, k0] using hff 0 f0 rfl⟩

/-- Three cells of a struct of three one-cell fields. -/
theorem trod_three {t : TypeId} {f0 f1 f2 : Field} {fuel : Nat} {c0 c1 c2 : Value} {x : DataW H × List MemPlace} (hs : P.underlying t = some (.struct #[f0, f1, f2])) (hone : oneCellFields P #[f0, f1, f2] = true)
    (h : DataW.trod enc P w base spare held fuel t [c0, c1, c2] = some x) :
    ∃ (y0 y1 y2 : DataW H × List MemPlace) (n : Nat), DataW.trod enc P w base spare held n f0.type [c0] = some y0 ∧ DataW.trod enc P w base spare held n f1.type [c1] = some y1 ∧ DataW.trod enc P w base spare held n f2.type [c2] = some y2 := by
  obtain ⟨y0, y1, y2, n, _, _, h0, h1, h2⟩ := trod_struct3 hs h
  obtain ⟨o0, k0⟩ := hone_of hone 0 f0 rfl
  obtain ⟨o1, k1⟩ := hone_of hone 1 f1 rfl
  obtain ⟨o2, k2⟩ := hone_of hone 2 f2 rfl
  exact ⟨y0, y1, y2, n, by simpa [o0, k0] using h0, by simpa [o1, k1] using h1, by simpa [o2, k2] using h2⟩

end

section

variable {H : Type} {enc : TypeId × Value → H} {W : World}

end

end

section
open Go.RowKit

theorem filter_split (k : Nat) : ∀ {ts : List Tab}, AscK ts → ts.filter (fun x => decide (¬ keyB x.nm = k)) = ts.filter (fun x => decide (keyB x.nm < k)) ++ ts.filter fun x => decide (k < keyB x.nm)
  | [], _ => rfl
  | x :: l, h => by
    have h' := List.pairwise_cons.1 h
    have ih := filter_split k h'.2
    rcases Nat.lt_trichotomy (keyB x.nm) k with h1 | h1 | h1
    · rw [List.filter_cons_of_pos (by simp; omega), List.filter_cons_of_pos (by simpa using h1), List.filter_cons_of_neg (by simp; omega), ih]
      rfl
    · rw [List.filter_cons_of_neg (by simp [h1]), List.filter_cons_of_neg (by simp [h1]), List.filter_cons_of_neg (by simp [h1]), ih]
    · have f1 : l.filter (fun y => decide (keyB y.nm < k)) = [] := List.filter_eq_nil_iff.2 fun y hy => by have := h'.1 y hy; simp; omega
      rw [List.filter_cons_of_pos (by simp; omega), List.filter_cons_of_neg (by simp; omega), List.filter_cons_of_pos (by simpa using h1), ih, f1]
      rfl

theorem ascK_inj {ts : List Tab} (h : AscK ts) {a b : Tab} (ha : a ∈ ts) (hb : b ∈ ts) (he : keyB a.nm = keyB b.nm) : a = b := by
  obtain ⟨i, hi, rfl⟩ := List.getElem_of_mem ha
  obtain ⟨j, hj, rfl⟩ := List.getElem_of_mem hb
  rcases Nat.lt_trichotomy i j with h1 | h1 | h1
  · have := List.pairwise_iff_getElem.1 h i j hi hj h1
    omega
  · subst h1; rfl
  · have := List.pairwise_iff_getElem.1 h j i hj hi h1
    omega

/-- A valid database, about one of its tables. -/
theorem ts_split : ∀ {ts : List Tab} {t : Tab}, AscK ts → t ∈ ts → ts.filter (fun x => decide (keyB x.nm < keyB t.nm)) ++ t :: ts.filter (fun x => decide (keyB t.nm < keyB x.nm)) = ts
  | [], _, _, h => by cases h
  | x :: l, t, h, ht => by
    have h' := List.pairwise_cons.1 h
    rcases List.mem_cons.1 ht with rfl | ht
    · have f1 : l.filter (fun y => decide (keyB y.nm < keyB t.nm)) = [] := List.filter_eq_nil_iff.2 fun y hy => by have := h'.1 y hy; simp; omega
      have f2 : l.filter (fun y => decide (keyB t.nm < keyB y.nm)) = l := List.filter_eq_self.2 fun y hy => by simpa using h'.1 y hy
      rw [List.filter_cons_of_neg (by simp), List.filter_cons_of_neg (by simp), f1, f2]
      rfl
    · have h1 := h'.1 t ht
      rw [List.filter_cons_of_pos (by simpa using h1), List.filter_cons_of_neg (by simp; omega), List.cons_append, ts_split h'.2 ht]

theorem lookR_of {ts : List Tab} {t : Tab} (hv : validD ts = true) (ht : t ∈ ts) : lookR ts t.nm = ⟨t.nm, t.ar, t.rs, true⟩ := by
  obtain ⟨h1, h2, _⟩ := validD_parts hv
  unfold lookR
  cases hf : ts.find? fun x => decide (x.nm = t.nm) with
  | none => exact absurd (List.find?_eq_none.1 hf t ht) (by simp)
  | some t' =>
    have he : t'.nm = t.nm := by simpa using List.find?_some hf
    obtain rfl : t' = t := ascK_inj h2 (List.mem_of_find?_eq_some hf) ht (by rw [he])
    simp [hv]

theorem lookR_ne {ts : List Tab} {nm : ByteArray} (hv : validD ts = true) (h : (lookR ts nm).ok = false) : ts.filter (fun x => decide (¬ x.nm = nm)) = ts := List.filter_eq_self.2 fun x hx => by
  simp only [decide_eq_true_eq]
  rintro rfl
  rw [lookR_of hv hx] at h
  cases h

theorem setT_mem {ts : List Tab} {t : Tab} (hv : validD ts = true) (ht : validTb t = true) : t ∈ setT ts t := by rw [setT_norm hv ht]; simp

theorem setR_ok {ts : List Tab} {t : Tab} (h : (setR ts t).2 = true) : validD ts = true ∧ validTb t = true ∧ setR ts t = (setT ts t, true) ∧ validD (setT ts t) = true := by
  unfold setR at h ⊢
  split at h
  · rename_i h1
    exact ⟨h1.1, h1.2.1, by rw [if_pos h1], by rw [setT_valid h1.1 h1.2.1, decide_eq_true h1.2.2]⟩
  · cases h

theorem setR_bad {ts : List Tab} {t : Tab} (h : (setR ts t).2 = false) : setR ts t = (ts, false) := by
  unfold setR at h ⊢
  split at h
  · cases h
  · rename_i h1
    rw [if_neg h1]

/-- The table found again. -/
theorem lookR_set {ts : List Tab} {t : Tab} (hv : validD ts = true) (ht : validTb t = true) (hx : validD (setT ts t) = true) : lookR (setT ts t) t.nm = ⟨t.nm, t.ar, t.rs, true⟩ := lookR_of hx (setT_mem hv ht)

theorem filter_names {ts : List Tab} {t : Tab} (hn : ∀ x ∈ ts, nameB x.nm = true) (ht : nameB t.nm = true) : ts.filter (fun x => decide (¬ x.nm = t.nm)) = ts.filter fun x => decide (¬ keyB x.nm = keyB t.nm) :=
  List.filter_congr fun x hx => decide_eq_decide.2 (not_congr (eq_key (hn x hx) ht))

theorem setT_filter {ts : List Tab} {t : Tab} (hv : validD ts = true) (ht : validTb t = true) : (setT ts t).filter (fun x => decide (¬ x.nm = t.nm)) = ts.filter fun x => decide (¬ x.nm = t.nm) := by
  obtain ⟨h1, h2, _⟩ := validD_parts hv
  have p := setT_parts hv ht
  rw [filter_names (fun x hx => validTb_name (p.1 x hx)) (validTb_name ht), filter_names (fun x hx => validTb_name (h1 x hx)) (validTb_name ht), filter_split _ h2, setT_norm hv ht, List.filter_append, List.filter_cons_of_neg (by simp)]
  congr 1
  · exact List.filter_eq_self.2 fun x hx => by have := (List.mem_filter.1 hx).2; simp at this ⊢; omega
  · exact List.filter_eq_self.2 fun x hx => by have := (List.mem_filter.1 hx).2; simp at this ⊢; omega

theorem remR_set {ts : List Tab} {t : Tab} (hv : validD ts = true) (ht : validTb t = true) (hx : validD (setT ts t) = true) : remR (setT ts t) t.nm = (ts.filter (fun x => decide (¬ x.nm = t.nm)), true) := by
  rw [remR, lookR_set hv ht hx, if_pos rfl, setT_filter hv ht]

/-- What is removed from the elder database: the same is left. -/
theorem remR_elder {ts : List Tab} {nm : ByteArray} (hv : validD ts = true) : remR ts nm = (ts.filter (fun x => decide (¬ x.nm = nm)), true) ∨ (remR ts nm = (ts, false) ∧ ts.filter (fun x => decide (¬ x.nm = nm)) = ts) := by
  unfold remR
  cases h : (lookR ts nm).ok with
  | true => exact .inl (by simp)
  | false => exact .inr ⟨by simp, lookR_ne hv h⟩

theorem validD_filter {ts : List Tab} (p : Tab → Bool) (hv : validD ts = true) : validD (ts.filter p) = true := by
  obtain ⟨h1, h2, h3⟩ := validD_parts hv
  rw [validD_of (fun t ht => h1 t (List.mem_filter.1 ht).1) (h2.filter _), decide_eq_true_eq]
  have := List.length_filter_le p ts
  omega

theorem cntD_set {ts : List Tab} {t : Tab} (hv : validD ts = true) (ht : validTb t = true) (hx : validD (setT ts t) = true) : cntD (setT ts t) = cntD (ts.filter fun x => decide (¬ x.nm = t.nm)) + t.rs.length := by
  obtain ⟨h1, h2, _⟩ := validD_parts hv
  rw [cntD, if_pos hx, cntD, if_pos (validD_filter _ hv), filter_names (fun x hx => validTb_name (h1 x hx)) (validTb_name ht), filter_split _ h2, setT_norm hv ht, lenT_append, lenT_append, lenT_cons]
  omega

end

section
open Go.RowKit

theorem fmtB_free {t : Tab} (h : validTb t = true) : ∀ b ∈ (fmtB t).data.toList, b ≠ 59 := by
  have hv := validT_vt h
  obtain ⟨c, hc⟩ := nameB_data (validTb_name h)
  have hcn : 97 ≤ c.toNat := by
    have := validTb_name h
    rw [hc] at this
    exact (inB_iff.1 this).1 |> fun h => by omega
  intro b hb e
  subst e
  have e1 : (fmtB t).data.toList = c :: UInt8.ofNat (48 + t.ar.toNat) :: 58 :: rowsL t.rs := by
    rw [fmtB, fmtT, if_pos (show validT t.nm t.ar t.rs = true from h), tI_one hv.ar1 hv.ar3, hc]
    simp
  rw [e1] at hb
  have ha1 := hv.ar1
  have ha3 := hv.ar3
  rcases List.mem_cons.1 hb with hb | hb
  · rw [← hb] at hcn
    exact absurd hcn (by decide)
  rcases List.mem_cons.1 hb with hb | hb
  · have := congrArg UInt8.toNat hb
    rw [dig_nat (by omega)] at this
    have e59 : (59 : UInt8).toNat = 59 := rfl
    omega
  rcases List.mem_cons.1 hb with hb | hb
  · exact absurd hb (by decide)
  · have key : ∀ ws : List (List UInt8), (∀ w ∈ ws, (59 : UInt8) ∉ w) → (59 : UInt8) ∉ Lib.join ws [32] := by
      intro ws
      induction ws with
      | nil => intro _; rw [Lib.join_nil]; simp
      | cons x l ih =>
        intro hw
        cases l with
        | nil => rw [Lib.join_one]; exact hw x (by simp)
        | cons y l =>
          rw [join_c]
          intro hm
          rcases List.mem_append.1 hm with hm | hm
          · exact hw x (by simp) hm
          · rcases List.mem_cons.1 hm with hm | hm
            · exact absurd hm (by decide)
            · exact ih (fun w hwm => hw w (by simp [hwm])) hm
    refine key _ (fun w hw hm => ?_) hb
    obtain ⟨r, hr, rfl⟩ := List.mem_map.1 hw
    have := (dtext_free (hv.row r hr).2 59 hm).2
    exact absurd this (by decide)

theorem fmtB_ne {t : Tab} (h : validTb t = true) : 3 ≤ (fmtB t).size := by
  have hv := validT_vt h
  rw [fmtB, fmtT, if_pos (show validT t.nm t.ar t.rs = true from h), tI_one hv.ar1 hv.ar3, bsize_append, bsize_append, bsize_append, hv.nm1]
  show 3 ≤ 1 + 1 + 1 + _
  omega

theorem parD_back {ts : List Tab} (h : validD ts = true) : parD (fmtD ts) = (ts, true) := by
  obtain ⟨h1, _, _⟩ := validD_parts h
  cases ts with
  | nil => rw [fmtD, if_pos h]; exact parD_nil (by simp [dbL, Lib.join_nil, ByteArray.size])
  | cons t l =>
    have h3 := fmtB_ne (h1 t (by simp))
    have h3' : (fmtB t).data.toList.length = (fmtB t).size := Array.length_toList
    have hsz : ¬ (fmtD (t :: l)).size = 0 := by
      rw [fmtD_yes h]
      show ¬ (dbL (t :: l)).toArray.size = 0
      rw [List.size_toArray]
      unfold dbL
      cases l with
      | nil => rw [List.map_singleton, Lib.join_one]; omega
      | cons s l => rw [List.map_cons, List.map_cons, join_c, List.length_append]; omega
    have hcut : tabsP (cutB 59 (fmtD (t :: l))) = t :: l := by
      rw [tabsP, cutB, List.map_map, fmtD_yes h]
      show (cutL 59 (dbL (t :: l))).map _ = _
      unfold dbL
      rw [cutL_join 59 _ (by simp) (fun w hw b hb => by
        obtain ⟨x, hx, rfl⟩ := List.mem_map.1 hw
        exact fmtB_free (h1 x hx) b hb), List.map_map]
      conv => rhs; rw [← List.map_id (t :: l)]
      refine List.map_congr_left fun x hx => ?_
      show tabOf (parT ⟨(fmtB x).data.toList.toArray⟩) = x
      have e : (⟨(fmtB x).data.toList.toArray⟩ : ByteArray) = fmtT x.nm x.ar x.rs := by
        apply ByteArray.ext
        simp [fmtB]
      rw [e, parT_back (h1 x hx)]
      rfl
    rw [parD_yes hsz (by rw [hcut]; exact h), hcut]

theorem parD_none {ts : List Tab} (h : validD ts = false) : parD (fmtD ts) = ([], true) := by
  rw [fmtD_no h]
  exact parD_nil (by simp [ByteArray.size])

end

section
open Go.RowKit Go.Deep

theorem bel_al {w w1 : World} {o : Obj} (h : Below w.heap.size w w1) : Below w.heap.size w (w1.alloc o) := h.alloc h.size o

theorem bel_ald {w : World} {o : Obj} : Below w.heap.size w (w.alloc o).drew := (bel_al (Below.refl _ _)).drew

theorem bel_cell {w w1 : World} {B i : Nat} {x : Value} (h : Below w.heap.size w w1) (hB : w.heap.size ≤ B) : Below w.heap.size w (w1.setCell ⟨B, i, none⟩ x) := h.setCell hB x

theorem rdT_al {W : World} {o : Obj} {A : Option Addr} {n : Nat} {ts : List Tab} (h : RdT W W.heap.size A n ts) : RdT (W.alloc o) (W.alloc o).heap.size A n ts := rdT_next (bel_al (Below.refl _ _)) h

theorem rdR_al {W : World} {o : Obj} {A : Option Addr} {n : Nat} {rs : List (List Int)} (h : RdR W W.heap.size A n rs) : RdR (W.alloc o) (W.alloc o).heap.size A n rs := rdR_next (bel_al (Below.refl _ _)) h

/-- A box of one cell that is known, and is no longer the last. -/
structure BoxAt (c : World) (B : Nat) (x : Value) (W : World) : Prop where
  lo : c.heap.size ≤ B
  lt : B < W.heap.size
  cell : W.cell? ⟨B, 0, none⟩ = some x
  frz : W.frozen? ⟨B, 0, none⟩ = false

theorem BoxAt.next {c W w2 : World} {B : Nat} {x : Value} (b1 : Below W.heap.size W w2) (h : BoxAt c B x W) : BoxAt c B x w2 :=
  ⟨h.lo, Nat.lt_of_lt_of_le h.lt b1.size, (b1.cell (p := ⟨B, 0, none⟩) h.lt).trans h.cell, (b1.frozen (p := ⟨B, 0, none⟩) h.lt).trans h.frz⟩

theorem BoxAt.made {c U w2 : World} {x : Value} {t : TypeId} (hc : Below c.heap.size c U) (b1 : Below (U.alloc (.cells #[x] t)).heap.size (U.alloc (.cells #[x] t)) w2) : BoxAt c U.heap.size x w2 :=
  BoxAt.next b1 ⟨hc.size, by simp, by simp [go_sem], by simp [go_sem]⟩

theorem BoxAt.madeD {c w2 : World} {x : Value} {t : TypeId} (b1 : Below (c.alloc (.cells #[x] t)).drew.heap.size (c.alloc (.cells #[x] t)).drew w2) : BoxAt c c.heap.size x w2 :=
  BoxAt.next b1 ⟨Nat.le_refl _, by show c.heap.size < (c.alloc _).heap.size; simp, by simp [go_sem], by simp [go_sem]⟩

/-- A call behind the box's making, and what is then known. -/
theorem box_made {c U w2 : World} {x : Value} {t : TypeId} (hc : Below c.heap.size c U) (b1 : Below (U.alloc (.cells #[x] t)).heap.size (U.alloc (.cells #[x] t)) w2) :
    Below c.heap.size c (U.alloc (.cells #[x] t)) ∧ BoxAt c U.heap.size x w2 ∧ U.heap.size < (U.alloc (.cells #[x] t)).heap.size ∧ Below c.heap.size c w2 :=
  ⟨bel_al hc, BoxAt.made hc b1, by simp, bel_step (bel_al hc) b1⟩

theorem box_madeD {c w2 : World} {x : Value} {t : TypeId} (b1 : Below (c.alloc (.cells #[x] t)).drew.heap.size (c.alloc (.cells #[x] t)).drew w2) :
    Below c.heap.size c (c.alloc (.cells #[x] t)).drew ∧ BoxAt c c.heap.size x w2 ∧ c.heap.size < (c.alloc (.cells #[x] t)).drew.heap.size ∧ Below c.heap.size c w2 :=
  ⟨bel_ald, BoxAt.madeD b1, by show c.heap.size < (c.alloc _).heap.size; simp, bel_step bel_ald b1⟩

theorem box_kept {c W w2 : World} {B : Nat} {x : Value} (hc : Below c.heap.size c W) (h : BoxAt c B x W) (b1 : Below W.heap.size W w2) :
    Below c.heap.size c W ∧ BoxAt c B x w2 ∧ B < W.heap.size ∧ Below c.heap.size c w2 := ⟨hc, h.next b1, h.lt, bel_step hc b1⟩

theorem box_none {c W w2 : World} (hc : Below c.heap.size c W) (b1 : Below W.heap.size W w2) : Below c.heap.size c W ∧ Below c.heap.size c w2 := ⟨hc, bel_step hc b1⟩

/-- Behind the world c: p is a new box that holds the database ts, q is the bool. -/
def CutD (w : World) (L : List (Nat × Nat × Value)) (c : World) (ts : List Tab) (ok : Bool) (p q : Value) (wx : World) : Prop :=
  ∃ (A : Option Addr) (cc B hi : Nat), p = .pointer (some ⟨B, 0, none⟩) ∧ q = .bool ok ∧ Kn w (L ++ [(B, 0, .slice A ts.length cc)]) wx ∧ OwnD wx c.heap.size hi (.slice A ts.length cc) ts ∧ hi ≤ wx.heap.size ∧ B < wx.heap.size ∧ Below c.heap.size c wx

theorem CutD.of {w c w1 wo : World} {L : List (Nat × Nat × Value)} {ts : List Tab} {ok : Bool} {A : Option Addr} {cc : Nat} (kn : Kn w L c) (bo : Below c.heap.size c wo) (b1 : Below wo.heap.size wo w1) (ow : OwnD w1 wo.heap.size w1.heap.size (.slice A ts.length cc) ts) :
    CutD w L c ts ok (.pointer (some ⟨w1.heap.size, 0, none⟩)) (.bool ok) (w1.alloc (.cells #[.slice A ts.length cc] 42)) := by
  have bz := bo.trans (b1.mono bo.size)
  exact ⟨A, cc, w1.heap.size, w1.heap.size, rfl, rfl, (kn.next bz).box1 _ _, (ow.below ((Below.refl _ _).alloc (Nat.le_refl _) _) (Nat.le_refl _)).down bo.size, by simp, by simp, bel_al bz⟩

theorem CutD.of2 {w c w1 wo : World} {L : List (Nat × Nat × Value)} {ts : List Tab} {ok : Bool} {A : Option Addr} {cc B : Nat} {x : Value} (kn : Kn w L c) (bo : Below c.heap.size c wo) (b1 : Below wo.heap.size wo w1) (hB : BoxAt c B x w1) (hBo : B < wo.heap.size) (ow : OwnD w1 wo.heap.size w1.heap.size (.slice A ts.length cc) ts) :
    CutD w L c ts ok (.pointer (some ⟨B, 0, none⟩)) (.bool ok) (w1.setCell ⟨B, 0, none⟩ (.slice A ts.length cc)) := by
  have bz := bo.trans (b1.mono bo.size)
  have hs : (w1.setCell ⟨B, 0, none⟩ (.slice A ts.length cc)).heap.size = w1.heap.size := by simp [World.setCell]
  have bs : Below c.heap.size c (w1.setCell ⟨B, 0, none⟩ (.slice A ts.length cc)) := bel_cell bz hB.lo
  have kn1 := kn.next bs
  refine ⟨A, cc, B, w1.heap.size, rfl, rfl, ⟨kn1.bel, fun t ht => ?_, fun t ht => ?_⟩, (ow.setOff (.inl hBo)).down bo.size, by rw [hs]; exact Nat.le_refl _, by rw [hs]; exact hB.lt, bs⟩
  · rcases List.mem_append.1 ht with ht | ht
    · exact kn1.cell t ht
    · obtain rfl := List.mem_singleton.1 ht
      exact ⟨by rw [hs]; exact hB.lt, cell_set_same hB.cell⟩
  · rcases List.mem_append.1 ht with ht | ht
    · exact kn1.frz t ht
    · obtain rfl := List.mem_singleton.1 ht
      show (w1.setCell _ _).frozen? _ = false
      rw [frozen_set]
      exact hB.frz

end
end Go.Proofs.YtmojjbhjjhdpaaaGreatDoor
