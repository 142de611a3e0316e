/- Plain laws of databases: look-up, set, remove, count; names of one letter and their order. Of no program. -/
import Derived.Test.YtimlecfneibjlaaIsDbP
namespace Go.Proofs.Ytimlecfneibjlaa
open Go.RowKit Go.Deep

/-- A name's first letter. -/
def keyB (s : ByteArray) : Nat := match s.data.toList with | b :: _ => b.toNat | [] => 0
theorem nameB_data {s : ByteArray} (h : nameB s = true) : ∃ b : UInt8, s = ⟨#[b]⟩ := by
  obtain ⟨⟨l⟩⟩ := s
  match l, h with
  | [b], _ => exact ⟨b, rfl⟩
theorem toList_one (b : UInt8) : ByteArray.toList ⟨#[b]⟩ = [b] := by
  unfold ByteArray.toList
  unfold ByteArray.toList.loop
  rw [if_pos (show 0 < ByteArray.size ⟨#[b]⟩ from Nat.zero_lt_one)]
  unfold ByteArray.toList.loop
  rw [if_neg (show ¬ 0 + 1 < ByteArray.size ⟨#[b]⟩ from Nat.lt_irrefl 1)]
  rfl
theorem ltN_key {a b : ByteArray} (ha : nameB a = true) (hb : nameB b = true) : ltN a b = decide (keyB a < keyB b) := by
  obtain ⟨x, rfl⟩ := nameB_data ha
  obtain ⟨y, rfl⟩ := nameB_data hb
  unfold ltN
  rw [toList_one, toList_one]
  show Op.bytesLess [x] [y] = decide (x.toNat < y.toNat)
  simp only [Op.bytesLess]
  by_cases h1 : x.toNat < y.toNat
  · simp [h1, UInt8.lt_iff_toNat_lt]
  · simp [h1, UInt8.lt_iff_toNat_lt]
theorem eq_key {a b : ByteArray} (ha : nameB a = true) (hb : nameB b = true) : a = b ↔ keyB a = keyB b := by
  obtain ⟨x, rfl⟩ := nameB_data ha
  obtain ⟨y, rfl⟩ := nameB_data hb
  constructor
  · intro h
    rw [h]
  · intro h
    have : x = y := UInt8.toNat_inj.1 h
    rw [this]
theorem validTb_name {t : Tab} (h : validTb t = true) : nameB t.nm = true := by
  unfold validTb validT at h
  simp only [Bool.and_eq_true] at h
  exact h.1
/-- The tables' letters ascend. -/
abbrev AscK (ts : List Tab) : Prop := ts.Pairwise fun a b => keyB a.nm < keyB b.nm
theorem ascK_of : ∀ {ts : List Tab}, (∀ t ∈ ts, nameB t.nm = true) → ascN ts = true → AscK ts
  | [], _, _ => .nil
  | [a], _, _ => List.pairwise_singleton _ _
  | a :: b :: l, hn, h => by
    rw [ascN, Bool.and_eq_true] at h
    have ih := ascK_of (fun t ht => hn t (by simp [ht])) h.2
    have hab : keyB a.nm < keyB b.nm := by
      have := h.1
      rw [ltN_key (hn a (by simp)) (hn b (by simp))] at this
      simpa using this
    refine .cons (fun x hx => ?_) ih
    rcases List.mem_cons.1 hx with rfl | hx
    · exact hab
    · have := (List.pairwise_cons.1 ih).1 x hx
      omega
theorem ascN_of : ∀ {ts : List Tab}, (∀ t ∈ ts, nameB t.nm = true) → AscK ts → ascN ts = true
  | [], _, _ => rfl
  | [a], _, _ => rfl
  | a :: b :: l, hn, h => by
    rw [ascN, Bool.and_eq_true]
    have h' := List.pairwise_cons.1 h
    refine ⟨?_, ascN_of (fun t ht => hn t (by simp [ht])) h'.2⟩
    rw [ltN_key (hn a (by simp)) (hn b (by simp))]
    simpa using h'.1 b (by simp)
theorem validD_parts {ts : List Tab} (h : validD ts = true) : (∀ t ∈ ts, validTb t = true) ∧ AscK ts ∧ ts.length ≤ 6 := by
  unfold validD at h
  simp only [Bool.and_eq_true, List.all_eq_true, decide_eq_true_eq] at h
  exact ⟨h.1.1, ascK_of (fun t ht => validTb_name (h.1.1 t ht)) h.1.2, h.2⟩
theorem validD_of {ts : List Tab} (h1 : ∀ t ∈ ts, validTb t = true) (h2 : AscK ts) : validD ts = decide (ts.length ≤ 6) := by
  unfold validD
  rw [ascN_of (fun t ht => validTb_name (h1 t ht)) h2, List.all_eq_true.2 h1]
  rfl

/-- LookupTable's answer. -/
def nilR : TabR := ⟨{ data := #[] }, 0, [], false⟩
def lookR (ts : List Tab) (nm : ByteArray) : TabR := match ts.find? fun t => decide (t.nm = nm) with | some t => if validD ts = true then ⟨t.nm, t.ar, t.rs, true⟩ else nilR | none => nilR
theorem find_at {ts : List Tab} {nm : ByteArray} {k : Nat} {t : Tab} (h : ts[k]? = some t) (ht : t.nm = nm) (hno : ∀ j x, j < k → ts[j]? = some x → ¬ x.nm = nm) : ts.find? (fun t => decide (t.nm = nm)) = some t := by
  obtain ⟨hk, rfl⟩ := List.getElem?_eq_some_iff.1 h
  rw [List.find?_eq_some_iff_getElem]
  refine ⟨by simpa using ht, k, hk, rfl, fun j hj => ?_⟩
  have := hno j ts[j] hj (List.getElem?_eq_getElem (by omega))
  simpa using this
theorem find_none {ts : List Tab} {nm : ByteArray} (hno : ∀ x ∈ ts, ¬ x.nm = nm) : ts.find? (fun t => decide (t.nm = nm)) = none := by
  rw [List.find?_eq_none]
  intro x hx
  simpa using hno x hx
/-- No name below k. -/
def NoN (ts : List Tab) (nm : ByteArray) (k : Nat) : Prop := ∀ j x, j < k → ts[j]? = some x → ¬ x.nm = nm
theorem NoN.zero (ts : List Tab) (nm : ByteArray) : NoN ts nm 0 := fun j _ h => by omega
theorem NoN.step {ts : List Tab} {nm : ByteArray} {k : Nat} {t : Tab} (h : NoN ts nm k) (hx : ts[k]? = some t) (ht : ¬ t.nm = nm) : NoN ts nm (k + 1) := fun j x hj hjx => by
  rcases Nat.lt_or_ge j k with h1 | h1
  · exact h j x h1 hjx
  · obtain rfl : j = k := by omega
    rw [hx] at hjx
    injection hjx with hjx
    subst hjx
    exact ht
theorem NoN.all {ts : List Tab} {nm : ByteArray} {k : Nat} (h : NoN ts nm k) (hk : ts.length ≤ k) : ∀ x ∈ ts, ¬ x.nm = nm := fun x hx => by
  obtain ⟨j, hj⟩ := List.mem_iff_getElem?.1 hx
  exact h j x (by have := (List.getElem?_eq_some_iff.1 hj).1; omega) hj
theorem lookR_at {ts : List Tab} {nm : ByteArray} {k : Nat} {t : Tab} (h : ts[k]? = some t) (ht : t.nm = nm) (hno : NoN ts nm k) (hv : validD ts = true) : lookR ts nm = ⟨t.nm, t.ar, t.rs, true⟩ := by
  unfold lookR
  rw [find_at h ht hno]
  simp [hv]
theorem lookR_none {ts : List Tab} {nm : ByteArray} {k : Nat} (hno : NoN ts nm k) (hk : ts.length ≤ k) : lookR ts nm = nilR := by
  unfold lookR
  rw [find_none (hno.all hk)]
theorem lookR_bad {ts : List Tab} (nm : ByteArray) (hv : validD ts = false) : lookR ts nm = nilR := by
  unfold lookR
  cases ts.find? fun t => decide (t.nm = nm) with
  | none => rfl
  | some t => simp [hv]
theorem lookR_ok {ts : List Tab} {nm : ByteArray} (h : (lookR ts nm).ok = true) : validD ts = true ∧ ∃ t ∈ ts, t.nm = nm ∧ lookR ts nm = ⟨t.nm, t.ar, t.rs, true⟩ := by
  unfold lookR at h ⊢
  cases hf : ts.find? fun t => decide (t.nm = nm) with
  | none => rw [hf] at h; cases h
  | some t =>
    rw [hf] at h
    by_cases hv : validD ts = true
    · refine ⟨hv, t, List.mem_of_find?_eq_some hf, ?_, by simp [hv]⟩
      have := List.find?_some hf
      simpa using this
    · simp [hv, nilR] at h

theorem lookR_small {ts : List Tab} (nm : ByteArray) (h : sumT ts ≤ 1048576) : (lookR ts nm).rs.length ≤ 1048576 ∧ sumL (lookR ts nm).rs ≤ 4294967296 := by
  unfold lookR
  cases hf : ts.find? fun t => decide (t.nm = nm) with
  | none => exact ⟨Nat.zero_le _, Nat.zero_le _⟩
  | some t =>
    have hm := sumT_mem (List.mem_of_find?_eq_some hf)
    dsimp only
    split
    · exact ⟨by show t.rs.length ≤ _; omega, by show sumL t.rs ≤ _; omega⟩
    · exact ⟨Nat.zero_le _, Nat.zero_le _⟩
/-- SetTable's round, and its answer. -/
def setF (t : Tab) (s : Bool × List Tab) (x : Tab) : Bool × List Tab :=
  ⟨s.1 || !ltN x.nm t.nm, (s.2 ++ if (!s.1 && !ltN x.nm t.nm) = true then [t] else []) ++ if x.nm = t.nm then [] else [x]⟩
def setS (t : Tab) (ts : List Tab) : Bool × List Tab := ts.foldl (setF t) (false, [])
def setT (ts : List Tab) (t : Tab) : List Tab := (setS t ts).2 ++ if (setS t ts).1 = true then [] else [t]
def setR (ts : List Tab) (t : Tab) : List Tab × Bool := if validD ts = true ∧ validTb t = true ∧ (setT ts t).length ≤ 6 then (setT ts t, true) else (ts, false)
theorem setS_take {t : Tab} {ts : List Tab} {k : Nat} {x : Tab} (h : ts[k]? = some x) : setS t (ts.take (k + 1)) = setF t (setS t (ts.take k)) x := by
  unfold setS
  rw [List.take_add_one, h, List.foldl_append]
  rfl
theorem setS_done (t : Tab) (ht : nameB t.nm = true) : ∀ (ts acc : List Tab), (∀ x ∈ ts, nameB x.nm = true) → (∀ x ∈ ts, keyB t.nm < keyB x.nm) → ts.foldl (setF t) (true, acc) = (true, acc ++ ts)
  | [], acc, _, _ => by simp
  | x :: l, acc, hn, hk => by
    have hx := hk x (by simp)
    have hne : ¬ x.nm = t.nm := fun e => by rw [e] at hx; omega
    rw [List.foldl_cons, show setF t (true, acc) x = (true, acc ++ [x]) by simp [setF, hne], setS_done t ht l _ (fun y hy => hn y (by simp [hy])) (fun y hy => hk y (by simp [hy]))]
    simp
theorem setS_norm (t : Tab) (ht : nameB t.nm = true) : ∀ (ts acc : List Tab), (∀ x ∈ ts, nameB x.nm = true) → AscK ts →
    (ts.foldl (setF t) (false, acc)).2 ++ (if (ts.foldl (setF t) (false, acc)).1 = true then [] else [t]) = acc ++ (ts.filter (fun x => decide (keyB x.nm < keyB t.nm)) ++ t :: ts.filter fun x => decide (keyB t.nm < keyB x.nm))
  | [], acc, _, _ => by simp
  | x :: l, acc, hn, ha => by
    have ha' := List.pairwise_cons.1 ha
    have hx := hn x (by simp)
    have hl : ∀ y ∈ l, nameB y.nm = true := fun y hy => hn y (by simp [hy])
    have hlt := ltN_key hx ht
    rw [List.foldl_cons]
    rcases Nat.lt_trichotomy (keyB x.nm) (keyB t.nm) with h | h | h
    · have hne : ¬ x.nm = t.nm := fun e => by rw [e] at h; omega
      rw [show setF t (false, acc) x = (false, acc ++ [x]) by simp [setF, hne, hlt, h], setS_norm t ht l _ hl ha'.2]
      simp [h, Nat.lt_asymm h]
    · have he : x.nm = t.nm := (eq_key hx ht).2 h
      have hgt : ∀ y ∈ l, keyB t.nm < keyB y.nm := fun y hy => by have := ha'.1 y hy; omega
      rw [show setF t (false, acc) x = (true, acc ++ [t]) by simp [setF, he, ltN_key ht ht], setS_done t ht l _ hl hgt]
      have f1 : l.filter (fun y => decide (keyB y.nm < keyB t.nm)) = [] := List.filter_eq_nil_iff.2 fun y hy => by have := hgt y hy; simp; omega
      have f2 : l.filter (fun y => decide (keyB t.nm < keyB y.nm)) = l := List.filter_eq_self.2 fun y hy => by simpa using hgt y hy
      simp [h, f1, f2]
    · have hne : ¬ x.nm = t.nm := fun e => by rw [e] at h; omega
      have hgt : ∀ y ∈ l, keyB t.nm < keyB y.nm := fun y hy => by have := ha'.1 y hy; omega
      rw [show setF t (false, acc) x = (true, acc ++ [t] ++ [x]) by simp [setF, hne, hlt, Nat.lt_asymm h], setS_done t ht l _ hl hgt]
      have f1 : l.filter (fun y => decide (keyB y.nm < keyB t.nm)) = [] := List.filter_eq_nil_iff.2 fun y hy => by have := hgt y hy; simp; omega
      have f2 : l.filter (fun y => decide (keyB t.nm < keyB y.nm)) = l := List.filter_eq_self.2 fun y hy => by simpa using hgt y hy
      simp [h, f1, f2, Nat.lt_asymm h]
theorem setT_norm {ts : List Tab} {t : Tab} (hv : validD ts = true) (ht : validTb t = true) : setT ts t = ts.filter (fun x => decide (keyB x.nm < keyB t.nm)) ++ t :: ts.filter fun x => decide (keyB t.nm < keyB x.nm) := by
  obtain ⟨h1, h2, _⟩ := validD_parts hv
  have := setS_norm t (validTb_name ht) ts [] (fun x hx => validTb_name (h1 x hx)) h2
  rw [List.nil_append] at this
  exact this
theorem setT_parts {ts : List Tab} {t : Tab} (hv : validD ts = true) (ht : validTb t = true) : (∀ x ∈ setT ts t, validTb x = true) ∧ AscK (setT ts t) := by
  obtain ⟨h1, h2, _⟩ := validD_parts hv
  rw [setT_norm hv ht]
  refine ⟨fun x hx => ?_, ?_⟩
  · rcases List.mem_append.1 hx with hx | hx
    · exact h1 x (List.mem_filter.1 hx).1
    · rcases List.mem_cons.1 hx with rfl | hx
      · exact ht
      · exact h1 x (List.mem_filter.1 hx).1
  · rw [AscK, List.pairwise_append]
    refine ⟨h2.filter _, List.pairwise_cons.2 ⟨fun x hx => by simpa using (List.mem_filter.1 hx).2, h2.filter _⟩, fun a ha b hb => ?_⟩
    have h3 : keyB a.nm < keyB t.nm := by simpa using (List.mem_filter.1 ha).2
    rcases List.mem_cons.1 hb with rfl | hb
    · exact h3
    · have h4 : keyB t.nm < keyB b.nm := by simpa using (List.mem_filter.1 hb).2
      omega
theorem setT_valid {ts : List Tab} {t : Tab} (hv : validD ts = true) (ht : validTb t = true) : validD (setT ts t) = decide ((setT ts t).length ≤ 6) :=
  validD_of (setT_parts hv ht).1 (setT_parts hv ht).2
theorem sumL_three : ∀ {rs : List (List Int)}, (∀ r ∈ rs, r.length ≤ 3) → sumL rs ≤ 3 * rs.length
  | [], _ => Nat.zero_le _
  | r :: rs, h => by
    rw [sumL_cons, List.length_cons]
    have h1 := h r (by simp)
    have h2 := sumL_three (rs := rs) fun x hx => h x (by simp [hx])
    omega
theorem validTb_size {t : Tab} (h : validTb t = true) : t.nm.size + (t.rs.length + sumL t.rs) ≤ 33 := by
  have hn := validTb_name h
  obtain ⟨b, hb⟩ := nameB_data hn
  have h1 : t.nm.size = 1 := by rw [hb]; rfl
  unfold validTb validT at h
  simp only [Bool.and_eq_true, decide_eq_true_eq, List.all_eq_true] at h
  obtain ⟨_, har, hl, hrow, _⟩ := h
  have ha := inB_iff.1 har
  have h2 : sumL t.rs ≤ 3 * t.rs.length := sumL_three fun r hr => by
    have := hrow r hr
    unfold rowB at this
    simp only [Bool.and_eq_true, beq_iff_eq] at this
    omega
  omega
theorem sumT_valid : ∀ {ts : List Tab}, (∀ t ∈ ts, validTb t = true) → sumT ts ≤ 33 * ts.length
  | [], _ => Nat.zero_le _
  | t :: ts, h => by
    rw [sumT_cons, List.length_cons]
    have h1 := validTb_size (h t (by simp))
    have h2 := sumT_valid (ts := ts) fun x hx => h x (by simp [hx])
    omega
theorem setT_small {ts : List Tab} {t : Tab} (hv : validD ts = true) (ht : validTb t = true) : (setT ts t).length ≤ 13 ∧ sumT (setT ts t) ≤ 429 := by
  have h1 := sumT_valid (setT_parts hv ht).1
  have h2 := (validD_parts hv).2.2
  have h3 : (setT ts t).length ≤ 13 := by
    rw [setT_norm hv ht, List.length_append, List.length_cons]
    have a1 := List.length_filter_le (fun x : Tab => decide (keyB x.nm < keyB t.nm)) ts
    have a2 := List.length_filter_le (fun x : Tab => decide (keyB t.nm < keyB x.nm)) ts
    omega
  exact ⟨h3, by omega⟩
theorem setR_small {ts : List Tab} {t : Tab} (hl : ts.length ≤ 1048576) (hs : sumT ts ≤ 1048576) : (setR ts t).1.length ≤ 1048576 ∧ sumT (setR ts t).1 ≤ 1048576 := by
  unfold setR
  split
  · rename_i h
    have := setT_small h.1 h.2.1
    exact ⟨by show (setT ts t).length ≤ _; omega, by show sumT (setT ts t) ≤ _; omega⟩
  · exact ⟨hl, hs⟩
theorem setF_len (t : Tab) (s : Bool × List Tab) (x : Tab) : (setF t s x).2.length ≤ s.2.length + 2 := by
  unfold setF
  simp only [List.length_append]
  split <;> split <;> simp
theorem setS_len (t : Tab) : ∀ (l : List Tab) (s : Bool × List Tab), (l.foldl (setF t) s).2.length ≤ s.2.length + 2 * l.length
  | [], s => by simp
  | x :: l, s => by
    rw [List.foldl_cons, List.length_cons]
    have h1 := setS_len t l (setF t s x)
    have h2 := setF_len t s x
    omega
theorem setS_len2 (t : Tab) (l : List Tab) : (setS t l).2.length ≤ 2 * l.length := by
  have := setS_len t l (false, [])
  rw [List.length_nil, Nat.zero_add] at this
  exact this
/-- RemoveTable's answer, CountRows's. -/
def remR (ts : List Tab) (nm : ByteArray) : List Tab × Bool := if (lookR ts nm).ok = true then (ts.filter fun t => decide (¬ t.nm = nm), true) else (ts, false)
def lenT (ts : List Tab) : Nat := (ts.map fun t => t.rs.length).sum
theorem lenT_append (a b : List Tab) : lenT (a ++ b) = lenT a + lenT b := by simp [lenT]
theorem lenT_cons (t : Tab) (ts : List Tab) : lenT (t :: ts) = t.rs.length + lenT ts := by simp [lenT]
theorem lenT_take_succ {ts : List Tab} {j : Nat} {t : Tab} (h : ts[j]? = some t) : lenT (ts.take (j + 1)) = lenT (ts.take j) + t.rs.length := by
  obtain ⟨hj, rfl⟩ := List.getElem?_eq_some_iff.1 h
  rw [List.take_succ_eq_append_getElem hj, lenT_append, lenT_cons]
  rfl
theorem lenT_le (ts : List Tab) : lenT ts ≤ sumT ts := by
  induction ts with
  | nil => exact Nat.le_refl _
  | cons t ts ih =>
    rw [sumT_cons]
    rw [lenT_cons]
    omega
theorem lenT_take_le (ts : List Tab) (j : Nat) : lenT (ts.take j) ≤ lenT ts := by
  have := lenT_append (ts.take j) (ts.drop j)
  rw [List.take_append_drop] at this
  omega
def cntD (ts : List Tab) : Nat := if validD ts = true then lenT ts else 0
end Go.Proofs.Ytimlecfneibjlaa
