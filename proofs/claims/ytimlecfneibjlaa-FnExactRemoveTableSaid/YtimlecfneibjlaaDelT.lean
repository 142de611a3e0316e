/- slices.DeleteFunc at owned tables, the closure 't.Name == name' of impl.RemoveTable. No condition but the size that the laws let in. -/
import Derived.Test.YtimlecfneibjlaaIdxN
import Derived.Test.YtimlecfneibjlaaDInv
import Derived.Lib.SliceRun
namespace Go.Proofs.Ytimlecfneibjlaa
open Go.RowKit Go.Deep

theorem zero_tabs : ∀ n, (Builtin.zeroCells #[.string { data := #[] }, .int .i64 0, .slice none 0 0] n).toList = (List.replicate n [.string { data := #[] }, .int .i64 0, (.slice none 0 0 : Value)]).flatten
  | 0 => by simp [Builtin.zeroCells]
  | n + 1 => by
    have ih := zero_tabs n
    unfold Builtin.zeroCells at ih ⊢
    simp only [Array.toList_map, Array.toList_range, List.size_toArray, List.length_cons, List.length_nil] at ih ⊢
    have m0 : n * 3 % 3 = 0 := by omega
    have m1 : (n * 3 + 1) % 3 = 1 := by omega
    have m2 : (n * 3 + 1 + 1) % 3 = 2 := by omega
    rw [show (n + 1) * (0 + 1 + 1 + 1) = n * 3 + 1 + 1 + 1 from by omega, List.range_succ, List.range_succ, List.range_succ, List.map_append, List.map_append, List.map_append, show n * 3 = n * (0 + 1 + 1 + 1) from by omega, ih, List.replicate_succ', List.flatten_append]
    rw [show n * (0 + 1 + 1 + 1) = n * 3 from by omega]
    simp [m0, m1, m2]
theorem run_clear_tabs (w : World) (ty : TypeId) (b o n c : Nat) (hn : 0 < n) (hc : ∀ j, j < n * 3 → (w.cell? ⟨b, o + j, none⟩).isSome = true) (hf : ∀ j, j < n * 3 → w.frozen? ⟨b, o + j, none⟩ = false) :
    (Builtin.clear_ #[27] ty #[.slice (some ⟨b, o, none⟩) n c]).run Try.prog w = .ok (.tuple #[]) (w.setCells b o (List.replicate n [.string { data := #[] }, .int .i64 0, (.slice none 0 0 : Value)]).flatten) := by
  have hv : ∀ w, (zeroValue 36).run Try.prog w = .ok (.agg #[.string { data := #[] }, .int .i64 0, .slice none 0 0]) w := fun w => by kernel_rfl
  have hl : (List.replicate n [.string { data := #[] }, .int .i64 0, (.slice none 0 0 : Value)]).flatten.length = n * 3 := by
    rw [List.length_flatten, List.map_replicate]
    simp
  have hst := run_storeCells_cells (P := Try.prog) b o (List.replicate n [.string { data := #[] }, .int .i64 0, (.slice none 0 0 : Value)]).flatten 0 w (by simpa [hl] using hc) (by simpa [hl] using hf) (by
    intro v hv'
    obtain ⟨l, h1, h2⟩ := List.mem_flatten.1 hv'
    rw [List.eq_of_mem_replicate h1] at h2
    simp at h2
    rcases h2 with rfl | rfl | rfl <;> rfl)
  simp only [Nat.add_zero] at hst
  rw [← zero_tabs] at hst ⊢
  obtain ⟨m, rfl⟩ : ∃ m, n = m + 1 := ⟨n - 1, by omega⟩
  simp [Builtin.clear_, run_underlying Try.underlying27, hv, Value.cells, hst]

theorem flat_set3 {α : Type} {ts : List (Item α)} (hl : ∀ t ∈ ts, t.cs.length = 3) {j : Nat} {s : Item α} {a b c : Value} (hs : s.cs = [a, b, c]) (hj : j < ts.length) :
    (((ts.flatMap (·.cs)).set (j * 3) a).set (j * 3 + 1) b).set (j * 3 + 2) c = (ts.set j s).flatMap (·.cs) := by
  have hg : ts[j]? = some ts[j] := List.getElem?_eq_getElem hj
  have hm := hl ts[j] (List.getElem_mem hj)
  have st : ∀ (l : List (Item α)) (x : Item α), (∀ t ∈ l, t.cs.length = 3) → x.cs.length = 3 → ∀ t ∈ l.set j x, t.cs.length = 3 := fun l x h1 h2 t ht => by
    rcases List.mem_or_eq_of_mem_set ht with h | h
    · exact h1 t h
    · rw [h]; exact h2
  have e0 := flat_set (size := 3) a s.F s.a ts hl j 0 _ hg (by omega)
  rw [Nat.add_zero] at e0
  rw [e0]
  have l1 := st ts ⟨ts[j].cs.set 0 a, s.F, s.a⟩ hl (by simp [hm])
  rw [flat_set (size := 3) b s.F s.a _ l1 j 1 ⟨ts[j].cs.set 0 a, s.F, s.a⟩ (List.getElem?_set_self hj) (by omega), List.set_set]
  have l2 := st ts ⟨(ts[j].cs.set 0 a).set 1 b, s.F, s.a⟩ hl (by simp [hm])
  rw [flat_set (size := 3) c s.F s.a _ l2 j 2 ⟨(ts[j].cs.set 0 a).set 1 b, s.F, s.a⟩ (List.getElem?_set_self hj) (by omega), List.set_set]
  congr 2
  obtain ⟨cs, F, x⟩ := s
  simp only at hs ⊢
  congr 1
  match hq : ts[j].cs, hm with
  | [x0, x1, x2], _ => rw [hs]; rfl
theorem ownsRow_cut {w : World} {base : Nat} {e : TypeId} {size n m c : Nat} {A : Option Addr} {xs : List Value} (h : w.ownsRow base e size (.slice A n c) n xs) (hm : m ≤ n) (h0 : 0 < n) : w.ownsRow base e size (.slice A m c) m (xs.take (m * size)) := by
  have hle : m * size ≤ n * size := Nat.mul_le_mul_right _ hm
  rcases h.2 with ⟨_, hn⟩ | ⟨g, cap, cur, hv, hlo, hg, hnc, hcm, hsz, ht⟩
  · omega
  · injection hv with h1 _ h3
    subst h1 h3
    refine ⟨by rw [List.length_take, h.1]; omega, .inr ⟨g, c, cur, rfl, hlo, hg, by omega, hcm, hsz, ?_⟩⟩
    rw [← ht, List.take_take, Nat.min_eq_left hle]
theorem ownsRow_setCells {base g c : Nat} {e : TypeId} {size n : Nat} : ∀ (vs : List Value) (o : Nat) (w : World) (xs : List Value), w.ownsRow base e size (.slice (some ⟨g, 0, none⟩) n c) n xs → o + vs.length ≤ n * size →
    ∃ xs', (w.setCells g o vs).ownsRow base e size (.slice (some ⟨g, 0, none⟩) n c) n xs' ∧ xs'.take o = xs.take o
  | [], o, w, xs, h, _ => ⟨xs, h, rfl⟩
  | v :: vs, o, w, xs, h, hl => by
    rw [List.length_cons] at hl
    obtain ⟨g', c', hv, _, _, _, _, h1⟩ := ownsRow_set h (i := o) (by omega) v
    injection hv with hv _ _
    injection hv with hv
    injection hv with hv
    subst hv
    obtain ⟨xs', h2, h3⟩ := ownsRow_setCells vs (o + 1) _ _ h1 (by omega)
    refine ⟨xs', h2, ?_⟩
    have := congrArg (List.take o) h3
    rw [List.take_take, List.take_take, Nat.min_eq_left (by omega), List.take_set_of_le (by omega)] at this
    exact this
theorem OwnT.reorder2 {α : Type} {e : TypeId} {size : Nat} {E : World → (Nat → Prop) → List Value → α → Prop} {w w' : World} {F : Nat → Prop} {v v' : Value} {ts ts' : List (Item α)} (ok : OwnOk E) (h : OwnT e size E w F v ts) (hsub : ts'.Sublist ts)
    (hrow : w'.ownsRow 0 e size v' ts'.length (ts'.flatMap (·.cs))) (hv : ∀ g, v'.ownBlock = some g → v.ownBlock = some g) (hs : w.heap.size ≤ w'.heap.size)
    (hk : ∀ k, k < w.heap.size → v.ownBlock ≠ some k → w'.heap[k]? = w.heap[k]?) : OwnT e size E w' F v' ts' :=
  ⟨hrow, fun t ht => h.len t (hsub.subset ht), fun t ht => ok.keep (h.elem t (hsub.subset ht)) fun k hf => hk k (ok.bound (h.elem t (hsub.subset ht)) k hf) fun hvk => (h.head k hvk).2 t (hsub.subset ht) hf, h.apart.sublist hsub,
    fun g hg => ⟨(h.head g (hv g hg)).1, fun t ht => (h.head g (hv g hg)).2 t (hsub.subset ht)⟩, fun t ht => h.inF t (hsub.subset ht), fun k hf => Nat.lt_of_lt_of_le (h.bound k hf) hs⟩

/-- The items that stay, and the row behind so many rounds. -/
def ft (nm : ByteArray) (ts : List (Item Tab)) : List (Item Tab) := ts.filter fun t => decide (¬ t.a.nm = nm)
def kept (nm : ByteArray) (ts : List (Item Tab)) (j : Nat) : List (Item Tab) := ft nm (ts.take j) ++ ts.drop (ft nm (ts.take j)).length
theorem ft_len (nm : ByteArray) (ts : List (Item Tab)) (j : Nat) : (ft nm (ts.take j)).length ≤ j := Nat.le_trans (List.length_filter_le _ _) (by rw [List.length_take]; omega)
theorem ft_step {nm : ByteArray} {ts : List (Item Tab)} {j : Nat} {t : Item Tab} (h : ts[j]? = some t) : ft nm (ts.take (j + 1)) = ft nm (ts.take j) ++ if t.a.nm = nm then [] else [t] := by
  unfold ft
  rw [List.take_add_one, h, List.filter_append]
  by_cases he : t.a.nm = nm <;> simp [he]
theorem kept_len {nm : ByteArray} {ts : List (Item Tab)} {j : Nat} (hj : j ≤ ts.length) : (kept nm ts j).length = ts.length := by
  have := ft_len nm ts j
  rw [kept, List.length_append, List.length_drop]
  omega
theorem kept_mem {nm : ByteArray} {ts : List (Item Tab)} {j : Nat} {t : Item Tab} (h : t ∈ kept nm ts j) : t ∈ ts := by
  rcases List.mem_append.1 h with h | h
  · exact List.take_subset _ _ (List.mem_filter.1 h).1
  · exact List.drop_subset _ _ h
theorem kept_at {nm : ByteArray} {ts : List (Item Tab)} {j : Nat} : (kept nm ts j)[j]? = ts[j]? := by
  have := ft_len nm ts j
  rw [kept, List.getElem?_append_right this, List.getElem?_drop]
  congr 1
  omega
theorem kept_skip {nm : ByteArray} {ts : List (Item Tab)} {j : Nat} {t : Item Tab} (h : ts[j]? = some t) (he : t.a.nm = nm) : kept nm ts (j + 1) = kept nm ts j := by
  rw [kept, kept, ft_step h, if_pos he, List.append_nil]
theorem kept_keep {nm : ByteArray} {ts : List (Item Tab)} {j : Nat} {t : Item Tab} (h : ts[j]? = some t) (he : ¬ t.a.nm = nm) : kept nm ts (j + 1) = (kept nm ts j).set (ft nm (ts.take j)).length t := by
  have h1 := ft_len nm ts j
  have h2 := (List.getElem?_eq_some_iff.1 h).1
  rw [kept, kept, ft_step h, if_neg he, List.length_append, List.length_singleton, List.set_append_right _ _ (Nat.le_refl _), Nat.sub_self, List.drop_eq_getElem_cons (show (ft nm (ts.take j)).length < ts.length by omega), List.set_cons_zero, List.append_assoc, List.singleton_append]
theorem kept_end {nm : ByteArray} {ts : List (Item Tab)} : (kept nm ts ts.length).take (ft nm ts).length = ft nm ts := by
  rw [kept, List.take_length]
  simp
theorem ft_map (nm : ByteArray) (ts : List (Item Tab)) : (ft nm ts).map (·.a) = (ts.map (·.a)).filter fun t => decide (¬ t.nm = nm) := by
  rw [ft, List.filter_map]
  rfl
theorem flat_take {α : Type} {size : Nat} : ∀ (ts : List (Item α)) (m : Nat), (∀ t ∈ ts, t.cs.length = size) → (ts.flatMap (·.cs)).take (m * size) = (ts.take m).flatMap (·.cs)
  | [], m, _ => by simp
  | t :: ts, 0, _ => by simp
  | t :: ts, m + 1, h => by
    have h1 := h t (by simp)
    rw [List.flatMap_cons, List.take_succ_cons, List.flatMap_cons, Nat.succ_mul, List.take_append, List.take_of_length_le (by omega), h1, Nat.add_sub_cancel, flat_take ts m fun x hx => h x (by simp [hx])]
end Go.Proofs.Ytimlecfneibjlaa
