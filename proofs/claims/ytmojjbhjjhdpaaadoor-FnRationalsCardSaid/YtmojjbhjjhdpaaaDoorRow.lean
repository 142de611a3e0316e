/- Rows: slices of slices of ints, read and owned. Of no program but for the two types' numbers. -/
import Derived.Test.YtmojjbhjjhdpaaaDoorOwn
import Derived.Test.YtmojjbhjjhdpaaaDoorInts
import Derived.Test.YtmojjbhjjhdpaaaDoorMark
namespace Go.Proofs.YtmojjbhjjhdpaaaDoor
open Go.RowKit Go.Deep

/-- A row among the cells of a slice: one cell, the header of a slice of ints. -/
def RRow (w : World) (B : Nat) (cs : List Value) (r : List Int) : Prop := ∃ A c, cs = [.slice A r.length c] ∧ RdI w B A r.length r ∧ r.length ≤ maxLen
theorem rdI_keep {w w' : World} {B n : Nat} {A : Option Addr} {zs : List Int} (h : RdI w B A n zs) (hk : ∀ k, k < B → w'.heap[k]? = w.heap[k]?) : RdI w' B A n zs :=
  h.keep fun p hp => World.cell?_of_block (hk p.block hp)
theorem rRow_ok : RdOk RRow where
  keep := fun ⟨A, c, h1, h2, h3⟩ hk => ⟨A, c, h1, rdI_keep h2 hk, h3⟩
  more := fun ⟨A, c, h1, h2, h3⟩ hB => ⟨A, c, h1, h2.more hB, h3⟩
/-- The slice at A with n elements reads as the rows rs, below block B. -/
abbrev RdR (w : World) (B : Nat) (A : Option Addr) (n : Nat) (rs : List (List Int)) : Prop := RdSl 1 RRow w B A n rs
theorem RdR.at_ {w : World} {B n : Nat} {A : Option Addr} {rs : List (List Int)} (h : RdR w B A n rs) {k : Nat} (hk : k < n) :
    ∃ b o r A' c', A = some ⟨b, o, none⟩ ∧ b < B ∧ rs[k]? = some r ∧ w.cell? ⟨b, o + k, none⟩ = some (.slice A' r.length c') ∧ RdI w B A' r.length r ∧ r.length ≤ maxLen := by
  obtain ⟨b, o, r, cs, hA, hb, hr, _, hc, A', c', rfl, hrd, hm⟩ := RdSl.at_ h hk
  exact ⟨b, o, r, A', c', hA, hb, hr, by simpa using hc 0 _ rfl, hrd, hm⟩

/-- A row of the call's own. -/
def ERow (w : World) (F : Nat → Prop) (cs : List Value) (r : List Int) : Prop := ∃ v, cs = [v] ∧ OwnI w 0 w.heap.size v r ∧ (∀ g, v.ownBlock = some g → F g) ∧ ∀ k, F k → k < w.heap.size
theorem ownI_keep {w w' : World} {lo hi hi' : Nat} {v : Value} {zs : List Int} (h : OwnI w lo hi v zs) (hk : ∀ g, v.ownBlock = some g → w'.heap[g]? = w.heap[g]? ∧ g < hi') : OwnI w' lo hi' v zs :=
  ⟨own_keep h.1 fun g hg => (hk g hg).1, fun g hg => (hk g hg).2⟩
theorem OwnI.narrow {w : World} {lo hi lo' hi' : Nat} {v : Value} {zs : List Int} (h : OwnI w lo hi v zs) (hk : ∀ g, v.ownBlock = some g → lo' ≤ g ∧ g < hi') : OwnI w lo' hi' v zs :=
  ⟨ownsRow_base h.1 fun g hg => (hk g hg).1, fun g hg => (hk g hg).2⟩
theorem lt_of_heap_eq {w w' : World} {k : Nat} (h : w'.heap[k]? = w.heap[k]?) (hk : k < w.heap.size) : k < w'.heap.size := by
  rcases Nat.lt_or_ge k w'.heap.size with h1 | h1
  · exact h1
  · rw [Array.getElem?_eq_none h1, Array.getElem?_eq_getElem hk] at h
    cases h
theorem eRow_ok : OwnOk ERow where
  bound := fun ⟨_, _, _, _, h⟩ => h
  keep := fun ⟨v, h1, h2, h3, h4⟩ hk => ⟨v, h1, ownI_keep h2 fun g hg => ⟨hk g (h3 g hg), lt_of_heap_eq (hk g (h3 g hg)) (h4 g (h3 g hg))⟩, h3, fun k hf => lt_of_heap_eq (hk k hf) (h4 k hf)⟩
theorem ERow.of {w : World} {lo hi : Nat} {v : Value} {r : List Int} (h : OwnI w lo hi v r) (hh : hi ≤ w.heap.size) : ERow w (fun k => lo ≤ k ∧ k < hi) [v] r :=
  ⟨v, rfl, h.narrow fun g hg => ⟨Nat.zero_le _, by have := h.2 g hg; omega⟩, fun g hg => ⟨(h.1.lt g hg).1, h.2 g hg⟩, fun k hk => by omega⟩
/-- The block of a row, as an interval. -/
theorem ERow.iv {w : World} {F : Nat → Prop} {cs : List Value} {r : List Int} (h : ERow w F cs r) : ∃ A c lo hi, cs = [.slice A r.length c] ∧ OwnI w lo hi (.slice A r.length c) r ∧ ∀ k, lo ≤ k ∧ k < hi → F k := by
  obtain ⟨v, rfl, h2, h3, h4⟩ := h
  obtain ⟨A, c, rfl⟩ := h2.form
  cases hg : (Value.slice A r.length c).ownBlock with
  | none => exact ⟨A, c, 0, 0, rfl, h2.narrow (fun g hg' => by rw [hg] at hg'; cases hg'), fun k hk => by omega⟩
  | some g => exact ⟨A, c, g, g + 1, rfl, h2.narrow (fun g' hg' => by rw [hg] at hg'; injection hg' with hg'; omega), fun k hk => by
      obtain rfl : k = g := by omega
      exact h3 k hg⟩
theorem ERow.back {w w' : World} {F : Nat → Prop} {r r' : List Int} {A : Option Addr} {cap lo hi n : Nat} (h : ERow w F [.slice A n cap] r) (ho : OwnI w' lo hi (.slice A n cap) r') (c : Chg lo hi w w') (hF : ∀ k, lo ≤ k ∧ k < hi → F k) : ERow w' F [.slice A n cap] r' ∧ ChgF F w w' := by
  obtain ⟨v, h1, h2, h3, h4⟩ := h
  injection h1 with h1 _
  subst h1
  exact ⟨⟨_, rfl, ho.narrow fun g hg => ⟨Nat.zero_le _, Nat.lt_of_lt_of_le (h4 g (h3 g hg)) c.size⟩, h3, fun k hk => Nat.lt_of_lt_of_le (h4 k hk) c.size⟩,
    ⟨c.os, c.tape, c.output, c.size, fun k hk hn => c.block k hk (by
      by_cases hlo : lo ≤ k
      · by_cases hhi : k < hi
        · exact absurd (hF k ⟨hlo, hhi⟩) hn
        · omega
      · omega)⟩⟩
theorem ownsRow_max {w : World} {base : Nat} {e : TypeId} {size : Nat} {v : Value} {n : Nat} {xs : List Value} (h : w.ownsRow base e size v n xs) : n ≤ maxLen := by
  rcases h.2 with ⟨_, rfl⟩ | ⟨g, cap, cur, _, _, _, hnc, hcm, _⟩
  · exact Nat.zero_le _
  · omega
theorem rRow_of {w : World} {G : Nat → Prop} {B : Nat} {cs : List Value} {r : List Int} (h : ERow w G cs r) (hB : ∀ k, G k → k < B) : RRow w B cs r := by
  obtain ⟨v, rfl, h2, h3, h4⟩ := h
  obtain ⟨A, c, rfl⟩ := h2.form
  exact ⟨A, c, rfl, (h2.narrow (lo' := 0) (hi' := B) fun g hg => ⟨Nat.zero_le _, hB g (h3 g hg)⟩).rd rfl, ownsRow_max h2.1⟩

/-- A slice of rows of the call's own, in blocks from lo to hi. -/
def OwnR (w : World) (lo hi : Nat) (v : Value) (rs : List (List Int)) : Prop := ∃ F, OwnSl 92 1 ERow w F v rs ∧ ∀ k, F k → lo ≤ k ∧ k < hi
theorem OwnR.form {w : World} {lo hi : Nat} {v : Value} {rs : List (List Int)} (h : OwnR w lo hi v rs) : ∃ A c, v = .slice A rs.length c := by
  obtain ⟨F, h1, _⟩ := h
  exact h1.form
theorem OwnR.rd {w : World} {lo hi n c : Nat} {A : Option Addr} {rs : List (List Int)} (h : OwnR w lo hi (.slice A n c) rs) (hn : rs.length = n) : RdR w hi A n rs := by
  obtain ⟨F, h1, h2⟩ := h
  exact h1.rd hn (by omega) (fun k hk => (h2 k hk).2) fun G cs a hE hG => rRow_of hE hG
theorem OwnR.chg {w w' : World} {lo hi a b : Nat} {v : Value} {rs : List (List Int)} (h : OwnR w lo hi v rs) (c : Chg a b w w') (hd : hi ≤ a ∨ b ≤ lo) : OwnR w' lo hi v rs := by
  obtain ⟨F, h1, h2⟩ := h
  exact ⟨F, h1.keep eRow_ok c.size fun k hk => c.block k (h1.bound k hk) (by have := h2 k hk; omega), h2⟩
theorem OwnR.below {w w' : World} {lo hi B : Nat} {v : Value} {rs : List (List Int)} (h : OwnR w lo hi v rs) (b : Below B w w') (hd : hi ≤ B) : OwnR w' lo hi v rs := by
  obtain ⟨F, h1, h2⟩ := h
  exact ⟨F, h1.keep eRow_ok b.size fun k hk => b.block k (by have := h2 k hk; omega), h2⟩
theorem OwnR.wide {w : World} {lo hi hi' : Nat} {v : Value} {rs : List (List Int)} (h : OwnR w lo hi v rs) (hd : hi ≤ hi') : OwnR w lo hi' v rs := by
  obtain ⟨F, h1, h2⟩ := h
  exact ⟨F, h1, fun k hk => by have := h2 k hk; omega⟩
theorem OwnR.nil (w : World) (lo hi : Nat) : OwnR w lo hi (.slice none 0 0) [] := ⟨fun _ => False, OwnSl.nil w _ (by simp), by simp⟩
theorem OwnR.of {w : World} {lo : Nat} {F : Nat → Prop} {v : Value} {rs : List (List Int)} (h : OwnSl 92 1 ERow w F v rs) (hF : ∀ k, F k → lo ≤ k) : OwnR w lo w.heap.size v rs := ⟨F, h, fun k hk => ⟨hF k hk, h.bound k hk⟩⟩
theorem RdR.chg {w w' : World} {B n a b : Nat} {A : Option Addr} {rs : List (List Int)} (h : RdR w B A n rs) (c : Chg a b w w') (hB : B ≤ a) (hs : B ≤ w.heap.size) : RdR w' B A n rs := RdSl.keep rRow_ok h fun k hk => c.block k (by omega) (by omega)
theorem RdR.belowB {w w' : World} {B B' n : Nat} {A : Option Addr} {rs : List (List Int)} (h : RdR w B A n rs) (b : Below B' w w') (hB : B ≤ B') : RdR w' B A n rs := RdSl.below rRow_ok h b hB
theorem RdR.more {w : World} {B B' n : Nat} {A : Option Addr} {rs : List (List Int)} (h : RdR w B A n rs) (hB : B ≤ B') : RdR w B' A n rs := RdSl.more rRow_ok h hB
theorem RdR.drewN {w : World} {B n : Nat} {A : Option Addr} {rs : List (List Int)} (h : RdR w B A n rs) (q : Nat) : RdR (w.drewN q) B A n rs := h
theorem RdI.drewN {w : World} {B n : Nat} {A : Option Addr} {zs : List Int} (h : RdI w B A n zs) (q : Nat) : RdI (w.drewN q) B A n zs := h

/-- Element k of owned rows: its header, its block, and what becomes of the whole. -/
theorem OwnR.at_ {w : World} {lo hi n c k : Nat} {A : Option Addr} {rs : List (List Int)} (h : OwnR w lo hi (.slice A n c) rs) (hn : rs.length = n) (hk : k < n) :
    ∃ g r A' c' lo' hi', A = some ⟨g, 0, none⟩ ∧ lo ≤ g ∧ g < hi ∧ g < w.heap.size ∧ rs[k]? = some r ∧ w.cell? ⟨g, k, none⟩ = some (.slice A' r.length c') ∧ w.frozen? ⟨g, k, none⟩ = false ∧ OwnI w lo' hi' (.slice A' r.length c') r ∧ r.length ≤ maxLen ∧
      (∀ w' r', OwnI w' lo' hi' (.slice A' r.length c') r' → Chg lo' hi' w w' → OwnR w' lo hi (.slice A n c) (rs.set k r') ∧ Chg lo hi w w') ∧
      (∀ w1 x r' lo1 hi1, Below w.heap.size w w1 → OwnI w1 lo1 hi1 x r' → w.heap.size ≤ lo1 → hi1 ≤ w1.heap.size → lo ≤ w.heap.size → OwnR (w1.setCell ⟨g, k, none⟩ x) lo w1.heap.size (.slice A n c) (rs.set k r')) := by
  obtain ⟨F, h1, h2⟩ := h
  subst hn
  obtain ⟨g, cap, hv, hFg, cs, r, H, hr, hl, hE, hH, hc, hup, hput⟩ := h1.at_ eRow_ok hk (by omega)
  injection hv with hA _ _
  obtain ⟨A', c', lo', hi', rfl, ho, hiv⟩ := hE.iv
  obtain ⟨hc1, hf1⟩ := hc 0 _ rfl
  rw [Nat.mul_one, Nat.add_zero] at hc1 hf1
  refine ⟨g, r, A', c', lo', hi', hA, (h2 g hFg).1, (h2 g hFg).2, h1.bound g hFg, hr, hc1, hf1, ho, ownsRow_max ho.1, fun w' r' ho' hch => ?_, fun w1 x r' lo1 hi1 hb ho1 hlo1 hhi1 hlo => ?_⟩
  · obtain ⟨k1, k2⟩ := hE.back ho' hch hiv
    exact ⟨⟨F, hup w' r' k2 k1, h2⟩, ⟨k2.os, k2.tape, k2.output, k2.size, fun i hi hne => k2.block i hi fun hHi => by have := h2 i (hH i hHi).1; omega⟩⟩
  · have := hput w1 (fun i => lo1 ≤ i ∧ i < hi1) 0 x r' ⟨hb.os, hb.tape, hb.output, hb.size, fun i hi _ => hb.block i hi⟩ (by omega) (ERow.of ho1 hhi1) (fun i hi => .inr (by omega))
    rw [Nat.mul_one, Nat.add_zero] at this
    refine ⟨_, this, fun i hi => ?_⟩
    have hbd := this.bound i hi
    simp [World.setCell] at hbd
    rcases hi with hi | hi
    · exact ⟨(h2 i hi).1, hbd⟩
    · exact ⟨by omega, hbd⟩
theorem OwnR.len_eq {w : World} {lo hi n c : Nat} {A : Option Addr} {rs : List (List Int)} (h : OwnR w lo hi (.slice A n c) rs) : rs.length = n := by
  obtain ⟨A', c', hv⟩ := h.form
  injection hv with _ hn _
  exact hn.symm

theorem info_row : (Tryd.prog.info? 92).map (fun i => (i.zero, i.size, i.bytes)) = some (some (.slice none 0 0), 1, 24) := by kernel_rfl

/-- All elements counted. -/
def sumL (rs : List (List Int)) : Nat := (rs.map List.length).sum
theorem sumL_nil : sumL [] = 0 := rfl
theorem sumL_cons (r : List Int) (rs : List (List Int)) : sumL (r :: rs) = r.length + sumL rs := rfl
theorem sumL_append (a b : List (List Int)) : sumL (a ++ b) = sumL a + sumL b := by simp [sumL]
theorem sumL_mem {rs : List (List Int)} {r : List Int} (h : r ∈ rs) : r.length ≤ sumL rs := by
  induction rs with
  | nil => cases h
  | cons s rs ih =>
    rw [sumL_cons]
    rcases List.mem_cons.1 h with rfl | h
    · omega
    · have := ih h; omega
theorem sumL_take_succ {rs : List (List Int)} {j : Nat} {r : List Int} (h : rs[j]? = some r) : sumL (rs.take (j + 1)) = sumL (rs.take j) + r.length := by
  obtain ⟨hj, rfl⟩ := List.getElem?_eq_some_iff.1 h
  rw [List.take_succ_eq_append_getElem hj, sumL_append]
  simp [sumL]
theorem sumL_take_le (rs : List (List Int)) (j : Nat) : sumL (rs.take j) ≤ sumL rs := by
  have := sumL_append (rs.take j) (rs.drop j)
  rw [List.take_append_drop] at this
  omega
/-- Rows of the lengths of rs, counted from k on. -/
def cntR : Int → List (List Int) → List (List Int)
  | _, [] => []
  | k, r :: rs => cnt k r.length :: cntR (k + r.length) rs
theorem cntR_length : ∀ (k : Int) (rs : List (List Int)), (cntR k rs).length = rs.length
  | _, [] => rfl
  | k, r :: rs => by rw [cntR, List.length_cons, List.length_cons, cntR_length]
theorem cntR_get : ∀ (k : Int) (rs : List (List Int)) (j : Nat) (r : List Int), rs[j]? = some r → (cntR k rs)[j]? = some (cnt (k + (sumL (rs.take j) : Nat)) r.length)
  | k, [], j, r, h => by simp at h
  | k, s :: rs, 0, r, h => by
    simp at h
    subst h
    simp [cntR, sumL]
  | k, s :: rs, j + 1, r, h => by
    have := cntR_get (k + s.length) rs j r (by simpa using h)
    rw [cntR, List.getElem?_cons_succ, this, List.take_succ_cons, sumL_cons]
    congr 2
    omega
/-- The first j rows counted, the rest as they were. -/
def markRTo (rs : List (List Int)) (k : Int) (j : Nat) : List (List Int) := (cntR k rs).take j ++ rs.drop j
theorem markRTo_zero (rs : List (List Int)) (k : Int) : markRTo rs k 0 = rs := by simp [markRTo]
theorem markRTo_full (rs : List (List Int)) (k : Int) : markRTo rs k rs.length = cntR k rs := by
  rw [markRTo, List.take_of_length_le (by rw [cntR_length]; exact Nat.le_refl _)]
  simp
theorem markRTo_length (rs : List (List Int)) (k : Int) (j : Nat) (hj : j ≤ rs.length) : (markRTo rs k j).length = rs.length := by
  rw [markRTo, List.length_append, List.length_take, List.length_drop, cntR_length]
  omega
theorem markRTo_get {rs : List (List Int)} {k : Int} {j : Nat} {r : List Int} (h : rs[j]? = some r) : (markRTo rs k j)[j]? = some r := by
  have hj := (List.getElem?_eq_some_iff.1 h).1
  rw [markRTo, List.getElem?_append_right (by rw [List.length_take, cntR_length]; omega), List.length_take, cntR_length, Nat.min_eq_left (by omega), Nat.sub_self, List.getElem?_drop, Nat.add_zero, h]
theorem markRTo_step {rs : List (List Int)} {k : Int} {j : Nat} {r : List Int} (h : rs[j]? = some r) : (markRTo rs k j).set j (cnt (k + (sumL (rs.take j) : Nat)) r.length) = markRTo rs k (j + 1) := by
  have hj := (List.getElem?_eq_some_iff.1 h).1
  have hg := cntR_get k rs j r h
  have hj' : j < (cntR k rs).length := by rw [cntR_length]; exact hj
  have hv : (cntR k rs)[j] = cnt (k + (sumL (rs.take j) : Nat)) r.length := by rw [List.getElem?_eq_getElem hj'] at hg; injection hg
  rw [markRTo, markRTo, List.set_append_right _ _ (by rw [List.length_take]; omega), List.length_take, Nat.min_eq_left (by omega), Nat.sub_self, List.drop_eq_getElem_cons hj, List.set_cons_zero, List.take_succ_eq_append_getElem hj', hv,
    List.append_assoc, List.singleton_append]
end Go.Proofs.YtmojjbhjjhdpaaaDoor
