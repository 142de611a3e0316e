/- Plain laws of sorted rows; impl.sorted. No condition but the size. -/
import Derived.Test.YtanlhbmpjfamkaaCpt
namespace Go.Proofs.Ytanlhbmpjfamkaa
open Go.RowKit Go.Deep

/-- What spec.l4Put lays behind the rows it has seen ('put': the new row lies already). -/
def putA (r : List Int) : Bool → List (List Int) → List (List Int)
  | put, [] => if put then [] else [r]
  | put, x :: l => if 0 < cmpL x r ∧ put = false then r :: x :: putA r true l else x :: putA r (put || decide (cmpL x r = 0)) l
theorem putA_true (r : List Int) : ∀ l : List (List Int), putA r true l = l
  | [] => rfl
  | x :: l => by rw [putA, if_neg (by simp), Bool.true_or, putA_true r l]
theorem putA_mem (r : List Int) : ∀ (l : List (List Int)) (x : List Int), x ∈ putA r false l ↔ x = r ∨ x ∈ l
  | [], x => by simp [putA]
  | y :: l, x => by
    rw [putA]
    by_cases h : 0 < cmpL y r
    · rw [if_pos ⟨h, rfl⟩, putA_true]
      simp
    · rw [if_neg (by simp [h]), Bool.false_or]
      by_cases e : cmpL y r = 0
      · rw [decide_eq_true e, putA_true, cmpL_eq e]
        simp
      · rw [decide_eq_false e, List.mem_cons, putA_mem r l x, List.mem_cons]
        constructor
        · rintro (h | h | h)
          · exact .inr (.inl h)
          · exact .inl h
          · exact .inr (.inr h)
        · rintro (h | h | h)
          · exact .inr (.inl h)
          · exact .inl h
          · exact .inr (.inr h)
theorem putA_asc (r : List Int) : ∀ (l : List (List Int)), AscP l → AscP (putA r false l)
  | [], _ => by simp [putA]
  | y :: l, h => by
    obtain ⟨h1, h2⟩ := List.pairwise_cons.1 h
    rw [putA]
    by_cases hp : 0 < cmpL y r
    · rw [if_pos ⟨hp, rfl⟩, putA_true]
      have hr : cmpL r y < 0 := by rw [cmpL_swap]; omega
      refine List.pairwise_cons.2 ⟨fun z hz => ?_, h⟩
      rcases List.mem_cons.1 hz with rfl | hz
      · exact hr
      · exact cmpL_trans hr (h1 z hz)
    · rw [if_neg (by simp [hp]), Bool.false_or]
      by_cases e : cmpL y r = 0
      · rw [decide_eq_true e, putA_true]
        exact h
      · rw [decide_eq_false e]
        refine List.pairwise_cons.2 ⟨fun z hz => ?_, putA_asc r l h2⟩
        rcases (putA_mem r l z).1 hz with rfl | hz
        · omega
        · exact h1 z hz
theorem putA_len (r : List Int) : ∀ (l : List (List Int)), l.length ≤ (putA r false l).length ∧ (putA r false l).length ≤ l.length + 1
  | [] => by simp [putA]
  | y :: l => by
    rw [putA]
    by_cases hp : 0 < cmpL y r
    · rw [if_pos ⟨hp, rfl⟩, putA_true]
      simp
    · rw [if_neg (by simp [hp]), Bool.false_or]
      by_cases e : cmpL y r = 0
      · rw [decide_eq_true e, putA_true]
        simp
      · rw [decide_eq_false e]
        have := putA_len r l
        simp only [List.length_cons]
        omega
theorem putA_sum (r : List Int) : ∀ (l : List (List Int)), sumL (putA r false l) ≤ sumL l + r.length
  | [] => by simp [putA, sumL]
  | y :: l => by
    rw [putA]
    by_cases hp : 0 < cmpL y r
    · rw [if_pos ⟨hp, rfl⟩, putA_true]
      simp only [sumL_cons]
      omega
    · rw [if_neg (by simp [hp]), Bool.false_or]
      by_cases e : cmpL y r = 0
      · rw [decide_eq_true e, putA_true]
        simp only [sumL_cons]
        omega
      · rw [decide_eq_false e]
        have := putA_sum r l
        simp only [sumL_cons]
        omega
/-- Rows put one by one. -/
def putAll (acc : List (List Int)) (rs : List (List Int)) : List (List Int) := rs.foldl (fun a r => putA r false a) acc
/-- Rows in order, each once. -/
def sortL (rs : List (List Int)) : List (List Int) := putAll [] rs
theorem putAll_mem : ∀ (rs acc : List (List Int)) (x : List Int), x ∈ putAll acc rs ↔ x ∈ acc ∨ x ∈ rs
  | [], acc, x => by simp [putAll]
  | r :: rs, acc, x => by
    show x ∈ putAll (putA r false acc) rs ↔ _
    rw [putAll_mem rs, putA_mem, List.mem_cons]
    constructor
    · rintro ((h | h) | h)
      · exact .inr (.inl h)
      · exact .inl h
      · exact .inr (.inr h)
    · rintro (h | h | h)
      · exact .inl (.inr h)
      · exact .inl (.inl h)
      · exact .inr h
theorem putAll_asc : ∀ (rs acc : List (List Int)), AscP acc → AscP (putAll acc rs)
  | [], _, h => h
  | r :: rs, acc, h => putAll_asc rs _ (putA_asc r acc h)
theorem putAll_len : ∀ (rs acc : List (List Int)), acc.length ≤ (putAll acc rs).length ∧ (putAll acc rs).length ≤ acc.length + rs.length
  | [], acc => by simp [putAll]
  | r :: rs, acc => by
    have h1 := putAll_len rs (putA r false acc)
    have h2 := putA_len r acc
    show _ ≤ (putAll (putA r false acc) rs).length ∧ (putAll (putA r false acc) rs).length ≤ _
    simp only [List.length_cons]
    omega
theorem putAll_sum : ∀ (rs acc : List (List Int)), sumL (putAll acc rs) ≤ sumL acc + sumL rs
  | [], acc => by simp [putAll, sumL]
  | r :: rs, acc => by
    have h1 := putAll_sum rs (putA r false acc)
    have h2 := putA_sum r acc
    show sumL (putAll (putA r false acc) rs) ≤ _
    rw [sumL_cons]
    omega
theorem putAll_append (acc a b : List (List Int)) : putAll acc (a ++ b) = putAll (putAll acc a) b := List.foldl_append
theorem sortL_asc (rs : List (List Int)) : AscP (sortL rs) := putAll_asc rs [] .nil
theorem sortL_mem (rs : List (List Int)) (x : List Int) : x ∈ sortL rs ↔ x ∈ rs := by rw [sortL, putAll_mem]; simp
theorem sortL_len (rs : List (List Int)) : (sortL rs).length ≤ rs.length := by have := (putAll_len rs []).2; rw [List.length_nil, Nat.zero_add] at this; exact this
theorem sortL_sum (rs : List (List Int)) : sumL (sortL rs) ≤ sumL rs := by have := putAll_sum rs []; rw [sumL_nil, Nat.zero_add] at this; exact this
theorem sortL_take (rs : List (List Int)) (j : Nat) : (sortL (rs.take j)).length ≤ (sortL rs).length := by
  have h := putAll_append [] (rs.take j) (rs.drop j)
  rw [List.take_append_drop] at h
  rw [sortL, sortL, h]
  exact (putAll_len _ _).1
theorem sortL_of {rs rs' : List (List Int)} (h : AscP rs') (hm : ∀ x, x ∈ rs' ↔ x ∈ rs) : rs' = sortL rs := ascP_unique h (sortL_asc rs) fun x => by rw [hm, sortL_mem]
theorem sortL_snoc {rs : List (List Int)} (h : AscP rs) (r : List Int) : sortL (rs ++ [r]) = putA r false rs := (sortL_of (putA_asc r rs h) fun x => by rw [putA_mem, List.mem_append, List.mem_singleton]; exact or_comm).symm

set_option maxRecDepth 100000 in
theorem sorted_any (A : Option Addr) (n c B : Nat) (rs : List (List Int)) (w : World) (hr : RdR w B A n rs) (hB : B ≤ w.heap.size) (hn : n ≤ 5000000000) (hrow : ∀ r ∈ rs, r.length ≤ 17592186044416) :
    Calls Try.prog 49 #[.slice A n c] w (RowsNew (sortL rs) w) := by
  have HN := Lib.hid hr.1
  have hrow' := Lib.hid hrow
  clear hrow
  go_enter Try.func49, Try.ntmps49
  go_wp2_with fail
  refine (copyRows_any A n c B rs w hr hB hn hrow'.out).mono ?_
  rintro e w1 ⟨A1, c1, rfl, o1, b1⟩
  go_wp2_with fail
  refine (sortRows_own A1 rs.length c1 _ _ rs w1 o1 (by rw [HN.out]; omega)).mono ?_
  rintro e w2 ⟨rfl, rs2, o2, p2, s2, k2⟩
  have S2 := Lib.hid s2
  clear s2
  go_wp2_with fail
  refine (compactRows_own A1 rs.length c1 _ _ rs2 w2 o2 (List.Pairwise.imp (fun {_ _} h => by omega) S2.out)).mono ?_
  rintro e w3 ⟨m, rs3, rfl, o3, a3, m3, k3⟩
  have HF : Hid (rs3 = sortL rs) := sortL_of a3 fun x => by rw [m3, p2.mem_iff]
  have hb := Lib.hid ((b1.trans ((k2.below (Nat.le_refl _) b1.size))).trans ((k3.below (Nat.le_refl _) (Nat.le_trans b1.size k2.size))))
  have ho := Lib.hid (o3.wide (Nat.le_trans k2.size k3.size))
  clear o1 b1 o2 p2 k2 o3 a3 m3 k3
  go_wp2_with fail
  go_ret
  refine RowsNew.of ?_ hb.out
  rw [← HF.out]
  exact ho.out
end Go.Proofs.Ytanlhbmpjfamkaa
