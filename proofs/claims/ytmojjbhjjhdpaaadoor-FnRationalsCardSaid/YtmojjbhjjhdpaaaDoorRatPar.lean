/- ParseRational, both texts. -/
import Derived.Test.YtmojjbhjjhdpaaaDoorL2Num
import Derived.Test.YtmojjbhjjhdpaaaDoorMx
namespace Go.Proofs.YtmojjbhjjhdpaaaDoor
open Go.RowKit

theorem first_unique {c : UInt8} {a a' r r' : List UInt8} (h : ∀ b ∈ a, b ≠ c) (h' : ∀ b ∈ a', b ≠ c) (e : a ++ c :: r = a' ++ c :: r') : a = a' ∧ r = r' := by
  have h1 := cutL_step c r a h
  have h2 := cutL_step c r' a' h'
  rw [e, h2] at h1
  injection h1 with h3 _
  subst h3
  have := List.append_cancel_left e
  injection this with _ h4
  exact ⟨rfl, h4⟩
theorem RdN.ex (g : List UInt8 → Int) (s : ByteArray) : ∃ p q, RdN g s p q := by
  rcases first_c 47 s.data.toList with h | ⟨a, r, e, h⟩
  · exact ⟨_, _, ⟨fun _ => ⟨rfl, rfl⟩, fun a r e _ => absurd rfl (h 47 (by rw [e]; simp))⟩⟩
  · exact ⟨_, _, ⟨fun hn => absurd rfl (hn 47 (by rw [e]; simp)), fun a' r' e' h' => by
      obtain ⟨rfl, rfl⟩ := first_unique h h' (e.symm.trans e')
      exact ⟨rfl, rfl⟩⟩⟩

theorem cut_not (s : ByteArray) (w : World) (hs : s.size ≤ 1048576) (hm : Mx w) (h : ∀ b ∈ s.data.toList, b ≠ 47) :
    Calls Tryd.prog 69 #[.string s, .string ⟨#[47]⟩] w fun e w' => e = .returned (.tuple #[.string s, .string ⟨#[]⟩, .bool false]) ∧ Below w.heap.size w w' := by
  obtain ⟨m, hm⟩ := hm
  refine (Tryd.strings_Cut s ⟨#[47]⟩ m w (by omega) hm).mono fun e w' ⟨he, n, hw⟩ => ⟨?_, by rw [hw]; exact below_drewN (Below.refl _ _) n⟩
  have e1 : Lib.cut s.data.toList (⟨#[47]⟩ : ByteArray).data.toList = (s.data.toList, [], false) := cut_none h
  rw [he, e1]
theorem cut_yes (s a r : ByteArray) (w : World) (hs : s.size ≤ 1048576) (hm : Mx w) (he : s.data.toList = a.data.toList ++ 47 :: r.data.toList) (h : ∀ b ∈ a.data.toList, b ≠ 47) :
    Calls Tryd.prog 69 #[.string s, .string ⟨#[47]⟩] w fun e w' => e = .returned (.tuple #[.string a, .string r, .bool true]) ∧ Below w.heap.size w w' := by
  obtain ⟨m, hm⟩ := hm
  refine (Tryd.strings_Cut s ⟨#[47]⟩ m w (by omega) hm).mono fun e w' ⟨hret, n, hw⟩ => ⟨?_, by rw [hw]; exact below_drewN (Below.refl _ _) n⟩
  have e1 : Lib.cut s.data.toList (⟨#[47]⟩ : ByteArray).data.toList = (a.data.toList, r.data.toList, true) := by rw [he]; exact cut_hit h
  rw [hret, e1]

/-- The result's cells are as they were made. -/
structure QInv (w W : World) : Prop where
  bel : Below w.heap.size w W
  lt : w.heap.size < W.heap.size
  r0 : W.cell? ⟨w.heap.size, 0, none⟩ = some (.int .i64 0)
  r1 : W.cell? ⟨w.heap.size, 1, none⟩ = some (.int .i64 0)
  f0 : W.frozen? ⟨w.heap.size, 0, none⟩ = false
  f1 : W.frozen? ⟨w.heap.size, 1, none⟩ = false
theorem QInv.start (w : World) (t : TypeId) : QInv w (w.alloc (.cells #[.int .i64 0, .int .i64 0] t)) :=
  ⟨(Below.refl _ _).alloc (Nat.le_refl _) _, by simp, by simp [go_sem], by simp [go_sem], by simp [go_sem], by simp [go_sem]⟩
theorem QInv.next {w W W' : World} (h : QInv w W) (b : Below W.heap.size W W') : QInv w W' :=
  ⟨h.bel.trans (b.mono (Nat.le_of_lt h.lt)), Nat.lt_of_lt_of_le h.lt b.size, (b.cell (p := ⟨w.heap.size, 0, none⟩) h.lt).trans h.r0, (b.cell (p := ⟨w.heap.size, 1, none⟩) h.lt).trans h.r1, (b.frozen (p := ⟨w.heap.size, 0, none⟩) h.lt).trans h.f0, (b.frozen (p := ⟨w.heap.size, 1, none⟩) h.lt).trans h.f1⟩
/-- .. and block B holds a rational. -/
structure PInv (w : World) (B : Nat) (p q : Int) (W : World) : Prop where
  res : QInv w W
  lo : w.heap.size < B
  hi : B < W.heap.size
  c0 : W.cell? ⟨B, 0, none⟩ = some (.int .i64 p)
  c1 : W.cell? ⟨B, 1, none⟩ = some (.int .i64 q)
  g0 : W.frozen? ⟨B, 0, none⟩ = false
  g1 : W.frozen? ⟨B, 1, none⟩ = false
theorem QInv.box {w W : World} (h : QInv w W) (p q : Int) (t : TypeId) : PInv w W.heap.size p q (W.alloc (.cells #[.int .i64 p, .int .i64 q] t)) :=
  ⟨h.next ((Below.refl _ _).alloc (Nat.le_refl _) _), h.lt, by simp, by simp [go_sem], by simp [go_sem], by simp [go_sem], by simp [go_sem]⟩
theorem PInv.next {w W W' : World} {B : Nat} {p q : Int} (h : PInv w B p q W) (b : Below W.heap.size W W') : PInv w B p q W' :=
  ⟨h.res.next b, h.lo, Nat.lt_of_lt_of_le h.hi b.size, (b.cell (p := ⟨B, 0, none⟩) h.hi).trans h.c0, (b.cell (p := ⟨B, 1, none⟩) h.hi).trans h.c1, (b.frozen (p := ⟨B, 0, none⟩) h.hi).trans h.g0, (b.frozen (p := ⟨B, 1, none⟩) h.hi).trans h.g1⟩
theorem PInv.set1 {w W : World} {B : Nat} {p q : Int} (h : PInv w B p q W) (x : Int) : PInv w B p x (W.setCell ⟨B, 1, none⟩ (.int .i64 x)) := by
  have hb : Below B W (W.setCell ⟨B, 1, none⟩ (.int .i64 x)) := (Below.refl B W).setCell (Nat.le_refl _) _
  have hr : QInv w (W.setCell ⟨B, 1, none⟩ (.int .i64 x)) := ⟨h.res.bel.setCell (Nat.le_of_lt h.lo) _, by simpa using h.res.lt, (hb.cell (p := ⟨w.heap.size, 0, none⟩) h.lo).trans h.res.r0, (hb.cell (p := ⟨w.heap.size, 1, none⟩) h.lo).trans h.res.r1, (hb.frozen (p := ⟨w.heap.size, 0, none⟩) h.lo).trans h.res.f0, (hb.frozen (p := ⟨w.heap.size, 1, none⟩) h.lo).trans h.res.f1⟩
  refine ⟨hr, h.lo, by simpa using h.hi, ?_, ?_, ?_, ?_⟩
  · rw [World.cell?_setCell_other _ _ _ _ (by simp)]; exact h.c0
  · exact World.cell?_setCell_same _ _ _ h.c1
  · simpa using h.g0
  · simpa using h.g1

theorem split_at {s : ByteArray} {k : Nat} (hk : k < s.size) (h : s[k].toNat = 47) : s.data.toList = s.data.toList.take k ++ 47 :: s.data.toList.drop (k + 1) := by
  have h3 : s[k] = 47 := by rw [← UInt8.toNat_inj]; exact h
  have hl : k < s.data.toList.length := by simpa using hk
  have h4 : s.data.toList[k] = 47 := h3
  conv => lhs; rw [← List.take_append_drop k s.data.toList, List.drop_eq_getElem_cons hl, h4]

set_option maxRecDepth 100000 in
set_option maxHeartbeats 1000000 in
theorem spec_ParseRational_yes (s : ByteArray) (p q : Int) (w : World) (hs : s.size ≤ 1048576) (hN : RdN l2 s p q) (h0 : ¬ s = ⟨#[]⟩) (hR : fR p q = s) :
    Calls Tryd.prog 20 #[.string s] w fun e w' => e = .returned (.tuple #[.agg #[.int .i64 p, .int .i64 q], .bool true]) ∧ Below w.heap.size w w' := by
  have z2 : ¬ s.toList = [] := fun e => str_ne h0 (e.trans (by simp [ByteArray.toList_eq]))
  have z0 : (s.toList == []) = false := by simpa using z2
  have z1 : s.toList.isEmpty = false := by simpa using z2
  have K4 : Hid (∀ W, Calls Tryd.prog 17 #[.agg #[.int .i64 p, .int .i64 q]] W fun e w' => e = .returned (.string s) ∧ Below W.heap.size W w') := fun W => by have := spec_FormatRational_any p q W; rw [hR] at this; exact this
  clear h0 hR
  have HN := Lib.hid hN
  clear hN
  go_enter Tryd.func20, Tryd.ntmps20
  go_wp2
  have i0 := QInv.start w 30
  generalize w.alloc (.cells #[.int .i64 0, .int .i64 0] 30) = W0 at i0 ⊢
  go_loop [4] (fun i => ∃ k : Nat, k ≤ s.size ∧ i = .int .i64 k ∧ Hid (∀ b ∈ s.data.toList.take k, b ≠ 47)) (fun i => s.size - (intOf i).toNat)
  case atStart => exact ⟨0, by omega, rfl, fun b hb => by simp at hb⟩
  case round =>
    obtain ⟨k, hk, rfl, hinv⟩ := hrel
    by_cases hlt : k < s.size
    · obtain ⟨x, hx⟩ : ∃ x, s[k].toNat = x := ⟨_, rfl⟩
      have hx256 : x < 256 := by have := s[k].toNat_lt; omega
      by_cases h47 : x = 47
      · obtain ⟨e1, e2⟩ := HN.out.two _ _ (split_at hlt (by omega)) hinv.out
        have HP : Hid (l2 (s.extract 0 k).data.toList = p) := by show _ = _; rw [e1, Lib.extract_data]; simp
        have HQ : Hid (l2 (s.extract (k + 1) s.size).data.toList = q) := by show _ = _; rw [e2, Lib.extract_to_end]
        have hsa : (s.extract 0 k).size ≤ 1048576 := by rw [ByteArray.size_extract]; omega
        have hsr : (s.extract (k + 1) s.size).size ≤ 1048576 := by rw [ByteArray.size_extract]; omega
        clear e1 e2 hinv
        subst h47
        go_wp2_with fail
        refine (l2Num_any _ _ hsa).mono ?_
        rw [HP.out]
        rintro e W2 ⟨rfl, rfl⟩
        have i3 := i0.box p 1 30
        go_wp2_with fail
        generalize W0.alloc (.cells #[.int .i64 p, .int .i64 1] 30) = W3 at i3 ⊢
        generalize W0.heap.size = B at i3 ⊢
        have d0 := i3.c0
        have d1 := i3.c1
        have d2 := i3.g1
        refine (l2Num_any _ _ hsr).mono ?_
        rw [HQ.out]
        rintro e W4 ⟨rfl, rfl⟩
        have i5 := i3.set1 q
        clear i3
        go_wp2_with fail
        clear d0 d1 d2
        generalize W3.setCell ⟨B, 1, none⟩ (.int .i64 q) = W5 at i5 ⊢
        have d0 := i5.c0
        have d1 := i5.c1
        go_wp2_with fail
        refine (K4.out _).mono ?_
        rintro e W6 ⟨rfl, b6⟩
        have i6 := i5.next b6
        have e0 := i6.c0
        have e1 := i6.c1
        have x0 := i6.res.r0
        have x1 := i6.res.r1
        have y0 := i6.res.f0
        have y1 := i6.res.f1
        clear b6 i5 d0 d1
        go_wp2_with fail
        refine bodyPost_ret (v := .tuple #[.agg #[.int .i64 p, .int .i64 q], .bool true]) (by simp [results, Tryd.results20, go_sem, *]) rfl ⟨rfl, ?_⟩
        exact (i6.res.bel.setCell (Nat.le_refl _) _).setCell (Nat.le_refl _) _
      · have hst : Hid (∀ b ∈ s.data.toList.take (k + 1), b ≠ 47) := by
          intro b hb
          rw [take_snoc s k hlt, List.mem_append, List.mem_singleton] at hb
          rcases hb with hb | rfl
          · exact hinv.out b hb
          · intro e; apply h47; rw [← hx, e]; rfl
        clear hinv
        go_wp2
        go_round
        case rel => exact ⟨k + 1, by omega, by go_num, hst⟩
        case measure => simp [intOf]; omega
    · obtain rfl : k = s.size := by omega
      have h47 := hinv.out
      rw [take_all] at h47
      obtain ⟨e1, rfl⟩ := HN.out.one h47
      have HP : Hid (l2 s.data.toList = p) := e1.symm
      clear e1 hinv h47
      go_wp2_with fail
      refine (l2Num_any s _ hs).mono ?_
      rw [HP.out]
      rintro e W2 ⟨rfl, rfl⟩
      have i5 := i0.box p 1 30
      go_wp2_with fail
      generalize W0.alloc (.cells #[.int .i64 p, .int .i64 1] 30) = W3 at i5 ⊢
      generalize W0.heap.size = B at i5 ⊢
      have d0 := i5.c0
      have d1 := i5.c1
      go_wp2_with fail
      refine (K4.out _).mono ?_
      rintro e W6 ⟨rfl, b6⟩
      have i6 := i5.next b6
      have e0 := i6.c0
      have e1 := i6.c1
      have x0 := i6.res.r0
      have x1 := i6.res.r1
      have y0 := i6.res.f0
      have y1 := i6.res.f1
      clear b6 i5 d0 d1
      go_wp2_with fail
      refine bodyPost_ret (v := .tuple #[.agg #[.int .i64 p, .int .i64 1], .bool true]) (by simp [results, Tryd.results20, go_sem, *]) rfl ⟨rfl, ?_⟩
      exact (i6.res.bel.setCell (Nat.le_refl _) _).setCell (Nat.le_refl _) _

set_option maxRecDepth 100000 in
set_option maxHeartbeats 1000000 in
theorem spec_ParseRational_no (s : ByteArray) (p q : Int) (w : World) (hs : s.size ≤ 1048576) (hN : RdN l2 s p q) (h0 : ¬ s = ⟨#[]⟩) (hR : ¬ fR p q = s) :
    Calls Tryd.prog 20 #[.string s] w fun e w' => e = .returned (.tuple #[.agg #[.int .i64 0, .int .i64 0], .bool false]) ∧ Below w.heap.size w w' := by
  have z2 : ¬ s.toList = [] := fun e => str_ne h0 (e.trans (by simp [ByteArray.toList_eq]))
  have z0 : (s.toList == []) = false := by simpa using z2
  have z1 : s.toList.isEmpty = false := by simpa using z2
  obtain ⟨T, hT⟩ : ∃ T, fR p q = T := ⟨_, rfl⟩
  rw [hT] at hR
  have q0 := str_eq0 hR
  have q1 := str_ne1 hR
  have K4 : Hid (∀ W, Calls Tryd.prog 17 #[.agg #[.int .i64 p, .int .i64 q]] W fun e w' => e = .returned (.string T) ∧ Below W.heap.size W w') := fun W => by have := spec_FormatRational_any p q W; rw [hT] at this; exact this
  clear hT
  clear h0 hR
  have HN := Lib.hid hN
  clear hN
  go_enter Tryd.func20, Tryd.ntmps20
  go_wp2
  have i0 := QInv.start w 30
  generalize w.alloc (.cells #[.int .i64 0, .int .i64 0] 30) = W0 at i0 ⊢
  go_loop [4] (fun i => ∃ k : Nat, k ≤ s.size ∧ i = .int .i64 k ∧ Hid (∀ b ∈ s.data.toList.take k, b ≠ 47)) (fun i => s.size - (intOf i).toNat)
  case atStart => exact ⟨0, by omega, rfl, fun b hb => by simp at hb⟩
  case round =>
    obtain ⟨k, hk, rfl, hinv⟩ := hrel
    by_cases hlt : k < s.size
    · obtain ⟨x, hx⟩ : ∃ x, s[k].toNat = x := ⟨_, rfl⟩
      have hx256 : x < 256 := by have := s[k].toNat_lt; omega
      by_cases h47 : x = 47
      · obtain ⟨e1, e2⟩ := HN.out.two _ _ (split_at hlt (by omega)) hinv.out
        have HP : Hid (l2 (s.extract 0 k).data.toList = p) := by show _ = _; rw [e1, Lib.extract_data]; simp
        have HQ : Hid (l2 (s.extract (k + 1) s.size).data.toList = q) := by show _ = _; rw [e2, Lib.extract_to_end]
        have hsa : (s.extract 0 k).size ≤ 1048576 := by rw [ByteArray.size_extract]; omega
        have hsr : (s.extract (k + 1) s.size).size ≤ 1048576 := by rw [ByteArray.size_extract]; omega
        clear e1 e2 hinv
        subst h47
        go_wp2_with fail
        refine (l2Num_any _ _ hsa).mono ?_
        rw [HP.out]
        rintro e W2 ⟨rfl, rfl⟩
        have i3 := i0.box p 1 30
        go_wp2_with fail
        generalize W0.alloc (.cells #[.int .i64 p, .int .i64 1] 30) = W3 at i3 ⊢
        generalize W0.heap.size = B at i3 ⊢
        have d0 := i3.c0
        have d1 := i3.c1
        have d2 := i3.g1
        refine (l2Num_any _ _ hsr).mono ?_
        rw [HQ.out]
        rintro e W4 ⟨rfl, rfl⟩
        have i5 := i3.set1 q
        clear i3
        go_wp2_with fail
        clear d0 d1 d2
        generalize W3.setCell ⟨B, 1, none⟩ (.int .i64 q) = W5 at i5 ⊢
        have d0 := i5.c0
        have d1 := i5.c1
        go_wp2_with fail
        refine (K4.out _).mono ?_
        rintro e W6 ⟨rfl, b6⟩
        have i6 := i5.next b6
        have e0 := i6.c0
        have e1 := i6.c1
        have x0 := i6.res.r0
        have x1 := i6.res.r1
        have y0 := i6.res.f0
        have y1 := i6.res.f1
        clear b6 i5 d0 d1
        go_wp2_with fail
        refine bodyPost_ret (v := .tuple #[.agg #[.int .i64 0, .int .i64 0], .bool false]) (by simp [results, Tryd.results20, go_sem, *]) rfl ⟨rfl, ?_⟩
        exact (i6.res.bel.setCell (Nat.le_refl _) _).setCell (Nat.le_refl _) _
      · have hst : Hid (∀ b ∈ s.data.toList.take (k + 1), b ≠ 47) := by
          intro b hb
          rw [take_snoc s k hlt, List.mem_append, List.mem_singleton] at hb
          rcases hb with hb | rfl
          · exact hinv.out b hb
          · intro e; apply h47; rw [← hx, e]; rfl
        clear hinv
        go_wp2
        go_round
        case rel => exact ⟨k + 1, by omega, by go_num, hst⟩
        case measure => simp [intOf]; omega
    · obtain rfl : k = s.size := by omega
      have h47 := hinv.out
      rw [take_all] at h47
      obtain ⟨e1, rfl⟩ := HN.out.one h47
      have HP : Hid (l2 s.data.toList = p) := e1.symm
      clear e1 hinv h47
      go_wp2_with fail
      refine (l2Num_any s _ hs).mono ?_
      rw [HP.out]
      rintro e W2 ⟨rfl, rfl⟩
      have i5 := i0.box p 1 30
      go_wp2_with fail
      generalize W0.alloc (.cells #[.int .i64 p, .int .i64 1] 30) = W3 at i5 ⊢
      generalize W0.heap.size = B at i5 ⊢
      have d0 := i5.c0
      have d1 := i5.c1
      go_wp2_with fail
      refine (K4.out _).mono ?_
      rintro e W6 ⟨rfl, b6⟩
      have i6 := i5.next b6
      have e0 := i6.c0
      have e1 := i6.c1
      have x0 := i6.res.r0
      have x1 := i6.res.r1
      have y0 := i6.res.f0
      have y1 := i6.res.f1
      clear b6 i5 d0 d1
      go_wp2_with fail
      refine bodyPost_ret (v := .tuple #[.agg #[.int .i64 0, .int .i64 0], .bool false]) (by simp [results, Tryd.results20, go_sem, *]) rfl ⟨rfl, ?_⟩
      exact (i6.res.bel.setCell (Nat.le_refl _) _).setCell (Nat.le_refl _) _

set_option maxRecDepth 100000 in
set_option maxHeartbeats 1000000 in
theorem spec_ParseRational_nil (s : ByteArray) (p q : Int) (w : World) (hs : s.size ≤ 1048576) (hN : RdN l2 s p q) (h0 : s = ⟨#[]⟩) :
    Calls Tryd.prog 20 #[.string s] w fun e w' => e = .returned (.tuple #[.agg #[.int .i64 0, .int .i64 0], .bool false]) ∧ Below w.heap.size w w' := by
  subst h0
  have HN := Lib.hid hN
  clear hN
  go_enter Tryd.func20, Tryd.ntmps20
  go_wp2
  have i0 := QInv.start w 30
  generalize w.alloc (.cells #[.int .i64 0, .int .i64 0] 30) = W0 at i0 ⊢
  refine wp_loop_rounds 1 ?_
  rw [rounds_succ]
  go_wp2_with fail
  refine (l2Num_any _ _ hs).mono ?_
  generalize hP : l2 _ = P
  rintro e W2 ⟨rfl, rfl⟩
  have i5 := i0.box P 1 30
  have x0 := i5.res.r0
  have x1 := i5.res.r1
  have y0 := i5.res.f0
  have y1 := i5.res.f1
  go_wp2_with fail
  refine bodyPost_ret (v := .tuple #[.agg #[.int .i64 0, .int .i64 0], .bool false]) (by simp [results, Tryd.results20, go_sem, *]) rfl ⟨rfl, ?_⟩
  exact (i5.res.bel.setCell (Nat.le_refl _) _).setCell (Nat.le_refl _) _

set_option maxRecDepth 100000 in
set_option maxHeartbeats 1000000 in
theorem impl_ParseRational_yes (s : ByteArray) (p q : Int) (w : World) (hs : s.size ≤ 1048576) (ht : Tb w) (hev : Ev w) (hm : Mx w) (hN : RdN wide s p q) (h0 : ¬ s = ⟨#[]⟩) (hR : fR p q = s) :
    Calls Tryd.prog 21 #[.string s] w fun e w' => e = .returned (.tuple #[.agg #[.int .i64 p, .int .i64 q], .bool true]) ∧ Below w.heap.size w w' := by
  have z2 : ¬ s.toList = [] := fun e => str_ne h0 (e.trans (by simp [ByteArray.toList_eq]))
  have z0 : (s.toList == []) = false := by simpa using z2
  have z1 : s.toList.isEmpty = false := by simpa using z2
  have K4 : Hid (∀ W, Tb W → Calls Tryd.prog 19 #[.agg #[.int .i64 p, .int .i64 q]] W fun e w' => e = .returned (.string s) ∧ Below W.heap.size W w') := fun W t => by have := impl_FormatRational_any p q W t; rw [hR] at this; exact this
  clear h0 hR
  have HN := Lib.hid hN
  clear hN
  rcases first_c 47 s.data.toList with hno | ⟨la, lr, hl, hno⟩
  · have HC := Lib.hid hno
    obtain ⟨e1, rfl⟩ := HN.out.one hno
    have HP := Lib.hid e1
    clear hno e1
    go_enter Tryd.func21, Tryd.ntmps21
    go_wp2_with fail
    have i0 := QInv.start w 30
    generalize w.alloc (.cells #[.int .i64 0, .int .i64 0] 30) = W0 at i0 ⊢
    refine (cut_not s _ hs (hm.on i0.bel) HC.out).mono ?_
    rintro e W1 ⟨rfl, b1⟩
    have i1 := i0.next b1
    clear i0 b1
    go_wp2_with fail
    refine (wideInt_any _ _ hs (hev.on i1.bel)).mono ?_
    rw [← HP.out]
    rintro e W2 ⟨rfl, b2⟩
    have i2 := i1.next b2
    clear i1 b2
    have i3 := i2.box p 1 30
    go_wp2_with fail
    generalize W2.alloc (.cells #[.int .i64 p, .int .i64 1] 30) = W3 at i3 ⊢
    generalize W2.heap.size = B at i3 ⊢
    have i5 := i3
    clear i3
    have d0 := i5.c0
    have d1 := i5.c1
    go_wp2_with fail
    refine (K4.out _ (ht.on i5.res.bel)).mono ?_
    rintro e W6 ⟨rfl, b6⟩
    have i6 := i5.next b6
    have e0 := i6.c0
    have e1 := i6.c1
    have x0 := i6.res.r0
    have x1 := i6.res.r1
    have y0 := i6.res.f0
    have y1 := i6.res.f1
    clear b6 i5 d0 d1
    go_wp2_with fail
    refine bodyPost_ret (v := .tuple #[.agg #[.int .i64 p, .int .i64 1], .bool true]) (by simp [results, Tryd.results21, go_sem, *]) rfl ⟨rfl, ?_⟩
    exact (i6.res.bel.setCell (Nat.le_refl _) _).setCell (Nat.le_refl _) _
  · obtain ⟨e1, e2⟩ := HN.out.two la lr hl hno
    obtain ⟨a, ha⟩ : ∃ a : ByteArray, a = ⟨la.toArray⟩ := ⟨_, rfl⟩
    obtain ⟨r, hr⟩ : ∃ r : ByteArray, r = ⟨lr.toArray⟩ := ⟨_, rfl⟩
    have ga : a.data.toList = la := by rw [ha]
    have gr : r.data.toList = lr := by rw [hr]
    have hsz : la.length + lr.length + 1 = s.size := by
      have := congrArg List.length hl
      simp at this
      omega
    have hsa : a.size ≤ 1048576 := by have : la.length = a.size := by rw [ha]; rfl
                                      omega
    have hsr : r.size ≤ 1048576 := by have : lr.length = r.size := by rw [hr]; rfl
                                      omega
    rw [← ga, ← gr] at hl
    rw [← ga] at hno e1
    rw [← gr] at e2
    have HC := Lib.hid hno
    have HL := Lib.hid hl
    have HP := Lib.hid e1
    have HQ := Lib.hid e2
    clear hno hl e1 e2 ha hr ga gr hsz
    go_enter Tryd.func21, Tryd.ntmps21
    go_wp2_with fail
    have i0 := QInv.start w 30
    generalize w.alloc (.cells #[.int .i64 0, .int .i64 0] 30) = W0 at i0 ⊢
    refine (cut_yes s a r _ hs (hm.on i0.bel) HL.out HC.out).mono ?_
    rintro e W1 ⟨rfl, b1⟩
    have i1 := i0.next b1
    clear i0 b1
    go_wp2_with fail
    refine (wideInt_any _ _ hsa (hev.on i1.bel)).mono ?_
    rw [← HP.out]
    rintro e W2 ⟨rfl, b2⟩
    have i2 := i1.next b2
    clear i1 b2
    have i3 := i2.box p 1 30
    go_wp2_with fail
    generalize W2.alloc (.cells #[.int .i64 p, .int .i64 1] 30) = W3 at i3 ⊢
    generalize W2.heap.size = B at i3 ⊢
    have d0 := i3.c0
    have d1 := i3.c1
    have d2 := i3.g1
    refine (wideInt_any _ _ hsr (hev.on i3.res.bel)).mono ?_
    rw [← HQ.out]
    rintro e W4 ⟨rfl, b4⟩
    have i4 := i3.next b4
    clear d0 d1 d2 i3 b4
    have d0 := i4.c0
    have d1 := i4.c1
    have d2 := i4.g1
    have i5 := i4.set1 q
    clear i4
    go_wp2_with fail
    clear d0 d1 d2
    generalize W4.setCell ⟨B, 1, none⟩ (.int .i64 q) = W5 at i5 ⊢
    have d0 := i5.c0
    have d1 := i5.c1
    go_wp2_with fail
    refine (K4.out _ (ht.on i5.res.bel)).mono ?_
    rintro e W6 ⟨rfl, b6⟩
    have i6 := i5.next b6
    have e0 := i6.c0
    have e1 := i6.c1
    have x0 := i6.res.r0
    have x1 := i6.res.r1
    have y0 := i6.res.f0
    have y1 := i6.res.f1
    clear b6 i5 d0 d1
    go_wp2_with fail
    refine bodyPost_ret (v := .tuple #[.agg #[.int .i64 p, .int .i64 q], .bool true]) (by simp [results, Tryd.results21, go_sem, *]) rfl ⟨rfl, ?_⟩
    exact (i6.res.bel.setCell (Nat.le_refl _) _).setCell (Nat.le_refl _) _

set_option maxRecDepth 100000 in
set_option maxHeartbeats 1000000 in
theorem impl_ParseRational_no (s : ByteArray) (p q : Int) (w : World) (hs : s.size ≤ 1048576) (ht : Tb w) (hev : Ev w) (hm : Mx w) (hN : RdN wide s p q) (h0 : ¬ s = ⟨#[]⟩) (hR : ¬ fR p q = s) :
    Calls Tryd.prog 21 #[.string s] w fun e w' => e = .returned (.tuple #[.agg #[.int .i64 0, .int .i64 0], .bool false]) ∧ Below w.heap.size w w' := by
  have z2 : ¬ s.toList = [] := fun e => str_ne h0 (e.trans (by simp [ByteArray.toList_eq]))
  have z0 : (s.toList == []) = false := by simpa using z2
  have z1 : s.toList.isEmpty = false := by simpa using z2
  obtain ⟨T, hT⟩ : ∃ T, fR p q = T := ⟨_, rfl⟩
  rw [hT] at hR
  have q0 := str_eq0 hR
  have q1 := str_ne1 hR
  have K4 : Hid (∀ W, Tb W → Calls Tryd.prog 19 #[.agg #[.int .i64 p, .int .i64 q]] W fun e w' => e = .returned (.string T) ∧ Below W.heap.size W w') := fun W t => by have := impl_FormatRational_any p q W t; rw [hT] at this; exact this
  clear hT
  clear h0 hR
  have HN := Lib.hid hN
  clear hN
  rcases first_c 47 s.data.toList with hno | ⟨la, lr, hl, hno⟩
  · have HC := Lib.hid hno
    obtain ⟨e1, rfl⟩ := HN.out.one hno
    have HP := Lib.hid e1
    clear hno e1
    go_enter Tryd.func21, Tryd.ntmps21
    go_wp2_with fail
    have i0 := QInv.start w 30
    generalize w.alloc (.cells #[.int .i64 0, .int .i64 0] 30) = W0 at i0 ⊢
    refine (cut_not s _ hs (hm.on i0.bel) HC.out).mono ?_
    rintro e W1 ⟨rfl, b1⟩
    have i1 := i0.next b1
    clear i0 b1
    go_wp2_with fail
    refine (wideInt_any _ _ hs (hev.on i1.bel)).mono ?_
    rw [← HP.out]
    rintro e W2 ⟨rfl, b2⟩
    have i2 := i1.next b2
    clear i1 b2
    have i3 := i2.box p 1 30
    go_wp2_with fail
    generalize W2.alloc (.cells #[.int .i64 p, .int .i64 1] 30) = W3 at i3 ⊢
    generalize W2.heap.size = B at i3 ⊢
    have i5 := i3
    clear i3
    have d0 := i5.c0
    have d1 := i5.c1
    go_wp2_with fail
    refine (K4.out _ (ht.on i5.res.bel)).mono ?_
    rintro e W6 ⟨rfl, b6⟩
    have i6 := i5.next b6
    have e0 := i6.c0
    have e1 := i6.c1
    have x0 := i6.res.r0
    have x1 := i6.res.r1
    have y0 := i6.res.f0
    have y1 := i6.res.f1
    clear b6 i5 d0 d1
    go_wp2_with fail
    refine bodyPost_ret (v := .tuple #[.agg #[.int .i64 0, .int .i64 0], .bool false]) (by simp [results, Tryd.results21, go_sem, *]) rfl ⟨rfl, ?_⟩
    exact (i6.res.bel.setCell (Nat.le_refl _) _).setCell (Nat.le_refl _) _
  · obtain ⟨e1, e2⟩ := HN.out.two la lr hl hno
    obtain ⟨a, ha⟩ : ∃ a : ByteArray, a = ⟨la.toArray⟩ := ⟨_, rfl⟩
    obtain ⟨r, hr⟩ : ∃ r : ByteArray, r = ⟨lr.toArray⟩ := ⟨_, rfl⟩
    have ga : a.data.toList = la := by rw [ha]
    have gr : r.data.toList = lr := by rw [hr]
    have hsz : la.length + lr.length + 1 = s.size := by
      have := congrArg List.length hl
      simp at this
      omega
    have hsa : a.size ≤ 1048576 := by have : la.length = a.size := by rw [ha]; rfl
                                      omega
    have hsr : r.size ≤ 1048576 := by have : lr.length = r.size := by rw [hr]; rfl
                                      omega
    rw [← ga, ← gr] at hl
    rw [← ga] at hno e1
    rw [← gr] at e2
    have HC := Lib.hid hno
    have HL := Lib.hid hl
    have HP := Lib.hid e1
    have HQ := Lib.hid e2
    clear hno hl e1 e2 ha hr ga gr hsz
    go_enter Tryd.func21, Tryd.ntmps21
    go_wp2_with fail
    have i0 := QInv.start w 30
    generalize w.alloc (.cells #[.int .i64 0, .int .i64 0] 30) = W0 at i0 ⊢
    refine (cut_yes s a r _ hs (hm.on i0.bel) HL.out HC.out).mono ?_
    rintro e W1 ⟨rfl, b1⟩
    have i1 := i0.next b1
    clear i0 b1
    go_wp2_with fail
    refine (wideInt_any _ _ hsa (hev.on i1.bel)).mono ?_
    rw [← HP.out]
    rintro e W2 ⟨rfl, b2⟩
    have i2 := i1.next b2
    clear i1 b2
    have i3 := i2.box p 1 30
    go_wp2_with fail
    generalize W2.alloc (.cells #[.int .i64 p, .int .i64 1] 30) = W3 at i3 ⊢
    generalize W2.heap.size = B at i3 ⊢
    have d0 := i3.c0
    have d1 := i3.c1
    have d2 := i3.g1
    refine (wideInt_any _ _ hsr (hev.on i3.res.bel)).mono ?_
    rw [← HQ.out]
    rintro e W4 ⟨rfl, b4⟩
    have i4 := i3.next b4
    clear d0 d1 d2 i3 b4
    have d0 := i4.c0
    have d1 := i4.c1
    have d2 := i4.g1
    have i5 := i4.set1 q
    clear i4
    go_wp2_with fail
    clear d0 d1 d2
    generalize W4.setCell ⟨B, 1, none⟩ (.int .i64 q) = W5 at i5 ⊢
    have d0 := i5.c0
    have d1 := i5.c1
    go_wp2_with fail
    refine (K4.out _ (ht.on i5.res.bel)).mono ?_
    rintro e W6 ⟨rfl, b6⟩
    have i6 := i5.next b6
    have e0 := i6.c0
    have e1 := i6.c1
    have x0 := i6.res.r0
    have x1 := i6.res.r1
    have y0 := i6.res.f0
    have y1 := i6.res.f1
    clear b6 i5 d0 d1
    go_wp2_with fail
    refine bodyPost_ret (v := .tuple #[.agg #[.int .i64 0, .int .i64 0], .bool false]) (by simp [results, Tryd.results21, go_sem, *]) rfl ⟨rfl, ?_⟩
    exact (i6.res.bel.setCell (Nat.le_refl _) _).setCell (Nat.le_refl _) _

set_option maxRecDepth 100000 in
set_option maxHeartbeats 1000000 in
theorem impl_ParseRational_nil (s : ByteArray) (p q : Int) (w : World) (hs : s.size ≤ 1048576) (_ht : Tb w) (hev : Ev w) (hm : Mx w) (hN : RdN wide s p q) (h0 : s = ⟨#[]⟩) :
    Calls Tryd.prog 21 #[.string s] w fun e w' => e = .returned (.tuple #[.agg #[.int .i64 0, .int .i64 0], .bool false]) ∧ Below w.heap.size w w' := by
  subst h0
  have HN := Lib.hid hN
  clear hN
  rcases first_c 47 (⟨#[]⟩ : ByteArray).data.toList with hno | ⟨la, lr, hl, hno⟩
  · have HC := Lib.hid hno
    obtain ⟨e1, rfl⟩ := HN.out.one hno
    have HP := Lib.hid e1
    clear hno e1
    go_enter Tryd.func21, Tryd.ntmps21
    go_wp2_with fail
    have i0 := QInv.start w 30
    generalize w.alloc (.cells #[.int .i64 0, .int .i64 0] 30) = W0 at i0 ⊢
    refine (cut_not ⟨#[]⟩ _ hs (hm.on i0.bel) HC.out).mono ?_
    rintro e W1 ⟨rfl, b1⟩
    have i1 := i0.next b1
    clear i0 b1
    go_wp2_with fail
    refine (wideInt_any _ _ hs (hev.on i1.bel)).mono ?_
    rw [← HP.out]
    rintro e W2 ⟨rfl, b2⟩
    have i2 := i1.next b2
    clear i1 b2
    have i5 := i2.box p 1 30
    have x0 := i5.res.r0
    have x1 := i5.res.r1
    have y0 := i5.res.f0
    have y1 := i5.res.f1
    go_wp2_with fail
    refine bodyPost_ret (v := .tuple #[.agg #[.int .i64 0, .int .i64 0], .bool false]) (by simp [results, Tryd.results21, go_sem, *]) rfl ⟨rfl, ?_⟩
    exact (i5.res.bel.setCell (Nat.le_refl _) _).setCell (Nat.le_refl _) _
  · exact absurd hl (by simp)

end Go.Proofs.YtmojjbhjjhdpaaaDoor
