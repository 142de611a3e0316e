/- append onto a row of the call's own, from whatever source; a row of rows grows by one. Of no program but for the types' numbers. -/
import Derived.Test.YtmojjbhjjhdpaaaDoorTab
import Derived.Test.YtmojjbhjjhdpaaaDoorNew
import Derived.Deep.RegionHeld3
import Derived.Deep.RegionLaw
import Derived.RegionTactic
namespace Go.Proofs.YtmojjbhjjhdpaaaDoor
open Go.RowKit Go.Deep

/-- A source of m one-cell elements: nil, empty or not. -/
def SrcAt (w : World) (A : Option Addr) (m : Nat) (us : List Value) : Prop := us.length = m ∧ (0 < m → ∃ b o, A = some ⟨b, o, none⟩ ∧ ∀ j u, us[j]? = some u → w.cell? ⟨b, o + j, none⟩ = some u)
theorem RdI.src {w : World} {B n : Nat} {A : Option Addr} {zs : List Int} (h : RdI w B A n zs) : SrcAt w A n (zs.map iv) :=
  ⟨by rw [List.length_map]; exact h.1, fun hn => by
    obtain ⟨b, o, hA, _, hc⟩ := h.2 hn
    refine ⟨b, o, hA, fun j u hu => ?_⟩
    rw [List.getElem?_map] at hu
    obtain ⟨x, hx, rfl⟩ := Option.map_eq_some_iff.1 hu
    exact hc j x hx⟩
theorem run_append_src {P : Program} (w : World) (t ty e : TypeId) (i : TypeInfo) (z : Value) (bytes : Nat) (ht : P.underlying t = some (.slice e)) (hi : P.info? e = some i) (hz : i.zero = some z) (hsize : i.size = 1) (hby : i.bytes = bytes) (hzs : z.cells.size = 1)
    (v : Value) (n : Nat) (xs : List Value) (hown : w.ownsRow 0 e 1 v n xs) (A : Option Addr) (m c : Nat) (us : List Value) (hs : SrcAt w A m us) (h1 : ∀ u ∈ us, u.oneCell' = true) (h63 : n + m ≤ maxLen) (hbytes : (n + m) * bytes ≤ 140737488355328) :
    ∃ v' w', (Builtin.append_ #[t, t] ty #[v, .slice A m c]).run P w = .ok v' w' ∧ w'.ownsRow 0 e 1 v' (n + m) (xs ++ us) ∧ w.grownBy w' v.ownBlock ∧ (v'.ownBlock = v.ownBlock ∨ v'.ownBlock = some w.heap.size) := by
  cases A with
  | none =>
    obtain rfl : m = 0 := by
      rcases Nat.eq_zero_or_pos m with h | h
      · exact h
      · obtain ⟨_, _, hA, _⟩ := hs.2 h
        cases hA
    obtain rfl : us = [] := List.eq_nil_of_length_eq_zero hs.1
    refine ⟨v, w, ?_, by simpa using hown, World.grownBy.refl w _, .inl rfl⟩
    rcases hown.2 with ⟨rfl, rfl⟩ | ⟨g, cap, cur, rfl, _, _, hnc, _⟩
    · simp [Builtin.append_, run_underlying ht, sizeOf, typeInfo, hi, Builtin.lenOf, Builtin.firstCells]
    · simp [Builtin.append_, run_underlying ht, sizeOf, typeInfo, hi, Builtin.lenOf, Builtin.firstCells, hnc, storeCells]
  | some ad =>
    have hc : ∀ j u, us[j]? = some u → w.cell? (ad.add j) = some u := fun j u hu => by
      have hj := (List.getElem?_eq_some_iff.1 hu).1
      obtain ⟨b, o, hA, hcell⟩ := hs.2 (by have := hs.1; omega)
      injection hA with hA
      subst hA
      rw [addr_add]
      exact hcell j u hu
    obtain ⟨v', w', hr, h2, h3, _, h5⟩ := run_append_own_at (P := P) w 0 t ty e i z 1 bytes ht hi hz hsize hby hzs (by omega) v n xs hown ad m c us (by rw [hs.1, Nat.mul_one]) hc h1 h63 hbytes (Nat.zero_le _)
    exact ⟨v', w', hr, h2, h3, h5⟩
theorem wp_append_src {P : Program} (w : World) {o : Oper} {a : Act} {K : Act → World → Prop} {Q : Exit → Act → World → Prop} (s x : Operand) (t : TypeId) (ho : o.op = .call { callee := .builtin .append, args := #[s, x], argTypes := #[t, t] })
    (e : TypeId) (i : TypeInfo) (z : Value) (bytes : Nat) (ht : P.underlying t = some (.slice e)) (hi : P.info? e = some i) (hz : i.zero = some z) (hsize : i.size = 1) (hby : i.bytes = bytes) (hzs : z.cells.size = 1)
    (v : Value) (n : Nat) (xs : List Value) (hv : a.eval s = v) (hown : w.ownsRow 0 e 1 v n xs) (A : Option Addr) (m c : Nat) (us : List Value) (hx : a.eval x = .slice A m c) (hs : SrcAt w A m us) (h1 : ∀ u ∈ us, u.oneCell' = true) (h63 : n + m ≤ maxLen) (hbytes : (n + m) * bytes ≤ 140737488355328)
    (h : ∀ v' w', w'.ownsRow 0 e 1 v' (n + m) (xs ++ us) → w.grownBy w' v.ownBlock → (v'.ownBlock = v.ownBlock ∨ v'.ownBlock = some w.heap.size) → K (a.put o.dst v') w') : o.wp P a w K Q := by
  obtain ⟨v', w', hr, h2, h3, h4⟩ := run_append_src (P := P) w t o.type e i z bytes ht hi hz hsize hby hzs v n xs hown A m c us hs h1 h63 hbytes
  unfold Oper.wp execOp
  simp only [ho, resolve, invoke, builtin, Sem.run_bind, Sem.run_pure, Result.andThen_ok, List.map_toArray, List.map_cons, List.map_nil, hv, hx, hr]
  exact h v' w' h2 h3 h4
theorem wpList_append_src {P : Program} (w : World) {ops : Array Oper} {rest : List Oper} {o : Oper} {a : Act} {Q : Exit → Act → World → Prop} (hgd : o.guard = none) (s x : Operand) (t : TypeId) (ho : o.op = .call { callee := .builtin .append, args := #[s, x], argTypes := #[t, t] })
    (e : TypeId) (i : TypeInfo) (z : Value) (bytes : Nat) (ht : P.underlying t = some (.slice e)) (hi : P.info? e = some i) (hz : i.zero = some z) (hsize : i.size = 1) (hby : i.bytes = bytes) (hzs : z.cells.size = 1)
    (v : Value) (n : Nat) (xs : List Value) (hv : a.eval s = v) (hown : w.ownsRow 0 e 1 v n xs) (A : Option Addr) (m c : Nat) (us : List Value) (hx : a.eval x = .slice A m c) (hs : SrcAt w A m us) (h1 : ∀ u ∈ us, u.oneCell' = true) (h63 : n + m ≤ maxLen) (hbytes : (n + m) * bytes ≤ 140737488355328)
    (h : ∀ v' w', w'.ownsRow 0 e 1 v' (n + m) (xs ++ us) → w.grownBy w' v.ownBlock → (v'.ownBlock = v.ownBlock ∨ v'.ownBlock = some w.heap.size) → wpList P ops Q rest (a.put o.dst v') w') : wpList P ops Q (o :: rest) a w :=
  wpList_plain hgd fun _ hK => wp_append_src w s x t ho e i z bytes ht hi hz hsize hby hzs v n xs hv hown A m c us hx hs h1 h63 hbytes fun v' w' h2 h3 h4 => hK _ _ (h v' w' h2 h3 h4)
theorem step_append_src {P : Program} (w : World) {ops : Array Oper} {o : Oper} {a : Act} {K : Act → World → Prop} {Q : Exit → Act → World → Prop} {E : Prop} (hgd : o.guard = none) (s x : Operand) (t : TypeId) (ho : o.op = .call { callee := .builtin .append, args := #[s, x], argTypes := #[t, t] })
    (e : TypeId) (i : TypeInfo) (z : Value) (bytes : Nat) (ht : P.underlying t = some (.slice e)) (hi : P.info? e = some i) (hz : i.zero = some z) (hsize : i.size = 1) (hby : i.bytes = bytes) (hzs : z.cells.size = 1)
    (v : Value) (n : Nat) (xs : List Value) (hv : a.eval s = v) (hown : w.ownsRow 0 e 1 v n xs) (A : Option Addr) (m c : Nat) (us : List Value) (hx : a.eval x = .slice A m c) (hs : SrcAt w A m us) (h1 : ∀ u ∈ us, u.oneCell' = true) (h63 : n + m ≤ maxLen) (hbytes : (n + m) * bytes ≤ 140737488355328)
    (h : ∀ v' w', w'.ownsRow 0 e 1 v' (n + m) (xs ++ us) → w.grownBy w' v.ownBlock → (v'.ownBlock = v.ownBlock ∨ v'.ownBlock = some w.heap.size) → K (a.put o.dst v') w') :
    if Region.wanted o (yielded ops a.tmps) = true then Oper.wp P o a w K Q else E := by
  have hw : Region.wanted o (yielded ops a.tmps) = true := by simp [Region.wanted, hgd]
  rw [if_pos hw]
  exact wp_append_src w s x t ho e i z bytes ht hi hz hsize hby hzs v n xs hv hown A m c us hx hs h1 h63 hbytes h

/-- What was appended to a new, empty slice. -/
theorem own_of_copy {w w' : World} {zs : List Int} {v : Value} (h : w'.ownsRow 0 3 1 v (0 + zs.length) (([] : List Value) ++ zs.map iv)) (hb : ∀ g, v.ownBlock = some g → w.heap.size ≤ g) : ∃ A c, v = .slice A zs.length c ∧ OwnI w' w.heap.size w'.heap.size (.slice A zs.length c) zs := by
  rw [Nat.zero_add, List.nil_append] at h
  obtain ⟨A, c, rfl⟩ := own_form h
  exact ⟨A, c, rfl, ownsRow_base h hb, fun g hg => (h.lt g hg).2⟩

/-- New rows, behind a name. -/
def RowsNew (R : List (List Int)) (w : World) (e : Ending) (w' : World) : Prop :=
  ∃ (A : Option Addr) (c : Nat), e = .returned (.slice A R.length c) ∧ OwnR w' w.heap.size w'.heap.size (.slice A R.length c) R ∧ Below w.heap.size w w'
theorem RowsNew.of {R : List (List Int)} {w w' : World} {v : Value} (h : OwnR w' w.heap.size w'.heap.size v R) (hb : Below w.heap.size w w') : RowsNew R w (.returned v) w' := by
  obtain ⟨A, c, rfl⟩ := h.form
  exact ⟨A, c, rfl, h, hb⟩
/-- Owned rows, laid open for one row more. -/
theorem OwnR.open_ {w : World} {lo hi : Nat} {v : Value} {rs : List (List Int)} (h : OwnR w lo hi v rs) : ∃ xs : List Value, w.ownsRow 0 92 1 v rs.length xs ∧ (∀ g, v.ownBlock = some g → lo ≤ g ∧ g < hi ∧ g < w.heap.size) ∧
    ∀ (w1 w' : World) (A1 : Option Addr) (r : List Int) (c1 lo1 hi1 g cap : Nat), Below w.heap.size w w1 → OwnI w1 lo1 hi1 (.slice A1 r.length c1) r → hi ≤ lo1 → lo ≤ lo1 → hi1 ≤ w1.heap.size → lo ≤ w1.heap.size →
      w'.ownsRow 0 92 1 (.slice (some ⟨g, 0, none⟩) (rs.length + 1) cap) (rs.length + 1) (xs ++ [.slice A1 r.length c1]) → w1.grownBy w' v.ownBlock → (v.ownBlock = some g ∨ g = w1.heap.size) →
      OwnR w' lo w'.heap.size (.slice (some ⟨g, 0, none⟩) (rs.length + 1) cap) (rs ++ [r]) := by
  obtain ⟨F, h1, h2⟩ := h
  obtain ⟨xs, k1, k2, k3⟩ := h1.open_ eRow_ok
  refine ⟨xs, k1, fun g hg => ⟨(h2 g (k2 g hg)).1, (h2 g (k2 g hg)).2, h1.bound g (k2 g hg)⟩, fun w1 w' A1 r c1 lo1 hi1 g cap hb ho hlo hlo' hhi hl hown hgrow hat => ?_⟩
  have := k3 w1 w' (fun k => lo1 ≤ k ∧ k < hi1) [.slice A1 r.length c1] r g cap ⟨hb.os, hb.tape, hb.output, hb.size, fun i hi _ => hb.block i hi⟩ (ERow.of ho hhi) rfl (fun k hk hk' => by have := h2 k hk; omega) hown hgrow (by rcases hat with h | h; exact .inl h; exact .inr (by omega))
  refine ⟨_, this, fun k hk => ⟨?_, this.bound k hk⟩⟩
  rcases hk with hk | hk | rfl
  · exact (h2 k hk).1
  · omega
  · rcases hat with h | h
    · exact (h2 k (k2 k h)).1
    · omega
theorem OwnR.empty (w : World) {lo : Nat} (h : lo ≤ w.heap.size) : OwnR (w.alloc (.cells #[] 92)) lo (w.alloc (.cells #[] 92)).heap.size (.slice (some ⟨w.heap.size, 0, none⟩) 0 0) [] :=
  ⟨_, OwnSl.empty w, fun k hk => by subst hk; simp; exact h⟩
end Go.Proofs.YtmojjbhjjhdpaaaDoor
