/- What the law on classes draws: two lists. No condition. -/
import Derived.Test.YtccnhocekgikiaaDrLoc
import Derived.Deep.RegionHeld3
import Derived.Deep.RegionLaw
import Derived.RegionTactic
namespace Go.Proofs.Ytccnhocekgikiaa
open Go.RowKit Go.Deep

theorem ownsRow_base {w : World} {base base' : Nat} {e : TypeId} {size : Nat} {v : Value} {n : Nat} {xs : List Value} (h : w.ownsRow base e size v n xs) (hb : ∀ g, v.ownBlock = some g → base' ≤ g) : w.ownsRow base' e size v n xs := by
  refine ⟨h.1, ?_⟩
  rcases h.2 with hn | ⟨g, cap, cur, rfl, hlo, rest⟩
  · exact .inl hn
  · exact .inr ⟨g, cap, cur, rfl, hb g rfl, rest⟩
def SrcAt (w : World) (A : Option Addr) (m : Nat) (us : List Value) : Prop := us.length = m ∧ (0 < m → ∃ b o, A = some ⟨b, o, none⟩ ∧ ∀ j u, us[j]? = some u → w.cell? ⟨b, o + j, none⟩ = some u)
theorem RdI.src {w : World} {B n : Nat} {A : Option Addr} {zs : List Int} (h : RdI w B A n zs) : SrcAt w A n (zs.map iv) :=
  ⟨by rw [List.length_map]; exact h.1, fun hn => by
    obtain ⟨b, o, hA, _, hc⟩ := h.2 hn
    refine ⟨b, o, hA, fun j u hu => ?_⟩
    rw [List.getElem?_map] at hu
    obtain ⟨x, hx, rfl⟩ := Option.map_eq_some_iff.1 hu
    exact hc j x hx⟩
theorem run_append_src {P : Program} (w : World) (t ty e : TypeId) (i : TypeInfo) (z : Value) (bytes : Nat) (ht : P.underlying t = some (.slice e)) (hi : P.info? e = some i) (hz : i.zero = some z) (hsize : i.size = 1) (hby : i.bytes = bytes) (hzs : z.cells.size = 1)
    (v : Value) (n : Nat) (xs : List Value) (hown : w.ownsRow 0 e 1 v n xs) (A : Option Addr) (m c : Nat) (us : List Value) (hs : SrcAt w A m us) (h1 : ∀ u ∈ us, u.oneCell' = true) (h63 : n + m ≤ maxLen) (hbytes : (n + m) * bytes ≤ 140737488355328) :
    ∃ v' w', (Builtin.append_ #[t, t] ty #[v, .slice A m c]).run P w = .ok v' w' ∧ w'.ownsRow 0 e 1 v' (n + m) (xs ++ us) ∧ w.grownBy w' v.ownBlock ∧ (v'.ownBlock = v.ownBlock ∨ v'.ownBlock = some w.heap.size) := by
  cases A with
  | none =>
    obtain rfl : m = 0 := by
      rcases Nat.eq_zero_or_pos m with h | h
      · exact h
      · obtain ⟨_, _, hA, _⟩ := hs.2 h
        cases hA
    obtain rfl : us = [] := List.eq_nil_of_length_eq_zero hs.1
    refine ⟨v, w, ?_, by simpa using hown, World.grownBy.refl w _, .inl rfl⟩
    rcases hown.2 with ⟨rfl, rfl⟩ | ⟨g, cap, cur, rfl, _, _, hnc, _⟩
    · simp [Builtin.append_, run_underlying ht, sizeOf, typeInfo, hi, Builtin.lenOf, Builtin.firstCells]
    · simp [Builtin.append_, run_underlying ht, sizeOf, typeInfo, hi, Builtin.lenOf, Builtin.firstCells, hnc, storeCells]
  | some ad =>
    have hc : ∀ j u, us[j]? = some u → w.cell? (ad.add j) = some u := fun j u hu => by
      have hj := (List.getElem?_eq_some_iff.1 hu).1
      obtain ⟨b, o, hA, hcell⟩ := hs.2 (by have := hs.1; omega)
      injection hA with hA
      subst hA
      rw [addr_add]
      exact hcell j u hu
    obtain ⟨v', w', hr, h2, h3, _, h5⟩ := run_append_own_at (P := P) w 0 t ty e i z 1 bytes ht hi hz hsize hby hzs (by omega) v n xs hown ad m c us (by rw [hs.1, Nat.mul_one]) hc h1 h63 hbytes (Nat.zero_le _)
    exact ⟨v', w', hr, h2, h3, h5⟩
theorem wp_append_src {P : Program} (w : World) {o : Oper} {a : Act} {K : Act → World → Prop} {Q : Exit → Act → World → Prop} (s x : Operand) (t : TypeId) (ho : o.op = .call { callee := .builtin .append, args := #[s, x], argTypes := #[t, t] })
    (e : TypeId) (i : TypeInfo) (z : Value) (bytes : Nat) (ht : P.underlying t = some (.slice e)) (hi : P.info? e = some i) (hz : i.zero = some z) (hsize : i.size = 1) (hby : i.bytes = bytes) (hzs : z.cells.size = 1)
    (v : Value) (n : Nat) (xs : List Value) (hv : a.eval s = v) (hown : w.ownsRow 0 e 1 v n xs) (A : Option Addr) (m c : Nat) (us : List Value) (hx : a.eval x = .slice A m c) (hs : SrcAt w A m us) (h1 : ∀ u ∈ us, u.oneCell' = true) (h63 : n + m ≤ maxLen) (hbytes : (n + m) * bytes ≤ 140737488355328)
    (h : ∀ v' w', w'.ownsRow 0 e 1 v' (n + m) (xs ++ us) → w.grownBy w' v.ownBlock → (v'.ownBlock = v.ownBlock ∨ v'.ownBlock = some w.heap.size) → K (a.put o.dst v') w') : o.wp P a w K Q := by
  obtain ⟨v', w', hr, h2, h3, h4⟩ := run_append_src (P := P) w t o.type e i z bytes ht hi hz hsize hby hzs v n xs hown A m c us hs h1 h63 hbytes
  unfold Oper.wp execOp
  simp only [ho, resolve, invoke, builtin, Sem.run_bind, Sem.run_pure, Result.andThen_ok, List.map_toArray, List.map_cons, List.map_nil, hv, hx, hr]
  exact h v' w' h2 h3 h4
theorem wpList_append_src {P : Program} (w : World) {ops : Array Oper} {rest : List Oper} {o : Oper} {a : Act} {Q : Exit → Act → World → Prop} (hgd : o.guard = none) (s x : Operand) (t : TypeId) (ho : o.op = .call { callee := .builtin .append, args := #[s, x], argTypes := #[t, t] })
    (e : TypeId) (i : TypeInfo) (z : Value) (bytes : Nat) (ht : P.underlying t = some (.slice e)) (hi : P.info? e = some i) (hz : i.zero = some z) (hsize : i.size = 1) (hby : i.bytes = bytes) (hzs : z.cells.size = 1)
    (v : Value) (n : Nat) (xs : List Value) (hv : a.eval s = v) (hown : w.ownsRow 0 e 1 v n xs) (A : Option Addr) (m c : Nat) (us : List Value) (hx : a.eval x = .slice A m c) (hs : SrcAt w A m us) (h1 : ∀ u ∈ us, u.oneCell' = true) (h63 : n + m ≤ maxLen) (hbytes : (n + m) * bytes ≤ 140737488355328)
    (h : ∀ v' w', w'.ownsRow 0 e 1 v' (n + m) (xs ++ us) → w.grownBy w' v.ownBlock → (v'.ownBlock = v.ownBlock ∨ v'.ownBlock = some w.heap.size) → wpList P ops Q rest (a.put o.dst v') w') : wpList P ops Q (o :: rest) a w :=
  wpList_plain hgd fun _ hK => wp_append_src w s x t ho e i z bytes ht hi hz hsize hby hzs v n xs hv hown A m c us hx hs h1 h63 hbytes fun v' w' h2 h3 h4 => hK _ _ (h v' w' h2 h3 h4)
theorem step_append_src {P : Program} (w : World) {ops : Array Oper} {o : Oper} {a : Act} {K : Act → World → Prop} {Q : Exit → Act → World → Prop} {E : Prop} (hgd : o.guard = none) (s x : Operand) (t : TypeId) (ho : o.op = .call { callee := .builtin .append, args := #[s, x], argTypes := #[t, t] })
    (e : TypeId) (i : TypeInfo) (z : Value) (bytes : Nat) (ht : P.underlying t = some (.slice e)) (hi : P.info? e = some i) (hz : i.zero = some z) (hsize : i.size = 1) (hby : i.bytes = bytes) (hzs : z.cells.size = 1)
    (v : Value) (n : Nat) (xs : List Value) (hv : a.eval s = v) (hown : w.ownsRow 0 e 1 v n xs) (A : Option Addr) (m c : Nat) (us : List Value) (hx : a.eval x = .slice A m c) (hs : SrcAt w A m us) (h1 : ∀ u ∈ us, u.oneCell' = true) (h63 : n + m ≤ maxLen) (hbytes : (n + m) * bytes ≤ 140737488355328)
    (h : ∀ v' w', w'.ownsRow 0 e 1 v' (n + m) (xs ++ us) → w.grownBy w' v.ownBlock → (v'.ownBlock = v.ownBlock ∨ v'.ownBlock = some w.heap.size) → K (a.put o.dst v') w') :
    if Region.wanted o (yielded ops a.tmps) = true then Oper.wp P o a w K Q else E := by
  have hw : Region.wanted o (yielded ops a.tmps) = true := by simp [Region.wanted, hgd]
  rw [if_pos hw]
  exact wp_append_src w s x t ho e i z bytes ht hi hz hsize hby hzs v n xs hv hown A m c us hx hs h1 h63 hbytes h

/-- What was appended to a new, empty slice. -/
theorem own_of_copy {w w' : World} {zs : List Int} {v : Value} (h : w'.ownsRow 0 3 1 v (0 + zs.length) (([] : List Value) ++ zs.map iv)) (hb : ∀ g, v.ownBlock = some g → w.heap.size ≤ g) : ∃ A c, v = .slice A zs.length c ∧ OwnI w' w.heap.size w'.heap.size (.slice A zs.length c) zs := by
  rw [Nat.zero_add, List.nil_append] at h
  obtain ⟨A, c, rfl⟩ := own_form h
  exact ⟨A, c, rfl, ownsRow_base h hb, fun g hg => (h.lt g hg).2⟩

/-- Two lists drawn. -/
def DrLL (w : World) (e : Ending) (w' : World) : Prop :=
  ∃ (A A' : Option Addr) (n c n' c' : Nat) (zs zs' : List Int), e = .returned (.tuple #[.slice A n c, .slice A' n' c']) ∧ (n ≤ 18 ∧ n' ≤ 18) ∧ RdI w' w'.heap.size A n zs ∧ RdI w' w'.heap.size A' n' zs' ∧ Below w.heap.size w w'

set_option maxRecDepth 100000 in
set_option maxHeartbeats 2000000 in
theorem drawDominates_any (A : Option Addr) (n c : Nat) (w : World) (hr : RdC w w.heap.size A n) (hn : n ≤ 1048576) :
    Calls Try.prog 11 #[.slice A n c] w (DrLL w) := by
  obtain ⟨i0, hi, hz0, hz1, hz2⟩ := info_parts info_int
  go_enter Try.func11, Try.ntmps11
  go_wp2_with fail
  refine (l1New_any A n c w hr hn).mono ?_
  rintro e w0 ⟨rfl, hc0, b0⟩
  have hq0 := hc0.lt
  go_wp2_with fail
  have hB_n := (Below.refl w0.heap.size w0).alloc (Nat.le_refl _) (.cells ([0, 1, 4, 8].map (Value.int .i64)).toArray 3)
  refine (l1PickInt_any _ w0.heap.size 0 4 4 (fun z => 0 ≤ z ∧ z ≤ 8) _ (hc0.next hB_n) (by simp) (by omega) (by omega) (by omega) (fun k hk => ⟨_, row_ints w0 [0, 1, 4, 8] _ k hk, all_p (fun z => 0 ≤ z ∧ z ≤ 8) [0, 1, 4, 8] (by decide +kernel) _ (List.getElem_mem _)⟩)).mono ?_
  rintro e w1 ⟨N, rfl, ⟨hN0, hN8⟩, hc1, hg1⟩
  obtain ⟨N, rfl⟩ := Int.eq_ofNat_of_zero_le hN0
  have hN : N ≤ 8 := by omega
  have bel1 : Below w.heap.size w w1 := b0.trans ((((Chg.refl _ _ _).after hB_n).trans hg1).below (Nat.le_refl _) b0.size)
  have hs1 := bel1.size
  have hq1 := hc1.lt
  generalize hqe : w.heap.size = q at *
  clear hB_n hg1 hc0 hN0 hN8 b0 hr
  go_wp2_with fail
  refine (l3Loc_any q N w1 hc1 (by omega)).mono ?_
  rintro e w2 ⟨Aa, ca, za, rfl, hla, hsa, hIa, hc2, hg2⟩
  have bel2 := bel1.trans (hg2.below (Nat.le_refl _) hs1)
  have hs2 := hg2.size
  clear bel1 hg2 hc1
  go_wp2_with fail
  refine (l1Below_any q 4 w2 hc2 (by omega)).mono ?_
  rintro e w3 ⟨x, rfl, ⟨hx0, hx1⟩, hc3, hg3⟩
  have hIa3 := (hIa.chg hg3 (.inr (by omega))).wide hg3.size
  have bel3 := bel2.trans (hg3.below (Nat.le_refl _) (by omega))
  have hs3 := hg3.size
  clear bel2 hg3 hc2 hIa
  by_cases h0 : x = 0
  · subst h0
    go_wp2_with fail
    refine (l3Loc_any q N w3 hc3 (by omega)).mono ?_
    rintro e w4 ⟨Ab, cb, zb, rfl, hlb, hsb, hIb, hc4, hg4⟩
    have hIa4 := (hIa3.chg hg4 (.inr (by omega))).wide hg4.size
    have bel4 := bel3.trans (hg4.below (Nat.le_refl _) (by omega))
    go_wp2_with fail
    go_ret2
    exact ⟨Aa, Ab, N, ca, N, cb, za, zb, rfl, ⟨by omega, by omega⟩, hIa4.rd hla, hIb.rd hlb, by rw [hqe]; exact bel4⟩
  · by_cases h1 : x = 1
    · subst h1
      go_wp2_with fail
      refine (l3Loc_any q (N + 1) w3 hc3 (by omega)).mono ?_
      rintro e w4 ⟨Ab, cb, zb, rfl, hlb, hsb, hIb, hc4, hg4⟩
      have hIa4 := (hIa3.chg hg4 (.inr (by omega))).wide hg4.size
      have bel4 := bel3.trans (hg4.below (Nat.le_refl _) (by omega))
      go_wp2_with fail
      go_ret2
      exact ⟨Aa, Ab, N, ca, N + 1, cb, za, zb, rfl, ⟨by omega, by omega⟩, hIa4.rd hla, hIb.rd hlb, by rw [hqe]; exact bel4⟩
    · have hra := hIa3.rd hla
      have hsrc := (hra.below ((Below.refl _ w3).alloc (Nat.le_refl _) (.cells #[] 3))).src
      have h0' : (w3.alloc (.cells #[] 3)).ownsRow 0 3 1 (.slice (some ⟨w3.heap.size, 0, none⟩) 0 0) 0 [] := own_empty w3 0 (Nat.zero_le _)
      have HB := Lib.hid (Below.refl w3.heap.size w3)
      go_wp2_with (at_builtin; refine wpList_append_src _ rfl _ _ _ rfl 3 i0 _ 8 Try.underlying26 hi hz0 hz1 hz2 rfl (.slice (some ⟨w3.heap.size, 0, none⟩) 0 0) 0 [] rfl h0' Aa N ca (za.map iv) rfl hsrc (by simp [iv, Value.oneCell']) (by unfold maxLen; omega) (by omega) ?_; intro v w4 hown4 hgrow hat)
      have hge : ∀ g, v.ownBlock = some g → w3.heap.size ≤ g := fun g hg => by
        rcases hat with h | h
        · rw [h] at hg
          simp [Value.ownBlock] at hg
          omega
        · rw [h] at hg
          simp at hg
          omega
      rw [← hla] at hown4
      obtain ⟨A1, c1, rfl, ho⟩ := own_of_copy (w := w3) hown4 hge
      have hbel := (HB.out.alloc (Nat.le_refl _) (.cells #[] 3)).grown hgrow (by simp) (fun j hj => by simp [Value.ownBlock] at hj; omega)
      have hc4 := hc3.next hbel
      have hg4 : Chg q (q + 1) w3 w4 := (Chg.refl _ _ _).after hbel
      rw [hla] at ho
      have hq3 := hc3.lt
      clear hat hge hown4 hgrow hbel h0' hsrc hra HB hc3
      go_loopw [8] (fun i wr => ∃ (k : Nat) (p : List Int), k ≤ N ∧ i = .int .i64 k ∧ Hid (p.length = N ∧ Sml p) ∧ Hid (OwnI wr w3.heap.size wr.heap.size (.slice A1 N c1) p) ∧ Cur wr q ∧ Chg q (q + 1) w3 wr) (fun i _ => N - (intOf i).toNat)
      case atStart => exact ⟨0, za, by omega, rfl, ⟨hla, hsa⟩, ho, hc4, hg4⟩
      case round =>
        obtain ⟨k, p, hk, rfl, hp, hown, hcr, hgr⟩ := hrel
        clear ho hc4 hg4
        have hgs := hgr.size
        by_cases hlt : k < N
        · have g1 : (0 : Int) ≤ (k : Int) := by omega
          have g2 : (k : Int) < (N : Int) := by omega
          have g3 : (k : Int).toNat = k := by omega
          obtain ⟨g, y, rfl, k0, f0, _, _⟩ := hown.out.set_ hp.out.1 hlt 0
          have hgl := hown.out.lt g rfl
          have hy : -1 ≤ y ∧ y ≤ 1000 := by
            have h1 := (hown.out.rd hp.out.1).2 (by omega)
            obtain ⟨b', o', e1, _, hcl⟩ := h1
            injection e1 with e1
            injection e1 with e1 e2 _
            subst e1 e2
            have hk2 : k < p.length := by have := hp.out.1; omega
            have := hcl k p[k] (List.getElem?_eq_getElem hk2)
            rw [Nat.zero_add, k0] at this
            injection this with this
            injection this with _ this
            rw [this]
            exact hp.out.2 _ (List.getElem_mem hk2)
          have K : Hid (∀ W, CurAt q wr W → Calls Try.prog 23 #[.pointer (some ⟨q, 0, none⟩), .int .i64 2] W fun e w' => ∃ x : Int, e = .returned (.int .i64 x) ∧ (0 ≤ x ∧ x ≤ 1) ∧ CurAt q wr w') := fun W h =>
            (l1Below_any q 2 W h.1 (by omega)).mono fun e w' ⟨x, he, ⟨hx0, hx1⟩, hc, hg⟩ => ⟨x, he, ⟨hx0, by omega⟩, hc, h.2.trans hg⟩
          have KP : Hid (∀ W, CurAt q wr W → W.cell? ⟨g, k, none⟩ = some (.int .i64 y) ∧ W.frozen? ⟨g, k, none⟩ = false) := fun W h => by
            have e := h.2.block g hgl.2.2 (.inr (by omega))
            exact ⟨(World.cell?_of_block e).trans k0, (World.frozen?_of_block e).trans f0⟩
          have hz0 : CurAt q wr wr.drew := ⟨hcr.drew, Chg.drewN 1⟩
          have HR := Lib.hid hgr
          have hgl' := Lib.hid hgl
          clear hgl hgr hcr
          go_wp2_with fail
          go_region_law (first
            | (go_simp; go_at_call 23; refine (K.out _ hz0).mono ?_; rintro e w5 ⟨x', rfl, hx', hcur⟩
               obtain ⟨y0, y1⟩ := KP.out _ hcur
               dsimp only)
            | fail)
          all_goals (
            have hw : IntKind.i64.wrap (y - x') = y - x' := IntWalk.i64_in _ (by omega)
            rw [hw]
            obtain ⟨X, hX⟩ : ∃ X, (if 0 < y - x' then y - x' else 0) = X := ⟨_, rfl⟩
            have hX0 : -1 ≤ X ∧ X ≤ 1000 := by rw [← hX]; split <;> omega
            rw [hX]
            have hI5 := (hown.out.chg hcur.2 (.inr (by omega))).wide hcur.2.size
            obtain ⟨g', y', e1, _, _, hI6, _⟩ := hI5.set_ hp.out.1 hlt X
            injection e1 with e1
            injection e1 with e1 _ _
            subst e1
            have hg6 := (HR.out.trans hcur.2).setOff (lo := g) (i := k) (x := .int .i64 X) (by have := hgl'.out.1; omega)
            have hc6 := hcur.1.setOff (lo := g) (i := k) (x := .int .i64 X) (by have := hgl'.out.1; omega)
            clear hX hw y0 y1 hcur hI5
            go_wp2_with fail
            have hpp : Hid ((p.set k X).length = N ∧ Sml (p.set k X)) := ⟨by rw [List.length_set]; exact hp.out.1, hp.out.2.set hX0⟩
            refine ⟨⟨k + 1, by omega, by go_num, p.set k X, ?_⟩, ?_⟩
            · exact ⟨hpp, hI6⟩
            simp [intOf]
            omega)
        · obtain rfl : k = N := by omega
          have g2 : ¬ (k : Int) < (k : Int) := by omega
          have hIa4 := (hIa3.chg hgr (.inr (by omega))).wide hgr.size
          have bel4 := bel3.trans (hgr.below (Nat.le_refl _) (by omega))
          go_wp2_with fail
          go_ret2
          exact ⟨Aa, A1, k, ca, k, c1, za, p, rfl, ⟨by omega, by omega⟩, hIa4.rd hla, hown.out.rd hp.out.1, by rw [hqe]; exact bel4⟩
end Go.Proofs.Ytccnhocekgikiaa
