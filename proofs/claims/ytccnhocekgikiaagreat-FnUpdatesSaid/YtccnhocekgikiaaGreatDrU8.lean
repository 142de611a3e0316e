/- What the law on updates draws: DrawApplyUpdates. What is drawn is not said, but for its bounds. No condition. -/
import Derived.Test.YtccnhocekgikiaaGreatDrU7
namespace Go.Proofs.YtccnhocekgikiaaGreat
open Go.RowKit Go.Deep

/-- A database and a list of updates drawn. -/
def DrDUs (w : World) (e : Ending) (w' : World) : Prop :=
  ∃ (A : Option Addr) (n c : Nat) (ts : List Tab) (A' : Option Addr) (n' c' : Nat) (us : List Upd), e = .returned (.tuple #[.agg #[.slice A n c], .slice A' n' c']) ∧
    OkT ts ∧ (us.length = n' ∧ n' ≤ 6 ∧ sumU us ≤ 24000) ∧ RdT w' w'.heap.size A n ts ∧ RdU w' w'.heap.size A' n' us ∧ Below w.heap.size w w'
theorem drDUs_of {w W : World} {q lo n c n' c' lo1 hi1 : Nat} {L : List (Nat × Nat × Value)} {A A' : Option Addr} {ts : List Tab} {us : List Upd} (h : KrD w q L lo A n ts W) (hs : OkT ts) (ht : us.length = n' ∧ n' ≤ 6 ∧ sumU us ≤ 24000) (ho : OwnU W lo1 hi1 (.slice A' n' c') us)
    (hlo : w.heap.size < lo) (hlo1 : w.heap.size < lo1) (hhi : hi1 ≤ W.heap.size) (x : Value) :
    DrDUs w (.returned (.tuple #[.agg #[.slice A n c], .slice A' n' c'])) (W.setCell ⟨w.heap.size, 0, none⟩ x) := by
  have hsz : (W.setCell ⟨w.heap.size, 0, none⟩ x).heap.size = W.heap.size := by simp [World.setCell]
  have h2 : OwnU (W.setCell ⟨w.heap.size, 0, none⟩ x) lo1 hi1 (.slice A' n' c') us := ho.setOff (.inl hlo1)
  exact ⟨A, n, c, ts, A', n', c', us, rfl, hs, ht, (h.rd.setOff (by omega)).now, (h2.rd ht.1).more (by omega), h.kn.bel.setCell (Nat.le_refl _) _⟩

set_option maxRecDepth 100000 in
set_option maxHeartbeats 8000000 in
theorem drawApplys_any (A0 : Option Addr) (n0 c0 : Nat) (w : World) (hr : RdC w w.heap.size A0 n0) (hn0 : n0 ≤ 1048576) :
    Calls Tryz.prog 11 #[.slice A0 n0 c0] w (DrDUs w) := by
  have kn0 : Kn w [(w.heap.size, 0, .slice none 0 0)] (w.alloc (.cells #[.slice none 0 0] 26)) := by
    simpa using (Kn.start w).box1 (.slice none 0 0) 26
  go_enter Tryz.func11, Tryz.ntmps11
  go_upto_region 1 with fail
  have hs0 : w.heap.size < (w.alloc (.cells #[.slice none 0 0] 26)).heap.size := by simp
  generalize w.alloc (.cells #[.slice none 0 0] 26) = w0 at kn0 hs0 ⊢
  have hr0 : RdC w0 w0.heap.size A0 n0 := (hr.keep kn0.bel.block).more kn0.bel.size
  clear hr
  go_wp2_with fail
  refine (l1New_any A0 n0 c0 w0 hr0 hn0).mono ?_
  rintro e w1 ⟨rfl, hc1, b1⟩
  have kn1 := kn0.next b1
  have hq1 := hc1.lt
  generalize w0.heap.size = q at *
  clear b1 kn0 hr0
  go_wp2_with fail
  refine (l5Any_any q w1 hc1).mono ?_
  rintro e w2 ⟨A, n, c, ts, rfl, hsm, hrd, hc2, hg2⟩
  have kn2 := kn1.chg hg2 (by omega) (by simp; omega)
  have hs2 := hg2.size
  have hA := (Below.refl w2.heap.size w2).alloc (Nat.le_refl _) (.cells #[.slice A n c] 26)
  have kn3 : Kn w [(w.heap.size, 0, .slice none 0 0), (w2.heap.size, 0, .slice A n c)] (w2.alloc (.cells #[.slice A n c] 26)) := by simpa using kn2.box1 (.slice A n c) 26
  have kr3 : KrD w q [(w.heap.size, 0, .slice none 0 0), (w2.heap.size, 0, .slice A n c)] w1.heap.size A n ts (w2.alloc (.cells #[.slice A n c] 26)) :=
    ⟨kn3, hc2.al, hrd.below hA, ⟨by omega, hq1⟩, by simp; omega⟩
  have HS := Lib.hid (OkT.of hsm)
  have hlx : w2.heap.size < (w2.alloc (.cells #[.slice A n c] 26)).heap.size := by simp
  clear hc1 kn1 hsm hrd hc2 hg2 kn2 kn3 hA
  go_upto_region 3 with fail
  generalize w2.alloc (.cells #[.slice A n c] 26) = w3 at kr3 hlx ⊢
  generalize w2.heap.size = xb at kr3 hs2 hlx ⊢
  generalize w1.heap.size = lo at kr3 hs2 hq1
  have hS : (w3.cell? ⟨xb, 0, none⟩ = some (.slice A n c) ∧ xb < w3.heap.size) := ⟨(kr3.kn.cell (xb, 0, .slice A n c) (by simp)).2, hlx⟩
  have hSd : (w3.drew.cell? ⟨xb, 0, none⟩ = some (.slice A n c) ∧ xb < w3.drew.heap.size) := hS
  have hrx : w.heap.size ≠ xb := by omega
  have hkB := kr3.next (Below.refl _ w3).drew
  have K : Hid (∀ W : World, KrD w q [(w.heap.size, 0, .slice none 0 0), (xb, 0, .slice A n c)] lo A n ts W → lo ≤ W.heap.size → Calls Tryz.prog 35 #[.pointer (some ⟨q, 0, none⟩), .agg #[.slice A n c], .int .i64 6] W fun e w' => ∃ (A' : Option Addr) (n' c' : Nat) (us : List Upd),
      e = .returned (.slice A' n' c') ∧ Hid ((us.length = n' ∧ n' ≤ 6 ∧ sumU us ≤ 24000) ∧ OwnU w' W.heap.size w'.heap.size (.slice A' n' c') us ∧ w.heap.size < W.heap.size) ∧ Hid (KrD w q [(w.heap.size, 0, .slice none 0 0), (xb, 0, .slice A n c)] lo A n ts w') ∧ (w'.cell? ⟨xb, 0, none⟩ = some (.slice A n c) ∧ xb < w'.heap.size)) := fun W h hl =>
    (l6List_any q lo A n c ts W h.cur h.rd ⟨h.hq.2, hl⟩ HS.out).mono fun e w' ⟨A', n', c', us, he, hsm, ho, hc, hg⟩ =>
      have h' := h.draw hc hg
      ⟨A', n', c', us, he, ⟨hsm, ho, (h.kn.cell (w.heap.size, 0, .slice none 0 0) (by simp)).1⟩, h', (h'.kn.cell (xb, 0, .slice A n c) (by simp)).2, (h'.kn.cell (xb, 0, .slice A n c) (by simp)).1⟩
  have HB := Lib.hid (K.out _ hkB (by show lo ≤ w3.heap.size; omega))
  clear hkB kr3 K
  go_region_held3 (fun W => (W.cell? ⟨xb, 0, none⟩ = some (.slice A n c) ∧ xb < W.heap.size))
    (with_reducible first | assumption | exact sd_set hrx (by assumption))
    (first
    | (go_at_call 35; (with_reducible refine HB.out.mono ?_); rintro e w6 ⟨A', n', c', us, rfl, ht6, hk6, hS6⟩
       obtain ⟨d0, x0, _⟩ := hk6.out.kn.all
       obtain ⟨f0, y0, _⟩ := hk6.out.kn.fall)
    | fail)
  all_goals (
    have HE := Lib.hid (fun x => drDUs_of (c := c) hk6.out HS.out ht6.out.1 ht6.out.2.1 (by omega) (by have := ht6.out.2.2; omega) (Nat.le_refl _) x)
    go_wp2_with fail
    exact bodyPost_ret (v := .tuple #[.agg #[.slice A n c], .slice A' n' c']) (by simp [results, Tryz.results11, go_sem, *]) rfl (HE.out _))
end Go.Proofs.YtccnhocekgikiaaGreat
