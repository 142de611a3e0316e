/- What the law on updates draws: l6Pair, DrawApplyUpdate. What is drawn is not said, but for its bounds. No condition. -/
import Derived.Test.YtccnhocekgikiaaGreatDrU3
namespace Go.Proofs.YtccnhocekgikiaaGreat
open Go.RowKit Go.Deep

/-- A database drawn that is read while the cursor moves; known cells. -/
structure KrD (w : World) (q : Nat) (L : List (Nat × Nat × Value)) (lo : Nat) (A : Option Addr) (n : Nat) (ts : List Tab) (W : World) : Prop where
  kn : Kn w L W
  cur : Cur W q
  rd : RdTw lo W A n ts
  hq : w.heap.size ≤ q ∧ q < lo
  nL : ∀ t ∈ L, t.1 ≠ q
section
variable {w W W' : World} {q lo n : Nat} {L : List (Nat × Nat × Value)} {A : Option Addr} {ts : List Tab}
theorem KrD.draw (h : KrD w q L lo A n ts W) (hc : Cur W' q) (hg : Chg q (q + 1) W W') : KrD w q L lo A n ts W' :=
  ⟨h.kn.chg hg h.hq.1 fun t ht => by have := h.nL t ht; omega, hc, h.rd.draw hg h.hq.2, h.hq, h.nL⟩
theorem KrD.next (h : KrD w q L lo A n ts W) (b : Below W.heap.size W W') : KrD w q L lo A n ts W' := h.draw (h.cur.next b) ((Chg.refl _ _ _).after b)
end
theorem sd_al {W : World} {xb : Nat} {a : Value} {o : Obj} (h : W.cell? ⟨xb, 0, none⟩ = some a ∧ xb < W.heap.size) : (W.alloc o).cell? ⟨xb, 0, none⟩ = some a ∧ xb < (W.alloc o).heap.size :=
  ⟨(((Below.refl W.heap.size W).alloc (Nat.le_refl _) o).cell (p := ⟨xb, 0, none⟩) h.2).trans h.1, by have := h.2; simp; omega⟩
theorem sd_ald {W : World} {xb : Nat} {a : Value} {o : Obj} (h : W.cell? ⟨xb, 0, none⟩ = some a ∧ xb < W.heap.size) : (W.alloc o).drew.cell? ⟨xb, 0, none⟩ = some a ∧ xb < (W.alloc o).drew.heap.size := sd_al h
theorem sd_set3 {W : World} {xb g : Nat} {a x y z : Value} (hn : g ≠ xb) (h : W.cell? ⟨xb, 0, none⟩ = some a ∧ xb < W.heap.size) :
    (((W.setCell ⟨g, 0, none⟩ x).setCell ⟨g, 1, none⟩ y).setCell ⟨g, 2, none⟩ z).cell? ⟨xb, 0, none⟩ = some a ∧ xb < (((W.setCell ⟨g, 0, none⟩ x).setCell ⟨g, 1, none⟩ y).setCell ⟨g, 2, none⟩ z).heap.size := sd_set hn (sd_set hn (sd_set hn h))
/-- A cursor, a database and an update drawn. -/
def DrDU (b : Bool) (w : World) (e : Ending) (w' : World) : Prop :=
  ∃ (q : Nat) (A : Option Addr) (n c : Nat) (ts : List Tab) (nm : ByteArray) (ins : Bool) (A' : Option Addr) (n' c' : Nat) (zs : List Int), e = .returned (.tuple (if b = true then #[.pointer (some ⟨q, 0, none⟩), .agg #[.slice A n c], .agg #[.string nm, .bool ins, .slice A' n' c']] else #[.agg #[.slice A n c], .agg #[.string nm, .bool ins, .slice A' n' c']])) ∧
    OkT ts ∧ (nm.size ≤ 2000 ∧ n' ≤ 2000 ∧ zs.length = n') ∧ RdTw w.heap.size w' A n ts ∧ OwnI w' w.heap.size w'.heap.size (.slice A' n' c') zs ∧ Below w.heap.size w w'
theorem drDU_of {w W : World} {q lo n c n' c' lo1 hi1 rb : Nat} {b : Bool} {L : List (Nat × Nat × Value)} {A A' : Option Addr} {ts : List Tab} {nm : ByteArray} {ins : Bool} {zs : List Int} (h : KrD w q L lo A n ts W) (hs : OkT ts) (ht : nm.size ≤ 2000 ∧ n' ≤ 2000 ∧ zs.length = n') (ho : OwnI W lo1 hi1 (.slice A' n' c') zs)
    (hlo : w.heap.size + 1 < lo) (hlo1 : w.heap.size + 1 < lo1) (hhi : hi1 ≤ W.heap.size) (x y z u : Value) (hrb : rb = w.heap.size + 1) :
    DrDU b w (.returned (.tuple (if b = true then #[.pointer (some ⟨q, 0, none⟩), .agg #[.slice A n c], .agg #[.string nm, .bool ins, .slice A' n' c']] else #[.agg #[.slice A n c], .agg #[.string nm, .bool ins, .slice A' n' c']]))) ((((W.setCell ⟨w.heap.size, 0, none⟩ x).setCell ⟨rb, 0, none⟩ y).setCell ⟨rb, 1, none⟩ z).setCell ⟨rb, 2, none⟩ u) := by
  subst hrb
  have hsz : ((((W.setCell ⟨w.heap.size, 0, none⟩ x).setCell ⟨w.heap.size + 1, 0, none⟩ y).setCell ⟨w.heap.size + 1, 1, none⟩ z).setCell ⟨w.heap.size + 1, 2, none⟩ u).heap.size = W.heap.size := by simp [World.setCell]
  have a1 := ownI_set (b := w.heap.size) (i := 0) (x := x) ho (by omega)
  have a2 := ownI_set (b := w.heap.size + 1) (i := 0) (x := y) a1 (by omega)
  have a3 := ownI_set (b := w.heap.size + 1) (i := 1) (x := z) a2 (by omega)
  have h2 := ownI_set (b := w.heap.size + 1) (i := 2) (x := u) a3 (by omega)
  refine ⟨q, A, n, c, ts, nm, ins, A', n', c', zs, rfl, hs, ht, (((((h.rd.setOff (by omega)).setOff (by omega)).setOff (by omega)).setOff (by omega))).down (by omega), ?_, (((h.kn.bel.setCell (Nat.le_refl _) _).setCell (Nat.le_succ _) _).setCell (Nat.le_succ _) _).setCell (Nat.le_succ _) _⟩
  exact h2.narrow fun g hg => ⟨by have := (h2.lt g hg).1; omega, by have := h2.2 g hg; rw [hsz]; omega⟩

set_option maxRecDepth 100000 in
set_option maxHeartbeats 8000000 in
theorem l6Pair_any (A0 : Option Addr) (n0 c0 : Nat) (w : World) (hr : RdC w w.heap.size A0 n0) (hn0 : n0 ≤ 1048576) :
    Calls Tryz.prog 19 #[.slice A0 n0 c0] w (DrDU true w) := by
  have kn0 : Kn w [(w.heap.size, 0, .slice none 0 0), (w.heap.size + 1, 0, .string { data := #[] }), (w.heap.size + 1, 1, .bool false), (w.heap.size + 1, 2, .slice none 0 0)] ((w.alloc (.cells #[.slice none 0 0] 26)).alloc (.cells #[.string { data := #[] }, .bool false, .slice none 0 0] 29)) := by
    simpa using ((Kn.start w).box1 (.slice none 0 0) 26).box3 (.string { data := #[] }) (.bool false) (.slice none 0 0) 29
  go_enter Tryz.func19, Tryz.ntmps19
  go_upto_region 1 with fail
  have hs0 : w.heap.size + 1 < ((w.alloc (.cells #[.slice none 0 0] 26)).alloc (.cells #[.string { data := #[] }, .bool false, .slice none 0 0] 29)).heap.size := by simp
  generalize ((w.alloc (.cells #[.slice none 0 0] 26)).alloc (.cells #[.string { data := #[] }, .bool false, .slice none 0 0] 29)) = w0 at kn0 hs0 ⊢
  generalize hrb : w.heap.size + 1 = rb at kn0 hs0 ⊢
  have hr0 : RdC w0 w0.heap.size A0 n0 := (hr.keep kn0.bel.block).more kn0.bel.size
  clear hr
  go_wp2_with fail
  refine (l1New_any A0 n0 c0 w0 hr0 hn0).mono ?_
  rintro e w1 ⟨rfl, hc1, b1⟩
  have kn1 := kn0.next b1
  have hq1 := hc1.lt
  generalize w0.heap.size = q at *
  clear b1 kn0 hr0
  go_wp2_with fail
  refine (l5Any_any q w1 hc1).mono ?_
  rintro e w2 ⟨A, n, c, ts, rfl, hsm, hrd, hc2, hg2⟩
  have kn2 := kn1.chg hg2 (by omega) (by simp; omega)
  have hs2 := hg2.size
  have hA := (Below.refl w2.heap.size w2).alloc (Nat.le_refl _) (.cells #[.slice A n c] 26)
  have kn3 : Kn w [(w.heap.size, 0, .slice none 0 0), (rb, 0, .string { data := #[] }), (rb, 1, .bool false), (rb, 2, .slice none 0 0), (w2.heap.size, 0, .slice A n c)] (w2.alloc (.cells #[.slice A n c] 26)) := by simpa using kn2.box1 (.slice A n c) 26
  have kr3 : KrD w q [(w.heap.size, 0, .slice none 0 0), (rb, 0, .string { data := #[] }), (rb, 1, .bool false), (rb, 2, .slice none 0 0), (w2.heap.size, 0, .slice A n c)] w1.heap.size A n ts (w2.alloc (.cells #[.slice A n c] 26)) :=
    ⟨kn3, hc2.al, hrd.below hA, ⟨by omega, hq1⟩, by simp; omega⟩
  have HS := Lib.hid (OkT.of hsm)
  have hlx : w2.heap.size < (w2.alloc (.cells #[.slice A n c] 26)).heap.size := by simp
  clear hc1 kn1 hsm hrd hc2 hg2 kn2 kn3 hA
  go_upto_region 3 with fail
  generalize w2.alloc (.cells #[.slice A n c] 26) = w3 at kr3 hlx ⊢
  generalize w2.heap.size = xb at kr3 hs2 hlx ⊢
  generalize w1.heap.size = lo at kr3 hs2 hq1
  have hS : (w3.cell? ⟨xb, 0, none⟩ = some (.slice A n c) ∧ xb < w3.heap.size) := ⟨(kr3.kn.cell (xb, 0, .slice A n c) (by simp)).2, hlx⟩
  have hSd : (w3.drew.cell? ⟨xb, 0, none⟩ = some (.slice A n c) ∧ xb < w3.drew.heap.size) := hS
  have hrx : w.heap.size ≠ xb := by omega
  have hrx2 : rb ≠ xb := by omega
  have hkB := kr3.next (Below.refl _ w3).drew
  have K : Hid (∀ W : World, KrD w q [(w.heap.size, 0, .slice none 0 0), (rb, 0, .string { data := #[] }), (rb, 1, .bool false), (rb, 2, .slice none 0 0), (xb, 0, .slice A n c)] lo A n ts W → lo ≤ W.heap.size → Calls Tryz.prog 47 #[.pointer (some ⟨q, 0, none⟩), .agg #[.slice A n c]] W fun e w' => ∃ (nm : ByteArray) (ins : Bool) (A' : Option Addr) (n' c' : Nat) (zs : List Int),
      e = .returned (.agg #[.string nm, .bool ins, .slice A' n' c']) ∧ Hid ((nm.size ≤ 2000 ∧ n' ≤ 2000 ∧ zs.length = n') ∧ OwnI w' W.heap.size w'.heap.size (.slice A' n' c') zs ∧ rb < W.heap.size) ∧ Hid (KrD w q [(w.heap.size, 0, .slice none 0 0), (rb, 0, .string { data := #[] }), (rb, 1, .bool false), (rb, 2, .slice none 0 0), (xb, 0, .slice A n c)] lo A n ts w') ∧ (w'.cell? ⟨xb, 0, none⟩ = some (.slice A n c) ∧ xb < w'.heap.size)) := fun W h hl =>
    (l6Up_any q lo A n c ts W h.cur h.rd ⟨h.hq.2, hl⟩ HS.out).mono fun e w' ⟨nm, ins, A', n', c', zs, he, hsm, ho, hc, hg⟩ =>
      have h' := h.draw hc hg
      ⟨nm, ins, A', n', c', zs, he, ⟨hsm, ho, (h.kn.cell (rb, 0, .string { data := #[] }) (by simp)).1⟩, h', (h'.kn.cell (xb, 0, .slice A n c) (by simp)).2, (h'.kn.cell (xb, 0, .slice A n c) (by simp)).1⟩
  have HB := Lib.hid (K.out _ hkB (by show lo ≤ w3.heap.size; omega))
  clear hkB kr3 K
  go_region_held3 (fun W => (W.cell? ⟨xb, 0, none⟩ = some (.slice A n c) ∧ xb < W.heap.size))
    (with_reducible first | assumption | exact sd_set3 hrx2 (by assumption) | exact sd_set hrx (by assumption))
    (first
    | (go_at_call 47; (with_reducible refine HB.out.mono ?_); rintro e w6 ⟨nm, ins, A', n', c', zs, rfl, ht6, hk6, hS6⟩
       obtain ⟨d0, d1, d2, d3, x0, _⟩ := hk6.out.kn.all
       obtain ⟨f0, f1, f2, f3, y0, _⟩ := hk6.out.kn.fall)
    | fail)
  all_goals (
    have HE := Lib.hid (fun x y z u => drDU_of (b := true) (c := c) (ins := ins) hk6.out HS.out ht6.out.1 ht6.out.2.1 (by omega) (by have := ht6.out.2.2; omega) (Nat.le_refl _) x y z u hrb.symm)
    go_wp2_with fail
    exact bodyPost_ret (v := .tuple #[.pointer (some ⟨q, 0, none⟩), .agg #[.slice A n c], .agg #[.string nm, .bool ins, .slice A' n' c']]) (by simp [results, Tryz.results19, go_sem, *]) rfl (HE.out _ _ _ _))
end Go.Proofs.YtccnhocekgikiaaGreat
