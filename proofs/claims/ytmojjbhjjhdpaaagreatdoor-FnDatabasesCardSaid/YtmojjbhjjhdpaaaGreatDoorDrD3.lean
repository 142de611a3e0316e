/- What the law on databases draws: DrawSetTable. What is drawn is not said, but for its bounds. No condition. -/
import Derived.Test.YtmojjbhjjhdpaaaGreatDoorDrD2
namespace Go.Proofs.YtmojjbhjjhdpaaaGreatDoor
open Go.RowKit Go.Deep

/-- A database drawn that is read while the cursor moves; known cells. -/
structure KrD (w : World) (q : Nat) (L : List (Nat × Nat × Value)) (lo : Nat) (A : Option Addr) (n : Nat) (ts : List Tab) (W : World) : Prop where
  kn : Kn w L W
  cur : Cur W q
  rd : RdTw lo W A n ts
  hq : w.heap.size ≤ q ∧ q < lo
  nL : ∀ t ∈ L, t.1 ≠ q
section
variable {w W W' : World} {q lo n : Nat} {L : List (Nat × Nat × Value)} {A : Option Addr} {ts : List Tab}
theorem KrD.draw (h : KrD w q L lo A n ts W) (hc : Cur W' q) (hg : Chg q (q + 1) W W') : KrD w q L lo A n ts W' :=
  ⟨h.kn.chg hg h.hq.1 fun t ht => by have := h.nL t ht; omega, hc, h.rd.draw hg h.hq.2, h.hq, h.nL⟩
theorem KrD.next (h : KrD w q L lo A n ts W) (b : Below W.heap.size W W') : KrD w q L lo A n ts W' := h.draw (h.cur.next b) ((Chg.refl _ _ _).after b)
end
theorem sd_al {W : World} {xb : Nat} {a : Value} {o : Obj} (h : W.cell? ⟨xb, 0, none⟩ = some a ∧ xb < W.heap.size) : (W.alloc o).cell? ⟨xb, 0, none⟩ = some a ∧ xb < (W.alloc o).heap.size :=
  ⟨(((Below.refl W.heap.size W).alloc (Nat.le_refl _) o).cell (p := ⟨xb, 0, none⟩) h.2).trans h.1, by have := h.2; simp; omega⟩
theorem sd_ald {W : World} {xb : Nat} {a : Value} {o : Obj} (h : W.cell? ⟨xb, 0, none⟩ = some a ∧ xb < W.heap.size) : (W.alloc o).drew.cell? ⟨xb, 0, none⟩ = some a ∧ xb < (W.alloc o).drew.heap.size := sd_al h
theorem sd_set3 {W : World} {xb g : Nat} {a x y z : Value} (hn : g ≠ xb) (h : W.cell? ⟨xb, 0, none⟩ = some a ∧ xb < W.heap.size) :
    (((W.setCell ⟨g, 0, none⟩ x).setCell ⟨g, 1, none⟩ y).setCell ⟨g, 2, none⟩ z).cell? ⟨xb, 0, none⟩ = some a ∧ xb < (((W.setCell ⟨g, 0, none⟩ x).setCell ⟨g, 1, none⟩ y).setCell ⟨g, 2, none⟩ z).heap.size := sd_set hn (sd_set hn (sd_set hn h))
/-- A database and a table drawn. -/
def DrDT (w : World) (e : Ending) (w' : World) : Prop :=
  ∃ (A : Option Addr) (n c : Nat) (ts : List Tab) (nm : ByteArray) (ar : Int) (A' : Option Addr) (c' : Nat) (rs : List (List Int)), e = .returned (.tuple #[.agg #[.slice A n c], .agg #[.string nm, .int .i64 ar, .slice A' rs.length c']]) ∧
    SmlD ts ∧ SmlT 9 nm ar rs ∧ RdT w' w'.heap.size A n ts ∧ RdR w' w'.heap.size A' rs.length rs ∧ Below w.heap.size w w'
theorem drDT_of {w W : World} {q lo n c c' lo1 hi1 rb : Nat} {L : List (Nat × Nat × Value)} {A A' : Option Addr} {ts : List Tab} {nm : ByteArray} {ar : Int} {rs : List (List Int)} (h : KrD w q L lo A n ts W) (hs : SmlD ts) (ht : SmlT 9 nm ar rs) (ho : OwnR W lo1 hi1 (.slice A' rs.length c') rs)
    (hlo : w.heap.size + 1 < lo) (hlo1 : w.heap.size + 1 < lo1) (hhi : hi1 ≤ W.heap.size) (x y z u : Value) (hrb : rb = w.heap.size + 1) :
    DrDT w (.returned (.tuple #[.agg #[.slice A n c], .agg #[.string nm, .int .i64 ar, .slice A' rs.length c']])) ((((W.setCell ⟨w.heap.size, 0, none⟩ x).setCell ⟨rb, 0, none⟩ y).setCell ⟨rb, 1, none⟩ z).setCell ⟨rb, 2, none⟩ u) := by
  subst hrb
  have hsz : ((((W.setCell ⟨w.heap.size, 0, none⟩ x).setCell ⟨w.heap.size + 1, 0, none⟩ y).setCell ⟨w.heap.size + 1, 1, none⟩ z).setCell ⟨w.heap.size + 1, 2, none⟩ u).heap.size = W.heap.size := by simp [World.setCell]
  refine ⟨A, n, c, ts, nm, ar, A', c', rs, rfl, hs, ht, ((((h.rd.setOff (by omega)).setOff (by omega)).setOff (by omega)).setOff (by omega)).now, ?_, (((h.kn.bel.setCell (Nat.le_refl _) _).setCell (Nat.le_succ _) _).setCell (Nat.le_succ _) _).setCell (Nat.le_succ _) _⟩
  exact RdR.more (((((ho.setOff (.inl (by omega))).setOff (.inl (by omega))).setOff (.inl (by omega))).setOff (.inl (by omega))).rd rfl) (by rw [hsz]; exact hhi)

set_option maxRecDepth 100000 in
set_option maxHeartbeats 8000000 in
theorem drawSet_any (A0 : Option Addr) (n0 c0 : Nat) (w : World) (hr : RdC w w.heap.size A0 n0) (hn0 : n0 ≤ 1048576) :
    Calls Tryz.prog 20 #[.slice A0 n0 c0] w (DrDT w) := by
  have kn0 : Kn w [(w.heap.size, 0, .slice none 0 0), (w.heap.size + 1, 0, .string { data := #[] }), (w.heap.size + 1, 1, .int .i64 0), (w.heap.size + 1, 2, .slice none 0 0)]
      ((w.alloc (.cells #[.slice none 0 0] 42)).alloc (.cells #[.string { data := #[] }, .int .i64 0, .slice none 0 0] 26)) := by
    simpa using ((Kn.start w).box1 (.slice none 0 0) 42).box3 (.string { data := #[] }) (.int .i64 0) (.slice none 0 0) 26
  go_enter Tryz.func20, Tryz.ntmps20
  go_upto_region 1 with fail
  have hs0 : w.heap.size + 1 < ((w.alloc (.cells #[.slice none 0 0] 42)).alloc (.cells #[.string { data := #[] }, .int .i64 0, .slice none 0 0] 26)).heap.size := by simp
  generalize (w.alloc (.cells #[.slice none 0 0] 42)).alloc (.cells #[.string { data := #[] }, .int .i64 0, .slice none 0 0] 26) = w0 at kn0 hs0 ⊢
  generalize hrb : w.heap.size + 1 = rb at kn0 hs0 ⊢
  have hr0 : RdC w0 w0.heap.size A0 n0 := (hr.keep kn0.bel.block).more kn0.bel.size
  clear hr
  go_wp2_with fail
  refine (l1New_any A0 n0 c0 w0 hr0 hn0).mono ?_
  rintro e w1 ⟨rfl, hc1, b1⟩
  have kn1 := kn0.next b1
  have hq1 := hc1.lt
  generalize w0.heap.size = q at *
  clear b1 kn0 hr0
  go_wp2_with fail
  refine (l5Any_any q w1 hc1).mono ?_
  rintro e w2 ⟨A, n, c, ts, rfl, hsm, hrd, hc2, hg2⟩
  have kn2 := kn1.chg hg2 (by omega) (by simp; omega)
  have hs2 := hg2.size
  have hA := (Below.refl w2.heap.size w2).alloc (Nat.le_refl _) (.cells #[.slice A n c] 42)
  have kn3 : Kn w ([(w.heap.size, 0, .slice none 0 0), (rb, 0, .string { data := #[] }), (rb, 1, .int .i64 0), (rb, 2, .slice none 0 0), (w2.heap.size, 0, .slice A n c)]) (w2.alloc (.cells #[.slice A n c] 42)) := by simpa using kn2.box1 (.slice A n c) 42
  have kr3 : KrD w q ([(w.heap.size, 0, .slice none 0 0), (rb, 0, .string { data := #[] }), (rb, 1, .int .i64 0), (rb, 2, .slice none 0 0), (w2.heap.size, 0, .slice A n c)]) w1.heap.size A n ts (w2.alloc (.cells #[.slice A n c] 42)) :=
    ⟨kn3, hc2.al, hrd.below hA, ⟨by omega, hq1⟩, by simp; omega⟩
  have HS := Lib.hid hsm
  have hlx : w2.heap.size < (w2.alloc (.cells #[.slice A n c] 42)).heap.size := by simp
  clear hc1 kn1 hsm hrd hc2 hg2 kn2 kn3 hA
  go_upto_region 3 with fail
  generalize w2.alloc (.cells #[.slice A n c] 42) = w3 at kr3 hlx ⊢
  generalize w2.heap.size = xb at kr3 hs2 hlx ⊢
  generalize w1.heap.size = lo at kr3 hs2 hq1
  go_wp2_with fail
  refine (l1Once_any q 2 w3 kr3.cur (by omega)).mono ?_
  rintro e w4 ⟨b, rfl, hc4, hg4⟩
  have HK := Lib.hid (kr3.draw hc4 hg4)
  have hs4 := hg4.size
  clear kr3 hc4 hg4
  have hS : (w4.cell? ⟨xb, 0, none⟩ = some (.slice A n c) ∧ xb < w4.heap.size) := ⟨(HK.out.kn.cell (xb, 0, .slice A n c) (by simp)).2, by omega⟩
  have hSd : (w4.drew.cell? ⟨xb, 0, none⟩ = some (.slice A n c) ∧ xb < w4.drew.heap.size) := hS
  have hq4 := HK.out.cur.lt
  have hrx : w.heap.size ≠ xb := by omega
  have hrx2 : rb ≠ xb := by omega
  cases b with
  | true =>
    have hB := (Below.refl w4.heap.size w4).alloc (Nat.le_refl _) (.cells #[.string ⟨#[97]⟩, .string ⟨#[114]⟩, .string ⟨#[114, 114]⟩, .string ⟨#[116]⟩, .string ⟨#[122]⟩] 9)
    have K1 : Hid (Calls Tryz.prog 51 #[.pointer (some ⟨q, 0, none⟩), .slice (some ⟨w4.heap.size, 0, none⟩) 5 5] (w4.alloc (.cells #[.string ⟨#[97]⟩, .string ⟨#[114]⟩, .string ⟨#[114, 114]⟩, .string ⟨#[116]⟩, .string ⟨#[122]⟩] 9)).drew fun e w' => ∃ s : ByteArray, e = .returned (.string s) ∧ Hid (s.size ≤ 8) ∧ Hid (KrD w q [(w.heap.size, 0, .slice none 0 0), (rb, 0, .string { data := #[] }), (rb, 1, .int .i64 0), (rb, 2, .slice none 0 0), (xb, 0, .slice A n c)] lo A n ts w') ∧ (w'.cell? ⟨xb, 0, none⟩ = some (.slice A n c) ∧ xb < w'.heap.size)) :=
      (l1Pick_any q w4.heap.size 0 5 5 (fun s => s.size ≤ 8) _ (HK.out.cur.next hB.drew) (by show _ < (w4.alloc _).heap.size; simp) (by omega) (by omega) (by omega) (fun k hk => ⟨_, row_strs w4 [⟨#[97]⟩, ⟨#[114]⟩, ⟨#[114, 114]⟩, ⟨#[116]⟩, ⟨#[122]⟩] _ k hk, all_s [⟨#[97]⟩, ⟨#[114]⟩, ⟨#[114, 114]⟩, ⟨#[116]⟩, ⟨#[122]⟩] (by decide +kernel) _ (List.getElem_mem _)⟩)).mono fun e w' ⟨s, he, hs, hc, hg⟩ =>
        have h' := (HK.out.next hB.drew).draw hc hg
        ⟨s, he, hs, h', (h'.kn.cell (xb, 0, .slice A n c) (by simp)).2, (h'.kn.cell (xb, 0, .slice A n c) (by simp)).1⟩
    have K2 : Hid (∀ (s : ByteArray) (W : World), s.size ≤ 8 → KrD w q [(w.heap.size, 0, .slice none 0 0), (rb, 0, .string { data := #[] }), (rb, 1, .int .i64 0), (rb, 2, .slice none 0 0), (xb, 0, .slice A n c)] lo A n ts W → Calls Tryz.prog 61 #[.pointer (some ⟨q, 0, none⟩), .string s, .int .i64 2, .int .i64 4, .int .i64 3] W fun e w' => ∃ (nm : ByteArray) (ar : Int) (A' : Option Addr) (c' : Nat) (rs : List (List Int)),
        e = .returned (.agg #[.string nm, .int .i64 ar, .slice A' rs.length c']) ∧ Hid (SmlT 8 nm ar rs ∧ OwnR w' W.heap.size w'.heap.size (.slice A' rs.length c') rs ∧ rb < W.heap.size) ∧ Hid (KrD w q [(w.heap.size, 0, .slice none 0 0), (rb, 0, .string { data := #[] }), (rb, 1, .int .i64 0), (rb, 2, .slice none 0 0), (xb, 0, .slice A n c)] lo A n ts w') ∧ (w'.cell? ⟨xb, 0, none⟩ = some (.slice A n c) ∧ xb < w'.heap.size)) := fun s W hs h =>
      (l4Tab_at q 2 4 3 s W h.cur (by omega) (by omega) (by omega) hs).mono fun e w' ⟨nm, ar, A', c', rs, he, hsm, ho, hc, hg⟩ =>
        have h' := h.draw hc hg
        ⟨nm, ar, A', c', rs, he, ⟨hsm, ho, (h.kn.cell (rb, 0, .string { data := #[] }) (by simp)).1⟩, h', (h'.kn.cell (xb, 0, .slice A n c) (by simp)).2, (h'.kn.cell (xb, 0, .slice A n c) (by simp)).1⟩
    clear hB
    go_upto_region 4 with fail
    go_region_held3 (fun W => (W.cell? ⟨xb, 0, none⟩ = some (.slice A n c) ∧ xb < W.heap.size))
      (with_reducible first | assumption | exact sd_ald hS | exact sd_al (by assumption) | exact sd_set3 hrx2 (by assumption) | exact sd_set hrx (by assumption))
      (first
      | (go_at_call 51; (with_reducible refine K1.out.mono ?_); rintro e w5 ⟨s, rfl, hs5, hk5, hS5⟩)
      | (go_at_call 61; (with_reducible refine (K2.out _ _ hs5.out hk5.out).mono ?_); rintro e w6 ⟨nm, ar, A', c', rs, rfl, ht6, hk6, hS6⟩
         obtain ⟨d0, d1, d2, d3, x0, _⟩ := hk6.out.kn.all
         obtain ⟨f0, f1, f2, f3, y0, _⟩ := hk6.out.kn.fall)
      | fail)
    all_goals (
      have HE := Lib.hid (fun x y z u => drDT_of (c := c)  hk6.out HS.out (ht6.out.1.wide (by omega)) ht6.out.2.1 (by omega) (by have := ht6.out.2.2; omega) (Nat.le_refl _) x y z u hrb.symm)
      go_wp2_with fail
      exact bodyPost_ret (v := .tuple #[.agg #[.slice A n c], .agg #[.string nm, .int .i64 ar, .slice A' rs.length c']]) (by simp [results, Tryz.results20, go_sem, *]) rfl (HE.out _ _ _ _))
  | false =>
    have hkB := HK.out.next (Below.refl _ w4).drew
    have K2 : Hid (∀ W : World, KrD w q [(w.heap.size, 0, .slice none 0 0), (rb, 0, .string { data := #[] }), (rb, 1, .int .i64 0), (rb, 2, .slice none 0 0), (xb, 0, .slice A n c)] lo A n ts W → Calls Tryz.prog 62 #[.pointer (some ⟨q, 0, none⟩)] W fun e w' => ∃ (nm : ByteArray) (ar : Int) (A' : Option Addr) (c' : Nat) (rs : List (List Int)),
        e = .returned (.agg #[.string nm, .int .i64 ar, .slice A' rs.length c']) ∧ Hid (SmlT 9 nm ar rs ∧ OwnR w' W.heap.size w'.heap.size (.slice A' rs.length c') rs ∧ rb < W.heap.size) ∧ Hid (KrD w q [(w.heap.size, 0, .slice none 0 0), (rb, 0, .string { data := #[] }), (rb, 1, .int .i64 0), (rb, 2, .slice none 0 0), (xb, 0, .slice A n c)] lo A n ts w') ∧ (w'.cell? ⟨xb, 0, none⟩ = some (.slice A n c) ∧ xb < w'.heap.size)) := fun W h =>
      (l4Any_any q W h.cur).mono fun e w' ⟨nm, ar, A', c', rs, he, hsm, ho, hc, hg⟩ =>
        have h' := h.draw hc hg
        ⟨nm, ar, A', c', rs, he, ⟨hsm, ho, (h.kn.cell (rb, 0, .string { data := #[] }) (by simp)).1⟩, h', (h'.kn.cell (xb, 0, .slice A n c) (by simp)).2, (h'.kn.cell (xb, 0, .slice A n c) (by simp)).1⟩
    go_upto_region 5 with fail
    go_region_held3 (fun W => (W.cell? ⟨xb, 0, none⟩ = some (.slice A n c) ∧ xb < W.heap.size))
      (with_reducible first | assumption | exact sd_ald hS | exact sd_al (by assumption) | exact sd_set3 hrx2 (by assumption) | exact sd_set hrx (by assumption))
      (first
      | (go_at_call 62; (with_reducible refine (K2.out _ hkB).mono ?_); rintro e w6 ⟨nm, ar, A', c', rs, rfl, ht6, hk6, hS6⟩
         obtain ⟨d0, d1, d2, d3, x0, _⟩ := hk6.out.kn.all
         obtain ⟨f0, f1, f2, f3, y0, _⟩ := hk6.out.kn.fall)
      | fail)
    all_goals (
      have HE := Lib.hid (fun x y z u => drDT_of (c := c)  hk6.out HS.out ht6.out.1 ht6.out.2.1 (by omega) (by have := ht6.out.2.2; omega) (Nat.le_refl _) x y z u hrb.symm)
      go_wp2_with fail
      exact bodyPost_ret (v := .tuple #[.agg #[.slice A n c], .agg #[.string nm, .int .i64 ar, .slice A' rs.length c']]) (by simp [results, Tryz.results20, go_sem, *]) rfl (HE.out _ _ _ _))
end Go.Proofs.YtmojjbhjjhdpaaaGreatDoor
