/- What the laws on databases draw: l5Db. What is drawn is not said, but for its bounds. No condition. -/
import Derived.Test.YtccnhocekgikiaaGreatDrT3
import Derived.Test.YtccnhocekgikiaaGreatBu4
import Derived.Deep.RegionHeld3
namespace Go.Proofs.YtccnhocekgikiaaGreat
open Go.RowKit Go.Deep

/-- A database that can be read in every world that holds the blocks from lo on as they are; its head lies there too. -/
def RdTw (lo : Nat) (w : World) (A : Option Addr) (n : Nat) (ts : List Tab) : Prop := (∀ g o s, A = some ⟨g, o, s⟩ → lo ≤ g) ∧ ∀ W : World, w.heap.size ≤ W.heap.size → (∀ k, lo ≤ k → k < w.heap.size → W.heap[k]? = w.heap[k]?) → RdT W W.heap.size A n ts
theorem OwnD.rdw {w : World} {lo hi n c : Nat} {A : Option Addr} {ts : List Tab} (h : OwnD w lo hi (.slice A n c) ts) (hh : hi ≤ w.heap.size) : RdTw lo w A n ts := ⟨fun g o s hA => by
    subst hA
    obtain ⟨F, ⟨its, rfl, hT⟩, h2⟩ := h
    rcases hT.row.2 with ⟨hv, _⟩ | ⟨g', cap, cur, hv, _⟩
    · cases hv
    · have e : (Value.slice (some ⟨g, o, s⟩) n c).ownBlock = some g' := by rw [hv]; rfl
      injection hv with h1 _ _
      injection h1 with h1
      injection h1 with h1
      subst h1
      exact (h2 g (hT.head g e).1).1, fun W hs hk => by
    have hn := h.len_eq
    obtain ⟨F, h1, h2⟩ := h
    exact RdT.more (OwnD.rd ⟨F, h1.keep eTab_ok hs fun k hf => hk k (h2 k hf).1 (h1.bound k hf), h2⟩ hn) (Nat.le_trans hh hs)⟩
theorem RdTw.step {lo : Nat} {w w' : World} {A : Option Addr} {n : Nat} {ts : List Tab} (h : RdTw lo w A n ts) (hs : w.heap.size ≤ w'.heap.size) (hk : ∀ k, lo ≤ k → k < w.heap.size → w'.heap[k]? = w.heap[k]?) : RdTw lo w' A n ts :=
  ⟨h.1, fun W hs2 hk2 => h.2 W (Nat.le_trans hs hs2) fun k h1 h2 => (hk2 k h1 (Nat.lt_of_lt_of_le h2 hs)).trans (hk k h1 h2)⟩
theorem RdTw.down {lo lo' : Nat} {w : World} {A : Option Addr} {n : Nat} {ts : List Tab} (h : RdTw lo w A n ts) (hl : lo' ≤ lo) : RdTw lo' w A n ts := ⟨fun g o s hA => Nat.le_trans hl (h.1 g o s hA), fun W hs hk => h.2 W hs fun k h1 h2 => hk k (Nat.le_trans hl h1) h2⟩
theorem RdTw.now {lo : Nat} {w : World} {A : Option Addr} {n : Nat} {ts : List Tab} (h : RdTw lo w A n ts) : RdT w w.heap.size A n ts := h.2 w (Nat.le_refl _) fun _ _ _ => rfl
/-- Element k: its cells, and its rows, which can be read for as long. -/
theorem RdTw.at_ {lo : Nat} {w : World} {A : Option Addr} {n : Nat} {ts : List Tab} (h : RdTw lo w A n ts) {k : Nat} (hk : k < n) :
    ∃ g o t A' c', A = some ⟨g, o, none⟩ ∧ g < w.heap.size ∧ ts[k]? = some t ∧ w.cell? ⟨g, o + k * 3, none⟩ = some (.string t.nm) ∧ w.cell? ⟨g, o + k * 3 + 1, none⟩ = some (.int .i64 t.ar) ∧ w.cell? ⟨g, o + k * 3 + 2, none⟩ = some (.slice A' t.rs.length c') ∧
      ∀ W : World, w.heap.size ≤ W.heap.size → (∀ j, lo ≤ j → j < w.heap.size → W.heap[j]? = w.heap[j]?) → RdR W W.heap.size A' t.rs.length t.rs := by
  obtain ⟨g, o, t, A', c', rfl, hg, ht, h0, h1, h2, _⟩ := RdT.at_ h.now hk
  refine ⟨g, o, t, A', c', rfl, hg, ht, h0, h1, h2, fun W hs hb => ?_⟩
  obtain ⟨g2, o2, t2, A2, c2, hA, _, ht2, _, _, k2, hr, _⟩ := RdT.at_ (h.2 W hs hb) hk
  injection hA with hA
  injection hA with e1 e2 _
  subst e1 e2
  rw [ht] at ht2
  injection ht2 with ht2
  subst ht2
  rw [World.cell?_of_block (hb g (h.1 g o none rfl) hg), h2] at k2
  injection k2 with k2
  injection k2 with k2 _ _
  subst k2
  exact hr
/-- Bounds of a database drawn. -/
def SmlD (ts : List Tab) : Prop := ts.length ≤ 8 ∧ ∀ t ∈ ts, SmlT 9 t.nm t.ar t.rs
theorem SmlD.snoc {ts : List Tab} {t : Tab} (h : ts.length ≤ 7 ∧ ∀ t ∈ ts, SmlT 9 t.nm t.ar t.rs) (ht : SmlT 9 t.nm t.ar t.rs) : SmlD (ts ++ [t]) := by
  refine ⟨by simp; omega, fun x hx => ?_⟩
  rcases List.mem_append.1 hx with hx | hx
  · exact h.2 x hx
  · obtain rfl := List.mem_singleton.1 hx
    exact ht
theorem SmlD.set {ts : List Tab} {t : Tab} {k : Nat} (h : SmlD ts) (ht : SmlT 9 t.nm t.ar t.rs) : SmlD (ts.set k t) := by
  refine ⟨by rw [List.length_set]; exact h.1, fun x hx => ?_⟩
  rcases List.mem_or_eq_of_mem_set hx with hx | rfl
  · exact h.2 x hx
  · exact ht
theorem SmlT.wide {M M' : Nat} {nm : ByteArray} {ar : Int} {rs : List (List Int)} (h : SmlT M nm ar rs) (hM : M ≤ M') : SmlT M' nm ar rs := ⟨h.1, h.2.1, by have := h.2.2.1; omega, h.2.2.2⟩
theorem SmlT.nil {M : Nat} {nm : ByteArray} {ar : Int} {rs : List (List Int)} (h : SmlT M nm ar rs) : SmlT M nm ar [] := ⟨h.1, h.2.1, by simp, by simp⟩

theorem Dn.low {q lo : Nat} {w W W' : World} {L : List (Nat × Nat × Value)} (h : Dn q w L W) (hB : Below lo W W') (hlo : w.heap.size ≤ lo) (hL : ∀ t ∈ L, t.1 < lo) : Dn q w L W' :=
  ⟨h.hq, h.cur.keep (fun k hk => hB.block k (by have := h.hq; omega)) hB.size, h.chg.after (hB.mono hlo), fun t ht => by
    obtain ⟨a1, a2, a3⟩ := h.cell t ht
    exact ⟨a1, Nat.lt_of_lt_of_le a2 hB.size, (hB.cell (p := ⟨t.1, t.2.1, none⟩) (hL t ht)).trans a3⟩, fun t ht => (hB.frozen (p := ⟨t.1, t.2.1, none⟩) (hL t ht)).trans (h.frz t ht)⟩
/-- A database that is being made: its box xb, its tables, other cells L, all these below lo. -/
structure DI (q : Nat) (w : World) (L : List (Nat × Nat × Value)) (xb lo : Nat) (ts : List Tab) (v : Value) (W : World) : Prop where
  dn : Dn q w L W
  own : OwnD W lo W.heap.size v ts
  size : lo ≤ W.heap.size
  hx : w.heap.size ≤ xb
  hxb : xb < lo
  nL : ∀ t ∈ L, t.1 ≠ xb ∧ t.1 < lo
  x0 : W.cell? ⟨xb, 0, none⟩ = some v
  fx : W.frozen? ⟨xb, 0, none⟩ = false
section
variable {q xb lo : Nat} {w W W' W1 : World} {L : List (Nat × Nat × Value)} {ts ts' : List Tab} {v v' : Value}
theorem DI.draw (h : DI q w L xb lo ts v W) (hc : Cur W' q) (hg : Chg q (q + 1) W W') : DI q w L xb lo ts v W' := by
  have hq := h.dn.hq
  have hx := h.hx
  have e := hg.block xb (Nat.lt_of_lt_of_le h.hxb h.size) (.inr (by omega))
  exact ⟨h.dn.draw hc hg, (h.own.chg hg (.inr (by have := h.hxb; omega))).wide hg.size, Nat.le_trans h.size hg.size, h.hx, h.hxb, h.nL, (World.cell?_of_block e).trans h.x0, (World.frozen?_of_block e).trans h.fx⟩
theorem DI.next (h : DI q w L xb lo ts v W) (b : Below W.heap.size W W') : DI q w L xb lo ts v W' := h.draw (h.dn.cur.next b) ((Chg.refl _ _ _).after b)
theorem DI.put (h : DI q w L xb lo ts v W) (hB : Below lo W W') (ho : OwnD W' lo W'.heap.size v' ts') : DI q w L xb lo ts' v' (W'.setCell ⟨xb, 0, none⟩ v') := by
  have hlo : w.heap.size ≤ lo := by have := h.hx; have := h.hxb; omega
  have hs : (W'.setCell ⟨xb, 0, none⟩ v').heap.size = W'.heap.size := by simp [World.setCell]
  exact ⟨(h.dn.low hB hlo fun t ht => (h.nL t ht).2).setOff h.hx fun t ht => (h.nL t ht).1, by rw [hs]; exact ho.setOff (.inl h.hxb), by rw [hs]; exact Nat.le_trans h.size hB.size, h.hx, h.hxb, h.nL,
    cell_set_same ((hB.cell (p := ⟨xb, 0, none⟩) h.hxb).trans h.x0), frozen_set.trans ((hB.frozen (p := ⟨xb, 0, none⟩) h.hxb).trans h.fx)⟩
/-- One table more: what the append asks, and what it leaves. -/
theorem DI.app {lo1 hi c1 : Nat} {A1 : Option Addr} {nm : ByteArray} {ar : Int} {rs : List (List Int)} (h : DI q w L xb lo ts v W) (hc : Cur W1 q) (hg : Chg q (q + 1) W W1)
    (ho : OwnR W1 lo1 hi (.slice A1 rs.length c1) rs) (hlo1 : W.heap.size ≤ lo1) (hhi : hi ≤ W1.heap.size) (hnm : nm.size ≤ maxLen) :
    ∃ xs : List Value, (W1.alloc (.cells #[.string nm, .int .i64 ar, .slice A1 rs.length c1] 51)).ownsRow 0 51 3 v ts.length xs ∧
      ∀ (g cap : Nat) (w2 : World), w2.ownsRow 0 51 3 (.slice (some ⟨g, 0, none⟩) (ts.length + 1) cap) (ts.length + 1) (xs ++ [.string nm, .int .i64 ar, .slice A1 rs.length c1]) →
        (W1.alloc (.cells #[.string nm, .int .i64 ar, .slice A1 rs.length c1] 51)).grownBy w2 v.ownBlock → (v.ownBlock = some g ∨ g = W1.heap.size + 1) →
        w2.cell? ⟨xb, 0, none⟩ = some v ∧ w2.frozen? ⟨xb, 0, none⟩ = false ∧ DI q w L xb lo (ts ++ [⟨nm, ar, rs⟩]) (.slice (some ⟨g, 0, none⟩) (ts.length + 1) cap) (w2.setCell ⟨xb, 0, none⟩ (.slice (some ⟨g, 0, none⟩) (ts.length + 1) cap)) := by
  have h1 := h.draw hc hg
  have hown := h.own.chg hg (.inr (by have := h.hxb; have := h.hx; have := h.dn.hq; omega))
  obtain ⟨xs, k1, k2, k3⟩ := hown.open_
  have hA : Below W1.heap.size W1 (W1.alloc (.cells #[.string nm, .int .i64 ar, .slice A1 rs.length c1] 51)) := (Below.refl _ _).alloc (Nat.le_refl _) _
  have hsz := h.size
  refine ⟨xs, ownsRow_keep k1 fun g hg => hA.block g (k2 g hg).2.2, fun g cap w2 hown2 hgrow hat => ?_⟩
  have hB2 : Below lo W1 w2 := (hA.mono h1.size).grown hgrow (by simp; have := h1.size; omega) (fun j hj => (k2 j hj).1)
  have hD := k3 _ w2 A1 nm ar rs c1 lo1 hi g cap hA (ho.alloc _) hnm hlo1 (by omega) (by simp; omega) (by simp; have := h1.size; omega) hown2 hgrow (by simpa using hat)
  exact ⟨(hB2.cell (p := ⟨xb, 0, none⟩) h.hxb).trans h1.x0, (hB2.frozen (p := ⟨xb, 0, none⟩) h.hxb).trans h1.fx, h1.put hB2 hD⟩
/-- The box is copied into the result's cell. -/
theorem DI.fin {rb n c : Nat} {A : Option Addr} (h : DI q w L xb lo ts (.slice A n c) W) (hrb : ∃ t ∈ L, t.1 = rb) (a : Value) :
    OwnD (W.setCell ⟨rb, 0, none⟩ a) w.heap.size (W.setCell ⟨rb, 0, none⟩ a).heap.size (.slice A n c) ts ∧ Cur (W.setCell ⟨rb, 0, none⟩ a) q ∧ Chg q (q + 1) w (W.setCell ⟨rb, 0, none⟩ a) := by
  obtain ⟨t, ht, rfl⟩ := hrb
  have hq := h.dn.hq
  have hr := (h.dn.cell t ht).1
  have hs : (W.setCell ⟨t.1, 0, none⟩ a).heap.size = W.heap.size := by simp [World.setCell]
  exact ⟨by rw [hs]; exact (h.own.setOff (.inl (h.nL t ht).2)).down (by have := h.hx; have := h.hxb; omega), h.dn.cur.setOff (by omega), h.dn.chg.setOff hr⟩
end
theorem sd_set {W : World} {xb g i : Nat} {a x : Value} (hn : g ≠ xb) (h : W.cell? ⟨xb, 0, none⟩ = some a ∧ xb < W.heap.size) : (W.setCell ⟨g, i, none⟩ x).cell? ⟨xb, 0, none⟩ = some a ∧ xb < (W.setCell ⟨g, i, none⟩ x).heap.size :=
  ⟨(cell_set_other (by omega)).trans h.1, by simpa [World.setCell] using h.2⟩
/-- A database drawn, of the call's own. -/
def DrD (q : Nat) (w : World) (e : Ending) (w' : World) : Prop :=
  ∃ (A : Option Addr) (c : Nat) (ts : List Tab), e = .returned (.agg #[.slice A ts.length c]) ∧ (ts.length = 5 ∧ SmlD ts) ∧ OwnD w' w.heap.size w'.heap.size (.slice A ts.length c) ts ∧ Cur w' q ∧ Chg q (q + 1) w w'
set_option maxRecDepth 100000 in
set_option maxHeartbeats 8000000 in
theorem l5Db_any (q : Nat) (w : World) (hc : Cur w q) :
    Calls Tryz.prog 65 #[.pointer (some ⟨q, 0, none⟩)] w (DrD q w) := by
  obtain ⟨i1, hi, hz0, hz1, hz2⟩ := info_parts info_tab
  have d0 : Dn q w [(w.heap.size, 0, .slice none 0 0)] (w.alloc (.cells #[.slice none 0 0] 26)) := by
    simpa using (Dn.start hc).box [.slice none 0 0] 26
  go_enter Tryz.func65, Tryz.ntmps65
  go_upto_region 1 with fail
  have hs0 : w.heap.size < (w.alloc (.cells #[.slice none 0 0] 26)).heap.size := by simp
  generalize w.alloc (.cells #[.slice none 0 0] 26) = w0 at d0 hs0 ⊢
  have hq0 := d0.cur.lt
  go_wp2_with fail
  have hB1 := (Below.refl w0.heap.size w0).alloc (Nat.le_refl _) (.cells ([2, 3, 4, 6].map (Value.int .i64)).toArray 3)
  refine (l1PickInt_any q w0.heap.size 0 4 4 (fun z => 2 ≤ z ∧ z ≤ 6) _ (d0.cur.next hB1) (by simp) (by omega) (by omega) (by omega) (fun k hk => ⟨_, row_ints w0 [2, 3, 4, 6] _ k hk, all_p (fun z => 2 ≤ z ∧ z ≤ 6) [2, 3, 4, 6] (by decide +kernel) _ (List.getElem_mem _)⟩)).mono ?_
  rintro e w1 ⟨val, rfl, hval, hc1, hg1⟩
  have d1 := (d0.next hB1).draw hc1 hg1
  have hs1 := Nat.lt_of_lt_of_le hs0 (Nat.le_trans hB1.size hg1.size)
  clear d0 hB1 hc1 hg1 hs0 hq0 hc
  have hq1 := d1.cur.lt
  go_wp2_with fail
  have hB2 := (Below.refl w1.heap.size w1).alloc (Nat.le_refl _) (.cells ([2, 4, 6, 8].map (Value.int .i64)).toArray 3)
  refine (l1PickInt_any q w1.heap.size 0 4 4 (fun z => 2 ≤ z ∧ z ≤ 8) _ (d1.cur.next hB2) (by simp) (by omega) (by omega) (by omega) (fun k hk => ⟨_, row_ints w1 [2, 4, 6, 8] _ k hk, all_p (fun z => 2 ≤ z ∧ z ≤ 8) [2, 4, 6, 8] (by decide +kernel) _ (List.getElem_mem _)⟩)).mono ?_
  rintro e w2 ⟨most, rfl, hmost, hc2, hg2⟩
  have d2 := (d1.next hB2).draw hc2 hg2
  have hs2 := Nat.lt_of_lt_of_le hs1 (Nat.le_trans hB2.size hg2.size)
  clear d1 hB2 hc2 hg2 hs1 hq1
  go_upto_region 4 with fail
  have d3 : Dn q w [(w.heap.size, 0, .slice none 0 0), (w2.heap.size, 0, .slice none 0 0)] (w2.alloc (.cells #[.slice none 0 0] 26)) := by
    simpa using d2.box [.slice none 0 0] 26
  have hs3 : w2.heap.size < (w2.alloc (.cells #[.slice none 0 0] 26)).heap.size := by simp
  generalize w2.alloc (.cells #[.slice none 0 0] 26) = w3 at d3 hs3 ⊢
  generalize w2.heap.size = xb at d3 hs2 hs3 ⊢
  clear d2
  have t0 : DI q w [(w.heap.size, 0, .slice none 0 0), (w3.heap.size, 0, .string ⟨#[114]⟩), (w3.heap.size, 1, .string ⟨#[115]⟩), (w3.heap.size, 2, .string ⟨#[116]⟩), (w3.heap.size, 3, .string ⟨#[117]⟩), (w3.heap.size, 4, .string ⟨#[118]⟩)] xb (w3.heap.size + 1) [] (.slice none 0 0) (w3.alloc (.cells #[.string ⟨#[114]⟩, .string ⟨#[115]⟩, .string ⟨#[116]⟩, .string ⟨#[117]⟩, .string ⟨#[118]⟩] 9)) := by
    have d4 : Dn q w [(w.heap.size, 0, .slice none 0 0), (xb, 0, .slice none 0 0), (w3.heap.size, 0, .string ⟨#[114]⟩), (w3.heap.size, 1, .string ⟨#[115]⟩), (w3.heap.size, 2, .string ⟨#[116]⟩), (w3.heap.size, 3, .string ⟨#[117]⟩), (w3.heap.size, 4, .string ⟨#[118]⟩)] (w3.alloc (.cells #[.string ⟨#[114]⟩, .string ⟨#[115]⟩, .string ⟨#[116]⟩, .string ⟨#[117]⟩, .string ⟨#[118]⟩] 9)) := by
      simpa using d3.box [.string ⟨#[114]⟩, .string ⟨#[115]⟩, .string ⟨#[116]⟩, .string ⟨#[117]⟩, .string ⟨#[118]⟩] 9
    have e := d4.cell (xb, 0, .slice none 0 0) (by simp)
    have f := d4.frz (xb, 0, .slice none 0 0) (by simp)
    exact ⟨d4.sub (by simp), OwnD.nil _ _ _, by simp, e.1, by omega, by simp; omega, e.2.2, f⟩
  clear d3
  go_upto_region 5 with fail
  generalize w3.alloc (.cells #[.string ⟨#[114]⟩, .string ⟨#[115]⟩, .string ⟨#[116]⟩, .string ⟨#[117]⟩, .string ⟨#[118]⟩] 9) = w4 at t0 ⊢
  generalize w3.heap.size = sb at t0 hs3 ⊢
  go_loopw [19] (fun i wr => ∃ (k : Nat) (ts : List Tab) (v : Value), i = .int .i64 k ∧ k ≤ 5 ∧ Hid (ts.length = k ∧ ∀ t ∈ ts, SmlT 9 t.nm t.ar t.rs) ∧ Hid (DI q w [(w.heap.size, 0, .slice none 0 0), (sb, 0, .string ⟨#[114]⟩), (sb, 1, .string ⟨#[115]⟩), (sb, 2, .string ⟨#[116]⟩), (sb, 3, .string ⟨#[117]⟩), (sb, 4, .string ⟨#[118]⟩)] xb (sb + 1) ts v wr)) (fun i _ => 5 - (intOf i).toNat)
  case atStart => exact ⟨0, [], _, rfl, by omega, ⟨rfl, by simp⟩, t0⟩
  case round =>
    obtain ⟨k, ts, v, rfl, hk, hts, hI⟩ := hrel
    clear t0
    generalize wr = w5 at hI ⊢
    by_cases h5 : k = 5
    · have HL : Hid (ts.length = 5) := hts.out.1.trans h5
      subst h5
      obtain ⟨A, c, rfl⟩ := hI.out.own.form
      have hx := hI.out.hx
      have hxb := hI.out.hxb
      have hsz := hI.out.size
      go_wp2_with fail
      refine (l1Once_any q 8 w5 hI.out.dn.cur (by omega)).mono ?_
      rintro e w6 ⟨b, rfl, hc6, hg6⟩
      have HI := Lib.hid (hI.out.draw hc6 hg6)
      have hs6 := hg6.size
      clear hc6 hg6
      obtain ⟨d0, _⟩ := HI.out.dn.all
      obtain ⟨f0, _⟩ := HI.out.dn.fall
      have x0 := HI.out.x0
      have hxl6 : xb < w6.heap.size := by omega
      cases b with
      | false =>
        go_wp2_with fail
        have HF := Lib.hid (HI.out.fin (rb := w.heap.size) ⟨_, List.mem_cons_self, rfl⟩ (.slice A ts.length c))
        exact bodyPost_ret (v := .agg #[.slice A ts.length c]) (by simp [results, Tryz.results65, go_sem, *]) rfl ⟨A, c, ts, rfl, ⟨HL.out, by rw [HL.out]; omega, hts.out.2⟩, HF.out⟩
      | true =>
        obtain ⟨g, _, _, _, _, _, rfl, hlg, _⟩ := HI.out.own.at_ rfl (k := 0) (by rw [HL.out]; omega)
        have hgx : g ≠ xb := by omega
        have hgr : w.heap.size ≠ g := by omega
        have hS : (w6.cell? ⟨xb, 0, none⟩ = some (.slice (some ⟨g, 0, none⟩) ts.length c) ∧ xb < w6.heap.size) := ⟨x0, hxl6⟩
        have K : Hid (Calls Tryz.prog 66 #[.pointer (some ⟨q, 0, none⟩), .int .i64 5] w6.drew fun e w' => ∃ (k : Nat) (y : Value), e = .returned (.int .i64 (k : Int)) ∧ (0 : Int) ≤ (k : Int) ∧ (k : Int) < (ts.length : Int) ∧ (k : Int).toNat = k ∧
            w'.cell? ⟨g, k * 3 + 2, none⟩ = some y ∧ w'.frozen? ⟨g, k * 3 + 2, none⟩ = false ∧ Hid (∃ ts', (ts'.length = 5 ∧ SmlD ts') ∧ DI q w [(w.heap.size, 0, .slice none 0 0), (sb, 0, .string ⟨#[114]⟩), (sb, 1, .string ⟨#[115]⟩), (sb, 2, .string ⟨#[116]⟩), (sb, 3, .string ⟨#[117]⟩), (sb, 4, .string ⟨#[118]⟩)] xb (sb + 1) ts' (.slice (some ⟨g, 0, none⟩) ts'.length c) (w'.setCell ⟨g, k * 3 + 2, none⟩ (.slice none 0 0))) ∧ (w'.cell? ⟨xb, 0, none⟩ = some (.slice (some ⟨g, 0, none⟩) ts.length c) ∧ xb < w'.heap.size)) :=
          (l1Below_any q 5 w6.drew HI.out.dn.cur.drew (by omega)).mono fun e w' ⟨x, he, ⟨hx0, hx1⟩, hc, hg⟩ => by
            obtain ⟨k, rfl⟩ := Int.eq_ofNat_of_zero_le hx0
            have hk : k < ts.length := by rw [HL.out]; omega
            have hg' : Chg q (q + 1) w6 w' := (Chg.drewN 1).trans hg
            have h' := HI.out.draw hc hg'
            obtain ⟨g', t, A', c', lo', hi', e1, _, _, hgl, htk, ⟨_, _, hcell⟩, ⟨_, _, hfz⟩, _, _, _, _, _, hput⟩ := h'.own.at_ rfl hk
            injection e1 with e1
            injection e1 with e1
            subst e1
            have ho := hput w' none [] 0 w'.heap.size w'.heap.size (Below.refl _ _) (OwnR.nil _ _ _) (Nat.le_refl _) (Nat.le_refl _) h'.size
            refine ⟨k, _, he, by omega, by omega, by omega, hcell, hfz, ⟨ts.set k ⟨t.nm, t.ar, []⟩, ⟨by rw [List.length_set]; exact HL.out, SmlD.set ⟨by rw [HL.out]; omega, hts.out.2⟩ (hts.out.2 t (List.mem_of_getElem? htk)).nil⟩, ?_⟩, h'.x0, by have := hg'.size; omega⟩
            rw [List.length_set]
            have hs : (w'.setCell ⟨g, k * 3 + 2, none⟩ (.slice none 0 0)).heap.size = w'.heap.size := by simp [World.setCell]
            exact ⟨h'.dn.setOff (by omega) fun t ht => by have := (h'.nL t ht).2; omega, by rw [hs]; exact ho, by rw [hs]; exact h'.size, h'.hx, h'.hxb, h'.nL, (cell_set_other (by omega)).trans h'.x0, frozen_set.trans h'.fx⟩
        clear hs6 hI
        go_upto_region 16 with fail
        go_region_held3 (fun W => (W.cell? ⟨xb, 0, none⟩ = some (.slice (some ⟨g, 0, none⟩) ts.length c) ∧ xb < W.heap.size))
          (first | assumption | exact sd_set hgx (by assumption))
          (first
          | (go_at_call 66; (with_reducible refine K.out.mono ?_); rintro e w7 ⟨k, y, rfl, k0, k1, k2, hcl, hfz, hD, hS7⟩)
          | fail)
        all_goals (
          obtain ⟨ts', hts', hD'⟩ := hD.out
          clear hD hcl hfz d0 f0 x0 hS7
          generalize w7.setCell ⟨g, k * 3 + 2, none⟩ (.slice none 0 0) = w8 at hD' ⊢
          have hl' : ts'.length = ts.length := hts'.1.trans HL.out.symm
          rw [hl'] at hD'
          obtain ⟨d0, _⟩ := hD'.dn.all
          obtain ⟨f0, _⟩ := hD'.dn.fall
          have x0 := hD'.x0
          have HD := Lib.hid hD'
          have HL' := Lib.hid hl'
          clear hD' hl'
          go_wp2_with fail
          have HF := Lib.hid (HD.out.fin (rb := w.heap.size) ⟨_, List.mem_cons_self, rfl⟩ (.slice (some ⟨g, 0, none⟩) ts.length c))
          exact bodyPost_ret (v := .agg #[.slice (some ⟨g, 0, none⟩) ts.length c]) (by simp [results, Tryz.results65, go_sem, *]) rfl ⟨some ⟨g, 0, none⟩, c, ts', by rw [HL'.out], hts', by rw [HL'.out]; exact HF.out⟩)
    · have e117 : ∀ b : UInt8, ((⟨#[b]⟩ : ByteArray).toList == (⟨#[117]⟩ : ByteArray).toList) = (b == 117) := fun b => by rw [toList_one, toList_one]; simp
      have hcases : k = 0 ∨ k = 1 ∨ k = 2 ∨ k = 3 ∨ k = 4 := by omega
      clear h5 hk
      have hx := hI.out.hx
      have hxb := hI.out.hxb
      have hsz := hI.out.size
      obtain ⟨d0, d1, d2, d3, d4, d5, _⟩ := hI.out.dn.all
      have x0 := hI.out.x0
      rcases hcases with rfl | rfl | rfl | rfl | rfl
      · go_wp2_with fail
        refine (l4Tab_at q 2 most val ⟨#[114]⟩ w5 hI.out.dn.cur (by omega) (by omega) (by omega) (by decide)).mono ?_
        rintro e w6 ⟨nm, ar, A, c, R, rfl, hsm, ho, hc6, hg6⟩
        have hs6 := hg6.size
        have x06 := (hI.out.draw hc6 hg6).x0
        have hxl6 : xb < w6.heap.size := by omega
        have hnm : nm.size ≤ maxLen := by have := hsm.1; unfold maxLen; omega
        obtain ⟨xs, hrow, happ⟩ := hI.out.app (W1 := w6.alloc (.cells #[.string nm, .int .i64 ar, .slice A R.length c] 51)) hc6.al hg6.al (ho.alloc (.cells #[.string nm, .int .i64 ar, .slice A R.length c] 51)) (Nat.le_refl _) (by simp) hnm
        have hgn := heap_alloc_new (w6.alloc (.cells #[.string nm, .int .i64 ar, .slice A R.length c] 51)) (.cells #[.string nm, .int .i64 ar, .slice A R.length c] 51)
        rw [show (w6.alloc (.cells #[.string nm, .int .i64 ar, .slice A R.length c] 51)).heap.size = w6.heap.size + 1 by simp] at hgn happ
        have HA := Lib.hid happ
        have HR := Lib.hid hrow
        have HGN := Lib.hid hgn
        have HS := Lib.hid hsm
        clear hrow hgn
        go_wp2_with (at_builtin; refine wpList_append_lies _ rfl _ _ _ rfl 0 51 i1 _ 3 48 Tryz.underlying24 hi hz0 hz1 hz2 rfl (by omega) _ ts.length _ rfl HR.out ⟨w6.heap.size + 1, 0, none⟩ 1 1 [.string nm, .int .i64 ar, .slice A R.length c] rfl rfl (World.news_of_block (cs := #[.string nm, .int .i64 ar, .slice A R.length c]) (t := 51) (fr := (0, 0)) HGN.out) (by simp [Value.oneCell']) (by omega) (by have := hts.out.1; unfold maxLen; omega) (by have := hts.out.1; omega) (Nat.zero_le _) (w6.heap.size + 1 + 1) (by simp) ?_; intro g cap w7 hown7 hgrow7 hat7 hlt7; obtain ⟨m2, m3, hF⟩ := HA.out g cap w7 hown7 hgrow7 hat7; have HF := Lib.hid hF; clear hown7 hgrow7 hat7 hF)
        refine ⟨⟨1, _, _, by go_num, by omega, ⟨by have := hts.out.1; rw [List.length_append, List.length_singleton]; omega, fun t ht => ?_⟩, HF⟩, ?_⟩
        · rcases List.mem_append.1 ht with ht | ht
          · exact hts.out.2 t ht
          · obtain rfl := List.mem_singleton.1 ht
            exact HS.out.wide (by omega)
        · simp [intOf]
      · go_wp2_with fail
        refine (l4Tab_at q 2 most val ⟨#[115]⟩ w5 hI.out.dn.cur (by omega) (by omega) (by omega) (by decide)).mono ?_
        rintro e w6 ⟨nm, ar, A, c, R, rfl, hsm, ho, hc6, hg6⟩
        have hs6 := hg6.size
        have x06 := (hI.out.draw hc6 hg6).x0
        have hxl6 : xb < w6.heap.size := by omega
        have hnm : nm.size ≤ maxLen := by have := hsm.1; unfold maxLen; omega
        obtain ⟨xs, hrow, happ⟩ := hI.out.app (W1 := w6.alloc (.cells #[.string nm, .int .i64 ar, .slice A R.length c] 51)) hc6.al hg6.al (ho.alloc (.cells #[.string nm, .int .i64 ar, .slice A R.length c] 51)) (Nat.le_refl _) (by simp) hnm
        have hgn := heap_alloc_new (w6.alloc (.cells #[.string nm, .int .i64 ar, .slice A R.length c] 51)) (.cells #[.string nm, .int .i64 ar, .slice A R.length c] 51)
        rw [show (w6.alloc (.cells #[.string nm, .int .i64 ar, .slice A R.length c] 51)).heap.size = w6.heap.size + 1 by simp] at hgn happ
        have HA := Lib.hid happ
        have HR := Lib.hid hrow
        have HGN := Lib.hid hgn
        have HS := Lib.hid hsm
        clear hrow hgn
        go_wp2_with (at_builtin; refine wpList_append_lies _ rfl _ _ _ rfl 0 51 i1 _ 3 48 Tryz.underlying24 hi hz0 hz1 hz2 rfl (by omega) _ ts.length _ rfl HR.out ⟨w6.heap.size + 1, 0, none⟩ 1 1 [.string nm, .int .i64 ar, .slice A R.length c] rfl rfl (World.news_of_block (cs := #[.string nm, .int .i64 ar, .slice A R.length c]) (t := 51) (fr := (0, 0)) HGN.out) (by simp [Value.oneCell']) (by omega) (by have := hts.out.1; unfold maxLen; omega) (by have := hts.out.1; omega) (Nat.zero_le _) (w6.heap.size + 1 + 1) (by simp) ?_; intro g cap w7 hown7 hgrow7 hat7 hlt7; obtain ⟨m2, m3, hF⟩ := HA.out g cap w7 hown7 hgrow7 hat7; have HF := Lib.hid hF; clear hown7 hgrow7 hat7 hF)
        refine ⟨⟨2, _, _, by go_num, by omega, ⟨by have := hts.out.1; rw [List.length_append, List.length_singleton]; omega, fun t ht => ?_⟩, HF⟩, ?_⟩
        · rcases List.mem_append.1 ht with ht | ht
          · exact hts.out.2 t ht
          · obtain rfl := List.mem_singleton.1 ht
            exact HS.out.wide (by omega)
        · simp [intOf]
      · go_wp2_with fail
        refine (l4Tab_at q 2 most val ⟨#[116]⟩ w5 hI.out.dn.cur (by omega) (by omega) (by omega) (by decide)).mono ?_
        rintro e w6 ⟨nm, ar, A, c, R, rfl, hsm, ho, hc6, hg6⟩
        have hs6 := hg6.size
        have x06 := (hI.out.draw hc6 hg6).x0
        have hxl6 : xb < w6.heap.size := by omega
        have hnm : nm.size ≤ maxLen := by have := hsm.1; unfold maxLen; omega
        obtain ⟨xs, hrow, happ⟩ := hI.out.app (W1 := w6.alloc (.cells #[.string nm, .int .i64 ar, .slice A R.length c] 51)) hc6.al hg6.al (ho.alloc (.cells #[.string nm, .int .i64 ar, .slice A R.length c] 51)) (Nat.le_refl _) (by simp) hnm
        have hgn := heap_alloc_new (w6.alloc (.cells #[.string nm, .int .i64 ar, .slice A R.length c] 51)) (.cells #[.string nm, .int .i64 ar, .slice A R.length c] 51)
        rw [show (w6.alloc (.cells #[.string nm, .int .i64 ar, .slice A R.length c] 51)).heap.size = w6.heap.size + 1 by simp] at hgn happ
        have HA := Lib.hid happ
        have HR := Lib.hid hrow
        have HGN := Lib.hid hgn
        have HS := Lib.hid hsm
        clear hrow hgn
        go_wp2_with (at_builtin; refine wpList_append_lies _ rfl _ _ _ rfl 0 51 i1 _ 3 48 Tryz.underlying24 hi hz0 hz1 hz2 rfl (by omega) _ ts.length _ rfl HR.out ⟨w6.heap.size + 1, 0, none⟩ 1 1 [.string nm, .int .i64 ar, .slice A R.length c] rfl rfl (World.news_of_block (cs := #[.string nm, .int .i64 ar, .slice A R.length c]) (t := 51) (fr := (0, 0)) HGN.out) (by simp [Value.oneCell']) (by omega) (by have := hts.out.1; unfold maxLen; omega) (by have := hts.out.1; omega) (Nat.zero_le _) (w6.heap.size + 1 + 1) (by simp) ?_; intro g cap w7 hown7 hgrow7 hat7 hlt7; obtain ⟨m2, m3, hF⟩ := HA.out g cap w7 hown7 hgrow7 hat7; have HF := Lib.hid hF; clear hown7 hgrow7 hat7 hF)
        refine ⟨⟨3, _, _, by go_num, by omega, ⟨by have := hts.out.1; rw [List.length_append, List.length_singleton]; omega, fun t ht => ?_⟩, HF⟩, ?_⟩
        · rcases List.mem_append.1 ht with ht | ht
          · exact hts.out.2 t ht
          · obtain rfl := List.mem_singleton.1 ht
            exact HS.out.wide (by omega)
        · simp [intOf]
      · go_wp2_with fail
        refine (l4Tab_at q 3 most val ⟨#[117]⟩ w5 hI.out.dn.cur (by omega) (by omega) (by omega) (by decide)).mono ?_
        rintro e w6 ⟨nm, ar, A, c, R, rfl, hsm, ho, hc6, hg6⟩
        have hs6 := hg6.size
        have x06 := (hI.out.draw hc6 hg6).x0
        have hxl6 : xb < w6.heap.size := by omega
        have hnm : nm.size ≤ maxLen := by have := hsm.1; unfold maxLen; omega
        obtain ⟨xs, hrow, happ⟩ := hI.out.app (W1 := w6.alloc (.cells #[.string nm, .int .i64 ar, .slice A R.length c] 51)) hc6.al hg6.al (ho.alloc (.cells #[.string nm, .int .i64 ar, .slice A R.length c] 51)) (Nat.le_refl _) (by simp) hnm
        have hgn := heap_alloc_new (w6.alloc (.cells #[.string nm, .int .i64 ar, .slice A R.length c] 51)) (.cells #[.string nm, .int .i64 ar, .slice A R.length c] 51)
        rw [show (w6.alloc (.cells #[.string nm, .int .i64 ar, .slice A R.length c] 51)).heap.size = w6.heap.size + 1 by simp] at hgn happ
        have HA := Lib.hid happ
        have HR := Lib.hid hrow
        have HGN := Lib.hid hgn
        have HS := Lib.hid hsm
        clear hrow hgn
        go_wp2_with (at_builtin; refine wpList_append_lies _ rfl _ _ _ rfl 0 51 i1 _ 3 48 Tryz.underlying24 hi hz0 hz1 hz2 rfl (by omega) _ ts.length _ rfl HR.out ⟨w6.heap.size + 1, 0, none⟩ 1 1 [.string nm, .int .i64 ar, .slice A R.length c] rfl rfl (World.news_of_block (cs := #[.string nm, .int .i64 ar, .slice A R.length c]) (t := 51) (fr := (0, 0)) HGN.out) (by simp [Value.oneCell']) (by omega) (by have := hts.out.1; unfold maxLen; omega) (by have := hts.out.1; omega) (Nat.zero_le _) (w6.heap.size + 1 + 1) (by simp) ?_; intro g cap w7 hown7 hgrow7 hat7 hlt7; obtain ⟨m2, m3, hF⟩ := HA.out g cap w7 hown7 hgrow7 hat7; have HF := Lib.hid hF; clear hown7 hgrow7 hat7 hF)
        refine ⟨⟨4, _, _, by go_num, by omega, ⟨by have := hts.out.1; rw [List.length_append, List.length_singleton]; omega, fun t ht => ?_⟩, HF⟩, ?_⟩
        · rcases List.mem_append.1 ht with ht | ht
          · exact hts.out.2 t ht
          · obtain rfl := List.mem_singleton.1 ht
            exact HS.out.wide (by omega)
        · simp [intOf]
      · go_wp2_with fail
        refine (l4Tab_at q 1 most val ⟨#[118]⟩ w5 hI.out.dn.cur (by omega) (by omega) (by omega) (by decide)).mono ?_
        rintro e w6 ⟨nm, ar, A, c, R, rfl, hsm, ho, hc6, hg6⟩
        have hs6 := hg6.size
        have x06 := (hI.out.draw hc6 hg6).x0
        have hxl6 : xb < w6.heap.size := by omega
        have hnm : nm.size ≤ maxLen := by have := hsm.1; unfold maxLen; omega
        obtain ⟨xs, hrow, happ⟩ := hI.out.app (W1 := w6.alloc (.cells #[.string nm, .int .i64 ar, .slice A R.length c] 51)) hc6.al hg6.al (ho.alloc (.cells #[.string nm, .int .i64 ar, .slice A R.length c] 51)) (Nat.le_refl _) (by simp) hnm
        have hgn := heap_alloc_new (w6.alloc (.cells #[.string nm, .int .i64 ar, .slice A R.length c] 51)) (.cells #[.string nm, .int .i64 ar, .slice A R.length c] 51)
        rw [show (w6.alloc (.cells #[.string nm, .int .i64 ar, .slice A R.length c] 51)).heap.size = w6.heap.size + 1 by simp] at hgn happ
        have HA := Lib.hid happ
        have HR := Lib.hid hrow
        have HGN := Lib.hid hgn
        have HS := Lib.hid hsm
        clear hrow hgn
        go_wp2_with (at_builtin; refine wpList_append_lies _ rfl _ _ _ rfl 0 51 i1 _ 3 48 Tryz.underlying24 hi hz0 hz1 hz2 rfl (by omega) _ ts.length _ rfl HR.out ⟨w6.heap.size + 1, 0, none⟩ 1 1 [.string nm, .int .i64 ar, .slice A R.length c] rfl rfl (World.news_of_block (cs := #[.string nm, .int .i64 ar, .slice A R.length c]) (t := 51) (fr := (0, 0)) HGN.out) (by simp [Value.oneCell']) (by omega) (by have := hts.out.1; unfold maxLen; omega) (by have := hts.out.1; omega) (Nat.zero_le _) (w6.heap.size + 1 + 1) (by simp) ?_; intro g cap w7 hown7 hgrow7 hat7 hlt7; obtain ⟨m2, m3, hF⟩ := HA.out g cap w7 hown7 hgrow7 hat7; have HF := Lib.hid hF; clear hown7 hgrow7 hat7 hF)
        refine ⟨⟨5, _, _, by go_num, by omega, ⟨by have := hts.out.1; rw [List.length_append, List.length_singleton]; omega, fun t ht => ?_⟩, HF⟩, ?_⟩
        · rcases List.mem_append.1 ht with ht | ht
          · exact hts.out.2 t ht
          · obtain rfl := List.mem_singleton.1 ht
            exact HS.out.wide (by omega)
        · simp [intOf]
end Go.Proofs.YtccnhocekgikiaaGreat
