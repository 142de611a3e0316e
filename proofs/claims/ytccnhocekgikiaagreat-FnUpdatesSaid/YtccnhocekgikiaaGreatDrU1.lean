/- What the law on updates draws: bounds; rows that are read while the cursor moves. No condition. -/
import Derived.Test.YtccnhocekgikiaaGreatDrD2
namespace Go.Proofs.YtccnhocekgikiaaGreat
open Go.RowKit Go.Deep

theorem sumL_sml : ∀ {rs : List (List Int)}, (∀ r ∈ rs, r.length ≤ 16) → sumL rs ≤ 16 * rs.length
  | [], _ => by simp [sumL]
  | r :: rs, h => by
    have h1 := h r (by simp)
    have h2 := sumL_sml (rs := rs) fun x hx => h x (by simp [hx])
    rw [sumL_cons, List.length_cons]
    omega
theorem sumT_sml : ∀ {ts : List Tab}, (∀ t ∈ ts, SmlT 9 t.nm t.ar t.rs) → sumT ts ≤ 161 * ts.length
  | [], _ => by simp [sumT]
  | t :: ts, h => by
    have h1 := h t (by simp)
    have h2 := sumT_sml (ts := ts) fun x hx => h x (by simp [hx])
    have h3 := sumL_sml h1.2.2.2
    have h4 := h1.1
    have h5 := h1.2.2.1
    rw [sumT_cons, List.length_cons]
    omega
/-- Small enough for every contract. -/
def OkT (ts : List Tab) : Prop := ts.length ≤ 100 ∧ sumT ts ≤ 2000
theorem OkT.of {ts : List Tab} (h : SmlD ts) : OkT ts := ⟨by have := h.1; omega, by have h1 := sumT_sml h.2; have h2 := h.1; omega⟩
theorem OkT.valid {ts : List Tab} (h : validD ts = true) : OkT ts := by
  obtain ⟨h1, _, h3⟩ := validD_parts h
  have := sumT_valid h1
  exact ⟨by omega, by omega⟩
theorem OkT.nil : OkT [] := ⟨by simp, by simp [sumT]⟩
/-- Rows that can be read in every world that holds the blocks from lo on as they are. -/
def RdRw (lo : Nat) (w : World) (A : Option Addr) (n : Nat) (rs : List (List Int)) : Prop := ∀ W : World, w.heap.size ≤ W.heap.size → (∀ k, lo ≤ k → k < w.heap.size → W.heap[k]? = w.heap[k]?) → RdR W W.heap.size A n rs
theorem RdRw.step {lo n : Nat} {w w' : World} {A : Option Addr} {rs : List (List Int)} (h : RdRw lo w A n rs) (hs : w.heap.size ≤ w'.heap.size) (hk : ∀ k, lo ≤ k → k < w.heap.size → w'.heap[k]? = w.heap[k]?) : RdRw lo w' A n rs :=
  fun W hs2 hk2 => h W (Nat.le_trans hs hs2) fun k h1 h2 => (hk2 k h1 (Nat.lt_of_lt_of_le h2 hs)).trans (hk k h1 h2)
theorem RdRw.now {lo n : Nat} {w : World} {A : Option Addr} {rs : List (List Int)} (h : RdRw lo w A n rs) : RdR w w.heap.size A n rs := h w (Nat.le_refl _) fun _ _ _ => rfl
theorem RdRw.draw {lo q n : Nat} {w w' : World} {A : Option Addr} {rs : List (List Int)} (h : RdRw lo w A n rs) (hg : Chg q (q + 1) w w') (hq : q < lo) : RdRw lo w' A n rs := h.step hg.size fun k h1 h2 => hg.block k h2 (.inr (by omega))
theorem RdRw.below {lo n : Nat} {w w' : World} {A : Option Addr} {rs : List (List Int)} (h : RdRw lo w A n rs) (b : Below w.heap.size w w') : RdRw lo w' A n rs := h.step b.size fun k _ h2 => b.block k h2
/-- Their head lies there too. -/
theorem RdRw.head {lo n g o : Nat} {w : World} {rs : List (List Int)} (h : RdRw lo w (some ⟨g, o, none⟩) n rs) (hn : 0 < n) : lo ≤ g := by
  rcases Nat.lt_or_ge g lo with hlt | hge
  · exfalso
    have hr := h { w with heap := w.heap.setIfInBounds g (.cells #[] 0) } (by simp) fun k hk _ => by
      show (w.heap.setIfInBounds g (.cells #[] 0))[k]? = _
      rw [Array.getElem?_setIfInBounds_ne (by omega)]
    obtain ⟨b, o', r, A', c', hA, hb, _, hc, _⟩ := RdR.at_ hr hn
    injection hA with hA
    injection hA with e1 e2 _
    subst e1 e2
    have hb' : g < w.heap.size := by simpa using hb
    unfold World.cell? at hc
    simp [hb'] at hc
  · exact hge
/-- Element k: the header of its row; the row. -/
theorem RdRw.at_ {lo n k : Nat} {w : World} {A : Option Addr} {rs : List (List Int)} (h : RdRw lo w A n rs) (hk : k < n) :
    ∃ g o r A' c', A = some ⟨g, o, none⟩ ∧ lo ≤ g ∧ g < w.heap.size ∧ rs[k]? = some r ∧ w.cell? ⟨g, o + k, none⟩ = some (.slice A' r.length c') ∧
      ∀ W : World, w.heap.size ≤ W.heap.size → (∀ j, lo ≤ j → j < w.heap.size → W.heap[j]? = w.heap[j]?) → RdI W W.heap.size A' r.length r := by
  obtain ⟨g, o, r, A', c', rfl, hg, hr, hc, _⟩ := RdR.at_ h.now hk
  have hge := h.head (by omega)
  refine ⟨g, o, r, A', c', rfl, hge, hg, hr, hc, fun W hs hb => ?_⟩
  obtain ⟨g2, o2, r2, A2, c2, hA, _, hr2, k2, hi, _⟩ := RdR.at_ (h W hs hb) hk
  injection hA with hA
  injection hA with e1 e2 _
  subst e1 e2
  rw [hr] at hr2
  injection hr2 with hr2
  subst hr2
  rw [World.cell?_of_block (hb g hge hg), hc] at k2
  injection k2 with k2
  injection k2 with k2 _ _
  subst k2
  exact hi
/-- An update drawn. -/
def DrU (q : Nat) (w : World) (e : Ending) (w' : World) : Prop :=
  ∃ (nm : ByteArray) (ins : Bool) (A' : Option Addr) (n' c' : Nat) (zs : List Int), e = .returned (.agg #[.string nm, .bool ins, .slice A' n' c']) ∧ (nm.size ≤ 2000 ∧ n' ≤ 2000 ∧ zs.length = n') ∧ OwnI w' w.heap.size w'.heap.size (.slice A' n' c') zs ∧ Cur w' q ∧ Chg q (q + 1) w w'
theorem drU_of {q rb lo2 hi2 : Nat} {w W : World} {L : List (Nat × Nat × Value)} {nm : ByteArray} {ins : Bool} {A' : Option Addr} {n' c' : Nat} {zs : List Int} (dn : Dn q w L W) (hs : nm.size ≤ 2000 ∧ n' ≤ 2000 ∧ zs.length = n') (ho : OwnI W lo2 hi2 (.slice A' n' c') zs)
    (hlo : w.heap.size ≤ lo2) (hhi : hi2 ≤ W.heap.size) (hrb : w.heap.size ≤ rb ∧ (rb < lo2 ∨ hi2 ≤ rb)) (x y z : Value) :
    DrU q w (.returned (.agg #[.string nm, .bool ins, .slice A' n' c'])) (((W.setCell ⟨rb, 0, none⟩ x).setCell ⟨rb, 1, none⟩ y).setCell ⟨rb, 2, none⟩ z) := by
  have keep : ∀ (W0 : World) (i : Nat) (u : Value), OwnI W0 lo2 hi2 (.slice A' n' c') zs → OwnI (W0.setCell ⟨rb, i, none⟩ u) lo2 hi2 (.slice A' n' c') zs := fun W0 i u h => ⟨own_keep h.1 fun g hg => Below.heap_setCell _ _ _ g (by have := (h.1.lt g hg).1; have := h.2 g hg; show ¬ g = rb; omega), h.2⟩
  have hsz : (((W.setCell ⟨rb, 0, none⟩ x).setCell ⟨rb, 1, none⟩ y).setCell ⟨rb, 2, none⟩ z).heap.size = W.heap.size := by simp [World.setCell]
  have hq := dn.hq
  have h := keep _ 2 z (keep _ 1 y (keep _ 0 x ho))
  exact ⟨nm, ins, A', n', c', zs, rfl, hs, h.narrow fun g hg => ⟨by have := (h.lt g hg).1; omega, by have := (h.lt g hg).2.1; rw [hsz]; omega⟩,
    ((dn.cur.setOff (by omega)).setOff (by omega)).setOff (by omega), ((dn.chg.setOff hrb.1).setOff hrb.1).setOff hrb.1⟩
end Go.Proofs.YtccnhocekgikiaaGreat
