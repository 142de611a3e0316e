/- Slices of ints: words for memory, and the laws' helpers toIntS, eqIntS. -/
import Derived.Test.YtmojjbhjjhdpaaaDoorBase
import Derived.Test.YtmojjbhjjhdpaaaDoorWords
import Derived.OwnWalk
import Derived.Deep.OwnRows
import Derived.Deep.QuietTactic
import Derived.BigQuiet
import Derived.Outline
namespace Go.Proofs.YtmojjbhjjhdpaaaDoor
open Go.RowKit Go.Deep

/-- A slice of integers that came in (all numbers up to the capacity). -/
def IsRow (k : IntKind) (w : World) (a : Option Addr) (len cap : Nat) (zs : List Int) : Prop :=
  (a = none ∧ len = 0 ∧ cap = 0 ∧ zs = []) ∨
  ∃ x, a = some x ∧ len ≤ cap ∧ cap ≤ maxLen ∧ zs.length = cap ∧ (∀ i, i < zs.length → w.cell? (x.add i) = some (.int k (zs.getD i 0))) ∧ ∀ n ∈ zs, (Lit.int k n).wf = true

/-- The slice at A with n elements reads as the ints zs, below block B. -/
def RdI (w : World) (B : Nat) (A : Option Addr) (n : Nat) (zs : List Int) : Prop :=
  zs.length = n ∧ (0 < n → ∃ b o, A = some ⟨b, o, none⟩ ∧ b < B ∧ ∀ j x, zs[j]? = some x → w.cell? ⟨b, o + j, none⟩ = some (.int .i64 x))

theorem addr_add (b o j : Nat) : (⟨b, o, none⟩ : Addr).add j = ⟨b, o + j, none⟩ := by unfold Addr.add; split <;> simp_all

theorem RdI.at_ {w : World} {B n k : Nat} {A : Option Addr} {zs : List Int} (h : RdI w B A n zs) (hk : k < n) :
    ∃ b o x, A = some ⟨b, o, none⟩ ∧ b < B ∧ zs[k]? = some x ∧ w.cell? ⟨b, o + k, none⟩ = some (.int .i64 x) := by
  obtain ⟨b, o, hA, hb, hc⟩ := h.2 (by omega)
  have hl : k < zs.length := by have := h.1; omega
  exact ⟨b, o, zs[k], hA, hb, List.getElem?_eq_getElem hl, hc k _ (List.getElem?_eq_getElem hl)⟩
theorem RdI.keep {w w' : World} {B n : Nat} {A : Option Addr} {zs : List Int} (h : RdI w B A n zs) (hk : ∀ p : Addr, p.block < B → w'.cell? p = w.cell? p) : RdI w' B A n zs :=
  ⟨h.1, fun hn => by
    obtain ⟨b, o, hA, hb, hc⟩ := h.2 hn
    exact ⟨b, o, hA, hb, fun j x hx => (hk _ hb).trans (hc j x hx)⟩⟩
theorem RdI.more {w : World} {B B' n : Nat} {A : Option Addr} {zs : List Int} (h : RdI w B A n zs) (hB : B ≤ B') : RdI w B' A n zs :=
  ⟨h.1, fun hn => by
    obtain ⟨b, o, hA, hb, hc⟩ := h.2 hn
    exact ⟨b, o, hA, by omega, hc⟩⟩
theorem RdI.below {w w' : World} {B n : Nat} {A : Option Addr} {zs : List Int} (h : RdI w B A n zs) (hb : Below B w w') : RdI w' B A n zs := h.keep fun _ hp => hb.cell hp
theorem RdI.go {w w' : World} {B B' n : Nat} {A : Option Addr} {zs : List Int} (h : RdI w B A n zs) (hb : Below B' w w') (hB : B ≤ B') : RdI w' B' A n zs := (h.more hB).below hb
theorem RdI.size_le {w : World} {B n : Nat} {A : Option Addr} {zs : List Int} (h : RdI w B A n zs) (_ : B ≤ w.heap.size) : RdI w w.heap.size A n zs :=
  ⟨h.1, fun hn => by
    obtain ⟨b, o, hA, hb, hc⟩ := h.2 hn
    exact ⟨b, o, hA, by omega, hc⟩⟩

theorem rdI_of_row {w : World} {a : Option Addr} {len cap : Nat} {zs : List Int} (h : IsRow .i64 w a len cap zs) : RdI w w.heap.size a len (zs.take len) ∧ len ≤ maxLen := by
  rcases h with ⟨rfl, rfl, rfl, rfl⟩ | ⟨x, rfl, hl, hm, hz, hcell, _⟩
  · exact ⟨⟨rfl, fun h => absurd h (by omega)⟩, by unfold maxLen; omega⟩
  · refine ⟨⟨by rw [List.length_take, hz]; omega, fun hn => ?_⟩, by omega⟩
    obtain ⟨b, off, spot⟩ := x
    have hc := hcell 0 (by omega)
    have hspot : spot = none := by simpa [Addr.add] using World.cell?_spot hc
    subst hspot
    refine ⟨b, off, rfl, ?_, fun j y hy => ?_⟩
    · have := World.block_lt_of_cell? w _ hc
      rw [addr_add] at this
      exact this
    · have hj : j < zs.length := by
        rw [List.getElem?_take] at hy
        split at hy
        · exact (List.getElem?_eq_some_iff.1 hy).1
        · cases hy
      rw [← addr_add, hcell j hj]
      rw [List.getElem?_take] at hy
      split at hy
      · rw [List.getD_eq_getElem?_getD, hy]
        rfl
      · cases hy

/-- Block g is just the ints zs. -/
def IBlk (w : World) (g : Nat) (zs : List Int) : Prop := w.heap[g]? = some (.cells (zs.map iv).toArray 3 (0, 0))
theorem IBlk.lt {w : World} {g : Nat} {zs : List Int} (h : IBlk w g zs) : g < w.heap.size := (Array.getElem?_eq_some_iff.1 h).1
theorem IBlk.cell {w : World} {g : Nat} {zs : List Int} (h : IBlk w g zs) (j : Nat) : w.cell? ⟨g, j, none⟩ = (zs[j]?).map iv := by
  unfold IBlk at h
  rw [cell_of_row w g j _ _ (0, 0) h]
  simp
theorem IBlk.frozen {w : World} {g : Nat} {zs : List Int} (h : IBlk w g zs) (j : Nat) : w.frozen? ⟨g, j, none⟩ = false := by
  unfold IBlk at h
  simp [World.frozen?, h]
theorem IBlk.below {w w' : World} {B g : Nat} {zs : List Int} (h : IBlk w g zs) (hb : Below B w w') (hg : g < B) : IBlk w' g zs := (hb.block g hg).trans h
theorem IBlk.set_ {w : World} {g : Nat} {zs : List Int} (h : IBlk w g zs) (i : Nat) (x : Int) : IBlk (w.setCell ⟨g, i, none⟩ (.int .i64 x)) g (zs.set i x) := by
  unfold IBlk at h ⊢
  simp [World.setCell, Array.getElem?_modify, h, List.map_set, iv]
theorem IBlk.rd {w : World} {g B : Nat} {zs : List Int} (h : IBlk w g zs) (hB : g < B) : RdI w B (some ⟨g, 0, none⟩) zs.length zs :=
  ⟨rfl, fun _ => ⟨g, 0, rfl, hB, fun j x hx => by rw [Nat.zero_add, h.cell, hx]; rfl⟩⟩
theorem IBlk.rd' {w : World} {g n : Nat} {zs : List Int} (h : IBlk w g zs) (hn : zs.length = n) : RdI w w.heap.size (some ⟨g, 0, none⟩) n zs := by
  subst hn
  exact h.rd h.lt
theorem IBlk.next {w w' : World} {g : Nat} {zs : List Int} (h : IBlk w g zs) (hb : Below w.heap.size w w') : IBlk w' g zs := h.below hb h.lt
theorem RdI.next {w w' : World} {n : Nat} {A : Option Addr} {zs : List Int} (h : RdI w w.heap.size A n zs) (hb : Below w.heap.size w w') : RdI w' w'.heap.size A n zs := (h.below hb).more hb.size
theorem below_chain {w w1 w2 : World} {B : Nat} (h : Below B w w1) (k : Below w1.heap.size w1 w2) (hB : B ≤ w1.heap.size) : Below B w w2 := h.trans (k.mono hB)
/-- A value that is a row of the call's own, in a block from lo to hi, and reads as the ints zs. -/
def OwnI (w : World) (lo hi : Nat) (v : Value) (zs : List Int) : Prop := w.ownsRow lo 3 1 v zs.length (zs.map iv) ∧ ∀ g, v.ownBlock = some g → g < hi
theorem own_form {w : World} {lo n : Nat} {v : Value} {e : TypeId} {size : Nat} {xs : List Value} (h : w.ownsRow lo e size v n xs) : ∃ A c, v = .slice A n c := by
  rcases h.2 with ⟨hv, h0⟩ | ⟨g, cap, cur, hv, _⟩
  · exact ⟨none, 0, by rw [hv, h0]⟩
  · exact ⟨_, _, hv⟩
theorem OwnI.form {w : World} {lo hi : Nat} {v : Value} {zs : List Int} (h : OwnI w lo hi v zs) : ∃ A c, v = .slice A zs.length c := own_form h.1
theorem OwnI.rd {w : World} {lo hi n c : Nat} {A : Option Addr} {zs : List Int} (h : OwnI w lo hi (.slice A n c) zs) (hn : zs.length = n) : RdI w hi A n zs := by
  subst hn
  refine ⟨rfl, fun hn => ?_⟩
  rcases h.1.2 with ⟨hv, h0⟩ | ⟨g, cap, cur, hv, _, hg, _, _, _, ht⟩
  · omega
  · injection hv with hA _ _
    subst hA
    refine ⟨g, 0, rfl, h.2 g rfl, fun j x hx => ?_⟩
    rw [Nat.zero_add, cell_of_row w g j _ _ (0, 0) hg]
    have hj : j < zs.length := (List.getElem?_eq_some_iff.1 hx).1
    have h1 : (cur.toList.take (zs.length * 1))[j]? = (zs.map iv)[j]? := by rw [ht]
    rw [List.getElem?_take, if_pos (by omega), List.getElem?_map, hx] at h1
    simpa [iv] using h1
theorem IBlk.ownI {w : World} {g lo hi : Nat} {zs : List Int} (h : IBlk w g zs) (hlo : lo ≤ g) (hhi : g < hi) (hl : zs.length ≤ maxLen) : OwnI w lo hi (.slice (some ⟨g, 0, none⟩) zs.length zs.length) zs :=
  ⟨⟨by simp, .inr ⟨g, zs.length, (zs.map iv).toArray, rfl, hlo, h, Nat.le_refl _, hl, by simp, by rw [Nat.mul_one]; exact List.take_of_length_le (by simp)⟩⟩, fun g' hg' => by
    simp [Value.ownBlock] at hg'
    omega⟩
theorem OwnI.nil (w : World) (lo hi : Nat) : OwnI w lo hi (.slice none 0 0) [] := ⟨World.ownsRow_nil _ _ _ _, fun g hg => by simp [Value.ownBlock] at hg⟩
theorem ownI_of {w : World} {lo : Nat} {v : Value} {zs : List Int} (h : w.ownsRow lo 3 1 v zs.length (zs.map iv)) : OwnI w lo w.heap.size v zs := ⟨h, fun g hg => (h.lt g hg).2⟩
theorem own_snoc {w : World} {lo : Nat} {v : Value} {zs : List Int} {x : Int} (h : w.ownsRow lo 3 1 v (zs.length + 1) (zs.map iv ++ [.int .i64 x])) : w.ownsRow lo 3 1 v (zs ++ [x]).length ((zs ++ [x]).map iv) := by
  rw [List.length_append, List.length_singleton, List.map_append]
  exact h
theorem own_empty (w : World) (lo : Nat) (h : lo ≤ w.heap.size) : (w.alloc (.cells #[] 3)).ownsRow lo 3 1 (.slice (some ⟨w.heap.size, 0, none⟩) 0 0) ([] : List Int).length (([] : List Int).map iv) :=
  World.ownsRow_made (base := lo) (e := 3) (size := 1) w #[] 0 h (by unfold maxLen; omega) rfl
/-- Blocks from lo to hi may have changed, and blocks may have come; all else is as it was. -/
structure Chg (lo hi : Nat) (w w' : World) : Prop where
  os : w'.os = w.os
  tape : w'.tape = w.tape
  output : w'.output = w.output
  size : w.heap.size ≤ w'.heap.size
  block : ∀ k, k < w.heap.size → (k < lo ∨ hi ≤ k) → w'.heap[k]? = w.heap[k]?
theorem Chg.below {lo hi B : Nat} {w w' : World} (h : Chg lo hi w w') (hB : B ≤ lo) (hs : B ≤ w.heap.size) : Below B w w' := ⟨h.os, h.tape, h.output, h.size, fun k hk => h.block k (by omega) (.inl (by omega))⟩
theorem Chg.trans {lo hi : Nat} {a b c : World} (h : Chg lo hi a b) (k : Chg lo hi b c) : Chg lo hi a c :=
  ⟨k.os.trans h.os, k.tape.trans h.tape, k.output.trans h.output, Nat.le_trans h.size k.size, fun i hi hne => (k.block i (Nat.lt_of_lt_of_le hi h.size) hne).trans (h.block i hi hne)⟩
theorem Chg.refl (lo hi : Nat) (w : World) : Chg lo hi w w := ⟨rfl, rfl, rfl, Nat.le_refl _, fun _ _ _ => rfl⟩
theorem OwnI.lt {w : World} {lo hi : Nat} {v : Value} {zs : List Int} (h : OwnI w lo hi v zs) : ∀ g, v.ownBlock = some g → lo ≤ g ∧ g < hi ∧ g < w.heap.size := fun g hg => ⟨(h.1.lt g hg).1, h.2 g hg, (h.1.lt g hg).2⟩
theorem own_keep {w w' : World} {lo n size : Nat} {e : TypeId} {v : Value} {xs : List Value} (h : w.ownsRow lo e size v n xs) (hk : ∀ g, v.ownBlock = some g → w'.heap[g]? = w.heap[g]?) : w'.ownsRow lo e size v n xs := by
  refine ⟨h.1, ?_⟩
  rcases h.2 with hn | ⟨g, cap, cur, rfl, hb, hgg, rest⟩
  · exact .inl hn
  · exact .inr ⟨g, cap, cur, rfl, hb, (hk g rfl).trans hgg, rest⟩
theorem OwnI.chg {w w' : World} {lo hi a b : Nat} {v : Value} {zs : List Int} (h : OwnI w lo hi v zs) (c : Chg a b w w') (hd : hi ≤ a ∨ b ≤ lo) : OwnI w' lo hi v zs :=
  ⟨own_keep h.1 fun g hg => c.block g (h.lt g hg).2.2 (by have := h.lt g hg; omega), h.2⟩
theorem OwnI.below {w w' : World} {lo hi B : Nat} {v : Value} {zs : List Int} (h : OwnI w lo hi v zs) (b : Below B w w') (hd : hi ≤ B) : OwnI w' lo hi v zs :=
  ⟨own_keep h.1 fun g hg => b.block g (by have := h.lt g hg; omega), h.2⟩
theorem OwnI.wide {w : World} {lo hi hi' : Nat} {v : Value} {zs : List Int} (h : OwnI w lo hi v zs) (hd : hi ≤ hi') : OwnI w lo hi' v zs := ⟨h.1, fun g hg => by have := h.2 g hg; omega⟩
theorem RdI.chg {w w' : World} {B n a b : Nat} {A : Option Addr} {zs : List Int} (h : RdI w B A n zs) (c : Chg a b w w') (hB : B ≤ a) (hs : B ≤ w.heap.size) : RdI w' B A n zs := h.below (c.below hB hs)
theorem RdI.belowB {w w' : World} {B B' n : Nat} {A : Option Addr} {zs : List Int} (h : RdI w B A n zs) (b : Below B' w w') (hB : B ≤ B') : RdI w' B A n zs := h.below (b.mono hB)

def zerI (d : Nat) : Array Value := ((List.replicate d (0 : Int)).map iv).toArray
theorem made_zerI (d : Nat) : madeCells #[.int .i64 0] d = zerI d := by
  unfold zerI madeCells
  apply Array.ext
  · simp
  · intro i h1 h2
    simp [iv, Nat.mod_one]
theorem info_int : (Tryd.prog.info? 3).map (fun i => (i.zero, i.size, i.bytes)) = some (some (.int .i64 0), 1, 8) := by kernel_rfl
theorem make_ints (n : Nat) (h : n ≤ 17592186044416) (W : World) : (Instr.makeSlice 92 (.int .i64 (n : Int)) (.int .i64 (n : Int))).run Tryd.prog W = .ok (.slice (some ⟨W.heap.size, 0, none⟩) n n) (W.alloc (.cells (zerI n) 3)) := by
  rw [← made_zerI]
  exact run_make_row' (P := Tryd.prog) 92 3 (.int .i64 0) 8 Tryd.underlying92 info_int rfl .i64 .i64 n (by omega) (by omega) W

/-- The first k of zs, then zeros. -/
def fillI (zs : List Int) (k : Nat) : List Int := zs.take k ++ List.replicate (zs.length - k) 0
theorem fillI_zero (zs : List Int) : fillI zs 0 = List.replicate zs.length 0 := by simp [fillI]
theorem fillI_full (zs : List Int) : fillI zs zs.length = zs := by simp [fillI]
theorem fillI_length (zs : List Int) (k : Nat) (h : k ≤ zs.length) : (fillI zs k).length = zs.length := by simp [fillI]; omega
theorem fillI_step {zs : List Int} {k : Nat} {x : Int} (h : zs[k]? = some x) : (fillI zs k).set k x = fillI zs (k + 1) := by
  have hk : k < zs.length := (List.getElem?_eq_some_iff.1 h).1
  have hx : zs[k] = x := (List.getElem?_eq_some_iff.1 h).2
  unfold fillI
  obtain ⟨m, hm⟩ : ∃ m, zs.length - k = m + 1 := ⟨zs.length - k - 1, by omega⟩
  rw [List.set_append_right _ _ (by rw [List.length_take]; omega), List.length_take, Nat.min_eq_left (by omega), Nat.sub_self, hm, List.replicate_succ, List.set_cons_zero, List.take_succ_eq_append_getElem hk, hx,
    List.append_assoc, List.singleton_append, show zs.length - (k + 1) = m from by omega]

set_option maxRecDepth 100000 in
set_option maxHeartbeats 400000 in
theorem toIntS_blk (A : Option Addr) (n c : Nat) (zs : List Int) (w : World) (hr : RdI w w.heap.size A n zs) (hn : n ≤ 1048576) :
    Calls Tryd.prog 112 #[.slice A n c] w fun e w' => e = .returned (.slice (some ⟨w.heap.size, 0, none⟩) n n) ∧ IBlk w' w.heap.size zs ∧ Below w.heap.size w w' := by
  have hmk := make_ints n (by omega)
  have hlen := hr.1
  have HL := Lib.hid hlen
  have hle1 : zs.length ≤ n := by omega
  have hle2 : n ≤ zs.length := by omega
  clear hlen
  go_enter Tryd.func112, Tryd.ntmps112
  go_wp2
  go_loopw [4] (fun i wr => ∃ k : Nat, k ≤ n ∧ i = .int .i64 k ∧ IBlk wr w.heap.size (fillI zs k) ∧ Below w.heap.size w wr) (fun i _ => n - (intOf i).toNat)
  case atStart => exact ⟨0, by omega, rfl, by rw [fillI_zero, HL.out]; exact heap_alloc_new w _, (Below.refl _ _).alloc (Nat.le_refl _) _⟩
  case round =>
    obtain ⟨k, hk, rfl, hblk, hbel⟩ := hrel
    by_cases hlt : k < n
    · obtain ⟨b, o, x, rfl, hb, hx, hc⟩ := hr.at_ hlt
      have hc1 := (hbel.cell (p := ⟨b, o + k, none⟩) hb).trans hc
      have hfr := hblk.frozen k
      have hl := fillI_length zs k (by omega)
      obtain ⟨y, hy⟩ : ∃ y, wr.cell? ⟨w.heap.size, k, none⟩ = some (.int .i64 y) := by
        rw [hblk.cell, List.getElem?_eq_getElem (by omega)]
        exact ⟨_, rfl⟩
      have HX := Lib.hid hx
      have hstep := Lib.hid (show IBlk (wr.setCell ⟨w.heap.size, k, none⟩ (.int .i64 x)) w.heap.size (fillI zs (k + 1)) by rw [← fillI_step hx]; exact hblk.set_ k x)
      clear hx hl hc
      go_wp2
      refine ⟨⟨k + 1, by omega, by go_num, hstep.out, hbel.setCell (Nat.le_refl _) _⟩, ?_⟩
      simp [intOf]
      omega
    · obtain rfl : k = n := by omega
      go_wp2
      go_ret
      exact ⟨rfl, by rw [← HL.out, fillI_full] at hblk; exact hblk, hbel⟩

set_option maxRecDepth 100000 in
set_option maxHeartbeats 400000 in
theorem eqIntS_q (A A' : Option Addr) (n c n' c' : Nat) (zs zs' : List Int) (w : World) (hr : RdI w w.heap.size A n zs) (hr' : RdI w w.heap.size A' n' zs') (hn : n ≤ 9223372036854775807) (hn' : n' ≤ 9223372036854775807) :
    Calls Tryd.prog 117 #[.slice A n c, .slice A' n' c'] w fun e w' => e = .returned (.bool (decide (zs = zs'))) ∧ Qt w w' := by
  by_cases hne : n = n'
  · subst hne
    go_enter Tryd.func117, Tryd.ntmps117
    go_wp2
    go_loopw [5] (fun i wr => ∃ k : Nat, k ≤ n ∧ i = .int .i64 k ∧ Hid (zs.take k = zs'.take k) ∧ Qt w wr) (fun i _ => n - (intOf i).toNat)
    case atStart => exact ⟨0, by omega, rfl, rfl, Qt.refl _⟩
    case round =>
      obtain ⟨k, hk, rfl, hpre, hbel⟩ := hrel
      by_cases hlt : k < n
      · obtain ⟨b, o, x, rfl, hb, hx, hc⟩ := hr.at_ hlt
        obtain ⟨b', o', x', rfl, hb', hx', hc'⟩ := hr'.at_ hlt
        have hc1 := (hbel.cell (p := ⟨b, o + k, none⟩)).trans hc
        have hc2 := (hbel.cell (p := ⟨b', o' + k, none⟩)).trans hc'
        have g1 : (0 : Int) ≤ (k : Int) := by omega
        have g2 : (k : Int) < (n : Int) := by omega
        have g3 : (k : Int).toNat = k := by omega
        have HX := Lib.hid hx
        have HX' := Lib.hid hx'
        clear hx hx' hc hc'
        by_cases he : x = x'
        · have hpre' : Hid (zs.take (k + 1) = zs'.take (k + 1)) := by
            show zs.take (k + 1) = zs'.take (k + 1)
            rw [List.take_add_one, List.take_add_one, HX.out, HX'.out, he, hpre.out]
          have hbq : (x != x') = false := by simp [he]
          clear he
          go_wp2_with fail
          go_quiet (fail)
          clear g3
          go_wp2
          refine ⟨⟨k + 1, by omega, by go_num, hpre', hbel.drewN _⟩, ?_⟩
          simp [intOf]
          omega
        · have hfin : Hid (decide (zs = zs') = false) := by
            show decide (zs = zs') = false
            rw [decide_eq_false_iff_not]
            rintro rfl
            have h1 := HX.out
            rw [HX'.out] at h1
            exact he (by injection h1 with h1; exact h1.symm)
          have hbq : (x != x') = true := by simpa using he
          clear he
          go_wp2_with fail
          go_quiet (fail)
          clear g3
          go_wp2
          go_ret
          exact ⟨by rw [hfin.out] <;> rfl, hbel.drewN _⟩
      · obtain rfl : k = n := by omega
        have hfin : Hid (decide (zs = zs') = true) := by
          show decide (zs = zs') = true
          rw [decide_eq_true_eq]
          have h1 := hpre.out
          rwa [List.take_of_length_le (Nat.le_of_eq hr.1), List.take_of_length_le (Nat.le_of_eq hr'.1)] at h1
        go_wp2
        go_ret
        exact ⟨by rw [hfin.out] <;> rfl, hbel⟩
  · have hfin : Hid (decide (zs = zs') = false) := by
      show decide (zs = zs') = false
      rw [decide_eq_false_iff_not]
      rintro rfl
      exact hne (hr.1.symm.trans hr'.1)
    have hbq : ((n : Int) != (n' : Int)) = true := by simp; omega
    clear hne
    go_enter Tryd.func117, Tryd.ntmps117
    go_wp2
    go_ret
    exact ⟨by rw [hfin.out] <;> rfl, Qt.refl _⟩
theorem eqIntS_any (A A' : Option Addr) (n c n' c' : Nat) (zs zs' : List Int) (w : World) (hr : RdI w w.heap.size A n zs) (hr' : RdI w w.heap.size A' n' zs') (hn : n ≤ 9223372036854775807) (hn' : n' ≤ 9223372036854775807) :
    Calls Tryd.prog 117 #[.slice A n c, .slice A' n' c'] w fun e w' => e = .returned (.bool (decide (zs = zs'))) ∧ Below w.heap.size w w' :=
  (eqIntS_q A A' n c n' c' zs zs' w hr hr' hn hn').mono fun _ _ ⟨he, hq⟩ => ⟨he, hq.below _⟩

theorem toIntS_any (A : Option Addr) (n c B : Nat) (zs : List Int) (w : World) (hr : RdI w B A n zs) (hB : B ≤ w.heap.size) (hn : n ≤ 1048576) :
    Calls Tryd.prog 112 #[.slice A n c] w fun e w' => e = .returned (.slice (some ⟨w.heap.size, 0, none⟩) n n) ∧ OwnI w' w.heap.size w'.heap.size (.slice (some ⟨w.heap.size, 0, none⟩) n n) zs ∧ Below w.heap.size w w' :=
  (toIntS_blk A n c zs w (hr.more hB) hn).mono fun _ _ ⟨he, hk, hb⟩ => ⟨he, by
    have h := hk.ownI (Nat.le_refl _) hk.lt (by rw [hr.1]; unfold maxLen; omega)
    rwa [hr.1] at h, hb⟩
theorem eqIntS_same (A A' : Option Addr) (n c n' c' B B' : Nat) (zs : List Int) (w : World) (hr : RdI w B A n zs) (hr' : RdI w B' A' n' zs) (hB : B ≤ w.heap.size) (hB' : B' ≤ w.heap.size) (hn : zs.length ≤ 1048576) :
    Calls Tryd.prog 117 #[.slice A n c, .slice A' n' c'] w fun e w' => e = .returned (.bool true) ∧ Below w.heap.size w w' :=
  (eqIntS_any A A' n c n' c' zs zs w (hr.more hB) (hr'.more hB') (by rw [← hr.1]; omega) (by rw [← hr'.1]; omega)).mono fun _ _ ⟨he, hb⟩ => ⟨by rw [he]; simp, hb⟩
end Go.Proofs.YtmojjbhjjhdpaaaDoor
