/- The laws' helpers on updates: toUpdate, szUpdate, eqUpdate, markUpdate, heldUpdate; an update as an argument. No condition but the size that the laws let in. -/
import Derived.Test.YtimlecfneibjlaaTabR
import Derived.Test.YtimlecfneibjlaaOpen
import Derived.Test.YtimlecfneibjlaaDbHeld
namespace Go.Proofs.Ytimlecfneibjlaa
open Go.RowKit Go.Deep Go.ChangeShapes Go.WideShapes

theorem OwnI.setOff {w : World} {lo hi b i : Nat} {v x : Value} {zs : List Int} (h : OwnI w lo hi v zs) (hb : b < lo ∨ hi ≤ b) : OwnI (w.setCell ⟨b, i, none⟩ x) lo hi v zs :=
  ⟨own_keep h.1 fun g hg => by have := h.lt g hg; exact (chgF_setCell w b i x).block g this.2.2 (by omega), h.2⟩
theorem OwnI.alloc {w : World} {lo hi : Nat} {v : Value} {zs : List Int} (h : OwnI w lo hi v zs) (o : Obj) : OwnI (w.alloc o) lo hi v zs :=
  ⟨own_keep h.1 fun g hg => by have := h.lt g hg; exact (chgF_alloc w o fun _ => False).block g this.2.2 id, h.2⟩
theorem OwnI.len_eq {w : World} {lo hi n c : Nat} {A : Option Addr} {zs : List Int} (h : OwnI w lo hi (.slice A n c) zs) : zs.length = n := by
  obtain ⟨A', c', hv⟩ := h.form
  injection hv with _ hn _
  exact hn.symm
theorem OwnI.downTo {w : World} {lo lo' hi : Nat} {v : Value} {zs : List Int} (h : OwnI w lo hi v zs) (hd : lo' ≤ lo) : OwnI w lo' hi v zs :=
  ⟨ownsRow_base h.1 fun g hg => by have := h.lt g hg; omega, h.2⟩
theorem rdI_next {W w1 : World} {A : Option Addr} {n : Nat} {zs : List Int} (b : Below W.heap.size W w1) (h : RdI W W.heap.size A n zs) : RdI w1 w1.heap.size A n zs := h.next b
theorem rdI_al {W : World} {o : Obj} {A : Option Addr} {n : Nat} {zs : List Int} (h : RdI W W.heap.size A n zs) : RdI (W.alloc o) (W.alloc o).heap.size A n zs := h.next ((Below.refl _ _).alloc (Nat.le_refl _) _)

/-- A new update, behind a name. -/
def UpdNew (nm : ByteArray) (ins : Bool) (zs : List Int) (w : World) (e : Ending) (w' : World) : Prop :=
  ∃ (A : Option Addr) (c : Nat), e = .returned (.agg #[.string nm, .bool ins, .slice A zs.length c]) ∧ OwnI w' w.heap.size w'.heap.size (.slice A zs.length c) zs ∧ Below w.heap.size w w'
theorem UpdNew.of {nm : ByteArray} {ins : Bool} {zs : List Int} {w w' : World} {A : Option Addr} {n c : Nat} (h : OwnI w' w.heap.size w'.heap.size (.slice A n c) zs) (hb : Below w.heap.size w w') :
    UpdNew nm ins zs w (.returned (.agg #[.string nm, .bool ins, .slice A n c])) w' := by
  have hn := h.len_eq
  subst hn
  exact ⟨A, c, rfl, h, hb⟩
/-- A new update and a bool. -/
def UpdAns (nm : ByteArray) (ins : Bool) (zs : List Int) (ok : Bool) (w : World) (e : Ending) (w' : World) : Prop :=
  ∃ (A : Option Addr) (c : Nat), e = .returned (.tuple #[.agg #[.string nm, .bool ins, .slice A zs.length c], .bool ok]) ∧ OwnI w' w.heap.size w'.heap.size (.slice A zs.length c) zs ∧ Below w.heap.size w w'
theorem UpdAns.of {nm : ByteArray} {ins ok : Bool} {zs : List Int} {w w' : World} {A : Option Addr} {n c : Nat} (h : OwnI w' w.heap.size w'.heap.size (.slice A n c) zs) (hb : Below w.heap.size w w') :
    UpdAns nm ins zs ok w (.returned (.tuple #[.agg #[.string nm, .bool ins, .slice A n c], .bool ok])) w' := by
  have hn := h.len_eq
  subst hn
  exact ⟨A, c, rfl, h, hb⟩

set_option maxRecDepth 100000 in
set_option maxHeartbeats 400000 in
theorem toUpdate_any (nm : ByteArray) (ins : Bool) (A : Option Addr) (n c B : Nat) (zs : List Int) (w : World) (hr : RdI w B A n zs) (hB : B ≤ w.heap.size) (hn : n ≤ 1048576) :
    Calls Try.prog 43 #[.agg #[.string nm, .bool ins, .slice A n c]] w (UpdNew nm ins zs w) := by
  go_enter Try.func43, Try.ntmps43
  go_wp2_with fail
  refine (toIntS_any A n c B zs _ (RdI.belowB hr ((((Below.refl B w).alloc hB _).alloc (by simp; omega) _).alloc (by simp; omega) _) (Nat.le_refl _)) (by simp; omega) hn).mono ?_
  rintro e w1 ⟨rfl, ho, hb⟩
  have hs := hb.size
  simp at hs
  obtain ⟨hc, hf⟩ := bcells hb
  have hbel := Lib.hid (((((Below.refl w.heap.size w).alloc (Nat.le_refl _) _).alloc (by simp) _).alloc (by simp; omega) _).trans (hb.mono (by simp; omega)))
  have HO := Lib.hid ho
  clear hb ho
  go_wp2_with fail
  refine bodyPost_ret (v := .agg #[.string nm, .bool ins, .slice (some ⟨w.heap.size + 3, 0, none⟩) n n]) (by simp [results, Try.results43, go_sem, *]) rfl (UpdNew.of ?_ ?_)
  · have h2 : OwnI w1 (w.heap.size + 3) w1.heap.size (.slice (some ⟨w.heap.size + 3, 0, none⟩) n n) zs := by simpa using HO.out
    refine OwnI.downTo (lo := w.heap.size + 3) (OwnI.wide (hi := w1.heap.size) ?_ (by simp)) (by omega)
    repeat refine OwnI.setOff ?_ (by omega)
    exact h2
  · repeat first | exact hbel.out | (refine Below.setCell ?_ ?_ _; rotate_left; (simp; try omega))

set_option maxRecDepth 100000 in
set_option maxHeartbeats 400000 in
theorem eqUpdate_same (nm : ByteArray) (ins : Bool) (A A' : Option Addr) (n c n' c' B B' : Nat) (zs : List Int) (w : World) (hr : RdI w B A n zs) (hr' : RdI w B' A' n' zs) (hB : B ≤ w.heap.size) (hB' : B' ≤ w.heap.size) (hn : zs.length ≤ 1048576) :
    Calls Try.prog 45 #[.agg #[.string nm, .bool ins, .slice A n c], .agg #[.string nm, .bool ins, .slice A' n' c']] w fun e w' => e = .returned (.bool true) ∧ Below w.heap.size w w' := by
  have q2 : (ins != ins) = false := by simp
  have HB := Lib.hid (Below.refl w.heap.size w)
  go_enter Try.func45, Try.ntmps45
  go_wp2_with fail
  refine (eqIntS_same A A' n c n' c' B B' zs _ (RdI.belowB hr (((Below.refl B w).alloc hB _).alloc (by simp; omega) _) (Nat.le_refl _)) (RdI.belowB hr' (((Below.refl B' w).alloc hB' _).alloc (by simp; omega) _) (Nat.le_refl _)) (by simp; omega) (by simp; omega) hn).mono ?_
  rintro e w1 ⟨rfl, hq⟩
  have hbel := Lib.hid ((((HB.out).alloc (Nat.le_refl _) _).alloc (by simp) _).trans (hq.mono (by simp; omega)))
  clear hq
  go_wp2_with fail
  go_ret
  exact ⟨rfl, hbel.out⟩

set_option maxRecDepth 100000 in
set_option maxHeartbeats 400000 in
theorem markUpdate_any (nm : ByteArray) (ins : Bool) (A : Option Addr) (n c lo hi : Nat) (zs : List Int) (k : Int) (w : World) (ho : OwnI w lo hi (.slice A n c) zs) (hn : n ≤ 1048576) (hk : 0 ≤ k) (hkn : k + n ≤ 9223372036854775807) :
    Calls Try.prog 48 #[.agg #[.string nm, .bool ins, .slice A n c], .int .i64 k] w fun e w' => e = .returned (.int .i64 (k + n)) ∧ OwnI w' lo hi (.slice A n c) (cnt k n) ∧ Chg lo hi w w' := by
  have hl := ho.len_eq
  go_enter Try.func48, Try.ntmps48
  go_wp2_with fail
  refine (markIntS_any A n c lo hi zs k _ (OwnI.alloc ho _) hl (by omega) hk hkn).mono ?_
  rintro e w1 ⟨rfl, ho1, hc1⟩
  have hfin := Lib.hid (And.intro ho1 (chg_alloc hc1))
  clear ho1 hc1
  go_wp2_with fail
  go_ret
  exact ⟨rfl, hfin.out⟩

set_option maxRecDepth 100000 in
set_option maxHeartbeats 400000 in
theorem heldUpdate_any (nm : ByteArray) (ins : Bool) (A : Option Addr) (n c B : Nat) (k : Int) (w : World) (hr : RdI w B A n (cnt k n)) (hB : B ≤ w.heap.size) (hn : n ≤ 1048576) (hk : 0 ≤ k) (hkn : k + n ≤ 9223372036854775807) :
    Calls Try.prog 49 #[.agg #[.string nm, .bool ins, .slice A n c], .int .i64 k] w fun e w' => e = .returned (.int .i64 (k + n)) ∧ Below w.heap.size w w' := by
  have b3 : ¬ (k + (n : Int) < 0) := by omega
  have HB := Lib.hid (Below.refl w.heap.size w)
  go_enter Try.func49, Try.ntmps49
  go_wp2_with fail
  refine (heldIntS_any A n c B k _ (RdI.belowB hr ((Below.refl B w).alloc hB _) (Nat.le_refl _)) (by omega) hk hkn).mono ?_
  rintro e w1 ⟨rfl, rfl⟩
  go_wp2_with fail
  go_ret
  exact ⟨rfl, (HB.out).alloc (Nat.le_refl _) _⟩

set_option maxRecDepth 100000 in
set_option maxHeartbeats 400000 in
theorem szUpdate_any (nm : ByteArray) (ins : Bool) (A : Option Addr) (n c : Nat) (left : Int) (w : World) (hnm : nm.size ≤ maxLen) (h0 : 0 ≤ left) (hl : left ≤ 1048576) (hn : n ≤ 9223372036854775807) :
    Calls Try.prog 41 #[.agg #[.string nm, .bool ins, .slice A n c], .int .i64 left] w (SzPostB (nm.size + n) left w) := by
  unfold maxLen at hnm
  have HB := Lib.hid (Below.refl w.heap.size w)
  by_cases h : left - (nm.size : Int) < 0
  · go_enter Try.func41, Try.ntmps41
    go_wp2_with fail
    go_ret
    exact ⟨_, rfl, .inl rfl, (HB.out).alloc (Nat.le_refl _) _⟩
  · go_enter Try.func41, Try.ntmps41
    go_wp2_with fail
    refine (szIntS_any A n c _ _ (by omega) (by omega) hn).mono ?_
    rintro e w1 ⟨r, rfl, hh, rfl⟩
    rcases hh with rfl | ⟨h1, h2⟩
    · go_wp2_with fail
      go_ret
      exact ⟨_, rfl, .inl rfl, (HB.out).alloc (Nat.le_refl _) _⟩
    · have h3 : ¬ r < 0 := by omega
      have H2 := Lib.hid h2
      clear h2
      go_wp2_with fail
      go_ret
      exact ⟨_, rfl, .inr ⟨h1, by have := H2.out; omega⟩, (HB.out).alloc (Nat.le_refl _) _⟩

section
variable {H : Type} {enc : TypeId × Value → H} {W : World}
/-- A slice of ints among the cells, read. -/
theorem open_ints1 {n : Nat} {cs' : List Value} {y : DataW H × List MemPlace} (h : DataW.trod enc Try.prog W 0 (fun _ => true) true n 59 cs' = some y) :
    ∃ (A : Option Addr) (len cap : Nat) (zs : List Int), cs' = [.slice A len cap] ∧ len ≤ maxLen ∧ RdI W W.heap.size A len zs := by
  rcases open_ints Try.underlying59 Try.underlying3 (by kernel_rfl) h with ⟨hcs, _⟩ | ⟨x, l, c, zs, hcs, _, hl, hm, hz, _, hcell, hwz⟩
  · exact ⟨none, 0, 0, [], hcs, by unfold maxLen; simp, ⟨rfl, fun h => absurd h (by simp)⟩⟩
  · have hr := rdI_of_row (w := W) (a := some x) (len := l) (cap := c) (zs := zs) (.inr ⟨_, rfl, hl, hm, by simpa using hz, hcell, hwz⟩)
    exact ⟨some x, l, c, zs.take l, hcs, hr.2, hr.1⟩
end
end Go.Proofs.Ytimlecfneibjlaa
