/- The laws' helpers on tables: toTable, eqTable, markTable, heldTable, szTable. No condition but the size that the laws let in. -/
import Derived.Test.YtmojjbhjjhdpaaaDoorLawR
import Derived.Test.YtmojjbhjjhdpaaaDoorLawE
namespace Go.Proofs.YtmojjbhjjhdpaaaDoor
open Go.RowKit Go.Deep

theorem bcells {W w1 : World} (hb : Below W.heap.size W w1) : (∀ b o, b < W.heap.size → w1.cell? ⟨b, o, none⟩ = W.cell? ⟨b, o, none⟩) ∧ (∀ b o, b < W.heap.size → w1.frozen? ⟨b, o, none⟩ = W.frozen? ⟨b, o, none⟩) :=
  ⟨fun b o h => hb.cell (p := ⟨b, o, none⟩) h, fun b o h => hb.frozen (p := ⟨b, o, none⟩) h⟩
theorem OwnR.setLow {w : World} {lo hi b i : Nat} {v x : Value} {rs : List (List Int)} (h : OwnR w lo hi v rs) (hb : b < lo) : OwnR (w.setCell ⟨b, i, none⟩ x) lo hi v rs := by
  obtain ⟨F, h1, h2⟩ := h
  exact ⟨F, h1.chgF eRow_ok (chgF_setCell w b i x) fun k hk e => by have := h2 k hk; omega, h2⟩
theorem OwnR.down {w : World} {lo lo' hi : Nat} {v : Value} {rs : List (List Int)} (h : OwnR w lo hi v rs) (hd : lo' ≤ lo) : OwnR w lo' hi v rs := by
  obtain ⟨F, h1, h2⟩ := h
  exact ⟨F, h1, fun k hk => by have := h2 k hk; omega⟩
theorem OwnR.drewN {w : World} {lo hi : Nat} {v : Value} {rs : List (List Int)} (h : OwnR w lo hi v rs) (q : Nat) : OwnR (w.drewN q) lo hi v rs := by
  obtain ⟨F, h1, h2⟩ := h
  exact ⟨F, h1.chgF eRow_ok (chgF_drewN w q fun _ => False) (fun _ _ => id), h2⟩

theorem OwnR.alloc {w : World} {lo hi : Nat} {v : Value} {rs : List (List Int)} (h : OwnR w lo hi v rs) (o : Obj) : OwnR (w.alloc o) lo hi v rs := by
  obtain ⟨F, h1, h2⟩ := h
  exact ⟨F, h1.chgF eRow_ok (chgF_alloc w o fun _ => False) (fun _ _ => id), h2⟩
theorem chg_alloc {w w' : World} {lo hi : Nat} {o : Obj} (h : Chg lo hi (w.alloc o) w') : Chg lo hi w w' :=
  ⟨h.os, h.tape, h.output, Nat.le_trans (by simp) h.size, fun k hk hn => (h.block k (by simp; omega) hn).trans (heap_alloc_old w o hk)⟩
/-- A new table, behind a name. -/
def TabNew (nm : ByteArray) (ar : Int) (rs : List (List Int)) (w : World) (e : Ending) (w' : World) : Prop :=
  ∃ (A : Option Addr) (c : Nat), e = .returned (.agg #[.string nm, .int .i64 ar, .slice A rs.length c]) ∧ OwnR w' w.heap.size w'.heap.size (.slice A rs.length c) rs ∧ Below w.heap.size w w'
theorem TabNew.of {nm : ByteArray} {ar : Int} {rs : List (List Int)} {w w' : World} {A : Option Addr} {n c : Nat} (h : OwnR w' w.heap.size w'.heap.size (.slice A n c) rs) (hb : Below w.heap.size w w') :
    TabNew nm ar rs w (.returned (.agg #[.string nm, .int .i64 ar, .slice A n c])) w' := by
  have hn := h.len_eq
  subst hn
  exact ⟨A, c, rfl, h, hb⟩

set_option maxRecDepth 100000 in
set_option maxHeartbeats 400000 in
theorem toTable_any (nm : ByteArray) (ar : Int) (A : Option Addr) (n c B : Nat) (rs : List (List Int)) (w : World) (hr : RdR w B A n rs) (hB : B ≤ w.heap.size) (hn : n ≤ 1048576) (hrow : ∀ r ∈ rs, r.length ≤ 1048576) :
    Calls Tryd.prog 25 #[.agg #[.string nm, .int .i64 ar, .slice A n c]] w (TabNew nm ar rs w) := by
  have hrow' := Lib.hid hrow
  clear hrow
  go_enter Tryd.func25, Tryd.ntmps25
  go_wp2_with fail
  refine (toIntSS_any A n c B rs _ (RdR.belowB hr ((((Below.refl B w).alloc hB _).alloc (by simp; omega) _).alloc (by simp; omega) _) (Nat.le_refl _)) (by simp; omega) hn hrow'.out).mono ?_
  rintro e w1 ⟨rfl, ho, hb⟩
  have hs := hb.size
  simp at hs
  obtain ⟨hc, hf⟩ := bcells hb
  have hbel := Lib.hid (((((Below.refl w.heap.size w).alloc (Nat.le_refl _) _).alloc (by simp) _).alloc (by simp; omega) _).trans (hb.mono (by simp; omega)))
  have HO := Lib.hid ho
  clear hb ho
  go_wp2_with fail
  refine bodyPost_ret (v := .agg #[.string nm, .int .i64 ar, .slice (some ⟨w.heap.size + 3, 0, none⟩) n n]) (by simp [results, Tryd.results25, go_sem, *]) rfl (TabNew.of ?_ ?_)
  · have h2 : OwnR w1 (w.heap.size + 3) w1.heap.size (.slice (some ⟨w.heap.size + 3, 0, none⟩) n n) rs := by simpa using HO.out
    refine OwnR.down (lo := w.heap.size + 3) (OwnR.wide (hi := w1.heap.size) ?_ (by simp)) (by omega)
    repeat refine OwnR.setLow ?_ (by omega)
    exact h2
  · repeat first | exact hbel.out | (refine Below.setCell ?_ ?_ _; rotate_left; (simp; try omega))

set_option maxRecDepth 100000 in
set_option maxHeartbeats 400000 in
theorem eqTable_any (nm : ByteArray) (ar : Int) (A A' : Option Addr) (n c n' c' B B' : Nat) (rs : List (List Int)) (w : World) (hr : RdR w B A n rs) (hr' : RdR w B' A' n' rs) (hB : B ≤ w.heap.size) (hB' : B' ≤ w.heap.size) (hn : rs.length ≤ 9223372036854775807) :
    Calls Tryd.prog 27 #[.agg #[.string nm, .int .i64 ar, .slice A n c], .agg #[.string nm, .int .i64 ar, .slice A' n' c']] w fun e w' => e = .returned (.bool true) ∧ Below w.heap.size w w' := by
  have h1 : n ≤ 9223372036854775807 := by have := hr.1; omega
  have h2 : n' ≤ 9223372036854775807 := by have := hr'.1; omega
  have q2 : (ar != ar) = false := by simp
  have HB := Lib.hid (Below.refl w.heap.size w)
  go_enter Tryd.func27, Tryd.ntmps27
  go_wp2_with fail
  refine (eqIntSS_q A A' n c n' c' rs rs _ ((RdR.belowB hr (((Below.refl B w).alloc hB _).alloc (by simp; omega) _) (Nat.le_refl _)).more (by simp; omega)) ((RdR.belowB hr' (((Below.refl B' w).alloc hB' _).alloc (by simp; omega) _) (Nat.le_refl _)).more (by simp; omega)) h1 h2).mono ?_
  rintro e w1 ⟨rfl, hq⟩
  have hbel := Lib.hid ((((HB.out).alloc (Nat.le_refl _) _).alloc (by simp) _).trans (hq.below _))
  clear hq
  go_wp2_with fail
  go_ret
  exact ⟨rfl, hbel.out⟩
theorem eqTable_same (nm : ByteArray) (ar : Int) (A A' : Option Addr) (n c n' c' B B' : Nat) (rs : List (List Int)) (w : World) (hr : RdR w B A n rs) (hr' : RdR w B' A' n' rs) (hB : B ≤ w.heap.size) (hB' : B' ≤ w.heap.size) (hn : rs.length ≤ 1048576) :
    Calls Tryd.prog 27 #[.agg #[.string nm, .int .i64 ar, .slice A n c], .agg #[.string nm, .int .i64 ar, .slice A' n' c']] w fun e w' => e = .returned (.bool true) ∧ Below w.heap.size w w' :=
  eqTable_any nm ar A A' n c n' c' B B' rs w hr hr' hB hB' (by omega)

set_option maxRecDepth 100000 in
set_option maxHeartbeats 400000 in
theorem markTable_any (nm : ByteArray) (ar : Int) (A : Option Addr) (n c lo hi : Nat) (rs : List (List Int)) (k : Int) (w : World) (ho : OwnR w lo hi (.slice A n c) rs) (hn : n ≤ 1048576) (hk : 0 ≤ k) (hkn : k + (sumL rs : Nat) ≤ 9223372036854775807) :
    Calls Tryd.prog 30 #[.agg #[.string nm, .int .i64 ar, .slice A n c], .int .i64 k] w fun e w' => e = .returned (.int .i64 (k + (sumL rs : Nat))) ∧ OwnR w' lo hi (.slice A n c) (cntR k rs) ∧ Chg lo hi w w' := by
  go_enter Tryd.func30, Tryd.ntmps30
  go_wp2_with fail
  refine (markIntSS_any A n c lo hi rs k _ (OwnR.alloc ho _) hn hk hkn).mono ?_
  rintro e w1 ⟨rfl, ho1, hc1⟩
  have hfin := Lib.hid (And.intro ho1 (chg_alloc hc1))
  clear ho1 hc1
  go_wp2_with fail
  go_ret
  exact ⟨rfl, hfin.out⟩

set_option maxRecDepth 100000 in
set_option maxHeartbeats 400000 in
theorem heldTable_any (nm : ByteArray) (ar : Int) (A : Option Addr) (n c B : Nat) (k : Int) (rs : List (List Int)) (w : World) (hr : RdR w B A n (cntR k rs)) (hB : B ≤ w.heap.size) (hn : n ≤ 1048576) (hk : 0 ≤ k) (hkn : k + (sumL rs : Nat) ≤ 9223372036854775807) :
    Calls Tryd.prog 31 #[.agg #[.string nm, .int .i64 ar, .slice A n c], .int .i64 k] w fun e w' => e = .returned (.int .i64 (k + (sumL rs : Nat))) ∧ Below w.heap.size w w' := by
  have b3 : ¬ (k + (sumL rs : Nat) < 0) := by omega
  have HB := Lib.hid (Below.refl w.heap.size w)
  go_enter Tryd.func31, Tryd.ntmps31
  go_wp2_with fail
  refine (heldIntSS_any A n c B k rs _ (RdR.belowB hr ((Below.refl B w).alloc hB _) (Nat.le_refl _)) hn hk hkn).mono ?_
  rintro e w1 ⟨rfl, rfl⟩
  go_wp2_with fail
  go_ret
  exact ⟨rfl, (HB.out).alloc (Nat.le_refl _) _⟩

/-- What is left of a purse, and new blocks, behind a name. -/
def SzPostB (tot : Nat) (left : Int) (w : World) (e : Ending) (w' : World) : Prop := ∃ r : Int, e = .returned (.int .i64 r) ∧ (r = -1 ∨ (0 ≤ r ∧ r + (tot : Int) = left)) ∧ Below w.heap.size w w'
set_option maxRecDepth 100000 in
set_option maxHeartbeats 400000 in
theorem szTable_any (nm : ByteArray) (ar : Int) (A : Option Addr) (n c B : Nat) (left : Int) (rs : List (List Int)) (w : World) (hr : RdR w B A n rs) (hB : B ≤ w.heap.size) (hnm : nm.size ≤ maxLen) (h0 : 0 ≤ left) (hl : left ≤ 1048576) (hn : n ≤ 9223372036854775807) :
    Calls Tryd.prog 23 #[.agg #[.string nm, .int .i64 ar, .slice A n c], .int .i64 left] w (SzPostB (nm.size + (n + sumL rs)) left w) := by
  unfold maxLen at hnm
  have HB := Lib.hid (Below.refl w.heap.size w)
  by_cases h : left - (nm.size : Int) < 0
  · go_enter Tryd.func23, Tryd.ntmps23
    go_wp2_with fail
    go_ret
    exact ⟨_, rfl, .inl rfl, (HB.out).alloc (Nat.le_refl _) _⟩
  · go_enter Tryd.func23, Tryd.ntmps23
    go_wp2_with fail
    refine (szIntSS_any A n c _ rs _ ((RdR.belowB hr ((Below.refl B w).alloc hB _) (Nat.le_refl _)).more (by simp; omega)) (by omega) (by omega) hn).mono ?_
    rintro e w1 ⟨r, rfl, hh, rfl⟩
    rcases hh with rfl | ⟨h1, h2⟩
    · go_wp2_with fail
      go_ret
      exact ⟨_, rfl, .inl rfl, (HB.out).alloc (Nat.le_refl _) _⟩
    · have h3 : ¬ r < 0 := by omega
      have H2 := Lib.hid h2
      clear h2
      go_wp2_with fail
      go_ret
      exact ⟨_, rfl, .inr ⟨h1, by have := H2.out; omega⟩, (HB.out).alloc (Nat.le_refl _) _⟩
end Go.Proofs.YtmojjbhjjhdpaaaDoor
