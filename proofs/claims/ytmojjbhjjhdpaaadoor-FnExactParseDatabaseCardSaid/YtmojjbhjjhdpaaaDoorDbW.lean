/- The laws' helpers on databases: the wrappers. No condition but the size that the laws let in. -/
import Derived.Test.YtmojjbhjjhdpaaaDoorDbLaw
namespace Go.Proofs.YtmojjbhjjhdpaaaDoor
open Go.RowKit Go.Deep

/-- A new database, behind a name. -/
def DbNew (ts : List Tab) (w : World) (e : Ending) (w' : World) : Prop :=
  ∃ (A : Option Addr) (c : Nat), e = .returned (.agg #[.slice A ts.length c]) ∧ OwnD w' w.heap.size w'.heap.size (.slice A ts.length c) ts ∧ Below w.heap.size w w'
theorem DbNew.of {ts : List Tab} {w w' : World} {A : Option Addr} {n c : Nat} (h : OwnD w' w.heap.size w'.heap.size (.slice A n c) ts) (hb : Below w.heap.size w w') : DbNew ts w (.returned (.agg #[.slice A n c])) w' := by
  have hn := h.len_eq
  subst hn
  exact ⟨A, c, rfl, h, hb⟩
theorem sumT_small {ts : List Tab} (h : sumT ts ≤ 1048576) : ∀ t ∈ ts, t.rs.length ≤ 1048576 ∧ ∀ r ∈ t.rs, r.length ≤ 1048576 := fun t ht => by
  have h1 := sumT_mem ht
  exact ⟨by omega, fun r hr => by have := sumL_mem hr; omega⟩

set_option maxRecDepth 100000 in
set_option maxHeartbeats 400000 in
theorem szDatabase_any (A : Option Addr) (n c B : Nat) (left : Int) (ts : List Tab) (w : World) (hr : RdT w B A n ts) (hB : B ≤ w.heap.size) (h0 : 0 ≤ left) (hl : left ≤ 1048576) (hn : n ≤ 9223372036854775807) :
    Calls Tryd.prog 32 #[.agg #[.slice A n c], .int .i64 left] w (SzPostB (n + sumT ts) left w) := by
  have HB := Lib.hid (Below.refl w.heap.size w)
  go_enter Tryd.func32, Tryd.ntmps32
  go_wp2_with fail
  refine (szTableS_any A n c B left ts _ (RdT.belowB hr ((Below.refl B w).alloc hB _) (Nat.le_refl _)) (by simp; omega) h0 hl hn).mono ?_
  rintro e w1 ⟨r, rfl, hh, hb⟩
  have hbel := Lib.hid (((HB.out).alloc (Nat.le_refl _) _).trans (hb.mono (by simp)))
  clear hb
  rcases hh with rfl | ⟨h1, h2⟩
  · go_wp2_with fail
    go_ret
    exact ⟨_, rfl, .inl rfl, hbel.out⟩
  · have h3 : ¬ r < 0 := by omega
    have H2 := Lib.hid h2
    clear h2
    go_wp2_with fail
    go_ret
    exact ⟨_, rfl, .inr ⟨h1, H2.out⟩, hbel.out⟩

set_option maxRecDepth 100000 in
set_option maxHeartbeats 400000 in
theorem toDatabase_any (A : Option Addr) (n c B : Nat) (ts : List Tab) (w : World) (hr : RdT w B A n ts) (hB : B ≤ w.heap.size) (hn : n ≤ 1048576) (hs : sumT ts ≤ 1048576) :
    Calls Tryd.prog 34 #[.agg #[.slice A n c]] w (DbNew ts w) := by
  have hts := Lib.hid (sumT_small hs)
  clear hs
  go_enter Tryd.func34, Tryd.ntmps34
  go_wp2_with fail
  refine (toTableS_any A n c B ts _ (RdT.belowB hr ((((Below.refl B w).alloc hB _).alloc (by simp; omega) _).alloc (by simp; omega) _) (Nat.le_refl _)) (by simp; omega) hn hts.out).mono ?_
  rintro e w1 ⟨rfl, ho, hb⟩
  have hs := hb.size
  simp at hs
  obtain ⟨hc, hf⟩ := bcells hb
  have hbel := Lib.hid (((((Below.refl w.heap.size w).alloc (Nat.le_refl _) _).alloc (by simp) _).alloc (by simp; omega) _).trans (hb.mono (by simp; omega)))
  have HO := Lib.hid ho
  clear hb ho
  go_wp2_with fail
  refine bodyPost_ret (v := .agg #[.slice (some ⟨w.heap.size + 3, 0, none⟩) n n]) (by simp [results, Tryd.results34, go_sem, *]) rfl (DbNew.of ?_ ?_)
  · have h2 : OwnD w1 (w.heap.size + 3) w1.heap.size (.slice (some ⟨w.heap.size + 3, 0, none⟩) n n) ts := by simpa using HO.out
    refine OwnD.down (lo := w.heap.size + 3) (OwnD.wide (hi := w1.heap.size) ?_ (by simp)) (by omega)
    repeat refine OwnD.setOff ?_ (by omega)
    exact h2
  · repeat first | exact hbel.out | (refine Below.setCell ?_ ?_ _; rotate_left; (simp; try omega))

set_option maxRecDepth 100000 in
set_option maxHeartbeats 400000 in
theorem eqDatabase_same (A A' : Option Addr) (n c n' c' B B' : Nat) (ts : List Tab) (w : World) (hr : RdT w B A n ts) (hr' : RdT w B' A' n' ts) (hB : B ≤ w.heap.size) (hB' : B' ≤ w.heap.size) (hn : ts.length ≤ 1048576) :
    Calls Tryd.prog 36 #[.agg #[.slice A n c], .agg #[.slice A' n' c']] w fun e w' => e = .returned (.bool true) ∧ Below w.heap.size w w' := by
  have HB := Lib.hid (Below.refl w.heap.size w)
  go_enter Tryd.func36, Tryd.ntmps36
  go_wp2_with fail
  refine (eqTableS_same A A' n c n' c' B B' ts _ (RdT.belowB hr (((Below.refl B w).alloc hB _).alloc (by simp; omega) _) (Nat.le_refl _)) (RdT.belowB hr' (((Below.refl B' w).alloc hB' _).alloc (by simp; omega) _) (Nat.le_refl _)) (by simp; omega) (by simp; omega) hn).mono ?_
  rintro e w1 ⟨rfl, hq⟩
  have hbel := Lib.hid ((((HB.out).alloc (Nat.le_refl _) _).alloc (by simp) _).trans (hq.mono (by simp; omega)))
  clear hq
  go_wp2_with fail
  go_ret
  exact ⟨rfl, hbel.out⟩
end Go.Proofs.YtmojjbhjjhdpaaaDoor
