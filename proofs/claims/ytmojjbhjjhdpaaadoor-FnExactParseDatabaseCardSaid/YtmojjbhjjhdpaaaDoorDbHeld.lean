/- The laws' helpers on databases: marks and what they hold. No condition but the size that the laws let in. -/
import Derived.Test.YtmojjbhjjhdpaaaDoorDbW
import Derived.Deep.RegionHeld3
namespace Go.Proofs.YtmojjbhjjhdpaaaDoor
open Go.RowKit Go.Deep

set_option maxRecDepth 100000 in
set_option maxHeartbeats 400000 in
theorem heldTableS_any (A : Option Addr) (n c B : Nat) (k : Int) (ts : List Tab) (w : World) (hr : RdT w B A n (cntT k ts)) (hB : B ≤ w.heap.size) (hn : n ≤ 1048576) (hrs : ∀ t ∈ ts, t.rs.length ≤ 1048576) (hk : 0 < k) (hkn : k + (mrkT ts : Nat) ≤ 1099511627776) :
    Calls Tryd.prog 91 #[.slice A n c, .int .i64 k] w fun e w' => e = .returned (.int .i64 (k + (mrkT ts : Nat))) ∧ Below w.heap.size w w' := by
  have HL : Hid (ts.length = n) := by have := hr.1; rw [cntT_length] at this; exact this
  have hrs' := Lib.hid hrs
  clear hrs
  go_enter Tryd.func91, Tryd.ntmps91
  go_wp2_with fail
  go_loopw [1, 5] (fun q i wr => ∃ j : Nat, j ≤ n ∧ i = .int .i64 j ∧ q = .int .i64 (k + (mrkT (ts.take j) : Nat)) ∧ Hid (Below w.heap.size w wr)) (fun _ i _ => n - (intOf i).toNat)
  case atStart => exact ⟨0, by omega, rfl, by simp [mrkT], Below.refl _ _⟩
  case round =>
    obtain ⟨j, hj, rfl, rfl, hbel⟩ := hrel
    have hsz := hbel.out.size
    by_cases hlt : j < n
    · obtain ⟨b, o, t, A', c', rfl, hb, hx, hc0, hc1, hc2, hrd, hm, _⟩ := RdT.at_ hr hlt
      obtain ⟨t1, ht1⟩ : ∃ t1, ts[j]? = some t1 := ⟨ts[j]'(by rw [HL.out]; exact hlt), List.getElem?_eq_getElem _⟩
      rw [cntT_get k ts j t1 ht1] at hx
      injection hx with hx
      subst hx
      have hsum := mrkT_take_succ ht1
      have hle := mrkT_take_le ts (j + 1)
      have hrl := hrs'.out t1 (List.mem_of_getElem? ht1)
      have b1 : (0 : Int) < k + (mrkT (ts.take j) : Nat) := by omega
      have b2 : k + (mrkT (ts.take j) : Nat) + 1 + 1 + (sumL t1.rs : Nat) ≤ 1099511627776 := by omega
      have HQ := Lib.hid (show k + (mrkT (ts.take j) : Nat) + 1 + 1 + (sumL t1.rs : Nat) = k + (mrkT (ts.take (j + 1)) : Nat) by omega)
      clear hsum hle ht1
      generalize k + (mrkT (ts.take j) : Nat) = K at *
      simp only [cntR_length] at hc2 hrd
      have d0 := (hbel.out.cell (p := ⟨b, o + j * 3, none⟩) (by show b < _; omega)).trans hc0
      have d1 := (hbel.out.cell (p := ⟨b, o + j * 3 + 1, none⟩) (by show b < _; omega)).trans hc1
      have d2 := (hbel.out.cell (p := ⟨b, o + j * 3 + 2, none⟩) (by show b < _; omega)).trans hc2
      have KB : Hid (∀ W, Below wr.heap.size wr W → W.cell? ⟨b, o + j * 3, none⟩ = some (.string (mkT K)) ∧ W.cell? ⟨b, o + j * 3 + 1, none⟩ = some (.int .i64 (K + 1)) ∧ W.cell? ⟨b, o + j * 3 + 2, none⟩ = some (.slice A' t1.rs.length c') ∧ Below wr.heap.size wr W) := fun W bw =>
        ⟨(bw.cell (p := ⟨b, o + j * 3, none⟩) (by show b < _; omega)).trans d0, (bw.cell (p := ⟨b, o + j * 3 + 1, none⟩) (by show b < _; omega)).trans d1, (bw.cell (p := ⟨b, o + j * 3 + 2, none⟩) (by show b < _; omega)).trans d2, bw⟩
      have KT := Lib.hid (fun W => markText_any K W b1 (by omega))
      have KH : Hid (∀ W, Below wr.heap.size wr W → Calls Tryd.prog 82 #[.slice A' t1.rs.length c', .int .i64 (K + 1 + 1)] W fun e w' => e = .returned (.int .i64 (K + 1 + 1 + (sumL t1.rs : Nat))) ∧ W = w') := fun W bw =>
        heldIntSS_any A' t1.rs.length c' B (K + 1 + 1) t1.rs W (RdR.belowB hrd (hbel.out.trans (bw.mono hsz)) hB) hrl (by omega) (by omega)
      have b3 : ¬ (K + 1 + 1 + (sumL t1.rs : Nat) < 0) := by omega
      have q1 : (K + 1 != K + 1) = false := by simp
      clear hc0 hc1 hc2 hrd hm d1 d2
      generalize mkT K = S at *
      go_wp2_with fail
      have bz : Below wr.heap.size wr wr.drew := (Below.refl _ _).drew
      go_region_held3 (fun W => W.cell? ⟨b, o + j * 3, none⟩ = some (.string S) ∧ W.cell? ⟨b, o + j * 3 + 1, none⟩ = some (.int .i64 (K + 1)) ∧ W.cell? ⟨b, o + j * 3 + 2, none⟩ = some (.slice A' t1.rs.length c') ∧ Below wr.heap.size wr W)
        (first | assumption | exact KB.out _ (by assumption))
        (first | (go_at_call 125; ((with_reducible refine (KT.out _).mono ?_); rintro e w1 ⟨rfl, b4⟩; have bz := bel_step (by assumption) b4)))
      obtain ⟨_, x1, x2, _⟩ := KB.out _ bz
      have hbel1 := Lib.hid (hbel.out.trans (bz.mono hsz))
      have KH' := Lib.hid (KH.out _ bz)
      clear bz KH KT KB d0
      go_wp2_with fail
      refine KH'.out.mono ?_
      rintro e w2 ⟨rfl, rfl⟩
      go_wp2_with fail
      refine ⟨⟨j + 1, by omega, by go_num, by rw [HQ.out], hbel1⟩, ?_⟩
      simp [intOf]
      omega
    · obtain rfl : j = n := by omega
      have HT := Lib.hid (show ts.take j = ts from List.take_of_length_le (Nat.le_of_eq HL.out))
      go_wp2_with fail
      go_ret
      exact ⟨by rw [HT.out] <;> rfl, hbel.out⟩

set_option maxRecDepth 100000 in
set_option maxHeartbeats 400000 in
theorem markDatabase_any (A : Option Addr) (n c lo hi : Nat) (ts : List Tab) (k : Int) (w : World) (ho : OwnD w lo hi (.slice A n c) ts) (hn : n ≤ 1048576) (hrs : ∀ t ∈ ts, t.rs.length ≤ 1048576) (hk : 0 < k) (hkn : k + (mrkT ts : Nat) ≤ 1099511627776) :
    Calls Tryd.prog 39 #[.agg #[.slice A n c], .int .i64 k] w fun e w' => e = .returned (.int .i64 (k + (mrkT ts : Nat))) ∧ OwnD w' lo hi (.slice A n c) (cntT k ts) ∧ Chg lo hi w w' := by
  go_enter Tryd.func39, Tryd.ntmps39
  go_wp2_with fail
  refine (markTableS_any A n c lo hi ts k _ (OwnD.alloc ho _) hn hrs hk hkn).mono ?_
  rintro e w1 ⟨rfl, ho1, hc1⟩
  have hfin := Lib.hid (And.intro ho1 (chg_alloc hc1))
  clear ho1 hc1
  go_wp2_with fail
  go_ret
  exact ⟨rfl, hfin.out⟩

set_option maxRecDepth 100000 in
set_option maxHeartbeats 400000 in
theorem heldDatabase_any (A : Option Addr) (n c B : Nat) (k : Int) (ts : List Tab) (w : World) (hr : RdT w B A n (cntT k ts)) (hB : B ≤ w.heap.size) (hn : n ≤ 1048576) (hrs : ∀ t ∈ ts, t.rs.length ≤ 1048576) (hk : 0 < k) (hkn : k + (mrkT ts : Nat) ≤ 1099511627776) :
    Calls Tryd.prog 40 #[.agg #[.slice A n c], .int .i64 k] w fun e w' => e = .returned (.int .i64 (k + (mrkT ts : Nat))) ∧ Below w.heap.size w w' := by
  have b3 : ¬ (k + (mrkT ts : Nat) < 0) := by omega
  have HB := Lib.hid (Below.refl w.heap.size w)
  go_enter Tryd.func40, Tryd.ntmps40
  go_wp2_with fail
  refine (heldTableS_any A n c B k ts _ (RdT.belowB hr ((Below.refl B w).alloc hB _) (Nat.le_refl _)) (by simp; omega) hn hrs hk hkn).mono ?_
  rintro e w1 ⟨rfl, hb⟩
  have hbel := Lib.hid (((HB.out).alloc (Nat.le_refl _) _).trans (hb.mono (by simp)))
  clear hb
  go_wp2_with fail
  go_ret
  exact ⟨rfl, hbel.out⟩
end Go.Proofs.YtmojjbhjjhdpaaaDoor
