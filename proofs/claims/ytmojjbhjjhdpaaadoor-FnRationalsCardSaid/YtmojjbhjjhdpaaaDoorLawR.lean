/- The laws' helpers on slices of rows: toIntSS, eqIntSS, markIntSS, heldIntSS, szIntS, szIntSS. No condition but the size that the laws let in. -/
import Derived.Test.YtmojjbhjjhdpaaaDoorRow
namespace Go.Proofs.YtmojjbhjjhdpaaaDoor
open Go.RowKit Go.Deep

/-- What is left of a purse, behind a name. -/
def SzPost (tot : Nat) (left : Int) (w : World) (e : Ending) (w' : World) : Prop := ∃ r : Int, e = .returned (.int .i64 r) ∧ (r = -1 ∨ (0 ≤ r ∧ r + (tot : Int) = left)) ∧ w = w'
theorem szIntS_any (A : Option Addr) (n c : Nat) (left : Int) (w : World) (h0 : 0 ≤ left) (hl : left ≤ 1048576) (hn : n ≤ 9223372036854775807) :
    Calls Tryd.prog 108 #[.slice A n c, .int .i64 left] w (SzPost n left w) := by
  by_cases h : left - (n : Int) < 0
  all_goals
    go_enter Tryd.func108, Tryd.ntmps108
    go_wp2
    go_ret
  · exact ⟨_, rfl, .inl rfl, rfl⟩
  · exact ⟨_, rfl, .inr ⟨by omega, by omega⟩, rfl⟩

set_option maxRecDepth 100000 in
set_option maxHeartbeats 400000 in
theorem szIntSS_any (A : Option Addr) (n c : Nat) (left : Int) (rs : List (List Int)) (w : World) (hr : RdR w w.heap.size A n rs) (h0 : 0 ≤ left) (hl : left ≤ 1048576) (hn : n ≤ 9223372036854775807) :
    Calls Tryd.prog 71 #[.slice A n c, .int .i64 left] w (SzPost (n + sumL rs) left w) := by
  have HL := Lib.hid hr.1
  by_cases h : left - (n : Int) < 0
  · go_enter Tryd.func71, Tryd.ntmps71
    go_wp2
    go_ret
    exact ⟨_, rfl, .inl rfl, rfl⟩
  · go_enter Tryd.func71, Tryd.ntmps71
    go_wp2
    go_loop [1, 5] (fun q i => ∃ (j : Nat) (r : Int), j ≤ n ∧ i = .int .i64 j ∧ q = .int .i64 r ∧ 0 ≤ r ∧ r ≤ 1048576 ∧ Hid (r + ((n + sumL (rs.take j) : Nat) : Int) = left)) (fun _ i => n - (intOf i).toNat)
    case atStart => exact ⟨0, _, by omega, rfl, rfl, by omega, by omega, by show _ = _; simp [sumL]⟩
    case round =>
      obtain ⟨j, r, hj, rfl, rfl, hr0, hr1, hinv⟩ := hrel
      by_cases hlt : j < n
      · obtain ⟨b, o, x, A', c', rfl, hb, hx, hc, _, hm⟩ := RdR.at_ hr hlt
        unfold maxLen at hm
        have HX := Lib.hid (sumL_take_succ hx)
        clear hx
        go_wp2_with (go_at_call 108; refine (szIntS_any _ _ _ _ _ hr0 hr1 (by omega)).mono ?_; rintro e w' ⟨r', rfl, hh, rfl⟩; rcases hh with rfl | ⟨hr2, hr3⟩)
        · go_ret
          exact ⟨_, rfl, .inl rfl, rfl⟩
        · have hinv' : Hid (r' + ((n + sumL (rs.take (j + 1)) : Nat) : Int) = left) := by
            show _ = _
            have h1 := hinv.out
            rw [HX.out]
            omega
          have hr4 : r' ≤ 1048576 := by omega
          clear hinv hr3
          have hr5 : ¬ r' < 0 := by omega
          go_wp2
          go_round
          case rel => exact ⟨j + 1, r', by omega, by go_num, rfl, hr2, hr4, hinv'⟩
          case measure => simp [intOf]; omega
      · obtain rfl : j = n := by omega
        have hf : Hid (r + ((j + sumL rs : Nat) : Int) = left) := by
          show _ = _
          have h1 := hinv.out
          rwa [List.take_of_length_le (Nat.le_of_eq HL.out)] at h1
        go_wp2
        go_ret
        exact ⟨_, rfl, .inr ⟨hr0, hf.out⟩, rfl⟩

def zerR (d : Nat) : Array Value := (List.replicate d (Value.slice none 0 0)).toArray
theorem made_zerR (d : Nat) : madeCells #[.slice none 0 0] d = zerR d := by
  unfold zerR madeCells
  apply Array.ext
  · simp
  · intro i h1 h2
    simp [Nat.mod_one]
theorem make_rows (n : Nat) (h : n ≤ 1048576) (W : World) : (Instr.makeSlice 36 (.int .i64 (n : Int)) (.int .i64 (n : Int))).run Tryd.prog W = .ok (.slice (some ⟨W.heap.size, 0, none⟩) n n) (W.alloc (.cells (zerR n) 92)) := by
  rw [← made_zerR]
  exact run_make_row' (P := Tryd.prog) 36 92 (.slice none 0 0) 24 Tryd.underlying36 info_row rfl .i64 .i64 n (by omega) (by omega) W
theorem own_rows_made (n : Nat) (hn : n ≤ 1048576) (W : World) : OwnR (W.alloc (.cells (zerR n) 92)) W.heap.size (W.alloc (.cells (zerR n) 92)).heap.size (.slice (some ⟨W.heap.size, 0, none⟩) n n) (List.replicate n []) :=
  ⟨_, OwnSl.made W n [.slice none 0 0] [] (zerR n) rfl (by unfold maxLen; omega) (by simp [zerR]) ⟨_, rfl, OwnI.nil _ _ _, fun g hg => by simp [Value.ownBlock] at hg, by simp⟩, fun k hk => by subst hk; simp⟩
/-- The first k rows, then empty ones. -/
def fillR (rs : List (List Int)) (k : Nat) : List (List Int) := rs.take k ++ List.replicate (rs.length - k) []
theorem fillR_zero (rs : List (List Int)) : fillR rs 0 = List.replicate rs.length [] := by simp [fillR]
theorem fillR_full (rs : List (List Int)) : fillR rs rs.length = rs := by simp [fillR]
theorem fillR_length (rs : List (List Int)) (k : Nat) (h : k ≤ rs.length) : (fillR rs k).length = rs.length := by simp [fillR]; omega
theorem fillR_step {rs : List (List Int)} {k : Nat} {r : List Int} (h : rs[k]? = some r) : (fillR rs k).set k r = fillR rs (k + 1) := by
  have hk : k < rs.length := (List.getElem?_eq_some_iff.1 h).1
  have hx : rs[k] = r := (List.getElem?_eq_some_iff.1 h).2
  unfold fillR
  obtain ⟨m, hm⟩ : ∃ m, rs.length - k = m + 1 := ⟨rs.length - k - 1, by omega⟩
  rw [List.set_append_right _ _ (by rw [List.length_take]; omega), List.length_take, Nat.min_eq_left (by omega), Nat.sub_self, hm, List.replicate_succ, List.set_cons_zero, List.take_succ_eq_append_getElem hk, hx,
    List.append_assoc, List.singleton_append, show rs.length - (k + 1) = m from by omega]

set_option maxRecDepth 100000 in
set_option maxHeartbeats 400000 in
theorem toIntSS_any (A : Option Addr) (n c B : Nat) (rs : List (List Int)) (w : World) (hr0 : RdR w B A n rs) (hB : B ≤ w.heap.size) (hn : n ≤ 1048576) (hrow : ∀ r ∈ rs, r.length ≤ 1048576) :
    Calls Tryd.prog 74 #[.slice A n c] w fun e w' => e = .returned (.slice (some ⟨w.heap.size, 0, none⟩) n n) ∧ OwnR w' w.heap.size w'.heap.size (.slice (some ⟨w.heap.size, 0, none⟩) n n) rs ∧ Below w.heap.size w w' := by
  have hr := RdR.more hr0 hB
  clear hr0
  have hmk := make_rows n hn
  have HL := Lib.hid hr.1
  have hrow' := Lib.hid hrow
  clear hrow
  go_enter Tryd.func74, Tryd.ntmps74
  go_wp2
  go_loopw [4] (fun i wr => ∃ k : Nat, k ≤ n ∧ i = .int .i64 k ∧ OwnR wr w.heap.size wr.heap.size (.slice (some ⟨w.heap.size, 0, none⟩) n n) (fillR rs k) ∧ Below w.heap.size w wr) (fun i _ => n - (intOf i).toNat)
  case atStart => exact ⟨0, by omega, rfl, by rw [fillR_zero, HL.out]; exact own_rows_made n hn w, (Below.refl _ _).alloc (Nat.le_refl _) _⟩
  case round =>
    obtain ⟨k, hk, rfl, hown, hbel⟩ := hrel
    have hsz := hbel.size
    by_cases hlt : k < n
    · obtain ⟨b, o, x, A', c', rfl, hb, hx, hc, hrd, _⟩ := RdR.at_ hr hlt
      have hc1 := (hbel.cell (p := ⟨b, o + k, none⟩) hb).trans hc
      have hxl := hrow'.out x (List.mem_of_getElem? hx)
      have hrd1 := hrd.below hbel
      have hl := fillR_length rs k (by rw [HL.out]; omega)
      obtain ⟨g, r0, A0, c0, lo0, hi0, hg0, _, _, hg1, _, hcw, hfw, _, _, _, hput⟩ := hown.at_ (hl.trans HL.out) hlt
      injection hg0 with hg0
      injection hg0 with hg0
      subst hg0
      have HX := Lib.hid (fillR_step hx)
      have hst : Hid (∀ w1, Below wr.heap.size wr w1 → OwnI w1 wr.heap.size w1.heap.size (.slice (some ⟨wr.heap.size, 0, none⟩) x.length x.length) x → OwnR (w1.setCell ⟨w.heap.size, k, none⟩ (.slice (some ⟨wr.heap.size, 0, none⟩) x.length x.length)) w.heap.size w1.heap.size (.slice (some ⟨w.heap.size, 0, none⟩) n n) (fillR rs (k + 1))) :=
        fun w1 hb1 ho1 => by rw [← HX.out]; exact hput w1 _ x _ _ hb1 ho1 (Nat.le_refl _) (Nat.le_refl _) hsz
      clear hx hl hc hrd hput hown
      go_wp2_with fail
      refine (toIntS_any A' x.length c' w.heap.size x wr hrd1 hsz hxl).mono ?_
      rintro e w1 ⟨rfl, ho1, hb1⟩
      have hc2 := (hb1.cell (p := ⟨w.heap.size, k, none⟩) hg1).trans hcw
      have hf2 := (hb1.frozen (p := ⟨w.heap.size, k, none⟩) hg1).trans hfw
      have hfin := Lib.hid (hst.out w1 hb1 ho1)
      have hbel1 := hbel.trans (hb1.mono hsz)
      clear ho1 hst
      go_wp2_with fail
      refine ⟨⟨k + 1, by omega, by go_num, by simpa [World.setCell] using hfin.out, hbel1.setCell (Nat.le_refl _) _⟩, ?_⟩
      simp [intOf]
      omega
    · obtain rfl : k = n := by omega
      go_wp2
      go_ret
      exact ⟨rfl, by rw [← HL.out, fillR_full] at hown; rw [← HL.out]; exact hown, hbel⟩

set_option maxRecDepth 100000 in
set_option maxHeartbeats 400000 in
theorem markIntSS_any (A : Option Addr) (n c lo hi : Nat) (rs : List (List Int)) (k : Int) (w : World) (ho : OwnR w lo hi (.slice A n c) rs) (hn : n ≤ 1048576) (hk : 0 ≤ k) (hkn : k + (sumL rs : Nat) ≤ 9223372036854775807) :
    Calls Tryd.prog 81 #[.slice A n c, .int .i64 k] w fun e w' => e = .returned (.int .i64 (k + (sumL rs : Nat))) ∧ OwnR w' lo hi (.slice A n c) (cntR k rs) ∧ Chg lo hi w w' := by
  have HL := Lib.hid ho.len_eq
  go_enter Tryd.func81, Tryd.ntmps81
  go_wp2
  go_loopw [1, 5] (fun q i wr => ∃ j : Nat, j ≤ n ∧ i = .int .i64 j ∧ q = .int .i64 (k + (sumL (rs.take j) : Nat)) ∧ Hid (OwnR wr lo hi (.slice A n c) (markRTo rs k j) ∧ Chg lo hi w wr)) (fun _ i _ => n - (intOf i).toNat)
  case atStart => exact ⟨0, by omega, rfl, by simp [sumL], by rw [markRTo_zero]; exact ho, Chg.refl _ _ _⟩
  case round =>
    obtain ⟨j, hj, rfl, rfl, hinv⟩ := hrel
    by_cases hlt : j < n
    · have hml : (markRTo rs k j).length = n := by rw [markRTo_length _ _ _ (by rw [HL.out]; omega), HL.out]
      obtain ⟨g, r, A', c', lo', hi', rfl, _, _, _, hr, hc, _, hro, hrm, hup, _⟩ := hinv.out.1.at_ hml hlt
      obtain ⟨r1, hr1⟩ : ∃ r1, rs[j]? = some r1 := ⟨rs[j]'(by rw [HL.out]; exact hlt), List.getElem?_eq_getElem _⟩
      rw [markRTo_get hr1] at hr
      injection hr with hr
      subst hr
      have hsum := sumL_take_succ hr1
      have hle := sumL_take_le rs (j + 1)
      have hst : Hid (∀ w', OwnI w' lo' hi' (.slice A' r1.length c') (cnt (k + (sumL (rs.take j) : Nat)) r1.length) → Chg lo' hi' wr w' → OwnR w' lo hi (.slice (some ⟨g, 0, none⟩) n c) (markRTo rs k (j + 1)) ∧ Chg lo hi w w') :=
        fun w' h1 h2 => by
          obtain ⟨h3, h4⟩ := hup w' _ h1 h2
          rw [markRTo_step hr1] at h3
          exact ⟨h3, hinv.out.2.trans h4⟩
      have b1 : (0 : Int) ≤ k + (sumL (rs.take j) : Nat) := by omega
      have b2 : k + (sumL (rs.take j) : Nat) + (r1.length : Int) ≤ 9223372036854775807 := by omega
      have HQ := Lib.hid (show k + (sumL (rs.take j) : Nat) + (r1.length : Int) = k + (sumL (rs.take (j + 1)) : Nat) by omega)
      unfold maxLen at hrm
      have hrm' : r1.length ≤ 9223372036854775807 := by omega
      clear hup hr1 hsum hle hinv hml hrm
      go_wp2_with fail
      refine (markIntS_any A' r1.length c' lo' hi' r1 _ wr hro rfl hrm' b1 b2).mono ?_
      rintro e w1 ⟨rfl, ho1, hc1⟩
      have hfin := Lib.hid (hst.out w1 ho1 hc1)
      clear ho1 hc1 hst
      go_wp2_with fail
      refine ⟨⟨j + 1, by omega, by go_num, by rw [HQ.out], hfin.out⟩, ?_⟩
      simp [intOf]
      omega
    · obtain rfl : j = n := by omega
      have h1 := hinv.out
      rw [← HL.out, markRTo_full, HL.out] at h1
      have H1 := Lib.hid h1
      have HT := Lib.hid (show rs.take j = rs from List.take_of_length_le (Nat.le_of_eq HL.out))
      clear h1
      go_wp2
      go_ret
      exact ⟨by rw [HT.out] <;> rfl, H1.out⟩

set_option maxRecDepth 100000 in
set_option maxHeartbeats 400000 in
theorem heldIntSS_any (A : Option Addr) (n c B : Nat) (k : Int) (rs : List (List Int)) (w : World) (hr : RdR w B A n (cntR k rs)) (hn : n ≤ 1048576) (hk : 0 ≤ k) (hkn : k + (sumL rs : Nat) ≤ 9223372036854775807) :
    Calls Tryd.prog 82 #[.slice A n c, .int .i64 k] w fun e w' => e = .returned (.int .i64 (k + (sumL rs : Nat))) ∧ w = w' := by
  have HL : Hid (rs.length = n) := by have := hr.1; rw [cntR_length] at this; exact this
  go_enter Tryd.func82, Tryd.ntmps82
  go_wp2
  go_loop [1, 5] (fun q i => ∃ j : Nat, j ≤ n ∧ i = .int .i64 j ∧ q = .int .i64 (k + (sumL (rs.take j) : Nat))) (fun _ i => n - (intOf i).toNat)
  case atStart => exact ⟨0, by omega, rfl, by simp [sumL]⟩
  case round =>
    obtain ⟨j, hj, rfl, rfl⟩ := hrel
    by_cases hlt : j < n
    · obtain ⟨b, o, x, A', c', rfl, hb, hx, hc, hrd, hm⟩ := RdR.at_ hr hlt
      obtain ⟨r1, hr1⟩ : ∃ r1, rs[j]? = some r1 := ⟨rs[j]'(by rw [HL.out]; exact hlt), List.getElem?_eq_getElem _⟩
      rw [cntR_get k rs j r1 hr1] at hx
      injection hx with hx
      subst hx
      rw [cnt_length] at hc hrd hm
      have hsum := sumL_take_succ hr1
      have hle := sumL_take_le rs (j + 1)
      have b1 : (0 : Int) ≤ k + (sumL (rs.take j) : Nat) := by omega
      have b2 : k + (sumL (rs.take j) : Nat) + (r1.length : Int) ≤ 9223372036854775807 := by omega
      have b3 : ¬ (k + (sumL (rs.take j) : Nat) + (r1.length : Int) < 0) := by omega
      have HQ := Lib.hid (show k + (sumL (rs.take j) : Nat) + (r1.length : Int) = k + (sumL (rs.take (j + 1)) : Nat) by omega)
      unfold maxLen at hm
      have hm' : r1.length ≤ 9223372036854775807 := by omega
      clear hr1 hsum hle hm
      go_wp2_with fail
      refine (heldIntS_any A' r1.length c' B _ w hrd hm' b1 b2).mono ?_
      rintro e w' ⟨rfl, rfl⟩
      go_wp2_with fail
      go_round
      case rel => exact ⟨j + 1, by omega, by go_num, by rw [HQ.out]⟩
      case measure => simp [intOf]; omega
    · obtain rfl : j = n := by omega
      have HT := Lib.hid (show rs.take j = rs from List.take_of_length_le (Nat.le_of_eq HL.out))
      go_wp2
      go_ret
      exact ⟨by rw [HT.out] <;> rfl, rfl⟩
end Go.Proofs.YtmojjbhjjhdpaaaDoor
