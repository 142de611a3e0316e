/- EncodeFixed: both texts. No condition. -/
import Derived.Test.YtpcjcjemfjhkcaaBase
import Derived.Test.YtpcjcjemfjhkcaaNumPlain
import Derived.Test.YtpcjcjemfjhkcaaVarint
import Derived.OwnWalk
import Derived.OpenShut
import Derived.Deep.OwnRows
import Derived.Outline
namespace Go.Proofs.Ytpcjcjemfjhkcaa
open Go.RowKit Go.Deep

theorem bytes_append (a b : List UInt8) : ({ data := a.toArray } : ByteArray) ++ ({ data := b.toArray } : ByteArray) = { data := (a ++ b).toArray } := by
  apply ByteArray.ext
  simp
def encFR (n width : Int) : List UInt8 := if 1 ≤ width ∧ width ≤ 7 ∧ 0 ≤ n ∧ n.toNat < 256 ^ width.toNat then encF width.toNat n.toNat else []
theorem encFR_yes {N d : Nat} (h1 : 1 ≤ d) (h2 : d ≤ 7) (h : N < 256 ^ d) : encFR N d = encF d N := by
  unfold encFR
  rw [Int.toNat_natCast, Int.toNat_natCast, if_pos ⟨by omega, by omega, by omega, h⟩]
theorem encFR_no {n width : Int} (h : ¬ (1 ≤ width ∧ width ≤ 7 ∧ 0 ≤ n)) : encFR n width = [] := by rw [encFR, if_neg (fun hh => h ⟨hh.1, hh.2.1, hh.2.2.1⟩)]
theorem encFR_big {N d : Nat} (h : ¬ N < 256 ^ d) : encFR N d = [] := by
  unfold encFR
  rw [Int.toNat_natCast, Int.toNat_natCast, if_neg (fun hh => h hh.2.2.2)]
/-- 'string([]byte{x})': one new byte. -/
theorem one_byte {P : Program} (w : World) (src dst e : TypeId) (x : Int) (h0 : 0 ≤ x) (h1 : x < 256) (hs : P.underlying src = some (.slice e)) (he : P.underlying e = some (.int .u8)) (hd : P.underlying dst = some .string) :
    (convert src dst (.slice (some ⟨w.heap.size, 0, none⟩) 1 1)).run P (w.alloc (.cells #[.int .u8 x] e)) = .ok (.string ⟨#[UInt8.ofNat x.toNat]⟩) (w.alloc (.cells #[.int .u8 x] e)) := by
  have hx : Value.int .u8 x = bv (UInt8.ofNat x.toNat) := by rw [← bv_of x.toNat (by omega), Int.toNat_of_nonneg h0]
  rw [hx]
  exact own_string (l := [UInt8.ofNat x.toNat]) (base := 0) (n := 1) (e := e) ⟨rfl, .inr ⟨w.heap.size, 1, #[bv (UInt8.ofNat x.toNat)], rfl, Nat.zero_le _, heap_alloc_new w _, Nat.le_refl _, by unfold maxLen; omega, rfl, rfl⟩⟩ hs he hd

def fixCells (d j N : Nat) : List UInt8 := List.replicate (d - j) 0 ++ encF j N
theorem fixCells_zero (d N : Nat) : fixCells d 0 N = List.replicate d 0 := by simp [fixCells, encF]
theorem fixCells_full (d N : Nat) : fixCells d d N = encF d N := by simp [fixCells]
theorem fixCells_length {d j N : Nat} (h : j ≤ d) : (fixCells d j N).length = d := by simp [fixCells, encF_length]; omega
theorem set_replicate (m : Nat) (l : List UInt8) (x : UInt8) : (List.replicate (m + 1) 0 ++ l).set m x = List.replicate m 0 ++ x :: l := by
  induction m with
  | zero => simp
  | succ m ih => rw [List.replicate_succ, List.cons_append, List.set_cons_succ, ih, List.replicate_succ, List.cons_append]
theorem fixCells_step {d j N : Nat} (h : j < d) : (fixCells d j N).set (d - 1 - j) (UInt8.ofNat (N / 256 ^ j % 256)) = fixCells d (j + 1) N := by
  unfold fixCells
  obtain ⟨m, hm⟩ : ∃ m, d - j = m + 1 := ⟨d - j - 1, by omega⟩
  rw [show d - 1 - j = m from by omega, hm, set_replicate, encF_cons, show d - (j + 1) = m from by omega]

/-- The bytes of a block of the call's own. -/
def BBlk (w : World) (g : Nat) (e : TypeId) (l : List UInt8) : Prop := w.heap[g]? = some (.cells (l.map bv).toArray e (0, 0))
theorem BBlk.cell {w : World} {g : Nat} {e : TypeId} {l : List UInt8} (h : BBlk w g e l) (i : Nat) (hi : i < l.length) : ∃ b : UInt8, w.cell? ⟨g, i, none⟩ = some (bv b) := by
  refine ⟨l[i], ?_⟩
  unfold BBlk at h
  rw [cell_of_row w g i _ e (0, 0) h]
  simp [List.getElem?_eq_getElem hi]
theorem BBlk.frozen {w : World} {g : Nat} {e : TypeId} {l : List UInt8} (h : BBlk w g e l) (i : Nat) : w.frozen? ⟨g, i, none⟩ = false := by
  unfold BBlk at h
  simp [World.frozen?, h]
theorem BBlk.set_ {w : World} {g : Nat} {e : TypeId} {l : List UInt8} (h : BBlk w g e l) (i : Nat) (b : UInt8) : BBlk (w.setCell ⟨g, i, none⟩ (bv b)) g e (l.set i b) := by
  unfold BBlk at h ⊢
  simp [World.setCell, Array.getElem?_modify, h, List.map_set]
theorem BBlk.owns {w : World} {g base : Nat} {e : TypeId} {l : List UInt8} (h : BBlk w g e l) (hb : base ≤ g) (hl : l.length ≤ maxLen) : w.ownsRow base e 1 (.slice (some ⟨g, 0, none⟩) l.length l.length) l.length (l.map bv) :=
  ⟨by simp, .inr ⟨g, l.length, (l.map bv).toArray, rfl, hb, h, Nat.le_refl _, hl, by simp, List.take_of_length_le (by simp)⟩⟩

def zer (d : Nat) : Array Value := ((List.replicate d (0 : UInt8)).map bv).toArray
theorem made_zer (d : Nat) : madeCells #[.int .u8 0] d = zer d := by
  unfold zer madeCells
  apply Array.ext
  · simp
  · intro i h1 h2
    simp [bv, Nat.mod_one]

set_option maxRecDepth 100000 in
set_option maxHeartbeats 400000 in
theorem spec_EncodeFixed_any (n width : Int) (w : World) (hmax : n ≤ 9223372036854775807) :
    Calls Try.prog 19 #[.int .i64 n, .int .i64 width] w fun e w' => e = .returned (.string ⟨(encFR n width).toArray⟩) ∧ Below w.heap.size w w' := by
  by_cases hw : 1 ≤ width ∧ width ≤ 7
  · have hb := inB_true hw.1 hw.2
    by_cases hn : 0 ≤ n
    · obtain ⟨d, rfl⟩ := Int.eq_ofNat_of_zero_le (show 0 ≤ width by omega)
      obtain ⟨N, rfl⟩ := Int.eq_ofNat_of_zero_le hn
      have hd1 : 1 ≤ d := by omega
      have hd2 : d ≤ 7 := by omega
      have hneg : decide ((N : Int) < 0) = false := by simp
      clear hw hn
      go_enter Try.func19, Try.ntmps19
      go_wp2_with (go_at_call 26; refine (l1In_any _ _ _ _).mono ?_; rintro e w' ⟨rfl, rfl⟩)
      go_loopw [0, 5, 6] (fun n v i wr => ∃ (M k : Nat) (l : List UInt8), k ≤ d ∧ n = .int .i64 M ∧ v = .string ⟨l.toArray⟩ ∧ i = .int .i64 k ∧ M ≤ N ∧ Hid (M = N / 256 ^ k ∧ l = encF k N) ∧ Below w.heap.size w wr) (fun _ _ i _ => d - (intOf i).toNat)
      case atStart => exact ⟨N, 0, [], by omega, rfl, rfl, rfl, Nat.le_refl _, ⟨by simp, rfl⟩, Below.refl _ _⟩
      case round =>
        obtain ⟨M, k, l, hk, rfl, rfl, rfl, hMN, hinv, hbel⟩ := hrel
        by_cases hlt : k < d
        · have hll : l.length ≤ 7 := by rw [hinv.out.2, encF_length]; omega
          have hcv := fun W : World => one_byte (P := Try.prog) W 36 9 5 ((M : Int) % 256) (by omega) (by omega) Try.underlying36 Try.underlying5 Try.underlying9
          go_wp2
          refine ⟨?_, ?_⟩
          · refine ⟨M / 256, k + 1, UInt8.ofNat (M % 256) :: l, by omega, by go_num, congrArg Value.string (bytes_append [UInt8.ofNat (M % 256)] l), by go_num, by omega, ⟨?_, ?_⟩, hbel.alloc hbel.size _⟩
            · rw [hinv.out.1, Nat.div_div_eq_div_mul, Nat.pow_succ]
            · rw [encF_cons, ← hinv.out.1, ← hinv.out.2]
          · simp [intOf]; omega
        · obtain rfl : k = d := by omega
          by_cases hM : M = 0
          · have hf : Hid (encFR N k = l) := by
              show encFR N k = l
              rw [hinv.out.2]
              refine encFR_yes hd1 hd2 ?_
              have h1 := hinv.out.1
              rw [hM] at h1
              exact (Nat.div_eq_zero_iff_lt (Nat.pow_pos (by omega))).1 h1.symm
            subst hM
            go_wp2
            go_ret
            exact ⟨by rw [hf.out] <;> rfl, hbel⟩
          · have hf : Hid (encFR N k = []) := by
              show encFR N k = []
              refine encFR_big fun h => ?_
              have h1 := hinv.out.1
              rw [Nat.div_eq_of_lt h] at h1
              exact hM h1
            go_wp2
            go_ret
            exact ⟨by rw [hf.out] <;> rfl, hbel⟩
    · have hno := Lib.hid (encFR_no (n := n) (width := width) (by omega))
      have hneg : decide (n < 0) = true := by simp; omega
      go_enter Try.func19, Try.ntmps19
      go_wp2_with (go_at_call 26; refine (l1In_any _ _ _ _).mono ?_; rintro e w' ⟨rfl, rfl⟩)
      go_ret
      exact ⟨by rw [hno.out] <;> rfl, Below.refl _ _⟩
  · have hb := inB_false hw
    have hno := Lib.hid (encFR_no (n := n) (width := width) (by omega))
    go_enter Try.func19, Try.ntmps19
    go_wp2_with (go_at_call 26; refine (l1In_any _ _ _ _).mono ?_; rintro e w' ⟨rfl, rfl⟩)
    go_ret
    exact ⟨by rw [hno.out] <;> rfl, Below.refl _ _⟩

theorem pow_256 (d : Nat) : (2 : Nat) ^ (8 * d) = 256 ^ d := by rw [Nat.pow_mul]

set_option maxRecDepth 100000 in
set_option maxHeartbeats 400000 in
theorem impl_EncodeFixed_any (n width : Int) (w : World) (hmax : n ≤ 9223372036854775807) :
    Calls Try.prog 20 #[.int .i64 n, .int .i64 width] w fun e w' => e = .returned (.string ⟨(encFR n width).toArray⟩) ∧ Below w.heap.size w w' := by
  by_cases hw : 1 ≤ width ∧ width ≤ 7
  · have hb := inB_true hw.1 hw.2
    by_cases hn : 0 ≤ n
    · obtain ⟨d, rfl⟩ := Int.eq_ofNat_of_zero_le (show 0 ≤ width by omega)
      obtain ⟨N, rfl⟩ := Int.eq_ofNat_of_zero_le hn
      have hd1 : 1 ≤ d := by omega
      have hd2 : d ≤ 7 := by omega
      have hneg : decide ((N : Int) < 0) = false := by simp
      clear hw hn
      by_cases hbig : N < 256 ^ d
      · have hq : ((N : Int) / 2 ^ (8 * d) != 0) = false := by
          have h1 : N / 2 ^ (8 * d) = 0 := by rw [pow_256]; exact Nat.div_eq_of_lt hbig
          have h2 : (N : Int) / 2 ^ (8 * d) = ((N / 2 ^ (8 * d) : Nat) : Int) := by rw [Int.natCast_ediv, Int.natCast_pow]; rfl
          rw [h2, h1]
          rfl
        have hy := Lib.hid (encFR_yes hd1 hd2 hbig)
        have hmk := fun W : World => run_make_row' (P := Try.prog) 36 5 (.int .u8 0) 1 Try.underlying36 (show (Try.prog.info? 5).map (fun i => (i.zero, i.size, i.bytes)) = some (some (.int .u8 0), 1, 1) by kernel_rfl) rfl .i64 .i64 d (by omega) (by omega) W
        rw [made_zer] at hmk
        clear hbig
        go_enter Try.func20, Try.ntmps20
        go_wp2_with (go_at_call 27; refine (within_any _ _ _ _).mono ?_; rintro e w' ⟨rfl, rfl⟩)
        go_loopw [0, 6] (fun n i wr => ∃ (M j : Nat) (x : Int), n = .int .i64 M ∧ i = .int .i64 x ∧ -1 ≤ x ∧ x < d ∧ M ≤ N ∧ Hid (x = d - 1 - j ∧ M = N / 256 ^ j ∧ j ≤ d) ∧ BBlk wr w.heap.size 5 (fixCells d j N) ∧ Below w.heap.size w wr) (fun _ i _ => (intOf i + 1).toNat)
        case atStart => exact ⟨N, 0, d - 1, rfl, rfl, by omega, by omega, Nat.le_refl _, ⟨by omega, by simp, by omega⟩, by rw [fixCells_zero]; exact heap_alloc_new w _, (Below.refl _ _).alloc (Nat.le_refl _) _⟩
        case round =>
          obtain ⟨M, j, x, rfl, rfl, hx1, hx2, hMN, hinv, hblk, hbel⟩ := hrel
          by_cases hlt : 0 ≤ x
          · obtain ⟨t, rfl⟩ := Int.eq_ofNat_of_zero_le hlt
            obtain ⟨ob, hcell⟩ := hblk.cell t (by rw [fixCells_length hinv.out.2.2]; omega)
            have hfr := hblk.frozen t
            have hsz := hbel.size
            go_wp2
            refine ⟨⟨M / 256, j + 1, t - 1, by go_num, by go_num, by omega, by omega, by omega, ⟨?_, ?_, ?_⟩, ?_, ?_⟩, ?_⟩
            · have := hinv.out; omega
            · rw [hinv.out.2.1, Nat.div_div_eq_div_mul, Nat.pow_succ]
            · have := hinv.out; omega
            · have h1 := hblk.set_ t (UInt8.ofNat (M % 256))
              rw [← bv_of (M % 256) (by omega)] at h1
              have h2 := fixCells_step (d := d) (j := j) (N := N) (by have := hinv.out; omega)
              rw [← hinv.out.2.1, show d - 1 - j = t from by have := hinv.out; omega] at h2
              rw [h2] at h1
              exact h1
            · exact hbel.setCell (Nat.le_refl _) _
            · simp [intOf]
          · obtain rfl : x = -1 := by omega
            have hjd : Hid (j = d) := by have := hinv.out; show j = d; omega
            have hconv := own_string (P := Try.prog) (l := encF d N) (by have h1 := (hblk.owns (base := 0) (by omega) (by rw [fixCells_length hinv.out.2.2]; unfold maxLen; omega)); rw [fixCells_length hinv.out.2.2, hjd.out, fixCells_full] at h1; exact h1) (src := 36) (dst := 9) Try.underlying36 Try.underlying5 Try.underlying9
            go_wp2
            go_ret
            exact ⟨by rw [hy.out] <;> rfl, hbel⟩
      · have hq : ((N : Int) / 2 ^ (8 * d) != 0) = true := by
          have h1 : N / 2 ^ (8 * d) ≠ 0 := by rw [pow_256]; intro h; exact hbig ((Nat.div_eq_zero_iff_lt (Nat.pow_pos (by omega))).1 h)
          have h2 : (N : Int) / 2 ^ (8 * d) = ((N / 2 ^ (8 * d) : Nat) : Int) := by rw [Int.natCast_ediv, Int.natCast_pow]; rfl
          rw [h2]
          simp only [bne_iff_ne, ne_eq]
          omega
        have hno := Lib.hid (encFR_big hbig)
        clear hbig
        go_enter Try.func20, Try.ntmps20
        go_wp2_with (go_at_call 27; refine (within_any _ _ _ _).mono ?_; rintro e w' ⟨rfl, rfl⟩)
        go_ret
        exact ⟨by rw [hno.out] <;> rfl, Below.refl _ _⟩
    · have hno := Lib.hid (encFR_no (n := n) (width := width) (by omega))
      have hneg : decide (n < 0) = true := by simp; omega
      go_enter Try.func20, Try.ntmps20
      go_wp2_with (go_at_call 27; refine (within_any _ _ _ _).mono ?_; rintro e w' ⟨rfl, rfl⟩)
      go_ret
      exact ⟨by rw [hno.out] <;> rfl, Below.refl _ _⟩
  · have hb := inB_false hw
    have hno := Lib.hid (encFR_no (n := n) (width := width) (by omega))
    go_enter Try.func20, Try.ntmps20
    go_wp2_with (go_at_call 27; refine (within_any _ _ _ _).mono ?_; rintro e w' ⟨rfl, rfl⟩)
    go_ret
    exact ⟨by rw [hno.out] <;> rfl, Below.refl _ _⟩

theorem encodeFixed_walk (n width : Int) (w : World) (hn : (Lit.int .i64 n).wf = true) (_hw : (Lit.int .i64 width).wf = true) : Calls Try.prog 8 #[.int .i64 n, .int .i64 width] w fun e w' => e = .returned (.bool true) ∧ Below w.heap.size w w' := by
  have hm : n ≤ 9223372036854775807 := (bounds_i64 hn).2
  clear hn
  go_enter Try.func8, Try.ntmps8
  go_wp2_with fail
  refine (spec_EncodeFixed_any _ _ _ hm).mono ?_
  rintro e w1 ⟨rfl, b1⟩
  go_wp2_with fail
  refine (impl_EncodeFixed_any _ _ _ hm).mono ?_
  rintro e w2 ⟨rfl, b2⟩
  go_wp2_with fail
  go_ret
  exact ⟨rfl, b1.trans (b2.mono b1.size)⟩
end Go.Proofs.Ytpcjcjemfjhkcaa
