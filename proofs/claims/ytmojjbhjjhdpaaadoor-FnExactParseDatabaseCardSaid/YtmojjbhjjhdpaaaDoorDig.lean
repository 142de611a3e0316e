/- Digits: digitsOf, digitsText. No condition but the sizes that the laws let in. -/
import Derived.Test.YtmojjbhjjhdpaaaDoorInts
import Derived.Test.YtmojjbhjjhdpaaaDoorNew
import Derived.Deep.AppendLies
namespace Go.Proofs.YtmojjbhjjhdpaaaDoor
open Go.RowKit Go.Deep

/-- Each byte less '0'. -/
def ploc (l : List UInt8) : List Int := l.map fun b => (b.toNat : Int) - 48
theorem ploc_snoc (l : List UInt8) (b : UInt8) : ploc (l ++ [b]) = ploc l ++ [(b.toNat : Int) - 48] := by simp [ploc]
def isDig (b : UInt8) : Bool := inB b.toNat 48 57
/-- The digits of a text; false if there is another byte. -/
def digR (l : List UInt8) : List Int × Bool := if l.all isDig = true then (ploc l, true) else ([], false)
theorem digR_len (l : List UInt8) : (digR l).1.length ≤ l.length := by
  unfold digR
  split <;> simp [ploc]
/-- One digit for each number. -/
def dtext (zs : List Int) : List UInt8 := zs.map fun x => UInt8.ofNat (48 + x.toNat)

theorem mem_bytes (s : ByteArray) (k : Nat) (h : k < s.size) : s[k] ∈ s.data.toList := by
  have h1 : s.data.toList[k]'(by simpa using h) = s[k] := rfl
  rw [← h1]
  exact List.getElem_mem _

set_option maxRecDepth 100000 in
set_option maxHeartbeats 400000 in
theorem digitsOf_any (s : ByteArray) (w : World) (hs : s.size ≤ 1048576) :
    Calls Tryd.prog 118 #[.string s] w (IntsBool (digR s.data.toList) w) := by
  obtain ⟨i0, hi, hz0, hz1, hz2⟩ := info_parts info_int
  go_enter Tryd.func118, Tryd.ntmps118
  go_wp2
  go_loopw [4, 5] (fun v i wr => ∃ (k : Nat) (p : List Int), k ≤ s.size ∧ p.length ≤ k ∧ i = .int .i64 k ∧ wr.ownsRow w.heap.size 3 1 v p.length (p.map iv) ∧ Below w.heap.size w wr ∧ Hid (p = ploc (s.data.toList.take k) ∧ (s.data.toList.take k).all isDig = true)) (fun _ i _ => s.size - (intOf i).toNat)
  case atStart => exact ⟨0, [], by omega, by simp, rfl, own_empty w _ (Nat.le_refl _), (Below.refl _ _).alloc (Nat.le_refl _) _, rfl, rfl⟩
  case round =>
    obtain ⟨k, p, hk, hpk, rfl, hown, hbel, hinv⟩ := hrel
    have hsz := hbel.size
    by_cases hlt : k < s.size
    · obtain ⟨x, hx⟩ : ∃ x, s[k].toNat = x := ⟨_, rfl⟩
      have hx256 : x < 256 := by have := s[k].toNat_lt; omega
      by_cases hin : 48 ≤ x ∧ x ≤ 57
      · obtain ⟨h48, h57⟩ := hin
        have hin' : inB (x : Int) 48 57 = true := inB_true (by omega) (by omega)
        have hst : Hid (p ++ [(x : Int) - 48] = ploc (s.data.toList.take (k + 1)) ∧ (s.data.toList.take (k + 1)).all isDig = true) := by
          show _ ∧ _
          rw [take_snoc s k hlt, ploc_snoc, ← hinv.out.1, List.all_append, hinv.out.2, hx]
          exact ⟨rfl, by simp [isDig, hx, hin']⟩
        go_wp2_with (first | (go_at_call 67; refine (within_any _ _ _ _).mono ?_; rintro e w' ⟨rfl, rfl⟩) | (at_builtin; refine wpList_append_lies _ rfl _ _ _ rfl w.heap.size 3 i0 _ 1 8 Tryd.underlying92 hi hz0 hz1 hz2 rfl (by omega) _ p.length _ rfl (hown.alloc _) ⟨wr.heap.size, 0, none⟩ 1 1 [.int .i64 ((x : Int) - 48)] rfl rfl (World.news_of_block (cs := #[.int .i64 ((x : Int) - 48)]) (t := 3) (fr := (0, 0)) (heap_alloc_new wr _)) (by simp [Value.oneCell']) (by omega) (by unfold maxLen; omega) (by omega) (by simp; omega) (wr.heap.size + 1) (by simp) ?_; intro g cap w1 hown1 hgrow _ _))
        have hown2 := own_snoc hown1
        clear hown1
        refine ⟨⟨k + 1, p ++ [(x : Int) - 48], by omega, by simp; omega, by go_num, by simpa using hown2, (hbel.alloc (by omega) _).grown hgrow (by simp; omega) (fun j hj => (hown.lt j hj).1), hst⟩, ?_⟩
        simp [intOf]
        omega
      · have hin' : inB (x : Int) 48 57 = false := inB_false (by omega)
        have hf : Hid (digR s.data.toList = ([], false)) := by
          show digR s.data.toList = ([], false)
          rw [digR, if_neg]
          intro h
          rw [List.all_eq_true] at h
          have := h s[k] (mem_bytes s k hlt)
          rw [isDig, hx, hin'] at this
          cases this
        clear hin
        go_wp2_with (go_at_call 67; refine (within_any _ _ _ _).mono ?_; rintro e w' ⟨rfl, rfl⟩)
        go_ret2
        exact IntsBool.of hf.out (OwnI.nil _ _ _) hbel
    · obtain rfl : k = s.size := by omega
      obtain ⟨A0, c0, rfl⟩ := own_form hown
      have hf : Hid (digR s.data.toList = (p, true)) := by
        show digR s.data.toList = (p, true)
        have h1 := hinv.out
        rw [take_all] at h1
        rw [digR, if_pos h1.2, h1.1]
      go_wp2
      go_ret2
      exact IntsBool.of hf.out (ownI_of hown) hbel

theorem info_u8 : (Tryd.prog.info? 5).map (fun i => (i.zero, i.size, i.bytes)) = some (some (.int .u8 0), 1, 1) := by kernel_rfl

set_option maxRecDepth 100000 in
set_option maxHeartbeats 400000 in
theorem digitsText_any (A : Option Addr) (n c : Nat) (zs : List Int) (w : World) (hr : RdI w w.heap.size A n zs) (hn : n ≤ 1048576) (hdig : ∀ x ∈ zs, 0 ≤ x ∧ x ≤ 9) :
    Calls Tryd.prog 116 #[.slice A n c] w fun e w' => e = .returned (.string ⟨(dtext zs).toArray⟩) ∧ Below w.heap.size w w' := by
  obtain ⟨i0, hi, hz0, hz1, hz2⟩ := info_parts info_u8
  have HL := Lib.hid hr.1
  have HD := Lib.hid hdig
  clear hdig
  go_enter Tryd.func116, Tryd.ntmps116
  go_wp2
  go_loopw [3, 9] (fun v i wr => ∃ (k : Nat) (p : List UInt8), k ≤ n ∧ p.length ≤ k ∧ i = .int .i64 k ∧ wr.ownsRow w.heap.size 5 1 v p.length (p.map bv) ∧ Below w.heap.size w wr ∧ Hid (p = dtext (zs.take k))) (fun _ i _ => n - (intOf i).toNat)
  case atStart => exact ⟨0, [], by omega, by simp, rfl, World.ownsRow_made (base := w.heap.size) (e := 5) (size := 1) w #[] 0 (Nat.le_refl _) (by unfold maxLen; omega) rfl, (Below.refl _ _).alloc (Nat.le_refl _) _, rfl⟩
  case round =>
    obtain ⟨k, p, hk, hpk, rfl, hown, hbel, hinv⟩ := hrel
    have hsz := hbel.size
    by_cases hlt : k < n
    · obtain ⟨b', o', x, rfl, hb', hx, hc'⟩ := hr.at_ hlt
      have hc2 := (hbel.cell (p := ⟨b', o' + k, none⟩) hb').trans hc'
      obtain ⟨hx0, hx9⟩ := HD.out x (List.mem_of_getElem? hx)
      obtain ⟨X, rfl⟩ := Int.eq_ofNat_of_zero_le hx0
      have hst : Hid (p ++ [UInt8.ofNat (48 + X)] = dtext (zs.take (k + 1))) := by show _ = _; rw [List.take_add_one, hx, dtext, List.map_append, hinv.out]; rfl
      clear hc' hx
      go_wp2_with (at_builtin; refine wpList_append_lies _ rfl _ _ _ rfl w.heap.size 5 i0 _ 1 1 Tryd.underlying62 hi hz0 hz1 hz2 rfl (by omega) _ p.length _ rfl (hown.alloc _) ⟨wr.heap.size, 0, none⟩ 1 1 [.int .u8 (48 + (X : Int))] rfl rfl (World.news_of_block (cs := #[.int .u8 (48 + (X : Int))]) (t := 5) (fr := (0, 0)) (heap_alloc_new wr _)) (by simp [Value.oneCell']) (by omega) (by unfold maxLen; omega) (by omega) (by simp; omega) (wr.heap.size + 1) (by simp) ?_; intro g cap w1 hown1 hgrow _ _)
      have hown2 : w1.ownsRow w.heap.size 5 1 (.slice (some ⟨g, 0, none⟩) (p.length + 1) cap) (p ++ [UInt8.ofNat (48 + X)]).length ((p ++ [UInt8.ofNat (48 + X)]).map bv) := by
        have h1 : Value.int .u8 (48 + (X : Int)) = bv (UInt8.ofNat (48 + X)) := by rw [← bv_of (48 + X) (by omega)]; congr 1
        rw [h1] at hown1
        simpa using hown1
      clear hown1
      refine ⟨⟨k + 1, p ++ [UInt8.ofNat (48 + X)], by omega, by simp; omega, by go_num, hown2, (hbel.alloc (by omega) _).grown hgrow (by simp; omega) (fun j hj => (hown.lt j hj).1), hst⟩, ?_⟩
      simp [intOf]
      omega
    · obtain rfl : k = n := by omega
      have hconv := own_string (P := Tryd.prog) hown (src := 62) (dst := 9) Tryd.underlying62 Tryd.underlying5 Tryd.underlying9
      have hf : Hid (p = dtext zs) := by show p = dtext zs; rw [hinv.out, List.take_of_length_le (Nat.le_of_eq HL.out)]
      go_wp2
      go_ret
      exact ⟨by rw [← hf.out] <;> rfl, hbel⟩
end Go.Proofs.YtmojjbhjjhdpaaaDoor
