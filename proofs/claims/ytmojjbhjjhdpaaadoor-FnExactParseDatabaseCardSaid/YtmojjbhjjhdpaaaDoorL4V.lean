/- spec.l4Values: each byte less '0'. No condition but the size that the laws let in. -/
import Derived.Test.YtmojjbhjjhdpaaaDoorDig
namespace Go.Proofs.YtmojjbhjjhdpaaaDoor
open Go.RowKit Go.Deep

set_option maxRecDepth 100000 in
set_option maxHeartbeats 400000 in
theorem l4Values_any (s : ByteArray) (w : World) (hs : s.size ≤ 1048576) :
    Calls Tryd.prog 79 #[.string s] w (IntsNew (ploc s.data.toList) w) := by
  obtain ⟨i0, hi, hz0, hz1, hz2⟩ := info_parts info_int
  go_enter Tryd.func79, Tryd.ntmps79
  go_wp2
  go_loopw [3, 4] (fun v i wr => ∃ (k : Nat) (p : List Int), k ≤ s.size ∧ p.length ≤ k ∧ i = .int .i64 k ∧ wr.ownsRow w.heap.size 3 1 v p.length (p.map iv) ∧ Below w.heap.size w wr ∧ Hid (p = ploc (s.data.toList.take k))) (fun _ i _ => s.size - (intOf i).toNat)
  case atStart => exact ⟨0, [], by omega, by simp, rfl, own_empty w _ (Nat.le_refl _), (Below.refl _ _).alloc (Nat.le_refl _) _, rfl⟩
  case round =>
    obtain ⟨k, p, hk, hpk, rfl, hown, hbel, hinv⟩ := hrel
    have hsz := hbel.size
    by_cases hlt : k < s.size
    · obtain ⟨x, hx⟩ : ∃ x, s[k].toNat = x := ⟨_, rfl⟩
      have hx256 : x < 256 := by have := s[k].toNat_lt; omega
      have hst : Hid (p ++ [(x : Int) - 48] = ploc (s.data.toList.take (k + 1))) := by
        show _ = _
        rw [take_snoc s k hlt, ploc_snoc, ← hinv.out, hx]
      go_wp2_with (at_builtin; refine wpList_append_lies _ rfl _ _ _ rfl w.heap.size 3 i0 _ 1 8 Tryd.underlying92 hi hz0 hz1 hz2 rfl (by omega) _ p.length _ rfl (hown.alloc _) ⟨wr.heap.size, 0, none⟩ 1 1 [.int .i64 ((x : Int) - 48)] rfl rfl (World.news_of_block (cs := #[.int .i64 ((x : Int) - 48)]) (t := 3) (fr := (0, 0)) (heap_alloc_new wr _)) (by simp [Value.oneCell']) (by omega) (by unfold maxLen; omega) (by omega) (by simp; omega) (wr.heap.size + 1) (by simp) ?_; intro g cap w1 hown1 hgrow _ _)
      have hown2 := own_snoc hown1
      clear hown1
      refine ⟨⟨k + 1, p ++ [(x : Int) - 48], by omega, by simp; omega, by go_num, by simpa using hown2, (hbel.alloc (by omega) _).grown hgrow (by simp; omega) (fun j hj => (hown.lt j hj).1), hst⟩, ?_⟩
      simp [intOf]
      omega
    · obtain rfl : k = s.size := by omega
      obtain ⟨A0, c0, rfl⟩ := own_form hown
      have hf : Hid (ploc s.data.toList = p) := by
        show _ = p
        have h1 := hinv.out
        rw [take_all] at h1
        exact h1.symm
      go_wp2
      go_ret
      exact IntsNew.of hf.out (ownI_of hown) hbel
end Go.Proofs.YtmojjbhjjhdpaaaDoor
