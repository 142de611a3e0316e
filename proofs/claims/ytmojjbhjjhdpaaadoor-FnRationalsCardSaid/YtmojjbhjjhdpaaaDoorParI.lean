/- ParseInt, both texts: the int whose text is s, if it has at most nine digits. -/
import Derived.Test.YtmojjbhjjhdpaaaDoorAtoi
import Derived.Test.YtmojjbhjjhdpaaaDoorFmt
namespace Go.Proofs.YtmojjbhjjhdpaaaDoor
open Go.RowKit

set_option maxRecDepth 100000 in
set_option maxHeartbeats 400000 in
theorem impl_ParseInt_yes (n : Int) (s : ByteArray) (w : World) (ht : Tb w) (h : IsI n s.data.toList) :
    Calls Tryd.prog 16 #[.string s] w fun e w' => e = .returned (.tuple #[.int .i64 n, .bool true]) ∧ Below w.heap.size w w' := by
  have hl : s.size ≤ 10 := by have := h.len; simpa using this
  obtain ⟨⟨h1, h2⟩, h3⟩ := h
  have hin : inB n (-999999999) 999999999 = true := inB_true h1 h2
  have ha := Lib.hid (show Lib.atoiAll s.data.toList = .ok n by rw [h3]; exact atoiAll_fmtI (by omega) (by omega))
  have hT := str_of h3
  have K1 : Hid (∀ W, Tb W → Calls Tryd.prog 65 #[.int .i64 n] W fun e w' => e = .returned (.string s) ∧ Below W.heap.size W w') := fun W t => by
    have := itoa_any n W (by omega) (by omega) t
    rw [← hT] at this
    exact this
  clear h3 hT
  go_enter Tryd.func16, Tryd.ntmps16
  go_wp2_with fail
  refine (atoi_yes s n _ (by omega) ha.out).mono ?_
  rintro e w1 ⟨rfl, b1⟩
  have t1 := ht.on b1
  go_wp2_with fail
  refine (K1.out _ t1).mono ?_
  rintro e w2 ⟨rfl, b2⟩
  have b3 := b1.trans (b2.mono b1.size)
  clear b1 b2
  go_wp2_with fail
  refine (within_any _ _ _ _).mono ?_
  rw [hin]
  rintro e w' ⟨rfl, rfl⟩
  go_wp2_with fail
  go_ret2
  exact ⟨rfl, b3⟩

set_option maxRecDepth 100000 in
set_option maxHeartbeats 400000 in
theorem impl_ParseInt_no (s : ByteArray) (w : World) (hs : s.size ≤ 1048576) (ht : Tb w) (hev : Ev w) (h : ∀ n, ¬ IsI n s.data.toList) :
    Calls Tryd.prog 16 #[.string s] w fun e w' => e = .returned (.tuple #[.int .i64 0, .bool false]) ∧ Below w.heap.size w w' := by
  by_cases hl : s.size ≤ 10
  · by_cases ha : ∃ v, Lib.atoiAll s.data.toList = .ok v
    · obtain ⟨v, ha⟩ := ha
      have hb := Lib.atoiAll_bounds ha
      have HA := Lib.hid ha
      have h1 : -9223372036854775808 ≤ v := by omega
      have h2 : v ≤ 9223372036854775807 := by omega
      obtain ⟨T, hT⟩ : ∃ T : ByteArray, T = ⟨(fmtI v).toArray⟩ := ⟨_, rfl⟩
      have K1 : Hid (∀ W, Tb W → Calls Tryd.prog 65 #[.int .i64 v] W fun e w' => e = .returned (.string T) ∧ Below W.heap.size W w') := fun W t => by
        have := itoa_any v W (by omega) (by omega) t
        rw [← hT] at this
        exact this
      have hx : Hid (T = s → inB v (-999999999) 999999999 = false) := fun e => inB_false fun hv => h v ⟨hv, by rw [← e, hT]⟩
      clear ha hb h hT
      go_enter Tryd.func16, Tryd.ntmps16
      go_wp2_with fail
      refine (atoi_yes s v _ (by omega) HA.out).mono ?_
      rintro e w1 ⟨rfl, b1⟩
      have t1 := ht.on b1
      go_wp2_with fail
      refine (K1.out _ t1).mono ?_
      rintro e w2 ⟨rfl, b2⟩
      have b3 := b1.trans (b2.mono b1.size)
      clear b1 b2
      by_cases hTs : T = s
      · have hin := hx.out hTs
        subst hTs
        go_wp2_with fail
        refine (within_any _ _ _ _).mono ?_
        rw [hin]
        rintro e w' ⟨rfl, rfl⟩
        go_wp2_with fail
        go_ret2
        exact ⟨rfl, b3⟩
      · have q0 := str_eq0 hTs
        have q1 := str_ne1 hTs
        clear hTs
        go_wp2_with fail
        go_ret2
        exact ⟨rfl, b3⟩
    · have HA := Lib.hid (show ∀ v, ¬ Lib.atoiAll s.data.toList = .ok v from fun v e => ha ⟨v, e⟩)
      clear ha h
      go_enter Tryd.func16, Tryd.ntmps16
      go_wp2_with fail
      refine (atoi_no s _ (by omega) hev HA.out).mono ?_
      rintro e w1 ⟨v, N, rfl, b1⟩
      go_wp2_with fail
      go_ret2
      exact ⟨rfl, b1⟩
  · clear h
    go_enter Tryd.func16, Tryd.ntmps16
    go_wp2_with fail
    go_ret2
    exact ⟨rfl, Below.refl _ _⟩
end Go.Proofs.YtmojjbhjjhdpaaaDoor
