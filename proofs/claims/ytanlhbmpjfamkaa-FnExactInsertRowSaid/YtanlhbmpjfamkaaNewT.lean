/- NewTable: both texts. No condition but the size that the laws let in. -/
import Derived.Test.YtanlhbmpjfamkaaPutS
import Derived.Test.YtanlhbmpjfamkaaDelS
import Derived.Test.YtanlhbmpjfamkaaTabB
namespace Go.Proofs.Ytanlhbmpjfamkaa
open Go.RowKit Go.Deep

/-- What NewTable answers. -/
def newR (nm : ByteArray) (ar : Int) (rs : List (List Int)) : TabR := if validT nm ar (sortL rs) = true then ⟨nm, ar, sortL rs, true⟩ else ⟨{ data := #[] }, 0, [], false⟩
theorem validT_long {nm : ByteArray} {ar : Int} {rs : List (List Int)} (h : 8 < rs.length) : validT nm ar rs = false := by
  unfold validT
  rw [decide_eq_false (by omega)]
  simp
theorem newR_of {nm : ByteArray} {ar : Int} {rs R : List (List Int)} {b : Bool} (h : R = sortL rs ∨ (8 < R.length ∧ 8 < (sortL rs).length)) (hb : validT nm ar R = b) : newR nm ar rs = if b = true then ⟨nm, ar, R, true⟩ else ⟨{ data := #[] }, 0, [], false⟩ := by
  rcases h with rfl | ⟨h1, h2⟩
  · rw [newR, hb]
  · rw [newR, validT_long h2, ← hb, validT_long h1]
    rfl
theorem newR_small (nm : ByteArray) (ar : Int) (rs : List (List Int)) (hb : rs.length ≤ 1048576) (hs : sumL rs ≤ 1048576) : (newR nm ar rs).rs.length ≤ 1048576 ∧ sumL (newR nm ar rs).rs ≤ 4294967296 := by
  unfold newR
  by_cases h : validT nm ar (sortL rs) = true
  · rw [if_pos h]
    exact ⟨Nat.le_trans (sortL_len rs) hb, Nat.le_trans (sortL_sum rs) (by omega)⟩
  · rw [if_neg h]
    exact ⟨Nat.zero_le _, Nat.zero_le _⟩

set_option maxRecDepth 100000 in
set_option maxHeartbeats 1000000 in
theorem impl_NewTable_any (nm : ByteArray) (ar : Int) (A : Option Addr) (n c B : Nat) (rs : List (List Int)) (w : World) (hr : RdR w B A n rs) (hB : B ≤ w.heap.size) (hn : n ≤ 5000000000) (hrow : ∀ r ∈ rs, r.length ≤ 17592186044416) :
    Calls Try.prog 28 #[.string nm, .int .i64 ar, .slice A n c] w (TabBool (newR nm ar rs) w) := by
  have HL := Lib.hid hr.1
  have hrow' := Lib.hid hrow
  clear hrow
  have kn0 : Kn w [(w.heap.size, 0, .string { data := #[] }), (w.heap.size, 1, .int .i64 0), (w.heap.size, 2, .slice none 0 0)]
      (w.alloc (.cells #[.string { data := #[] }, .int .i64 0, .slice none 0 0] 27)) := by
    simpa using (Kn.start w).box3 (.string { data := #[] }) (.int .i64 0) (.slice none 0 0) 27
  go_enter Try.func28, Try.ntmps28
  go_wp2_with fail
  have s0 : w.heap.size + 1 ≤ (w.alloc (.cells #[.string { data := #[] }, .int .i64 0, .slice none 0 0] 27)).heap.size := by simp
  generalize w.alloc (.cells #[.string { data := #[] }, .int .i64 0, .slice none 0 0] 27) = w0 at kn0 s0 ⊢
  with_reducible refine (sorted_any A n c B rs w0 (RdR.belowB hr kn0.bel hB) (Nat.le_trans hB kn0.bel.size) hn hrow'.out).mono ?_
  rintro e w1 ⟨Ao, co, rfl, oo, b1⟩
  have s1 := b1.size
  have kn1 := kn0.next b1
  clear kn0 b1
  have hlen := Lib.hid (sortL_len rs)
  have HR := Lib.hid (show newR nm ar rs = if validT nm ar (sortL rs) = true then ⟨nm, ar, sortL rs, true⟩ else ⟨{ data := #[] }, 0, [], false⟩ from rfl)
  generalize sortL rs = R at oo hlen HR ⊢
  obtain ⟨d0, d1, d2, _⟩ := kn1.all
  have ne0 : w.heap.size < w1.heap.size := by omega
  go_wp2_with fail
  clear ne0
  have kn2 : Kn w [(w.heap.size, 0, .string { data := #[] }), (w.heap.size, 1, .int .i64 0), (w.heap.size, 2, .slice none 0 0), (w1.heap.size, 0, .string nm), (w1.heap.size, 1, .int .i64 ar), (w1.heap.size, 2, .slice Ao R.length co)]
      (w1.alloc (.cells #[.string nm, .int .i64 ar, .slice Ao R.length co] 27)) := kn1.box3 (.string nm) (.int .i64 ar) (.slice Ao R.length co) 27
  have s2 : w1.heap.size + 1 ≤ (w1.alloc (.cells #[.string nm, .int .i64 ar, .slice Ao R.length co] 27)).heap.size := by simp
  have oo2 := oo.below ((Below.refl _ _).alloc (Nat.le_refl _) (.cells #[.string nm, .int .i64 ar, .slice Ao R.length co] 27)) (Nat.le_refl _)
  clear oo kn1 d0 d1 d2
  generalize w1.alloc (.cells #[.string nm, .int .i64 ar, .slice Ao R.length co] 27) = w2 at kn2 s2 oo2 ⊢
  have KV := Lib.hid (impl_IsValidTable_any nm ar Ao R.length co w1.heap.size R w2 (oo2.rd rfl) (by omega) (by have := hlen.out; have := HL.out; omega))
  obtain ⟨d0, d1, d2, d3, d4, d5, _⟩ := kn2.all
  cases hv : validT nm ar R with
  | false =>
    have hf : Hid (newR nm ar rs = ⟨{ data := #[] }, 0, [], false⟩) := by show _ = _; rw [HR.out, hv]; rfl
    rw [hv] at KV
    clear hv oo2
    refine KV.out.mono ?_
    rintro e w3 ⟨rfl, b3⟩
    have s3 := b3.size
    have kn3 := kn2.next b3
    clear kn2 b3 d0 d1 d2 d3 d4 d5
    obtain ⟨d0, d1, d2, d3, d4, d5, _⟩ := kn3.all
    obtain ⟨f0, f1, f2, f3, f4, f5, _⟩ := kn3.fall
    have hbel := Lib.hid kn3.bel
    clear kn3
    go_wp2_with fail
    refine bodyPost_ret (v := .tuple #[.agg #[.string { data := #[] }, .int .i64 0, .slice none 0 0], .bool false]) (by simp [results, Try.results28, go_sem, *]) rfl (TabBool.of hf.out (OwnR.nil _ _ _) ?_)
    repeat first | exact hbel.out | (refine Below.setCell ?_ ?_ _; rotate_left; (simp; try omega))
  | true =>
    have hf : Hid (newR nm ar rs = ⟨nm, ar, R, true⟩) := by show _ = _; rw [HR.out, hv]; rfl
    rw [hv] at KV
    clear hv
    refine KV.out.mono ?_
    rintro e w3 ⟨rfl, b3⟩
    have s3 := b3.size
    have oo3 := oo2.below b3 (by omega)
    have kn3 := kn2.next b3
    clear kn2 b3 oo2 d0 d1 d2 d3 d4 d5
    obtain ⟨d0, d1, d2, d3, d4, d5, _⟩ := kn3.all
    obtain ⟨f0, f1, f2, f3, f4, f5, _⟩ := kn3.fall
    have hbel := Lib.hid kn3.bel
    have HO := Lib.hid oo3
    clear kn3 oo3
    go_wp2_with fail
    refine bodyPost_ret (v := .tuple #[.agg #[.string nm, .int .i64 ar, .slice Ao R.length co], .bool true]) (by simp [results, Try.results28, go_sem, *]) rfl (TabBool.of hf.out ?_ ?_)
    · refine OwnR.down (lo := w0.heap.size) (OwnR.wide (hi := w1.heap.size) ?_ (by simp; omega)) (by omega)
      repeat refine OwnR.setOff ?_ (by omega)
      exact HO.out
    · repeat first | exact hbel.out | (refine Below.setCell ?_ ?_ _; rotate_left; (simp; try omega))

set_option maxRecDepth 100000 in
set_option maxHeartbeats 4000000 in
theorem spec_NewTable_any (nm : ByteArray) (ar : Int) (A : Option Addr) (n c B : Nat) (rs : List (List Int)) (w : World) (hr : RdR w B A n rs) (hB : B ≤ w.heap.size) (hn : n ≤ 5000000000) (hrow : ∀ r ∈ rs, r.length ≤ 17592186044416) :
    Calls Try.prog 26 #[.string nm, .int .i64 ar, .slice A n c] w (TabBool (newR nm ar rs) w) := by
  have HL := Lib.hid hr.1
  have hrow' := Lib.hid hrow
  clear hrow
  go_enter Try.func26, Try.ntmps26
  go_wp2_with fail
  go_loopw [9] (fun i wr => ∃ (k : Nat) (v : Value), k ≤ n ∧ i = .int .i64 k ∧ LInv w w.heap.size w.heap.size (w.heap.size + 1) (w.heap.size + 1 + 1) (.string { data := #[] }) (.int .i64 0) (.slice none 0 0) (.string nm) (.int .i64 ar) (sortL (rs.take k)) v wr) (fun i _ => n - (intOf i).toNat)
  case atStart =>
    refine ⟨0, .slice none 0 0, by omega, rfl, OwnR.nil _ _ _, ((Below.refl _ _).alloc (Nat.le_refl _) _).alloc (by simp) _, by simp, by omega, by omega, by omega, by omega, by omega, by omega, by simp [go_sem], by simp [go_sem], by simp [go_sem], by simp [go_sem], by simp [go_sem], by simp [go_sem], by simp [go_sem], fun i hi => ?_⟩
    have : i = 0 ∨ i = 1 ∨ i = 2 := by omega
    rcases this with rfl | rfl | rfl <;> simp [go_sem]
  case round =>
    obtain ⟨k, v, hk, rfl, hinv⟩ := hrel
    have hRm : Hid (∀ r ∈ sortL (rs.take k), r ∈ rs) := fun r hr => List.take_subset _ _ ((sortL_mem _ _).1 hr)
    have hRl := Lib.hid (sortL_take rs k)
    have hRk := Lib.hid (show k = n → sortL (rs.take k) = sortL rs from fun h => by rw [List.take_of_length_le (by rw [HL.out]; omega)])
    have HN := Lib.hid (show k < n → ∀ x, rs[k]? = some x → sortL (rs.take (k + 1)) = putA x false (sortL (rs.take k)) from fun _ x hx => by
      rw [List.take_add_one, hx]
      exact putAll_append [] (rs.take k) [x])
    generalize sortL (rs.take k) = R at hinv hRm hRl hRk HN
    obtain ⟨A1, c1, rfl⟩ := hinv.own.form
    by_cases hgo : k < n ∧ R.length ≤ 8
    · obtain ⟨hlt, h8⟩ := hgo
      obtain ⟨b, o, x, A', c', rfl, hb, hx, hc, hrd, _⟩ := RdR.at_ (RdR.more hr hB) hlt
      have hbel := hinv.bel
      have hsz := hinv.size
      have x2 := hinv.x2
      have fx := hinv.fx
      have hc1 := (hbel.cell (p := ⟨b, o + k, none⟩) hb).trans hc
      have hxl := hrow'.out x (List.mem_of_getElem? hx)
      have KP : Hid (∀ W, Below wr.heap.size wr W → Calls Try.prog 48 #[.slice A1 R.length c1, .slice A' x.length c'] W (RowsNew (putA x false R) W)) := fun W b =>
        l4Put_any A1 A' R.length c1 x.length c' wr.heap.size R x W (RdR.belowB (hinv.own.rd rfl) b (Nat.le_refl _)) ((hrd.below (hbel.trans (b.mono hbel.size))).more hbel.size) b.size (by omega) hxl (fun r hr => hrow'.out r (hRm.out r hr))
      have HX := Lib.hid (HN.out hlt x hx)
      have HI := Lib.hid hinv
      have g1 : (0 : Int) ≤ (k : Int) := by omega
      have g2 : (k : Int) < (n : Int) := by omega
      have g3 : (k : Int).toNat = k := by omega
      have l0 : b < wr.heap.size := by omega
      have l2 : w.heap.size + 1 < wr.heap.size := by omega
      clear hx hc hrd hinv hbel
      go_wp2_with fail
      go_region_law (first
          | (go_simp; go_at_call 48; refine (KP.out _ ((Below.refl _ _).drew)).mono ?_; rintro e w1 ⟨A2, c2, rfl, ho1, hb1⟩
             have hb2 : Below wr.heap.size wr w1 := ((Below.refl _ _).drew).trans hb1
             have n2 : w1.cell? ⟨w.heap.size + 1, 2, none⟩ = some (.slice A1 R.length c1) := (hb2.cell (p := ⟨w.heap.size + 1, 2, none⟩) l2).trans x2
             have n3 : w1.frozen? ⟨w.heap.size + 1, 2, none⟩ = false := (hb2.frozen (p := ⟨w.heap.size + 1, 2, none⟩) l2).trans fx
             have HF := Lib.hid (HI.out.push (hb2.mono hsz) (OwnR.down ho1 hsz))
             clear hb2 ho1 hb1)
          | fail)
      all_goals (
        go_wp2_with fail
        refine ⟨⟨k + 1, _, by omega, by go_num, by rw [HX.out]; exact HF.out⟩, ?_⟩
        simp [intOf]
        omega)
    · have x0 := hinv.x0
      have x1 := hinv.x1
      have x2 := hinv.x2
      have hsz := hinv.size
      have HI := Lib.hid hinv
      have hRlen : Hid (R.length ≤ n) := by
        have h1 := hRl.out
        have h2 := sortL_len rs
        rw [HL.out] at h2
        exact Nat.le_trans h1 h2
      have KV := Lib.hid (spec_IsValidTable_any nm ar A1 R.length c1 wr.heap.size R wr (hinv.own.rd rfl) (Nat.le_refl _) (by have := hRlen.out; omega))
      have HV : Hid (R = sortL rs ∨ (8 < R.length ∧ 8 < (sortL rs).length)) := by
        by_cases h : k < n
        · exact .inr ⟨by omega, by have := hRl.out; omega⟩
        · exact .inl (hRk.out (by omega))
      clear hinv hRm hRl hRk HN
      cases hv : validT nm ar R with
      | false =>
        have hf : Hid (newR nm ar rs = ⟨{ data := #[] }, 0, [], false⟩) := by show _ = _; rw [newR_of HV.out hv]; rfl
        rw [hv] at KV
        clear hv HV
        by_cases hlt : k < n
        · have h8 : ¬ R.length ≤ 8 := fun h => hgo ⟨hlt, h⟩
          clear hgo
          go_wp2_with fail
          refine KV.out.mono ?_
          rintro e w3 ⟨rfl, b3⟩
          have h3 := HI.out.next b3
          have d0 := h3.c0
          have d1 := h3.c1
          have d2 := h3.c2
          have e0 := (h3.res 0 (by omega)).2
          have e1 := (h3.res 1 (by omega)).2
          have e2 := (h3.res 2 (by omega)).2
          have hbel := Lib.hid h3.bel
          clear h3 b3 x0 x1 x2
          go_wp2_with fail
          refine bodyPost_ret (v := .tuple #[.agg #[.string { data := #[] }, .int .i64 0, .slice none 0 0], .bool false]) (by simp [results, Try.results26, go_sem, *]) rfl (TabBool.of hf.out (OwnR.nil _ _ _) ?_)
          repeat first | exact hbel.out | (refine Below.setCell ?_ ?_ _; rotate_left; (simp; try omega))
        · clear hgo
          go_wp2_with fail
          refine KV.out.mono ?_
          rintro e w3 ⟨rfl, b3⟩
          have h3 := HI.out.next b3
          have d0 := h3.c0
          have d1 := h3.c1
          have d2 := h3.c2
          have e0 := (h3.res 0 (by omega)).2
          have e1 := (h3.res 1 (by omega)).2
          have e2 := (h3.res 2 (by omega)).2
          have hbel := Lib.hid h3.bel
          clear h3 b3 x0 x1 x2
          go_wp2_with fail
          refine bodyPost_ret (v := .tuple #[.agg #[.string { data := #[] }, .int .i64 0, .slice none 0 0], .bool false]) (by simp [results, Try.results26, go_sem, *]) rfl (TabBool.of hf.out (OwnR.nil _ _ _) ?_)
          repeat first | exact hbel.out | (refine Below.setCell ?_ ?_ _; rotate_left; (simp; try omega))
      | true =>
        have hf : Hid (newR nm ar rs = ⟨nm, ar, R, true⟩) := by show _ = _; rw [newR_of HV.out hv]; rfl
        rw [hv] at KV
        have h8 := Lib.hid (show ¬ 8 < R.length from fun h => by rw [validT_long h] at hv; cases hv)
        clear hv HV
        have hlt : ¬ k < n := fun h => hgo ⟨h, by have := h8.out; omega⟩
        clear hgo
        go_wp2_with fail
        refine KV.out.mono ?_
        rintro e w3 ⟨rfl, b3⟩
        have h3 := HI.out.next b3
        have d0 := h3.c0
        have d1 := h3.c1
        have d2 := h3.c2
        have y0 := h3.x0
        have y1 := h3.x1
        have y2 := h3.x2
        have e0 := (h3.res 0 (by omega)).2
        have e1 := (h3.res 1 (by omega)).2
        have e2 := (h3.res 2 (by omega)).2
        have HF := Lib.hid (h3.fin (by omega) (by omega) (.string nm) (.int .i64 ar) (.slice A1 R.length c1))
        clear h3 b3 x0 x1 x2
        go_wp2_with fail
        exact bodyPost_ret (v := .tuple #[.agg #[.string nm, .int .i64 ar, .slice A1 R.length c1], .bool true]) (by simp [results, Try.results26, go_sem, *]) rfl (TabBool.of hf.out HF.out.1 HF.out.2)
end Go.Proofs.Ytanlhbmpjfamkaa
