/- FormatDatabase, both texts. No condition but the size that the laws let in (and, of the program's, that the library's table is laid). -/
import Derived.Test.YtmojjbhjjhdpaaaDoorTFmt
import Derived.Test.YtmojjbhjjhdpaaaDoorTPar0
import Derived.Test.YtmojjbhjjhdpaaaDoorIsDbS
import Derived.Test.YtmojjbhjjhdpaaaDoorIsDbI
import Derived.Test.YtmojjbhjjhdpaaaDoorKn
namespace Go.Proofs.YtmojjbhjjhdpaaaDoor
open Go.RowKit Go.Deep

/-- The text of a table. -/
def fmtB (t : Tab) : ByteArray := fmtT t.nm t.ar t.rs
/-- The tables' text. -/
def dbL (ts : List Tab) : List UInt8 := Lib.join (ts.map fun t => (fmtB t).data.toList) [59]
/-- The text of a database. -/
def fmtD (ts : List Tab) : ByteArray := if validD ts = true then ⟨(dbL ts).toArray⟩ else ⟨#[]⟩
theorem fmtD_no {ts : List Tab} (h : validD ts = false) : fmtD ts = ⟨#[]⟩ := by rw [fmtD, if_neg (by rw [h]; simp)]
theorem fmtD_yes {ts : List Tab} (h : validD ts = true) : fmtD ts = ⟨(dbL ts).toArray⟩ := by rw [fmtD, if_pos h]
theorem validD_len {ts : List Tab} (h : validD ts = true) : ts.length ≤ 6 := by
  unfold validD at h
  simp only [Bool.and_eq_true, decide_eq_true_eq] at h
  exact h.2
theorem validD_all {ts : List Tab} (h : validD ts = true) : ∀ t ∈ ts, validTb t = true := by
  unfold validD at h
  simp only [Bool.and_eq_true, decide_eq_true_eq, List.all_eq_true] at h
  exact h.1.1
theorem fmtB_size {t : Tab} (h : validTb t = true) : (fmtB t).size ≤ 35 := fmtT_size h
theorem validD_pos {ts : List Tab} (h : validD ts = false) : 0 < ts.length := by
  cases ts with
  | nil => exact absurd h (by decide +kernel)
  | cons t ts => simp
theorem dbL_snoc {ts : List Tab} {k : Nat} {t : Tab} (h : ts[k]? = some t) (hk : 0 < k) : dbL (ts.take (k + 1)) = dbL (ts.take k) ++ 59 :: (fmtB t).data.toList := by
  have hl := (List.getElem?_eq_some_iff.1 h).1
  unfold dbL
  rw [List.take_add_one, h, List.map_append]
  exact join_snoc 59 _ _ (by
    intro e
    have h0 : ((ts.take k).map fun t => (fmtB t).data.toList).length = 0 := by rw [e]; rfl
    rw [List.length_map, List.length_take] at h0
    omega)
theorem dbL_one {ts : List Tab} {t : Tab} (h : ts[0]? = some t) : dbL (ts.take (0 + 1)) = (fmtB t).data.toList := by
  unfold dbL
  rw [List.take_add_one, h]
  exact Lib.join_one _ _
theorem dbL_lens : ∀ l : List Tab, (∀ t ∈ l, (fmtB t).size ≤ 35) → Lib.lens (l.map fun t => (fmtB t).data.toList) ≤ 35 * l.length := by
  intro l
  induction l with
  | nil => intro _; simp [Lib.lens]
  | cons a l ih =>
    intro h
    have h1 := ih fun r hr => h r (by simp [hr])
    have h2 := h a (by simp)
    have h3 : (fmtB a).data.toList.length = (fmtB a).size := Array.length_toList
    simp only [Lib.lens, List.map_cons, List.sum_cons, List.length_cons] at h1 ⊢
    omega
theorem dbL_len {ts : List Tab} (h : ∀ t ∈ ts, (fmtB t).size ≤ 35) : (dbL ts).length ≤ 36 * ts.length := by
  have h1 := join_len 59 (ts.map fun t => (fmtB t).data.toList)
  have h2 := dbL_lens ts h
  rw [List.length_map] at h1
  unfold dbL
  omega
/-- k tables are written. -/
def FdInv (ts : List Tab) (k : Nat) (V : ByteArray) : Prop := V = ⟨(dbL (ts.take k)).toArray⟩ ∧ V.size ≤ 36 * k
theorem FdInv.start {ts : List Tab} : FdInv ts 0 ⟨#[]⟩ := by
  refine ⟨?_, by simp [ByteArray.size]⟩
  show _ = (⟨(Lib.join [] [59]).toArray⟩ : ByteArray)
  rw [Lib.join_nil]
theorem FdInv.one {V : ByteArray} {ts : List Tab} {t : Tab} (h : FdInv ts 0 V) (hr : ts[0]? = some t) (h3 : (fmtB t).size ≤ 35) : FdInv ts (0 + 1) (V ++ fmtB t) := by
  obtain ⟨rfl, hs⟩ := h
  refine ⟨?_, ?_⟩
  · rw [dbL_one hr]
    show (⟨(Lib.join [] [59]).toArray⟩ : ByteArray) ++ _ = _
    rw [Lib.join_nil]
    apply ByteArray.ext
    simp
  · rw [bsize_append]
    omega
theorem FdInv.more {V : ByteArray} {ts : List Tab} {t : Tab} {k : Nat} (h : FdInv ts k V) (hr : ts[k]? = some t) (hk : 0 < k) (h3 : (fmtB t).size ≤ 35) : FdInv ts (k + 1) ((V ++ ⟨#[59]⟩) ++ fmtB t) := by
  obtain ⟨rfl, hs⟩ := h
  refine ⟨?_, ?_⟩
  · rw [dbL_snoc hr hk]
    apply ByteArray.ext
    simp
  · rw [bsize_append, bsize_append]
    have e1 : (⟨#[59]⟩ : ByteArray).size = 1 := rfl
    omega

set_option maxRecDepth 100000 in
set_option maxHeartbeats 2000000 in
theorem spec_FormatDatabase_any (A : Option Addr) (n c B : Nat) (ts : List Tab) (w : World) (hr : RdT w B A n ts) (hB : B ≤ w.heap.size) (hn : n ≤ 1000000000) (hs : sumT ts ≤ 4294967296) :
    Calls Tryd.prog 33 #[.agg #[.slice A n c]] w fun e w' => e = .returned (.string (fmtD ts)) ∧ Below w.heap.size w w' := by
  have HL := Lib.hid hr.1
  have hsm := Lib.hid hs
  clear hs
  have kn0 : Kn w [(w.heap.size, 0, .slice A n c)] (w.alloc (.cells #[.slice A n c] 55)) := by
    simpa using (Kn.start w).box1 (.slice A n c) 55
  have KV : Hid (∀ W, Below w.heap.size w W → Calls Tryd.prog 84 #[.agg #[.slice A n c]] W fun e w' => e = .returned (.bool (validD ts)) ∧ Below W.heap.size W w') := fun W b =>
    spec_IsValidDatabase_any A n c B ts W (RdT.belowB hr b hB) (Nat.le_trans hB b.size) (by omega) (by have := hsm.out; omega)
  cases hv : validD ts with
  | false =>
    have hn0 : 0 < n := by have := validD_pos hv; have := HL.out; omega
    have hf := Lib.hid (fmtD_no hv)
    rw [hv] at KV
    clear hv hr
    have g2 : (0 : Int) < (n : Int) := by omega
    go_enter Tryd.func33, Tryd.ntmps33
    go_wp2_with fail
    generalize w.alloc (.cells #[.slice A n c] 55) = w0 at kn0 ⊢
    go_loopw [3, 4] (fun v i wr => i = .int .i64 0 ∧ v = .string ⟨#[]⟩ ∧ Kn w [(w.heap.size, 0, .slice A n c)] wr) (fun _ _ _ => 0)
    case atStart => exact ⟨rfl, rfl, kn0⟩
    case round =>
      obtain ⟨rfl, rfl, kn⟩ := hrel
      clear kn0
      obtain ⟨x0, _⟩ := kn.all
      go_wp2_with fail
      refine (KV.out _ kn.bel).mono ?_
      rintro e w1 ⟨rfl, hb1⟩
      have HF := Lib.hid (kn.next hb1).bel
      clear hb1 kn x0
      go_wp2_with fail
      go_ret
      exact ⟨by rw [hf.out] <;> rfl, HF.out⟩
  | true =>
    have hn6 : n ≤ 6 := by have := validD_len hv; have := HL.out; omega
    have hf0 := Lib.hid (fmtD_yes hv)
    have HA := Lib.hid (validD_all hv)
    rw [hv] at KV
    clear hv
    go_enter Tryd.func33, Tryd.ntmps33
    go_wp2_with fail
    generalize w.alloc (.cells #[.slice A n c] 55) = w0 at kn0 ⊢
    go_loopw [3, 4] (fun v i wr => ∃ (k : Nat) (V : ByteArray), k ≤ n ∧ V.size ≤ 216 ∧ i = .int .i64 k ∧ v = .string V ∧ Kn w [(w.heap.size, 0, .slice A n c)] wr ∧ Hid (FdInv ts k V)) (fun _ i _ => n - (intOf i).toNat)
    case atStart => exact ⟨0, _, by omega, by simp [ByteArray.size], rfl, rfl, kn0, FdInv.start⟩
    case round =>
      obtain ⟨k, V, hk, hV, rfl, rfl, kn, hinv⟩ := hrel
      clear kn0
      obtain ⟨x0, _⟩ := kn.all
      by_cases hlt : k < n
      · have g1 : (0 : Int) ≤ (k : Int) := by omega
        have g2 : (k : Int) < (n : Int) := by omega
        have g3 : (k : Int).toNat = k := by omega
        go_wp2_with fail
        refine (KV.out _ kn.bel).mono ?_
        rintro e W ⟨rfl, hb0⟩
        have kn2 := kn.next hb0
        clear x0 hb0 kn
        obtain ⟨x0, _⟩ := kn2.all
        have HW := Lib.hid kn2.bel
        have KN := Lib.hid kn2
        clear kn2
        have hr2 := RdT.belowB hr HW.out hB
        obtain ⟨b, o, t, A1, c1, rfl, hb, hx, hc0, hc1, hc2, hrd, hm, _⟩ := RdT.at_ hr2 hlt
        have hv := HA.out t (List.mem_of_getElem? hx)
        have h35 := fmtB_size hv
        have KT : Hid (Calls Tryd.prog 24 #[.agg #[.string t.nm, .int .i64 t.ar, .slice A1 t.rs.length c1]] W fun e w' => e = .returned (.string (fmtB t)) ∧ Below W.heap.size W w') :=
          spec_FormatTable_any t.nm t.ar A1 t.rs.length c1 B t.rs W hrd (Nat.le_trans hB HW.out.size) (by have := (validT_vt hv).len; omega)
        by_cases hk0 : k = 0
        · subst hk0
          have hcz := hc0
          rw [Nat.zero_mul, Nat.add_zero] at hcz hc0 hc1 hc2
          have hst := Lib.hid (hinv.out.one hx h35)
          have hsV : Hid ((V ++ fmtB t).size ≤ 216) := by show _ ≤ _; have := hst.out.2; omega
          clear hx hrd hm hr2 hv
          generalize fmtB t = D at KT hst hsV h35
          obtain ⟨nm, ar, rs⟩ := t
          go_wp2_with fail
          refine KT.out.mono ?_
          rintro e w1 ⟨rfl, hb1⟩
          have kn3 := KN.out.next hb1
          go_wp2_with fail
          refine ⟨⟨0 + 1, V ++ D, by omega, hsV.out, by go_num, rfl, kn3, hst⟩, ?_⟩
          simp [intOf]
          omega
        · have hk1 : 0 < k := by omega
          have hst := Lib.hid (hinv.out.more hx hk1 h35)
          have hsV : Hid (((V ++ ⟨#[59]⟩) ++ fmtB t).size ≤ 216) := by show _ ≤ _; have := hst.out.2; omega
          have hsV2 : (V ++ ⟨#[59]⟩ : ByteArray).size ≤ 217 := by rw [bsize_append]; have : (⟨#[59]⟩ : ByteArray).size = 1 := rfl; omega
          clear hx hrd hm hr2 hv hk0
          generalize fmtB t = D at KT hst hsV h35
          obtain ⟨nm, ar, rs⟩ := t
          go_wp2_with fail
          refine KT.out.mono ?_
          rintro e w1 ⟨rfl, hb1⟩
          have kn3 := KN.out.next hb1
          go_wp2_with fail
          refine ⟨⟨k + 1, (V ++ ⟨#[59]⟩) ++ D, by omega, hsV.out, by go_num, rfl, kn3, hst⟩, ?_⟩
          simp [intOf]
          omega
      · obtain rfl : k = n := by omega
        have hf : Hid (fmtD ts = V) := by show _ = _; rw [hf0.out, hinv.out.1, List.take_of_length_le (Nat.le_of_eq HL.out)]
        have HF := Lib.hid kn.bel
        clear kn
        go_wp2_with fail
        go_ret
        exact ⟨by rw [hf.out] <;> rfl, HF.out⟩
end Go.Proofs.YtmojjbhjjhdpaaaDoor
