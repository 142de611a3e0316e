/- Plain laws on lists of tables: sizes, counters; markText. Of no program but markText's number. -/
import Derived.Test.YtmojjbhjjhdpaaaDoorTb
import Derived.Test.YtmojjbhjjhdpaaaDoorFmtP
namespace Go.Proofs.YtmojjbhjjhdpaaaDoor
open Go.RowKit Go.Deep

/-- All that a purse pays for tables. -/
def sumT (ts : List Tab) : Nat := (ts.map fun t => t.nm.size + (t.rs.length + sumL t.rs)).sum
theorem sumT_nil : sumT [] = 0 := rfl
theorem sumT_cons (t : Tab) (ts : List Tab) : sumT (t :: ts) = (t.nm.size + (t.rs.length + sumL t.rs)) + sumT ts := rfl
theorem sumT_append (a b : List Tab) : sumT (a ++ b) = sumT a + sumT b := by simp [sumT]
theorem sumT_mem {ts : List Tab} {t : Tab} (h : t ∈ ts) : t.nm.size + (t.rs.length + sumL t.rs) ≤ sumT ts := by
  induction ts with
  | nil => cases h
  | cons s ts ih =>
    rw [sumT_cons]
    rcases List.mem_cons.1 h with rfl | h
    · omega
    · have := ih h; omega
theorem sumT_take_succ {ts : List Tab} {j : Nat} {t : Tab} (h : ts[j]? = some t) : sumT (ts.take (j + 1)) = sumT (ts.take j) + (t.nm.size + (t.rs.length + sumL t.rs)) := by
  obtain ⟨hj, rfl⟩ := List.getElem?_eq_some_iff.1 h
  rw [List.take_succ_eq_append_getElem hj, sumT_append]
  simp [sumT]
/-- All that a mark counts in tables. -/
def mrkT (ts : List Tab) : Nat := (ts.map fun t => 2 + sumL t.rs).sum
theorem mrkT_nil : mrkT [] = 0 := rfl
theorem mrkT_cons (t : Tab) (ts : List Tab) : mrkT (t :: ts) = (2 + sumL t.rs) + mrkT ts := rfl
theorem mrkT_append (a b : List Tab) : mrkT (a ++ b) = mrkT a + mrkT b := by simp [mrkT]
theorem mrkT_take_succ {ts : List Tab} {j : Nat} {t : Tab} (h : ts[j]? = some t) : mrkT (ts.take (j + 1)) = mrkT (ts.take j) + (2 + sumL t.rs) := by
  obtain ⟨hj, rfl⟩ := List.getElem?_eq_some_iff.1 h
  rw [List.take_succ_eq_append_getElem hj, mrkT_append]
  simp [mrkT]
theorem mrkT_take_le (ts : List Tab) (j : Nat) : mrkT (ts.take j) ≤ mrkT ts := by
  have := mrkT_append (ts.take j) (ts.drop j)
  rw [List.take_append_drop] at this
  omega
theorem mrkT_le (ts : List Tab) : mrkT ts ≤ 2 * ts.length + sumT ts := by
  induction ts with
  | nil => simp [mrkT, sumT]
  | cons t ts ih =>
    rw [mrkT_cons, sumT_cons, List.length_cons]
    omega
/-- The text that a mark writes. -/
def mkT (k : Int) : ByteArray := ⟨(109 :: decD k.toNat).toArray⟩
theorem decD_len1 (n : Nat) : (decD n).length ≤ n + 1 := by
  induction n using decD.induct with
  | case1 n h => rw [decD_small h]; simp
  | case2 n h ih => rw [decD_big h, List.length_append, List.length_singleton]; omega
theorem mkT_size {k : Int} (h : k ≤ 1099511627776) : (mkT k).size ≤ maxLen := by
  have h1 := decD_len1 k.toNat
  have h2 : (mkT k).size = (decD k.toNat).length + 1 := by simp [mkT, ByteArray.size]
  unfold maxLen
  omega
/-- Tables, marked from k on. -/
def cntT : Int → List Tab → List Tab
  | _, [] => []
  | k, t :: ts => ⟨mkT k, k + 1, cntR (k + 1 + 1) t.rs⟩ :: cntT (k + 1 + 1 + (sumL t.rs : Nat)) ts
theorem cntT_length : ∀ (k : Int) (ts : List Tab), (cntT k ts).length = ts.length
  | _, [] => rfl
  | k, t :: ts => by rw [cntT, List.length_cons, List.length_cons, cntT_length]
theorem cntT_get : ∀ (k : Int) (ts : List Tab) (j : Nat) (t : Tab), ts[j]? = some t → (cntT k ts)[j]? = some ⟨mkT (k + (mrkT (ts.take j) : Nat)), k + (mrkT (ts.take j) : Nat) + 1, cntR (k + (mrkT (ts.take j) : Nat) + 1 + 1) t.rs⟩
  | k, [], j, t, h => by simp at h
  | k, s :: ts, 0, t, h => by
    simp at h
    subst h
    simp [cntT, mrkT]
  | k, s :: ts, j + 1, t, h => by
    have := cntT_get (k + 1 + 1 + (sumL s.rs : Nat)) ts j t (by simpa using h)
    have e : k + 1 + 1 + (sumL s.rs : Nat) + (mrkT (ts.take j) : Nat) = k + ((mrkT ((s :: ts).take (j + 1)) : Nat) : Int) := by
      rw [List.take_succ_cons, mrkT_cons]
      omega
    rw [cntT, List.getElem?_cons_succ, this, e]
/-- The first j tables marked, the rest as they were. -/
def markTTo (ts : List Tab) (k : Int) (j : Nat) : List Tab := (cntT k ts).take j ++ ts.drop j
theorem markTTo_zero (ts : List Tab) (k : Int) : markTTo ts k 0 = ts := by simp [markTTo]
theorem markTTo_full (ts : List Tab) (k : Int) : markTTo ts k ts.length = cntT k ts := by
  rw [markTTo, List.take_of_length_le (by rw [cntT_length]; exact Nat.le_refl _)]
  simp
theorem markTTo_length (ts : List Tab) (k : Int) (j : Nat) (hj : j ≤ ts.length) : (markTTo ts k j).length = ts.length := by
  rw [markTTo, List.length_append, List.length_take, List.length_drop, cntT_length]
  omega
theorem markTTo_get {ts : List Tab} {k : Int} {j : Nat} {t : Tab} (h : ts[j]? = some t) : (markTTo ts k j)[j]? = some t := by
  have hj := (List.getElem?_eq_some_iff.1 h).1
  rw [markTTo, List.getElem?_append_right (by rw [List.length_take, cntT_length]; omega), List.length_take, cntT_length, Nat.min_eq_left (by omega), Nat.sub_self, List.getElem?_drop, Nat.add_zero, h]
theorem markTTo_step {ts : List Tab} {k : Int} {j : Nat} {t : Tab} (h : ts[j]? = some t) : (markTTo ts k j).set j ⟨mkT (k + (mrkT (ts.take j) : Nat)), k + (mrkT (ts.take j) : Nat) + 1, cntR (k + (mrkT (ts.take j) : Nat) + 1 + 1) t.rs⟩ = markTTo ts k (j + 1) := by
  have hj := (List.getElem?_eq_some_iff.1 h).1
  have hg := cntT_get k ts j t h
  have hj' : j < (cntT k ts).length := by rw [cntT_length]; exact hj
  have hv : (cntT k ts)[j] = ⟨mkT (k + (mrkT (ts.take j) : Nat)), k + (mrkT (ts.take j) : Nat) + 1, cntR (k + (mrkT (ts.take j) : Nat) + 1 + 1) t.rs⟩ := by rw [List.getElem?_eq_getElem hj'] at hg; injection hg
  rw [markTTo, markTTo, List.set_append_right _ _ (by rw [List.length_take]; omega), List.length_take, Nat.min_eq_left (by omega), Nat.sub_self, List.drop_eq_getElem_cons hj, List.set_cons_zero, List.take_succ_eq_append_getElem hj', hv,
    List.append_assoc, List.singleton_append]
/-- An empty table. -/
def nilTab : Tab := ⟨{ data := #[] }, 0, []⟩
/-- The first k tables, then empty ones. -/
def fillT (ts : List Tab) (k : Nat) : List Tab := ts.take k ++ List.replicate (ts.length - k) nilTab
theorem fillT_zero (ts : List Tab) : fillT ts 0 = List.replicate ts.length nilTab := by simp [fillT]
theorem fillT_full (ts : List Tab) : fillT ts ts.length = ts := by simp [fillT]
theorem fillT_length (ts : List Tab) (k : Nat) (h : k ≤ ts.length) : (fillT ts k).length = ts.length := by simp [fillT]; omega
theorem fillT_step {ts : List Tab} {k : Nat} {t : Tab} (h : ts[k]? = some t) : (fillT ts k).set k t = fillT ts (k + 1) := by
  have hk : k < ts.length := (List.getElem?_eq_some_iff.1 h).1
  have hx : ts[k] = t := (List.getElem?_eq_some_iff.1 h).2
  unfold fillT
  obtain ⟨m, hm⟩ : ∃ m, ts.length - k = m + 1 := ⟨ts.length - k - 1, by omega⟩
  rw [List.set_append_right _ _ (by rw [List.length_take]; omega), List.length_take, Nat.min_eq_left (by omega), Nat.sub_self, hm, List.replicate_succ, List.set_cons_zero, List.take_succ_eq_append_getElem hk, hx,
    List.append_assoc, List.singleton_append, show ts.length - (k + 1) = m from by omega]

set_option maxRecDepth 100000 in
set_option maxHeartbeats 400000 in
theorem markText_nat (N : Nat) (w : World) (h0 : 0 < N) (hN : N ≤ 1099511627776) :
    Calls Tryd.prog 125 #[.int .i64 N] w fun e w' => e = .returned (.string (mkT N)) ∧ Below w.heap.size w w' := by
  go_enter Tryd.func125, Tryd.ntmps125
  go_wp2
  go_loopw [0, 3] (fun n v wr => ∃ (m : Nat) (o : List UInt8), n = .int .i64 m ∧ v = .string ⟨o.toArray⟩ ∧ FInv N m o ∧ Below w.heap.size w wr) (fun n _ _ => (intOf n).toNat)
  case atStart => exact ⟨N, [], rfl, rfl, FInv.start h0, Below.refl _ _⟩
  case round =>
    obtain ⟨m, o, rfl, rfl, hinv, hbel⟩ := hrel
    have hmN : m ≤ N := hinv.2.2.1
    have hol : o.length ≤ 20 := hinv.2.2.2.1
    have hsz := hbel.size
    by_cases hm : m = 0
    · subst hm
      have hf := Lib.hid (hinv.1 rfl)
      go_wp2
      go_ret
      refine ⟨?_, hbel⟩
      rw [mkT, Int.toNat_natCast, hf.out]
      exact congrArg Ending.returned (congrArg Value.string (bytes_append [109] o))
    · have hmb : decide ((0 : Int) < (m : Int)) = true := by simp; omega
      have hst := hinv.step hm (by omega)
      have hcv := fun W : World => one_byte (P := Tryd.prog) W 62 9 5 (48 + (m : Int) % 10) (by omega) (by omega) Tryd.underlying62 Tryd.underlying5 Tryd.underlying9
      have hb10 : ((48 : Int) + (m : Int) % 10).toNat = 48 + m % 10 := by omega
      rw [hb10] at hcv
      clear hb10
      go_wp2
      refine ⟨⟨m / 10, UInt8.ofNat (48 + m % 10) :: o, by go_num, by rw [dig_byte]; exact congrArg Value.string (bytes_append [UInt8.ofNat (48 + m % 10)] o), hst, hbel.alloc hsz _⟩, ?_⟩
      simp [intOf]
      omega
theorem markText_any (k : Int) (w : World) (h0 : 0 < k) (hk : k ≤ 1099511627776) :
    Calls Tryd.prog 125 #[.int .i64 k] w fun e w' => e = .returned (.string (mkT k)) ∧ Below w.heap.size w w' := by
  obtain ⟨N, rfl⟩ : ∃ N : Nat, k = (N : Int) := ⟨k.toNat, by omega⟩
  exact markText_nat N w (by omega) (by omega)
end Go.Proofs.YtmojjbhjjhdpaaaDoor
