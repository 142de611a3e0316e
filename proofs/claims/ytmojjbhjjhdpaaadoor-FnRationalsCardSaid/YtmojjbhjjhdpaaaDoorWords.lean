/- Words for memory: rows of the call's own, bytes to a string. Of no program. -/
import Derived.Test.YtmojjbhjjhdpaaaDoorBase
import Derived.WalkKit
import Derived.WalkSpells
import Derived.WalkLawsBesides
import Derived.Lib.Hide
import Derived.Laws.BytesArg
import Derived.Maps.AppendAt
import Derived.Deep.AppendLies
import Derived.Deep.Draws
namespace Go.Proofs.YtmojjbhjjhdpaaaDoor
open Go.RowKit

/-- A byte as a value. -/
def bv (b : UInt8) : Value := .int .u8 (b.toNat : Int)
/-- An int as a value. -/
def iv (n : Int) : Value := .int .i64 n

theorem strOf_bytes (l : List UInt8) : strOfNums (l.map fun b => (b.toNat : Int)) = ⟨l.toArray⟩ := by
  unfold strOfNums
  congr 2
  rw [List.map_map]
  conv => rhs; rw [← List.map_id l]
  apply List.map_congr_left
  intro b _
  simp

/-- 'string(out)', out a row of the call's own. -/
theorem own_string {P : Program} {w : World} {base n : Nat} {e : TypeId} {v : Value} {l : List UInt8} (h : w.ownsRow base e 1 v n (l.map bv)) {src dst : TypeId}
    (hs : P.underlying src = some (.slice e)) (he : P.underlying e = some (.int .u8)) (hd : P.underlying dst = some .string) :
    (convert src dst v).run P w = .ok (.string ⟨l.toArray⟩) w := by
  have hl := h.1
  rcases h.2 with ⟨rfl, rfl⟩ | ⟨g, cap, cur, rfl, hb, hg, hn, hc, hsz, ht⟩
  · have : l = [] := by cases l <;> simp_all
    subst this
    exact run_convert_bytes_nil w src e hs he _ _ dst hd
  · have := run_convert_bytes_arg (P := P) w src e hs he g 0 n cap (l.map fun b => (b.toNat : Int)) (by simpa using hl) (fun i hi => by
      rw [Nat.zero_add, cell_of_row w g i cur e (0, 0) hg]
      have hi' : i < l.length := by simp at hl; omega
      have h1 : (cur.toList.take (n * 1))[i]? = (l.map bv)[i]? := by rw [ht]
      rw [List.getElem?_take, if_pos (by omega)] at h1
      simp [List.getElem?_eq_getElem hi'] at h1
      simp [h1, bv, List.getElem?_eq_getElem hi']) dst hd
    rw [this, strOf_bytes]
theorem take_snoc (s : ByteArray) (k : Nat) (h : k < s.size) : s.data.toList.take (k + 1) = s.data.toList.take k ++ [s[k]] := by
  rw [List.take_succ_eq_append_getElem (by simpa using h)]; rfl
theorem take_all (s : ByteArray) : s.data.toList.take s.size = s.data.toList := List.take_of_length_le (by simp)

theorem bv_of (n : Nat) (h : n < 256) : Value.int .u8 (n : Int) = bv (UInt8.ofNat n) := by
  unfold bv
  congr 1
  have : (UInt8.ofNat n).toNat = n := by rw [UInt8.toNat_ofNat']; exact Nat.mod_eq_of_lt h
  omega
theorem bytes_append (a b : List UInt8) : ({ data := a.toArray } : ByteArray) ++ ({ data := b.toArray } : ByteArray) = { data := (a ++ b).toArray } := by
  apply ByteArray.ext
  simp
/-- 'string([]byte{x})': one new byte. -/
theorem one_byte {P : Program} (w : World) (src dst e : TypeId) (x : Int) (h0 : 0 ≤ x) (h1 : x < 256) (hs : P.underlying src = some (.slice e)) (he : P.underlying e = some (.int .u8)) (hd : P.underlying dst = some .string) :
    (convert src dst (.slice (some ⟨w.heap.size, 0, none⟩) 1 1)).run P (w.alloc (.cells #[.int .u8 x] e)) = .ok (.string ⟨#[UInt8.ofNat x.toNat]⟩) (w.alloc (.cells #[.int .u8 x] e)) := by
  have hx : Value.int .u8 x = bv (UInt8.ofNat x.toNat) := by rw [← bv_of x.toNat (by omega), Int.toNat_of_nonneg h0]
  rw [hx]
  exact own_string (l := [UInt8.ofNat x.toNat]) (base := 0) (n := 1) (e := e) ⟨rfl, .inr ⟨w.heap.size, 1, #[bv (UInt8.ofNat x.toNat)], rfl, Nat.zero_le _, heap_alloc_new w _, Nat.le_refl _, by unfold maxLen; omega, rfl, rfl⟩⟩ hs he hd
theorem str_of {s : ByteArray} {l : List UInt8} (h : s.data.toList = l) : s = ⟨l.toArray⟩ := by
  subst h
  apply ByteArray.ext
  simp
theorem str_ne {a b : ByteArray} (h : ¬ a = b) : ¬ a.toList = b.toList := fun e => h (WideShapes.bytes_inj (by rwa [ByteArray.toList_eq, ByteArray.toList_eq] at e))
theorem str_eq0 {a b : ByteArray} (h : ¬ a = b) : (a.toList == b.toList) = false := by simpa using str_ne h
theorem str_ne1 {a b : ByteArray} (h : ¬ a = b) : (a.toList != b.toList) = true := by simpa using str_ne h
end Go.Proofs.YtmojjbhjjhdpaaaDoor
