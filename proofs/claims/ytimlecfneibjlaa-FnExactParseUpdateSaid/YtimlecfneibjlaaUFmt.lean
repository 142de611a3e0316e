/- FormatUpdate: both texts; spec.l4Digits. No condition but the size that the laws let in. -/
import Derived.Test.YtimlecfneibjlaaDig
import Derived.Test.YtimlecfneibjlaaFmt
import Derived.Test.YtimlecfneibjlaaIsTab
import Derived.Test.YtimlecfneibjlaaCls
import Derived.Test.YtimlecfneibjlaaUpd
namespace Go.Proofs.Ytimlecfneibjlaa
open Go.RowKit Go.Deep

theorem fmtI_digit' {X : Nat} (h : X ≤ 9) : fmtI (X : Int) = [UInt8.ofNat (48 + X)] := by rw [fmtI_pos, decD_small (by omega)]
theorem rowB_dig {zs : List Int} {m : Int} (h : rowB zs m = true) : ∀ x ∈ zs, 0 ≤ x ∧ x ≤ 9 := fun x hx => by
  unfold rowB at h
  simp [inB] at h
  exact h.1 x hx

set_option maxRecDepth 100000 in
set_option maxHeartbeats 400000 in
theorem l4Digits_any (A : Option Addr) (n c : Nat) (zs : List Int) (w : World) (hr : RdI w w.heap.size A n zs) (hn : n ≤ 1048576) (hdig : ∀ x ∈ zs, 0 ≤ x ∧ x ≤ 9) :
    Calls Try.prog 90 #[.slice A n c] w fun e w' => e = .returned (.string ⟨(dtext zs).toArray⟩) ∧ Below w.heap.size w w' := by
  have HL := Lib.hid hr.1
  have HD := Lib.hid hdig
  clear hdig
  go_enter Try.func90, Try.ntmps90
  go_wp2_with fail
  go_loopw [3, 4] (fun v i wr => ∃ (k : Nat) (p : List UInt8), k ≤ n ∧ p.length ≤ k ∧ i = .int .i64 k ∧ v = .string ⟨p.toArray⟩ ∧ Below w.heap.size w wr ∧ Hid (p = dtext (zs.take k))) (fun _ i _ => n - (intOf i).toNat)
  case atStart => exact ⟨0, [], by omega, by simp, rfl, rfl, Below.refl _ _, rfl⟩
  case round =>
    obtain ⟨k, p, hk, hpk, rfl, rfl, hbel, hinv⟩ := hrel
    have hsz := hbel.size
    by_cases hlt : k < n
    · obtain ⟨b', o', x, hA, hb', hx, hc'⟩ := hr.at_ hlt
      subst hA
      have hc2 := (hbel.cell (p := ⟨b', o' + k, none⟩) hb').trans hc'
      obtain ⟨hx0, hx9⟩ := HD.out x (List.mem_of_getElem? hx)
      obtain ⟨X, rfl⟩ := Int.eq_ofNat_of_zero_le hx0
      have hfi := Lib.hid (fmtI_digit' (X := X) (by omega))
      have hst : Hid (p ++ [UInt8.ofNat (48 + X)] = dtext (zs.take (k + 1))) := by show _ = _; rw [List.take_add_one, hx, dtext, List.map_append, hinv.out]; rfl
      clear hc' hx
      go_wp2_with fail
      refine (spec_FormatInt_any _ _ (by omega) (by omega)).mono ?_
      rintro e w1 ⟨rfl, hb1⟩
      rw [hfi.out]
      go_wp2_with fail
      refine ⟨⟨k + 1, p ++ [UInt8.ofNat (48 + X)], by omega, by simp; omega, by go_num, by rw [dig_byte]; exact congrArg Value.string (bytes_append p [UInt8.ofNat (48 + X)]), below_chain hbel hb1 hsz, hst⟩, ?_⟩
      simp [intOf]
      omega
    · obtain rfl : k = n := by omega
      have hf : Hid (p = dtext zs) := by show p = dtext zs; rw [hinv.out, List.take_of_length_le (Nat.le_of_eq HL.out)]
      go_wp2_with fail
      go_ret
      exact ⟨by rw [hf.out] <;> rfl, hbel⟩

/-- The text of an update. -/
def okU (nm : ByteArray) (zs : List Int) : Bool := nameB nm && (inB zs.length 1 3 && rowB zs zs.length)
def fmtU (nm : ByteArray) (ins : Bool) (zs : List Int) : ByteArray := if okU nm zs = true then ((if ins then ⟨#[43]⟩ else ⟨#[45]⟩ : ByteArray) ++ nm) ++ ⟨(dtext zs).toArray⟩ else ⟨#[]⟩
theorem rowOk_is {A : Option Addr} {n c : Nat} {zs : List Int} {m : Int} {b : Bool} (h : rowB zs m = b) {w : World} (hr : RdI w w.heap.size A n zs) (hn : n ≤ 9223372036854775807) :
    Calls Try.prog 93 #[.slice A n c, .int .i64 m] w fun e w' => e = .returned (.bool b) ∧ w = w' := h ▸ rowOk_any A n c zs m w hr hn
theorem l4Row_is {A : Option Addr} {n c : Nat} {zs : List Int} {m : Int} {b : Bool} (h : rowB zs m = b) {w : World} (hr : RdI w w.heap.size A n zs) (hn : n ≤ 9223372036854775807) :
    Calls Try.prog 88 #[.slice A n c, .int .i64 m] w fun e w' => e = .returned (.bool b) ∧ w = w' := h ▸ l4Row_any A n c zs m w hr hn

set_option maxRecDepth 100000 in
set_option maxHeartbeats 1000000 in
theorem impl_FormatUpdate_any (nm : ByteArray) (ins : Bool) (A : Option Addr) (n c B : Nat) (zs : List Int) (w : World) (hr : RdI w B A n zs) (hB : B ≤ w.heap.size) (hn : n ≤ 1048576) :
    Calls Try.prog 51 #[.agg #[.string nm, .bool ins, .slice A n c]] w fun e w' => e = .returned (.string (fmtU nm ins zs)) ∧ Below w.heap.size w w' := by
  have hlen := hr.1
  subst hlen
  by_cases hok : okU nm zs = true
  · obtain ⟨h1, h2, h3⟩ : nameB nm = true ∧ inB zs.length 1 3 = true ∧ rowB zs zs.length = true := by simpa [okU] using hok
    have hd := Lib.hid (rowB_dig h3)
    have n1 : nm.size ≤ 1 := by
      obtain ⟨b, rfl⟩ : ∃ b : UInt8, nm = ⟨#[b]⟩ := by
        unfold nameB at h1
        split at h1
        · rename_i b hb
          exact ⟨b, ByteArray.ext (by simpa using congrArg List.toArray hb)⟩
        · simp at h1
      simp [ByteArray.size]
    have n2 : zs.length ≤ 3 := by simp [inB] at h2; omega
    have hf : Hid (fmtU nm ins zs = ((if ins then ⟨#[43]⟩ else ⟨#[45]⟩ : ByteArray) ++ nm) ++ ⟨(dtext zs).toArray⟩) := by show _ = _; rw [fmtU, if_pos hok]
    have n3 : (dtext zs).length ≤ 3 := by simp [dtext]; omega
    clear hok
    cases ins
    case false =>
      go_enter Try.func51, Try.ntmps51
      go_wp2_with fail
      generalize hW : w.alloc (.cells #[.string nm, .bool false, .slice A zs.length c] 64) = W
      have RW : Hid (RdI W W.heap.size A zs.length zs) := by rw [← hW]; exact (RdI.belowB hr ((Below.refl B w).alloc hB _) (Nat.le_refl _)).more (by simp; omega)
      have HB : Hid (Below w.heap.size w W) := by rw [← hW]; exact (Below.refl _ _).alloc (Nat.le_refl _) _
      have c0 : W.cell? ⟨w.heap.size, 0, none⟩ = some (.string nm) := by rw [← hW]; simp [go_sem]
      have c1 : W.cell? ⟨w.heap.size, 1, none⟩ = some (.bool false) := by rw [← hW]; simp [go_sem]
      have c2 : W.cell? ⟨w.heap.size, 2, none⟩ = some (.slice A zs.length c) := by rw [← hW]; simp [go_sem]
      have l0 : w.heap.size < W.heap.size := by rw [← hW]; simp
      clear hW hr hB
      go_wp2_with (first | (go_at_call 91; refine (nameOk_is h1 _).mono ?_; rintro e w' ⟨rfl, rfl⟩) | (go_at_call 92; refine (within_is h2 _).mono ?_; rintro e w' ⟨rfl, rfl⟩) | (go_at_call 93; refine (rowOk_is h3 RW.out (by omega)).mono ?_; rintro e w' ⟨rfl, rfl⟩))
      refine wp_region_class (by kernel_rfl) (by kernel_rfl) (fun X => Below W.heap.size W X) ((Below.refl _ _).drew) (fun S _ f hG hS => ?_)
      have y0 : ∀ s, (f s).cell? ⟨w.heap.size, 0, none⟩ = some (.string nm) := fun s => ((hG s).cell (p := ⟨w.heap.size, 0, none⟩) l0).trans c0
      have y2 : ∀ s, (f s).cell? ⟨w.heap.size, 2, none⟩ = some (.slice A zs.length c) := fun s => ((hG s).cell (p := ⟨w.heap.size, 2, none⟩) l0).trans c2
      have HG := Lib.hid hG
      have HS := Lib.hid hS
      clear hG hS
      repeat (first | go_big_quiet_step ((go_at_call 94; exact Calls.clsB HS.out (HG.out _) (digitsText_any A zs.length c zs _ (RW.out.next (HG.out _)) hn hd.out))) | quiet_step ((go_at_call 94; exact Calls.clsB HS.out (HG.out _) (digitsText_any A zs.length c zs _ (RW.out.next (HG.out _)) hn hd.out))))
      refine wpQuiet_nil ?_
      rintro _ ⟨s, rfl⟩
      go_wp2_with fail
      go_ret
      exact ⟨by rw [hf.out] <;> rfl, HB.out.trans ((HG.out s).mono HB.out.size)⟩
    case true =>
      go_enter Try.func51, Try.ntmps51
      go_wp2_with fail
      generalize hW : w.alloc (.cells #[.string nm, .bool true, .slice A zs.length c] 64) = W
      have RW : Hid (RdI W W.heap.size A zs.length zs) := by rw [← hW]; exact (RdI.belowB hr ((Below.refl B w).alloc hB _) (Nat.le_refl _)).more (by simp; omega)
      have HB : Hid (Below w.heap.size w W) := by rw [← hW]; exact (Below.refl _ _).alloc (Nat.le_refl _) _
      have c0 : W.cell? ⟨w.heap.size, 0, none⟩ = some (.string nm) := by rw [← hW]; simp [go_sem]
      have c1 : W.cell? ⟨w.heap.size, 1, none⟩ = some (.bool true) := by rw [← hW]; simp [go_sem]
      have c2 : W.cell? ⟨w.heap.size, 2, none⟩ = some (.slice A zs.length c) := by rw [← hW]; simp [go_sem]
      have l0 : w.heap.size < W.heap.size := by rw [← hW]; simp
      clear hW hr hB
      go_wp2_with (first | (go_at_call 91; refine (nameOk_is h1 _).mono ?_; rintro e w' ⟨rfl, rfl⟩) | (go_at_call 92; refine (within_is h2 _).mono ?_; rintro e w' ⟨rfl, rfl⟩) | (go_at_call 93; refine (rowOk_is h3 RW.out (by omega)).mono ?_; rintro e w' ⟨rfl, rfl⟩))
      refine wp_region_class (by kernel_rfl) (by kernel_rfl) (fun X => Below W.heap.size W X) ((Below.refl _ _).drew) (fun S _ f hG hS => ?_)
      have y0 : ∀ s, (f s).cell? ⟨w.heap.size, 0, none⟩ = some (.string nm) := fun s => ((hG s).cell (p := ⟨w.heap.size, 0, none⟩) l0).trans c0
      have y2 : ∀ s, (f s).cell? ⟨w.heap.size, 2, none⟩ = some (.slice A zs.length c) := fun s => ((hG s).cell (p := ⟨w.heap.size, 2, none⟩) l0).trans c2
      have HG := Lib.hid hG
      have HS := Lib.hid hS
      clear hG hS
      repeat (first | go_big_quiet_step ((go_at_call 94; exact Calls.clsB HS.out (HG.out _) (digitsText_any A zs.length c zs _ (RW.out.next (HG.out _)) hn hd.out))) | quiet_step ((go_at_call 94; exact Calls.clsB HS.out (HG.out _) (digitsText_any A zs.length c zs _ (RW.out.next (HG.out _)) hn hd.out))))
      refine wpQuiet_nil ?_
      rintro _ ⟨s, rfl⟩
      go_wp2_with fail
      go_ret
      exact ⟨by rw [hf.out] <;> rfl, HB.out.trans ((HG.out s).mono HB.out.size)⟩
  · have hf : Hid (fmtU nm ins zs = ⟨#[]⟩) := by show _ = _; rw [fmtU, if_neg hok]
    cases h1 : nameB nm <;> cases h2 : inB zs.length 1 3 <;> cases h3 : rowB zs zs.length
    case true.true.true => exact absurd (by simp [okU, h1, h2, h3]) hok
    all_goals
      clear hok
      go_enter Try.func51, Try.ntmps51
      go_wp2_with fail
      generalize hW : w.alloc (.cells #[.string nm, .bool ins, .slice A zs.length c] 64) = W
      have RW : Hid (RdI W W.heap.size A zs.length zs) := by rw [← hW]; exact (RdI.belowB hr ((Below.refl B w).alloc hB _) (Nat.le_refl _)).more (by simp; omega)
      have HB : Hid (Below w.heap.size w W) := by rw [← hW]; exact (Below.refl _ _).alloc (Nat.le_refl _) _
      have c0 : W.cell? ⟨w.heap.size, 0, none⟩ = some (.string nm) := by rw [← hW]; simp [go_sem]
      have c1 : W.cell? ⟨w.heap.size, 1, none⟩ = some (.bool ins) := by rw [← hW]; simp [go_sem]
      have c2 : W.cell? ⟨w.heap.size, 2, none⟩ = some (.slice A zs.length c) := by rw [← hW]; simp [go_sem]
      have l0 : w.heap.size < W.heap.size := by rw [← hW]; simp
      clear hW hr hB
      go_wp2_with (first | (go_at_call 91; refine (nameOk_is h1 _).mono ?_; rintro e w' ⟨rfl, rfl⟩) | (go_at_call 92; refine (within_is h2 _).mono ?_; rintro e w' ⟨rfl, rfl⟩) | (go_at_call 93; refine (rowOk_is h3 RW.out (by omega)).mono ?_; rintro e w' ⟨rfl, rfl⟩))
      go_ret
      exact ⟨by rw [hf.out] <;> rfl, HB.out⟩

set_option maxRecDepth 100000 in
set_option maxHeartbeats 1000000 in
theorem spec_FormatUpdate_any (nm : ByteArray) (ins : Bool) (A : Option Addr) (n c B : Nat) (zs : List Int) (w : World) (hr : RdI w B A n zs) (hB : B ≤ w.heap.size) (hn : n ≤ 1048576) :
    Calls Try.prog 50 #[.agg #[.string nm, .bool ins, .slice A n c]] w fun e w' => e = .returned (.string (fmtU nm ins zs)) ∧ Below w.heap.size w w' := by
  have hlen := hr.1
  subst hlen
  by_cases hok : okU nm zs = true
  · obtain ⟨h1, h2, h3⟩ : nameB nm = true ∧ inB zs.length 1 3 = true ∧ rowB zs zs.length = true := by simpa [okU] using hok
    have hd := Lib.hid (rowB_dig h3)
    have n1 : nm.size ≤ 1 := by
      obtain ⟨b, rfl⟩ : ∃ b : UInt8, nm = ⟨#[b]⟩ := by
        unfold nameB at h1
        split at h1
        · rename_i b hb
          exact ⟨b, ByteArray.ext (by simpa using congrArg List.toArray hb)⟩
        · simp at h1
      simp [ByteArray.size]
    have n2 : zs.length ≤ 3 := by simp [inB] at h2; omega
    have hf : Hid (fmtU nm ins zs = ((if ins then ⟨#[43]⟩ else ⟨#[45]⟩ : ByteArray) ++ nm) ++ ⟨(dtext zs).toArray⟩) := by show _ = _; rw [fmtU, if_pos hok]
    have n3 : (dtext zs).length ≤ 3 := by simp [dtext]; omega
    clear hok
    cases ins
    case false =>
      go_enter Try.func50, Try.ntmps50
      go_wp2_with fail
      generalize hW : w.alloc (.cells #[.string nm, .bool false, .slice A zs.length c] 64) = W
      have RW : Hid (RdI W W.heap.size A zs.length zs) := by rw [← hW]; exact (RdI.belowB hr ((Below.refl B w).alloc hB _) (Nat.le_refl _)).more (by simp; omega)
      have HB : Hid (Below w.heap.size w W) := by rw [← hW]; exact (Below.refl _ _).alloc (Nat.le_refl _) _
      have c0 : W.cell? ⟨w.heap.size, 0, none⟩ = some (.string nm) := by rw [← hW]; simp [go_sem]
      have c1 : W.cell? ⟨w.heap.size, 1, none⟩ = some (.bool false) := by rw [← hW]; simp [go_sem]
      have c2 : W.cell? ⟨w.heap.size, 2, none⟩ = some (.slice A zs.length c) := by rw [← hW]; simp [go_sem]
      have l0 : w.heap.size < W.heap.size := by rw [← hW]; simp
      clear hW hr hB
      go_wp2_with (first | (go_at_call 87; refine (l4Name_is h1 _).mono ?_; rintro e w' ⟨rfl, rfl⟩) | (go_at_call 89; refine (l1In_is h2 _).mono ?_; rintro e w' ⟨rfl, rfl⟩) | (go_at_call 88; refine (l4Row_is h3 RW.out (by omega)).mono ?_; rintro e w' ⟨rfl, rfl⟩))
      refine wp_region_class (by kernel_rfl) (by kernel_rfl) (fun X => Below W.heap.size W X) ((Below.refl _ _).drew) (fun S _ f hG hS => ?_)
      have y0 : ∀ s, (f s).cell? ⟨w.heap.size, 0, none⟩ = some (.string nm) := fun s => ((hG s).cell (p := ⟨w.heap.size, 0, none⟩) l0).trans c0
      have y2 : ∀ s, (f s).cell? ⟨w.heap.size, 2, none⟩ = some (.slice A zs.length c) := fun s => ((hG s).cell (p := ⟨w.heap.size, 2, none⟩) l0).trans c2
      have HG := Lib.hid hG
      have HS := Lib.hid hS
      clear hG hS
      repeat (first | go_big_quiet_step ((go_at_call 90; exact Calls.clsB HS.out (HG.out _) (l4Digits_any A zs.length c zs _ (RW.out.next (HG.out _)) hn hd.out))) | quiet_step ((go_at_call 90; exact Calls.clsB HS.out (HG.out _) (l4Digits_any A zs.length c zs _ (RW.out.next (HG.out _)) hn hd.out))))
      refine wpQuiet_nil ?_
      rintro _ ⟨s, rfl⟩
      go_wp2_with fail
      go_ret
      exact ⟨by rw [hf.out] <;> rfl, HB.out.trans ((HG.out s).mono HB.out.size)⟩
    case true =>
      go_enter Try.func50, Try.ntmps50
      go_wp2_with fail
      generalize hW : w.alloc (.cells #[.string nm, .bool true, .slice A zs.length c] 64) = W
      have RW : Hid (RdI W W.heap.size A zs.length zs) := by rw [← hW]; exact (RdI.belowB hr ((Below.refl B w).alloc hB _) (Nat.le_refl _)).more (by simp; omega)
      have HB : Hid (Below w.heap.size w W) := by rw [← hW]; exact (Below.refl _ _).alloc (Nat.le_refl _) _
      have c0 : W.cell? ⟨w.heap.size, 0, none⟩ = some (.string nm) := by rw [← hW]; simp [go_sem]
      have c1 : W.cell? ⟨w.heap.size, 1, none⟩ = some (.bool true) := by rw [← hW]; simp [go_sem]
      have c2 : W.cell? ⟨w.heap.size, 2, none⟩ = some (.slice A zs.length c) := by rw [← hW]; simp [go_sem]
      have l0 : w.heap.size < W.heap.size := by rw [← hW]; simp
      clear hW hr hB
      go_wp2_with (first | (go_at_call 87; refine (l4Name_is h1 _).mono ?_; rintro e w' ⟨rfl, rfl⟩) | (go_at_call 89; refine (l1In_is h2 _).mono ?_; rintro e w' ⟨rfl, rfl⟩) | (go_at_call 88; refine (l4Row_is h3 RW.out (by omega)).mono ?_; rintro e w' ⟨rfl, rfl⟩))
      refine wp_region_class (by kernel_rfl) (by kernel_rfl) (fun X => Below W.heap.size W X) ((Below.refl _ _).drew) (fun S _ f hG hS => ?_)
      have y0 : ∀ s, (f s).cell? ⟨w.heap.size, 0, none⟩ = some (.string nm) := fun s => ((hG s).cell (p := ⟨w.heap.size, 0, none⟩) l0).trans c0
      have y2 : ∀ s, (f s).cell? ⟨w.heap.size, 2, none⟩ = some (.slice A zs.length c) := fun s => ((hG s).cell (p := ⟨w.heap.size, 2, none⟩) l0).trans c2
      have HG := Lib.hid hG
      have HS := Lib.hid hS
      clear hG hS
      repeat (first | go_big_quiet_step ((go_at_call 90; exact Calls.clsB HS.out (HG.out _) (l4Digits_any A zs.length c zs _ (RW.out.next (HG.out _)) hn hd.out))) | quiet_step ((go_at_call 90; exact Calls.clsB HS.out (HG.out _) (l4Digits_any A zs.length c zs _ (RW.out.next (HG.out _)) hn hd.out))))
      refine wpQuiet_nil ?_
      rintro _ ⟨s, rfl⟩
      go_wp2_with fail
      go_ret
      exact ⟨by rw [hf.out] <;> rfl, HB.out.trans ((HG.out s).mono HB.out.size)⟩
  · have hf : Hid (fmtU nm ins zs = ⟨#[]⟩) := by show _ = _; rw [fmtU, if_neg hok]
    cases h1 : nameB nm <;> cases h2 : inB zs.length 1 3 <;> cases h3 : rowB zs zs.length
    case true.true.true => exact absurd (by simp [okU, h1, h2, h3]) hok
    all_goals
      clear hok
      go_enter Try.func50, Try.ntmps50
      go_wp2_with fail
      generalize hW : w.alloc (.cells #[.string nm, .bool ins, .slice A zs.length c] 64) = W
      have RW : Hid (RdI W W.heap.size A zs.length zs) := by rw [← hW]; exact (RdI.belowB hr ((Below.refl B w).alloc hB _) (Nat.le_refl _)).more (by simp; omega)
      have HB : Hid (Below w.heap.size w W) := by rw [← hW]; exact (Below.refl _ _).alloc (Nat.le_refl _) _
      have c0 : W.cell? ⟨w.heap.size, 0, none⟩ = some (.string nm) := by rw [← hW]; simp [go_sem]
      have c1 : W.cell? ⟨w.heap.size, 1, none⟩ = some (.bool ins) := by rw [← hW]; simp [go_sem]
      have c2 : W.cell? ⟨w.heap.size, 2, none⟩ = some (.slice A zs.length c) := by rw [← hW]; simp [go_sem]
      have l0 : w.heap.size < W.heap.size := by rw [← hW]; simp
      clear hW hr hB
      go_wp2_with (first | (go_at_call 87; refine (l4Name_is h1 _).mono ?_; rintro e w' ⟨rfl, rfl⟩) | (go_at_call 89; refine (l1In_is h2 _).mono ?_; rintro e w' ⟨rfl, rfl⟩) | (go_at_call 88; refine (l4Row_is h3 RW.out (by omega)).mono ?_; rintro e w' ⟨rfl, rfl⟩))
      go_ret
      exact ⟨by rw [hf.out] <;> rfl, HB.out⟩
end Go.Proofs.Ytimlecfneibjlaa
