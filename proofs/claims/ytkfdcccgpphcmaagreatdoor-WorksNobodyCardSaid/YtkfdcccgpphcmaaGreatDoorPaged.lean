/- What the page of a change has. -/
import Derived.Test.YtkfdcccgpphcmaaGreatDoorShelf
import Derived.Test.YtkfdcccgpphcmaaGreatDoorProg
import Derived.Handy
import Derived.Test.YtkfdcccgpphcmaaGreatDoorNumber
namespace Go.Proofs.YtkfdcccgpphcmaaGreatDoor
open Go.RowKit Go.Shelf

set_option maxRecDepth 100000 in
theorem paged_ok (i : Nat) (hi : i < 100) (s : ByteArray) (hs : s.size ≤ 1000) (w : World) :
    Calls Tryz.prog 53 #[.int .i64 i, .string s] w fun e w' => e = .returned (.string (⟨(Lib.decDigits i).toArray⟩ ++ ⟨#[32]⟩ ++ s)) ∧ w = w' := by
  go_enter Tryz.func53, Tryz.ntmps53
  go_wp2_with fail
  refine (Any.strconv_Itoa_small Tryz.lays171 i hi w).mono ?_
  rintro e w' ⟨rfl, rfl⟩
  have hd : (⟨(Lib.decDigits i).toArray⟩ : ByteArray).size ≤ 2 := by
    have : ∀ j, j < 100 → (Lib.decDigits j).length ≤ 2 := by decide +kernel
    simpa [ByteArray.size] using this i hi
  generalize ht : (⟨(Lib.decDigits i).toArray⟩ : ByteArray) = t at hd ⊢
  have HT := Lib.hid ht
  clear ht
  go_wp2_with fail
  go_ret
  exact ⟨by rw [HT.out]; rfl, rfl⟩

set_option maxRecDepth 100000 in
theorem paged_any {B : Nat} (i : Nat) (hi : i ≤ 100000) (s : ByteArray) (hs : s.size ≤ 1000) (w : World) (hB : Base B w) :
    Calls Tryz.prog 53 #[.int .i64 i, .string s] w fun e w' => e = .returned (.string (⟨(Lib.itoa i).toArray⟩ ++ ⟨#[32]⟩ ++ s)) ∧ Below w.heap.size w w' := by
  go_enter Tryz.func53, Tryz.ntmps53
  go_wp2_with fail
  refine (itoa_any w hB i (by omega) (by omega)).mono ?_
  rintro e w' ⟨rfl, hb⟩
  have hd : (⟨(Lib.itoa i).toArray⟩ : ByteArray).size ≤ 21 := by
    have := Lib.itoa_length_le (i : Int) (by omega) (by omega)
    simpa [ByteArray.size] using this
  generalize ht : (⟨(Lib.itoa i).toArray⟩ : ByteArray) = t at hd ⊢
  have HT := Lib.hid ht
  clear ht
  go_wp2_with fail
  go_ret
  exact ⟨by rw [HT.out]; rfl, hb⟩
end Go.Proofs.YtkfdcccgpphcmaaGreatDoor
