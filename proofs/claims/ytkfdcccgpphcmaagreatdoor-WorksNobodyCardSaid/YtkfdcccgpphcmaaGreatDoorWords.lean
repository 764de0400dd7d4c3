/- The words and numbers of a line. -/
import Derived.Test.YtkfdcccgpphcmaaGreatDoorDisk
import Derived.Test.YtkfdcccgpphcmaaGreatDoorShelf
import Derived.ChangeKeysEq
namespace Go.Proofs.YtkfdcccgpphcmaaGreatDoor
open Go.RowKit Go.Shelf

/-- A letter from a to z. -/
def letter (x : UInt8) : Bool := decide (97 ≤ x.toNat) && decide (x.toNat ≤ 122)
/-- A name: one to eight letters. -/
def nameB (s : ByteArray) : Bool := s.data.toList.all letter && decide (0 < s.size) && decide (s.size ≤ 8)

theorem nameB_bad (s : ByteArray) (k : Nat) (h : k < s.size) (hx : letter (s[k]'h) = false) : nameB s = false := by
  have : s.data.toList.all letter = false := by
    rw [List.all_eq_false]
    exact ⟨s[k]'h, (Array.mem_toList_iff.2 (Array.getElem_mem (xs := s.data) h)), by simp [hx]⟩
  simp [nameB, this]
theorem nameB_good (s : ByteArray) (h : ∀ k, (hk : k < s.size) → letter (s[k]'hk) = true) : nameB s = (decide (0 < s.size) && decide (s.size ≤ 8)) := by
  have : s.data.toList.all letter = true := by
    rw [List.all_eq_true]
    intro x hx
    obtain ⟨k, hk, rfl⟩ := List.getElem_of_mem hx
    exact h k hk
  simp [nameB, this]
theorem toList_empty (s : ByteArray) : s.toList.isEmpty = !decide (0 < s.size) := by
  rw [ByteArray.toList_eq]
  obtain ⟨⟨l⟩⟩ := s
  cases l <;> simp [ByteArray.size]
theorem string_empty (s : ByteArray) : (decide (s = ⟨#[]⟩)) = decide (¬ 0 < s.size) := by
  rw [decide_eq_decide]
  constructor
  · rintro rfl; decide
  · intro h
    obtain ⟨⟨l⟩⟩ := s
    have : l = [] := List.eq_nil_of_length_eq_zero (Nat.le_zero.1 (Nat.not_lt.1 h))
    subst this; rfl

set_option maxRecDepth 100000 in
set_option maxHeartbeats 1600000 in
theorem isName_ok (s : ByteArray) (w : World) (ha : ∀ k, (hk : k < s.size) → (s[k]'hk).toNat < 128) :
    Calls Tryz.prog 162 #[.string s] w fun e w' => e = .returned (.bool (nameB s)) ∧ Only [] w w' := by
  have HA := Lib.hid ha
  clear ha
  go_enter Tryz.func162, Tryz.ntmps162
  go_wp2_with fail
  go_loopw [4] (fun _ wr => ∃ k, k ≤ s.size ∧ wr = w.iter s k ∧ Hid (∀ j, (hj : j < s.size) → j < k → letter (s[j]'hj) = true)) (fun _ wr => s.size - wr.iterPos w.heap.size)
  case atStart => exact ⟨0, Nat.zero_le _, rfl, fun j hj h => absurd h (by omega)⟩
  case round =>
    obtain ⟨k, hk, rfl, hG⟩ := hrel
    by_cases hlt : k < s.size
    · have hnext : ∀ ty, (Instr.next (.pointer (some ⟨w.heap.size, 0, none⟩)) true ty).run Tryz.prog (w.iter s k) = _ := fun ty => run_next_ascii w s k ty hlt (HA.out k hlt)
      cases hx : letter (s[k]'hlt)
      · have hbad := Lib.hid (nameB_bad s k hlt hx)
        generalize (s[k]'hlt) = x at hx hnext
        by_cases h1 : ((x.toNat : Int) < 97)
        · have b1 : decide ((x.toNat : Int) < 97) = true := by simpa using h1
          clear hx h1
          go_wp2_with fail
          go_ret
          exact ⟨by rw [hbad.out]; rfl, (Only.refl _ _).alloc _⟩
        · have b1 : decide ((x.toNat : Int) < 97) = false := by simpa using h1
          have b2 : decide ((122 : Int) < (x.toNat : Int)) = true := by simp [letter] at hx ⊢; omega
          clear hx h1
          go_wp2_with fail
          go_ret
          exact ⟨by rw [hbad.out]; rfl, (Only.refl _ _).alloc _⟩
      · have HG2 : Hid (∀ j, (hj : j < s.size) → j < k + 1 → letter (s[j]'hj) = true) := fun j hj h => by
          rcases Nat.lt_or_ge j k with hl | hg
          · exact hG.out j hj hl
          · obtain rfl : j = k := by omega
            exact hx
        have hmu : (w.iter s k).iterPos w.heap.size = k := by simp [World.iterPos, World.iter_heap]
        have hmu2 : (w.iter s (k + 1)).iterPos w.heap.size = k + 1 := by simp [World.iterPos, World.iter_heap]
        generalize (s[k]'hlt) = x at hx hnext
        have b1 : decide ((x.toNat : Int) < 97) = false := by simp [letter] at hx ⊢; omega
        have b2 : decide ((122 : Int) < (x.toNat : Int)) = false := by simp [letter] at hx ⊢; omega
        clear hx
        go_wp2_with fail
        go_roundw
        case rel => exact ⟨k + 1, hlt, rfl, HG2⟩
        case measure => rw [hmu, hmu2]; omega
    · obtain rfl : k = s.size := by omega
      have hnext : ∀ ty, (Instr.next (.pointer (some ⟨w.heap.size, 0, none⟩)) true ty).run Tryz.prog (w.iter s s.size) = _ := fun ty => run_next_end w s s.size ty hlt
      have hgood := Lib.hid (nameB_good s fun j hj => hG.out j hj hj)
      have he := toList_empty s
      have HE := Lib.hid he
      by_cases h0 : 0 < s.size
      · rw [decide_eq_true h0] at he
        have he' : s.toList.isEmpty = false := he
        clear he
        go_wp2_with fail
        go_ret
        refine ⟨?_, (Only.refl _ _).alloc _⟩
        rw [hgood.out, decide_eq_true h0, Bool.true_and]
        show Ending.returned (Value.bool (decide ((s.size : Int) ≤ 8))) = _
        rw [show decide ((s.size : Int) ≤ 8) = decide (s.size ≤ 8) from by rw [decide_eq_decide]; omega]
      · rw [decide_eq_false h0] at he
        have he' : s.toList.isEmpty = true := he
        clear he
        go_wp2_with fail
        go_ret
        refine ⟨?_, (Only.refl _ _).alloc _⟩
        rw [hgood.out, decide_eq_false h0, Bool.false_and]
        rfl
end Go.Proofs.YtkfdcccgpphcmaaGreatDoor
