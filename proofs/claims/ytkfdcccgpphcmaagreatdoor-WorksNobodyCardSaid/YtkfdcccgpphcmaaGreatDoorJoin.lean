/- Strings joined by blanks. -/
import Derived.Test.YtkfdcccgpphcmaaGreatDoorPush
import Derived.Test.YtkfdcccgpphcmaaGreatDoorShelf
import Derived.Shelf.Strings.OnBuilder
namespace Go.Proofs.YtkfdcccgpphcmaaGreatDoor
open Go.RowKit Go.Shelf

theorem Tryz.extra156 : Builder.Extra Tryz.prog Tryz.lays156_ren where
  sizeBuilder := by kernel_rfl
  liesBuilder := by kernel_rfl
  t5 := Tryz.underlying5
  a5 := Tryz.isAgg5
  z5 := Tryz.sizeOf5
  v5 := Tryz.zeroValue5
  infoByte := by kernel_rfl
  cellsByte := by kernel_rfl
  sizeByte := by kernel_rfl
  neB5 := by decide

/-- Words, a blank between any two. -/
def spaced (ss : List ByteArray) : ByteArray := ⟨(Lib.join (ss.map (·.data.toList)) [32]).toArray⟩
theorem join_len (M : Nat) (sep : List UInt8) : ∀ xs : List (List UInt8), (∀ x, x ∈ xs → x.length ≤ M) → (Lib.join xs sep).length ≤ xs.length * (M + sep.length)
  | [], _ => by simp [Lib.join]
  | [x], h => by
    have := h x (by simp)
    simp [Lib.join, List.intercalate]
    omega
  | x :: y :: r, h => by
    have h1 := h x (by simp)
    have h2 := join_len M sep (y :: r) (fun z hz => h z (by simp [hz]))
    have e : (Lib.join (x :: y :: r) sep).length = x.length + sep.length + (Lib.join (y :: r) sep).length := by
      simp [Lib.join, List.intercalate, List.intersperse]
      omega
    rw [e]
    have e2 : (x :: y :: r).length * (M + sep.length) = (M + sep.length) + (y :: r).length * (M + sep.length) := by
      rw [List.length_cons, Nat.succ_mul, Nat.add_comm]
    omega
theorem spaced_size (M : Nat) (ss : List ByteArray) (h : ∀ s, s ∈ ss → s.size ≤ M) : (spaced ss).size ≤ ss.length * (M + 1) := by
  have e : (spaced ss).size = (Lib.join (ss.map (·.data.toList)) [32]).length := by show (Lib.join (ss.map (·.data.toList)) [32]).toArray.size = _; simp
  have := join_len M [32] (ss.map (·.data.toList)) (fun x hx => by
    obtain ⟨s, hs, rfl⟩ := List.mem_map.1 hx
    have := h s hs
    rw [Lib.size_eq] at this
    exact this)
  rw [e]
  simpa using this
theorem join_ok (w : World) (Z g n c : Nat) (ss : List ByteArray) (h : w.ownsRow Z 9 1 (.slice (some ⟨g, 0, none⟩) n c) n (ss.map Value.string)) (hlen : (spaced ss).size ≤ 1000000) (hss : ss.length ≤ 1000) :
    Calls Tryz.prog 143 #[.slice (some ⟨g, 0, none⟩) n c, .string ⟨#[32]⟩] w fun e w' => e = .returned (.string (spaced ss)) ∧ Below w.heap.size w w' := by
  have hn : n = ss.length := by have := h.1; simpa using this.symm
  subst hn
  rcases h.2 with ⟨h0, _⟩ | ⟨g', cap, cur, h0, hb, hh, h2, h3, h4, h5⟩
  · cases h0
  injection h0 with h0 _ h0'
  injection h0 with h0
  injection h0 with h0
  subst h0; subst h0'
  refine Any.strings_Join Tryz.lays156 Tryz.extra156 g 0 c ss ⟨#[32]⟩ w (fun j x hj => ?_) (Blk.lt (cs := cur) hh) (by omega) h2 ?_
  · have hj' : j < ss.length := (List.getElem?_eq_some_iff.1 hj).1
    rw [Nat.zero_add, h.cellAt j (by omega)]
    simp [hj]
  · have e : (spaced ss).size = (Lib.join (ss.map (·.data.toList)) [32]).length := by show (Lib.join (ss.map (·.data.toList)) [32]).toArray.size = _; simp
    rw [e] at hlen
    exact Nat.le_trans hlen (by decide)
end Go.Proofs.YtkfdcccgpphcmaaGreatDoor
