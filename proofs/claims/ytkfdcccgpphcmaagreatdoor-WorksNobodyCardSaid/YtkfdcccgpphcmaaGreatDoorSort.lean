/- A row of strings, sorted. -/
import Derived.Test.YtkfdcccgpphcmaaGreatDoorPush
import Derived.Test.YtkfdcccgpphcmaaGreatDoorShelf
import Derived.Shelf.Sort.Plain
import Derived.Shelf.Slices.In.SortNone
import Derived.Shelf.GgClosure.Gives
namespace Go.Proofs.YtkfdcccgpphcmaaGreatDoor
open Go.RowKit Go.Shelf

theorem own_zero' {w : World} (base : Nat) (e : TypeId) (size : Nat) : w.ownsRow base e size (.slice none 0 0) 0 [] := ⟨by simp, .inl ⟨rfl, rfl⟩⟩
/-- Strings, sorted. -/
def sortS (ss : List ByteArray) : List ByteArray := ((ss.map (·.data.toList)).mergeSort fun x y => decide (x ≤ y)).map fun l => ⟨l.toArray⟩
theorem enc_strs (ss : List ByteArray) : (ss.map (·.data.toList)).map encStr = ss.map Value.string := by
  rw [List.map_map]
  rfl
theorem sortS_cells (ss : List ByteArray) : ((ss.map (·.data.toList)).mergeSort fun x y => decide (x ≤ y)).map encStr = (sortS ss).map Value.string := by
  unfold sortS
  rw [List.map_map]
  rfl
theorem sortS_len (ss : List ByteArray) : (sortS ss).length = ss.length := by simp [sortS]

theorem sortS_mem {ss : List ByteArray} {x : ByteArray} (h : x ∈ sortS ss) : x ∈ ss := by
  unfold sortS at h
  obtain ⟨l, hl, rfl⟩ := List.mem_map.1 h
  have := (List.mergeSort_perm _ _).mem_iff.1 hl
  obtain ⟨s, hs, rfl⟩ := List.mem_map.1 this
  exact hs

theorem putCells_take (d : List (List UInt8)) (cur : Array Value) (h : d.length ≤ cur.size) : (Go.Sort.putCells encStr 0 d.toArray cur).toList.take d.length = d.map encStr := by
  apply List.ext_getElem
  · simp [Go.Sort.putCells]; omega
  · intro i h1 h2
    have hi : i < d.length := by simpa using h2
    simp [Go.Sort.putCells, hi]

theorem sort_some (w : World) (Z : Nat) (g n c : Nat) (ss : List ByteArray) (h : w.ownsRow Z 9 1 (.slice (some ⟨g, 0, none⟩) n c) n (ss.map Value.string)) (hss : ss.length ≤ 1000000) :
    Calls Tryz.prog 138 #[.slice (some ⟨g, 0, none⟩) n c] w fun e w' => e = .returned (.tuple #[]) ∧ w'.ownsRow Z 9 1 (.slice (some ⟨g, 0, none⟩) n c) n ((sortS ss).map Value.string) ∧ Only [g] w w' := by
  have hn : n = ss.length := by have := h.1; simpa using this.symm
  subst hn
  rcases h.2 with ⟨h0, _⟩ | ⟨g', cap, cur, h0, hb, hh, h2, h3, h4, h5⟩
  · cases h0
  injection h0 with h0 _ h0'
  injection h0 with h0
  injection h0 with h0
  subst h0; subst h0'
  have hH : Go.Sort.Holds encStr w g 0 (ss.map (·.data.toList)).toArray := fun j hj => by
    have hj' : j < ss.length := by simpa using hj
    refine ⟨?_, ?_⟩
    · rw [Nat.zero_add, h.cellAt j (by omega), ← enc_strs]
      simp [hj']
    · rw [Nat.zero_add]
      exact h.frozenAt j
  have hcall := Any.slices_Sort_string Tryz.lays190 g 0 c (ss.map (·.data.toList)) w hH (Blk.lt (cs := cur) hh) (by simp; omega)
  rw [List.length_map] at hcall
  refine hcall.mono fun e w' ⟨he, q, os, hw⟩ => ?_
  have hheap : ∀ k, k < w.heap.size → w'.heap[k]? = (w.heap.modify g (Go.Sort.onCells (Go.Sort.putCells encStr 0 ((ss.map (·.data.toList)).mergeSort fun x y => decide (x ≤ y)).toArray)))[k]? := fun k hk => by
    rw [hw]
    show (w.heap.modify g _ ++ os)[k]? = _
    rw [Array.getElem?_append_left (by simpa using hk)]
  have hsize : w.heap.size ≤ w'.heap.size := by
    rw [hw]
    show _ ≤ (w.heap.modify g _ ++ os).size
    simp
  refine ⟨he, ⟨by simp [sortS_len], .inr ⟨g, c, Go.Sort.putCells encStr 0 ((ss.map (·.data.toList)).mergeSort fun x y => decide (x ≤ y)).toArray cur, rfl, hb, ?_, h2, h3, ?_, ?_⟩⟩, ⟨by rw [hw]; rfl, by rw [hw]; rfl, by rw [hw]; rfl, hsize, fun k hk hkm => ?_⟩⟩
  · rw [hheap g (Blk.lt (cs := cur) hh), Array.getElem?_modify, if_pos rfl, hh]
    rfl
  · simpa [Go.Sort.putCells] using h4
  · have hlen : ((ss.map (·.data.toList)).mergeSort fun x y => decide (x ≤ y)).length = ss.length := by simp
    have := putCells_take ((ss.map (·.data.toList)).mergeSort fun x y => decide (x ≤ y)) cur (by rw [hlen]; omega)
    rw [hlen, sortS_cells] at this
    rw [Nat.mul_one]
    exact this
  · rw [hheap k hk, Array.getElem?_modify, if_neg (by simp at hkm; exact fun e => hkm e.symm)]

theorem sort_any (w : World) (Z : Nat) (A : Option Addr) (n c : Nat) (ss : List ByteArray) (h : w.ownsRow Z 9 1 (.slice A n c) n (ss.map Value.string)) (hss : ss.length ≤ 1000000) :
    Calls Tryz.prog 138 #[.slice A n c] w fun e w' => e = .returned (.tuple #[]) ∧ w'.ownsRow Z 9 1 (.slice A n c) n ((sortS ss).map Value.string) ∧ Only (blocksOf (.slice A n c)) w w' := by
  rcases h.2 with ⟨h0, h1⟩ | ⟨g, cap, cur, h0, _⟩
  · injection h0 with h0 _ h0'
    subst h0; subst h0'; subst h1
    have hs : ss = [] := by have := h.1; simpa using this
    subst hs
    exact (calls_of_every_depth fun D => AnyS.slices_Sort_string_none_in Tryz.lays190 D none 0 w).mono fun e w' ⟨he, hw⟩ => ⟨he, by rw [hw, show sortS [] = [] from by simp [sortS]]; exact own_zero' _ _ _, hw ▸ Only.refl _ _⟩
  · injection h0 with h0 _ h0'
    subst h0; subst h0'
    exact (sort_some w Z g n c ss h hss).mono fun e w' ⟨he, h1, h2⟩ => ⟨he, h1, h2.mono (by simp [blocksOf, Value.ownBlock])⟩
end Go.Proofs.YtkfdcccgpphcmaaGreatDoor
