/- The beginning of works. -/
import Derived.Test.YtkfdcccgpphcmaaGreatDoorDisk
import Derived.Test.YtkfdcccgpphcmaaGreatDoorShelf
import Derived.Maps.Own
namespace Go.Proofs.YtkfdcccgpphcmaaGreatDoor
open Go.RowKit Go.Shelf

/-- The world behind begin. -/
def begun (w : World) : World :=
  ((w.alloc (Obj.map #[] 0)).alloc (Obj.map #[] 0)).alloc (Obj.cells #[.slice none 0 0, .map (some w.heap.size), .map (some (w.heap.size + 1)), .slice none 0 0, .slice none 0 0] 105)
theorem begun_blk (w : World) : Blk (begun w) (w.heap.size + 2) 105 #[.slice none 0 0, .map (some w.heap.size), .map (some (w.heap.size + 1)), .slice none 0 0, .slice none 0 0] := by
  have := Blk.new ((w.alloc (Obj.map #[] 0)).alloc (Obj.map #[] 0)) 105 #[.slice none 0 0, .map (some w.heap.size), .map (some (w.heap.size + 1)), .slice none 0 0, .slice none 0 0]
  simpa [begun] using this
theorem begun_only (w : World) : Only [] w (begun w) := (((Only.refl _ w).alloc _).alloc _).alloc _

set_option maxRecDepth 100000 in
theorem begin_ok (w : World) :
    Calls Tryz.prog 48 #[] w fun e w' => e = .returned (.pointer (some ⟨w.heap.size + 2, 0, none⟩)) ∧ w' = begun w := by
  have hmm := @run_makeMap Tryz.prog
  go_enter Tryz.func48, Tryz.ntmps48
  go_wp2_with fail
  go_ret
  exact ⟨rfl, rfl⟩
end Go.Proofs.YtkfdcccgpphcmaaGreatDoor
