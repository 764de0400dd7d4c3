/- The small functions of works. -/
import Derived.Test.YtkfdcccgpphcmaaGreatDoorBase
namespace Go.Proofs.YtkfdcccgpphcmaaGreatDoor
open Go.RowKit Go.Shelf

/-- The block of works: its disk, its state, its journal. -/
def WorksAt (w : World) (bw bd bs : Nat) (A : Option Addr) (n c : Nat) (safe : Int) (lost : Bool) : Prop :=
  Blk w bw 65 #[.pointer (some ⟨bd, 0, none⟩), .pointer (some ⟨bs, 0, none⟩), .slice A n c, .int .i64 safe, .bool lost]

set_option maxRecDepth 100000 in
theorem wnone_ok (w : World) (bw bd bs : Nat) (A : Option Addr) (n c : Nat) (safe : Int) (lost : Bool) (h : WorksAt w bw bd bs A n c safe lost) :
    Calls Tryz.prog 29 #[.pointer (some ⟨bw, 0, none⟩)] w fun e w' => e = .returned (.bool false) ∧ w = w' := by
  have c1 : w.cell? ⟨bw, 1, none⟩ = some (.pointer (some ⟨bs, 0, none⟩)) := Blk.cell h 1
  clear h
  go_enter Tryz.func29, Tryz.ntmps29
  go_wp2_with fail
  go_ret
  exact ⟨rfl, rfl⟩

set_option maxRecDepth 100000 in
theorem wready_ok (w : World) (bw bd bs : Nat) (A : Option Addr) (n c : Nat) (safe : Int) (lost : Bool) (h : WorksAt w bw bd bs A n c safe lost) :
    Calls Tryz.prog 44 #[.pointer (some ⟨bw, 0, none⟩)] w fun e w' => e = .returned (.int .i64 (if lost = true then 5 else 0)) ∧ w = w' := by
  have hn := wnone_ok w bw bd bs A n c safe lost h
  have c4 : w.cell? ⟨bw, 4, none⟩ = some (.bool lost) := Blk.cell h 4
  clear h
  cases lost <;>
  · go_enter Tryz.func44, Tryz.ntmps44
    go_wp2_with fail
    refine hn.mono ?_
    rintro e w' ⟨rfl, rfl⟩
    go_wp2_with fail
    go_ret
    exact ⟨rfl, rfl⟩
end Go.Proofs.YtkfdcccgpphcmaaGreatDoor
