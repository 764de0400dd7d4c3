/- What the library's variables hold, in every world that has what it had below a block number. -/
import Derived.Test.YtkfdcccgpphcmaaGreatDoorDisk
import Derived.Test.YtkfdcccgpphcmaaGreatDoorShelf
import Derived.WalkSmall
namespace Go.Proofs.YtkfdcccgpphcmaaGreatDoor
open Go.RowKit Go.Shelf

def VarAt (B : Nat) (w : World) (n : String) (cs : Array Value) : Prop := w.var? Tryz.prog n = some cs ∧ ∃ g, Tryz.prog.globalNamed n = some g ∧ g < B
theorem VarAt.below {B : Nat} {w w' : World} {n : String} {cs : Array Value} (h : VarAt B w n cs) (hb : Below B w w') : VarAt B w' n cs :=
  let ⟨_, hg, hlt⟩ := h.2
  ⟨var?_below hb hg hlt h.1, h.2⟩

/-- The variables of the library that the works' text reads. -/
structure Base (B : Nat) (w : World) : Prop where
  le : B ≤ w.heap.size
  mx : ∃ m, w.cell? ⟨0, 0, none⟩ = some (.int .i64 m)
  mlt : 0 < B
  pw : VarAt B w "internal/strconv.uint64pow10" (Lib.pow10Tab.map fun z => Value.int .u64 z).toArray
  es : ∃ t p, VarAt B w "strconv.ErrSyntax" #[.iface t p]
  er : ∃ t p, VarAt B w "strconv.ErrRange" #[.iface t p]

theorem Base.below {B : Nat} {w w' : World} (h : Base B w) (hb : Below B w w') : Base B w' := by
  obtain ⟨le, ⟨m, hm⟩, mlt, pw, ⟨t, p, es⟩, ⟨t', p', er⟩⟩ := h
  exact ⟨Nat.le_trans le hb.size, ⟨m, (hb.cell (p := ⟨_, 0, none⟩) mlt).trans hm⟩, mlt, pw.below hb, ⟨t, p, es.below hb⟩, ⟨t', p', er.below hb⟩⟩
theorem Base.on {B : Nat} {w w' : World} (h : Base B w) (hb : Below w.heap.size w w') : Base B w' := h.below (hb.mono h.le)
theorem Base.only {B : Nat} {M : List Nat} {w w' : World} (h : Base B w) (ho : Only M w w') (hM : ∀ g, g ∈ M → B ≤ g) : Base B w' :=
  h.below ⟨ho.os, ho.tape, ho.output, ho.size, fun k hk => ho.block k (by have := h.le; omega) fun h' => by have := hM k h'; omega⟩
end Go.Proofs.YtkfdcccgpphcmaaGreatDoor
