/- isLine: which strings are lines. -/
import Derived.Test.YtkfdcccgpphcmaaGreatDoorBase
import Derived.Lib.ConvBytes
import Derived.Lib.AtoiErrMem
namespace Go.Proofs.YtkfdcccgpphcmaaGreatDoor
open Go.RowKit Go.Shelf

/-- The pieces of a text between blanks. -/
def pieces (s : ByteArray) : List ByteArray := Lib.splitB ⟨#[32]⟩ 0 (Lib.countB s ⟨#[32]⟩) s

theorem bel_drewN {B : Nat} {a w : World} (h : Below B a w) (n : Nat) : Below B a (w.drewN n) := ⟨h.os, h.tape, h.output, h.size, h.block⟩
theorem pieces_len (s : ByteArray) : (pieces s).length = Lib.countB s ⟨#[32]⟩ + 1 := Lib.splitB_all ⟨#[32]⟩ (by decide) 0 _ s rfl

theorem split_ok {B : Nat} (w : World) (hB : Base B w) (s : ByteArray) (hs : s.size ≤ 1000) :
    Calls Tryz.prog 9 #[.string s, .string ⟨#[32]⟩] w fun e w' =>
      e = .returned (.slice (some ⟨w.heap.size, 0, none⟩) (pieces s).length (pieces s).length) ∧ w' = w.alloc (.cells ((pieces s).map Value.string).toArray 9) := by
  obtain ⟨m, hm⟩ := hB.mx
  have h := Any.strings_Split Tryz.lays146 (by kernel_rfl) s ⟨#[32]⟩ m w (by omega) hm (by decide)
  rw [pieces_len]
  exact h

/-- A byte that no line has. -/
def odd (c : UInt8) : Bool := decide (c.toNat < 32) || decide (126 < c.toNat)
/-- The strings that are lines. -/
def lineB (s : ByteArray) : Bool := decide (s.size ≤ 60) && !Lib.containsS (pieces s) ⟨#[]⟩ && !s.data.toList.any odd

theorem odd_at (w : World) : PredAt Tryz.prog 84 #[] (fun c : UInt8 => Value.int .u8 c.toNat) odd w := fun W x _ => by
  show Calls Tryz.prog 84 #[.int .u8 x.toNat] W _
  by_cases h1 : x.toNat < 32
  · have b1 : decide ((x.toNat : Int) < 32) = true := by simp; omega
    have HO : Hid (odd x = true) := by show _ = _; simp [odd, h1]
    clear h1
    go_enter Tryz.func84, Tryz.ntmps84
    go_wp2_with fail
    go_ret
    exact ⟨by rw [HO.out]; rfl, 0, rfl⟩
  · have b1 : decide ((x.toNat : Int) < 32) = false := by simp; omega
    have HO : Hid (odd x = decide ((126 : Int) < x.toNat)) := by
      show _ = _
      simp [odd, h1]
      omega
    clear h1
    go_enter Tryz.func84, Tryz.ntmps84
    go_wp2_with fail
    go_ret
    exact ⟨by rw [HO.out]; rfl, 0, rfl⟩

set_option maxRecDepth 100000 in
theorem isLine_long (w : World) (s : ByteArray) (hs : s.size ≤ 9223372036854775807) (h : 60 < s.size) :
    Calls Tryz.prog 55 #[.string s] w fun e w' => e = .returned (.bool false) ∧ Below w.heap.size w w' := by
  go_enter Tryz.func55, Tryz.ntmps55
  go_wp2_with fail
  go_ret
  exact ⟨rfl, Below.refl _ _⟩

set_option maxRecDepth 100000 in
theorem isLine_short {B : Nat} (w : World) (hB : Base B w) (s : ByteArray) (h : s.size ≤ 60) :
    Calls Tryz.prog 55 #[.string s] w fun e w' => e = .returned (.bool (lineB s)) ∧ Below w.heap.size w w' := by
  have hsp := split_ok w hB s (by omega)
  have hlen := pieces_len s
  have hle := Lib.countB_le ⟨#[32]⟩ (by decide) s.size s (Nat.le_refl _)
  have hl : (pieces s).length ≤ 100 := by omega
  have HL : Hid (lineB s = (!Lib.containsS (pieces s) ⟨#[]⟩ && !s.data.toList.any odd)) := by show _ = _; simp [lineB, h]
  have hcon : ∀ W, (∀ j, j < (pieces s).length → W.cell? ⟨w.heap.size, 0 + j, none⟩ = some (.string ((pieces s).getD j ByteArray.empty))) → Calls Tryz.prog 12 #[.slice (some ⟨w.heap.size, 0, none⟩) (pieces s).length (pieces s).length, .string ⟨#[]⟩] W fun e w' => e = .returned (.bool (Lib.containsS (pieces s) ⟨#[]⟩)) ∧ W = w' := fun W hc =>
    (Any.slices_Contains_string Tryz.lays110 w.heap.size 0 (pieces s).length (pieces s).length (pieces s) ⟨#[]⟩ W (Nat.le_refl _) (by omega) hc).mono fun e w' ⟨he, hw⟩ => ⟨by rw [he, List.take_length], hw.symm⟩
  clear hlen hle
  have HC := Lib.hid hcon
  clear hcon
  have hcell : ∀ j, j < (pieces s).length → (w.alloc (.cells ((pieces s).map Value.string).toArray 9)).cell? ⟨w.heap.size, 0 + j, none⟩ = some (.string ((pieces s).getD j ByteArray.empty)) := fun j hj => by
    have := (Blk.new w 9 ((pieces s).map Value.string).toArray).cell j
    rw [Nat.zero_add]
    rw [this]
    simp [List.getD, hj]
  have HCE := Lib.hid hcell
  clear hcell
  have hcv := fun W => Lib.run_convert_string_bytes (P := Tryz.prog) W 9 109 5 s Tryz.underlying9 Tryz.underlying109 Tryz.underlying5
  generalize pieces s = ps at hsp hl HL HC HCE
  go_enter Tryz.func55, Tryz.ntmps55
  go_wp2_with fail
  refine hsp.mono ?_
  rintro e w' ⟨rfl, rfl⟩
  go_wp2_with fail
  refine (HC.out _ HCE.out).mono ?_
  rintro e w' ⟨rfl, rfl⟩
  cases hq : Lib.containsS ps ⟨#[]⟩
  · go_wp2_with fail
    refine (AnyE.slices_ContainsFunc Tryz.anyByte (fun c : UInt8 => Value.int .u8 c.toNat) odd 84 #[] (enters_of Tryz.func84 (by kernel_rfl) rfl) _ 0 s.size _ s.data.toList _ (odd_at _) (Nat.le_of_eq (Lib.size_eq s)) (by omega) ?_).mono ?_
    · intro j hj
      have hj' : j < s.size := by rw [Lib.size_eq]; exact hj
      have := Lib.bytesWorld_cell (w.alloc (Obj.cells (List.map Value.string ps).toArray 9)) 5 s j hj'
      rw [World.size_alloc] at this
      rw [Nat.zero_add, this]
      simp [List.getD, List.getElem!_eq_getElem?_getD]
      rfl
    rintro e w' ⟨rfl, q, rfl⟩
    go_wp2_with fail
    go_ret
    refine ⟨?_, ?_⟩
    · rw [HL.out, hq, show s.data.toList.take s.size = s.data.toList from by rw [Lib.size_eq, List.take_length]]
      rfl
    · exact bel_drewN (((Below.refl _ _).alloc (Nat.le_refl _) _).trans ((Lib.bytesWorld_below _ _ _).mono (by simp))) q
  · go_wp2_with fail
    go_ret
    exact ⟨by rw [HL.out, hq]; rfl, (Below.refl _ _).alloc (Nat.le_refl _) _⟩
theorem isLine_ok {B : Nat} (w : World) (hB : Base B w) (s : ByteArray) (hs : s.size ≤ 9223372036854775807) :
    Calls Tryz.prog 55 #[.string s] w fun e w' => e = .returned (.bool (lineB s)) ∧ Below w.heap.size w w' := by
  by_cases h : s.size ≤ 60
  · exact isLine_short w hB s h
  · have e : lineB s = false := by simp [lineB, h]
    rw [e]
    exact isLine_long w s hs (by omega)
end Go.Proofs.YtkfdcccgpphcmaaGreatDoor
