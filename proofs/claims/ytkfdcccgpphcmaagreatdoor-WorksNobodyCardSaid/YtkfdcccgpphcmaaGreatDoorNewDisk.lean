/- New disks. -/
import Derived.Test.YtkfdcccgpphcmaaGreatDoorDisk2
import Derived.Laws.MakeOwn
namespace Go.Proofs.YtkfdcccgpphcmaaGreatDoor
open Go.RowKit Go.Shelf

/-- A new disk. -/
def Dk.new (n : Nat) : Dk := { now := List.replicate n ⟨#[]⟩, safe := List.replicate n ⟨#[]⟩, off := false, fuse := -1 }
theorem both_empty (n : Nat) : both (List.replicate n ⟨#[]⟩) (List.replicate n ⟨#[]⟩) = List.replicate (n * 2) (.string ⟨#[]⟩) := by
  induction n with
  | zero => rfl
  | succ n ih => rw [List.replicate_succ, both, ih, Nat.succ_mul, List.replicate_succ, List.replicate_succ]
theorem made_two (v : Value) (n : Nat) : madeCells #[v, v] n = (List.replicate n v).toArray := by
  apply Array.ext
  · simp [madeCells]
  · intro i h1 h2
    have h3 : i % 2 = 0 ∨ i % 2 = 1 := by omega
    rcases h3 with h3 | h3 <;> simp [madeCells, h3]
theorem infoPage : (Tryz.prog.info? 81).map (fun i => (i.zero, i.size, i.bytes)) = some (some (.agg #[.string ⟨#[]⟩, .string ⟨#[]⟩]), 2, 32) := by kernel_rfl

set_option maxRecDepth 100000 in
theorem newDisk_ok (n : Nat) (w : World) (h1 : 1 ≤ n) (h2 : n ≤ 200) :
    Calls Tryz.prog 35 #[.int .i64 n] w fun e w' => ∃ bd bp, e = .returned (.tuple #[.pointer (some ⟨bd, 0, none⟩), .int .i64 0]) ∧ DiskAt w' bd bp (Dk.new n) ∧ w.heap.size ≤ bd ∧ w.heap.size ≤ bp ∧ Below w.heap.size w w' := by
  obtain ⟨i0, hi, hz0, hz1, hz2⟩ := info_parts infoPage
  have hmk := run_make (P := Tryz.prog) (w := w) 53 81 i0 _ Tryz.underlying53 hi hz0 .i64 .i64 n n (by omega) (Int.le_refl _) (by rw [hz2]; omega) (by omega)
  rw [Int.toNat_natCast, hz1, show (Value.agg #[.string ⟨#[]⟩, .string ⟨#[]⟩]).cells = #[.string ⟨#[]⟩, .string ⟨#[]⟩] from rfl, made_two] at hmk
  have b1 : decide ((n : Int) < 1) = false := by simp; omega
  have b2 : decide ((200 : Int) < n) = false := by simp; omega
  clear hi hz0 hz1 hz2
  go_enter Tryz.func35, Tryz.ntmps35
  go_wp2
  go_ret2
  refine ⟨w.heap.size + 1, w.heap.size, rfl, ⟨?_, ?_, by simp [Dk.new], by simpa [Dk.new] using h1, by simpa [Dk.new] using h2, by simp [Dk.new], by simp [Dk.new]⟩, by omega, Nat.le_refl _, ((Below.refl _ _).alloc (Nat.le_refl _) _).alloc (by simp) _⟩
  · have := Blk.new (w.alloc (.cells (List.replicate (n * 2) (.string ⟨#[]⟩)).toArray 81)) 55 #[.slice (some ⟨w.heap.size, 0, none⟩) n n, .bool false, .int .i64 (-1)]
    simpa [Dk.new] using this
  · have := (Blk.new w 81 (List.replicate (n * 2) (.string ⟨#[]⟩)).toArray).alloc (.cells #[.slice (some ⟨w.heap.size, 0, none⟩) n n, .bool false, .int .i64 (-1)] 55)
    simpa [Dk.new, both_empty] using this

theorem newDisk_bad (n : Int) (w : World) (h : n < 1 ∨ 200 < n) :
    Calls Tryz.prog 35 #[.int .i64 n] w fun e w' => e = .returned (.tuple #[.pointer none, .int .i64 2]) ∧ w = w' := by
  by_cases h1 : n < 1
  · have b1 : decide (n < 1) = true := by simpa using h1
    go_enter Tryz.func35, Tryz.ntmps35
    go_wp2
    go_ret2
    exact ⟨rfl, rfl⟩
  · have b1 : decide (n < 1) = false := by simpa using h1
    have b2 : decide (200 < n) = true := by simp; omega
    go_enter Tryz.func35, Tryz.ntmps35
    go_wp2
    go_ret2
    exact ⟨rfl, rfl⟩
end Go.Proofs.YtkfdcccgpphcmaaGreatDoor
