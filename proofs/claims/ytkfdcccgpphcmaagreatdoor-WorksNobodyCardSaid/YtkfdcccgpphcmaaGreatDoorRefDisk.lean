/- The reference's disk. -/
import Derived.Test.YtkfdcccgpphcmaaGreatDoorNewDisk
namespace Go.Proofs.YtkfdcccgpphcmaaGreatDoor
open Go.RowKit Go.Shelf

def strs (l : List ByteArray) : List Value := l.map Value.string

/-- A disk of the reference lies at block br, its pages at bP; all that it has lies from B on. -/
structure RDiskAt (w : World) (B br bP : Nat) (D : Dk) : Prop where
  safe : ∃ g cap, Blk w br 48 #[.slice (some ⟨bP, 0, none⟩) D.now.length D.now.length, .slice (some ⟨g, 0, none⟩) D.now.length cap, .bool D.off, .int .i64 D.fuse] ∧
    w.ownsRow B 9 1 (.slice (some ⟨g, 0, none⟩) D.now.length cap) D.now.length (strs D.safe) ∧ g ≠ bP
  rows : Blk w bP 9 (strs D.now).toArray
  len : D.now.length = D.safe.length
  lo : 1 ≤ D.now.length
  hi : D.now.length ≤ 200
  flo : -1 ≤ D.fuse
  fhi : D.fuse ≤ 9223372036854775807
  b1 : B ≤ br
  b2 : B ≤ bP

theorem infoStr : (Tryz.prog.info? 9).map (fun i => (i.zero, i.size, i.bytes)) = some (some (.string ⟨#[]⟩), 1, 16) := by kernel_rfl
theorem made_one (v : Value) (n : Nat) : madeCells #[v] n = (List.replicate n v).toArray := by
  apply Array.toList_inj.1
  rw [toList_madeCells_one]

theorem fresh_ref (n : Nat) (W : World) (B P S br : Nat) (h1 : 1 ≤ n) (h2 : n ≤ 200) (hP : Blk W P 9 (Array.replicate n (.string ⟨#[]⟩))) (hS : Blk W S 9 (Array.replicate n (.string ⟨#[]⟩)))
    (hb : Blk W br 48 #[.slice (some ⟨P, 0, none⟩) n n, .slice (some ⟨S, 0, none⟩) n n, .bool false, .int .i64 (-1)]) (hne : S ≠ P) (b1 : B ≤ br) (b2 : B ≤ P) (b3 : B ≤ S) : RDiskAt W B br P (Dk.new n) := by
  refine ⟨⟨S, n, by simpa [Dk.new] using hb, ⟨by simp [Dk.new, strs], .inr ⟨S, n, _, by simp [Dk.new], b3, hS, by simp [Dk.new], by unfold maxLen; omega, by simp, by simp [Dk.new, strs]⟩⟩, hne⟩, by simpa [Dk.new, strs] using hP, by simp [Dk.new], by simpa [Dk.new] using h1, by simpa [Dk.new] using h2, by simp [Dk.new], by simp [Dk.new], b1, b2⟩

theorem two_blocks (w : World) (o1 o2 o3 : Array Value) (t1 t2 t3 : TypeId) : Blk (((w.alloc (.cells o1 t1)).alloc (.cells o2 t2)).alloc (.cells o3 t3)).drew w.heap.size t1 o1 ∧ Blk (((w.alloc (.cells o1 t1)).alloc (.cells o2 t2)).alloc (.cells o3 t3)).drew (w.heap.size + 1) t2 o2 ∧
    Blk (((w.alloc (.cells o1 t1)).alloc (.cells o2 t2)).alloc (.cells o3 t3)).drew (w.heap.size + 1 + 1) t3 o3 := by
  have a1 := (Blk.new (w.alloc (.cells o1 t1)) t2 o2).alloc (.cells o3 t3)
  have a2 := Blk.new ((w.alloc (.cells o1 t1)).alloc (.cells o2 t2)) t3 o3
  simp only [World.size_alloc] at a1 a2
  exact ⟨(((Blk.new w t1 o1).alloc _).alloc _).drew, a1.drew, a2.drew⟩

set_option maxRecDepth 100000 in
theorem rnew_ok (n : Nat) (w : World) (h1 : 1 ≤ n) (h2 : n ≤ 200) :
    Calls Tryz.prog 36 #[.int .i64 n] w fun e w' => ∃ br bP, e = .returned (.tuple #[.pointer (some ⟨br, 0, none⟩), .int .i64 0]) ∧ RDiskAt w' w.heap.size br bP (Dk.new n) ∧ Below w.heap.size w w' := by
  have hmk := fun W => run_make_row' (P := Tryz.prog) 22 9 (.string ⟨#[]⟩) 16 Tryz.underlying22 infoStr rfl .i64 .i64 n (by omega) (by omega) W
  simp only [made_one] at hmk
  have b1 : decide ((n : Int) < 1) = false := by simp; omega
  have b2 : decide ((200 : Int) < n) = false := by simp; omega
  go_enter Tryz.func36, Tryz.ntmps36
  go_wp2_with fail
  go_region
  all_goals go_wp2
  all_goals go_ret2
  · exact ⟨_, _, rfl, fresh_ref n _ _ _ _ _ h1 h2 (two_blocks w _ _ _ _ _ _).1 (two_blocks w _ _ _ _ _ _).2.1 (two_blocks w _ _ _ _ _ _).2.2 (by omega) (by omega) (by omega) (by omega), ((((Below.refl _ _).alloc (Nat.le_refl _) _).alloc (by simp) _).alloc (by simp; omega) _).drew⟩
  · exact ⟨_, _, rfl, fresh_ref n _ _ _ _ _ h1 h2 (two_blocks w _ _ _ _ _ _).2.1 (two_blocks w _ _ _ _ _ _).1 (two_blocks w _ _ _ _ _ _).2.2 (by omega) (by omega) (by omega) (by omega), ((((Below.refl _ _).alloc (Nat.le_refl _) _).alloc (by simp) _).alloc (by simp; omega) _).drew⟩

theorem rnew_bad (n : Int) (w : World) (h : n < 1 ∨ 200 < n) :
    Calls Tryz.prog 36 #[.int .i64 n] w fun e w' => e = .returned (.tuple #[.pointer none, .int .i64 2]) ∧ w = w' := by
  by_cases h1 : n < 1
  · have b1 : decide (n < 1) = true := by simpa using h1
    go_enter Tryz.func36, Tryz.ntmps36
    go_wp2
    go_ret2
    exact ⟨rfl, rfl⟩
  · have b1 : decide (n < 1) = false := by simpa using h1
    have b2 : decide (200 < n) = true := by simp; omega
    go_enter Tryz.func36, Tryz.ntmps36
    go_wp2
    go_ret2
    exact ⟨rfl, rfl⟩
end Go.Proofs.YtkfdcccgpphcmaaGreatDoor
