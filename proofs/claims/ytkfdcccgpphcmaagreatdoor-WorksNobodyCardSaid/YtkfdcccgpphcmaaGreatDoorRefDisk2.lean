/- The methods of the reference's disk. -/
import Derived.Test.YtkfdcccgpphcmaaGreatDoorRefDisk
namespace Go.Proofs.YtkfdcccgpphcmaaGreatDoor
open Go.RowKit Go.Shelf

theorem RDiskAt.setOff {w : World} {B br bP : Nat} {D : Dk} (h : RDiskAt w B br bP D) (b : Bool) : RDiskAt (w.setCell ⟨br, 2, none⟩ (.bool b)) B br bP { D with off := b } := by
  obtain ⟨g, cap, hb, hs, hne⟩ := h.safe
  have hbp : br ≠ bP := Blk.ne_ hb h.rows (by decide)
  have hbg : g ≠ br := fun e => own_blk_ne hs hb (by decide) (by simp [Value.ownBlock, e])
  exact ⟨⟨g, cap, hb.set_ 2 _, ownsRow_setCell_other hs (by simpa [Value.ownBlock] using hbg) _, hne⟩, h.rows.far (by simpa using hbp.symm) _, h.len, h.lo, h.hi, h.flo, h.fhi, h.b1, h.b2⟩
theorem RDiskAt.setFuse {w : World} {B br bP : Nat} {D : Dk} (h : RDiskAt w B br bP D) (f : Int) (h1 : -1 ≤ f) (h2 : f ≤ 9223372036854775807) : RDiskAt (w.setCell ⟨br, 3, none⟩ (.int .i64 f)) B br bP { D with fuse := f } := by
  obtain ⟨g, cap, hb, hs, hne⟩ := h.safe
  have hbp : br ≠ bP := Blk.ne_ hb h.rows (by decide)
  have hbg : g ≠ br := fun e => own_blk_ne hs hb (by decide) (by simp [Value.ownBlock, e])
  exact ⟨⟨g, cap, hb.set_ 3 _, ownsRow_setCell_other hs (by simpa [Value.ownBlock] using hbg) _, hne⟩, h.rows.far (by simpa using hbp.symm) _, h.len, h.lo, h.hi, h1, h2, h.b1, h.b2⟩
theorem RDiskAt.setNow {w : World} {B br bP : Nat} {D : Dk} (h : RDiskAt w B br bP D) (i : Nat) (s : ByteArray) : RDiskAt (w.setCell ⟨bP, i, none⟩ (.string s)) B br bP { D with now := D.now.set i s } := by
  obtain ⟨g, cap, hb, hs, hne⟩ := h.safe
  have hbp : br ≠ bP := Blk.ne_ hb h.rows (by decide)
  exact ⟨⟨g, cap, by simpa using hb.far (p := ⟨bP, i, none⟩) hbp _, by simpa using ownsRow_setCell_other hs (a := ⟨bP, i, none⟩) (by simpa [Value.ownBlock] using hne) _, hne⟩, by have := h.rows.set_ i (.string s); rwa [List.setIfInBounds_toArray, strs, ← List.map_set] at this, by simpa using h.len, by simpa using h.lo, by simpa using h.hi, h.flo, h.fhi, h.b1, h.b2⟩
theorem RDiskAt.cells {w : World} {B br bP : Nat} {D : Dk} (h : RDiskAt w B br bP D) :
    w.cell? ⟨br, 0, none⟩ = some (.slice (some ⟨bP, 0, none⟩) D.now.length D.now.length) ∧ w.cell? ⟨br, 2, none⟩ = some (.bool D.off) ∧ w.cell? ⟨br, 3, none⟩ = some (.int .i64 D.fuse) ∧ ∀ i, w.frozen? ⟨br, i, none⟩ = false := by
  obtain ⟨g, cap, hb, hs, hne⟩ := h.safe
  exact ⟨hb.cell 0, hb.cell 2, hb.cell 3, hb.frozen⟩
theorem RDiskAt.page {w : World} {B br bP : Nat} {D : Dk} (h : RDiskAt w B br bP D) (i : Nat) (hi : i < D.now.length) : w.cell? ⟨bP, i, none⟩ = some (.string (D.now.getD i ByteArray.empty)) := by
  rw [h.rows.cell i]
  simp [strs, List.getD, hi]

theorem spent_idle (D : Dk) (h : D.off = false) (hf : D.fuse = -1) : D.spent = D := by
  obtain ⟨n, s, o, f⟩ := D
  simp only at h hf
  subst h hf
  rfl

set_option maxRecDepth 100000 in
theorem rdone_ok (B br bP : Nat) (D : Dk) (w : World) (h : RDiskAt w B br bP D) :
    Calls Tryz.prog 64 #[.pointer (some ⟨br, 0, none⟩)] w fun e w' => e = .returned (.bool (!D.dark)) ∧ RDiskAt w' B br bP D.spent ∧ Only [br] w w' := by
  obtain ⟨_, c2, c3, fz⟩ := h.cells
  have f2 := fz 2
  have f3 := fz 3
  have flo := h.flo
  have fhi := h.fhi
  have HD := Lib.hid h
  clear h fz
  by_cases hd : D.off = true
  · rw [hd] at c2
    have E1 : Hid (D.dark = true) := by show D.dark = true; simp [Dk.dark, hd]
    have HO := Lib.hid hd
    clear hd
    go_enter Tryz.func64, Tryz.ntmps64
    go_wp2
    go_ret
    refine ⟨by rw [E1.out]; rfl, ?_, Only.refl _ _⟩
    have e : D.spent = D := by simp [Dk.spent, E1.out, ← HO.out]
    rw [e]; exact HD.out
  · rw [Bool.not_eq_true] at hd
    rw [hd] at c2
    have HO := Lib.hid hd
    clear hd
    by_cases hz : D.fuse = 0
    · have b1 : (D.fuse == 0) = true := beq_iff_eq.2 hz
      have E1 : Hid (D.dark = true) := by show D.dark = true; simp [Dk.dark, hz]
      clear hz
      go_enter Tryz.func64, Tryz.ntmps64
      go_wp2
      go_ret
      refine ⟨by rw [E1.out]; rfl, ?_, (Only.refl _ _).set_ (by simp) _⟩
      have := HD.out.setOff true
      simpa [Dk.spent, E1.out] using this
    · have b1 : (D.fuse == 0) = false := beq_eq_false_iff_ne.2 hz
      have E1 : Hid (D.dark = false) := by show D.dark = false; simp [Dk.dark, HO.out, hz]
      by_cases hp : 0 < D.fuse
      · have HZ := Lib.hid hz
        clear hz
        have b2 : decide (0 < D.fuse) = true := by simpa using hp
        go_enter Tryz.func64, Tryz.ntmps64
        go_wp2
        go_ret
        refine ⟨by rw [E1.out]; rfl, ?_, (Only.refl _ _).set_ (by simp) _⟩
        have := HD.out.setFuse (D.fuse - 1) (by omega) (by omega)
        have e : max (D.fuse - 1) (-1) = D.fuse - 1 := by omega
        simpa [Dk.spent, E1.out, e, HO.out] using this
      · have b2 : decide (0 < D.fuse) = false := by simpa using hp
        have hm : Hid (D.fuse = -1) := by show D.fuse = -1; omega
        clear hz hp
        go_enter Tryz.func64, Tryz.ntmps64
        go_wp2
        go_ret
        refine ⟨by rw [E1.out]; rfl, ?_, Only.refl _ _⟩
        rw [spent_idle D HO.out hm.out]; exact HD.out

set_option maxRecDepth 100000 in
theorem rwrite_ok (B br bP : Nat) (D : Dk) (i : Int) (s : ByteArray) (w : World) (h : RDiskAt w B br bP D) (hs : s.size ≤ 9223372036854775807) :
    Calls Tryz.prog 39 #[.pointer (some ⟨br, 0, none⟩), .int .i64 i, .string s] w fun e w' => e = .returned (.int .i64 (D.writeCode i s)) ∧ RDiskAt w' B br bP (D.write i s) ∧ Only [br, bP] w w' := by
  obtain ⟨c0, _, _, _⟩ := h.cells
  by_cases h1 : i < 0
  · have b1 : decide (i < 0) = true := by simpa using h1
    have hc : i < 0 ∨ (D.now.length : Int) ≤ i ∨ 80 < s.size := .inl h1
    have e1 : Hid (D.writeCode i s = 2) := if_pos hc
    have e2 : Hid (D.write i s = D) := if_pos hc
    have HD := Lib.hid h
    clear h hc h1
    go_enter Tryz.func39, Tryz.ntmps39
    go_wp2
    go_ret
    exact ⟨by rw [e1.out]; rfl, by rw [e2.out]; exact HD.out, Only.refl _ _⟩
  have b1 : decide (i < 0) = false := by simpa using h1
  by_cases h2 : (D.now.length : Int) ≤ i
  · have b2 : decide ((D.now.length : Int) ≤ i) = true := by simpa using h2
    have hc : i < 0 ∨ (D.now.length : Int) ≤ i ∨ 80 < s.size := .inr (.inl h2)
    have e1 : Hid (D.writeCode i s = 2) := if_pos hc
    have e2 : Hid (D.write i s = D) := if_pos hc
    have HD := Lib.hid h
    clear h hc h2 h1
    go_enter Tryz.func39, Tryz.ntmps39
    go_wp2
    go_ret
    exact ⟨by rw [e1.out]; rfl, by rw [e2.out]; exact HD.out, Only.refl _ _⟩
  have b2 : decide ((D.now.length : Int) ≤ i) = false := by simpa using h2
  by_cases h3 : 80 < s.size
  · have b3 : decide ((80 : Int) < s.size) = true := by simp; omega
    have hc : i < 0 ∨ (D.now.length : Int) ≤ i ∨ 80 < s.size := .inr (.inr h3)
    have e1 : Hid (D.writeCode i s = 2) := if_pos hc
    have e2 : Hid (D.write i s = D) := if_pos hc
    have HD := Lib.hid h
    clear h hc h2 h1 h3
    go_enter Tryz.func39, Tryz.ntmps39
    go_wp2
    go_ret
    exact ⟨by rw [e1.out]; rfl, by rw [e2.out]; exact HD.out, Only.refl _ _⟩
  have b3 : decide ((80 : Int) < s.size) = false := by simp; omega
  have hc : ¬ (i < 0 ∨ (D.now.length : Int) ≤ i ∨ 80 < s.size) := by omega
  have hdn := rdone_ok B br bP D w h
  obtain ⟨i, rfl⟩ := Int.eq_ofNat_of_zero_le (show 0 ≤ i by omega)
  have hi : i < D.now.length := by omega
  by_cases hd : D.dark = true
  · have e1 : Hid (D.writeCode i s = 8) := (if_neg hc).trans (if_pos hd)
    have e2 : Hid (D.write i s = D.spent) := (if_neg hc).trans (if_pos hd)
    rw [hd] at hdn
    clear h hc hd h1 h2 h3
    go_enter Tryz.func39, Tryz.ntmps39
    go_wp2_with fail
    refine hdn.mono ?_
    rintro e w1 ⟨rfl, hD1, hO⟩
    go_wp2
    go_ret
    exact ⟨by rw [e1.out]; rfl, by rw [e2.out]; exact hD1, hO.mono (by simp)⟩
  · have e1 : Hid (D.writeCode i s = 0) := (if_neg hc).trans (if_neg hd)
    have e2 : Hid (D.write i s = { D.spent with now := D.now.set i s }) := (if_neg hc).trans (if_neg hd)
    rw [Bool.not_eq_true] at hd
    rw [hd] at hdn
    clear h hc hd h1 h2 h3
    go_enter Tryz.func39, Tryz.ntmps39
    go_wp2_with fail
    refine hdn.mono ?_
    rintro e w1 ⟨rfl, hD1, hO⟩
    have d0 : w1.cell? ⟨br, 0, none⟩ = some (.slice (some ⟨bP, 0, none⟩) D.now.length D.now.length) := hD1.cells.1
    have dp : w1.cell? ⟨bP, i, none⟩ = some (.string (D.now.getD i ByteArray.empty)) := hD1.page i hi
    have fp : w1.frozen? ⟨bP, i, none⟩ = false := hD1.rows.frozen i
    go_wp2
    go_ret
    exact ⟨by rw [e1.out]; rfl, by rw [e2.out]; exact hD1.setNow i s, (hO.mono (by simp)).set_ (by simp) _⟩

set_option maxRecDepth 100000 in
theorem rfuse_ok (B br bP : Nat) (D : Dk) (k : Int) (w : World) (h : RDiskAt w B br bP D) (hk : k ≤ 9223372036854775807) :
    Calls Tryz.prog 37 #[.pointer (some ⟨br, 0, none⟩), .int .i64 k] w fun e w' => e = .returned (.tuple #[]) ∧ RDiskAt w' B br bP (D.fused k) ∧ Only [br, bP] w w' := by
  obtain ⟨_, c2, c3, fz⟩ := h.cells
  have f3 := fz 3
  have HD := Lib.hid h
  clear h fz
  by_cases hd : D.off = true
  · rw [hd] at c2
    have e1 : Hid (D.fused k = D) := if_pos hd
    clear hd
    go_enter Tryz.func37, Tryz.ntmps37
    go_wp2
    go_end0
    exact ⟨rfl, by rw [e1.out]; exact HD.out, Only.refl _ _⟩
  · have e1 : Hid (D.fused k = { D with fuse := max k (-1) }) := if_neg hd
    rw [Bool.not_eq_true] at hd
    rw [hd] at c2
    clear hd
    obtain ⟨m, hm⟩ : ∃ m, m = max k (-1) := ⟨_, rfl⟩
    rw [← hm] at e1
    have h1 : -1 ≤ m := by omega
    have h2 : m ≤ 9223372036854775807 := by omega
    have HM := Lib.hid hm
    clear hm
    go_enter Tryz.func37, Tryz.ntmps37
    go_wp2
    all_goals go_end0
    all_goals
      refine ⟨rfl, ?_, (Only.refl _ _).set_ (by simp) _⟩
      rw [e1.out]
      first | exact HD.out.setFuse m h1 h2 | (have := HM.out; rw [show m = k from by omega]; exact HD.out.setFuse k (by omega) (by omega)) | (have := HM.out; rw [show m = -1 from by omega]; exact HD.out.setFuse (-1) (by omega) (by omega)) | (have := HM.out; rw [← this]; exact HD.out.setFuse m h1 h2)
end Go.Proofs.YtkfdcccgpphcmaaGreatDoor
