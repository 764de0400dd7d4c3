/- The reference's Sync and Crash. -/
import Derived.Test.YtkfdcccgpphcmaaGreatDoorRefDisk2
namespace Go.Proofs.YtkfdcccgpphcmaaGreatDoor
open Go.RowKit Go.Shelf

theorem owns_base {w : World} {b b' : Nat} {e : TypeId} {size : Nat} {v : Value} {n : Nat} {xs : List Value} (h : w.ownsRow b e size v n xs) (hb : b' ≤ b) : w.ownsRow b' e size v n xs := by
  obtain ⟨h1, h2 | ⟨g, cap, cur, hv, hg, r⟩⟩ := h
  · exact ⟨h1, .inl h2⟩
  · exact ⟨h1, .inr ⟨g, cap, cur, hv, by omega, r⟩⟩
theorem grown_alloc {w w' : World} {o : Obj} {row : Option Nat} (h : (w.alloc o).grownBy w' row) (hr : ∀ k, row = some k → w.heap.size ≤ k) (row' : Option Nat) : w.grownBy w' row' :=
  ⟨h.os, h.tape, h.output, (by have := h.size; simp at this; omega), fun k hk _ => (h.block k (by simp; omega) (fun e => by have := hr k e.symm; omega)).trans (Below.heap_alloc _ _ _ hk)⟩

/-- The pages are safe behind a copy of all pages. -/
theorem RDiskAt.copied {w w1 : World} {B br bP : Nat} {D : Dk} (h : RDiskAt w B br bP D) {v : Value} (hg : w.grownBy w1 none) (hown : w1.ownsRow w.heap.size 9 1 v D.now.length (strs D.now)) :
    RDiskAt (w1.setCell ⟨br, 1, none⟩ v) B br bP { D with safe := D.now } := by
  obtain ⟨g, cap, hb, hs, hne⟩ := h.safe
  have hbp : br ≠ bP := Blk.ne_ hb h.rows (by decide)
  obtain ⟨g', cap', rfl, hg1, hg2⟩ := hown.form (by have := h.lo; omega)
  have hlb := hb.lt
  have hlp := h.rows.lt
  have hb1 : Blk w1 br _ _ := hb.grown hg (by simp)
  have hp1 : Blk w1 bP _ _ := h.rows.grown hg (by simp)
  have hB := h.b1
  exact ⟨⟨g', cap', hb1.set_ 1 _, ownsRow_setCell_other (owns_base hown (by omega)) (by simp [Value.ownBlock]; omega) _, by omega⟩, hp1.far (by simpa using hbp.symm) _, rfl, h.lo, h.hi, h.flo, h.fhi, h.b1, h.b2⟩

set_option maxRecDepth 100000 in
theorem rsync_ok (B br bP : Nat) (D : Dk) (w : World) (h : RDiskAt w B br bP D) :
    Calls Tryz.prog 40 #[.pointer (some ⟨br, 0, none⟩)] w fun e w' => e = .returned (.int .i64 D.code) ∧ RDiskAt w' B br bP D.synced ∧ Only [br, bP] w w' := by
  have hdn := rdone_ok B br bP D w h
  have hhi := h.hi
  have hlo := h.lo
  obtain ⟨i0, hi, hz0, hz1, hz2⟩ := info_parts infoStr
  clear h
  by_cases hd : D.dark = true
  · have e1 : Hid (D.code = 8) := if_pos hd
    have e2 : Hid (D.synced = D.spent) := if_pos hd
    rw [hd] at hdn
    clear hd
    go_enter Tryz.func40, Tryz.ntmps40
    go_wp2_with fail
    refine hdn.mono ?_
    rintro e w1 ⟨rfl, hD1, hO⟩
    go_wp2
    go_ret
    exact ⟨by rw [e1.out]; rfl, by rw [e2.out]; exact hD1, hO.mono (by simp)⟩
  · have e1 : Hid (D.code = 0) := if_neg hd
    have e2 : Hid (D.synced = { D.spent with safe := D.now }) := if_neg hd
    rw [Bool.not_eq_true] at hd
    rw [hd] at hdn
    clear hd
    go_enter Tryz.func40, Tryz.ntmps40
    go_wp2_with fail
    refine hdn.mono ?_
    rintro e w1 ⟨rfl, hD1, hO⟩
    have d0 : w1.cell? ⟨br, 0, none⟩ = some (.slice (some ⟨bP, 0, none⟩) D.now.length D.now.length) := hD1.cells.1
    have hbl : br < w1.heap.size := by obtain ⟨_, _, hb, _⟩ := hD1.safe; exact hb.lt
    have hpl : bP < w1.heap.size := hD1.rows.lt
    have hb1 := hD1.b1
    go_wp2_with (at_builtin; refine wpList_append_own _ rfl _ _ 22 rfl w1.heap.size 9 i0 (.string ⟨#[]⟩) 1 16 Tryz.underlying22 hi hz0 hz1 hz2 rfl (by decide) _ _ _ rfl (World.ownsRow_lit w1 #[] 0 (Nat.le_refl _) (by decide) rfl) ⟨bP, 0, none⟩ D.now.length D.now.length (strs D.now) rfl (by simp [strs]) ?c1 ?c2 ?c3 ?c4 ?c5 ?_)
    case c1 =>
      intro j u hj
      have hadd : (⟨bP, 0, none⟩ : Addr).add j = ⟨bP, j, none⟩ := by unfold Addr.add; split <;> simp_all
      rw [hadd, World.cell?_alloc_past _ _ _ hpl, hD1.rows.cell j]
      rw [List.getElem?_toArray]; exact hj
    case c2 => intro u hu; simp [strs] at hu; obtain ⟨a, _, rfl⟩ := hu; rfl
    case c3 => unfold maxLen; omega
    case c4 => omega
    case c5 => simp
    intro v' w2 hown' hgrow _
    have hgr := grown_alloc hgrow (fun k e => by cases e; exact Nat.le_refl _) none
    have hDc := hD1.copied hgr hown'
    have s1 : w2.cell? ⟨br, 1, none⟩ = w1.cell? ⟨br, 1, none⟩ := World.cell?_of_block (w := w1) (hgr.block br hbl (by simp))
    have s2 : ∃ y, w1.cell? ⟨br, 1, none⟩ = some y := by obtain ⟨_, _, hb, _⟩ := hD1.safe; exact ⟨_, hb.cell 1⟩
    obtain ⟨y, s2⟩ := s2
    have s3 : w2.cell? ⟨br, 1, none⟩ = some y := s1.trans s2
    have s4 : w2.frozen? ⟨br, 1, none⟩ = false := (World.frozen?_of_block (w := w1) (hgr.block br hbl (by simp))).trans (hD1.cells.2.2.2 1)
    have hO2 : Only [br, bP] w w2 := (hO.mono (by simp)).trans ⟨hgr.os, hgr.tape, hgr.output, hgr.size, fun k hk _ => hgr.block k hk (by simp)⟩
    obtain ⟨g', cap', rfl, _, _⟩ := hown'.form (by omega)
    have HDc := Lib.hid hDc
    clear hDc s1 s2 hown' hgrow
    go_wp2
    go_ret
    exact ⟨by rw [e1.out]; rfl, by rw [e2.out]; exact HDc.out, hO2.set_ (by simp) _⟩
end Go.Proofs.YtkfdcccgpphcmaaGreatDoor
