/- The walk of WorksNobody, out of the contract of awake. -/
import Derived.Test.YtkfdcccgpphcmaaGreatDoorNobody
import Derived.Test.YtkfdcccgpphcmaaGreatDoorDisksRun
namespace Go.Proofs.YtkfdcccgpphcmaaGreatDoor
open Go.RowKit Go.Shelf

def ListsIn (w0 : World) (kv : Value) : Prop :=
  ∀ W, Below w0.heap.size w0 W → Calls Tryz.prog 23 #[kv] W fun e w' => ∃ v, e = .returned v ∧ Below W.heap.size W w'

/-- The two receivers, as the statement's list has them. -/
theorem two_cells (w : World) (b r : Nat) (t : TypeId) (h : Blk w r t #[.pointer none, .pointer (some ⟨b, 0, none⟩)]) (k : Nat) (hk : k < 2) : w.cell? ⟨r, 0 + k * 1, none⟩ = some (if k = 0 then .pointer none else .pointer (some ⟨b, 0, none⟩)) := by
  match k, hk with
  | 0, _ => exact Blk.cell h 0
  | 1, _ => exact Blk.cell h 1

set_option maxRecDepth 100000 in
set_option maxHeartbeats 3200000 in
theorem run_nobody (w : World) (line : ByteArray) (n : Int) (kv : Value) (hL : ListsIn w kv) (hA : AwakeIn w) :
    Calls Tryz.prog 6 #[.string line, .int .i64 n, kv] w fun e w' => e = .returned (.bool true) ∧ Below w.heap.size w w' := by
  have HA := Lib.hid hA
  have HL := Lib.hid hL
  clear hA hL
  go_enter Tryz.func6, Tryz.ntmps6
  go_wp2_with fail
  go_loopw [8, 9, 10, 11, 12, 23] (fun _ _ _ _ _ i wr => ∃ (k : Nat), k ≤ 2 ∧ i = .int .i64 k ∧ Hid (Below w.heap.size w wr) ∧ Hid (Blk wr w.heap.size 55 #[.slice none 0 0, .bool false, .int .i64 0]) ∧ Hid (Blk wr (w.heap.size + 1) 24 #[.pointer none, .pointer (some ⟨w.heap.size, 0, none⟩)])) (fun _ _ _ _ _ i _ => 2 - (intOf i).toNat)
  case atStart =>
    refine ⟨0, by omega, rfl, Lib.hid (((Below.refl _ _).alloc (Nat.le_refl _) _).alloc (by simp) _), Lib.hid ((Blk.new _ _ _).alloc _), Lib.hid ?_⟩
    have := Blk.new (w.alloc (.cells #[.slice none 0 0, .bool false, .int .i64 0] 55)) 24 #[.pointer none, .pointer (some ⟨w.heap.size, 0, none⟩)]
    simpa using this
  case round =>
    obtain ⟨k, hk, rfl, hB, hZ, hR⟩ := hrel
    by_cases hlt : k < 2
    · obtain ⟨dv, hdv⟩ : ∃ dv, dv = (if k = 0 then .pointer none else .pointer (some ⟨w.heap.size, 0, none⟩) : Value) := ⟨_, rfl⟩
      have c0 : wr.cell? ⟨w.heap.size + 1, k, none⟩ = some dv := by rw [hdv]; simpa using two_cells _ _ _ _ hR.out k hlt
      have hno : ∀ W', Below wr.heap.size wr W' → NoDisk W' dv := by
        intro W' hb
        rw [hdv]
        by_cases h0 : k = 0
        · rw [if_pos h0]; exact none_nil W'
        · rw [if_neg h0]
          exact none_zero _ W' ((hb.cell (p := ⟨_, 0, none⟩) hZ.out.lt).trans (Blk.cell hZ.out 0))
      have HN := Lib.hid hno
      clear hno hdv
      have hl := HL.out wr hB.out
      have HLL := Lib.hid hl
      have hf := no_fuse wr dv n (HN.out _ (Below.refl _ _))
      clear hl
      go_wp2_with fail
      refine hf.mono ?_
      rintro e w1 ⟨rfl, rfl⟩
      clear hf
      go_wp2_with fail
      refine HLL.out.mono ?_
      rintro e w2 ⟨lv, rfl, hb2⟩
      have hcr := no_crash w2 dv lv (HN.out _ hb2)
      have hrd := no_read w2 dv n (HN.out _ hb2)
      have hop := no_open w2 dv (HN.out _ hb2)
      have hwr := no_write w2 dv n line (HN.out _ hb2)
      have hsy := no_sync w2 dv (HN.out _ hb2)
      have HB2 := Lib.hid hb2
      clear hb2
      go_wp2_with fail
      refine hcr.mono ?_
      rintro e w3 ⟨rfl, rfl⟩
      go_wp2_with fail
      refine hrd.mono ?_
      rintro e w3 ⟨rfl, rfl⟩
      go_wp2_with fail
      refine hop.mono ?_
      rintro e w3 ⟨rfl, rfl⟩
      go_wp2_with fail
      refine hwr.mono ?_
      rintro e w3 ⟨rfl, rfl⟩
      go_wp2_with fail
      refine hsy.mono ?_
      rintro e w3 ⟨rfl, rfl⟩
      go_wp2_with fail
      go_roundw
      case rel => exact ⟨k + 1, by omega, by go_num, Lib.hid (hB.out.trans (HB2.out.mono hB.out.size)), Lib.hid (hZ.out.below HB2.out hZ.out.lt), Lib.hid (hR.out.below HB2.out hR.out.lt)⟩
      case measure => simp [intOf]; omega
    · have hk2 : (k : Int) = 2 := by omega
      rw [hk2]
      clear hlt hk hk2
      go_wp2_with fail
      clear hZ hR
      rename World => wz
      go_loopw [14, 15, 16, 17, 18, 76] (fun _ _ _ _ _ i ws => ∃ (k : Nat), k ≤ 2 ∧ i = .int .i64 k ∧ Hid (Below w.heap.size w ws) ∧ Hid (Blk ws wz.heap.size 65 #[.pointer none, .pointer none, .slice none 0 0, .int .i64 0, .bool false]) ∧ Hid (Blk ws (wz.heap.size + 1) 23 #[.pointer none, .pointer (some ⟨wz.heap.size, 0, none⟩)])) (fun _ _ _ _ _ i _ => 2 - (intOf i).toNat)
      case atStart =>
        have hs := hB.out.size
        refine ⟨0, by omega, rfl, Lib.hid ((hB.out.alloc hs _).alloc (by simp; omega) _), Lib.hid ((Blk.new _ _ _).alloc _), Lib.hid ?_⟩
        have := Blk.new (wz.alloc (.cells #[.pointer none, .pointer none, .slice none 0 0, .int .i64 0, .bool false] 65)) 23 #[.pointer none, .pointer (some ⟨wz.heap.size, 0, none⟩)]
        simpa using this
      case round =>
        obtain ⟨k, hk, rfl, hB, hZ, hR⟩ := hrel
        skip
        by_cases hlt : k < 2
        · obtain ⟨dv, hdv⟩ : ∃ dv, dv = (if k = 0 then .pointer none else .pointer (some ⟨wz.heap.size, 0, none⟩) : Value) := ⟨_, rfl⟩
          have c0 : wr.cell? ⟨wz.heap.size + 1, k, none⟩ = some dv := by rw [hdv]; simpa using two_cells _ _ _ _ hR.out k hlt
          have hno : NoWorks wr dv := by
            rw [hdv]
            by_cases h0 : k = 0
            · rw [if_pos h0]; exact noWorks_nil wr
            · rw [if_neg h0]
              exact noWorks_zero _ wr (Blk.cell hZ.out 1)
          clear hdv
          have hdo := no_do wr dv line hno
          have hak := no_ask wr dv line hno
          have hco := no_commit wr dv hno
          have hjo := no_journal wr dv hno
          have hst := no_state wr dv hno
          clear hno
          go_wp2_with fail
          refine hdo.mono ?_
          rintro e w3 ⟨rfl, rfl⟩
          go_wp2_with fail
          refine hak.mono ?_
          rintro e w3 ⟨rfl, rfl⟩
          go_wp2_with fail
          refine hco.mono ?_
          rintro e w3 ⟨rfl, rfl⟩
          go_wp2_with fail
          refine hjo.mono ?_
          rintro e w3 ⟨rfl, rfl⟩
          go_wp2_with fail
          refine hst.mono ?_
          rintro e w3 ⟨rfl, rfl⟩
          go_wp2_with fail
          go_roundw
          case rel => exact ⟨k + 1, by omega, by go_num, hB, hZ, hR⟩
          case measure => simp [intOf]; omega
        · have hk2 : k = 2 := by omega
          subst hk2
          clear hlt hk
          go_wp2_with fail
          refine (HA.out _ hB.out).mono ?_
          rintro e w2 ⟨rfl, hb2⟩
          go_wp2_with fail
          go_ret
          exact ⟨rfl, hB.out.trans (hb2.mono hB.out.size)⟩
end Go.Proofs.YtkfdcccgpphcmaaGreatDoor
