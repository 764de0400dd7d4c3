/- Works opened on a blank disk. -/
import Derived.Test.YtkfdcccgpphcmaaGreatDoorShop
import Derived.Test.YtkfdcccgpphcmaaGreatDoorBegin
import Derived.Test.YtkfdcccgpphcmaaGreatDoorNewDisk
namespace Go.Proofs.YtkfdcccgpphcmaaGreatDoor
open Go.RowKit Go.Shelf

theorem begun_state (w : World) : StateAt 0 (begun w) (w.heap.size + 2) St.begin := by
  have h1 : (begun w).ownsMap Tryz.prog 9 heldR w.heap.size 0 (gD []) := by
    have := (((World.ownsMap_made w Tryz.prog 9 heldR).alloc (Obj.map #[] 0)).alloc (Obj.cells #[.slice none 0 0, .map (some w.heap.size), .map (some (w.heap.size + 1)), .slice none 0 0, .slice none 0 0] 105))
    exact this
  have h2 : (begun w).ownsMap Tryz.prog 9 heldR (w.heap.size + 1) 0 (pD [] []) := by
    have := ((World.ownsMap_made (w.alloc (Obj.map #[] 0)) Tryz.prog 9 heldR).alloc (Obj.cells #[.slice none 0 0, .map (some w.heap.size), .map (some (w.heap.size + 1)), .slice none 0 0, .slice none 0 0] 105))
    rw [World.size_alloc] at this
    exact this
  exact ⟨_, w.heap.size, w.heap.size + 1, [], _, _, St.begin_ok, begun_blk w, Nat.zero_le _, Nat.zero_le _, Nat.zero_le _, own_zero _ _ _, h1, rfl, h2, fun i v p h => by simp at h, rfl, own_zero _ _ _⟩

set_option maxRecDepth 100000 in
set_option maxHeartbeats 800000 in
theorem read_blank {B : Nat} (w : World) (hB : Base B w) (bw bd bp bs : Nat) (D : Dk) (A : Option Addr) (c : Nat) (safe : Int) (hw : WorksAt w bw bd bs A 0 c safe false) (hd : DiskAt w bd bp D) (h0 : D.now[0]? = some ⟨#[]⟩) (hoff : D.off = false) :
    Calls Tryz.prog 49 #[.pointer (some ⟨bw, 0, none⟩)] w fun e w' => e = .returned (.int .i64 0) ∧ Below w.heap.size w w' := by
  have k0 : w.cell? ⟨bw, 0, none⟩ = some (.pointer (some ⟨bd, 0, none⟩)) := Blk.cell hw 0
  have d0 : w.cell? ⟨bd, 0, none⟩ = some (.slice (some ⟨bp, 0, none⟩) D.now.length D.now.length) := hd.head.cell 0
  have hlo := hd.lo
  have hhi := hd.hi
  have hr := read_ok bd bp D 0 w hd
  have hno : ¬ ((0 : Int) < 0 ∨ (D.now.length : Int) ≤ 0) := by omega
  rw [show D.read 0 = ⟨#[]⟩ from by rw [Dk.read, if_neg hno, if_neg (by rw [hoff]; decide), List.getD, show (0 : Int).toNat = 0 from rfl, h0]; rfl, show D.readCode 0 = 0 from by rw [Dk.readCode, if_neg hno, if_neg (by rw [hoff]; decide)]] at hr
  have hp : Lib.hasPrefix (⟨#[]⟩ : ByteArray).data.toList (pageOf 0 ⟨#[]⟩).data.toList = false := by
    have h1 : 1 ≤ (pageOf 0 ⟨#[]⟩).size := by
      unfold pageOf
      rw [append_size, append_size]
      have : (⟨#[32]⟩ : ByteArray).size = 1 := rfl
      omega
    rw [Lib.size_eq] at h1
    unfold Lib.hasPrefix
    generalize (pageOf 0 ⟨#[]⟩).data.toList = l at h1
    cases l with
    | nil => simp at h1
    | cons a r => rfl
  have hpg := paged_any 0 (by omega) ⟨#[]⟩ (by decide) w hB
  have hcut := fun W => Any.strings_CutPrefix Tryz.lays103 ⟨#[]⟩ (pageOf 0 ⟨#[]⟩) W
  rw [hp] at hcut
  have HPG := Lib.hid hpg
  have HCUT := Lib.hid hcut
  clear hp hpg hcut hno
  go_enter Tryz.func49, Tryz.ntmps49
  go_wp2_with fail
  refine wp_loop_rounds 1 ?_
  rw [rounds_succ]
  go_wp2_with fail
  refine hr.mono ?_
  rintro e w' ⟨rfl, rfl⟩
  go_wp2_with fail
  refine HPG.out.mono ?_
  rintro e w1 ⟨rfl, hb1⟩
  have hcutx := HCUT.out w1
  change Calls Tryz.prog 67 _ _ _ at hcutx
  go_wp2_with fail
  refine hcutx.mono ?_
  rintro e w' ⟨rfl, rfl⟩
  go_wp2_with fail
  go_ret
  exact ⟨rfl, hb1⟩

set_option maxRecDepth 100000 in
set_option maxHeartbeats 800000 in
theorem clean_blank (w : World) (bw bd bp bs : Nat) (D : Dk) (A : Option Addr) (c : Nat) (safe : Int) (hw : WorksAt w bw bd bs A 0 c safe false) (hd : DiskAt w bd bp D) (h0 : ∀ s, s ∈ D.now → s = ⟨#[]⟩) :
    Calls Tryz.prog 50 #[.pointer (some ⟨bw, 0, none⟩)] w fun e w' => e = .returned (.int .i64 0) ∧ Below w.heap.size w w' := by
  have k0 : w.cell? ⟨bw, 0, none⟩ = some (.pointer (some ⟨bd, 0, none⟩)) := Blk.cell hw 0
  have k2 : w.cell? ⟨bw, 2, none⟩ = some (.slice A 0 c) := Blk.cell hw 2
  have d0 : w.cell? ⟨bd, 0, none⟩ = some (.slice (some ⟨bp, 0, none⟩) D.now.length D.now.length) := hd.head.cell 0
  have hlo := hd.lo
  have hhi := hd.hi
  have HD := Lib.hid hd
  have H0 := Lib.hid h0
  clear hd h0
  go_enter Tryz.func50, Tryz.ntmps50
  go_wp2_with fail
  go_loopw [3, 4] (fun f i wr => ∃ k : Nat, k ≤ D.now.length ∧ i = .int .i64 k ∧ f = .bool false ∧ w = wr) (fun _ i _ => D.now.length - (intOf i).toNat)
  case atStart => exact ⟨0, Nat.zero_le _, rfl, rfl, rfl⟩
  case round =>
    obtain ⟨k, hk, rfl, rfl, rfl⟩ := hrel
    by_cases hlt : k < D.now.length
    · have hcell : w.cell? ⟨bp, k * 2, none⟩ = some (.string ⟨#[]⟩) := by
        rw [HD.out.rows.cell (k * 2), List.getElem?_toArray, both_now _ _ k HD.out.len hlt]
        have : D.now.getD k ByteArray.empty = ⟨#[]⟩ := by
          rw [List.getD_eq_getElem?_getD, List.getElem?_eq_getElem hlt]
          exact H0.out _ (List.getElem_mem hlt)
        rw [this]
      go_wp2_with fail
      go_roundw
      case rel => exact ⟨k + 1, by omega, by go_num, by first | rfl | trivial, by first | rfl | trivial⟩
      case measure => simp [intOf]; omega
    · obtain rfl : k = D.now.length := by omega
      go_wp2_with fail
      go_ret
      exact ⟨rfl, Below.refl _ _⟩

set_option maxRecDepth 100000 in
set_option maxHeartbeats 800000 in
theorem open_blank {B : Nat} (w : World) (hB : Base B w) (bd bp : Nat) (D : Dk) (hd : DiskAt w bd bp D) (hb1 : B ≤ bd) (hb2 : B ≤ bp) (h0 : ∀ s, s ∈ D.now → s = ⟨#[]⟩) (hoff : D.off = false) :
    Calls Tryz.prog 24 #[.pointer (some ⟨bd, 0, none⟩)] w fun e w' => ∃ bw bs, e = .returned (.tuple #[.pointer (some ⟨bw, 0, none⟩), .int .i64 0]) ∧ Shop B w' bw bd bp bs D St.begin [] none 0 0 false ∧ Below w.heap.size w w' := by
  have hn := none_disk bd bp D w hd
  have h00 : D.now[0]? = some ⟨#[]⟩ := by
    have := hd.lo
    rw [List.getElem?_eq_getElem (by omega)]
    rw [h0 _ (List.getElem_mem (by omega))]
  go_enter Tryz.func24, Tryz.ntmps24
  go_wp2_with fail
  refine hn.mono ?_
  rintro e w' ⟨rfl, rfl⟩
  go_wp2_with fail
  refine (begin_ok w).mono ?_
  rintro e w1 ⟨rfl, rfl⟩
  have hO1 : Below w.heap.size w (begun w) := (begun_only w).below
  have hs1 := begun_state w
  have hsz : (begun w).heap.size = w.heap.size + 3 := by simp [begun]
  obtain ⟨w2, hw2⟩ : ∃ w2, w2 = (begun w).alloc (.cells #[.pointer (some ⟨bd, 0, none⟩), .pointer (some ⟨w.heap.size + 2, 0, none⟩), .slice none 0 0, .int .i64 0, .bool false] 65) := ⟨_, rfl⟩
  have hO2 : Below w.heap.size w w2 := hw2 ▸ hO1.alloc hO1.size _
  have hk2 : WorksAt w2 (begun w).heap.size bd (w.heap.size + 2) none 0 0 0 false := hw2 ▸ Blk.new _ _ _
  have hs2 : StateAt 0 w2 (w.heap.size + 2) St.begin := hs1.below (hw2 ▸ (Below.refl _ _).alloc (Nat.le_refl _) _)
  have hle : w.heap.size ≤ (begun w).heap.size := by omega
  have HW2 := Lib.hid hw2
  generalize hbw : (begun w).heap.size = bw at hk2 hle HW2
  clear hw2 hO1 hs1 hsz hn
  have hd2 : DiskAt w2 bd bp D := ⟨hd.head.below hO2 hd.head.lt, hd.rows.below hO2 hd.rows.lt, hd.len, hd.lo, hd.hi, hd.flo, hd.fhi⟩
  have hsh : Shop B w2 bw bd bp (w.heap.size + 2) D St.begin [] none 0 0 false := ⟨hk2, hd2, hs2, own_zero _ _ _, Nat.le_trans hB.le hle, hb1, hb2, Nat.zero_le _⟩
  have HS := Lib.hid hsh
  have HO2 := Lib.hid hO2
  have HB2 := Lib.hid (hB.on hO2)
  have H0 := Lib.hid h0
  have H00 := Lib.hid h00
  have HBW := Lib.hid hbw
  clear hsh hd2 hs2 hk2 hO2 h0 h00 hbw hd
  go_wp2_with fail
  rw [← HW2.out, HBW.out]
  refine (read_blank w2 HB2.out bw bd bp (w.heap.size + 2) D none 0 0 HS.out.wk HS.out.dk H00.out hoff).mono ?_
  rintro e w3 ⟨rfl, hb3⟩
  have HS3 := Lib.hid (HS.out.on hb3)
  have HO3 := Lib.hid (HO2.out.trans (hb3.mono HO2.out.size))
  clear hb3
  go_wp2_with fail
  refine (clean_blank w3 bw bd bp (w.heap.size + 2) D none 0 0 HS3.out.wk HS3.out.dk H0.out).mono ?_
  rintro e w4 ⟨rfl, hb4⟩
  have hs4 := HS3.out.on hb4
  have k2 : w4.cell? ⟨bw, 2, none⟩ = some (.slice none 0 0) := Blk.cell hs4.wk 2
  have k3 : w4.cell? ⟨bw, 3, none⟩ = some (.int .i64 0) := Blk.cell hs4.wk 3
  have f3 := Blk.frozen hs4.wk 3
  have HS4 := Lib.hid hs4
  have HO4 := Lib.hid (HO3.out.trans (hb4.mono HO3.out.size))
  clear hb4 hs4
  go_wp2_with fail
  go_ret2
  refine ⟨bw, w.heap.size + 2, rfl, ?_, HO4.out.setCell hle _⟩
  have hO : Only [bw] w4 (w4.setCell ⟨bw, 3, none⟩ (.int .i64 0)) := (Only.refl _ _).set_ (by simp) _
  have h4 := HS4.out
  have n1 : bd ≠ bw := Blk.ne_ h4.dk.head h4.wk (by decide)
  have n2 : bp ≠ bw := Blk.ne_ h4.dk.rows h4.wk (by decide)
  exact ⟨h4.wk.set_ 3 _, ⟨hO.blk h4.dk.head (by simpa using n1), hO.blk h4.dk.rows (by simpa using n2), h4.dk.len, h4.dk.lo, h4.dk.hi, h4.dk.flo, h4.dk.fhi⟩, h4.st.only hO (fun g hg => by simp at hg; subst hg; exact ⟨_, _, h4.wk, by simp⟩), own_zero _ _ _, h4.b1, h4.b2, h4.b3, h4.ln⟩
end Go.Proofs.YtkfdcccgpphcmaaGreatDoor
