/- What the law of the disks does besides: copies of the pages to keep, the two disks, the comparison. -/
import Derived.Test.YtkfdcccgpphcmaaGreatDoorCrash
import Derived.Test.YtkfdcccgpphcmaaGreatDoorNewDisk
import Derived.Test.YtkfdcccgpphcmaaGreatDoorShelf
import Derived.Deep.RegionHeld3
import Derived.Shelf.Slices.Empties2
import Derived.Shelf.Slices.Clone
namespace Go.Proofs.YtkfdcccgpphcmaaGreatDoor
open Go.RowKit Go.Shelf

theorem list_nil (c : Nat) (w : World) :
    Calls Tryz.prog 23 #[.slice none 0 c] w fun e w' => e = .returned (.slice none 0 0) ∧ w = w' := by
  go_enter Tryz.func23, Tryz.ntmps23
  go_wp2_with fail
  refine (Any.slices_Clone_int_nil Tryz.laysNm215 _ c w).mono ?_
  rintro e w1 ⟨rfl, rfl⟩
  go_wp2
  go_ret
  exact ⟨rfl, rfl⟩

theorem list_zero (a : Addr) (c : Nat) (w : World) :
    Calls Tryz.prog 23 #[.slice (some a) 0 c] w fun e w' => ∃ A c', e = .returned (.slice A 0 c') ∧ Below w.heap.size w w' := by
  go_enter Tryz.func23, Tryz.ntmps23
  go_wp2_with fail
  rw [show (min (0 : Int) 40).toNat = 0 from by decide]
  refine (Any.slices_Clone_int_zero Tryz.laysNm215 a c w).mono ?_
  rintro e w1 ⟨v, rfl, hown, _, hB⟩
  obtain ⟨A, c', rfl⟩ : ∃ A c', v = .slice A 0 c' := by
    rcases hown.2 with ⟨rfl, _⟩ | ⟨g, cap, cur, rfl, _⟩
    · exact ⟨_, _, rfl⟩
    · exact ⟨_, _, rfl⟩
  go_wp2
  go_ret
  exact ⟨A, c', rfl, hB⟩

theorem list_some (b o n c : Nat) (zs : List Int) (w : World) (hn : zs.length = n) (hnc : n ≤ c) (hbig : c ≤ 9223372036854775807) (hc : ∀ j, j < n → w.cell? ⟨b, o + j, none⟩ = some (.int .i64 (zs.getD j 0))) :
    Calls Tryz.prog 23 #[.slice (some ⟨b, o, none⟩) n c] w fun e w' => ∃ A c', e = .returned (.slice A (min n 40) c') ∧ (∀ M, (∀ g, g ∈ M → g < w.heap.size) → IntsIn w' M A (min n 40) (zs.take 40)) ∧ Below w.heap.size w w' := by
  have hm : (min (n : Int) 40).toNat = min n 40 := by omega
  go_enter Tryz.func23, Tryz.ntmps23
  go_wp2_with fail
  refine (Any.slices_Clone_int Tryz.laysNm215 b o (min n 40) c zs w (by omega) (by omega) (fun j hj => hc j (by omega))).mono ?_
  rintro e w1 ⟨v, rfl, hown, hne, hB⟩
  have HP : ∃ A c', v = .slice A (min n 40) c' ∧ (∀ M, (∀ g, g ∈ M → g < w.heap.size) → IntsIn w1 M A (min n 40) (zs.take 40)) := by
    have hlen : (zs.take 40).length = min n 40 := by simp [hn]; omega
    rcases Nat.eq_zero_or_pos n with h0 | hp
    · subst h0
      obtain rfl : zs = [] := List.eq_nil_of_length_eq_zero hn
      rcases hown.2 with ⟨h2, _⟩ | ⟨g, cap, cur, rfl, _⟩
      · exact absurd h2 (by simpa using hne)
      · exact ⟨_, _, rfl, fun M hM => ⟨by simp, fun h => absurd h (by simp)⟩⟩
    · obtain ⟨g, cap, rfl, h1, h2⟩ := hown.form (by omega)
      refine ⟨_, _, rfl, fun M hM => ⟨hlen, fun _ => ⟨g, rfl, fun W hW j hj => ?_⟩⟩⟩
      have hgl : g < w1.heap.size := by
        rcases hown.2 with ⟨_, h0⟩ | ⟨g', cap', cur, hv, _, hh, _⟩
        · omega
        · cases hv; exact (Array.getElem?_eq_some_iff.1 hh).1
      rw [hW.cell hgl (fun hm => by have := hM g hm; omega), hown.cellAt j (by omega), List.getElem?_map, List.getElem?_take, if_pos hj]
      simp [List.getD, show j < zs.length by omega, show j < 40 by omega]
  obtain ⟨A, c', rfl, HI⟩ := HP
  clear hown hne
  go_wp2
  go_ret
  exact ⟨A, c', rfl, HI, hB⟩

/-- The disk and the reference's, with the same pages, apart from each other. -/
structure Twins (w : World) (B bd bp br bP : Nat) (D : Dk) : Prop where
  d : DiskAt w bd bp D
  x : RDiskAt w B br bP D
  n1 : bd ∉ [br, bP]
  n2 : bp ∉ [br, bP]
  b1 : B ≤ bd
  b2 : B ≤ bp

theorem RDiskAt.keep {w w' : World} {B br bP : Nat} {D : Dk} (h : RDiskAt w B br bP D) {M : List Nat} (k : Only M w w') (h1 : br ∉ M) (h2 : bP ∉ M) (hs : ∀ g, g ∈ M → ∃ t c, Blk w g t c ∧ t ≠ 9) : RDiskAt w' B br bP D := by
  obtain ⟨g, cap, hb, hw, hne⟩ := h.safe
  have hlo := h.lo
  have hg : g < w.heap.size ∧ g ∉ M := by
    rcases hw.2 with ⟨_, h0⟩ | ⟨g', cap', cur, hv, _, hh, _⟩
    · omega
    · cases hv
      refine ⟨(Array.getElem?_eq_some_iff.1 hh).1, fun hm => ?_⟩
      obtain ⟨t, c, hb', hne'⟩ := hs g hm
      exact Blk.ne_ (t := 9) hh hb' (Ne.symm hne') rfl
  have hw' : w'.ownsRow B 9 1 (.slice (some ⟨g, 0, none⟩) D.now.length cap) D.now.length (strs D.safe) := by
    refine ⟨hw.1, ?_⟩
    rcases hw.2 with h2 | ⟨g', cap', cur, hv, hB', hh, r⟩
    · exact .inl h2
    · cases hv
      exact .inr ⟨g, cap, cur, rfl, hB', (k.block g hg.1 hg.2).trans hh, r⟩
  exact ⟨⟨g, cap, k.blk hb h1, hw', hne⟩, k.blk h.rows h2, h.len, h.lo, h.hi, h.flo, h.fhi, h.b1, h.b2⟩

set_option maxRecDepth 100000 in
theorem disks_bad (n : Int) (w : World) (h : n < 1 ∨ 200 < n) :
    Calls Tryz.prog 14 #[.int .i64 n] w fun e w' => e = .returned (.tuple #[.pointer none, .pointer none, .bool true]) ∧ w = w' := by
  have h1 := newDisk_bad n w h
  have h2 := rnew_bad n w h
  clear h
  go_enter Tryz.func14, Tryz.ntmps14
  go_wp2_with fail
  refine h1.mono ?_
  rintro e w1 ⟨rfl, rfl⟩
  go_wp2_with fail
  refine h2.mono ?_
  rintro e w1 ⟨rfl, rfl⟩
  go_wp2_with fail
  go_ret3
  exact ⟨rfl, rfl⟩

set_option maxRecDepth 100000 in
theorem disks_ok (n : Nat) (w : World) (h1 : 1 ≤ n) (h2 : n ≤ 200) :
    Calls Tryz.prog 14 #[.int .i64 n] w fun e w' => ∃ bd bp br bP, e = .returned (.tuple #[.pointer (some ⟨bd, 0, none⟩), .pointer (some ⟨br, 0, none⟩), .bool true]) ∧ Twins w' w.heap.size bd bp br bP (Dk.new n) ∧ Below w.heap.size w w' := by
  go_enter Tryz.func14, Tryz.ntmps14
  go_wp2_with fail
  refine (newDisk_ok n w h1 h2).mono ?_
  rintro e w1 ⟨bd, bp, rfl, hD, hb1, hb2, hB⟩
  go_wp2_with fail
  refine (rnew_ok n w1 h1 h2).mono ?_
  rintro e w2 ⟨br, bP, rfl, hX, hB2⟩
  go_wp2_with fail
  go_ret3
  have hs := hB.size
  have l1 := hD.head.lt
  have l2 := hD.rows.lt
  have b1 := hX.b1
  have b2 := hX.b2
  refine ⟨bd, bp, br, bP, rfl, ⟨hD.keep (M := []) (Only.of_below hB2) (by simp) (by simp), ⟨?_, hX.rows, hX.len, hX.lo, hX.hi, hX.flo, hX.fhi, by omega, by omega⟩, by simp; omega, by simp; omega, hb1, hb2⟩, ?_⟩
  · obtain ⟨g, cap, hb, hw, hne⟩ := hX.safe
    exact ⟨g, cap, hb, owns_base hw hs, hne⟩
  · exact hB.trans (hB2.mono hs)

theorem read_at (D : Dk) (k : Nat) (h : k < D.now.length) : D.readCode k = (if D.off = true then 8 else 0) ∧ D.read k = (if D.off = true then ⟨#[]⟩ else D.now.getD k ByteArray.empty) := by
  have hc : ¬ ((k : Int) < 0 ∨ (D.now.length : Int) ≤ k) := by omega
  exact ⟨if_neg hc, (if_neg hc).trans (by rw [Int.toNat_natCast])⟩

set_option maxRecDepth 100000 in
set_option maxHeartbeats 1600000 in
theorem same_ok (B bd bp br bP : Nat) (D : Dk) (w : World) (h : Twins w B bd bp br bP D) :
    Calls Tryz.prog 16 #[.pointer (some ⟨bd, 0, none⟩), .pointer (some ⟨br, 0, none⟩)] w fun e w' => e = .returned (.bool true) ∧ w = w' := by
  have c0 : w.cell? ⟨br, 0, none⟩ = some (.slice (some ⟨bP, 0, none⟩) D.now.length D.now.length) := h.x.cells.1
  have c2 : w.cell? ⟨br, 2, none⟩ = some (.bool D.off) := h.x.cells.2.1
  have HR := Lib.hid (fun (i : Int) => read_ok bd bp D i w h.d)
  have HP := Lib.hid h.x.page
  have hhi := h.d.hi
  clear h
  go_enter Tryz.func16, Tryz.ntmps16
  go_wp2_with fail
  go_loop [5, 6, 7, 8, 14] (fun _ _ _ _ i => ∃ k : Nat, k ≤ D.now.length ∧ i = .int .i64 k) (fun _ _ _ _ i => D.now.length - (intOf i).toNat)
  case atStart => exact ⟨0, Nat.zero_le _, rfl⟩
  case round =>
    obtain ⟨k, hk, rfl⟩ := hrel
    by_cases hlt : k < D.now.length
    · have hr := HR.out k
      have cp := HP.out k hlt
      obtain ⟨q1, q2⟩ := read_at D k hlt
      rw [q1, q2] at hr
      clear q1 q2
      generalize D.now.getD k ByteArray.empty = p at cp hr
      cases ho : D.off
      · rw [ho] at c2
        rw [ho, if_neg (by decide), if_neg (by decide)] at hr
        clear ho
        go_wp2_with fail
        refine hr.mono ?_
        rintro e w1 ⟨rfl, rfl⟩
        go_wp2_with fail
        go_round
        case rel => exact ⟨k + 1, by omega, by go_num⟩
        case measure => simp [intOf]; omega
      · rw [ho] at c2
        rw [ho, if_pos rfl, if_pos rfl] at hr
        clear ho
        go_wp2_with fail
        refine hr.mono ?_
        rintro e w1 ⟨rfl, rfl⟩
        go_wp2_with fail
        go_round
        case rel => exact ⟨k + 1, by omega, by go_num⟩
        case measure => simp [intOf]; omega
    · obtain rfl : k = D.now.length := by omega
      go_wp2_with fail
      go_ret
      exact ⟨rfl, rfl⟩

/-- The disk after an act. -/
def Dk.acted (D : Dk) (kind n : Int) (s : ByteArray) (K : List Int) : Dk :=
  if kind = 3 then D.fused n else if kind = 4 then D.crashed K else if kind = 6 then D.write n s else if kind = 7 then D.synced else D

theorem Twins.mk' {w w1 w2 : World} {B bd bp br bP : Nat} {D D' : Dk} (h : Twins w B bd bp br bP D) (hd : DiskAt w1 bd bp D') (hx : RDiskAt w2 B br bP D') (hO : Only [br, bP] w1 w2) : Twins w2 B bd bp br bP D' :=
  ⟨hd.keep hO h.n1 h.n2, hx, h.n1, h.n2, h.b1, h.b2⟩
theorem Twins.mid {w w1 : World} {B bd bp br bP : Nat} {D : Dk} (h : Twins w B bd bp br bP D) (hO : Only [bd, bp] w w1) : RDiskAt w1 B br bP D := by
  have h1 := h.n1
  have h2 := h.n2
  simp at h1 h2
  refine h.x.keep hO (by simp; omega) (by simp; omega) ?_
  · intro g hg
    simp at hg
    rcases hg with rfl | rfl
    · exact ⟨_, _, h.d.head, by decide⟩
    · exact ⟨_, _, h.d.rows, by decide⟩

theorem Twins.keep {w w1 : World} {B bd bp br bP : Nat} {D : Dk} (h : Twins w B bd bp br bP D) (hO : Only [] w w1) : Twins w1 B bd bp br bP D :=
  ⟨h.d.keep hO (by simp) (by simp), h.x.keep hO (by simp) (by simp) (by simp), h.n1, h.n2, h.b1, h.b2⟩

/-- The blocks that a call on one of the disks leaves alone. -/
theorem Twins.lts {w : World} {B bd bp br bP : Nat} {D : Dk} (h : Twins w B bd bp br bP D) : bd < w.heap.size ∧ bp < w.heap.size ∧ br < w.heap.size ∧ bP < w.heap.size :=
  ⟨h.d.head.lt, h.d.rows.lt, (by obtain ⟨_, _, hb, _⟩ := h.x.safe; exact hb.lt), h.x.rows.lt⟩

theorem Dk.acted_3 (D : Dk) (n : Int) (s : ByteArray) (K : List Int) : D.acted 3 n s K = D.fused n := rfl
theorem Dk.acted_4 (D : Dk) (n : Int) (s : ByteArray) (K : List Int) : D.acted 4 n s K = D.crashed K := rfl
theorem Dk.acted_6 (D : Dk) (n : Int) (s : ByteArray) (K : List Int) : D.acted 6 n s K = D.write n s := rfl
theorem Dk.acted_7 (D : Dk) (n : Int) (s : ByteArray) (K : List Int) : D.acted 7 n s K = D.synced := rfl
theorem Dk.acted_other (D : Dk) (k n : Int) (s : ByteArray) (K : List Int) (h3 : k ≠ 3) (h4 : k ≠ 4) (h6 : k ≠ 6) (h7 : k ≠ 7) : D.acted k n s K = D := by simp [Dk.acted, h3, h4, h6, h7]

set_option maxRecDepth 100000 in
set_option maxHeartbeats 1600000 in
theorem touched_fuse (B bd bp br bP : Nat) (D : Dk) (n : Int) (s : ByteArray) (kv : Value) (w : World) (h : Twins w B bd bp br bP D) (hn : n ≤ 9223372036854775807) :
    Calls Tryz.prog 15 #[.pointer (some ⟨bd, 0, none⟩), .pointer (some ⟨br, 0, none⟩), .agg #[.int .i64 3, .int .i64 n, .string s, kv]] w fun e w' => e = .returned (.bool true) ∧ Twins w' B bd bp br bP (D.fused n) ∧ Only [bd, bp, br, bP] w w' := by
  have hl := Lib.hid h.lts
  obtain ⟨W, hW⟩ : ∃ W, W = w.alloc (.cells #[.int .i64 3, .int .i64 n, .string s, kv] 43) := ⟨_, rfl⟩
  have hO0 : Only [] w W := by rw [hW]; exact (Only.refl _ _).alloc _
  have hb0 : Blk W w.heap.size 43 #[.int .i64 3, .int .i64 n, .string s, kv] := by rw [hW]; exact Blk.new _ _ _
  have H := Lib.hid (h.keep hO0)
  have HW := Lib.hid hW
  clear h hW
  go_enter Tryz.func15, Tryz.ntmps15
  go_wp2_with fail
  rw [← HW.out]
  refine (fuse_ok bd bp D n W H.out.d hn).mono ?_
  rintro e w1 ⟨rfl, hd, hO⟩
  have hb1 := hO.blk hb0 (by have := hl.out; simp; omega)
  have k1 := hb1.cell 1
  go_wp2_with fail
  refine (rfuse_ok B br bP D n w1 (H.out.mid hO) hn).mono ?_
  rintro e w2 ⟨rfl, hx, hO2⟩
  go_wp2_with fail
  go_ret
  exact ⟨rfl, H.out.mk' hd hx hO2, (hO0.mono (by simp)).trans ((hO.mono (by simp)).trans (hO2.mono (by simp)))⟩

/-- The world between the two writes. -/
def Twin1 (w1 : World) (g B bd bp br bP : Nat) (D D' : Dk) (n : Int) (s : ByteArray) (kv : Value) (W : World) : Prop :=
  DiskAt w1 bd bp D' ∧ Only [bd, bp] W w1 ∧ Blk w1 g 43 #[.int .i64 6, .int .i64 n, .string s, kv]

set_option maxRecDepth 100000 in
set_option maxHeartbeats 1600000 in
theorem touched_write (B bd bp br bP : Nat) (D : Dk) (n : Int) (s : ByteArray) (kv : Value) (w : World) (h : Twins w B bd bp br bP D) (hs : s.size ≤ 9223372036854775807) :
    Calls Tryz.prog 15 #[.pointer (some ⟨bd, 0, none⟩), .pointer (some ⟨br, 0, none⟩), .agg #[.int .i64 6, .int .i64 n, .string s, kv]] w fun e w' => e = .returned (.bool true) ∧ Twins w' B bd bp br bP (D.write n s) ∧ Only [bd, bp, br, bP] w w' := by
  have hl := Lib.hid h.lts
  obtain ⟨W, hW⟩ : ∃ W, W = w.alloc (.cells #[.int .i64 6, .int .i64 n, .string s, kv] 43) := ⟨_, rfl⟩
  have hO0 : Only [] w W := by rw [hW]; exact (Only.refl _ _).alloc _
  have hb0 : Blk W w.heap.size 43 #[.int .i64 6, .int .i64 n, .string s, kv] := by rw [hW]; exact Blk.new _ _ _
  have H := Lib.hid (h.keep hO0)
  have HW := Lib.hid hW
  have HC1 : Hid (Calls Tryz.prog 25 #[.pointer (some ⟨bd, 0, none⟩), .int .i64 n, .string s] W.drew fun e w1 => e = .returned (.int .i64 (D.writeCode n s)) ∧ (Twin1 w1 w.heap.size B bd bp br bP D (D.write n s) n s kv W) ∧ w1.cell? ⟨w.heap.size, 1, none⟩ = some (.int .i64 n) ∧ w1.cell? ⟨w.heap.size, 2, none⟩ = some (.string s)) :=
    (write_ok bd bp D n s W.drew H.out.d.drew hs).mono fun e w1 ⟨h1, h2, h3'⟩ => by
      have h3 : Only [bd, bp] W w1 := (Only.refl _ W).drew.trans h3'
      have hb1 := h3.blk hb0 (by have := hl.out; simp; omega)
      exact ⟨h1, ⟨h2, h3, hb1⟩, hb1.cell 1, hb1.cell 2⟩
  have HC2 : Hid (∀ w1, Twin1 w1 w.heap.size B bd bp br bP D (D.write n s) n s kv W → Calls Tryz.prog 39 #[.pointer (some ⟨br, 0, none⟩), .int .i64 n, .string s] w1 fun e w2 => e = .returned (.int .i64 (D.writeCode n s)) ∧ (Twins w2 B bd bp br bP (D.write n s) ∧ Only [bd, bp, br, bP] w w2) ∧ w2.cell? ⟨w.heap.size, 1, none⟩ = some (.int .i64 n) ∧ w2.cell? ⟨w.heap.size, 2, none⟩ = some (.string s)) :=
    fun w1 ⟨h2, h3, hb1⟩ => (rwrite_ok B br bP D n s w1 (H.out.mid h3) hs).mono fun e w2 ⟨g1, g2, g3⟩ => by
      have hb2 := g3.blk hb1 (by have := hl.out; simp; omega)
      exact ⟨g1, ⟨H.out.mk' h2 g2 g3, (hO0.mono (by simp)).trans ((h3.mono (by simp)).trans (g3.mono (by simp)))⟩, hb2.cell 1, hb2.cell 2⟩
  have c1 := hb0.cell 1
  have c2 := hb0.cell 2
  clear h hW hb0 hO0
  go_enter Tryz.func15, Tryz.ntmps15
  go_wp2_with fail
  rw [← HW.out]
  go_region_held3 (fun w' => w'.cell? ⟨w.heap.size, 1, none⟩ = some (.int .i64 n) ∧ w'.cell? ⟨w.heap.size, 2, none⟩ = some (.string s)) (go_keep)
    (first
      | (go_at_call 25; refine HC1.out.mono ?_; rintro e w1 ⟨rfl, hT1, k1, k2⟩)
      | (go_at_call 39; refine (HC2.out _ (by assumption)).mono ?_; rintro e w2 ⟨rfl, hT2, k1', k2'⟩))
  go_wp2_with fail
  go_ret
  refine ⟨rfl, ?_⟩
  assumption

set_option maxRecDepth 100000 in
set_option maxHeartbeats 1600000 in
theorem touched_sync (B bd bp br bP : Nat) (D : Dk) (n : Int) (s : ByteArray) (kv : Value) (w : World) (h : Twins w B bd bp br bP D)  :
    Calls Tryz.prog 15 #[.pointer (some ⟨bd, 0, none⟩), .pointer (some ⟨br, 0, none⟩), .agg #[.int .i64 7, .int .i64 n, .string s, kv]] w fun e w' => e = .returned (.bool true) ∧ Twins w' B bd bp br bP (D.synced) ∧ Only [bd, bp, br, bP] w w' := by
  have hl := Lib.hid h.lts
  obtain ⟨W, hW⟩ : ∃ W, W = w.alloc (.cells #[.int .i64 7, .int .i64 n, .string s, kv] 43) := ⟨_, rfl⟩
  have hO0 : Only [] w W := by rw [hW]; exact (Only.refl _ _).alloc _
  have hb0 : Blk W w.heap.size 43 #[.int .i64 7, .int .i64 n, .string s, kv] := by rw [hW]; exact Blk.new _ _ _
  have H := Lib.hid (h.keep hO0)
  have HW := Lib.hid hW
  clear h hW
  go_enter Tryz.func15, Tryz.ntmps15
  go_wp2_with fail
  rw [← HW.out]
  refine (sync_ok bd bp D W H.out.d).mono ?_
  rintro e w1 ⟨rfl, hd, hO⟩
  have hb1 := hO.blk hb0 (by have := hl.out; simp; omega)
  have k1 := hb1.cell 1
  have k2 := hb1.cell 2
  go_wp2_with fail
  refine (rsync_ok B br bP D w1 (H.out.mid hO)).mono ?_
  rintro e w2 ⟨rfl, hx, hO2⟩
  go_wp2_with fail
  go_ret
  exact ⟨by simp, H.out.mk' hd hx hO2, (hO0.mono (by simp)).trans ((hO.mono (by simp)).trans (hO2.mono (by simp)))⟩

set_option maxRecDepth 100000 in
set_option maxHeartbeats 1600000 in
theorem touched_other (B bd bp br bP : Nat) (D : Dk) (n : Int) (s : ByteArray) (k : Int) (kv : Value) (w : World) (h : Twins w B bd bp br bP D) (h3 : k ≠ 3) (h4 : k ≠ 4) (h6 : k ≠ 6) (h7 : k ≠ 7) :
    Calls Tryz.prog 15 #[.pointer (some ⟨bd, 0, none⟩), .pointer (some ⟨br, 0, none⟩), .agg #[.int .i64 k, .int .i64 n, .string s, kv]] w fun e w' => e = .returned (.bool true) ∧ Twins w' B bd bp br bP (D) ∧ Only [bd, bp, br, bP] w w' := by
  have hl := Lib.hid h.lts
  obtain ⟨W, hW⟩ : ∃ W, W = w.alloc (.cells #[.int .i64 k, .int .i64 n, .string s, kv] 43) := ⟨_, rfl⟩
  have hO0 : Only [] w W := by rw [hW]; exact (Only.refl _ _).alloc _
  have hb0 : Blk W w.heap.size 43 #[.int .i64 k, .int .i64 n, .string s, kv] := by rw [hW]; exact Blk.new _ _ _
  have H := Lib.hid (h.keep hO0)
  have HW := Lib.hid hW
  have b3 : (k == 3) = false := by simpa using h3
  have b4 : (k == 4) = false := by simpa using h4
  have b6 : (k == 6) = false := by simpa using h6
  have b7 : (k == 7) = false := by simpa using h7
  clear h3 h4 h6 h7
  clear h hW
  go_enter Tryz.func15, Tryz.ntmps15
  go_wp2_with fail
  go_ret
  rw [← HW.out]
  exact ⟨rfl, H.out, hO0.mono (by simp)⟩

/-- What a call of list returns at a value, in every world that differs from w in the disks alone. -/
def Listed (w : World) (M : List Nat) (kv : Value) (K : List Int) : Prop :=
  ∀ W, Only M w W → Calls Tryz.prog 23 #[kv] W fun e w' => ∃ A n c', e = .returned (.slice A n c') ∧ (n ≤ 1000 ∧ (∀ M', (∀ g, g ∈ M' → g < W.heap.size) → IntsIn w' M' A n K)) ∧ Below W.heap.size W w'

set_option maxRecDepth 100000 in
set_option maxHeartbeats 1600000 in
theorem touched_crash (B bd bp br bP : Nat) (D : Dk) (n : Int) (s : ByteArray) (kv : Value) (K : List Int) (w : World) (h : Twins w B bd bp br bP D) (hK : Listed w [bd, bp, br, bP] kv K) :
    Calls Tryz.prog 15 #[.pointer (some ⟨bd, 0, none⟩), .pointer (some ⟨br, 0, none⟩), .agg #[.int .i64 4, .int .i64 n, .string s, kv]] w fun e w' => e = .returned (.bool true) ∧ Twins w' B bd bp br bP (D.crashed K) ∧ Only [bd, bp, br, bP] w w' := by
  have hl := Lib.hid h.lts
  obtain ⟨W, hW⟩ : ∃ W, W = w.alloc (.cells #[.int .i64 4, .int .i64 n, .string s, kv] 43) := ⟨_, rfl⟩
  have hO0 : Only [] w W := by rw [hW]; exact (Only.refl _ _).alloc _
  have hb0 : Blk W w.heap.size 43 #[.int .i64 4, .int .i64 n, .string s, kv] := by rw [hW]; exact Blk.new _ _ _
  have H := Lib.hid (h.keep hO0)
  have HW := Lib.hid hW
  have HK := Lib.hid hK
  clear h hW hK
  go_enter Tryz.func15, Tryz.ntmps15
  go_wp2_with fail
  rw [← HW.out]
  refine (HK.out W (hO0.mono (by simp))).mono ?_
  rintro e w1 ⟨A, m, c1, rfl, hA, hB1⟩
  have hb1 := hb0.below hB1 hb0.lt
  have hT1 := Lib.hid (H.out.keep (Only.of_below hB1))
  have hO1 : Only [] w w1 := hO0.trans (Only.of_below hB1)
  have HA := Lib.hid hA
  clear hA
  go_wp2_with fail
  refine (crash_ok bd bp D (.slice A m c1) K w1 hT1.out.d (fun W' hW' i => contains_ints w1 W' [bd, bp] A m c1 K i (HA.out.2 _ (by have := H.out.lts; simp; omega)) HA.out.1 hW')).mono ?_
  rintro e w2 ⟨rfl, hd, hO2⟩
  have hb2 := hO2.blk hb1 (by have := hl.out; simp; omega)
  have k3 := hb2.cell 3
  have hO2' : Only [bd, bp, br, bP] w w2 := (hO1.mono (by simp)).trans (hO2.mono (by simp))
  go_wp2_with fail
  refine (HK.out w2 hO2').mono ?_
  rintro e w3 ⟨A2, m2, c2, rfl, hA2, hB3⟩
  have HA2 := Lib.hid hA2
  clear hA2
  have hx3 : RDiskAt w3 B br bP D := (hT1.out.mid hO2).keep (M := []) (Only.of_below hB3) (by simp) (by simp) (by simp)
  have hd3 : DiskAt w3 bd bp (D.crashed K) := hd.keep (M := []) (Only.of_below hB3) (by simp) (by simp)
  have HX := Lib.hid hx3
  have HD := Lib.hid hd3
  have HL3 : Hid (br < w2.heap.size ∧ bP < w2.heap.size) := by have := hT1.out.lts; have := hO2.size; show _ ∧ _; omega
  clear hx3 hd3
  go_wp2_with fail
  refine (rcrash_ok B br bP D A2 m2 c2 K w3 HX.out HA2.out.1 (HA2.out.2 _ (by have := HL3.out; simp; omega))).mono ?_
  rintro e w4 ⟨rfl, hx, hO4⟩
  go_wp2_with fail
  go_ret
  exact ⟨rfl, H.out.mk' HD.out hx hO4, hO2'.trans (((Only.of_below (M := []) hB3).mono (by simp)).trans (hO4.mono (by simp)))⟩
end Go.Proofs.YtkfdcccgpphcmaaGreatDoor
