/- The reference's Crash; what both disks ask of the list of pages that are kept. -/
import Derived.Test.YtkfdcccgpphcmaaGreatDoorRefDisk3
namespace Go.Proofs.YtkfdcccgpphcmaaGreatDoor
open Go.RowKit Go.Shelf

/-- A slice of ints that the writing of the blocks of M leaves alone. -/
def IntsIn (w : World) (M : List Nat) (A : Option Addr) (n : Nat) (K : List Int) : Prop :=
  K.length = n ∧ (0 < n → ∃ g, A = some ⟨g, 0, none⟩ ∧ ∀ W, Only M w W → ∀ j, j < n → W.cell? ⟨g, j, none⟩ = some (.int .i64 (K.getD j 0)))

theorem contains_ints (w W : World) (M : List Nat) (A : Option Addr) (n c : Nat) (K : List Int) (x : Int) (h : IntsIn w M A n K) (hn : n ≤ 1000) (hO : Only M w W) :
    Calls Tryz.prog 46 #[.slice A n c, .int .i64 x] W fun e W' => e = .returned (.bool (K.contains x)) ∧ W = W' := by
  obtain ⟨hl, hc⟩ := h
  rcases Nat.eq_zero_or_pos n with h0 | hp
  · subst h0
    obtain rfl : K = [] := List.eq_nil_of_length_eq_zero hl
    exact (Any.slices_Contains_int_empty Tryz.lays107 A c x W).mono fun e w' ⟨h, h'⟩ => ⟨by simpa using h, h'.symm⟩
  · obtain ⟨g, rfl, hcell⟩ := hc hp
    refine (Any.slices_Contains_int Tryz.lays107 g 0 n c K x W (by omega) (by omega) (fun j hj => by rw [Nat.zero_add]; exact hcell W hO j (by omega))).mono fun e w' ⟨h, h'⟩ => ⟨?_, h'.symm⟩
    rw [List.take_of_length_le (by omega)] at h
    exact h

theorem take_has (K : List Int) (j : Nat) (x : Int) (h : j < K.length) : (K.take (j + 1)).contains x = ((K.take j).contains x || K.getD j 0 == x) := by
  have e : K.getD j 0 = K[j] := by simp [List.getD, h]
  rw [List.take_succ_eq_append_getElem h, List.contains_eq_any_beq, List.contains_eq_any_beq, List.any_append, e]
  congr 1
  simp only [List.any_cons, List.any_nil, Bool.or_false]
  rw [Bool.eq_iff_iff, beq_iff_eq, beq_iff_eq]
  exact ⟨Eq.symm, Eq.symm⟩

/-- The reference's disk behind i pages. -/
def Dk.rcrashing (D : Dk) (K : List Int) (i : Nat) : Dk := { D with now := D.after K i ++ D.now.drop i }
theorem Dk.rcrashing_zero (D : Dk) (K : List Int) : D.rcrashing K 0 = D := by simp [Dk.rcrashing, Dk.after]
theorem Dk.rcrashing_len (D : Dk) (K : List Int) (i : Nat) (h : i ≤ D.now.length) : (D.rcrashing K i).now.length = D.now.length := by simp [Dk.rcrashing, Dk.after_len]; omega
theorem Dk.rcrashing_keep (D : Dk) (K : List Int) (i : Nat) (h : i < D.now.length) (hc : K.contains (i : Int) = true) : D.rcrashing K (i + 1) = D.rcrashing K i := by
  simp only [Dk.rcrashing]
  rw [mid_same (D.after K i) D.now i h, Dk.after_succ, Dk.page, if_pos hc]
theorem Dk.rcrashing_back (D : Dk) (K : List Int) (i : Nat) (h : i < D.now.length) (hc : K.contains (i : Int) = false) : { D.rcrashing K i with now := (D.rcrashing K i).now.set i (D.safe.getD i ByteArray.empty) } = D.rcrashing K (i + 1) := by
  simp only [Dk.rcrashing]
  rw [set_mid _ _ _ _ (D.after_len K i) h, Dk.after_succ, Dk.page, if_neg (by rw [hc]; simp)]
theorem RDiskAt.drew {w : World} {B br bP : Nat} {D : Dk} (h : RDiskAt w B br bP D) : RDiskAt w.drew B br bP D := ⟨h.safe, h.rows, h.len, h.lo, h.hi, h.flo, h.fhi, h.b1, h.b2⟩
theorem RDiskAt.safeCell {w : World} {B br bP : Nat} {D : Dk} (h : RDiskAt w B br bP D) : ∃ g cap, w.cell? ⟨br, 1, none⟩ = some (.slice (some ⟨g, 0, none⟩) D.now.length cap) ∧ ∀ i, i < D.now.length → w.cell? ⟨g, i, none⟩ = some (.string (D.safe.getD i ByteArray.empty)) := by
  obtain ⟨g, cap, hb, hs, hne⟩ := h.safe
  refine ⟨g, cap, hb.cell 1, fun i hi => ?_⟩
  rw [hs.cellAt i (by omega)]
  have := h.len
  simp [strs, List.getD, show i < D.safe.length by omega]

set_option maxRecDepth 100000 in
set_option maxHeartbeats 3200000 in
theorem rcrash_ok (B br bP : Nat) (D : Dk) (A : Option Addr) (n c : Nat) (K : List Int) (w : World) (h : RDiskAt w B br bP D) (hn : n ≤ 1000) (hK : IntsIn w [br, bP] A n K) :
    Calls Tryz.prog 38 #[.pointer (some ⟨br, 0, none⟩), .slice A n c] w fun e w' => e = .returned (.tuple #[]) ∧ RDiskAt w' B br bP (D.crashed K) ∧ Only [br, bP] w w' := by
  obtain ⟨i0, hi, hz0, hz1, hz2⟩ := info_parts infoStr
  have hhi := h.hi
  have hlo := h.lo
  obtain ⟨hKl, hKc⟩ := hK
  have HK := Lib.hid hKc
  have HL := Lib.hid hKl
  have d0 : w.cell? ⟨br, 0, none⟩ = some (.slice (some ⟨bP, 0, none⟩) D.now.length D.now.length) := h.cells.1
  have HD := Lib.hid h
  clear h hKc hKl
  go_enter Tryz.func38, Tryz.ntmps38
  go_wp2_with fail
  go_loopw [4, 5, 7, 13] (fun _ _ _ i wr => ∃ k : Nat, k ≤ D.now.length ∧ i = .int .i64 k ∧ Hid (RDiskAt wr B br bP (D.rcrashing K k)) ∧ Only [br, bP] w wr) (fun _ _ _ i _ => D.now.length - (intOf i).toNat)
  case atStart => exact ⟨0, Nat.zero_le _, rfl, (by show RDiskAt _ _ _ _ _; rw [Dk.rcrashing_zero]; exact HD.out), Only.refl _ _⟩
  case round =>
    obtain ⟨k, hk, rfl, hDk, hOk⟩ := hrel
    have e0 : wr.cell? ⟨br, 0, none⟩ = some (.slice (some ⟨bP, 0, none⟩) D.now.length D.now.length) := by have := hDk.out.cells.1; rwa [Dk.rcrashing_len D K k hk] at this
    by_cases hlt : k < D.now.length
    · obtain ⟨wo, rfl⟩ : ∃ wo : World, wo = wr := ⟨_, rfl⟩
      go_wp2_with fail
      go_loop [5, 7, 18] (fun b _ j => ∃ m : Nat, m ≤ n ∧ j = .int .i64 m ∧ b = .bool ((K.take m).contains (k : Int))) (fun _ _ j => n - (intOf j).toNat)
      case atStart => exact ⟨0, Nat.zero_le _, rfl, by simp⟩
      case round =>
        obtain ⟨m, hm, rfl, rfl⟩ := hrel
        by_cases hlm : m < n
        · obtain ⟨g, rfl, hcell⟩ := HK.out (by omega)
          have cm := hcell wo hOk m hlm
          have hts : Hid _ := take_has K m (k : Int) (by have := HL.out; omega)
          generalize hx : K.getD m 0 = x at cm
          have HX := Lib.hid hx
          clear hx hcell
          cases hb : (K.take m).contains (k : Int)
          · cases hb2 : (x == (k : Int))
            · have HB := Lib.hid hb
              clear hb
              go_wp2
              go_round
              case rel => exact ⟨m + 1, by omega, by go_num, by rw [hts.out, HB.out, HX.out, hb2]; rfl⟩
              case measure => simp [intOf]; omega
            · have HB := Lib.hid hb
              clear hb
              go_wp2
              go_round
              case rel => exact ⟨m + 1, by omega, by go_num, by rw [hts.out, HB.out, HX.out, hb2]; rfl⟩
              case measure => simp [intOf]; omega
          · have HB := Lib.hid hb
            clear hb
            go_wp2
            go_round
            case rel => exact ⟨m + 1, by omega, by go_num, by rw [hts.out, HB.out]; rfl⟩
            case measure => simp [intOf]; omega
        · obtain rfl : m = n := by omega
          rw [List.take_of_length_le (by have := HL.out; omega)]
          cases hb : K.contains (k : Int)
          · have HB := Lib.hid hb
            have hfin : RDiskAt (wo.setCell ⟨bP, k, none⟩ (.string (D.safe.getD k ByteArray.empty))) B br bP (D.rcrashing K (k + 1)) := by
              rw [← Dk.rcrashing_back D K k hlt hb]; exact hDk.out.setNow k _
            clear hb
            obtain ⟨g2, cap2, s1, sc⟩ := hDk.out.safeCell
            rw [Dk.rcrashing_len D K k hk] at s1
            have s2 := sc k (by rw [Dk.rcrashing_len D K k hk]; exact hlt)
            have fz : wo.frozen? ⟨bP, k, none⟩ = false := hDk.out.rows.frozen k
            have dn0 : ∃ y, wo.cell? ⟨bP, k, none⟩ = some y := ⟨_, hDk.out.page k (by rw [Dk.rcrashing_len D K k hk]; exact hlt)⟩
            obtain ⟨y, dn⟩ := dn0
            have HF := Lib.hid hfin
            change wo.cell? ⟨g2, k, none⟩ = some (.string (D.safe.getD k ByteArray.empty)) at s2
            generalize hsv : D.safe.getD k ByteArray.empty = sv at s2
            have HSV := Lib.hid hsv
            clear hfin hsv sc
            go_wp2_with fail
            go_region
            go_wp2_with fail
            go_roundw
            case rel => exact ⟨k + 1, by omega, by go_num, by show RDiskAt _ _ _ _ _; rw [HSV.out.symm]; exact HF.out.drew, (hOk.set_ (by simp) _).drew⟩
            case measure => simp [intOf]; omega
          · have HB := Lib.hid hb
            have hkeep : D.rcrashing K (k + 1) = D.rcrashing K k := Dk.rcrashing_keep D K k hlt hb
            have HKE := Lib.hid hkeep
            clear hb hkeep
            go_wp2_with fail
            go_roundw
            case rel => exact ⟨k + 1, by omega, by go_num, by show RDiskAt _ _ _ _ _; rw [HKE.out]; exact hDk.out, hOk⟩
            case measure => simp [intOf]; omega
    · obtain rfl : k = D.now.length := by omega
      have hbl : br < wr.heap.size := by obtain ⟨_, _, hb, _⟩ := hDk.out.safe; exact hb.lt
      have hpl : bP < wr.heap.size := hDk.out.rows.lt
      have hb1 := hDk.out.b1
      have hnl : (D.rcrashing K D.now.length).now.length = D.now.length := Dk.rcrashing_len D K _ hk
      have hcp : ∀ (j : Nat) (u : Value), (strs (D.rcrashing K D.now.length).now)[j]? = some u → wr.cell? ⟨bP, j, none⟩ = some u := fun j u hj => by
        rw [hDk.out.rows.cell j, List.getElem?_toArray]; exact hj
      have HCP := Lib.hid hcp
      clear hcp
      go_wp2_with (at_builtin; refine wpList_append_own _ rfl _ _ 22 rfl wr.heap.size 9 i0 (.string ⟨#[]⟩) 1 16 Tryz.underlying22 hi hz0 hz1 hz2 rfl (by decide) _ _ _ rfl (World.ownsRow_lit wr #[] 0 (Nat.le_refl _) (by decide) rfl) ⟨bP, 0, none⟩ D.now.length D.now.length (strs (D.rcrashing K D.now.length).now) rfl (by simpa [strs] using hnl) ?c1 ?c2 ?c3 ?c4 ?c5 ?_)
      case c1 =>
        intro j u hj
        have hadd : (⟨bP, 0, none⟩ : Addr).add j = ⟨bP, j, none⟩ := by unfold Addr.add; split <;> simp_all
        rw [hadd, World.cell?_alloc_past _ _ _ hpl]
        exact HCP.out j u hj
      case c2 => intro u hu; simp [strs] at hu; obtain ⟨a, _, rfl⟩ := hu; rfl
      case c3 => unfold maxLen; omega
      case c4 => omega
      case c5 => simp
      intro v' w2 hown' hgrow _
      have hgr := grown_alloc hgrow (fun k e => by cases e; exact Nat.le_refl _) none
      have hDc := hDk.out.copied hgr (by rw [hnl]; exact hown')
      have s1 : ∃ y, wr.cell? ⟨br, 1, none⟩ = some y := by obtain ⟨_, _, hb, _⟩ := hDk.out.safe; exact ⟨_, hb.cell 1⟩
      have s2 : ∃ y, wr.cell? ⟨br, 2, none⟩ = some y := by obtain ⟨_, _, hb, _⟩ := hDk.out.safe; exact ⟨_, hb.cell 2⟩
      have s3 : ∃ y, wr.cell? ⟨br, 3, none⟩ = some y := by obtain ⟨_, _, hb, _⟩ := hDk.out.safe; exact ⟨_, hb.cell 3⟩
      have move : ∀ i, w2.cell? ⟨br, i, none⟩ = wr.cell? ⟨br, i, none⟩ := fun i => World.cell?_of_block (w := wr) (hgr.block br hbl (by simp))
      have movef : ∀ i, w2.frozen? ⟨br, i, none⟩ = false := fun i => (World.frozen?_of_block (w := wr) (hgr.block br hbl (by simp))).trans (hDk.out.cells.2.2.2 i)
      obtain ⟨y1, s1⟩ := s1
      obtain ⟨y2, s2⟩ := s2
      obtain ⟨y3, s3⟩ := s3
      have t1 := (move 1).trans s1
      have t2 := (move 2).trans s2
      have t3 := (move 3).trans s3
      have f1 := movef 1
      have f2 := movef 2
      have f3 := movef 3
      have hO2 : Only [br, bP] w w2 := hOk.trans ⟨hgr.os, hgr.tape, hgr.output, hgr.size, fun k hk _ => hgr.block k hk (by simp)⟩
      obtain ⟨g', cap', rfl, _, _⟩ := hown'.form (by omega)
      have hDe : RDiskAt (((w2.setCell ⟨br, 1, none⟩ (.slice (some ⟨g', 0, none⟩) D.now.length cap')).setCell ⟨br, 2, none⟩ (.bool false)).setCell ⟨br, 3, none⟩ (.int .i64 (-1))) B br bP (D.crashed K) := by
        have := (hDc.setOff false).setFuse (-1) (by omega) (by omega)
        have e : ({ D.rcrashing K D.now.length with safe := (D.rcrashing K D.now.length).now, off := false, fuse := -1 } : Dk) = D.crashed K := by
          simp [Dk.rcrashing, Dk.crashed]
        rw [← e]; exact this
      have HDe := Lib.hid hDe
      clear hDc hDe s1 s2 s3 move movef hown' hgrow
      go_wp2
      go_end0
      exact ⟨rfl, HDe.out, ((hO2.set_ (by simp) _).set_ (by simp) _).set_ (by simp) _⟩
end Go.Proofs.YtkfdcccgpphcmaaGreatDoor
