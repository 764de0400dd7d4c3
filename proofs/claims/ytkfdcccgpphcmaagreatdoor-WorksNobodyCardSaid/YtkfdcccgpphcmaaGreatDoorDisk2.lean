/- The disk of the works, the rest of its methods. -/
import Derived.Test.YtkfdcccgpphcmaaGreatDoorDisk
import Derived.Test.YtkfdcccgpphcmaaGreatDoorShelf
import Derived.RegionTactic
import Derived.BigRegion
namespace Go.Proofs.YtkfdcccgpphcmaaGreatDoor
open Go.RowKit Go.Shelf

theorem DiskAt.drew {w : World} {bd bp : Nat} {D : Dk} (h : DiskAt w bd bp D) : DiskAt w.drew bd bp D := ⟨h.head, h.rows, h.len, h.lo, h.hi, h.flo, h.fhi⟩
theorem DiskAt.keep {w w' : World} {bd bp : Nat} {D : Dk} (h : DiskAt w bd bp D) {M : List Nat} (k : Only M w w') (h1 : bd ∉ M) (h2 : bp ∉ M) : DiskAt w' bd bp D :=
  ⟨k.blk h.head h1, k.blk h.rows h2, h.len, h.lo, h.hi, h.flo, h.fhi⟩

/-- What Read reports, and what it returns. -/
def Dk.readCode (D : Dk) (i : Int) : Int := if i < 0 ∨ (D.now.length : Int) ≤ i then 2 else if D.off = true then 8 else 0
def Dk.read (D : Dk) (i : Int) : ByteArray := if i < 0 ∨ (D.now.length : Int) ≤ i then ⟨#[]⟩ else if D.off = true then ⟨#[]⟩ else D.now.getD i.toNat ByteArray.empty

set_option maxRecDepth 100000 in
theorem read_ok (bd bp : Nat) (D : Dk) (i : Int) (w : World) (h : DiskAt w bd bp D) :
    Calls Tryz.prog 17 #[.pointer (some ⟨bd, 0, none⟩), .int .i64 i] w fun e w' => e = .returned (.tuple #[.string (D.read i), .int .i64 (D.readCode i)]) ∧ w = w' := by
  by_cases ho : i < 0 ∨ (D.now.length : Int) ≤ i
  · have hr := reach_out bd bp D i w h ho
    have e1 : Hid (D.readCode i = 2) := if_pos ho
    have e2 : Hid (D.read i = ⟨#[]⟩) := if_pos ho
    clear h
    go_enter Tryz.func17, Tryz.ntmps17
    go_wp2_with (go_at_call 41; refine hr.mono ?_; rintro e w' ⟨rfl, rfl⟩)
    go_ret2
    exact ⟨by rw [e1.out, e2.out]; rfl, rfl⟩
  · have hr := reach_in bd bp D i w h (by omega) (by omega)
    have c1 : w.cell? ⟨bd, 1, none⟩ = some (.bool D.off) := h.head.cell 1
    by_cases hd : D.off = true
    · rw [hd] at c1
      have e1 : Hid (D.readCode i = 8) := (if_neg ho).trans (if_pos hd)
      have e2 : Hid (D.read i = ⟨#[]⟩) := (if_neg ho).trans (if_pos hd)
      clear h hd
      go_enter Tryz.func17, Tryz.ntmps17
      go_wp2_with (go_at_call 41; refine hr.mono ?_; rintro e w' ⟨rfl, rfl⟩)
      go_ret2
      exact ⟨by rw [e1.out, e2.out]; rfl, rfl⟩
    · have e1 : Hid (D.readCode i = 0) := (if_neg ho).trans (if_neg hd)
      have e2 : Hid (D.read i = D.now.getD i.toNat ByteArray.empty) := (if_neg ho).trans (if_neg hd)
      rw [Bool.not_eq_true] at hd
      rw [hd] at c1
      obtain ⟨i, rfl⟩ := Int.eq_ofNat_of_zero_le (show 0 ≤ i by omega)
      have hi : i < D.now.length := by omega
      have c0 : w.cell? ⟨bd, 0, none⟩ = some (.slice (some ⟨bp, 0, none⟩) D.now.length D.now.length) := h.head.cell 0
      have ci : w.cell? ⟨bp, i * 2, none⟩ = some (.string (D.now.getD i ByteArray.empty)) := (h.rows.cell (i * 2)).trans (by rw [List.getElem?_toArray]; exact both_now _ _ i h.len hi)
      clear h hd
      go_enter Tryz.func17, Tryz.ntmps17
      go_wp2_with (go_at_call 41; refine hr.mono ?_; rintro e w' ⟨rfl, rfl⟩)
      go_ret2
      exact ⟨by rw [e1.out, e2.out]; simp [List.getD, hi], rfl⟩

/-- What Fuse leaves. -/
def Dk.fused (D : Dk) (k : Int) : Dk := if D.off = true then D else { D with fuse := max k (-1) }

set_option maxRecDepth 100000 in
theorem fuse_ok (bd bp : Nat) (D : Dk) (k : Int) (w : World) (h : DiskAt w bd bp D) (hk : k ≤ 9223372036854775807) :
    Calls Tryz.prog 21 #[.pointer (some ⟨bd, 0, none⟩), .int .i64 k] w fun e w' => e = .returned (.tuple #[]) ∧ DiskAt w' bd bp (D.fused k) ∧ Only [bd, bp] w w' := by
  have hn := none_disk bd bp D w h
  have c1 : w.cell? ⟨bd, 1, none⟩ = some (.bool D.off) := h.head.cell 1
  have c2 : w.cell? ⟨bd, 2, none⟩ = some (.int .i64 D.fuse) := h.head.cell 2
  have f2 : w.frozen? ⟨bd, 2, none⟩ = false := h.head.frozen 2
  have HD := Lib.hid h
  clear h
  by_cases hd : D.off = true
  · rw [hd] at c1
    have e1 : Hid (D.fused k = D) := if_pos hd
    clear hd
    go_enter Tryz.func21, Tryz.ntmps21
    go_wp2_with (go_at_call 45; refine hn.mono ?_; rintro e w' ⟨rfl, rfl⟩)
    go_end0
    exact ⟨rfl, by rw [e1.out]; exact HD.out, Only.refl _ _⟩
  · have e1 : Hid (D.fused k = { D with fuse := max k (-1) }) := if_neg hd
    rw [Bool.not_eq_true] at hd
    rw [hd] at c1
    clear hd
    obtain ⟨m, hm⟩ : ∃ m, m = max k (-1) := ⟨_, rfl⟩
    rw [← hm] at e1
    have h1 : -1 ≤ m := by omega
    have h2 : m ≤ 9223372036854775807 := by omega
    have HM := Lib.hid hm
    clear hm
    go_enter Tryz.func21, Tryz.ntmps21
    go_wp2_with (go_at_call 45; refine hn.mono ?_; rintro e w' ⟨rfl, rfl⟩)
    all_goals go_end0
    all_goals
      refine ⟨rfl, ?_, (Only.refl _ _).set_ (by simp) _⟩
      rw [e1.out]
      first | exact HD.out.setFuse m h1 h2 | (have := HM.out; rw [show m = k from by omega]; exact HD.out.setFuse k (by omega) (by omega)) | (have := HM.out; rw [show m = -1 from by omega]; exact HD.out.setFuse (-1) (by omega) (by omega)) | (have := HM.out; rw [← this]; exact HD.out.setFuse m h1 h2)

/-- What Sync leaves. -/
def Dk.synced (D : Dk) : Dk := if D.dark = true then D.spent else { D.spent with safe := D.now }
/-- .. behind i pages. -/
def Dk.part (D : Dk) (i : Nat) : Dk := { D with safe := D.now.take i ++ D.safe.drop i }
theorem Dk.part_step (D : Dk) (i : Nat) (hl : D.now.length = D.safe.length) (h : i < D.now.length) : (D.part i).safe.set i (D.now.getD i ByteArray.empty) = (D.part (i + 1)).safe := by
  simp only [Dk.part]
  rw [List.set_append_right _ _ (by simp; omega)]
  rw [List.length_take, Nat.min_eq_left (by omega), Nat.sub_self, List.drop_eq_getElem_cons (by omega : i < D.safe.length), List.set_cons_zero, List.take_succ_eq_append_getElem h, List.append_assoc]
  simp only [List.getD, List.getElem?_eq_getElem h, Option.getD_some]
  rfl
theorem Dk.part_zero (D : Dk) : D.part 0 = D := by simp [Dk.part]
theorem Dk.part_all (D : Dk) (hl : D.now.length = D.safe.length) : D.part D.now.length = { D with safe := D.now } := by simp [Dk.part, hl, List.take_of_length_le]

set_option maxRecDepth 100000 in
set_option maxHeartbeats 1600000 in
theorem sync_ok (bd bp : Nat) (D : Dk) (w : World) (h : DiskAt w bd bp D) :
    Calls Tryz.prog 26 #[.pointer (some ⟨bd, 0, none⟩)] w fun e w' => e = .returned (.int .i64 D.code) ∧ DiskAt w' bd bp D.synced ∧ Only [bd, bp] w w' := by
  have hn := none_disk bd bp D w h
  have hsp := spend_ok bd bp D w h
  have hlen : Hid (D.now.length = D.safe.length) := h.len
  have hhi : D.now.length ≤ 200 := h.hi
  have hne : Hid (bd ≠ bp) := h.ne
  clear h
  by_cases hd : D.dark = true
  · have ec : D.code = 8 := by rw [Dk.code, if_pos hd]
    rw [ec] at hsp
    have e1 : Hid (D.synced = D.spent) := if_pos hd
    have HE := Lib.hid ec
    clear hd ec
    go_enter Tryz.func26, Tryz.ntmps26
    go_wp2_with fail
    refine hn.mono ?_
    rintro e w' ⟨rfl, rfl⟩
    go_wp2_with fail
    refine hsp.mono ?_
    rintro e w1 ⟨rfl, hD1, hO⟩
    go_wp2
    go_ret
    exact ⟨by rw [HE.out]; rfl, by rw [e1.out]; exact hD1, hO.mono (by simp)⟩
  · have ec : D.code = 0 := by rw [Dk.code, if_neg hd]
    rw [ec] at hsp
    have e1 : Hid (D.synced = { D.spent with safe := D.now }) := if_neg hd
    have HE := Lib.hid ec
    clear hd ec
    go_enter Tryz.func26, Tryz.ntmps26
    go_wp2_with fail
    refine hn.mono ?_
    rintro e w' ⟨rfl, rfl⟩
    go_wp2_with fail
    refine hsp.mono ?_
    rintro e w1 ⟨rfl, hD1, hO⟩
    have c0 : w1.cell? ⟨bd, 0, none⟩ = some (.slice (some ⟨bp, 0, none⟩) D.now.length D.now.length) := hD1.head.cell 0
    go_wp2_with fail
    go_loopw [4, 17] (fun _ i wr => ∃ k : Nat, k ≤ D.now.length ∧ i = .int .i64 k ∧ Hid (DiskAt wr bd bp (D.spent.part k)) ∧ Only [bd, bp] w wr) (fun _ i _ => D.now.length - (intOf i).toNat)
    case atStart => exact ⟨0, Nat.zero_le _, rfl, (by show DiskAt _ _ _ _; rw [Dk.part_zero]; exact hD1), hO.mono (by simp)⟩
    case round =>
      obtain ⟨k, hk, rfl, hDk, hOk⟩ := hrel
      by_cases hlt : k < D.now.length
      · have d0 : wr.cell? ⟨bd, 0, none⟩ = some (.slice (some ⟨bp, 0, none⟩) D.now.length D.now.length) := hDk.out.head.cell 0
        have dn : wr.cell? ⟨bp, k * 2, none⟩ = some (.string (D.now.getD k ByteArray.empty)) := (hDk.out.rows.cell (k * 2)).trans (by rw [List.getElem?_toArray]; exact both_now _ _ k hDk.out.len hlt)
        have ds : wr.cell? ⟨bp, k * 2 + 1, none⟩ = some (.string ((D.spent.part k).safe.getD k ByteArray.empty)) := (hDk.out.rows.cell (k * 2 + 1)).trans (by rw [List.getElem?_toArray]; exact both_safe _ _ k hDk.out.len hlt)
        have fs : wr.frozen? ⟨bp, k * 2 + 1, none⟩ = false := hDk.out.rows.frozen (k * 2 + 1)
        generalize hsv : D.now.getD k ByteArray.empty = sv at dn
        have HSV := Lib.hid hsv
        clear hsv
        go_wp2_with fail
        go_region
        all_goals
          have hst := Dk.part_step D.spent k hlen.out hlt
          rw [show D.spent.now = D.now from rfl, HSV.out] at hst
          have hDn := hDk.out.setSafe k sv
          rw [hst] at hDn
          have HDn : Hid (DiskAt (wr.setCell ⟨bp, k * 2 + 1, none⟩ (.string sv)) bd bp (D.spent.part (k + 1))) := hDn
          clear hst hDn
          go_wp2
          go_roundw
          case rel => exact ⟨k + 1, by omega, by go_num, HDn.out.drew, (hOk.set_ (by simp) _).drew⟩
          case measure => simp [intOf]; omega
      · obtain rfl : k = D.now.length := by omega
        go_wp2
        go_ret
        refine ⟨by rw [HE.out]; rfl, ?_, hOk⟩
        rw [e1.out]
        have := hDk.out
        rw [show D.now.length = D.spent.now.length from rfl, Dk.part_all D.spent hlen.out] at this
        exact this

/-- What a page has behind a crash that keeps some pages. -/
def Dk.page (D : Dk) (K : List Int) (i : Nat) : ByteArray := if K.contains (i : Int) = true then D.now.getD i ByteArray.empty else D.safe.getD i ByteArray.empty
def Dk.after (D : Dk) (K : List Int) (n : Nat) : List ByteArray := (List.range n).map (D.page K)
def Dk.crashed (D : Dk) (K : List Int) : Dk := { now := D.after K D.now.length, safe := D.after K D.now.length, off := false, fuse := -1 }
/-- .. and behind i pages. -/
def Dk.crashing (D : Dk) (K : List Int) (i : Nat) : Dk := { D with now := D.after K i ++ D.now.drop i, safe := D.after K i ++ D.safe.drop i }
theorem Dk.after_len (D : Dk) (K : List Int) (n : Nat) : (D.after K n).length = n := by simp [Dk.after]
theorem Dk.after_succ (D : Dk) (K : List Int) (n : Nat) : D.after K (n + 1) = D.after K n ++ [D.page K n] := by simp [Dk.after, List.range_succ]
theorem set_mid (A B : List ByteArray) (i : Nat) (x : ByteArray) (hA : A.length = i) (hB : i < B.length) : (A ++ B.drop i).set i x = (A ++ [x]) ++ B.drop (i + 1) := by
  rw [List.set_append_right _ _ (by omega), hA, Nat.sub_self, List.drop_eq_getElem_cons hB, List.set_cons_zero, List.append_assoc]
  rfl
theorem mid_get (A B : List ByteArray) (i : Nat) (hA : A.length = i) (hB : i < B.length) : (A ++ B.drop i).getD i ByteArray.empty = B.getD i ByteArray.empty := by
  simp [List.getD, hA, List.getElem?_append_right]
theorem mid_same (A B : List ByteArray) (i : Nat) (hB : i < B.length) : A ++ B.drop i = (A ++ [B.getD i ByteArray.empty]) ++ B.drop (i + 1) := by
  rw [List.drop_eq_getElem_cons hB, List.append_assoc]; simp [List.getD, hB]
theorem Dk.crashing_all (D : Dk) (K : List Int) (hl : D.now.length = D.safe.length) : D.crashing K D.now.length = { D with now := D.after K D.now.length, safe := D.after K D.now.length } := by
  simp [Dk.crashing, hl]
theorem Dk.crashing_zero (D : Dk) (K : List Int) : D.crashing K 0 = D := by simp [Dk.crashing, Dk.after]

set_option maxRecDepth 100000 in
set_option maxHeartbeats 3200000 in
theorem crash_ok (bd bp : Nat) (D : Dk) (kv : Value) (K : List Int) (w : World) (h : DiskAt w bd bp D)
    (hK : ∀ W, Only [bd, bp] w W → ∀ i : Nat, Calls Tryz.prog 46 #[kv, .int .i64 i] W fun e W' => e = .returned (.bool (K.contains (i : Int))) ∧ W = W') :
    Calls Tryz.prog 22 #[.pointer (some ⟨bd, 0, none⟩), kv] w fun e w' => e = .returned (.tuple #[]) ∧ DiskAt w' bd bp (D.crashed K) ∧ Only [bd, bp] w w' := by
  have hn := none_disk bd bp D w h
  have hlen : Hid (D.now.length = D.safe.length) := h.len
  have hhi : D.now.length ≤ 200 := h.hi
  have HK := Lib.hid hK
  have c0 : w.cell? ⟨bd, 0, none⟩ = some (.slice (some ⟨bp, 0, none⟩) D.now.length D.now.length) := h.head.cell 0
  have HD := Lib.hid h
  clear h hK
  go_enter Tryz.func22, Tryz.ntmps22
  go_wp2_with fail
  refine hn.mono ?_
  rintro e w' ⟨rfl, rfl⟩
  go_wp2_with fail
  go_loopw [4, 5, 13] (fun _ _ i wr => ∃ k : Nat, k ≤ D.now.length ∧ i = .int .i64 k ∧ Hid (DiskAt wr bd bp (D.crashing K k)) ∧ Only [bd, bp] w wr) (fun _ _ i _ => D.now.length - (intOf i).toNat)
  case atStart => exact ⟨0, Nat.zero_le _, rfl, (by show DiskAt _ _ _ _; rw [Dk.crashing_zero]; exact HD.out), Only.refl _ _⟩
  case round =>
    obtain ⟨k, hk, rfl, hDk, hOk⟩ := hrel
    by_cases hlt : k < D.now.length
    · have d0 : wr.cell? ⟨bd, 0, none⟩ = some (.slice (some ⟨bp, 0, none⟩) (D.crashing K k).now.length (D.crashing K k).now.length) := hDk.out.head.cell 0
      have hl1 : (D.crashing K k).now.length = D.now.length := by simp [Dk.crashing, Dk.after_len]; omega
      rw [hl1] at d0
      have dn : wr.cell? ⟨bp, k * 2, none⟩ = some (.string (D.now.getD k ByteArray.empty)) := (hDk.out.rows.cell (k * 2)).trans (by rw [List.getElem?_toArray, both_now _ _ k hDk.out.len (by omega)]; simp only [Dk.crashing]; rw [mid_get _ _ _ (D.after_len K k) hlt])
      have ds : wr.cell? ⟨bp, k * 2 + 1, none⟩ = some (.string (D.safe.getD k ByteArray.empty)) := (hDk.out.rows.cell (k * 2 + 1)).trans (by rw [List.getElem?_toArray, both_safe _ _ k hDk.out.len (by omega)]; simp only [Dk.crashing]; rw [mid_get _ _ _ (D.after_len K k) (by have := hlen.out; omega)])
      have fn : wr.frozen? ⟨bp, k * 2, none⟩ = false := hDk.out.rows.frozen (k * 2)
      have fs : wr.frozen? ⟨bp, k * 2 + 1, none⟩ = false := hDk.out.rows.frozen (k * 2 + 1)
      generalize hnv : D.now.getD k ByteArray.empty = nv at dn
      generalize hsv : D.safe.getD k ByteArray.empty = sv at ds
      have HNV := Lib.hid hnv
      have HSV := Lib.hid hsv
      clear hnv hsv hl1
      have hcon := HK.out wr hOk k
      go_wp2_with fail
      refine hcon.mono ?_
      rintro e w' ⟨rfl, rfl⟩
      have fin1 : D.page K k = nv → DiskAt ((wr.setCell ⟨bp, k * 2 + 1, none⟩ (.string nv)).setCell ⟨bp, k * 2, none⟩ (.string nv)) bd bp (D.crashing K (k + 1)) := fun hx => by
        have := (hDk.out.setSafe k nv).setNow k nv
        simp only [Dk.crashing] at this
        rw [set_mid _ _ _ _ (D.after_len K k) hlt, set_mid _ _ _ _ (D.after_len K k) (by have := hlen.out; omega), ← hx, ← Dk.after_succ] at this
        rw [← hx]; exact this
      have fin0 : D.page K k = sv → DiskAt (wr.setCell ⟨bp, k * 2, none⟩ (.string sv)) bd bp (D.crashing K (k + 1)) := fun hx => by
        have := hDk.out.setNow k sv
        simp only [Dk.crashing] at this
        rw [set_mid _ _ _ _ (D.after_len K k) hlt, mid_same _ _ _ (show k < D.safe.length by have := hlen.out; omega), HSV.out, ← hx, ← Dk.after_succ] at this
        rw [← hx]; exact this
      have FIN1 := Lib.hid fin1
      have FIN0 := Lib.hid fin0
      clear fin1 fin0
      cases hc : K.contains (k : Int)
      · have hp : Hid (D.page K k = sv) := by show _ = _; rw [Dk.page, if_neg (by rw [hc]; simp), HSV.out]
        have HC := Lib.hid hc
        clear hc
        go_wp2
        go_roundw
        case rel => exact ⟨k + 1, by omega, by go_num, FIN0.out hp.out, hOk.set_ (by simp) _⟩
        case measure => simp [intOf]; omega
      · have hp : Hid (D.page K k = nv) := by show _ = _; rw [Dk.page, if_pos hc, HNV.out]
        have HC := Lib.hid hc
        clear hc
        go_wp2
        go_roundw
        case rel => exact ⟨k + 1, by omega, by go_num, FIN1.out hp.out, (hOk.set_ (by simp) _).set_ (by simp) _⟩
        case measure => simp [intOf]; omega
    · obtain rfl : k = D.now.length := by omega
      have e1 : wr.cell? ⟨bd, 1, none⟩ = some (.bool D.off) := hDk.out.head.cell 1
      have e2 : wr.cell? ⟨bd, 2, none⟩ = some (.int .i64 D.fuse) := hDk.out.head.cell 2
      have g1 : wr.frozen? ⟨bd, 1, none⟩ = false := hDk.out.head.frozen 1
      have g2 : wr.frozen? ⟨bd, 2, none⟩ = false := hDk.out.head.frozen 2
      go_wp2_with fail
      go_end0
      refine ⟨rfl, ?_, (hOk.set_ (by simp) _).set_ (by simp) _⟩
      have := (hDk.out.setOff false).setFuse (-1) (by omega) (by omega)
      rw [Dk.crashing_all _ _ hlen.out] at this
      exact this
end Go.Proofs.YtkfdcccgpphcmaaGreatDoor
