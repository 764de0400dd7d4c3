/- Replace tells the image. -/
import Derived.Test.YtpnnhmeaccdjpaaGreatDoorOnce
import Derived.Deep.DeepCutAuto
import Derived.Deep.QuietTactic
import Derived.BigQuiet
import Derived.Deep.RegionLaw
import Derived.Laws.CopyOwn
import Derived.Deep.OwnRows
namespace Go.Proofs.YtpnnhmeaccdjpaaGreatDoor
open Go.RowKit Go.Shelf

theorem S_at (l : List UInt8) (k : Nat) (h : k < (S l).size) : (S l)[k] = l[k]'(by rw [← S_size]; exact h) := rfl

/-- The bytes that are told so far, and 0s behind them. -/
def fill (n : Nat) (l : List UInt8) : List Value := l.map (fun c => .int .u8 c.toNat) ++ List.replicate (n - l.length) (.int .u8 0)

theorem fill_splice (n : Nat) (l cs : List UInt8) (_h : l.length + cs.length ≤ n) : splice (fill n l) l.length (cs.map fun c => .int .u8 c.toNat) = fill n (l ++ cs) := by
  have e1 : (fill n l).take l.length = l.map (fun c => Value.int .u8 c.toNat) := by
    unfold fill; rw [List.take_append_of_le_length (by simp), List.take_of_length_le (by simp)]
  have e2 : (fill n l).drop (l.length + cs.length) = List.replicate (n - (l.length + cs.length)) (.int .u8 0) := by
    unfold fill
    rw [List.drop_append, List.drop_of_length_le (by simp)]
    simp
    omega
  unfold splice
  simp only [List.length_map]
  rw [e1, e2]
  simp [fill]
theorem fill_len (n : Nat) (l : List UInt8) (h : l.length ≤ n) : (fill n l).length = n := by simp [fill]; omega
theorem size5 : (Tryz.prog.info? 5).map (·.size) = some 1 := by kernel_rfl

theorem info5 : (Tryz.prog.info? 5).map (fun i => (i.zero, i.size, i.bytes)) = some (some (.int .u8 0), 1, 1) := by kernel_rfl

set_option maxRecDepth 100000 in
set_option maxHeartbeats 1600000 in
theorem repl_ok (B bt : Nat) (s : List UInt8) (hbits : ∀ c ∈ s, c = 48 ∨ c = 49) (hlen : s.length ≤ 2000) (w : World) (hT : Table w B bt) :
    Calls Tryz.prog 105 #[.pointer (some ⟨bt, 0, none⟩), .string (S s)] w fun e w' => e = .returned (.string (S (Img.phi s))) ∧ Below w.heap.size w w' := by
  have hz := S_size s
  have hpl := Img.phi_len s hbits
  have hct := Img.counts s hbits
  obtain ⟨T, x0, c0, x1, c1, xr, h1, h2, h3, h4, h5, h6, t0, t1, t2, t3, a0, a1, a2, a3, a4, l0, l1, l2⟩ := hT
  have cr : w.cell? ⟨bt, 256, none⟩ = some (.slice (some ⟨xr, 0, none⟩) 2 2) := (h2.cell 256).trans t3
  go_enter Tryz.func105, Tryz.ntmps105
  go_upto_if 26 with (fail)
  go_cut [5, 6] (fun sz any wr => sz = .int .i64 (Img.phi s).length ∧ any = .bool (!s.isEmpty) ∧ ∃ q, wr = w.drewN q)
  case first =>
    have n0 : (!s.isEmpty) = decide (0 < s.length) := by cases s <;> simp
    by_cases hs : 16 ≤ s.length
    · have p0 : w.cell? ⟨xr, 0, none⟩ = some (.string (S [49])) := a3
      have p1 : w.cell? ⟨xr, 1, none⟩ = some (.string (S [48])) := a4
      have p49 : 0 < (S [49]).size := by decide
      have p48 : 0 < (S [48]).size := by decide
      have q48 : ∀ h, (S [48])[0]'h = 48 := fun _ => rfl
      have q49 : ∀ h, (S [49])[0]'h = 49 := fun _ => rfl
      have m48 : w.cell? ⟨bt, 48, none⟩ = some (.slice (some ⟨x0, 0, none⟩) 2 c0) := (h2.cell 48).trans t0
      have m49 : w.cell? ⟨bt, 49, none⟩ = some (.slice (some ⟨x1, 0, none⟩) 1 c1) := (h2.cell 49).trans t1
      have K49 : Hid (∀ W, Calls Tryz.prog 107 #[.string (S s), .string (S [49])] W fun e W' => e = .returned (.int .i64 (s.count 49)) ∧ W = W') := fun W => (Any.strings_Count_one Tryz.lays138 (S s) 49 W).mono fun _ _ ⟨h, h'⟩ => ⟨h, h'.symm⟩
      have K48 : Hid (∀ W, Calls Tryz.prog 107 #[.string (S s), .string (S [48])] W fun e W' => e = .returned (.int .i64 (s.count 48)) ∧ W = W') := fun W => (Any.strings_Count_one Tryz.lays138 (S s) 48 W).mono fun _ _ ⟨h, h'⟩ => ⟨h, h'.symm⟩
      have HC := Lib.hid hct
      have HP := Lib.hid hpl
      clear hct hpl a3 a4 cr
      have hle : s.count 49 ≤ s.length := List.count_le_length
      have hle' : s.count 48 ≤ s.length := List.count_le_length
      have cr : w.cell? ⟨bt, 256, none⟩ = some (.slice (some ⟨xr, 0, none⟩) 2 2) := (h2.cell 256).trans t3
      go_wp2_with fail
      refine wp_loop_rounds 3 ?_
      rw [rounds_succ]
      go_wp2_with fail
      refine (K49.out _).mono ?_
      rintro e w' ⟨rfl, rfl⟩
      by_cases z49 : s.count 49 = 0
      · have z : ((s.count 49 : Int) != 0) = false := by simp [z49]
        go_wp2_with fail
        rw [rounds_succ]
        go_wp2_with fail
        refine (K48.out _).mono ?_
        rintro e w' ⟨rfl, rfl⟩
        by_cases z48 : s.count 48 = 0
        · exfalso; have := HC.out; omega
        · have y : ((s.count 48 : Int) != 0) = true := by rw [bne_iff_ne]; omega
          go_wp2_with fail
          go_quiet (fail)
          go_wp2_with fail
          rw [rounds_succ]
          go_wp2_with fail
          go_meet
          exact ⟨by rw [HP.out]; go_num, by rw [n0, decide_eq_true (by omega)], _, rfl⟩
      · have z : ((s.count 49 : Int) != 0) = true := by rw [bne_iff_ne]; omega
        go_wp2_with fail
        go_quiet (fail)
        go_wp2_with fail
        rw [rounds_succ]
        go_wp2_with fail
        refine (K48.out _).mono ?_
        rintro e w' ⟨rfl, rfl⟩
        by_cases z48 : s.count 48 = 0
        · have y : ((s.count 48 : Int) != 0) = false := by simp [z48]
          go_wp2_with fail
          rw [rounds_succ]
          go_wp2_with fail
          go_meet
          exact ⟨by rw [HP.out, z48]; rfl, by rw [n0, decide_eq_true (by omega)], _, rfl⟩
        · have y : ((s.count 48 : Int) != 0) = true := by rw [bne_iff_ne]; omega
          go_wp2_with fail
          go_quiet (fail)
          go_wp2_with fail
          rw [rounds_succ]
          go_wp2_with fail
          go_meet
          exact ⟨by rw [HP.out]; go_num, by rw [n0, decide_eq_true (by omega)], _, rfl⟩
    · have m48 : w.cell? ⟨bt, 48, none⟩ = some (.slice (some ⟨x0, 0, none⟩) 2 c0) := (h2.cell 48).trans t0
      have m49 : w.cell? ⟨bt, 49, none⟩ = some (.slice (some ⟨x1, 0, none⟩) 1 c1) := (h2.cell 49).trans t1
      have hqn := fun (w : World) (a : Option Addr) (n c n' c' : Nat) => run_neq_slice_nil_any (P := Tryz.prog) w 72 5 a n c n' c' Tryz.underlying72
      have HC := Lib.hid hct
      have HP := Lib.hid hpl
      have HB := Lib.hid hbits
      clear hct hpl hbits a3 a4
      go_wp2_with fail
      go_loop [5, 6, 10, 11] (fun sz any i _ => ∃ k : Nat, k ≤ s.length ∧ i = .int .i64 k ∧ sz = .int .i64 (s.length + (s.take k).count 48) ∧ any = .bool (decide (0 < k))) (fun _ _ i _ => s.length - (intOf i).toNat)
      case atStart => exact ⟨0, Nat.zero_le _, rfl, by simp, by simp⟩
      case round =>
        obtain ⟨k, hk, rfl, rfl, rfl⟩ := hrel
        have hcl : (s.take k).count 48 ≤ 2000 := Nat.le_trans List.count_le_length (by simp; omega)
        by_cases hlt : k < s.length
        · have hks : k < (S s).size := by omega
          rcases Img.bit_at s HB.out k hlt with hc | ⟨hc, hc'⟩
          · have hbk : ∀ h, (S s)[k]'h = 48 := fun _ => hc
            go_wp2
            go_round
            case rel => exact ⟨k + 1, by omega, by go_num, by rw [Img.count_hit s k hlt hc]; go_num, by simp⟩
            case measure => simp [intOf]; omega
          · have hbk : ∀ h, (S s)[k]'h = 49 := fun _ => hc
            go_wp2
            go_round
            case rel => exact ⟨k + 1, by omega, by go_num, by rw [Img.count_miss s k hlt hc'], by simp⟩
            case measure => simp [intOf]; omega
        · obtain rfl : k = s.length := by omega
          go_wp2_with fail
          go_meet
          exact ⟨by rw [HP.out]; simp, by rw [n0], 0, rfl⟩
  case rest =>
    obtain ⟨rfl, rfl, q, rfl⟩ := hcut
    have hpl2 : (Img.phi s).length ≤ 4000 := by have : s.count 48 ≤ s.length := List.count_le_length
                                                omega
    by_cases he : s = []
    · subst he
      go_wp2
      go_ret
      exact ⟨rfl, (Below.refl _ _).trans ⟨rfl, rfl, rfl, Nat.le_refl _, fun _ _ => rfl⟩⟩
    · have ne : (!s.isEmpty) = true := by cases s <;> simp_all
      have hmk := run_make_row' (P := Tryz.prog) 72 5 (.int .u8 0) 1 Tryz.underlying72 info5 rfl .i64 .i64 (Img.phi s).length (by omega) (by omega) (w.drewN q)
      rw [ne]
      have hqn := fun (w : World) (a : Option Addr) (n c n' c' : Nat) => run_neq_slice_nil_any (P := Tryz.prog) w 72 5 a n c n' c' Tryz.underlying72
      have HP := Lib.hid hpl
      have HB := Lib.hid hbits
      have HE := Lib.hid he
      have HC := Lib.hid hct
      clear hpl hbits he hct a3 a4 cr ne
      have hB0 : Blk ((w.drewN q).alloc (.cells (madeCells #[.int .u8 0] (Img.phi s).length) 5)) w.heap.size 5 (madeCells #[.int .u8 0] (Img.phi s).length) := Blk.new (w.drewN q) 5 _
      have hBl0 : Below w.heap.size w ((w.drewN q).alloc (.cells (madeCells #[.int .u8 0] (Img.phi s).length) 5)) :=
        ((Below.refl w.heap.size w).trans ⟨rfl, rfl, rfl, Nat.le_refl _, fun _ _ => rfl⟩ : Below w.heap.size w (w.drewN q)).alloc (Nat.le_refl _) _
      have hc0 : madeCells #[.int .u8 0] (Img.phi s).length = (fill (Img.phi s).length []).toArray := by
        apply Array.toList_inj.1
        rw [toList_madeCells_one]; simp [fill]
      rw [hc0] at hB0 hBl0 hmk
      clear hc0
      have HB0 := Lib.hid hB0
      have HBl0 := Lib.hid hBl0
      clear hB0 hBl0
      go_wp2_with fail
      go_loopw [13, 14, 15] (fun j i _ wr => ∃ k : Nat, k ≤ s.length ∧ i = .int .i64 k ∧ j = .int .i64 (Img.phi (s.take k)).length ∧ Hid (Blk wr w.heap.size 5 (fill (Img.phi s).length (Img.phi (s.take k))).toArray) ∧ Below w.heap.size w wr) (fun _ i _ _ => s.length - (intOf i).toNat)
      case atStart => exact ⟨0, Nat.zero_le _, rfl, by simp [Img.phi_nil], (by have h := HB0.out; rw [List.take_zero, Img.phi_nil]; exact h), HBl0.out⟩
      case round =>
        obtain ⟨k, hk, rfl, rfl, hblk, hbel⟩ := hrel
        have hle := Img.phi_take_le s k
        by_cases hlt : k < s.length
        · have hks : k < (S s).size := by omega
          rcases Img.bit_at s HB.out k hlt with hc | ⟨hc, hc'⟩
          · have hbk : ∀ h, (S s)[k]'h = 48 := fun _ => hc
            have m48 : wr.cell? ⟨bt, 48, none⟩ = some (.slice (some ⟨x0, 0, none⟩) 2 c0) := (hbel.cell (p := ⟨bt, 48, none⟩) h2.lt).trans ((h2.cell 48).trans t0)
            have hp := Img.phi_48 s k hlt hc
            have hpl3 : (Img.phi (s.take k)).length + 2 ≤ (Img.phi s).length := by have := Img.phi_take_le s (k + 1); rw [hp] at this; simpa using this
            have HPP := Lib.hid hp
            clear hp
            have hneq : ¬ (Img.phi s).length = (Img.phi (s.take k)).length := by omega
            go_wp2_with fail
            have r0 : wr.cell? ⟨x0, 0, none⟩ = some (.int .u8 48) := (hbel.cell (p := ⟨x0, 0, none⟩) l0).trans a0
            have r1 : wr.cell? ⟨x0, 1, none⟩ = some (.int .u8 49) := (hbel.cell (p := ⟨x0, 1, none⟩) l0).trans a1
            have q1 : Hid (∀ j v, ([(48 : UInt8), 49].map fun c => Value.int .u8 c.toNat)[j]? = some v → wr.drew.cell? ((⟨x0, 0, none⟩ : Addr).add j) = some v) := fun j v hj => by
              match j, hj with
              | 0, hj => cases hj; exact r0
              | 1, hj => cases hj; exact r1
            have q2 : Hid (([(48 : UInt8), 49].map fun c => Value.int .u8 c.toNat).length = Nat.min 2 ((Img.phi s).length - (Img.phi (s.take k)).length)) := by show 2 = min _ _; omega
            have q3 : Hid ((Img.phi (s.take k)).length + ([(48 : UInt8), 49].map fun c => Value.int .u8 c.toNat).length ≤ (fill (Img.phi s).length (Img.phi (s.take k))).length) := by show _ ≤ _; rw [fill_len _ _ hle]; simpa using hpl3
            have q4 : Hid (∀ v ∈ ([(48 : UInt8), 49].map fun c => Value.int .u8 c.toNat), v.oneCell' = true) := fun v hv => by simp at hv; rcases hv with rfl | rfl <;> rfl
            clear r0 r1
            go_region_law (refine step_copy_splice rfl (.tmp 105) (.tmp 111) 72 72 rfl 5 Tryz.underlying72 size5 (some ⟨w.heap.size, (Img.phi (s.take k)).length, none⟩) (some ⟨x0, 0, none⟩) ((Img.phi s).length - (Img.phi (s.take k)).length) ((Img.phi s).length - (Img.phi (s.take k)).length) 2 c0 (by simp [Act.eval, Act.put]) (by simp [Act.eval, Act.put]) w.heap.size (Img.phi (s.take k)).length (fill (Img.phi s).length (Img.phi (s.take k))) 5 hblk.out ([(48 : UInt8), 49].map fun c => .int .u8 c.toNat) q2.out (fun _ => ⟨rfl, _, rfl, q1.out⟩) q3.out q4.out w.heap.size w hbel.drew (Nat.le_refl _) ?_; intro w4 hg4 hb4)
            rename_i w4 hg4 hb4
            go_wp2
            go_roundw
            case rel => exact ⟨k + 1, by omega, by go_num, by rw [HPP.out, List.length_append]; go_num, by
              have h := hg4.out
              rw [fill_splice _ _ [48, 49] (by simpa using hpl3), ← HPP.out] at h
              exact h, hb4⟩
            case measure => simp [intOf]; omega
          · have hbk : ∀ h, (S s)[k]'h = 49 := fun _ => hc
            have m49 : wr.cell? ⟨bt, 49, none⟩ = some (.slice (some ⟨x1, 0, none⟩) 1 c1) := (hbel.cell (p := ⟨bt, 49, none⟩) h2.lt).trans ((h2.cell 49).trans t1)
            have hp := Img.phi_49 s k hlt hc
            have hpl3 : (Img.phi (s.take k)).length + 1 ≤ (Img.phi s).length := by have := Img.phi_take_le s (k + 1); rw [hp] at this; simpa using this
            have HPP := Lib.hid hp
            clear hp
            have hneq : ¬ (Img.phi s).length = (Img.phi (s.take k)).length := by omega
            go_wp2_with fail
            have r0 : wr.cell? ⟨x1, 0, none⟩ = some (.int .u8 48) := (hbel.cell (p := ⟨x1, 0, none⟩) l1).trans a2
            have q1 : Hid (∀ j v, ([(48 : UInt8)].map fun c => Value.int .u8 c.toNat)[j]? = some v → wr.drew.cell? ((⟨x1, 0, none⟩ : Addr).add j) = some v) := fun j v hj => by
              match j, hj with
              | 0, hj => cases hj; exact r0
            have q2 : Hid (([(48 : UInt8)].map fun c => Value.int .u8 c.toNat).length = Nat.min 1 ((Img.phi s).length - (Img.phi (s.take k)).length)) := by show 1 = min _ _; omega
            have q3 : Hid ((Img.phi (s.take k)).length + ([(48 : UInt8)].map fun c => Value.int .u8 c.toNat).length ≤ (fill (Img.phi s).length (Img.phi (s.take k))).length) := by show _ ≤ _; rw [fill_len _ _ hle]; simpa using hpl3
            have q4 : Hid (∀ v ∈ ([(48 : UInt8)].map fun c => Value.int .u8 c.toNat), v.oneCell' = true) := fun v hv => by simp at hv; subst hv; rfl
            clear r0
            go_region_law (refine step_copy_splice rfl (.tmp 105) (.tmp 111) 72 72 rfl 5 Tryz.underlying72 size5 (some ⟨w.heap.size, (Img.phi (s.take k)).length, none⟩) (some ⟨x1, 0, none⟩) ((Img.phi s).length - (Img.phi (s.take k)).length) ((Img.phi s).length - (Img.phi (s.take k)).length) 1 c1 (by simp [Act.eval, Act.put]) (by simp [Act.eval, Act.put]) w.heap.size (Img.phi (s.take k)).length (fill (Img.phi s).length (Img.phi (s.take k))) 5 hblk.out ([(48 : UInt8)].map fun c => .int .u8 c.toNat) q2.out (fun _ => ⟨rfl, _, rfl, q1.out⟩) q3.out q4.out w.heap.size w hbel.drew (Nat.le_refl _) ?_; intro w4 hg4 hb4)
            rename_i w4 hg4 hb4
            go_wp2
            go_roundw
            case rel => exact ⟨k + 1, by omega, by go_num, by rw [HPP.out, List.length_append]; go_num, by
              have h := hg4.out
              rw [fill_splice _ _ [48] (by simpa using hpl3), ← HPP.out] at h
              exact h, hb4⟩
            case measure => simp [intOf]; omega
        · obtain rfl : k = s.length := by omega
          rw [List.take_length] at hblk
          have hfs : fill (Img.phi s).length (Img.phi s) = (Img.phi s).map (fun c => Value.int .u8 c.toNat) := by simp [fill]
          rw [hfs] at hblk
          have hcv := run_convert_bytes_back (P := Tryz.prog) wr 72 9 5 ⟨w.heap.size, 0, none⟩ (Img.phi s).length (Img.phi s) Tryz.underlying72 Tryz.underlying5 Tryz.underlying9 (fun j hj => by
            have hadd : (⟨w.heap.size, 0, none⟩ : Addr).add j = ⟨w.heap.size, j, none⟩ := by unfold Addr.add; split <;> simp_all
            rw [hadd, hblk.out.cell j]
            simp [hj])
          clear hfs
          go_wp2
          go_ret
          exact ⟨rfl, hbel⟩
end Go.Proofs.YtpnnhmeaccdjpaaGreatDoor
