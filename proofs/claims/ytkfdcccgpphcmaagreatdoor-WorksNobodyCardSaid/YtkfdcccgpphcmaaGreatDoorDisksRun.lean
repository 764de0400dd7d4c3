/- The walk of WorksDisks, out of the contract of awake. -/
import Derived.Test.YtkfdcccgpphcmaaGreatDoorLaw
import Derived.BigQuiet
import Derived.Deep.QuietTactic
namespace Go.Proofs.YtkfdcccgpphcmaaGreatDoor
open Go.RowKit Go.Shelf

/-- An act of the argument. -/
structure OneAct where
  kind : Int
  n : Int
  s : ByteArray
  A : Option Addr
  kn : Nat
  kc : Nat
  K : List Int
def OneAct.kv (a : OneAct) : Value := .slice a.A a.kn a.kc

/-- The acts of the argument, in every world that has what w0 has. -/
def ActsIn (w0 : World) (b o n : Nat) (l : Nat → OneAct) : Prop :=
  ∀ i, i < n → (l i).s.size ≤ 9223372036854775807 ∧ (l i).n ≤ 9223372036854775807 ∧ -9223372036854775808 ≤ (l i).n ∧
    ∀ W, Below w0.heap.size w0 W → W.cell? ⟨b, o + i * 4, none⟩ = some (.int .i64 (l i).kind) ∧ W.cell? ⟨b, o + i * 4 + 1, none⟩ = some (.int .i64 (l i).n) ∧ W.cell? ⟨b, o + i * 4 + 2, none⟩ = some (.string (l i).s) ∧ W.cell? ⟨b, o + i * 4 + 3, none⟩ = some (l i).kv ∧
      Calls Tryz.prog 23 #[(l i).kv] W fun e w' => ∃ A n c', e = .returned (.slice A n c') ∧ (n ≤ 1000 ∧ (∀ M', (∀ g, g ∈ M' → g < W.heap.size) → IntsIn w' M' A n (l i).K)) ∧ Below W.heap.size W w'

def AwakeIn (w0 : World) : Prop := ∀ W, Below w0.heap.size w0 W → Calls Tryz.prog 13 #[] W fun e W' => e = .returned (.bool true) ∧ Below W.heap.size W W'

theorem Only.below_ {a w w' : World} (h : Below a.heap.size a w) (k : Only [] w w') : Below a.heap.size a w' := Only.fresh h k (by simp)

theorem touched_any (B bd bp br bP : Nat) (D : Dk) (k n : Int) (s : ByteArray) (kv : Value) (K : List Int) (w : World) (h : Twins w B bd bp br bP D) (hs : s.size ≤ 9223372036854775807) (hn : n ≤ 9223372036854775807) (hK : Listed w [bd, bp, br, bP] kv K) :
    Calls Tryz.prog 15 #[.pointer (some ⟨bd, 0, none⟩), .pointer (some ⟨br, 0, none⟩), .agg #[.int .i64 k, .int .i64 n, .string s, kv]] w fun e w' => e = .returned (.bool true) ∧ Twins w' B bd bp br bP (D.acted k n s K) ∧ Only [bd, bp, br, bP] w w' := by
  by_cases h3 : k = 3
  · subst h3; exact touched_fuse B bd bp br bP D n s kv w h hn
  by_cases h4 : k = 4
  · subst h4; exact touched_crash B bd bp br bP D n s kv K w h hK
  by_cases h6 : k = 6
  · subst h6; exact touched_write B bd bp br bP D n s kv w h hs
  by_cases h7 : k = 7
  · subst h7; exact touched_sync B bd bp br bP D n s kv w h
  rw [Dk.acted_other D k n s K h3 h4 h6 h7]
  exact touched_other B bd bp br bP D n s k kv w h h3 h4 h6 h7

set_option maxRecDepth 100000 in
theorem run_bad (w : World) (n : Int) (v : Value) (h : n < 1 ∨ 200 < n) (hA : AwakeIn w) :
    Calls Tryz.prog 4 #[.int .i64 n, v] w fun e w' => e = .returned (.bool true) ∧ Below w.heap.size w w' := by
  have hd := disks_bad n w h
  clear h
  have HA := Lib.hid hA
  clear hA
  go_enter Tryz.func4, Tryz.ntmps4
  go_wp2_with fail
  refine hd.mono ?_
  rintro e w1 ⟨rfl, rfl⟩
  go_wp2_with fail
  refine (HA.out _ (Below.refl _ _)).mono ?_
  rintro e w2 ⟨rfl, hB⟩
  go_wp2_with fail
  go_ret
  exact ⟨rfl, hB⟩

set_option maxRecDepth 100000 in
set_option maxHeartbeats 3200000 in
theorem run_some (w : World) (p : Nat) (h1 : 1 ≤ p) (h2 : p ≤ 200) (b o n c : Nat) (l : Nat → OneAct) (hn : n ≤ 9223372036854775807) (hnc : n ≤ c) (hc : c ≤ 9223372036854775807) (hl : ActsIn w b o n l) (hA : AwakeIn w) :
    Calls Tryz.prog 4 #[.int .i64 p, .slice (some ⟨b, o, none⟩) n c] w fun e w' => e = .returned (.bool true) ∧ Below w.heap.size w w' := by
  have HA := Lib.hid hA
  have HL := Lib.hid hl
  clear hA hl
  have hm : (min (n : Int) 50).toNat = min n 50 := by omega
  go_enter Tryz.func4, Tryz.ntmps4
  go_wp2_with fail
  refine (disks_ok p w h1 h2).mono ?_
  rintro e w1 ⟨bd, bp, br, bP, rfl, hT, hB⟩
  go_wp2_with fail
  go_loopw [9, 10, 11, 34] (fun _ _ _ i wr => ∃ (k : Nat) (D : Dk), k ≤ min n 50 ∧ i = .int .i64 k ∧ Hid (Twins wr w.heap.size bd bp br bP D) ∧ Below w.heap.size w wr) (fun _ _ _ i _ => min n 50 - (intOf i).toNat)
  case atStart => exact ⟨0, _, Nat.zero_le _, rfl, hT, hB⟩
  case round =>
    obtain ⟨k, D, hk, rfl, hD, hBk⟩ := hrel
    by_cases hlt : k < min n 50
    · obtain ⟨q1, q2, q3, q4⟩ := HL.out k (by omega)
      obtain ⟨c0, c1, c2, c3, hlist⟩ := q4 wr hBk
      have HQ := Lib.hid q4
      clear q4 hlist
      generalize hx : l k = x at q1 q2 q3 c0 c1 c2 c3 HQ
      obtain ⟨kind, m, s, A, kn, kc, K⟩ := x
      dsimp only [OneAct.kv] at q1 q2 q3 c0 c1 c2 c3 HQ
      obtain ⟨wa, hwa⟩ : ∃ wa, wa = wr.alloc (.cells #[.int .i64 kind, .int .i64 m, .string s, .slice A kn kc] 43) := ⟨_, rfl⟩
      have hBa : Below w.heap.size w wa := by rw [hwa]; exact hBk.alloc hBk.size _
      have hba : Blk wa wr.heap.size 43 #[.int .i64 kind, .int .i64 m, .string s, .slice A kn kc] := by rw [hwa]; exact Blk.new _ _ _
      have hTa : Twins wa w.heap.size bd bp br bP D := by rw [hwa]; exact hD.out.keep ((Only.refl _ _).alloc _)
      have hlts := hD.out.lts
      have hge : ∀ g, g ∈ [bd, bp, br, bP] → w.heap.size ≤ g := by
        have h1 := hTa.b1
        have h2 := hTa.b2
        have h3 := hTa.x.b1
        have h4 := hTa.x.b2
        intro g hg
        simp at hg
        omega
      have hLi : Listed wa [bd, bp, br, bP] (.slice A kn kc) K := fun W' hW' => (HQ.out W' (Only.fresh hBa hW' hge)).2.2.2.2
      have HT := Lib.hid hTa
      have HLI := Lib.hid hLi
      have HBA := Lib.hid hBa
      have HWA := Lib.hid hwa
      have HGE := Lib.hid hge
      have HLT := Lib.hid hlts
      clear hTa hLi hBa hwa hge hlts HQ
      go_wp2_with fail
      rw [← HWA.out]
      refine (touched_any w.heap.size bd bp br bP D kind m s (.slice A kn kc) K wa HT.out q1 q2 HLI.out).mono ?_
      rintro e w2 ⟨rfl, hT2, hO2⟩
      have hb2 := hO2.blk hba (by have := HLT.out; simp; omega)
      have hB2 := Only.fresh HBA.out hO2 HGE.out
      have k1 := hb2.cell 1
      generalize D.acted kind m s K = D' at hT2
      have d0 := hT2.x.cells.1
      have hhi := hT2.x.hi
      have HT2 := Lib.hid hT2
      clear hT2
      go_wp2_with fail
      refine (same_ok w.heap.size bd bp br bP D' w2 HT2.out).mono ?_
      rintro e w3 ⟨rfl, rfl⟩
      go_wp2_with fail
      refine (read_ok bd bp D' m _ HT2.out.d).mono ?_
      rintro e w3 ⟨rfl, rfl⟩
      by_cases ho : m < 0 ∨ (D'.now.length : Int) ≤ m
      · rw [show D'.read m = ⟨#[]⟩ from if_pos ho, show D'.readCode m = 2 from if_pos ho]
        by_cases hm0 : m < 0
        · have g1 : decide (m < 0) = true := by simpa using hm0
          clear ho hm0
          go_wp2_with fail
          go_quiet (fail)
          go_wp2_with fail
          go_roundw
          case rel => exact ⟨k + 1, D', by omega, by go_num, HT2.out.keep ((Only.refl _ _).drewN _), Only.below_ hB2 ((Only.refl [] _).drewN _)⟩
          case measure => simp [intOf]; omega
        · have g1 : decide (m < 0) = false := by simpa using hm0
          have g2 : decide ((D'.now.length : Int) ≤ m) = true := by simp; omega
          clear ho hm0
          go_wp2_with fail
          go_quiet (fail)
          go_wp2_with fail
          go_roundw
          case rel => exact ⟨k + 1, D', by omega, by go_num, HT2.out.keep ((Only.refl _ _).drewN _), Only.below_ hB2 ((Only.refl [] _).drewN _)⟩
          case measure => simp [intOf]; omega
      · have g1 : decide (m < 0) = false := by simp; omega
        have g2 : decide ((D'.now.length : Int) ≤ m) = false := by simp; omega
        clear ho
        go_wp2_with fail
        go_quiet (fail)
        go_wp2_with fail
        go_roundw
        case rel => exact ⟨k + 1, D', by omega, by go_num, HT2.out.keep ((Only.refl _ _).drewN _), Only.below_ hB2 ((Only.refl [] _).drewN _)⟩
        case measure => simp [intOf]; omega
    · obtain rfl : k = min n 50 := by omega
      go_wp2_with fail
      refine (HA.out _ hBk).mono ?_
      rintro e w2 ⟨rfl, hB2⟩
      go_wp2_with fail
      go_ret
      exact ⟨rfl, hBk.trans (hB2.mono hBk.size)⟩

set_option maxRecDepth 100000 in
theorem run_nil (w : World) (p : Nat) (h1 : 1 ≤ p) (h2 : p ≤ 200) (c : Nat) (hA : AwakeIn w) :
    Calls Tryz.prog 4 #[.int .i64 p, .slice none 0 c] w fun e w' => e = .returned (.bool true) ∧ Below w.heap.size w w' := by
  have HA := Lib.hid hA
  clear hA
  go_enter Tryz.func4, Tryz.ntmps4
  go_wp2_with fail
  refine (disks_ok p w h1 h2).mono ?_
  rintro e w1 ⟨bd, bp, br, bP, rfl, hT, hB⟩
  go_wp2_with fail
  refine wp_loop_rounds 1 ?_
  rw [rounds_succ]
  go_wp2_with fail
  refine (HA.out _ hB).mono ?_
  rintro e w2 ⟨rfl, hB2⟩
  go_wp2_with fail
  go_ret
  exact ⟨rfl, hB.trans (hB2.mono hB.size)⟩

set_option maxRecDepth 100000 in
theorem run_zero (w : World) (p : Nat) (h1 : 1 ≤ p) (h2 : p ≤ 200) (A : Option Addr) (c : Nat) (hA : AwakeIn w) :
    Calls Tryz.prog 4 #[.int .i64 p, .slice A 0 c] w fun e w' => e = .returned (.bool true) ∧ Below w.heap.size w w' := by
  have HA := Lib.hid hA
  clear hA
  go_enter Tryz.func4, Tryz.ntmps4
  go_wp2_with fail
  refine (disks_ok p w h1 h2).mono ?_
  rintro e w1 ⟨bd, bp, br, bP, rfl, hT, hB⟩
  go_wp2_with fail
  refine wp_loop_rounds 1 ?_
  rw [rounds_succ]
  go_wp2_with fail
  refine (HA.out _ hB).mono ?_
  rintro e w2 ⟨rfl, hB2⟩
  go_wp2_with fail
  go_ret
  exact ⟨rfl, hB.trans (hB2.mono hB.size)⟩
end Go.Proofs.YtkfdcccgpphcmaaGreatDoor
