/- Greatest common divisors. -/
import Derived.Test.YtkfdcccgpphcmaaGreatDoorBase
import Derived.BigQuiet
import Derived.Deep.QuietTactic
namespace Go.Proofs.YtkfdcccgpphcmaaGreatDoor
open Go.RowKit Go.Shelf

theorem gcd_round (x y g : Nat) (h : Nat.gcd x y = g) : Nat.gcd y (x % y) = g := by
  rw [← h, Nat.gcd_comm y, ← Nat.gcd_rec, Nat.gcd_comm]

set_option maxRecDepth 100000 in
theorem works_gcd (a b : Nat) (w : World) (ha : a ≤ 9223372036854775807) (hb : b ≤ 9223372036854775807) :
    Calls Tryz.prog 236 #[.int .i64 a, .int .i64 b] w fun e w' => e = .returned (.int .i64 (Nat.gcd a b)) ∧ Only [] w w' := by
  go_enter Tryz.func236, Tryz.ntmps236
  go_wp2_with fail
  go_loopw [0, 1] (fun u v wr => ∃ x y : Nat, u = .int .i64 x ∧ v = .int .i64 y ∧ x ≤ 9223372036854775807 ∧ y ≤ 9223372036854775807 ∧ Nat.gcd x y = Nat.gcd a b ∧ Only [] w wr) (fun _ v _ => (intOf v).toNat)
  case atStart => exact ⟨a, b, rfl, rfl, ha, hb, rfl, Only.refl _ _⟩
  case round =>
    obtain ⟨x, y, rfl, rfl, hx, hy, hg, hO⟩ := hrel
    have HG := Lib.hid hg
    clear hg
    by_cases h0 : y = 0
    · subst h0
      go_wp2_with fail
      go_ret
      exact ⟨by rw [← HG.out, Nat.gcd_zero_right]; rfl, hO⟩
    · have b0 : ((y : Int) == 0) = false := by simpa using h0
      have b1 : (y : Int) ≠ 0 := by omega
      have e1 : Int.tmod (x : Int) (y : Int) = ((x % y : Nat) : Int) := Int.ofNat_tmod x y |>.symm
      have hlt : x % y < y := Nat.mod_lt _ (by omega)
      go_wp2_with fail
      go_quiet (fail)
      go_wp2_with fail
      go_roundw
      case rel => exact ⟨y, x % y, rfl, by simp, hy, by omega, gcd_round x y _ HG.out, hO.drewN _⟩
      case measure => simp [intOf]; omega
set_option maxRecDepth 100000 in
theorem covers_gcd (a b : Nat) (w : World) (ha : a ≤ 9223372036854775807) (hb : b ≤ 9223372036854775807) :
    Calls Tryz.prog 235 #[.int .i64 a, .int .i64 b] w fun e w' => e = .returned (.int .i64 (Nat.gcd a b)) ∧ Only [] w w' := by
  go_enter Tryz.func235, Tryz.ntmps235
  go_wp2_with fail
  go_loopw [0, 1] (fun u v wr => ∃ x y : Nat, u = .int .i64 x ∧ v = .int .i64 y ∧ x ≤ 9223372036854775807 ∧ y ≤ 9223372036854775807 ∧ Nat.gcd x y = Nat.gcd a b ∧ Only [] w wr) (fun _ v _ => (intOf v).toNat)
  case atStart => exact ⟨a, b, rfl, rfl, ha, hb, rfl, Only.refl _ _⟩
  case round =>
    obtain ⟨x, y, rfl, rfl, hx, hy, hg, hO⟩ := hrel
    have HG := Lib.hid hg
    clear hg
    by_cases h0 : y = 0
    · subst h0
      go_wp2_with fail
      go_ret
      exact ⟨by rw [← HG.out, Nat.gcd_zero_right]; rfl, hO⟩
    · have b0 : ((y : Int) == 0) = false := by simpa using h0
      have b1 : (y : Int) ≠ 0 := by omega
      have e1 : Int.tmod (x : Int) (y : Int) = ((x % y : Nat) : Int) := Int.ofNat_tmod x y |>.symm
      have hlt : x % y < y := Nat.mod_lt _ (by omega)
      go_wp2_with fail
      go_quiet (fail)
      go_wp2_with fail
      go_roundw
      case rel => exact ⟨y, x % y, rfl, by simp, hy, by omega, gcd_round x y _ HG.out, hO.drewN _⟩
      case measure => simp [intOf]; omega
set_option maxRecDepth 100000 in
theorem covers_gcd_q (a b : Nat) (w : World) (ha : a ≤ 9223372036854775807) (hb : b ≤ 9223372036854775807) :
    Calls Tryz.prog 235 #[.int .i64 a, .int .i64 b] w fun e w' => e = .returned (.int .i64 (Nat.gcd a b)) ∧ ∃ n, w' = w.drewN n := by
  go_enter Tryz.func235, Tryz.ntmps235
  go_wp2_with fail
  go_loopw [0, 1] (fun u v wr => ∃ x y : Nat, u = .int .i64 x ∧ v = .int .i64 y ∧ x ≤ 9223372036854775807 ∧ y ≤ 9223372036854775807 ∧ Nat.gcd x y = Nat.gcd a b ∧ ∃ n, wr = w.drewN n) (fun _ v _ => (intOf v).toNat)
  case atStart => exact ⟨a, b, rfl, rfl, ha, hb, rfl, 0, rfl⟩
  case round =>
    obtain ⟨x, y, rfl, rfl, hx, hy, hg, ⟨nn, rfl⟩⟩ := hrel
    have HG := Lib.hid hg
    clear hg
    by_cases h0 : y = 0
    · subst h0
      go_wp2_with fail
      go_ret
      exact ⟨by rw [← HG.out, Nat.gcd_zero_right]; rfl, nn, rfl⟩
    · have b0 : ((y : Int) == 0) = false := by simpa using h0
      have b1 : (y : Int) ≠ 0 := by omega
      have e1 : Int.tmod (x : Int) (y : Int) = ((x % y : Nat) : Int) := Int.ofNat_tmod x y |>.symm
      have hlt : x % y < y := Nat.mod_lt _ (by omega)
      go_wp2_with fail
      go_quiet (fail)
      go_wp2_with fail
      go_roundw
      case rel => exact ⟨y, x % y, rfl, by simp, hy, by omega, gcd_round x y _ HG.out, _, World.drewN_drewN _ _ _⟩
      case measure => simp [intOf]; omega
end Go.Proofs.YtkfdcccgpphcmaaGreatDoor
