/- Word returns the beginning of the golden word, for 0 to 2000. -/
import Derived.Test.YtpnnhmeaccdjpaaGreatDoorPlain
import Derived.Test.YtpnnhmeaccdjpaaGreatDoorShelf
import Derived.WalkKit
import Derived.WalkSpells
import Derived.Outline
import Derived.Lib.Hide
namespace Go.Proofs.YtpnnhmeaccdjpaaGreatDoor
open Go.RowKit Go.Shelf

/-- A string out of bytes. -/
def S (l : List UInt8) : ByteArray := ⟨l.toArray⟩
theorem S_size (l : List UInt8) : (S l).size = l.length := by simp [S, ByteArray.size]

set_option maxHeartbeats 400000 in
theorem clone_any (s : ByteArray) (w : World) (hs : s.size ≤ 281474976710656) :
    Calls Tryz.prog 10 #[.string s] w fun e w' => e = .returned (.string s) ∧ Below w.heap.size w w' := by
  have hcon := Any.stringslite_Clone Tryz.laysM316 s w hs
  change Calls Tryz.prog 23 _ _ _ at hcon
  go_enter Tryz.func10, Tryz.ntmps10
  go_wp2_with (go_at_call 23; refine hcon.mono ?_; rintro e w' ⟨rfl, hB⟩)
  go_ret
  exact ⟨rfl, hB⟩

theorem S_append (a b : List UInt8) : S a ++ S b = S (a ++ b) := by
  apply ByteArray.ext
  simp [S, ByteArray.data_append]

theorem S_extract (l : List UInt8) (n : Nat) : (S l).extract 0 n = S (l.take n) := by
  apply ByteArray.ext
  simp [S]

set_option maxHeartbeats 1000000 in
theorem word_ok (n : Int) (w : World) (h0 : 0 ≤ n) (h1 : n ≤ 2000) :
    Calls Tryz.prog 4 #[.int .i64 n] w fun e w' => e = .returned (.tuple #[.string (S (Img.G.take n.toNat)), .int .i64 0]) ∧ Below w.heap.size w w' := by
  obtain ⟨n, rfl⟩ := Int.eq_ofNat_of_zero_le h0
  rw [Int.toNat_natCast]
  have hn : n ≤ 2000 := by omega
  have hb1 : decide ((n : Int) < 0) = false := by simp
  have hb2 : decide ((2000 : Int) < n) = false := by simp; omega
  go_enter Tryz.func4, Tryz.ntmps4
  go_wp2_with fail
  go_loop [4, 5] (fun a b => ∃ k : Nat, k ≤ 15 ∧ a = .string (S (Img.gw k)) ∧ b = .string (S (Img.gw (k + 1)))) (fun _ b => match b with | .string s => n - s.size | _ => 0)
  case atStart => exact ⟨0, by omega, rfl, rfl⟩
  case round =>
    obtain ⟨k, hk, rfl, rfl⟩ := hrel
    have hz := S_size (Img.gw (k + 1))
    have hz0 := S_size (Img.gw k)
    have hb0 : (Img.gw (k + 1)).length ≤ 2584 := by rw [← Img.G_len]; exact Img.len_mono (by omega)
    have hb1 : (Img.gw k).length ≤ 2584 := by rw [← Img.G_len]; exact Img.len_mono (by omega)
    by_cases hlt : (Img.gw (k + 1)).length < n
    · have hk' := Img.small hn hlt
      go_wp2_with fail
      go_round
      case rel => exact ⟨k + 1, by omega, rfl, by rw [S_append]; rfl⟩
      case measure =>
        have hp : 1 ≤ (Img.gw k).length := by have := Img.len_mono (Nat.zero_le k); simpa [Img.gw] using this
        simp [S_append, S_size]; omega
    · have hcl := clone_any (S (Img.G.take n))
      have e := Img.take_gw (k := k + 1) (n := n) (by omega) (by omega)
      have HE := Lib.hid e
      clear e
      go_wp2_with fail
      rw [S_extract, HE.out]
      refine (hcl _ ?_).mono ?_
      · rw [S_size]; simp; omega
      rintro e w' ⟨rfl, hB⟩
      go_wp2
      go_ret2
      exact ⟨rfl, hB⟩
end Go.Proofs.YtpnnhmeaccdjpaaGreatDoor
