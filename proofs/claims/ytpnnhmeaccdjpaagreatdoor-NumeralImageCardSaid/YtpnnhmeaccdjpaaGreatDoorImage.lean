/- The image of a word by a Replacer. -/
import Derived.Test.YtpnnhmeaccdjpaaGreatDoorRun
namespace Go.Proofs.YtpnnhmeaccdjpaaGreatDoor
open Go.RowKit Go.Shelf

set_option maxRecDepth 100000 in
set_option maxHeartbeats 1600000 in
theorem replace_ok (b : Nat) (s : List UInt8) (hbits : ∀ c ∈ s, c = 48 ∨ c = 49) (hlen : s.length ≤ 2000) (w : World) (hf : Fresh w b) :
    Calls Tryz.prog 7 #[.pointer (some ⟨b, 0, none⟩), .string (S s)] w fun e w' => e = .returned (.string (S (Img.phi s))) ∧ ∃ w1, w.grownBy w1 (some b) ∧ Below w1.heap.size w1 w' := by
  have hcon := do_ok b w hf
  have hmf : ∀ (fn : Fn) (first cap : Array Value) (w : World), (Instr.makeFunc fn first cap).run Tryz.prog w = .ok (.func fn first cap) w := fun _ _ _ _ => rfl
  go_enter Tryz.func7, Tryz.ntmps7
  go_wp2_with fail
  refine hcon.mono ?_
  rintro e w1 ⟨bt, rfl, hB1, hT, hG⟩
  have c3 : w1.cell? ⟨b, 3, none⟩ = some (.iface 89 (.pointer (some ⟨bt, 0, none⟩))) := hB1.cell 3
  have hrep := repl_ok w.heap.size bt s hbits hlen w1 hT
  go_wp2_with fail
  refine hrep.mono ?_
  rintro e w2 ⟨rfl, hB2⟩
  go_wp2
  go_ret
  exact ⟨rfl, w1, hG, hB2⟩

theorem word_bad (n : Int) (w : World) (h : n < 0 ∨ 2000 < n) :
    Calls Tryz.prog 4 #[.int .i64 n] w fun e w' => e = .returned (.tuple #[.string (S []), .int .i64 2]) ∧ w = w' := by
  rcases h with h | h
  · have hb : decide (n < 0) = true := by simpa using h
    go_enter Tryz.func4, Tryz.ntmps4
    go_wp2
    go_ret2
    exact ⟨rfl, rfl⟩
  · have hb : decide (n < 0) = false := by simp; omega
    have hb' : decide (2000 < n) = true := by simpa using h
    go_enter Tryz.func4, Tryz.ntmps4
    go_wp2
    go_ret2
    exact ⟨rfl, rfl⟩

set_option maxRecDepth 100000 in
set_option maxHeartbeats 1600000 in
/-- The law, where n is no length. -/
theorem law_bad (n k : Int) (w : World) (h : n < 0 ∨ 2000 < n) :
    Calls Tryz.prog 3 #[.int .i64 n, .int .i64 k] w fun e w' => e = .returned (.bool true) ∧ Below w.heap.size w w' := by
  have hcon := word_bad n w h
  have haw := awake_ok w
  go_enter Tryz.func3, Tryz.ntmps3
  go_wp2_with (first | (go_at_call 4; refine hcon.mono ?_; rintro e w' ⟨rfl, rfl⟩) | (go_at_call 5; refine haw.mono ?_; rintro e w' ⟨rfl, hB⟩))
  go_ret
  exact ⟨rfl, by assumption⟩
end Go.Proofs.YtpnnhmeaccdjpaaGreatDoor
