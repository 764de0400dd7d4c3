/- Encode of a number returns its numeral, and 'awake' is true. -/
import Derived.Test.YtpnnhmeaccdjpaaGreatDoorWord
import Derived.IntWalk
import Derived.Deep.AppendLies
namespace Go.Proofs.YtpnnhmeaccdjpaaGreatDoor
open Go.RowKit Go.Shelf

theorem ret_int {k : IntKind} {a b : Int} (h : a = b) : Ending.returned (.int k a) = .returned (.int k b) := by rw [h]

set_option maxHeartbeats 400000 in
theorem fib_any (n : Int) (w : World) (h0 : 0 ≤ n) (h1 : n ≤ 80) :
    Calls Tryz.prog 33 #[.int .i64 n] w fun e w' => e = .returned (.int .i64 (Fibo.fib n.toNat)) ∧ w = w' := by
  obtain ⟨n, rfl⟩ := Int.eq_ofNat_of_zero_le h0
  rw [Int.toNat_natCast]
  go_enter Tryz.func33, Tryz.ntmps33
  go_wp2
  go_loop [3, 4, 6] (fun a b i => ∃ k : Nat, k ≤ n ∧ i = .int .i64 k ∧ a = .int .i64 (Fibo.fib k) ∧ b = .int .i64 (Fibo.fib (k + 1))) (fun _ _ i => n - (intOf i).toNat)
  case atStart => exact ⟨0, Nat.zero_le _, rfl, rfl, rfl⟩
  case round =>
    obtain ⟨k, hk, rfl, rfl, rfl⟩ := hrel
    have b0 := Fibo.fib_le (k := k) (by omega)
    have b1 := Fibo.fib_le (k := k + 1) (by omega)
    by_cases hlt : k < n
    · go_wp2
      go_round
      case rel => exact ⟨k + 1, by omega, by go_num, rfl, by rw [Fibo.fib_step]; go_num⟩
      case measure => simp [intOf]; omega
    · obtain rfl : k = n := by omega
      go_wp2
      go_ret
      exact ⟨rfl, rfl⟩

theorem info3 : (Tryz.prog.info? 3).map (fun i => (i.zero, i.size, i.bytes)) = some (some (.int .i64 0), 1, 8) := by kernel_rfl

def I (n : Nat) : Value := .int .i64 n

set_option maxHeartbeats 1000000 in
set_option maxRecDepth 100000 in
theorem enc_any (n : Int) (w : World) (h0 : 0 ≤ n) (h1 : n ≤ 1000000000000) :
    Calls Tryz.prog 25 #[.int .i64 n] w fun e w' => ∃ v, e = .returned v ∧ w'.ownsRow w.heap.size 3 1 v (Fibo.enc 60 n.toNat).length ((Fibo.enc 60 n.toNat).map I) ∧ Below w.heap.size w w' := by
  obtain ⟨n, rfl⟩ := Int.eq_ofNat_of_zero_le h0
  rw [Int.toNat_natCast]
  obtain ⟨i0, hi, hz0, hz1, hz2⟩ := info_parts info3
  have hf : n < Fibo.fib 61 := by have : Fibo.fib 61 = 2504730781961 := by decide +kernel
                                  omega
  go_enter Tryz.func25, Tryz.ntmps25
  go_wp2_with fail
  go_loopw [0, 3, 4, 5] (fun m v kk _ wr => ∃ (k r : Nat) (acc : List Nat), kk = .int .i64 k ∧ m = .int .i64 r ∧ k ≤ 60 ∧ r ≤ n ∧ r < Fibo.fib (k + 1) ∧ acc ++ Fibo.enc k r = Fibo.enc 60 n ∧ acc.length + k ≤ 60 ∧ wr.ownsRow w.heap.size 3 1 v acc.length (acc.map I) ∧ Below w.heap.size w wr) (fun _ _ kk _ _ => (intOf kk).toNat)
  case atStart => exact ⟨60, n, [], rfl, rfl, by omega, by omega, hf, rfl, by simp, World.ownsRow_lit w #[] 0 (Nat.le_refl _) (by simp) (by simp), (Below.refl _ _).alloc (Nat.le_refl _) _⟩
  case round =>
    obtain ⟨k, r, acc, rfl, rfl, hk, hr, hlt, hacc, hlen, hown, hb⟩ := hrel
    have Hacc := Lib.hid hacc
    clear hacc
    have HR := Lib.hid hr
    clear hr
    by_cases hr0 : r = 0
    · subst hr0
      go_wp2_with fail
      go_ret
      rw [Fibo.enc_zero, List.append_nil] at Hacc
      rw [← Hacc.out]
      exact ⟨_, rfl, hown, hb⟩
    · obtain ⟨k, rfl⟩ : ∃ j, k = j + 1 := ⟨k - 1, by
        rcases k with _ | k
        · have : Fibo.fib (0 + 1) = 1 := rfl
          omega
        · omega⟩
      have hrb : r < 9000000000000000000 := Nat.lt_of_lt_of_le hlt (Nat.le_trans (Fibo.fib_le (by omega)) (by decide))
      have HLT := Lib.hid hlt
      clear hlt h0 h1 hf
      have hfb : (Fibo.fib (k + 1) : Int) ≤ 2880067194370816120 := by have := Fibo.fib_le (k := k + 1) (by omega); omega
      by_cases hle : Fibo.fib (k + 1) ≤ r
      · go_wp2_with fail
        refine (fib_any _ _ (by omega) (by omega)).mono ?_
        rintro e w' ⟨rfl, rfl⟩
        have he : ((k : Int) + 1).toNat = k + 1 := by omega
        rw [he]
        go_wp2_with (at_builtin; go_must (refine wpList_append_own _ rfl _ _ 64 rfl w.heap.size 3 i0 (.int .i64 0) 1 8 Tryz.underlying64 hi hz0 hz1 hz2 rfl (by decide) _ _ _ rfl (hown.alloc _) ⟨wr.heap.size, 0, none⟩ 1 1 [.int .i64 (k + 1)] rfl rfl ?c1 ?c2 ?c3 ?c4 ?c5 ?_))
        case c1 =>
          intro j u hj
          match j, hj with
          | 0, hj => simp at hj; subst hj; simp [Addr.add]
        case c2 => intro u hu; simp at hu; subst hu; rfl
        case c3 => unfold maxLen; omega
        case c4 => omega
        case c5 => have := hb.size; simp; omega
        · intro v' w1 hown' hgrow _
          have hl' := (hown.alloc (.cells #[.int .i64 (k + 1)] 3)).lt
          go_wp2
          go_roundw
          case rel =>
            refine ⟨k, r - Fibo.fib (k + 1), acc ++ [k + 1], by go_num, by congr 1; omega, by omega, Nat.le_trans (Nat.sub_le _ _) HR.out, Fibo.rest_lt HLT.out hle, ?_, by simp; omega, ?_, ?_⟩
            · rw [← Hacc.out, Fibo.enc_take hr0 hle, List.append_assoc]; rfl
            · simpa [I] using hown'
            · exact (hb.alloc hb.size _).grown hgrow (by have := hb.size; simp; omega) (fun g hg => (hl' g hg).1)
          case measure => simp [intOf]
      · go_wp2_with fail
        refine (fib_any _ _ (by omega) (by omega)).mono ?_
        rintro e w' ⟨rfl, rfl⟩
        have he : ((k : Int) + 1).toNat = k + 1 := by omega
        rw [he]
        go_wp2
        go_roundw
        case rel => exact ⟨k, r, acc, by go_num, rfl, by omega, HR.out, by omega, by rw [← Hacc.out, Fibo.enc_skip hr0 hle], by omega, hown, hb⟩
        case measure => simp [intOf]

set_option maxRecDepth 100000 in
set_option maxHeartbeats 1000000 in
theorem encode_four (w : World) :
    Calls Tryz.prog 11 #[.int .i64 4] w fun e w' => ∃ v, e = .returned (.tuple #[v, .int .i64 0]) ∧ w'.ownsRow w.heap.size 3 1 v 2 [.int .i64 4, .int .i64 2] ∧ Below w.heap.size w w' := by
  have hcon := enc_any 4 w (by omega) (by omega)
  have e : Fibo.enc 60 (4 : Int).toNat = [4, 2] := by decide +kernel
  rw [e] at hcon
  clear e
  go_enter Tryz.func11, Tryz.ntmps11
  go_wp2_with (first | (go_at_call 25; refine hcon.mono ?_; rintro e w' ⟨v, rfl, hown, hB⟩) | (go_at_call 24; go_in))
  go_ret2
  exact ⟨_, rfl, hown, hB⟩

set_option maxRecDepth 100000 in
set_option maxHeartbeats 1000000 in
/-- The numeral of 4 is told. -/
theorem awake_ok (w : World) : Calls Tryz.prog 5 #[] w fun e w' => e = .returned (.bool true) ∧ Below w.heap.size w w' := by
  have hcon := encode_four w
  go_enter Tryz.func5, Tryz.ntmps5
  go_wp2_with fail
  refine hcon.mono ?_
  rintro e w' ⟨v, rfl, hown, hB⟩
  obtain ⟨g, cap, rfl, hg, hlt⟩ := hown.form (by omega)
  go_wp2_with fail
  have hc1 : ∀ j, j < [(4 : Int), 2].length → (w'.alloc (.cells #[.int .i64 4, .int .i64 2] 3)).cell? ⟨g, 0 + j, none⟩ = some (.int .i64 ([(4 : Int), 2].getD j 0)) := fun j hj => by
    rw [Nat.zero_add, World.cell?_alloc_past _ _ _ hlt, hown.cellAt j (by simpa using hj)]
    match j, hj with
    | 0, _ => rfl
    | 1, _ => rfl
  have hc2 : ∀ j, j < [(4 : Int), 2].length → (w'.alloc (.cells #[.int .i64 4, .int .i64 2] 3)).cell? ⟨w'.heap.size, 0 + j, none⟩ = some (.int .i64 ([(4 : Int), 2].getD j 0)) := fun j hj => by
    match j, hj with
    | 0, _ => simp
    | 1, _ => simp
  have heq := Any.slices_Equal_int Tryz.lays111 g 0 2 cap w'.heap.size 0 2 2 [4, 2] [4, 2] _ (by simp) (by simp) (by omega) (by omega) hc1 hc2
  change Calls Tryz.prog 12 _ _ _ at heq
  refine heq.mono ?_
  rintro e w2 ⟨rfl, q, rfl⟩
  go_wp2
  go_ret
  exact ⟨rfl, (hB.alloc hB.size _).trans ⟨rfl, rfl, rfl, Nat.le_refl _, fun _ _ => rfl⟩⟩
end Go.Proofs.YtpnnhmeaccdjpaaGreatDoor
