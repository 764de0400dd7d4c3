/- Numbers of a line: what Atoi, Itoa and number return. -/
import Derived.Test.YtkfdcccgpphcmaaGreatDoorBase
import Derived.Lib.AtoiErrMem
import Derived.Lib.AppendIntMem
import Derived.Lib.ItoaLen
import Derived.Lib.ItoaMem
import Derived.Lib.AtoiAllCases
import Derived.Shelf.Strconv.ErrVarAll
import Derived.Shelf.Small.Wraps
namespace Go.Proofs.YtkfdcccgpphcmaaGreatDoor
open Go.RowKit Go.Shelf

theorem atoi_good (w : World) (s : ByteArray) (hs : s.size ≤ 1000) (v : Int) (h : Lib.atoiAll s.data.toList = .ok v) :
    Calls Tryz.prog 33 #[.string s] w fun e w' => e = .returned (.tuple #[.int .i64 v, .nilIface]) ∧ Below w.heap.size w w' :=
  (Any.strconv_Atoi_ok Tryz.laysC172 s (by omega) v h w).mono fun e w' ⟨he, hw⟩ => ⟨he, by
    rcases hw with rfl | ⟨t, rfl⟩
    · exact Below.refl _ _
    · exact Lib.bytesWorld_below _ _ _⟩
theorem atoi_bad {B : Nat} (w : World) (hB : Base B w) (s : ByteArray) (hs : s.size ≤ 1000) (h : ∀ v, Lib.atoiAll s.data.toList ≠ .ok v) :
    Calls Tryz.prog 33 #[.string s] w fun e w' => ∃ n t p, e = .returned (.tuple #[.int .i64 n, .iface t p]) ∧ Below w.heap.size w w' := by
  obtain ⟨t, p, hes⟩ := hB.es
  obtain ⟨t', p', her⟩ := hB.er
  cases hc : Lib.atoiAll s.data.toList with
  | ok v => exact absurd hc (h v)
  | range => exact (Any.strconv_Atoi_range_var Tryz.laysC172 s (by omega) hc t' p' w her.1).mono fun e w' ⟨N, he, _, _, hb⟩ => ⟨_, _, _, he, hb⟩
  | _ => exact (Any.strconv_Atoi_syntax_var Tryz.laysC172 s (by omega) hc t p w hes.1).mono fun e w' ⟨N, he, _, _, hb⟩ => ⟨_, _, _, he, hb⟩
theorem itoa_any {B : Nat} (w : World) (hB : Base B w) (n : Int) (h0 : -9223372036854775808 ≤ n) (h1 : n ≤ 9223372036854775807) :
    Calls Tryz.prog 19 #[.int .i64 n] w fun e w' => e = .returned (.string ⟨(Lib.itoa n).toArray⟩) ∧ Below w.heap.size w w' :=
  (Any.strconv_Itoa Tryz.laysM171 n h0 h1 w hB.pw.1).mono fun e w' ⟨he, k, os, hw⟩ => ⟨he, hw ▸ Lib.below_grow _ w (Nat.le_refl _) k os⟩

/-- The digits of a number's text, and whether a sign is ahead. -/
def numD (l : List UInt8) : List UInt8 := Lib.trimPrefix l [45]
def numM (l : List UInt8) : Bool := Lib.hasPrefix l [45]
/-- What the digits read as. -/
def numN (l : List UInt8) : Option Int := match Lib.atoiAll (numD l) with
  | .ok n => if (numD l).length ≤ 6 ∧ Lib.itoa n = numD l ∧ 0 ≤ n then some n else none
  | _ => none
/-- What number reads. -/
def numOf (l : List UInt8) (signed : Bool) : Option Int := match numN l with
  | some n => if numM l = true then (if signed = true ∧ n ≠ 0 then some (-n) else none) else some n
  | none => none

theorem numD_len (l : List UInt8) : (numD l).length ≤ l.length := by
  unfold numD Lib.trimPrefix
  split
  · simp
  · exact Nat.le_refl _

theorem numD_size (s : ByteArray) (hs : s.size ≤ 1000) : (⟨(numD s.data.toList).toArray⟩ : ByteArray).size ≤ 1000 := by
  have h := numD_len s.data.toList
  have e : (⟨(numD s.data.toList).toArray⟩ : ByteArray).size = (numD s.data.toList).length := by show (numD s.data.toList).toArray.size = _; simp
  have e2 : s.data.toList.length = s.size := by rw [Array.length_toList]; rfl
  omega

theorem cut_minus (s : ByteArray) (w : World) :
    Calls Tryz.prog 67 #[.string s, .string ⟨#[45]⟩] w fun e w' => e = .returned (.tuple #[.string ⟨(numD s.data.toList).toArray⟩, .bool (numM s.data.toList)]) ∧ w = w' :=
  (Any.strings_CutPrefix Tryz.lays103 s ⟨#[45]⟩ w).mono fun e w' ⟨he, hw⟩ => ⟨he, hw.symm⟩

set_option maxRecDepth 100000 in
theorem number_bad1 {B : Nat} (w : World) (hB : Base B w) (s : ByteArray) (sg : Bool) (hs : s.size ≤ 1000) (h : ∀ v, Lib.atoiAll (numD s.data.toList) ≠ .ok v) :
    Calls Tryz.prog 163 #[.string s, .bool sg] w fun e w' => e = .returned (.tuple #[.int .i64 0, .bool false]) ∧ Below w.heap.size w w' := by
  have hcut := cut_minus s w
  have ha := atoi_bad w hB (⟨(numD s.data.toList).toArray⟩ : ByteArray) (numD_size s hs) h
  clear h
  generalize numD s.data.toList = d at hcut ha
  generalize numM s.data.toList = m at hcut
  go_enter Tryz.func163, Tryz.ntmps163
  go_wp2_with fail
  refine hcut.mono ?_
  rintro e w' ⟨rfl, rfl⟩
  go_wp2_with fail
  refine ha.mono ?_
  rintro e w1 ⟨n, t, p, rfl, hb⟩
  go_wp2_with fail
  go_ret2
  exact ⟨rfl, hb⟩

/-- The value and the word of what is read. -/
def numR (l : List UInt8) (sg : Bool) : Value := .tuple #[.int .i64 ((numOf l sg).getD 0), .bool (numOf l sg).isSome]

set_option maxRecDepth 100000 in
theorem number_good {B : Nat} (w : World) (hB : Base B w) (s : ByteArray) (sg : Bool) (hs : s.size ≤ 1000) (v : Int) (h : Lib.atoiAll (numD s.data.toList) = .ok v) :
    Calls Tryz.prog 163 #[.string s, .bool sg] w fun e w' => e = .returned (numR s.data.toList sg) ∧ Below w.heap.size w w' := by
  have hcut := cut_minus s w
  have ha := atoi_good w (⟨(numD s.data.toList).toArray⟩ : ByteArray) (numD_size s hs) v h
  obtain ⟨v0, v1⟩ := Lib.atoiAll_bounds h
  have hr : numR s.data.toList sg = if (numD s.data.toList).length ≤ 6 ∧ Lib.itoa v = numD s.data.toList ∧ 0 ≤ v ∧ (numM s.data.toList = true → sg = true ∧ v ≠ 0) then .tuple #[.int .i64 (if numM s.data.toList then -v else v), .bool true] else .tuple #[.int .i64 0, .bool false] := by
    have e : numN s.data.toList = if (numD s.data.toList).length ≤ 6 ∧ Lib.itoa v = numD s.data.toList ∧ 0 ≤ v then some v else none := by unfold numN; rw [h]
    unfold numR numOf
    rw [e]
    clear e h ha hcut
    generalize numD s.data.toList = d
    generalize Lib.itoa v = I
    by_cases c1 : d.length ≤ 6 <;> by_cases c2 : I = d <;> by_cases c3 : 0 ≤ v <;> cases c4 : numM s.data.toList <;> cases c5 : sg <;> by_cases c6 : v = 0 <;> simp [c1, c2, c3, c6]
  generalize numR s.data.toList sg = R at hr
  clear h
  generalize numD s.data.toList = d at hcut ha hr
  generalize numM s.data.toList = m at hcut hr
  by_cases h1 : d.length ≤ 6
  · by_cases h2 : Lib.itoa v = d
    · have b1 : decide ((6 : Int) < d.length) = false := by simp; omega
      have b2 : Lib.itoa v = d := h2
      by_cases h3 : 0 ≤ v
      · have b3 : decide (v < 0) = false := by simpa using h3
        cases m
        · rw [if_pos ⟨h1, h2, h3, fun h => by cases h⟩] at hr
          have HR := Lib.hid hr
          subst h2
          clear hr
          go_enter Tryz.func163, Tryz.ntmps163
          go_wp2_with fail
          refine hcut.mono ?_
          rintro e w' ⟨rfl, rfl⟩
          go_wp2_with fail
          refine ha.mono ?_
          rintro e w1 ⟨rfl, hb⟩
          go_wp2_with fail
          refine (itoa_any _ (hB.on hb) v v0 v1).mono ?_
          rintro e w2 ⟨rfl, hb2⟩
          go_wp2_with fail
          go_ret2
          exact ⟨by rw [HR.out]; rfl, hb.trans (hb2.mono hb.size)⟩
        · cases sg
          · rw [if_neg (fun h => by have := (h.2.2.2 rfl).1; cases this)] at hr
            have HR := Lib.hid hr
            subst h2
            clear hr
            go_enter Tryz.func163, Tryz.ntmps163
            go_wp2_with fail
            refine hcut.mono ?_
            rintro e w' ⟨rfl, rfl⟩
            go_wp2_with fail
            refine ha.mono ?_
            rintro e w1 ⟨rfl, hb⟩
            go_wp2_with fail
            refine (itoa_any _ (hB.on hb) v v0 v1).mono ?_
            rintro e w2 ⟨rfl, hb2⟩
            go_wp2_with fail
            go_ret2
            exact ⟨by rw [HR.out]; rfl, hb.trans (hb2.mono hb.size)⟩
          · by_cases h4 : v = 0
            · rw [if_neg (fun h => (h.2.2.2 rfl).2 h4)] at hr
              have HR := Lib.hid hr
              have b4 : (v == 0) = true := by simpa using h4
              subst h2
              clear hr h4
              go_enter Tryz.func163, Tryz.ntmps163
              go_wp2_with fail
              refine hcut.mono ?_
              rintro e w' ⟨rfl, rfl⟩
              go_wp2_with fail
              refine ha.mono ?_
              rintro e w1 ⟨rfl, hb⟩
              go_wp2_with fail
              refine (itoa_any _ (hB.on hb) v v0 v1).mono ?_
              rintro e w2 ⟨rfl, hb2⟩
              go_wp2_with fail
              go_ret2
              exact ⟨by rw [HR.out]; rfl, hb.trans (hb2.mono hb.size)⟩
            · rw [if_pos ⟨h1, h2, h3, fun _ => ⟨rfl, h4⟩⟩] at hr
              have HR := Lib.hid hr
              have b4 : (v == 0) = false := by simpa using h4
              subst h2
              clear hr h4
              go_enter Tryz.func163, Tryz.ntmps163
              go_wp2_with fail
              refine hcut.mono ?_
              rintro e w' ⟨rfl, rfl⟩
              go_wp2_with fail
              refine ha.mono ?_
              rintro e w1 ⟨rfl, hb⟩
              go_wp2_with fail
              refine (itoa_any _ (hB.on hb) v v0 v1).mono ?_
              rintro e w2 ⟨rfl, hb2⟩
              go_wp2_with fail
              go_ret2
              exact ⟨by rw [HR.out]; rfl, hb.trans (hb2.mono hb.size)⟩
      · have b3 : decide (v < 0) = true := by simpa using h3
        rw [if_neg (fun h => h3 h.2.2.1)] at hr
        have HR := Lib.hid hr
        subst h2
        clear hr
        go_enter Tryz.func163, Tryz.ntmps163
        go_wp2_with fail
        refine hcut.mono ?_
        rintro e w' ⟨rfl, rfl⟩
        go_wp2_with fail
        refine ha.mono ?_
        rintro e w1 ⟨rfl, hb⟩
        go_wp2_with fail
        refine (itoa_any _ (hB.on hb) v v0 v1).mono ?_
        rintro e w2 ⟨rfl, hb2⟩
        go_wp2_with fail
        go_ret2
        exact ⟨by rw [HR.out]; rfl, hb.trans (hb2.mono hb.size)⟩
    · rw [if_neg (fun h => h2 h.2.1)] at hr
      have b1 : decide ((6 : Int) < d.length) = false := by simp; omega
      have HR := Lib.hid hr
      have H2 := Lib.hid h2
      clear hr h2
      go_enter Tryz.func163, Tryz.ntmps163
      go_wp2_with fail
      refine hcut.mono ?_
      rintro e w' ⟨rfl, rfl⟩
      go_wp2_with fail
      refine ha.mono ?_
      rintro e w1 ⟨rfl, hb⟩
      go_wp2_with fail
      refine (itoa_any _ (hB.on hb) v v0 v1).mono ?_
      rintro e w2 ⟨rfl, hb2⟩
      go_wp2_with fail
      go_ret2
      exact ⟨by rw [HR.out]; rfl, hb.trans (hb2.mono hb.size)⟩
  · rw [if_neg (fun h => h1 h.1)] at hr
    have b1 : decide ((6 : Int) < d.length) = true := by simp; omega
    have HR := Lib.hid hr
    clear hr
    go_enter Tryz.func163, Tryz.ntmps163
    go_wp2_with fail
    refine hcut.mono ?_
    rintro e w' ⟨rfl, rfl⟩
    go_wp2_with fail
    refine ha.mono ?_
    rintro e w1 ⟨rfl, hb⟩
    go_wp2_with fail
    go_ret2
    exact ⟨by rw [HR.out]; rfl, hb⟩

theorem number_ok {B : Nat} (w : World) (hB : Base B w) (s : ByteArray) (sg : Bool) (hs : s.size ≤ 1000) :
    Calls Tryz.prog 163 #[.string s, .bool sg] w fun e w' => e = .returned (numR s.data.toList sg) ∧ Below w.heap.size w w' := by
  by_cases h : ∃ v, Lib.atoiAll (numD s.data.toList) = .ok v
  · obtain ⟨v, h⟩ := h
    exact number_good w hB s sg hs v h
  · have h' : ∀ v, Lib.atoiAll (numD s.data.toList) ≠ .ok v := fun v hv => h ⟨v, hv⟩
    have e : numR s.data.toList sg = .tuple #[.int .i64 0, .bool false] := by
      have e : numN s.data.toList = none := by
        unfold numN
        split
        · rename_i n hn
          exact absurd hn (h' n)
        · rfl
      unfold numR numOf
      rw [e]
      rfl
    rw [e]
    exact number_bad1 w hB s sg hs h'

/-- What is read is small. -/
theorem numN_bound {l : List UInt8} {n : Int} (h : numN l = some n) : 0 ≤ n ∧ n ≤ 999999 := by
  unfold numN at h
  split at h
  · rename_i v hv
    split at h
    · rename_i hc
      obtain ⟨c1, c2, c3⟩ := hc
      injection h with h
      subst h
      refine ⟨c3, ?_⟩
      obtain ⟨u, rfl⟩ := Int.eq_ofNat_of_zero_le c3
      rw [Lib.itoa_nonneg] at c2
      rw [← c2, Lib.decDigits_length] at c1
      have hlt := Lib.lt_pow_nDigits u
      have hp : 10 ^ Lib.nDigits u ≤ 10 ^ 6 := Nat.pow_le_pow_right (by omega) c1
      have h6 : (10 : Nat) ^ 6 = 1000000 := rfl
      omega
    · cases h
  · cases h
theorem numOf_bound {l : List UInt8} {sg : Bool} {n : Int} (h : numOf l sg = some n) : -999999 ≤ n ∧ n ≤ 999999 ∧ (sg = false → 0 ≤ n) := by
  unfold numOf at h
  split at h
  · rename_i v hv
    have := numN_bound hv
    split at h
    · split at h
      · rename_i hc
        injection h with h
        subst h
        exact ⟨by omega, by omega, fun hf => by rw [hf] at hc; cases hc.1⟩
      · cases h
    · injection h with h
      subst h
      exact ⟨by omega, by omega, fun _ => by omega⟩
  · cases h
end Go.Proofs.YtkfdcccgpphcmaaGreatDoor
