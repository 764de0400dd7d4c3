/- Systems of days: what read, whole, count and Share of covers return. -/
import Derived.Test.YtkfdcccgpphcmaaGreatDoorState
import Derived.Test.YtkfdcccgpphcmaaGreatDoorGcd
import Derived.Test.YtkfdcccgpphcmaaGreatDoorLine
import Derived.IntWalk
import Derived.RegionTactic
namespace Go.Proofs.YtkfdcccgpphcmaaGreatDoor
open Go.RowKit Go.Shelf

/-- A day is one of a pair's. -/
def covB (p : Nat × Nat) (n : Nat) : Bool := ((n : Int) - p.1) % p.2 == 0
theorem covB_tmod (a m n : Nat) : (Int.tmod ((n : Int) - a) m == 0) = covB (a, m) n := by
  unfold covB
  rw [Bool.eq_iff_iff]
  simp only [beq_iff_eq]
  rw [← Int.dvd_iff_tmod_eq_zero, ← Int.dvd_iff_emod_eq_zero]

set_option maxRecDepth 100000 in
theorem pair_covers (a m n : Nat) (w : World) (h1 : 1 ≤ m) (h2 : m ≤ 999999) (h3 : a ≤ 999999) (h4 : n ≤ 999999) :
    Calls Tryz.prog 285 #[.agg #[.int .i64 a, .int .i64 m], .int .i64 n] w fun e w' => e = .returned (.bool (covB (a, m) n)) ∧ Below w.heap.size w w' := by
  have hb := covB_tmod a m n
  have m0 : (m : Int) ≠ 0 := by omega
  have HB := Lib.hid hb
  clear hb
  go_enter Tryz.func285, Tryz.ntmps285
  go_wp2_with fail
  go_ret
  exact ⟨by rw [← HB.out]; rfl, (Below.refl _ _).alloc (Nat.le_refl _) _⟩

/-- The cells of pairs. -/
def pairCells (l : List (Nat × Nat)) : List Value := l.flatMap fun p => [.int .i64 (p.1 : Nat), .int .i64 (p.2 : Nat)]
theorem pairCells_len (l : List (Nat × Nat)) : (pairCells l).length = l.length * 2 := by
  induction l with
  | nil => rfl
  | cons p r ih => simp [pairCells] at ih ⊢; omega
theorem pairCells_at : ∀ (l : List (Nat × Nat)) (k : Nat) (h : k < l.length), (pairCells l)[k * 2]? = some (.int .i64 (l[k].1 : Nat)) ∧ (pairCells l)[k * 2 + 1]? = some (.int .i64 (l[k].2 : Nat))
  | [], _, h => by simp at h
  | p :: r, 0, _ => ⟨rfl, rfl⟩
  | p :: r, k + 1, h => by
    have := pairCells_at r k (by simpa using h)
    rw [show (k + 1) * 2 = k * 2 + 2 by omega]
    exact this
/-- A slice of pairs of small numbers, in a block of its own. -/
structure PairsAt (w : World) (t : TypeId) (A : Option Addr) (n c : Nat) (l : List (Nat × Nat)) : Prop where
  own : w.ownsRow 0 t 2 (.slice A n c) n (pairCells l)
  len : l.length = n
  n10 : n ≤ 1000
  small : ∀ p, p ∈ l → p.2 ≤ 999999 ∧ p.1 ≤ 999999
theorem PairsAt.on {w w' : World} {t : TypeId} {A : Option Addr} {n c : Nat} {l : List (Nat × Nat)} (h : PairsAt w t A n c l) (hb : Below w.heap.size w w') : PairsAt w' t A n c l := ⟨own_on hb h.own, h.len, h.n10, h.small⟩
theorem PairsAt.at_ {w : World} {t : TypeId} {A : Option Addr} {n c : Nat} {l : List (Nat × Nat)} (h : PairsAt w t A n c l) {k : Nat} (hk : k < n) : ∃ g, A = some ⟨g, 0, none⟩ ∧ w.cell? ⟨g, k * 2, none⟩ = some (.int .i64 ((l[k]'(by rw [h.len]; exact hk)).1 : Nat)) ∧ w.cell? ⟨g, k * 2 + 1, none⟩ = some (.int .i64 ((l[k]'(by rw [h.len]; exact hk)).2 : Nat)) := by
  obtain ⟨g, cap, hv, _, _⟩ := h.own.form (by omega)
  injection hv with hA _ hc
  subst hA; subst hc
  have := pairCells_at l k (by rw [h.len]; exact hk)
  exact ⟨g, rfl, (h.own.cellAt (k * 2) (by omega)).trans this.1, (h.own.cellAt (k * 2 + 1) (by omega)).trans this.2⟩

/-- How many pairs cover a day. -/
def countL (l : List (Nat × Nat)) (n : Nat) : Nat := (l.filter fun p => covB p n).length
theorem countL_succ (l : List (Nat × Nat)) (n k : Nat) (h : k < l.length) : countL (l.take (k + 1)) n = countL (l.take k) n + if covB l[k] n = true then 1 else 0 := by
  unfold countL
  rw [List.take_succ_eq_append_getElem h, List.filter_append]
  by_cases hc : covB l[k] n = true <;> simp [hc]
theorem countL_le (l : List (Nat × Nat)) (n : Nat) : countL l n ≤ l.length := List.length_filter_le _ _

set_option maxRecDepth 100000 in
theorem count_ok (w : World) (A : Option Addr) (c d : Nat) (l : List (Nat × Nat)) (n : Nat) (h : PairsAt w 297 A d c l) (hn : n ≤ 999999) (hpos : ∀ p, p ∈ l → 1 ≤ p.2) :
    Calls Tryz.prog 234 #[.slice A d c, .int .i64 n] w fun e w' => e = .returned (.int .i64 (countL l n)) ∧ Below w.heap.size w w' := by
  have hd := h.n10
  have H := Lib.hid h
  have HPOS := Lib.hid hpos
  clear h hpos
  go_enter Tryz.func234, Tryz.ntmps234
  go_wp2_with fail
  go_loopw [5, 10] (fun o i wr => ∃ k : Nat, k ≤ d ∧ i = .int .i64 k ∧ o = .int .i64 (countL (l.take k) n) ∧ Hid (Below w.heap.size w wr)) (fun _ i _ => d - (intOf i).toNat)
  case atStart => exact ⟨0, Nat.zero_le _, rfl, rfl, Below.refl _ _⟩
  case round =>
    obtain ⟨k, hk, rfl, rfl, hB⟩ := hrel
    have hcl := countL_le (l.take k) n
    have hll : countL (l.take k) n ≤ 1000 := by simp at hcl; omega
    clear hcl
    by_cases hlt : k < d
    · have hkl : k < l.length := by rw [H.out.len]; exact hlt
      obtain ⟨g, rfl, c0, c1⟩ := (H.out.on hB.out).at_ hlt
      have hs : 1 ≤ (l[k]).2 ∧ (l[k]).2 ≤ 999999 ∧ (l[k]).1 ≤ 999999 := ⟨HPOS.out _ (List.getElem_mem hkl), H.out.small _ (List.getElem_mem hkl)⟩
      have hsu := countL_succ l n k hkl
      generalize l[k] = p at c0 c1 hs hsu
      obtain ⟨a, m⟩ := p
      obtain ⟨s1, s2, s3⟩ := hs
      dsimp only at c0 c1 s1 s2 s3
      have HS := Lib.hid hsu
      clear hsu
      generalize countL (l.take k) n = q at hll HS
      cases hc : covB (a, m) n
      · rw [hc] at HS
        have HC := Lib.hid hc
        clear hc
        go_wp2_with fail
        refine (pair_covers a m n _ s1 s2 s3 hn).mono ?_
        rintro e w4 ⟨rfl, hb4⟩
        rw [HC.out]
        go_wp2_with fail
        go_roundw
        case rel => exact ⟨k + 1, hlt, by go_num, by rw [HS.out]; rfl, (hB.out.alloc hB.out.size _).trans (hb4.mono (by have := hB.out.size; simp; omega))⟩
        case measure => simp [intOf]; omega
      · rw [hc] at HS
        have HC := Lib.hid hc
        clear hc
        go_wp2_with fail
        refine (pair_covers a m n _ s1 s2 s3 hn).mono ?_
        rintro e w4 ⟨rfl, hb4⟩
        rw [HC.out]
        go_wp2_with fail
        go_roundw
        case rel => exact ⟨k + 1, hlt, by go_num, by rw [HS.out]; rfl, (hB.out.alloc hB.out.size _).trans (hb4.mono (by have := hB.out.size; simp; omega))⟩
        case measure => simp [intOf]; omega
    · obtain rfl : k = d := by omega
      go_wp2_with fail
      go_ret
      exact ⟨by rw [List.take_of_length_le (by rw [H.out.len]; exact Nat.le_refl _)]; rfl, hB.out⟩

/-- The least common multiple of all moduli, or something above 10080. -/
def wholeGo (out : Nat) : List (Nat × Nat) → Nat
  | [] => out
  | p :: r => if 10080 < out / Nat.gcd out p.2 * p.2 then out / Nat.gcd out p.2 * p.2 else wholeGo (out / Nat.gcd out p.2 * p.2) r
def wholeL (l : List (Nat × Nat)) : Nat := wholeGo 1 l
theorem whole_step (q m : Nat) (hq : 1 ≤ q) (hq2 : q ≤ 10080) (hm : 1 ≤ m) (hm2 : m ≤ 999999) : 1 ≤ q / Nat.gcd q m * m ∧ q / Nat.gcd q m * m ≤ 10079989920 ∧ 1 ≤ Nat.gcd q m ∧ Nat.gcd q m ≤ q ∧ 1 ≤ q / Nat.gcd q m ∧ q / Nat.gcd q m ≤ 10080 := by
  have g1 : 0 < Nat.gcd q m := Nat.gcd_pos_of_pos_left _ hq
  have g2 : Nat.gcd q m ≤ q := Nat.le_of_dvd hq (Nat.gcd_dvd_left q m)
  have g3 : 1 ≤ q / Nat.gcd q m := (Nat.le_div_iff_mul_le g1).2 (by omega)
  have g4 : q / Nat.gcd q m ≤ 10080 := Nat.le_trans (Nat.div_le_self _ _) hq2
  refine ⟨Nat.mul_pos g3 hm, Nat.le_trans (Nat.mul_le_mul g4 hm2) (by decide), g1, g2, g3, g4⟩
theorem wholeGo_pos : ∀ (l : List (Nat × Nat)) (q : Nat), 1 ≤ q → (∀ p, p ∈ l → 1 ≤ p.2) → 1 ≤ wholeGo q l
  | [], q, h, _ => h
  | p :: r, q, h, hp => by
    have g1 : 0 < Nat.gcd q p.2 := Nat.gcd_pos_of_pos_left _ h
    have g3 : 1 ≤ q / Nat.gcd q p.2 := (Nat.le_div_iff_mul_le g1).2 (by have := Nat.le_of_dvd h (Nat.gcd_dvd_left q p.2); omega)
    have h1 : 1 ≤ q / Nat.gcd q p.2 * p.2 := Nat.mul_pos g3 (hp p (by simp))
    unfold wholeGo
    split
    · exact h1
    · exact wholeGo_pos r _ h1 (fun x hx => hp x (by simp [hx]))

set_option maxRecDepth 100000 in
set_option maxHeartbeats 800000 in
theorem whole_ok (w : World) (A : Option Addr) (c d : Nat) (l : List (Nat × Nat)) (h : PairsAt w 297 A d c l) (hpos : ∀ p, p ∈ l → 1 ≤ p.2) :
    Calls Tryz.prog 233 #[.slice A d c] w fun e w' => e = .returned (.int .i64 (wholeL l)) ∧ Below w.heap.size w w' := by
  have hd := h.n10
  have H := Lib.hid h
  have HPOS := Lib.hid hpos
  clear h hpos
  go_enter Tryz.func233, Tryz.ntmps233
  go_wp2_with fail
  go_loopw [3, 8] (fun o i wr => ∃ (k q : Nat), k ≤ d ∧ i = .int .i64 k ∧ o = .int .i64 q ∧ 1 ≤ q ∧ q ≤ 10080 ∧ Hid (wholeL l = wholeGo q (l.drop k)) ∧ Hid (Below w.heap.size w wr)) (fun _ i _ => d - (intOf i).toNat)
  case atStart => exact ⟨0, 1, Nat.zero_le _, rfl, rfl, Nat.le_refl _, by omega, rfl, Below.refl _ _⟩
  case round =>
    obtain ⟨k, q, hk, rfl, rfl, hq1, hq2, hW, hB⟩ := hrel
    by_cases hlt : k < d
    · have hkl : k < l.length := by rw [H.out.len]; exact hlt
      obtain ⟨g, rfl, c0, c1⟩ := (H.out.on hB.out).at_ hlt
      have hs : 1 ≤ (l[k]).2 ∧ (l[k]).2 ≤ 999999 ∧ (l[k]).1 ≤ 999999 := ⟨HPOS.out _ (List.getElem_mem hkl), H.out.small _ (List.getElem_mem hkl)⟩
      have hw : wholeL l = wholeGo q (l[k] :: l.drop (k + 1)) := by rw [← List.drop_eq_getElem_cons hkl]; exact hW.out
      generalize l[k] = p at c0 c1 hs hw
      obtain ⟨a, m⟩ := p
      obtain ⟨s1, s2, s3⟩ := hs
      dsimp only at c0 c1 s1 s2 s3
      unfold wholeGo at hw
      dsimp only at hw
      have st := whole_step q m hq1 hq2 s1 s2
      generalize hg : Nat.gcd q m = gg at hw st
      obtain ⟨t1, t2, t3, t4, t5, t6⟩ := st
      generalize hqg : q / gg = qg at hw t1 t2 t5 t6
      have HG := Lib.hid hg
      have HQ0 := Lib.hid hqg
      have e1 : Int.tdiv (q : Int) (gg : Int) = (qg : Int) := by rw [← hqg]; exact Int.ofNat_tdiv q gg |>.symm
      have g0 : ((gg : Int) == 0) = false := by simp; omega
      have g1 : (gg : Int) ≠ 0 := by omega
      generalize hx : qg * m = x at hw t1 t2
      have e2 : IntKind.i64.wrap ((qg : Int) * (m : Int)) = (x : Int) := by
        rw [← hx, ← Int.natCast_mul]
        exact IntWalk.i64_in _ (by omega)
      have e3 : IntKind.i64.wrap (qg : Int) = (qg : Int) := IntWalk.i64_in _ (by omega)
      have e4 : (q : Int) / (gg : Int) = (qg : Int) := by rw [← HQ0.out]; exact (Int.natCast_ediv q gg).symm
      have HW := Lib.hid hw
      have HQ := Lib.hid hqg
      have HX := Lib.hid hx
      clear hw hg hqg hx
      have HC : Hid (∀ W : World, Calls Tryz.prog 235 #[.int .i64 q, .int .i64 m] W fun e w' => e = .returned (.int .i64 gg) ∧ ∃ n, w' = W.drewN n) := fun W =>
        (covers_gcd_q q m _ (by omega) (by omega)).mono fun e w' ⟨he, ho⟩ => ⟨by rw [he, HG.out], ho⟩
      by_cases hbig : 10080 < x
      · have HB := Lib.hid hbig
        rw [if_pos hbig] at HW
        have b1 : decide ((10080 : Int) < x) = true := by simp; omega
        clear hbig
        go_wp2_with fail
        go_quiet ((go_at_call 235; exact Calls.quiet_of (HC.out _)))
        go_wp2_with fail
        go_ret
        exact ⟨by rw [HW.out]; rfl, bel_drewN (hB.out.alloc hB.out.size _) _⟩
      · have HB := Lib.hid hbig
        rw [if_neg hbig] at HW
        have b1 : decide ((10080 : Int) < x) = false := by simp; omega
        clear hbig
        go_wp2_with fail
        go_quiet ((go_at_call 235; exact Calls.quiet_of (HC.out _)))
        go_wp2_with fail
        go_roundw
        case rel => exact ⟨k + 1, x, hlt, by go_num, rfl, t1, by have := HB.out; omega, HW.out, bel_drewN (hB.out.alloc hB.out.size _) _⟩
        case measure => simp [intOf]; omega
    · obtain rfl : k = d := by omega
      go_wp2_with fail
      go_ret
      exact ⟨by rw [hW.out, List.drop_eq_nil_of_le (by rw [H.out.len]; exact Nat.le_refl _)]; rfl, hB.out⟩

theorem infoPair : (Tryz.prog.info? 297).map (fun i => (i.zero, i.size, i.bytes)) = some (some (.agg #[.int .i64 0, .int .i64 0]), 2, 16) := by kernel_rfl
def okB (p : Nat × Nat) : Bool := decide (1 ≤ p.2) && decide (p.2 ≤ 60) && decide (p.1 < p.2)
/-- The systems that are read. -/
def validB (l : List (Nat × Nat)) : Bool := decide (1 ≤ l.length) && decide (l.length ≤ 10) && l.all okB && decide (wholeL l ≤ 10080)

theorem validB_eq (l : List (Nat × Nat)) : validB l = (decide (1 ≤ l.length) && decide (l.length ≤ 10) && l.all okB && decide (wholeL l ≤ 10080)) := rfl
set_option maxRecDepth 100000 in
set_option maxHeartbeats 800000 in
theorem read_len (w : World) (A : Option Addr) (c d : Nat) (h : d < 1 ∨ 10 < d) (hd : d ≤ 1000) :
    Calls Tryz.prog 195 #[.slice A d c] w fun e w' => e = .returned (.tuple #[.slice none 0 0, .bool false]) ∧ Below w.heap.size w w' := by
  by_cases h1 : d < 1
  · have b1 : decide ((d : Int) < 1) = true := by simp; omega
    clear h
    go_enter Tryz.func195, Tryz.ntmps195
    go_wp2_with fail
    go_ret2
    exact ⟨rfl, Below.refl _ _⟩
  · have b1 : decide ((d : Int) < 1) = false := by simp; omega
    have b2 : decide ((10 : Int) < d) = true := by simp; omega
    clear h
    go_enter Tryz.func195, Tryz.ntmps195
    go_wp2_with fail
    go_ret2
    exact ⟨rfl, Below.refl _ _⟩

/-- What read returns: a row of the call's own. -/
def ReadPost (w : World) (l : List (Nat × Nat)) (e : Ending) (w' : World) : Prop :=
  Below w.heap.size w w' ∧ (validB l = false ∧ (∃ v, e = .returned (.tuple #[v, .bool false])) ∨ validB l = true ∧ ∃ A c, e = .returned (.tuple #[.slice A l.length c, .bool true]) ∧ PairsAt w' 297 A l.length c l)

set_option maxRecDepth 100000 in
set_option maxHeartbeats 800000 in
theorem read_some (w : World) (A : Option Addr) (c d : Nat) (l : List (Nat × Nat)) (T : TypeId) (h : PairsAt w T A d c l) (h1 : 1 ≤ d) (h2 : d ≤ 10) :
    Calls Tryz.prog 195 #[.slice A d c] w (ReadPost w l) := by
  have b1 : decide ((d : Int) < 1) = false := by simp; omega
  have b2 : decide ((10 : Int) < d) = false := by simp; omega
  have H := Lib.hid h
  clear h
  go_enter Tryz.func195, Tryz.ntmps195
  go_wp2_with fail
  obtain ⟨i0, hi, hz0, hz1, hz2⟩ := info_parts infoPair
  go_loopw [4, 17] (fun o i wr => ∃ (k : Nat) (A' : Option Addr) (c' : Nat), k ≤ d ∧ i = .int .i64 k ∧ o = .slice A' k c' ∧ Hid ((l.take k).all okB = true) ∧ Hid (wr.ownsRow w.heap.size 297 2 (.slice A' k c') k (pairCells (l.take k))) ∧ Hid (Below w.heap.size w wr)) (fun _ i _ => d - (intOf i).toNat)
  case atStart => exact ⟨0, none, 0, Nat.zero_le _, rfl, rfl, rfl, own_zero _ _ _, Below.refl _ _⟩
  case round =>
    obtain ⟨k, A', c', hk, rfl, rfl, hA, hO, hB⟩ := hrel
    by_cases hlt : k < d
    · have hkl : k < l.length := by rw [H.out.len]; exact hlt
      obtain ⟨g, rfl, c0, c1⟩ := (H.out.on hB.out).at_ hlt
      have hs := H.out.small _ (List.getElem_mem hkl)
      have hbad : okB l[k] = false → validB l = false := fun he => by
        have : l.all okB = false := by
          rw [List.all_eq_false]
          exact ⟨_, List.getElem_mem hkl, by simp [he]⟩
        rw [validB_eq, this]
        simp
      have hall : okB l[k] = true → (l.take (k + 1)).all okB = true := fun he => by
        rw [List.take_succ_eq_append_getElem hkl, List.all_append, hA.out]
        simp [he]
      have hcells : pairCells (l.take (k + 1)) = pairCells (l.take k) ++ [.int .i64 (l[k].1 : Nat), .int .i64 (l[k].2 : Nat)] := by
        unfold pairCells
        rw [List.take_succ_eq_append_getElem hkl, List.flatMap_append]
        rfl
      generalize l[k] = p at c0 c1 hs hbad hall hcells
      obtain ⟨a, m⟩ := p
      obtain ⟨s2, s3⟩ := hs
      dsimp only at c0 c1 s2 s3 hcells
      have HBAD := Lib.hid hbad
      have HALL := Lib.hid hall
      have HCE := Lib.hid hcells
      clear hbad hall hcells
      by_cases h1 : m < 1
      · have b3 : decide ((m : Int) < 1) = true := by simp; omega
        have HK := Lib.hid (show okB (a, m) = false by simp [okB]; omega)
        clear h1
        go_wp2_with fail
        go_ret2
        exact ⟨bel_drewN (n := 0) (hB.out.alloc hB.out.size _), .inl ⟨HBAD.out HK.out, _, rfl⟩⟩
      have b3 : decide ((m : Int) < 1) = false := by simp; omega
      by_cases h2 : 60 < m
      · have b4 : decide ((60 : Int) < m) = true := by simp; omega
        have HK := Lib.hid (show okB (a, m) = false by simp [okB]; omega)
        clear h1 h2
        go_wp2_with fail
        go_ret2
        exact ⟨bel_drewN (n := 0) (hB.out.alloc hB.out.size _), .inl ⟨HBAD.out HK.out, _, rfl⟩⟩
      have b4 : decide ((60 : Int) < m) = false := by simp; omega
      have b5 : decide ((a : Int) < 0) = false := by simp
      by_cases h3 : m ≤ a
      · have b6 : decide (m ≤ a) = true := by simp; omega
        have HK := Lib.hid (show okB (a, m) = false by simp [okB]; omega)
        clear h1 h2 h3
        go_wp2_with fail
        go_ret2
        exact ⟨bel_drewN (n := 0) (hB.out.alloc hB.out.size _), .inl ⟨HBAD.out HK.out, _, rfl⟩⟩
      have b6 : decide (m ≤ a) = false := by simp; omega
      have HK := Lib.hid (show okB (a, m) = true by simp [okB]; omega)
      clear h1 h2 h3
      have hO' : (wr.alloc (.cells #[.int .i64 a, .int .i64 m] 114)).ownsRow w.heap.size 297 2 (.slice A' k c') k (pairCells (l.take k)) := hO.out.alloc _
      have HS := Lib.hid hB.out.size
      go_wp2_with (at_builtin; go_must (refine wpList_push rfl _ _ 234 rfl w.heap.size 297 i0 (.agg #[.int .i64 0, .int .i64 0]) 2 16 Tryz.underlying234 hi hz0 hz1 hz2 rfl (by decide) _ _ _ rfl hO' #[.int .i64 a, .int .i64 m] (wr.heap.size + 1) (by simp) rfl rfl ?d1 ?d2 ?d3 ?d4 ?_))
      case d1 => exact ⟨rfl, rfl⟩
      case d2 => omega
      case d3 => omega
      case d4 => have := HS.out; simp; omega
      intro v' w5 hown5 hO5 _ hbl5
      obtain ⟨A5, c5, rfl⟩ := own_slice hown5
      have hfin : Below w.heap.size w w5 := Only.fresh (hB.out.alloc hB.out.size _) hO5 (fun g hg => (own_ge hO' hg).1)
      have HF := Lib.hid hfin
      have HO5 := Lib.hid hown5
      clear hfin hown5 hO5
      go_wp2_with fail
      go_roundw
      case rel => exact ⟨k + 1, A5, c5, hlt, by go_num, rfl, HALL.out HK.out, by show World.ownsRow _ _ _ _ _ _ _; rw [HCE.out]; exact HO5.out, HF.out⟩
      case measure => simp [intOf]; omega
    · obtain rfl : k = d := by omega
      have hall : l.take k = l := List.take_of_length_le (by rw [H.out.len]; exact Nat.le_refl _)
      have hlen := H.out.len
      rw [hall] at hA hO
      have hP : PairsAt wr 297 A' k c' l := ⟨own_mono hO.out (Nat.zero_le _), hlen, by omega, H.out.small⟩
      have hpos : ∀ p, p ∈ l → 1 ≤ p.2 := fun p hp => by
        have := List.all_eq_true.1 hA.out p hp
        simp [okB] at this
        omega
      have HP := Lib.hid hP
      have HPO := Lib.hid hpos
      have HLEN := Lib.hid hlen
      clear hall hP hpos hlen
      go_wp2_with fail
      refine (whole_ok wr A' c' k l HP.out HPO.out).mono ?_
      rintro e w4 ⟨rfl, hb4⟩
      have hv : validB l = decide (wholeL l ≤ 10080) := by
        rw [validB_eq, hA.out, HLEN.out]
        simp [h1, h2]
      have HV := Lib.hid hv
      clear hv
      generalize wholeL l = q at HV
      go_wp2_with fail
      go_ret2
      refine ⟨hB.out.trans (hb4.mono hB.out.size), ?_⟩
      by_cases hq : q ≤ 10080
      · right
        refine ⟨by rw [HV.out]; simp [hq], A', c', ?_, ?_⟩
        · rw [HLEN.out]
          have : decide ((q : Int) ≤ 10080) = true := by simp; omega
          simp [this]
        · rw [HLEN.out]
          exact HP.out.on hb4
      · left
        refine ⟨by rw [HV.out]; simp [hq], .slice A' k c', ?_⟩
        have : decide ((q : Int) ≤ 10080) = false := by simp; omega
        simp [this]

theorem covers_read_ok (w : World) (A : Option Addr) (c d : Nat) (l : List (Nat × Nat)) (T : TypeId) (h : PairsAt w T A d c l) :
    Calls Tryz.prog 195 #[.slice A d c] w (ReadPost w l) := by
  by_cases hd : 1 ≤ d ∧ d ≤ 10
  · exact read_some w A c d l T h hd.1 hd.2
  · refine (read_len w A c d (by omega) h.n10).mono fun e w' ⟨he, hb⟩ => ⟨hb, .inl ⟨?_, _, he⟩⟩
    have := h.len
    rw [validB_eq]
    by_cases h1 : 1 ≤ l.length
    · have : ¬ l.length ≤ 10 := by omega
      simp [this]
    · simp [h1]
theorem validB_bound {l : List (Nat × Nat)} (h : validB l = true) : (∀ p, p ∈ l → 1 ≤ p.2) ∧ 1 ≤ wholeL l ∧ wholeL l ≤ 10080 := by
  rw [validB_eq] at h
  simp at h
  have hp : ∀ p, p ∈ l → 1 ≤ p.2 := fun p hp => by
    have := h.1.2 p.1 p.2 hp
    simp [okB] at this
    omega
  exact ⟨hp, wholeGo_pos l 1 (Nat.le_refl _) hp, h.2⟩

set_option maxRecDepth 100000 in
set_option maxHeartbeats 800000 in
theorem share_bad (w : World) (A : Option Addr) (c d : Nat) (l : List (Nat × Nat)) (T : TypeId) (h : PairsAt w T A d c l) (hv : validB l = false) :
    Calls Tryz.prog 179 #[.slice A d c] w fun e w' => (∃ x y, e = .returned (.tuple #[.agg #[.int .i64 x, .int .i64 y], .int .i64 2])) ∧ Below w.heap.size w w' := by
  have hr : ∀ W, Below w.heap.size w W → Calls Tryz.prog 195 #[.slice A d c] W fun e w' => ∃ v, e = .returned (.tuple #[v, .bool false]) ∧ Below W.heap.size W w' := fun W hB => (covers_read_ok W A c d l T (h.on hB)).mono fun e w' ⟨hb, hq⟩ => by
    rcases hq with ⟨_, v, he⟩ | ⟨h1, _⟩
    · exact ⟨v, he, hb⟩
    · rw [hv] at h1; cases h1
  have HR := Lib.hid hr
  clear h hv hr
  go_enter Tryz.func179, Tryz.ntmps179
  go_wp2_with fail
  obtain ⟨W, hW⟩ : ∃ W, W = w.alloc (.cells #[.int .i64 0, .int .i64 0] 219) := ⟨_, rfl⟩
  have hB0 : Below w.heap.size w W := hW ▸ (Below.refl _ _).alloc (Nat.le_refl _) _
  have hk0 : Blk W w.heap.size 219 #[.int .i64 0, .int .i64 0] := hW ▸ Blk.new _ _ _
  rw [← hW]
  clear hW
  refine (HR.out W hB0).mono ?_
  rintro e w1 ⟨v, rfl, hb1⟩
  have hk1 := hk0.below hb1 hk0.lt
  have c0 : w1.cell? ⟨w.heap.size, 0, none⟩ = some (.int .i64 0) := hk1.cell 0
  have c1 : w1.cell? ⟨w.heap.size, 1, none⟩ = some (.int .i64 0) := hk1.cell 1
  have f0 := hk1.frozen 0
  have f1 := hk1.frozen 1
  have hB1 := hB0.trans (hb1.mono hB0.size)
  go_wp2_with fail
  refine bodyPost_ret (v := .tuple #[.agg #[.int .i64 0, .int .i64 0], .int .i64 2]) (by simp [results, Tryz.results179, go_sem, c0, c1]) rfl ⟨⟨_, _, rfl⟩, ?_⟩
  exact (hB1.setCell (by simp) _).setCell (by simp) _

set_option maxRecDepth 100000 in
set_option maxHeartbeats 800000 in
theorem share_good (w : World) (A : Option Addr) (c d : Nat) (l : List (Nat × Nat)) (T : TypeId) (h : PairsAt w T A d c l) (hv : validB l = true) :
    Calls Tryz.prog 179 #[.slice A d c] w fun e w' => (∃ x y, e = .returned (.tuple #[.agg #[.int .i64 x, .int .i64 y], .int .i64 0])) ∧ Below w.heap.size w w' := by
  obtain ⟨v1, v2, v3⟩ := validB_bound hv
  have hr : ∀ W, Below w.heap.size w W → Calls Tryz.prog 195 #[.slice A d c] W fun e w' => ∃ A' c', e = .returned (.tuple #[.slice A' l.length c', .bool true]) ∧ PairsAt w' 297 A' l.length c' l ∧ Below W.heap.size W w' := fun W hB => (covers_read_ok W A c d l T (h.on hB)).mono fun e w' ⟨hb, hq⟩ => by
    rcases hq with ⟨h1, _⟩ | ⟨_, A', c', he, hp⟩
    · rw [hv] at h1; cases h1
    · exact ⟨A', c', he, hp, hb⟩
  have HR := Lib.hid hr
  have HPOS := Lib.hid v1
  clear h hv hr v1
  generalize hwh : wholeL l = q at v2 v3
  have HWH := Lib.hid hwh
  clear hwh
  go_enter Tryz.func179, Tryz.ntmps179
  go_wp2_with fail
  obtain ⟨W, hW⟩ : ∃ W, W = w.alloc (.cells #[.int .i64 0, .int .i64 0] 219) := ⟨_, rfl⟩
  have hB0 : Below w.heap.size w W := hW ▸ (Below.refl _ _).alloc (Nat.le_refl _) _
  have hk0 : Blk W w.heap.size 219 #[.int .i64 0, .int .i64 0] := hW ▸ Blk.new _ _ _
  rw [← hW]
  clear hW
  refine (HR.out W hB0).mono ?_
  rintro e w1 ⟨A', c', rfl, hP1, hb1⟩
  have hk1 := hk0.below hb1 hk0.lt
  have hB1 := hB0.trans (hb1.mono hB0.size)
  have HP := Lib.hid hP1
  have HK := Lib.hid hk1
  have HB1 := Lib.hid hB1
  clear hP1 hk1 hB1 hb1 hk0 hB0
  go_wp2_with fail
  refine (whole_ok w1 A' c' _ l HP.out HPOS.out).mono ?_
  rintro e w2 ⟨rfl, hb2⟩
  rw [HWH.out]
  have HP2 := Lib.hid (HP.out.on hb2)
  have HK2 := Lib.hid (HK.out.below hb2 HK.out.lt)
  have HB2 := Lib.hid (HB1.out.trans (hb2.mono HB1.out.size))
  clear HP HK HB1 hb2
  go_wp2_with fail
  go_loopw [6, 21] (fun o i wr => ∃ (k x : Nat), k ≤ q ∧ i = .int .i64 k ∧ o = .int .i64 x ∧ x ≤ k ∧ Hid (Below w2.heap.size w2 wr)) (fun _ i _ => q - (intOf i).toNat)
  case atStart => exact ⟨0, 0, Nat.zero_le _, rfl, rfl, Nat.le_refl _, Below.refl _ _⟩
  case round =>
    obtain ⟨k, x, hk, rfl, rfl, hx, hB⟩ := hrel
    by_cases hlt : k < q
    · go_wp2_with fail
      refine (count_ok wr A' c' _ l k (HP2.out.on hB.out) (by omega) HPOS.out).mono ?_
      rintro e w4 ⟨rfl, hb4⟩
      have hy : countL l k ≤ 1000 := Nat.le_trans (countL_le l k) HP2.out.n10
      generalize countL l k = y at hy
      go_wp2_with fail
      go_roundw
      case rel => exact ⟨k + 1, x + min y 1, by omega, by go_num, by congr 1; omega, by omega, hB.out.trans (hb4.mono hB.out.size)⟩
      case measure => simp [intOf]; omega
    · obtain rfl : k = q := by omega
      go_wp2_with fail
      refine (covers_gcd_q x k wr (by omega) (by omega)).mono ?_
      rintro e w4 ⟨rfl, nn, rfl⟩
      have hg0 : 0 < Nat.gcd x k := Nat.gcd_pos_of_pos_right _ v2
      generalize Nat.gcd x k = g at hg0
      have hk4 := (HK2.out.below hB.out HK2.out.lt).drewN nn
      have c0 : (wr.drewN nn).cell? ⟨w.heap.size, 0, none⟩ = some (.int .i64 0) := hk4.cell 0
      have c1 : (wr.drewN nn).cell? ⟨w.heap.size, 1, none⟩ = some (.int .i64 0) := hk4.cell 1
      have f0 := hk4.frozen 0
      have f1 := hk4.frozen 1
      have hB4 : Below w.heap.size w (wr.drewN nn) := bel_drewN (HB2.out.trans (hB.out.mono HB2.out.size)) nn
      generalize wr.drewN nn = w5 at hk4 c0 c1 f0 f1 hB4
      have HK4 := Lib.hid hk4
      have g1 : (g : Int) ≠ 0 := by omega
      have g2 : ((g : Int) == 0) = false := by simp; omega
      clear hk4
      go_wp2_with fail
      have e1 : (x : Int) / (g : Int) = ((x / g : Nat) : Int) := (Int.natCast_ediv x g).symm
      have e2 : (k : Int) / (g : Int) = ((k / g : Nat) : Int) := (Int.natCast_ediv k g).symm
      have e3 : Int.tdiv (x : Int) (g : Int) = ((x / g : Nat) : Int) := (Int.ofNat_tdiv x g).symm
      have e4 : Int.tdiv (k : Int) (g : Int) = ((k / g : Nat) : Int) := (Int.ofNat_tdiv k g).symm
      have x1 : x / g ≤ 10080 := Nat.le_trans (Nat.div_le_self _ _) (by omega)
      have x2 : k / g ≤ 10080 := Nat.le_trans (Nat.div_le_self _ _) (by omega)
      generalize x / g = p1 at e1 e3 x1
      generalize k / g = p2 at e2 e4 x2
      have e5 : IntKind.i64.wrap (p1 : Int) = (p1 : Int) := IntWalk.i64_in _ (by omega)
      have e6 : IntKind.i64.wrap (p2 : Int) = (p2 : Int) := IntWalk.i64_in _ (by omega)
      go_region
      go_wp2_with fail
      refine bodyPost_ret (v := .tuple #[.agg #[.int .i64 p1, .int .i64 p2], .int .i64 0]) (by simp [results, Tryz.results179, go_sem, c0, c1]) rfl ⟨⟨_, _, rfl⟩, ?_⟩
      exact bel_drewN (n := 1) ((hB4.setCell (by simp) _).setCell (by simp) _)

theorem share_ok (w : World) (A : Option Addr) (c d : Nat) (l : List (Nat × Nat)) (T : TypeId) (h : PairsAt w T A d c l) :
    Calls Tryz.prog 179 #[.slice A d c] w fun e w' => (∃ x y, e = .returned (.tuple #[.agg #[.int .i64 x, .int .i64 y], .int .i64 (if validB l = true then 0 else 2)])) ∧ Below w.heap.size w w' := by
  cases hv : validB l
  · exact share_bad w A c d l T h hv
  · exact share_good w A c d l T h hv
end Go.Proofs.YtkfdcccgpphcmaaGreatDoor
