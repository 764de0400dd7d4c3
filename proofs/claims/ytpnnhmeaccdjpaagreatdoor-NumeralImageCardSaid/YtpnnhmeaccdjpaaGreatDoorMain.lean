/- The law's main way. -/
import Derived.Test.YtpnnhmeaccdjpaaGreatDoorImage
namespace Go.Proofs.YtpnnhmeaccdjpaaGreatDoor
open Go.RowKit Go.Shelf

theorem G_bits (n : Nat) : ∀ c ∈ Img.G.take n, c = 48 ∨ c = 49 := fun c hc => Img.gw_bits 16 c (List.mem_of_mem_take hc)
theorem drop_all (p : UInt8 → Bool) : ∀ l : List UInt8, (∀ c ∈ l, p c = true) → l.dropWhile p = []
  | [], _ => rfl
  | c :: l, h => by rw [List.dropWhile_cons_of_pos (h c (List.mem_cons_self ..))]; exact drop_all p l fun x hx => h x (List.mem_cons_of_mem _ hx)
theorem trim_all (l : List UInt8) (h : ∀ c ∈ l, c = 48 ∨ c = 49) : Lib.trimS l [48, 49] = [] := by
  have e : l.reverse.dropWhile (([48, 49] : List UInt8).contains ·) = [] := drop_all _ _ fun x hx => by
    rcases h x (List.mem_reverse.1 hx) with rfl | rfl <;> rfl
  unfold Lib.trimS Lib.trimRightS Lib.trimLeftS
  rw [e]; rfl
theorem G_take_len (n : Nat) (h : n ≤ 2000) : (Img.G.take n).length = n := by rw [List.length_take, Img.G_len]; omega
theorem phi_le (l : List UInt8) (h : ∀ c ∈ l, c = 48 ∨ c = 49) : l.length ≤ (Img.phi l).length ∧ (Img.phi l).length ≤ 2 * l.length := by
  have h1 := Img.phi_len l h
  have h2 : l.count 48 ≤ l.length := List.count_le_length
  omega

theorem small_k (k : Int) : ∃ K : Nat, K < 12 ∧ wrap64 ((IntKind.u64.wrap k).tmod 12) = (K : Int) := by
  have h : IntKind.u64.wrap k = k % 18446744073709551616 := by simp [IntKind.wrap, IntKind.bits, IntKind.signed]
  refine ⟨((k % 18446744073709551616) % 12).toNat, by omega, ?_⟩
  rw [h, Int.tmod_eq_emod_of_nonneg (by omega)]
  unfold wrap64
  omega

/-- The parts of length K that were met, as strings. -/
def told (K i : Nat) : List Value := (Img.parts K i).map fun l => .string (S l)
theorem win_len (i K : Nat) : (Img.win i K).length ≤ K := by simp [Img.win]; omega

theorem S_inj {a b : List UInt8} (h : S a = S b) : a = b := by
  have := congrArg (fun s : ByteArray => s.data.toList) h
  simpa [S] using this
theorem contains_S (L : List (List UInt8)) (x : List UInt8) : Lib.containsS (L.map S) (S x) = L.contains x := by
  rw [Bool.eq_iff_iff, Lib.containsS_iff, List.contains_iff_mem, List.mem_map]
  exact ⟨fun ⟨y, hy, e⟩ => S_inj e ▸ hy, fun h => ⟨x, h, rfl⟩⟩

/-- slices.Contains over a slice of the call's own. -/
theorem contains_ok (B : Nat) (v : Value) (L : List (List UInt8)) (x : List UInt8) (w : World) (hL : L.length ≤ 1000) (hown : w.ownsRow B 9 1 v L.length (L.map fun l => .string (S l))) :
    Calls Tryz.prog 9 #[v, .string (S x)] w fun e w' => e = .returned (.bool (L.contains x)) ∧ w = w' := by
  rcases Nat.eq_zero_or_pos L.length with h0 | hpos
  · obtain rfl : L = [] := List.eq_nil_of_length_eq_zero h0
    obtain ⟨a, c, rfl⟩ : ∃ a c, v = .slice a 0 c := by
      rcases hown.2 with ⟨rfl, _⟩ | ⟨g, cap, cur, rfl, _⟩
      · exact ⟨_, _, rfl⟩
      · exact ⟨_, _, rfl⟩
    exact (Any.slices_Contains_string_empty Tryz.lays110 a c (S x) w).mono fun e w' ⟨h, h'⟩ => ⟨by simpa using h, h'.symm⟩
  · obtain ⟨g, cap, rfl, _, _⟩ := hown.form hpos
    have hcell : ∀ j, j < (L.map S).length → w.cell? ⟨g, 0 + j, none⟩ = some (.string ((L.map S).getD j ByteArray.empty)) := fun j hj => by
      have hj' : j < L.length := by simpa using hj
      rw [Nat.zero_add, hown.cellAt j (by omega)]
      simp [List.getD, hj']
    refine (Any.slices_Contains_string Tryz.lays110 g 0 L.length cap (L.map S) (S x) w (by simp) (by omega) hcell).mono fun e w' ⟨h, h'⟩ => ⟨?_, h'.symm⟩
    rw [List.take_of_length_le (by simp), contains_S] at h
    exact h
theorem win_eq (i K : Nat) (h : i + K ≤ 400) : (S (Img.G.take 400)).extract i (i + K) = S (Img.win i K) := by
  apply ByteArray.ext
  have hz : (Img.G.take 400).length = 400 := G_take_len 400 (by omega)
  apply Array.toList_inj.1
  simp [S, Img.win, List.extract_eq_take_drop, Nat.add_sub_cancel_left]

set_option maxRecDepth 100000 in
set_option maxHeartbeats 3200000 in
/-- The law, where n is a length. -/
theorem law_good (n k : Int) (w : World) (h0 : 0 ≤ n) (h1 : n ≤ 2000) (hk : -9223372036854775808 ≤ k ∧ k ≤ 9223372036854775807) :
    Calls Tryz.prog 3 #[.int .i64 n, .int .i64 k] w fun e w' => e = .returned (.bool true) ∧ Below w.heap.size w w' := by
  obtain ⟨n, rfl⟩ := Int.eq_ofNat_of_zero_le h0
  have hn : n ≤ 2000 := by omega
  have hw1 := word_ok (n : Int) w (by omega) (by omega)
  rw [Int.toNat_natCast] at hw1
  have HW1 := Lib.hid hw1
  clear hw1
  go_enter Tryz.func3, Tryz.ntmps3
  go_wp2_with fail
  refine HW1.out.mono ?_
  rintro e w1 ⟨rfl, hB1⟩
  go_wp2_with fail
  have hg : ∀ j u, four[j]? = some u → (w1.alloc (.cells #[.string ⟨#[48]⟩, .string ⟨#[48, 49]⟩, .string ⟨#[49]⟩, .string ⟨#[48]⟩] 9)).cell? ⟨w1.heap.size, j, none⟩ = some u := fun j u hj => by
    rw [World.cell?_alloc_new]
    match j, hj with
    | 0, hj => cases hj; rfl
    | 1, hj => cases hj; rfl
    | 2, hj => cases hj; rfl
    | 3, hj => cases hj; rfl
  refine (new_ok _ _ hg).mono ?_
  rintro e w2 ⟨b, v, rfl, hown, hb, hblk, hB2⟩
  obtain ⟨g, cap, rfl, hg1, hg2⟩ := hown.form (by omega)
  have hgb : g ≠ b := by
    rintro rfl
    rcases hown.2 with ⟨h, _⟩ | ⟨g', cap', cur, hv, _, hh, _⟩
    · cases h
    · cases hv; rw [hh] at hblk; cases hblk
  have hfr : Fresh w2 b := ⟨g, cap, hblk, hgb, hg2, by rw [hown.cellAt 0 (by omega)]; rfl, by rw [hown.cellAt 1 (by omega)]; rfl, by rw [hown.cellAt 2 (by omega)]; rfl, by rw [hown.cellAt 3 (by omega)]; rfl⟩
  have hrp := replace_ok b (Img.G.take n) (G_bits n) (by rw [G_take_len n hn]; exact hn) w2 hfr
  have hz1 : w1.heap.size < w2.heap.size := by have := hB2.size; simp at this; omega
  have hb' : w1.heap.size ≤ b := by simp at hb; omega
  have hB12 : Below w.heap.size w w2 := ((hB1.alloc hB1.size _).trans (hB2.mono (by have := hB1.size; simp; omega)))
  clear hg hown hblk hfr hB2
  go_wp2_with fail
  refine hrp.mono ?_
  rintro e w3 ⟨rfl, w23, hG, hB3⟩
  have hB13 : Below w.heap.size w w3 := (hB12.grown hG hB12.size (fun k e => by cases e; have := hB1.size; omega)).trans (hB3.mono (by have := hB12.size; have := hG.size; omega))
  clear hG hB3 hB12 hrp hB1
  have hpl := phi_le _ (G_bits n)
  rw [G_take_len n hn] at hpl
  have hzp := S_size (Img.phi (Img.G.take n))
  obtain ⟨m, hm⟩ : ∃ m : Nat, m = min (Img.phi (Img.G.take n)).length 2000 := ⟨_, rfl⟩
  have hm1 : m ≤ 2000 := by omega
  have hm2 : m ≤ (Img.phi (Img.G.take n)).length := by omega
  have HM := Lib.hid hm
  clear hm
  go_wp2_with fail
  rw [show (min ((Img.phi (Img.G.take n)).length : Int) 2000) = (m : Int) from by have := HM.out; omega]
  refine (word_ok (m : Int) w3 (by omega) (by omega)).mono ?_
  rintro e w4 ⟨rfl, hB4⟩
  have hB14 : Below w.heap.size w w4 := hB13.trans (hB4.mono hB13.size)
  clear hB13 hB4
  rw [Int.toNat_natCast]
  have hs1 : (S (Img.G.take n)).size = n := by rw [S_size, G_take_len n hn]
  have hx : (S (Img.phi (Img.G.take n))).extract 0 m = S (Img.G.take m) := by rw [S_extract, Img.image_take hm1 hm2]
  have htr := Any.strings_Trim_laid Tryz.lays160 (by kernel_rfl) (S (Img.G.take n)) ⟨#[48, 49]⟩ w4 (by rw [hs1]; omega) (by decide) (ascii_of_all (by decide))
  rw [show (S (Img.G.take n)).data.toList = Img.G.take n from rfl, trim_all _ (G_bits n)] at htr
  change Calls Tryz.prog 8 _ _ _ at htr
  go_wp2_with fail
  refine htr.mono ?_
  rintro e w5 ⟨rfl, hB5⟩
  have hB15 : Below w.heap.size w w5 := hB14.trans (hB5.mono hB14.size)
  clear hB14 hB5 htr hx
  go_wp2_with fail
  refine (word_ok 400 w5 (by omega) (by omega)).mono ?_
  rintro e w6 ⟨rfl, hB6⟩
  have hB16 : Below w.heap.size w w6 := hB15.trans (hB6.mono hB15.size)
  clear hB15 hB6
  rw [show (400 : Int).toNat = 400 from rfl]
  obtain ⟨K, hK, hKe⟩ := small_k k
  rw [hKe]
  have hs4 : (S (Img.G.take 400)).size = 400 := by rw [S_size, G_take_len 400 (by omega)]
  clear hKe hs1 hzp hpl hm2 hz1 hb' hgb hg2 hg1 hb
  obtain ⟨i0, hi, hz0, hz1, hz2⟩ := info_parts info9
  go_wp2_with fail
  go_loopw [10, 11, 12] (fun v i _ wr => ∃ j : Nat, j + K ≤ 401 ∧ i = .int .i64 j ∧ wr.ownsRow w.heap.size 9 1 v (Img.parts K j).length (told K j) ∧ Below w.heap.size w wr) (fun _ i _ _ => 401 - (intOf i).toNat)
  case atStart => exact ⟨0, by omega, rfl, World.ownsRow_nil _ _ _ _, hB16⟩
  case round =>
    obtain ⟨j, hj, rfl, hown, hbel⟩ := hrel
    have hpl := Img.parts_le K j
    by_cases hlt : j + K ≤ 400
    · have hwe := win_eq j K hlt
      have hcon := contains_ok w.heap.size u10 (Img.parts K j) (Img.win j K) wr (by omega) hown
      go_wp2_with fail
      refine hcon.mono ?_
      rintro e w' ⟨rfl, rfl⟩
      by_cases hc : (Img.parts K j).contains (Img.win j K) = true
      · have hp : Img.parts K (j + 1) = Img.parts K j := by show Img.add _ _ = _; unfold Img.add; rw [if_pos hc]
        have HP := Lib.hid hp
        clear hp
        rw [hc]
        go_wp2_with fail
        go_roundw
        case rel => exact ⟨j + 1, by omega, by go_num, by unfold told; rw [HP.out]; exact hown, hbel⟩
        case measure => simp [intOf]; omega
      · have hp : Img.parts K (j + 1) = Img.parts K j ++ [Img.win j K] := by show Img.add _ _ = _; unfold Img.add; rw [if_neg hc]
        have HP := Lib.hid hp
        clear hp
        rw [Bool.not_eq_true] at hc
        rw [hc]
        have HC := Lib.hid hc
        clear hc
        go_wp2_with (at_builtin; refine wpList_append_own _ rfl _ _ 31 rfl w.heap.size 9 i0 (.string ⟨#[]⟩) 1 16 Tryz.underlying31 hi hz0 hz1 hz2 rfl (by decide) _ _ _ rfl (hown.alloc _) ⟨wr.heap.size, 0, none⟩ 1 1 [.string (S (Img.win j K))] rfl rfl ?c1 ?c2 ?c3 ?c4 ?c5 ?_)
        case c1 =>
          intro j' u hj'
          match j', hj' with
          | 0, hj' => simp at hj'; subst hj'; simp [Addr.add]
        case c2 => intro u hu; simp at hu; subst hu; rfl
        case c3 => unfold maxLen; omega
        case c4 => omega
        case c5 => have := hbel.size; simp; omega
        · intro v' w1 hown' hgrow _
          have hl' := (hown.alloc (.cells #[.string (S (Img.win j K))] 9)).lt
          go_wp2
          go_roundw
          case rel =>
            refine ⟨j + 1, by omega, by go_num, ?_, (hbel.alloc hbel.size _).grown hgrow (by have := hbel.size; simp; omega) (fun g hg => (hl' g hg).1)⟩
            unfold told
            rw [HP.out]
            simpa [told] using hown'
          case measure => simp [intOf]; omega
    · obtain rfl : j = 401 - K := by omega
      have hpk := Img.parts_len K hK
      rw [hpk] at hown
      obtain ⟨g, cap, rfl, _, _⟩ := hown.form (by omega)
      have haw := awake_ok wr
      go_wp2_with fail
      refine haw.mono ?_
      rintro e w7 ⟨rfl, hB7⟩
      go_wp2
      go_ret
      exact ⟨rfl, hbel.trans (hB7.mono hbel.size)⟩

/-- The law, for all numbers. -/
theorem law_any (n k : Int) (w : World) (hk : -9223372036854775808 ≤ k ∧ k ≤ 9223372036854775807) :
    Calls Tryz.prog 3 #[.int .i64 n, .int .i64 k] w fun e w' => e = .returned (.bool true) ∧ Below w.heap.size w w' := by
  by_cases h : n < 0 ∨ 2000 < n
  · exact law_bad n k w h
  · exact law_good n k w (by omega) (by omega) hk
end Go.Proofs.YtpnnhmeaccdjpaaGreatDoor
