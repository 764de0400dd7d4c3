/- The vats of a day. -/
import Derived.Test.YtkfdcccgpphcmaaGreatDoorVat
import Derived.Test.YtkfdcccgpphcmaaGreatDoorForm
import Derived.Test.YtkfdcccgpphcmaaGreatDoorJoin
import Derived.Test.YtkfdcccgpphcmaaGreatDoorSort
import Derived.BigQuiet
import Derived.Deep.QuietTactic
import Derived.Laws.AppendOwnNone
namespace Go.Proofs.YtkfdcccgpphcmaaGreatDoor
open Go.RowKit Go.Shelf

/-- The vats that are stirred on a day. -/
def stirred (l : List (ByteArray × Nat × Nat)) (n : Nat) : List ByteArray := (l.filter fun v => covB v.2 n).map (·.1)
def stirText (S : St) (n : Nat) : ByteArray := spaced (⟨#[115, 116, 105, 114]⟩ :: sortS (stirred S.vats n))
theorem stirred_succ (l : List (ByteArray × Nat × Nat)) (n k : Nat) (h : k < l.length) : stirred (l.take (k + 1)) n = stirred (l.take k) n ++ if covB l[k].2 n = true then [l[k].1] else [] := by
  unfold stirred
  rw [List.take_succ_eq_append_getElem h, List.filter_append, List.map_append]
  by_cases hc : covB l[k].2 n = true <;> simp [hc]
theorem stirred_len (l : List (ByteArray × Nat × Nat)) (n : Nat) : (stirred l n).length ≤ l.length := by
  unfold stirred
  rw [List.length_map]
  exact List.length_filter_le _ _

set_option maxRecDepth 100000 in
set_option maxHeartbeats 1600000 in
theorem stir_ok {B : Nat} (w : World) (hB : Base B w) (b : Nat) (S : St) (hS : StateAt 0 w b S) (A1 A2 : Option Addr) (n1 e1 e2 : Nat) (n : Nat) (hl : LineAt w A1 A2 0 e1 1 e2 [] [(n : Int)]) (hn : n ≤ 999999) :
    Calls Tryz.prog 85 #[.pointer (some ⟨b, 0, none⟩), .agg #[.slice A1 0 e1, .slice A2 1 e2]] w fun e w' => e = .returned (.tuple #[.string (stirText S n), .int .i64 0]) ∧ Below w.heap.size w w' := by
  obtain ⟨vv, gm, pm, vs, gv, cv, h⟩ := hS
  obtain ⟨Av, ev, rfl⟩ := own_slice h.vats
  obtain ⟨g2, rfl, hg2, u⟩ := hl.number (by omega)
  have u0 := u 0 (by omega)
  clear u
  simp only [List.getElem_cons_zero] at u0
  have v0 : w.cell? ⟨b, 0, none⟩ = some (.slice Av S.vats.length ev) := h.blk.cell 0
  have hlt : b < w.heap.size := h.blk.lt
  have hb0 : ∀ o, (w.alloc o).cell? ⟨b, 0, none⟩ = some (.slice Av S.vats.length ev) := fun o => (World.cell?_alloc_lt w o ⟨b, 0, none⟩ hlt).trans v0
  have hV : VatsAt 0 w Av S.vats.length ev S.vats := ⟨h.vats, rfl, by have := h.ok.lv; omega, fun p hp => by have := h.ok.vb p hp; omega⟩
  have hvb := h.ok.vb
  have hlv := h.ok.lv
  have HV := Lib.hid hV
  have HVB := Lib.hid hvb
  clear hV hvb h hl
  go_enter Tryz.func85, Tryz.ntmps85
  go_wp2_with fail
  obtain ⟨W0, hW0⟩ : ∃ W0, W0 = w.alloc (.cells #[.slice A1 0 e1, .slice (some ⟨g2, 0, none⟩) 1 e2] 134) := ⟨_, rfl⟩
  have hB0 : Below w.heap.size w W0 := hW0 ▸ (Below.refl _ _).alloc (Nat.le_refl _) _
  have hk0 : Blk W0 w.heap.size 134 #[.slice A1 0 e1, .slice (some ⟨g2, 0, none⟩) 1 e2] := hW0 ▸ Blk.new _ _ _
  have hu0 : W0.cell? ⟨g2, 0, none⟩ = some (.int .i64 n) := (hB0.cell (p := ⟨g2, 0, none⟩) hg2).trans u0
  rw [← hW0]
  have HB0 := Lib.hid hB0
  have HK0 := Lib.hid hk0
  have HU0 := Lib.hid (show g2 < W0.heap.size ∧ W0.cell? ⟨g2, 0, none⟩ = some (.int .i64 n) from ⟨Nat.lt_of_lt_of_le hg2 hB0.size, hu0⟩)
  have HV0 := Lib.hid (HV.out.on hB0)
  have HBA := Lib.hid (hB.on hB0)
  clear hW0 hB0 hk0 hu0 u0 v0 hb0 HV
  obtain ⟨i0, hi, hz0, hz1, hz2⟩ := info_parts infoString
  go_loopw [6, 14] (fun o i wr => ∃ (k : Nat) (A' : Option Addr) (n' c' : Nat), k ≤ S.vats.length ∧ i = .int .i64 k ∧ o = .slice A' n' c' ∧ n' ≤ k ∧ Hid ((stirred (S.vats.take k) n).length = n') ∧ Hid (wr.ownsRow W0.heap.size 9 1 (.slice A' n' c') n' ((stirred (S.vats.take k) n).map Value.string)) ∧ Hid (Below W0.heap.size W0 wr)) (fun _ i _ => S.vats.length - (intOf i).toNat)
  case atStart => exact ⟨0, none, 0, 0, Nat.zero_le _, rfl, rfl, Nat.zero_le _, rfl, own_zero _ _ _, Below.refl _ _⟩
  case round =>
    obtain ⟨k, A', n', c', hk, rfl, rfl, hnk, hL, hO, hBr⟩ := hrel
    by_cases hlt : k < S.vats.length
    · obtain ⟨g, rfl, hgs, d0, d1, d2⟩ := (HV0.out.on hBr.out).at_ hlt
      have hs := HVB.out _ (List.getElem_mem hlt)
      have hst := stirred_succ S.vats n k hlt
      generalize S.vats[k] = p at d0 d1 d2 hs hst
      obtain ⟨nm, a, m⟩ := p
      obtain ⟨_, s2, s3⟩ := hs
      dsimp only at d0 d1 d2 s2 s3 hst
      have HST := Lib.hid hst
      clear hst
      have hkr := HK0.out.below hBr.out HK0.out.lt
      obtain ⟨W1, hW1⟩ : ∃ W1, W1 = wr.alloc (.cells #[.string nm, .int .i64 a, .int .i64 m] 116) := ⟨_, rfl⟩
      have hB1 : Below W0.heap.size W0 W1 := hW1 ▸ hBr.out.alloc hBr.out.size _
      have hkv : Blk W1 wr.heap.size 116 #[.string nm, .int .i64 a, .int .i64 m] := hW1 ▸ Blk.new _ _ _
      have x1 : W1.cell? ⟨wr.heap.size, 1, none⟩ = some (.int .i64 a) := hkv.cell 1
      have x2 : W1.cell? ⟨wr.heap.size, 2, none⟩ = some (.int .i64 m) := hkv.cell 2
      have x0 : W1.cell? ⟨wr.heap.size, 0, none⟩ = some (.string nm) := hkv.cell 0
      have x3 : W1.cell? ⟨w.heap.size, 1, none⟩ = some (.slice (some ⟨g2, 0, none⟩) 1 e2) := (HK0.out.below hB1 HK0.out.lt).cell 1
      have x4 : W1.cell? ⟨g2, 0, none⟩ = some (.int .i64 n) := (hB1.cell (p := ⟨g2, 0, none⟩) HU0.out.1).trans HU0.out.2
      have hO1 : W1.ownsRow W0.heap.size 9 1 (.slice A' n' c') n' ((stirred (S.vats.take k) n).map Value.string) := hW1 ▸ hO.out.alloc _
      have m0 : (m : Int) ≠ 0 := by omega
      have e1 : IntKind.i64.wrap ((n : Int) - (a : Int)) = (n : Int) - (a : Int) := IntWalk.i64_in _ (by omega)
      have hcv := covB_tmod a m n
      have HW1 := Lib.hid hW1
      have HB1 := Lib.hid hB1
      have HO1 := Lib.hid hO1
      clear hW1 hB1 hkv hO1 hkr
      cases hc : covB (a, m) n
      · rw [hc] at hcv HST
        have HC := Lib.hid hc
        clear hc
        go_wp2_with fail
        rw [← HW1.out]
        go_quiet (fail)
        clear e1 hcv
        go_wp2_with fail
        go_roundw
        case rel => exact ⟨k + 1, A', n', c', hlt, by go_num, rfl, by omega, by show _ = _; rw [HST.out, ← hL.out]; simp, by show World.ownsRow _ _ _ _ _ _ _; rw [HST.out]; rw [if_neg (by decide), List.append_nil]; exact HO1.out, bel_drewN HB1.out _⟩
        case measure => simp [intOf]; omega
      · rw [hc] at hcv HST
        have HC := Lib.hid hc
        clear hc
        go_wp2_with fail
        rw [← HW1.out]
        go_quiet (fail)
        clear e1 hcv
        have hOq : (W1.drewN nq).ownsRow W0.heap.size 9 1 (.slice A' n' c') n' ((stirred (S.vats.take k) n).map Value.string) := HO1.out
        have HBq := Lib.hid (bel_drewN HB1.out nq)
        have xq : (W1.drewN nq).cell? ⟨wr.heap.size, 0, none⟩ = some (.string nm) := x0
        have HSZ := Lib.hid HB1.out.size
        clear x0 x1 x2 x3 x4 d0 d1 d2
        go_wp2_with (at_builtin; go_must (refine wpList_push rfl _ _ 22 rfl W0.heap.size 9 i0 (.string ⟨#[]⟩) 1 16 Tryz.underlying22 hi hz0 hz1 hz2 rfl (by decide) _ _ _ rfl hOq #[.string nm] W1.heap.size (by simp) rfl rfl ?d1 ?d2 ?d3 ?d4 ?_))
        all_goals (try first | exact rfl | omega | (have := HSZ.out; simp; omega))
        intro v' w5 hown5 hO5 _ hbl5
        obtain ⟨A5, c5, rfl⟩ := own_slice hown5
        have HB5 := Lib.hid (Only.fresh HBq.out hO5 (fun g hg => (own_ge hOq hg).1))
        have HO5 := Lib.hid hown5
        clear hO5 hown5 xq hOq
        go_wp2_with fail
        go_roundw
        case rel => exact ⟨k + 1, A5, n' + 1, c5, hlt, by go_num, rfl, by omega, by show _ = _; rw [HST.out, ← hL.out]; simp, by show World.ownsRow _ _ _ _ _ _ _; rw [HST.out]; simpa using HO5.out, HB5.out⟩
        case measure => simp [intOf]; omega
    · obtain rfl : k = S.vats.length := by omega
      have hall : S.vats.take S.vats.length = S.vats := List.take_length
      rw [hall] at hL hO
      have HALL := Lib.hid hall
      clear hall
      have HN := Lib.hid (stirred_len S.vats n)
      generalize hss : stirred S.vats n = ss at hL hO HN
      have HSS := Lib.hid hss
      clear hss
      go_wp2_with fail
      refine (sort_any wr W0.heap.size A' n' c' ss hO.out (by have := HN.out; omega)).mono ?_
      rintro e w4 ⟨rfl, hO4, hon4⟩
      have hB4 : Below W0.heap.size W0 w4 := Only.fresh hBr.out hon4 (fun g hg => (own_ge hO.out hg).1)
      have HB4 := Lib.hid hB4
      have hO4a : ∀ o, (w4.alloc o).ownsRow W0.heap.size 9 1 (.slice A' n' c') n' ((sortS ss).map Value.string) := fun o => hO4.alloc o
      have HO4 := Lib.hid hO4
      have HO4A := Lib.hid hO4a
      clear hB4 hO4 hon4 hO4a
      have HSZ4 := Lib.hid HB4.out.size
      rcases HO4.out.2 with ⟨h0, h1⟩ | ⟨gn, cap, cur, h0, _⟩
      · injection h0 with h0 _ h0'
        subst h0; subst h0'; subst h1
        have hnil : ss = [] := List.eq_nil_of_length_eq_zero hL.out
        go_wp2_with (at_builtin; go_must (refine wpList_append_own_none rfl _ _ 22 rfl w4.heap.size 9 i0 1 Tryz.underlying22 hi _ 1 [.string ⟨#[115, 116, 105, 114]⟩] rfl ⟨rfl, .inr ⟨w4.heap.size, 1, #[.string ⟨#[115, 116, 105, 114]⟩], rfl, Nat.le_refl _, Blk.new _ _ _, Nat.le_refl _, by unfold maxLen; omega, rfl, rfl⟩⟩ rfl ?_))
        have hlit : (w4.alloc (.cells #[.string ⟨#[115, 116, 105, 114]⟩] 9)).ownsRow w4.heap.size 9 1 (.slice (some ⟨w4.heap.size, 0, none⟩) 1 1) 1 (([⟨#[115, 116, 105, 114]⟩] : List ByteArray).map Value.string) :=
          ⟨rfl, .inr ⟨w4.heap.size, 1, #[.string ⟨#[115, 116, 105, 114]⟩], rfl, Nat.le_refl _, Blk.new _ _ _, Nat.le_refl _, by unfold maxLen; omega, rfl, rfl⟩⟩
        have HLIT := Lib.hid hlit
        have HNIL := Lib.hid hnil
        clear hlit hnil
        go_wp2_with fail
        refine (join_ok _ w4.heap.size w4.heap.size 1 1 _ HLIT.out (by decide) (by decide)).mono ?_
        rintro e w6 ⟨rfl, hb6⟩
        have hb4' : Below W0.heap.size W0 (w4.alloc (.cells #[.string ⟨#[115, 116, 105, 114]⟩] 9)) := HB4.out.alloc HB4.out.size _
        go_wp2_with fail
        go_ret2
        refine ⟨?_, HB0.out.trans ((hb4'.trans (hb6.mono hb4'.size)).mono HB0.out.size)⟩
        rw [stirText, HSS.out, HNIL.out, show sortS [] = [] from by simp [sortS]]
        rfl
      · injection h0 with h0 _ h0'
        subst h0; subst h0'
        have hlit : (w4.alloc (.cells #[.string ⟨#[115, 116, 105, 114]⟩] 9)).ownsRow w4.heap.size 9 1 (.slice (some ⟨w4.heap.size, 0, none⟩) 1 1) 1 [.string ⟨#[115, 116, 105, 114]⟩] :=
          ⟨rfl, .inr ⟨w4.heap.size, 1, #[.string ⟨#[115, 116, 105, 114]⟩], rfl, Nat.le_refl _, Blk.new _ _ _, Nat.le_refl _, by unfold maxLen; omega, rfl, rfl⟩⟩
        have hcells : ∀ (j : Nat) (u : Value), ((sortS ss).map Value.string)[j]? = some u → (w4.alloc (.cells #[.string ⟨#[115, 116, 105, 114]⟩] 9)).cell? ((⟨gn, 0, none⟩ : Addr).add j) = some u := fun j u hj => by
          have e0 : (⟨gn, 0, none⟩ : Addr).add j = ⟨gn, j, none⟩ := by unfold Addr.add; split <;> simp_all
          have hj' : j < n' := by have := (List.getElem?_eq_some_iff.1 hj).1; rw [List.length_map, sortS_len, hL.out] at this; exact this
          rw [e0, (HO4A.out _).cellAt j (by omega), hj]
        have HCE := Lib.hid hcells
        clear hcells
        go_wp2_with (at_builtin; go_must (refine wpList_append_own _ rfl _ _ 22 rfl w4.heap.size 9 i0 (.string ⟨#[]⟩) 1 16 Tryz.underlying22 hi hz0 hz1 hz2 rfl (by decide) _ _ _ rfl hlit ⟨gn, 0, none⟩ n' c' ((sortS ss).map Value.string) rfl ?f1 HCE.out ?f2 ?f3 ?f4 ?f5 ?_))
        case f1 => rw [List.length_map, sortS_len, hL.out, Nat.mul_one]
        case f2 =>
          intro u hu
          obtain ⟨x, _, rfl⟩ := List.mem_map.1 hu
          rfl
        case f3 => unfold maxLen; omega
        case f4 => omega
        case f5 => simp
        intro v' w5 hown5 hg5 _
        obtain ⟨A5, c5, rfl⟩ := own_slice hown5
        have hO5 : Only [] w4 w5 := by
          have h1 : Only (blocksOf (.slice (some ⟨w4.heap.size, 0, none⟩) 1 1)) (w4.alloc (.cells #[.string ⟨#[115, 116, 105, 114]⟩] 9)) w5 := Only.of_own hg5
          refine ⟨h1.os, h1.tape, h1.output, Nat.le_trans (by simp) h1.size, fun k hk _ => ?_⟩
          exact (h1.block k (by simp; omega) (by simp [blocksOf, Value.ownBlock]; omega)).trans (Below.heap_alloc _ _ _ hk)
        have hB5 := HB4.out.trans (hO5.below.mono HB4.out.size)
        have HB5 := Lib.hid hB5
        have HO5 := Lib.hid hown5
        clear hB5 hown5 hO5 hg5 hlit
        obtain ⟨g5, cap5, h5, _, hg5⟩ := HO5.out.form (by omega)
        injection h5 with h5 _ h5'
        subst h5; subst h5'
        have hmap : Value.string ⟨#[115, 116, 105, 114]⟩ :: (sortS ss).map Value.string = ((⟨#[115, 116, 105, 114]⟩ : ByteArray) :: sortS ss).map Value.string := rfl
        have hlen5 : ((⟨#[115, 116, 105, 114]⟩ : ByteArray) :: sortS ss).length ≤ 11 := by have := HN.out; rw [List.length_cons, sortS_len]; omega
        have hsz : (spaced ((⟨#[115, 116, 105, 114]⟩ : ByteArray) :: sortS ss)).size ≤ 1000000 := by
          have := spaced_size 1000 ((⟨#[115, 116, 105, 114]⟩ : ByteArray) :: sortS ss) (fun x hx => by
            rcases List.mem_cons.1 hx with rfl | hx
            · decide
            · have h1 := sortS_mem hx
              rw [← HSS.out] at h1
              obtain ⟨v, hv, rfl⟩ := List.mem_map.1 h1
              exact (HVB.out v (List.mem_filter.1 hv).1).1)
          omega
        have HSZJ := Lib.hid hsz
        have HLJ := Lib.hid hlen5
        have hoj := HO5.out
        rw [hmap] at hoj
        have HOJ := Lib.hid hoj
        clear hsz hlen5 hoj hmap
        go_wp2_with fail
        refine (join_ok w5 w4.heap.size g5 (1 + n') c5 _ HOJ.out HSZJ.out (by have := HLJ.out; omega)).mono ?_
        rintro e w6 ⟨rfl, hb6⟩
        go_wp2_with fail
        go_ret2
        refine ⟨?_, HB0.out.trans ((HB5.out.trans (hb6.mono HB5.out.size)).mono HB0.out.size)⟩
        rw [stirText, HSS.out]
        rfl
end Go.Proofs.YtkfdcccgpphcmaaGreatDoor
