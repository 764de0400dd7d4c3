/- A vat that comes. -/
import Derived.Test.YtkfdcccgpphcmaaGreatDoorShare
import Derived.Deep.RegionLaw
namespace Go.Proofs.YtkfdcccgpphcmaaGreatDoor
open Go.RowKit Go.Shelf

theorem vatCells_len (l : List (ByteArray × Nat × Nat)) : (vatCells l).length = l.length * 3 := by
  induction l with
  | nil => rfl
  | cons p r ih => simp [vatCells] at ih ⊢; omega
theorem vatCells_at : ∀ (l : List (ByteArray × Nat × Nat)) (k : Nat) (h : k < l.length), (vatCells l)[k * 3]? = some (.string l[k].1) ∧ (vatCells l)[k * 3 + 1]? = some (.int .i64 (l[k].2.1 : Nat)) ∧ (vatCells l)[k * 3 + 2]? = some (.int .i64 (l[k].2.2 : Nat))
  | [], _, h => by simp at h
  | p :: r, 0, _ => ⟨rfl, rfl, rfl⟩
  | p :: r, k + 1, h => by
    have := vatCells_at r k (by simpa using h)
    rw [show (k + 1) * 3 = k * 3 + 3 by omega]
    exact this
/-- A row of vats, not all of them valid. -/
structure VatsAt (Z : Nat) (w : World) (A : Option Addr) (n c : Nat) (l : List (ByteArray × Nat × Nat)) : Prop where
  own : w.ownsRow Z 116 3 (.slice A n c) n (vatCells l)
  len : l.length = n
  n10 : n ≤ 1000
  small : ∀ p, p ∈ l → p.1.size ≤ 1000 ∧ p.2.2 ≤ 999999 ∧ p.2.1 ≤ 999999
theorem VatsAt.on {Z : Nat} {w w' : World} {A : Option Addr} {n c : Nat} {l : List (ByteArray × Nat × Nat)} (h : VatsAt Z w A n c l) (hb : Below w.heap.size w w') : VatsAt Z w' A n c l := ⟨own_on hb h.own, h.len, h.n10, h.small⟩
theorem VatsAt.at_ {Z : Nat} {w : World} {A : Option Addr} {n c : Nat} {l : List (ByteArray × Nat × Nat)} (h : VatsAt Z w A n c l) {k : Nat} (hk : k < n) : ∃ g, A = some ⟨g, 0, none⟩ ∧ g < w.heap.size ∧ w.cell? ⟨g, k * 3, none⟩ = some (.string (l[k]'(by rw [h.len]; exact hk)).1) ∧ w.cell? ⟨g, k * 3 + 1, none⟩ = some (.int .i64 ((l[k]'(by rw [h.len]; exact hk)).2.1 : Nat)) ∧ w.cell? ⟨g, k * 3 + 2, none⟩ = some (.int .i64 ((l[k]'(by rw [h.len]; exact hk)).2.2 : Nat)) := by
  obtain ⟨g, cap, hv, _, hg⟩ := h.own.form (by omega)
  injection hv with hA _ hc
  subst hA; subst hc
  have := vatCells_at l k (by rw [h.len]; exact hk)
  exact ⟨g, rfl, hg, (h.own.cellAt (k * 3) (by omega)).trans this.1, (h.own.cellAt (k * 3 + 1) (by omega)).trans this.2.1, (h.own.cellAt (k * 3 + 2) (by omega)).trans this.2.2⟩

/-- The days of vats. -/
def daysOf (l : List (ByteArray × Nat × Nat)) : List (Nat × Nat) := l.map fun v => v.2
theorem daysOf_succ (l : List (ByteArray × Nat × Nat)) (k : Nat) (h : k < l.length) : pairCells (daysOf (l.take (k + 1))) = pairCells (daysOf (l.take k)) ++ [.int .i64 (l[k].2.1 : Nat), .int .i64 (l[k].2.2 : Nat)] := by
  unfold daysOf pairCells
  rw [List.take_succ_eq_append_getElem h, List.map_append, List.flatMap_append]
  rfl
theorem infoTwo : (Tryz.prog.info? 114).map (fun i => (i.zero, i.size, i.bytes)) = some (some (.agg #[.int .i64 0, .int .i64 0]), 2, 16) := by kernel_rfl

set_option maxRecDepth 100000 in
set_option maxHeartbeats 800000 in
theorem system_ok (Z : Nat) (w : World) (b : Nat) (A : Option Addr) (n c : Nat) (l : List (ByteArray × Nat × Nat)) (h : VatsAt Z w A n c l) (c0 : w.cell? ⟨b, 0, none⟩ = some (.slice A n c)) :
    Calls Tryz.prog 145 #[.pointer (some ⟨b, 0, none⟩)] w fun e w' => ∃ A' c', e = .returned (.slice A' n c') ∧ PairsAt w' 114 A' n c' (daysOf l) ∧ Below w.heap.size w w' := by
  have hd := h.n10
  have H := Lib.hid h
  clear h
  obtain ⟨i0, hi, hz0, hz1, hz2⟩ := info_parts infoTwo
  go_enter Tryz.func145, Tryz.ntmps145
  go_wp2_with fail
  go_loopw [3, 11] (fun o i wr => ∃ (k : Nat) (A' : Option Addr) (c' : Nat), k ≤ n ∧ i = .int .i64 k ∧ o = .slice A' k c' ∧ Hid (wr.ownsRow w.heap.size 114 2 (.slice A' k c') k (pairCells (daysOf (l.take k)))) ∧ Hid (Below w.heap.size w wr)) (fun _ i _ => n - (intOf i).toNat)
  case atStart => exact ⟨0, none, 0, Nat.zero_le _, rfl, rfl, own_zero _ _ _, Below.refl _ _⟩
  case round =>
    obtain ⟨k, A', c', hk, rfl, rfl, hO, hB⟩ := hrel
    by_cases hlt : k < n
    · have hkl : k < l.length := by rw [H.out.len]; exact hlt
      obtain ⟨g, rfl, _, d0, d1, d2⟩ := (H.out.on hB.out).at_ hlt
      have hs := H.out.small _ (List.getElem_mem hkl)
      have hcells := daysOf_succ l k hkl
      generalize l[k] = p at d0 d1 d2 hs hcells
      obtain ⟨nm, a, m⟩ := p
      obtain ⟨_, s2, s3⟩ := hs
      dsimp only at d0 d1 d2 s2 s3 hcells
      have HCE := Lib.hid hcells
      clear hcells
      have hO' : (wr.alloc (.cells #[.string nm, .int .i64 a, .int .i64 m] 116)).ownsRow w.heap.size 114 2 (.slice A' k c') k (pairCells (daysOf (l.take k))) := hO.out.alloc _
      have HS := Lib.hid hB.out.size
      go_wp2_with (at_builtin; go_must (refine wpList_push rfl _ _ 180 rfl w.heap.size 114 i0 (.agg #[.int .i64 0, .int .i64 0]) 2 16 Tryz.underlying180 hi hz0 hz1 hz2 rfl (by decide) _ _ _ rfl hO' #[.int .i64 a, .int .i64 m] (wr.heap.size + 1) (by simp) rfl rfl ?d1 ?d2 ?d3 ?d4 ?_))
      all_goals (try first | exact ⟨rfl, rfl⟩ | (have := HS.out; simp; omega))
      intro v' w5 hown5 hO5 _ hbl5
      obtain ⟨A5, c5, rfl⟩ := own_slice hown5
      have hfin : Below w.heap.size w w5 := Only.fresh (hB.out.alloc hB.out.size _) hO5 (fun g hg => (own_ge hO' hg).1)
      have HF := Lib.hid hfin
      have HO5 := Lib.hid hown5
      clear hfin hown5 hO5
      go_wp2_with fail
      go_roundw
      case rel => exact ⟨k + 1, A5, c5, hlt, by go_num, rfl, by show World.ownsRow _ _ _ _ _ _ _; rw [HCE.out]; exact HO5.out, HF.out⟩
      case measure => simp [intOf]; omega
    · obtain rfl : k = n := by omega
      have hall : l.take k = l := List.take_of_length_le (by rw [H.out.len]; exact Nat.le_refl _)
      rw [hall] at hO
      go_wp2_with fail
      go_ret
      refine ⟨A', c', rfl, ⟨own_mono hO.out (Nat.zero_le _), by simp [daysOf, H.out.len], hd, fun p hp => ?_⟩, hB.out⟩
      obtain ⟨v, hv, rfl⟩ := List.mem_map.1 hp
      exact (H.out.small v hv).2

theorem str_eq (a b : ByteArray) : (a.toList == b.toList) = decide (a = b) := by
  rw [Bool.eq_iff_iff, beq_iff_eq, decide_eq_true_eq, ByteArray.toList_eq, ByteArray.toList_eq]
  constructor
  · intro h
    cases a; cases b
    simp at h
    rw [h]
  · rintro rfl; rfl
/-- The cells of a vat. -/
def vatEnc (v : ByteArray × Nat × Nat) : List Value := [.string v.1, .int .i64 (v.2.1 : Nat), .int .i64 (v.2.2 : Nat)]
set_option maxRecDepth 100000 in
theorem vat_pred (nm : ByteArray) (g : Nat) (w : World) (hg : g < w.heap.size) (c0 : w.cell? ⟨g, 0, none⟩ = some (.string nm)) :
    PredBelow Tryz.prog 178 #[.pointer (some ⟨g, 0, none⟩)] (fun x => .agg (vatEnc x).toArray) (fun v => decide (v.1 = nm)) w := fun W x hb => by
  have c1 : W.cell? ⟨g, 0, none⟩ = some (.string nm) := (hb.cell (p := ⟨g, 0, none⟩) hg).trans c0
  obtain ⟨xn, xa, xm⟩ := x
  show Calls Tryz.prog 178 #[.agg #[.string xn, .int .i64 xa, .int .i64 xm], .pointer (some ⟨g, 0, none⟩)] W _
  have hg' : g < W.heap.size := Nat.lt_of_lt_of_le hg hb.size
  have hc : ∀ o, (W.alloc o).cell? ⟨g, 0, none⟩ = some (.string nm) := fun o => (World.cell?_alloc_lt W o ⟨g, 0, none⟩ hg').trans c1
  go_enter Tryz.func178, Tryz.ntmps178
  go_wp2_with fail
  go_ret
  exact ⟨by rw [← str_eq]; rfl, hb.alloc hb.size _⟩
theorem anyVat_nil (c : Nat) (g : Nat) (lb : Array Value) (w : World) :
    Calls Tryz.prog 177 #[.slice none 0 c, .func (.func g) #[] lb] w fun e w' => e = .returned (.bool false) ∧ Below w.heap.size w w' := by
  have h1 : ∀ W, Calls Tryz.prog 184 #[.slice none 0 c, .func (.func g) #[] lb] W fun e w' => e = .returned (.int .i64 (-1)) ∧ W = w' := fun W => by
    go_enter Tryz.func184, Tryz.ntmps184
    go_wp2_with fail
    refine wp_loop_rounds 1 ?_
    rw [rounds_succ]
    go_wp2_with fail
    go_ret
    exact ⟨rfl, rfl⟩
  go_enter Tryz.func177, Tryz.ntmps177
  go_wp2_with fail
  refine (h1 _).mono ?_
  rintro e w' ⟨rfl, rfl⟩
  go_wp2_with fail
  go_ret
  exact ⟨rfl, Below.refl _ _⟩
theorem vatCells_enc (l : List (ByteArray × Nat × Nat)) (j : Nat) (hj : j < l.length) (i : Nat) (v : Value) (h : (vatEnc l[j]!)[i]? = some v) : (vatCells l)[j * 3 + i]? = some v := by
  have := vatCells_at l j hj
  rw [getElem!_pos l j hj] at h
  match i, h with
  | 0, h => injection h with h; subst h; exact this.1
  | 1, h => injection h with h; subst h; exact this.2.1
  | 2, h => injection h with h; subst h; exact this.2.2
  | i + 3, h => simp [vatEnc] at h
theorem anyVat_ok (Z : Nat) (w : World) (A : Option Addr) (n c : Nat) (l : List (ByteArray × Nat × Nat)) (h : VatsAt Z w A n c l) (nm : ByteArray) (g : Nat) (hg : g < w.heap.size) (c0 : w.cell? ⟨g, 0, none⟩ = some (.string nm)) :
    Calls Tryz.prog 177 #[.slice A n c, .func (.func 178) #[] #[.pointer (some ⟨g, 0, none⟩)]] w fun e w' => e = .returned (.bool (l.any fun v => decide (v.1 = nm))) ∧ Below w.heap.size w w' := by
  rcases h.own.2 with ⟨h0, h1⟩ | ⟨b, cap, cur, h0, hb, hh, h2, h3, h4, h5⟩
  · injection h0 with h0 _ h0'
    subst h0; subst h0'; subst h1
    have : l = [] := List.eq_nil_of_length_eq_zero h.len
    subst this
    exact anyVat_nil _ _ _ _
  · injection h0 with h0 _ h0'
    subst h0; subst h0'
    have hn := h.n10
    refine (AnyQ.slices_ContainsFunc Tryz.anyVat 3 (fun w => by kernel_rfl) (fun w => by kernel_rfl) vatEnc (fun _ => rfl) _ 178 _ (enters_of Tryz.func178 (by kernel_rfl) rfl) b 0 n c l w (vat_pred nm g w hg c0) (Nat.le_of_eq h.len.symm) (by omega) (Blk.lt (cs := cur) hh) (fun j hj i v hv => ?_)).mono fun e w' ⟨he, hb⟩ => ⟨by rw [he, List.take_of_length_le (Nat.le_of_eq h.len)], hb⟩
    have := vatCells_enc l j hj i v hv
    have hi : i < 3 := by
      have := (List.getElem?_eq_some_iff.1 hv).1
      simpa [vatEnc] using this
    rw [Nat.zero_add, h.own.cellAt (j * 3 + i) (by rw [← h.len]; omega), this]

/-- What a vat that comes reports. -/
def vatCode (S : St) (nm : ByteArray) (a m : Nat) : Int :=
  if (S.vats.any fun v => decide (v.1 = nm)) = true then 5 else if S.vats.length = 10 then 7 else if validB (daysOf (S.vats ++ [(nm, a, m)])) = true then 0 else 2
def St.addVat (S : St) (nm : ByteArray) (a m : Nat) : St := { S with vats := S.vats ++ [(nm, a, m)] }
def vatReply (c : Int) : ByteArray := if c = 0 then ⟨#[118, 97, 116]⟩ else ⟨#[]⟩

/-- The numbers of a line as the methods take them: names and numbers in rows of the call's own. -/
structure LineAt (w : World) (A1 A2 : Option Addr) (n1 e1 n2 e2 : Nat) (nm : List ByteArray) (nu : List Int) : Prop where
  o1 : w.ownsRow 0 9 1 (.slice A1 n1 e1) n1 (nm.map Value.string)
  o2 : w.ownsRow 0 3 1 (.slice A2 n2 e2) n2 (nu.map (Value.int .i64))
  l1 : nm.length = n1
  l2 : nu.length = n2
theorem LineAt.name {w : World} {A1 A2 : Option Addr} {n1 e1 n2 e2 : Nat} {nm : List ByteArray} {nu : List Int} (h : LineAt w A1 A2 n1 e1 n2 e2 nm nu) {k : Nat} (hk : k < n1) : ∃ g, A1 = some ⟨g, 0, none⟩ ∧ g < w.heap.size ∧ w.cell? ⟨g, k, none⟩ = some (.string (nm[k]'(by rw [h.l1]; exact hk))) := by
  obtain ⟨g, cap, hv, _, hg⟩ := h.o1.form (by omega)
  injection hv with hA _ hc
  subst hA; subst hc
  have hk' : k < nm.length := by rw [h.l1]; exact hk
  exact ⟨g, rfl, hg, (h.o1.cellAt k (by omega)).trans (by simp [hk'])⟩
theorem LineAt.number {w : World} {A1 A2 : Option Addr} {n1 e1 n2 e2 : Nat} {nm : List ByteArray} {nu : List Int} (h : LineAt w A1 A2 n1 e1 n2 e2 nm nu) (h0 : 0 < n2) : ∃ g, A2 = some ⟨g, 0, none⟩ ∧ g < w.heap.size ∧ ∀ k, (hk : k < n2) → w.cell? ⟨g, k, none⟩ = some (.int .i64 (nu[k]'(by rw [h.l2]; exact hk))) := by
  obtain ⟨g, cap, hv, _, hg⟩ := h.o2.form h0
  injection hv with hA _ hc
  subst hA; subst hc
  refine ⟨g, rfl, hg, fun k hk => ?_⟩
  have hk' : k < nu.length := by rw [h.l2]; exact hk
  exact (h.o2.cellAt k (by omega)).trans (by simp [hk'])
theorem LineAt.on {w w' : World} {A1 A2 : Option Addr} {n1 e1 n2 e2 : Nat} {nm : List ByteArray} {nu : List Int} (h : LineAt w A1 A2 n1 e1 n2 e2 nm nu) (hb : Below w.heap.size w w') : LineAt w' A1 A2 n1 e1 n2 e2 nm nu := ⟨own_on hb h.o1, own_on hb h.o2, h.l1, h.l2⟩

theorem below_only {Z : Nat} {M : List Nat} {a w w' : World} (h : Below Z a w) (ho : Only M w w') (hM : ∀ g, g ∈ M → Z ≤ g) (hz : Z ≤ w.heap.size) : Below Z a w' :=
  ⟨ho.os.trans h.os, ho.tape.trans h.tape, ho.output.trans h.output, Nat.le_trans h.size ho.size, fun k hk => (ho.block k (Nat.lt_of_lt_of_le hk hz) (fun hm => by have := hM k hm; omega)).trans (h.block k hk)⟩
/-- Behind the append of a vat. -/
structure VatStep (Z : Nat) (W3 : World) (b : Nat) (S : St) (Av : Option Addr) (ev : Nat) (A5 : Option Addr) (c5 : Nat) (xs : List Value) (w5 : World) : Prop where
  c : w5.cell? ⟨b, 0, none⟩ = some (.slice Av S.vats.length ev)
  f : w5.frozen? ⟨b, 0, none⟩ = false
  o : w5.ownsRow Z 116 3 (.slice A5 (S.vats.length + 1) c5) (S.vats.length + 1) xs
  only : Only (blocksOf (.slice Av S.vats.length ev)) W3 w5
theorem VatStep.mk' {Z : Nat} {W3 W4 w5 : World} {b : Nat} {S : St} {Av : Option Addr} {ev : Nat} {A5 : Option Addr} {c5 : Nat} {xs : List Value} {gm pm : Nat} {vs : List Value} {gv cv : Value} (h : StateIn Z W3 b S (.slice Av S.vats.length ev) gm pm vs gv cv)
    (hO : Only (blocksOf (.slice Av S.vats.length ev)) W4 w5) (hw : w5.ownsRow Z 116 3 (.slice A5 (S.vats.length + 1) c5) (S.vats.length + 1) xs) (h34 : Only [] W3 W4 := by exact ((Only.refl _ _).alloc _).drewN _) : VatStep Z W3 b S Av ev A5 c5 xs w5 := by
  have hO' : Only (blocksOf (.slice Av S.vats.length ev)) W3 w5 := (h34.mono (by simp)).trans hO
  have hb := hO'.blk h.blk (own_ne h.vats h.blk (by decide))
  exact ⟨hb.cell 0, hb.frozen 0, hw, hO'⟩

/-- Blocks of some element types. -/
def FarT (w : World) (M : List Nat) (L : List TypeId) : Prop := ∀ g, g ∈ M → ∃ t cs, Blk w g t cs ∧ t ∈ L
theorem own_blk {w : World} {base : Nat} {e : TypeId} {size n : Nat} {v : Value} {xs : List Value} (h : w.ownsRow base e size v n xs) {g : Nat} (hg : g ∈ blocksOf v) : ∃ cs, Blk w g e cs := by
  rcases h.2 with ⟨rfl, _⟩ | ⟨g', cap, cur, rfl, _, hh, _⟩
  · simp [blocksOf, Value.ownBlock] at hg
  · have e' : g' = g := by simpa [Value.ownBlock] using mem_blocksOf.1 hg
    subst e'
    exact ⟨cur, hh⟩
theorem own_farT {w : World} {base : Nat} {e : TypeId} {size n : Nat} {v : Value} {xs : List Value} {M : List Nat} {L : List TypeId} (h : w.ownsRow base e size v n xs) (hf : FarT w M L) (he : e ∉ L) : ∀ g, g ∈ blocksOf v → g ∉ M := fun g hg hm => by
  obtain ⟨t, cs, hb, ht⟩ := hf _ hm
  exact own_ne h hb (by rintro rfl; exact he ht) hg
theorem GridAt.onlyT {M : List Nat} {L : List TypeId} {w w' : World} {gv : Value} {G : Option (Int × Int × Int × Int)} (h : GridAt w gv G) (ho : Only M w w') (hf : FarT w M L) (h1 : 3 ∉ L) (h2 : 41 ∉ L) : GridAt w' gv G := by
  rcases G with _ | ⟨a, b, c, d⟩
  · exact h
  · obtain ⟨gg, gi, c1, c2, cur, k1, k2, k3, k4⟩ := h
    refine ⟨gg, gi, c1, c2, cur, k1, ho.blk k2 (fun hm => ?_), ho.blk k3 (fun hm => ?_), k4⟩
    · obtain ⟨t, cs, hb, ht⟩ := hf _ hm
      exact Blk.ne_ k2 hb (by rintro rfl; exact h2 ht) rfl
    · obtain ⟨t, cs, hb, ht⟩ := hf _ hm
      exact Blk.ne_ k3 hb (by rintro rfl; exact h1 ht) rfl
theorem VatStep.done {Z : Nat} {W3 w5 : World} {b : Nat} {S : St} {Av : Option Addr} {ev : Nat} {A5 : Option Addr} {c5 : Nat} {gm pm : Nat} {vs : List Value} {gv cv : Value} {nm : ByteArray} {a m : Nat} (h : StateIn Z W3 b S (.slice Av S.vats.length ev) gm pm vs gv cv)
    (t : VatStep Z W3 b S Av ev A5 c5 (vatCells S.vats ++ [.string nm, .int .i64 a, .int .i64 m]) w5) (ok : (S.addVat nm a m).ok) :
    StateIn Z (w5.setCell ⟨b, 0, none⟩ (.slice A5 (S.vats.length + 1) c5)) b (S.addVat nm a m) (.slice A5 (S.vats.length + 1) c5) gm pm vs gv cv := by
  have hO : Only (b :: blocksOf (.slice Av S.vats.length ev)) W3 (w5.setCell ⟨b, 0, none⟩ (.slice A5 (S.vats.length + 1) c5)) := (t.only.mono (by intro k hk; simp [hk])).set_ (by simp) _
  have hf : FarT W3 (b :: blocksOf (.slice Av S.vats.length ev)) [105, 116] := fun g hg => by
    rcases List.mem_cons.1 hg with rfl | hg
    · exact ⟨_, _, h.blk, by simp⟩
    · obtain ⟨cs, hb⟩ := own_blk h.vats hg
      exact ⟨_, cs, hb, by simp⟩
  have hm : ∀ g, g ∈ (b :: blocksOf (.slice Av S.vats.length ev)) → ∃ t cs, Blk W3 g t cs := fun g hg => by
    obtain ⟨t, cs, hb, _⟩ := hf g hg
    exact ⟨t, cs, hb⟩
  have hb5 : Blk w5 b 105 #[.slice Av S.vats.length ev, .map (some gm), .map (some pm), gv, cv] := t.only.blk h.blk (own_ne h.vats h.blk (by decide))
  refine ⟨ok, hb5.set_ 0 _, h.zb, h.zg, h.zp, ?_, hO.map_ h.growers (fun hg => ?_), h.plen, hO.map_ h.packs (fun hg => ?_), fun i v p h1 h2 => hO.own (h.rows i v p h1 h2) (own_farT (h.rows i v p h1 h2) hf (by decide)), h.grid.onlyT hO hf (by decide) (by decide), hO.own h.crates (own_farT h.crates hf (by decide))⟩
  · have e1 : vatCells (S.addVat nm a m).vats = vatCells S.vats ++ [.string nm, .int .i64 a, .int .i64 m] := by simp [vatCells, St.addVat]
    have e2 : (S.addVat nm a m).vats.length = S.vats.length + 1 := by simp [St.addVat]
    rw [e1, e2]
    exact ((Only.refl [b] _).set_ (by simp) _).own t.o (fun g hg hgb => own_ne t.o hb5 (by decide) (by simp at hgb; rw [hgb] at hg; exact hg))
  · obtain ⟨t', cs, hb⟩ := hm _ hg
    exact map_blk h.growers hb rfl
  · obtain ⟨t', cs, hb⟩ := hm _ hg
    exact map_blk h.packs hb rfl
theorem addVat_ok {S : St} (h : S.ok) (nm : ByteArray) (a m : Nat) (hs : nm.size ≤ 1000) (hf : ¬ S.vats.length = 10) (hv : validB (daysOf (S.vats ++ [(nm, a, m)])) = true) : (S.addVat nm a m).ok := by
  refine ⟨by have := h.lv; simp [St.addVat]; omega, h.lg, h.lp, h.lc, fun v hv' => ?_⟩
  rcases List.mem_append.1 hv' with h1 | h1
  · exact h.vb v h1
  · obtain rfl := List.mem_singleton.1 h1
    rw [validB_eq] at hv
    simp only [Bool.and_eq_true] at hv
    have h2 := List.all_eq_true.1 hv.1.2 (a, m) (by simp [daysOf])
    simp [okB] at h2
    refine ⟨hs, ?_, ?_⟩ <;> dsimp only <;> omega

set_option maxRecDepth 100000 in
set_option maxHeartbeats 1600000 in
theorem vat_ok (Z : Nat) (w : World) (b : Nat) (S : St) (h : StateAt Z w b S) (A1 A2 : Option Addr) (e1 e2 : Nat) (nm : ByteArray) (a m : Nat) (hl : LineAt w A1 A2 1 e1 2 e2 [nm] [(a : Int), (m : Int)]) (hs : nm.size ≤ 1000) (ha : a ≤ 999999) (hm : m ≤ 999999) :
    Calls Tryz.prog 126 #[.pointer (some ⟨b, 0, none⟩), .agg #[.slice A1 1 e1, .slice A2 2 e2]] w fun e w' => e = .returned (.tuple #[.string (vatReply (vatCode S nm a m)), .int .i64 (vatCode S nm a m)]) ∧ Below Z w w' ∧ (vatCode S nm a m = 0 → StateAt Z w' b (S.addVat nm a m)) := by
  obtain ⟨vv, gm, pm, vs, gv, cv, h⟩ := h
  obtain ⟨Av, ev, rfl⟩ := own_slice h.vats
  have hZ : Z ≤ w.heap.size := Nat.le_trans h.zb (Nat.le_of_lt h.blk.lt)
  have HZ := Lib.hid hZ
  clear hZ
  obtain ⟨g1, rfl, hg1, n0⟩ := hl.name (k := 0) (by omega)
  obtain ⟨g2, rfl, hg2, u⟩ := hl.number (by omega)
  have u0 := u 0 (by omega)
  have u1 := u 1 (by omega)
  clear u
  simp only [List.getElem_cons_zero, List.getElem_cons_succ] at n0 u0 u1
  have t1 : w.heap.size ≠ g1 := by omega
  have t2 : w.heap.size ≠ g2 := by omega
  have H := Lib.hid h
  have HL := Lib.hid hl
  clear h hl
  go_enter Tryz.func126, Tryz.ntmps126
  go_wp2_with fail
  obtain ⟨W1, hW1⟩ : ∃ W1, W1 = w.alloc (.cells #[.slice (some ⟨g1, 0, none⟩) 1 e1, .slice (some ⟨g2, 0, none⟩) 2 e2] 134) := ⟨_, rfl⟩
  have hB1 : Below w.heap.size w W1 := hW1 ▸ (Below.refl _ _).alloc (Nat.le_refl _) _
  have hk1 : Blk W1 w.heap.size 134 #[.slice (some ⟨g1, 0, none⟩) 1 e1, .slice (some ⟨g2, 0, none⟩) 2 e2] := hW1 ▸ Blk.new _ _ _
  have d0 : W1.cell? ⟨w.heap.size, 0, none⟩ = some (.slice (some ⟨g1, 0, none⟩) 1 e1) := hk1.cell 0
  have d1 : W1.cell? ⟨w.heap.size, 1, none⟩ = some (.slice (some ⟨g2, 0, none⟩) 2 e2) := hk1.cell 1
  have d2 : W1.cell? ⟨g1, 0, none⟩ = some (.string nm) := (hB1.cell (p := ⟨g1, 0, none⟩) hg1).trans n0
  have d3 : W1.cell? ⟨g2, 0, none⟩ = some (.int .i64 a) := (hB1.cell (p := ⟨g2, 0, none⟩) hg2).trans u0
  have d4 : W1.cell? ⟨g2, 1, none⟩ = some (.int .i64 m) := (hB1.cell (p := ⟨g2, 1, none⟩) hg2).trans u1
  have HK1 := Lib.hid hk1
  have HB1 := Lib.hid hB1
  rw [← hW1]
  clear hW1 hk1 hB1
  go_region_held3 (fun w' => w'.cell? ⟨w.heap.size, 0, none⟩ = some (.slice (some ⟨g1, 0, none⟩) 1 e1) ∧ w'.cell? ⟨w.heap.size, 1, none⟩ = some (.slice (some ⟨g2, 0, none⟩) 2 e2) ∧ w'.cell? ⟨g1, 0, none⟩ = some (.string nm) ∧ w'.cell? ⟨g2, 0, none⟩ = some (.int .i64 a) ∧ w'.cell? ⟨g2, 1, none⟩ = some (.int .i64 m)) (go_keep) (fail)
  obtain ⟨W2, hW2⟩ : ∃ W2, W2 = (W1.alloc (.cells #[.string nm, .int .i64 a, .int .i64 m] 116)).drew := ⟨_, rfl⟩
  have hB2 : Below w.heap.size w W2 := hW2 ▸ bel_drewN (n := 1) (HB1.out.alloc HB1.out.size _)
  have hk2 : Blk W2 W1.heap.size 116 #[.string nm, .int .i64 a, .int .i64 m] := hW2 ▸ (Blk.new W1 _ _)
  have hlo : w.heap.size ≤ W1.heap.size := HB1.out.size
  rw [← hW2]
  generalize hbv : W1.heap.size = bv at hk2 hlo
  have hS2 : StateIn Z W2 b S (.slice Av S.vats.length ev) gm pm vs gv cv := H.out.on hB2
  have HS2 := Lib.hid hS2
  have HK2 := Lib.hid hk2
  have HB2 := Lib.hid hB2
  have v0 : W2.cell? ⟨b, 0, none⟩ = some (.slice Av S.vats.length ev) := hS2.blk.cell 0
  clear hW2 hbv hB2 hk2 hS2 d0 d1 d2 d3 d4 n0 u0 u1 t1 t2 H HK1 HB1
  have hnv : S.vats.length ≤ 10 := HS2.out.ok.lv
  have hV : VatsAt Z W2 Av S.vats.length ev S.vats := ⟨HS2.out.vats, rfl, by omega, fun p hp => by have := HS2.out.ok.vb p hp; omega⟩
  have HV := Lib.hid hV
  clear hV
  go_wp2_with fail
  refine (anyVat_ok Z W2 Av S.vats.length ev S.vats HV.out nm bv HK2.out.lt (HK2.out.cell 0)).mono ?_
  rintro e W3 ⟨rfl, hb3⟩
  have hB3 := HB2.out.trans (hb3.mono HB2.out.size)
  cases hany : S.vats.any fun v => decide (v.1 = nm)
  · have HAny := Lib.hid hany
    clear hany
    have hS3 := HS2.out.on hb3
    have v3 : W3.cell? ⟨b, 0, none⟩ = some (.slice Av S.vats.length ev) := hS3.blk.cell 0
    by_cases hfull : S.vats.length = 10
    · have b1 : ((S.vats.length : Int) == 10) = true := by simp; omega
      have hcode : vatCode S nm a m = 7 := by unfold vatCode; rw [HAny.out, if_neg (by simp), if_pos hfull]
      have HC := Lib.hid hcode
      clear hfull hcode
      go_wp2_with fail
      go_ret2
      rw [HC.out]
      exact ⟨rfl, hB3.mono HZ.out, fun h => by cases h⟩
    · have b1 : ((S.vats.length : Int) == 10) = false := by simp; omega
      have hcode : vatCode S nm a m = if validB (daysOf (S.vats ++ [(nm, a, m)])) = true then 0 else 2 := by unfold vatCode; rw [HAny.out, if_neg (by simp), if_neg hfull]
      have HC := Lib.hid hcode
      have HFull := Lib.hid hfull
      have HS3 := Lib.hid hS3
      have HB3 := Lib.hid hB3
      have hk3 := HK2.out.below hb3 HK2.out.lt
      have k0 : W3.cell? ⟨bv, 0, none⟩ = some (.string nm) := hk3.cell 0
      have k1 : W3.cell? ⟨bv, 1, none⟩ = some (.int .i64 a) := hk3.cell 1
      have k2 : W3.cell? ⟨bv, 2, none⟩ = some (.int .i64 m) := hk3.cell 2
      have v4 : ∀ o, (W3.alloc o).cell? ⟨b, 0, none⟩ = some (.slice Av S.vats.length ev) := fun o => (World.cell?_alloc_lt W3 o ⟨b, 0, none⟩ HS3.out.blk.lt).trans v3
      clear hfull hcode hS3 hB3 hk3
      obtain ⟨i0, hi, hz0, hz1, hz2⟩ := info_parts infoVat
      go_wp2_with fail
      go_region_law (refine step_push rfl (.tmp 41) (.tmp 43) 101 rfl Z 116 i0 (.agg #[.string ⟨#[]⟩, .int .i64 0, .int .i64 0]) 3 32 Tryz.underlying101 hi hz0 hz1 hz2 rfl (by decide) (.slice Av S.vats.length ev) S.vats.length (vatCells S.vats) #[.string nm, .int .i64 a, .int .i64 m] W3.heap.size (by simp [Act.eval, Act.put]) (by simp [Act.eval, Act.put]) rfl (by simp [Value.oneCell']) (by omega) (by decide) (by exact HS3.out.vats.alloc _) (by exact Blk.new _ _ _) (by have h1 := HZ.out; have h2 := HB3.out.size; simp; omega) ?_; intro v' w5 hown5 hO5 _ hbl5; obtain ⟨A5, c5, rfl⟩ := own_slice hown5; have hT5 := VatStep.mk' HS3.out hO5 hown5; have c6 := hT5.c; have f6 := hT5.f)
      all_goals
        have hlow : ∀ g, g ∈ blocksOf (.slice Av S.vats.length ev) → Z ≤ g := fun g hg => (own_ge HS3.out.vats hg).1
        have hB6 : Below Z w (w5.setCell ⟨b, 0, none⟩ (.slice A5 (S.vats.length + 1) c5)) := by
          have h5 : Below Z w w5 := below_only (HB3.out.mono HZ.out) hT5.only hlow (Nat.le_trans HZ.out HB3.out.size)
          exact h5.setCell HS3.out.zb _
        have hdone := fun ok => VatStep.done (nm := nm) (a := a) (m := m) HS3.out hT5 ok
        have hvats : VatsAt Z (w5.setCell ⟨b, 0, none⟩ (.slice A5 (S.vats.length + 1) c5)) A5 (S.vats.length + 1) c5 (S.vats ++ [(nm, a, m)]) := by
          refine ⟨?_, by simp, by omega, fun p hp => ?_⟩
          · have e1 : vatCells (S.vats ++ [(nm, a, m)]) = vatCells S.vats ++ [.string nm, .int .i64 a, .int .i64 m] := by simp [vatCells]
            rw [e1]
            have hb5 : Blk w5 b 105 #[.slice Av S.vats.length ev, .map (some gm), .map (some pm), gv, cv] := hT5.only.blk HS3.out.blk (own_ne HS3.out.vats HS3.out.blk (by decide))
            exact ((Only.refl [b] _).set_ (by simp) _).own hT5.o (fun g hg hgb => own_ne hT5.o hb5 (by decide) (by simp at hgb; rw [hgb] at hg; exact hg))
          · rcases List.mem_append.1 hp with h1 | h1
            · have := HS3.out.ok.vb p h1; omega
            · obtain rfl := List.mem_singleton.1 h1
              exact ⟨hs, hm, ha⟩
        have hc6 : (w5.setCell ⟨b, 0, none⟩ (.slice A5 (S.vats.length + 1) c5)).cell? ⟨b, 0, none⟩ = some (.slice A5 (S.vats.length + 1) c5) := World.cell?_setCell_same _ _ _ c6
        have HB6 := Lib.hid hB6
        have HD := Lib.hid hdone
        have HVA := Lib.hid hvats
        clear hlow hB6 hdone hvats hO5 hown5 hbl5 hT5 f6 c6 v4 k0 k1 k2
        generalize w5.setCell ⟨b, 0, none⟩ (.slice A5 (S.vats.length + 1) c5) = W6 at hc6 HB6 HD HVA ⊢
        have HC6 := Lib.hid hc6
        clear hc6
        go_wp2_with fail
        refine (system_ok Z W6 b A5 (S.vats.length + 1) c5 _ HVA.out HC6.out).mono ?_
        rintro e W7 ⟨A7, c7, rfl, hP7, hb7⟩
        go_wp2_with fail
        refine (share_ok W7 A7 c7 (S.vats.length + 1) _ _ hP7).mono ?_
        rintro e W8 ⟨⟨x8, y8, rfl⟩, hb8⟩
        have hB68 : Below W6.heap.size W6 W8 := hb7.trans (hb8.mono hb7.size)
        have HB68 := Lib.hid hB68
        clear hB68 hb7 hb8 hP7
        cases hv : validB (daysOf (S.vats ++ [(nm, a, m)]))
        · rw [hv] at HC
          have HV2 := Lib.hid hv
          clear hv
          go_wp2_with fail
          go_ret2
          rw [HC.out]
          have hz6 := Nat.le_trans HZ.out HB6.out.size
          exact ⟨rfl, (HB6.out.trans (HB68.out.mono hz6)).alloc (Nat.le_trans hz6 HB68.out.size) _, fun h => by cases h⟩
        · rw [hv] at HC
          have HV2 := Lib.hid hv
          clear hv
          go_wp2_with fail
          go_ret2
          rw [HC.out]
          have hz6 := Nat.le_trans HZ.out HB6.out.size
          refine ⟨rfl, (HB6.out.trans (HB68.out.mono hz6)).alloc (Nat.le_trans hz6 HB68.out.size) _, fun _ => ?_⟩
          have h6 := HD.out (addVat_ok HS3.out.ok nm a m hs HFull.out HV2.out)
          exact ⟨_, _, _, _, _, _, h6.on (HB68.out.alloc HB68.out.size _)⟩
  · have hcode : vatCode S nm a m = 5 := by unfold vatCode; rw [hany, if_pos rfl]
    have HC := Lib.hid hcode
    clear hcode hany
    go_wp2_with fail
    go_ret2
    rw [HC.out]
    exact ⟨rfl, hB3.mono HZ.out, fun h => by cases h⟩
end Go.Proofs.YtkfdcccgpphcmaaGreatDoor
