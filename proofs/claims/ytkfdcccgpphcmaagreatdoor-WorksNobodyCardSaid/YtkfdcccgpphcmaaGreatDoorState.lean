/- The works' books in memory. -/
import Derived.Test.YtkfdcccgpphcmaaGreatDoorPush
import Derived.Test.YtkfdcccgpphcmaaGreatDoorBase
import Derived.Maps.Own
import Derived.Deep.RegionHeld3
namespace Go.Proofs.YtkfdcccgpphcmaaGreatDoor
open Go.RowKit Go.Shelf

/-- The books: vats, growers (by name), packings (by name), the grid, the crates. -/
structure St where
  vats : List (ByteArray × Nat × Nat)
  growers : List (List UInt8 × Nat × Nat)
  packs : List (List UInt8 × List Int)
  grid : Option (Int × Int × Int × Int)
  crates : List (Int × Int)
def St.begin : St := ⟨[], [], [], none, []⟩
/-- What holds of all books. -/
structure St.ok (S : St) : Prop where
  lv : S.vats.length ≤ 10
  lg : S.growers.length ≤ 8
  lp : S.packs.length ≤ 8
  lc : S.crates.length ≤ 12
  vb : ∀ v, v ∈ S.vats → v.1.size ≤ 1000 ∧ v.2.1 < v.2.2 ∧ v.2.2 ≤ 60
theorem St.begin_ok : St.begin.ok := ⟨by decide, by decide, by decide, by decide, fun _ h => by cases h⟩

def vatCells (l : List (ByteArray × Nat × Nat)) : List Value := l.flatMap fun v => [.string v.1, .int .i64 (v.2.1 : Nat), .int .i64 (v.2.2 : Nat)]
def spotCells (l : List (Int × Int)) : List Value := l.flatMap fun v => [.int .i64 v.1, .int .i64 v.2]
/-- An element of a map, read as it is. -/
def heldR (v : Value) : Option (DataW Value × List MemPlace) := some (.held v, [])
def gD (l : List (List UInt8 × Nat × Nat)) : DataW Value := .map (l.map fun v => (.string v.1, .held (.agg #[.int .i64 (v.2.1 : Nat), .int .i64 (v.2.2 : Nat)])))
def pD (l : List (List UInt8 × List Int)) (vs : List Value) : DataW Value := .map ((l.zip vs).map fun v => (.string v.1.1, .held v.2))

def GridAt (w : World) (gv : Value) : Option (Int × Int × Int × Int) → Prop
  | none => gv = .slice none 0 0
  | some (a, b, c, d) => ∃ gg gi c1 c2 cur, gv = .slice (some ⟨gg, 0, none⟩) 2 2 ∧ Blk w gg 41 #[.slice (some ⟨gi, 0, none⟩) 2 c1, .slice (some ⟨gi, 2, none⟩) 2 c2] ∧ Blk w gi 3 cur ∧ cur.toList.take 4 = [.int .i64 a, .int .i64 b, .int .i64 c, .int .i64 d] ∧ 2 ≤ c1 ∧ 2 ≤ c2

/-- The books S lie at block b; what can turn lies from block Z on. -/
structure StateIn (Z : Nat) (w : World) (b : Nat) (S : St) (vv : Value) (gm pm : Nat) (vs : List Value) (gv cv : Value) : Prop where
  ok : S.ok
  blk : Blk w b 105 #[vv, .map (some gm), .map (some pm), gv, cv]
  zb : Z ≤ b
  zg : Z ≤ gm
  zp : Z ≤ pm
  vats : w.ownsRow Z 116 3 vv S.vats.length (vatCells S.vats)
  growers : w.ownsMap Tryz.prog 9 heldR gm S.growers.length (gD S.growers)
  plen : vs.length = S.packs.length
  packs : w.ownsMap Tryz.prog 9 heldR pm S.packs.length (pD S.packs vs)
  rows : ∀ (i : Nat) (v : Value) (p : List UInt8 × List Int), vs[i]? = some v → S.packs[i]? = some p → w.ownsRow 0 3 1 v p.2.length (p.2.map (Value.int .i64))
  grid : GridAt w gv S.grid
  crates : w.ownsRow Z 135 2 cv S.crates.length (spotCells S.crates)
def StateAt (Z : Nat) (w : World) (b : Nat) (S : St) : Prop := ∃ vv gm pm vs gv cv, StateIn Z w b S vv gm pm vs gv cv

/-- Blocks that hold no books. -/
def Far (w : World) (M : List Nat) : Prop := ∀ g, g ∈ M → ∃ t cs, Blk w g t cs ∧ t ∈ [55, 81, 65, 9]
theorem Far.nil {w : World} : Far w [] := fun _ h => by cases h

theorem Only.map_ {M : List Nat} {w w' : World} (h : Only M w w') {P : Program} {k : TypeId} {R : Value → Option (DataW Value × List MemPlace)} {b n : Nat} {D : DataW Value} (ho : w.ownsMap P k R b n D) (hb : b ∉ M) : w'.ownsMap P k R b n D := by
  have hlt := ho.lt
  obtain ⟨es, clock, hh, F, hs, hD⟩ := ho
  exact ⟨es, clock, (h.block b hlt hb).trans hh, F, hs, hD⟩
theorem map_blk {w : World} {P : Program} {k : TypeId} {R : Value → Option (DataW Value × List MemPlace)} {b n : Nat} {D : DataW Value} (ho : w.ownsMap P k R b n D) {g : Nat} {t : TypeId} {cs : Array Value} (hg : Blk w g t cs) : b ≠ g := by
  rintro rfl
  obtain ⟨es, clock, hh, _⟩ := ho
  unfold Blk at hg
  rw [hg] at hh
  cases hh

theorem GridAt.form {w : World} {gv : Value} {G : Option (Int × Int × Int × Int)} (h : GridAt w gv G) : ∃ A n c, gv = .slice A n c := by
  rcases G with _ | ⟨a, b, c, d⟩
  · exact ⟨_, _, _, h⟩
  · obtain ⟨gg, gi, c1, c2, cur, h1, _⟩ := h
    exact ⟨_, _, _, h1⟩
theorem GridAt.only {M : List Nat} {w w' : World} {gv : Value} {G : Option (Int × Int × Int × Int)} (h : GridAt w gv G) (ho : Only M w w') (hf : Far w M) : GridAt w' gv G := by
  rcases G with _ | ⟨a, b, c, d⟩
  · exact h
  · obtain ⟨gg, gi, c1, c2, cur, h1, h2, h3, h4⟩ := h
    refine ⟨gg, gi, c1, c2, cur, h1, ho.blk h2 (fun hm => ?_), ho.blk h3 (fun hm => ?_), h4⟩
    · obtain ⟨t, cs, hb, ht⟩ := hf _ hm
      exact Blk.ne_ h2 hb (by rintro rfl; revert ht; decide) rfl
    · obtain ⟨t, cs, hb, ht⟩ := hf _ hm
      exact Blk.ne_ h3 hb (by rintro rfl; revert ht; decide) rfl
theorem own_far {w : World} {base : Nat} {e : TypeId} {size n : Nat} {v : Value} {xs : List Value} {M : List Nat} (h : w.ownsRow base e size v n xs) (hf : Far w M) (he : e ∉ [55, 81, 65, 9]) : ∀ g, g ∈ blocksOf v → g ∉ M := fun g hg hm => by
  obtain ⟨t, cs, hb, ht⟩ := hf _ hm
  exact own_ne h hb (by rintro rfl; exact he ht) hg
theorem StateIn.only {Z : Nat} {M : List Nat} {w w' : World} {b : Nat} {S : St} {vv : Value} {gm pm : Nat} {vs : List Value} {gv cv : Value} (h : StateIn Z w b S vv gm pm vs gv cv) (ho : Only M w w') (hf : Far w M) : StateIn Z w' b S vv gm pm vs gv cv := by
  refine ⟨h.ok, ho.blk h.blk (fun hm => ?_), h.zb, h.zg, h.zp, ho.own h.vats (own_far h.vats hf (by decide)), ho.map_ h.growers (fun hm => ?_), h.plen, ho.map_ h.packs (fun hm => ?_), fun i v p h1 h2 => ho.own (h.rows i v p h1 h2) (own_far (h.rows i v p h1 h2) hf (by decide)), h.grid.only ho hf, ho.own h.crates (own_far h.crates hf (by decide))⟩
  · obtain ⟨t, cs, hb, ht⟩ := hf _ hm
    exact Blk.ne_ h.blk hb (by rintro rfl; revert ht; decide) rfl
  · obtain ⟨t, cs, hb, _⟩ := hf _ hm
    exact map_blk h.growers hb rfl
  · obtain ⟨t, cs, hb, _⟩ := hf _ hm
    exact map_blk h.packs hb rfl
theorem StateAt.only {Z : Nat} {M : List Nat} {w w' : World} {b : Nat} {S : St} (h : StateAt Z w b S) (ho : Only M w w') (hf : Far w M) : StateAt Z w' b S := by
  obtain ⟨vv, gm, pm, vs, gv, cv, h⟩ := h
  exact ⟨vv, gm, pm, vs, gv, cv, h.only ho hf⟩
theorem StateAt.below {Z : Nat} {w w' : World} {b : Nat} {S : St} (h : StateAt Z w b S) (hb : Below w.heap.size w w') : StateAt Z w' b S := h.only (M := []) (Only.of_below hb) Far.nil
theorem StateAt.mono {Z Z' : Nat} {w : World} {b : Nat} {S : St} (h : StateAt Z w b S) (hz : Z' ≤ Z) : StateAt Z' w b S := by
  obtain ⟨vv, gm, pm, vs, gv, cv, h⟩ := h
  exact ⟨vv, gm, pm, vs, gv, cv, h.ok, h.blk, Nat.le_trans hz h.zb, Nat.le_trans hz h.zg, Nat.le_trans hz h.zp, own_mono h.vats hz, h.growers, h.plen, h.packs, h.rows, h.grid, own_mono h.crates hz⟩

theorem infoVat : (Tryz.prog.info? 116).map (fun i => (i.zero, i.size, i.bytes)) = some (some (.agg #[.string ⟨#[]⟩, .int .i64 0, .int .i64 0]), 3, 32) := by kernel_rfl
theorem infoSpot : (Tryz.prog.info? 135).map (fun i => (i.zero, i.size, i.bytes)) = some (some (.agg #[.int .i64 0, .int .i64 0]), 2, 16) := by kernel_rfl

theorem own_zero {w : World} (base : Nat) (e : TypeId) (size : Nat) : w.ownsRow base e size (.slice none 0 0) 0 [] := ⟨by simp, .inl ⟨rfl, rfl⟩⟩

/-- A clone of a row of a call's own. -/
theorem cloneVat_ok (W : World) (A : Option Addr) (n c Z : Nat) (xs : List Value) (h : W.ownsRow Z 116 3 (.slice A n c) n xs) (h1 : ∀ u ∈ xs, u.oneCell' = true) (hn : n ≤ 1000000) :
    Calls Tryz.prog 122 #[.slice A n c] W fun e w' => ∃ A' c', e = .returned (.slice A' n c') ∧ w'.ownsRow W.heap.size 116 3 (.slice A' n c') n xs ∧ Below W.heap.size W w' := by
  obtain ⟨i0, hi, hz0, hz1, hz2⟩ := info_parts infoVat
  rcases h.2 with ⟨h0, rfl⟩ | ⟨g, cap, cur, h0, hb, hh, h2, h3, h4, h5⟩
  · injection h0 with h0 _ h0'
    subst h0; subst h0'
    have : xs = [] := List.eq_nil_of_length_eq_zero (by have := h.1; omega)
    subst this
    exact (AnyE.slices_Clone_nil Tryz.cloneVat 0 0 W).mono fun e w' ⟨he, hw⟩ => ⟨none, 0, he, own_zero _ _ _, hw ▸ Below.refl _ _⟩
  · injection h0 with h0 _ h0'
    subst h0; subst h0'
    refine (AnyE.slices_Clone Tryz.cloneVat i0 _ 3 32 hi hz0 hz1 hz2 rfl (by decide) (fun w => by kernel_rfl) g 0 n c xs W h.1 (by unfold maxLen; omega) (by omega) (fun j u hj => ?_) h1).mono fun e w' ⟨v', he, ho, _, hB⟩ => ?_
    · have hj' : j < n * 3 := by rw [← h.1]; exact (List.getElem?_eq_some_iff.1 hj).1
      rw [Nat.zero_add, h.cellAt j hj', hj]
    · obtain ⟨A', c', rfl⟩ := own_slice ho
      exact ⟨A', c', he, ho, hB⟩
theorem cloneSpot_ok (W : World) (A : Option Addr) (n c Z : Nat) (xs : List Value) (h : W.ownsRow Z 135 2 (.slice A n c) n xs) (h1 : ∀ u ∈ xs, u.oneCell' = true) (hn : n ≤ 1000000) :
    Calls Tryz.prog 123 #[.slice A n c] W fun e w' => ∃ A' c', e = .returned (.slice A' n c') ∧ w'.ownsRow W.heap.size 135 2 (.slice A' n c') n xs ∧ Below W.heap.size W w' := by
  obtain ⟨i0, hi, hz0, hz1, hz2⟩ := info_parts infoSpot
  rcases h.2 with ⟨h0, rfl⟩ | ⟨g, cap, cur, h0, hb, hh, h2, h3, h4, h5⟩
  · injection h0 with h0 _ h0'
    subst h0; subst h0'
    have : xs = [] := List.eq_nil_of_length_eq_zero (by have := h.1; omega)
    subst this
    exact (AnyE.slices_Clone_nil Tryz.cloneSpot 0 0 W).mono fun e w' ⟨he, hw⟩ => ⟨none, 0, he, own_zero _ _ _, hw ▸ Below.refl _ _⟩
  · injection h0 with h0 _ h0'
    subst h0; subst h0'
    refine (AnyE.slices_Clone Tryz.cloneSpot i0 _ 2 16 hi hz0 hz1 hz2 rfl (by decide) (fun w => by kernel_rfl) g 0 n c xs W h.1 (by unfold maxLen; omega) (by omega) (fun j u hj => ?_) h1).mono fun e w' ⟨v', he, ho, _, hB⟩ => ?_
    · have hj' : j < n * 2 := by rw [← h.1]; exact (List.getElem?_eq_some_iff.1 hj).1
      rw [Nat.zero_add, h.cellAt j hj', hj]
    · obtain ⟨A', c', rfl⟩ := own_slice ho
      exact ⟨A', c', he, ho, hB⟩

theorem vatCells_one (l : List (ByteArray × Nat × Nat)) : ∀ u ∈ vatCells l, u.oneCell' = true := by
  intro u hu
  simp [vatCells] at hu
  obtain ⟨a, b, c, _, h⟩ := hu
  rcases h with rfl | rfl | rfl <;> rfl
theorem spotCells_one (l : List (Int × Int)) : ∀ u ∈ spotCells l, u.oneCell' = true := by
  intro u hu
  simp [spotCells] at hu
  obtain ⟨a, b, _, h⟩ := hu
  rcases h with rfl | rfl <;> rfl

theorem below_drew (w : World) : Below w.heap.size w w.drew := ⟨rfl, rfl, rfl, Nat.le_refl _, fun _ _ => rfl⟩
theorem StateIn.on {Z : Nat} {w w' : World} {b : Nat} {S : St} {vv : Value} {gm pm : Nat} {vs : List Value} {gv cv : Value} (h : StateIn Z w b S vv gm pm vs gv cv) (hb : Below w.heap.size w w') : StateIn Z w' b S vv gm pm vs gv cv := h.only (M := []) (Only.of_below hb) Far.nil
theorem own_on {w w' : World} (hb : Below w.heap.size w w') {base : Nat} {e : TypeId} {size n : Nat} {v : Value} {xs : List Value} (h : w.ownsRow base e size v n xs) : w'.ownsRow base e size v n xs := (Only.of_below (M := []) hb).own h (by simp)

set_option maxRecDepth 100000 in
set_option maxHeartbeats 1600000 in
theorem clone_ok (Z : Nat) (w : World) (b : Nat) (S : St) (h : StateAt Z w b S) :
    Calls Tryz.prog 68 #[.pointer (some ⟨b, 0, none⟩)] w fun e w' => ∃ b', e = .returned (.pointer (some ⟨b', 0, none⟩)) ∧ StateAt w.heap.size w' b' S ∧ Below w.heap.size w w' := by
  obtain ⟨vv, gm, pm, vs, gv, cv, h⟩ := h
  obtain ⟨A1, e1, rfl⟩ := own_slice h.vats
  obtain ⟨A2, e2, rfl⟩ := own_slice h.crates
  obtain ⟨A3, n3, e3, rfl⟩ := h.grid.form
  have c0 : w.cell? ⟨b, 0, none⟩ = some (.slice A1 S.vats.length e1) := h.blk.cell 0
  have c1 : w.cell? ⟨b, 1, none⟩ = some (.map (some gm)) := h.blk.cell 1
  have c2 : w.cell? ⟨b, 2, none⟩ = some (.map (some pm)) := h.blk.cell 2
  have c3 : w.cell? ⟨b, 3, none⟩ = some (.slice A3 n3 e3) := h.blk.cell 3
  have c4 : w.cell? ⟨b, 4, none⟩ = some (.slice A2 S.crates.length e2) := h.blk.cell 4
  have hlt : b ≠ w.heap.size := Nat.ne_of_lt h.blk.lt
  have hlt2 : w.heap.size ≠ b := fun e => hlt e.symm
  obtain ⟨W, hW⟩ : ∃ W, W = w.alloc (.cells #[.slice A1 S.vats.length e1, .map (some gm), .map (some pm), .slice A3 n3 e3, .slice A2 S.crates.length e2] 105) := ⟨_, rfl⟩
  have hbo : Blk W w.heap.size 105 #[.slice A1 S.vats.length e1, .map (some gm), .map (some pm), .slice A3 n3 e3, .slice A2 S.crates.length e2] := hW ▸ Blk.new _ _ _
  have hB0 : Below w.heap.size w W := hW ▸ (Below.refl _ _).alloc (Nat.le_refl _) _
  have hS0 := h.on hB0
  have HC1 : Hid (Calls Tryz.prog 122 #[.slice A1 S.vats.length e1] W.drew fun e w' => ∃ A' c', e = .returned (.slice A' S.vats.length c') ∧ (Below w.heap.size w w' ∧ Blk w' w.heap.size 105 #[.slice A1 S.vats.length e1, .map (some gm), .map (some pm), .slice A3 n3 e3, .slice A2 S.crates.length e2] ∧ w'.ownsRow w.heap.size 116 3 (.slice A' S.vats.length c') S.vats.length (vatCells S.vats)) ∧ w'.cell? ⟨b, 0, none⟩ = some (.slice A1 S.vats.length e1) ∧ w'.cell? ⟨b, 4, none⟩ = some (.slice A2 S.crates.length e2)) :=
    (cloneVat_ok W.drew A1 S.vats.length e1 Z _ hS0.vats (vatCells_one _) (by have := h.ok.lv; omega)).mono fun e w' ⟨A', c', he, ho, hb⟩ => by
      have hb' : Below W.heap.size W w' := (below_drew W).trans hb
      have hB' := hB0.trans (hb'.mono hB0.size)
      exact ⟨A', c', he, ⟨hB', hbo.below hb' hbo.lt, own_mono ho (by simpa using hB0.size)⟩, (h.on hB').blk.cell 0, (h.on hB').blk.cell 4⟩
  have HC2 : Hid (∀ W A' c', (Below w.heap.size w W ∧ Blk W w.heap.size 105 #[.slice A1 S.vats.length e1, .map (some gm), .map (some pm), .slice A3 n3 e3, .slice A2 S.crates.length e2] ∧ W.ownsRow w.heap.size 116 3 (.slice A' S.vats.length c') S.vats.length (vatCells S.vats)) →
      Calls Tryz.prog 123 #[.slice A2 S.crates.length e2] W fun e w' => ∃ A2' c2', e = .returned (.slice A2' S.crates.length c2') ∧ (Below w.heap.size w w' ∧ Blk w' w.heap.size 105 #[.slice A1 S.vats.length e1, .map (some gm), .map (some pm), .slice A3 n3 e3, .slice A2 S.crates.length e2] ∧ w'.ownsRow w.heap.size 116 3 (.slice A' S.vats.length c') S.vats.length (vatCells S.vats) ∧ w'.ownsRow w.heap.size 135 2 (.slice A2' S.crates.length c2') S.crates.length (spotCells S.crates)) ∧
        w'.cell? ⟨b, 0, none⟩ = some (.slice A1 S.vats.length e1) ∧ w'.cell? ⟨b, 4, none⟩ = some (.slice A2 S.crates.length e2) ∧ w'.cell? ⟨w.heap.size, 0, none⟩ = some (.slice A1 S.vats.length e1) ∧ w'.cell? ⟨w.heap.size, 4, none⟩ = some (.slice A2 S.crates.length e2) ∧ w'.frozen? ⟨w.heap.size, 0, none⟩ = false ∧ w'.frozen? ⟨w.heap.size, 4, none⟩ = false) := fun W A' c' ⟨hB, hb0, ho1⟩ =>
    (cloneSpot_ok W A2 S.crates.length e2 Z _ (h.on hB).crates (spotCells_one _) (by have := h.ok.lc; omega)).mono fun e w' ⟨A2', c2', he, ho, hb⟩ => by
      have hB' := hB.trans (hb.mono hB.size)
      have hb1 := hb0.below hb hb0.lt
      exact ⟨A2', c2', he, ⟨hB', hb1, own_on hb ho1, own_mono ho hB.size⟩, (h.on hB').blk.cell 0, (h.on hB').blk.cell 4, hb1.cell 0, hb1.cell 4, hb1.frozen 0, hb1.frozen 4⟩
  have k4 : W.cell? ⟨b, 4, none⟩ = some (.slice A2 S.crates.length e2) := hS0.blk.cell 4
  have k0 : W.cell? ⟨b, 0, none⟩ = some (.slice A1 S.vats.length e1) := hS0.blk.cell 0
  have HW := Lib.hid hW
  have H := Lib.hid h
  clear h hS0 hW hbo hB0
  go_enter Tryz.func68, Tryz.ntmps68
  go_wp2_with fail
  rw [← HW.out]
  go_region_held3 (fun w' => w'.cell? ⟨b, 0, none⟩ = some (.slice A1 S.vats.length e1) ∧ w'.cell? ⟨b, 4, none⟩ = some (.slice A2 S.crates.length e2)) (go_keep)
    (first
      | (go_at_call 122; refine HC1.out.mono ?_; rintro e w1 ⟨A', c', rfl, hT1, k1, k2⟩)
      | (go_at_call 123; refine (HC2.out _ _ _ (by assumption)).mono ?_; rintro e w2 ⟨A2', c2', rfl, hT2, k3, k5, k6, k7, k8, k9⟩))
  obtain ⟨W3, hW3⟩ : ∃ W3, W3 = (w2.setCell ⟨w.heap.size, 0, none⟩ (.slice A' S.vats.length c')).setCell ⟨w.heap.size, 4, none⟩ (.slice A2' S.crates.length c2') := ⟨_, rfl⟩
  rw [← hW3]
  have hO3 : Only [w.heap.size] w2 W3 := hW3 ▸ ((Only.refl _ _).set_ (by simp) _).set_ (by simp) _
  have hB3 : Below w.heap.size w W3 := Only.fresh hT2.1 hO3 (by simp)
  have hb3 : Blk W3 w.heap.size 105 #[.slice A' S.vats.length c', .map (some gm), .map (some pm), .slice A3 n3 e3, .slice A2' S.crates.length c2'] := hW3 ▸ (hT2.2.1.set_ 0 _).set_ 4 _
  have ho1 := hO3.own hT2.2.2.1 (fun g hg => by have := own_ne hT2.2.2.1 hT2.2.1 (by decide); simp; rintro rfl; exact this hg)
  have ho2 := hO3.own hT2.2.2.2 (fun g hg => by have := own_ne hT2.2.2.2 hT2.2.1 (by decide); simp; rintro rfl; exact this hg)
  have hS3 := H.out.on hB3
  have d1 : W3.cell? ⟨b, 1, none⟩ = some (.map (some gm)) := hS3.blk.cell 1
  have d2 : W3.cell? ⟨b, 2, none⟩ = some (.map (some pm)) := hS3.blk.cell 2
  clear hT1 hT2 k0 k1 k2 k3 k4 k5 k6 k7 k8 k9 HC1 HC2 HW hW3 hO3
  have HT := Lib.hid (show Below w.heap.size w W3 ∧ Blk W3 w.heap.size 105 #[.slice A' S.vats.length c', .map (some gm), .map (some pm), .slice A3 n3 e3, .slice A2' S.crates.length c2'] ∧ W3.ownsRow w.heap.size 116 3 (.slice A' S.vats.length c') S.vats.length (vatCells S.vats) ∧ W3.ownsRow w.heap.size 135 2 (.slice A2' S.crates.length c2') S.crates.length (spotCells S.crates) from ⟨hB3, hb3, ho1, ho2⟩)
  clear hB3 hb3 ho1 ho2 hS3
  have CELLS := Lib.hid (show #[Value.slice A' S.vats.length c', .map (some gm), .map (some pm), .slice A3 n3 e3, .slice A2' S.crates.length c2'] = #[Value.slice A' S.vats.length c', .map (some gm), .map (some pm), .slice A3 n3 e3, .slice A2' S.crates.length c2'] from rfl)
  have HM1 : Hid (∀ n, Calls Tryz.prog 124 #[.map (some gm)] (W3.drewN n) fun e w' => ∃ gm', e = .returned (.map (some gm')) ∧ (Below w.heap.size w w' ∧ Blk w' w.heap.size 105 #[.slice A' S.vats.length c', .map (some gm), .map (some pm), .slice A3 n3 e3, .slice A2' S.crates.length c2'] ∧ w'.ownsRow w.heap.size 116 3 (.slice A' S.vats.length c') S.vats.length (vatCells S.vats) ∧ w'.ownsRow w.heap.size 135 2 (.slice A2' S.crates.length c2') S.crates.length (spotCells S.crates) ∧ w.heap.size ≤ gm' ∧ w'.ownsMap Tryz.prog 9 heldR gm' S.growers.length (gD S.growers)) ∧ w'.cell? ⟨b, 1, none⟩ = some (.map (some gm)) ∧ w'.cell? ⟨b, 2, none⟩ = some (.map (some pm))) := fun n => by
    obtain ⟨hB, hb0, ho1, ho2⟩ := HT.out
    have hD : Below w.heap.size w (W3.drewN n) := ⟨hB.os, hB.tape, hB.output, hB.size, hB.block⟩
    refine (AnyW.maps_Clone_owns Tryz.cloneShares _ heldR gm _ _ (W3.drewN n) (H.out.on hD).growers).mono fun e w' ⟨he, hm, _, hb⟩ => ?_
    have hB' := hD.trans (hb.mono hD.size)
    have hb3 : Below W3.heap.size W3 w' := ⟨hb.os, hb.tape, hb.output, hb.size, hb.block⟩
    exact ⟨_, he, ⟨hB', hb0.below hb3 hb0.lt, own_on hb3 ho1, own_on hb3 ho2, hB.size, hm⟩, (H.out.on hB').blk.cell 1, (H.out.on hB').blk.cell 2⟩
  have HM2 : Hid (∀ W gm', (Below w.heap.size w W ∧ Blk W w.heap.size 105 #[.slice A' S.vats.length c', .map (some gm), .map (some pm), .slice A3 n3 e3, .slice A2' S.crates.length c2'] ∧ W.ownsRow w.heap.size 116 3 (.slice A' S.vats.length c') S.vats.length (vatCells S.vats) ∧ W.ownsRow w.heap.size 135 2 (.slice A2' S.crates.length c2') S.crates.length (spotCells S.crates) ∧ w.heap.size ≤ gm' ∧ W.ownsMap Tryz.prog 9 heldR gm' S.growers.length (gD S.growers)) →
      Calls Tryz.prog 125 #[.map (some pm)] W fun e w' => ∃ pm', e = .returned (.map (some pm')) ∧ ((Below w.heap.size w w' ∧ Blk w' w.heap.size 105 #[.slice A' S.vats.length c', .map (some gm), .map (some pm), .slice A3 n3 e3, .slice A2' S.crates.length c2'] ∧ w'.ownsRow w.heap.size 116 3 (.slice A' S.vats.length c') S.vats.length (vatCells S.vats) ∧ w'.ownsRow w.heap.size 135 2 (.slice A2' S.crates.length c2') S.crates.length (spotCells S.crates) ∧ w.heap.size ≤ gm' ∧ w'.ownsMap Tryz.prog 9 heldR gm' S.growers.length (gD S.growers)) ∧ w.heap.size ≤ pm' ∧ w'.ownsMap Tryz.prog 9 heldR pm' S.packs.length (pD S.packs vs)) ∧
        w'.cell? ⟨b, 1, none⟩ = some (.map (some gm)) ∧ w'.cell? ⟨b, 2, none⟩ = some (.map (some pm)) ∧ w'.cell? ⟨w.heap.size, 1, none⟩ = some (.map (some gm)) ∧ w'.cell? ⟨w.heap.size, 2, none⟩ = some (.map (some pm)) ∧ w'.frozen? ⟨w.heap.size, 1, none⟩ = false ∧ w'.frozen? ⟨w.heap.size, 2, none⟩ = false) := fun W gm' ⟨hB, hb0, ho1, ho2, hg, hm1⟩ => by
    refine (AnyW.maps_Clone_owns Tryz.clonePacks _ heldR pm _ _ W (H.out.on hB).packs).mono fun e w' ⟨he, hm, _, hb⟩ => ?_
    have hB' := hB.trans (hb.mono hB.size)
    have hb1 := hb0.below hb hb0.lt
    exact ⟨_, he, ⟨⟨hB', hb1, own_on hb ho1, own_on hb ho2, hg, (Only.of_below (M := []) hb).map_ hm1 (by simp)⟩, hB.size, hm⟩, (H.out.on hB').blk.cell 1, (H.out.on hB').blk.cell 2, hb1.cell 1, hb1.cell 2, hb1.frozen 1, hb1.frozen 2⟩
  clear CELLS
  go_wp2_with fail
  go_region_held3 (fun w' => w'.cell? ⟨b, 1, none⟩ = some (.map (some gm)) ∧ w'.cell? ⟨b, 2, none⟩ = some (.map (some pm))) (go_keep)
    (first
      | (go_at_call 124; refine (HM1.out _).mono ?_; rintro e w4 ⟨gm', rfl, hT4, k1, k2⟩)
      | (go_at_call 125; refine (HM2.out _ _ (by assumption)).mono ?_; rintro e w5 ⟨pm', rfl, hT5, k3, k5, k6, k7, k8, k9⟩))
  obtain ⟨W6, hW6⟩ : ∃ W6, W6 = (w5.setCell ⟨w.heap.size, 1, none⟩ (.map (some gm'))).setCell ⟨w.heap.size, 2, none⟩ (.map (some pm')) := ⟨_, rfl⟩
  rw [← hW6]
  have hO6 : Only [w.heap.size] w5 W6 := hW6 ▸ ((Only.refl _ _).set_ (by simp) _).set_ (by simp) _
  obtain ⟨⟨t1, t2, t3, t4, t5, t6⟩, t7, t8⟩ := hT5
  have hB6 : Below w.heap.size w W6 := Only.fresh t1 hO6 (by simp)
  have hb6 : Blk W6 w.heap.size 105 #[.slice A' S.vats.length c', .map (some gm'), .map (some pm'), .slice A3 n3 e3, .slice A2' S.crates.length c2'] := hW6 ▸ (t2.set_ 1 _).set_ 2 _
  have hS6 := H.out.on hB6
  have hfin : StateIn w.heap.size W6 w.heap.size S (.slice A' S.vats.length c') gm' pm' vs (.slice A3 n3 e3) (.slice A2' S.crates.length c2') :=
    ⟨hS6.ok, hb6, Nat.le_refl _, t5, t7, hO6.own t3 (fun g hg => by have := own_ne t3 t2 (by decide); simp; rintro rfl; exact this hg), hO6.map_ t6 (by simp; exact map_blk t6 t2), hS6.plen, hO6.map_ t8 (by simp; exact map_blk t8 t2), hS6.rows, hS6.grid, hO6.own t4 (fun g hg => by have := own_ne t4 t2 (by decide); simp; rintro rfl; exact this hg)⟩
  have HF := Lib.hid (show StateAt w.heap.size W6 w.heap.size S ∧ Below w.heap.size w W6 from ⟨⟨_, _, _, _, _, _, hfin⟩, hB6⟩)
  clear k1 k2 k3 k5 k6 k7 k8 k9 hW6 hO6 t1 t2 t3 t4 t5 t6 t7 t8 hB6 hb6 hS6 hfin hT4 HT HM1 HM2
  go_wp2_with fail
  go_ret
  exact ⟨_, rfl, HF.out.1, HF.out.2⟩
end Go.Proofs.YtkfdcccgpphcmaaGreatDoor
