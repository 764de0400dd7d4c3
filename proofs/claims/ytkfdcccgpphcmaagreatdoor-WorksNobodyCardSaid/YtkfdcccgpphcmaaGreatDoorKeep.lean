/- The numbers of an argument that list copies; two closed facts of the program. -/
import Derived.Test.YtkfdcccgpphcmaaGreatDoorCard
import Derived.Test.YtkfdcccgpphcmaaGreatDoorDisksRun
import Derived.Test.YtkfdcccgpphcmaaGreatDoorOpenFields
import Derived.ChangeSlices
namespace Go.Proofs.YtkfdcccgpphcmaaGreatDoor
open Go.ChangeShapes Go.WideShapes Go.ChangeAt Go.RowKit Go.Shelf

theorem spot_none {W : World} {a : Addr} {v : Value} (h : W.cell? a = some v) : ∃ b o, a = ⟨b, o, none⟩ := by
  obtain ⟨b, o, spot⟩ := a
  have : spot = none := World.cell?_spot h
  subst this
  exact ⟨b, o, rfl⟩

/-- The pages to keep, as list copies them. -/
def KeepIn (w0 : World) (kv : Value) (K : List Int) : Prop :=
  ∀ W, Below w0.heap.size w0 W → Calls Tryz.prog 23 #[kv] W fun e w' => ∃ A n c', e = .returned (.slice A n c') ∧ (n ≤ 1000 ∧ (∀ M', (∀ g, g ∈ M' → g < W.heap.size) → IntsIn w' M' A n K)) ∧ Below W.heap.size W w'

theorem keep_of {H : Type} {enc : TypeId × Value → H} {W : World} {fuel : Nat} {v : Value} {y : DataW H × List MemPlace} (h : DataW.trod enc Tryz.prog W 0 (fun _ => true) true fuel 41 [v] = some y) : ∃ A kn kc K, v = .slice A kn kc ∧ KeepIn W v K := by
  rcases open_ints Tryz.underlying41 Tryz.underlying3 (by kernel_rfl) h with ⟨hcs, _⟩ | ⟨a, len, cap, zs, hcs, _, hl, hm, hz, _, hcell, _⟩
  · simp at hcs
    subst hcs
    refine ⟨none, 0, 0, [], rfl, fun W' hb => (list_nil 0 W').mono fun e w' ⟨he, hw⟩ => ⟨none, 0, 0, he, ⟨by omega, fun M' _ => ⟨rfl, fun h => absurd h (by omega)⟩⟩, hw ▸ Below.refl _ _⟩⟩
  · simp at hcs
    subst hcs
    simp only [if_true] at hz
    refine ⟨some a, len, cap, (zs.take len).take 40, rfl, ?_⟩
    by_cases h0 : cap = 0
    · subst h0
      have hl0 : len = 0 := by omega
      subst hl0
      refine fun W' hb => (list_zero a 0 W').mono fun e w' ⟨A, c', he, hw⟩ => ⟨A, 0, c', he, ⟨by omega, fun M' _ => ⟨by simp, fun h => absurd h (by omega)⟩⟩, hw⟩
    · obtain ⟨b, o, rfl⟩ := spot_none (by simpa [Addr.add] using hcell 0 (by omega))
      refine fun W' hb => (list_some b o len cap (zs.take len) W' (by simp; omega) hl (by unfold maxLen at hm; omega) (fun j hj => ?_)).mono fun e w' ⟨A, c', he, hI, hw⟩ => ⟨A, min len 40, c', he, ⟨by omega, hI⟩, hw⟩
      have h1 := hcell j (by omega)
      have e0 : (⟨b, o, none⟩ : Addr).add j = ⟨b, o + j, none⟩ := by unfold Addr.add; split <;> simp_all
      rw [e0] at h1
      have hlt : b < W.heap.size := Lib.lt_of_cell h1
      rw [hb.cell (p := ⟨b, o + j, none⟩) hlt, h1]
      simp [List.getD, hj]

theorem own : ownKnob Tryz.prog.godebug = none := by kernel_rfl
theorem laidOut : laidOutB Tryz.prog = true := by kernel_rfl
end Go.Proofs.YtkfdcccgpphcmaaGreatDoor
