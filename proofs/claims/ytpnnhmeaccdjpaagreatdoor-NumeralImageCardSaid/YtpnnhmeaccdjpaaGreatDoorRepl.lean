/- A Replacer of "0" to "01" and "1" to "0" is built so. -/
import Derived.Test.YtpnnhmeaccdjpaaGreatDoorEnc
import Derived.Handy
import Derived.Laws.EntriesVeiled
namespace Go.Proofs.YtpnnhmeaccdjpaaGreatDoor
open Go.RowKit Go.Shelf

def four : List Value := [.string (S [48]), .string (S [48, 49]), .string (S [49]), .string (S [48])]
theorem info9 : (Tryz.prog.info? 9).map (fun i => (i.zero, i.size, i.bytes)) = some (some (.string ⟨#[]⟩), 1, 16) := by kernel_rfl

set_option maxRecDepth 100000 in
set_option maxHeartbeats 1000000 in
theorem new_ok (g : Nat) (w : World) (hg : ∀ j u, four[j]? = some u → w.cell? ⟨g, j, none⟩ = some u) :
    Calls Tryz.prog 6 #[.slice (some ⟨g, 0, none⟩) 4 4] w fun e w' => ∃ b v, e = .returned (.pointer (some ⟨b, 0, none⟩)) ∧ w'.ownsRow w.heap.size 9 1 v 4 four ∧ w.heap.size ≤ b ∧
      w'.heap[b]? = some (.cells #[.int .u32 0, .int .i32 0, .int .u32 0, .nilIface, v] 53 (0, 0)) ∧ Below w.heap.size w w' := by
  obtain ⟨i0, hi, hz0, hz1, hz2⟩ := info_parts info9
  go_enter Tryz.func6, Tryz.ntmps6
  go_wp2_with (at_builtin; refine wpList_append_own _ rfl _ _ 31 rfl w.heap.size 9 i0 (.string ⟨#[]⟩) 1 16 Tryz.underlying31 hi hz0 hz1 hz2 rfl (by decide) _ _ _ rfl (World.ownsRow_nil w w.heap.size 9 1) ⟨g, 0, none⟩ 4 4 four rfl rfl ?c1 ?c2 ?c3 ?c4 ?c5 ?_)
  case c1 => intro j u hj; have := hg j u hj; unfold Addr.add; split <;> simp_all
  case c2 => intro u hu; simp [four] at hu; rcases hu with rfl | rfl | rfl | rfl <;> rfl
  case c3 => unfold maxLen; omega
  case c4 => omega
  case c5 => omega
  · intro v' w1 hown' hgrow _
    obtain ⟨g', cap', rfl, hg', hlt'⟩ := hown'.form (by omega)
    go_wp2
    go_ret
    refine ⟨w1.heap.size, _, rfl, (by simpa using hown'.alloc _), hgrow.size, ?_, ((Below.refl _ _).grown hgrow (Nat.le_refl _) (fun g hg => by cases hg)).alloc hgrow.size _⟩
    exact heap_alloc_new w1 _
end Go.Proofs.YtpnnhmeaccdjpaaGreatDoor
