/- New works take a vat, and answer a question: the end of each statement on works. -/
import Derived.Test.YtkfdcccgpphcmaaGreatDoorAsk
import Derived.Test.YtkfdcccgpphcmaaGreatDoorOpen
import Derived.Test.YtkfdcccgpphcmaaGreatDoorLaw
namespace Go.Proofs.YtkfdcccgpphcmaaGreatDoor
open Go.RowKit Go.Shelf

def vatLine : ByteArray := ⟨#[118, 97, 116, 32, 97, 100, 97, 32, 49, 32, 50]⟩
def stirLine : ByteArray := ⟨#[115, 116, 105, 114, 32, 51]⟩
theorem vat_line : lineB vatLine = true := by decide +kernel
theorem vat_first : firstWord vatLine = ⟨#[118, 97, 116]⟩ := by decide +kernel
theorem vat_pieces : pieces vatLine = [⟨#[118, 97, 116]⟩, ⟨#[97, 100, 97]⟩, ⟨#[49]⟩, ⟨#[50]⟩] := by decide +kernel
theorem vat_form : formL [110, 100, 100] [⟨#[97, 100, 97]⟩, ⟨#[49]⟩, ⟨#[50]⟩] = some ([⟨#[97, 100, 97]⟩], [1, 2]) := by decide +kernel
theorem stir_line : lineB stirLine = true := by decide +kernel
theorem stir_first : firstWord stirLine = ⟨#[115, 116, 105, 114]⟩ := by decide +kernel
theorem stir_pieces : pieces stirLine = [⟨#[115, 116, 105, 114]⟩, ⟨#[51]⟩] := by decide +kernel
theorem stir_form : formL [100] [⟨#[51]⟩] = some ([], [3]) := by decide +kernel
theorem vat_code : vatCode St.begin ⟨#[97, 100, 97]⟩ 1 2 = 0 := by decide +kernel
theorem stir_text : stirText (St.begin.addVat ⟨#[97, 100, 97]⟩ 1 2) 3 = ⟨#[115, 116, 105, 114, 32, 97, 100, 97]⟩ := by decide +kernel

theorem vat_do {B Z : Nat} (w : World) (hB : Base B w) (b : Nat) (hS : StateAt Z w b St.begin) :
    Calls Tryz.prog 52 #[.pointer (some ⟨b, 0, none⟩), .string vatLine] w (DoPost w b (⟨#[118, 97, 116]⟩, 0, St.begin.addVat ⟨#[97, 100, 97]⟩ 1 2)) := by
  refine do_word (B := B) (Z := Z) w hB b St.begin hS vatLine (by decide) vat_line ⟨#[118, 97, 116]⟩ ⟨#[110, 100, 100]⟩ 126 vat_first (fun b W => change_vat b W) (by decide) (by decide) (by rw [vat_pieces]; decide) (by rw [vat_pieces]; intro x hx; simp at hx; rcases hx with rfl | rfl | rfl <;> exact ⟨by decide, by decide⟩) (enters_of Tryz.func126 (by kernel_rfl) rfl) [⟨#[97, 100, 97]⟩] [1, 2] (by rw [vat_pieces]; exact vat_form) _ (fun Z b' W A1 A2 n1 e1 n2 e2 hBW hSW hL => ?_)
  have h1 := hL.l1
  have h2 := hL.l2
  simp at h1 h2
  subst h1; subst h2
  refine (vat_ok Z W b' St.begin hSW A1 A2 e1 e2 ⟨#[97, 100, 97]⟩ 1 2 hL (by decide) (by decide) (by decide)).mono fun e w' ⟨he, hb, hs⟩ => ?_
  rw [vat_code] at he hs
  exact ⟨he, hb, hs⟩
theorem stir_ask {B : Nat} (w : World) (hB : Base B w) (b : Nat) (hS : StateAt 0 w b (St.begin.addVat ⟨#[97, 100, 97]⟩ 1 2)) :
    Calls Tryz.prog 30 #[.pointer (some ⟨b, 0, none⟩), .string stirLine] w fun e w' => e = .returned (.tuple #[.string ⟨#[115, 116, 105, 114, 32, 97, 100, 97]⟩, .int .i64 0]) ∧ Below w.heap.size w w' := by
  refine ask_word w hB b stirLine (by decide) stir_line ⟨#[115, 116, 105, 114]⟩ ⟨#[100]⟩ 85 stir_first (fun b W => question_stir b W) (by decide) (by decide) (by rw [stir_pieces]; decide) (by rw [stir_pieces]; intro x hx; simp at hx; subst hx; exact ⟨by decide, by decide⟩) (enters_of Tryz.func85 (by kernel_rfl) rfl) [] [3] (by rw [stir_pieces]; exact stir_form) _ 0 (fun W A1 A2 e1 e2 hW hL => ?_)
  refine (stir_ok W (hB.on hW) b _ (hS.below hW) A1 A2 0 e1 e2 3 hL (by decide)).mono fun e w' ⟨he, hb⟩ => ?_
  rw [stir_text] at he
  exact ⟨he, hb⟩

theorem Base.up {B : Nat} {w : World} (h : Base B w) : Base w.heap.size w := by
  obtain ⟨le, mx, mlt, ⟨p1, g, p2, p3⟩, ⟨t, p, e1, g', e2, e3⟩, ⟨t', p', f1, g'', f2, f3⟩⟩ := h
  exact ⟨Nat.le_refl _, mx, Nat.lt_of_lt_of_le mlt le, ⟨p1, g, p2, Nat.lt_of_lt_of_le p3 le⟩, ⟨t, p, e1, g', e2, Nat.lt_of_lt_of_le e3 le⟩, ⟨t', p', f1, g'', f2, Nat.lt_of_lt_of_le f3 le⟩⟩

set_option maxRecDepth 100000 in
set_option maxHeartbeats 800000 in
theorem awake_at (w : World) (hB : Base w.heap.size w) :
    Calls Tryz.prog 13 #[] w fun e w' => e = .returned (.bool true) ∧ Below w.heap.size w w' := by
  go_enter Tryz.func13, Tryz.ntmps13
  go_wp2_with fail
  refine (disks_ok 5 w (by decide) (by decide)).mono ?_
  rintro e w1 ⟨bd, bp, br, bP, rfl, hT, hb1⟩
  have HB1 := Lib.hid (hB.on hb1)
  go_wp2_with fail
  refine (open_blank (B := w.heap.size) w1 HB1.out bd bp (Dk.new 5) hT.d hT.b1 hT.b2 (by intro s hs; simp [Dk.new] at hs; exact hs) rfl).mono ?_
  rintro e w2 ⟨bw, bs, rfl, hsh, hb2⟩
  have HB2 := Lib.hid (HB1.out.on hb2)
  have HS2 := Lib.hid hsh
  clear hsh hT
  go_wp2_with fail
  refine (do_good (B := w.heap.size) w2 HB2.out bw bd bp bs (Dk.new 5) St.begin [] none 0 0 HS2.out vatLine (⟨#[118, 97, 116]⟩, 0, St.begin.addVat ⟨#[97, 100, 97]⟩ 1 2) rfl (fun W hW hs => vat_do W hW bs hs) (by decide) (by decide) (by decide)).mono ?_
  rintro e w3 ⟨rfl, bs', A', c', hsh3, hO3⟩
  have hge : ∀ g, g ∈ (bw :: bd :: bp :: blocksOf (.slice none ([] : List ByteArray).length 0)) → w.heap.size ≤ g := fun g hg => by
    simp only [List.mem_cons] at hg
    rcases hg with rfl | rfl | rfl | hg
    · exact HS2.out.b1
    · exact HS2.out.b2
    · exact HS2.out.b3
    · simp [blocksOf, Value.ownBlock] at hg
  have HB3 := Lib.hid (HB2.out.only hO3 hge)
  have HO3 := Lib.hid (Only.fresh (hb1.trans (hb2.mono hb1.size)) hO3 hge)
  have HS3 := Lib.hid hsh3
  clear hsh3 hO3 hge hb1 hb2
  go_wp2_with fail
  refine (wask_ok (B := w.heap.size) w3 bw bd bp bs' _ _ _ A' c' 0 false HS3.out stirLine ⟨#[115, 116, 105, 114, 32, 97, 100, 97]⟩ 0 (stir_ask w3 HB3.out bs' HS3.out.st)).mono ?_
  rintro e w4 ⟨rfl, hb4⟩
  go_wp2_with fail
  go_ret
  exact ⟨by simp, HO3.out.trans (hb4.mono HO3.out.size)⟩
theorem awake_ok {B : Nat} (w : World) (hB : Base B w) :
    Calls Tryz.prog 13 #[] w fun e w' => e = .returned (.bool true) ∧ Below w.heap.size w w' := awake_at w hB.up
end Go.Proofs.YtkfdcccgpphcmaaGreatDoor
