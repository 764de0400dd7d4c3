/- A question of a line. -/
import Derived.Test.YtkfdcccgpphcmaaGreatDoorStir
import Derived.Test.YtkfdcccgpphcmaaGreatDoorShop
namespace Go.Proofs.YtkfdcccgpphcmaaGreatDoor
open Go.RowKit Go.Shelf

set_option maxRecDepth 100000 in
set_option maxHeartbeats 800000 in
theorem obey_q {B : Nat} (w : World) (hB : Base B w) (b f : Nat) (text so : ByteArray) (ht : text.size ≤ 1000) (hso : so.size ≤ 20) (hsuf : Lib.hasSuffix so.data.toList [43] = false) (hp2 : 2 ≤ (pieces text).length) (hwo : wordsOk (pieces text).tail) (nm : List ByteArray) (nu : List Int) (hf : formL so.data.toList (pieces text).tail = some (nm, nu)) (rep : ByteArray) (code : Int)
    (hM : ∀ W A1 A2 e1 e2, Below w.heap.size w W → LineAt W A1 A2 nm.length e1 nu.length e2 nm nu → Calls Tryz.prog f #[.pointer (some ⟨b, 0, none⟩), .agg #[.slice A1 nm.length e1, .slice A2 nu.length e2]] W fun e w' => e = .returned (.tuple #[.string rep, .int .i64 code]) ∧ Below W.heap.size W w')
    (hent : ∀ args W, (callFunc f args).run Tryz.prog W = .ok (.enter f args) W) :
    Calls Tryz.prog 57 #[.agg #[.string so, .func (.func f) #[.pointer (some ⟨b, 0, none⟩)] #[]], .string text] w fun e w' => e = .returned (.tuple #[.string rep, .int .i64 code]) ∧ Below w.heap.size w w' := by
  have hform := fun W (hW : Base B W) => form_two W hW text ht so hso hp2 hsuf hwo
  rw [hf] at hform
  have hq := func_nil f b
  go_enter Tryz.func57, Tryz.ntmps57
  go_wp2_with fail
  refine (hform _ (hB.on ((Below.refl _ _).alloc (Nat.le_refl _) _))).mono ?_
  rintro e w1 ⟨v1, v2, rfl, ho1, ho2, hb1⟩
  obtain ⟨A1, e1, rfl⟩ := own_slice ho1
  obtain ⟨A2, e2, rfl⟩ := own_slice ho2
  have hB1 : Below w.heap.size w w1 := ((Below.refl _ _).alloc (Nat.le_refl _) _).trans (hb1.mono (by simp))
  have hk0 := (Blk.new w 92 #[.string so, .func (.func f) #[.pointer (some ⟨b, 0, none⟩)] #[]]).below hb1 (by simp)
  have hk1 : ∀ o, (w1.alloc o).cell? ⟨w.heap.size, 1, none⟩ = some (.func (.func f) #[.pointer (some ⟨b, 0, none⟩)] #[]) := fun o => (hk0.alloc o).cell 1
  have hl : LineAt w1 A1 A2 nm.length e1 nu.length e2 nm nu := ⟨own_mono ho1 (Nat.zero_le _), own_mono ho2 (Nat.zero_le _), rfl, rfl⟩
  have HL := Lib.hid hl
  have HM := Lib.hid hM
  have HB1 := Lib.hid hB1
  clear hl hM hB1 hB hb1 ho1 ho2 hk0 hform
  go_wp2_with fail
  have hstep : Below w1.heap.size w1 (w1.alloc (.cells #[.slice A1 nm.length e1, .slice A2 nu.length e2] 134)) := (Below.refl _ _).alloc (Nat.le_refl _) _
  have hB2 := HB1.out.trans (hstep.mono HB1.out.size)
  refine (HM.out _ _ _ _ _ hB2 (HL.out.on hstep)).mono ?_
  rintro e w2 ⟨rfl, hb2⟩
  go_wp2_with fail
  go_ret2
  exact ⟨rfl, hB2.trans (hb2.mono hB2.size)⟩

/-- Which rule a word of a question has. -/
def RuleQ (wd so : ByteArray) (f : FuncId) : Prop :=
  ∀ b W, Calls Tryz.prog 56 #[.pointer (some ⟨b, 0, none⟩), .string wd] W fun e w' => e = .returned (.agg #[.string so, .func (.func f) #[.pointer (some ⟨b, 0, none⟩)] #[]]) ∧ Only [] W w'

set_option maxRecDepth 100000 in
set_option maxHeartbeats 800000 in
theorem ask_word {B : Nat} (w : World) (hB : Base B w) (b : Nat) (text : ByteArray) (ht : text.size ≤ 1000) (hl : lineB text = true) (wd so : ByteArray) (f : FuncId) (hwd : firstWord text = wd) (hr : RuleQ wd so f)
    (hso : so.size ≤ 20) (hsuf : Lib.hasSuffix so.data.toList [43] = false) (hp2 : 2 ≤ (pieces text).length) (hwo : wordsOk (pieces text).tail) (hent : ∀ args W, (callFunc f args).run Tryz.prog W = .ok (.enter f args) W)
    (nm : List ByteArray) (nu : List Int) (hf : formL so.data.toList (pieces text).tail = some (nm, nu)) (rep : ByteArray) (code : Int)
    (hM : ∀ W A1 A2 e1 e2, Below w.heap.size w W → LineAt W A1 A2 nm.length e1 nu.length e2 nm nu → Calls Tryz.prog f #[.pointer (some ⟨b, 0, none⟩), .agg #[.slice A1 nm.length e1, .slice A2 nu.length e2]] W fun e w' => e = .returned (.tuple #[.string rep, .int .i64 code]) ∧ Below W.heap.size W w') :
    Calls Tryz.prog 30 #[.pointer (some ⟨b, 0, none⟩), .string text] w fun e w' => e = .returned (.tuple #[.string rep, .int .i64 code]) ∧ Below w.heap.size w w' := by
  have h1 := isLine_ok w hB text (by omega)
  rw [hl] at h1
  have HM := Lib.hid hM
  have HF := Lib.hid hf
  clear hM hf
  go_enter Tryz.func30, Tryz.ntmps30
  go_wp2_with fail
  refine h1.mono ?_
  rintro e w1 ⟨rfl, hb1⟩
  go_wp2_with fail
  refine (cut_word w1 (hB.on hb1) text ht).mono ?_
  rintro e w2 ⟨x, y, rfl, hb2⟩
  rw [hwd]
  have hB2 := hb1.trans (hb2.mono hb1.size)
  go_wp2_with fail
  refine (hr b w2).mono ?_
  rintro e w4 ⟨rfl, hO4⟩
  have hb4 := hO4.below
  have hB4 := hB2.trans (hb4.mono hB2.size)
  go_wp2_with fail
  refine (obey_q w4 (hB.on hB4) b f text so ht hso hsuf hp2 hwo nm nu HF.out rep code (fun W A1 A2 e1 e2 hW hL => HM.out W A1 A2 e1 e2 (hB4.trans (hW.mono hB4.size)) hL) hent).mono ?_
  rintro e w5 ⟨rfl, hb5⟩
  have hB5 : Below w.heap.size w w5 := hB4.trans (hb5.mono hB4.size)
  clear h1 hr
  go_wp2_with fail
  go_ret2
  exact ⟨rfl, hB5⟩

set_option maxRecDepth 100000 in
theorem wask_ok {B : Nat} (w : World) (bw bd bp bs : Nat) (D : Dk) (S : St) (L : List ByteArray) (A : Option Addr) (c : Nat) (safe : Int) (lost : Bool) (h : Shop B w bw bd bp bs D S L A c safe lost) (text rep : ByteArray) (code : Int)
    (hask : Calls Tryz.prog 30 #[.pointer (some ⟨bs, 0, none⟩), .string text] w fun e w' => e = .returned (.tuple #[.string rep, .int .i64 code]) ∧ Below w.heap.size w w') :
    Calls Tryz.prog 8 #[.pointer (some ⟨bw, 0, none⟩), .string text] w fun e w' => e = .returned (.tuple #[.string rep, .int .i64 code]) ∧ Below w.heap.size w w' := by
  have hn := wnone_ok w bw bd bs A L.length c safe lost h.wk
  have c1 : w.cell? ⟨bw, 1, none⟩ = some (.pointer (some ⟨bs, 0, none⟩)) := Blk.cell h.wk 1
  clear h
  go_enter Tryz.func8, Tryz.ntmps8
  go_wp2_with fail
  refine hn.mono ?_
  rintro e w' ⟨rfl, rfl⟩
  go_wp2_with fail
  refine hask.mono ?_
  rintro e w1 ⟨rfl, hb1⟩
  go_wp2_with fail
  go_ret2
  exact ⟨rfl, hb1⟩
end Go.Proofs.YtkfdcccgpphcmaaGreatDoor
