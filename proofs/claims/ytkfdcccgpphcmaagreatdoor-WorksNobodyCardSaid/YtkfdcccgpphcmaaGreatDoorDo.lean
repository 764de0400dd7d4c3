/- A change of a line. -/
import Derived.Test.YtkfdcccgpphcmaaGreatDoorVat
import Derived.Test.YtkfdcccgpphcmaaGreatDoorForm
import Derived.Test.YtkfdcccgpphcmaaGreatDoorChange
namespace Go.Proofs.YtkfdcccgpphcmaaGreatDoor
open Go.RowKit Go.Shelf

/-- A reply, a code, the books then. -/
abbrev Res := ByteArray × Int × St
def Res.ret (r : Res) : Ending := .returned (.tuple #[.string r.1, .int .i64 r.2.1])
/-- What a method does for the names and numbers of a line. -/
def MethodAt (B Z : Nat) (f : FuncId) (b : Nat) (S : St) (nm : List ByteArray) (nu : List Int) (r : Res) : Prop :=
  ∀ W A1 A2 n1 e1 n2 e2, Base B W → StateAt Z W b S → LineAt W A1 A2 n1 e1 n2 e2 nm nu →
    Calls Tryz.prog f #[.pointer (some ⟨b, 0, none⟩), .agg #[.slice A1 n1 e1, .slice A2 n2 e2]] W fun e w' => e = r.ret ∧ Below Z W w' ∧ (r.2.1 = 0 → StateAt Z w' b r.2.2)

theorem func_nil_in (d f b : Nat) (W : World) : (Op.equalIn (d + 1) 90 (.func (.func f) #[.pointer (some ⟨b, 0, none⟩)] #[]) .nilFunc).run Tryz.prog W = .ok false W := by
  simp [Op.equalIn, run_underlying Tryz.underlying90]
theorem func_nil (f b : Nat) (W : World) : (binOp .eql 90 (.func (.func f) #[.pointer (some ⟨b, 0, none⟩)] #[]) .nilFunc).run Tryz.prog W = .ok (.bool false) W := by
  simp only [binOp]
  simp [show ∀ t x y, Op.equal t x y = Op.equalIn (9999 + 1) t x y from fun _ _ _ => rfl, func_nil_in]

set_option maxRecDepth 100000 in
set_option maxHeartbeats 800000 in
theorem obey_none {B : Nat} (w : World) (hB : Base B w) (b f : Nat) (text so : ByteArray) (ht : text.size ≤ 1000) (hso : so.size ≤ 20) (hsuf : Lib.hasSuffix so.data.toList [43] = false) (hp2 : 2 ≤ (pieces text).length) (hwo : wordsOk (pieces text).tail) (hf : formL so.data.toList (pieces text).tail = none) :
    Calls Tryz.prog 57 #[.agg #[.string so, .func (.func f) #[.pointer (some ⟨b, 0, none⟩)] #[]], .string text] w fun e w' => e = .returned (.tuple #[.string ⟨#[]⟩, .int .i64 3]) ∧ Below w.heap.size w w' := by
  have hform := fun W (hW : Base B W) => form_two W hW text ht so hso hp2 hsuf hwo
  rw [hf] at hform
  have hq := func_nil f b
  go_enter Tryz.func57, Tryz.ntmps57
  go_wp2_with fail
  refine (hform _ (hB.on ((Below.refl _ _).alloc (Nat.le_refl _) _))).mono ?_
  rintro e w1 ⟨rfl, hb1⟩
  have hB1 : Below w.heap.size w w1 := ((Below.refl _ _).alloc (Nat.le_refl _) _).trans (hb1.mono (by simp))
  go_wp2_with fail
  go_ret2
  exact ⟨rfl, hB1.alloc hB1.size _⟩

set_option maxRecDepth 100000 in
set_option maxHeartbeats 800000 in
theorem obey_some {B Z : Nat} (w : World) (hB : Base B w) (hZ : B ≤ Z) (hZw : Z ≤ w.heap.size) (b f : Nat) (S : St) (hS : StateAt Z w b S) (text so : ByteArray) (ht : text.size ≤ 1000) (hso : so.size ≤ 20) (hsuf : Lib.hasSuffix so.data.toList [43] = false) (hp2 : 2 ≤ (pieces text).length) (hwo : wordsOk (pieces text).tail) (nm : List ByteArray) (nu : List Int) (hf : formL so.data.toList (pieces text).tail = some (nm, nu)) (r : Res) (hM : MethodAt B Z f b S nm nu r)
    (hent : ∀ args W, (callFunc f args).run Tryz.prog W = .ok (.enter f args) W) :
    Calls Tryz.prog 57 #[.agg #[.string so, .func (.func f) #[.pointer (some ⟨b, 0, none⟩)] #[]], .string text] w fun e w' => e = r.ret ∧ Below Z w w' ∧ (r.2.1 = 0 → StateAt Z w' b r.2.2) := by
  have hform := fun W (hW : Base B W) => form_two W hW text ht so hso hp2 hsuf hwo
  rw [hf] at hform
  have hq := func_nil f b
  go_enter Tryz.func57, Tryz.ntmps57
  go_wp2_with fail
  refine (hform _ (hB.on ((Below.refl _ _).alloc (Nat.le_refl _) _))).mono ?_
  rintro e w1 ⟨v1, v2, rfl, ho1, ho2, hb1⟩
  obtain ⟨A1, e1, rfl⟩ := own_slice ho1
  obtain ⟨A2, e2, rfl⟩ := own_slice ho2
  have hB1 : Below w.heap.size w w1 := ((Below.refl _ _).alloc (Nat.le_refl _) _).trans (hb1.mono (by simp))
  have hk0 := (Blk.new w 92 #[.string so, .func (.func f) #[.pointer (some ⟨b, 0, none⟩)] #[]]).below hb1 (by simp)
  have hk1 : ∀ o, (w1.alloc o).cell? ⟨w.heap.size, 1, none⟩ = some (.func (.func f) #[.pointer (some ⟨b, 0, none⟩)] #[]) := fun o => (hk0.alloc o).cell 1
  have hl : LineAt w1 A1 A2 nm.length e1 nu.length e2 nm nu := ⟨own_mono ho1 (Nat.zero_le _), own_mono ho2 (Nat.zero_le _), rfl, rfl⟩
  have HL := Lib.hid hl
  have HM := Lib.hid hM
  have HB1 := Lib.hid hB1
  have HB := Lib.hid (hB.on hB1)
  have HS := Lib.hid (hS.below hB1)
  clear hl hM hB1 hB hS hb1 ho1 ho2 hk0 hform
  go_wp2_with fail
  have hstep : Below w1.heap.size w1 (w1.alloc (.cells #[.slice A1 nm.length e1, .slice A2 nu.length e2] 134)) := (Below.refl _ _).alloc (Nat.le_refl _) _
  refine (HM.out _ _ _ _ _ _ _ (HB.out.on hstep) (HS.out.below hstep) (HL.out.on hstep)).mono ?_
  rintro e w2 ⟨rfl, hb2, hs2⟩
  unfold Res.ret
  go_wp2_with fail
  go_ret2
  exact ⟨rfl, ((HB1.out.mono hZw).trans (hstep.mono (Nat.le_trans hZw HB1.out.size))).trans hb2, hs2⟩

/-- The first word of a line. -/
def firstWord (text : ByteArray) : ByteArray := ⟨(Lib.cut text.data.toList [32]).1.toArray⟩
theorem cut_word {B : Nat} (w : World) (hB : Base B w) (s : ByteArray) (hs : s.size ≤ 1000) :
    Calls Tryz.prog 10 #[.string s, .string ⟨#[32]⟩] w fun e w' => ∃ x y, e = .returned (.tuple #[.string (firstWord s), .string x, .bool y]) ∧ Below w.heap.size w w' := by
  obtain ⟨m, hm⟩ := hB.mx
  exact (Any.strings_Cut Tryz.lays145 s ⟨#[32]⟩ m w (by omega) hm).mono fun e w' ⟨he, n, hw⟩ => ⟨_, _, he, hw ▸ bel_drewN (Below.refl _ _) n⟩

/-- What a change does in a clone of the books at block b. -/
def DoPost (w : World) (b : Nat) (r : Res) (e : Ending) (w' : World) : Prop :=
  ∃ b', e = .returned (.tuple #[.pointer (some ⟨b', 0, none⟩), .string (if r.2.1 = 0 then r.1 else ⟨#[]⟩), .int .i64 r.2.1]) ∧ Below w.heap.size w w' ∧ (r.2.1 = 0 → StateAt w.heap.size w' b' r.2.2) ∧ (r.2.1 ≠ 0 → b' = b)
/-- Which rule a word of a change has. -/
def RuleAt (wd so : ByteArray) (f : FuncId) : Prop :=
  ∀ b W, Calls Tryz.prog 69 #[.pointer (some ⟨b, 0, none⟩), .string wd] W fun e w' => e = .returned (.agg #[.string so, .func (.func f) #[.pointer (some ⟨b, 0, none⟩)] #[]]) ∧ Only [] W w'

set_option maxRecDepth 100000 in
theorem do_line {B : Nat} (w : World) (hB : Base B w) (b : Nat) (S : St) (text : ByteArray) (ht : text.size ≤ 9223372036854775807) (hl : lineB text = false) :
    Calls Tryz.prog 52 #[.pointer (some ⟨b, 0, none⟩), .string text] w (DoPost w b (⟨#[]⟩, 3, S)) := by
  have h1 := isLine_ok w hB text ht
  rw [hl] at h1
  go_enter Tryz.func52, Tryz.ntmps52
  go_wp2_with fail
  refine h1.mono ?_
  rintro e w1 ⟨rfl, hb1⟩
  go_wp2_with fail
  go_ret3
  exact ⟨b, rfl, hb1, fun h => absurd h (show (3 : Int) ≠ 0 by decide), fun _ => rfl⟩

set_option maxRecDepth 100000 in
set_option maxHeartbeats 800000 in
theorem do_word {B Z : Nat} (w : World) (hB : Base B w) (b : Nat) (S : St) (hS : StateAt Z w b S) (text : ByteArray) (ht : text.size ≤ 1000) (hl : lineB text = true) (wd so : ByteArray) (f : FuncId) (hwd : firstWord text = wd) (hr : RuleAt wd so f)
    (hso : so.size ≤ 20) (hsuf : Lib.hasSuffix so.data.toList [43] = false) (hp2 : 2 ≤ (pieces text).length) (hwo : wordsOk (pieces text).tail) (hent : ∀ args W, (callFunc f args).run Tryz.prog W = .ok (.enter f args) W)
    (nm : List ByteArray) (nu : List Int) (hf : formL so.data.toList (pieces text).tail = some (nm, nu)) (r : Res) (hM : ∀ Z b', MethodAt B Z f b' S nm nu r) :
    Calls Tryz.prog 52 #[.pointer (some ⟨b, 0, none⟩), .string text] w (DoPost w b r) := by
  have h1 := isLine_ok w hB text (by omega)
  rw [hl] at h1
  go_enter Tryz.func52, Tryz.ntmps52
  go_wp2_with fail
  refine h1.mono ?_
  rintro e w1 ⟨rfl, hb1⟩
  go_wp2_with fail
  refine (cut_word w1 (hB.on hb1) text ht).mono ?_
  rintro e w2 ⟨x, y, rfl, hb2⟩
  rw [hwd]
  have hB2 := hb1.trans (hb2.mono hb1.size)
  go_wp2_with fail
  refine (clone_ok Z w2 b S (hS.below hB2)).mono ?_
  rintro e w3 ⟨b', rfl, hs3, hb3⟩
  have hB3 := hB2.trans (hb3.mono hB2.size)
  go_wp2_with fail
  refine (hr b' w3).mono ?_
  rintro e w4 ⟨rfl, hO4⟩
  have hb4 := hO4.below
  have hB4 := hB3.trans (hb4.mono hB3.size)
  have hz := (hB.on hB2).le
  have hzw : w2.heap.size ≤ w4.heap.size := Nat.le_trans hb3.size hb4.size
  go_wp2_with fail
  refine (obey_some w4 (hB.on hB4) hz hzw b' f S (hs3.below hb4) text so ht hso hsuf hp2 hwo nm nu hf r (hM _ b') hent).mono ?_
  rintro e w5 ⟨rfl, hb5, hs5⟩
  have hB5 : Below w.heap.size w w5 := hB4.trans (hb5.mono hB2.size)
  have hzz : w.heap.size ≤ w2.heap.size := hB2.size
  obtain ⟨rep, code, S'⟩ := r
  unfold Res.ret
  dsimp only at hs5 ⊢
  have HS5 := Lib.hid hs5
  have HB5 := Lib.hid hB5
  clear hs5 hB5 h1 hS hM hr hb1 hb2 hb3 hb4 hB2 hB3 hB4 hO4 hs3 hb5 hB
  by_cases hc : code = 0
  · subst hc
    go_wp2_with fail
    go_ret3
    exact ⟨b', rfl, HB5.out, fun _ => (HS5.out (by first | rfl | trivial)).mono hzz, fun h => absurd rfl h⟩
  · have c1 : (code == 0) = false := by simpa using hc
    have HC := Lib.hid hc
    clear hc
    go_wp2_with fail
    go_ret3
    exact ⟨b, by simp [HC.out], HB5.out, fun h => absurd h HC.out, fun _ => rfl⟩

set_option maxRecDepth 100000 in
set_option maxHeartbeats 800000 in
theorem do_form {B Z : Nat} (w : World) (hB : Base B w) (b : Nat) (S : St) (hS : StateAt Z w b S) (text : ByteArray) (ht : text.size ≤ 1000) (hl : lineB text = true) (wd so : ByteArray) (f : FuncId) (hwd : firstWord text = wd) (hr : RuleAt wd so f)
    (hso : so.size ≤ 20) (hsuf : Lib.hasSuffix so.data.toList [43] = false) (hp2 : 2 ≤ (pieces text).length) (hwo : wordsOk (pieces text).tail)
    (hf : formL so.data.toList (pieces text).tail = none) :
    Calls Tryz.prog 52 #[.pointer (some ⟨b, 0, none⟩), .string text] w (DoPost w b (⟨#[]⟩, 3, S)) := by
  have h1 := isLine_ok w hB text (by omega)
  rw [hl] at h1
  go_enter Tryz.func52, Tryz.ntmps52
  go_wp2_with fail
  refine h1.mono ?_
  rintro e w1 ⟨rfl, hb1⟩
  go_wp2_with fail
  refine (cut_word w1 (hB.on hb1) text ht).mono ?_
  rintro e w2 ⟨x, y, rfl, hb2⟩
  rw [hwd]
  have hB2 := hb1.trans (hb2.mono hb1.size)
  go_wp2_with fail
  refine (clone_ok Z w2 b S (hS.below hB2)).mono ?_
  rintro e w3 ⟨b', rfl, hs3, hb3⟩
  have hB3 := hB2.trans (hb3.mono hB2.size)
  go_wp2_with fail
  refine (hr b' w3).mono ?_
  rintro e w4 ⟨rfl, hO4⟩
  have hb4 := hO4.below
  have hB4 := hB3.trans (hb4.mono hB3.size)
  go_wp2_with fail
  refine (obey_none w4 (hB.on hB4) b' f text so ht hso hsuf hp2 hwo hf).mono ?_
  rintro e w5 ⟨rfl, hb5⟩
  have hB5 : Below w.heap.size w w5 := hB4.trans (hb5.mono hB4.size)
  clear h1 hr hS
  go_wp2_with fail
  go_ret3
  exact ⟨b, rfl, hB5, fun h => absurd h (show (3 : Int) ≠ 0 by decide), fun _ => rfl⟩
end Go.Proofs.YtkfdcccgpphcmaaGreatDoor
