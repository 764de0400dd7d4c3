/- The disk of the works: what each of its methods does to its pages. -/
import Derived.Test.YtkfdcccgpphcmaaGreatDoorMem
import Derived.Test.YtkfdcccgpphcmaaGreatDoorProg
import Derived.WalkKit
import Derived.WalkSpells
import Derived.Outline
import Derived.Handy
import Derived.Lib.Hide
import Derived.IntWalk
import Derived.Laws.EntriesVeiled
import Derived.Deep.OwnRows
import Derived.Deep.DeepCutAuto
namespace Go.Proofs.YtkfdcccgpphcmaaGreatDoor
open Go.RowKit

/-- Of what there was, only the blocks of M were written; new blocks may have come. -/
structure Only (M : List Nat) (w w' : World) : Prop where
  os : w'.os = w.os
  tape : w'.tape = w.tape
  output : w'.output = w.output
  size : w.heap.size ≤ w'.heap.size
  block : ∀ k, k < w.heap.size → k ∉ M → w'.heap[k]? = w.heap[k]?
section
variable {M N : List Nat} {a b c w w' : World}
theorem Only.refl (M : List Nat) (w : World) : Only M w w := ⟨rfl, rfl, rfl, Nat.le_refl _, fun _ _ _ => rfl⟩
theorem Only.trans (h : Only M a b) (k : Only M b c) : Only M a c :=
  ⟨k.os.trans h.os, k.tape.trans h.tape, k.output.trans h.output, Nat.le_trans h.size k.size, fun i hi hm => (k.block i (Nat.lt_of_lt_of_le hi h.size) hm).trans (h.block i hi hm)⟩
theorem Only.mono (h : Only M a b) (hs : ∀ k, k ∈ M → k ∈ N) : Only N a b := ⟨h.os, h.tape, h.output, h.size, fun k hk hm => h.block k hk fun h' => hm (hs k h')⟩
theorem Only.of_below (h : RowKit.Below w.heap.size w w') : Only M w w' := ⟨h.os, h.tape, h.output, h.size, fun k hk _ => h.block k hk⟩
theorem Only.of_grown {g : Nat} (h : w.grownBy w' (some g)) (hg : g ∈ M) : Only M w w' := ⟨h.os, h.tape, h.output, h.size, fun k hk hm => h.block k hk (fun e => by cases e; exact hm hg)⟩
theorem Only.set_ (h : Only M a w) {p : Addr} (hp : p.block ∈ M ∨ a.heap.size ≤ p.block) (u : Value) : Only M a (w.setCell p u) :=
  ⟨h.os, h.tape, h.output, (by have := h.size; simpa using this), fun k hk hm => (Below.heap_setCell _ _ _ _ (fun e => by subst e; rcases hp with hp | hp; exact hm hp; omega)).trans (h.block k hk hm)⟩
theorem Only.alloc (h : Only M a w) (o : Obj) : Only M a (w.alloc o) :=
  ⟨h.os, h.tape, h.output, (by have := h.size; simp; omega), fun k hk hm => (Below.heap_alloc _ _ _ (by have := h.size; omega)).trans (h.block k hk hm)⟩
theorem Only.drew (h : Only M a w) : Only M a w.drew := ⟨h.os, h.tape, h.output, h.size, h.block⟩
theorem Only.drewN (h : Only M a w) (n : Nat) : Only M a (w.drewN n) := ⟨h.os, h.tape, h.output, h.size, h.block⟩
theorem Only.blk (h : Only M w w') {g : Nat} {t : TypeId} {cs : Array Value} (hb : Blk w g t cs) (hg : g ∉ M) : Blk w' g t cs := (h.block g hb.lt hg).trans hb
theorem Only.cell (h : Only M w w') {p : Addr} (hp : p.block < w.heap.size) (hm : p.block ∉ M) : w'.cell? p = w.cell? p := World.cell?_of_block (w := w) (h.block p.block hp hm)
theorem Only.below (h : Only [] w w') : RowKit.Below w.heap.size w w' := ⟨h.os, h.tape, h.output, h.size, fun k hk => h.block k hk (by simp)⟩
/-- What was written lay in new blocks. -/
theorem Only.fresh (h : RowKit.Below a.heap.size a w) (k : Only M w w') (hm : ∀ g, g ∈ M → a.heap.size ≤ g) : RowKit.Below a.heap.size a w' :=
  ⟨k.os.trans h.os, k.tape.trans h.tape, k.output.trans h.output, Nat.le_trans h.size k.size, fun i hi => (k.block i (Nat.lt_of_lt_of_le hi h.size) (fun h' => by have := hm i h'; omega)).trans (h.block i hi)⟩
end

/-- A disk: its pages, what they had when they were safe last, whether the power is off, how many operations are left. -/
structure Dk where
  now : List ByteArray
  safe : List ByteArray
  off : Bool
  fuse : Int

/-- The cells of pages: of each what it has, and what it had. -/
def both : List ByteArray → List ByteArray → List Value
  | a :: l, b :: m => .string a :: .string b :: both l m
  | _, _ => []
theorem both_len : ∀ l m : List ByteArray, l.length = m.length → (both l m).length = 2 * l.length
  | [], _, _ => by simp [both]
  | _ :: _, [], h => by simp at h
  | a :: l, b :: m, h => by
    have := both_len l m (by simpa using h)
    simp [both, this]; omega
theorem both_now : ∀ (l m : List ByteArray) (i : Nat), l.length = m.length → i < l.length → (both l m)[i * 2]? = some (.string (l.getD i ByteArray.empty))
  | [], _, _, _, hi => by simp at hi
  | _ :: _, [], _, h, _ => by simp at h
  | a :: l, b :: m, 0, _, _ => rfl
  | a :: l, b :: m, i + 1, h, hi => by
    have := both_now l m i (by simpa using h) (by simpa using hi)
    simpa [both, Nat.add_mul] using this
theorem both_safe : ∀ (l m : List ByteArray) (i : Nat), l.length = m.length → i < l.length → (both l m)[i * 2 + 1]? = some (.string (m.getD i ByteArray.empty))
  | [], _, _, _, hi => by simp at hi
  | _ :: _, [], _, h, _ => by simp at h
  | a :: l, b :: m, 0, _, _ => rfl
  | a :: l, b :: m, i + 1, h, hi => by
    have := both_safe l m i (by simpa using h) (by simpa using hi)
    simpa [both, Nat.add_mul] using this
theorem both_set_now : ∀ (l m : List ByteArray) (i : Nat) (s : ByteArray), l.length = m.length → (both l m).set (i * 2) (.string s) = both (l.set i s) m
  | [], _, _, _, _ => by simp [both]
  | _ :: _, [], _, _, h => by simp at h
  | a :: l, b :: m, 0, s, _ => rfl
  | a :: l, b :: m, i + 1, s, h => by
    have := both_set_now l m i s (by simpa using h)
    simp [both, Nat.add_mul, this]
theorem both_set_safe : ∀ (l m : List ByteArray) (i : Nat) (s : ByteArray), l.length = m.length → (both l m).set (i * 2 + 1) (.string s) = both l (m.set i s)
  | [], _, _, _, _ => by simp [both]
  | _ :: _, [], _, _, h => by simp at h
  | a :: l, b :: m, 0, s, _ => rfl
  | a :: l, b :: m, i + 1, s, h => by
    have := both_set_safe l m i s (by simpa using h)
    simp [both, Nat.add_mul, this]

/-- A disk lies at block bd, its pages at block bp. -/
structure DiskAt (w : World) (bd bp : Nat) (D : Dk) : Prop where
  head : Blk w bd 55 #[.slice (some ⟨bp, 0, none⟩) D.now.length D.now.length, .bool D.off, .int .i64 D.fuse]
  rows : Blk w bp 81 (both D.now D.safe).toArray
  len : D.now.length = D.safe.length
  lo : 1 ≤ D.now.length
  hi : D.now.length ≤ 200
  flo : -1 ≤ D.fuse
  fhi : D.fuse ≤ 9223372036854775807

theorem DiskAt.ne {w : World} {bd bp : Nat} {D : Dk} (h : DiskAt w bd bp D) : bd ≠ bp := Blk.ne_ h.head h.rows (by decide)

theorem none_disk (bd bp : Nat) (D : Dk) (w : World) (h : DiskAt w bd bp D) :
    Calls Tryz.prog 45 #[.pointer (some ⟨bd, 0, none⟩)] w fun e w' => e = .returned (.bool false) ∧ w = w' := by
  have c0 : w.cell? ⟨bd, 0, none⟩ = some (.slice (some ⟨bp, 0, none⟩) D.now.length D.now.length) := h.head.cell 0
  have hz : ((D.now.length : Int) == 0) = false := by have := h.lo; exact beq_eq_false_iff_ne.2 (by omega)
  clear h
  go_enter Tryz.func45, Tryz.ntmps45
  go_wp2
  go_ret
  exact ⟨rfl, rfl⟩

theorem none_nil (w : World) :
    Calls Tryz.prog 45 #[.pointer none] w fun e w' => e = .returned (.bool true) ∧ w = w' := by
  go_enter Tryz.func45, Tryz.ntmps45
  go_wp2
  go_ret
  exact ⟨rfl, rfl⟩

theorem none_zero (bd : Nat) (w : World) (c0 : w.cell? ⟨bd, 0, none⟩ = some (.slice none 0 0)) :
    Calls Tryz.prog 45 #[.pointer (some ⟨bd, 0, none⟩)] w fun e w' => e = .returned (.bool true) ∧ w = w' := by
  go_enter Tryz.func45, Tryz.ntmps45
  go_wp2
  go_ret
  exact ⟨rfl, rfl⟩

set_option maxRecDepth 100000 in
theorem reach_in (bd bp : Nat) (D : Dk) (i : Int) (w : World) (h : DiskAt w bd bp D) (h0 : 0 ≤ i) (h1 : i < D.now.length) :
    Calls Tryz.prog 41 #[.pointer (some ⟨bd, 0, none⟩), .int .i64 i] w fun e w' => e = .returned (.int .i64 0) ∧ w = w' := by
  have c0 : w.cell? ⟨bd, 0, none⟩ = some (.slice (some ⟨bp, 0, none⟩) D.now.length D.now.length) := h.head.cell 0
  have hn := none_disk bd bp D w h
  have b1 : decide (i < 0) = false := by simpa using h0
  have b2 : decide ((D.now.length : Int) ≤ i) = false := by simpa using h1
  clear h
  go_enter Tryz.func41, Tryz.ntmps41
  go_wp2_with (go_at_call 45; refine hn.mono ?_; rintro e w' ⟨rfl, rfl⟩)
  go_ret
  exact ⟨rfl, rfl⟩

set_option maxRecDepth 100000 in
theorem reach_out (bd bp : Nat) (D : Dk) (i : Int) (w : World) (h : DiskAt w bd bp D) (h0 : i < 0 ∨ D.now.length ≤ i) :
    Calls Tryz.prog 41 #[.pointer (some ⟨bd, 0, none⟩), .int .i64 i] w fun e w' => e = .returned (.int .i64 2) ∧ w = w' := by
  have c0 : w.cell? ⟨bd, 0, none⟩ = some (.slice (some ⟨bp, 0, none⟩) D.now.length D.now.length) := h.head.cell 0
  have hn := none_disk bd bp D w h
  clear h
  by_cases b : i < 0
  · have b1 : decide (i < 0) = true := by simpa using b
    go_enter Tryz.func41, Tryz.ntmps41
    go_wp2_with (go_at_call 45; refine hn.mono ?_; rintro e w' ⟨rfl, rfl⟩)
    go_ret
    exact ⟨rfl, rfl⟩
  · have b1 : decide (i < 0) = false := by simpa using b
    have b2 : decide ((D.now.length : Int) ≤ i) = true := by simp; omega
    go_enter Tryz.func41, Tryz.ntmps41
    go_wp2_with (go_at_call 45; refine hn.mono ?_; rintro e w' ⟨rfl, rfl⟩)
    go_ret
    exact ⟨rfl, rfl⟩

theorem DiskAt.setOff {w : World} {bd bp : Nat} {D : Dk} (h : DiskAt w bd bp D) (b : Bool) : DiskAt (w.setCell ⟨bd, 1, none⟩ (.bool b)) bd bp { D with off := b } :=
  ⟨h.head.set_ 1 _, h.rows.far (by simpa using h.ne.symm) _, h.len, h.lo, h.hi, h.flo, h.fhi⟩
theorem DiskAt.setFuse {w : World} {bd bp : Nat} {D : Dk} (h : DiskAt w bd bp D) (f : Int) (h1 : -1 ≤ f) (h2 : f ≤ 9223372036854775807) : DiskAt (w.setCell ⟨bd, 2, none⟩ (.int .i64 f)) bd bp { D with fuse := f } :=
  ⟨h.head.set_ 2 _, h.rows.far (by simpa using h.ne.symm) _, h.len, h.lo, h.hi, h1, h2⟩

/-- What an operation spends, and what it reports. -/
def Dk.dark (D : Dk) : Bool := D.off || D.fuse == 0
def Dk.spent (D : Dk) : Dk := { D with off := D.dark, fuse := if D.dark then D.fuse else max (D.fuse - 1) (-1) }
def Dk.code (D : Dk) : Int := if D.dark then 8 else 0

set_option maxRecDepth 100000 in
theorem spend_ok (bd bp : Nat) (D : Dk) (w : World) (h : DiskAt w bd bp D) :
    Calls Tryz.prog 51 #[.pointer (some ⟨bd, 0, none⟩)] w fun e w' => e = .returned (.int .i64 D.code) ∧ DiskAt w' bd bp D.spent ∧ Only [bd] w w' := by
  have c1 : w.cell? ⟨bd, 1, none⟩ = some (.bool D.off) := h.head.cell 1
  have c2 : w.cell? ⟨bd, 2, none⟩ = some (.int .i64 D.fuse) := h.head.cell 2
  have f1 : w.frozen? ⟨bd, 1, none⟩ = false := h.head.frozen 1
  have f2 : w.frozen? ⟨bd, 2, none⟩ = false := h.head.frozen 2
  have flo := h.flo
  have fhi := h.fhi
  have HD := Lib.hid h
  clear h
  by_cases hd : D.off = true
  · rw [hd] at c1
    have e1 : D.dark = true := by simp [Dk.dark, hd]
    have E1 := Lib.hid e1
    clear e1 hd
    go_enter Tryz.func51, Tryz.ntmps51
    go_wp2
    go_ret
    refine ⟨by simp [Dk.code, E1.out], ?_, (Only.refl _ _).set_ (by simp) _⟩
    have := HD.out.setOff true
    simpa [Dk.spent, E1.out] using this
  · rw [Bool.not_eq_true] at hd
    rw [hd] at c1
    have HO := Lib.hid hd
    clear hd
    by_cases hz : D.fuse = 0
    · have b1 : (D.fuse == 0) = true := beq_iff_eq.2 hz
      have E1 : Hid (D.dark = true) := by show D.dark = true; simp [Dk.dark, hz]
      clear hz
      go_enter Tryz.func51, Tryz.ntmps51
      go_wp2
      go_ret
      refine ⟨by simp [Dk.code, E1.out], ?_, (Only.refl _ _).set_ (by simp) _⟩
      have := HD.out.setOff true
      simpa [Dk.spent, E1.out] using this
    · have b1 : (D.fuse == 0) = false := beq_eq_false_iff_ne.2 hz
      have E1 : Hid (D.dark = false) := by show D.dark = false; simp [Dk.dark, HO.out, hz]
      have HZ := Lib.hid hz
      clear hz
      go_enter Tryz.func51, Tryz.ntmps51
      go_wp2
      all_goals go_ret
      · refine ⟨by simp [Dk.code, E1.out], ?_, ((Only.refl _ _).set_ (by simp) _).set_ (by simp) _⟩
        have := (HD.out.setOff false).setFuse (-1) (by omega) (by omega)
        have e : max (D.fuse - 1) (-1) = -1 := by omega
        simpa [Dk.spent, E1.out, e] using this
      · refine ⟨by simp [Dk.code, E1.out], ?_, ((Only.refl _ _).set_ (by simp) _).set_ (by simp) _⟩
        have := (HD.out.setOff false).setFuse (D.fuse - 1) (by omega) (by omega)
        have e : max (D.fuse - 1) (-1) = D.fuse - 1 := by omega
        simpa [Dk.spent, E1.out, e] using this

theorem Dk.spent_len (D : Dk) : D.spent.now = D.now ∧ D.spent.safe = D.safe := ⟨rfl, rfl⟩
/-- What Write reports, and what it leaves. -/
def Dk.writeCode (D : Dk) (i : Int) (s : ByteArray) : Int := if i < 0 ∨ (D.now.length : Int) ≤ i ∨ 80 < s.size then 2 else D.code
def Dk.write (D : Dk) (i : Int) (s : ByteArray) : Dk := if i < 0 ∨ (D.now.length : Int) ≤ i ∨ 80 < s.size then D else if D.dark then D.spent else { D.spent with now := D.now.set i.toNat s }

theorem DiskAt.setNow {w : World} {bd bp : Nat} {D : Dk} (h : DiskAt w bd bp D) (i : Nat) (s : ByteArray) : DiskAt (w.setCell ⟨bp, i * 2, none⟩ (.string s)) bd bp { D with now := D.now.set i s } :=
  ⟨by simpa using h.head.far (p := ⟨bp, i * 2, none⟩) h.ne (.string s), by have := h.rows.set_ (i * 2) (.string s); rwa [List.setIfInBounds_toArray, both_set_now _ _ _ _ h.len] at this, by simpa using h.len, by simpa using h.lo, by simpa using h.hi, h.flo, h.fhi⟩
theorem DiskAt.setSafe {w : World} {bd bp : Nat} {D : Dk} (h : DiskAt w bd bp D) (i : Nat) (s : ByteArray) : DiskAt (w.setCell ⟨bp, i * 2 + 1, none⟩ (.string s)) bd bp { D with safe := D.safe.set i s } :=
  ⟨h.head.far (p := ⟨bp, i * 2 + 1, none⟩) h.ne (.string s), by have := h.rows.set_ (i * 2 + 1) (.string s); rwa [List.setIfInBounds_toArray, both_set_safe _ _ _ _ h.len] at this, by simpa using h.len, h.lo, h.hi, h.flo, h.fhi⟩

set_option maxRecDepth 100000 in
theorem write_ok (bd bp : Nat) (D : Dk) (i : Int) (s : ByteArray) (w : World) (h : DiskAt w bd bp D) (hs : s.size ≤ 9223372036854775807) :
    Calls Tryz.prog 25 #[.pointer (some ⟨bd, 0, none⟩), .int .i64 i, .string s] w fun e w' => e = .returned (.int .i64 (D.writeCode i s)) ∧ DiskAt w' bd bp (D.write i s) ∧ Only [bd, bp] w w' := by
  by_cases ho : i < 0 ∨ (D.now.length : Int) ≤ i
  · have hr := reach_out bd bp D i w h ho
    have HD := Lib.hid h
    clear h
    go_enter Tryz.func25, Tryz.ntmps25
    go_wp2_with (go_at_call 41; refine hr.mono ?_; rintro e w' ⟨rfl, rfl⟩)
    go_ret
    have hc : i < 0 ∨ (D.now.length : Int) ≤ i ∨ 80 < s.size := by omega
    exact ⟨by rw [Dk.writeCode, if_pos hc]; rfl, by rw [Dk.write, if_pos hc]; exact HD.out, Only.refl _ _⟩
  · have hr := reach_in bd bp D i w h (by omega) (by omega)
    by_cases hz : 80 < s.size
    · have HD := Lib.hid h
      clear h
      go_enter Tryz.func25, Tryz.ntmps25
      go_wp2_with (go_at_call 41; refine hr.mono ?_; rintro e w' ⟨rfl, rfl⟩)
      go_ret
      have hc : i < 0 ∨ (D.now.length : Int) ≤ i ∨ 80 < s.size := by omega
      exact ⟨by rw [Dk.writeCode, if_pos hc]; rfl, by rw [Dk.write, if_pos hc]; exact HD.out, Only.refl _ _⟩
    · have hc : ¬ (i < 0 ∨ (D.now.length : Int) ≤ i ∨ 80 < s.size) := by omega
      have hsp := spend_ok bd bp D w h
      have hlen : Hid (D.now.length = D.safe.length) := h.len
      clear h
      have HC : Hid (¬ (i < 0 ∨ (D.now.length : Int) ≤ i ∨ 80 < s.size)) := hc
      obtain ⟨i, rfl⟩ := Int.eq_ofNat_of_zero_le (show 0 ≤ i by omega)
      clear hc
      by_cases hd : D.dark = true
      · have ec : D.code = 8 := by rw [Dk.code, if_pos hd]
        rw [ec] at hsp
        have HDk := Lib.hid hd
        have HE := Lib.hid ec
        clear hd ec
        go_enter Tryz.func25, Tryz.ntmps25
        go_wp2_with fail
        refine hr.mono ?_
        rintro e w' ⟨rfl, rfl⟩
        go_wp2_with fail
        refine hsp.mono ?_
        rintro e w1 ⟨rfl, hD1, hO⟩
        go_wp2
        go_ret
        exact ⟨by rw [Dk.writeCode, if_neg HC.out, HE.out]; rfl, by rw [Dk.write, if_neg HC.out, if_pos HDk.out]; exact hD1, hO.mono (by simp)⟩
      · have ec : D.code = 0 := by rw [Dk.code, if_neg hd]
        rw [ec] at hsp
        have HDk := Lib.hid hd
        have HE := Lib.hid ec
        clear hd ec
        go_enter Tryz.func25, Tryz.ntmps25
        go_wp2_with fail
        refine hr.mono ?_
        rintro e w' ⟨rfl, rfl⟩
        go_wp2_with fail
        refine hsp.mono ?_
        rintro e w1 ⟨rfl, hD1, hO⟩
        have hi : i < D.now.length := by have := HC.out; omega
        have c0 : w1.cell? ⟨bd, 0, none⟩ = some (.slice (some ⟨bp, 0, none⟩) D.now.length D.now.length) := hD1.head.cell 0
        have ci : w1.cell? ⟨bp, i * 2, none⟩ = some (.string (D.now.getD i ByteArray.empty)) := (hD1.rows.cell (i * 2)).trans (by rw [List.getElem?_toArray]; exact both_now _ _ i hlen.out hi)
        have fi : w1.frozen? ⟨bp, i * 2, none⟩ = false := hD1.rows.frozen (i * 2)
        go_wp2
        go_ret
        exact ⟨by rw [Dk.writeCode, if_neg HC.out, HE.out]; rfl, by rw [Dk.write, if_neg HC.out, if_neg HDk.out]; exact hD1.setNow i s, (hO.mono (by simp)).set_ (by simp) _⟩
end Go.Proofs.YtkfdcccgpphcmaaGreatDoor
