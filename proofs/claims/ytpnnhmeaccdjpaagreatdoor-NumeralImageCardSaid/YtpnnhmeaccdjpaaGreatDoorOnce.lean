/- The Replacer is built once, at its first use. -/
import Derived.Test.YtpnnhmeaccdjpaaGreatDoorBuild
import Derived.Defers
import Derived.Laws.Pointers
import Derived.Laws.LoneSync
import Derived.RegionTactic
import Derived.RegionCalls
import Derived.ChangeAlike
namespace Go.Proofs.YtpnnhmeaccdjpaaGreatDoor
open Go.RowKit Go.Shelf

theorem disable (w : World) : (callFunc 53 #[]).run Tryz.prog w = .ok (.value (.tuple #[])) w := run_call_mark0 Tryz.func53 (by kernel_rfl) (by kernel_rfl) (by kernel_rfl) .disable (by kernel_rfl) w
theorem enable (w : World) : (callFunc 55 #[]).run Tryz.prog w = .ok (.value (.tuple #[])) w := run_call_mark0 Tryz.func55 (by kernel_rfl) (by kernel_rfl) (by kernel_rfl) .enable (by kernel_rfl) w
theorem acquire (a : Addr) (w : World) : (callFunc 56 #[.pointer (some a)]).run Tryz.prog w = .ok (.value (.tuple #[])) w := run_call_marked Tryz.func56 (by kernel_rfl) (by kernel_rfl) (by kernel_rfl) .acquire (by kernel_rfl) a w
theorem releaseMerge (a : Addr) (w : World) : (callFunc 58 #[.pointer (some a)]).run Tryz.prog w = .ok (.value (.tuple #[])) w := run_call_marked Tryz.func58 (by kernel_rfl) (by kernel_rfl) (by kernel_rfl) .releaseMerge (by kernel_rfl) a w

/-- '(*sync/atomic.Bool).Store(true)', entered as a deferred call: the cell holds 1. -/
theorem store_deferred (a : Addr) (x : Value) (u : FrameMode) (w : World) (hc : w.cell? a = some x) (hz : w.frozen? a = false) :
    CallsD Tryz.prog 37 #[.pointer (some a), .bool true] u w fun e u' w' => u' = u ∧ (e = .returned (.tuple #[]) ∧ w' = w.drew.setCell a (.int .u32 1)) := by
  have hc' : w.drew.cell? a = some x := by go_simp
  have hz' : w.drew.frozen? a = false := by go_simp
  have hst := run_call_store (P := Tryz.prog) Tryz.func45 (by kernel_rfl) (by kernel_rfl) (by kernel_rfl) (by kernel_rfl) (k := .u32) (y := 1) hc' hz'
  go_enter_d Tryz.func37, Tryz.ntmps37
  go_wp2
  go_region_calls
  all_goals (go_end0; exact ⟨rfl, rfl⟩)

set_option maxRecDepth 100000 in
/-- '(*sync.Mutex).Unlock', entered as a deferred call, the lock held and nobody waiting (state 1): state 0. -/
theorem unlock_deferred (a : Addr) (u : FrameMode) (w : World) (hc : w.cell? a = some (.int .i32 1)) (hz : w.frozen? a = false) :
    CallsD Tryz.prog 36 #[.pointer (some a)] u w fun e u' w' => u' = u ∧ (e = .returned (.tuple #[]) ∧ w' = w.setCell a (.int .i32 0)) := by
  have hd := disable
  have he := enable
  have hr := releaseMerge
  have hadd := run_call_add (P := Tryz.prog) Tryz.func59 (by kernel_rfl) (by kernel_rfl) (by kernel_rfl) .i32 (by kernel_rfl) (y := -1) (s := 0) hc hz (by simp [go_sem]; rfl)
  have hcv := run_convert_to_unsafe (P := Tryz.prog) (src := 111) (dst := 115) Tryz.underlying111 Tryz.underlying115 (by kernel_rfl) hc
  go_enter_d Tryz.func36, Tryz.ntmps36
  go_wp2
  go_end0
  exact ⟨rfl, rfl⟩

set_option maxRecDepth 100000 in
/-- '(*sync.Mutex).Lock', the lock free (state 0): state 1. -/
theorem lock_free (a : Addr) (w : World) (hc : w.cell? a = some (.int .i32 0)) (hz : w.frozen? a = false) :
    Calls Tryz.prog 35 #[.pointer (some a)] w fun e w' => e = .returned (.tuple #[]) ∧ w' = w.setCell a (.int .i32 1) := by
  have hd := disable
  have he := enable
  have ha := acquire
  have hcas := run_call_cas_hit (P := Tryz.prog) Tryz.func54 (by kernel_rfl) (by kernel_rfl) (by kernel_rfl) .i32 (by kernel_rfl) (y := 1) hc hz
  have hc' : (w.setCell a (.int .i32 1)).cell? a = some (.int .i32 1) := World.cell?_setCell_same w a _ hc
  have hcv := run_convert_to_unsafe (P := Tryz.prog) (src := 111) (dst := 115) Tryz.underlying111 Tryz.underlying115 (by kernel_rfl) hc'
  go_enter Tryz.func35, Tryz.ntmps35
  go_wp2
  first | go_end0 | (simp only [Exit.inBlock, Exit.then]; refine bodyPost_ret (results_none rfl _ _ _) rfl ?_) | refine bodyPost_ret (results_none rfl _ _ _) rfl ?_
  exact ⟨rfl, rfl⟩

theorem Table.keep {w w' : World} {B bt : Nat} (h : Table w B bt) (hk : ∀ k, B ≤ k → k < w.heap.size → w'.heap[k]? = w.heap[k]?) (hs : w.heap.size ≤ w'.heap.size) : Table w' B bt := by
  obtain ⟨T, x0, c0, x1, c1, xr, h1, h2, h3, h4, h5, h6, t0, t1, t2, t3, a0, a1, a2, a3, a4, l0, l1, l2⟩ := h
  have hc : ∀ x j, B ≤ x → x < w.heap.size → w'.cell? ⟨x, j, none⟩ = w.cell? ⟨x, j, none⟩ := fun x j hx hl => World.cell?_of_block (w := w) (hk x hx hl)
  exact ⟨T, x0, c0, x1, c1, xr, h1, (hk bt h3 h2.lt).trans h2, h3, h4, h5, h6, t0, t1, t2, t3, (hc _ _ h4 l0).trans a0, (hc _ _ h4 l0).trans a1, (hc _ _ h5 l1).trans a2, (hc _ _ h6 l2).trans a3, (hc _ _ h6 l2).trans a4, by omega, by omega, by omega⟩
theorem Table.far {w : World} {B bt : Nat} (h : Table w B bt) {p : Addr} (hp : p.block < B) (u : Value) : Table (w.setCell p u) B bt :=
  h.keep (fun k hk _ => Below.heap_setCell _ _ _ _ (by omega)) (by simp)
theorem Table.drew {w : World} {B bt : Nat} (h : Table w B bt) : Table w.drew B bt := h

set_option maxRecDepth 100000 in
set_option maxHeartbeats 1000000 in
/-- '(*Replacer).buildOnce': the table is laid in the Replacer's third cell. -/
theorem once_ok (b g cap : Nat) (x0 x1 x2 : Value) (w : World) (hb : Blk w b 53 #[x0, x1, x2, .nilIface, .slice (some ⟨g, 0, none⟩) 4 cap]) (hgl : g < w.heap.size)
    (g0 : w.cell? ⟨g, 0, none⟩ = some (.string (S [48]))) (g1 : w.cell? ⟨g, 1, none⟩ = some (.string (S [48, 49]))) (g2 : w.cell? ⟨g, 2, none⟩ = some (.string (S [49]))) (g3 : w.cell? ⟨g, 3, none⟩ = some (.string (S [48]))) :
    Calls Tryz.prog 14 #[.pointer (some ⟨b, 0, none⟩)] w fun e w' => ∃ bt, e = .returned (.tuple #[]) ∧ Blk w' b 53 #[x0, x1, x2, .iface 89 (.pointer (some ⟨bt, 0, none⟩)), .slice none 0 0] ∧ Table w' w.heap.size bt ∧ w.grownBy w' (some b) := by
  have hcon := build_ok b g cap w hb.lt hgl (hb.cell 4) g0 g1 g2 g3
  have hbl := hb.lt
  have HB := Lib.hid hb
  clear hb
  go_enter Tryz.func14, Tryz.ntmps14
  go_wp2_with fail
  refine hcon.mono ?_
  rintro e w1 ⟨bt, rfl, hT, hB⟩
  have HB1 : Hid (Blk w1 b 53 _) := HB.out.below hB hbl
  have c3 : w1.cell? ⟨b, 3, none⟩ = some .nilIface := HB1.out.cell 3
  have c4 : w1.cell? ⟨b, 4, none⟩ = some (.slice (some ⟨g, 0, none⟩) 4 cap) := HB1.out.cell 4
  have f3 : w1.frozen? ⟨b, 3, none⟩ = false := HB1.out.frozen 3
  have f4 : w1.frozen? ⟨b, 4, none⟩ = false := HB1.out.frozen 4
  go_wp2
  go_end0
  have hB2 := (HB1.out.set_ 3 (.iface 89 (.pointer (some ⟨bt, 0, none⟩)))).set_ 4 (.slice none 0 0)
  refine ⟨bt, rfl, hB2, (hT.far (by simpa using hbl) _).far (by simpa using hbl) _, ⟨hB.os, hB.tape, hB.output, (by have := hB.size; simpa using this), fun k hk hne => ?_⟩⟩
  have hkb : k ≠ b := fun e => hne (by rw [e])
  rw [Below.heap_setCell _ _ _ _ (by simpa using hkb), Below.heap_setCell _ _ _ _ (by simpa using hkb)]
  exact hB.block k hk

/-- What a Replacer that is not built yet holds; g: where its strings lie. -/
def Fresh (w : World) (b : Nat) : Prop := ∃ g cap, Blk w b 53 #[.int .u32 0, .int .i32 0, .int .u32 0, .nilIface, .slice (some ⟨g, 0, none⟩) 4 cap] ∧ g ≠ b ∧ g < w.heap.size ∧
  w.cell? ⟨g, 0, none⟩ = some (.string (S [48])) ∧ w.cell? ⟨g, 1, none⟩ = some (.string (S [48, 49])) ∧ w.cell? ⟨g, 2, none⟩ = some (.string (S [49])) ∧ w.cell? ⟨g, 3, none⟩ = some (.string (S [48]))

set_option maxRecDepth 100000 in
set_option maxHeartbeats 1600000 in
/-- '(*sync.Once).doSlow', not yet done and the lock free. -/
theorem slow_ok (b : Nat) (w : World) (hf : Fresh w b) :
    Calls Tryz.prog 27 #[.pointer (some ⟨b, 0, none⟩), .func (.func 14) #[.pointer (some ⟨b, 0, none⟩)] #[]] w fun e w' => ∃ bt, e = .returned (.tuple #[]) ∧ Blk w' b 53 #[.int .u32 1, .int .i32 0, .int .u32 0, .iface 89 (.pointer (some ⟨bt, 0, none⟩)), .slice none 0 0] ∧ Table w' w.heap.size bt ∧ w.grownBy w' (some b) := by
  obtain ⟨g, cap, hb, hgb, hgl, g0, g1, g2, g3⟩ := hf
  have hbl := hb.lt
  have c0 : w.cell? ⟨b, 0, none⟩ = some (.int .u32 0) := hb.cell 0
  have c1 : w.cell? ⟨b, 1, none⟩ = some (.int .i32 0) := hb.cell 1
  have f0 : w.frozen? ⟨b, 0, none⟩ = false := hb.frozen 0
  have f1 : w.frozen? ⟨b, 1, none⟩ = false := hb.frozen 1
  have hl := run_call_load (P := Tryz.prog) Tryz.func34 (by kernel_rfl) (by kernel_rfl) (by kernel_rfl) .u32 (by kernel_rfl) (w := w.setCell ⟨b, 1, none⟩ (.int .i32 1)) (a := ⟨b, 0, none⟩) (x := 0) ((World.cell?_setCell_other _ ⟨b, 1, none⟩ ⟨b, 0, none⟩ _ (by simp)).trans c0)
  have hnot : ∀ (x : Bool) (w : World), (Op.unary .not (.bool x)).run Tryz.prog w = .ok (.bool (!x)) w := fun _ _ => rfl
  have hg : ∀ j, (w.setCell ⟨b, 1, none⟩ (.int .i32 1)).cell? ⟨g, j, none⟩ = w.cell? ⟨g, j, none⟩ := fun j => World.cell?_setCell_other _ ⟨b, 1, none⟩ ⟨g, j, none⟩ _ (by simp)
  have hcon := once_ok b g cap (.int .u32 0) (.int .i32 1) (.int .u32 0) (w.setCell ⟨b, 1, none⟩ (.int .i32 1)) (hb.set_ 1 _) (by simpa using hgl) ((hg 0).trans g0) ((hg 1).trans g1) ((hg 2).trans g2) ((hg 3).trans g3)
  have HB := Lib.hid hb
  clear hb hg
  go_enter_defers Tryz.func27, Tryz.ntmps27
  go_wp2_with (go_at_call 35; refine (lock_free ⟨b, 1, none⟩ _ (by go_simp) (by go_simp)).mono ?_; rintro e w' ⟨rfl, rfl⟩)
  go_wp2_with (go_at_call 26; go_in)
  refine hcon.mono ?_
  rintro e w1 ⟨bt, rfl, hB1, hT, hG⟩
  go_wp2
  refine leaves_cons (f := 37) (args := #[.pointer (some ⟨b, 0, none⟩), .bool true]) (by simp) (by simp [go_sem]) ?_
  refine (store_deferred ⟨b, 0, none⟩ (.int .u32 0) .returning _ (hB1.cell 0) (hB1.frozen 0)).mono ?_
  rintro e u' w'' ⟨rfl, rfl, rfl⟩
  have hB2 := hB1.drew.set_ 0 (.int .u32 1)
  refine leaves_cons (f := 36) (args := #[.pointer (some ⟨b, 1, none⟩)]) (by simp [settle]) (by simp [go_sem]) ?_
  refine (unlock_deferred ⟨b, 1, none⟩ _ _ (hB2.cell 1) (hB2.frozen 1)).mono ?_
  rintro e u' w'' ⟨rfl, rfl, rfl⟩
  have hB3 := hB2.set_ 1 (.int .i32 0)
  have hT3 : Table ((w1.drew.setCell ⟨b, 0, none⟩ (.int .u32 1)).setCell ⟨b, 1, none⟩ (.int .i32 0)) w.heap.size bt := by
    have := (hT.drew.far (p := ⟨b, 0, none⟩) (by simpa using hbl) (.int .u32 1)).far (p := ⟨b, 1, none⟩) (by simpa using hbl) (.int .i32 0)
    simpa using this
  have hG3 : w.grownBy ((w1.drew.setCell ⟨b, 0, none⟩ (.int .u32 1)).setCell ⟨b, 1, none⟩ (.int .i32 0)) (some b) := by
    refine ⟨hG.os, hG.tape, hG.output, (by have := hG.size; simpa using this), fun k hk hne => ?_⟩
    have hkb : k ≠ b := fun e => hne (by rw [e])
    rw [Below.heap_setCell _ _ _ _ (by simpa using hkb), Below.heap_setCell _ _ _ _ (by simpa using hkb)]
    refine (hG.block k (by simpa using hk) hne).trans ?_
    rw [Below.heap_setCell _ _ _ _ (by simpa using hkb)]
  exact ⟨.tuple #[], results_none rfl _ _ _, bt, rfl, hB3, hT3, hG3⟩

set_option maxRecDepth 100000 in
set_option maxHeartbeats 1600000 in
/-- '(*sync.Once).Do', not yet done. -/
theorem do_ok (b : Nat) (w : World) (hf : Fresh w b) :
    Calls Tryz.prog 13 #[.pointer (some ⟨b, 0, none⟩), .func (.func 14) #[.pointer (some ⟨b, 0, none⟩)] #[]] w fun e w' => ∃ bt, e = .returned (.tuple #[]) ∧ Blk w' b 53 #[.int .u32 1, .int .i32 0, .int .u32 0, .iface 89 (.pointer (some ⟨bt, 0, none⟩)), .slice none 0 0] ∧ Table w' w.heap.size bt ∧ w.grownBy w' (some b) := by
  have hcon := slow_ok b w hf
  have c0 : w.cell? ⟨b, 0, none⟩ = some (.int .u32 0) := by obtain ⟨g, cap, hb, _⟩ := hf; exact hb.cell 0
  have hl := run_call_load (P := Tryz.prog) Tryz.func34 (by kernel_rfl) (by kernel_rfl) (by kernel_rfl) .u32 (by kernel_rfl) c0
  have hnot : ∀ (x : Bool) (w : World), (Op.unary .not (.bool x)).run Tryz.prog w = .ok (.bool (!x)) w := fun _ _ => rfl
  clear hf
  go_enter Tryz.func13, Tryz.ntmps13
  go_wp2_with (go_at_call 26; go_in)
  refine hcon.mono ?_
  rintro e w1 ⟨bt, rfl, hB1, hT, hG⟩
  go_wp2
  go_end0
  exact ⟨bt, rfl, hB1, hT, hG⟩
end Go.Proofs.YtpnnhmeaccdjpaaGreatDoor
