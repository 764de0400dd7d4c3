/- A disk or works that no call returned: what each call returns. -/
import Derived.Test.YtkfdcccgpphcmaaGreatDoorLaw
namespace Go.Proofs.YtkfdcccgpphcmaaGreatDoor
open Go.RowKit Go.Shelf

/-- What none says of a receiver that no call returned. -/
abbrev NoDisk (w : World) (v : Value) : Prop := Calls Tryz.prog 45 #[v] w fun e w' => e = .returned (.bool true) ∧ w = w'
abbrev NoWorks (w : World) (v : Value) : Prop := Calls Tryz.prog 29 #[v] w fun e w' => e = .returned (.bool true) ∧ w = w'

theorem noWorks_nil (w : World) : NoWorks w (.pointer none) := by
  unfold NoWorks
  go_enter Tryz.func29, Tryz.ntmps29
  go_wp2
  go_ret
  exact ⟨rfl, rfl⟩
theorem noWorks_zero (b : Nat) (w : World) (c1 : w.cell? ⟨b, 1, none⟩ = some (.pointer none)) : NoWorks w (.pointer (some ⟨b, 0, none⟩)) := by
  unfold NoWorks
  go_enter Tryz.func29, Tryz.ntmps29
  go_wp2
  go_ret
  exact ⟨rfl, rfl⟩

theorem no_reach (w : World) (v : Value) (i : Int) (hn : NoDisk w v) :
    Calls Tryz.prog 41 #[v, .int .i64 i] w fun e w' => e = .returned (.int .i64 1) ∧ w = w' := by
  go_enter Tryz.func41, Tryz.ntmps41
  go_wp2_with (go_at_call 45; refine hn.mono ?_; rintro e w' ⟨rfl, rfl⟩)
  go_ret
  exact ⟨rfl, rfl⟩
theorem no_fuse (w : World) (v : Value) (i : Int) (hn : NoDisk w v) :
    Calls Tryz.prog 21 #[v, .int .i64 i] w fun e w' => e = .returned (.tuple #[]) ∧ w = w' := by
  go_enter Tryz.func21, Tryz.ntmps21
  go_wp2_with fail
  refine hn.mono ?_
  rintro e w' ⟨rfl, rfl⟩
  go_wp2_with fail
  exact ⟨rfl, _, results_none rfl _ _ _, rfl, rfl⟩
theorem no_crash (w : World) (v k : Value) (hn : NoDisk w v) :
    Calls Tryz.prog 22 #[v, k] w fun e w' => e = .returned (.tuple #[]) ∧ w = w' := by
  go_enter Tryz.func22, Tryz.ntmps22
  go_wp2_with (go_at_call 45; refine hn.mono ?_; rintro e w' ⟨rfl, rfl⟩)
  refine bodyPost_ret (results_none rfl _ _ _) rfl ?_
  exact ⟨rfl, rfl⟩
theorem no_read (w : World) (v : Value) (i : Int) (hn : NoDisk w v) :
    Calls Tryz.prog 17 #[v, .int .i64 i] w fun e w' => e = .returned (.tuple #[.string ⟨#[]⟩, .int .i64 1]) ∧ w = w' := by
  have hr := no_reach w v i hn
  clear hn
  go_enter Tryz.func17, Tryz.ntmps17
  go_wp2_with (go_at_call 41; refine hr.mono ?_; rintro e w' ⟨rfl, rfl⟩)
  go_ret2
  exact ⟨rfl, rfl⟩
theorem no_write (w : World) (v : Value) (i : Int) (s : ByteArray) (hn : NoDisk w v) :
    Calls Tryz.prog 25 #[v, .int .i64 i, .string s] w fun e w' => e = .returned (.int .i64 1) ∧ w = w' := by
  have hr := no_reach w v i hn
  clear hn
  go_enter Tryz.func25, Tryz.ntmps25
  go_wp2_with (go_at_call 41; refine hr.mono ?_; rintro e w' ⟨rfl, rfl⟩)
  go_ret
  exact ⟨rfl, rfl⟩
theorem no_sync (w : World) (v : Value) (hn : NoDisk w v) :
    Calls Tryz.prog 26 #[v] w fun e w' => e = .returned (.int .i64 1) ∧ w = w' := by
  go_enter Tryz.func26, Tryz.ntmps26
  go_wp2_with (go_at_call 45; refine hn.mono ?_; rintro e w' ⟨rfl, rfl⟩)
  go_ret
  exact ⟨rfl, rfl⟩
theorem no_open (w : World) (v : Value) (hn : NoDisk w v) :
    Calls Tryz.prog 24 #[v] w fun e w' => e = .returned (.tuple #[.pointer none, .int .i64 1]) ∧ w = w' := by
  go_enter Tryz.func24, Tryz.ntmps24
  go_wp2_with (go_at_call 45; refine hn.mono ?_; rintro e w' ⟨rfl, rfl⟩)
  go_ret2
  exact ⟨rfl, rfl⟩
theorem no_ready (w : World) (v : Value) (hn : NoWorks w v) :
    Calls Tryz.prog 44 #[v] w fun e w' => e = .returned (.int .i64 1) ∧ w = w' := by
  go_enter Tryz.func44, Tryz.ntmps44
  go_wp2_with (go_at_call 29; refine hn.mono ?_; rintro e w' ⟨rfl, rfl⟩)
  go_ret
  exact ⟨rfl, rfl⟩
theorem no_do (w : World) (v : Value) (s : ByteArray) (hn : NoWorks w v) :
    Calls Tryz.prog 27 #[v, .string s] w fun e w' => e = .returned (.tuple #[.string ⟨#[]⟩, .int .i64 1]) ∧ w = w' := by
  have hr := no_ready w v hn
  clear hn
  go_enter Tryz.func27, Tryz.ntmps27
  go_wp2_with (go_at_call 44; refine hr.mono ?_; rintro e w' ⟨rfl, rfl⟩)
  go_ret2
  exact ⟨rfl, rfl⟩
theorem no_ask (w : World) (v : Value) (s : ByteArray) (hn : NoWorks w v) :
    Calls Tryz.prog 8 #[v, .string s] w fun e w' => e = .returned (.tuple #[.string ⟨#[]⟩, .int .i64 1]) ∧ w = w' := by
  go_enter Tryz.func8, Tryz.ntmps8
  go_wp2_with (go_at_call 29; refine hn.mono ?_; rintro e w' ⟨rfl, rfl⟩)
  go_ret2
  exact ⟨rfl, rfl⟩
theorem no_commit (w : World) (v : Value) (hn : NoWorks w v) :
    Calls Tryz.prog 20 #[v] w fun e w' => e = .returned (.int .i64 1) ∧ w = w' := by
  have hr := no_ready w v hn
  clear hn
  go_enter Tryz.func20, Tryz.ntmps20
  go_wp2_with (go_at_call 44; refine hr.mono ?_; rintro e w' ⟨rfl, rfl⟩)
  go_ret
  exact ⟨rfl, rfl⟩
theorem no_journal (w : World) (v : Value) (hn : NoWorks w v) :
    Calls Tryz.prog 18 #[v] w fun e w' => e = .returned (.slice none 0 0) ∧ w = w' := by
  go_enter Tryz.func18, Tryz.ntmps18
  go_wp2_with (go_at_call 29; refine hn.mono ?_; rintro e w' ⟨rfl, rfl⟩)
  go_ret
  exact ⟨rfl, rfl⟩
theorem no_state (w : World) (v : Value) (hn : NoWorks w v) :
    Calls Tryz.prog 28 #[v] w fun e w' => e = .returned (.string ⟨#[]⟩) ∧ w = w' := by
  go_enter Tryz.func28, Tryz.ntmps28
  go_wp2_with (go_at_call 29; refine hn.mono ?_; rintro e w' ⟨rfl, rfl⟩)
  go_ret
  exact ⟨rfl, rfl⟩
end Go.Proofs.YtkfdcccgpphcmaaGreatDoor
