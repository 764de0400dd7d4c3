/- The rules of changes and questions, at words. -/
import Derived.Test.YtkfdcccgpphcmaaGreatDoorBase
namespace Go.Proofs.YtkfdcccgpphcmaaGreatDoor
open Go.RowKit

set_option maxRecDepth 100000 in
theorem change_vat (b : Nat) (w : World) :
    Calls Tryz.prog 69 #[.pointer (some ⟨b, 0, none⟩), .string ⟨#[118, 97, 116]⟩] w fun e w' => e = .returned (.agg #[.string ⟨#[110, 100, 100]⟩, .func (.func 126) #[.pointer (some ⟨b, 0, none⟩)] #[]]) ∧ Only [] w w' := by
  go_enter Tryz.func69, Tryz.ntmps69
  go_wp2_with fail
  refine bodyPost_ret (v := .agg #[.string ⟨#[110, 100, 100]⟩, .func (.func 126) #[.pointer (some ⟨b, 0, none⟩)] #[]]) (by simp [results, Tryz.results69, go_sem]) rfl ⟨rfl, ?_⟩
  exact (by first | exact (Only.refl _ _).alloc _ | exact ((Only.refl _ _).alloc _).alloc _)

set_option maxRecDepth 100000 in
theorem change_grower (b : Nat) (w : World) :
    Calls Tryz.prog 69 #[.pointer (some ⟨b, 0, none⟩), .string ⟨#[103, 114, 111, 119, 101, 114]⟩] w fun e w' => e = .returned (.agg #[.string ⟨#[110, 100, 100]⟩, .func (.func 127) #[.pointer (some ⟨b, 0, none⟩)] #[]]) ∧ Only [] w w' := by
  go_enter Tryz.func69, Tryz.ntmps69
  go_wp2_with fail
  refine bodyPost_ret (v := .agg #[.string ⟨#[110, 100, 100]⟩, .func (.func 127) #[.pointer (some ⟨b, 0, none⟩)] #[]]) (by simp [results, Tryz.results69, go_sem]) rfl ⟨rfl, ?_⟩
  exact (by first | exact (Only.refl _ _).alloc _ | exact ((Only.refl _ _).alloc _).alloc _)

set_option maxRecDepth 100000 in
theorem change_pack (b : Nat) (w : World) :
    Calls Tryz.prog 69 #[.pointer (some ⟨b, 0, none⟩), .string ⟨#[112, 97, 99, 107]⟩] w fun e w' => e = .returned (.agg #[.string ⟨#[110, 100, 43]⟩, .func (.func 128) #[.pointer (some ⟨b, 0, none⟩)] #[]]) ∧ Only [] w w' := by
  go_enter Tryz.func69, Tryz.ntmps69
  go_wp2_with fail
  refine bodyPost_ret (v := .agg #[.string ⟨#[110, 100, 43]⟩, .func (.func 128) #[.pointer (some ⟨b, 0, none⟩)] #[]]) (by simp [results, Tryz.results69, go_sem]) rfl ⟨rfl, ?_⟩
  exact (by first | exact (Only.refl _ _).alloc _ | exact ((Only.refl _ _).alloc _).alloc _)

set_option maxRecDepth 100000 in
theorem change_grid (b : Nat) (w : World) :
    Calls Tryz.prog 69 #[.pointer (some ⟨b, 0, none⟩), .string ⟨#[103, 114, 105, 100]⟩] w fun e w' => e = .returned (.agg #[.string ⟨#[115, 115, 115, 115]⟩, .func (.func 129) #[.pointer (some ⟨b, 0, none⟩)] #[]]) ∧ Only [] w w' := by
  go_enter Tryz.func69, Tryz.ntmps69
  go_wp2_with fail
  refine bodyPost_ret (v := .agg #[.string ⟨#[115, 115, 115, 115]⟩, .func (.func 129) #[.pointer (some ⟨b, 0, none⟩)] #[]]) (by simp [results, Tryz.results69, go_sem]) rfl ⟨rfl, ?_⟩
  exact (by first | exact (Only.refl _ _).alloc _ | exact ((Only.refl _ _).alloc _).alloc _)

set_option maxRecDepth 100000 in
theorem change_crate (b : Nat) (w : World) :
    Calls Tryz.prog 69 #[.pointer (some ⟨b, 0, none⟩), .string ⟨#[99, 114, 97, 116, 101]⟩] w fun e w' => e = .returned (.agg #[.string ⟨#[115, 115]⟩, .func (.func 130) #[.pointer (some ⟨b, 0, none⟩)] #[]]) ∧ Only [] w w' := by
  go_enter Tryz.func69, Tryz.ntmps69
  go_wp2_with fail
  refine bodyPost_ret (v := .agg #[.string ⟨#[115, 115]⟩, .func (.func 130) #[.pointer (some ⟨b, 0, none⟩)] #[]]) (by simp [results, Tryz.results69, go_sem]) rfl ⟨rfl, ?_⟩
  exact (by first | exact (Only.refl _ _).alloc _ | exact ((Only.refl _ _).alloc _).alloc _)

set_option maxRecDepth 100000 in
theorem change_drop (b : Nat) (w : World) :
    Calls Tryz.prog 69 #[.pointer (some ⟨b, 0, none⟩), .string ⟨#[100, 114, 111, 112]⟩] w fun e w' => e = .returned (.agg #[.string ⟨#[110]⟩, .func (.func 131) #[.pointer (some ⟨b, 0, none⟩)] #[]]) ∧ Only [] w w' := by
  go_enter Tryz.func69, Tryz.ntmps69
  go_wp2_with fail
  refine bodyPost_ret (v := .agg #[.string ⟨#[110]⟩, .func (.func 131) #[.pointer (some ⟨b, 0, none⟩)] #[]]) (by simp [results, Tryz.results69, go_sem]) rfl ⟨rfl, ?_⟩
  exact (by first | exact (Only.refl _ _).alloc _ | exact ((Only.refl _ _).alloc _).alloc _)

set_option maxRecDepth 100000 in
theorem question_stir (b : Nat) (w : World) :
    Calls Tryz.prog 56 #[.pointer (some ⟨b, 0, none⟩), .string ⟨#[115, 116, 105, 114]⟩] w fun e w' => e = .returned (.agg #[.string ⟨#[100]⟩, .func (.func 85) #[.pointer (some ⟨b, 0, none⟩)] #[]]) ∧ Only [] w w' := by
  go_enter Tryz.func56, Tryz.ntmps56
  go_wp2_with fail
  refine bodyPost_ret (v := .agg #[.string ⟨#[100]⟩, .func (.func 85) #[.pointer (some ⟨b, 0, none⟩)] #[]]) (by simp [results, Tryz.results56, go_sem]) rfl ⟨rfl, ?_⟩
  exact (by first | exact (Only.refl _ _).alloc _ | exact ((Only.refl _ _).alloc _).alloc _)

set_option maxRecDepth 100000 in
theorem question_idle (b : Nat) (w : World) :
    Calls Tryz.prog 56 #[.pointer (some ⟨b, 0, none⟩), .string ⟨#[105, 100, 108, 101]⟩] w fun e w' => e = .returned (.agg #[.string ⟨#[]⟩, .func (.func 86) #[.pointer (some ⟨b, 0, none⟩)] #[]]) ∧ Only [] w w' := by
  go_enter Tryz.func56, Tryz.ntmps56
  go_wp2_with fail
  refine bodyPost_ret (v := .agg #[.string ⟨#[]⟩, .func (.func 86) #[.pointer (some ⟨b, 0, none⟩)] #[]]) (by simp [results, Tryz.results56, go_sem]) rfl ⟨rfl, ?_⟩
  exact (by first | exact (Only.refl _ _).alloc _ | exact ((Only.refl _ _).alloc _).alloc _)

set_option maxRecDepth 100000 in
theorem question_rest (b : Nat) (w : World) :
    Calls Tryz.prog 56 #[.pointer (some ⟨b, 0, none⟩), .string ⟨#[114, 101, 115, 116]⟩] w fun e w' => e = .returned (.agg #[.string ⟨#[]⟩, .func (.func 87) #[.pointer (some ⟨b, 0, none⟩)] #[]]) ∧ Only [] w w' := by
  go_enter Tryz.func56, Tryz.ntmps56
  go_wp2_with fail
  refine bodyPost_ret (v := .agg #[.string ⟨#[]⟩, .func (.func 87) #[.pointer (some ⟨b, 0, none⟩)] #[]]) (by simp [results, Tryz.results56, go_sem]) rfl ⟨rfl, ?_⟩
  exact (by first | exact (Only.refl _ _).alloc _ | exact ((Only.refl _ _).alloc _).alloc _)

set_option maxRecDepth 100000 in
theorem question_sum (b : Nat) (w : World) :
    Calls Tryz.prog 56 #[.pointer (some ⟨b, 0, none⟩), .string ⟨#[115, 117, 109]⟩] w fun e w' => e = .returned (.agg #[.string ⟨#[110]⟩, .func (.func 88) #[.pointer (some ⟨b, 0, none⟩)] #[]]) ∧ Only [] w w' := by
  go_enter Tryz.func56, Tryz.ntmps56
  go_wp2_with fail
  refine bodyPost_ret (v := .agg #[.string ⟨#[110]⟩, .func (.func 88) #[.pointer (some ⟨b, 0, none⟩)] #[]]) (by simp [results, Tryz.results56, go_sem]) rfl ⟨rfl, ?_⟩
  exact (by first | exact (Only.refl _ _).alloc _ | exact ((Only.refl _ _).alloc _).alloc _)

set_option maxRecDepth 100000 in
theorem question_box (b : Nat) (w : World) :
    Calls Tryz.prog 56 #[.pointer (some ⟨b, 0, none⟩), .string ⟨#[98, 111, 120]⟩] w fun e w' => e = .returned (.agg #[.string ⟨#[110]⟩, .func (.func 89) #[.pointer (some ⟨b, 0, none⟩)] #[]]) ∧ Only [] w w' := by
  go_enter Tryz.func56, Tryz.ntmps56
  go_wp2_with fail
  refine bodyPost_ret (v := .agg #[.string ⟨#[110]⟩, .func (.func 89) #[.pointer (some ⟨b, 0, none⟩)] #[]]) (by simp [results, Tryz.results56, go_sem]) rfl ⟨rfl, ?_⟩
  exact (by first | exact (Only.refl _ _).alloc _ | exact ((Only.refl _ _).alloc _).alloc _)

set_option maxRecDepth 100000 in
theorem question_core (b : Nat) (w : World) :
    Calls Tryz.prog 56 #[.pointer (some ⟨b, 0, none⟩), .string ⟨#[99, 111, 114, 101]⟩] w fun e w' => e = .returned (.agg #[.string ⟨#[110, 100]⟩, .func (.func 90) #[.pointer (some ⟨b, 0, none⟩)] #[]]) ∧ Only [] w w' := by
  go_enter Tryz.func56, Tryz.ntmps56
  go_wp2_with fail
  refine bodyPost_ret (v := .agg #[.string ⟨#[110, 100]⟩, .func (.func 90) #[.pointer (some ⟨b, 0, none⟩)] #[]]) (by simp [results, Tryz.results56, go_sem]) rfl ⟨rfl, ?_⟩
  exact (by first | exact (Only.refl _ _).alloc _ | exact ((Only.refl _ _).alloc _).alloc _)

set_option maxRecDepth 100000 in
theorem question_crates (b : Nat) (w : World) :
    Calls Tryz.prog 56 #[.pointer (some ⟨b, 0, none⟩), .string ⟨#[99, 114, 97, 116, 101, 115]⟩] w fun e w' => e = .returned (.agg #[.string ⟨#[]⟩, .func (.func 94) #[.pointer (some ⟨b, 0, none⟩)] #[]]) ∧ Only [] w w' := by
  go_enter Tryz.func56, Tryz.ntmps56
  go_wp2_with fail
  refine bodyPost_ret (v := .agg #[.string ⟨#[]⟩, .func (.func 94) #[.pointer (some ⟨b, 0, none⟩)] #[]]) (by simp [results, Tryz.results56, go_sem]) rfl ⟨rfl, ?_⟩
  exact (by first | exact (Only.refl _ _).alloc _ | exact ((Only.refl _ _).alloc _).alloc _)
end Go.Proofs.YtkfdcccgpphcmaaGreatDoor
