/- Contracts of functions that the laws of package lease reach; each says what a call returns, for every argument, and that old memory stays. No condition. -/
import Derived.Test.YtppmbfffnpindaaLeaseD
namespace Go.Proofs.Ytppmbfffnpindaa
open Go.RowKit
set_option linter.unusedVariables false
set_option linter.unusedSimpArgs false
attribute [local go_sem] ext_size ext_drew cell_ext_if frozen_ext_if set_ext_if
attribute [local go_sem low] cell_alloc_if frozen_alloc_if set_alloc_if

theorem free_is (t : Task) (now : Int) (b : Bool) (h : freeB t now = b) (w : World) :
    Calls Try.prog 15 #[t.v, .int .i64 now] w fun e w' => e = .returned (.bool b) ∧ Ex w w' := by
  rw [← h]; exact free_any t now w
theorem holds_is (t : Task) (s : ByteArray) (epoch now n : Int) (h : holdsN t s epoch now = n) (w : World) :
    Calls Try.prog 17 #[t.v, .string s, .int .i64 epoch, .int .i64 now] w fun e w' => e = .returned (.int .i64 n) ∧ Ex w w' := by
  rw [← h]; exact holds_any t s epoch now w
theorem longer_yes (t : Task) (now span : Int) (w : World) (h : longerB t span = true) :
    Calls Try.prog 27 #[t.v, .int .i64 now, .int .i64 span] w fun e w' => e = .returned (.tuple #[({ t with expiry := wrap64 (now + span) } : Task).v, .bool true]) ∧ Ex w w' := by
  have := longer_any t now span w
  rw [longerT, if_pos h, h] at this
  exact this
theorem longer_no (t : Task) (now span : Int) (w : World) (h : longerB t span = false) :
    Calls Try.prog 27 #[t.v, .int .i64 now, .int .i64 span] w fun e w' => e = .returned (.tuple #[t.v, .bool false]) ∧ Ex w w' := by
  have := longer_any t now span w
  rw [longerT, h] at this
  exact this
theorem when_yes (t : Task) (w : World) (h : whenB t = true) :
    Calls Try.prog 13 #[t.v] w fun e w' => e = .returned (.tuple #[.int .i64 (max t.after t.expiry), .bool true]) ∧ Ex w w' := by
  have := when_any t w
  rw [whenN, if_pos h, h] at this
  exact this
theorem when_no (t : Task) (w : World) (h : whenB t = false) :
    Calls Try.prog 13 #[t.v] w fun e w' => e = .returned (.tuple #[.int .i64 0, .bool false]) ∧ Ex w w' := by
  have := when_any t w
  rw [whenN, h] at this
  exact this
theorem repair_yes (t : Task) (retries : Int) (w : World) (h : repairB t retries = true) :
    Calls Try.prog 26 #[t.v, .int .i64 retries] w fun e w' => e = .returned (.tuple #[({ t with retries := retries, broken := false } : Task).v, .bool true]) ∧ Ex w w' := by
  have := repair_any t retries w
  rw [repairT, if_pos h, h] at this
  exact this
theorem repair_no (t : Task) (retries : Int) (w : World) (h : repairB t retries = false) :
    Calls Try.prog 26 #[t.v, .int .i64 retries] w fun e w' => e = .returned (.tuple #[t.v, .bool false]) ∧ Ex w w' := by
  have := repair_any t retries w
  rw [repairT, h] at this
  exact this

theorem name_w : nameB ⟨#[119]⟩ = true := by decide
theorem name_t : nameB ⟨#[116]⟩ = true := by decide
theorem name_a : nameB ⟨#[97]⟩ = true := by decide
theorem name_b : nameB ⟨#[98]⟩ = true := by decide

set_option maxHeartbeats 400000 in
theorem lfirst_any (w : World) :
    Calls Try.prog 10 #[] w fun e w' => e = .returned (.bool true) ∧ Ex w w' := by
  go_enter Try.func10, Try.ntmps10
  go_wp2_with fail
  refine (free_is ⟨_, _, _, _, _, _, _, _, _, _, _, _⟩ _ true (by decide) _).mono ?_
  rintro e w1 ⟨rfl, hb⟩; obtain ⟨g, n, rfl⟩ := hb.ext; clear hb
  go_wp2_with fail
  refine (free_is ⟨_, _, _, _, _, _, _, _, _, _, _, _⟩ _ false (by decide) _).mono ?_
  rintro e w1 ⟨rfl, hb⟩; obtain ⟨g', n', rfl⟩ := hb.ext; clear hb
  go_wp2_with fail
  go_ret
  exact ⟨rfl, (by repeat (first | exact Ex.refl _ | refine Ex.alloc ?_ _ | refine Ex.more ?_ _ _))⟩

theorem list_w : (ByteArray.mk #[119]).toList = [119] := by decide +kernel
theorem list_v : (ByteArray.mk #[118]).toList = [118] := by decide +kernel
theorem list_e : (ByteArray.mk #[]).toList = [] := by decide +kernel
theorem wrap_of {n : Int} (h : -9223372036854775808 ≤ n ∧ n ≤ 9223372036854775807) : wrap64 n = n := IntWalk.wrap64_in n h

set_option maxHeartbeats 1000000 in
theorem longerLaw_any (a b c at_ : Int) (w : World) :
    Calls Try.prog 8 #[.int .i64 a, .int .i64 b, .int .i64 c, .int .i64 at_] w fun e w' => e = .returned (.bool true) ∧ Ex w w' := by
  go_enter Try.func8, Try.ntmps8
  go_wp2_with fail
  refine (lfirst_any _).mono ?_
  rintro e w1 ⟨rfl, hb⟩; obtain ⟨g0, n0, rfl⟩ := hb.ext; clear hb
  go_wp2_with fail
  refine (number_any _ _ (by omega) (by omega) _).mono ?_
  rintro e w' ⟨A, rfl, hr, hA0, hA1, rfl⟩; clear hr
  go_wp2_with fail
  refine (number_any _ _ (by omega) (by omega) _).mono ?_
  rintro e w' ⟨B, rfl, hr, hB0, hB1, rfl⟩; clear hr
  go_wp2_with fail
  refine (number_any _ _ (by omega) (by omega) _).mono ?_
  rintro e w' ⟨C, rfl, hr, hC0, hC1, rfl⟩; clear hr
  go_wp2_with fail
  refine (number_any _ _ (by omega) (by omega) _).mono ?_
  rintro e w' ⟨D, rfl, hr, hD0, hD1, rfl⟩; clear hr
  go_wp2_with fail
  refine (take_yes ⟨_, _, _, _, _, _, _, _, _, _, _, _⟩ _ _ _ _ ?_).mono ?_
  · simp [takeB, freeB, whenB, name_w, withinB]; omega
  rintro e w1 ⟨rfl, hb⟩; obtain ⟨g1, n1, rfl⟩ := hb.ext; clear hb
  simp only [takeT, Task.v, wrap_of (n := 0 + (A + 1)) (by omega), wrap_of (n := 0 + 1) (by omega)]
  go_wp2_with fail
  refine (longer_yes ⟨_, _, _, _, _, _, _, _, _, _, _, _⟩ _ _ _ ?_).mono ?_
  · simp [longerB, withinB, list_w]; omega
  rintro e w1 ⟨rfl, hb⟩; obtain ⟨g2, n2, rfl⟩ := hb.ext; clear hb
  simp only [Task.v, wrap_of (n := B + (C + 1)) (by omega)]
  go_wp2_with fail
  refine (longer_no ⟨_, _, _, _, _, _, _, _, _, _, _, _⟩ _ _ _ (by simp [longerB, withinB])).mono ?_
  rintro e w1 ⟨rfl, hb⟩; obtain ⟨g3, n3, rfl⟩ := hb.ext; clear hb
  simp only [Task.v]
  go_wp2_with fail
  refine (leave_any ⟨_, _, _, _, _, _, _, _, _, _, _, _⟩ _).mono ?_
  rintro e w1 ⟨rfl, hb⟩; obtain ⟨g4, n4, rfl⟩ := hb.ext; clear hb
  simp only [leaveT, Task.v]
  go_wp2_with fail
  refine (longer_no ⟨_, _, _, _, _, _, _, _, _, _, _, _⟩ _ _ _ (by simp [longerB, list_e])).mono ?_
  rintro e w1 ⟨rfl, hb⟩; obtain ⟨g5, n5, rfl⟩ := hb.ext; clear hb
  simp only [Task.v]
  by_cases hx : C + 1 ≤ D
  · go_wp2_with fail
    refine (holds_is ⟨_, _, _, _, _, _, _, _, _, _, _, _⟩ _ _ _ 5 (by simp [holdsN, list_w]; omega) _).mono ?_
    rintro e w1 ⟨rfl, hb⟩; obtain ⟨g6, n6, rfl⟩ := hb.ext; clear hb
    go_wp2_with fail
    refine (check_yes ⟨_, _, _, _, _, _, _, _, _, _, _, _⟩ _ ?_).mono ?_
    · refine ⟨?_, ?_, ?_, ?_, ?_, ?_, ?_, ?_, ?_, ?_, ?_, ?_⟩ <;> first | exact name_t | (simp [withinB, heldB, list_w, name_w]; done) | (simp [withinB, heldB, list_w, name_w]; omega)
    rintro e w1 ⟨rfl, hb⟩; obtain ⟨g7, n7, rfl⟩ := hb.ext; clear hb
    go_wp2_with fail
    go_ret
    exact ⟨rfl, (by repeat (first | exact Ex.refl _ | refine Ex.alloc ?_ _ | refine Ex.more ?_ _ _))⟩
  · go_wp2_with fail
    refine (holds_is ⟨_, _, _, _, _, _, _, _, _, _, _, _⟩ _ _ _ 0 (by simp [holdsN, list_w]; omega) _).mono ?_
    rintro e w1 ⟨rfl, hb⟩; obtain ⟨g6, n6, rfl⟩ := hb.ext; clear hb
    go_wp2_with fail
    refine (check_yes ⟨_, _, _, _, _, _, _, _, _, _, _, _⟩ _ ?_).mono ?_
    · refine ⟨?_, ?_, ?_, ?_, ?_, ?_, ?_, ?_, ?_, ?_, ?_, ?_⟩ <;> first | exact name_t | (simp [withinB, heldB, list_w, name_w]; done) | (simp [withinB, heldB, list_w, name_w]; omega)
    rintro e w1 ⟨rfl, hb⟩; obtain ⟨g7, n7, rfl⟩ := hb.ext; clear hb
    go_wp2_with fail
    go_ret
    exact ⟨rfl, (by repeat (first | exact Ex.refl _ | refine Ex.alloc ?_ _ | refine Ex.more ?_ _ _))⟩
end Go.Proofs.Ytppmbfffnpindaa
