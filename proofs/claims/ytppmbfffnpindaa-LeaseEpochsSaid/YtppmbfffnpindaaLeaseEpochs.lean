/- The walk of the law LeaseEpochs: for every input the call returns true. No condition. -/
import Derived.Test.YtppmbfffnpindaaLeaseE
namespace Go.Proofs.Ytppmbfffnpindaa
open Go.RowKit
set_option linter.unusedVariables false
set_option linter.unusedSimpArgs false
attribute [local go_sem] ext_size ext_drew cell_ext_if frozen_ext_if set_ext_if
attribute [local go_sem low] cell_alloc_if frozen_alloc_if set_alloc_if

set_option maxRecDepth 100000 in
set_option maxHeartbeats 1000000 in
theorem epochsLaw_any (fr span : Int) (w : World) :
    Calls Try.prog 3 #[.int .i64 fr, .int .i64 span] w fun e w' => e = .returned (.bool true) ∧ Ex w w' := by
  go_enter Try.func3, Try.ntmps3
  go_wp2_with fail
  refine (lfirst_any _).mono ?_
  rintro e w1 ⟨rfl, hb⟩; obtain ⟨g0, n0, rfl⟩ := hb.ext; clear hb
  go_wp2_with fail
  refine (number_any _ _ (by omega) (by omega) _).mono ?_
  rintro e w' ⟨F, rfl, hr, hF0, hF1, rfl⟩; clear hr
  go_wp2_with fail
  refine (number_any _ _ (by omega) (by omega) _).mono ?_
  rintro e w' ⟨S, rfl, hr, hS0, hS1, rfl⟩; clear hr
  go_wp2_with fail
  go_loopw [7, 8] (fun x i wr => ∃ (k X E : Int) (Wk : ByteArray), x = .int .i64 X ∧ i = .int .i64 k ∧ 0 ≤ k ∧ k ≤ 60 ∧ 0 ≤ X ∧ X ≤ 50 * k ∧ 0 ≤ E ∧ E ≤ X ∧ Ex ((w.ext g0 n0).alloc (.cells #[.int .i64 1, .int .i64 1, .int .i64 1, .int .i64 0, .string ⟨#[116]⟩, .int .i64 0, .string Wk, .int .i64 k, .int .i64 E, .int .i64 0, .int .i64 1, .bool false] 25)) wr) (fun _ i _ => 62 - (intOf i).toNat)
  case atStart => exact ⟨F, 0, 0, ⟨#[]⟩, rfl, rfl, by omega, by omega, by omega, by omega, by omega, by omega, Ex.refl _⟩
  case round =>
    obtain ⟨k, X, E, Wk, rfl, rfl, hk0, hk1, hX0, hX1, hE0, hE1, hex⟩ := hrel
    obtain ⟨g1, n1, rfl⟩ := hex.ext
    clear hex
    by_cases hk : k < 60
    · go_wp2_with fail
      refine (take_yes ⟨_, _, _, _, _, _, _, _, _, _, _, _⟩ _ _ _ _ ?_).mono ?_
      · simp [takeB, freeB, whenB, name_w, withinB]; omega
      rintro e w1 ⟨rfl, hb⟩; obtain ⟨g2, n2, rfl⟩ := hb.ext; clear hb
      simp only [takeT, Task.v, wrap_of (n := X + (S + 1)) (by omega), wrap_of (n := k + 1) (by omega)]
      go_wp2_with fail
      refine (free_is ⟨_, _, _, _, _, _, _, _, _, _, _, _⟩ _ false ?_ _).mono ?_
      · simp [freeB, whenB]; omega
      rintro e w1 ⟨rfl, hb⟩; obtain ⟨g3, n3, rfl⟩ := hb.ext; clear hb
      go_wp2_with fail
      go_roundw
      case rel => exact ⟨k + 1, X + (S + 1), X + (S + 1), _, rfl, rfl, by omega, by omega, by omega, by omega, by omega, by omega, (by repeat (first | exact Ex.refl _ | refine Ex.alloc ?_ _ | refine Ex.more ?_ _ _))⟩
      case measure => simp [intOf]; omega
    · obtain rfl : k = 60 := by omega
      go_wp2_with fail
      refine (take_no ⟨_, _, _, _, _, _, _, _, _, _, _, _⟩ _ _ _ _ ?_).mono ?_
      · simp [takeB, freeB, whenB]
      rintro e w1 ⟨rfl, hb⟩; obtain ⟨g2, n2, rfl⟩ := hb.ext; clear hb
      simp only [Task.v]
      go_wp2_with fail
      refine (when_no ⟨_, _, _, _, _, _, _, _, _, _, _, _⟩ _ (by simp [whenB])).mono ?_
      rintro e w1 ⟨rfl, hb⟩; obtain ⟨g3, n3, rfl⟩ := hb.ext; clear hb
      go_wp2_with fail
      refine (sameTask_self ⟨_, _, _, _, _, _, _, _, _, _, _, _⟩ _).mono ?_
      rintro e w1 ⟨rfl, hb⟩; obtain ⟨g4, n4, rfl⟩ := hb.ext; clear hb
      go_wp2_with fail
      refine (free_is ⟨_, _, _, _, _, _, _, _, _, _, _, _⟩ _ false ?_ _).mono ?_
      · simp [freeB, whenB]
      rintro e w1 ⟨rfl, hb⟩; obtain ⟨g5, n5, rfl⟩ := hb.ext; clear hb
      go_wp2_with fail
      go_ret
      exact ⟨rfl, (by repeat (first | exact Ex.refl _ | refine Ex.alloc ?_ _ | refine Ex.more ?_ _ _))⟩
end Go.Proofs.Ytppmbfffnpindaa
