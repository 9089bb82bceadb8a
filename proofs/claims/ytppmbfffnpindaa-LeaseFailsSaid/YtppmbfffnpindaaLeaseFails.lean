/- The walk of the law LeaseFails: for every input the call returns true. No condition. -/
import Derived.Test.YtppmbfffnpindaaLeaseE
namespace Go.Proofs.Ytppmbfffnpindaa
open Go.RowKit
set_option linter.unusedVariables false
set_option linter.unusedSimpArgs false
attribute [local go_sem] ext_size ext_drew cell_ext_if frozen_ext_if set_ext_if
attribute [local go_sem low] cell_alloc_if frozen_alloc_if set_alloc_if

set_option maxRecDepth 100000 in
set_option maxHeartbeats 4000000 in
theorem failsLaw_any (n m now wait later retries : Int) (w : World) :
    Calls Try.prog 7 #[.int .i64 n, .int .i64 m, .int .i64 now, .int .i64 wait, .int .i64 later, .int .i64 retries] w fun e w' => e = .returned (.bool true) ∧ Ex w w' := by
  go_enter Try.func7, Try.ntmps7
  go_wp2_with fail
  refine (lfirst_any _).mono ?_
  rintro e w1 ⟨rfl, hb⟩; obtain ⟨g1, n1, rfl⟩ := hb.ext; clear hb
  go_wp2_with fail
  refine (number_any _ _ (by omega) (by omega) _).mono ?_
  rintro e w' ⟨N, rfl, hr, hN0, hN1, rfl⟩; clear hr
  go_wp2_with fail
  refine (number_any _ _ (by omega) (by omega) _).mono ?_
  rintro e w' ⟨S, rfl, hr, hS0, hS1, rfl⟩; clear hr
  go_wp2_with fail
  refine (number_any _ _ (by omega) (by omega) _).mono ?_
  rintro e w' ⟨L, rfl, hr, hL0, hL1, rfl⟩; clear hr
  go_wp2_with fail
  refine (number_any _ _ (by omega) (by omega) _).mono ?_
  rintro e w' ⟨R, rfl, hr, hR0, hR1, rfl⟩; clear hr
  go_wp2_with fail
  refine (made_any _ _ _ _ (by omega) (by omega)).mono ?_
  rintro e w1 ⟨⟨a0, a1, a2, a3, a4, a5, a6, a7, a8, a9, a10, a11⟩, rfl, ⟨e0, e1, e2, e3, e4, hp, he, hx, hf, hr, hbr, hw⟩, hb⟩; obtain ⟨g20, n20, rfl⟩ := hb.ext; clear hb
  simp only at e0 e1 e2 e3 e4 hp he hx hf hr hbr hw
  subst e0 e1 e2 e3 e4
  have Hbr := Lib.hid hbr; clear hbr
  have Hw := Lib.hid hw; clear hw
  simp only [Task.v]
  go_wp2_with fail
  by_cases hfree : freeB ⟨3, 1, 2, 1, ⟨#[116]⟩, a5, a6, a7, a8, a9, a10, a11⟩ N = true
  · have hf2 := hfree
    simp [freeB, whenB] at hf2
    obtain ⟨⟨f1, f2⟩, f3⟩ := hf2
    have F1 := Lib.hid f1; clear f1
    have f4 : a9 ≤ N := by omega
    have f5 : a8 ≤ N := by omega
    clear f3
    have Hfree := Lib.hid hfree; clear hfree
    have hret : 1 ≤ a10 := by have := Hbr.out; rw [F1.out] at this; simp at this; omega
    refine (take_yes ⟨_, _, _, _, _, _, _, _, _, _, _, _⟩ _ _ _ _ ?_).mono ?_
    · simp [takeB, Hfree.out, name_w, withinB]
    rintro e w1 ⟨rfl, hb⟩; obtain ⟨g2, n2, rfl⟩ := hb.ext; clear hb
    simp only [takeT, Task.v, wrap_of (n := N + 50) (by omega), wrap_of (n := a7 + 1) (by omega)]
    go_wp2_with fail
    refine (fail_yes ⟨_, _, _, _, _, _, _, _, _, _, _, _⟩ _ _ _ _ ?_).mono ?_
    · simp [failB, withinB]; omega
    rintro e w1 ⟨rfl, hb⟩; obtain ⟨g3, n3, rfl⟩ := hb.ext; clear hb
    simp only [failT, Task.v, wrap_of (n := N + S) (by omega)]
    go_wp2_with fail
    refine (leave_any ⟨_, _, _, _, _, _, _, _, _, _, _, _⟩ _).mono ?_
    rintro e w1 ⟨rfl, hb⟩; obtain ⟨g4, n4, rfl⟩ := hb.ext; clear hb
    simp only [leaveT, Task.v]
    go_wp2_with fail
    by_cases hR : R = 0
    · subst hR
      have hR2 : ((0 : Int) == 0) = true := rfl
      by_cases he2 : a7 + 1 < 60
      · by_cases hl : S ≤ L
        · refine (repair_yes ⟨_, _, _, _, _, _, _, _, _, _, _, _⟩ _ _ ?_).mono ?_
          · simp [repairB, withinB]
          rintro e w1 ⟨rfl, hb⟩; obtain ⟨g5, n5, rfl⟩ := hb.ext; clear hb
          simp only [Task.v]
          go_wp2_with fail
          refine (check_yes ⟨_, _, _, _, _, _, _, _, _, _, _, _⟩ _ ?_).mono ?_
          · refine ⟨?_, ?_, ?_, ?_, ?_, ?_, ?_, ?_, ?_, ?_, ?_, ?_⟩ <;> first | exact name_t | (simp [withinB, heldB, list_e, name_w, F1.out]; done) | (simp [withinB, heldB, list_e, name_w, F1.out]; omega)
          rintro e w1 ⟨rfl, hb⟩; obtain ⟨g6, n6, rfl⟩ := hb.ext; clear hb
          go_wp2_with fail
          refine (free_is ⟨_, _, _, _, _, _, _, _, _, _, _, _⟩ _ false ?_ _).mono ?_
          · simp [freeB, whenB, F1.out, hR2]
          rintro e w1 ⟨rfl, hb⟩; obtain ⟨g7, n7, rfl⟩ := hb.ext; clear hb
          go_wp2_with fail
          refine (free_is ⟨_, _, _, _, _, _, _, _, _, _, _, _⟩ _ true ?_ _).mono ?_
          · simp [freeB, whenB, F1.out]; omega
          rintro e w1 ⟨rfl, hb⟩; obtain ⟨g8, n8, rfl⟩ := hb.ext; clear hb
          go_wp2_with fail
          refine (free_is ⟨_, _, _, _, _, _, _, _, _, _, _, _⟩ _ true ?_ _).mono ?_
          · simp [freeB, whenB, F1.out]; omega
          rintro e w1 ⟨rfl, hb⟩; obtain ⟨g9, n9, rfl⟩ := hb.ext; clear hb
          go_wp2_with fail
          go_ret
          exact ⟨rb (by first | rfl | (simp; done) | (simp; omega)), (by repeat (first | exact Ex.refl _ | refine Ex.alloc ?_ _ | refine Ex.more ?_ _ _))⟩
        · refine (repair_yes ⟨_, _, _, _, _, _, _, _, _, _, _, _⟩ _ _ ?_).mono ?_
          · simp [repairB, withinB]
          rintro e w1 ⟨rfl, hb⟩; obtain ⟨g10, n10, rfl⟩ := hb.ext; clear hb
          simp only [Task.v]
          go_wp2_with fail
          refine (check_yes ⟨_, _, _, _, _, _, _, _, _, _, _, _⟩ _ ?_).mono ?_
          · refine ⟨?_, ?_, ?_, ?_, ?_, ?_, ?_, ?_, ?_, ?_, ?_, ?_⟩ <;> first | exact name_t | (simp [withinB, heldB, list_e, name_w, F1.out]; done) | (simp [withinB, heldB, list_e, name_w, F1.out]; omega)
          rintro e w1 ⟨rfl, hb⟩; obtain ⟨g11, n11, rfl⟩ := hb.ext; clear hb
          go_wp2_with fail
          refine (free_is ⟨_, _, _, _, _, _, _, _, _, _, _, _⟩ _ false ?_ _).mono ?_
          · simp [freeB, whenB, F1.out, hR2]
          rintro e w1 ⟨rfl, hb⟩; obtain ⟨g12, n12, rfl⟩ := hb.ext; clear hb
          go_wp2_with fail
          refine (free_is ⟨_, _, _, _, _, _, _, _, _, _, _, _⟩ _ true ?_ _).mono ?_
          · simp [freeB, whenB, F1.out]; omega
          rintro e w1 ⟨rfl, hb⟩; obtain ⟨g13, n13, rfl⟩ := hb.ext; clear hb
          go_wp2_with fail
          refine (free_is ⟨_, _, _, _, _, _, _, _, _, _, _, _⟩ _ false ?_ _).mono ?_
          · simp [freeB, whenB, F1.out]; omega
          rintro e w1 ⟨rfl, hb⟩; obtain ⟨g14, n14, rfl⟩ := hb.ext; clear hb
          go_wp2_with fail
          go_ret
          exact ⟨rb (by first | rfl | (simp; done) | (simp; omega)), (by repeat (first | exact Ex.refl _ | refine Ex.alloc ?_ _ | refine Ex.more ?_ _ _))⟩
      · by_cases hl : S ≤ L
        · refine (repair_yes ⟨_, _, _, _, _, _, _, _, _, _, _, _⟩ _ _ ?_).mono ?_
          · simp [repairB, withinB]
          rintro e w1 ⟨rfl, hb⟩; obtain ⟨g15, n15, rfl⟩ := hb.ext; clear hb
          simp only [Task.v]
          go_wp2_with fail
          refine (check_yes ⟨_, _, _, _, _, _, _, _, _, _, _, _⟩ _ ?_).mono ?_
          · refine ⟨?_, ?_, ?_, ?_, ?_, ?_, ?_, ?_, ?_, ?_, ?_, ?_⟩ <;> first | exact name_t | (simp [withinB, heldB, list_e, name_w, F1.out]; done) | (simp [withinB, heldB, list_e, name_w, F1.out]; omega)
          rintro e w1 ⟨rfl, hb⟩; obtain ⟨g16, n16, rfl⟩ := hb.ext; clear hb
          go_wp2_with fail
          refine (free_is ⟨_, _, _, _, _, _, _, _, _, _, _, _⟩ _ false ?_ _).mono ?_
          · simp [freeB, whenB, F1.out, hR2]
          rintro e w1 ⟨rfl, hb⟩; obtain ⟨g17, n17, rfl⟩ := hb.ext; clear hb
          go_wp2_with fail
          refine (free_is ⟨_, _, _, _, _, _, _, _, _, _, _, _⟩ _ false ?_ _).mono ?_
          · simp [freeB, whenB, F1.out]; omega
          rintro e w1 ⟨rfl, hb⟩; obtain ⟨g18, n18, rfl⟩ := hb.ext; clear hb
          go_wp2_with fail
          refine (free_is ⟨_, _, _, _, _, _, _, _, _, _, _, _⟩ _ false ?_ _).mono ?_
          · simp [freeB, whenB, F1.out]; omega
          rintro e w1 ⟨rfl, hb⟩; obtain ⟨g19, n19, rfl⟩ := hb.ext; clear hb
          go_wp2_with fail
          go_ret
          exact ⟨rb (by first | rfl | (simp; done) | (simp; omega)), (by repeat (first | exact Ex.refl _ | refine Ex.alloc ?_ _ | refine Ex.more ?_ _ _))⟩
        · refine (repair_yes ⟨_, _, _, _, _, _, _, _, _, _, _, _⟩ _ _ ?_).mono ?_
          · simp [repairB, withinB]
          rintro e w1 ⟨rfl, hb⟩; obtain ⟨g20, n20, rfl⟩ := hb.ext; clear hb
          simp only [Task.v]
          go_wp2_with fail
          refine (check_yes ⟨_, _, _, _, _, _, _, _, _, _, _, _⟩ _ ?_).mono ?_
          · refine ⟨?_, ?_, ?_, ?_, ?_, ?_, ?_, ?_, ?_, ?_, ?_, ?_⟩ <;> first | exact name_t | (simp [withinB, heldB, list_e, name_w, F1.out]; done) | (simp [withinB, heldB, list_e, name_w, F1.out]; omega)
          rintro e w1 ⟨rfl, hb⟩; obtain ⟨g21, n21, rfl⟩ := hb.ext; clear hb
          go_wp2_with fail
          refine (free_is ⟨_, _, _, _, _, _, _, _, _, _, _, _⟩ _ false ?_ _).mono ?_
          · simp [freeB, whenB, F1.out, hR2]
          rintro e w1 ⟨rfl, hb⟩; obtain ⟨g22, n22, rfl⟩ := hb.ext; clear hb
          go_wp2_with fail
          refine (free_is ⟨_, _, _, _, _, _, _, _, _, _, _, _⟩ _ false ?_ _).mono ?_
          · simp [freeB, whenB, F1.out]; omega
          rintro e w1 ⟨rfl, hb⟩; obtain ⟨g23, n23, rfl⟩ := hb.ext; clear hb
          go_wp2_with fail
          refine (free_is ⟨_, _, _, _, _, _, _, _, _, _, _, _⟩ _ false ?_ _).mono ?_
          · simp [freeB, whenB, F1.out]; omega
          rintro e w1 ⟨rfl, hb⟩; obtain ⟨g24, n24, rfl⟩ := hb.ext; clear hb
          go_wp2_with fail
          go_ret
          exact ⟨rb (by first | rfl | (simp; done) | (simp; omega)), (by repeat (first | exact Ex.refl _ | refine Ex.alloc ?_ _ | refine Ex.more ?_ _ _))⟩
    · have hR1 : 1 ≤ R := by omega
      have hR2 : (R == 0) = false := by simpa using hR
      by_cases he2 : a7 + 1 < 60
      · by_cases hl : S ≤ L
        · refine (repair_no ⟨_, _, _, _, _, _, _, _, _, _, _, _⟩ _ _ ?_).mono ?_
          · simp [repairB, F1.out, hR2]
          rintro e w1 ⟨rfl, hb⟩; obtain ⟨g25, n25, rfl⟩ := hb.ext; clear hb
          simp only [Task.v]
          go_wp2_with fail
          refine (check_yes ⟨_, _, _, _, _, _, _, _, _, _, _, _⟩ _ ?_).mono ?_
          · refine ⟨?_, ?_, ?_, ?_, ?_, ?_, ?_, ?_, ?_, ?_, ?_, ?_⟩ <;> first | exact name_t | (simp [withinB, heldB, list_e, name_w, F1.out]; done) | (simp [withinB, heldB, list_e, name_w, F1.out]; omega)
          rintro e w1 ⟨rfl, hb⟩; obtain ⟨g26, n26, rfl⟩ := hb.ext; clear hb
          go_wp2_with fail
          refine (free_is ⟨_, _, _, _, _, _, _, _, _, _, _, _⟩ _ true ?_ _).mono ?_
          · simp [freeB, whenB, F1.out, hR2]; omega
          rintro e w1 ⟨rfl, hb⟩; obtain ⟨g27, n27, rfl⟩ := hb.ext; clear hb
          go_wp2_with fail
          refine (free_is ⟨_, _, _, _, _, _, _, _, _, _, _, _⟩ _ true ?_ _).mono ?_
          · simp [freeB, whenB, F1.out]; omega
          rintro e w1 ⟨rfl, hb⟩; obtain ⟨g28, n28, rfl⟩ := hb.ext; clear hb
          go_wp2_with fail
          go_ret
          exact ⟨rb (by first | rfl | (simp; done) | (simp; omega)), (by repeat (first | exact Ex.refl _ | refine Ex.alloc ?_ _ | refine Ex.more ?_ _ _))⟩
        · refine (repair_no ⟨_, _, _, _, _, _, _, _, _, _, _, _⟩ _ _ ?_).mono ?_
          · simp [repairB, F1.out, hR2]
          rintro e w1 ⟨rfl, hb⟩; obtain ⟨g29, n29, rfl⟩ := hb.ext; clear hb
          simp only [Task.v]
          go_wp2_with fail
          refine (check_yes ⟨_, _, _, _, _, _, _, _, _, _, _, _⟩ _ ?_).mono ?_
          · refine ⟨?_, ?_, ?_, ?_, ?_, ?_, ?_, ?_, ?_, ?_, ?_, ?_⟩ <;> first | exact name_t | (simp [withinB, heldB, list_e, name_w, F1.out]; done) | (simp [withinB, heldB, list_e, name_w, F1.out]; omega)
          rintro e w1 ⟨rfl, hb⟩; obtain ⟨g30, n30, rfl⟩ := hb.ext; clear hb
          go_wp2_with fail
          refine (free_is ⟨_, _, _, _, _, _, _, _, _, _, _, _⟩ _ false ?_ _).mono ?_
          · simp [freeB, whenB, F1.out, hR2]; omega
          rintro e w1 ⟨rfl, hb⟩; obtain ⟨g31, n31, rfl⟩ := hb.ext; clear hb
          go_wp2_with fail
          refine (free_is ⟨_, _, _, _, _, _, _, _, _, _, _, _⟩ _ true ?_ _).mono ?_
          · simp [freeB, whenB, F1.out]; omega
          rintro e w1 ⟨rfl, hb⟩; obtain ⟨g32, n32, rfl⟩ := hb.ext; clear hb
          go_wp2_with fail
          go_ret
          exact ⟨rb (by first | rfl | (simp; done) | (simp; omega)), (by repeat (first | exact Ex.refl _ | refine Ex.alloc ?_ _ | refine Ex.more ?_ _ _))⟩
      · by_cases hl : S ≤ L
        · refine (repair_no ⟨_, _, _, _, _, _, _, _, _, _, _, _⟩ _ _ ?_).mono ?_
          · simp [repairB, F1.out, hR2]
          rintro e w1 ⟨rfl, hb⟩; obtain ⟨g33, n33, rfl⟩ := hb.ext; clear hb
          simp only [Task.v]
          go_wp2_with fail
          refine (check_yes ⟨_, _, _, _, _, _, _, _, _, _, _, _⟩ _ ?_).mono ?_
          · refine ⟨?_, ?_, ?_, ?_, ?_, ?_, ?_, ?_, ?_, ?_, ?_, ?_⟩ <;> first | exact name_t | (simp [withinB, heldB, list_e, name_w, F1.out]; done) | (simp [withinB, heldB, list_e, name_w, F1.out]; omega)
          rintro e w1 ⟨rfl, hb⟩; obtain ⟨g34, n34, rfl⟩ := hb.ext; clear hb
          go_wp2_with fail
          refine (free_is ⟨_, _, _, _, _, _, _, _, _, _, _, _⟩ _ false ?_ _).mono ?_
          · simp [freeB, whenB, F1.out, hR2]; omega
          rintro e w1 ⟨rfl, hb⟩; obtain ⟨g35, n35, rfl⟩ := hb.ext; clear hb
          go_wp2_with fail
          refine (free_is ⟨_, _, _, _, _, _, _, _, _, _, _, _⟩ _ false ?_ _).mono ?_
          · simp [freeB, whenB, F1.out]; omega
          rintro e w1 ⟨rfl, hb⟩; obtain ⟨g36, n36, rfl⟩ := hb.ext; clear hb
          go_wp2_with fail
          go_ret
          exact ⟨rb (by first | rfl | (simp; done) | (simp; omega)), (by repeat (first | exact Ex.refl _ | refine Ex.alloc ?_ _ | refine Ex.more ?_ _ _))⟩
        · refine (repair_no ⟨_, _, _, _, _, _, _, _, _, _, _, _⟩ _ _ ?_).mono ?_
          · simp [repairB, F1.out, hR2]
          rintro e w1 ⟨rfl, hb⟩; obtain ⟨g37, n37, rfl⟩ := hb.ext; clear hb
          simp only [Task.v]
          go_wp2_with fail
          refine (check_yes ⟨_, _, _, _, _, _, _, _, _, _, _, _⟩ _ ?_).mono ?_
          · refine ⟨?_, ?_, ?_, ?_, ?_, ?_, ?_, ?_, ?_, ?_, ?_, ?_⟩ <;> first | exact name_t | (simp [withinB, heldB, list_e, name_w, F1.out]; done) | (simp [withinB, heldB, list_e, name_w, F1.out]; omega)
          rintro e w1 ⟨rfl, hb⟩; obtain ⟨g38, n38, rfl⟩ := hb.ext; clear hb
          go_wp2_with fail
          refine (free_is ⟨_, _, _, _, _, _, _, _, _, _, _, _⟩ _ false ?_ _).mono ?_
          · simp [freeB, whenB, F1.out, hR2]; omega
          rintro e w1 ⟨rfl, hb⟩; obtain ⟨g39, n39, rfl⟩ := hb.ext; clear hb
          go_wp2_with fail
          refine (free_is ⟨_, _, _, _, _, _, _, _, _, _, _, _⟩ _ false ?_ _).mono ?_
          · simp [freeB, whenB, F1.out]; omega
          rintro e w1 ⟨rfl, hb⟩; obtain ⟨g40, n40, rfl⟩ := hb.ext; clear hb
          go_wp2_with fail
          go_ret
          exact ⟨rb (by first | rfl | (simp; done) | (simp; omega)), (by repeat (first | exact Ex.refl _ | refine Ex.alloc ?_ _ | refine Ex.more ?_ _ _))⟩
  · have hfree' : freeB ⟨3, 1, 2, 1, ⟨#[116]⟩, a5, a6, a7, a8, a9, a10, a11⟩ N = false := by simpa using hfree
    have Hfree := Lib.hid hfree'; clear hfree hfree'
    refine (take_no ⟨_, _, _, _, _, _, _, _, _, _, _, _⟩ _ _ _ _ ?_).mono ?_
    · simp [takeB, Hfree.out]
    rintro e w1 ⟨rfl, hb⟩; obtain ⟨g41, n41, rfl⟩ := hb.ext; clear hb
    simp only [Task.v]
    go_wp2_with fail
    go_ret
    exact ⟨rfl, (by repeat (first | exact Ex.refl _ | refine Ex.alloc ?_ _ | refine Ex.more ?_ _ _))⟩
end Go.Proofs.Ytppmbfffnpindaa
