/- Contracts of functions that the laws of package lease reach; each says what a call returns, for every argument, and that old memory stays. No condition. -/
import Derived.Test.YtppmbfffnpindaaLease
namespace Go.Proofs.Ytppmbfffnpindaa
open Go.RowKit
set_option linter.unusedVariables false
set_option linter.unusedSimpArgs false
attribute [local go_sem] ext_size ext_drew cell_ext_if frozen_ext_if set_ext_if
attribute [local go_sem low] cell_alloc_if frozen_alloc_if set_alloc_if

/-- lease.Holds. -/
def holdsN (t : Task) (s : ByteArray) (epoch now : Int) : Int :=
  if t.worker.toList = [] ∨ t.worker.toList ≠ s.toList ∨ t.epoch ≠ epoch then 4 else if t.expiry ≤ now then 5 else 0
set_option maxHeartbeats 400000 in
theorem holds_any (t : Task) (s : ByteArray) (epoch now : Int) (w : World) :
    Calls Try.prog 17 #[t.v, .string s, .int .i64 epoch, .int .i64 now] w fun e w' => e = .returned (.int .i64 (holdsN t s epoch now)) ∧ Ex w w' := by
  obtain ⟨a0, a1, a2, a3, a4, a5, a6, a7, a8, a9, a10, a11⟩ := t
  simp only [Task.v]
  go_enter Try.func17, Try.ntmps17
  go_wp2
  all_goals
    go_ret
    refine ⟨ri ?_, (Ex.refl _).alloc _⟩
    simp_all [holdsN] <;> omega

/-- lease.held. -/
def heldB (t : Task) : Bool := if t.worker.toList = [] then t.expiry == 0 else nameB t.worker && decide (0 < t.expiry) && decide (0 < t.epoch)
set_option maxHeartbeats 400000 in
theorem held_any (t : Task) (w : World) :
    Calls Try.prog 35 #[t.v] w fun e w' => e = .returned (.bool (heldB t)) ∧ Ex w w' := by
  unfold heldB
  generalize h2 : nameB t.worker = b2
  have H2 := Lib.hid h2
  clear h2
  obtain ⟨a0, a1, a2, a3, a4, a5, a6, a7, a8, a9, a10, a11⟩ := t
  simp only [Task.v]
  go_enter Try.func35, Try.ntmps35
  go_wp2_with (go_at_call 33; refine (name_any _ _).mono ?_; rw [H2.out]; rintro e w1 ⟨rfl, rfl⟩)
  all_goals
    go_ret
    refine ⟨rb ?_, (Ex.refl _).alloc _⟩
    simp_all <;> omega
end Go.Proofs.Ytppmbfffnpindaa
