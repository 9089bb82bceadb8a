/- Contracts of functions that the laws of package lease reach; each says what a call returns, for every argument, and that old memory stays. No condition. -/
import Derived.Test.YtppmbfffnpindaaLeaseB
namespace Go.Proofs.Ytppmbfffnpindaa
open Go.RowKit
set_option linter.unusedVariables false
set_option linter.unusedSimpArgs false
attribute [local go_sem] ext_size ext_drew cell_ext_if frozen_ext_if set_ext_if
attribute [local go_sem low] cell_alloc_if frozen_alloc_if set_alloc_if

structure CheckP (t : Task) : Prop where
  id : 1 ≤ t.id
  inst : 1 ≤ t.inst
  tok : 1 ≤ t.tok
  node : 0 ≤ t.node
  topic : nameB t.topic = true
  prio : withinB t.prio 0 9 = true
  epoch : withinB t.epoch 0 60 = true
  expiry : withinB t.expiry 0 2199023255552 = true
  after : withinB t.after 0 2199023255552 = true
  retries : withinB t.retries 0 9 = true
  broken : ((t.retries == 0) == t.broken) = true
  held : heldB t = true

set_option maxHeartbeats 1000000 in
theorem check_yes (t : Task) (w : World) (h : CheckP t) :
    Calls Try.prog 18 #[t.v] w fun e w' => e = .returned (.bool true) ∧ Ex w w' := by
  obtain ⟨h0, h1, h2, h3, h4, h5, h6, h7, h8, h9, h10, h11⟩ := h
  have H4 := Lib.hid h4
  have H5 := Lib.hid h5
  have H6 := Lib.hid h6
  have H7 := Lib.hid h7
  have H8 := Lib.hid h8
  have H9 := Lib.hid h9
  have H11 := Lib.hid h11
  clear h4 h5 h6 h7 h8 h9 h11
  obtain ⟨a0, a1, a2, a3, a4, a5, a6, a7, a8, a9, a10, a11⟩ := t
  simp only [Task.v] at *
  go_enter Try.func18, Try.ntmps18
  go_wp2_with (first | (go_at_call 33; refine (name_any _ _).mono ?_; rw [H4.out]; rintro e w1 ⟨rfl, rfl⟩) | (go_at_call 34; refine (within_any _ _ _ _).mono ?_; (first | rw [H5.out] | rw [H6.out] | rw [H7.out] | rw [H8.out] | rw [H9.out]); rintro e w1 ⟨rfl, rfl⟩) | (go_at_call 35; refine (held_any ⟨_, _, _, _, _, _, _, _, _, _, _, _⟩ _).mono ?_; rw [H11.out]; rintro e w1 ⟨rfl, hb⟩; obtain ⟨g, n, rfl⟩ := hb.ext; clear hb))
  all_goals
    go_ret
    exact ⟨rfl, ((Ex.refl _).alloc _).more _ _⟩

def leaveT (t : Task) : Task := { t with worker := ⟨#[]⟩, expiry := 0 }
set_option maxHeartbeats 400000 in
theorem leave_any (t : Task) (w : World) :
    Calls Try.prog 25 #[t.v] w fun e w' => e = .returned (leaveT t).v ∧ Ex w w' := by
  obtain ⟨a0, a1, a2, a3, a4, a5, a6, a7, a8, a9, a10, a11⟩ := t
  simp only [Task.v, leaveT]
  go_enter Try.func25, Try.ntmps25
  go_wp2
  refine ⟨rfl, _, (by simp [results, Try.results25, go_sem, ↓IntWalk.iteOmega]), rfl, ?_⟩
  exact ((Ex.refl _).alloc _).alloc _

/-- lease.Longer. -/
def longerB (t : Task) (span : Int) : Bool := withinB span 1 1000 && !t.worker.toList.isEmpty
def longerT (t : Task) (now span : Int) : Task := if longerB t span then { t with expiry := wrap64 (now + span) } else t
set_option maxHeartbeats 400000 in
theorem longer_any (t : Task) (now span : Int) (w : World) :
    Calls Try.prog 27 #[t.v, .int .i64 now, .int .i64 span] w fun e w' => e = .returned (.tuple #[(longerT t now span).v, .bool (longerB t span)]) ∧ Ex w w' := by
  unfold longerT longerB
  generalize h1 : withinB span 1 1000 = b1
  have H1 := Lib.hid h1
  clear h1
  obtain ⟨a0, a1, a2, a3, a4, a5, a6, a7, a8, a9, a10, a11⟩ := t
  cases b1
  · simp only [Task.v, Bool.false_and, Bool.false_eq_true, if_false]
    go_enter Try.func27, Try.ntmps27
    go_wp2_with (go_at_call 34; refine (within_any _ _ _ _).mono ?_; rw [H1.out]; rintro e w1 ⟨rfl, rfl⟩)
    all_goals
      refine ⟨rfl, _, (by simp [results, Try.results27, go_sem, ↓IntWalk.iteOmega]), rfl, ?_⟩
      exact ((Ex.refl _).alloc _).alloc _
  · by_cases hw : a6.toList = []
    all_goals
      simp only [Task.v, hw, Bool.true_and, List.isEmpty_nil, Bool.not_true, Bool.false_eq_true, if_false]
    · go_enter Try.func27, Try.ntmps27
      go_wp2_with (go_at_call 34; refine (within_any _ _ _ _).mono ?_; rw [H1.out]; rintro e w1 ⟨rfl, rfl⟩)
      all_goals
        refine ⟨rfl, _, (by simp [results, Try.results27, go_sem, ↓IntWalk.iteOmega]), rfl, ?_⟩
        exact ((Ex.refl _).alloc _).alloc _
    · have hw2 : a6.toList.isEmpty = false := by simpa using hw
      simp only [hw2, Bool.not_false, if_true]
      go_enter Try.func27, Try.ntmps27
      go_wp2_with (go_at_call 34; refine (within_any _ _ _ _).mono ?_; rw [H1.out]; rintro e w1 ⟨rfl, rfl⟩)
      all_goals
        refine ⟨rfl, _, (by simp [results, Try.results27, go_sem, ↓IntWalk.iteOmega]), rfl, ?_⟩
        exact ((Ex.refl _).alloc _).alloc _

/-- lease.Fail. -/
def failB (retries wait : Int) : Bool := withinB retries 0 9 && withinB wait 0 1000
def failT (t : Task) (retries now wait : Int) : Task := { t with worker := ⟨#[]⟩, expiry := 0, retries := retries, after := wrap64 (now + wait), broken := retries == 0 }
set_option maxHeartbeats 400000 in
theorem fail_yes (t : Task) (retries now wait : Int) (w : World) (h : failB retries wait = true) :
    Calls Try.prog 24 #[t.v, .int .i64 retries, .int .i64 now, .int .i64 wait] w fun e w' => e = .returned (.tuple #[(failT t retries now wait).v, .bool true]) ∧ Ex w w' := by
  unfold failB at h
  simp only [Bool.and_eq_true] at h
  obtain ⟨h1, h2⟩ := h
  have H1 := Lib.hid h1
  have H2 := Lib.hid h2
  clear h1 h2
  obtain ⟨a0, a1, a2, a3, a4, a5, a6, a7, a8, a9, a10, a11⟩ := t
  simp only [Task.v, failT]
  go_enter Try.func24, Try.ntmps24
  go_wp2_with (first | (go_at_call 34; refine (within_any _ _ _ _).mono ?_; (first | rw [H1.out] | rw [H2.out]); rintro e w1 ⟨rfl, rfl⟩) | (go_at_call 25; refine (leave_any ⟨_, _, _, _, _, _, _, _, _, _, _, _⟩ _).mono ?_; rintro e w1 ⟨rfl, hb⟩; obtain ⟨g, n, rfl⟩ := hb.ext; clear hb; simp only [leaveT, Task.v]))
  refine ⟨rfl, _, (by simp [results, Try.results24, go_sem, ↓IntWalk.iteOmega]), rfl, ?_⟩
  exact (((Ex.refl _).alloc _).alloc _).more _ _

set_option maxHeartbeats 400000 in
theorem fail_no (t : Task) (retries now wait : Int) (w : World) (h : failB retries wait = false) :
    Calls Try.prog 24 #[t.v, .int .i64 retries, .int .i64 now, .int .i64 wait] w fun e w' => e = .returned (.tuple #[t.v, .bool false]) ∧ Ex w w' := by
  have h' : withinB retries 0 9 = false ∨ withinB retries 0 9 = true ∧ withinB wait 0 1000 = false := by
    unfold failB at h
    cases h1 : withinB retries 0 9 <;> simp [h1] at h ⊢
    exact h
  clear h
  obtain ⟨a0, a1, a2, a3, a4, a5, a6, a7, a8, a9, a10, a11⟩ := t
  simp only [Task.v]
  rcases h' with h1 | ⟨h1, h2⟩
  all_goals
    have H1 := Lib.hid h1
    clear h1
    try (have H2 := Lib.hid h2; clear h2)
    go_enter Try.func24, Try.ntmps24
    go_wp2_with (go_at_call 34; refine (within_any _ _ _ _).mono ?_; (first | rw [H1.out] | rw [H2.out]); rintro e w1 ⟨rfl, rfl⟩)
    refine ⟨rfl, _, (by simp [results, Try.results24, go_sem, ↓IntWalk.iteOmega]), rfl, ?_⟩
    exact ((Ex.refl _).alloc _).alloc _

/-- lease.Repair. -/
def repairB (t : Task) (retries : Int) : Bool := t.broken && withinB retries 1 9
def repairT (t : Task) (retries : Int) : Task := if repairB t retries then { t with retries := retries, broken := false } else t
set_option maxHeartbeats 400000 in
theorem repair_any (t : Task) (retries : Int) (w : World) :
    Calls Try.prog 26 #[t.v, .int .i64 retries] w fun e w' => e = .returned (.tuple #[(repairT t retries).v, .bool (repairB t retries)]) ∧ Ex w w' := by
  unfold repairT repairB
  generalize h1 : withinB retries 1 9 = b1
  have H1 := Lib.hid h1
  clear h1
  obtain ⟨a0, a1, a2, a3, a4, a5, a6, a7, a8, a9, a10, a11⟩ := t
  cases b1 <;> cases a11
  all_goals
    simp only [Task.v, Bool.and_false, Bool.and_true, Bool.false_eq_true, if_false, if_true]
    go_enter Try.func26, Try.ntmps26
    go_wp2_with (go_at_call 34; refine (within_any _ _ _ _).mono ?_; rw [H1.out]; rintro e w1 ⟨rfl, rfl⟩)
    refine ⟨rfl, _, (by simp [results, Try.results26, go_sem, ↓IntWalk.iteOmega]), rfl, ?_⟩
    exact ((Ex.refl _).alloc _).alloc _
end Go.Proofs.Ytppmbfffnpindaa
