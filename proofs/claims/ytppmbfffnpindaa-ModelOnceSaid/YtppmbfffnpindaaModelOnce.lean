/- The walk of the law ModelOnce: for every list of deeds and of times the call returns true. No condition. -/
import Derived.Test.YtppmbfffnpindaaModelF
namespace Go.Proofs.Ytppmbfffnpindaa
open Go.RowKit
set_option linter.unusedVariables false
set_option linter.unusedSimpArgs false
attribute [local go_sem] ext_size ext_drew cell_ext_if frozen_ext_if set_ext_if
attribute [local go_sem low] cell_alloc_if frozen_alloc_if set_alloc_if

def OnceC (kind epoch : Int) (worker : ByteArray) (now : Int) (there gone is after lost : Bool) (wk : ByteArray) (ep un : Int) (held : Bool) (v : ByteArray) (nx : Int) : Prop :=
  (is = false ∧ after = there ∧ lost = gone ∧ (there = false ∧ gone = false ∨ there = true ∧ gone = false ∨ there = false ∧ gone = true)) ∨
  (is = true ∧ gone = false ∧ there = false ∧ kind = 1) ∨
  (is = true ∧ gone = false ∧ kind = 2 ∧ v = worker ∧ nx = epoch ∧ (held = false ∨ held = true ∧ epoch = wrap64 (ep + 1) ∧ un ≤ now)) ∨
  (is = true ∧ gone = false ∧ (kind = 3 ∨ kind = 4 ∨ kind = 5) ∧ held = true ∧ wk.toList = worker.toList ∧ ep = epoch ∧ now < un) ∨
  (is = true ∧ gone = false ∧ kind = 7 ∧ held = true ∧ wk.toList = worker.toList ∧ ep = epoch ∧ now < un ∧ lost = true) ∨
  (is = true ∧ gone = false ∧ (kind = 6 ∨ kind = 8))

def holderT (L : MS) (k : Int) : ByteArray × Int × Int × Bool := match mget L k with
  | none => (⟨#[]⟩, 0, 0, false)
  | some t => if t.held then (t.worker, t.epoch, t.until_, true) else (⟨#[]⟩, 0, 0, false)
theorem holderV_eq (L : MS) (k : Int) : holderV L k = .tuple #[.string (holderT L k).1, .int .i64 (holderT L k).2.1, .int .i64 (holderT L k).2.2.1, .bool (holderT L k).2.2.2] := by
  unfold holderV holderT
  cases mget L k with
  | none => rfl
  | some t => simp only; split <;> rfl

theorem next_c (t : MTask) (now : Int) (d : Deed) (hn : (nextF t now d).2 = true) :
    (d.kind = 2 ∧ (nextF t now d).1 = ⟨false, true, d.worker, d.epoch, d.until_⟩ ∧ (t.held = false ∨ t.held = true ∧ d.epoch = wrap64 (t.epoch + 1) ∧ t.until_ ≤ now)) ∨
    ((d.kind = 3 ∨ d.kind = 4 ∨ d.kind = 5) ∧ t.held = true ∧ t.worker.toList = d.worker.toList ∧ t.epoch = d.epoch ∧ now < t.until_) ∨
    (d.kind = 7 ∧ t.held = true ∧ t.worker.toList = d.worker.toList ∧ t.epoch = d.epoch ∧ now < t.until_ ∧ (nextF t now d).1.gone = true) ∨
    (d.kind = 6 ∨ d.kind = 8) := by
  unfold nextF at hn ⊢
  by_cases k2 : d.kind = 2
  · left
    rw [if_pos k2] at hn ⊢
    unfold takenF at hn ⊢
    split at hn
    · cases hn
    · rename_i hc
      rw [if_neg hc]
      simp only [not_or, not_and, Int.not_lt] at hc
      obtain ⟨c1, c2, c3, c4⟩ := hc
      refine ⟨k2, rfl, ?_⟩
      cases hh3 : t.held
      · left; rfl
      · right; exact ⟨rfl, by simpa using c3, c1 hh3⟩
  · rw [if_neg k2] at hn ⊢
    by_cases k3 : d.kind = 3 ∨ d.kind = 4 ∨ d.kind = 5 ∨ d.kind = 7
    · rw [if_pos k3] at hn ⊢
      unfold toldF at hn ⊢
      split at hn
      · cases hn
      · rename_i hc
        rw [if_neg hc]
        simp only [not_or, Bool.not_eq_false, Int.not_le, ne_eq, Decidable.not_not] at hc
        obtain ⟨c1, c2, c3, c4⟩ := hc
        by_cases k7 : d.kind = 7
        · right; right; left
          refine ⟨k7, c1, c2, c3, c4, ?_⟩
          rw [if_pos (by omega)]
          simp [k7]
        · right; left
          exact ⟨by omega, c1, c2, c3, c4⟩
    · rw [if_neg k3] at hn ⊢
      right; right; right
      by_cases k6 : d.kind = 6
      · exact .inl k6
      · by_cases k8 : d.kind = 8
        · exact .inr k8
        · rw [if_neg k6, if_neg k8] at hn; cases hn

theorem once_c (L : MS) (now : Int) (d : Deed) :
    OnceC d.kind d.epoch d.worker now (thereB L d.task) (goneB L d.task) (doF L now d).2 (thereB (doF L now d).1 d.task) (goneB (doF L now d).1 d.task)
      (holderT L d.task).1 (holderT L d.task).2.1 (holderT L d.task).2.2.1 (holderT L d.task).2.2.2 (holderT (doF L now d).1 d.task).1 (holderT (doF L now d).1 d.task).2.1 := by
  unfold OnceC
  cases hm : mget L d.task with
  | none =>
    by_cases hk : d.kind = 1
    · have hd : doF L now d = (mput L d.task mzero, true) := by unfold doF; rw [hm]; simp [hk]
      right; left
      simp [hd, goneB, thereB, hm, hk]
    · have hd : doF L now d = (L, false) := by unfold doF; rw [hm]; simp [hk]
      left
      simp [hd, goneB, thereB, hm]
  | some t =>
    by_cases hk : d.kind = 1 ∨ t.gone = true
    · have hd : doF L now d = (L, false) := by unfold doF; rw [hm]; simp [hk]
      left
      cases hg : t.gone <;> simp [hd, goneB, thereB, hm, hg]
    · have hk1 : d.kind ≠ 1 := fun h => hk (.inl h)
      have hg : t.gone = false := by cases hg : t.gone <;> simp_all
      cases hn : (nextF t now d).2
      · have hd : doF L now d = (L, false) := by unfold doF; rw [hm]; simp [hk1, hg, hn]
        left
        simp [hd, goneB, thereB, hm, hg]
      · have hd : doF L now d = (mput L d.task (nextF t now d).1, true) := by unfold doF; rw [hm]; simp [hk1, hg, hn]
        have hgo : goneB L d.task = false := by unfold goneB; rw [hm]; exact hg
        have hh : holderT L d.task = if t.held then (t.worker, t.epoch, t.until_, true) else (⟨#[]⟩, 0, 0, false) := by unfold holderT; rw [hm]
        have hgl : goneB (mput L d.task (nextF t now d).1) d.task = (nextF t now d).1.gone := by unfold goneB; rw [mget_put_same]
        have hh2 : holderT (mput L d.task (nextF t now d).1) d.task = if (nextF t now d).1.held then ((nextF t now d).1.worker, (nextF t now d).1.epoch, (nextF t now d).1.until_, true) else (⟨#[]⟩, 0, 0, false) := by unfold holderT; rw [mget_put_same]
        rw [hd]
        simp only []
        rw [hgo, hgl, hh, hh2]
        rcases next_c t now d hn with ⟨k, hp, hc⟩ | ⟨k, c1, c2, c3, c4⟩ | ⟨k, c1, c2, c3, c4, c5⟩ | k
        · right; right; left
          rw [hp]
          refine ⟨(by trivial), (by trivial), k, (by trivial), (by trivial), ?_⟩
          rcases hc with hc | ⟨c1, c2, c3⟩
          · left; simp [hc]
          · right; simp [c1]; exact ⟨c2, c3⟩
        · right; right; right; left
          simp only [c1, if_true]
          exact ⟨(by trivial), (by trivial), k, (by trivial), c2, c3, c4⟩
        · right; right; right; right; left
          simp only [c1, if_true]
          exact ⟨(by trivial), (by trivial), k, (by trivial), c2, c3, c4, c5⟩
        · right; right; right; right; right
          exact ⟨(by trivial), (by trivial), k⟩
end Go.Proofs.Ytppmbfffnpindaa
