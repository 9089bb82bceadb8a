/- Contracts of package model: next, Do, Holder, Is. No condition. -/
import Derived.Test.YtppmbfffnpindaaModel
import Derived.RegionTactic
import Derived.ChangeAlike
namespace Go.Proofs.Ytppmbfffnpindaa
open Go.RowKit
set_option linter.unusedVariables false
set_option linter.unusedSimpArgs false
attribute [local go_sem] ext_size ext_drew cell_ext_if frozen_ext_if set_ext_if
attribute [local go_sem low] cell_alloc_if frozen_alloc_if set_alloc_if

set_option maxHeartbeats 1000000 in
theorem next_any (t : MTask) (now : Int) (d : Deed) (w : World) :
    Calls Try.prog 36 #[t.v, .int .i64 now, d.v] w (MPost (nextF t now d) w) := by
  generalize hp : takenF t now d = p
  have HP := Lib.hid hp
  generalize hq : toldF t now d = q
  have HQ := Lib.hid hq
  have hn : nextF t now d = if d.kind = 2 then p else if d.kind = 3 ∨ d.kind = 4 ∨ d.kind = 5 ∨ d.kind = 7 then q else if d.kind = 6 then (t, !t.held) else if d.kind = 8 then (⟨true, false, ⟨#[]⟩, 0, 0⟩, true) else (t, false) := by
    unfold nextF; rw [hp, hq]
  rw [hn]
  clear hp hq hn
  obtain ⟨⟨p0, p1, p2, p3, p4⟩, pb⟩ := p
  obtain ⟨⟨q0, q1, q2, q3, q4⟩, qb⟩ := q
  obtain ⟨a0, a1, a2, a3, a4⟩ := t
  obtain ⟨b0, b1, b2, b3, b4⟩ := d
  simp only [MTask.v, Deed.v]
  go_enter Try.func36, Try.ntmps36
  go_wp2_with (first | (go_at_call 39; refine (taken_any ⟨_, _, _, _, _⟩ _ ⟨_, _, _, _, _⟩ _).mono ?_; rw [HP.out]; rintro e w1 ⟨rfl, hb⟩; obtain ⟨g, n, rfl⟩ := hb.ext; clear hb; simp only [MTask.v]) | (go_at_call 40; refine (told_any ⟨_, _, _, _, _⟩ _ ⟨_, _, _, _, _⟩ _).mono ?_; rw [HQ.out]; rintro e w1 ⟨rfl, hb⟩; obtain ⟨g, n, rfl⟩ := hb.ext; clear hb; simp only [MTask.v]))
  all_goals (try (go_region; go_wp2))
  all_goals
    refine ⟨rfl, _, (by simp [results, Try.results36, go_sem, ↓IntWalk.iteOmega]; rfl), ?_⟩
    refine MPost.mk_ ⟨_, _, _, _, _⟩ _ rfl ?_ (by repeat (first | exact Ex.refl _ | refine Ex.alloc ?_ _ | refine Ex.more ?_ _ _ | refine Ex.drew ?_))
    simp_all <;> omega
end Go.Proofs.Ytppmbfffnpindaa
