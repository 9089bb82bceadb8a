/- Contracts of package model's inner functions. No condition. -/
import Derived.Test.YtppmbfffnpindaaMapBase
namespace Go.Proofs.Ytppmbfffnpindaa
open Go.RowKit
set_option linter.unusedVariables false
set_option linter.unusedSimpArgs false
attribute [local go_sem] ext_size ext_drew cell_ext_if frozen_ext_if set_ext_if
attribute [local go_sem low] cell_alloc_if frozen_alloc_if set_alloc_if

structure MTask where
  gone : Bool
  held : Bool
  worker : ByteArray
  epoch : Int
  until_ : Int
def MTask.v (t : MTask) : Value := .agg #[.bool t.gone, .bool t.held, .string t.worker, .int .i64 t.epoch, .int .i64 t.until_]
structure Deed where
  kind : Int
  task : Int
  epoch : Int
  worker : ByteArray
  until_ : Int
def Deed.v (d : Deed) : Value := .agg #[.int .i64 d.kind, .int .i64 d.task, .int .i64 d.epoch, .string d.worker, .int .i64 d.until_]
def mzero : MTask := ⟨false, false, ⟨#[]⟩, 0, 0⟩

def takenF (t : MTask) (now : Int) (d : Deed) : MTask × Bool :=
  if (t.held = true ∧ now < t.until_) ∨ d.worker.toList = [] ∨ d.epoch ≠ wrap64 (t.epoch + 1) ∨ d.until_ ≤ now then (t, false)
  else (⟨false, true, d.worker, d.epoch, d.until_⟩, true)
def toldF (t : MTask) (now : Int) (d : Deed) : MTask × Bool :=
  if t.held = false ∨ t.worker.toList ≠ d.worker.toList ∨ t.epoch ≠ d.epoch ∨ t.until_ ≤ now then (t, false)
  else if d.kind ≠ 3 then (⟨d.kind == 7, false, ⟨#[]⟩, t.epoch, 0⟩, true)
  else if d.until_ ≤ now then (t, false)
  else ({ t with until_ := d.until_ }, true)
def nextF (t : MTask) (now : Int) (d : Deed) : MTask × Bool :=
  if d.kind = 2 then takenF t now d
  else if d.kind = 3 ∨ d.kind = 4 ∨ d.kind = 5 ∨ d.kind = 7 then toldF t now d
  else if d.kind = 6 then (t, !t.held)
  else if d.kind = 8 then (⟨true, false, ⟨#[]⟩, 0, 0⟩, true)
  else (t, false)

def MPost (p : MTask × Bool) (w : World) (e : Ending) (w' : World) : Prop := e = .returned (.tuple #[p.1.v, .bool p.2]) ∧ Ex w w'
theorem MPost.mk_ {p : MTask × Bool} {w w' : World} {v : Value} (t : MTask) (b : Bool) (hv : v = .tuple #[t.v, .bool b]) (h : p = (t, b)) (hx : Ex w w') : MPost p w (.returned v) w' := by
  subst h; exact ⟨by rw [hv], hx⟩

set_option maxHeartbeats 1000000 in
theorem taken_any (t : MTask) (now : Int) (d : Deed) (w : World) :
    Calls Try.prog 39 #[t.v, .int .i64 now, d.v] w (MPost (takenF t now d) w) := by
  obtain ⟨a0, a1, a2, a3, a4⟩ := t
  obtain ⟨b0, b1, b2, b3, b4⟩ := d
  simp only [MTask.v, Deed.v]
  cases a1
  all_goals
    go_enter Try.func39, Try.ntmps39
    go_wp2
    all_goals
      refine ⟨rfl, _, (by simp [results, Try.results39, go_sem, ↓IntWalk.iteOmega]; rfl), ?_⟩
      refine MPost.mk_ ⟨_, _, _, _, _⟩ _ rfl ?_ (by repeat (first | exact Ex.refl _ | refine Ex.alloc ?_ _ | refine Ex.more ?_ _ _))
      unfold takenF
      split <;> simp_all <;> omega

set_option maxHeartbeats 1000000 in
theorem told_any (t : MTask) (now : Int) (d : Deed) (w : World) :
    Calls Try.prog 40 #[t.v, .int .i64 now, d.v] w (MPost (toldF t now d) w) := by
  obtain ⟨a0, a1, a2, a3, a4⟩ := t
  obtain ⟨b0, b1, b2, b3, b4⟩ := d
  simp only [MTask.v, Deed.v]
  cases a1
  all_goals
    go_enter Try.func40, Try.ntmps40
    go_wp2
    all_goals
      refine ⟨rfl, _, (by simp [results, Try.results40, go_sem, ↓IntWalk.iteOmega]; rfl), ?_⟩
      refine MPost.mk_ ⟨_, _, _, _, _⟩ _ rfl ?_ (by repeat (first | exact Ex.refl _ | refine Ex.alloc ?_ _ | refine Ex.more ?_ _ _))
      unfold toldF
      split <;> simp_all <;> omega
end Go.Proofs.Ytppmbfffnpindaa
