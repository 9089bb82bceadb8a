/- The chapter's examples of the laws of package model. No condition. -/
import Derived.Test.YtppmbfffnpindaaModel6
namespace Go.Proofs.Ytppmbfffnpindaa
open Go.RowKit
set_option linter.unusedVariables false
set_option linter.unusedSimpArgs false
attribute [local go_sem] ext_size ext_drew cell_ext_if frozen_ext_if set_ext_if
attribute [local go_sem low] cell_alloc_if frozen_alloc_if set_alloc_if

theorem Ex.of_dofr {b : Nat} {a w w' : World} (h : Ex a w) (h' : DoFr a.heap.size b w w') : Ex a w' := Below.trans h h'.below
theorem MSt.new (w : World) (B : Nat) (hB : B ≤ w.heap.size) : MSt (w.alloc (.cells #[.map none] 42)) B w.heap.size [] :=
  ⟨hB, _, (MapKept.heap_alloc w _).1, .inl ⟨rfl, rfl⟩⟩
theorem MSt.mono {w : World} {B B' b : Nat} {L : MS} (h : MSt w B b L) (hB : B' ≤ B) : MSt w B' b L := by
  obtain ⟨h0, v, h1, h2⟩ := h
  refine ⟨by omega, v, h1, ?_⟩
  rcases h2 with h2 | ⟨mb, es, cl, e1, e2, e3, e4⟩
  · exact .inl h2
  · exact .inr ⟨mb, es, cl, e1, e2, e3, by omega⟩

set_option maxHeartbeats 1000000 in
theorem mfirst_any (w : World) :
    Calls Try.prog 19 #[] w fun e w' => e = .returned (.bool true) ∧ Ex w w' := by
  have hd1 : doF [] 0 ⟨2, 1, 1, ⟨#[119]⟩, 5⟩ = ([], false) := rfl
  have hd2 : doF [] 0 ⟨1, 1, 0, ⟨#[]⟩, 0⟩ = ([(1, mzero)], true) := rfl
  have HD1 := Lib.hid hd1
  have HD2 := Lib.hid hd2
  clear hd1 hd2
  go_enter Try.func19, Try.ntmps19
  go_wp2_with fail
  refine (do_any w.heap.size w.heap.size [] 0 ⟨_, _, _, _, _⟩ _ (MSt.new w _ (Nat.le_refl _))).mono ?_
  rw [HD1.out]
  rintro e w1 ⟨rfl, hst, hfr⟩
  go_wp2_with fail
  refine (do_any w.heap.size w.heap.size [] 0 ⟨_, _, _, _, _⟩ _ hst).mono ?_
  rw [HD2.out]
  rintro e w2 ⟨rfl, hst2, hfr2⟩
  go_wp2_with fail
  go_ret
  exact ⟨rfl, (((Ex.refl _).alloc _).of_dofr hfr).of_dofr hfr2⟩
end Go.Proofs.Ytppmbfffnpindaa
