/- Contracts of functions that the laws of package lease reach; each says what a call returns, for every argument, and that old memory stays. No condition. -/
import Derived.Test.YtppmbfffnpindaaLeaseC
namespace Go.Proofs.Ytppmbfffnpindaa
open Go.RowKit
set_option linter.unusedVariables false
set_option linter.unusedSimpArgs false
attribute [local go_sem] ext_size ext_drew cell_ext_if frozen_ext_if set_ext_if
attribute [local go_sem low] cell_alloc_if frozen_alloc_if set_alloc_if

set_option maxHeartbeats 2000000 in
theorem sameTask_self (t : Task) (w : World) :
    Calls Try.prog 14 #[t.v, t.v] w fun e w' => e = .returned (.bool true) ∧ Ex w w' := by
  obtain ⟨a0, a1, a2, a3, a4, a5, a6, a7, a8, a9, a10, a11⟩ := t
  simp only [Task.v]
  go_enter Try.func14, Try.ntmps14
  go_wp2
  all_goals
    go_ret
    refine ⟨rb ?_, ((Ex.refl _).alloc _).alloc _⟩
    simp

/-- What leaseholdlaw10.made makes. -/
structure MadeP (now : Int) (t : Task) : Prop where
  id : t.id = 3
  inst : t.inst = 1
  tok : t.tok = 2
  node : t.node = 1
  topic : t.topic = ⟨#[116]⟩
  prio : 0 ≤ t.prio ∧ t.prio ≤ 9
  epoch : 0 ≤ t.epoch ∧ t.epoch ≤ 60
  expiry : 0 ≤ t.expiry ∧ t.expiry ≤ now + 20
  after : 0 ≤ t.after ∧ t.after ≤ now + 20
  retries : 0 ≤ t.retries ∧ t.retries ≤ 9
  broken : t.broken = (t.retries == 0)
  worker : t.worker = ⟨#[]⟩ ∧ t.expiry = 0 ∨ (t.worker = ⟨#[97]⟩ ∨ t.worker = ⟨#[98]⟩) ∧ 0 < t.expiry ∧ 0 < t.epoch

theorem bits_one (n : Int) : bits .and .i64 n 1 = 0 ∨ bits .and .i64 n 1 = 1 := by
  have h : bits .and .i64 n 1 = IntKind.i64.wrap ((BitVec.ofInt 64 n &&& BitVec.ofInt 64 1).toNat : Int) := rfl
  rw [h, BitVec.toNat_and, show (BitVec.ofInt 64 1).toNat = 1 from by decide, Nat.and_one_is_mod, IntKind.wrap_i64]
  rcases Nat.mod_two_eq_zero_or_one (BitVec.ofInt 64 n).toNat with e | e <;> rw [e] <;> simp

def MadePost (now : Int) (w : World) (e : Ending) (w' : World) : Prop := ∃ t, e = .returned (Task.v t) ∧ MadeP now t ∧ Ex w w'
theorem MadePost.mk_ {now : Int} {w w' : World} {v : Value} (t : Task) (h : v = Task.v t) (h1 : MadeP now t) (h2 : Ex w w') : MadePost now w (.returned v) w' := ⟨t, by rw [h], h1, h2⟩

set_option maxHeartbeats 4000000 in
theorem made_any (n m now : Int) (w : World) (h0 : 0 ≤ now) (h1 : now ≤ 1099511627776) :
    Calls Try.prog 16 #[.int .i64 n, .int .i64 m, .int .i64 now] w (MadePost now w) := by
  rcases bits_one (n / 2) with hb | hb
  all_goals
    go_enter Try.func16, Try.ntmps16
    go_wp2_with (go_at_call 11; refine (number_any _ _ (by omega) (by omega) _).mono ?_; rintro e w' ⟨r, rfl, hr, hr0, hr1, rfl⟩; clear hr)
    all_goals
      refine ⟨rfl, _, (by simp [results, Try.results16, go_sem, ↓IntWalk.iteOmega]; rfl), ?_⟩
      refine MadePost.mk_ ⟨_, _, _, _, _, _, _, _, _, _, _, _⟩ rfl ?_ ?_
      · refine ⟨rfl, rfl, rfl, rfl, rfl, ?_, ?_, ?_, ?_, ?_, ?_, ?_⟩
        all_goals first | rfl | (simp only; omega) | (simp; omega) | (simp; done)
      · (repeat (first | exact Ex.refl _ | refine Ex.alloc ?_ _ | refine Ex.more ?_ _ _))

end Go.Proofs.Ytppmbfffnpindaa
