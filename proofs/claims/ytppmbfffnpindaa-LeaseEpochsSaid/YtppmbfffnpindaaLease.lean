/- Contracts of functions that the laws of package lease reach; each says what a call returns, for every argument, and that old memory stays. No condition. -/
import Derived.Test.YtppmbfffnpindaaBase
namespace Go.Proofs.Ytppmbfffnpindaa
open Go.RowKit
set_option linter.unusedVariables false
set_option linter.unusedSimpArgs false
attribute [local go_sem] ext_size ext_drew cell_ext_if frozen_ext_if set_ext_if
attribute [local go_sem low] cell_alloc_if frozen_alloc_if set_alloc_if

def withinB (a b c : Int) : Bool := decide (b ≤ a) && decide (a ≤ c)
theorem withinB_iff (a b c : Int) : withinB a b c = true ↔ b ≤ a ∧ a ≤ c := by simp [withinB]
set_option maxHeartbeats 400000 in
theorem within_any (a b c : Int) (w : World) :
    Calls Try.prog 34 #[.int .i64 a, .int .i64 b, .int .i64 c] w (RetQ (.bool (withinB a b c)) w) := by
  go_enter Try.func34, Try.ntmps34
  go_wp2
  all_goals
    go_ret
    exact ⟨rb (by rw [withinB_iff]; simp; omega), rfl⟩

/-! ### api.Task -/
structure Task where
  id : Int
  inst : Int
  tok : Int
  node : Int
  topic : ByteArray
  prio : Int
  worker : ByteArray
  epoch : Int
  expiry : Int
  after : Int
  retries : Int
  broken : Bool
def Task.v (t : Task) : Value := .agg #[.int .i64 t.id, .int .i64 t.inst, .int .i64 t.tok, .int .i64 t.node, .string t.topic, .int .i64 t.prio, .string t.worker, .int .i64 t.epoch, .int .i64 t.expiry, .int .i64 t.after, .int .i64 t.retries, .bool t.broken]

def whenB (t : Task) : Bool := !t.broken && decide (t.epoch < 60)
def whenN (t : Task) : Int := if whenB t then max t.after t.expiry else 0
def freeB (t : Task) (now : Int) : Bool := whenB t && decide (max t.after t.expiry ≤ now)

set_option maxHeartbeats 400000 in
theorem when_any (t : Task) (w : World) :
    Calls Try.prog 13 #[t.v] w fun e w' => e = .returned (.tuple #[.int .i64 (whenN t), .bool (whenB t)]) ∧ Ex w w' := by
  obtain ⟨a0, a1, a2, a3, a4, a5, a6, a7, a8, a9, a10, a11⟩ := t
  simp only [Task.v]
  cases a11
  all_goals
    go_enter Try.func13, Try.ntmps13
    go_wp2
    all_goals
      go_ret2
      refine ⟨rib ?_ ?_, (Ex.refl _).alloc _⟩
      · simp [whenN, whenB] <;> omega
      · simp [whenB] <;> omega

set_option maxHeartbeats 400000 in
theorem free_any (t : Task) (now : Int) (w : World) :
    Calls Try.prog 15 #[t.v, .int .i64 now] w fun e w' => e = .returned (.bool (freeB t now)) ∧ Ex w w' := by
  have hf : freeB t now = (whenB t && decide (whenN t ≤ now)) := by
    unfold freeB whenN; split <;> simp_all
  rw [hf]
  generalize h1 : whenB t = b1
  generalize h2 : whenN t = n1
  have H1 := Lib.hid h1
  have H2 := Lib.hid h2
  clear h1 h2 hf
  obtain ⟨a0, a1, a2, a3, a4, a5, a6, a7, a8, a9, a10, a11⟩ := t
  simp only [Task.v]
  cases b1
  all_goals
    go_enter Try.func15, Try.ntmps15
    go_wp2_with (go_at_call 13; refine (when_any ⟨_, _, _, _, _, _, _, _, _, _, _, _⟩ _).mono ?_; rw [H1.out, H2.out]; rintro e w1 ⟨rfl, hb⟩)
    go_ret
    exact ⟨rb (by simp), ((Ex.refl _).alloc _).trans hb⟩

def Task.mk_ (t : Task) : Task := t
theorem rvb {a c : Value} {b d : Bool} (h : a = c) (h' : b = true ↔ d = true) : Ending.returned (.tuple #[a, .bool b]) = Ending.returned (.tuple #[c, .bool d]) := by rw [h, Bool.eq_iff_iff.2 h']

/-- lease.Take: may it be? -/
def takeB (t : Task) (s : ByteArray) (now span : Int) : Bool := freeB t now && nameB s && withinB span 1 1000
/-- .. and what it is then. -/
def takeT (t : Task) (s : ByteArray) (now span : Int) : Task := { t with worker := s, expiry := wrap64 (now + span), epoch := wrap64 (t.epoch + 1) }

set_option maxHeartbeats 400000 in
theorem take_no (t : Task) (s : ByteArray) (now span : Int) (w : World) (h : takeB t s now span = false) :
    Calls Try.prog 12 #[t.v, .string s, .int .i64 now, .int .i64 span] w fun e w' => e = .returned (.tuple #[t.v, .bool false]) ∧ Ex w w' := by
  unfold takeB at h
  have h' : freeB t now = false ∧ nameB s = false ∨ freeB t now = false ∧ nameB s = true ∨ freeB t now = true ∧ nameB s = false ∨ freeB t now = true ∧ nameB s = true ∧ withinB span 1 1000 = false := by
    cases h1 : freeB t now <;> cases h2 : nameB s <;> simp [h1, h2] at h ⊢
    exact h
  clear h
  obtain ⟨a0, a1, a2, a3, a4, a5, a6, a7, a8, a9, a10, a11⟩ := t
  simp only [Task.v]
  rcases h' with ⟨h1, h2⟩ | ⟨h1, h2⟩ | ⟨h1, h2⟩ | ⟨h1, h2, h3⟩
  all_goals
    have H1 := Lib.hid h1
    have H2 := Lib.hid h2
    clear h1 h2
    try (have H3 := Lib.hid h3; clear h3)
    go_enter Try.func12, Try.ntmps12
    go_wp2_with (first | (go_at_call 15; refine (free_any ⟨_, _, _, _, _, _, _, _, _, _, _, _⟩ _ _).mono ?_; rw [H1.out]; rintro e w1 ⟨rfl, hb⟩; obtain ⟨g, n, rfl⟩ := hb.ext; clear hb) | (go_at_call 33; refine (name_any _ _).mono ?_; rw [H2.out]; rintro e w1 ⟨rfl, rfl⟩) | (go_at_call 34; refine (within_any _ _ _ _).mono ?_; rw [H3.out]; rintro e w1 ⟨rfl, rfl⟩))
    refine ⟨rfl, _, (by simp [results, Try.results12, go_sem, ↓IntWalk.iteOmega]), rfl, ?_⟩
    exact (((Ex.refl _).alloc _).alloc _).more _ _

set_option maxHeartbeats 400000 in
theorem take_yes (t : Task) (s : ByteArray) (now span : Int) (w : World) (h : takeB t s now span = true) :
    Calls Try.prog 12 #[t.v, .string s, .int .i64 now, .int .i64 span] w fun e w' => e = .returned (.tuple #[(takeT t s now span).v, .bool true]) ∧ Ex w w' := by
  unfold takeB at h
  simp only [Bool.and_eq_true] at h
  obtain ⟨⟨h1, h2⟩, h3⟩ := h
  have H1 := Lib.hid h1
  have H2 := Lib.hid h2
  have H3 := Lib.hid h3
  clear h1 h2 h3
  obtain ⟨a0, a1, a2, a3, a4, a5, a6, a7, a8, a9, a10, a11⟩ := t
  simp only [Task.v, takeT]
  go_enter Try.func12, Try.ntmps12
  go_wp2_with (first | (go_at_call 15; refine (free_any ⟨_, _, _, _, _, _, _, _, _, _, _, _⟩ _ _).mono ?_; rw [H1.out]; rintro e w1 ⟨rfl, hb⟩; obtain ⟨g, n, rfl⟩ := hb.ext; clear hb) | (go_at_call 33; refine (name_any _ _).mono ?_; rw [H2.out]; rintro e w1 ⟨rfl, rfl⟩) | (go_at_call 34; refine (within_any _ _ _ _).mono ?_; rw [H3.out]; rintro e w1 ⟨rfl, rfl⟩))
  refine ⟨rfl, _, (by simp [results, Try.results12, go_sem, ↓IntWalk.iteOmega]), rfl, ?_⟩
  exact (((Ex.refl _).alloc _).alloc _).more _ _

end Go.Proofs.Ytppmbfffnpindaa
