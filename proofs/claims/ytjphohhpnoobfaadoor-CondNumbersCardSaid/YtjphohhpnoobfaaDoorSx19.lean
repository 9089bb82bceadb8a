/- A reckoner of Go code: facts of numbers that are not known. No condition. -/
import Derived.Test.YtjphohhpnoobfaaDoorSx18
namespace Go.Proofs.YtjphohhpnoobfaaDoor.Sx
open Go Go.RowKit
set_option linter.unusedVariables false
set_option linter.unusedSimpArgs false
set_option linter.unusedSectionVars false
variable [Rho]

/-- A number that is not known. -/
noncomputable def sy (i : Nat) : Int := .negSucc (LIM + i)
theorem valI_sy (i : Nat) : valI (sy i) = Rho.val i := by
  have : Nat.ble LIM (LIM + i) = true := by rw [Nat.ble_eq]; omega
  simp [valI, sy, this]
theorem VR.symy (σ : Sg) (k : IntKind) (i : Nat) {n : Int} (h : Rho.val i = n) : VR σ (.int k (sy i)) (.int k n) := h ▸ VR.sym k i
theorem fact_lss {P : Program} {k : IntKind} {a b : Int} {r : Bool} (h : decide (valI a < valI b) = r) : FactOK P ⟨.lss, k, a, b, .bool r⟩ := ⟨rfl, fun t w => by
  rw [int_ok (v := .bool (!intLe (valI b) (valI a))) w rfl, ← h, intLe_eq]
  show Result.ok (Value.bool _) w = Result.ok (Value.bool _) w
  congr 2
  by_cases hh : valI a < valI b
  · rw [decide_eq_true hh, decide_eq_false (by omega)]; rfl
  · rw [decide_eq_false hh, decide_eq_true (by omega)]; rfl⟩
theorem fact_gtr {P : Program} {k : IntKind} {a b : Int} {r : Bool} (h : decide (valI b < valI a) = r) : FactOK P ⟨.gtr, k, a, b, .bool r⟩ := ⟨rfl, fun t w => by
  rw [int_ok (v := .bool (!intLe (valI a) (valI b))) w rfl, ← h, intLe_eq]
  show Result.ok (Value.bool _) w = Result.ok (Value.bool _) w
  congr 2
  by_cases hh : valI b < valI a
  · rw [decide_eq_true hh, decide_eq_false (by omega)]; rfl
  · rw [decide_eq_false hh, decide_eq_true (by omega)]; rfl⟩
theorem fact_leq {P : Program} {k : IntKind} {a b : Int} {r : Bool} (h : decide (valI a ≤ valI b) = r) : FactOK P ⟨.leq, k, a, b, .bool r⟩ := ⟨rfl, fun t w => by
  rw [int_ok (v := .bool (intLe (valI a) (valI b))) w rfl, ← h, intLe_eq]; rfl⟩
theorem fact_geq {P : Program} {k : IntKind} {a b : Int} {r : Bool} (h : decide (valI b ≤ valI a) = r) : FactOK P ⟨.geq, k, a, b, .bool r⟩ := ⟨rfl, fun t w => by
  rw [int_ok (v := .bool (intLe (valI b) (valI a))) w rfl, ← h, intLe_eq]; rfl⟩
theorem fact_eql {P : Program} {k : IntKind} {a b : Int} {r : Bool} (h : decide (valI a = valI b) = r) : FactOK P ⟨.eql, k, a, b, .bool r⟩ := ⟨rfl, fun t w => by
  rw [int_ok (v := .bool (intEq (valI a) (valI b))) w rfl, ← h, intEq_eq]
  show Result.ok (Value.bool _) w = Result.ok (Value.bool _) w
  congr 2⟩
theorem fact_neq {P : Program} {k : IntKind} {a b : Int} {r : Bool} (h : decide (valI a ≠ valI b) = r) : FactOK P ⟨.neq, k, a, b, .bool r⟩ := ⟨rfl, fun t w => by
  rw [int_ok (v := .bool (!intEq (valI a) (valI b))) w rfl, ← h, intEq_eq]
  show Result.ok (Value.bool _) w = Result.ok (Value.bool _) w
  congr 2
  by_cases hh : valI a = valI b <;> simp [hh]⟩
theorem fact_add {P : Program} {k : IntKind} {a b c : Int} (h : k.wrap (valI a + valI b) = valI c) : FactOK P ⟨.add, k, a, b, .int k c⟩ := ⟨rfl, fun t w => by
  rw [int_ok (v := .int k (wrapF k (valI a + valI b))) w rfl, wrapF_eq, h]; rfl⟩
theorem fact_sub {P : Program} {k : IntKind} {a b c : Int} (h : k.wrap (valI a - valI b) = valI c) : FactOK P ⟨.sub, k, a, b, .int k c⟩ := ⟨rfl, fun t w => by
  rw [int_ok (v := .int k (wrapF k (valI a - valI b))) w rfl, wrapF_eq, h]; rfl⟩
theorem fact_mul {P : Program} {k : IntKind} {a b c : Int} (h : k.wrap (valI a * valI b) = valI c) : FactOK P ⟨.mul, k, a, b, .int k c⟩ := ⟨rfl, fun t w => by
  rw [int_ok (v := .int k (wrapF k (valI a * valI b))) w rfl, wrapF_eq, h]; rfl⟩
theorem fact_quo {P : Program} {k : IntKind} {a b c : Int} (hb : valI b ≠ 0) (h : k.wrap ((valI a).tdiv (valI b)) = valI c) : FactOK P ⟨.quo, k, a, b, .int k c⟩ := ⟨rfl, fun t w => by
  rw [int_ok (v := .int k (wrapF k ((valI a).tdiv (valI b)))) w (by
    have : intEq (valI b) 0 = false := by rw [intEq_eq]; simpa using hb
    simp [intOp, this]), wrapF_eq, h]; rfl⟩
theorem fact_rem {P : Program} {k : IntKind} {a b c : Int} (hb : valI b ≠ 0) (h : (valI a).tmod (valI b) = valI c) : FactOK P ⟨.rem, k, a, b, .int k c⟩ := ⟨rfl, fun t w => by
  rw [int_ok (v := .int k ((valI a).tmod (valI b))) w (by
    have : intEq (valI b) 0 = false := by rw [intEq_eq]; simpa using hb
    simp [intOp, this]), h]; rfl⟩

/-! ### wrapped numbers -/
theorem wrap64_mod (x : Int) : (IntKind.wrap .i64 x) % 18446744073709551616 = x % 18446744073709551616 := by
  rw [IntKind.wrap_i64]
  omega
theorem wrap64_congr {x y : Int} (h : x % 18446744073709551616 = y % 18446744073709551616) : IntKind.wrap .i64 x = IntKind.wrap .i64 y := by
  rw [IntKind.wrap_i64, IntKind.wrap_i64]
  omega
/-- Quotient times divisor and what is left: the dividend, wrapped or not. -/
theorem quo_rem64 (a b : Int) (h1 : -9223372036854775808 ≤ a) (h2 : a ≤ 9223372036854775807) : IntKind.wrap .i64 (IntKind.wrap .i64 (IntKind.wrap .i64 (a.tdiv b) * b) + a.tmod b) = a := by
  have e : IntKind.wrap .i64 (IntKind.wrap .i64 (IntKind.wrap .i64 (a.tdiv b) * b) + a.tmod b) = IntKind.wrap .i64 (a.tdiv b * b + a.tmod b) := by
    apply wrap64_congr
    rw [Int.add_emod, wrap64_mod, Int.mul_emod, wrap64_mod, ← Int.mul_emod, ← Int.add_emod]
  rw [e, Int.mul_comm, Int.mul_tdiv_add_tmod]
  exact IntWalk.i64_in _ (by omega)
end Go.Proofs.YtjphohhpnoobfaaDoor.Sx
