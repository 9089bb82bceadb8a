/- CondNumbers: in every world where the sentinels lie as laid it returns true, and what was there stays. No condition. -/
import Derived.Test.YtjphohhpnoobfaaDoorSxD1
import Derived.Test.YtjphohhpnoobfaaDoorSxCn0
import Derived.Test.YtjphohhpnoobfaaDoorSxCn1
namespace Go.Proofs.YtjphohhpnoobfaaDoor.Sx
open Go Go.RowKit
set_option linter.unusedVariables false


theorem numbers_any (a b c : Int) (h1 : -9223372036854775808 ≤ a) (h2 : a ≤ 9223372036854775807) {L : List (String × DataW Unit)} {W : World} (hL : laidMet Tryd.prog L W) (keep : String × DataW Unit → Bool) (hk : L.filter keep = sents.map Sent.laid) :
    Calls Tryd.prog 4 #[.int .i64 a, .int .i64 b, .int .i64 c] W fun e W' => e = .returned (.bool true) ∧ Below W.heap.size W W' := by
  by_cases hb0 : b = 0
  · have hd : decide (b = 0) = true := decide_eq_true hb0
    letI : Rho := ⟨fun i => match i with
      | 0 => a
      | 1 => b
      | 2 => c
      | 3 => (IntKind.wrap .i64 (b * c))
      | 4 => (IntKind.wrap .i64 (a + (IntKind.wrap .i64 (b * c))))
      | 5 => (IntKind.wrap .i64 (a - b))
      | 6 => (IntKind.wrap .i64 ((IntKind.wrap .i64 (a - b)) - c))
      | 7 => (IntKind.wrap .i64 (a + b))
      | 8 => (IntKind.wrap .i64 ((IntKind.wrap .i64 (a + b)) * c))
      | 9 => (IntKind.wrap .i64 (0 - a))
      | 10 => (IntKind.wrap .i64 (0 - b))
      | _ => (IntKind.wrap .i64 (a * (IntKind.wrap .i64 (0 - b))))⟩
    have s0 : valI (sy 0) = a := valI_sy 0
    have s1 : valI (sy 1) = b := valI_sy 1
    have s2 : valI (sy 2) = c := valI_sy 2
    have s3 : valI (sy 3) = (IntKind.wrap .i64 (b * c)) := valI_sy 3
    have s4 : valI (sy 4) = (IntKind.wrap .i64 (a + (IntKind.wrap .i64 (b * c)))) := valI_sy 4
    have s5 : valI (sy 5) = (IntKind.wrap .i64 (a - b)) := valI_sy 5
    have s6 : valI (sy 6) = (IntKind.wrap .i64 ((IntKind.wrap .i64 (a - b)) - c)) := valI_sy 6
    have s7 : valI (sy 7) = (IntKind.wrap .i64 (a + b)) := valI_sy 7
    have s8 : valI (sy 8) = (IntKind.wrap .i64 ((IntKind.wrap .i64 (a + b)) * c)) := valI_sy 8
    have s9 : valI (sy 9) = (IntKind.wrap .i64 (0 - a)) := valI_sy 9
    have s10 : valI (sy 10) = (IntKind.wrap .i64 (0 - b)) := valI_sy 10
    have s11 : valI (sy 11) = (IntKind.wrap .i64 (a * (IntKind.wrap .i64 (0 - b)))) := valI_sy 11
    have z0 : valI 0 = 0 := rfl
    have hv : ∀ σ, VRs σ [.int .i64 (sy 0), .int .i64 (sy 1), .int .i64 (sy 2)] [.int .i64 a, .int .i64 b, .int .i64 c] := fun σ => .cons (VR.sym .i64 0) (.cons (VR.sym .i64 1) (.cons (VR.sym .i64 2) (.nil σ)))
    have hf : ∀ x ∈ cnZ_facts, FactOK Tryd.prog x := facts_cons (fact_mul (by rw [s1, s2, s3])) <| facts_cons (fact_add (by rw [s0, s3, s4])) <| facts_cons (fact_sub (by rw [s0, s1, s5])) <| facts_cons (fact_sub (by rw [s5, s2, s6])) <| facts_cons (fact_add (by rw [s0, s1, s7])) <| facts_cons (fact_mul (by rw [s7, s2, s8])) <| facts_cons (fact_sub (by rw [z0, s0, s9])) <| facts_cons (fact_sub (by rw [z0, s1, s10])) <| facts_cons (fact_mul (by rw [s0, s10, s11])) <| facts_cons (fact_neq (by rw [s4]; exact decide_eq_false (by simp))) <| facts_cons (fact_neq (by rw [s6]; exact decide_eq_false (by simp))) <| facts_cons (fact_neq (by rw [s8]; exact decide_eq_false (by simp))) <| facts_cons (fact_neq (by rw [s9]; exact decide_eq_false (by simp))) <| facts_cons (fact_neq (by rw [s11]; exact decide_eq_false (by simp))) <| facts_cons (fact_eql (by rw [s1, z0]; exact hd)) <| facts_nil
    exact law_of_run hf cnZ hL keep hk hv
  · have hb : b ≠ 0 := hb0
    have hd : decide (b = 0) = false := decide_eq_false hb0
    letI : Rho := ⟨fun i => match i with
      | 0 => a
      | 1 => b
      | 2 => c
      | 3 => (IntKind.wrap .i64 (b * c))
      | 4 => (IntKind.wrap .i64 (a + (IntKind.wrap .i64 (b * c))))
      | 5 => (IntKind.wrap .i64 (a - b))
      | 6 => (IntKind.wrap .i64 ((IntKind.wrap .i64 (a - b)) - c))
      | 7 => (IntKind.wrap .i64 (a + b))
      | 8 => (IntKind.wrap .i64 ((IntKind.wrap .i64 (a + b)) * c))
      | 9 => (IntKind.wrap .i64 (0 - a))
      | 10 => (IntKind.wrap .i64 (0 - b))
      | 11 => (IntKind.wrap .i64 (a * (IntKind.wrap .i64 (0 - b))))
      | 12 => (IntKind.wrap .i64 (a.tdiv b))
      | 13 => (IntKind.wrap .i64 ((IntKind.wrap .i64 (a.tdiv b)) * b))
      | 14 => (a.tmod b)
      | _ => a⟩
    have s0 : valI (sy 0) = a := valI_sy 0
    have s1 : valI (sy 1) = b := valI_sy 1
    have s2 : valI (sy 2) = c := valI_sy 2
    have s3 : valI (sy 3) = (IntKind.wrap .i64 (b * c)) := valI_sy 3
    have s4 : valI (sy 4) = (IntKind.wrap .i64 (a + (IntKind.wrap .i64 (b * c)))) := valI_sy 4
    have s5 : valI (sy 5) = (IntKind.wrap .i64 (a - b)) := valI_sy 5
    have s6 : valI (sy 6) = (IntKind.wrap .i64 ((IntKind.wrap .i64 (a - b)) - c)) := valI_sy 6
    have s7 : valI (sy 7) = (IntKind.wrap .i64 (a + b)) := valI_sy 7
    have s8 : valI (sy 8) = (IntKind.wrap .i64 ((IntKind.wrap .i64 (a + b)) * c)) := valI_sy 8
    have s9 : valI (sy 9) = (IntKind.wrap .i64 (0 - a)) := valI_sy 9
    have s10 : valI (sy 10) = (IntKind.wrap .i64 (0 - b)) := valI_sy 10
    have s11 : valI (sy 11) = (IntKind.wrap .i64 (a * (IntKind.wrap .i64 (0 - b)))) := valI_sy 11
    have s12 : valI (sy 12) = (IntKind.wrap .i64 (a.tdiv b)) := valI_sy 12
    have s13 : valI (sy 13) = (IntKind.wrap .i64 ((IntKind.wrap .i64 (a.tdiv b)) * b)) := valI_sy 13
    have s14 : valI (sy 14) = (a.tmod b) := valI_sy 14
    have s15 : valI (sy 15) = a := valI_sy 15
    have z0 : valI 0 = 0 := rfl
    have hv : ∀ σ, VRs σ [.int .i64 (sy 0), .int .i64 (sy 1), .int .i64 (sy 2)] [.int .i64 a, .int .i64 b, .int .i64 c] := fun σ => .cons (VR.sym .i64 0) (.cons (VR.sym .i64 1) (.cons (VR.sym .i64 2) (.nil σ)))
    have hf : ∀ x ∈ cnB_facts, FactOK Tryd.prog x := facts_cons (fact_mul (by rw [s1, s2, s3])) <| facts_cons (fact_add (by rw [s0, s3, s4])) <| facts_cons (fact_sub (by rw [s0, s1, s5])) <| facts_cons (fact_sub (by rw [s5, s2, s6])) <| facts_cons (fact_add (by rw [s0, s1, s7])) <| facts_cons (fact_mul (by rw [s7, s2, s8])) <| facts_cons (fact_sub (by rw [z0, s0, s9])) <| facts_cons (fact_sub (by rw [z0, s1, s10])) <| facts_cons (fact_mul (by rw [s0, s10, s11])) <| facts_cons (fact_neq (by rw [s4]; exact decide_eq_false (by simp))) <| facts_cons (fact_neq (by rw [s6]; exact decide_eq_false (by simp))) <| facts_cons (fact_neq (by rw [s8]; exact decide_eq_false (by simp))) <| facts_cons (fact_neq (by rw [s9]; exact decide_eq_false (by simp))) <| facts_cons (fact_neq (by rw [s11]; exact decide_eq_false (by simp))) <| facts_cons (fact_eql (by rw [s1, z0]; exact hd)) <| facts_cons (fact_quo (by rw [s1]; exact hb) (by rw [s0, s1, s12])) <| facts_cons (fact_mul (by rw [s12, s1, s13])) <| facts_cons (fact_rem (by rw [s1]; exact hb) (by rw [s0, s1, s14])) <| facts_cons (fact_add (by rw [s13, s14, s15]; exact quo_rem64 a b h1 h2)) <| facts_cons (fact_lss (by rw [s15, s0]; exact decide_eq_false (by omega))) <| facts_cons (fact_gtr (by rw [s15, s0]; exact decide_eq_false (by omega))) <| facts_cons (fact_eql (by rw [s15, s0]; exact decide_eq_true rfl)) <| facts_nil
    exact law_of_run hf cnB hL keep hk hv
end Go.Proofs.YtjphohhpnoobfaaDoor.Sx
