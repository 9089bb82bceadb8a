/- CondLazy: in every world where the sentinels lie as laid it returns true, and what was there stays. No condition. -/
import Derived.Test.YtjphohhpnoobfaaDoorSxLz0
import Derived.Test.YtjphohhpnoobfaaDoorSxLz1
import Derived.Test.YtjphohhpnoobfaaDoorSxLz2
import Derived.Test.YtjphohhpnoobfaaDoorSxLz3
import Derived.IntWalk
namespace Go.Proofs.YtjphohhpnoobfaaDoor.Sx
open Go Go.RowKit
set_option linter.unusedVariables false

theorem lazy_any (p : Bool) (n : Int) (h1 : -9223372036854775808 ≤ n) (h2 : n ≤ 9223372036854775807) {L : List (String × DataW Unit)} {W : World} (hL : laidMet Tryd.prog L W) (keep : String × DataW Unit → Bool) (hk : L.filter keep = sents.map Sent.laid) :
    Calls Tryd.prog 5 #[.bool p, .int .i64 n] W fun e W' => e = .returned (.bool true) ∧ Below W.heap.size W W' := by
  by_cases hn : n < 0
  · letI : Rho := ⟨fun i => match i with
      | 0 => n
      | 1 => n + 1
      | _ => - (n + 1)⟩
    have s0 : valI (sy 0) = n := valI_sy 0
    have s1 : valI (sy 1) = n + 1 := valI_sy 1
    have s2 : valI (sy 2) = - (n + 1) := valI_sy 2
    have hv : ∀ σ, VRs σ [.bool p, .int .i64 (sy 0)] [.bool p, .int .i64 n] := fun σ => .cons (.bool p) (.cons (VR.sym .i64 0) (.nil σ))
    have facts : ∀ r : Int, 0 ≤ r → (-(n + 1)).tmod 5 = r → ∀ x ∈ ([⟨.lss, .i64, sy 0, 0, .bool true⟩, ⟨.add, .i64, sy 0, 1, .int .i64 (sy 1)⟩, ⟨.sub, .i64, 0, sy 1, .int .i64 (sy 2)⟩, ⟨.rem, .i64, sy 2, 5, .int .i64 r⟩] : List Fact), FactOK Tryd.prog x := fun r hr0 hr x hx => by
      have hvr : valI r = r := valI_lit (by cases r with
        | ofNat r => rfl
        | negSucc r => exact absurd hr0 (by omega))
      have e0 : valI 0 = 0 := rfl
      have e1 : valI 1 = 1 := rfl
      have e5 : valI 5 = 5 := rfl
      simp only [List.mem_cons, List.not_mem_nil, or_false] at hx
      rcases hx with rfl | rfl | rfl | rfl
      · exact fact_lss (by rw [s0, e0, decide_eq_true hn])
      · exact fact_add (by rw [s0, s1, e1]; exact IntWalk.i64_in _ (by omega))
      · exact fact_sub (by rw [s1, s2, e0]; rw [show (0 : Int) - (n + 1) = -(n + 1) from by omega]; exact IntWalk.i64_in _ (by omega))
      · exact fact_rem (by rw [e5]; decide) (by rw [s2, e5, hvr, hr])
    have h5 : (-(n + 1)).tmod 5 = (-(n + 1)) % 5 := Int.tmod_eq_emod_of_nonneg (by omega)
    have h6 : (-(n + 1)).tmod 5 = 0 ∨ (-(n + 1)).tmod 5 = 1 ∨ (-(n + 1)).tmod 5 = 2 ∨ (-(n + 1)).tmod 5 = 3 ∨ (-(n + 1)).tmod 5 = 4 := by omega
    rcases h6 with h6 | h6 | h6 | h6 | h6
    · cases p
      · exact law_of_run (facts 0 (by decide) h6) lzB_false_0 hL keep hk hv
      · exact law_of_run (facts 0 (by decide) h6) lzB_true_0 hL keep hk hv
    · cases p
      · exact law_of_run (facts 1 (by decide) h6) lzB_false_1 hL keep hk hv
      · exact law_of_run (facts 1 (by decide) h6) lzB_true_1 hL keep hk hv
    · cases p
      · exact law_of_run (facts 2 (by decide) h6) lzB_false_2 hL keep hk hv
      · exact law_of_run (facts 2 (by decide) h6) lzB_true_2 hL keep hk hv
    · cases p
      · exact law_of_run (facts 3 (by decide) h6) lzB_false_3 hL keep hk hv
      · exact law_of_run (facts 3 (by decide) h6) lzB_true_3 hL keep hk hv
    · cases p
      · exact law_of_run (facts 4 (by decide) h6) lzB_false_4 hL keep hk hv
      · exact law_of_run (facts 4 (by decide) h6) lzB_true_4 hL keep hk hv
  · letI : Rho := ⟨fun i => n⟩
    have s0 : valI (sy 0) = n := valI_sy 0
    have hv : ∀ σ, VRs σ [.bool p, .int .i64 (sy 0)] [.bool p, .int .i64 n] := fun σ => .cons (.bool p) (.cons (VR.sym .i64 0) (.nil σ))
    have facts : ∀ r : Int, 0 ≤ r → n.tmod 5 = r → ∀ x ∈ ([⟨.lss, .i64, sy 0, 0, .bool false⟩, ⟨.rem, .i64, sy 0, 5, .int .i64 r⟩] : List Fact), FactOK Tryd.prog x := fun r hr0 hr x hx => by
      have hvr : valI r = r := valI_lit (by cases r with
        | ofNat r => rfl
        | negSucc r => exact absurd hr0 (by omega))
      have e0 : valI 0 = 0 := rfl
      have e5 : valI 5 = 5 := rfl
      simp only [List.mem_cons, List.not_mem_nil, or_false] at hx
      rcases hx with rfl | rfl
      · exact fact_lss (by rw [s0, e0, decide_eq_false hn])
      · exact fact_rem (by rw [e5]; decide) (by rw [s0, e5, hvr, hr])
    have h5 : n.tmod 5 = n % 5 := Int.tmod_eq_emod_of_nonneg (by omega)
    have h6 : n.tmod 5 = 0 ∨ n.tmod 5 = 1 ∨ n.tmod 5 = 2 ∨ n.tmod 5 = 3 ∨ n.tmod 5 = 4 := by omega
    rcases h6 with h6 | h6 | h6 | h6 | h6
    · cases p
      · exact law_of_run (facts 0 (by decide) h6) lzA_false_0 hL keep hk hv
      · exact law_of_run (facts 0 (by decide) h6) lzA_true_0 hL keep hk hv
    · cases p
      · exact law_of_run (facts 1 (by decide) h6) lzA_false_1 hL keep hk hv
      · exact law_of_run (facts 1 (by decide) h6) lzA_true_1 hL keep hk hv
    · cases p
      · exact law_of_run (facts 2 (by decide) h6) lzA_false_2 hL keep hk hv
      · exact law_of_run (facts 2 (by decide) h6) lzA_true_2 hL keep hk hv
    · cases p
      · exact law_of_run (facts 3 (by decide) h6) lzA_false_3 hL keep hk hv
      · exact law_of_run (facts 3 (by decide) h6) lzA_true_3 hL keep hk hv
    · cases p
      · exact law_of_run (facts 4 (by decide) h6) lzA_false_4 hL keep hk hv
      · exact law_of_run (facts 4 (by decide) h6) lzA_true_4 hL keep hk hv
end Go.Proofs.YtjphohhpnoobfaaDoor.Sx
