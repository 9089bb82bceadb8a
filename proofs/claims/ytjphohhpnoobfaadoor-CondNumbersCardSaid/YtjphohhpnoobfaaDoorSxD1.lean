/- The law 5's seat: the reckoner's runs over any list of sentinels. No condition. -/
import Derived.Test.YtjphohhpnoobfaaDoorSxD0
namespace Go.Proofs.YtjphohhpnoobfaaDoor.Sx
open Go Go.RowKit Go.Proofs
set_option linter.unusedVariables false
set_option linter.unusedSectionVars false
noncomputable def A0S (S : List Sent) : AW := layS 112 22 S 0 ⟨22 + S.length, .nil, 0⟩
noncomputable def runS (S : List Sent) (fs : List Fact) (f : Nat) (args : List Value) : Bool := isTrue (evalFn (lawE fs) 1000 100 f args (A0S S))
theorem facts_nil [Rho] {P : Program} : ∀ x ∈ ([] : List Fact), FactOK P x := fun x h => by cases h
theorem facts_cons [Rho] {P : Program} {f : Fact} {l : List Fact} (h : FactOK P f) (hl : ∀ x ∈ l, FactOK P x) : ∀ x ∈ f :: l, FactOK P x := fun x hx => by
  rcases List.mem_cons.1 hx with rfl | hx
  · exact h
  · exact hl x hx
theorem law_of_runS [Rho] {S : List Sent} (hS : (S.all fun s => (Tryd.prog.globalNamed s.name == some s.g) && ((Tryd.prog.globals[s.g]?).map (·.type) == some 32) && Nat.blt s.g 22) = true) {fs : List Fact} {f : Nat} {args cs : List Value} (hf : ∀ x ∈ fs, FactOK Tryd.prog x)
    (h : runS S fs f args = true) {L : List (String × DataW Unit)} {W : World} (hL : laidMet Tryd.prog L W) (keep : String × DataW Unit → Bool) (hk : L.filter keep = S.map Sent.laid)
    (hv : ∀ σ, VRs σ args cs) : Calls Tryd.prog f cs.toArray W fun e W' => e = .returned (.bool true) ∧ Below W.heap.size W W' := by
  obtain ⟨σ, hW, hz⟩ := laid_wr sentOK hL keep S hk 22 32 ⟨_, Tryd.underlying32⟩ hS
  obtain ⟨A, hA⟩ := isTrue_inv h
  refine (fn_ok (stdEnv_ok msk hf (fun f hf' => by rw [List.mem_singleton.1 hf']; exact cmp_ok) mixed_ok names_ok) 1000 100 f args (A0S S) _ _ hA σ W cs hW (hv σ)).mono ?_
  rintro e W' ⟨τ, c, rfl, h1, h2⟩
  exact ⟨by rw [h1.bool_inv], h2.below hz⟩
end Go.Proofs.YtjphohhpnoobfaaDoor.Sx
