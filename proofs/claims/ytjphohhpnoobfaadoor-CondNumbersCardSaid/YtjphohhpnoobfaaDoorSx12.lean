/- A reckoner of Go code: operations one by one. No condition. -/
import Derived.Test.YtjphohhpnoobfaaDoorSx11
import Derived.LoopN
namespace Go.Proofs.YtjphohhpnoobfaaDoor.Sx
open Go Go.RowKit
set_option linter.unusedVariables false
set_option linter.unusedSimpArgs false
set_option linter.unusedSectionVars false
variable [Rho]

abbrev Caller := Nat → List Value → AW → Option (Value × AW)
/-- A caller's word on calls holds. -/
noncomputable def CallOK (P : Program) (call : Caller) : Prop := ∀ f args A v A', call f args A = some (v, A') → ∀ (σ : Sg) (w : World) (cs : List Value), WR σ A w → VRs σ args cs →
  Calls P f cs.toArray w fun e w' => ∃ τ c, e = .returned c ∧ VR τ v c ∧ Sim σ A w τ A' w'

/-- Is an operation carried out? -/
noncomputable def wantedA (ops : Array Oper) (F : Frm) (o : Oper) : Option Bool :=
  match o.guard with
  | none => some true
  | some (j, b) => match (ops[j]?).bind (·.dst) with
    | none => none
    | some t => match F.get t with
      | some (.bool c) => some (bif c then b else !b)
      | some (.tuple _) => some false
      | _ => none
/-- What an operation leaves, its call carried out. -/
noncomputable def stepA (call : Caller) (E : Env) (nt : Nat) (ops : Array Oper) (F : Frm) (A : AW) (o : Oper) : Option (Value × AW) :=
  match wantedA ops F o with
  | some true => (evalOp E F A o).bind fun r => match r with
    | .val v A' => some (v, A')
    | .skip A' => some (undefV, A')
    | .call f args => call f args A
  | some false => some (undefV, A)
  | none => none
noncomputable def evalOps (call : Caller) (E : Env) (nt : Nat) (ops : Array Oper) : List Oper → Frm → AW → Option (Frm × AW)
  | [], F, A => some (F, A)
  | o :: rest, F, A => (stepA call E nt ops F A o).bind fun r => (putF nt F o.dst r.1).bind fun G => evalOps call E nt ops rest G r.2

section
variable {P : Program} {E : Env} (hE : EnvOK P E) {call : Caller} (hC : CallOK P call) {nt : Nat} {ops : Array Oper}
theorem wanted_ok {σ : Sg} {F : Frm} {a : Act} (hF : FR σ nt F a) {o : Oper} {b : Bool} (h : wantedA ops F o = some b) : Region.wanted o (yielded ops a.tmps) = b := by
  unfold wantedA at h
  unfold Region.wanted
  split at h
  · rename_i e; cases h; rw [e]
  · rename_i j b0 e
    rw [e]
    simp only
    split at h
    · cases h
    · rename_i t ht
      unfold yielded
      rw [ht]
      split at h
      · rename_i c hc
        cases h
        obtain ⟨c', h1, h2⟩ := hF.val t _ hc
        obtain rfl := h2.bool_inv
        simp only [Option.bind_some, h1]
        cases c <;> cases b0 <;> rfl
      · rename_i vs hc
        cases h
        obtain ⟨c', h1, h2⟩ := hF.val t _ hc
        obtain ⟨b', rfl, _⟩ := h2.tuple_inv
        simp only [Option.bind_some, h1]
        rfl
      · cases h
include hE hC
/-- One operation, as a region meets it. -/
theorem step_ok {σ : Sg} {A A' : AW} {w : World} {F : Frm} {a : Act} {o : Oper} {v : Value} (h : stepA call E nt ops F A o = some (v, A')) (hW : WR σ A w) (hF : FR σ nt F a) {K : Act → World → Prop} {Q : Exit → Act → World → Prop}
    (hK : ∀ τ c w', VR τ v c → Sim σ A w τ A' w' → K (a.put o.dst c) w') :
    if Region.wanted o (yielded ops a.tmps) then o.wp P a w K Q ∨ (o.asks P a w ∧ LetsOut Q) else K (a.put o.dst undef) w := by
  unfold stepA at h
  cases hw : wantedA ops F o with
  | none => rw [hw] at h; cases h
  | some b =>
    rw [hw] at h
    rw [wanted_ok hF hw]
    cases b with
    | false =>
      simp only [Option.some.injEq, Prod.mk.injEq] at h
      obtain ⟨rfl, rfl⟩ := h
      simp only [Bool.false_eq_true, if_false]
      exact hK σ undef w (undef_VR σ) (.refl hW)
    | true =>
      simp only [if_true, Option.bind_eq_some_iff] at h ⊢
      left
      obtain ⟨r, hr, h⟩ := h
      have hc := op_ok hE hW hF hr
      unfold Oper.wp
      cases r with
      | val u B =>
        simp only [Option.some.injEq, Prod.mk.injEq] at h
        obtain ⟨rfl, rfl⟩ := h
        obtain ⟨τ, c, w', h1, h2, h3⟩ := hc
        rw [h1, Oper.upon_value]
        exact hK τ c w' h2 h3
      | skip B =>
        simp only [Option.some.injEq, Prod.mk.injEq] at h
        obtain ⟨rfl, rfl⟩ := h
        obtain ⟨τ, w', h1, h2⟩ := hc
        rw [h1, Oper.upon_skip]
        exact hK τ undef w' (undef_VR τ) h2
      | call f args =>
        obtain ⟨cs, h1, h2⟩ := hc
        rw [h1, Oper.upon_enter]
        refine (hC f args A v A' h σ w cs hW h2).mono ?_
        rintro e w' ⟨τ, c, rfl, h3, h4⟩
        exact hK τ c w' h3 h4
theorem ops_ok : ∀ (l : List Oper) {σ : Sg} {A A' : AW} {w : World} {F G : Frm} {a : Act}, evalOps call E nt ops l F A = some (G, A') → WR σ A w → FR σ nt F a → ∀ {Q : Exit → Act → World → Prop},
    (∀ τ a' w', FR τ nt G a' → Sim σ A w τ A' w' → Q .normal a' w') → wpList P ops Q l a w
  | [], σ, A, A', w, F, G, a, h, hW, hF, Q, hQ => by
    cases h
    exact hQ σ a w hF (.refl hW)
  | o :: rest, σ, A, A', w, F, G, a, h, hW, hF, Q, hQ => by
    simp only [evalOps, Option.bind_eq_some_iff] at h
    obtain ⟨⟨v, B⟩, h1, H, h2, h3⟩ := h
    unfold wpList
    refine step_ok hE hC h1 hW hF fun τ c w' hv hs => ?_
    exact ops_ok rest h3 hs.wr ((hF.mono hs.le).putF hv h2) fun τ' a' w'' hf' hs' => hQ τ' a' w'' hf' (hs.trans hs')
theorem region_ok {σ : Sg} {A A' : AW} {w : World} {F G : Frm} {a : Act} {id : Nat} (h : evalOps call E nt ops ops.toList F A = some (G, A')) (hW : WR σ A w) (hF : FR σ nt F a) {Q : Exit → Act → World → Prop}
    (hQ : ∀ τ a' w', FR τ nt G a' → Sim σ A w τ A' w' → Q .normal a' w') : (Code.region id ops false).wp P Q a w :=
  wp_region_list (ops_ok hE hC ops.toList h hW hF hQ)
end
end Go.Proofs.YtjphohhpnoobfaaDoor.Sx
