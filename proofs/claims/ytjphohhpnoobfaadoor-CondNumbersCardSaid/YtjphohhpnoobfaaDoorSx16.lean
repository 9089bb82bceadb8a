/- A reckoner of Go code: whole functions. What it reckons, the program does, in every world that follows. No condition. -/
import Derived.Test.YtjphohhpnoobfaaDoorSx15
namespace Go.Proofs.YtjphohhpnoobfaaDoor.Sx
open Go Go.RowKit
set_option linter.unusedVariables false
set_option linter.unusedSimpArgs false
set_option linter.unusedSectionVars false
variable [Rho]

inductive Way where
  | normal
  | exit (id : Nat)
  | ret
noncomputable def Way.out : Way → Exit
  | .normal => .normal
  | .exit id => .exit id
  | .ret => .ret
noncomputable def evalCode (call : Caller) (E : Env) (nt : Nat) : Nat → Code → Frm → AW → Option (Way × Frm × AW)
  | 0, _, _, _ => none
  | n + 1, c, F, A => match c with
    | .skip => some (.normal, F, A)
    | .label _ => some (.normal, F, A)
    | .region _ ops d => (bif d then evalDraw call E nt ops F.flush A else evalOps call E nt ops ops.toList F.flush A).bind fun r => some (.normal, r.1, r.2)
    | .seq x y => (evalCode call E nt n x F A).bind fun r => match r.1 with
      | .normal => evalCode call E nt n y r.2.1 r.2.2
      | _ => some r
    | .cond c x y => match ev F c with
      | some (.bool true) => evalCode call E nt n x F A
      | some (.bool false) => evalCode call E nt n y F A
      | _ => none
    | .block id b => (evalCode call E nt n b F A).bind fun r => match r.1 with
      | .exit id' => bif Nat.beq id' id then some (.normal, r.2.1, r.2.2) else some r
      | _ => some r
    | .loop b => (evalCode call E nt n b F A).bind fun r => match r.1 with
      | .normal => evalCode call E nt n (.loop b) r.2.1 r.2.2
      | _ => some r
    | .exit id => some (.exit id, F, A)
    | .ret => some (.ret, F, A)
    | _ => none
noncomputable def resA (E : Env) (F : Frm) (A : AW) : List ResultVar → Option (List Value)
  | [] => some []
  | .tmp t :: r => (F.get t).bind fun v => (resA E F A r).bind fun l => some (v :: l)
  | .cell a t :: r => (F.get a).bind fun p => (doLoad E A t p).bind fun v => (resA E F A r).bind fun l => some (v :: l)
noncomputable def oneV : List Value → Value
  | [v] => v
  | l => .tuple l.toArray
noncomputable def argsF : List Value → Nat → Frm → Frm
  | [], _, F => F
  | v :: r, i, F => argsF r (i + 1) (F.push i v)
noncomputable def evalFn (E : Env) (L : Nat) : Nat → Caller
  | 0, _, _, _ => none
  | n + 1, f, args, A => (E.fn f).bind fun fi => bif Nat.ble args.length fi.nt then
      (evalCode (evalFn E L n) E fi.nt L fi.code (argsF args 0 (Frm.init fi.mask A.gm)) A).bind fun r => match r.1 with
        | .exit _ => none
        | _ => (resA E r.2.1 r.2.2 fi.res).bind fun vs => some (oneV vs, r.2.2)
    else none

/-- A result, as the program reads it. -/
noncomputable def resS (tmps : Array Value) : ResultVar → Sem Value
  | .tmp t => pure (tmps.getD t undef)
  | .cell p t => do loadVar t (← asAddr (tmps.getD p undef))
theorem results_eq (fn : Func) (tmps : Array Value) : results fn tmps = (do let vs ← fn.results.mapM (resS tmps); pure (if h : vs.size = 1 then vs[0] else .tuple vs)) := rfl
section
variable {P : Program} {E : Env} (hE : EnvOK P E) {call : Caller} (hC : CallOK P call) {nt : Nat}
include hE hC
theorem code_ok : ∀ (n : Nat),
    (∀ (c : Code) (F : Frm) (A : AW) (r : Way × Frm × AW), evalCode call E nt n c F A = some r → ∀ (σ : Sg) (w : World) (a : Act), WR σ A w → FR σ nt F a → ∀ (Q : Exit → Act → World → Prop),
      (∀ τ a' w', FR τ nt r.2.1 a' → Sim σ A w τ r.2.2 w' → Q r.1.out a' w') → c.wp P Q a w) ∧
    (∀ (b : Code) (F : Frm) (A : AW) (r : Way × Frm × AW), evalCode call E nt n (.loop b) F A = some r → ∀ (σ : Sg) (w : World) (a : Act), WR σ A w → FR σ nt F a → ∀ (Q : Exit → Act → World → Prop),
      (∀ τ a' w', FR τ nt r.2.1 a' → Sim σ A w τ r.2.2 w' → Q r.1.out a' w') → Code.rounds P b Q n a w)
  | 0 => ⟨fun c F A r h => (by cases h), fun c F A r h => (by cases h)⟩
  | n + 1 => by
    obtain ⟨ih1, ih2⟩ := code_ok n
    have hloop : ∀ (b : Code) (F : Frm) (A : AW) (r : Way × Frm × AW), evalCode call E nt (n + 1) (.loop b) F A = some r → ∀ (σ : Sg) (w : World) (a : Act), WR σ A w → FR σ nt F a → ∀ (Q : Exit → Act → World → Prop),
        (∀ τ a' w', FR τ nt r.2.1 a' → Sim σ A w τ r.2.2 w' → Q r.1.out a' w') → Code.rounds P b Q (n + 1) a w := by
      intro b F A r h σ w a hW hF Q hQ
      simp only [evalCode, Option.bind_eq_some_iff] at h
      obtain ⟨⟨x, F1, A1⟩, h1, h⟩ := h
      rw [rounds_succ]
      refine ih1 b F A _ h1 σ w a hW hF _ fun τ a' w' hf hs => ?_
      cases x with
      | normal => exact ih2 b F1 A1 r h τ w' a' hs.wr hf Q fun τ2 a2 w2 hf2 hs2 => hQ τ2 a2 w2 hf2 (hs.trans hs2)
      | exit id => cases h; exact hQ τ a' w' hf hs
      | ret => cases h; exact hQ τ a' w' hf hs
    refine ⟨fun c F A r h σ w a hW hF Q hQ => ?_, hloop⟩
    cases c with
    | skip => cases h; exact wp_skip (hQ σ a w hF (.refl hW))
    | label l => cases h; exact wp_label (hQ σ a w hF (.refl hW))
    | region id ops d =>
      simp only [evalCode, Option.bind_eq_some_iff, Bool.cond_eq_ite] at h
      obtain ⟨⟨G, A'⟩, h1, h⟩ := h
      cases h
      cases d with
      | true => exact draw_ok hE hC (by simpa using h1) hW hF.flush hQ
      | false => exact region_ok hE hC (by simpa using h1) hW hF.flush hQ
    | seq x y =>
      simp only [evalCode, Option.bind_eq_some_iff] at h
      obtain ⟨⟨x1, F1, A1⟩, h1, h⟩ := h
      refine wp_seq (ih1 x F A _ h1 σ w a hW hF _ fun τ a' w' hf hs => ?_)
      cases x1 with
      | normal => exact ih1 y F1 A1 r h τ w' a' hs.wr hf Q fun τ2 a2 w2 hf2 hs2 => hQ τ2 a2 w2 hf2 (hs.trans hs2)
      | exit id => cases h; exact hQ τ a' w' hf hs
      | ret => cases h; exact hQ τ a' w' hf hs
    | cond c x y =>
      simp only [evalCode] at h
      split at h
      · rename_i hc
        exact wp_cond_true (hF.ev hc).bool_inv (ih1 x F A r h σ w a hW hF Q hQ)
      · rename_i hc
        exact wp_cond_false (hF.ev hc).bool_inv (ih1 y F A r h σ w a hW hF Q hQ)
      · cases h
    | block id b =>
      simp only [evalCode, Option.bind_eq_some_iff] at h
      obtain ⟨⟨x1, F1, A1⟩, h1, h⟩ := h
      refine wp_block (ih1 b F A _ h1 σ w a hW hF _ fun τ a' w' hf hs => ?_)
      cases x1 with
      | normal => cases h; exact hQ τ a' w' hf hs
      | ret => cases h; exact hQ τ a' w' hf hs
      | exit id' =>
        simp only [Bool.cond_eq_ite] at h
        show (if id' = id then Q .normal a' w' else Q (.exit id') a' w')
        split at h
        · rename_i he
          cases h
          rw [if_pos (by simpa using he)]
          exact hQ τ a' w' hf hs
        · rename_i he
          cases h
          rw [if_neg (by simpa using he)]
          exact hQ τ a' w' hf hs
    | loop b => exact wp_loop_rounds (n + 1) (hloop b F A r h σ w a hW hF Q hQ)
    | exit id => cases h; exact wp_exit (hQ σ a w hF (.refl hW))
    | ret => cases h; exact wp_ret (hQ σ a w hF (.refl hW))
    | _ => cases h
omit hC in
theorem res_ok {σ : Sg} {A : AW} {w : World} {F : Frm} {a : Act} (hW : WR σ A w) (hF : FR σ nt F a) : ∀ (l : List ResultVar) (vs : List Value), resA E F A l = some vs →
    ∃ cs, (l.mapM (resS a.tmps)).run P w = .ok cs w ∧ VRs σ vs cs
  | [], vs, h => by cases h; exact ⟨[], rfl, VRs.nil σ⟩
  | .tmp t :: r, vs, h => by
    simp only [resA, Option.bind_eq_some_iff] at h
    obtain ⟨v, hv, l, hl, h⟩ := h
    cases h
    obtain ⟨cs, h1, h2⟩ := res_ok hW hF r l hl
    have h3 := hF.ev (x := .tmp t) hv
    refine ⟨a.tmps.getD t undef :: cs, ?_, VRs.cons h3 h2⟩
    rw [List.mapM_cons, Sem.run_bind]
    show (Result.ok (a.tmps.getD t undef) w).andThen _ = _
    rw [Result.andThen_ok, Sem.run_bind, h1]
    rfl
  | .cell p t :: r, vs, h => by
    simp only [resA, Option.bind_eq_some_iff] at h
    obtain ⟨q, hq, v, hv, l, hl, h⟩ := h
    cases h
    obtain ⟨cs, h1, h2⟩ := res_ok hW hF r l hl
    have h3 := hF.ev (x := .tmp p) hq
    obtain ⟨y, h4, h5⟩ := load_ok hE hW h3 hv
    refine ⟨y :: cs, ?_, VRs.cons h5 h2⟩
    have h6 : (do loadVar t (← asAddr (a.tmps.getD p undef)) : Sem Value).run P w = .ok y w := by
      have e : a.tmps.getD p undef = a.eval (.tmp p) := rfl
      rw [e]
      unfold doLoad at hv
      split at hv
      · rename_i ad
        obtain ⟨i, o, sp⟩ := ad
        obtain ⟨pp, _, hp2⟩ := h3.ptr_inv
        rw [hp2] at h4 ⊢
        simpa [Instr.loadAt, Instr.sureAddr, asAddr] using h4
      · cases hv
    rw [List.mapM_cons, Sem.run_bind]
    show ((do loadVar t (← asAddr (a.tmps.getD p undef)) : Sem Value).run P w).andThen _ = _
    rw [h6, Result.andThen_ok, Sem.run_bind, h1]
    rfl
end
theorem argsF_get : ∀ (l : List Value) (i : Nat) (F : Frm) (t : Nat), (argsF l i F).get t = if i ≤ t ∧ t < i + l.length then l[t - i]? else F.get t
  | [], i, F, t => by rw [if_neg (by simp)]; rfl
  | v :: r, i, F, t => by
    rw [argsF, argsF_get r (i + 1) (F.push i v) t, Frm.get_push]
    by_cases h : t = i
    · subst h
      rw [if_neg (by omega), if_pos rfl, if_pos (by simp)]
      simp
    · by_cases h2 : i + 1 ≤ t ∧ t < i + 1 + r.length
      · rw [if_pos h2, if_pos (by simp; omega), show t - i = (t - (i + 1)) + 1 from by omega]
        simp
      · rw [if_neg h2, if_neg h, if_neg (by simp; omega)]
theorem argsF_tr : ∀ (l : List Value) (i : Nat) (F : Frm), (argsF l i F).tr = F.tr
  | [], i, F => rfl
  | v :: r, i, F => by rw [argsF, argsF_tr r (i + 1) (F.push i v)]; rfl
theorem argsF_gm : ∀ (l : List Value) (i : Nat) (F : Frm), (argsF l i F).gm = F.gm
  | [], i, F => rfl
  | v :: r, i, F => by rw [argsF, argsF_gm r (i + 1) (F.push i v)]; rfl
theorem fn_ok {P : Program} {E : Env} (hE : EnvOK P E) (L : Nat) : ∀ (n : Nat), CallOK P (evalFn E L n)
  | 0 => fun f args A v A' h => by cases h
  | n + 1 => fun f args A v A' h σ w cs hW hv => by
    simp only [evalFn, Option.bind_eq_some_iff, Bool.cond_eq_ite] at h
    obtain ⟨fi, hfi, h⟩ := h
    obtain ⟨fn, g1, g2, g3, g4, g5⟩ := hE.fn f fi hfi
    split at h
    · rename_i hle
      have hle' : args.length ≤ fi.nt := by simpa using hle
      simp only [Option.bind_eq_some_iff] at h
      obtain ⟨⟨x, F1, A1⟩, hc, h⟩ := h
      have hlen := hv.1
      refine calls_of_wp g1 g2 ?_
      have hF : FR σ fi.nt (argsF args 0 (Frm.init fi.mask A.gm)) { tmps := cs.toArray ++ Array.replicate (fn.ntmps - cs.toArray.size) undef, defers := [] } := by
        refine ⟨by simp [g3]; omega, fun t u hu => ?_, rfl, fun t u hu => ?_, fun g hg => hW.glob g (by rw [argsF_gm] at hg; exact hg)⟩
        · rw [argsF_get] at hu
          split at hu
          · rename_i ht
            simp only [Nat.sub_zero] at hu
            obtain ⟨c, h1, h2⟩ := hv.get hu
            have hlt := (List.getElem?_eq_some_iff.1 h1).1
            refine ⟨c, ?_, h2⟩
            rw [Array.getElem?_append_left (by simpa using hlt)]
            simpa using h1
          · rw [Frm.init_get] at hu; cases hu
        · rw [argsF_tr] at hu
          simp [Frm.init, Tr.get_nil] at hu
      have fin : ∀ (vs : List Value), resA E F1 A1 fi.res = some vs → v = oneV vs → A' = A1 → ∀ τ a' w', FR τ fi.nt F1 a' → Sim σ A w τ A1 w' → a'.defers = [] ∧ ∃ c, (results fn a'.tmps).run P w' = .ok c w' ∧ ∃ τ' c', Ending.returned c = .returned c' ∧ VR τ' v c' ∧ Sim σ A w τ' A' w' := fun vs hvs hv' hA τ a' w' hf hs => by
        subst hv' hA
        obtain ⟨cs2, h1, h2⟩ := res_ok hE hs.wr hf fi.res vs hvs
        refine ⟨hf.defers, oneV cs2, ?_, τ, oneV cs2, rfl, ?_, hs⟩
        · rw [results_eq, Sem.run_bind, Array.mapM_eq_mapM_toList, g4]
          simp only [Sem.run_map, h1, Result.andThen_ok]
          match cs2 with
          | [] => rfl
          | [c] => rfl
          | c :: d :: r => simp [oneV]
        · match vs, cs2, h2 with
          | [], [], h2 => exact .tuple rfl fun i x y hx hy => by simp at hx
          | [], _ :: _, h2 => have := h2.1; simp at this
          | _ :: _, [], h2 => have := h2.1; simp at this
          | [a], [b], h2 => exact h2.2 0 a b rfl rfl
          | [a], _ :: _ :: _, h2 => have := h2.1; simp at this
          | _ :: _ :: _, [b], h2 => have := h2.1; simp at this
          | a :: a2 :: r, b :: b2 :: s, h2 => exact .tuple (by simpa using h2.1) fun i x y hx hy => h2.2 i x y (by simpa using hx) (by simpa using hy)
      cases x with
      | exit id => simp at h
      | normal =>
        simp only [Option.bind_eq_some_iff, Option.some.injEq, Prod.mk.injEq] at h
        obtain ⟨vs, hvs, e1, e2⟩ := h
        refine (code_ok hE (fn_ok hE L n) L).1 fi.code _ A _ hc σ w _ hW hF _ fun τ a' w' hf hs => ?_
        exact fin vs hvs e1.symm e2.symm τ a' w' hf hs
      | ret =>
        simp only [Option.bind_eq_some_iff, Option.some.injEq, Prod.mk.injEq] at h
        obtain ⟨vs, hvs, e1, e2⟩ := h
        refine (code_ok hE (fn_ok hE L n) L).1 fi.code _ A _ hc σ w _ hW hF _ fun τ a' w' hf hs => ?_
        exact fin vs hvs e1.symm e2.symm τ a' w' hf hs
    · cases h
end Go.Proofs.YtjphohhpnoobfaaDoor.Sx
