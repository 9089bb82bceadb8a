/- A reckoner of Go code: one operation. No condition. -/
import Derived.Test.YtjphohhpnoobfaaDoorSx10
namespace Go.Proofs.YtjphohhpnoobfaaDoor.Sx
open Go Go.RowKit
set_option linter.unusedVariables false
set_option linter.unusedSimpArgs false
set_option linter.unusedSectionVars false
variable [Rho]

inductive Res where
  | val (v : Value) (A : AW)
  | skip (A : AW)
  | call (f : Nat) (args : List Value)
noncomputable def evs (F : Frm) : List Operand → Option (List Value)
  | [] => some []
  | x :: r => (ev F x).bind fun v => (evs F r).bind fun l => some (v :: l)
noncomputable def evo (F : Frm) : Option Operand → Option (Option Value)
  | none => some none
  | some x => (ev F x).bind fun v => some (some v)
noncomputable def evp (F : Frm) : List (Nat × Operand) → Option (List (Nat × Value))
  | [] => some []
  | p :: r => (ev F p.2).bind fun v => (evp F r).bind fun l => some ((p.1, v) :: l)
noncomputable def rv (A : AW) (x : Option Value) : Option Res := x.bind fun v => some (.val v A)
noncomputable def rva (x : Option (Value × AW)) : Option Res := x.bind fun r => some (.val r.1 r.2)
noncomputable def rs (x : Option AW) : Option Res := x.bind fun A => some (.skip A)
noncomputable def doPick (c a b : Value) : Option Value := match c with
  | .bool true => some a
  | .bool false => some b
  | _ => none
noncomputable def isFn : Fn → Bool
  | .func _ => true
  | _ => false
/-- strings.Compare. -/
noncomputable def cmpA (a b : List UInt8) : Int := bif beqB a b then 0 else bif lessB a b then -1 else 1
theorem cmpA_eq : ∀ (a b : List UInt8), Lib.compareBytes a b = cmpA a b
  | [], [] => rfl
  | [], _ :: _ => rfl
  | _ :: _, [] => rfl
  | a :: x, b :: y => by
    have ih := cmpA_eq x y
    have hab : (a < b) = (a.toNat < b.toNat) := by rw [UInt8.lt_iff_toNat_lt]
    have hba : (b < a) = (b.toNat < a.toNat) := by rw [UInt8.lt_iff_toNat_lt]
    simp only [Lib.compareBytes, hab, hba, cmpA, beqB, lessB, Bool.cond_eq_ite]
    by_cases h : a.toNat = b.toNat
    · have hb : Nat.beq a.toNat b.toNat = true := by simpa using h
      rw [if_neg (by omega), if_neg (by omega)]
      simp only [hb, if_true]
      rw [ih, cmpA, Bool.cond_eq_ite, Bool.cond_eq_ite]
    · have hb : Nat.beq a.toNat b.toNat = false := by rw [Bool.eq_false_iff]; simpa using h
      simp only [hb, Bool.false_eq_true, if_false]
      by_cases hlt : a.toNat < b.toNat
      · rw [if_pos hlt, if_pos (by rw [Nat.ble_eq]; omega)]
      · rw [if_neg hlt, if_pos (by omega), if_neg (by rw [Nat.ble_eq]; omega)]
theorem cmpA_lit (a b : List UInt8) : isLit (cmpA a b) = true := by
  unfold cmpA
  cases beqB a b <;> cases lessB a b <;> rfl
noncomputable def doExt (A : AW) : List Value → Option Res
  | [.string a, .string b] => some (.val (.int .i64 (cmpA (lst a) (lst b))) A)
  | _ => none
noncomputable def doCall (E : Env) (A : AW) (f : Value) (as : List Value) : Option Res := match f with
  | .func (.func k) first cap => match E.fn k with
    | some _ => some (.call k (first.toList ++ as ++ cap.toList))
    | none => bif E.ext k then doExt A (first.toList ++ as ++ cap.toList) else none
  | _ => none
noncomputable def doBuiltin (E : Env) (A : AW) (b : Builtin) (ts : List Nat) (as : List Value) : Option Res :=
  match b, ts, as with
  | .append, [t, tx], [s, x] => rva (doAppend E A t tx s x)
  | .copy, [t, tx], [d, s] => rva (doCopy E A t d s)
  | .len, [t], [x] => rv A (doLen E A t x)
  | .clear, [t], [x] => (doClear E A t x).bind fun A => some (.val (.tuple #[]) A)
  | .min, _, as => rv A (doMin false as)
  | .max, _, as => rv A (doMin true as)
  | _, _, _ => none
noncomputable def doBinM (E : Env) (A : AW) (op : BinOp) (t : Nat) (c : Bool) (a b : Value) : Option Value := match a, b with
  | .iface u x, .iface v y => doEqI E A op t (.iface u x) (.iface v y)
  | .agg xs, .agg ys => doEqS E op t xs.toList ys.toList
  | a, b => doBin E op t c a b
noncomputable def doConvM (E : Env) (A : AW) (s d : Nat) (v : Value) : Option Res := match doConv E A s d v with
  | some r => some (.val r A)
  | none => rva (doBytes E A s d v)
noncomputable def aMove (E : Env) (F : Frm) (A : AW) (x : Operand) : Option Res := rv A (ev F x)
noncomputable def aPick (E : Env) (F : Frm) (A : AW) (c a b : Operand) : Option Res := (ev F c).bind fun c => (ev F a).bind fun a => (ev F b).bind fun b => rv A (doPick c a b)
noncomputable def aAlloc (E : Env) (F : Frm) (A : AW) (t : Nat) : Option Res := rva (doAlloc E A t)
noncomputable def aBox (E : Env) (F : Frm) (A : AW) (t : Nat) (x : Operand) : Option Res := (ev F x).bind fun v => (E.ty t).bind fun ti => some (.val (doBox A ti.size v).1 (doBox A ti.size v).2)
noncomputable def aBuild (E : Env) (F : Frm) (A : AW) (t : Nat) (ps : Array (Nat × Operand)) : Option Res := (evp F ps.toList).bind fun ps => rv A (doBuild E t ps)
noncomputable def aBuildSlice (E : Env) (F : Frm) (A : AW) (t n : Nat) (ps : Array (Nat × Operand)) : Option Res := (evp F ps.toList).bind fun ps => rva (doBuildSlice E A t n ps)
noncomputable def aLoad (E : Env) (F : Frm) (A : AW) (t : Nat) (x : Operand) : Option Res := (ev F x).bind fun v => rv A (doLoad E A t v)
noncomputable def aStore (E : Env) (F : Frm) (A : AW) (t : Nat) (x y : Operand) : Option Res := (ev F x).bind fun a => (ev F y).bind fun v => rs (doStore E A t v a)
noncomputable def aNilCheck (E : Env) (F : Frm) (A : AW) (x : Operand) : Option Res := (ev F x).bind fun v => rv A (doNilCheck v)
noncomputable def aBinOp (E : Env) (F : Frm) (A : AW) (op : BinOp) (t : Nat) (x y : Operand) : Option Res := (ev F x).bind fun a => (ev F y).bind fun b => rv A (doBinM E A op t (isC x || isC y) a b)
noncomputable def aUnOp (E : Env) (F : Frm) (A : AW) (op : UnOp) (x : Operand) : Option Res := (ev F x).bind fun v => rv A (doUn E op v)
noncomputable def aConvert (E : Env) (F : Frm) (A : AW) (s d : Nat) (x : Operand) : Option Res := (ev F x).bind fun v => doConvM E A s d v
noncomputable def aMakeInterface (E : Env) (F : Frm) (A : AW) (t : Nat) (x : Operand) : Option Res := (ev F x).bind fun v => rv A (doMkI E t v)
noncomputable def aMakeFunc (E : Env) (F : Frm) (A : AW) (fn : Fn) (first cap : Array Operand) : Option Res := bif isFn fn then (evs F first.toList).bind fun a => (evs F cap.toList).bind fun c => some (.val (.func fn a.toArray c.toArray) A) else none
noncomputable def aMakeSlice (E : Env) (F : Frm) (A : AW) (t : Nat) (l c : Operand) : Option Res := (ev F l).bind fun l => (ev F c).bind fun c => rva (doMake E A t l c)
noncomputable def aSlice (E : Env) (F : Frm) (A : AW) (t : Nat) (x : Operand) (lo hi mx : Option Operand) : Option Res := bif mx.isSome && !hi.isSome then none else (ev F x).bind fun x => (evo F lo).bind fun lo => (evo F hi).bind fun hi => (evo F mx).bind fun mx => rv A (doSlice E A t x lo hi mx)
noncomputable def aFieldAddr (E : Env) (F : Frm) (A : AW) (t : Nat) (x : Operand) (f : Nat) : Option Res := (ev F x).bind fun v => rv A (doFieldAddr E t f v)
noncomputable def aField (E : Env) (F : Frm) (A : AW) (t : Nat) (x : Operand) (f : Nat) : Option Res := (ev F x).bind fun v => rv A (doField E t f v)
noncomputable def aIndexAddr (E : Env) (F : Frm) (A : AW) (t : Nat) (x i : Operand) : Option Res := (ev F x).bind fun v => (ev F i).bind fun i => rv A (doIndexAddr E t v i)
noncomputable def aIndex (E : Env) (F : Frm) (A : AW) (t : Nat) (x i : Operand) : Option Res := (ev F x).bind fun v => (ev F i).bind fun i => rv A (doIndex E t v i)
noncomputable def aLookup (E : Env) (F : Frm) (A : AW) (t : Nat) (m k : Operand) (ok : Bool) : Option Res := (ev F m).bind fun m => (ev F k).bind fun k => rv A (doLookup E A t ok m k)
noncomputable def aMapUpdate (E : Env) (F : Frm) (A : AW) (t : Nat) (m k v : Operand) : Option Res := (ev F m).bind fun m => (ev F k).bind fun k => (ev F v).bind fun v => rs (doUpdate E A t k v m)
noncomputable def aTypeAssert (E : Env) (F : Frm) (A : AW) (x : Operand) (t : Nat) (ok : Bool) : Option Res := (ev F x).bind fun v => rv A (doAssert E t ok v)
noncomputable def aExtract (E : Env) (F : Frm) (A : AW) (x : Operand) (i : Nat) : Option Res := (ev F x).bind fun v => rv A (doExtract i v)
noncomputable def aCall (E : Env) (F : Frm) (A : AW) (c : Call) : Option Res := match c.callee with
    | .value f => (ev F f).bind fun f => (evs F c.args.toList).bind fun as => doCall E A f as
    | .builtin b => (evs F c.args.toList).bind fun as => doBuiltin E A b c.argTypes.toList as
    | _ => none
noncomputable def evalOp (E : Env) (F : Frm) (A : AW) (o : Oper) : Option Res :=
  match o.op with
  | .move x => aMove E F A x
  | .assign x => aMove E F A x
  | .pick c a b => aPick E F A c a b
  | .alloc t => aAlloc E F A t
  | .box t x => aBox E F A t x
  | .build t ps => aBuild E F A t ps
  | .buildSlice t n ps => aBuildSlice E F A t n ps
  | .load t x => aLoad E F A t x
  | .store t x y => aStore E F A t x y
  | .nilCheck x => aNilCheck E F A x
  | .binOp op t x y _ => aBinOp E F A op t x y
  | .unOp op _ x => aUnOp E F A op x
  | .convert s d x => aConvert E F A s d x
  | .makeInterface t x => aMakeInterface E F A t x
  | .makeFunc fn first cap => aMakeFunc E F A fn first cap
  | .makeMap _ none => some (.val (.map (some A.n)) (A.new (.map [])))
  | .makeSlice t l c => aMakeSlice E F A t l c
  | .slice t x lo hi mx => aSlice E F A t x lo hi mx
  | .fieldAddr t x f => aFieldAddr E F A t x f
  | .field t x f => aField E F A t x f
  | .indexAddr t x i => aIndexAddr E F A t x i
  | .index t x i => aIndex E F A t x i
  | .lookup t m k ok => aLookup E F A t m k ok
  | .mapUpdate t m k v => aMapUpdate E F A t m k v
  | .insert t m k v => aMapUpdate E F A t m k v
  | .typeAssert x _ t ok => aTypeAssert E F A x t ok
  | .extract x i => aExtract E F A x i
  | .call c => aCall E F A c
  | _ => none

/-- What an operation comes to. -/
noncomputable def Comes1 (P : Program) (σ : Sg) (A : AW) (w : World) (r : Result Next) : Res → Prop
  | .val v A' => ∃ τ c w', r = .ok (.value c) w' ∧ VR τ v c ∧ Sim σ A w τ A' w'
  | .skip A' => ∃ τ w', r = .ok .skip w' ∧ Sim σ A w τ A' w'
  | .call f args => ∃ cs : List Value, r = .ok (.enter f cs.toArray) w ∧ VRs σ args cs

section
variable {P : Program} {E : Env} (hE : EnvOK P E) {σ : Sg} {A : AW} {w : World} (hW : WR σ A w) {nt : Nat} {F : Frm} {a : Act} (hF : FR σ nt F a)
include hF
theorem evs_ok : ∀ {l : List Operand} {vs : List Value}, evs F l = some vs → VRs σ vs (l.map a.eval)
  | [], vs, h => by cases h; exact VRs.nil σ
  | x :: r, vs, h => by
    simp only [evs, Option.bind_eq_some_iff] at h
    obtain ⟨v, hv, l, hl, h⟩ := h
    cases h
    exact VRs.cons (hF.ev hv) (evs_ok hl)
theorem evo_ok {x : Option Operand} {v : Option Value} (h : evo F x = some v) : VRo σ v (x.map a.eval) := by
  cases x with
  | none => cases h; trivial
  | some x =>
    simp only [evo, Option.bind_eq_some_iff] at h
    obtain ⟨u, hu, h⟩ := h
    cases h
    exact hF.ev hu
theorem evp_ok : ∀ {l : List (Nat × Operand)} {ps : List (Nat × Value)}, evp F l = some ps → VRp σ ps (l.map fun p => (p.1, a.eval p.2))
  | [], ps, h => by cases h; trivial
  | x :: r, ps, h => by
    simp only [evp, Option.bind_eq_some_iff] at h
    obtain ⟨v, hv, l, hl, h⟩ := h
    cases h
    exact ⟨rfl, hF.ev hv, evp_ok hl⟩
omit hF in
theorem fin_v {s : Sem Value} {A' : AW} {v : Value} (h : ∃ c, s.run P w = .ok c w ∧ VR σ v c) (hW : WR σ A w) : Comes1 P σ A w ((do pure (Next.value (← s)) : Sem Next).run P w) (.val v A) := by
  obtain ⟨c, h1, h2⟩ := h
  exact ⟨σ, c, w, by rw [Sem.run_bind, h1]; rfl, h2, .refl hW⟩
omit hF in
theorem fin_va {s : Sem Value} {A' : AW} {v : Value} (h : ∃ c τ w', s.run P w = .ok c w' ∧ VR τ v c ∧ Sim σ A w τ A' w') : Comes1 P σ A w ((do pure (Next.value (← s)) : Sem Next).run P w) (.val v A') := by
  obtain ⟨c, τ, w', h1, h2, h3⟩ := h
  exact ⟨τ, c, w', by rw [Sem.run_bind, h1]; rfl, h2, h3⟩
omit hF in
theorem fin_s {s : Sem Unit} {A' : AW} (h : ∃ w', s.run P w = .ok () w' ∧ Sim σ A w σ A' w') : Comes1 P σ A w ((do s; pure Next.skip : Sem Next).run P w) (.skip A') := by
  obtain ⟨w', h1, h2⟩ := h
  exact ⟨σ, w', by rw [Sem.run_bind, h1]; rfl, h2⟩
omit hF in
theorem rv_of {A : AW} {x : Option Value} {r : Res} (h : rv A x = some r) : ∃ v, x = some v ∧ r = .val v A := by
  simp only [rv, Option.bind_eq_some_iff, Option.some.injEq] at h
  obtain ⟨v, h1, h2⟩ := h
  exact ⟨v, h1, h2.symm⟩
omit hF in
theorem rva_of {x : Option (Value × AW)} {r : Res} (h : rva x = some r) : ∃ v A', x = some (v, A') ∧ r = .val v A' := by
  simp only [rva, Option.bind_eq_some_iff, Option.some.injEq] at h
  obtain ⟨⟨v, A'⟩, h1, h2⟩ := h
  exact ⟨v, A', h1, h2.symm⟩
omit hF in
theorem rs_of {x : Option AW} {r : Res} (h : rs x = some r) : ∃ A', x = some A' ∧ r = .skip A' := by
  simp only [rs, Option.bind_eq_some_iff, Option.some.injEq] at h
  obtain ⟨v, h1, h2⟩ := h
  exact ⟨v, h1, h2.symm⟩
include hE hW in
omit hF in
theorem call_ok {f f' : Value} {as as' : List Value} {r : Res} {o : Oper} {c : Call} (h : doCall E A f as = some r) (hf : VR σ f f') (ha : VRs σ as as') (ρ : Operand → Value) (x : Operand) (hx : ρ x = f') (hc : c.callee = .value x) (hargs : c.args.toList.map ρ = as') (ty : TypeId) :
    Comes1 P σ A w ((do let d ← resolve ρ c ty; invoke d.target d.args : Sem Next).run P w) r := by
  unfold doCall at h
  split at h
  · rename_i k first cap
    cases hf with
    | func _ hok h6 h7 e1 e2 =>
     rename_i first' cap'
     have hcs := (VRs.append (VRs.append (⟨by simpa using h6, fun i x y hx hy => e1 i x y (by simpa using hx) (by simpa using hy)⟩ : VRs σ first.toList first'.toList) ha) (⟨by simpa using h7, fun i x y hx hy => e2 i x y (by simpa using hx) (by simpa using hy)⟩ : VRs σ cap.toList cap'.toList))
     split at h
     case h_2 =>
      rw [Bool.cond_eq_ite] at h
      split at h
      · rename_i hx
        unfold doExt at h
        split at h
        · rename_i a b hl
          cases h
          rw [hl] at hcs
          generalize hq : first'.toList ++ as' ++ cap'.toList = L at hcs
          obtain ⟨a', b', rfl, va, vb⟩ : ∃ a' b', L = [a', b'] ∧ VR σ (.string a) a' ∧ VR σ (.string b) b' := by
            match L, hcs with
            | [], hcs => have := hcs.1; simp at this
            | [_], hcs => have := hcs.1; simp at this
            | _ :: _ :: _ :: _, hcs => have := hcs.1; simp at this
            | [u, v], hcs => exact ⟨u, v, rfl, hcs.2 0 _ _ rfl rfl, hcs.2 1 _ _ rfl rfl⟩
          obtain rfl := va.str_inv
          obtain rfl := vb.str_inv
          refine ⟨σ, .int .i64 (cmpA (lst a) (lst b)), w, ?_, .int _ _ (cmpA_lit _ _), .refl hW⟩
          have hx2 : ρ x = .func (.func k) first' cap' := by assumption
          have e0 : (c.args.map ρ) = as'.toArray := by apply Array.ext'; simpa using hargs
          have e9 : first' ++ as'.toArray ++ cap' = #[.string a, .string b] := by apply Array.ext'; simpa using hq
          simp only [resolve, hc, hx2, Deferred.ofValue, e0]
          simp only [Sem.run_bind, Sem.run_pure, Result.andThen_ok, invoke]
          rw [e9, hE.ext k hx, cmpA_eq]
          rfl
        · cases h
      · cases h
     case h_1 fi hfi =>
      cases h
      obtain ⟨fn, h1, h2, h3, h4, h5⟩ := hE.fn k fi hfi
      refine ⟨first'.toList ++ as' ++ cap'.toList, ?_, ?_⟩
      · have hx2 : ρ x = .func (.func k) first' cap' := hx
        have e0 : (c.args.map ρ) = as'.toArray := by apply Array.ext'; simpa using hargs
        have h5' : ¬ fn.name = "runtime.NumGoroutine" := by simpa using h5
        simp only [resolve, hc, hx2, Deferred.ofValue, e0]
        simp [invoke, callFunc, h1, h2, h5']
      · refine (VRs.append (VRs.append ⟨by simpa using h6, fun i x y hx hy => e1 i x y (by simpa using hx) (by simpa using hy)⟩ ha) ⟨by simpa using h7, fun i x y hx hy => e2 i x y (by simpa using hx) (by simpa using hy)⟩)
  · cases h
include hE hW in
omit hF in
theorem builtin_ok {b : Builtin} {ts : List Nat} {as as' : List Value} {r : Res} {cs : Array Bool} {ty : TypeId} (h : doBuiltin E A b ts as = some r) (ha : VRs σ as as') : Comes1 P σ A w ((builtin b ts.toArray ty cs as'.toArray).run P w) r := by
  unfold doBuiltin at h
  have two : ∀ {x y : Value}, VRs σ [x, y] as' → ∃ x' y', as' = [x', y'] ∧ VR σ x x' ∧ VR σ y y' := fun {x y} ha => by
    match as', ha with
    | [], ha => have := ha.1; simp at this
    | [_], ha => have := ha.1; simp at this
    | _ :: _ :: _ :: _, ha => have := ha.1; simp at this
    | [u, v], ha => exact ⟨u, v, rfl, ha.2 0 _ _ rfl rfl, ha.2 1 _ _ rfl rfl⟩
  have one : ∀ {x : Value}, VRs σ [x] as' → ∃ x', as' = [x'] ∧ VR σ x x' := fun {x} ha => by
    match as', ha with
    | [], ha => have := ha.1; simp at this
    | _ :: _ :: _, ha => have := ha.1; simp at this
    | [u], ha => exact ⟨u, rfl, ha.2 0 _ _ rfl rfl⟩
  split at h
  · obtain ⟨v, A', h1, rfl⟩ := rva_of h
    obtain ⟨x', y', rfl, hx, hy⟩ := two ha
    exact fin_va (append_ok hE hW h1 hx hy)
  · obtain ⟨v, A', h1, rfl⟩ := rva_of h
    obtain ⟨x', y', rfl, hx, hy⟩ := two ha
    obtain ⟨r', w', g1, g2, g3⟩ := copy_ok hE hW h1 hx hy (ty := ty)
    exact fin_va ⟨r', σ, w', g1, g2, g3⟩
  · obtain ⟨v, h1, rfl⟩ := rv_of h
    obtain ⟨x', rfl, hx⟩ := one ha
    exact fin_v (A' := A) (len_ok hE hW h1 hx) hW
  · simp only [Option.bind_eq_some_iff, Option.some.injEq] at h
    obtain ⟨A', h1, h2⟩ := h
    subst h2
    obtain ⟨x', rfl, hx⟩ := one ha
    obtain ⟨w', g1, g2⟩ := clear_ok hE hW h1 hx (ty := ty)
    exact fin_va ⟨_, σ, w', g1, undef_VR σ, g2⟩
  · obtain ⟨v, h1, rfl⟩ := rv_of h
    exact fin_v (A' := A) (min_ok h1 ha) hW
  · obtain ⟨v, h1, rfl⟩ := rv_of h
    exact fin_v (A' := A) (max_ok h1 ha) hW
  · cases h
include hE hW
set_option maxHeartbeats 1000000 in
theorem op_ok {o : Oper} {r : Res} (h : evalOp E F A o = some r) : Comes1 P σ A w ((execOp a.eval o).run P w) r := by
  obtain ⟨dst, op, ty, pos, after, guard⟩ := o
  unfold evalOp at h
  unfold execOp
  cases op <;> simp only [aMove, aPick, aAlloc, aBox, aBuild, aBuildSlice, aLoad, aStore, aNilCheck, aBinOp, aUnOp, aConvert, aMakeInterface, aMakeFunc, aMakeSlice, aSlice, aFieldAddr, aField, aIndexAddr, aIndex, aLookup, aMapUpdate, aTypeAssert, aExtract, aCall, Option.bind_eq_some_iff, reduceCtorEq] at h ⊢
  case move x =>
    obtain ⟨v, h1, rfl⟩ := rv_of h
    exact ⟨σ, _, w, rfl, hF.ev h1, .refl hW⟩
  case assign x =>
    obtain ⟨v, h1, rfl⟩ := rv_of h
    exact ⟨σ, _, w, rfl, hF.ev h1, .refl hW⟩
  case pick c x y =>
    obtain ⟨c', hc, x', hx, y', hy, h⟩ := h
    obtain ⟨v, h1, rfl⟩ := rv_of h
    unfold doPick at h1
    split at h1
    · cases h1
      have := (hF.ev hc).bool_inv
      exact ⟨σ, _, w, by rw [this]; simp [asBool], hF.ev hx, .refl hW⟩
    · cases h1
      have := (hF.ev hc).bool_inv
      exact ⟨σ, _, w, by rw [this]; simp [asBool], hF.ev hy, .refl hW⟩
    · cases h1
  case alloc t =>
    obtain ⟨v, A', h1, rfl⟩ := rva_of h
    exact fin_va (alloc_ok hE hW h1)
  case box t x =>
    obtain ⟨v, hv, ti, hti, h⟩ := h
    cases h
    obtain ⟨w', τ, c, g1, g2, g3⟩ := box_ok hE hW (t := t) (s := ti.size) (hF.ev hv)
    exact fin_va ⟨c, τ, w', g1, g2, g3⟩
  case build t ps =>
    obtain ⟨p, hp, h⟩ := h
    obtain ⟨v, h1, rfl⟩ := rv_of h
    exact fin_v (A' := A) (build_ok hE h1 (by simpa using evp_ok hF hp) w) hW
  case buildSlice t n ps =>
    obtain ⟨p, hp, h⟩ := h
    obtain ⟨v, A', h1, rfl⟩ := rva_of h
    exact fin_va (buildSlice_ok hE hW h1 (by simpa using evp_ok hF hp))
  case load t x =>
    obtain ⟨v, hv, h⟩ := h
    obtain ⟨u, h1, rfl⟩ := rv_of h
    exact fin_v (A' := A) (load_ok hE hW (hF.ev hv) h1) hW
  case store t x y =>
    obtain ⟨v, hv, u, hu, h⟩ := h
    obtain ⟨A', h1, rfl⟩ := rs_of h
    exact fin_s (store_ok hE hW (hF.ev hv) (hF.ev hu) h1)
  case nilCheck x =>
    obtain ⟨v, hv, h⟩ := h
    obtain ⟨u, h1, rfl⟩ := rv_of h
    have hvr := hF.ev hv
    unfold doNilCheck at h1
    split at h1
    · cases h1
      rename_i ad
      obtain ⟨i, o, sp⟩ := ad
      obtain ⟨p, hp, e⟩ := hvr.ptr_inv
      exact ⟨σ, _, w, by rw [e]; rfl, e ▸ hvr, .refl hW⟩
    · cases h1
      generalize a.eval x = c at hvr
      cases hvr with
      | iface _ h => exact ⟨σ, _, w, rfl, .iface _ h, .refl hW⟩
    · cases h1
      generalize a.eval x = c at hvr
      cases hvr with
      | func f hf h6 h7 e1 e2 => exact ⟨σ, _, w, rfl, .func _ hf h6 h7 e1 e2, .refl hW⟩
    · cases h1
  case binOp op t x y yt =>
    obtain ⟨v, hv, u, hu, h⟩ := h
    obtain ⟨r, h1, rfl⟩ := rv_of h
    refine fin_v (A' := A) ?_ hW
    unfold doBinM at h1
    split at h1
    · exact eqI_ok hE hW h1 (hF.ev hv) (hF.ev hu)
    · exact eqS_ok hE h1 (hF.ev hv) (hF.ev hu)
    · exact bin_ok hE w h1 (hF.ev hv) (hF.ev hu)
  case unOp op t x =>
    obtain ⟨v, hv, h⟩ := h
    obtain ⟨r, h1, rfl⟩ := rv_of h
    exact fin_v (A' := A) (un_ok hE w h1 (hF.ev hv)) hW
  case convert s d x =>
    obtain ⟨v, hv, h⟩ := h
    unfold doConvM at h
    split at h
    · rename_i r h1
      cases h
      exact fin_v (A' := A) (conv_ok hE hW h1 (hF.ev hv)) hW
    · obtain ⟨r, A', h1, rfl⟩ := rva_of h
      exact fin_va (bytes_ok hE hW h1 (hF.ev hv))
  case makeInterface t x =>
    obtain ⟨v, hv, h⟩ := h
    obtain ⟨r, h1, rfl⟩ := rv_of h
    exact fin_v (A' := A) (mkI_ok hE h1 (hF.ev hv) w) hW
  case makeFunc fn first cap =>
    rw [Bool.cond_eq_ite] at h
    split at h
    · rename_i hfn
      simp only [Option.bind_eq_some_iff] at h
      obtain ⟨l1, h1, l2, h2, h⟩ := h
      cases h
      have v1 := evs_ok hF h1
      have v2 := evs_ok hF h2
      have hok : fnOk fn = true := by cases fn <;> first | rfl | cases hfn
      refine fin_v (A' := A) ⟨.func fn (first.map a.eval) (cap.map a.eval), rfl, .func fn hok (by simpa using v1.1) (by simpa using v2.1) (fun i x y hx hy => v1.2 i x y (by simpa using hx) ?_) (fun i x y hx hy => v2.2 i x y (by simpa using hx) ?_)⟩ hW
      · simpa using hy
      · simpa using hy
    · cases h
  case makeMap t rr =>
    cases rr with
    | some _ => simp at h
    | none =>
      simp only [Option.some.injEq] at h
      subst h
      obtain ⟨c, τ, w', g1, g2, g3⟩ := makeMap_ok (P := P) hW t
      exact fin_va ⟨c, τ, w', g1, g2, g3⟩
  case makeSlice t l c =>
    obtain ⟨v, hv, u, hu, h⟩ := h
    obtain ⟨r, A', h1, rfl⟩ := rva_of h
    exact fin_va (make_ok hE hW h1 (hF.ev hv) (hF.ev hu))
  case slice t x lo hi mx =>
    rw [Bool.cond_eq_ite] at h
    split at h
    · cases h
    · rename_i hb
      simp only [Option.bind_eq_some_iff] at h
      obtain ⟨x', hx, lo', hlo, hi', hhi, mx', hmx, h⟩ := h
      obtain ⟨r, h1, rfl⟩ := rv_of h
      have iso : ∀ {y : Option Operand} {z : Option Value}, evo F y = some z → z.isSome = y.isSome := fun {y z} hz => by
        cases y with
        | none => cases hz; rfl
        | some y =>
          simp only [evo, Option.bind_eq_some_iff] at hz
          obtain ⟨u, _, hz⟩ := hz
          cases hz; rfl
      refine fin_v (A' := A) (slice_ok hE hW h1 (fun hm => ?_) (hF.ev hx) (evo_ok hF hlo) (evo_ok hF hhi) (evo_ok hF hmx)) hW
      rw [iso hmx] at hm
      rw [iso hhi]
      cases hi <;> simp_all
  case fieldAddr t x f =>
    obtain ⟨v, hv, h⟩ := h
    obtain ⟨r, h1, rfl⟩ := rv_of h
    exact fin_v (A' := A) (fieldAddr_ok hE w h1 (hF.ev hv)) hW
  case field t x f =>
    obtain ⟨v, hv, h⟩ := h
    obtain ⟨r, h1, rfl⟩ := rv_of h
    exact fin_v (A' := A) (field_ok hE w h1 (hF.ev hv)) hW
  case indexAddr t x i =>
    obtain ⟨v, hv, u, hu, h⟩ := h
    obtain ⟨r, h1, rfl⟩ := rv_of h
    exact fin_v (A' := A) (indexAddr_ok hE w h1 (hF.ev hv) (hF.ev hu)) hW
  case index t x i =>
    obtain ⟨v, hv, u, hu, h⟩ := h
    obtain ⟨r, h1, rfl⟩ := rv_of h
    exact fin_v (A' := A) (index_ok hE w h1 (hF.ev hv) (hF.ev hu)) hW
  case lookup t m k ok =>
    obtain ⟨v, hv, u, hu, h⟩ := h
    obtain ⟨r, h1, rfl⟩ := rv_of h
    exact fin_v (A' := A) (lookup_ok hE hW h1 (hF.ev hv) (hF.ev hu)) hW
  case mapUpdate t m k v =>
    obtain ⟨m', hm, k', hk, v', hv, h⟩ := h
    obtain ⟨A', h1, rfl⟩ := rs_of h
    exact fin_s (update_ok hE hW h1 (hF.ev hm) (hF.ev hk) (hF.ev hv))
  case insert t m k v =>
    obtain ⟨m', hm, k', hk, v', hv, h⟩ := h
    obtain ⟨A', h1, rfl⟩ := rs_of h
    exact fin_s (update_ok hE hW h1 (hF.ev hm) (hF.ev hk) (hF.ev hv))
  case typeAssert x xt t ok =>
    obtain ⟨v, hv, h⟩ := h
    obtain ⟨r, h1, rfl⟩ := rv_of h
    exact fin_v (A' := A) (assert_ok hE h1 (hF.ev hv) w) hW
  case extract x i =>
    obtain ⟨v, hv, h⟩ := h
    obtain ⟨r, h1, rfl⟩ := rv_of h
    exact fin_v (A' := A) (extract_ok w h1 (hF.ev hv)) hW
  case call c =>
    split at h
    · rename_i f hc
      simp only [Option.bind_eq_some_iff] at h
      obtain ⟨f', hf, as, has, h⟩ := h
      exact call_ok hE hW h (hF.ev hf) (evs_ok hF has) a.eval f rfl hc rfl ty (o := default)
    · rename_i b hc
      simp only [Option.bind_eq_some_iff] at h
      obtain ⟨as, has, h⟩ := h
      have g := fun cs => builtin_ok hE hW (cs := cs) (ty := ty) h (evs_ok hF has)
      have e0 : (c.args.toList.map a.eval).toArray = c.args.map a.eval := by apply Array.ext'; simp
      simp only [e0, Array.toArray_toList] at g
      simp only [resolve, hc]
      exact g _
    · cases h
end
end Go.Proofs.YtjphohhpnoobfaaDoor.Sx
