/- A reckoner of Go code: what it knows of a program, out of the program. No condition. -/
import Derived.Test.YtjphohhpnoobfaaDoorSx16
namespace Go.Proofs.YtjphohhpnoobfaaDoor.Sx
open Go Go.RowKit
set_option linter.unusedVariables false
set_option linter.unusedSimpArgs false
set_option linter.unusedSectionVars false
variable [Rho]

mutual
noncomputable def odds {α : Type} : List α → List α
  | [] => []
  | x :: r => x :: evens r
noncomputable def evens {α : Type} : List α → List α
  | [] => []
  | _ :: r => odds r
end
theorem odds_evens {α : Type} : ∀ (l : List α) (k : Nat), (odds l)[k]? = l[2 * k]? ∧ (evens l)[k]? = l[2 * k + 1]?
  | [], k => by simp [odds, evens]
  | x :: r, k => by
    constructor
    · cases k with
      | zero => simp [odds]
      | succ k =>
        rw [odds, List.getElem?_cons_succ, (odds_evens r k).2, show 2 * (k + 1) = (2 * k + 1) + 1 from by omega, List.getElem?_cons_succ]
    · rw [evens, (odds_evens r k).1, List.getElem?_cons_succ]
noncomputable def ofList {α : Type} : Nat → List α → Tr α
  | 0, _ => .nil
  | _ + 1, [] => .nil
  | f + 1, x :: r => .node (some x) (ofList f (odds r)) (ofList f (evens r))
theorem odds_len {α : Type} : ∀ (l : List α), (odds l).length ≤ l.length ∧ (evens l).length ≤ l.length
  | [] => by simp [odds, evens]
  | x :: r => by
    have := odds_len r
    constructor
    · rw [odds]; simp; omega
    · rw [evens]; simp; omega
theorem ofList_get {α : Type} : ∀ (f : Nat) (l : List α) (k : Nat) (x : α), (ofList f l).get k = some x → l[k]? = some x
  | 0, l, k, x, h => by simp [ofList, Tr.get_nil] at h
  | f + 1, [], k, x, h => by simp [ofList, Tr.get_nil] at h
  | f + 1, y :: r, 0, x, h => by simpa [ofList, Tr.get_zero] using h
  | f + 1, y :: r, k + 1, x, h => by
    simp only [ofList] at h
    rw [List.getElem?_cons_succ]
    by_cases hm : k % 2 = 0
    · rw [Tr.get_even _ _ _ _ hm] at h
      have := ofList_get f _ _ _ h
      rw [(odds_evens r (k / 2)).1, show 2 * (k / 2) = k from by omega] at this
      exact this
    · rw [Tr.get_odd _ _ _ _ hm] at h
      have := ofList_get f _ _ _ h
      rw [(odds_evens r (k / 2)).2, show 2 * (k / 2) + 1 = k from by omega] at this
      exact this

noncomputable def tyI (P : Program) (pl : Bool) (inf : TypeInfo) : Option TyI := match inf.desc with
  | .named _ u => match P.types[u]? with
    | some j => some ⟨j.desc, inf.size, inf.bytes, inf.zero, inf.comparable, pl⟩
    | none => none
  | d => some ⟨d, inf.size, inf.bytes, inf.zero, inf.comparable, pl⟩
noncomputable def fnI (m : Nat) (fn : Func) : Option FnI := fn.body.bind fun c => some ⟨c, fn.ntmps, m, fn.results.toList⟩
noncomputable def fnList : List Nat → List Func → List (Option FnI)
  | _, [] => []
  | ms, f :: r => fnI (ms.headD 0) f :: fnList ms.tail r
theorem fnList_get : ∀ (ms : List Nat) (l : List Func) (k : Nat) (x : Option FnI), (fnList ms l)[k]? = some x → ∃ m fn, l[k]? = some fn ∧ x = fnI m fn
  | ms, [], k, x, h => by simp [fnList] at h
  | ms, f :: r, 0, x, h => by simp [fnList] at h; exact ⟨_, f, rfl, h.symm⟩
  | ms, f :: r, k + 1, x, h => by
    obtain ⟨m, fn, h1, h2⟩ := fnList_get ms.tail r k x (by simpa [fnList] using h)
    exact ⟨m, fn, by simpa using h1, h2⟩
noncomputable def noBlank (l : List Field) : Bool := l.all fun f => !(f.name == "_")
noncomputable def plainB (P : Program) (t : Nat) : Bool := !P.stoodInHeld t && (!P.eqGuardType P.depth t && noBlank (P.fieldsOf t).toList)
noncomputable def tyList (P : Program) : Nat → List TypeInfo → List (Option TyI)
  | _, [] => []
  | t, i :: r => tyI P (plainB P t) i :: tyList P (t + 1) r
theorem tyList_get (P : Program) : ∀ (l : List TypeInfo) (t k : Nat) (x : Option TyI), (tyList P t l)[k]? = some x → ∃ i, l[k]? = some i ∧ x = tyI P (plainB P (t + k)) i
  | [], t, k, x, h => by simp [tyList] at h
  | i :: r, t, 0, x, h => by simp [tyList] at h; exact ⟨i, rfl, h.symm⟩
  | i :: r, t, k + 1, x, h => by
    obtain ⟨j, h1, h2⟩ := tyList_get P r (t + 1) k x (by simpa [tyList] using h)
    exact ⟨j, by simpa using h1, by rw [h2, show t + 1 + k = t + (k + 1) from by omega]⟩
noncomputable def tyTab (P : Program) : Tr (Option TyI) := ofList 64 (tyList P 0 P.types.toList)
noncomputable def fnTab (P : Program) (ms : List Nat) : Tr (Option FnI) := ofList 64 (fnList ms P.funcs.toList)
noncomputable def stdEnv (P : Program) (ms : List Nat) (fs : List Fact) (xs : List Nat) : Env := { ty := fun t => ((tyTab P).get t).bind id, fn := fun f => ((fnTab P ms).get f).bind id, facts := fs, ext := fun f => (xs.contains f) }
noncomputable def FactOK (P : Program) (f : Fact) : Prop := okR f.r = true ∧ ∀ (t : Nat) (w : World), (binOp f.op t (.int f.k (valI f.a)) (.int f.k (valI f.b))).run P w = .ok (valV f.r) w
theorem info_of {P : Program} {t : Nat} {inf : TypeInfo} (h : P.types[t]? = some inf) : P.info? t = some inf := by
  have hlt : t < P.types.size := (Array.getElem?_eq_some_iff.1 h).1
  show Tables.info? P.toTables t = some inf
  unfold Tables.info?
  rw [if_pos hlt]
  exact h
noncomputable def ExtOK (P : Program) (f : Nat) : Prop := ∀ (a b : ByteArray) (w : World), (callFunc f #[.string a, .string b]).run P w = .ok (.value (.int .i64 (Lib.compareBytes a.data.toList b.data.toList))) w
theorem ext_cmp {P : Program} {f : Nat} {fn : Func} (hf : P.funcs[f]? = some fn) (hname : (fn.name == "runtime.NumGoroutine") = false) (hb : fn.body.isNone = true) (hn : Extern.findNext fn = none) (he : Extern.find fn = some Extern.BytealgCompare.compare) : ExtOK P f := fun a b w => by
  rw [run_callFunc_extern hf hname hb hn he, Lib.run_compareString]
  rfl
theorem stdEnv_ok {P : Program} (ms : List Nat) {fs : List Fact} {xs : List Nat} (hf : ∀ f ∈ fs, FactOK P f) (hxs : ∀ f ∈ xs, ExtOK P f) (hm : P.follows .mixedOrders = true) (hn : (P.funcs.toList.all fun fn => !(fn.name == "runtime.NumGoroutine")) = true) : EnvOK P (stdEnv P ms fs xs) := by
  refine ⟨fun t i h => ?_, fun f i h => ?_, hm, hf, fun t i h hp => ?_, fun f h => hxs f (by simpa [stdEnv] using h)⟩
  · simp only [stdEnv, Option.bind_eq_some_iff, id] at h
    obtain ⟨x, h1, rfl⟩ := h
    have h2 := ofList_get _ _ _ _ h1
    obtain ⟨inf, h3, h4⟩ := tyList_get P _ _ _ _ h2
    have h4 := h4.symm
    have h5 : P.info? t = some inf := info_of (by simpa using h3)
    unfold tyI at h4
    split at h4
    · rename_i nm u hd
      split at h4
      · rename_i j hj
        cases h4
        refine ⟨?_, inf, h5, rfl, rfl, rfl, rfl⟩
        unfold Program.underlying
        rw [h5]
        obtain ⟨d0, s0, z0, b0, p0, a0, f0, zz, c0, m0⟩ := inf
        simp only at hd
        subst hd
        simp only [info_of hj, Option.map_some]
      · cases h4
    · rename_i d hd
      cases h4
      refine ⟨?_, inf, h5, rfl, rfl, rfl, rfl⟩
      unfold Program.underlying
      rw [h5]
      obtain ⟨d0, s0, z0, b0, p0, a0, f0, zz, c0, m0⟩ := inf
      cases d0 <;> first | rfl | exact absurd rfl (hd _ _)
  · simp only [stdEnv, Option.bind_eq_some_iff, id] at h
    obtain ⟨x, h1, rfl⟩ := h
    have h2 := ofList_get _ _ _ _ h1
    obtain ⟨m, fn, h3, h4⟩ := fnList_get _ _ _ _ h2
    have h4 := h4.symm
    simp only [fnI, Option.bind_eq_some_iff, Option.some.injEq] at h4
    obtain ⟨c, hc, h4⟩ := h4
    subst h4
    refine ⟨fn, by simpa using h3, by rw [hc], rfl, rfl, ?_⟩
    have := List.all_eq_true.1 hn fn (List.mem_of_getElem? h3)
    simpa using this
  · simp only [stdEnv, Option.bind_eq_some_iff, id] at h
    obtain ⟨x, h1, rfl⟩ := h
    have h2 := ofList_get _ _ _ _ h1
    obtain ⟨inf, h3, h4⟩ := tyList_get P _ _ _ _ h2
    have h4 := h4.symm
    have hpl : plainB P (0 + t) = true := by
      unfold tyI at h4
      split at h4
      · split at h4
        · cases h4; exact hp
        · cases h4
      · cases h4; exact hp
    rw [Nat.zero_add] at hpl
    simp only [plainB, Bool.and_eq_true, Bool.not_eq_true', noBlank] at hpl
    refine ⟨hpl.1, hpl.2.1, fun f hf' => ?_⟩
    have := List.all_eq_true.1 hpl.2.2 f hf'
    simpa using this
noncomputable def isTrue : Option (Value × AW) → Bool
  | some (.bool true, _) => true
  | _ => false
end Go.Proofs.YtjphohhpnoobfaaDoor.Sx
