/- A reckoner of Go code: a region whose order is open. No condition. -/
import Derived.Test.YtjphohhpnoobfaaDoorSx12
namespace Go.Proofs.YtjphohhpnoobfaaDoor.Sx
open Go Go.RowKit
set_option linter.unusedVariables false
set_option linter.unusedSimpArgs false
set_option linter.unusedSectionVars false
variable [Rho]

/-- An operation that leaves the memory alone. -/
noncomputable def quietOp (E : Env) : Op → Bool
  | .move _ | .pick .. | .build .. | .load .. | .nilCheck _ | .binOp .. | .unOp .. | .makeInterface .. | .makeFunc .. | .slice .. | .fieldAddr .. | .field .. | .indexAddr .. | .index .. | .lookup .. | .typeAssert .. | .extract .. | .assign _ => true
  | .convert _ d _ => match E.ty d with
    | some ti => match ti.desc with
      | .slice _ => false
      | _ => true
    | none => true
  | .call c => match c.callee with
    | .builtin .len | .builtin .min | .builtin .max => true
    | _ => false
  | _ => false
theorem rv_same {A : AW} {x : Option Value} {r : Res} (h : rv A x = some r) : ∃ v, r = .val v A := by
  simp only [rv, Option.bind_eq_some_iff, Option.some.injEq] at h
  obtain ⟨v, _, h⟩ := h
  exact ⟨v, h.symm⟩
theorem quiet_same {E : Env} {F : Frm} {A : AW} {o : Oper} {r : Res} (hq : quietOp E o.op = true) (h : evalOp E F A o = some r) : ∃ v, r = .val v A := by
  obtain ⟨dst, op, ty, pos, after, guard⟩ := o
  unfold evalOp at h
  cases op <;> simp only [quietOp, aMove, aPick, aAlloc, aBox, aBuild, aBuildSlice, aLoad, aStore, aNilCheck, aBinOp, aUnOp, aConvert, aMakeInterface, aMakeFunc, aMakeSlice, aSlice, aFieldAddr, aField, aIndexAddr, aIndex, aLookup, aMapUpdate, aTypeAssert, aExtract, aCall, Option.bind_eq_some_iff, reduceCtorEq] at hq h
  case makeFunc fn first cap =>
    rw [Bool.cond_eq_ite] at h
    split at h
    · simp only [Option.bind_eq_some_iff] at h
      obtain ⟨l1, h1, l2, h2, h⟩ := h
      cases h
      exact ⟨_, rfl⟩
    · cases h
  case slice t x lo hi mx =>
    rw [Bool.cond_eq_ite] at h
    split at h
    · cases h
    · simp only [Option.bind_eq_some_iff] at h
      obtain ⟨x', hx, lo', hlo, hi', hhi, mx', hmx, h⟩ := h
      exact rv_same h
  case convert s d x =>
    obtain ⟨v, hv, h⟩ := h
    unfold doConvM at h
    split at h
    · cases h; exact ⟨_, rfl⟩
    · obtain ⟨r, A', h1, rfl⟩ := rva_of h
      unfold doBytes at h1
      simp only [Option.bind_eq_some_iff] at h1
      obtain ⟨si, hsi, di, hdi, h1⟩ := h1
      rw [hdi] at hq
      split at h1
      · rename_i e0 _
        simp only [e0] at hq
        exact absurd hq (by decide)
      · cases h1
  case call c =>
    split at h
    · rename_i f hc
      rw [hc] at hq
      simp at hq
    · rename_i b hc
      rw [hc] at hq
      simp only [Option.bind_eq_some_iff] at h
      obtain ⟨as, has, h⟩ := h
      unfold doBuiltin at h
      split at h
      · simp at hq
      · simp at hq
      · exact rv_same h
      · simp at hq
      · exact rv_same h
      · exact rv_same h
      · cases h
    · cases h
  all_goals first
    | exact rv_same h
    | (obtain ⟨x1, _, h⟩ := h; exact rv_same h)
    | (obtain ⟨x1, _, x2, _, h⟩ := h; exact rv_same h)
    | (obtain ⟨x1, _, x2, _, x3, _, h⟩ := h; exact rv_same h)

/-! ### what an operation looks at -/
noncomputable def tmpsOf : List Operand → List Nat
  | [] => []
  | .tmp t :: r => t :: tmpsOf r
  | _ :: r => tmpsOf r
theorem ev_congr {F G : Frm} {x : Operand} (hg : F.gm = G.gm) (h : ∀ t, x = .tmp t → F.get t = G.get t) : ev F x = ev G x := by
  cases x with
  | tmp t => exact h t rfl
  | global g => simp only [ev, hg]
  | _ => rfl
theorem evs_congr {F G : Frm} : ∀ {l : List Operand}, (∀ x ∈ l, ev F x = ev G x) → evs F l = evs G l
  | [], _ => rfl
  | x :: r, h => by
    rw [evs, evs, h x (List.mem_cons_self), evs_congr fun y hy => h y (List.mem_cons_of_mem _ hy)]
theorem evp_congr {F G : Frm} : ∀ {l : List (Nat × Operand)}, (∀ x ∈ l, ev F x.2 = ev G x.2) → evp F l = evp G l
  | [], _ => rfl
  | x :: r, h => by
    rw [evp, evp, h x (List.mem_cons_self), evp_congr fun y hy => h y (List.mem_cons_of_mem _ hy)]
theorem evo_congr {F G : Frm} {x : Option Operand} (h : ∀ y, x = some y → ev F y = ev G y) : evo F x = evo G x := by
  cases x with
  | none => rfl
  | some y => rw [evo, evo, h y rfl]
theorem evalOp_congr {E : Env} {F G : Frm} {A : AW} {o : Oper} (h : ∀ x ∈ o.op.operands, ev F x = ev G x) : evalOp E F A o = evalOp E G A o := by
  obtain ⟨dst, op, ty, pos, after, guard⟩ := o
  unfold evalOp
  cases op <;> simp only [Op.operands, aMove, aPick, aAlloc, aBox, aBuild, aBuildSlice, aLoad, aStore, aNilCheck, aBinOp, aUnOp, aConvert, aMakeInterface, aMakeFunc, aMakeSlice, aSlice, aFieldAddr, aField, aIndexAddr, aIndex, aLookup, aMapUpdate, aTypeAssert, aExtract, aCall] at h ⊢
  case build t ps => rw [evp_congr fun x hx => h x.2 (by simpa using ⟨x.1, by simpa using hx⟩)]
  case buildSlice t n ps => rw [evp_congr fun x hx => h x.2 (by simpa using ⟨x.1, by simpa using hx⟩)]
  case makeFunc fn a b => rw [evs_congr (l := a.toList) fun x hx => h x (by simp at hx; simp [hx]), evs_congr (l := b.toList) fun x hx => h x (by simp at hx; simp [hx])]
  case slice t x lo hi mx =>
    rw [h x (by simp), evo_congr (x := lo) fun y hy => h y (by simp [hy]), evo_congr (x := hi) fun y hy => h y (by simp [hy]), evo_congr (x := mx) fun y hy => h y (by simp [hy])]
  case call c =>
    have hargs : evs F c.args.toList = evs G c.args.toList := evs_congr fun x hx => h x (by simp at hx; simp [Call.operands, hx])
    rw [hargs]
    cases hc : c.callee with
    | value f => simp only [h f (by simp [Call.operands, hc])]
    | invoke _ _ => rfl
    | builtin _ => rfl
  case makeMap t r => cases r <;> rfl
  all_goals first
    | rfl
    | (simp at h; simp only [h])
    | (simp at h; simp only [h.1, h.2])
    | (simp at h; simp only [h.1, h.2.1, h.2.2])
noncomputable def looks (ops : Array Oper) (o : Oper) : List Nat := tmpsOf o.op.operands.toList ++ (match o.guard with
  | some (g, _) => match (ops[g]?).bind (·.dst) with
    | some t => [t]
    | none => []
  | none => [])
theorem mem_tmpsOf {l : List Operand} {t : Nat} (h : Operand.tmp t ∈ l) : t ∈ tmpsOf l := by
  induction l with
  | nil => cases h
  | cons x r ih =>
    cases h with
    | head => simp [tmpsOf]
    | tail _ h => cases x <;> simp [tmpsOf, ih h]
theorem stepA_congr {call : Caller} {E : Env} {nt : Nat} {ops : Array Oper} {F G : Frm} {A : AW} {o : Oper} (hgm : F.gm = G.gm) (h : ∀ t ∈ looks ops o, F.get t = G.get t) : stepA call E nt ops F A o = stepA call E nt ops G A o := by
  have h1 : wantedA ops F o = wantedA ops G o := by
    unfold wantedA
    cases hg : o.guard with
    | none => rfl
    | some gb =>
      obtain ⟨g, b⟩ := gb
      simp only
      cases hd : (ops[g]?).bind (·.dst) with
      | none => rfl
      | some t => simp only [h t (by simp [looks, hg, hd])]
  have h2 : evalOp E F A o = evalOp E G A o := evalOp_congr fun x hx => ev_congr hgm fun t ht => h t (List.mem_append_left _ (mem_tmpsOf (by simpa [ht] using hx)))
  unfold stepA
  rw [h1, h2]

/-! ### the order -/
noncomputable def maskOf (acc : List Nat) : List Edge → Nat
  | [] => 0
  | e :: r => bif Region.binds .any e then (1 <<< e.on) ||| (acc.getD e.on 0 ||| maskOf acc r) else maskOf acc r
noncomputable def masks : List Oper → List Nat → List Nat
  | [], acc => acc
  | o :: r, acc => masks r (acc ++ [maskOf acc o.after.toList])
theorem maskOf_bit {acc : List Nat} {p : Nat} : ∀ {es : List Edge}, (maskOf acc es).testBit p = true → ∃ e ∈ es, Region.binds .any e = true ∧ (e.on = p ∨ (acc.getD e.on 0).testBit p = true)
  | [], h => by simp [maskOf] at h
  | e :: r, h => by
    simp only [maskOf, Bool.cond_eq_ite] at h
    split at h
    · rename_i hb
      simp only [Nat.testBit_or, Bool.or_eq_true] at h
      rcases h with h | h | h
      · exact ⟨e, by simp, hb, .inl (by
          rw [Nat.testBit_shiftLeft] at h
          simp only [Bool.and_eq_true, decide_eq_true_eq] at h
          have := h.2
          rcases Nat.lt_or_ge e.on p with h1 | h1
          · have h2 : p - e.on ≠ 0 := by omega
            rw [Nat.testBit_one_eq_true_iff_self_eq_zero] at this
            omega
          · omega)⟩
      · exact ⟨e, by simp, hb, .inr h⟩
      · obtain ⟨e', h1, h2⟩ := maskOf_bit h
        exact ⟨e', List.mem_cons_of_mem _ h1, h2⟩
    · obtain ⟨e', h1, h2⟩ := maskOf_bit h
      exact ⟨e', List.mem_cons_of_mem _ h1, h2⟩
theorem masks_pre : ∀ (l : List Oper) (acc : List Nat), ∃ t, masks l acc = acc ++ t ∧ t.length = l.length
  | [], acc => ⟨[], by simp [masks]⟩
  | o :: r, acc => by
    obtain ⟨t, h1, h2⟩ := masks_pre r (acc ++ [maskOf acc o.after.toList])
    exact ⟨maskOf acc o.after.toList :: t, by rw [masks, h1]; simp, by simp [h2]⟩
theorem masks_at : ∀ (l : List Oper) (acc : List Nat) (i : Nat) (o : Oper), l[i]? = some o → (masks l acc)[acc.length + i]? = some (maskOf ((masks l acc).take (acc.length + i)) o.after.toList)
  | [], acc, i, o, h => by simp at h
  | o' :: r, acc, 0, o, h => by
    simp at h
    subst h
    obtain ⟨t, h1, h2⟩ := masks_pre r (acc ++ [maskOf acc o'.after.toList])
    rw [masks, h1]
    simp
  | o' :: r, acc, i + 1, o, h => by
    have := masks_at r (acc ++ [maskOf acc o'.after.toList]) i o (by simpa using h)
    rw [masks]
    simpa [Nat.add_assoc, Nat.add_comm 1 i] using this
/-- All that stands ahead of an operation is in a set that holds what stands right ahead of each. -/
theorem mask_in {ops : List Oper} {S : Nat → Prop} (hS : ∀ i o, ops[i]? = some o → S i → ∀ e ∈ o.after, Region.binds .any e = true → S e.on) (hlt : ∀ i o, ops[i]? = some o → ∀ e ∈ o.after, Region.binds .any e = true → e.on < i) :
    ∀ (i : Nat) (o : Oper), ops[i]? = some o → (∀ e ∈ o.after, Region.binds .any e = true → S e.on) → ∀ p, ((masks ops []).getD i 0).testBit p = true → S p := by
  intro i
  induction i using Nat.strongRecOn with
  | _ i ih =>
    intro o ho hd p hp
    have := masks_at ops [] i o ho
    simp only [List.length_nil, Nat.zero_add] at this
    rw [List.getD_eq_getElem?_getD, this, Option.getD_some] at hp
    obtain ⟨e, he, hb, h⟩ := maskOf_bit hp
    have he' : e ∈ o.after := by simpa using he
    rcases h with rfl | h
    · exact hd e he' hb
    · have hlt' := hlt i o ho e he' hb
      have hSe := hd e he' hb
      rw [List.getD_eq_getElem?_getD, List.getElem?_take, if_pos hlt', ← List.getD_eq_getElem?_getD] at h
      have hlen : i < ops.length := (List.getElem?_eq_some_iff.1 ho).1
      have ho2 : ops[e.on]? = some ops[e.on] := List.getElem?_eq_getElem (by omega)
      exact ih e.on hlt' _ ho2 (hS e.on _ ho2 hSe) p h
end Go.Proofs.YtjphohhpnoobfaaDoor.Sx
