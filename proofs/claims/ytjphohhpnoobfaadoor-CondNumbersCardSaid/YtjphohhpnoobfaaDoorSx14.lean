/- A reckoner of Go code: a region whose order is open, carried out. No condition. -/
import Derived.Test.YtjphohhpnoobfaaDoorSx13
namespace Go.Proofs.YtjphohhpnoobfaaDoor.Sx
open Go Go.RowKit
set_option linter.unusedVariables false
set_option linter.unusedSimpArgs false
set_option linter.unusedSectionVars false
variable [Rho]

/-! ### two values that are the same -/
noncomputable def optEq : Option Addr → Option Addr → Bool
  | none, none => true
  | some ⟨a, b, none⟩, some ⟨c, d, none⟩ => Nat.beq a c && Nat.beq b d
  | _, _ => false
theorem optEq_eq {a b : Option Addr} (h : optEq a b = true) : a = b := by
  unfold optEq at h
  split at h
  · rfl
  · simp only [Bool.and_eq_true, Nat.beq_eq] at h
    obtain ⟨rfl, rfl⟩ := h
    rfl
  · cases h
noncomputable def veq0 : Value → Value → Bool
  | .bool a, .bool b => a == b
  | .int k a, .int k' b => kindEq k k' && intEq a b
  | .string a, .string b => beqB (lst a) (lst b)
  | .pointer a, .pointer b => optEq a b
  | .slice a n c, .slice b m d => optEq a b && Nat.beq n m && Nat.beq c d
  | .map none, .map none => true
  | .map (some a), .map (some b) => Nat.beq a b
  | .nilFunc, .nilFunc => true
  | .nilIface, .nilIface => true
  | .func (.func f) a c, .func (.func g) b d => Nat.beq f g && (a.isEmpty && (c.isEmpty && (b.isEmpty && d.isEmpty)))
  | _, _ => false
theorem veq0_eq {a b : Value} (h : veq0 a b = true) : a = b := by
  unfold veq0 at h
  split at h
  · simp at h; rw [h]
  · simp only [Bool.and_eq_true] at h
    obtain ⟨h1, h2⟩ := h
    rw [intEq_eq] at h2
    have h3 : _ = _ := eq_of_beq h2
    rw [kindEq_eq h1, h3]
  · rw [beqB_eq] at h
    have h2 := eq_of_beq h
    have := congrArg mkS h2
    rw [mkS_lst, mkS_lst] at this
    rw [this]
  · rw [optEq_eq h]
  · simp only [Bool.and_eq_true, Nat.beq_eq] at h
    obtain ⟨⟨h1, rfl⟩, rfl⟩ := h
    rw [optEq_eq h1]
  · rfl
  · simp only [Nat.beq_eq] at h; rw [h]
  · rfl
  · rfl
  · simp only [Bool.and_eq_true, Nat.beq_eq, Array.isEmpty_iff] at h
    obtain ⟨rfl, rfl, rfl, rfl, rfl⟩ := h
    rfl
  · cases h
noncomputable def veqs : List Value → List Value → Bool
  | [], [] => true
  | a :: x, b :: y => bif veq0 a b then veqs x y else false
  | _, _ => false
theorem veqs_eq : ∀ {x y : List Value}, veqs x y = true → x = y
  | [], [], _ => rfl
  | [], _ :: _, h => by cases h
  | _ :: _, [], h => by cases h
  | a :: x, b :: y, h => by
    simp only [veqs, Bool.cond_eq_ite] at h
    split at h
    · rename_i h1; rw [veq0_eq h1, veqs_eq h]
    · cases h
noncomputable def veq1 : Value → Value → Bool
  | .agg a, .agg b => veqs a.toList b.toList
  | .iface t v, .iface u w => Nat.beq t u && veq0 v w
  | .func (.func f) a c, .func (.func g) b d => Nat.beq f g && (veqs a.toList b.toList && veqs c.toList d.toList)
  | a, b => veq0 a b
theorem veq1_eq {a b : Value} (h : veq1 a b = true) : a = b := by
  unfold veq1 at h
  split at h
  · rw [Array.ext' (veqs_eq h)]
  · simp only [Bool.and_eq_true, Nat.beq_eq] at h
    obtain ⟨rfl, h⟩ := h
    rw [veq0_eq h]
  · simp only [Bool.and_eq_true, Nat.beq_eq] at h
    obtain ⟨rfl, h1, h2⟩ := h
    rw [Array.ext' (veqs_eq h1), Array.ext' (veqs_eq h2)]
  · exact veq0_eq h
noncomputable def veqs1 : List Value → List Value → Bool
  | [], [] => true
  | a :: x, b :: y => bif veq1 a b then veqs1 x y else false
  | _, _ => false
theorem veqs1_eq : ∀ {x y : List Value}, veqs1 x y = true → x = y
  | [], [], _ => rfl
  | [], _ :: _, h => by cases h
  | _ :: _, [], h => by cases h
  | a :: x, b :: y, h => by
    simp only [veqs1, Bool.cond_eq_ite] at h
    split at h
    · rename_i h1; rw [veq1_eq h1, veqs1_eq h]
    · cases h
noncomputable def veq : Value → Value → Bool
  | .tuple a, .tuple b => veqs1 a.toList b.toList
  | a, b => veq1 a b
theorem veq_eq {a b : Value} (h : veq a b = true) : a = b := by
  unfold veq at h
  split at h
  · rw [Array.ext' (veqs1_eq h)]
  · exact veq1_eq h

/-! ### one order of them -/
noncomputable def cnt (E : Env) : List Oper → Nat → Nat
  | [], _ => 0
  | _ :: _, 0 => 0
  | o :: r, i + 1 => (bif quietOp E o.op then 0 else 1) + cnt E r i
noncomputable def traceA (call : Caller) (E : Env) (nt : Nat) (ops : Array Oper) : List Oper → Frm → AW → Option (List (Frm × Value) × Frm × List AW)
  | [], F, A => some ([], F, [A])
  | o :: r, F, A => (stepA call E nt ops F A o).bind fun p => (putF nt F o.dst p.1).bind fun G => (traceA call E nt ops r G p.2).bind fun q =>
    some ((F, p.1) :: q.1, q.2.1, bif quietOp E o.op then q.2.2 else A :: q.2.2)
noncomputable def lastA : List AW → Option AW
  | [] => none
  | [A] => some A
  | _ :: r => lastA r
noncomputable def dstNe : Option Nat → Option Nat → Bool
  | some a, some b => !Nat.beq a b
  | _, _ => true
noncomputable def okS (E : Env) (ops : Array Oper) : Bool :=
  (List.range ops.toList.length).all fun i => match ops.toList[i]? with
    | none => false
    | some o => (o.after.toList.all fun e => bif Region.binds .any e then Nat.blt e.on i else true) &&
      ((List.range ops.toList.length).all fun j => match ops.toList[j]? with
        | none => false
        | some o' => (bif Nat.beq i j then true else dstNe o.dst o'.dst) &&
          ((match o'.dst with
            | none => true
            | some t => bif (looks ops o).contains t then Nat.blt j i && ((masks ops.toList []).getD i 0).testBit j else true) &&
          (bif quietOp E o.op then true else bif quietOp E o'.op then true else bif Nat.blt j i then ((masks ops.toList []).getD i 0).testBit j else true)))
noncomputable def may (E : Env) (l : List Oper) (i k : Nat) : Bool :=
  (List.range l.length).all fun j => match l[j]? with
    | none => true
    | some o' => bif quietOp E o'.op then true else (bif ((masks l []).getD i 0).testBit j then Nat.blt (cnt E l j) k else true) && (bif ((masks l []).getD j 0).testBit i then !Nat.blt (cnt E l j) k else true)
noncomputable def okQ (call : Caller) (E : Env) (nt : Nat) (ops : Array Oper) (tr : List (Frm × Value)) (Bs : List AW) : Bool :=
  (List.range ops.toList.length).all fun i => match ops.toList[i]?, tr[i]? with
    | some o, some p => bif quietOp E o.op then (List.range Bs.length).all fun k => bif Nat.beq k (cnt E ops.toList i) then true else bif may E ops.toList i k then
        (match Bs[k]? with
          | some B => match stepA call E nt ops p.1 B o with
            | some q => veq q.1 p.2
            | none => false
          | none => false)
        else true
      else true
    | _, _ => false
noncomputable def evalDraw (call : Caller) (E : Env) (nt : Nat) (ops : Array Oper) (F : Frm) (A : AW) : Option (Frm × AW) :=
  bif okS E ops then (traceA call E nt ops ops.toList F A).bind fun q => bif okQ call E nt ops q.1 q.2.2 then (lastA q.2.2).bind fun B => some (q.2.1, B) else none else none

section
variable {P : Program} {E : Env} {call : Caller} {nt : Nat} {ops : Array Oper}
theorem step_quiet {F : Frm} {A A' : AW} {o : Oper} {v : Value} (hq : quietOp E o.op = true) (h : stepA call E nt ops F A o = some (v, A')) : A' = A := by
  unfold stepA at h
  split at h
  · simp only [Option.bind_eq_some_iff] at h
    obtain ⟨r, hr, h⟩ := h
    obtain ⟨u, rfl⟩ := quiet_same hq hr
    simp only [Option.some.injEq, Prod.mk.injEq] at h
    exact h.2.symm
  · simp only [Option.some.injEq, Prod.mk.injEq] at h
    exact h.2.symm
  · cases h
theorem putF_get {F G : Frm} {d : Option Nat} {v : Value} (h : putF nt F d v = some G) (t : Nat) : G.get t = if d = some t then some v else F.get t := by
  cases d with
  | none => cases h; simp
  | some d =>
    simp only [putF, Bool.cond_eq_ite] at h
    split at h
    · cases h
    · cases h
      rw [Frm.get_push]
      by_cases e : t = d
      · subst e; simp
      · rw [if_neg e, if_neg (by simpa using Ne.symm e)]
theorem putF_gm {F G : Frm} {d : Option Nat} {v : Value} (h : putF nt F d v = some G) : G.gm = F.gm := by
  cases d with
  | none => cases h; rfl
  | some d =>
    simp only [putF, Bool.cond_eq_ite] at h
    split at h
    · cases h
    · cases h; rfl
theorem trace_gm : ∀ (l : List Oper) (F : Frm) (A : AW) (tr : List (Frm × Value)) (G : Frm) (Bs : List AW), traceA call E nt ops l F A = some (tr, G, Bs) →
    G.gm = F.gm ∧ ∀ (i : Nat) (Fi : Frm) (v : Value), tr[i]? = some (Fi, v) → Fi.gm = F.gm
  | [], F, A, tr, G, Bs, h => by
    cases h
    exact ⟨rfl, fun i Fi v h => by simp at h⟩
  | o :: r, F, A, tr, G, Bs, h => by
    simp only [traceA, Option.bind_eq_some_iff] at h
    obtain ⟨⟨v, A'⟩, h1, H, h2, ⟨tr', G', Bs'⟩, h3, h⟩ := h
    simp only [Option.some.injEq, Prod.mk.injEq] at h
    obtain ⟨rfl, rfl, _⟩ := h
    obtain ⟨i1, i2⟩ := trace_gm r H A' tr' G' Bs' h3
    have hH := putF_gm h2
    refine ⟨i1.trans hH, fun i Fi u hi => ?_⟩
    cases i with
    | zero => simp at hi; rw [hi.1]
    | succ i => rw [i2 i Fi u (by simpa using hi), hH]
theorem trace_spec : ∀ (l : List Oper) (F : Frm) (A : AW) (tr : List (Frm × Value)) (G : Frm) (Bs : List AW), traceA call E nt ops l F A = some (tr, G, Bs) →
    Bs[0]? = some A ∧ Bs.length = cnt E l l.length + 1 ∧ (∀ t : Nat, (∀ (j : Nat) (o : Oper), l[j]? = some o → o.dst ≠ some t) → G.get t = F.get t) ∧
    ∀ (i : Nat) (o : Oper), l[i]? = some o → ∃ Fi vi Bi Bi' Gi, tr[i]? = some (Fi, vi) ∧ Bs[cnt E l i]? = some Bi ∧ stepA call E nt ops Fi Bi o = some (vi, Bi') ∧ Bs[cnt E l (i + 1)]? = some Bi' ∧ putF nt Fi o.dst vi = some Gi ∧
      (∀ t : Nat, (∀ (j : Nat) (o' : Oper), i ≤ j → l[j]? = some o' → o'.dst ≠ some t) → G.get t = Fi.get t) ∧ (∀ t : Nat, o.dst = some t → (∀ (j : Nat) (o' : Oper), i < j → l[j]? = some o' → o'.dst ≠ some t) → G.get t = some vi)
  | [], F, A, tr, G, Bs, h => by
    cases h
    exact ⟨rfl, rfl, fun _ _ => rfl, fun i o h => by simp at h⟩
  | o :: r, F, A, tr, G, Bs, h => by
    simp only [traceA, Option.bind_eq_some_iff] at h
    obtain ⟨⟨v, A'⟩, h1, H, h2, ⟨tr', G', Bs'⟩, h3, h⟩ := h
    simp only [Option.some.injEq, Prod.mk.injEq] at h
    obtain ⟨rfl, rfl, hBs⟩ := h
    obtain ⟨i1, i2, i3, i4⟩ := trace_spec r H A' tr' G' Bs' h3
    have hG : ∀ t : Nat, (∀ (j : Nat) (o' : Oper), r[j]? = some o' → o'.dst ≠ some t) → G'.get t = if o.dst = some t then some v else F.get t := fun t ht => by rw [i3 t ht, putF_get h2]
    have hshift : ∀ i, Bs[(bif quietOp E o.op then 0 else 1) + i]? = Bs'[i]? := fun i => by
      rw [← hBs]
      cases quietOp E o.op with
      | true => simp
      | false => simp [Nat.add_comm 1 i]
    have h0 : Bs[0]? = some A := by
      cases hq : quietOp E o.op with
      | true =>
        have := step_quiet hq h1
        subst this
        have := hshift 0
        simp only [hq, cond_true, Nat.add_zero] at this
        rw [this, i1]
      | false => rw [← hBs, hq]; rfl
    refine ⟨h0, ?_, fun t ht => ?_, fun i o' hi => ?_⟩
    · rw [← hBs]
      simp only [List.length_cons, cnt]
      cases quietOp E o.op <;> simp [i2]; omega
    · rw [hG t fun j o' hj => ht (j + 1) o' (by simpa using hj), if_neg (ht 0 o rfl)]
    · cases i with
      | zero =>
        simp at hi
        subst hi
        have hc1 : cnt E (o :: r) 1 = (bif quietOp E o.op then 0 else 1) + cnt E r 0 := rfl
        have hc0 : cnt E r 0 = 0 := by cases r <;> rfl
        refine ⟨F, v, A, A', H, rfl, h0, h1, by rw [hc1, hc0, hshift, i1], h2, fun t ht => ?_, fun t ht hn => ?_⟩
        · rw [hG t fun j o' hj => ht (j + 1) o' (by omega) (by simpa using hj), if_neg (ht 0 o (Nat.le_refl _) rfl)]
        · rw [hG t fun j o' hj => hn (j + 1) o' (by omega) (by simpa using hj), if_pos ht]
      | succ i =>
        obtain ⟨Fi, vi, Bi, Bi', Gi, j1, j2, j3, j4, j5, j6, j7⟩ := i4 i o' (by simpa using hi)
        exact ⟨Fi, vi, Bi, Bi', Gi, by simpa using j1, by rw [cnt, hshift]; exact j2, j3, by rw [cnt, hshift]; exact j4, j5,
          fun t ht => j6 t fun j o2 hij hj => ht (j + 1) o2 (by omega) (by simpa using hj), fun t ht hn => j7 t ht fun j o2 hij hj => hn (j + 1) o2 (by omega) (by simpa using hj)⟩
theorem cnt_succ : ∀ (l : List Oper) (i : Nat) (o : Oper), l[i]? = some o → cnt E l (i + 1) = cnt E l i + (bif quietOp E o.op then 0 else 1)
  | [], i, o, h => by simp at h
  | o' :: r, 0, o, h => by
    simp at h
    subst h
    have hc0 : cnt E r 0 = 0 := by cases r <;> rfl
    simp [cnt, hc0]
  | o' :: r, i + 1, o, h => by
    rw [cnt, cnt_succ r i o (by simpa using h), cnt]
    omega
theorem cnt_mono : ∀ (l : List Oper) (i j : Nat), i ≤ j → j ≤ l.length → cnt E l i ≤ cnt E l j := by
  intro l i j hij
  induction hij with
  | refl => intro _; exact Nat.le_refl _
  | step h ih =>
    rename_i m
    intro hj
    have := cnt_succ (E := E) l m _ (List.getElem?_eq_getElem (by omega))
    have := ih (by omega)
    show cnt E l i ≤ cnt E l (m + 1)
    omega
theorem cnt_hit : ∀ (l : List Oper) (i k : Nat), i ≤ l.length → k < cnt E l i → ∃ j o, j < i ∧ l[j]? = some o ∧ quietOp E o.op = false ∧ cnt E l j = k
  | l, 0, k, h, hk => by cases l <;> simp [cnt] at hk
  | l, i + 1, k, h, hk => by
    have ho : l[i]? = some l[i] := List.getElem?_eq_getElem (by omega)
    have := cnt_succ (E := E) l i _ ho
    by_cases hki : k < cnt E l i
    · obtain ⟨j, o, h1, h2⟩ := cnt_hit l i k (by omega) hki
      exact ⟨j, o, by omega, h2⟩
    · refine ⟨i, _, by omega, ho, ?_, ?_⟩
      · cases hq : quietOp E l[i].op with
        | true => rw [hq] at this; simp at this; omega
        | false => rfl
      · cases hq : quietOp E l[i].op with
        | true => rw [hq] at this; simp at this; omega
        | false => rw [hq] at this; simp at this; omega
theorem lastA_of : ∀ {Bs : List AW} {B : AW}, lastA Bs = some B → Bs[Bs.length - 1]? = some B
  | [], B, h => by cases h
  | [A], B, h => by cases h; rfl
  | A :: A' :: r, B, h => by
    have := lastA_of (Bs := A' :: r) h
    simpa using this

/-- What okS says. -/
structure OkS (E : Env) (ops : Array Oper) : Prop where
  lt : ∀ (i : Nat) (o : Oper), ops.toList[i]? = some o → ∀ e ∈ o.after, Region.binds .any e = true → e.on < i
  dst : ∀ (i j : Nat) (o o' : Oper), ops.toList[i]? = some o → ops.toList[j]? = some o' → i ≠ j → ∀ t, o.dst = some t → o'.dst ≠ some t
  look : ∀ (i j : Nat) (o o' : Oper), ops.toList[i]? = some o → ops.toList[j]? = some o' → ∀ t, o'.dst = some t → t ∈ looks ops o → j < i ∧ ((masks ops.toList []).getD i 0).testBit j = true
  chain : ∀ (i j : Nat) (o o' : Oper), ops.toList[i]? = some o → ops.toList[j]? = some o' → quietOp E o.op = false → quietOp E o'.op = false → j < i → ((masks ops.toList []).getD i 0).testBit j = true
theorem okS_of (h : okS E ops = true) : OkS E ops := by
  unfold okS at h
  rw [List.all_eq_true] at h
  have hi : ∀ (i : Nat) (o : Oper), ops.toList[i]? = some o → i ∈ List.range ops.toList.length := fun i o ho => List.mem_range.2 (List.getElem?_eq_some_iff.1 ho).1
  have one : ∀ (i : Nat) (o : Oper), ops.toList[i]? = some o → _ := fun i o ho => by
    have := h i (hi i o ho)
    rw [ho] at this
    exact this
  simp only [Bool.and_eq_true, List.all_eq_true] at one
  have two : ∀ (i j : Nat) (o o' : Oper), ops.toList[i]? = some o → ops.toList[j]? = some o' → _ := fun i j o o' ho ho' => by
    have := (one i o ho).2 j (hi j o' ho')
    rw [ho'] at this
    exact this
  simp only [Bool.and_eq_true] at two
  refine ⟨fun i o ho e he hb => ?_, fun i j o o' ho ho' hne t ht ht' => ?_, fun i j o o' ho ho' t ht hl => ?_, fun i j o o' ho ho' hq hq' hlt => ?_⟩
  · have := (one i o ho).1 e (by simpa using he)
    rw [hb] at this
    have : Nat.blt e.on i = true := this
    simp [Nat.blt] at this
    omega
  · have := (two i j o o' ho ho').1
    have hb : Nat.beq i j = false := by rw [Bool.eq_false_iff]; simpa using hne
    rw [hb, ht, ht'] at this
    simp [dstNe] at this
  · have := (two i j o o' ho ho').2.1
    rw [ht] at this
    simp only at this
    have hc : (looks ops o).contains t = true := by simpa using hl
    rw [hc] at this
    simp only [cond_true, Bool.and_eq_true] at this
    refine ⟨?_, this.2⟩
    have := this.1
    simp [Nat.blt] at this
    omega
  · have := (two i j o o' ho ho').2.2
    have hb : Nat.blt j i = true := by simp [Nat.blt]; omega
    rw [hq, hq', hb] at this
    exact this
end
end Go.Proofs.YtjphohhpnoobfaaDoor.Sx
