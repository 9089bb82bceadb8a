/- A reckoner of Go code: comparisons, addresses, parts of values. No condition. -/
import Derived.Test.YtjphohhpnoobfaaDoorSx4
import Derived.LaidEql
import Derived.MapKept
namespace Go.Proofs.YtjphohhpnoobfaaDoor.Sx
open Go Go.RowKit
set_option linter.unusedVariables false
set_option linter.unusedSimpArgs false
set_option linter.unusedSectionVars false
variable [Rho]

theorem equal_unfold (t : TypeId) (x y : Value) : Op.equal t x y = Op.equalIn (9999 + 1) t x y := rfl

section
variable {P : Program} {E : Env} (hE : EnvOK P E) {σ : Sg} (w : World)
theorem eql_run {op : BinOp} {t : TypeId} {x y : Operand} {u v : Value} {b : Bool} (hop : op = .eql ∨ op = .neq) (hg : (eqGuard op t x y u v).run P w = .ok () w)
    (hb : binOp op t u v = (match op with | .eql => (do pure (.bool (← Op.equal t u v))) | _ => (do pure (.bool (!(← Op.equal t u v)))))) (he : (Op.equal t u v).run P w = .ok b w) :
    (do eqGuard op t x y u v; binOp op t u v).run P w = .ok (match op with | .eql => .bool b | _ => .bool !b) w := by
  rw [Sem.run_bind, hg, Result.andThen_ok, hb]
  rcases hop with rfl | rfl <;> simp [he]
include hE in
theorem bin_ok {op : BinOp} {t : TypeId} {x y : Operand} {u u' v v' r : Value} (h : doBin E op t (isC x || isC y) u v = some r) (hu : VR σ u u') (hv : VR σ v v') :
    ∃ r', (do eqGuard op t x y u' v'; binOp op t u' v').run P w = .ok r' w ∧ VR σ r r' := by
  unfold doBin at h
  split at h
  · rename_i k a k' b
    rw [Bool.cond_eq_ite] at h
    split at h
    · rename_i hl
      simp only [Bool.and_eq_true] at hl
      obtain rfl := hu.int_inv hl.1
      obtain rfl := hv.int_inv hl.2
      rw [eqGuard_at_int, Sem.run_bind, Sem.run_pure, Result.andThen_ok]
      split at h
      · obtain ⟨h1, hb⟩ := chk_of h
        exact ⟨r, sh_ok w h1, base_VR σ hb⟩
      · obtain ⟨h1, hb⟩ := chk_of h
        exact ⟨r, sh_ok w h1, base_VR σ hb⟩
      · rw [Bool.cond_eq_ite] at h
        split at h
        · rename_i hk
          obtain rfl := kindEq_eq hk
          obtain ⟨h1, hb⟩ := chk_of h
          exact ⟨r, int_ok w h1, base_VR σ hb⟩
        · cases h
    · rw [Bool.cond_eq_ite] at h
      split at h
      · rename_i hk
        obtain rfl := kindEq_eq hk
        obtain ⟨h1, h2⟩ := fact_ok hE h
        rw [hu.int_val, hv.int_val, eqGuard_at_int, Sem.run_bind, Sem.run_pure, Result.andThen_ok]
        exact ⟨_, h2 t w, .of_valV σ h1⟩
      · cases h
  · rename_i a b
    obtain rfl := hu.str_inv
    obtain rfl := hv.str_inv
    rw [eqGuard_at_string, Sem.run_bind, Sem.run_pure, Result.andThen_ok]
    refine ⟨r, str_ok w h, base_VR σ ?_⟩
    unfold strOp at h
    cases op <;> simp only [Bool.cond_eq_ite, reduceCtorEq, Option.some.injEq] at h
    all_goals first
      | (subst h; rfl)
      | (split at h <;> cases h; rfl)
  · rename_i a b
    obtain rfl := hu.bool_inv
    obtain rfl := hv.bool_inv
    simp only [Option.bind_eq_some_iff] at h
    obtain ⟨ti, hti, h⟩ := h
    obtain ⟨hd, _⟩ := hE.ty t ti hti
    have he : ti.desc = .bool → (Op.equal t (.bool a) (.bool b)).run P w = .ok (a == b) w := fun e => by
      rw [e] at hd
      rw [equal_unfold, Op.equalIn, Sem.run_bind, run_underlying hd]
      rfl
    have hg : (eqGuard op t x y (.bool a) (.bool b)).run P w = .ok () w := by rw [eqGuard_at_bool]; rfl
    split at h
    · rename_i e
      cases h
      exact ⟨_, eql_run w (.inl rfl) hg rfl (he e), .bool _⟩
    · rename_i e
      cases h
      exact ⟨_, eql_run w (.inr rfl) hg rfl (he e), .bool _⟩
    · cases h
  · obtain rfl : u' = .nilIface := by cases hu; rfl
    obtain rfl : v' = .nilIface := by cases hv; rfl
    rw [Bool.cond_eq_ite] at h
    split at h
    · rename_i hc
      have hg : (eqGuard op t x y .nilIface .nilIface).run P w = .ok () w := by
        cases x <;> cases y <;> simp [isC] at hc <;> first | (rw [eqGuard_nil_constL]; rfl) | (rw [eqGuard_nil_constR]; rfl)
      simp only [Option.bind_eq_some_iff] at h
      obtain ⟨ti, hti, h⟩ := h
      obtain ⟨hd, _⟩ := hE.ty t ti hti
      split at h
      · rename_i ms e
        cases h
        rw [e] at hd
        exact ⟨_, eql_run (b := true) w (.inl rfl) hg rfl (by rw [equal_unfold, Op.equalIn, Sem.run_bind, run_underlying hd]; rfl), .bool _⟩
      · rename_i ms e
        cases h
        rw [e] at hd
        exact ⟨_, eql_run (b := true) w (.inr rfl) hg rfl (by rw [equal_unfold, Op.equalIn, Sem.run_bind, run_underlying hd]; rfl), .bool _⟩
      · cases h
    · cases h
  · rename_i _ _ _ hnn
    simp only [Option.bind_eq_some_iff] at h
    obtain ⟨ti, hti, h⟩ := h
    obtain ⟨hd, _⟩ := hE.ty t ti hti
    rw [Bool.cond_eq_ite] at h
    split at h
    · rename_i hk
      simp only [Bool.and_eq_true] at hk
      simp only [Option.bind_eq_some_iff] at h
      obtain ⟨b, hb, h⟩ := h
      have key : (Op.equal t u' v').run P w = .ok b w ∧ (eqGuard op t x y u' v').run P w = .ok () w ∧ (∀ op, op = .eql ∨ op = .neq → binOp op t u' v' = (match op with | .eql => (do pure (.bool (← Op.equal t u' v'))) | _ => (do pure (.bool (!(← Op.equal t u' v'))))) ) := by
        rw [equal_unfold, Op.equalIn, Sem.run_bind, run_underlying hd, Result.andThen_ok]
        unfold eqNil at hb
        split at hb <;> first | (cases hb; done) | skip
        all_goals
          (cases hd2 : ti.desc <;> simp [kindOf, hd2] at hk
           cases hb
           cases hu <;> cases hv
           all_goals refine ⟨rfl, by cases op <;> rfl, fun op ho => by rcases ho with rfl | rfl <;> rfl⟩)
      split at h
      · cases h; exact ⟨_, eql_run w (.inl rfl) key.2.1 (key.2.2 _ (.inl rfl)) key.1, .bool _⟩
      · cases h; exact ⟨_, eql_run w (.inr rfl) key.2.1 (key.2.2 _ (.inr rfl)) key.1, .bool _⟩
      · cases h
    · cases h
end

/-- Two interface values that hold pointers. -/
noncomputable def eqOut (op : BinOp) (b : Bool) : Option Value := match op with
  | .eql => some (.bool b)
  | .neq => some (.bool (!b))
  | _ => none
noncomputable def isCellsA : Option AObj → Bool
  | some (.cells _ _) => true
  | some (.frz true _) => true
  | _ => false
theorem isCellsA_inv {o : Option AObj} (h : isCellsA o = true) : (∃ s l, o = some (.cells s l)) ∨ ∃ l, o = some (.frz true l) := by
  unfold isCellsA at h; split at h
  · exact .inl ⟨_, _, rfl⟩
  · exact .inr ⟨_, rfl⟩
  · cases h
/-- Both are read only, one cell each: another place is another address. -/
noncomputable def isCelA : Option AObj → Bool
  | some (.frz _ _) => true
  | _ => false
noncomputable def doEqI (E : Env) (A : AW) (op : BinOp) (t : Nat) : Value → Value → Option Value
  | .iface u (.pointer (some a)), .iface v (.pointer (some b)) => (E.ty t).bind fun ti => (E.ty u).bind fun ui => match ti.desc, ui.desc with
    | .interface _, .pointer e => (E.ty e).bind fun ei => bif Nat.beq u v then (bif (ui.cmp && !Nat.beq ei.size 0) && (isCellsA (A.get a.block) && isCellsA (A.get b.block)) then
        (bif isCelA (A.get a.block) && isCelA (A.get b.block) && !(Nat.beq a.off 0 && Nat.beq b.off 0) then none else eqOut op (Nat.beq a.block b.block && Nat.beq a.off b.off)) else none) else eqOut op false
    | _, _ => none
  | _, _ => none
section
variable {P : Program} {E : Env} (hE : EnvOK P E) {σ : Sg} {A : AW} {w : World} (hW : WR σ A w)
include hE hW
theorem eqI_ok {op : BinOp} {t : TypeId} {x y : Operand} {u u' v v' r : Value} (h : doEqI E A op t u v = some r) (hu : VR σ u u') (hv : VR σ v v') :
    ∃ r', (do eqGuard op t x y u' v'; binOp op t u' v').run P w = .ok r' w ∧ VR σ r r' := by
  unfold doEqI at h
  split at h
  · rename_i tu a tv b
    simp only [Option.bind_eq_some_iff] at h
    obtain ⟨ti, hti, ui, hui, h⟩ := h
    obtain ⟨hd, _⟩ := hE.ty t ti hti
    obtain ⟨hdu, inf, hi, hs, hby, hz, hcmp⟩ := hE.ty tu ui hui
    cases hu with
    | iface _ hu =>
      cases hv with
      | iface _ hv =>
        obtain ⟨i, o, sp⟩ := a
        obtain ⟨j, o2, sp2⟩ := b
        obtain ⟨p, hp, rfl⟩ := hu.ptr_inv
        obtain ⟨q, hq, rfl⟩ := hv.ptr_inv
        split at h
        · rename_i ms e e1 e2
          rw [e1] at hd
          rw [e2] at hdu
          simp only [Option.bind_eq_some_iff] at h
          obtain ⟨ei, hei, h⟩ := h
          rw [Bool.cond_eq_ite, Bool.cond_eq_ite] at h
          obtain ⟨_, ie, hie, hse, _⟩ := hE.ty e ei hei
          have hg : (eqGuard op t x y (.iface tu (.pointer (some ⟨p.blk, p.off + o, none⟩))) (.iface tv (.pointer (some ⟨q.blk, q.off + o2, none⟩)))).run P w = .ok () w := by cases op <;> rfl
          have fin : ∀ b : Bool, (Op.equal t (.iface tu (.pointer (some ⟨p.blk, p.off + o, none⟩))) (.iface tv (.pointer (some ⟨q.blk, q.off + o2, none⟩)))).run P w = .ok b w → eqOut op b = some r →
              ∃ r', (do eqGuard op t x y (.iface tu (.pointer (some ⟨p.blk, p.off + o, none⟩))) (.iface tv (.pointer (some ⟨q.blk, q.off + o2, none⟩))); binOp op t (.iface tu (.pointer (some ⟨p.blk, p.off + o, none⟩))) (.iface tv (.pointer (some ⟨q.blk, q.off + o2, none⟩)))).run P w = .ok r' w ∧ VR σ r r' := fun b he hr => by
            cases op <;> simp only [eqOut, reduceCtorEq, Option.some.injEq] at hr
            · subst hr; exact ⟨_, eql_run w (.inl rfl) hg rfl he, .bool _⟩
            · subst hr; exact ⟨_, eql_run w (.inr rfl) hg rfl he, .bool _⟩
          split at h
          · rename_i huv
            have huv' : tu = tv := by simpa using huv
            subst huv'
            split at h
            · rename_i hc
              simp only [Bool.and_eq_true, Bool.not_eq_true'] at hc
              have hcc : inf.comparable = true := by rw [hcmp]; exact hc.1.1
              have hne : ie.size ≠ 0 := by rw [hse]; intro h0; have := hc.1.2; rw [h0] at this; simp at this
              have row : ∀ {k : Nat} {q : Spot}, isCellsA (A.get k) = true → σ k = some q → ∃ C e, w.heap[q.blk]? = some (.cells C e (0, 0)) := fun {k q} hk hq => by
                rcases isCellsA_inv hk with ⟨s1, l1, g1⟩ | ⟨l1, g1⟩
                · obtain ⟨_, C, e, ⟨fr, h2, h6⟩, _⟩ := hW.read g1 hq
                  rw [h6] at h2
                  exact ⟨C, e, h2⟩
                · obtain ⟨q', hq', hl⟩ := hW.lies k _ g1
                  rw [hq] at hq'
                  cases hq'
                  obtain ⟨C, e, fr, h2, h3, _⟩ := hl
                  rw [h3 rfl] at h2
                  exact ⟨C, e, h2⟩
              obtain ⟨C, e3, h2⟩ := row hc.2.1 hp
              obtain ⟨C', e3', h2'⟩ := row hc.2.2 hq
              rw [Bool.cond_eq_ite] at h
              split at h
              · cases h
              rename_i hcel
              · by_cases hij : i = j
                · subst hij
                  rw [hp] at hq
                  cases hq
                  by_cases hoo : o = o2
                  · subst hoo
                    refine fin true (by rw [equal_unfold]; exact run_equalIn_iface_ptr_same w 9998 _ hd hdu hi hcc hie) ?_
                    rw [← h]; simp
                  · refine fin false ?_ ?_
                    · rw [equal_unfold]
                      have hne2 : (⟨p.blk, p.off + o, none⟩ : Addr) ≠ ⟨p.blk, p.off + o2, none⟩ := fun e => by injection e with _ e; omega
                      exact run_equalIn_iface_ptr_other w 9998 hd hdu hi hcc hie hne hne2 h2 h2
                    · have hb : Nat.beq o o2 = false := by rw [Bool.eq_false_iff]; simpa using hoo
                      rw [← h]; simp [hb]
                · refine fin false ?_ ?_
                  · rw [equal_unfold]
                    have hne2 : (⟨p.blk, p.off + o, none⟩ : Addr) ≠ ⟨q.blk, q.off + o2, none⟩ := fun e => by
                      injection e with e e5
                      have cases1 : ∀ {k : Nat}, isCellsA (A.get k) = true → ∃ ob, A.get k = some ob ∧ (ob.fz = true → isCelA (A.get k) = true) := fun {k} hk => by
                        rcases isCellsA_inv hk with ⟨s1, l1, g1⟩ | ⟨l1, g1⟩
                        · exact ⟨_, g1, fun h => by cases h⟩
                        · exact ⟨_, g1, fun _ => by rw [g1]; rfl⟩
                      obtain ⟨o3, g1, f1⟩ := cases1 hc.2.1
                      obtain ⟨o4, g2, f2⟩ := cases1 hc.2.2
                      rcases hW.apart i j _ _ p q g1 g2 hp hq hij with hap | ⟨a1, a2, a3⟩
                      · exact hap e
                      · rw [f1 a1, f2 a2] at hcel
                        have h00 : o = 0 ∧ o2 = 0 := by
                          cases hb1 : Nat.beq o 0 <;> cases hb2 : Nat.beq o2 0 <;> simp [hb1, hb2] at hcel ⊢
                          exact ⟨by simpa using hb1, by simpa using hb2⟩
                        omega
                    exact run_equalIn_iface_ptr_other w 9998 hd hdu hi hcc hie hne hne2 h2 h2'
                  · have hb : Nat.beq i j = false := by rw [Bool.eq_false_iff]; simpa using hij
                    rw [← h]; simp [hb]
            · cases h
          · rename_i huv
            have huv' : tu ≠ tv := by simpa using huv
            refine fin false (by rw [equal_unfold, Op.equalIn, Sem.run_bind, run_underlying hd]; simp [huv']) ?_
            exact h
        · cases h
  · cases h
end

/-! ### fields, places -/
noncomputable def doFieldAddr (E : Env) (t : Nat) (f : Nat) : Value → Option Value
  | .pointer (some a) => (E.ty t).bind fun ti => match ti.desc with
    | .struct fs => (fs[f]?).bind fun fd => (E.ty fd.type).bind fun ft => bif Nat.beq ft.size 0 then none else some (.pointer (some ⟨a.block, a.off + fd.offset, none⟩))
    | _ => none
  | _ => none
noncomputable def partA (E : Env) (t : Nat) (cs : List Value) (off : Nat) : Option Value :=
  (E.ty t).bind fun ti => bif isAggD ti.desc then some (.agg ((cs.drop off).take ti.size).toArray) else cs[off]?
noncomputable def doField (E : Env) (t : Nat) (f : Nat) : Value → Option Value
  | .agg cs => (E.ty t).bind fun ti => match ti.desc with
    | .struct fs => (fs[f]?).bind fun fd => partA E fd.type cs.toList fd.offset
    | _ => none
  | _ => none
noncomputable def doIndexAddr (E : Env) (t : Nat) : Value → Value → Option Value
  | .slice (some a) n _, .int _ (.ofNat i) => (E.ty t).bind fun ti => match ti.desc with
    | .slice e => (E.ty e).bind fun et => bif Nat.blt i n then some (.pointer (some ⟨a.block, a.off + i * et.size, none⟩)) else none
    | _ => none
  | .pointer (some a), .int _ (.ofNat i) => (E.ty t).bind fun ti => match ti.desc with
    | .array n e => (E.ty e).bind fun et => bif Nat.blt i n then some (.pointer (some ⟨a.block, a.off + i * et.size, none⟩)) else none
    | _ => none
  | _, _ => none
noncomputable def doIndex (E : Env) (t : Nat) : Value → Value → Option Value
  | .string s, .int _ (.ofNat i) => (E.ty t).bind fun ti => match ti.desc with
    | .string => (lst s)[i]?.bind fun b => some (.int .u8 b.toNat)
    | _ => none
  | .agg cs, .int _ (.ofNat i) => (E.ty t).bind fun ti => match ti.desc with
    | .array n e => (E.ty e).bind fun et => bif Nat.blt i n then partA E e cs.toList (i * et.size) else none
    | _ => none
  | _, _ => none
noncomputable def doExtract (i : Nat) : Value → Option Value
  | .tuple vs => vs.toList[i]?
  | _ => none

section
variable {P : Program} {E : Env} (hE : EnvOK P E) {σ : Sg} (w : World)
include hE
theorem fieldAddr_ok {t f : Nat} {u u' r : Value} (h : doFieldAddr E t f u = some r) (hu : VR σ u u') : ∃ r', (Instr.fieldAt t u' f).run P w = .ok r' w ∧ VR σ r r' := by
  unfold doFieldAddr at h
  split at h
  · rename_i a
    obtain ⟨i, o, sp⟩ := a
    obtain ⟨p, hp, rfl⟩ := hu.ptr_inv
    simp only [Option.bind_eq_some_iff] at h
    obtain ⟨ti, hti, h⟩ := h
    obtain ⟨hd, _⟩ := hE.ty t ti hti
    split at h
    · rename_i fs e
      rw [e] at hd
      simp only [Option.bind_eq_some_iff, Bool.cond_eq_ite] at h
      obtain ⟨fd, hf, ft, hft, h⟩ := h
      obtain ⟨_, inf, hi, hs, _⟩ := hE.ty _ ft hft
      split at h
      · cases h
      · rename_i h0
        cases h
        have h0' : inf.size ≠ 0 := by rw [hs]; simpa using h0
        refine ⟨.pointer (some ⟨p.blk, p.off + o + fd.offset, none⟩), ?_, by rw [Nat.add_assoc]; exact .ptr _ hp⟩
        simp [Instr.fieldAt, run_underlying hd, hf, Instr.sureAddr, fieldPlace, sizeOf, typeInfo, hi, h0', Addr.add_lit]
    · cases h
  · cases h
theorem part_ok {t : Nat} {cs cs' : List Value} {off : Nat} {r : Value} (h : partA E t cs off = some r) (hc : VRs σ cs cs') : ∃ r', (part t cs'.toArray off).run P w = .ok r' w ∧ VR σ r r' := by
  unfold partA at h
  simp only [Option.bind_eq_some_iff] at h
  obtain ⟨ti, hti, h⟩ := h
  obtain ⟨hd, inf, hi, hs, _⟩ := hE.ty t ti hti
  rw [Bool.cond_eq_ite] at h
  split at h
  · rename_i hagg
    cases h
    have ha : (isAgg t).run P w = .ok true w := by
      unfold isAgg
      rw [Sem.run_bind, run_underlying hd w]
      cases hd : ti.desc <;> simp_all [isAggD]
    refine ⟨.agg (cs'.toArray.extract off (off + inf.size)), by simp [part, ha, sizeOf, typeInfo, hi], ?_⟩
    have e : cs'.toArray.extract off (off + inf.size) = ((cs'.drop off).take ti.size).toArray := by
      apply Array.ext'
      simp [hs, List.drop_take]
    rw [e]
    exact VR.agg_list ((hc.drop off).take _)
  · rename_i hagg
    have ha : (isAgg t).run P w = .ok false w := by
      unfold isAgg
      rw [Sem.run_bind, run_underlying hd w]
      cases hd : ti.desc <;> simp_all [isAggD]
    obtain ⟨y, hy, hvr⟩ := hc.get h
    exact ⟨y, by simp [part, ha, hy], hvr⟩
theorem field_ok {t f : Nat} {u u' r : Value} (h : doField E t f u = some r) (hu : VR σ u u') : ∃ r', (Instr.field t u' f).run P w = .ok r' w ∧ VR σ r r' := by
  unfold doField at h
  split at h
  · obtain ⟨b, rfl, hb⟩ := hu.agg_inv
    simp only [Option.bind_eq_some_iff] at h
    obtain ⟨ti, hti, h⟩ := h
    obtain ⟨hd, _⟩ := hE.ty t ti hti
    split at h
    · rename_i fs e
      rw [e] at hd
      simp only [Option.bind_eq_some_iff] at h
      obtain ⟨fd, hf, h⟩ := h
      obtain ⟨r', h1, h2⟩ := part_ok hE w h hb
      exact ⟨r', by simpa [Instr.field, run_underlying hd, hf, asAgg] using h1, h2⟩
    · cases h
  · cases h
theorem indexAddr_ok {t : Nat} {u u' v v' r : Value} (h : doIndexAddr E t u v = some r) (hu : VR σ u u') (hv : VR σ v v') : ∃ r', (Instr.indexAt t u' v').run P w = .ok r' w ∧ VR σ r r' := by
  unfold doIndexAddr at h
  split at h
  · rename_i a n c k i
    obtain rfl := hv.int_inv rfl
    simp only [Option.bind_eq_some_iff] at h
    obtain ⟨ti, hti, h⟩ := h
    obtain ⟨hd, _⟩ := hE.ty t ti hti
    split at h
    · rename_i e he
      rw [he] at hd
      simp only [Option.bind_eq_some_iff, Bool.cond_eq_ite] at h
      obtain ⟨et, het, h⟩ := h
      obtain ⟨_, inf, hi, hs, _⟩ := hE.ty _ et het
      split at h
      · rename_i hlt
        have hlt' : i < n := by simp [Nat.blt] at hlt; omega
        cases h
        cases hu with
        | none_ hc => omega
        | slice hp hn hc hz =>
          rename_i p o c'
          refine ⟨.pointer (some ⟨p.blk, p.off + o + i * et.size, none⟩), ?_, by rw [Nat.add_assoc]; exact .ptr _ hp⟩
          simp [Instr.indexAt, run_underlying hd, asIntOf, sizeOf, typeInfo, hi, hs, hlt', Addr.add_lit]
      · cases h
    · cases h
  · rename_i a k i
    obtain rfl := hv.int_inv rfl
    obtain ⟨b, o, sp⟩ := a
    obtain ⟨p, hp, rfl⟩ := hu.ptr_inv
    simp only [Option.bind_eq_some_iff] at h
    obtain ⟨ti, hti, h⟩ := h
    obtain ⟨hd, _⟩ := hE.ty t ti hti
    split at h
    · rename_i n e he
      rw [he] at hd
      simp only [Option.bind_eq_some_iff, Bool.cond_eq_ite] at h
      obtain ⟨et, het, h⟩ := h
      obtain ⟨_, inf, hi, hs, _⟩ := hE.ty _ et het
      split at h
      · rename_i hlt
        have hlt' : i < n := by simp [Nat.blt] at hlt; omega
        cases h
        refine ⟨.pointer (some ⟨p.blk, p.off + o + i * et.size, none⟩), ?_, by rw [Nat.add_assoc]; exact .ptr _ hp⟩
        simp [Instr.indexAt, run_underlying hd, asIntOf, sizeOf, typeInfo, hi, hs, hlt', Addr.add_lit, Instr.sureAddr]
      · cases h
    · cases h
  · cases h
theorem index_ok {t : Nat} {u u' v v' r : Value} (h : doIndex E t u v = some r) (hu : VR σ u u') (hv : VR σ v v') : ∃ r', (Instr.index t u' v').run P w = .ok r' w ∧ VR σ r r' := by
  unfold doIndex at h
  split at h
  · rename_i s k i
    obtain rfl := hv.int_inv rfl
    obtain rfl := hu.str_inv
    simp only [Option.bind_eq_some_iff] at h
    obtain ⟨ti, hti, h⟩ := h
    obtain ⟨hd, _⟩ := hE.ty t ti hti
    split at h
    · rename_i he
      rw [he] at hd
      simp only [Option.bind_eq_some_iff] at h
      obtain ⟨b, hb, h⟩ := h
      cases h
      refine ⟨.int .u8 b.toNat, ?_, .int _ _ rfl⟩
      have hb2 : s[i]? = some b := by
        have hlt : i < s.size := by have := (List.getElem?_eq_some_iff.1 hb).1; simpa [lst] using this
        have h3 : s.data[i]? = some b := by simpa [lst] using hb
        rw [getElem?_pos s i hlt]
        have : s[i] = s.data[i]'hlt := rfl
        rw [this]
        exact (Array.getElem?_eq_getElem hlt).symm.trans h3
      simp [Instr.index, run_underlying hd, asIntOf, hb2]
    · cases h
  · rename_i cs k i
    obtain rfl := hv.int_inv rfl
    obtain ⟨b, rfl, hb⟩ := hu.agg_inv
    simp only [Option.bind_eq_some_iff] at h
    obtain ⟨ti, hti, h⟩ := h
    obtain ⟨hd, _⟩ := hE.ty t ti hti
    split at h
    · rename_i n e he
      rw [he] at hd
      simp only [Option.bind_eq_some_iff, Bool.cond_eq_ite] at h
      obtain ⟨et, het, h⟩ := h
      obtain ⟨_, inf, hi, hs, _⟩ := hE.ty _ et het
      split at h
      · rename_i hlt
        have hlt' : i < n := by simp [Nat.blt] at hlt; omega
        obtain ⟨r', h1, h2⟩ := part_ok hE w h hb
        refine ⟨r', ?_, h2⟩
        simpa [Instr.index, run_underlying hd, asIntOf, sizeOf, typeInfo, hi, hs, hlt'] using h1
      · cases h
    · cases h
  · cases h
omit hE in
theorem extract_ok {i : Nat} {u u' r : Value} (h : doExtract i u = some r) (hu : VR σ u u') : ∃ r', (Instr.extract u' i).run P w = .ok r' w ∧ VR σ r r' := by
  unfold doExtract at h
  split at h
  · obtain ⟨b, rfl, hb⟩ := hu.tuple_inv
    obtain ⟨y, hy, hvr⟩ := hb.get h
    have hy2 : b[i]? = some y := by simpa using hy
    exact ⟨y, by simp [Instr.extract, hy2], hvr⟩
  · cases h
end
/-! ### structs compared -/
noncomputable def eqOne (E : Env) (t : Nat) (a b : Value) : Option Bool := (E.ty t).bind fun ti => match ti.desc, a, b with
  | .int _, .int k x, .int k' y => bif kindEq k k' then (bif isLit x && isLit y then some (intEq x y) else bif intEq x y then some true else match factB E.facts .eql k x y with
      | some (.bool r) => some r
      | _ => none) else none
  | .string, .string x, .string y => some (beqB (lst x) (lst y))
  | .bool, .bool x, .bool y => some (x == y)
  | _, _, _ => none
noncomputable def eqAll (E : Env) (xs ys : List Value) : List Field → Option Bool
  | [] => some true
  | f :: r => (partA E f.type xs f.offset).bind fun a => (partA E f.type ys f.offset).bind fun b => (eqOne E f.type a b).bind fun c => bif c then eqAll E xs ys r else some false
noncomputable def doEqS (E : Env) (op : BinOp) (t : Nat) (xs ys : List Value) : Option Value := (E.ty t).bind fun ti => match ti.desc with
  | .struct fs => bif ti.plain then (eqAll E xs ys fs.toList).bind fun c => eqOut op c else none
  | _ => none
section
variable {P : Program} {E : Env} (hE : EnvOK P E) {σ : Sg} {w : World}
include hE
theorem eqOne_ok {t d : Nat} {a b a' b' : Value} {c : Bool} (h : eqOne E t a b = some c) (ha : VR σ a a') (hb : VR σ b b') : (Op.equalIn (d + 1) t a' b').run P w = .ok c w := by
  unfold eqOne at h
  simp only [Option.bind_eq_some_iff] at h
  obtain ⟨ti, hti, h⟩ := h
  obtain ⟨hd, _⟩ := hE.ty t ti hti
  split at h
  · rename_i k0 k x k' y he
    rw [he] at hd
    rw [Bool.cond_eq_ite] at h
    split at h
    · rename_i hk
      obtain rfl := kindEq_eq hk
      rw [ha.int_val, hb.int_val, run_equalIn_int w d t k k0 _ _ hd]
      rw [Bool.cond_eq_ite] at h
      split at h
      · rename_i hl
        simp only [Bool.and_eq_true] at hl
        cases h
        rw [valI_lit hl.1, valI_lit hl.2, intEq_eq]
      · rw [Bool.cond_eq_ite] at h
        split at h
        · rename_i hxy
          cases h
          rw [intEq_eq] at hxy
          rw [eq_of_beq hxy]
          simp
        · split at h
          · rename_i r hr
            cases h
            obtain ⟨_, h2⟩ := fact_ok hE hr
            have h3 := h2 t w
            rw [int_ok (v := .bool (intEq (valI x) (valI y))) w rfl] at h3
            have h4 : Value.bool (intEq (valI x) (valI y)) = .bool c := by injection h3
            injection h4 with h4
            rw [← intEq_eq, h4]
          · cases h
    · cases h
  · rename_i x y he
    rw [he] at hd
    cases h
    obtain rfl := ha.str_inv
    obtain rfl := hb.str_inv
    rw [run_equalIn_string w d t _ _ hd, ← beq_toListBytes, beqB_eq]
    congr 1
    rw [Bool.eq_iff_iff, MapKept.bytes_beq]
    simp only [beq_iff_eq]
    exact ⟨fun h => by rw [h], fun h => by have := congrArg mkS h; simpa [mkS_lst] using this⟩
  · rename_i x y he
    rw [he] at hd
    cases h
    obtain rfl := ha.bool_inv
    obtain rfl := hb.bool_inv
    exact run_equalIn_bool' w d t _ _ hd
  · cases h
theorem eqAll_ok {d : Nat} {xs ys xs' ys' : List Value} (hx : VRs σ xs xs') (hy : VRs σ ys ys') : ∀ (fs : List Field) (c : Bool), (∀ f ∈ fs, f.name ≠ "_") → eqAll E xs ys fs = some c → (Op.eqFields (d + 1) xs'.toArray ys'.toArray fs).run P w = .ok c w
  | [], c, _, h => by cases h; rfl
  | f :: r, c, hn, h => by
    simp only [eqAll, Option.bind_eq_some_iff] at h
    obtain ⟨a, ha, b, hb, e, he, h⟩ := h
    obtain ⟨a', h1, h2⟩ := part_ok hE w ha hx
    obtain ⟨b', h3, h4⟩ := part_ok hE w hb hy
    have h5 := eqOne_ok hE (w := w) (d := d) he h2 h4
    rw [Op.eqFields, if_pos (hn f List.mem_cons_self)]
    rw [Sem.run_bind, h1, Result.andThen_ok, Sem.run_bind, h3, Result.andThen_ok, Sem.run_bind, h5, Result.andThen_ok]
    cases e with
    | false => cases h; simp
    | true => simp only [cond_true] at h; simpa using eqAll_ok hx hy r c (fun g hg => hn g (List.mem_cons_of_mem _ hg)) h
theorem eqS_ok {op : BinOp} {t : TypeId} {x y : Operand} {xs ys : Array Value} {u' v' r : Value} (h : doEqS E op t xs.toList ys.toList = some r) (hu : VR σ (.agg xs) u') (hv : VR σ (.agg ys) v') :
    ∃ r', (do eqGuard op t x y u' v'; binOp op t u' v').run P w = .ok r' w ∧ VR σ r r' := by
  unfold doEqS at h
  simp only [Option.bind_eq_some_iff] at h
  obtain ⟨ti, hti, h⟩ := h
  obtain ⟨hd, _⟩ := hE.ty t ti hti
  split at h
  · rename_i fs he
    rw [he] at hd
    rw [Bool.cond_eq_ite] at h
    split at h
    · rename_i hp
      simp only [Option.bind_eq_some_iff] at h
      obtain ⟨c, hc, h⟩ := h
      obtain ⟨p1, p2, p3⟩ := hE.plain t ti hti hp
      obtain ⟨xs', rfl, hx⟩ := hu.agg_inv
      obtain ⟨ys', rfl, hy⟩ := hv.agg_inv
      have hf : P.fieldsOf t = fs := by simp [Program.fieldsOf, hd]
      rw [hf] at p3
      have hrun := eqAll_ok hE (w := w) (d := 9998) hx hy fs.toList c p3 hc
      have heq : (Op.equalIn 10000 t (.agg xs') (.agg ys')).run P w = .ok c w := by
        rw [run_equalIn_agg w 9999 t xs' ys' (by rw [hf]; exact hd) p1, hf]
        simpa using hrun
      rw [Sem.run_bind, run_eqGuard_agg w op t x y xs' ys' p2, Result.andThen_ok]
      unfold eqOut at h
      split at h
      · cases h; exact ⟨_, by rw [run_eql_struct, heq]; rfl, .bool _⟩
      · cases h; exact ⟨_, by rw [run_neq_struct, heq]; rfl, .bool _⟩
      · cases h
    · cases h
  · cases h
end
end Go.Proofs.YtjphohhpnoobfaaDoor.Sx
