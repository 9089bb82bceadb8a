/- A reckoner of Go code: maps, copy, clear, len, min, max, conversions. No condition. -/
import Derived.Test.YtjphohhpnoobfaaDoorSx8
import Derived.MapKept
import Derived.Laws.BytesString
namespace Go.Proofs.YtjphohhpnoobfaaDoor.Sx
open Go Go.RowKit
set_option linter.unusedVariables false
set_option linter.unusedSimpArgs false
set_option linter.unusedSectionVars false
variable [Rho]

/-- A map turns. -/
theorem Sim.mapset {σ : Sg} {A : AW} {w : World} (h : WR σ A w) {i : Nat} {es es2 : List (Value × Value)} (hg : A.get i = some (.map es)) {p : Spot} (hp : σ i = some p) {E' : Array MapEntry} {c' : Nat}
    (h1 : VRs σ (es2.map (·.1)) (E'.toList.map (·.key))) (h2 : VRs σ (es2.map (·.2)) (E'.toList.map (·.val))) :
    Sim σ A w σ (A.put i (some (.map es2))) { w with heap := w.heap.setIfInBounds p.blk (.map E' c') } := by
  have hlt := (h.old _ _ hp).2
  obtain ⟨q0, hq0, E0, c0, hb0, _, _⟩ := h.lies i _ hg
  rw [hp] at hq0
  cases hq0
  have hsame : (w.heap.setIfInBounds p.blk (.map E' c'))[p.blk]? = some (.map E' c') := by simp [hlt]
  have hoth : ∀ k, k ≠ p.blk → (w.heap.setIfInBounds p.blk (.map E' c'))[k]? = w.heap[k]? := fun k hk => by simp [Array.getElem?_setIfInBounds, Ne.symm hk]
  have hout : ∀ j o', (A.put i (some (.map es2))).get j = some o' → j ≠ i → A.get j = some o' := fun j o' hj hne => by rw [AW.get_put, if_neg hne] at hj; exact hj
  refine ⟨Sg.le_refl σ, ⟨fun j o' hj => ?_, fun j k o1 o2 q r hj hk hq hr hne => ?_, fun j q hq => ?_, fun j q hq D f fr hD => ?_, fun j hj => ?_, h.glob⟩, rfl, rfl, rfl, by simp, fun b hb hn => ?_, fun b hb => .inl ?_⟩
  · by_cases hji : j = i
    · subst hji
      rw [AW.get_put, if_pos rfl] at hj
      cases hj
      exact ⟨p, hp, E', c', hsame, h1, h2⟩
    · have hj2 := hout j o' hj hji
      obtain ⟨q, hq, hl⟩ := h.lies j o' hj2
      exact ⟨q, hq, hl.mono (Sg.le_refl σ) (hoth _ (h.apartC hj2 hg hq hp hji (.inr rfl)))⟩
  · have get : ∀ x ox, (A.put i (some (.map es2))).get x = some ox → ∃ ox', A.get x = some ox' ∧ ox'.fz = ox.fz := fun x ox hx => by
      by_cases hxi : x = i
      · subst hxi; rw [AW.get_put, if_pos rfl] at hx; cases hx; exact ⟨_, hg, rfl⟩
      · exact ⟨_, hout x ox hx hxi, rfl⟩
    obtain ⟨o1', h1', f1⟩ := get j o1 hj
    obtain ⟨o2', h2', f2⟩ := get k o2 hk
    rw [← f1, ← f2]
    exact h.apart j k _ _ q r h1' h2' hq hr hne
  · have := h.old j q hq
    exact ⟨this.1, by simpa using this.2⟩
  · by_cases hb : q.blk = p.blk
    · have hD' : (w.heap.setIfInBounds p.blk (.map E' c'))[q.blk]? = some (.cells D f fr) := hD
      rw [hb, hsame] at hD'
      cases hD'
    · have hD' : (w.heap.setIfInBounds p.blk (.map E' c'))[q.blk]? = some (.cells D f fr) := hD
      rw [hoth _ hb] at hD'
      exact h.fits j q hq D f fr hD'
  · have hji : j ≠ i := fun e => by subst e; have := (h.old _ _ hp).1; exact absurd hj (by show ¬ A.n ≤ j; omega)
    rw [AW.get_put, if_neg hji]
    exact h.top j hj
  · exact hoth b (fun e => hn ⟨i, _, p, hg, rfl, hp, e.symm⟩)
  · obtain ⟨j, o', q, hj, hf, hq, rfl⟩ := hb
    by_cases hji : j = i
    · subst hji; exact ⟨j, _, q, hg, rfl, hq, rfl⟩
    · exact ⟨j, o', q, hout j o' hj hji, hf, hq, rfl⟩

/-- Are two keys the same? Whole numbers, texts. -/
noncomputable def sameK (d : TypeDesc) (a b : Value) : Option Bool :=
  match d, a, b with
  | .int _, .int k x, .int k' y => bif kindEq k k' && (isLit x && isLit y) then some (intEq x y) else none
  | .string, .string x, .string y => some (beqB (lst x) (lst y))
  | _, _, _ => none
noncomputable def findA (d : TypeDesc) (k : Value) : List (Value × Value) → Nat → Option (Option (Nat × Value))
  | [], _ => some none
  | (a, v) :: r, i => match sameK d k a with
    | some true => some (some (i, v))
    | some false => findA d k r (i + 1)
    | none => none
noncomputable def keyB (d : TypeDesc) (k : Value) : Bool :=
  match d, k with
  | .int j, .int j' n => kindEq j j' && isLit n
  | .string, .string _ => true
  | _, _ => false
noncomputable def mapTy (E : Env) (t : Nat) : Option (TypeDesc × TyI) :=
  (E.ty t).bind fun ti => match ti.desc with
    | .map k e => (E.ty k).bind fun kt => (E.ty e).bind fun et => some (kt.desc, et)
    | _ => none
noncomputable def mapFind (A : AW) (d : TypeDesc) (k : Value) : Value → Option (Option Value)
  | .map none => some none
  | .map (some i) => match A.get i with
    | some (.map es) => (findA d k es 0).bind fun r => some (r.map (·.2))
    | _ => none
  | _ => none
noncomputable def doLookup (E : Env) (A : AW) (t : Nat) (ok : Bool) (m k : Value) : Option Value :=
  (mapTy E t).bind fun de => bif keyB de.1 k then
    (mapFind A de.1 k m).bind fun r => match r with
      | some v => some (bif ok then .tuple #[v, .bool true] else v)
      | none => de.2.zero.bind fun z => bif shut z then some (bif ok then .tuple #[z, .bool false] else z) else none
  else none
noncomputable def doUpdate (E : Env) (A : AW) (t : Nat) (k v : Value) : Value → Option AW
  | .map (some i) => (mapTy E t).bind fun de => bif keyB de.1 k then
      match A.get i with
      | some (.map es) => (findA de.1 k es 0).bind fun r => match r with
        | some (j, _) => some (A.put i (some (.map (es.set j (k, v)))))
        | none => some (A.put i (some (.map (es ++ [(k, v)]))))
      | _ => none
    else none
  | _ => none
noncomputable def doDelete (E : Env) (A : AW) (t : Nat) (k : Value) : Value → Option AW
  | .map (some i) => (mapTy E t).bind fun de => bif keyB de.1 k then
      match A.get i with
      | some (.map es) => (findA de.1 k es 0).bind fun r => match r with
        | some (j, _) => some (A.put i (some (.map (es.eraseIdx j))))
        | none => some (A.put i (some (.map es)))
      | _ => none
    else none
  | _ => none
noncomputable def doLen (E : Env) (A : AW) (t : Nat) (x : Value) : Option Value :=
  (E.ty t).bind fun ti => match ti.desc, x with
    | .string, .string s => some (.int .i64 (lst s).length)
    | .slice _, .slice _ n _ => some (.int .i64 n)
    | .map _ _, .map none => some (.int .i64 0)
    | .map _ _, .map (some i) => match A.get i with
      | some (.map es) => some (.int .i64 es.length)
      | _ => none
    | _, _ => none

noncomputable def VRq (σ : Sg) : Option Value → Option (Nat × Value) → Prop
  | none, none => True
  | some v, some (_, v') => VR σ v v'
  | _, _ => False
section
variable {P : Program} {E : Env} (hE : EnvOK P E) {σ : Sg} {A : AW} {w : World} (hW : WR σ A w)
theorem find_rel {d : TypeDesc} {k : Value} (hk : keyB d k = true) : ∀ (es : List (Value × Value)) (L : List MapEntry) (i : Nat) (r : Option (Nat × Value)), VRs σ (es.map (·.1)) (L.map (·.key)) → VRs σ (es.map (·.2)) (L.map (·.val)) → findA d k es i = some r →
    ∃ r', Instr.findNow d k L i = some r' ∧ (match r, r' with
      | none, none => True
      | some (j, v), some (j', v') => j = j' ∧ VR σ v v' ∧ i ≤ j ∧ j - i < L.length ∧ ∃ e, L[j - i]? = some e ∧ e.key = k
      | _, _ => False)
  | [], [], i, r, _, _, h => by cases h; exact ⟨none, rfl, trivial⟩
  | [], e :: L, i, r, h1, _, _ => by have := h1.1; simp at this
  | _ :: _, [], i, r, h1, _, _ => by have := h1.1; simp at this
  | (a, v) :: es, e :: L, i, r, h1, h2, h => by
    have ha : VR σ a e.key := h1.2 0 _ _ rfl rfl
    have hv : VR σ v e.val := h2.2 0 _ _ rfl rfl
    have t1 : VRs σ (es.map (·.1)) (L.map (·.key)) := ⟨by simpa using h1.1, fun j x y hx hy => h1.2 (j + 1) x y (by simpa using hx) (by simpa using hy)⟩
    have t2 : VRs σ (es.map (·.2)) (L.map (·.val)) := ⟨by simpa using h2.1, fun j x y hx hy => h2.2 (j + 1) x y (by simpa using hx) (by simpa using hy)⟩
    have hs : ∀ b, sameK d k a = some b → Instr.sameNow d k e.key = some b ∧ (b = true → e.key = k) := fun b hb => by
      unfold sameK at hb
      split at hb
      · rw [Bool.cond_eq_ite] at hb
        split at hb
        · rename_i hkk
          simp only [Bool.and_eq_true] at hkk
          obtain rfl := kindEq_eq hkk.1
          cases hb
          rw [ha.int_inv hkk.2.2]
          exact ⟨by simp [Instr.sameNow, intEq_eq], fun h => by rw [intEq_eq] at h; simp at h; rw [h]⟩
        · cases hb
      · cases hb
        rw [ha.str_inv]
        rename_i x y
        have e0 : (x == y) = beqB (lst x) (lst y) := by
          rw [beqB_eq, Bool.eq_iff_iff, MapKept.bytes_beq]
          simp only [beq_iff_eq]
          exact ⟨fun h => by rw [h], fun h => by have := congrArg mkS h; simpa [mkS_lst] using this⟩
        refine ⟨by simp only [Instr.sameNow, e0], fun h => ?_⟩
        rw [← e0, MapKept.bytes_beq] at h
        rw [h]
      · cases hb
    unfold findA at h
    cases hb : sameK d k a with
    | none => simp [hb] at h
    | some b =>
      obtain ⟨hs1, hs2⟩ := hs b hb
      cases b with
      | true =>
        simp only [hb] at h
        cases h
        exact ⟨some (i, e.val), by simp [Instr.findNow, hs1], rfl, hv, Nat.le_refl _, by simp, e, by simp, hs2 rfl⟩
      | false =>
        simp only [hb] at h
        obtain ⟨r', g1, g2⟩ := find_rel hk es L (i + 1) r t1 t2 h
        refine ⟨r', by simp [Instr.findNow, hs1, g1], ?_⟩
        cases r with
        | none => cases r' with
          | none => trivial
          | some _ => exact g2.elim
        | some jv => cases r' with
          | none => exact g2.elim
          | some jv' =>
            obtain ⟨j, v⟩ := jv
            obtain ⟨j', v'⟩ := jv'
            obtain ⟨a1, a2, a3, a4, e', a5, a6⟩ := g2
            refine ⟨a1, a2, by omega, by simp; omega, e', ?_, a6⟩
            rw [show j - i = (j - (i + 1)) + 1 from by omega]
            simpa using a5
theorem keyB_is {d : TypeDesc} {k : Value} (h : keyB d k = true) : MapKept.IsKey d k := by
  unfold keyB at h
  split at h
  · simp only [Bool.and_eq_true] at h
    exact (kindEq_eq h.1).symm
  · trivial
  · cases h
theorem keyB_base {d : TypeDesc} {k : Value} (h : keyB d k = true) : base k = true := by
  unfold keyB at h
  split at h
  · simp only [Bool.and_eq_true] at h
    exact h.2
  · rfl
  · cases h
theorem keyB_inv {d : TypeDesc} {k k' : Value} (h : keyB d k = true) (hk : VR σ k k') : k' = k := by
  unfold keyB at h
  split at h
  · simp only [Bool.and_eq_true] at h
    exact hk.int_inv h.2
  · exact hk.str_inv
  · cases h
include hE
theorem mapTy_of {t : Nat} {de : TypeDesc × TyI} (h : mapTy E t = some de) : ∃ k e, P.underlying t = some (.map k e) ∧ P.underlying k = some de.1 ∧ E.ty e = some de.2 := by
  unfold mapTy at h
  simp only [Option.bind_eq_some_iff] at h
  obtain ⟨ti, hti, h⟩ := h
  obtain ⟨hd, _⟩ := hE.ty t ti hti
  split at h
  · rename_i k e he
    rw [he] at hd
    simp only [Option.bind_eq_some_iff] at h
    obtain ⟨kt, hkt, et, het, h⟩ := h
    cases h
    exact ⟨k, e, hd, (hE.ty k kt hkt).1, het⟩
  · cases h
omit hE in
theorem makeMap_ok (hW : WR σ A w) (t : Nat) : ∃ r' τ w', (Instr.makeMap t none).run P w = .ok r' w' ∧ VR τ (.map (some A.n)) r' ∧ Sim σ A w τ (A.new (.map [])) w' := by
  have hs := Sim.fresh hW (.map #[] 0) (.map []) ⟨w.heap.size, 0, 0, 0⟩ rfl ⟨#[], 0, by show (w.heap.push _)[w.heap.size]? = _; simp, VRs.nil _, VRs.nil _⟩ (fun C e fr h => by cases h)
  exact ⟨.map (some w.heap.size), _, _, rfl, VR.map (i := A.n) (p := ⟨w.heap.size, 0, 0, 0⟩) (by simp [Sg.set]), hs⟩
include hW
omit hE in
theorem map_read {i : Nat} {es : List (Value × Value)} (hg : A.get i = some (.map es)) {p : Spot} (hp : σ i = some p) : ∃ M c, w.heap[p.blk]? = some (.map M c) ∧ VRs σ (es.map (·.1)) (M.toList.map (·.key)) ∧ VRs σ (es.map (·.2)) (M.toList.map (·.val)) := by
  obtain ⟨q, hq, hl⟩ := hW.lies i _ hg
  rw [hp] at hq
  cases hq
  exact hl
omit hE in
theorem mapFind_ok {d : TypeDesc} {k m m' : Value} {q : Option Value} (hkb : keyB d k = true) (h : mapFind A d k m = some q) (hm : VR σ m m') :
    ∃ x, ((∃ M c b, m' = .map (some b) ∧ w.heap[b]? = some (.map M c) ∧ Instr.findNow d k M.toList 0 = some x) ∨ (m' = .map none ∧ x = none)) ∧ VRq σ q x := by
  unfold mapFind at h
  split at h
  · cases h
    obtain rfl : m' = .map none := by cases hm; rfl
    exact ⟨none, .inr ⟨rfl, rfl⟩, trivial⟩
  · rename_i i
    cases hm with
    | map hp =>
      split at h
      · rename_i es hg
        simp only [Option.bind_eq_some_iff, Option.some.injEq] at h
        obtain ⟨r0, hf, h⟩ := h
        subst h
        obtain ⟨M, c, hb, v1, v2⟩ := map_read hW hg hp
        obtain ⟨x, g1, g2⟩ := find_rel hkb es M.toList 0 r0 v1 v2 hf
        refine ⟨x, .inl ⟨M, c, _, rfl, hb, g1⟩, ?_⟩
        cases r0 with
        | none => cases x with
          | none => trivial
          | some _ => exact g2.elim
        | some jv => cases x with
          | none => exact g2.elim
          | some jv' => exact g2.2.1
      · cases h
  · cases h
theorem lookup_ok {t : Nat} {ok : Bool} {m k m' k' r : Value} (h : doLookup E A t ok m k = some r) (hm : VR σ m m') (hk : VR σ k k') : ∃ r', (Instr.lookup t m' k' ok).run P w = .ok r' w ∧ VR σ r r' := by
  unfold doLookup at h
  simp only [Option.bind_eq_some_iff] at h
  obtain ⟨⟨d, et⟩, hde, h⟩ := h
  obtain ⟨kT, e, h1, h2, h3⟩ := mapTy_of hE hde
  rw [Bool.cond_eq_ite] at h
  split at h
  · rename_i hkb
    have hkk : k' = k := keyB_inv hkb hk
    subst hkk
    simp only [Option.bind_eq_some_iff] at h
    obtain ⟨q, hq, h⟩ := h
    obtain ⟨x, run, hx⟩ := mapFind_ok hW hkb hq hm
    cases q with
    | none =>
      cases x with
      | some _ => exact hx.elim
      | none =>
        simp only [Option.bind_eq_some_iff, Bool.cond_eq_ite] at h
        obtain ⟨z, hz, h⟩ := h
        split at h
        · rename_i hsz
          cases h
          have hzr := zero_run hE h3 hz w
          refine ⟨if ok then .tuple #[z, .bool false] else z, ?_, by cases ok; exact shut_VR σ hsz; exact (shut_VR σ hsz).pair (.bool _)⟩
          rcases run with ⟨M, c, b, rfl, hb, hf⟩ | ⟨rfl, _⟩
          · simp [Instr.lookup, run_underlying h1, MapKept.run_getObj_map hb, MapKept.run_checkKey h2 (keyB_is hkb), MapKept.run_findKey h2 hf, hzr, Result.andThen]
          · have hf : Instr.findNow d k' ([] : List MapEntry) 0 = some none := rfl
            simp [Instr.lookup, run_underlying h1, MapKept.run_checkKey h2 (keyB_is hkb), MapKept.run_findKey h2 hf, hzr, Result.andThen]
        · cases h
    | some v =>
      cases x with
      | none => exact hx.elim
      | some jv =>
        obtain ⟨j, v'⟩ := jv
        simp only [Bool.cond_eq_ite, Option.some.injEq] at h
        subst h
        refine ⟨if ok then .tuple #[v', .bool true] else v', ?_, by cases ok; exact hx; exact VR.pair hx (.bool _)⟩
        rcases run with ⟨M, c, b, rfl, hb, hf⟩ | ⟨_, h0⟩
        · simp [Instr.lookup, run_underlying h1, MapKept.run_getObj_map hb, MapKept.run_checkKey h2 (keyB_is hkb), MapKept.run_findKey h2 hf, Result.andThen]
        · cases h0
  · cases h
theorem update_ok {t : Nat} {m k v m' k' v' : Value} {A' : AW} (h : doUpdate E A t k v m = some A') (hm : VR σ m m') (hk : VR σ k k') (hv : VR σ v v') : ∃ w', (Instr.mapUpdate t m' k' v').run P w = .ok () w' ∧ Sim σ A w σ A' w' := by
  unfold doUpdate at h
  split at h
  · rename_i i
    simp only [Option.bind_eq_some_iff] at h
    obtain ⟨⟨d, et⟩, hde, h⟩ := h
    obtain ⟨kT, e, h1, h2, h3⟩ := mapTy_of hE hde
    rw [Bool.cond_eq_ite] at h
    split at h
    · rename_i hkb
      have hkk : k' = k := keyB_inv hkb hk
      subst hkk
      cases hm with
      | map hp =>
        rename_i p
        split at h
        · rename_i es hg
          simp only [Option.bind_eq_some_iff] at h
          obtain ⟨r0, hf, h⟩ := h
          obtain ⟨M, c, hb, v1, v2⟩ := map_read hW hg hp
          obtain ⟨x, g1, g2⟩ := find_rel hkb es M.toList 0 r0 v1 v2 hf
          cases r0 with
          | none =>
            cases x with
            | some _ => exact g2.elim
            | none =>
              cases h
              refine ⟨_, by simp [Instr.mapUpdate, run_underlying h1, MapKept.run_getObj_map hb, MapKept.run_checkKey h2 (keyB_is hkb), MapKept.run_findKey h2 g1, MapKept.run_setObj_map _ hb, Result.andThen]; rfl, Sim.mapset hW hg hp ?_ ?_⟩
              · simpa using v1.append (VRs.cons hk (VRs.nil σ))
              · simpa using v2.append (VRs.cons hv (VRs.nil σ))
          | some jv =>
            cases x with
            | none => exact g2.elim
            | some jv' =>
              obtain ⟨j, u⟩ := jv
              obtain ⟨j', u'⟩ := jv'
              obtain ⟨rfl, _, _, hjl, e0, he0, hek⟩ := g2
              simp only [Nat.sub_zero] at hjl he0
              cases h
              have hj : j < M.size := by simpa using hjl
              have hMj : M[j]? = some e0 := by simpa using he0
              have hkey : M[j].key = k' := by
                have : M[j] = e0 := by rw [Array.getElem?_eq_getElem hj] at hMj; simpa using hMj
                rw [this, hek]
              refine ⟨_, by simp [Instr.mapUpdate, run_underlying h1, MapKept.run_getObj_map hb, MapKept.run_checkKey h2 (keyB_is hkb), MapKept.run_findKey h2 g1, MapKept.run_setObj_map _ hb, Result.andThen, hj, hkey, MapKept.run_keyThatStays (keyB_is hkb)]; rfl, Sim.mapset hW hg hp ?_ ?_⟩
              · have e1 : (M.modify j fun e => { e with key := k', val := v' }).toList.map (·.key) = (M.toList.map (·.key)).set j k' := by
                  apply List.ext_getElem?
                  intro q
                  simp only [List.getElem?_map, Array.getElem?_toList, Array.getElem?_modify, List.getElem?_set, List.length_map, Array.length_toList]
                  by_cases hq : j = q
                  · subst hq; simp [hj]
                  · simp [hq]
                rw [e1, List.map_set]
                exact v1.set j hk
              · have e1 : (M.modify j fun e => { e with key := k', val := v' }).toList.map (·.val) = (M.toList.map (·.val)).set j v' := by
                  apply List.ext_getElem?
                  intro q
                  simp only [List.getElem?_map, Array.getElem?_toList, Array.getElem?_modify, List.getElem?_set, List.length_map, Array.length_toList]
                  by_cases hq : j = q
                  · subst hq; simp [hj]
                  · simp [hq]
                rw [e1, List.map_set]
                exact v2.set j hv
        · cases h
    · cases h
  · cases h
theorem len_ok {t ty : Nat} {x x' r : Value} (h : doLen E A t x = some r) (hx : VR σ x x') : ∃ r', (Builtin.len_ #[t] ty #[x']).run P w = .ok r' w ∧ VR σ r r' := by
  unfold doLen at h
  simp only [Option.bind_eq_some_iff] at h
  obtain ⟨ti, hti, h⟩ := h
  obtain ⟨hd, _⟩ := hE.ty t ti hti
  split at h
  · rename_i s he
    rw [he] at hd
    cases h
    obtain rfl := hx.str_inv
    have e1 : (lst s).length = s.size := Array.length_toList
    exact ⟨.int .i64 s.size, by simp [Builtin.len_, run_underlying hd, goInt], by rw [e1]; exact .int _ _ rfl⟩
  · rename_i e a n c he
    rw [he] at hd
    cases h
    refine ⟨.int .i64 n, ?_, .int _ _ rfl⟩
    cases hx <;> simp [Builtin.len_, run_underlying hd, goInt]
  · rename_i he
    rw [he] at hd
    cases h
    obtain rfl : x' = .map none := by cases hx; rfl
    exact ⟨.int .i64 0, by simp [Builtin.len_, run_underlying hd, goInt], .int _ _ rfl⟩
  · rename_i i he
    rw [he] at hd
    split at h
    · rename_i es hg
      cases h
      cases hx with
      | map hp =>
        obtain ⟨M, c, hb, v1, v2⟩ := map_read hW hg hp
        have hlen : es.length = M.size := by simpa using v1.1
        exact ⟨.int .i64 M.size, by simp [Builtin.len_, run_underlying hd, goInt, MapKept.run_getObj_map hb], by rw [hlen]; exact .int _ _ rfl⟩
    · cases h
  · cases h
end
end Go.Proofs.YtjphohhpnoobfaaDoor.Sx
