/- A reckoner of Go code: what is built, made, told of interfaces. No condition. -/
import Derived.Test.YtjphohhpnoobfaaDoorSx6
import Derived.Great.BuildSlice
import Derived.Laws.MakeOwn
namespace Go.Proofs.YtjphohhpnoobfaaDoor.Sx
open Go Go.RowKit
set_option linter.unusedVariables false
set_option linter.unusedSimpArgs false
set_option linter.unusedSectionVars false
variable [Rho]

noncomputable def fillA (place : Nat → Option (Nat × Nat)) (cells : List Value) : List (Nat × Value) → Option (List Value)
  | [] => some cells
  | (i, v) :: rest => match place i with
    | none => none
    | some (off, size) => bif Nat.beq v.cells.size size && Nat.ble (off + size) cells.length then fillA place (splice cells off v.cells.toList) rest else none
/-- Parts, one by one. -/
noncomputable def VRp (σ : Sg) : List (Nat × Value) → List (Nat × Value) → Prop
  | [], [] => True
  | (i, v) :: r, (j, u) :: s => i = j ∧ VR σ v u ∧ VRp σ r s
  | _, _ => False
theorem fill_rel {σ : Sg} {place place' : Nat → Option (Nat × Nat)} (hp : ∀ i p, place i = some p → place' i = some p) : ∀ (ps ps' : List (Nat × Value)) (l l' r : List Value), VRp σ ps ps' → VRs σ l l' → fillA place l ps = some r → ∃ r', Instr.fill place' l'.toArray ps' = some r'.toArray ∧ VRs σ r r'
  | [], [], l, l', r, _, hl, h => by cases h; exact ⟨l', rfl, hl⟩
  | [], _ :: _, _, _, _, hv, _, _ => hv.elim
  | _ :: _, [], _, _, _, hv, _, _ => by cases hv
  | (i, v) :: ps, (j, u) :: ps', l, l', r, hv, hl, h => by
    obtain ⟨rfl, hvu, hrest⟩ := hv
    unfold fillA at h
    split at h
    · cases h
    · rename_i off size hpi
      rw [Bool.cond_eq_ite] at h
      split at h
      · rename_i hb
        simp only [Bool.and_eq_true, Nat.beq_eq, Nat.ble_eq] at hb
        have hc := hvu.cells
        have hcs : v.cells.size = u.cells.size := by simpa using hc.1
        have hll := hl.1
        obtain ⟨r', h1, h2⟩ := fill_rel hp ps ps' _ _ r hrest (hl.splice hc off) h
        refine ⟨r', ?_, h2⟩
        rw [Instr.fill, hp i _ hpi]
        simp only
        rw [if_neg (by simp; omega)]
        have hg := Great.foldl_set off u.cells.toList 0 l'.toArray
        have e : (u.cells.zipIdx.foldl (fun cs x => cs.setIfInBounds (off + x.2) x.1) l'.toArray) = (splice l' off u.cells.toList).toArray := by
          apply Array.ext_getElem?
          intro k
          rw [← Array.foldl_toList, Array.toList_zipIdx, hg.2 k]
          simp only [Nat.add_zero, List.size_toArray, List.getElem?_toArray, Array.length_toList]
          rw [splice_get (by simp; omega)]
          simp only [Array.length_toList]
          by_cases hk : off ≤ k ∧ k < off + u.cells.size
          · rw [if_pos hk, if_pos ⟨hk.1, hk.2, by omega⟩]
          · rw [if_neg hk, if_neg (fun h => hk ⟨h.1, h.2.1⟩)]
        rw [e]
        exact h1
      · cases h
/-- n times the same cells. -/
noncomputable def repl (z : List Value) : Nat → List Value
  | 0 => []
  | n + 1 => z ++ repl z n
theorem repl_len (z : List Value) : ∀ n, (repl z n).length = n * z.length
  | 0 => by simp [repl]
  | n + 1 => by rw [repl, List.length_append, repl_len z n, Nat.add_mul]; omega
theorem repl_get (z : List Value) (hz : 0 < z.length) : ∀ (n k : Nat), k < n * z.length → (repl z n)[k]? = z[k % z.length]?
  | 0, k, h => by simp at h
  | n + 1, k, h => by
    rw [repl, List.getElem?_append]
    split
    · rw [Nat.mod_eq_of_lt ‹_›]
    · rename_i hk
      have h' : k < n * z.length + z.length := by rw [Nat.succ_mul] at h; exact h
      rw [repl_get z hz n _ (by omega)]
      congr 1
      exact (Nat.mod_eq_sub_mod (by omega)).symm
theorem repl_made (z : Array Value) (hz : 0 < z.size) (n : Nat) : (repl z.toList n).toArray = madeCells z (n * z.size) := by
  apply Array.ext_getElem?
  intro k
  have hl := repl_len z.toList n
  by_cases hk : k < n * z.size
  · have h1 := repl_get z.toList (by simpa using hz) n k (by simpa using hk)
    have hm : k % z.size < z.size := Nat.mod_lt _ hz
    simp only [Array.length_toList, Array.getElem?_toList] at h1
    simp only [List.getElem?_toArray, h1, madeCells, Array.getElem?_map, Array.getElem?_range, if_pos hk, Option.map_some, Array.getElem?_eq_getElem hm]
    congr 1
    exact (getElem!_pos z (k % z.size) hm).symm
  · rw [Array.getElem?_eq_none (by simp [hl]; omega), Array.getElem?_eq_none (by rw [size_madeCells]; omega)]
theorem repl_base {z : List Value} (h : z.all base = true) : ∀ n, (repl z n).all base = true
  | 0 => rfl
  | n + 1 => by rw [repl, List.all_append, h, repl_base h n]; rfl

noncomputable def placeA (E : Env) (fs : List Field) (i : Nat) : Option (Nat × Nat) := (fs[i]?).bind fun fd => (E.ty fd.type).bind fun ft => some (fd.offset, ft.size)
/-- The zero value's cells, if they hold no address. -/
noncomputable def zeroA (ti : TyI) : Option (List Value) := ti.zero.bind fun z => bif z.cells.toList.all base then some z.cells.toList else none
noncomputable def allTy (E : Env) : List Field → Bool
  | [] => true
  | f :: r => match E.ty f.type with
    | some _ => allTy E r
    | none => false
noncomputable def doBuild (E : Env) (t : Nat) (ps : List (Nat × Value)) : Option Value :=
  (E.ty t).bind fun ti => (zeroA ti).bind fun z => match ti.desc with
    | .struct fs => bif allTy E fs.toList then (fillA (placeA E fs.toList) z ps).bind fun r => some (.agg r.toArray) else none
    | .array _ e => (E.ty e).bind fun et => (fillA (fun i => some (i * et.size, et.size)) z ps).bind fun r => some (.agg r.toArray)
    | _ => none
noncomputable def doBuildSlice (E : Env) (A : AW) (t n : Nat) (ps : List (Nat × Value)) : Option (Value × AW) :=
  (E.ty t).bind fun ti => match ti.desc with
    | .slice e => (E.ty e).bind fun et => bif Nat.ble (n * et.size) 16777216 && Nat.ble 1 et.size then
        (match n with
          | 0 => (fillA (fun i => some (i * et.size, et.size)) [] ps).bind fun r => some (.slice (some ⟨A.n, 0, none⟩) 0 1, A.new (.cells et.size r))
          | n + 1 => (zeroA et).bind fun z => bif Nat.beq z.length et.size then
            (fillA (fun i => some (i * et.size, et.size)) (repl z (n + 1)) ps).bind fun r => bif Nat.ble ((n + 1) * et.size) r.length then some (.slice (some ⟨A.n, 0, none⟩) (n + 1) (n + 2), A.new (.cells et.size r)) else none else none)
        else none
    | _ => none
noncomputable def doMake (E : Env) (A : AW) (t : Nat) : Value → Value → Option (Value × AW)
  | .int _ (.ofNat l), .int _ (.ofNat c) => (E.ty t).bind fun ti => match ti.desc with
    | .slice e => (E.ty e).bind fun et => (zeroA et).bind fun z => bif Nat.ble l c && Nat.ble (et.bytes * c) 281474976710656 && Nat.ble c 9223372036854775807 && Nat.beq z.length et.size && Nat.ble 1 et.size then
        some (.slice (some ⟨A.n, 0, none⟩) l (c + 1), A.new (.cells et.size (repl z c))) else none
    | _ => none
  | _, _ => none
noncomputable def doAlloc (E : Env) (A : AW) (t : Nat) : Option (Value × AW) :=
  (E.ty t).bind fun ti => ti.zero.bind fun z => bif z.cells.toList.all base then some (doBox A ti.size z) else none
noncomputable def isIface : TypeDesc → Bool
  | .interface _ => true
  | _ => false
noncomputable def doMkI (E : Env) (t : Nat) (v : Value) : Option Value := (E.ty t).bind fun ti => bif isIface ti.desc then none else some (.iface t v)
noncomputable def doAssert (E : Env) (t : Nat) (ok : Bool) (x : Value) : Option Value :=
  (E.ty t).bind fun ti => bif isIface ti.desc then none else match x with
    | .iface u v => bif Nat.beq u t then some (bif ok then .tuple #[v, .bool true] else v) else bif ok then ti.zero.bind fun z => bif shut z then some (.tuple #[z, .bool false]) else none else none
    | .nilIface => bif ok then ti.zero.bind fun z => bif shut z then some (.tuple #[z, .bool false]) else none else none
    | _ => none
noncomputable def doNilCheck : Value → Option Value
  | .pointer (some a) => some (.pointer (some a))
  | .iface t v => some (.iface t v)
  | .func (.func f) a c => some (.func (.func f) a c)
  | _ => none

theorem VR.pair {σ : Sg} {a b c d : Value} (h : VR σ a c) (k : VR σ b d) : VR σ (.tuple #[a, b]) (.tuple #[c, d]) := by
  have := VRs.cons h (VRs.cons k (VRs.nil σ))
  exact .tuple rfl fun i x y hx hy => this.2 i x y (by simpa using hx) (by simpa using hy)

section
variable {P : Program} {E : Env} (hE : EnvOK P E) {σ : Sg} {A : AW} {w : World} (hW : WR σ A w)
include hE
theorem zero_run {t : Nat} {ti : TyI} (h : E.ty t = some ti) {z : Value} (hz : ti.zero = some z) (w : World) : (zeroValue t).run P w = .ok z w := by
  obtain ⟨_, inf, hi, _, _, h3, _⟩ := hE.ty t ti h
  simp [zeroValue, typeInfo, hi, h3, hz]
theorem zeroA_of {ti : TyI} {zl : List Value} (h : zeroA ti = some zl) : ∃ z, ti.zero = some z ∧ z.cells.toList = zl ∧ zl.all base = true := by
  unfold zeroA at h
  simp only [Option.bind_eq_some_iff, Bool.cond_eq_ite] at h
  obtain ⟨z, hz, h⟩ := h
  split at h
  · rename_i hb; cases h; exact ⟨z, hz, rfl, hb⟩
  · cases h
theorem mkI_ok {t : Nat} {v v' r : Value} (h : doMkI E t v = some r) (hv : VR σ v v') (w : World) : ∃ r', (Instr.makeInterface t v').run P w = .ok r' w ∧ VR σ r r' := by
  unfold doMkI at h
  simp only [Option.bind_eq_some_iff, Bool.cond_eq_ite] at h
  obtain ⟨ti, hti, h⟩ := h
  obtain ⟨hd, _⟩ := hE.ty t ti hti
  split at h
  · cases h
  · rename_i hi
    cases h
    refine ⟨.iface t v', ?_, .iface t hv⟩
    cases he : ti.desc <;> simp [isIface, he] at hi <;> simp [Instr.makeInterface, run_underlying hd, he]
theorem assert_ok {t : Nat} {ok : Bool} {x x' r : Value} {xT : TypeId} (h : doAssert E t ok x = some r) (hx : VR σ x x') (w : World) : ∃ r', (Instr.typeAssert x' xT t ok).run P w = .ok r' w ∧ VR σ r r' := by
  unfold doAssert at h
  simp only [Option.bind_eq_some_iff, Bool.cond_eq_ite] at h
  obtain ⟨ti, hti, h⟩ := h
  obtain ⟨hd, _⟩ := hE.ty t ti hti
  split at h
  · cases h
  · rename_i hni
    split at h
    · rename_i u v
      cases hx with
      | iface _ hv =>
        rename_i v'
        split at h
        · rename_i hut
          have : u = t := by simpa using hut
          subst this
          cases h
          cases ok with
          | true => exact ⟨.tuple #[v', .bool true], by cases he : ti.desc <;> simp [isIface, he] at hni <;> simp [Instr.typeAssert, run_underlying hd, he], hv.pair (.bool _)⟩
          | false => exact ⟨v', by cases he : ti.desc <;> simp [isIface, he] at hni <;> simp [Instr.typeAssert, run_underlying hd, he], hv⟩
        · rename_i hut
          have hne : ¬ u = t := by simpa using hut
          cases ok with
          | false => simp at h
          | true =>
            simp only [if_true, Option.bind_eq_some_iff] at h
            obtain ⟨z, hz, h⟩ := h
            split at h
            · rename_i hs
              cases h
              exact ⟨.tuple #[z, .bool false], by cases he : ti.desc <;> simp [isIface, he] at hni <;> simp [Instr.typeAssert, run_underlying hd, he, hne, zero_run hE hti hz], (shut_VR σ hs).pair (.bool _)⟩
            · cases h
    · obtain rfl : x' = .nilIface := by cases hx; rfl
      cases ok with
      | false => simp at h
      | true =>
        simp only [if_true, Option.bind_eq_some_iff] at h
        obtain ⟨z, hz, h⟩ := h
        split at h
        · rename_i hs
          cases h
          exact ⟨.tuple #[z, .bool false], by cases he : ti.desc <;> simp [isIface, he] at hni <;> simp [Instr.typeAssert, run_underlying hd, he, zero_run hE hti hz], (shut_VR σ hs).pair (.bool _)⟩
        · cases h
    · cases h
theorem places_run (w : World) : ∀ (fs : List Field), allTy E fs = true → ∃ places, fs.mapM (fun f => (P.info? f.type).map fun i => (f.offset, i.size)) = some places ∧ ∀ i p, placeA E fs i = some p → places[i]? = some p
  | [], _ => ⟨[], rfl, fun i p h => by simp [placeA] at h⟩
  | f :: fs, h => by
    unfold allTy at h
    split at h
    · rename_i ti hti
      obtain ⟨_, inf, hi, hs, _⟩ := hE.ty _ ti hti
      obtain ⟨places, h1, h2⟩ := places_run w fs h
      refine ⟨(f.offset, inf.size) :: places, by simp [List.mapM_cons, hi, h1], fun i p hp => ?_⟩
      cases i with
      | zero => simp [placeA, hti] at hp; simp [hs, hp]
      | succ i => exact h2 i p (by simpa [placeA] using hp)
    · cases h
theorem build_ok {t : Nat} {ps : List (Nat × Value)} {ps' : Array (Nat × Value)} {r : Value} (h : doBuild E t ps = some r) (hp : VRp σ ps ps'.toList) (w : World) : ∃ r', (Instr.build t ps').run P w = .ok r' w ∧ VR σ r r' := by
  unfold doBuild at h
  simp only [Option.bind_eq_some_iff] at h
  obtain ⟨ti, hti, zl, hzl, h⟩ := h
  obtain ⟨hd, inf, hi, _, _, hz3, _⟩ := hE.ty t ti hti
  obtain ⟨z, hz, hzc, hb⟩ := zeroA_of hE hzl
  have hzi : inf.zero = some z := hz3.trans hz
  have hbs := base_VRs σ hb
  have hza : z.cells = zl.toArray := by rw [← hzc]
  split at h
  · rename_i fs he
    rw [he] at hd
    rw [Bool.cond_eq_ite] at h
    split at h
    · rename_i hall
      simp only [Option.bind_eq_some_iff] at h
      obtain ⟨cs, hf, h⟩ := h
      cases h
      obtain ⟨places, h1, h2⟩ := places_run hE w fs.toList hall
      obtain ⟨r', h3, h4⟩ := fill_rel (place' := (places.toArray[·]?)) (fun i p hp => by simpa using h2 i p hp) ps ps'.toList _ _ _ hp hbs hf
      refine ⟨_, run_build w t ps' r'.toArray ?_, VR.agg_list h4⟩
      simp only [Program.built, hi, hd, hzi, h1, hza]
      exact h3
    · cases h
  · rename_i n e he
    rw [he] at hd
    simp only [Option.bind_eq_some_iff] at h
    obtain ⟨et, het, cs, hf, h⟩ := h
    cases h
    obtain ⟨_, ie, hie, hs, _⟩ := hE.ty e et het
    obtain ⟨r', h3, h4⟩ := fill_rel (place' := fun i => some (i * ie.size, ie.size)) (fun i p hp => by rw [hs]; exact hp) ps ps'.toList _ _ _ hp hbs hf
    refine ⟨_, run_build w t ps' r'.toArray ?_, VR.agg_list h4⟩
    simp only [Program.built, hi, hd, hzi, hie, hza]
    exact h3
  · cases h
include hW
theorem alloc_ok {t : Nat} {r : Value} {A' : AW} {old : Value} (h : doAlloc E A t = some (r, A')) : ∃ r' τ w', (Instr.alloc t true old).run P w = .ok r' w' ∧ VR τ r r' ∧ Sim σ A w τ A' w' := by
  unfold doAlloc at h
  simp only [Option.bind_eq_some_iff, Bool.cond_eq_ite] at h
  obtain ⟨ti, hti, z, hz, h⟩ := h
  split at h
  · rename_i hb
    cases h
    have hs := Sim.row hW ti.size z.cells.toList z.cells t (base_VRs σ hb) (fun j y hy => by simpa using hy)
    refine ⟨.pointer (some ⟨w.heap.size, 0, none⟩), _, _, ?_, VR.ptr (i := A.n) (p := ⟨w.heap.size, 0, z.cells.size, ti.size⟩) 0 (by simp [Sg.set]), hs⟩
    simp [Instr.alloc, zero_run hE hti hz, newVar, newRow, newObj, Sem.run]
  · cases h
theorem buildSlice_ok {t n : Nat} {ps : List (Nat × Value)} {ps' : Array (Nat × Value)} {r : Value} {A' : AW} (h : doBuildSlice E A t n ps = some (r, A')) (hp : VRp σ ps ps'.toList) :
    ∃ r' τ w', (Instr.buildSlice t n ps').run P w = .ok r' w' ∧ VR τ r r' ∧ Sim σ A w τ A' w' := by
  unfold doBuildSlice at h
  simp only [Option.bind_eq_some_iff] at h
  obtain ⟨ti, hti, h⟩ := h
  obtain ⟨hd, _⟩ := hE.ty t ti hti
  split at h
  · rename_i e he
    rw [he] at hd
    simp only [Option.bind_eq_some_iff] at h
    obtain ⟨et, het, h⟩ := h
    obtain ⟨_, ie, hie, hs, _, hz3, _⟩ := hE.ty e et het
    rw [Bool.cond_eq_ite] at h
    split at h
    · rename_i hle
      simp only [Bool.and_eq_true, Nat.ble_eq] at hle
      split at h
      · simp only [Option.bind_eq_some_iff] at h
        obtain ⟨cs, hf, h⟩ := h
        cases h
        obtain ⟨r', h3, h4⟩ := fill_rel (place' := fun i => some (i * ie.size, ie.size)) (fun i p hp => by rw [hs]; exact hp) ps ps'.toList [] [] _ hp (VRs.nil σ) hf
        have hsim := Sim.row hW et.size cs r'.toArray e h4 (fun j y hy => by simpa using hy)
        refine ⟨.slice (some ⟨w.heap.size, 0, none⟩) 0 0, _, _, ?_, VR.none_ (.inr rfl), hsim⟩
        have h3' : Instr.fill (fun i => some (i * ie.size, ie.size)) #[] ps'.toList = some r'.toArray := h3
        simp [Instr.buildSlice, run_underlying hd, sizeOf, typeInfo, hie, Array.range_zero', h3', newRow, newObj, Sem.run]
      · rename_i n
        simp only [Nat.succ_eq_add_one] at hle
        simp only [Option.bind_eq_some_iff, Bool.cond_eq_ite] at h
        obtain ⟨zl, hzl, h⟩ := h
        obtain ⟨z, hz, hzc, hb⟩ := zeroA_of hE hzl
        split at h
        · rename_i hzs
          have hzs' : zl.length = et.size := by simpa using hzs
          simp only [Option.bind_eq_some_iff] at h
          obtain ⟨cs, hf, h⟩ := h
          split at h
          · rename_i hlen
            have hlen' : (n + 1) * et.size ≤ cs.length := by simpa using hlen
            cases h
            obtain ⟨r', h3, h4⟩ := fill_rel (place' := fun i => some (i * ie.size, ie.size)) (fun i p hp => by rw [hs]; exact hp) ps ps'.toList (repl zl (n + 1)) (repl zl (n + 1)) _ hp (base_VRs σ (repl_base hb _)) hf
            have hsim := Sim.row hW et.size cs r'.toArray e h4 (fun j y hy => by simpa using hy)
            have hzsz : z.cells.size = ie.size := by have : z.cells.toList.length = zl.length := by rw [hzc]
                                                     simp at this; omega
            have hpos : 0 < (n + 1) * ie.size := by rw [hs]; exact Nat.mul_pos (by omega) (by omega)
            refine ⟨_, _, _, run_buildSlice w t e (n + 1) ps' r'.toArray ie z hd hie (hz3.trans hz) (by rw [hs]; omega) (by omega) ?_, VR.slice (i := A.n) (p := ⟨w.heap.size, 0, r'.toArray.size, et.size⟩) (o := 0) (by simp [Sg.set]) (Nat.le_refl _) (.inr rfl) ?_, hsim⟩
            · have hm := repl_made z.cells (by omega) (n + 1)
              rw [hzc, hzsz] at hm
              unfold madeCells at hm
              rw [← hm]
              exact h3
            · have := h4.1
              simp
              omega
          · cases h
        · cases h
    · cases h
  · cases h
theorem make_ok {t : Nat} {l c l' c' r : Value} {A' : AW} (h : doMake E A t l c = some (r, A')) (hl : VR σ l l') (hc : VR σ c c') :
    ∃ r' τ w', (Instr.makeSlice t l' c').run P w = .ok r' w' ∧ VR τ r r' ∧ Sim σ A w τ A' w' := by
  unfold doMake at h
  split at h
  · rename_i k1 l k2 c
    obtain rfl := hl.int_inv rfl
    obtain rfl := hc.int_inv rfl
    simp only [Option.bind_eq_some_iff] at h
    obtain ⟨ti, hti, h⟩ := h
    obtain ⟨hd, _⟩ := hE.ty t ti hti
    split at h
    · rename_i e he
      rw [he] at hd
      simp only [Option.bind_eq_some_iff, Bool.cond_eq_ite] at h
      obtain ⟨et, het, zl, hzl, h⟩ := h
      obtain ⟨_, ie, hie, hs, hby, hz3, _⟩ := hE.ty e et het
      obtain ⟨z, hz, hzc, hb⟩ := zeroA_of hE hzl
      split at h
      · rename_i hle
        simp only [Bool.and_eq_true, Nat.ble_eq, Nat.beq_eq] at hle
        obtain ⟨⟨⟨⟨h1, h2⟩, h3⟩, h4⟩, h5⟩ := hle
        cases h
        have hzsz : z.cells.size = ie.size := by have : z.cells.toList.length = zl.length := by rw [hzc]
                                                 simp at this; omega
        have hm := repl_made z.cells (by omega) c
        rw [hzc, hzsz] at hm
        have hb2 : (ie.bytes : Int) * ((c : Nat) : Int) ≤ 281474976710656 := by
          have : ((ie.bytes * c : Nat) : Int) ≤ 281474976710656 := by rw [hby]; omega
          rwa [Int.natCast_mul] at this
        have hr := run_make (P := P) w t e ie z hd hie (hz3.trans hz) k1 k2 (l : Int) (c : Int) (by omega) (by omega) hb2 (by omega)
        simp only [Int.toNat_natCast] at hr
        rw [← hm] at hr
        have hsim := Sim.row hW et.size (repl zl c) (repl zl c).toArray e (base_VRs σ (repl_base hb _)) (fun j y hy => by simpa using hy)
        refine ⟨_, _, _, hr, VR.slice (i := A.n) (p := ⟨w.heap.size, 0, (repl zl c).toArray.size, et.size⟩) (o := 0) (by simp [Sg.set]) h1 (.inr rfl) ?_, hsim⟩
        simp [repl_len, h4]
      · cases h
    · cases h
  · cases h
end
end Go.Proofs.YtjphohhpnoobfaaDoor.Sx
