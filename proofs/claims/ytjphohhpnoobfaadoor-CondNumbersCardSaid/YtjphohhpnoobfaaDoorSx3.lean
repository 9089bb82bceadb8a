/- A reckoner of Go code: what it knows of a program, its frames, and the operations that read and write memory. No condition. -/
import Derived.Test.YtjphohhpnoobfaaDoorSx2
import Derived.Lib.Bytealg
import Derived.Laws.StructEq
namespace Go.Proofs.YtjphohhpnoobfaaDoor.Sx
open Go Go.RowKit
set_option linter.unusedVariables false
set_option linter.unusedSimpArgs false
set_option linter.unusedSectionVars false
variable [Rho]

structure TyI where
  desc : TypeDesc
  size : Nat
  bytes : Nat
  zero : Option Value
  cmp : Bool
  plain : Bool
structure FnI where
  code : Code
  nt : Nat
  mask : Nat
  res : List ResultVar
/-- What is known of numbers that are not. -/
structure Fact where
  op : BinOp
  k : IntKind
  a : Int
  b : Int
  r : Value
structure Env where
  ty : Nat → Option TyI
  fn : Nat → Option FnI
  facts : List Fact
  ext : Nat → Bool
/-- What a number stands for. -/
noncomputable def valI : Int → Int
  | .ofNat n => .ofNat n
  | .negSucc m => bif Nat.ble LIM m then Rho.val (m - LIM) else .negSucc m
noncomputable def valV : Value → Value
  | .int k n => .int k (valI n)
  | v => v
noncomputable def okR : Value → Bool
  | .int _ _ => true
  | .bool _ => true
  | _ => false
theorem valI_lit {n : Int} (h : isLit n = true) : valI n = n := by
  cases n with
  | ofNat n => rfl
  | negSucc m =>
    have : Nat.ble LIM m = false := by simpa [isLit] using h
    simp [valI, this]
theorem VR.int_val {σ : Sg} {k : IntKind} {n : Int} {c : Value} (h : VR σ (.int k n) c) : c = .int k (valI n) := by
  cases h with
  | int _ _ hl => rw [valI_lit hl]
  | sym _ i =>
    have : Nat.ble LIM (LIM + i) = true := by rw [Nat.ble_eq]; omega
    simp [valI, this]
theorem VR.of_val (σ : Sg) (k : IntKind) (n : Int) : VR σ (.int k n) (.int k (valI n)) := by
  by_cases hl : isLit n = true
  · rw [valI_lit hl]; exact .int k n hl
  · cases n with
    | ofNat n => exact absurd rfl hl
    | negSucc m =>
      have hb : Nat.ble LIM m = true := by simpa [isLit] using hl
      have hm : LIM ≤ m := by simpa using hb
      obtain ⟨i, rfl⟩ : ∃ i, m = LIM + i := ⟨m - LIM, by omega⟩
      have e : valI (.negSucc (LIM + i)) = Rho.val i := by simp [valI, hb]
      rw [e]
      exact .sym k i
theorem VR.of_valV (σ : Sg) {v : Value} (h : okR v = true) : VR σ v (valV v) := by
  unfold okR at h
  split at h
  · exact .of_val σ _ _
  · exact .bool _
  · cases h
structure EnvOK (P : Program) (E : Env) : Prop where
  ty : ∀ t i, E.ty t = some i → P.underlying t = some i.desc ∧ ∃ inf, P.info? t = some inf ∧ inf.size = i.size ∧ inf.bytes = i.bytes ∧ inf.zero = i.zero ∧ inf.comparable = i.cmp
  fn : ∀ f i, E.fn f = some i → ∃ fn, P.funcs[f]? = some fn ∧ fn.body = some i.code ∧ fn.ntmps = i.nt ∧ fn.results.toList = i.res ∧ (fn.name == "runtime.NumGoroutine") = false
  mixed : P.follows .mixedOrders = true
  facts : ∀ f ∈ E.facts, okR f.r = true ∧ ∀ (t : Nat) (w : World), (binOp f.op t (.int f.k (valI f.a)) (.int f.k (valI f.b))).run P w = .ok (valV f.r) w
  plain : ∀ t i, E.ty t = some i → i.plain = true → P.stoodInHeld t = false ∧ P.eqGuardType P.depth t = false ∧ ∀ f ∈ (P.fieldsOf t).toList, f.name ≠ "_"
  ext : ∀ f, E.ext f = true → ∀ (a b : ByteArray) (w : World), (callFunc f #[.string a, .string b]).run P w = .ok (.value (.int .i64 (Lib.compareBytes a.data.toList b.data.toList))) w

/-! ### values that hold no address -/
noncomputable def base : Value → Bool
  | .bool _ | .string _ | .pointer none | .map none | .nilFunc | .nilIface => true
  | .int _ n => isLit n
  | .slice none 0 0 => true
  | .func (.func _) a c => a.isEmpty && c.isEmpty
  | _ => false
noncomputable def shut : Value → Bool
  | .agg cs => cs.toList.all base
  | .tuple cs => cs.toList.all base
  | .iface _ v => base v
  | v => base v
theorem base_VR (σ : Sg) {v : Value} (h : base v = true) : VR σ v v := by
  unfold base at h
  split at h <;> first | (cases h; done) | skip
  · exact .bool _
  · exact .str _
  · exact .nilp
  · exact .nilm
  · exact .nilf
  · exact .nili
  · exact .int _ _ h
  · exact .nils _
  · simp only [Bool.and_eq_true, Array.isEmpty_iff] at h
    obtain ⟨rfl, rfl⟩ := h
    exact .func _ rfl rfl rfl (fun i x y h => by simp at h) (fun i x y h => by simp at h)
theorem base_VRs (σ : Sg) {l : List Value} (h : l.all base = true) : VRs σ l l := by
  refine ⟨rfl, fun i x y hx hy => ?_⟩
  rw [hx] at hy
  cases hy
  exact base_VR σ (List.all_eq_true.1 h x (List.mem_of_getElem? hx))
theorem shut_VR (σ : Sg) {v : Value} (h : shut v = true) : VR σ v v := by
  unfold shut at h
  split at h
  · have := base_VRs σ h
    exact .agg rfl fun i x y hx hy => this.2 i x y (by simpa using hx) (by simpa using hy)
  · have := base_VRs σ h
    exact .tuple rfl fun i x y hx hy => this.2 i x y (by simpa using hx) (by simpa using hy)
  · exact .iface _ (base_VR σ h)
  · exact base_VR σ h

/-! ### frames -/
inductive Loc where
  | nil
  | cons (k : Nat) (v : Value) (r : Loc)
noncomputable def Loc.find (t : Nat) (l : Loc) : Option Value :=
  Loc.rec (motive := fun _ => Option Value) none (fun k v _ ih => Bool.rec (motive := fun _ => Option Value) ih (some v) (Nat.beq k t)) l
theorem Loc.find_cons (t k : Nat) (v : Value) (r : Loc) : (Loc.cons k v r).find t = match Nat.beq k t with
    | true => some v
    | false => r.find t := by
  show Bool.rec (motive := fun _ => Option Value) (r.find t) (some v) (Nat.beq k t) = _
  cases Nat.beq k t <;> rfl
/-- A frame: what was written last; behind it what is kept (mask: which slots). -/
structure Frm where
  mask : Nat
  loc : Loc
  tr : Tr Value
  gm : Nat
noncomputable def orGet (T : Tr Value) (t : Nat) : Option Value → Option Value
  | some v => some v
  | none => T.get t
noncomputable def Frm.get (F : Frm) (t : Nat) : Option Value := match F with
  | ⟨_, l, T, _⟩ => orGet T t (l.find t)
noncomputable def Frm.push (F : Frm) (t : Nat) (v : Value) : Frm := match F with
  | ⟨m, l, T, g⟩ => ⟨m, .cons t v l, T, g⟩
theorem Frm.get_push (F : Frm) (t : Nat) (v : Value) (j : Nat) : (F.push t v).get j = if j = t then some v else F.get j := by
  obtain ⟨m, l, T, g⟩ := F
  have e : (Frm.push ⟨m, l, T, g⟩ t v).get j = orGet T j (match Nat.beq t j with | true => some v | false => l.find j) := by rw [← Loc.find_cons]; rfl
  rw [e]
  by_cases h : j = t
  · subst h
    simp [orGet]
  · have hb : Nat.beq t j = false := by rw [Bool.eq_false_iff]; simpa using Ne.symm h
    rw [if_neg h]
    simp only [hb]
    rfl
noncomputable def Loc.into (mask : Nat) (l : Loc) (T : Tr Value) : Tr Value :=
  Loc.rec (motive := fun _ => Tr Value) T (fun k v _ ih => Bool.rec (motive := fun _ => Tr Value) ih (ih.put k (some v)) (keepB mask k)) l
theorem Loc.into_cons (mask k : Nat) (v : Value) (r : Loc) (T : Tr Value) : (Loc.cons k v r).into mask T = match keepB mask k with
    | true => (r.into mask T).put k (some v)
    | false => r.into mask T := by
  show Bool.rec (motive := fun _ => Tr Value) (r.into mask T) ((r.into mask T).put k (some v)) (keepB mask k) = _
  cases keepB mask k <;> rfl
noncomputable def Frm.flush (F : Frm) : Frm := match F with
  | ⟨m, l, T, g⟩ => ⟨m, .nil, l.into m T, g⟩
theorem Loc.into_get (mask : Nat) (T : Tr Value) (hT : ∀ t v, T.get t = some v → keepB mask t = true) : ∀ (l : Loc) (t : Nat) (v : Value), (l.into mask T).get t = some v → keepB mask t = true ∧ (l.find t = some v ∨ (l.find t = none ∧ T.get t = some v))
  | .nil, t, v, h => ⟨hT t v h, .inr ⟨rfl, h⟩⟩
  | .cons k u r, t, v, h => by
    have ih := into_get mask T hT r t v
    rw [Loc.into_cons] at h
    rw [Loc.find_cons]
    by_cases hkt : t = k
    · subst hkt
      simp only [Nat.beq_refl]
      split at h
      · rename_i hk
        rw [Tr.get_put, if_pos rfl] at h
        exact ⟨hk, .inl h⟩
      · rename_i hk
        have := (ih h).1
        rw [hk] at this
        cases this
    · have hb : Nat.beq k t = false := by rw [Bool.eq_false_iff]; simpa using Ne.symm hkt
      simp only [hb]
      split at h
      · rw [Tr.get_put, if_neg hkt] at h
        exact ih h
      · exact ih h
theorem Frm.flush_get {F : Frm} (hT : ∀ t v, F.tr.get t = some v → keepB F.mask t = true) {t : Nat} {v : Value} (h : F.flush.get t = some v) : F.get t = some v := by
  obtain ⟨m, l, T, g⟩ := F
  have h' : (l.into m T).get t = some v := h
  have := (Loc.into_get m T hT l t v h').2
  show orGet T t (l.find t) = some v
  rcases this with h1 | ⟨h1, h2⟩
  · rw [h1]; rfl
  · rw [h1]; exact h2
theorem Frm.flush_wf {F : Frm} (hT : ∀ t v, F.tr.get t = some v → keepB F.mask t = true) : ∀ t v, F.flush.tr.get t = some v → keepB F.flush.mask t = true :=
  fun t v h => by
    obtain ⟨m, l, T, g⟩ := F
    exact (Loc.into_get m T hT l t v h).1
noncomputable def Frm.init (mask gm : Nat) : Frm := ⟨mask, .nil, .nil, gm⟩
theorem Frm.init_get (mask gm t : Nat) : (Frm.init mask gm).get t = none := by
  show orGet Tr.nil t none = none
  simp [orGet, Tr.get_nil]
noncomputable def ev (F : Frm) : Operand → Option Value
  | .tmp t => F.get t
  | .const v => bif shut v then some v else none
  | .global g => bif keepB F.gm g then some (.pointer (some ⟨g, 0, none⟩)) else none
  | .func f => some (.func (.func f) #[] #[])
/-- A frame follows the reckoner's. -/
structure FR (σ : Sg) (nt : Nat) (F : Frm) (a : Act) : Prop where
  size : a.tmps.size = nt
  val : ∀ t v, F.get t = some v → ∃ c, a.tmps[t]? = some c ∧ VR σ v c
  defers : a.defers = []
  wf : ∀ t v, F.tr.get t = some v → keepB F.mask t = true
  glob : ∀ g, keepB F.gm g = true → ∃ p, σ g = some p ∧ p.blk = g ∧ p.off = 0
theorem FR.mono {σ τ : Sg} (hle : σ.le τ) {nt : Nat} {F : Frm} {a : Act} (h : FR σ nt F a) : FR τ nt F a :=
  ⟨h.size, fun t v hv => let ⟨c, h1, h2⟩ := h.val t v hv; ⟨c, h1, h2.mono hle⟩, h.defers, h.wf, fun g hg => let ⟨p, h1, h2⟩ := h.glob g hg; ⟨p, hle _ _ h1, h2⟩⟩
theorem FR.ev {σ : Sg} {nt : Nat} {F : Frm} {a : Act} (h : FR σ nt F a) {x : Operand} {v : Value} (hv : ev F x = some v) : VR σ v (a.eval x) := by
  cases x with
  | tmp t =>
    obtain ⟨c, h1, h2⟩ := h.val t v hv
    simp only [Act.eval, Array.getD_eq_getD_getElem?, h1, Option.getD_some]
    exact h2
  | const c =>
    simp only [Sx.ev, Bool.cond_eq_ite] at hv
    split at hv
    · cases hv; exact shut_VR σ ‹_›
    · cases hv
  | global g =>
    simp only [Sx.ev, Bool.cond_eq_ite] at hv
    split at hv
    · rename_i hg
      cases hv
      obtain ⟨p, h1, h2, h3⟩ := h.glob g hg
      have := VR.ptr (σ := σ) 0 h1
      rw [h2, h3] at this
      exact this
    · cases hv
  | func f => cases hv; exact base_VR σ rfl
noncomputable def undefV : Value := .tuple #[]
theorem undef_VR (σ : Sg) : VR σ undefV undef := .tuple rfl fun i x y h => by simp at h
theorem FR.put {σ : Sg} {nt : Nat} {F : Frm} {a : Act} (h : FR σ nt F a) {d : Nat} (hd : d < nt) {v c : Value} (hv : VR σ v c) : FR σ nt (F.push d v) (a.put (some d) c) := by
  refine ⟨by simp [Act.put, h.size], fun t u hu => ?_, h.defers, h.wf, h.glob⟩
  rw [Frm.get_push] at hu
  split at hu
  · rename_i e
    subst e
    cases hu
    exact ⟨c, by simp [Act.put, h.size, hd], hv⟩
  · rename_i hne
    obtain ⟨c', h1, h2⟩ := h.val t u hu
    exact ⟨c', by simp [Act.put, Array.getElem?_setIfInBounds, Ne.symm hne, h1], h2⟩
noncomputable def putF (nt : Nat) (F : Frm) (d : Option Nat) (v : Value) : Option (Frm) :=
  match d with
  | none => some F
  | some d => bif Nat.ble nt d then none else some (F.push d v)
theorem FR.putF {σ : Sg} {nt : Nat} {F G : Frm} {a : Act} (h : FR σ nt F a) {d : Option Nat} {v c : Value} (hv : VR σ v c) (hp : putF nt F d v = some G) : FR σ nt G (a.put d c) := by
  cases d with
  | none => cases hp; exact h
  | some d =>
    simp only [Sx.putF, Bool.cond_eq_ite] at hp
    split at hp
    · cases hp
    · rename_i hb; cases hp; exact h.put (by simpa using hb) hv
theorem FR.flush {σ : Sg} {nt : Nat} {F : Frm} {a : Act} (h : FR σ nt F a) : FR σ nt F.flush a :=
  ⟨h.size, fun t v hv => h.val t v (Frm.flush_get h.wf hv), h.defers, Frm.flush_wf h.wf, h.glob⟩

/-! ### what a value is behind what the reckoner has -/
section
variable {σ : Sg} {c : Value}
theorem not_lit (i : Nat) : isLit (.negSucc (LIM + i)) = false := by
  have : Nat.ble LIM (LIM + i) = true := by rw [Nat.ble_eq]; omega
  simp [isLit, this]
theorem VR.int_inv {k : IntKind} {n : Int} (h : VR σ (.int k n) c) (hl : isLit n = true) : c = .int k n := by
  cases h with
  | int => rfl
  | sym k i => rw [not_lit] at hl; cases hl
theorem VR.bool_inv {b : Bool} (h : VR σ (.bool b) c) : c = .bool b := by cases h; rfl
theorem VR.str_inv {s : ByteArray} (h : VR σ (.string s) c) : c = .string s := by cases h; rfl
theorem VR.ptr_inv {i o : Nat} {x : Option Nat} (h : VR σ (.pointer (some ⟨i, o, x⟩)) c) : ∃ p, σ i = some p ∧ c = .pointer (some ⟨p.blk, p.off + o, none⟩) := by cases h with | ptr o h => exact ⟨_, h, rfl⟩
theorem VR.nilp_inv (h : VR σ (.pointer none) c) : c = .pointer none := by cases h; rfl
theorem VR.agg_inv {a : Array Value} (h : VR σ (.agg a) c) : ∃ b : Array Value, c = .agg b ∧ VRs σ a.toList b.toList := by
  cases h with | agg h1 h2 => exact ⟨_, rfl, by simpa using h1, fun i x y hx hy => h2 i x y (by simpa using hx) (by simpa using hy)⟩
theorem VR.tuple_inv {a : Array Value} (h : VR σ (.tuple a) c) : ∃ b : Array Value, c = .tuple b ∧ VRs σ a.toList b.toList := by
  cases h with | tuple h1 h2 => exact ⟨_, rfl, by simpa using h1, fun i x y hx hy => h2 i x y (by simpa using hx) (by simpa using hy)⟩
theorem VR.one {v : Value} (h : VR σ v c) : c.oneCell' = v.oneCell' := by cases h <;> rfl
end
theorem VRs.ones {σ : Sg} {l l' : List Value} (h : VRs σ l l') (ho : l.all Value.oneCell' = true) : ∀ u ∈ l', u.oneCell' = true := by
  intro u hu
  obtain ⟨i, hi, rfl⟩ := List.getElem_of_mem hu
  have hi2 : i < l.length := by rw [h.1]; exact hi
  have := h.2 i l[i] l'[i] (List.getElem?_eq_getElem hi2) (List.getElem?_eq_getElem hi)
  rw [this.one]
  exact List.all_eq_true.1 ho _ (List.getElem_mem hi2)

/-! ### reading and writing -/
noncomputable def isAggD : TypeDesc → Bool
  | .struct _ | .array _ _ => true
  | _ => false
noncomputable def doLoad (E : Env) (A : AW) (t : Nat) : Value → Option Value
  | .pointer (some a) => (E.ty t).bind fun ti => match A.get a.block with
    | some (.cells _ l) => bif isAggD ti.desc then (bif Nat.ble (a.off + ti.size) l.length then some (.agg ((l.drop a.off).take ti.size).toArray) else none) else l[a.off]?
    | some (.frz _ l) => bif isAggD ti.desc then none else l[a.off]?
    | _ => none
  | _ => none
noncomputable def doStore (E : Env) (A : AW) (t : Nat) (v : Value) : Value → Option AW
  | .pointer (some a) => (E.ty t).bind fun ti => match A.get a.block with
    | some (.cells s l) => bif Nat.beq v.cells.size ti.size && Nat.ble (a.off + ti.size) l.length && v.cells.toList.all Value.oneCell' then some (A.put a.block (some (.cells s (splice l a.off v.cells.toList)))) else none
    | _ => none
  | _ => none
noncomputable def doBox (A : AW) (s : Nat) (v : Value) : Value × AW := (.pointer (some ⟨A.n, 0, none⟩), A.new (.cells s v.cells.toList))

section
variable {P : Program} {E : Env} (hE : EnvOK P E) {σ : Sg} {A : AW} {w : World} (hW : WR σ A w)
include hE hW
theorem load_ok {t : Nat} {v x c : Value} (hv : VR σ v c) (h : doLoad E A t v = some x) : ∃ y, (Instr.loadAt t c).run P w = .ok y w ∧ VR σ x y := by
  unfold doLoad at h
  split at h
  · rename_i a
    obtain ⟨i, o, sp⟩ := a
    obtain ⟨p, hp, rfl⟩ := hv.ptr_inv
    simp only [Option.bind_eq_some_iff] at h
    obtain ⟨ti, hti, h⟩ := h
    obtain ⟨hu, inf, hi, hs, _, _⟩ := hE.ty t ti hti
    split at h
    · rename_i s l hg
      obtain ⟨h1, C, e, h2, h3, l', h4, h5, hr, ht⟩ := hW.read hg hp
      simp only [Bool.cond_eq_ite] at h
      split at h
      · rename_i hagg
        split at h
        · rename_i hle
          have hle' : o + ti.size ≤ l.length := by simpa using hle
          cases h
          have hl2 := (h4.drop o).take ti.size
          have hlen : ((l'.drop o).take ti.size).length = ti.size := by rw [← hl2.1]; simp; omega
          refine ⟨.agg ((l'.drop o).take ti.size).toArray, ?_, VR.agg_list hl2⟩
          refine run_loadAt_mid w p.blk (p.off + o) t _ ti.desc (fun j v hv => ?_) hu (by cases hd : ti.desc <;> simp_all [isAggD]) (by rw [hi]; simp [hs, hlen])
          rw [List.getElem?_take] at hv
          split at hv
          · rw [List.getElem?_drop] at hv
            have := hr (o + j) v hv
            rw [Nat.add_assoc]; exact this
          · cases hv
        · cases h
      · rename_i hagg
        obtain ⟨y, hy, hvr⟩ := h4.get h
        refine ⟨y, ?_, hvr⟩
        have hc := hr o y hy
        have ha : (isAgg t).run P w = .ok false w := by
          unfold isAgg
          rw [Sem.run_bind, run_underlying hu w]
          cases hd : ti.desc <;> simp_all [isAggD]
        simp [Instr.loadAt, Instr.sureAddr, loadVar, ha, load, Sem.run, hc]
    · rename_i l hg
      obtain ⟨l', h4, hr⟩ := hW.readF hg hp
      rw [Bool.cond_eq_ite] at h
      split at h
      · cases h
      · rename_i hagg
        obtain ⟨y, hy, hvr⟩ := h4.get h
        refine ⟨y, ?_, hvr⟩
        have hc := hr o y hy
        have ha : (isAgg t).run P w = .ok false w := by
          unfold isAgg
          rw [Sem.run_bind, run_underlying hu w]
          cases hd : ti.desc <;> simp_all [isAggD]
        simp [Instr.loadAt, Instr.sureAddr, loadVar, ha, load, Sem.run, hc]
    · cases h
  · cases h
theorem store_ok {t : Nat} {v v' x c : Value} {A' : AW} (hx : VR σ x c) (hv : VR σ v v') (h : doStore E A t v x = some A') : ∃ w', (Instr.storeAt t c v').run P w = .ok () w' ∧ Sim σ A w σ A' w' := by
  unfold doStore at h
  split at h
  · rename_i a
    obtain ⟨i, o, sp⟩ := a
    obtain ⟨p, hp, rfl⟩ := hx.ptr_inv
    simp only [Option.bind_eq_some_iff] at h
    obtain ⟨ti, hti, h⟩ := h
    obtain ⟨hu, inf, hi, hs, _, _⟩ := hE.ty t ti hti
    split at h
    · rename_i s l hg
      simp only [Bool.cond_eq_ite] at h
      split at h
      · rename_i hle
        simp only [Bool.and_eq_true, Nat.beq_eq, Nat.ble_eq] at hle
        obtain ⟨⟨h1, h2⟩, h3⟩ := hle
        cases h
        have hcs := hv.cells
        have hlen0 : v.cells.size = v'.cells.size := by simpa using hcs.1
        have hlen : v'.cells.size = ti.size := by omega
        obtain ⟨_, C, e, _, _, l', h4, h5, hr, ht⟩ := hW.read hg hp
        refine ⟨_, ?_, Sim.store hW hg hp (o := o) hcs (by simp; omega)⟩
        have hst := run_storeCells_cells (P := P) p.blk (p.off + o) v'.cells.toList 0 w
          (fun j hj => by simp at hj; have := (ht (o + j) (by have := h4.1; omega)).1; simpa [Nat.add_assoc] using this)
          (fun j hj => by simp at hj; have := (ht (o + j) (by have := h4.1; omega)).2; simpa [Nat.add_assoc] using this) (hcs.ones h3)
        simp only [Nat.add_zero] at hst
        simp [Instr.storeAt, Instr.sureAddr, storeVar, sizeOf, typeInfo, hi, hs, hlen, hst]
      · cases h
    · cases h
  · cases h
theorem box_ok {t s : Nat} {v v' : Value} (hv : VR σ v v') : ∃ w' τ c, (Instr.box t v').run P w = .ok c w' ∧ VR τ (doBox A s v).1 c ∧ Sim σ A w τ (doBox A s v).2 w' := by
  have hs := Sim.row hW s v.cells.toList v'.cells t hv.cells (fun j y hy => by simpa using hy)
  refine ⟨_, _, .pointer (some ⟨w.heap.size, 0, none⟩), ?_, VR.ptr (i := A.n) (p := ⟨w.heap.size, 0, v'.cells.size, s⟩) 0 (by simp [Sg.set]), hs⟩
  simp [Instr.box, newVar, newRow, newObj, Sem.run]
end
end Go.Proofs.YtjphohhpnoobfaaDoor.Sx
