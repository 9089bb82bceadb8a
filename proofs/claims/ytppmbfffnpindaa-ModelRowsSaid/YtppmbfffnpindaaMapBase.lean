/- Maps as association lists: what a look-up, a store, a deletion, a length do to a map's block, said of the list of its entries. No condition beyond each theorem's own. -/
import Derived.Test.YtppmbfffnpindaaBase
import Derived.MapKept
import Derived.Maps.Own
import Derived.Maps.OwnOps
import Derived.Maps.OwnSet
namespace Go.Proofs.Ytppmbfffnpindaa
open Go.RowKit Go.MapKept
set_option linter.unusedVariables false
set_option linter.unusedSimpArgs false

/-- The block k laid anew. -/
def _root_.Go.World.upd (w : World) (k : Nat) (o : Obj) : World := { w with heap := w.heap.setIfInBounds k o }
/-- A cell of an object. -/
def cellOf (o : Obj) (i : Nat) : Option Value := match o with
  | .cells c _ _ => c[i]?
  | _ => none
def frozenOf (o : Obj) (i : Nat) : Bool := match o with
  | .cells _ _ (lo, hi) => lo ≤ i && i < hi
  | _ => false
theorem cell_eq (w : World) (k i : Nat) : w.cell? ⟨k, i, none⟩ = (w.heap[k]?).bind (cellOf · i) := by
  unfold World.cell? cellOf
  cases h : w.heap[k]? with
  | none => simp [h]
  | some o => cases o <;> simp [h]
theorem frozen_eq (w : World) (k i : Nat) : w.frozen? ⟨k, i, none⟩ = ((w.heap[k]?).map (frozenOf · i)).getD false := by
  unfold World.frozen? frozenOf
  cases h : w.heap[k]? with
  | none => simp [h]
  | some o => cases o <;> simp [h]
section
variable (w : World) (k j i : Nat) (o : Obj) (g : Array Obj) (m : Nat)
theorem upd_size : (w.upd k o).heap.size = w.heap.size := by simp [World.upd]
theorem upd_drew : w.drew.upd k o = (w.upd k o).drew := rfl
theorem heap_upd : (w.upd k o).heap[j]? = if j = k then (if k < w.heap.size then some o else none) else w.heap[j]? := by
  simp only [World.upd, Array.getElem?_setIfInBounds]
  by_cases h : j = k
  · subst h; simp
  · simp [h, Ne.symm h]
theorem heap_ext : (w.ext g m).heap[j]? = if j < w.heap.size then w.heap[j]? else g[j - w.heap.size]? := by
  simp [World.ext, Array.getElem?_append]
theorem heap_alloc_at : (w.alloc o).heap[j]? = if j < w.heap.size then w.heap[j]? else if j = w.heap.size then some o else none := by
  show (w.heap.push o)[j]? = _
  rw [Array.getElem?_push]
  by_cases h : j = w.heap.size
  · subst h; simp
  · by_cases h2 : j < w.heap.size
    · simp [h, h2]
    · simp [h, h2]
theorem heap_drew : w.drew.heap[j]? = w.heap[j]? := rfl
theorem cell_upd_if : (w.upd k o).cell? ⟨j, i, none⟩ = if j = k then (if k < w.heap.size then cellOf o i else none) else w.cell? ⟨j, i, none⟩ := by
  rw [cell_eq, heap_upd, cell_eq]
  split
  · split <;> rfl
  · rfl
theorem frozen_upd_if : (w.upd k o).frozen? ⟨j, i, none⟩ = if j = k then (if k < w.heap.size then frozenOf o i else false) else w.frozen? ⟨j, i, none⟩ := by
  rw [frozen_eq, heap_upd, frozen_eq]
  split
  · split <;> simp
  · rfl
end

section
variable {κ α : Type} [DecidableEq κ]
def mget : List (κ × α) → κ → Option α
  | [], _ => none
  | p :: r, k => if p.1 = k then some p.2 else mget r k
def mput : List (κ × α) → κ → α → List (κ × α)
  | [], k, a => [(k, a)]
  | p :: r, k, a => if p.1 = k then (k, a) :: r else p :: mput r k a
def mdel : List (κ × α) → κ → List (κ × α)
  | [], _ => []
  | p :: r, k => if p.1 = k then r else p :: mdel r k
theorem mget_none {L : List (κ × α)} {k : κ} : mget L k = none ↔ ∀ p ∈ L, p.1 ≠ k := by
  induction L with
  | nil => simp [mget]
  | cons p r ih =>
    unfold mget
    split
    · rename_i h; simp [h]
    · rename_i h; simp [h, ih]
theorem mput_new {L : List (κ × α)} {k : κ} {a : α} (h : mget L k = none) : mput L k a = L ++ [(k, a)] := by
  induction L with
  | nil => rfl
  | cons p r ih =>
    unfold mget at h
    split at h
    · cases h
    · rename_i hp; simp [mput, hp, ih h]
theorem mget_put_same (L : List (κ × α)) (k : κ) (a : α) : mget (mput L k a) k = some a := by
  induction L with
  | nil => simp [mput, mget]
  | cons p r ih =>
    unfold mput
    split
    · simp [mget]
    · rename_i h; simp [mget, h, ih]
theorem mget_put_other (L : List (κ × α)) {k k' : κ} (a : α) (h : k ≠ k') : mget (mput L k a) k' = mget L k' := by
  induction L with
  | nil => simp [mput, mget, h]
  | cons p r ih =>
    unfold mput
    split
    · rename_i hp; simp [mget, h, hp]
    · by_cases hp : p.1 = k' <;> simp [mget, hp, ih]

structure KeyOK (P : Program) (K : TypeId) (kd : TypeDesc) (key : κ → Value) : Prop where
  und : P.underlying K = some kd
  isKey : ∀ k, IsKey kd (key k)
  inj : ∀ a b, key a = key b → a = b

structure Ents (key : κ → Value) (enc : α → Value) (es : Array MapEntry) (cl : Nat) (L : List (κ × α)) : Prop where
  kv : es.toList.map (fun e => (e.key, e.val)) = L.map fun p => (key p.1, enc p.2)
  st : Stamped es cl

variable {P : Program} {K : TypeId} {kd : TypeDesc} {key : κ → Value} {enc : α → Value}

omit [DecidableEq κ] in
theorem Ents.empty (cl : Nat) : Ents key enc #[] cl ([] : List (κ × α)) := ⟨rfl, stamped_empty cl⟩
omit [DecidableEq κ] in
theorem Ents.len {es : Array MapEntry} {cl : Nat} {L : List (κ × α)} (h : Ents key enc es cl L) : es.size = L.length := by
  have := congrArg List.length h.kv
  simpa using this

theorem findNow_get (H : KeyOK P K kd key) (k : κ) : ∀ (l : List MapEntry) (L : List (κ × α)) (i : Nat), l.map (fun e => (e.key, e.val)) = L.map (fun p => (key p.1, enc p.2)) →
    (mget L k = none ∧ Instr.findNow kd (key k) l i = some none ∧ ∀ x ∈ l, x.key ≠ key k) ∨
    ∃ j a, mget L k = some a ∧ Instr.findNow kd (key k) l i = some (some (i + j, enc a)) ∧ L[j]? = some (k, a) ∧ (∀ b, mput L k b = L.set j (k, b)) ∧ mdel L k = L.eraseIdx j
  | [], L, i, h => by
    cases L with
    | nil => exact .inl ⟨rfl, rfl, by simp⟩
    | cons p r => simp at h
  | e :: es, L, i, h => by
    cases L with
    | nil => simp at h
    | cons p r =>
      simp only [List.map_cons, List.cons.injEq, Prod.mk.injEq] at h
      obtain ⟨⟨h1, h2⟩, h3⟩ := h
      have hs : Instr.findNow kd (key k) (e :: es) i = (match Instr.sameNow kd (key k) e.key with | some true => some (some (i, e.val)) | some false => Instr.findNow kd (key k) es (i + 1) | none => none) := rfl
      obtain ⟨b, hb, hiff⟩ := sameNow_of_keys (H.isKey k) (show IsKey kd e.key by rw [h1]; exact H.isKey _)
      by_cases hp : p.1 = k
      · right
        have hb' : b = true := hiff.2 (by rw [h1, hp])
        subst hb'
        refine ⟨0, p.2, by simp [mget, hp], by rw [hs, hb, h2]; rfl, by rw [← hp]; rfl, fun b => by simp [mput, hp], by simp [mdel, hp]⟩
      · have hb' : b = false := by
          cases b
          · rfl
          · exact absurd (H.inj _ _ ((hiff.1 rfl).trans h1)).symm hp
        subst hb'
        rcases findNow_get H k es r (i + 1) h3 with ⟨g1, g2, g3⟩ | ⟨j, a, g1, g2, g3, g4, g5⟩
        · left
          refine ⟨by simp [mget, hp, g1], by rw [hs, hb]; exact g2, fun x hx => ?_⟩
          rcases List.mem_cons.1 hx with rfl | hx
          · rw [h1]; exact fun e => hp (H.inj _ _ e)
          · exact g3 x hx
        · right
          refine ⟨j + 1, a, by simp [mget, hp, g1], by rw [hs, hb]; simp only [g2]; congr 3; omega, by simpa using g3, fun b => by simp [mput, hp, g4], by simp [mdel, hp, g5]⟩

variable {w : World} {mb : Nat} {es : Array MapEntry} {cl : Nat} {L : List (κ × α)} {T E : TypeId} {z : Value}

/-- 'm[k]' of a map that is there. -/
theorem run_lookup (H : KeyOK P K kd key) (hT : P.underlying T = some (.map K E)) (hz : (zeroValue E).run P w = .ok z w) (hb : w.heap[mb]? = some (.map es cl)) (he : Ents key enc es cl L) (k : κ) (ok : Bool) :
    (Instr.lookup T (.map (some mb)) (key k) ok).run P w = .ok (if ok then .tuple #[((mget L k).map enc).getD z, .bool (mget L k).isSome] else ((mget L k).map enc).getD z) w := by
  rcases findNow_get (enc := enc) H k es.toList L 0 he.kv with ⟨h1, h2, _⟩ | ⟨j, a, h1, h2, _⟩
  · simp [Instr.lookup, run_underlying hT, MapKept.run_getObj_map hb, run_checkKey H.und (H.isKey k), run_findKey H.und h2, hz, h1, Result.andThen]
  · simp [Instr.lookup, run_underlying hT, MapKept.run_getObj_map hb, run_checkKey H.und (H.isKey k), run_findKey H.und h2, h1, Result.andThen]
omit [DecidableEq κ] in
/-- .. of a nil one. -/
theorem run_lookup_nil (H : KeyOK P K kd key) (hT : P.underlying T = some (.map K E)) (hz : (zeroValue E).run P w = .ok z w) (k : κ) (ok : Bool) :
    (Instr.lookup T (.map none) (key k) ok).run P w = .ok (if ok then .tuple #[z, .bool false] else z) w := by
  have h2 : Instr.findNow kd (key k) ([] : List MapEntry) 0 = some none := rfl
  simp [Instr.lookup, run_underlying hT, run_checkKey H.und (H.isKey k), run_findKey H.und h2, hz, Result.andThen]

/-- 'm[k] = v'. -/
theorem run_update (H : KeyOK P K kd key) (hT : P.underlying T = some (.map K E)) (he : Ents key enc es cl L) (k : κ) (a : α) :
    ∃ es' cl', Ents key enc es' cl' (mput L k a) ∧ ∀ w : World, w.heap[mb]? = some (.map es cl) → (Instr.mapUpdate T (.map (some mb)) (key k) (enc a)).run P w = .ok () (w.upd mb (.map es' cl')) := by
  rcases findNow_get (enc := enc) H k es.toList L 0 he.kv with ⟨h1, h2, h3⟩ | ⟨j, b, h1, h2, h3, h4, _⟩
  · refine ⟨es.push { key := key k, val := enc a, born := cl }, cl + 1, ⟨?_, ?_⟩, fun w hb => ?_⟩
    · rw [mput_new h1]; simp [he.kv]
    · exact stamped_push he.st h3
    · simp [Instr.mapUpdate, run_underlying hT, MapKept.run_getObj_map hb, run_checkKey H.und (H.isKey k), run_findKey H.und h2, MapKept.run_setObj_map _ hb, Result.andThen, World.upd]
  · have hj : j < es.size := by
      have := (List.getElem?_eq_some_iff.1 h3).1
      rw [he.len]; exact this
    have hkey : es[j].key = key k := by
      have := congrArg (fun l => l[j]?) he.kv
      simp [h3, hj] at this
      exact this.1
    refine ⟨es.modify j (fun e => { e with key := key k, val := enc a }), cl, ⟨?_, ?_⟩, fun w hb => ?_⟩
    · rw [h4, List.map_set, ← he.kv]
      apply List.ext_getElem?
      intro i
      simp only [List.getElem?_map, Array.getElem?_toList, Array.getElem?_modify, List.getElem?_set, List.length_map, Array.length_toList]
      by_cases hij : j = i
      · subst hij; simp [hj]
      · simp [hij]
    · refine stamped_modify he.st j _ (fun _ _ => rfl) (fun e _ he' => ?_)
      simp only [Array.getElem?_eq_getElem hj, Option.some.injEq] at he'
      rw [← he', hkey]
    · simp [Instr.mapUpdate, run_underlying hT, MapKept.run_getObj_map hb, run_checkKey H.und (H.isKey k), run_findKey H.und h2, MapKept.run_setObj_map _ hb, Result.andThen, World.upd, hj, hkey, run_keyThatStays (H.isKey k)]
end

/-- The world behind a name. -/
theorem wp_gen {P : Program} {c : Code} {Q : Exit → Act → World → Prop} {a : Act} {w : World} (h : ∀ W, W = w → c.wp P Q a W) : c.wp P Q a w := h w rfl

/-- A store into a map, at the operation. -/
theorem wpList_upd {P : Program} {ops : Array Oper} {rest : List Oper} {o : Oper} {a : Act} {Q : Exit → Act → World → Prop} {w : World} (hg : o.guard = none) (m x v : Operand) (T : TypeId) (hop : o.op = Op.mapUpdate T m x v)
    {mv xv vv : Value} (em : a.eval m = mv) (ex : a.eval x = xv) (ev : a.eval v = vv) (w' : World) (hrun : (Instr.mapUpdate T mv xv vv).run P w = .ok () w') (hK : wpList P ops Q rest (a.put o.dst undef) w') : wpList P ops Q (o :: rest) a w := by
  refine wpList_plain hg fun K' hK' => ?_
  unfold Oper.wp
  simp [execOp, hop, em, ex, ev, hrun, Result.andThen]
  exact hK' _ _ hK
end Go.Proofs.Ytppmbfffnpindaa
