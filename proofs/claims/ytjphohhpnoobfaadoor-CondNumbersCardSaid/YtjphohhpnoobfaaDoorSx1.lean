/- A reckoner of Go code over a memory of its own: its memory, and how a world follows it. No condition. -/
import Derived.Orders
import Derived.Tactics
import Derived.Below
import Derived.WalkKit
namespace Go.Proofs.YtjphohhpnoobfaaDoor.Sx
open Go
set_option linter.unusedVariables false
set_option linter.unusedSimpArgs false
set_option linter.unusedSectionVars false

/-! ### a tree of numbers -/
inductive Tr (α : Type) where
  | nil
  | node (v : Option α) (l r : Tr α)
namespace Tr
variable {α : Type}
noncomputable def get (t : Tr α) : Nat → Option α :=
  Tr.rec (motive := fun _ => Nat → Option α) (fun _ => none)
    (fun v _ _ gl gr k => Bool.rec (motive := fun _ => Option α) (Bool.rec (motive := fun _ => Option α) (gr (Nat.sub (Nat.shiftRight k 1) 1)) (gl (Nat.shiftRight k 1)) (Nat.beq (Nat.land k 1) 1)) v (Nat.beq k 0)) t
noncomputable def path (f : Nat) : Nat → Option α → Tr α :=
  Nat.rec (motive := fun _ => Nat → Option α → Tr α) (fun _ _ => .nil)
    (fun _ ih k x => Bool.rec (motive := fun _ => Tr α) (Bool.rec (motive := fun _ => Tr α) (.node none .nil (ih (Nat.sub (Nat.shiftRight k 1) 1) x)) (.node none (ih (Nat.shiftRight k 1) x) .nil) (Nat.beq (Nat.land k 1) 1)) (.node x .nil .nil) (Nat.beq k 0)) f
noncomputable def put (t : Tr α) : Nat → Option α → Tr α :=
  Tr.rec (motive := fun _ => Nat → Option α → Tr α) (fun k x => path (Nat.succ k) k x)
    (fun v l r pl pr k x => Bool.rec (motive := fun _ => Tr α) (Bool.rec (motive := fun _ => Tr α) (.node v l (pr (Nat.sub (Nat.shiftRight k 1) 1) x)) (.node v (pl (Nat.shiftRight k 1) x) r) (Nat.beq (Nat.land k 1) 1)) (.node x l r) (Nat.beq k 0)) t

theorem odd_even (k : Nat) (h : k % 2 = 0) : Nat.beq (Nat.land (k + 1) 1) 1 = true ∧ Nat.shiftRight (k + 1) 1 = k / 2 ∧ Nat.beq (k + 1) 0 = false := by
  have h1 : Nat.land (k + 1) 1 = (k + 1) % 2 := Nat.and_one_is_mod (k + 1)
  have h2 : Nat.shiftRight (k + 1) 1 = (k + 1) / 2 := Nat.shiftRight_eq_div_pow (k + 1) 1
  refine ⟨by rw [h1, show (k + 1) % 2 = 1 from by omega]; rfl, by rw [h2]; omega, rfl⟩
theorem odd_odd (k : Nat) (h : ¬ k % 2 = 0) : Nat.beq (Nat.land (k + 1) 1) 1 = false ∧ Nat.sub (Nat.shiftRight (k + 1) 1) 1 = k / 2 ∧ Nat.beq (k + 1) 0 = false := by
  have h1 : Nat.land (k + 1) 1 = (k + 1) % 2 := Nat.and_one_is_mod (k + 1)
  have h2 : Nat.shiftRight (k + 1) 1 = (k + 1) / 2 := Nat.shiftRight_eq_div_pow (k + 1) 1
  have h3 : ∀ a b : Nat, Nat.sub a b = a - b := fun _ _ => rfl
  refine ⟨by rw [h1, show (k + 1) % 2 = 0 from by omega]; rfl, by rw [h2, h3]; omega, rfl⟩
theorem get_nil (k : Nat) : (Tr.nil : Tr α).get k = none := rfl
theorem get_zero (v : Option α) (l r : Tr α) : (Tr.node v l r).get 0 = v := rfl
theorem get_node (v : Option α) (l r : Tr α) (k : Nat) : (Tr.node v l r).get k = Bool.rec (motive := fun _ => Option α) (Bool.rec (motive := fun _ => Option α) (r.get (Nat.sub (Nat.shiftRight k 1) 1)) (l.get (Nat.shiftRight k 1)) (Nat.beq (Nat.land k 1) 1)) v (Nat.beq k 0) := rfl
theorem get_even (v : Option α) (l r : Tr α) (k : Nat) (h : k % 2 = 0) : (Tr.node v l r).get (k + 1) = l.get (k / 2) := by
  obtain ⟨h1, h2, h3⟩ := odd_even k h
  rw [get_node, h1, h2, h3]
theorem get_odd (v : Option α) (l r : Tr α) (k : Nat) (h : ¬ k % 2 = 0) : (Tr.node v l r).get (k + 1) = r.get (k / 2) := by
  obtain ⟨h1, h2, h3⟩ := odd_odd k h
  rw [get_node, h1, h2, h3]
theorem put_node (v : Option α) (l r : Tr α) (k : Nat) (x : Option α) : (Tr.node v l r).put k x = Bool.rec (motive := fun _ => Tr α) (Bool.rec (motive := fun _ => Tr α) (.node v l (r.put (Nat.sub (Nat.shiftRight k 1) 1) x)) (.node v (l.put (Nat.shiftRight k 1) x) r) (Nat.beq (Nat.land k 1) 1)) (.node x l r) (Nat.beq k 0) := rfl
theorem put_zero (v : Option α) (l r : Tr α) (x : Option α) : (Tr.node v l r).put 0 x = .node x l r := rfl
theorem put_even (v : Option α) (l r : Tr α) (k : Nat) (x : Option α) (h : k % 2 = 0) : (Tr.node v l r).put (k + 1) x = .node v (l.put (k / 2) x) r := by
  obtain ⟨h1, h2, h3⟩ := odd_even k h
  rw [put_node, h1, h2, h3]
theorem put_odd (v : Option α) (l r : Tr α) (k : Nat) (x : Option α) (h : ¬ k % 2 = 0) : (Tr.node v l r).put (k + 1) x = .node v l (r.put (k / 2) x) := by
  obtain ⟨h1, h2, h3⟩ := odd_odd k h
  rw [put_node, h1, h2, h3]
theorem path_succ (f k : Nat) (x : Option α) : path (f + 1) k x = Bool.rec (motive := fun _ => Tr α) (Bool.rec (motive := fun _ => Tr α) (.node none .nil (path f (Nat.sub (Nat.shiftRight k 1) 1) x)) (.node none (path f (Nat.shiftRight k 1) x) .nil) (Nat.beq (Nat.land k 1) 1)) (.node x .nil .nil) (Nat.beq k 0) := rfl
theorem get_path : ∀ (f k : Nat) (x : Option α) (j : Nat), k ≤ f → (path (f + 1) k x).get j = if j = k then x else none := by
  intro f
  induction f with
  | zero =>
    intro k x j hk
    obtain rfl : k = 0 := by omega
    rw [path_succ]
    cases j with
    | zero => rfl
    | succ j =>
      rw [if_neg (by omega)]
      by_cases hj : j % 2 = 0
      · exact get_even _ _ _ _ hj
      · exact get_odd _ _ _ _ hj
  | succ f ih =>
    intro k x j hk
    rw [path_succ]
    cases k with
    | zero =>
      cases j with
      | zero => rfl
      | succ j =>
        rw [if_neg (by omega)]
        by_cases hj : j % 2 = 0
        · exact get_even _ _ _ _ hj
        · exact get_odd _ _ _ _ hj
    | succ k =>
      have hk2 : k / 2 ≤ f := by omega
      by_cases hm : k % 2 = 0
      · obtain ⟨h1, h2, h3⟩ := odd_even k hm
        rw [h1, h2, h3]
        cases j with
        | zero => simp [get_zero]
        | succ j =>
          by_cases hj : j % 2 = 0
          · show (Tr.node none (path (f + 1) (k / 2) x) .nil).get (j + 1) = _
            rw [get_even _ _ _ _ hj, ih _ _ _ hk2]
            simp only [Nat.add_right_cancel_iff]
            split
            · rw [if_pos (by omega)]
            · rw [if_neg (by omega)]
          · show (Tr.node none (path (f + 1) (k / 2) x) .nil).get (j + 1) = _
            rw [get_odd _ _ _ _ hj, get_nil, if_neg (by omega)]
      · obtain ⟨h1, h2, h3⟩ := odd_odd k hm
        rw [h1, h2, h3]
        cases j with
        | zero => simp [get_zero]
        | succ j =>
          by_cases hj : j % 2 = 0
          · show (Tr.node none .nil (path (f + 1) (k / 2) x)).get (j + 1) = _
            rw [get_even _ _ _ _ hj, get_nil, if_neg (by omega)]
          · show (Tr.node none .nil (path (f + 1) (k / 2) x)).get (j + 1) = _
            rw [get_odd _ _ _ _ hj, ih _ _ _ hk2]
            simp only [Nat.add_right_cancel_iff]
            split
            · rw [if_pos (by omega)]
            · rw [if_neg (by omega)]
theorem get_put (t : Tr α) : ∀ (k : Nat) (x : Option α) (j : Nat), (t.put k x).get j = if j = k then x else t.get j := by
  induction t with
  | nil => intro k x j; exact get_path k k x j (Nat.le_refl _)
  | node v l r ihl ihr =>
    intro k x j
    cases k with
    | zero =>
      rw [put_zero]
      cases j with
      | zero => rfl
      | succ j =>
        rw [if_neg (by omega)]
        by_cases hj : j % 2 = 0
        · rw [get_even _ _ _ _ hj, get_even _ _ _ _ hj]
        · rw [get_odd _ _ _ _ hj, get_odd _ _ _ _ hj]
    | succ k =>
      by_cases hm : k % 2 = 0
      · rw [put_even _ _ _ _ _ hm]
        cases j with
        | zero => rw [if_neg (by omega)]; rfl
        | succ j =>
          by_cases hj : j % 2 = 0
          · rw [get_even _ _ _ _ hj, get_even _ _ _ _ hj, ihl]
            simp only [Nat.add_right_cancel_iff]
            split
            · rw [if_pos (by omega)]
            · rw [if_neg (by omega)]
          · rw [get_odd _ _ _ _ hj, get_odd _ _ _ _ hj, if_neg (by omega)]
      · rw [put_odd _ _ _ _ _ hm]
        cases j with
        | zero => rw [if_neg (by omega)]; rfl
        | succ j =>
          by_cases hj : j % 2 = 0
          · rw [get_even _ _ _ _ hj, get_even _ _ _ _ hj, if_neg (by omega)]
          · rw [get_odd _ _ _ _ hj, get_odd _ _ _ _ hj, ihr]
            simp only [Nat.add_right_cancel_iff]
            split
            · rw [if_pos (by omega)]
            · rw [if_neg (by omega)]
end Tr

/-! ### the reckoner's memory -/
inductive AObj where
  | cells (s : Nat) (l : List Value)
  | map (es : List (Value × Value))
  | frz (b : Bool) (l : List Value)
/-- What is only read. -/
noncomputable def AObj.fz : AObj → Bool
  | .frz _ _ => true
  | _ => false
/-- gm: which package-level variables are known. -/
structure AW where
  n : Nat
  t : Tr AObj
  gm : Nat
noncomputable def AW.get : AW → Nat → Option AObj
  | ⟨_, t, _⟩, i => t.get i
noncomputable def AW.put : AW → Nat → Option AObj → AW
  | ⟨n, t, g⟩, i, o => ⟨n, t.put i o, g⟩
noncomputable def AW.new : AW → AObj → AW
  | ⟨n, t, g⟩, o => ⟨n + 1, t.put n (some o), g⟩
theorem AW.put_n (A : AW) (i : Nat) (o : Option AObj) : (A.put i o).n = A.n := rfl
theorem AW.new_n (A : AW) (o : AObj) : (A.new o).n = A.n + 1 := rfl
noncomputable def keepB (mask t : Nat) : Bool := Nat.beq (Nat.land (Nat.shiftRight mask t) 1) 1

/-- The numbers that stand for what is not known: minus so great ones. -/
class Rho where
  val : Nat → Int
noncomputable def LIM : Nat := 1000000000000000000000000
noncomputable def isLit : Int → Bool
  | .ofNat _ => true
  | .negSucc m => !Nat.ble LIM m
variable [Rho]
theorem AW.get_put (A : AW) (i : Nat) (o : Option AObj) (j : Nat) : (A.put i o).get j = if j = i then o else A.get j := Tr.get_put _ _ _ _
theorem AW.get_new (A : AW) (o : AObj) (j : Nat) : (A.new o).get j = if j = A.n then some o else A.get j := Tr.get_put _ _ _ _

/-- Where a row of the reckoner's lies. -/
structure Spot where
  blk : Nat
  off : Nat
  sz : Nat
  es : Nat
abbrev Sg := Nat → Option Spot
noncomputable def Sg.le (σ τ : Sg) : Prop := ∀ i p, σ i = some p → τ i = some p
theorem Sg.le_refl (σ : Sg) : σ.le σ := fun _ _ h => h
theorem Sg.le_trans {a b c : Sg} (h : a.le b) (k : b.le c) : a.le c := fun i p x => k i p (h i p x)
noncomputable def Sg.set (σ : Sg) (i : Nat) (p : Spot) : Sg := fun j => if j = i then some p else σ j
theorem Sg.le_set {σ : Sg} {i : Nat} {p : Spot} (h : σ i = none) : σ.le (σ.set i p) := fun j q hq => by
  unfold Sg.set
  split
  · rename_i e; subst e; rw [h] at hq; cases hq
  · exact hq

noncomputable def fnOk : Fn → Bool
  | .yield _ => false
  | _ => true

/-- A value follows one of the reckoner's. A slice's room: 0 is unknown, n + 1 is n. -/
inductive VR (σ : Sg) : Value → Value → Prop where
  | bool (b : Bool) : VR σ (.bool b) (.bool b)
  | int (k : IntKind) (n : Int) (h : isLit n = true) : VR σ (.int k n) (.int k n)
  | sym (k : IntKind) (i : Nat) : VR σ (.int k (.negSucc (LIM + i))) (.int k (Rho.val i))
  | str (s : ByteArray) : VR σ (.string s) (.string s)
  | nilp : VR σ (.pointer none) (.pointer none)
  | ptr {i : Nat} {p : Spot} (o : Nat) (h : σ i = some p) : VR σ (.pointer (some ⟨i, o, none⟩)) (.pointer (some ⟨p.blk, p.off + o, none⟩))
  | nils (c : Nat) : VR σ (.slice none 0 c) (.slice none 0 0)
  | slice {i : Nat} {p : Spot} {o n c c' : Nat} (h : σ i = some p) (hn : n ≤ c') (hc : c = 0 ∨ c = c' + 1) (hz : p.off + o + c' * p.es ≤ p.sz) : VR σ (.slice (some ⟨i, o, none⟩) n c) (.slice (some ⟨p.blk, p.off + o, none⟩) n c')
  | none_ {a b : Addr} {c : Nat} (hc : c = 0 ∨ c = 1) : VR σ (.slice (some a) 0 c) (.slice (some b) 0 0)
  | nilm : VR σ (.map none) (.map none)
  | map {i : Nat} {p : Spot} (h : σ i = some p) : VR σ (.map (some i)) (.map (some p.blk))
  | nilf : VR σ .nilFunc .nilFunc
  | nili : VR σ .nilIface .nilIface
  | func (f : Fn) (hf : fnOk f = true) {a a' c c' : Array Value} (ha : a.size = a'.size) (hc : c.size = c'.size)
      (ea : ∀ (i : Nat) (x y : Value), a[i]? = some x → a'[i]? = some y → VR σ x y) (ec : ∀ (i : Nat) (x y : Value), c[i]? = some x → c'[i]? = some y → VR σ x y) : VR σ (.func f a c) (.func f a' c')
  | iface (t : TypeId) {v v' : Value} (h : VR σ v v') : VR σ (.iface t v) (.iface t v')
  | agg {a a' : Array Value} (ha : a.size = a'.size) (ea : ∀ (i : Nat) (x y : Value), a[i]? = some x → a'[i]? = some y → VR σ x y) : VR σ (.agg a) (.agg a')
  | tuple {a a' : Array Value} (ha : a.size = a'.size) (ea : ∀ (i : Nat) (x y : Value), a[i]? = some x → a'[i]? = some y → VR σ x y) : VR σ (.tuple a) (.tuple a')

theorem VR.mono {σ τ : Sg} (hle : σ.le τ) {v v' : Value} (h : VR σ v v') : VR τ v v' := by
  induction h with
  | bool b => exact .bool b
  | int k n h => exact .int k n h
  | sym k i => exact .sym k i
  | str s => exact .str s
  | nilp => exact .nilp
  | ptr o h => exact .ptr o (hle _ _ h)
  | nils c => exact .nils c
  | slice h hn hc hz => exact .slice (hle _ _ h) hn hc hz
  | none_ hc => exact .none_ hc
  | nilm => exact .nilm
  | map h => exact .map (hle _ _ h)
  | nilf => exact .nilf
  | nili => exact .nili
  | func f hf ha hc _ _ i1 i2 => exact .func f hf ha hc i1 i2
  | iface t _ ih => exact .iface t ih
  | agg ha _ ih => exact .agg ha ih
  | tuple ha _ ih => exact .tuple ha ih

/-- Two lists of values, one by one. -/
noncomputable def VRs (σ : Sg) (l l' : List Value) : Prop := l.length = l'.length ∧ ∀ (i : Nat) (x y : Value), l[i]? = some x → l'[i]? = some y → VR σ x y
theorem VRs.mono {σ τ : Sg} (hle : σ.le τ) {l l' : List Value} (h : VRs σ l l') : VRs τ l l' := ⟨h.1, fun i x y a b => (h.2 i x y a b).mono hle⟩
theorem VRs.get {σ : Sg} {l l' : List Value} (h : VRs σ l l') {i : Nat} {x : Value} (hx : l[i]? = some x) : ∃ y, l'[i]? = some y ∧ VR σ x y := by
  have hlt : i < l'.length := by rw [← h.1]; exact (List.getElem?_eq_some_iff.1 hx).1
  exact ⟨l'[i], List.getElem?_eq_getElem hlt, h.2 i x _ hx (List.getElem?_eq_getElem hlt)⟩
theorem VRs.nil (σ : Sg) : VRs σ [] [] := ⟨rfl, fun i x y h => by simp at h⟩
theorem VRs.cons {σ : Sg} {x y : Value} {l l' : List Value} (h : VR σ x y) (hl : VRs σ l l') : VRs σ (x :: l) (y :: l') := by
  refine ⟨by simp [hl.1], fun i a b ha hb => ?_⟩
  cases i with
  | zero => simp at ha hb; subst ha hb; exact h
  | succ i => exact hl.2 i a b (by simpa using ha) (by simpa using hb)
theorem VRs.append {σ : Sg} {l l' m m' : List Value} (h : VRs σ l l') (hm : VRs σ m m') : VRs σ (l ++ m) (l' ++ m') := by
  refine ⟨by simp [h.1, hm.1], fun i a b ha hb => ?_⟩
  rw [List.getElem?_append] at ha hb
  rw [← h.1] at hb
  split at ha
  · rename_i hi; rw [if_pos hi] at hb; exact h.2 i a b ha hb
  · rename_i hi; rw [if_neg hi] at hb; exact hm.2 _ a b ha hb
theorem VRs.take {σ : Sg} {l l' : List Value} (h : VRs σ l l') (k : Nat) : VRs σ (l.take k) (l'.take k) := by
  refine ⟨by simp [h.1], fun i a b ha hb => ?_⟩
  rw [List.getElem?_take] at ha hb
  split at ha
  · rename_i hi; rw [if_pos hi] at hb; exact h.2 i a b ha hb
  · cases ha
theorem VRs.drop {σ : Sg} {l l' : List Value} (h : VRs σ l l') (k : Nat) : VRs σ (l.drop k) (l'.drop k) := by
  refine ⟨by simp [h.1], fun i a b ha hb => ?_⟩
  rw [List.getElem?_drop] at ha hb
  exact h.2 _ a b ha hb
theorem VRs.set {σ : Sg} {l l' : List Value} (h : VRs σ l l') (k : Nat) {x y : Value} (hx : VR σ x y) : VRs σ (l.set k x) (l'.set k y) := by
  refine ⟨by simp [h.1], fun i a b ha hb => ?_⟩
  rw [List.getElem?_set] at ha hb
  rw [← h.1] at hb
  split at ha
  · rename_i hi
    rw [if_pos hi] at hb
    split at ha
    · rename_i hk; rw [if_pos hk] at hb; cases ha; cases hb; exact hx
    · cases ha
  · rename_i hi; rw [if_neg hi] at hb; exact h.2 i a b ha hb
theorem VR.agg_list {σ : Sg} {l l' : List Value} (h : VRs σ l l') : VR σ (.agg l.toArray) (.agg l'.toArray) :=
  .agg (by simpa using h.1) fun i x y hx hy => h.2 i x y (by simpa using hx) (by simpa using hy)
theorem VR.cells {σ : Sg} {v v' : Value} (h : VR σ v v') : VRs σ v.cells.toList v'.cells.toList := by
  have one : ∀ {a b : Value}, VR σ a b → VRs σ [a] [b] := fun h => .cons h (.nil σ)
  cases h with
  | agg ha ea => exact ⟨by simpa [Value.cells] using ha, fun i x y hx hy => ea i x y (by simpa [Value.cells] using hx) (by simpa [Value.cells] using hy)⟩
  | bool b => exact one (.bool b)
  | int k n h => exact one (.int k n h)
  | sym k i => exact one (.sym k i)
  | str s => exact one (.str s)
  | nilp => exact one .nilp
  | ptr o h => exact one (.ptr o h)
  | nils c => exact one (.nils c)
  | slice h hn hc hz => exact one (.slice h hn hc hz)
  | none_ hc => exact one (.none_ hc)
  | nilm => exact one .nilm
  | map h => exact one (.map h)
  | nilf => exact one .nilf
  | nili => exact one .nili
  | func f hf ha hc i1 i2 => exact one (.func f hf ha hc i1 i2)
  | iface t h => exact one (.iface t h)
  | tuple ha ea => exact one (.tuple ha ea)

/-- None of a row's cells is frozen. -/
noncomputable def noFr (_C : Array Value) (fr : Nat × Nat) : Prop := fr = (0, 0)
/-- What lies in a world where a row of the reckoner's lies. -/
noncomputable def Lies (σ : Sg) (w : World) (p : Spot) : AObj → Prop
  | .cells s l => p.es = s ∧ ∃ C e fr, w.heap[p.blk]? = some (.cells C e fr) ∧ C.size = p.sz ∧ noFr C fr ∧ ∃ l', VRs σ l l' ∧ ∀ j y, l'[j]? = some y → C[p.off + j]? = some y
  | .frz b l => ∃ C e fr, w.heap[p.blk]? = some (.cells C e fr) ∧ (b = true → fr = (0, 0)) ∧ C.size = p.sz ∧ ∃ l', VRs σ l l' ∧ ∀ j y, l'[j]? = some y → C[p.off + j]? = some y
  | .map es => ∃ E c, w.heap[p.blk]? = some (.map E c) ∧ VRs σ (es.map (·.1)) (E.toList.map (·.key)) ∧ VRs σ (es.map (·.2)) (E.toList.map (·.val))

/-- A world follows the reckoner's memory. -/
structure WR (σ : Sg) (A : AW) (w : World) : Prop where
  lies : ∀ i o, A.get i = some o → ∃ p, σ i = some p ∧ Lies σ w p o
  apart : ∀ i j o o' p q, A.get i = some o → A.get j = some o' → σ i = some p → σ j = some q → i ≠ j → p.blk ≠ q.blk ∨ (o.fz = true ∧ o'.fz = true ∧ p.off ≠ q.off)
  old : ∀ i p, σ i = some p → i < A.n ∧ p.blk < w.heap.size
  fits : ∀ i p, σ i = some p → ∀ C e fr, w.heap[p.blk]? = some (.cells C e fr) → C.size = p.sz
  top : ∀ i, A.n ≤ i → A.get i = none
  glob : ∀ g, keepB A.gm g = true → ∃ p, σ g = some p ∧ p.blk = g ∧ p.off = 0

theorem WR.apartC {σ : Sg} {A : AW} {w : World} (h : WR σ A w) {i j : Nat} {o o' : AObj} {p q : Spot} (hi : A.get i = some o) (hj : A.get j = some o') (hp : σ i = some p) (hq : σ j = some q) (hne : i ≠ j) (hf : o.fz = false ∨ o'.fz = false) : p.blk ≠ q.blk := by
  rcases h.apart i j o o' p q hi hj hp hq hne with h1 | ⟨h1, h2, _⟩
  · exact h1
  · rcases hf with h3 | h3
    · rw [h1] at h3; cases h3
    · rw [h2] at h3; cases h3
/-- A block that lies under the reckoner's memory. -/
noncomputable def Owned (σ : Sg) (A : AW) (b : Nat) : Prop := ∃ i o p, A.get i = some o ∧ o.fz = false ∧ σ i = some p ∧ p.blk = b

/-- From one world to another: what is not the reckoner's stays. -/
structure Sim (σ : Sg) (A : AW) (w : World) (τ : Sg) (B : AW) (w' : World) : Prop where
  le : σ.le τ
  wr : WR τ B w'
  os : w'.os = w.os
  tape : w'.tape = w.tape
  output : w'.output = w.output
  size : w.heap.size ≤ w'.heap.size
  keep : ∀ b, b < w.heap.size → ¬ Owned σ A b → w'.heap[b]? = w.heap[b]?
  own : ∀ b, Owned τ B b → Owned σ A b ∨ w.heap.size ≤ b
theorem Sim.refl {σ : Sg} {A : AW} {w : World} (h : WR σ A w) : Sim σ A w σ A w := ⟨Sg.le_refl σ, h, rfl, rfl, rfl, Nat.le_refl _, fun _ _ _ => rfl, fun _ h => .inl h⟩
theorem Sim.trans {σ τ υ : Sg} {A B C : AW} {w w' w'' : World} (h : Sim σ A w τ B w') (k : Sim τ B w' υ C w'') : Sim σ A w υ C w'' where
  le := Sg.le_trans h.le k.le
  wr := k.wr
  os := k.os.trans h.os
  tape := k.tape.trans h.tape
  output := k.output.trans h.output
  size := Nat.le_trans h.size k.size
  keep := fun b hb hn => by
    have h2 : ¬ Owned τ B b := fun ho => by
      rcases h.own b ho with h3 | h3
      · exact hn h3
      · omega
    rw [k.keep b (Nat.lt_of_lt_of_le hb h.size) h2, h.keep b hb hn]
  own := fun b hb => by
    rcases k.own b hb with h2 | h2
    · exact h.own b h2
    · exact .inr (Nat.le_trans h.size h2)
theorem WR.drew {σ : Sg} {A : AW} {w : World} (h : WR σ A w) : WR σ A { w with drawn := w.drawn + 1 } :=
  ⟨fun i o ho => let ⟨p, hp, hl⟩ := h.lies i o ho; ⟨p, hp, by cases o <;> exact hl⟩, h.apart, h.old, h.fits, h.top, h.glob⟩
theorem WR.drawn {σ : Sg} {A : AW} {w : World} (h : WR σ A w) (n : Nat) : WR σ A { w with drawn := n } :=
  ⟨fun i o ho => let ⟨p, hp, hl⟩ := h.lies i o ho; ⟨p, hp, by cases o <;> exact hl⟩, h.apart, h.old, h.fits, h.top, h.glob⟩
theorem Sim.drawn {σ : Sg} {A : AW} {w : World} (h : WR σ A w) (n : Nat) : Sim σ A w σ A { w with drawn := n } :=
  ⟨Sg.le_refl σ, h.drawn n, rfl, rfl, rfl, Nat.le_refl _, fun _ _ _ => rfl, fun _ h => .inl h⟩
end Go.Proofs.YtjphohhpnoobfaaDoor.Sx
