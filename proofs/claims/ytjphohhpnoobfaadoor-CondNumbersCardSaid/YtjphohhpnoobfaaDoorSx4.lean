/- A reckoner of Go code: the operations that do not touch memory. No condition. -/
import Derived.Test.YtjphohhpnoobfaaDoorSx3
import Derived.Laws.Strings
namespace Go.Proofs.YtjphohhpnoobfaaDoor.Sx
open Go Go.RowKit
set_option linter.unusedVariables false
set_option linter.unusedSimpArgs false
set_option linter.unusedSectionVars false
variable [Rho]

/-! ### whole numbers -/
noncomputable def fits (k : IntKind) : Int → Bool
  | .ofNat n => match k with
    | .i64 => Nat.ble n 9223372036854775807
    | .u8 => Nat.ble n 255
    | .u32 => Nat.ble n 4294967295
    | .i32 => Nat.ble n 2147483647
    | .u64 => Nat.ble n 18446744073709551615
    | _ => false
  | .negSucc n => match k with
    | .i64 => Nat.ble n 9223372036854775807
    | .i32 => Nat.ble n 2147483647
    | _ => false
noncomputable def wrapF (k : IntKind) (n : Int) : Int := bif fits k n then n else k.wrap n
theorem wrapF_eq (k : IntKind) (n : Int) : wrapF k n = k.wrap n := by
  unfold wrapF
  rw [Bool.cond_eq_ite]
  split
  · rename_i h
    cases n with
    | ofNat n =>
      cases k <;> simp [fits] at h
      · exact (IntWalk.i32_in _ (by simp; omega)).symm
      · exact (IntWalk.i64_in _ (by simp; omega)).symm
      · exact (IntWalk.u8_in _ (by simp; omega)).symm
      · exact (IntWalk.u32_in _ (by simp; omega)).symm
      · exact (IntWalk.u64_in _ (by simp; omega)).symm
    | negSucc n =>
      cases k <;> simp [fits] at h
      · exact (IntWalk.i32_in _ (by omega)).symm
      · exact (IntWalk.i64_in _ (by omega)).symm
  · rfl
noncomputable def intLe : Int → Int → Bool
  | .ofNat a, .ofNat b => Nat.ble a b
  | .negSucc _, .ofNat _ => true
  | .ofNat _, .negSucc _ => false
  | .negSucc a, .negSucc b => Nat.ble b a
theorem intLe_eq (a b : Int) : intLe a b = decide (a ≤ b) := by
  rw [Bool.eq_iff_iff, decide_eq_true_iff]
  cases a <;> cases b <;> simp only [intLe, Nat.ble_eq, Bool.false_eq_true, false_iff, true_iff, Int.ofNat_eq_natCast] <;> omega
noncomputable def intEq : Int → Int → Bool
  | .ofNat a, .ofNat b => Nat.beq a b
  | .negSucc a, .negSucc b => Nat.beq a b
  | _, _ => false
theorem intEq_eq (a b : Int) : intEq a b = (a == b) := by
  rw [Bool.eq_iff_iff]
  cases a <;> cases b <;> simp [intEq] <;> omega
noncomputable def kindEq : IntKind → IntKind → Bool
  | .i8, .i8 | .i16, .i16 | .i32, .i32 | .i64, .i64 | .u8, .u8 | .u16, .u16 | .u32, .u32 | .u64, .u64 => true
  | _, _ => false
theorem kindEq_eq {a b : IntKind} (h : kindEq a b = true) : a = b := by cases a <;> cases b <;> first | rfl | cases h
noncomputable def intOp (op : BinOp) (k : IntKind) (a b : Int) : Option Value :=
  match op with
  | .add => some (.int k (wrapF k (a + b)))
  | .sub => some (.int k (wrapF k (a - b)))
  | .mul => some (.int k (wrapF k (a * b)))
  | .quo => bif intEq b 0 then none else some (.int k (wrapF k (a.tdiv b)))
  | .rem => bif intEq b 0 then none else some (.int k (a.tmod b))
  | .eql => some (.bool (intEq a b))
  | .neq => some (.bool (!intEq a b))
  | .leq => some (.bool (intLe a b))
  | .lss => some (.bool (!intLe b a))
  | .geq => some (.bool (intLe b a))
  | .gtr => some (.bool (!intLe a b))
  | .and | .or | .xor | .andNot => some (.int k (bits op k a b))
  | _ => none
noncomputable def shOp (op : BinOp) (k : IntKind) (a b : Int) : Option Value :=
  match op with
  | .shl => bif intLe 0 b then some (.int k (wrapF k (a * 2 ^ (min b.toNat k.bits)))) else none
  | .shr => bif intLe 0 b then some (.int k (a.fdiv (2 ^ (min b.toNat k.bits)))) else none
  | _ => none
/-! ### texts -/
noncomputable def beqB : List UInt8 → List UInt8 → Bool
  | [], [] => true
  | a :: x, b :: y => bif Nat.beq a.toNat b.toNat then beqB x y else false
  | _, _ => false
theorem beqB_eq : ∀ (x y : List UInt8), beqB x y = (x == y)
  | [], [] => rfl
  | [], _ :: _ => rfl
  | _ :: _, [] => rfl
  | a :: x, b :: y => by
    rw [Bool.eq_iff_iff]
    simp only [beqB, Bool.cond_eq_ite]
    split
    · rename_i h
      have e : a = b := UInt8.toNat_inj.1 (by simpa using h)
      rw [beqB_eq x y]
      simp [e]
    · rename_i h
      have e : a ≠ b := fun e => h (by simp [e])
      simp [e]
noncomputable def lessB : List UInt8 → List UInt8 → Bool
  | _, [] => false
  | [], _ :: _ => true
  | a :: x, b :: y => bif Nat.beq a.toNat b.toNat then lessB x y else Nat.ble (a.toNat + 1) b.toNat
theorem lessB_eq : ∀ (x y : List UInt8), lessB x y = Op.bytesLess x y
  | [], [] => rfl
  | [], _ :: _ => rfl
  | _ :: _, [] => rfl
  | a :: x, b :: y => by
    rw [Bool.eq_iff_iff]
    simp only [lessB, Op.bytesLess, Bool.cond_eq_ite]
    split
    · rename_i h
      have e : a = b := UInt8.toNat_inj.1 (by simpa using h)
      rw [lessB_eq x y]
      simp [e]
    · rename_i h
      have e : a ≠ b := fun e => h (by simp [e])
      simp [e, UInt8.lt_iff_toNat_lt]
      omega
noncomputable def mkS (l : List UInt8) : ByteArray := ⟨⟨l⟩⟩
noncomputable def lst (s : ByteArray) : List UInt8 := s.data.toList
theorem mkS_lst (s : ByteArray) : mkS (lst s) = s := rfl
noncomputable def strOp (op : BinOp) (x y : ByteArray) : Option Value :=
  match op with
  | .add => bif Nat.ble ((lst x).length + (lst y).length) 9223372036854775807 then some (.string (mkS (lst x ++ lst y))) else none
  | .eql => some (.bool (beqB (lst x) (lst y)))
  | .neq => some (.bool (!beqB (lst x) (lst y)))
  | .lss => some (.bool (lessB (lst x) (lst y)))
  | .leq => some (.bool (lessB (lst x) (lst y) || beqB (lst x) (lst y)))
  | .gtr => some (.bool (!(lessB (lst x) (lst y) || beqB (lst x) (lst y))))
  | .geq => some (.bool (!lessB (lst x) (lst y)))
  | _ => none
/-! ### two operands; c: is one of them written out in the code? -/
noncomputable def isC : Operand → Bool
  | .const _ => true
  | _ => false
noncomputable def eqNil : Value → Value → Option Bool
  | .pointer none, .pointer none => some true
  | .pointer (some _), .pointer none => some false
  | .pointer none, .pointer (some _) => some false
  | .slice none _ _, .slice none _ _ => some true
  | .slice (some _) _ _, .slice none _ _ => some false
  | .slice none _ _, .slice (some _) _ _ => some false
  | .map none, .map none => some true
  | .map (some _), .map none => some false
  | .map none, .map (some _) => some false
  | .nilFunc, .nilFunc => some true
  | .func _ _ _, .nilFunc => some false
  | .nilFunc, .func _ _ _ => some false
  | .iface _ _, .nilIface => some false
  | .nilIface, .iface _ _ => some false
  | _, _ => none
noncomputable def kindOf : TypeDesc → Value → Bool
  | .pointer _, .pointer _ => true
  | .slice _, .slice _ _ _ => true
  | .map _ _, .map _ => true
  | .func _ _ _, .func _ _ _ => true
  | .func _ _ _, .nilFunc => true
  | .interface _, .iface _ _ => true
  | .interface _, .nilIface => true
  | _, _ => false
/-- A value, if it is one. -/
noncomputable def chk : Option Value → Option Value
  | some v => bif base v then some v else none
  | none => none
theorem chk_of {x : Option Value} {v : Value} (h : chk x = some v) : x = some v ∧ base v = true := by
  unfold chk at h
  split at h
  · rw [Bool.cond_eq_ite] at h
    split at h
    · rename_i hb; cases h; exact ⟨rfl, hb⟩
    · cases h
  · cases h
noncomputable def factB : List Fact → BinOp → IntKind → Int → Int → Option Value
  | [], _, _, _, _ => none
  | f :: r, op, k, a, b => bif decide (f.op = op) && (kindEq f.k k && (intEq f.a a && intEq f.b b)) then some f.r else factB r op k a b
noncomputable def doBin (E : Env) (op : BinOp) (t : Nat) (c : Bool) (x y : Value) : Option Value :=
  match x, y with
  | .int k a, .int k' b => bif isLit a && isLit b then (match op with
    | .shl => chk (shOp op k a b)
    | .shr => chk (shOp op k a b)
    | _ => bif kindEq k k' then chk (intOp op k a b) else none) else bif kindEq k k' then factB E.facts op k a b else none
  | .string a, .string b => strOp op a b
  | .bool a, .bool b => (E.ty t).bind fun ti => match ti.desc, op with
    | .bool, .eql => some (.bool (a == b))
    | .bool, .neq => some (.bool (!(a == b)))
    | _, _ => none
  | .nilIface, .nilIface => bif c then (E.ty t).bind fun ti => match ti.desc, op with
    | .interface _, .eql => some (.bool true)
    | .interface _, .neq => some (.bool false)
    | _, _ => none else none
  | x, y => (E.ty t).bind fun ti => bif kindOf ti.desc x && kindOf ti.desc y then (eqNil x y).bind fun b => match op with
    | .eql => some (.bool b)
    | .neq => some (.bool !b)
    | _ => none else none
noncomputable def doUn (E : Env) (op : UnOp) : Value → Option Value
  | .int k n => match op with
    | .neg => bif isLit n then chk (some (.int k (wrapF k (0 - n)))) else factB E.facts .sub k 0 n
    | .xor => bif isLit n then chk (some (.int k (bits .xor k (if k.signed then -1 else k.max) n))) else none
    | _ => none
  | .bool b => match op with
    | .not => some (.bool !b)
    | _ => none
  | _ => none

section
variable {P : Program} {E : Env} (hE : EnvOK P E) {σ : Sg} (w : World)
theorem int_ok {op : BinOp} {k : IntKind} {a b : Int} {v : Value} {t : Nat} (h : intOp op k a b = some v) : (binOp op t (.int k a) (.int k b)).run P w = .ok v w := by
  unfold intOp at h
  cases op <;> simp only [Bool.cond_eq_ite, reduceCtorEq, Option.some.injEq] at h
  all_goals first
    | (subst h; simp [go_sem, wrapF_eq, Op.intArith, intEq_eq, intLe_eq]; done)
    | (subst h; simp only [binOp_and, binOp_or, binOp_xor, binOp_andNot, intBits_and, intBits_or, intBits_xor, intBits_andNot]; rfl)
    | (split at h
       · cases h
       · rename_i hb
         cases h
         rw [intEq_eq] at hb
         have hb2 : b ≠ 0 := by simpa using hb
         simp [go_sem, wrapF_eq, Op.intDiv, hb2])
    | (subst h; simp [go_sem, wrapF_eq, Op.intArith, intEq_eq, intLe_eq]; first | done | rfl | (rw [Bool.eq_iff_iff]; simp; done) | (rw [Bool.eq_iff_iff]; simp; omega))
theorem sh_ok {op : BinOp} {k k' : IntKind} {a b : Int} {v : Value} {t : Nat} (h : shOp op k a b = some v) : (binOp op t (.int k a) (.int k' b)).run P w = .ok v w := by
  unfold shOp at h
  cases op <;> simp only [Bool.cond_eq_ite, reduceCtorEq] at h
  all_goals
    split at h
    · rename_i hb
      cases h
      rw [intLe_eq] at hb
      have hb2 : ¬ b < 0 := by have : 0 ≤ b := by simpa using hb
                               omega
      simp only [binOp_shl, binOp_shr, Op.shift, if_neg hb2, wrapF_eq]
      rfl
    · cases h
theorem str_ok {op : BinOp} {x y : ByteArray} {v : Value} {t : Nat} (h : strOp op x y = some v) : (binOp op t (.string x) (.string y)).run P w = .ok v w := by
  have e : binOp op t (.string x) (.string y) = Op.stringOp op x y := by cases op <;> rfl
  rw [e]
  unfold strOp at h
  simp only [Op.stringOp, ByteArray.toList_eq]
  cases op <;> simp only [Bool.cond_eq_ite, reduceCtorEq, Option.some.injEq] at h
  case add =>
    split at h
    · rename_i hb
      cases h
      have hb2 : x.size + y.size ≤ 9223372036854775807 := by
        have := Nat.le_of_ble_eq_true hb
        have e1 : (lst x).length = x.size := Array.length_toList
        have e2 : (lst y).length = y.size := Array.length_toList
        omega
      have hb3 : ¬ ((x.size + y.size : Nat) : Int) > IntKind.i64.max := by rw [IntKind.max_i64]; omega
      rw [if_neg hb3]
      have : mkS (lst x ++ lst y) = x ++ y := by
        unfold mkS lst
        have e := @ByteArray.data_append x y
        cases hxy : x ++ y with
        | mk d =>
          rw [hxy] at e
          simp only at e
          rw [e]
          congr 1
          apply Array.ext'
          simp
      rw [this]
      rfl
    · cases h
  all_goals (subst h; simp only [beqB_eq, lessB_eq, lst]; rfl)
include hE in
theorem fact_ok {op : BinOp} {k : IntKind} {a b : Int} {r : Value} (h : factB E.facts op k a b = some r) : okR r = true ∧ ∀ (t : Nat) (w : World), (binOp op t (.int k (valI a)) (.int k (valI b))).run P w = .ok (valV r) w := by
  have : ∀ (l : List Fact), (∀ f ∈ l, f ∈ E.facts) → factB l op k a b = some r → ∃ f ∈ E.facts, f.op = op ∧ f.k = k ∧ f.a = a ∧ f.b = b ∧ f.r = r := by
    intro l
    induction l with
    | nil => intro _ h; cases h
    | cons f l ih =>
      intro hl h
      simp only [factB, Bool.cond_eq_ite] at h
      split at h
      · rename_i hc
        simp only [Bool.and_eq_true, decide_eq_true_eq] at hc
        obtain ⟨h1, h2, h3, h4⟩ := hc
        cases h
        rw [intEq_eq] at h3 h4
        exact ⟨f, hl f (by simp), h1, kindEq_eq h2, by simpa using h3, by simpa using h4, rfl⟩
      · exact ih (fun g hg => hl g (by simp [hg])) h
  obtain ⟨f, hf, rfl, rfl, rfl, rfl, rfl⟩ := this E.facts (fun f hf => hf) h
  exact hE.facts f hf
include hE in
theorem un_ok {op : UnOp} {x x' v : Value} (h : doUn E op x = some v) (hx : VR σ x x') : ∃ v', (Op.unary op x').run P w = .ok v' w ∧ VR σ v v' := by
  unfold doUn at h
  split at h
  · rename_i k n
    cases op <;> simp only [reduceCtorEq, Bool.cond_eq_ite] at h
    · split at h
      · rename_i hl
        obtain ⟨h1, hb⟩ := chk_of h
        cases h1
        rw [hx.int_inv hl]
        exact ⟨.int k (k.wrap (0 - n)), rfl, by rw [← wrapF_eq]; exact base_VR σ hb⟩
      · obtain ⟨h1, h2⟩ := fact_ok hE h
        rw [hx.int_val]
        have e : ∀ m : Int, Op.unary .neg (.int k m) = binOp .sub 0 (.int k 0) (.int k m) := fun m => (binOp_sub ..).symm
        rw [e]
        exact ⟨_, h2 0 w, .of_valV σ h1⟩
    · split at h
      · rename_i hl
        obtain ⟨h1, hb⟩ := chk_of h
        cases h1
        rw [hx.int_inv hl]
        exact ⟨_, by simp only [Op.unary, intBits_xor]; rfl, base_VR σ hb⟩
      · cases h
  · cases op <;> simp only [reduceCtorEq, Option.some.injEq] at h
    subst h
    rw [hx.bool_inv]
    exact ⟨_, rfl, .bool _⟩
  · cases h
end
end Go.Proofs.YtjphohhpnoobfaaDoor.Sx
