/- A reckoner of Go code: copy, clear, min, max, conversions. No condition. -/
import Derived.Test.YtjphohhpnoobfaaDoorSx9
import Derived.Laws.IdiomStrings
namespace Go.Proofs.YtjphohhpnoobfaaDoor.Sx
open Go Go.RowKit
set_option linter.unusedVariables false
set_option linter.unusedSimpArgs false
set_option linter.unusedSectionVars false
variable [Rho]

noncomputable def doMin (mx : Bool) : List Value → Option Value
  | [.int k a, .int k' b] => bif isLit a && isLit b then some (.int k (bif mx then (bif intLe b a then a else b) else (bif intLe a b then a else b))) else none
  | _ => none
/-- A slice's first n elements' cells. -/
noncomputable def cellsA (A : AW) (size n : Nat) : Value → Option (List Value)
  | .slice (some a) m _ => bif Nat.beq n 0 then some [] else bif Nat.ble n m then (match A.get a.block with
    | some (.cells _ l) => bif Nat.ble (a.off + n * size) l.length && l.all Value.oneCell' then some ((l.drop a.off).take (n * size)) else none
    | _ => none) else none
  | .slice none 0 _ => bif Nat.beq n 0 then some [] else none
  | _ => none
noncomputable def isSl : Value → Bool
  | .slice _ _ _ => true
  | _ => false
noncomputable def doCopy (E : Env) (A : AW) (t : Nat) (d s : Value) : Option (Value × AW) :=
  (E.ty t).bind fun ti => match ti.desc with
    | .slice e => (E.ty e).bind fun et => bif isSl s then (cellsA A et.size (Nat.min (slen s) (slen d)) s).bind fun xs => match d with
      | .slice none 0 _ => some (.int .i64 0, A)
      | .slice (some a) n _ => (match xs with
        | [] => some (.int .i64 (Nat.min (slen s) n), A)
        | x :: r => (match A.get a.block with
          | some (.cells s0 l) => bif Nat.ble (a.off + (x :: r).length) l.length then some (.int .i64 (Nat.min (slen s) n), A.put a.block (some (.cells s0 (splice l a.off (x :: r))))) else none
          | _ => none))
      | _ => none
      else none
    | _ => none
noncomputable def doClear (E : Env) (A : AW) (t : Nat) (d : Value) : Option AW :=
  (E.ty t).bind fun ti => match ti.desc, d with
    | .slice e, .slice none 0 _ => some A
    | .slice e, .slice (some a) n _ => (match n with
      | 0 => some A
      | n + 1 => (E.ty e).bind fun et => (zeroA et).bind fun z => match A.get a.block with
        | some (.cells s0 l) => bif Nat.ble (a.off + (n + 1) * z.length) l.length && Nat.ble 1 z.length && z.all Value.oneCell' then some (A.put a.block (some (.cells s0 (splice l a.off (repl z (n + 1)))))) else none
        | _ => none)
    | _, _ => none
noncomputable def byteOf : Value → Option UInt8
  | .int .u8 (.ofNat n) => bif Nat.ble n 255 then some (UInt8.ofNat n) else none
  | _ => none
noncomputable def bytesOf : List Value → Option (List UInt8)
  | [] => some []
  | v :: r => (byteOf v).bind fun b => (bytesOf r).bind fun l => some (b :: l)
noncomputable def doConv (E : Env) (A : AW) (s d : Nat) (x : Value) : Option Value :=
  (E.ty s).bind fun si => (E.ty d).bind fun di => match si.desc, di.desc, x with
    | .int _, .int k, .int _ n => bif isLit n then chk (some (.int k (wrapF k n))) else factB E.facts .add k n 0
    | .string, .string, .string b => some (.string b)
    | .slice e, .string, .slice none 0 _ => (E.ty e).bind fun et => match et.desc with
      | .int .u8 => some (.string (mkS []))
      | _ => none
    | .slice e, .string, .slice (some a) n c => (E.ty e).bind fun et => match et.desc with
      | .int .u8 => (cellsA A 1 n (.slice (some a) n c)).bind fun xs => (bytesOf xs).bind fun l => bif Nat.beq l.length n then some (.string (mkS l)) else none
      | _ => none
    | _, _, _ => none
/-- A text's bytes. -/
noncomputable def byteVals : List UInt8 → List Value
  | [] => []
  | b :: r => .int .u8 (.ofNat b.toNat) :: byteVals r
noncomputable def doBytes (E : Env) (A : AW) (s d : Nat) (x : Value) : Option (Value × AW) :=
  (E.ty s).bind fun si => (E.ty d).bind fun di => match si.desc, di.desc, x with
    | .string, .slice e, .string b => (E.ty e).bind fun et => match et.desc with
      | .int .u8 => some (.slice (some ⟨A.n, 0, none⟩) (lst b).length 0, A.new (.frz false (byteVals (lst b))))
      | _ => none
    | _, _, _ => none

section
variable {P : Program} {E : Env} (hE : EnvOK P E) {σ : Sg} {A : AW} {w : World} (hW : WR σ A w)
theorem min_ok {xs xs' : List Value} {r : Value} {ats : Array TypeId} {ty : TypeId} (h : doMin false xs = some r) (hx : VRs σ xs xs') : ∃ r', (Builtin.min_ ats ty xs'.toArray).run P w = .ok r' w ∧ VR σ r r' := by
  unfold doMin at h
  split at h
  · rename_i k a k' b
    rw [Bool.cond_eq_ite] at h
    split at h
    case isFalse => cases h
    rename_i hl
    simp only [Bool.and_eq_true] at hl
    cases h
    match xs', hx with
    | [], hx => have := hx.1; simp at this
    | [_], hx => have := hx.1; simp at this
    | _ :: _ :: _ :: _, hx => have := hx.1; simp at this
    | [u, v], hx =>
      obtain rfl := (hx.2 0 _ u rfl rfl).int_inv hl.1
      obtain rfl := (hx.2 1 _ v rfl rfl).int_inv hl.2
      refine ⟨.int k (if b < a then b else a), by simp [Builtin.min_, Builtin.min2], ?_⟩
      have : (bif intLe a b then a else b) = if b < a then b else a := by
        rw [Bool.cond_eq_ite, intLe_eq]
        by_cases hab : a ≤ b
        · rw [if_pos (by simpa using hab), if_neg (by omega)]
        · rw [if_neg (by simpa using hab), if_pos (by omega)]
      simp only [cond_false, this]
      exact .int _ _ (by split <;> simp only [hl])
  · cases h
theorem max_ok {xs xs' : List Value} {r : Value} {ats : Array TypeId} {ty : TypeId} (h : doMin true xs = some r) (hx : VRs σ xs xs') : ∃ r', (Builtin.max_ ats ty xs'.toArray).run P w = .ok r' w ∧ VR σ r r' := by
  unfold doMin at h
  split at h
  · rename_i k a k' b
    rw [Bool.cond_eq_ite] at h
    split at h
    case isFalse => cases h
    rename_i hl
    simp only [Bool.and_eq_true] at hl
    cases h
    match xs', hx with
    | [], hx => have := hx.1; simp at this
    | [_], hx => have := hx.1; simp at this
    | _ :: _ :: _ :: _, hx => have := hx.1; simp at this
    | [u, v], hx =>
      obtain rfl := (hx.2 0 _ u rfl rfl).int_inv hl.1
      obtain rfl := (hx.2 1 _ v rfl rfl).int_inv hl.2
      refine ⟨.int k (if b > a then b else a), by simp [Builtin.max_, Builtin.max2], ?_⟩
      have : (bif intLe b a then a else b) = if b > a then b else a := by
        rw [Bool.cond_eq_ite, intLe_eq]
        by_cases hab : b ≤ a
        · rw [if_pos (by simpa using hab), if_neg (by omega)]
        · rw [if_neg (by simpa using hab), if_pos (by omega)]
      simp only [cond_true, this]
      exact .int _ _ (by split <;> simp only [hl])
  · cases h
include hW
theorem cells_ok {size n : Nat} {x x' : Value} {xs : List Value} (h : cellsA A size n x = some xs) (hx : VR σ x x') : ∃ xs', (Builtin.firstCells size n x').run P w = .ok xs'.toArray w ∧ VRs σ xs xs' ∧ (∀ u ∈ xs', u.oneCell' = true) ∧ xs.length = n * size := by
  have zero : n = 0 → xs = [] → ∀ (a : Option Addr) (m c : Nat), x' = .slice a m c → ∃ xs', (Builtin.firstCells size n x').run P w = .ok xs'.toArray w ∧ VRs σ xs xs' ∧ (∀ u ∈ xs', u.oneCell' = true) ∧ xs.length = n * size := by
    rintro rfl rfl a m c rfl
    refine ⟨[], ?_, VRs.nil σ, fun u hu => (by cases hu), by simp⟩
    cases a with
    | none => simp [Builtin.firstCells]
    | some a => exact run_firstCells_some w size 0 a m c [] (by simp) (fun j v hj => by simp at hj)
  unfold cellsA at h
  split at h
  · rename_i a m c
    rw [Bool.cond_eq_ite] at h
    split at h
    · rename_i hn
      cases h
      have hn' : n = 0 := by simpa using hn
      cases hx with
      | slice hp h1 h2 h3 => exact zero hn' rfl _ _ _ rfl
      | none_ hc => exact zero hn' rfl _ _ _ rfl
    · rename_i hn
      rw [Bool.cond_eq_ite] at h
      split at h
      · rename_i hnm
        have hnm' : n ≤ m := by simpa using hnm
        have hn' : n ≠ 0 := by simpa using hn
        split at h
        · rename_i s l hg
          rw [Bool.cond_eq_ite] at h
          split at h
          · rename_i hb
            simp only [Bool.and_eq_true, Nat.ble_eq] at hb
            obtain ⟨hlen, hone⟩ := hb
            cases h
            cases hx with
            | none_ hc => omega
            | slice hp hnn hc hzz =>
              rename_i i p o c'
              obtain ⟨h1, C, e2, h2, h3, l', h4, h5, hr, ht⟩ := hW.read hg hp
              have hl2 := (h4.drop o).take (n * size)
              have hlen2 : ((l.drop o).take (n * size)).length = n * size := by simp at hlen ⊢; omega
              refine ⟨(l'.drop o).take (n * size), run_firstCells_some w size n _ m c' _ (by rw [← hl2.1]; exact hlen2) (fun j u hu => ?_), hl2, fun u hu => h4.ones hone u (List.mem_of_mem_drop (List.mem_of_mem_take hu)), hlen2⟩
              rw [List.getElem?_take] at hu
              split at hu
              · rw [List.getElem?_drop] at hu
                rw [Addr.add_lit, Nat.add_assoc]
                exact hr (o + j) u hu
              · cases hu
          · cases h
        · cases h
      · cases h
  · rename_i c
    rw [Bool.cond_eq_ite] at h
    split at h
    · rename_i hn
      cases h
      obtain rfl : x' = .slice none 0 0 := by cases hx; rfl
      exact zero (by simpa using hn) rfl _ _ _ rfl
    · cases h
  · cases h
theorem put_run {a : Addr} {s0 : Nat} {l xs xs' : List Value} (hg : A.get a.block = some (.cells s0 l)) {p : Spot} (hp : σ a.block = some p) (hx : VRs σ xs xs') (h1 : ∀ u ∈ xs', u.oneCell' = true) (hle : a.off + xs.length ≤ l.length) :
    (storeCells ⟨p.blk, p.off + a.off, none⟩ xs').run P w = .ok () (w.setCells p.blk (p.off + a.off) xs') ∧ Sim σ A w σ (A.put a.block (some (.cells s0 (splice l a.off xs)))) (w.setCells p.blk (p.off + a.off) xs') := by
  obtain ⟨_, C, e, _, _, l', h4, h5, hr, ht⟩ := hW.read hg hp
  have hx1 := hx.1
  have hl1 := h4.1
  refine ⟨?_, Sim.store hW hg hp hx hle⟩
  have hst := run_storeCells_cells (P := P) p.blk (p.off + a.off) xs' 0 w
    (fun j hj => by have := (ht (a.off + j) (by omega)).1; simpa [Nat.add_assoc] using this)
    (fun j hj => by have := (ht (a.off + j) (by omega)).2; simpa [Nat.add_assoc] using this) h1
  simpa using hst
theorem lenOf_sl {s s' : Value} (hs : VR σ s s') (h : isSl s = true) (w : World) : (Builtin.lenOf s').run P w = .ok (slen s) w := by
  cases hs <;> simp [isSl] at h <;> rfl
include hE
theorem copy_ok {t tx ty : Nat} {d s d' s' r : Value} {A' : AW} (h : doCopy E A t d s = some (r, A')) (hd : VR σ d d') (hs : VR σ s s') : ∃ r' w', (Builtin.copy_ #[t, tx] ty #[d', s']).run P w = .ok r' w' ∧ VR σ r r' ∧ Sim σ A w σ A' w' := by
  unfold doCopy at h
  simp only [Option.bind_eq_some_iff] at h
  obtain ⟨ti, hti, h⟩ := h
  obtain ⟨hu, _⟩ := hE.ty t ti hti
  split at h
  · rename_i e he
    rw [he] at hu
    simp only [Option.bind_eq_some_iff, Bool.cond_eq_ite] at h
    obtain ⟨et, het, h⟩ := h
    obtain ⟨_, ie, hie, hsz, _⟩ := hE.ty e et het
    split at h
    · rename_i hsl
      simp only [Option.bind_eq_some_iff] at h
      obtain ⟨xs, hxs, h⟩ := h
      obtain ⟨xs', hf, hv, h1, hxl⟩ := cells_ok (P := P) hW hxs hs
      have hlo := lenOf_sl (P := P) hW hs hsl w
      have base : ∀ (a' : Option Addr) (n c' : Nat), d' = .slice a' n c' → slen d = n → (Builtin.copy_ #[t, tx] ty #[d', s']).run P w = ((match a' with | some a => storeCells a xs' | none => pure ()).run P w).andThen fun _ w => .ok (.int .i64 (Nat.min (slen s) n : Nat)) w := fun a' n c' hd' hn => by
        subst hd'
        rw [hn] at hf
        cases a' <;> simp [Builtin.copy_, run_underlying hu, sizeOf, typeInfo, hie, hsz, hlo, hf, goInt]
      split at h
      · cases h
        obtain rfl : d' = .slice none 0 0 := by cases hd; rfl
        refine ⟨.int .i64 0, w, ?_, .int _ _ rfl, .refl hW⟩
        rw [base none 0 0 rfl rfl]
        simp
      · rename_i a n c
        split at h
        · cases h
          have hx0 : xs' = [] := List.eq_nil_of_length_eq_zero (by have := hv.1; simpa using this.symm)
          subst hx0
          refine ⟨.int .i64 (Nat.min (slen s) n : Nat), w, ?_, .int _ _ rfl, .refl hW⟩
          cases hd with
          | slice hp h2 h3 h4 => rw [base _ n _ rfl rfl]; simp [storeCells]
          | none_ hc => rw [base _ 0 _ rfl rfl]; simp [storeCells]
        · rename_i x rest
          split at h
          · rename_i s0 l hg
            split at h
            · rename_i hle
              cases h
              cases hd with
              | slice hp h2 h3 h4 =>
                obtain ⟨g1, g2⟩ := put_run (P := P) hW hg hp hv h1 (by simpa using hle)
                refine ⟨.int .i64 (Nat.min (slen s) n : Nat), _, ?_, .int _ _ rfl, g2⟩
                rw [base _ n _ rfl rfl]
                simp [g1]
              | none_ hc => simp [slen] at hxl
            · cases h
          · cases h
      · cases h
    · cases h
  · cases h
theorem clear_ok {t ty : Nat} {d d' : Value} {A' : AW} (h : doClear E A t d = some A') (hd : VR σ d d') : ∃ w', (Builtin.clear_ #[t] ty #[d']).run P w = .ok (.tuple #[]) w' ∧ Sim σ A w σ A' w' := by
  unfold doClear at h
  simp only [Option.bind_eq_some_iff] at h
  obtain ⟨ti, hti, h⟩ := h
  obtain ⟨hu, _⟩ := hE.ty t ti hti
  split at h
  · rename_i e c he
    rw [he] at hu
    cases h
    obtain rfl : d' = .slice none 0 0 := by cases hd; rfl
    exact ⟨w, by simp [Builtin.clear_, run_underlying hu], .refl hW⟩
  · rename_i e a n c he
    rw [he] at hu
    split at h
    · cases h
      refine ⟨w, ?_, .refl hW⟩
      cases hd <;> simp [Builtin.clear_, run_underlying hu]
    · rename_i n
      simp only [Option.bind_eq_some_iff] at h
      obtain ⟨et, het, zl, hzl, h⟩ := h
      obtain ⟨z, hz, hzc, hzb⟩ := zeroA_of hE hzl
      split at h
      · rename_i s0 l hg
        rw [Bool.cond_eq_ite] at h
        split at h
        · rename_i hb
          simp only [Bool.and_eq_true, Nat.ble_eq] at hb
          obtain ⟨⟨hle, hpos⟩, hone⟩ := hb
          cases h
          cases hd with
          | slice hp h2 h3 h4 =>
            have hrb := base_VRs σ (repl_base hzb (n + 1))
            have hro : ∀ u ∈ repl zl (n + 1), u.oneCell' = true := hrb.ones (by
              have : ∀ k, (repl zl k).all Value.oneCell' = true := fun k => by
                induction k with
                | zero => rfl
                | succ k ih => rw [repl, List.all_append, hone, ih]; rfl
              exact this _)
            obtain ⟨g1, g2⟩ := put_run (P := P) hW hg hp hrb hro (by rw [repl_len]; exact hle)
            refine ⟨_, ?_, g2⟩
            have hzs : 0 < z.cells.size := by have : z.cells.toList.length = zl.length := by rw [hzc]
                                              simp at this; omega
            have e1 : (Builtin.zeroCells z.cells (n + 1)).toList = repl zl (n + 1) := by
              have := repl_made z.cells hzs (n + 1)
              rw [hzc] at this
              have e2 : Builtin.zeroCells z.cells (n + 1) = madeCells z.cells ((n + 1) * z.cells.size) := rfl
              rw [e2, ← this]
            simp [Builtin.clear_, run_underlying hu, zero_run hE het hz, e1, g1]
        · cases h
      · cases h
  · cases h
omit hE hW in
theorem bytes_vals : ∀ (xs : List Value) (l : List UInt8), bytesOf xs = some l → ∃ ns : List Int, xs = ns.map (Value.int .u8) ∧ l = ns.map (fun n => UInt8.ofNat n.toNat) ∧ ∀ n ∈ ns, isLit n = true
  | [], l, h => by cases h; exact ⟨[], rfl, rfl, fun n hn => (by cases hn)⟩
  | v :: r, l, h => by
    simp only [bytesOf, Option.bind_eq_some_iff] at h
    obtain ⟨b, hb, l', hl, h⟩ := h
    cases h
    obtain ⟨ns, h1, h2, h3⟩ := bytes_vals r l' hl
    unfold byteOf at hb
    split at hb
    · rename_i n
      rw [Bool.cond_eq_ite] at hb
      split at hb
      · cases hb
        exact ⟨(Int.ofNat n) :: ns, by simp [h1], by simp [h2], fun m hm => by
          rcases List.mem_cons.1 hm with rfl | hm
          · rfl
          · exact h3 m hm⟩
      · cases hb
    · cases hb
omit hE hW in
theorem foldl_push (ns : List Int) : ∀ (s : ByteArray), ns.foldl (fun r n => r.push (UInt8.ofNat n.toNat)) s = ⟨⟨s.data.toList ++ ns.map (fun n => UInt8.ofNat n.toNat)⟩⟩ := by
  induction ns with
  | nil => intro s; simp
  | cons n ns ih =>
    intro s
    rw [List.foldl_cons, ih]
    simp [ByteArray.push]
theorem conv_ok {s d : Nat} {x x' r : Value} (h : doConv E A s d x = some r) (hx : VR σ x x') : ∃ r', (convert s d x').run P w = .ok r' w ∧ VR σ r r' := by
  unfold doConv at h
  simp only [Option.bind_eq_some_iff] at h
  obtain ⟨si, hsi, di, hdi, h⟩ := h
  obtain ⟨hs, _⟩ := hE.ty s si hsi
  obtain ⟨hd, _⟩ := hE.ty d di hdi
  split at h
  · rename_i k0 k k1 n e1 e2
    rw [e1] at hs
    rw [e2] at hd
    rw [Bool.cond_eq_ite] at h
    split at h
    · rename_i hl
      obtain ⟨h1, hb⟩ := chk_of h
      cases h1
      obtain rfl := hx.int_inv hl
      exact ⟨.int k (wrapF k n), by rw [wrapF_eq]; simp [convert, run_underlying hs, run_underlying hd, Conv.intToInt], base_VR σ hb⟩
    · obtain ⟨h1, h2⟩ := fact_ok hE h
      refine ⟨valV r, ?_, .of_valV σ h1⟩
      have h3 := h2 s w
      rw [hx.int_val]
      have h4 : (binOp .add s (.int k (valI n)) (.int k (valI 0))).run P w = .ok (.int k (k.wrap (valI n))) w := by
        have : valI 0 = 0 := rfl
        have h0 := int_ok (P := P) (op := .add) (k := k) (a := valI n) (b := 0) (t := s) w rfl
        rw [this, h0, Int.add_zero, wrapF_eq]
      rw [h4] at h3
      have h5 : valV r = .int k (k.wrap (valI n)) := by injection h3 with e _; exact e.symm
      rw [h5]
      simp [convert, run_underlying hs, run_underlying hd, Conv.intToInt]
  · rename_i b e1 e2
    rw [e1] at hs
    rw [e2] at hd
    cases h
    obtain rfl := hx.str_inv
    exact ⟨.string b, by simp [convert, run_underlying hs, run_underlying hd], .str _⟩
  · rename_i e c e1 e2
    rw [e1] at hs
    rw [e2] at hd
    simp only [Option.bind_eq_some_iff] at h
    obtain ⟨et, het, h⟩ := h
    obtain ⟨he, _⟩ := hE.ty e et het
    split at h
    · rename_i e3
      rw [e3] at he
      cases h
      obtain rfl : x' = .slice none 0 0 := by cases hx; rfl
      exact ⟨.string .empty, by simp [convert, run_underlying hs, run_underlying hd, run_underlying he, Conv.bytesToString], .str _⟩
    · cases h
  · rename_i e a n c e1 e2
    rw [e1] at hs
    rw [e2] at hd
    simp only [Option.bind_eq_some_iff] at h
    obtain ⟨et, het, h⟩ := h
    obtain ⟨he, _⟩ := hE.ty e et het
    split at h
    · rename_i e3
      rw [e3] at he
      simp only [Option.bind_eq_some_iff, Bool.cond_eq_ite] at h
      obtain ⟨xs, hxs, l, hl, h⟩ := h
      split at h
      · cases h
        obtain ⟨xs', hf, hv, h1, hxl⟩ := cells_ok (P := P) hW hxs hx
        obtain ⟨ns, h2, h3, hlit⟩ := bytes_vals xs l hl
        have hxx : xs' = ns.map (Value.int .u8) := by
          have hlen := hv.1
          apply List.ext_getElem?
          intro i
          by_cases hi : i < xs'.length
          · have hi2 : i < xs.length := by omega
            have h4 := hv.2 i _ _ (List.getElem?_eq_getElem hi2) (List.getElem?_eq_getElem hi)
            rw [List.getElem?_eq_getElem hi, ← h2, List.getElem?_eq_getElem hi2]
            have h5 : xs[i] ∈ xs := List.getElem_mem hi2
            generalize xs[i] = u at h4 h5
            rw [h2, List.mem_map] at h5
            obtain ⟨m, hm, rfl⟩ := h5
            rw [h4.int_inv (hlit m hm)]
          · rw [List.getElem?_eq_none (by omega), List.getElem?_eq_none (by rw [← h2]; omega)]
        have main : ∀ (a' : Addr) (m' c' : Nat), x' = .slice (some a') m' c' → m' = n → ∃ r', (convert s d x').run P w = .ok r' w ∧ VR σ (.string (mkS l)) r' := fun a' m' c' hx' hm => by
          subst hx'
          subst hm
          have hf' : (loadCells a' m').run P w = .ok (ns.map (Value.int .u8)).toArray w := by
            rw [hxx] at hf
            simpa [Builtin.firstCells] using hf
          have hr := run_bytesToString (P := P) w a' m' c' ns hf'
          refine ⟨.string (mkS l), ?_, .str _⟩
          rw [run_convert_bytes_string w s d e _ _ _ hs he hd, hr, foldl_push, h3]
          rfl
        cases hx with
        | slice hp g1 g2 g3 => exact main _ _ _ rfl rfl
        | none_ hc => exact main _ _ _ rfl rfl
      · cases h
    · cases h
  · cases h
omit hE hW in
theorem byteVals_eq : ∀ l : List UInt8, byteVals l = l.map fun b => Value.int .u8 b.toNat
  | [] => rfl
  | b :: r => by rw [byteVals, byteVals_eq r]; rfl
omit hE hW in
theorem byteVals_base : ∀ l : List UInt8, (byteVals l).all base = true
  | [] => rfl
  | b :: r => by rw [byteVals, List.all_cons, byteVals_base r]; rfl
theorem bytes_ok {s d : Nat} {x x' r : Value} {A' : AW} (h : doBytes E A s d x = some (r, A')) (hx : VR σ x x') : ∃ r' τ w', (convert s d x').run P w = .ok r' w' ∧ VR τ r r' ∧ Sim σ A w τ A' w' := by
  unfold doBytes at h
  simp only [Option.bind_eq_some_iff] at h
  obtain ⟨si, hsi, di, hdi, h⟩ := h
  obtain ⟨hs, _⟩ := hE.ty s si hsi
  obtain ⟨hd, _⟩ := hE.ty d di hdi
  split at h
  · rename_i e b e0 e1
    rw [e1] at hd
    rw [e0] at hs
    simp only [Option.bind_eq_some_iff] at h
    obtain ⟨et, het, h⟩ := h
    obtain ⟨he, _⟩ := hE.ty e et het
    split at h
    · rename_i e2
      rw [e2] at he
      cases h
      obtain rfl := hx.str_inv
      have hrun := run_bytes_of_string w s d e b hs hd he
      have hcap : b.size ≤ grownCap w b.size 0 e := grownCap_ge _ _ _ _
      generalize grownCap w b.size 0 e = cap at hrun hcap
      have hdb : b.data.size = b.size := rfl
      have hsz : (bytesRow b cap).size = cap := by
        simp [bytesRow, hdb]; omega
      have hlb : (lst b).length = b.size := Array.length_toList
      have hdr : ({ w with drawn := w.drawn + 1 } : World) = w.drew := rfl
      have hW2 : WR σ A w.drew := hW.drawn (w.drawn + 1)
      have hget : ∀ fr, ((w.drew.alloc (.cells (bytesRow b cap) e fr)).heap)[w.heap.size]? = some (.cells (bytesRow b cap) e fr) := fun fr => by
        show (w.heap.push _)[w.heap.size]? = _
        simp
      have hsim := Sim.fresh hW2 (.cells (bytesRow b cap) e ((bytesRow b cap).size, (bytesRow b cap).size + 1)) (.frz false (byteVals (lst b))) ⟨w.heap.size, 0, cap, 1⟩ rfl
        ⟨bytesRow b cap, e, _, hget _, (fun h => by cases h), hsz, byteVals (lst b), base_VRs _ (byteVals_base _), fun j y hj => by
          rw [byteVals_eq] at hj
          simp only [Nat.zero_add]
          have hlt := (List.getElem?_eq_some_iff.1 hj).1
          rw [List.length_map, hlb] at hlt
          simp only [bytesRow]
          rw [Array.getElem?_append_left (by simpa [hdb] using hlt)]
          simpa [lst] using hj⟩ (fun C e' fr hC => by cases hC; exact hsz)
      refine ⟨_, _, _, hrun, ?_, (Sim.drawn hW (w.drawn + 1)).trans hsim⟩
      rw [← hlb]
      exact VR.slice (i := A.n) (p := ⟨w.heap.size, 0, cap, 1⟩) (o := 0) (by simp [Sg.set]) (by omega) (.inl rfl) (by simp)
    · cases h
  · cases h
end
end Go.Proofs.YtjphohhpnoobfaaDoor.Sx
