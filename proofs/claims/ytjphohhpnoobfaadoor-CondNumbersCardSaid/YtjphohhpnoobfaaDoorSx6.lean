/- A reckoner of Go code: slices of slices, new rows, interfaces. No condition. -/
import Derived.Test.YtjphohhpnoobfaaDoorSx5
namespace Go.Proofs.YtjphohhpnoobfaaDoor.Sx
open Go Go.RowKit
set_option linter.unusedVariables false
set_option linter.unusedSimpArgs false
set_option linter.unusedSectionVars false
variable [Rho]

/-- A bound of a slice: what is written, or d. -/
noncomputable def bnd : Option Value → Nat → Option Nat
  | none, d => some d
  | some (.int _ (.ofNat n)), _ => some n
  | _, _ => none
noncomputable def roomB (c n h : Nat) : Bool := match c with
  | 0 => Nat.ble h n
  | k + 1 => Nat.ble h k
noncomputable def roomL (c l : Nat) : Nat := match c with
  | 0 => 0
  | k + 1 => k - l + 1
theorem roomB_le {c n h c' : Nat} (hb : roomB c n h = true) (hn : n ≤ c') (hc : c = 0 ∨ c = c' + 1) : h ≤ c' := by
  cases c with
  | zero => simp [roomB] at hb; omega
  | succ k => simp [roomB] at hb; omega
theorem roomL_of {c l c' : Nat} (hc : c = 0 ∨ c = c' + 1) : roomL c l = 0 ∨ roomL c l = c' - l + 1 := by
  cases c with
  | zero => exact .inl rfl
  | succ k => right; simp [roomL]; omega
/-- x[lo:hi:max] of a slice: its address, length, room (0: unknown). -/
noncomputable def doSlice (E : Env) (A : AW) (t : Nat) (x : Value) (lo hi mx : Option Value) : Option Value :=
  match x with
  | .string s => (E.ty t).bind fun ti => match ti.desc, mx with
    | .string, none => (bnd lo 0).bind fun l => (bnd hi (lst s).length).bind fun h => bif Nat.ble l h && Nat.ble h (lst s).length then some (.string (mkS (((lst s).take h).drop l))) else none
    | _, _ => none
  | .slice none 0 _ => (E.ty t).bind fun ti => match ti.desc with
    | .slice e => (bnd lo 0).bind fun l => (bnd hi 0).bind fun h => (bnd mx 0).bind fun m => (E.ty e).bind fun et => bif Nat.beq l 0 && Nat.beq h 0 && Nat.beq m 0 then some (.slice none 0 0) else none
    | _ => none
  | .slice (some a) n c => (E.ty t).bind fun ti => match ti.desc with
    | .slice e => (E.ty e).bind fun et => (bnd lo 0).bind fun l => (bnd hi n).bind fun h =>
      match A.get a.block with
      | some (.cells s _) =>
        (match mx with
        | none => bif Nat.ble l h && Nat.beq s et.size && roomB c n h then some (.slice (some ⟨a.block, a.off + l * et.size, none⟩) (h - l) (roomL c l)) else none
        | some mv => (bnd (some mv) 0).bind fun m => bif Nat.ble l h && Nat.ble h m && Nat.beq s et.size && roomB c n m then some (.slice (some ⟨a.block, a.off + l * et.size, none⟩) (h - l) (m - l + 1)) else none)
      | _ => none
    | _ => none
  | _ => none

theorem bnd_run {P : Program} {w : World} {σ : Sg} {x : Option Value} {x' : Value} {v : Value} (hx : x = some v) (hv : VR σ v x') {d n y : Nat} (h : bnd x d = some n) (hle : n ≤ y) (code : BoundsCode) :
    (Instr.sliceBound x' y code).run P w = .ok n w := by
  subst hx
  unfold bnd at h
  split at h
  · rename_i e
    cases e
  · cases h
    rename_i e
    cases e
    obtain rfl := hv.int_inv rfl
    simp [Instr.sliceBound, asIntOf, hle]
  · cases h

/-- Optional operands, one by one. -/
noncomputable def VRo (σ : Sg) : Option Value → Option Value → Prop
  | none, none => True
  | some a, some b => VR σ a b
  | _, _ => False

theorem bounds_run {P : Program} {w : World} {σ : Sg} {lo hi mx lo' hi' mx' : Option Value} (hlo : VRo σ lo lo') (hhi : VRo σ hi hi') (hmx : VRo σ mx mx') {n c l h m : Nat} (isS : Bool) (hl : bnd lo 0 = some l) (hh : bnd hi n = some h)
    (hm : bnd mx c = some m) (h1 : l ≤ h) (h2 : h ≤ m) (h3 : m ≤ c) (hb : mx.isSome = true → hi.isSome = true) : (Instr.sliceBounds isS n c lo' hi' mx').run P w = .ok (l, h, m) w := by
  cases mx with
  | none =>
    cases mx' with
    | some _ => cases hmx
    | none =>
      simp only [bnd, Option.some.injEq] at hm
      subst hm
      cases hi with
      | none =>
        cases hi' with
        | some _ => cases hhi
        | none =>
          simp only [bnd, Option.some.injEq] at hh
          subst hh
          cases lo with
          | none =>
            cases lo' with
            | some _ => cases hlo
            | none =>
              simp only [bnd, Option.some.injEq] at hl
              subst hl
              simp [Instr.sliceBounds]
          | some v =>
            cases lo' with
            | none => cases hlo
            | some v' => simp [Instr.sliceBounds, bnd_run rfl hlo hl h1]
      | some u =>
        cases hi' with
        | none => cases hhi
        | some u' =>
          cases lo with
          | none =>
            cases lo' with
            | some _ => cases hlo
            | none =>
              simp only [bnd, Option.some.injEq] at hl
              subst hl
              simp [Instr.sliceBounds, bnd_run rfl hhi hh h2]
          | some v =>
            cases lo' with
            | none => cases hlo
            | some v' => simp [Instr.sliceBounds, bnd_run rfl hlo hl h1, bnd_run rfl hhi hh h2]
  | some z =>
    cases mx' with
    | none => cases hmx
    | some z' =>
      cases hi with
      | none => simp at hb
      | some u =>
        cases hi' with
        | none => cases hhi
        | some u' =>
          cases lo with
          | none =>
            cases lo' with
            | some _ => cases hlo
            | none =>
              simp only [bnd, Option.some.injEq] at hl
              subst hl
              simp [Instr.sliceBounds, bnd_run rfl hhi hh h2, bnd_run rfl hmx hm h3]
          | some v =>
            cases lo' with
            | none => cases hlo
            | some v' => simp [Instr.sliceBounds, bnd_run rfl hlo hl h1, bnd_run rfl hhi hh h2, bnd_run rfl hmx hm h3]

theorem extract_mkS (s : ByteArray) (l h : Nat) (h2 : h ≤ s.size) : s.extract l h = mkS (((lst s).take h).drop l) := by
  unfold mkS lst
  cases hx : s.extract l h with
  | mk d =>
    have e : (s.extract l h).data = s.data.extract l h := ByteArray.data_extract
    rw [hx] at e
    simp only at e
    rw [e]
    congr 1
    apply Array.ext'
    simp [List.drop_take]

section
variable {P : Program} {E : Env} (hE : EnvOK P E) {σ : Sg} {A : AW} {w : World} (hW : WR σ A w)
include hE hW
theorem slice_ok {t : Nat} {x x' r : Value} {lo hi mx lo' hi' mx' : Option Value} (h : doSlice E A t x lo hi mx = some r) (hb : mx.isSome = true → hi.isSome = true) (hx : VR σ x x') (hlo : VRo σ lo lo') (hhi : VRo σ hi hi') (hmx : VRo σ mx mx') :
    ∃ r', (Instr.sliceAt t x' lo' hi' mx').run P w = .ok r' w ∧ VR σ r r' := by
  unfold doSlice at h
  split at h
  · rename_i s
    obtain rfl := hx.str_inv
    simp only [Option.bind_eq_some_iff] at h
    obtain ⟨ti, hti, h⟩ := h
    obtain ⟨hd, _⟩ := hE.ty t ti hti
    split at h
    · rename_i he
      rw [he] at hd
      simp only [Option.bind_eq_some_iff, Bool.cond_eq_ite] at h
      obtain ⟨l, hl, k, hk, h⟩ := h
      split at h
      · rename_i hle
        simp only [Bool.and_eq_true, Nat.ble_eq] at hle
        cases h
        have hsz : (lst s).length = s.size := Array.length_toList
        cases mx' with
        | some _ => cases hmx
        | none =>
          have hbs := bounds_run (P := P) (w := w) (n := s.size) (c := s.size) (m := s.size) hlo hhi (show VRo σ none none from trivial) false hl (by rw [← hsz]; exact hk) rfl hle.1 (by omega) (Nat.le_refl _) (by simp)
          exact ⟨_, by simp [Instr.sliceAt, Instr.slice, run_underlying hd, hbs]; rfl, by rw [extract_mkS s l k (by omega)]; exact .str _⟩
      · cases h
    · cases h
  · rename_i c
    obtain rfl : x' = .slice none 0 0 := by cases hx; rfl
    simp only [Option.bind_eq_some_iff] at h
    obtain ⟨ti, hti, h⟩ := h
    obtain ⟨hd, _⟩ := hE.ty t ti hti
    split at h
    · rename_i e he
      rw [he] at hd
      simp only [Option.bind_eq_some_iff, Bool.cond_eq_ite] at h
      obtain ⟨l, hl, k, hk, m, hm, et, het, h⟩ := h
      obtain ⟨_, inf, hi2, hs, _⟩ := hE.ty _ et het
      split at h
      · rename_i hle
        simp only [Bool.and_eq_true, Nat.beq_eq] at hle
        obtain ⟨⟨rfl, rfl⟩, rfl⟩ := hle
        cases h
        have hbs := bounds_run (P := P) (w := w) (n := 0) (c := 0) (m := 0) hlo hhi hmx true hl hk hm (Nat.le_refl _) (Nat.le_refl _) (Nat.le_refl _) hb
        exact ⟨.slice none 0 0, by simp [Instr.sliceAt, Instr.slice, run_underlying hd, hbs, sizeOf, typeInfo, hi2], .nils _⟩
      · cases h
    · cases h
  · rename_i a n c
    simp only [Option.bind_eq_some_iff] at h
    obtain ⟨ti, hti, h⟩ := h
    obtain ⟨hd, _⟩ := hE.ty t ti hti
    split at h
    · rename_i e he
      rw [he] at hd
      simp only [Option.bind_eq_some_iff] at h
      obtain ⟨et, het, l, hl, k, hk, h⟩ := h
      obtain ⟨_, inf, hi2, hs, _⟩ := hE.ty _ et het
      split at h
      · rename_i s ll hg
        -- what the concrete slice is
        have conc : ∀ (a' : Addr) (c' : Nat) (m : Nat), x' = .slice (some a') n c' → bnd mx c' = some m → l ≤ k → k ≤ m → m ≤ c' →
            (Instr.sliceAt t x' lo' hi' mx').run P w = .ok (.slice (if m = l then some a' else some (a'.add (l * et.size))) (k - l) (m - l)) w := fun a' c' m hx' hm h1 h2 h3 => by
          subst hx'
          have hbs := bounds_run (P := P) (w := w) (n := n) (c := c') (m := m) hlo hhi hmx true hl hk hm h1 h2 h3 hb
          simp [Instr.sliceAt, Instr.slice, run_underlying hd, hbs, sizeOf, typeInfo, hi2, hs]
        have fin : ∀ (m cc : Nat), r = .slice (some ⟨a.block, a.off + l * et.size, none⟩) (k - l) cc → l ≤ k → s = et.size → (∀ (a' : Addr) (c' : Nat), x' = .slice (some a') n c' → n ≤ c' → (c = 0 ∨ c = c' + 1) → ∃ m, bnd mx c' = some m ∧ k ≤ m ∧ m ≤ c' ∧ (cc = 0 ∨ cc = m - l + 1)) →
            ∃ r', (Instr.sliceAt t x' lo' hi' mx').run P w = .ok r' w ∧ VR σ r r' := fun m cc hr h1 hse hmm => by
          cases hx with
          | slice hp hn hc hz =>
            rename_i i p o c'
            obtain ⟨m, hm, h2, h3, h4⟩ := hmm _ c' rfl hn hc
            refine ⟨_, conc _ c' m rfl hm h1 h2 h3, ?_⟩
            subst hr
            obtain ⟨q, hq, hlies⟩ := hW.lies _ _ hg
            rw [hp] at hq
            cases hq
            have hes : p.es = et.size := hlies.1.trans hse
            by_cases hml : m = l
            · subst hml
              rw [if_pos rfl, Nat.sub_self]
              have : k = m := by omega
              subst this
              rw [Nat.sub_self]
              exact .none_ (by omega)
            · rw [if_neg hml, Addr.add_lit, Nat.add_assoc]
              refine .slice hp (by omega) h4 ?_
              rw [hes] at hz ⊢
              have e1 : m - l ≤ c' - l := by omega
              have e2 := Nat.mul_le_mul_right et.size e1
              have e3 : l * et.size + (c' - l) * et.size = c' * et.size := by rw [← Nat.add_mul]; congr 1; omega
              show p.off + (o + l * et.size) + (m - l) * et.size ≤ p.sz
              omega
          | none_ hc =>
            rename_i b
            obtain ⟨m, hm, h2, h3, h4⟩ := hmm b 0 rfl (Nat.le_refl _) (by omega)
            obtain rfl : m = 0 := by omega
            obtain rfl : k = 0 := by omega
            obtain rfl : l = 0 := by omega
            refine ⟨_, conc _ 0 0 rfl hm (Nat.le_refl _) (Nat.le_refl _) (Nat.le_refl _), ?_⟩
            subst hr
            exact .none_ (by omega)
        split at h
        · rename_i hnn
          rw [Bool.cond_eq_ite] at h
          split at h
          · rename_i hle
            simp only [Bool.and_eq_true, Nat.ble_eq, Nat.beq_eq] at hle
            cases h
            refine fin 0 _ rfl hle.1.1 hle.1.2 fun a' c' _ hn hc => ⟨c', rfl, roomB_le hle.2 hn hc, Nat.le_refl _, roomL_of hc⟩
          · cases h
        · rename_i mv hnn
          simp only [Option.bind_eq_some_iff, Bool.cond_eq_ite] at h
          obtain ⟨m, hm, h⟩ := h
          split at h
          · rename_i hle
            simp only [Bool.and_eq_true, Nat.ble_eq, Nat.beq_eq] at hle
            cases h
            refine fin 0 _ rfl hle.1.1.1 hle.1.2 fun a' c' _ hn hc => ⟨m, ?_, hle.1.1.2, roomB_le hle.2 hn hc, .inr rfl⟩
            unfold bnd at hm ⊢
            split at hm <;> simp_all
          · cases h
      · cases h
    · cases h
  · cases h
end
end Go.Proofs.YtjphohhpnoobfaaDoor.Sx
