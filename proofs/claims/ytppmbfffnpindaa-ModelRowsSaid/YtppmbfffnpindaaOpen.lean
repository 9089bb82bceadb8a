/- Arguments that are slices, opened to the cells that they lie in. No condition beyond each theorem's own. -/
import Derived.Test.YtppmbfffnpindaaBase
import Derived.Deep.Slices
import Derived.Deep.Fields
import Derived.ChangeSame
import Derived.ChangeOld
import Derived.ProofKit
namespace Go.Proofs.Ytppmbfffnpindaa
open Go.RowKit Go.ChangeShapes Go.WideShapes Go.Deep
set_option linter.unusedVariables false
set_option linter.unusedSimpArgs false
section
variable {H : Type} {enc : TypeId × Value → H} {P : Program} {w : World} {base : Nat} {held : Bool}

/-- The rows of a slice's elements, n of them, sz cells each, from ⟨bl, off⟩ on. -/
structure RowsAt (w : World) (A : Option Addr) (n sz : Nat) (R : Nat → List Value) : Prop where
  at_ : n = 0 ∨ ∃ bl off, A = some ⟨bl, off, none⟩ ∧ bl < w.heap.size ∧ ∀ i, i < n → ∀ j u, (R i)[j]? = some u → w.cell? ⟨bl, off + i * sz + j, none⟩ = some u

theorem open_rows {t e : TypeId} {v : Value} {d : DataW H} {p : List MemPlace} {sz : Nat} (ht : P.underlying t = some (.slice e)) (hsz : P.cellsOf e = sz) (hpos : 0 < sz) {r : Reach} {b0 : Nat} (hv : Value.okWide P w r b0 t v)
    (h : DataW.Trod enc P w base (fun _ => true) held t v d p) :
    ∃ A n c, v = .slice A n c ∧ n ≤ 9223372036854775807 ∧ ∃ R : Nat → List Value, RowsAt w A n sz R ∧ ∀ i, i < n → ∃ fuel x, DataW.trod enc P w base (fun _ => true) held fuel e (R i) = some x := by
  subst hsz
  obtain ⟨A, n, c, rfl⟩ := okWide_slice ht hv
  refine ⟨A, n, c, rfl, ?_⟩
  obtain ⟨fuel, hf⟩ := h
  rcases open_slice ht hf with ⟨hcs, hx⟩ | ⟨a, len, cap, m, nf, D, Pl, hcs, _, hl, hm, hmm, hx, hi⟩
  · simp only [Value.cells, List.cons.injEq, Value.slice.injEq, and_true] at hcs
    obtain ⟨rfl, rfl, rfl⟩ := hcs
    exact ⟨by omega, fun _ => [], ⟨.inl rfl⟩, fun i hi => by omega⟩
  · simp only [Value.cells, List.cons.injEq, Value.slice.injEq, and_true] at hcs
    obtain ⟨rfl, rfl, rfl⟩ := hcs
    simp only [if_true] at hmm
    subst hmm
    have hm' : m ≤ 9223372036854775807 := by unfold Go.maxLen at hm; omega
    refine ⟨by omega, fun i => if hlt : i < m then Classical.choose (hi i hlt) else [], ?_, ?_⟩
    · by_cases hn : n = 0
      · exact ⟨.inl hn⟩
      · refine ⟨.inr ?_⟩
        have cell : ∀ i, (hlt : i < m) → ∀ j u, (Classical.choose (hi i hlt))[j]? = some u → w.cell? (a.add (i * P.cellsOf e + j)) = some u := by
          intro i hlt j u hu
          obtain ⟨hc, _⟩ := Classical.choose_spec (hi i hlt)
          obtain ⟨_, hcl, hat⟩ := World.cells?_some hc
          have hj : j < P.cellsOf e := by rw [← hcl]; exact (List.getElem?_eq_some_iff.1 hu).1
          have := hat j hj
          rw [Go.Deep.add_add] at this
          rw [this, hu]
        have h0 : w.cell? (a.add 0) ≠ none := by
          obtain ⟨hc, _⟩ := Classical.choose_spec (hi 0 (by omega))
          obtain ⟨_, hcl, hat⟩ := World.cells?_some hc
          have hl0 : 0 < (Classical.choose (hi 0 (by omega))).length := by rw [hcl]; exact hpos
          have := cell 0 (by omega) 0 _ (List.getElem?_eq_getElem hl0)
          intro e0
          rw [show a.add 0 = a.add (0 * P.cellsOf e + 0) from by rw [Nat.zero_mul]] at e0
          rw [e0] at this; cases this
        obtain ⟨bl, off, sp⟩ := a
        have hsp : sp = none := by
          cases sp with
          | none => rfl
          | some x => exfalso; apply h0; simp only [Addr.add, if_true, World.cell?]; split <;> simp
        subst hsp
        have hadd : ∀ k, (⟨bl, off, none⟩ : Addr).add k = ⟨bl, off + k, none⟩ := by
          intro k; unfold Addr.add; split
          · subst_vars; rfl
          · rfl
        refine ⟨bl, off, rfl, ?_, ?_⟩
        · rw [hadd] at h0
          cases hc : w.cell? ⟨bl, off + 0, none⟩ with
          | none => exact absurd hc h0
          | some u => exact World.block_lt_of_cell? w _ hc
        · intro i hi' j u hu
          have hlt : i < m := by omega
          simp only [dif_pos hlt] at hu
          have := cell i hlt j u hu
          rw [hadd] at this
          rw [Nat.add_assoc]; exact this
    · intro i hi'
      have hlt : i < m := by omega
      simp only [dif_pos hlt]
      exact ⟨_, _, (Classical.choose_spec (hi i hlt)).2⟩

theorem rows_choose {α : Type} {n : Nat} {Q : Nat → α → Prop} (z : α) (h : ∀ i, i < n → ∃ x, Q i x) : ∃ D : Nat → α, ∀ i, i < n → Q i (D i) :=
  ⟨fun i => if hi : i < n then Classical.choose (h i hi) else z, fun i hi => by simp only [dif_pos hi]; exact Classical.choose_spec (h i hi)⟩

/-- A slice of whole numbers. -/
theorem open_intsL {t e : TypeId} {q : IntKind} {v : Value} {d : DataW H} {p : List MemPlace} (ht : P.underlying t = some (.slice e)) (he : P.underlying e = some (.int q)) (hsz : P.cellsOf e = 1) {r : Reach} {b0 : Nat} (hv : Value.okWide P w r b0 t v)
    (h : DataW.Trod enc P w base (fun _ => true) held t v d p) :
    ∃ A n c, v = .slice A n c ∧ n ≤ 9223372036854775807 ∧ ∃ Z : Nat → Int, RowsAt w A n 1 (fun i => [.int q (Z i)]) := by
  obtain ⟨A, n, c, rfl, hn, R, hR, hx⟩ := open_rows ht hsz (by omega) hv h
  obtain ⟨Z, hZ⟩ := rows_choose (α := Int) 0 (fun i hi => by
    obtain ⟨fuel, x, hx⟩ := hx i hi
    obtain ⟨z, hz, _⟩ := DataW.trod_int he hx
    exact ⟨z, hz⟩)
  refine ⟨A, n, c, rfl, hn, Z, ⟨?_⟩⟩
  rcases hR.at_ with h0 | ⟨bl, off, h1, h2, h3⟩
  · exact .inl h0
  · exact .inr ⟨bl, off, h1, h2, fun i hi j u hu => h3 i hi j u (by rw [hZ i hi]; exact hu)⟩
/-- A slice of bools. -/
theorem open_boolsL {t e : TypeId} {v : Value} {d : DataW H} {p : List MemPlace} (ht : P.underlying t = some (.slice e)) (he : P.underlying e = some .bool) (hsz : P.cellsOf e = 1) {r : Reach} {b0 : Nat} (hv : Value.okWide P w r b0 t v)
    (h : DataW.Trod enc P w base (fun _ => true) held t v d p) :
    ∃ A n c, v = .slice A n c ∧ n ≤ 9223372036854775807 ∧ ∃ Z : Nat → Bool, RowsAt w A n 1 (fun i => [.bool (Z i)]) := by
  obtain ⟨A, n, c, rfl, hn, R, hR, hx⟩ := open_rows ht hsz (by omega) hv h
  obtain ⟨Z, hZ⟩ := rows_choose (α := Bool) false (fun i hi => by
    obtain ⟨fuel, x, hx⟩ := hx i hi
    obtain ⟨z, hz, _⟩ := DataW.trod_bool he hx
    exact ⟨z, hz⟩)
  refine ⟨A, n, c, rfl, hn, Z, ⟨?_⟩⟩
  rcases hR.at_ with h0 | ⟨bl, off, h1, h2, h3⟩
  · exact .inl h0
  · exact .inr ⟨bl, off, h1, h2, fun i hi j u hu => h3 i hi j u (by rw [hZ i hi]; exact hu)⟩
end
end Go.Proofs.Ytppmbfffnpindaa
