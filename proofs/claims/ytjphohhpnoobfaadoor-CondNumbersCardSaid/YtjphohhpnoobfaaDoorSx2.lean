/- A reckoner of Go code: what becomes of its memory, and of the world that follows it. No condition. -/
import Derived.Test.YtjphohhpnoobfaaDoorSx1
import Derived.Deep.MidRow
import Derived.Deep.AppendSrc
namespace Go.Proofs.YtjphohhpnoobfaaDoor.Sx
open Go Go.RowKit
set_option linter.unusedVariables false
set_option linter.unusedSimpArgs false
set_option linter.unusedSectionVars false
variable [Rho]

theorem Lies.mono {σ τ : Sg} (hle : σ.le τ) {w w' : World} {p : Spot} (hb : w'.heap[p.blk]? = w.heap[p.blk]?) : ∀ {o : AObj}, Lies σ w p o → Lies τ w' p o
  | .cells s l, ⟨h1, C, e, fr, h2, h3, h6, l', h4, h5⟩ => ⟨h1, C, e, fr, hb.trans h2, h3, h6, l', h4.mono hle, h5⟩
  | .frz b l, ⟨C, e, fr, h2, h3, h6, l', h4, h5⟩ => ⟨C, e, fr, hb.trans h2, h3, h6, l', h4.mono hle, h5⟩
  | .map es, ⟨E, c, h1, h2, h3⟩ => ⟨E, c, hb.trans h1, h2.mono hle, h3.mono hle⟩

theorem WR.none_top {σ : Sg} {A : AW} {w : World} (h : WR σ A w) : σ A.n = none := by
  cases hs : σ A.n with
  | none => rfl
  | some p => have := (h.old _ _ hs).1; omega

/-- What a row of the reckoner's reads as. -/
theorem WR.read {σ : Sg} {A : AW} {w : World} (h : WR σ A w) {i s : Nat} {l : List Value} (hg : A.get i = some (.cells s l)) {p : Spot} (hp : σ i = some p) :
    p.es = s ∧ ∃ C e, (∃ fr, w.heap[p.blk]? = some (.cells C e fr) ∧ noFr C fr) ∧ C.size = p.sz ∧ ∃ l', VRs σ l l' ∧ (∀ j y, l'[j]? = some y → C[p.off + j]? = some y) ∧ w.rangeAt p.blk p.off l' ∧ w.there p.blk p.off l'.length := by
  obtain ⟨q, hq, hl⟩ := h.lies i _ hg
  rw [hp] at hq
  cases hq
  obtain ⟨h1, C, e, fr, h2, h3, h6, l', h4, h5⟩ := hl
  have hr : w.rangeAt p.blk p.off l' := fun j v hv => by
    unfold World.cell?
    rw [h2]
    exact h5 j v hv
  refine ⟨h1, C, e, ⟨fr, h2, h6⟩, h3, l', h4, h5, hr, fun j hj => ⟨hr.isSome j hj, ?_⟩⟩
  unfold World.frozen?
  rw [h2]
  rw [h6]
  simp
/-- .. of what is only read. -/
theorem WR.readF {σ : Sg} {A : AW} {w : World} (h : WR σ A w) {i : Nat} {b : Bool} {l : List Value} (hg : A.get i = some (.frz b l)) {p : Spot} (hp : σ i = some p) : ∃ l', VRs σ l l' ∧ w.rangeAt p.blk p.off l' := by
  obtain ⟨q, hq, hl⟩ := h.lies i _ hg
  rw [hp] at hq
  cases hq
  obtain ⟨C, e, fr, h2, h3, h6, l', h4, h5⟩ := hl
  refine ⟨l', h4, fun j v hv => ?_⟩
  unfold World.cell?
  rw [h2]
  exact h5 j v hv
theorem heap_setCell_fr (w : World) (g i : Nat) (cs : Array Value) (t : TypeId) (fr : Nat × Nat) (v : Value) (hg : w.heap[g]? = some (.cells cs t fr)) :
    (w.setCell ⟨g, i, none⟩ v).heap[g]? = some (.cells (cs.setIfInBounds i v) t fr) := by
  have hlt := (Array.getElem?_eq_some_iff.1 hg).1
  unfold World.setCell
  simp only [Array.getElem?_modify, if_pos, hg, Option.map_some]
  simp
theorem heap_setCells (b : Nat) (e : TypeId) (fr : Nat × Nat) : ∀ (vs : List Value) (o : Nat) (w : World) (C : Array Value), w.heap[b]? = some (.cells C e fr) →
    ∃ C', (w.setCells b o vs).heap[b]? = some (.cells C' e fr) ∧ C'.size = C.size ∧ (∀ k, k < C.size → C'[k]? = if o ≤ k ∧ k < o + vs.length then vs[k - o]? else C[k]?) ∧
      (∀ k, k ≠ b → (w.setCells b o vs).heap[k]? = w.heap[k]?) ∧ (w.setCells b o vs).heap.size = w.heap.size ∧ (w.setCells b o vs).os = w.os ∧ (w.setCells b o vs).tape = w.tape ∧ (w.setCells b o vs).output = w.output
  | [], o, w, C, h => ⟨C, h, rfl, fun k _ => by rw [if_neg (by simp)], fun _ _ => rfl, rfl, rfl, rfl, rfl⟩
  | v :: r, o, w, C, h => by
    have h1 := heap_setCell_fr w b o C e fr v h
    obtain ⟨C', a1, a2, a3, a4, a5, a6, a7, a8⟩ := heap_setCells b e fr r (o + 1) (w.setCell ⟨b, o, none⟩ v) _ h1
    refine ⟨C', a1, by simpa using a2, fun k hk => ?_, fun k hk => ?_, by rw [World.setCells, a5]; simp [World.setCell], by rw [World.setCells, a6]; rfl, by rw [World.setCells, a7]; rfl, by rw [World.setCells, a8]; rfl⟩
    · rw [a3 k (by simpa using hk)]
      by_cases hko : k = o
      · subst hko
        rw [if_neg (by omega), if_pos (by simp), Nat.sub_self]
        simp [hk]
      · by_cases hin : o + 1 ≤ k ∧ k < o + 1 + r.length
        · rw [if_pos hin, if_pos (by simp; omega), show k - o = (k - (o + 1)) + 1 from by omega]
          simp
        · rw [if_neg hin, if_neg (by simp; omega)]
          simp [Array.getElem?_setIfInBounds, Ne.symm hko]
    · rw [World.setCells, a4 k hk, heap_setCell_other _ _ _ _ (by simpa using hk)]

/-- A list with others in it from a place on. -/
noncomputable def splice (l : List Value) (o : Nat) (vs : List Value) : List Value := l.take o ++ vs ++ l.drop (o + vs.length)
theorem splice_get {l : List Value} {o : Nat} {vs : List Value} (h : o + vs.length ≤ l.length) (k : Nat) : (splice l o vs)[k]? = if o ≤ k ∧ k < o + vs.length then vs[k - o]? else l[k]? := by
  unfold splice
  rw [List.append_assoc, List.getElem?_append, List.getElem?_append, List.length_take, Nat.min_eq_left (by omega)]
  by_cases h1 : k < o
  · rw [if_pos h1, if_neg (by omega), List.getElem?_take, if_pos h1]
  · rw [if_neg h1]
    by_cases h2 : k - o < vs.length
    · rw [if_pos h2, if_pos (by omega)]
    · rw [if_neg h2, if_neg (by omega), List.getElem?_drop]
      congr 1
      omega
theorem splice_len {l : List Value} {o : Nat} {vs : List Value} (h : o + vs.length ≤ l.length) : (splice l o vs).length = l.length := by
  unfold splice
  simp
  omega
theorem VRs.splice {σ : Sg} {l l' vs vs' : List Value} (h : VRs σ l l') (hv : VRs σ vs vs') (o : Nat) : VRs σ (splice l o vs) (splice l' o vs') := by
  unfold Sx.splice
  rw [← hv.1]
  exact ((h.take o).append hv).append (h.drop _)

/-- Cells of a row are written. -/
theorem Sim.store {σ : Sg} {A : AW} {w : World} (h : WR σ A w) {i s : Nat} {l : List Value} (hg : A.get i = some (.cells s l)) {p : Spot} (hp : σ i = some p) {o : Nat} {vs vs' : List Value} (hv : VRs σ vs vs') (hle : o + vs.length ≤ l.length) :
    Sim σ A w σ (A.put i (some (.cells s (Sx.splice l o vs)))) (w.setCells p.blk (p.off + o) vs') := by
  obtain ⟨h1, C, e, ⟨fr0, h2, h6⟩, h3, l', h4, h5, hr, ht⟩ := h.read hg hp
  obtain ⟨C', a1, a2, a3, a4, a5, a6, a7, a8⟩ := heap_setCells p.blk e fr0 vs' (p.off + o) w C h2
  have hl' : l.length = l'.length := h4.1
  have hvl : vs.length = vs'.length := hv.1
  have hlt : p.blk < w.heap.size := (h.old _ _ hp).2
  have hout : ∀ j o', (A.put i (some (.cells s (Sx.splice l o vs)))).get j = some o' → j ≠ i → A.get j = some o' := fun j o' hj hne => by rw [AW.get_put, if_neg hne] at hj; exact hj
  refine ⟨Sg.le_refl σ, ⟨fun j o' hj => ?_, fun j k o1 o2 q r hj hk hq hr hne => ?_, fun j q hq => ?_, fun j q hq D f fr hD => ?_, fun j hj => ?_, h.glob⟩, a6, a7, a8, by omega, fun b hb hn => ?_, fun b hb => .inl ?_⟩
  · by_cases hji : j = i
    · subst hji
      rw [AW.get_put, if_pos rfl] at hj
      cases hj
      refine ⟨p, hp, h1, C', e, fr0, a1, by omega, h6, Sx.splice l' o vs', h4.splice hv o, fun k y hk => ?_⟩
      rw [splice_get (by omega)] at hk
      have hkl : k < l'.length := by
        split at hk
        · omega
        · exact (List.getElem?_eq_some_iff.1 hk).1
      have hlast := h5 k _ (List.getElem?_eq_getElem hkl)
      have hC : p.off + k < C.size := (Array.getElem?_eq_some_iff.1 hlast).1
      rw [a3 _ hC]
      split at hk
      · rw [if_pos (by omega), show p.off + k - (p.off + o) = k - o from by omega]; exact hk
      · rw [if_neg (by omega)]; exact h5 k y hk
    · have hj2 := hout j o' hj hji
      obtain ⟨q, hq, hl⟩ := h.lies j o' hj2
      refine ⟨q, hq, hl.mono (Sg.le_refl σ) (a4 _ (h.apartC hj2 hg hq hp hji (.inr rfl)))⟩
  · have get : ∀ x ox, (A.put i (some (.cells s (Sx.splice l o vs)))).get x = some ox → ∃ ox', A.get x = some ox' ∧ ox'.fz = ox.fz := fun x ox hx => by
      by_cases hxi : x = i
      · subst hxi; rw [AW.get_put, if_pos rfl] at hx; cases hx; exact ⟨_, hg, rfl⟩
      · exact ⟨_, hout x ox hx hxi, rfl⟩
    obtain ⟨o1', h1', f1⟩ := get j o1 hj
    obtain ⟨o2', h2', f2⟩ := get k o2 hk
    rw [← f1, ← f2]
    exact h.apart j k _ _ q r h1' h2' hq hr hne
  · rw [a5]; exact h.old j q hq
  · by_cases hb : q.blk = p.blk
    · rw [hb, a1] at hD
      cases hD
      rw [a2]
      exact h.fits j q hq C e fr0 (by rw [hb]; exact h2)
    · rw [a4 _ hb] at hD
      exact h.fits j q hq D f fr hD
  · have hji : j ≠ i := fun e => by subst e; have := (h.old _ _ hp).1; exact absurd hj (by show ¬ A.n ≤ j; omega)
    rw [AW.get_put, if_neg hji]
    exact h.top j hj
  · exact a4 b (fun e => hn ⟨i, _, p, hg, rfl, hp, e.symm⟩)
  · obtain ⟨j, o', q, hj, hf, hq, rfl⟩ := hb
    by_cases hji : j = i
    · subst hji; exact ⟨j, _, q, hg, rfl, hq, rfl⟩
    · exact ⟨j, o', q, hout j o' hj hji, hf, hq, rfl⟩

/-- A new block. -/
theorem Sim.fresh {σ : Sg} {A : AW} {w : World} (h : WR σ A w) (ob : Obj) (o : AObj) (p : Spot) (hb : p.blk = w.heap.size) (hl : Lies (σ.set A.n p) (w.alloc ob) p o) (hf : ∀ C e fr, ob = .cells C e fr → C.size = p.sz) :
    Sim σ A w (σ.set A.n p) (A.new o) (w.alloc ob) := by
  have hnt := h.none_top
  have hle := Sg.le_set (p := p) hnt
  have hkeep : ∀ k, k < w.heap.size → (w.alloc ob).heap[k]? = w.heap[k]? := fun k hk => Below.heap_alloc w ob k hk
  have hnew : (w.alloc ob).heap[w.heap.size]? = some ob := by show (w.heap.push ob)[w.heap.size]? = _; simp
  have hsz : (w.alloc ob).heap.size = w.heap.size + 1 := by show (w.heap.push ob).size = _; simp
  have hget : ∀ j, j ≠ A.n → (A.new o).get j = A.get j := fun j hj => by rw [AW.get_new, if_neg hj]
  have hsig : ∀ j q, (σ.set A.n p) j = some q → j ≠ A.n → σ j = some q := fun j q hq hne => by simpa [Sg.set, hne] using hq
  have hself : (σ.set A.n p) A.n = some p := by simp [Sg.set]
  refine ⟨hle, ⟨fun j o' hj => ?_, fun j k o1 o2 q r hj hk hq hr hne => ?_, fun j q hq => ?_, fun j q hq D f fr hD => ?_, fun j hj => ?_, fun g hg => let ⟨p, h1, h2⟩ := h.glob g hg; ⟨p, hle _ _ h1, h2⟩⟩, rfl, rfl, rfl, by omega, fun b hb' _ => hkeep b hb', fun b hb' => ?_⟩
  · by_cases hji : j = A.n
    · subst hji
      rw [AW.get_new, if_pos rfl] at hj
      cases hj
      exact ⟨p, hself, hl⟩
    · rw [hget j hji] at hj
      obtain ⟨q, hq, hl'⟩ := h.lies j o' hj
      exact ⟨q, hle _ _ hq, hl'.mono hle (hkeep _ (h.old _ _ hq).2)⟩
  · by_cases hj' : j = A.n
    · subst hj'
      rw [hself] at hq
      cases hq
      have h2 := (h.old _ _ (hsig k r hr (Ne.symm hne))).2
      left
      omega
    · by_cases hk' : k = A.n
      · subst hk'
        rw [hself] at hr
        cases hr
        have h2 := (h.old _ _ (hsig j q hq hne)).2
        left
        omega
      · rw [hget j hj'] at hj
        rw [hget k hk'] at hk
        exact h.apart j k _ _ q r hj hk (hsig j q hq hj') (hsig k r hr hk') hne
  · by_cases hj' : j = A.n
    · subst hj'
      rw [hself] at hq
      cases hq
      exact ⟨by show A.n < A.n + 1; omega, by omega⟩
    · have h2 := h.old _ _ (hsig j q hq hj')
      exact ⟨by show j < A.n + 1; omega, by omega⟩
  · by_cases hj' : j = A.n
    · subst hj'
      rw [hself] at hq
      cases hq
      rw [hb, hnew] at hD
      exact hf D f fr (by simpa using hD)
    · have h2 := hsig j q hq hj'
      rw [hkeep _ (h.old _ _ h2).2] at hD
      exact h.fits j q h2 D f fr hD
  · have : A.n + 1 ≤ j := hj
    rw [hget j (by omega)]
    exact h.top j (by omega)
  · obtain ⟨j, o', q, hj, hf, hq, rfl⟩ := hb'
    by_cases hj' : j = A.n
    · subst hj'
      rw [hself] at hq
      cases hq
      exact .inr (by omega)
    · rw [hget j hj'] at hj
      exact .inl ⟨j, o', q, hj, hf, hsig j q hq hj', rfl⟩

/-- A new row. -/
theorem Sim.row {σ : Sg} {A : AW} {w : World} (h : WR σ A w) (s : Nat) (l : List Value) (C : Array Value) (e : TypeId) {l' : List Value} (hl : VRs σ l l') (hC : ∀ (j : Nat) (y : Value), l'[j]? = some y → C[j]? = some y) :
    Sim σ A w (σ.set A.n ⟨w.heap.size, 0, C.size, s⟩) (A.new (.cells s l)) (w.alloc (.cells C e)) := by
  refine Sim.fresh h _ _ _ rfl ⟨rfl, C, e, (0, 0), by show (w.heap.push _)[w.heap.size]? = _; simp, rfl, rfl, l', hl.mono (Sg.le_set h.none_top), fun j y hj => by simpa using hC j y hj⟩ (fun C' e' fr he => by cases he; rfl)

/-- One block fewer. -/
theorem Sim.drop {σ : Sg} {A : AW} {w : World} (h : WR σ A w) (i : Nat) : Sim σ A w σ (A.put i none) w := by
  have hout : ∀ j o', (A.put i none).get j = some o' → A.get j = some o' := fun j o' hj => by
    rw [AW.get_put] at hj
    split at hj
    · cases hj
    · exact hj
  refine ⟨Sg.le_refl σ, ⟨fun j o' hj => h.lies j o' (hout j o' hj), fun j k o1 o2 q r hj hk => h.apart j k o1 o2 q r (hout _ _ hj) (hout _ _ hk), h.old, h.fits, fun j hj => ?_, h.glob⟩, rfl, rfl, rfl, Nat.le_refl _, fun _ _ _ => rfl, fun b hb => .inl ?_⟩
  · rw [AW.get_put]
    split
    · rfl
    · exact h.top j hj
  · obtain ⟨j, o', q, hj, hf, hq, rfl⟩ := hb
    exact ⟨j, o', q, hout j o' hj, hf, hq, rfl⟩

/-- A row goes on under another number. -/
theorem Sim.grow {σ : Sg} {A : AW} {w : World} (h : WR σ A w) {i s : Nat} {l : List Value} (hg : A.get i = some (.cells s l)) {p : Spot} (hp : σ i = some p) {o n : Nat} {vs vs' : List Value} (hv : VRs σ vs vs') (hle : o + n ≤ l.length) (hin : p.off + o + n + vs.length ≤ p.sz) :
    Sim σ A w (σ.set A.n ⟨p.blk, p.off + o, p.sz, p.es⟩) ((A.put i none).new (.cells s ((l.drop o).take n ++ vs))) (w.setCells p.blk (p.off + o + n) vs') := by
  obtain ⟨h1, C, e, ⟨fr0, h2, h6⟩, h3, l', h4, h5, hr, ht⟩ := h.read hg hp
  obtain ⟨C', a1, a2, a3, a4, a5, a6, a7, a8⟩ := heap_setCells p.blk e fr0 vs' (p.off + o + n) w C h2
  have hl' : l.length = l'.length := h4.1
  have hvl : vs.length = vs'.length := hv.1
  have hlt : p.blk < w.heap.size := (h.old _ _ hp).2
  have hnt := h.none_top
  generalize hq0 : (⟨p.blk, p.off + o, p.sz, p.es⟩ : Spot) = q0
  have hle' := Sg.le_set (p := q0) hnt
  have hself : (σ.set A.n q0) A.n = some q0 := by simp [Sg.set]
  have hsig : ∀ j q, (σ.set A.n q0) j = some q → j ≠ A.n → σ j = some q := fun j q hq hne => by simpa [Sg.set, hne] using hq
  generalize hB : (A.put i none).new (.cells s ((l.drop o).take n ++ vs)) = B
  have hBn : B.n = A.n + 1 := by rw [← hB]; rfl
  have hself' : B.get A.n = some (.cells s ((l.drop o).take n ++ vs)) := by rw [← hB, AW.get_new]; exact if_pos rfl
  have hout : ∀ j o', B.get j = some o' → j ≠ A.n → j ≠ i ∧ A.get j = some o' := fun j o' hj hne => by
    rw [← hB, AW.get_new] at hj
    have hj2 : (A.put i none).get j = some o' := by rw [if_neg (show ¬ j = (A.put i none).n from hne)] at hj; exact hj
    rw [AW.get_put] at hj2
    split at hj2
    · cases hj2
    · exact ⟨‹_›, hj2⟩
  have hdrop := (h4.drop o).take n
  refine ⟨hle', ⟨fun j o' hj => ?_, fun j k o1 o2 q r hj hk hq hr hne => ?_, fun j q hq => ?_, fun j q hq D f fr hD => ?_, fun j hj => ?_, fun g hg' => let ⟨p, h1, h2⟩ := h.glob g (by rw [← hB] at hg'; exact hg'); ⟨p, hle' _ _ h1, h2⟩⟩, a6, a7, a8, by omega, fun b hb hn => ?_, fun b hb => .inl ?_⟩
  · by_cases hjn : j = A.n
    · subst hjn
      rw [hself'] at hj
      cases hj
      refine ⟨q0, hself, by rw [← hq0]; exact h1, C', e, fr0, by rw [← hq0]; exact a1, by rw [← hq0]; show C'.size = p.sz; omega, h6, (l'.drop o).take n ++ vs', (hdrop.append hv).mono hle', fun k y hk => ?_⟩
      rw [← hq0]
      show C'[p.off + o + k]? = some y
      rw [List.getElem?_append, List.length_take, List.length_drop, Nat.min_eq_left (by omega)] at hk
      by_cases hkn : k < n
      · rw [if_pos hkn, List.getElem?_take, if_pos hkn, List.getElem?_drop] at hk
        have := h5 (o + k) y hk
        have hC : p.off + o + k < C.size := by have := (Array.getElem?_eq_some_iff.1 this).1; omega
        rw [a3 _ hC, if_neg (by omega), Nat.add_assoc]
        exact this
      · rw [if_neg hkn] at hk
        have hkl := (List.getElem?_eq_some_iff.1 hk).1
        rw [a3 _ (by omega), if_pos (by omega), show p.off + o + k - (p.off + o + n) = k - n from by omega]
        exact hk
    · obtain ⟨hji, hj2⟩ := hout j o' hj hjn
      obtain ⟨q, hq, hl⟩ := h.lies j o' hj2
      exact ⟨q, hle' _ _ hq, hl.mono hle' (a4 _ (h.apartC hj2 hg hq hp hji (.inr rfl)))⟩
  · by_cases hjn : j = A.n
    · subst hjn
      rw [hself] at hq
      cases hq
      obtain ⟨hki, hk2⟩ := hout k o2 hk (Ne.symm hne)
      have := h.apartC hk2 hg (hsig k r hr (Ne.symm hne)) hp hki (.inr rfl)
      rw [← hq0]
      exact .inl (Ne.symm this)
    · by_cases hkn : k = A.n
      · subst hkn
        rw [hself] at hr
        cases hr
        obtain ⟨hji, hj2⟩ := hout j o1 hj hne
        rw [← hq0]
        exact .inl (h.apartC (q := p) hj2 hg (hsig j q hq hne) hp hji (.inr rfl))
      · exact h.apart j k _ _ q r (hout j o1 hj hjn).2 (hout k o2 hk hkn).2 (hsig j q hq hjn) (hsig k r hr hkn) hne
  · rw [a5, hBn]
    by_cases hjn : j = A.n
    · subst hjn
      rw [hself] at hq
      cases hq
      rw [← hq0]
      exact ⟨by omega, hlt⟩
    · have := h.old _ _ (hsig j q hq hjn)
      exact ⟨by omega, this.2⟩
  · have hq2 : (q.blk = p.blk ∧ q.sz = p.sz) ∨ σ j = some q := by
      by_cases hjn : j = A.n
      · subst hjn
        rw [hself] at hq
        cases hq
        rw [← hq0]
        exact .inl ⟨rfl, rfl⟩
      · exact .inr (hsig j q hq hjn)
    rcases hq2 with ⟨e1, e2⟩ | hq2
    · rw [e1, a1] at hD
      cases hD
      omega
    · by_cases hb : q.blk = p.blk
      · rw [hb, a1] at hD
        cases hD
        rw [a2]
        exact h.fits j q hq2 C e fr0 (by rw [hb]; exact h2)
      · rw [a4 _ hb] at hD
        exact h.fits j q hq2 D f fr hD
  · rw [hBn] at hj
    cases hg' : B.get j with
    | none => rfl
    | some o' =>
      have := (hout j o' hg' (by omega)).2
      rw [h.top j (by omega)] at this
      cases this
  · exact a4 b (fun e => hn ⟨i, _, p, hg, rfl, hp, e.symm⟩)
  · obtain ⟨j, o', q, hj, hf, hq, rfl⟩ := hb
    by_cases hjn : j = A.n
    · subst hjn
      rw [hself] at hq
      cases hq
      exact ⟨i, _, p, hg, rfl, hp, by rw [← hq0]⟩
    · exact ⟨j, o', q, (hout j o' hj hjn).2, hf, hsig j q hq hjn, rfl⟩
end Go.Proofs.YtjphohhpnoobfaaDoor.Sx
