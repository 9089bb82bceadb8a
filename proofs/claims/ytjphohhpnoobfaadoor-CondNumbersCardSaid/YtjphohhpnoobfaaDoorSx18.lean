/- A reckoner of Go code: the sentinels that a row lays, as the reckoner's memory. No condition. -/
import Derived.Test.YtjphohhpnoobfaaDoorSx17
import Derived.LaidLaws
import Derived.LaidSub
import Derived.FnData
import Derived.Below
namespace Go.Proofs.YtjphohhpnoobfaaDoor.Sx
open Go Go.RowKit
set_option linter.unusedVariables false
set_option linter.unusedSimpArgs false
set_option linter.unusedSectionVars false
variable [Rho]

theorem keepB_bit (m t : Nat) : keepB m t = m.testBit t := by
  have h1 : ∀ a b : Nat, Nat.shiftRight a b = a >>> b := fun _ _ => rfl
  have h2 : ∀ a b : Nat, Nat.land a b = a &&& b := fun _ _ => rfl
  unfold keepB Nat.testBit
  rw [h1, h2, Nat.and_comm]
  rw [Nat.one_and_eq_mod_two]
  rcases Nat.mod_two_eq_zero_or_one (m >>> t) with h | h
  · rw [h]; rfl
  · rw [h]; rfl
theorem keepB_or {m g x : Nat} (h : keepB (m ||| (1 <<< g)) x = true) : x = g ∨ keepB m x = true := by
  rw [keepB_bit, Nat.testBit_or, Bool.or_eq_true] at h
  rw [keepB_bit]
  rcases h with h | h
  · exact .inr h
  · left
    rw [Nat.testBit_shiftLeft] at h
    simp only [Bool.and_eq_true, decide_eq_true_eq] at h
    have := h.2
    rw [Nat.testBit_one_eq_true_iff_self_eq_zero] at this
    omega

/-- One sentinel: its variable's number, its text. -/
structure Sent where
  name : String
  g : Nat
  text : List UInt8
/-- The memory that they make: ids N, N + 1 .. are the texts'. -/
noncomputable def layS (tp N : Nat) : List Sent → Nat → AW → AW
  | [], _, A => A
  | s :: r, k, A => match layS tp N r (k + 1) A with
    | ⟨n, t, m⟩ => ⟨n, (t.put (N + k) (some (.frz true [.string (mkS s.text)]))).put s.g (some (.frz true [.iface tp (.pointer (some ⟨N + k, 0, none⟩))])), m ||| (1 <<< s.g)⟩
/-- What is laid so far. -/
structure LaidW (N k : Nat) (σ : Sg) (A : AW) (w : World) (ps : List MemPlace) : Prop where
  wr : WR σ A w
  fz : ∀ i o, A.get i = some o → o.fz = true
  sp : ∀ i p, σ i = some p → MemPlace.cell p.blk p.off ∈ ps ∧ (i < N → p.blk = i ∧ p.off = 0) ∧ (N ≤ i → N + k ≤ i)
  n : ∀ i, A.get i ≠ none → σ i ≠ none
theorem LaidW.none_ (N k n : Nat) (w : World) : LaidW N k (fun _ => none) ⟨n, .nil, 0⟩ w [] := by
  have hg : ∀ i, AW.get ⟨n, .nil, 0⟩ i = none := fun i => Tr.get_nil i
  refine ⟨⟨fun i o h => ?_, fun i j o o' p q h => ?_, fun i p h => (by cases h), fun i p h => (by cases h), fun i _ => hg i, fun g h => ?_⟩, fun i o h => ?_, fun i p h => (by cases h), fun i h => absurd (hg i) h⟩
  · rw [hg] at h; cases h
  · rw [hg] at h; cases h
  · rw [keepB_bit] at h; simp at h
  · rw [hg] at h; cases h
/-- One row more, of one cell. -/
theorem LaidW.add {N k n : Nat} {σ : Sg} {t : Tr AObj} {m : Nat} {w : World} {ps : List MemPlace} (h : LaidW N k σ ⟨n, t, m⟩ w ps) {i b off : Nat} {C : Array Value} {e : TypeId} (hC : w.heap[b]? = some (.cells C e (0, 0))) {c v : Value} (hc : C[off]? = some c)
    (hi : i < n) (hσ : σ i = none) (hv : VR (σ.set i ⟨b, off, C.size, 1⟩) v c) (hp : MemPlace.cell b off ∉ ps) (k' : Nat) (hk : k' ≤ k) (hN : (i < N → b = i ∧ off = 0) ∧ (N ≤ i → N + k' ≤ i)) (g : Option Nat) (hg : ∀ x, g = some x → x = i ∧ i < N) :
    LaidW N k' (σ.set i ⟨b, off, C.size, 1⟩) ⟨n, t.put i (some (.frz true [v])), match g with | some x => m ||| (1 <<< x) | none => m⟩ w (MemPlace.cell b off :: ps) := by
  obtain ⟨h1, h2, h3, h4⟩ := h
  have hle := Sg.le_set (p := (⟨b, off, C.size, 1⟩ : Spot)) hσ
  have hget : ∀ m' j, AW.get ⟨n, t.put i (some (.frz true [v])), m'⟩ j = if j = i then some (.frz true [v]) else AW.get ⟨n, t, m⟩ j := fun m' j => Tr.get_put _ _ _ _
  have hself : (σ.set i ⟨b, off, C.size, 1⟩) i = some ⟨b, off, C.size, 1⟩ := by simp [Sg.set]
  have hsig : ∀ {j q}, (σ.set i ⟨b, off, C.size, 1⟩) j = some q → j ≠ i → σ j = some q := fun {j q} hq hne => by simpa [Sg.set, hne] using hq
  have hblt : b < w.heap.size := (Array.getElem?_eq_some_iff.1 hC).1
  have hap : ∀ j q, σ j = some q → q.blk = b → q.off ≠ off := fun j q hq e1 e2 => hp (by have := (h3 j q hq).1; rw [e1, e2] at this; exact this)
  refine ⟨⟨fun j o ho => ?_, fun j l o o' p q hj hl hp' hq hne => ?_, fun j p hp' => ?_, fun j p hp' D f fr hD => ?_, fun j hj => ?_, fun x hx => ?_⟩, fun j o ho => ?_, fun j p hp' => ?_, fun j hj => ?_⟩
  · rw [hget] at ho
    by_cases hji : j = i
    · subst hji
      rw [if_pos rfl] at ho
      cases ho
      refine ⟨_, hself, C, e, (0, 0), hC, fun _ => rfl, rfl, [c], VRs.cons hv (VRs.nil _), fun x y hx => ?_⟩
      cases x with
      | zero => simp at hx; subst hx; exact hc
      | succ x => simp at hx
    · rw [if_neg hji] at ho
      obtain ⟨p, hp', hl⟩ := h1.lies j o ho
      exact ⟨p, hle _ _ hp', hl.mono hle rfl⟩
  · have hfo : ∀ {x ox}, AW.get ⟨n, t.put i (some (.frz true [v])), match g with | some x => m ||| (1 <<< x) | none => m⟩ x = some ox → ox.fz = true := fun {x ox} hx => by
      rw [hget] at hx
      split at hx
      · cases hx; rfl
      · exact h2 _ _ hx
    by_cases hbb : p.blk = q.blk
    · refine .inr ⟨hfo hj, hfo hl, ?_⟩
      by_cases hji : j = i
      · subst hji
        rw [hself] at hp'
        cases hp'
        exact Ne.symm (hap l q (hsig hq (Ne.symm hne)) hbb.symm)
      · by_cases hli : l = i
        · subst hli
          rw [hself] at hq
          cases hq
          exact hap j p (hsig hp' hji) hbb
        · rw [hget, if_neg hji] at hj
          rw [hget, if_neg hli] at hl
          rcases h1.apart j l o o' p q hj hl (hsig hp' hji) (hsig hq hli) hne with h5 | ⟨_, _, h5⟩
          · exact absurd hbb h5
          · exact h5
    · exact .inl hbb
  · by_cases hji : j = i
    · subst hji
      rw [hself] at hp'
      cases hp'
      exact ⟨hi, hblt⟩
    · exact h1.old j p (hsig hp' hji)
  · by_cases hji : j = i
    · subst hji
      rw [hself] at hp'
      cases hp'
      have hD' : w.heap[b]? = some (.cells D f fr) := hD
      rw [hC] at hD'
      cases hD'
      rfl
    · exact h1.fits j p (hsig hp' hji) D f fr hD
  · rw [hget]
    have hj' : n ≤ j := hj
    rw [if_neg (by omega)]
    exact h1.top j hj
  · have old : keepB m x = true → ∃ p, (σ.set i ⟨b, off, C.size, 1⟩) x = some p ∧ p.blk = x ∧ p.off = 0 := fun hx => by
      obtain ⟨p, e1, e2⟩ := h1.glob x hx
      exact ⟨p, hle _ _ e1, e2⟩
    cases g with
    | none => exact old hx
    | some y =>
      obtain ⟨rfl, hlt⟩ := hg y rfl
      rcases keepB_or hx with rfl | hx
      · exact ⟨_, hself, hN.1 hlt⟩
      · exact old hx
  · rw [hget] at ho
    split at ho
    · cases ho; rfl
    · exact h2 _ _ ho
  · by_cases hji : j = i
    · subst hji
      rw [hself] at hp'
      cases hp'
      exact ⟨List.mem_cons_self, hN⟩
    · obtain ⟨e1, e2, e3⟩ := h3 j p (hsig hp' hji)
      exact ⟨List.mem_cons_of_mem _ e1, e2, fun h => by have := e3 h; omega⟩
  · rw [hget] at hj
    by_cases hji : j = i
    · subst hji; rw [hself]; simp
    · rw [if_neg hji] at hj
      have := h4 j hj
      simp only [Sg.set, hji, if_false]
      exact this

/-- What a program is known to be, for its sentinels. -/
structure SentOK (P : Program) (tp : Nat) : Prop where
  prog : ∃ (ti te ts : TypeId) (ms : Array (String × TypeId)) (f : Field), P.underlying ti = some (.interface ms) ∧ (∀ u, P.typeName? 3 u = some "*errors.errorString" → u = tp) ∧ P.underlying tp = some (.pointer te) ∧
    P.underlying te = some (.struct #[f]) ∧ f.type = ts ∧ f.offset = 0 ∧ P.underlying ts = some .string ∧ P.cellsOf te = 1 ∧ P.cellsOf ts = 1
noncomputable def Sent.laid (s : Sent) : String × DataW Unit := (s.name, .iface "*errors.errorString" (.ptr (.agg [.lit (.string s.text)])))
theorem laid_from {P : Program} {tp ti te ts : TypeId} {ms : Array (String × TypeId)} {f : Field} {w : World} (hi : P.underlying ti = some (.interface ms)) (hrow : ∀ u, P.typeName? 3 u = some "*errors.errorString" → u = tp) (hp : P.underlying tp = some (.pointer te))
    (he : P.underlying te = some (.struct #[f])) (hft : f.type = ts) (hfo : f.offset = 0) (hs : P.underlying ts = some .string) (hc : P.cellsOf te = 1) (hcs : P.cellsOf ts = 1) (N n : Nat) :
    ∀ (S : List Sent) (k : Nat) (ps : List MemPlace), (∀ s ∈ S, P.globalNamed s.name = some s.g ∧ (P.globals[s.g]?).map (·.type) = some ti ∧ s.g < N) → N + k + S.length ≤ n → DataW.LaidVars P w (S.map Sent.laid) ps → ps.Nodup →
      (∀ b off, MemPlace.cell b off ∈ ps → (∃ c t, w.heap[b]? = some (.cells c t (0, 0))) ∧ ∀ u v, w.cell? ⟨b, off, none⟩ = some (.iface u v) → Value.okWide P w .any 0 u v) →
      ∃ σ, LaidW N k σ (layS tp N S k ⟨n, .nil, 0⟩) w ps
  | [], k, ps, _, _, h, _, _ => by
    have h0 : ps = [] := h
    subst h0
    exact ⟨_, LaidW.none_ N k n w⟩
  | s :: r, k, ps, hS, hn, h, hnd, hrows => by
    obtain ⟨g, t, cs, fuel, p, q, hg, ht, hv, hd, hq, rfl⟩ := h
    obtain ⟨hg', ht', hlt⟩ := hS s List.mem_cons_self
    obtain rfl := Option.some.inj (hg'.symm.trans hg)
    obtain rfl := Option.some.inj (ht'.symm.trans ht)
    have hcell : ∀ i, w.cell? ⟨s.g, i, none⟩ = cs[i]? := fun i => World.var?_cell hg hv i
    obtain ⟨l0⟩ := cs
    have hsub : ∀ {x}, x ∈ q → x ∈ MemPlace.row ⟨s.g, 0, none⟩ (Array.mk l0).size ++ p ++ q := fun hx => List.mem_append_right _ hx
    have hnd2 := List.Nodup.sublist (List.sublist_append_right (MemPlace.row ⟨s.g, 0, none⟩ (Array.mk l0).size ++ p) q) hnd
    have ok0 : ∀ u v, l0 = [.iface u v] → Value.okWide P w .any 0 u v := fun u v e => by
      subst e
      exact (hrows s.g 0 (by simp [MemPlace.row])).2 u v (by rw [hcell]; simp)
    obtain ⟨a, b, rfl, hca, hba, hz, rfl⟩ := errorString_of_trod hi hrow hp he hft hfo hs hc hcs hd ok0
    obtain ⟨σ, hL⟩ := laid_from hi hrow hp he hft hfo hs hc hcs N n r (k + 1) q (fun x hx => hS x (List.mem_cons_of_mem _ hx)) (by simp at hn; omega) hq hnd2 (fun b off hb => hrows b off (hsub hb))
    obtain ⟨⟨c0, t0, hb0⟩, _⟩ := hrows s.g 0 (by simp [MemPlace.row])
    obtain ⟨⟨c1, t1, hb1⟩, _⟩ := hrows a.block a.off (by simp [MemPlace.row])
    have hspot : a.spot = none := by
      cases hsp : a.spot with
      | none => rfl
      | some x => simp [World.cell?, hb1, hsp] at hca
    obtain ⟨blk, off, spot⟩ := a
    simp only at hspot hb1
    subst hspot
    have hc0 : c0[0]? = some (.iface tp (.pointer (some ⟨blk, off, none⟩))) := by
      have := hcell 0
      simpa [World.cell?, hb0] using this
    have hc1 : c1[off]? = some (.string b) := by simpa [World.cell?, hb1] using hca
    simp only [MemPlace.row, List.range_succ, List.range_zero, List.nil_append, List.map_cons, List.map_nil, Nat.zero_add, Nat.add_zero, List.size_toArray, List.length_cons, List.length_nil, List.cons_append] at hnd ⊢
    simp only [List.nodup_cons, List.mem_cons, not_or] at hnd
    obtain ⟨⟨hne, hg0⟩, ha0, hndq⟩ := hnd
    have htx : b = mkS s.text := by rw [← hba]; exact (mkS_lst b).symm
    subst htx
    have hnk : N + k < n := by simp at hn; omega
    generalize hA : layS tp N r (k + 1) ⟨n, .nil, 0⟩ = A at hL
    obtain ⟨n', tr, m⟩ := A
    have hn' : n' = n := by
      have : ∀ (S : List Sent) (k : Nat) (A : AW), (layS tp N S k A).n = A.n := fun S => by
        induction S with
        | nil => intro k A; rfl
        | cons s r ih => intro k A; have := ih (k + 1) A; unfold layS; generalize layS tp N r (k + 1) A = B at this; obtain ⟨_, _, _⟩ := B; exact this
      have h5 := this r (k + 1) ⟨n, .nil, 0⟩
      rw [hA] at h5
      exact h5
    subst hn'
    have hσ1 : σ (N + k) = none := by
      cases h5 : σ (N + k) with
      | none => rfl
      | some p => have := (hL.sp _ _ h5).2.2 (by omega); omega
    have h6 := hL.add (i := N + k) (v := .string (mkS s.text)) hb1 hc1 hnk hσ1 (.str _) ha0 k (by omega) ⟨fun h => by omega, fun _ => by omega⟩ none (fun x h => by cases h)
    have hσ2 : (σ.set (N + k) ⟨blk, off, c1.size, 1⟩) s.g = none := by
      cases h5 : (σ.set (N + k) ⟨blk, off, c1.size, 1⟩) s.g with
      | none => rfl
      | some p =>
        obtain ⟨e1, e2, _⟩ := h6.sp _ _ h5
        obtain ⟨e3, e4⟩ := e2 hlt
        rw [e3, e4] at e1
        rcases List.mem_cons.1 e1 with e1 | e1
        · exact absurd e1 hne
        · exact absurd e1 hg0
    have hid : (σ.set (N + k) ⟨blk, off, c1.size, 1⟩) (N + k) = some ⟨blk, off, c1.size, 1⟩ := by simp [Sg.set]
    have hle2 := Sg.le_set (p := (⟨s.g, 0, c0.size, 1⟩ : Spot)) hσ2
    have hvv : VR ((σ.set (N + k) ⟨blk, off, c1.size, 1⟩).set s.g ⟨s.g, 0, c0.size, 1⟩) (.iface tp (.pointer (some ⟨N + k, 0, none⟩))) (.iface tp (.pointer (some ⟨blk, off, none⟩))) := .iface _ (VR.ptr (i := N + k) (p := ⟨blk, off, c1.size, 1⟩) 0 (hle2 _ _ hid))
    have h7 := h6.add (i := s.g) hb0 hc0 (by omega) hσ2 hvv (fun h => by
      rcases List.mem_cons.1 h with h | h
      · exact hne h
      · exact hg0 h) k (Nat.le_refl _) ⟨fun _ => ⟨rfl, rfl⟩, fun h => by omega⟩ (some s.g) (fun x h => by cases h; exact ⟨rfl, hlt⟩)
    have e9 : layS tp N (s :: r) k ⟨n', .nil, 0⟩ = ⟨n', (tr.put (N + k) (some (.frz true [.string (mkS s.text)]))).put s.g (some (.frz true [.iface tp (.pointer (some ⟨N + k, 0, none⟩))])), m ||| (1 <<< s.g)⟩ := by
      unfold layS
      rw [hA]
    rw [e9]
    exact ⟨_, h7⟩

/-- From what is laid to the reckoner's memory. -/
theorem laid_wr {P : Program} {tp : Nat} (hP : SentOK P tp) {L : List (String × DataW Unit)} {w : World} (h : laidMet P L w) (keep : String × DataW Unit → Bool) (S : List Sent) (hL : L.filter keep = S.map Sent.laid) (N : Nat)
    (ti : TypeId) (hti : ∃ ms, P.underlying ti = some (.interface ms)) (hS : (S.all fun s => (P.globalNamed s.name == some s.g) && ((P.globals[s.g]?).map (·.type) == some ti) && Nat.blt s.g N) = true) :
    ∃ σ, WR σ (layS tp N S 0 ⟨N + S.length, .nil, 0⟩) w ∧ ∀ i o, (layS tp N S 0 ⟨N + S.length, .nil, 0⟩).get i = some o → o.fz = true := by
  obtain ⟨_, te, ts, ms', f, _, hrow, hp, he, hft, hfo, hs, hc, hcs⟩ := hP.prog
  obtain ⟨ms, hi⟩ := hti
  obtain ⟨ps, h1, h2, h3⟩ := h.filter keep
  rw [hL] at h1
  obtain ⟨σ, hW⟩ := laid_from hi hrow hp he hft hfo hs hc hcs N (N + S.length) S 0 ps (fun s hs => by
    have := List.all_eq_true.1 hS s hs
    simp only [Bool.and_eq_true, beq_iff_eq] at this
    exact ⟨this.1.1, this.1.2, by have := this.2; simp [Nat.blt] at this; omega⟩) (Nat.le_refl _) h1 h2 h3
  exact ⟨σ, hW.wr, hW.fz⟩
/-- Where all is read only, all stays. -/
theorem Sim.below {σ τ : Sg} {A B : AW} {w w' : World} (h : Sim σ A w τ B w') (hf : ∀ i o, A.get i = some o → o.fz = true) : Below w.heap.size w w' :=
  ⟨h.os, h.tape, h.output, h.size, fun b hb => h.keep b hb fun ⟨i, o, p, h1, h2, _⟩ => by rw [hf i o h1] at h2; cases h2⟩
end Go.Proofs.YtjphohhpnoobfaaDoor.Sx
