/- A reckoner of Go code: a region whose order is open comes to the same in each order. No condition. -/
import Derived.Test.YtjphohhpnoobfaaDoorSx14
namespace Go.Proofs.YtjphohhpnoobfaaDoor.Sx
open Go Go.RowKit
set_option linter.unusedVariables false
set_option linter.unusedSimpArgs false
set_option linter.unusedSectionVars false
variable [Rho]

theorem filter_less {l : List Nat} {p q : Nat → Bool} (hqp : ∀ i, q i = true → p i = true) {i : Nat} (hi : i ∈ l) (hp : p i = true) (hq : q i = false) : (l.filter q).length < (l.filter p).length := by
  have e : l.filter q = (l.filter p).filter q := by
    rw [List.filter_filter]
    congr 1
    funext j
    cases h : q j with
    | true => simp [hqp j h]
    | false => simp
  rw [e]
  exact List.length_filter_lt_length_iff_exists.2 ⟨i, List.mem_filter.2 ⟨hi, hp⟩, by simp [hq]⟩

section
variable {P : Program} {E : Env} (hE : EnvOK P E) {call : Caller} (hC : CallOK P call) {nt : Nat} {ops : Array Oper}
/-- What is known while a region is under way. -/
structure Mid (nt : Nat) (ops : Array Oper) (G : Frm) (Bs : List AW) (listed : Array Bool) (k : Nat) (σ : Sg) (a : Act) (w : World) : Prop where
  size : listed.size = ops.size
  down : ∀ (i : Nat) (o : Oper), ops.toList[i]? = some o → listed.getD i false = true → ∀ e ∈ o.after, Region.binds .any e = true → listed.getD e.on false = true
  acts : ∀ (j : Nat) (o : Oper), ops.toList[j]? = some o → quietOp E o.op = false → (listed.getD j false = true ↔ cnt E ops.toList j < k)
  frame : ∃ H : Frm, (FR σ nt H a ∧ H.gm = G.gm) ∧ ∀ t : Nat, (∀ (j : Nat) (o : Oper), ops.toList[j]? = some o → o.dst = some t → listed.getD j false = true) → H.get t = G.get t
  world : ∃ B, Bs[k]? = some B ∧ WR σ B w

theorem okQ_of {tr : List (Frm × Value)} {Bs : List AW} (h : okQ call E nt ops tr Bs = true) {i : Nat} {o : Oper} {p : Frm × Value} (ho : ops.toList[i]? = some o) (hp : tr[i]? = some p) (hq : quietOp E o.op = true) {k : Nat} {B : AW} (hB : Bs[k]? = some B)
    (hk : k ≠ cnt E ops.toList i) (hm : may E ops.toList i k = true) : ∃ B', stepA call E nt ops p.1 B o = some (p.2, B') := by
  unfold okQ at h
  rw [List.all_eq_true] at h
  have h1 := h i (List.mem_range.2 (List.getElem?_eq_some_iff.1 ho).1)
  rw [ho, hp] at h1
  simp only [hq, cond_true, List.all_eq_true] at h1
  have h2 := h1 k (List.mem_range.2 (List.getElem?_eq_some_iff.1 hB).1)
  have hb : Nat.beq k (cnt E ops.toList i) = false := by rw [Bool.eq_false_iff]; simpa using hk
  rw [hb, hm] at h2
  simp only [cond_true, cond_false] at h2
  split at h2
  · rename_i B2 hB2
    rw [hB] at hB2
    cases hB2
    split at h2
    · rename_i q hq2
      refine ⟨q.2, ?_⟩
      rw [hq2, ← veq_eq h2]
    · cases h2
  · cases h2

theorem may_of {listed : Array Bool} {k : Nat} (hS : OkS E ops) (hdown : ∀ (i : Nat) (o : Oper), ops.toList[i]? = some o → listed.getD i false = true → ∀ e ∈ o.after, Region.binds .any e = true → listed.getD e.on false = true)
    (hacts : ∀ (j : Nat) (o : Oper), ops.toList[j]? = some o → quietOp E o.op = false → (listed.getD j false = true ↔ cnt E ops.toList j < k)) {i : Nat} {o : Oper} (ho : ops.toList[i]? = some o) (hun : listed.getD i false = false)
    (hready : ∀ e ∈ o.after, Region.binds .any e = true → listed.getD e.on false = true) : may E ops.toList i k = true := by
  unfold may
  rw [List.all_eq_true]
  intro j hj
  obtain ⟨o', ho'⟩ : ∃ o', ops.toList[j]? = some o' := ⟨_, List.getElem?_eq_getElem (List.mem_range.1 hj)⟩
  rw [ho']
  simp only
  cases hq : quietOp E o'.op with
  | true => rfl
  | false =>
    have hin := mask_in (ops := ops.toList) (S := fun i => listed.getD i false = true) hdown hS.lt
    have hac := hacts j o' ho' hq
    simp only [cond_false, Bool.and_eq_true]
    constructor
    · cases hb : ((masks ops.toList []).getD i 0).testBit j with
      | false => rfl
      | true =>
        have := hac.1 (hin i o ho hready j hb)
        simp [Nat.blt]
        omega
    · cases hb : ((masks ops.toList []).getD j 0).testBit i with
      | false => rfl
      | true =>
        simp only [cond_true, Bool.not_eq_true']
        rw [Bool.eq_false_iff]
        intro hlt
        have hlt' : cnt E ops.toList j < k := by simp [Nat.blt] at hlt; omega
        have hl := hac.2 hlt'
        have := hin j o' ho' (hdown j o' ho' hl) i hb
        rw [hun] at this
        cases this

theorem trace_wf : ∀ (l : List Oper) (F : Frm) (A : AW) (tr : List (Frm × Value)) (G : Frm) (Bs : List AW), traceA call E nt ops l F A = some (tr, G, Bs) → G.tr = F.tr ∧ G.mask = F.mask
  | [], F, A, tr, G, Bs, h => by cases h; exact ⟨rfl, rfl⟩
  | o :: r, F, A, tr, G, Bs, h => by
    simp only [traceA, Option.bind_eq_some_iff] at h
    obtain ⟨⟨v, A'⟩, h1, H, h2, ⟨tr', G', Bs'⟩, h3, h⟩ := h
    simp only [Option.some.injEq, Prod.mk.injEq] at h
    obtain ⟨rfl, rfl, hBs⟩ := h
    obtain ⟨i1, i2⟩ := trace_wf r H A' tr' G' Bs' h3
    have : H.tr = F.tr ∧ H.mask = F.mask := by
      cases hd : o.dst with
      | none => rw [hd] at h2; cases h2; exact ⟨rfl, rfl⟩
      | some d =>
        rw [hd] at h2
        simp only [putF, Bool.cond_eq_ite] at h2
        split at h2
        · cases h2
        · cases h2; exact ⟨rfl, rfl⟩
    exact ⟨i1.trans this.1, i2.trans this.2⟩
theorem getD_true_false {l : Array Bool} {i : Nat} (h : i < l.size) : l.getD i true = l.getD i false := by
  simp [Array.getD_eq_getD_getElem?, Array.getElem?_eq_getElem h]

include hE hC
set_option maxHeartbeats 1000000 in
theorem any_ok {F0 : Frm} {A0 : AW} {tr : List (Frm × Value)} {G : Frm} {Bs : List AW} (htr : traceA call E nt ops ops.toList F0 A0 = some (tr, G, Bs)) (hS : OkS E ops) (hQ : okQ call E nt ops tr Bs = true) {σ0 : Sg} {w0 : World} {B : AW} (hB : lastA Bs = some B) (hGw : ∀ t v, G.tr.get t = some v → keepB G.mask t = true) {Q : Exit → Act → World → Prop}
    (hq : ∀ τ a' w', FR τ nt G a' → Sim σ0 A0 w0 τ B w' → Q .normal a' w') : ∀ (fuel : Nat) (listed : Array Bool) (k : Nat) (σ : Sg) (a : Act) (w : World), Mid (E := E) nt ops G Bs listed k σ a w → (∀ Bk, Bs[k]? = some Bk → Sim σ0 A0 w0 σ Bk w) →
    ((List.range ops.size).filter fun i => !listed.getD i true).length ≤ fuel → wpAny P .any ops Q fuel listed a w := by
  obtain ⟨t1, t2, t3, t4⟩ := trace_spec _ _ _ _ _ _ htr
  have hlen : ops.toList.length = ops.size := Array.length_toList
  -- all are listed where none is ready
  have full : ∀ (listed : Array Bool) (k : Nat) (σ : Sg) (a : Act) (w : World), Mid (E := E) nt ops G Bs listed k σ a w → (∀ Bk, Bs[k]? = some Bk → Sim σ0 A0 w0 σ Bk w) → Region.ready .any ops listed = [] → Q .normal a w := fun listed k σ a w hM hsim hr => by
    have hall : ∀ i, i < ops.size → listed.getD i false = true := fun i => by
      induction i using Nat.strongRecOn with
      | _ i ih =>
        intro hi
        cases hl : listed.getD i false with
        | true => rfl
        | false =>
          exfalso
          have ho : ops[i]? = some ops[i] := Array.getElem?_eq_getElem hi
          have : i ∈ Region.ready .any ops listed := mem_ready.2 ⟨by rw [getD_true_false (by rw [hM.size]; exact hi)]; exact hl, _, ho, fun e he hb => by
            have hlt := hS.lt i ops[i] (by simp) e he hb
            exact ih e.on hlt (by omega)⟩
          rw [hr] at this
          cases this
    obtain ⟨H, ⟨hH, hHg⟩, hget⟩ := hM.frame
    have hFG : FR σ nt G a := ⟨hH.size, fun t v hv => hH.val t v (by
      rw [hget t fun j o hj _ => hall j (by rw [← hlen]; exact (List.getElem?_eq_some_iff.1 hj).1)]
      exact hv), hH.defers, hGw, fun g hg => hH.glob g (by rw [hHg]; exact hg)⟩
    have hk : cnt E ops.toList ops.toList.length ≤ k := by
      rcases Nat.lt_or_ge k (cnt E ops.toList ops.toList.length) with h | h
      · obtain ⟨j, o, h1, h2, h3, h4⟩ := cnt_hit ops.toList _ k (Nat.le_refl _) h
        have := (hM.acts j o h2 h3).1 (hall j (by omega))
        omega
      · exact h
    obtain ⟨Bk, hBk, hW⟩ := hM.world
    have hlt : k < Bs.length := (List.getElem?_eq_some_iff.1 hBk).1
    have hl := lastA_of hB
    have : k = Bs.length - 1 := by omega
    rw [← this, hBk] at hl
    cases hl
    exact hq σ a w hFG (hsim _ hBk)
  intro fuel
  induction fuel with
  | zero =>
    intro listed k σ a w hM hsim hcount
    have hr : Region.ready .any ops listed = [] := by
      apply List.eq_nil_iff_forall_not_mem.2
      intro i hi
      obtain ⟨h1, o, h2, _⟩ := mem_ready.1 hi
      have hlt : i < ops.size := (Array.getElem?_eq_some_iff.1 h2).1
      have hz : ((List.range ops.size).filter fun i => !listed.getD i true) = [] := List.eq_nil_of_length_eq_zero (by omega)
      have : i ∈ ((List.range ops.size).filter fun i => !listed.getD i true) := List.mem_filter.2 ⟨List.mem_range.2 hlt, by simp only [h1, Bool.not_false]⟩
      rw [hz] at this
      cases this
    exact ⟨hr, full listed k σ a w hM hsim hr⟩
  | succ fuel ih =>
    intro listed k σ a w hM hsim hcount
    refine ⟨full listed k σ a w hM hsim, fun i hi => ?_⟩
    obtain ⟨h1, o, h2, h3⟩ := mem_ready.1 hi
    have hlt : i < ops.size := (Array.getElem?_eq_some_iff.1 h2).1
    have hlt2 : i < listed.size := by rw [hM.size]; exact hlt
    have ho : ops.toList[i]? = some o := by simpa using h2
    have hun : listed.getD i false = false := by rw [← getD_true_false hlt2]; exact h1
    obtain ⟨H, ⟨hH, hHg⟩, hget⟩ := hM.frame
    obtain ⟨Bk, hBk, hW⟩ := hM.world
    obtain ⟨Fi, vi, Bi, Bi', Gi, j1, j2, j3, j4, j5, j6, j7⟩ := t4 i o ho
    have hin := mask_in (ops := ops.toList) (S := fun i => listed.getD i false = true) hM.down hS.lt
    have hHF : ∀ t ∈ looks ops o, H.get t = Fi.get t := fun t ht => by
      rw [hget t fun j o' hj hd => hin i o ho h3 j (hS.look i j o o' ho hj t hd ht).2, j6 t fun j o' hij hj hd => by have := (hS.look i j o o' ho hj t hd ht).1; omega]
    have hHgm : H.gm = Fi.gm := by rw [hHg, (trace_gm _ _ _ _ _ _ htr).1, (trace_gm _ _ _ _ _ _ htr).2 i Fi vi j1]
    -- what it comes to here
    have hset : ∀ j d, (listed.setIfInBounds i true).getD j d = if i = j then true else listed.getD j d := fun j d => by
      by_cases hij : i = j
      · subst hij
        simp [Array.getD_eq_getD_getElem?, Array.getElem?_setIfInBounds, hlt2]
      · rw [if_neg hij]
        exact getD_set_ne d hij
    have main : ∀ (k' : Nat) (B2 : AW), stepA call E nt ops H Bk o = some (vi, B2) → Bs[k']? = some B2 → (∀ (j : Nat) (o' : Oper), ops.toList[j]? = some o' → quietOp E o'.op = false → ((listed.setIfInBounds i true).getD j false = true ↔ cnt E ops.toList j < k')) →
        wpOp P ops Q i (wpAny P .any ops Q fuel (listed.setIfInBounds i true)) a w := fun k' B2 hst hB2 hac => by
      unfold wpOp
      rw [h2]
      refine step_ok hE hC hst hW hH fun τ c w' hv hs => ?_
      have hput : ∃ H', putF nt H o.dst vi = some H' := by
        cases hd : o.dst with
        | none => exact ⟨H, rfl⟩
        | some d =>
          rw [hd] at j5
          simp only [putF, Bool.cond_eq_ite] at j5 ⊢
          split at j5
          · cases j5
          · rename_i hb; exact ⟨_, by rw [if_neg hb]⟩
      obtain ⟨H', hH'⟩ := hput
      have hsim' : Sim σ0 A0 w0 τ B2 w' := (hsim Bk hBk).trans hs
      refine ih (listed.setIfInBounds i true) k' τ (a.put o.dst c) w' ⟨by simp [hM.size], fun j o' hj hl e he hb => ?_, hac, ⟨H', ⟨(hH.mono hs.le).putF hv hH', (putF_gm hH').trans hHg⟩, fun t ht => ?_⟩, B2, hB2, hs.wr⟩ (fun Bk' hBk' => by rw [hB2] at hBk'; cases hBk'; exact hsim') ?_
      · rw [hset] at hl ⊢
        by_cases hie : i = e.on
        · rw [if_pos hie]
        · rw [if_neg hie]
          by_cases hij : i = j
          · subst hij
            rw [ho] at hj
            cases hj
            exact h3 e he hb
          · rw [if_neg hij] at hl
            exact hM.down j o' hj hl e he hb
      · rw [putF_get hH']
        by_cases hd : o.dst = some t
        · rw [if_pos hd, j7 t hd fun j o' hij hj hd' => hS.dst i j o o' ho hj (by omega) t hd hd']
        · rw [if_neg hd]
          refine hget t fun j o' hj hd' => ?_
          have := ht j o' hj hd'
          rw [hset] at this
          by_cases hij : i = j
          · subst hij
            rw [ho] at hj
            cases hj
            exact absurd hd' hd
          · rw [if_neg hij] at this
            exact this
      · have := filter_less (l := List.range ops.size) (p := fun i => !listed.getD i true) (q := fun j => !(listed.setIfInBounds i true).getD j true) (fun j hj => by
            rw [hset] at hj
            by_cases hij : i = j
            · rw [if_pos hij] at hj; cases hj
            · rw [if_neg hij] at hj; exact hj) (i := i) (List.mem_range.2 hlt) (by simp only [h1, Bool.not_false]) (by rw [hset, if_pos rfl]; rfl)
        omega
    cases hqo : quietOp E o.op with
    | true =>
      have hst : ∃ B', stepA call E nt ops Fi Bk o = some (vi, B') := by
        by_cases hk : k = cnt E ops.toList i
        · subst hk
          rw [hBk] at j2
          cases j2
          exact ⟨_, j3⟩
        · exact okQ_of hQ ho j1 hqo hBk hk (may_of hS hM.down hM.acts ho hun h3)
      obtain ⟨B', hst⟩ := hst
      have hsame := step_quiet hqo hst
      subst hsame
      rw [← stepA_congr hHgm hHF] at hst
      refine main k B' hst hBk fun j o' hj hq' => ?_
      rw [hset]
      by_cases hij : i = j
      · subst hij
        rw [ho] at hj
        cases hj
        rw [hqo] at hq'
        cases hq'
      · rw [if_neg hij]
        exact hM.acts j o' hj hq'
    | false =>
      have hcs := cnt_succ (E := E) ops.toList i o ho
      rw [hqo] at hcs
      simp only [cond_false] at hcs
      have hki : cnt E ops.toList i = k := by
        have hge : k ≤ cnt E ops.toList i := by
          rcases Nat.lt_or_ge (cnt E ops.toList i) k with h | h
          · have := (hM.acts i o ho hqo).2 h
            rw [hun] at this
            cases this
          · exact h
        rcases Nat.lt_or_ge k (cnt E ops.toList i) with h | h
        · obtain ⟨j, o', g1, g2, g3, g4⟩ := cnt_hit ops.toList i k (by omega) h
          have hb := hS.chain i j o o' ho g2 hqo g3 g1
          have := (hM.acts j o' g2 g3).1 (hin i o ho h3 j hb)
          omega
        · omega
      rw [hki] at j2
      rw [hBk] at j2
      cases j2
      rw [← stepA_congr hHgm hHF] at j3
      rw [hcs, hki] at j4
      refine main (k + 1) Bi' j3 j4 fun j o' hj hq' => ?_
      rw [hset]
      by_cases hij : i = j
      · subst hij
        rw [if_pos rfl]
        simp
        omega
      · rw [if_neg hij, hM.acts j o' hj hq']
        constructor
        · intro h; omega
        · intro h
          rcases Nat.lt_or_ge i j with hlt' | hlt'
          · have := cnt_mono (E := E) ops.toList (i + 1) j hlt' (Nat.le_of_lt (List.getElem?_eq_some_iff.1 hj).1)
            omega
          · have hji : j + 1 ≤ i := by omega
            have h5 := cnt_mono (E := E) ops.toList (j + 1) i hji (by omega)
            have h6 := cnt_succ (E := E) ops.toList j o' hj
            rw [hq'] at h6
            simp only [cond_false] at h6
            omega
theorem draw_ok {F G : Frm} {A A' : AW} (h : evalDraw call E nt ops F A = some (G, A')) {σ : Sg} {w : World} {a : Act} {id : Nat} (hW : WR σ A w) (hF : FR σ nt F a) {Q : Exit → Act → World → Prop}
    (hQ : ∀ τ a' w', FR τ nt G a' → Sim σ A w τ A' w' → Q .normal a' w') : (Code.region id ops true).wp P Q a w := by
  simp only [evalDraw, Bool.cond_eq_ite] at h
  split at h
  · rename_i hs
    simp only [Option.bind_eq_some_iff] at h
    obtain ⟨⟨tr, G', Bs⟩, htr, h⟩ := h
    split at h
    · rename_i hq
      simp only [Option.bind_eq_some_iff, Option.some.injEq, Prod.mk.injEq] at h
      obtain ⟨B, hB, rfl, rfl⟩ := h
      have hS := okS_of hs
      obtain ⟨t1, t2, t3, t4⟩ := trace_spec _ _ _ _ _ _ htr
      have hnone : ∀ j d, (Array.replicate ops.size false).getD j d = true → ops.size ≤ j := fun j d hj => by
        rcases Nat.lt_or_ge j ops.size with h | h
        · rw [Array.getD_eq_getD_getElem?, Array.getElem?_replicate, if_pos h] at hj
          cases hj
        · exact h
      have hd := Sim.drawn hW (w.drawn + 1)
      refine wp_region_any hE.mixed (any_ok hE hC htr hS hq hB (fun t v h => by have := trace_wf _ _ _ _ _ _ htr; rw [this.1] at h; rw [this.2]; exact hF.wf t v h) hQ ops.size _ 0 σ a _ ⟨by simp, fun i o ho hl => ?_, fun j o hj hqq => ?_, ⟨F, ⟨hF, (trace_gm _ _ _ _ _ _ htr).1.symm⟩, fun t ht => ?_⟩, A, t1, hd.wr⟩ (fun Bk hBk => by rw [t1] at hBk; cases hBk; exact hd) ?_)
      · have := hnone i _ hl
        have h2 := (List.getElem?_eq_some_iff.1 ho).1
        simp at h2
        omega
      · constructor
        · intro hl
          have := hnone j _ hl
          have h2 := (List.getElem?_eq_some_iff.1 hj).1
          simp at h2
          omega
        · intro hl; omega
      · refine (t3 t fun j o hj hdd => ?_).symm
        have := hnone j _ (ht j o hj hdd)
        have h2 := (List.getElem?_eq_some_iff.1 hj).1
        simp at h2
        omega
      · refine Nat.le_trans (List.length_filter_le _ _) (by simp)
    · cases h
  · cases h
end
end Go.Proofs.YtjphohhpnoobfaaDoor.Sx
