/- A reckoner of Go code: append, copy, len, min, max. No condition. -/
import Derived.Test.YtjphohhpnoobfaaDoorSx7
import Derived.Laws.AppendOwn
namespace Go.Proofs.YtjphohhpnoobfaaDoor.Sx
open Go Go.RowKit
set_option linter.unusedVariables false
set_option linter.unusedSimpArgs false
set_option linter.unusedSectionVars false
variable [Rho]

/-- How many elements, and their cells. -/
noncomputable def srcA (E : Env) (A : AW) (size tx : Nat) (x : Value) : Option (Nat × List Value) :=
  (E.ty tx).bind fun ti => match ti.desc, x with
    | .slice _, .slice none 0 _ => some (0, [])
    | .slice _, .slice (some a) n _ => (match n with
      | 0 => some (0, [])
      | n + 1 => match A.get a.block with
        | some (.cells s l) => bif Nat.ble (a.off + (n + 1) * size) l.length && l.all Value.oneCell' then some (n + 1, (l.drop a.off).take ((n + 1) * size)) else none
        | _ => none)
    | .string, .string s => bif Nat.beq size 1 then some ((lst s).length, (lst s).map fun b => Value.int .u8 b.toNat) else none
    | _, _ => none
noncomputable def slen : Value → Nat
  | .slice _ n _ => n
  | _ => 0
noncomputable def doAppend (E : Env) (A : AW) (t tx : Nat) (s x : Value) : Option (Value × AW) :=
  (E.ty t).bind fun ti => match ti.desc with
    | .slice e => (E.ty e).bind fun et => (zeroA et).bind fun z => (srcA E A et.size tx x).bind fun mx =>
      bif Nat.ble (slen s + mx.1) 4611686018427387904 && Nat.ble ((slen s + mx.1) * et.bytes) 140737488355328 && Nat.beq z.length et.size then
        (match s with
        | .slice none 0 _ => bif Nat.beq mx.1 0 then some (.slice none 0 0, A) else some (.slice (some ⟨A.n, 0, none⟩) mx.1 0, A.new (.cells et.size mx.2))
        | .slice (some a) n c => bif Nat.beq mx.1 0 then some (.slice (some a) n c, A) else
          bif Nat.beq c 0 then
            (match A.get a.block with
            | some (.cells s l) => bif Nat.beq s et.size && Nat.ble (a.off + n * et.size) l.length && l.all Value.oneCell' then some (.slice (some ⟨A.n, 0, none⟩) (n + mx.1) 0, (A.put a.block none).new (.cells et.size ((l.drop a.off).take (n * et.size) ++ mx.2))) else none
            | _ => none)
          else bif Nat.ble (n + mx.1) (c - 1) then
            (match A.get a.block with
            | some (.cells s l) => bif Nat.beq s et.size && Nat.ble (a.off + n * et.size + mx.2.length) l.length then some (.slice (some a) (n + mx.1) c, A.put a.block (some (.cells s (splice l (a.off + n * et.size) mx.2)))) else none
            | _ => none)
          else bif Nat.beq n 0 then some (.slice (some ⟨A.n, 0, none⟩) mx.1 0, A.new (.cells et.size mx.2)) else
            (match A.get a.block with
            | some (.cells s l) => bif Nat.ble (a.off + n * et.size) l.length && l.all Value.oneCell' then some (.slice (some ⟨A.n, 0, none⟩) (n + mx.1) 0, A.new (.cells et.size ((l.drop a.off).take (n * et.size) ++ mx.2))) else none
            | _ => none)
        | _ => none)
      else none
    | _ => none

section
variable {P : Program} {E : Env} (hE : EnvOK P E) {σ : Sg} {A : AW} {w : World} (hW : WR σ A w)
include hE hW
theorem src_ok {size tx m : Nat} {x x' : Value} {xs : List Value} (h : srcA E A size tx x = some (m, xs)) (hx : VR σ x x') : ∃ xs', Src P size tx x' m xs' w ∧ VRs σ xs xs' ∧ xs.length = m * size := by
  unfold srcA at h
  simp only [Option.bind_eq_some_iff] at h
  obtain ⟨ti, hti, h⟩ := h
  obtain ⟨hd, _⟩ := hE.ty tx ti hti
  split at h
  · rename_i e c he
    rw [he] at hd
    cases h
    obtain rfl : x' = .slice none 0 0 := by cases hx; rfl
    exact ⟨[], Src.ofNil w hd 0, VRs.nil σ, by simp⟩
  · rename_i e a n c he
    rw [he] at hd
    split at h
    · cases h
      cases hx with
      | slice hp hn hc hz => exact ⟨[], Src.ofSlice w hd _ 0 _ [] (by simp) (fun j u hu => by simp at hu) (fun u hu => by cases hu), VRs.nil σ, by simp⟩
      | none_ hc => exact ⟨[], Src.ofSlice w hd _ 0 _ [] (by simp) (fun j u hu => by simp at hu) (fun u hu => by cases hu), VRs.nil σ, by simp⟩
    · rename_i n
      split at h
      · rename_i s l hg
        rw [Bool.cond_eq_ite] at h
        split at h
        · rename_i hle
          simp only [Bool.and_eq_true, Nat.ble_eq] at hle
          cases h
          cases hx with
          | slice hp hn hc hz =>
            rename_i i p o c'
            obtain ⟨h1, C, e2, h2, h3, l', h4, h5, hr, ht⟩ := hW.read hg hp
            have hl2 := (h4.drop o).take ((n + 1) * size)
            have hlen : ((l.drop o).take ((n + 1) * size)).length = (n + 1) * size := by have := hle.1; simp at this ⊢; omega
            refine ⟨(l'.drop o).take ((n + 1) * size), Src.ofSlice w hd _ (n + 1) _ _ (by rw [← hl2.1, hlen]) (fun j u hu => ?_) ?_, hl2, hlen⟩
            · rw [List.getElem?_take] at hu
              split at hu
              · rw [List.getElem?_drop] at hu
                rw [Addr.add_lit, Nat.add_assoc]
                exact hr (o + j) u hu
              · cases hu
            · exact fun u hu => h4.ones hle.2 u (List.mem_of_mem_drop (List.mem_of_mem_take hu))
        · cases h
      · cases h
  · rename_i s he
    rw [he] at hd
    rw [Bool.cond_eq_ite] at h
    split at h
    · rename_i hsz
      have : size = 1 := by simpa using hsz
      subst this
      cases h
      obtain rfl := hx.str_inv
      have e1 : (lst s).length = s.size := Array.length_toList
      have hb : ((lst s).map fun b => Value.int .u8 b.toNat).all base = true := by rw [List.all_map]; exact List.all_eq_true.2 fun _ _ => rfl
      refine ⟨byteCells s, by rw [e1]; exact Src.ofString w hd s, base_VRs σ hb, by simp⟩
    · cases h
  · cases h
theorem grow_fresh {A0 : AW} {σ : Sg} (hW0 : WR σ A0 w) {t tx ty e m n : Nat} {et : TyI} {z : Value} {zl : List Value} {b' : Option Addr} {c' : Nat} {olds olds' xs xs' : List Value} {x' : Value} (ht : P.underlying t = some (.slice e)) (het : E.ty e = some et)
    (hz : et.zero = some z) (hzc : z.cells.toList = zl) (hzb : zl.all base = true) (hzs : zl.length = et.size) (hs : Src P et.size tx x' m xs' w) (hxs : VRs σ xs xs') (hos : VRs σ olds olds')
    (hol : olds.length = n * et.size) (hold : (Builtin.firstCells et.size n (.slice b' n c')).run P w.drew = .ok olds'.toArray w.drew) (hg : c' < n + m) (hb1 : n + m ≤ 4611686018427387904) (hb2 : (n + m) * et.bytes ≤ 140737488355328) :
    ∃ r' τ w', (Builtin.append_ #[t, tx] ty #[.slice b' n c', x']).run P w = .ok r' w' ∧ VR τ (.slice (some ⟨A0.n, 0, none⟩) (n + m) 0) r' ∧ Sim σ A0 w τ (A0.new (.cells et.size (olds ++ xs))) w' := by
  obtain ⟨_, ie, hie, hsz, hby, hz3, _⟩ := hE.ty e et het
  have hr := run_append_grow_src (P := P) w t tx ty e ie z ht hie (hz3.trans hz) b' n c' olds' (by rw [hsz]; exact hold) x' m xs' (by rw [hsz]; exact hs) hg (by omega) (growslice_fits hg (by rw [hby]; exact hb2))
  generalize hcap : grownCap w (n + m) c' e = cap at hr
  have hge : n + m ≤ cap := by rw [← hcap]; exact grownCap_ge w (n + m) c' e
  have hzsz : z.cells.size = et.size := by have : z.cells.toList.length = zl.length := by rw [hzc]
                                           simp at this; omega
  have hd := hW0.drew
  have hsim := Sim.row (w := w.drew) hd et.size (olds ++ xs) ((olds' ++ xs').toArray ++ Builtin.zeroCells z.cells (cap - (n + m))) e (hos.append hxs) (fun j y hy => by
    have hlt := (List.getElem?_eq_some_iff.1 hy).1
    rw [Array.getElem?_append_left (by simpa using hlt)]
    simpa using hy)
  have hx1 := hxs.1
  have ho1 := hos.1
  have hsl := hs.newsLen
  refine ⟨_, _, _, hr, VR.slice (i := A0.n) (p := ⟨w.heap.size, 0, _, et.size⟩) (o := 0) (by simp [Sg.set]; rfl) hge (.inl rfl) ?_, (Sim.drawn hW0 (w.drawn + 1)).trans hsim⟩
  have hzl : (Builtin.zeroCells z.cells (cap - (n + m))).size = (cap - (n + m)) * et.size := by simp [Builtin.zeroCells, hzsz]
  show 0 + 0 + cap * et.size ≤ _
  simp only [Array.size_append, List.size_toArray, List.length_append, hzl]
  have e3 : n * et.size + m * et.size + (cap - (n + m)) * et.size = cap * et.size := by rw [← Nat.add_mul, ← Nat.add_mul]; congr 1; omega
  omega
theorem append_ok {t tx ty : Nat} {s x s' x' r : Value} {A' : AW} (h : doAppend E A t tx s x = some (r, A')) (hs : VR σ s s') (hx : VR σ x x') :
    ∃ r' τ w', (Builtin.append_ #[t, tx] ty #[s', x']).run P w = .ok r' w' ∧ VR τ r r' ∧ Sim σ A w τ A' w' := by
  unfold doAppend at h
  simp only [Option.bind_eq_some_iff] at h
  obtain ⟨ti, hti, h⟩ := h
  obtain ⟨hd, _⟩ := hE.ty t ti hti
  split at h
  · rename_i e he
    rw [he] at hd
    simp only [Option.bind_eq_some_iff] at h
    obtain ⟨et, het, zl, hzl, ⟨m, xs⟩, hsrc, h⟩ := h
    obtain ⟨_, ie, hie, hsz, hby, hz3, _⟩ := hE.ty e et het
    obtain ⟨z, hz, hzc, hzb⟩ := zeroA_of hE hzl
    obtain ⟨xs', hS, hxs, hxl⟩ := src_ok hE hW hsrc hx
    rw [Bool.cond_eq_ite] at h
    split at h
    · rename_i hle
      simp only [Bool.and_eq_true, Nat.ble_eq, Nat.beq_eq] at hle
      obtain ⟨⟨hb1, hb2⟩, hzs⟩ := hle
      have zero : m = 0 → ∀ (a' : Option Addr) (n c' : Nat), n ≤ c' → (Builtin.append_ #[t, tx] ty #[.slice a' n c', x']).run P w = .ok (.slice a' n c') w := fun hm a' n c' hn => by
        subst hm
        have hnil : xs' = [] := List.eq_nil_of_length_eq_zero (by have := hS.newsLen; simpa using this)
        subst hnil
        have hc := hS.cells
        rcases hS.kind with ⟨e', hk⟩ | hk <;> cases a' <;> simp [Builtin.append_, run_underlying hd, run_underlying hk, sizeOf, typeInfo, hie, hsz, hS.len, hn, hc, storeCells]
      split at h
      · obtain rfl : s' = .slice none 0 0 := by cases hs; rfl
        simp only [slen] at hb1 hb2
        rw [Bool.cond_eq_ite] at h
        split at h
        · rename_i hm
          cases h
          exact ⟨_, σ, w, zero (by simpa using hm) none 0 0 (Nat.le_refl _), .nils _, .refl hW⟩
        · rename_i hm
          have hm' : m ≠ 0 := by simpa using hm
          cases h
          have := grow_fresh hE hW hW (ty := ty) (olds := []) (olds' := []) (n := 0) (b' := none) (c' := 0) hd het hz hzc hzb hzs hS hxs (VRs.nil σ) (by simp) (by simp [Builtin.firstCells]) (by omega) hb1 hb2
          simpa using this
      · rename_i a n c
        simp only [slen] at hb1 hb2
        rw [Bool.cond_eq_ite] at h
        split at h
        · rename_i hm
          cases h
          have hm' : m = 0 := by simpa using hm
          cases hs with
          | slice hp hn hc hzz => exact ⟨_, σ, w, zero hm' _ n _ hn, .slice hp hn hc hzz, .refl hW⟩
          | none_ hc => exact ⟨_, σ, w, zero hm' _ 0 0 (Nat.le_refl _), .none_ hc, .refl hW⟩
        · rename_i hm
          have hm' : m ≠ 0 := by simpa using hm
          rw [Bool.cond_eq_ite] at h
          -- the cells of what is there
          have old : ∀ (s0 : Nat) (l : List Value), A.get a.block = some (.cells s0 l) → a.off + n * et.size ≤ l.length → l.all Value.oneCell' = true → ∀ (a' : Addr) (c' : Nat), s' = .slice (some a') n c' →
              ∃ olds', (Builtin.firstCells et.size n (.slice (some a') n c')).run P w.drew = .ok olds'.toArray w.drew ∧ VRs σ ((l.drop a.off).take (n * et.size)) olds' := fun s0 l hg hlen hone a' c' hs' => by
            subst hs'
            cases hs with
            | none_ hc => exact ⟨[], by simpa using run_firstCells_some w.drew et.size 0 a' 0 0 [] (by simp) (fun j v hj => by simp at hj), by simpa using VRs.nil σ⟩
            | slice hp hn hc hzz =>
              rename_i i p o
              obtain ⟨h1, C, e2, h2, h3, l', h4, h5, hr, ht⟩ := hW.read hg hp
              have hl2 := (h4.drop o).take (n * et.size)
              refine ⟨(l'.drop o).take (n * et.size), run_firstCells_some w.drew et.size n _ n c' _ ?_ (fun j u hu => ?_), hl2⟩
              · rw [← hl2.1]; simp at hlen ⊢; omega
              · rw [List.getElem?_take] at hu
                split at hu
                · rw [List.getElem?_drop] at hu
                  have := hr (o + j) u hu
                  rw [Addr.add_lit, Nat.add_assoc]
                  exact this
                · cases hu
          split at h
          · rename_i hc0
            have hc0' : c = 0 := by simpa using hc0
            subst hc0'
            split at h
            · rename_i s0 l hg
              rw [Bool.cond_eq_ite] at h
              split at h
              · rename_i hb
                simp only [Bool.and_eq_true, Nat.ble_eq, Nat.beq_eq] at hb
                obtain ⟨⟨hs0, hlen⟩, hone⟩ := hb
                subst hs0
                cases h
                have grow : ∀ (a' : Addr) (c' : Nat), s' = .slice (some a') n c' → c' < n + m → ∃ r' τ w', (Builtin.append_ #[t, tx] ty #[s', x']).run P w = .ok r' w' ∧ VR τ (.slice (some ⟨A.n, 0, none⟩) (n + m) 0) r' ∧
                    Sim σ A w τ ((A.put a.block none).new (.cells et.size ((l.drop a.off).take (n * et.size) ++ xs))) w' := fun a' c' hs' hlt => by
                  obtain ⟨olds', ho1, ho2⟩ := old _ _ hg hlen hone a' c' hs'
                  have hdr := Sim.drop hW a.block
                  obtain ⟨r', τ, w', g1, g2, g3⟩ := grow_fresh hE hW hdr.wr (ty := ty) hd het hz hzc hzb hzs hS hxs ho2 (by simp; omega) ho1 hlt hb1 hb2
                  exact ⟨r', τ, w', by rw [hs']; exact g1, g2, hdr.trans g3⟩
                cases hs with
                | none_ hc => exact grow _ 0 rfl (by omega)
                | slice hp hn hc hzz =>
                  rename_i i p o c'
                  rcases Nat.lt_or_ge c' (n + m) with hlt | hroom
                  · exact grow _ c' rfl hlt
                  · obtain ⟨h1, C, e2, ⟨fr0, h2, h6⟩, h3, l', h4, h5, hr, ht⟩ := hW.read hg hp
                    rw [h6] at h2
                    have hmul := Nat.mul_le_mul_right et.size hroom
                    rw [Nat.add_mul] at hmul
                    rw [h1] at hzz
                    have hin : p.off + o + n * et.size + xs.length ≤ p.sz := by omega
                    have hx1 := hxs.1
                    have hlive : ∀ j, j < xs'.length → w.cell? ⟨p.blk, p.off + o + n * ie.size + j, none⟩ = C[p.off + o + n * ie.size + j]? := fun j hj => by
                      unfold World.cell?
                      rw [h2]
                      rfl
                    have hrun := run_append_room_src (P := P) w t tx ty e ie hd hie p.blk (p.off + o) n c' x' m xs' (by rw [hsz]; exact hS) hroom
                      (fun j hj => by rw [hlive j hj, Array.getElem?_eq_getElem (by rw [hsz]; omega)]; rfl) (fun j hj => by unfold World.frozen?; rw [h2]; simp)
                    rw [hsz] at hrun
                    refine ⟨_, _, _, hrun, VR.slice (i := A.n) (p := ⟨p.blk, p.off + o, p.sz, p.es⟩) (o := 0) (by simp [Sg.set]) (by omega) (.inl rfl) ?_, Sim.grow hW hg hp hxs hlen hin⟩
                    show p.off + o + 0 + c' * p.es ≤ p.sz
                    rw [h1]
                    omega
              · cases h
            · cases h
          · rename_i hc0
            have hc0' : c ≠ 0 := by simpa using hc0
            rw [Bool.cond_eq_ite] at h
            split at h
            · rename_i hroom
              have hroom' : n + m ≤ c - 1 := by simpa using hroom
              split at h
              · rename_i s0 l hg
                rw [Bool.cond_eq_ite] at h
                split at h
                · rename_i hb
                  simp only [Bool.and_eq_true, Nat.ble_eq, Nat.beq_eq] at hb
                  obtain ⟨hs0, hlen⟩ := hb
                  subst hs0
                  cases h
                  cases hs with
                  | none_ hc => omega
                  | slice hp hn hc hzz =>
                    rename_i i p o c'
                    obtain ⟨h1, C, e2, h2, h3, l', h4, h5, hr, ht⟩ := hW.read hg hp
                    have hx1 := hxs.1
                    have hl1 := h4.1
                    simp only at hlen
                    have hrun := run_append_room_src (P := P) w t tx ty e ie hd hie p.blk (p.off + o) n c' x' m xs' (by rw [hsz]; exact hS) (by omega)
                      (fun j hj => by rw [hsz]; have := (ht (o + n * et.size + j) (by omega)).1; simpa [Nat.add_assoc] using this) (fun j hj => by rw [hsz]; have := (ht (o + n * et.size + j) (by omega)).2; simpa [Nat.add_assoc] using this)
                    rw [hsz, Nat.add_assoc] at hrun
                    refine ⟨_, _, _, hrun, .slice hp (by omega) hc hzz, Sim.store hW hg hp (o := o + n * et.size) hxs (by omega)⟩
                · cases h
              · cases h
            · rename_i hroom
              have hroom' : ¬ n + m ≤ c - 1 := by simpa using hroom
              rw [Bool.cond_eq_ite] at h
              split at h
              · rename_i hn0
                have hn0' : n = 0 := by simpa using hn0
                subst hn0'
                cases h
                cases hs with
                | none_ hc =>
                  have := grow_fresh hE hW hW (ty := ty) (olds := []) (olds' := []) (n := 0) (b' := some ‹_›) (c' := 0) hd het hz hzc hzb hzs hS hxs (VRs.nil σ) (by simp) (by simpa using run_firstCells_some w.drew et.size 0 _ 0 0 [] (by simp) (fun j v hj => by simp at hj)) (by omega) hb1 hb2
                  simpa using this
                | slice hp hn hc hzz =>
                  rename_i i p o c'
                  have := grow_fresh hE hW hW (ty := ty) (olds := []) (olds' := []) (n := 0) (b' := some ⟨p.blk, p.off + o, none⟩) (c' := c') hd het hz hzc hzb hzs hS hxs (VRs.nil σ) (by simp) (by simpa using run_firstCells_some w.drew et.size 0 _ 0 c' [] (by simp) (fun j v hj => by simp at hj)) (by omega) hb1 hb2
                  simpa using this
              · split at h
                · rename_i s0 l hg
                  rw [Bool.cond_eq_ite] at h
                  split at h
                  · rename_i hb
                    simp only [Bool.and_eq_true, Nat.ble_eq] at hb
                    obtain ⟨hlen, hone⟩ := hb
                    cases h
                    have grow : ∀ (a' : Addr) (c' : Nat), s' = .slice (some a') n c' → c' < n + m → ∃ r' τ w', (Builtin.append_ #[t, tx] ty #[s', x']).run P w = .ok r' w' ∧ VR τ (.slice (some ⟨A.n, 0, none⟩) (n + m) 0) r' ∧
                        Sim σ A w τ (A.new (.cells et.size ((l.drop a.off).take (n * et.size) ++ xs))) w' := fun a' c' hs' hlt => by
                      obtain ⟨olds', ho1, ho2⟩ := old _ _ hg hlen hone a' c' hs'
                      obtain ⟨r', τ, w', g1, g2, g3⟩ := grow_fresh hE hW hW (ty := ty) hd het hz hzc hzb hzs hS hxs ho2 (by simp; omega) ho1 hlt hb1 hb2
                      exact ⟨r', τ, w', by rw [hs']; exact g1, g2, g3⟩
                    cases hs with
                    | none_ hc => exact grow _ 0 rfl (by omega)
                    | slice hp hn hc hzz => exact grow _ _ rfl (by omega)
                  · cases h
                · cases h
      · cases h
    · cases h
  · cases h
end
end Go.Proofs.YtjphohhpnoobfaaDoor.Sx
