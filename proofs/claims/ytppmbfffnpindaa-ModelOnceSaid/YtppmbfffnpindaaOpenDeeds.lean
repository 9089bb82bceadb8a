/- A slice of deeds, opened to its cells. No condition. -/
import Derived.Test.YtppmbfffnpindaaOpen
import Derived.Test.YtppmbfffnpindaaModelOnceW
namespace Go.Proofs.Ytppmbfffnpindaa
open Go.RowKit Go.ChangeShapes Go.WideShapes Go.Deep
set_option linter.unusedVariables false
set_option linter.unusedSimpArgs false
section
variable {H : Type} {enc : TypeId × Value → H} {P : Program} {w : World} {base : Nat} {held : Bool} {spare : Nat → Bool}
theorem fields_of {e : TypeId} {fs : Array Field} {fuel : Nat} {cs : List Value} {x : DataW H × List MemPlace} (he : P.underlying e = some (.struct fs)) (hone : oneCellFields P fs = true) (hlen : cs.length = fs.size)
    (h : DataW.trod enc P w base spare held fuel e cs = some x) : ∃ n, ∀ (j : Nat) (f : Field), fs[j]? = some f → ∃ v y, cs[j]? = some v ∧ DataW.trod enc P w base spare held n f.type [v] = some y := by
  obtain ⟨ys, n', hn', hy, hl, hyl, hf⟩ := DataW.trod_struct he h
  refine ⟨n', fun j f hj => ?_⟩
  obtain ⟨ho, hk⟩ := hone_of hone j f hj
  have hjl : j < fs.size := (Array.getElem?_eq_some_iff.1 hj).1
  have h1 := hf j f hj
  rw [ho, hk] at h1
  have hone' : (cs.drop j).take 1 = [cs[j]'(by omega)] := by
    rw [List.drop_eq_getElem_cons (by omega)]
    rfl
  rw [hone'] at h1
  have hys : ys[j]? = some (ys[j]'(by omega)) := List.getElem?_eq_getElem (by omega)
  exact ⟨_, _, List.getElem?_eq_getElem (by omega), h1.trans hys⟩
theorem trod_len {e : TypeId} {fs : Array Field} {fuel : Nat} {cs : List Value} {x : DataW H × List MemPlace} (he : P.underlying e = some (.struct fs)) (h : DataW.trod enc P w base spare held fuel e cs = some x) : cs.length = P.cellsOf e := by
  obtain ⟨ys, n', hn', hy, hl, hyl, hf⟩ := DataW.trod_struct he h
  exact hl
end
def Deed.cells (d : Deed) : List Value := [.int .i64 d.kind, .int .i64 d.task, .int .i64 d.epoch, .string d.worker, .int .i64 d.until_]
section
variable {H : Type} {enc : TypeId × Value → H} {w : World} {base : Nat} {held : Bool}
theorem deed_of {fuel : Nat} {cs : List Value} {x : DataW H × List MemPlace} (h : DataW.trod enc Try.prog w base (fun _ => true) held fuel 44 cs = some x) : ∃ d : Deed, cs = d.cells := by
  have hlen := trod_len Try.underlying44 h
  have hc : Try.prog.cellsOf 44 = 5 := by kernel_rfl
  rw [hc] at hlen
  obtain ⟨n, hf⟩ := fields_of Try.underlying44 (by kernel_rfl) (by rw [hlen]; rfl) h
  match cs, hlen with
  | [c0, c1, c2, c3, c4], _ =>
    obtain ⟨v0, y0, e0, t0⟩ := hf 0 _ rfl
    obtain ⟨v1, y1, e1, t1⟩ := hf 1 _ rfl
    obtain ⟨v2, y2, e2, t2⟩ := hf 2 _ rfl
    obtain ⟨v3, y3, e3, t3⟩ := hf 3 _ rfl
    obtain ⟨v4, y4, e4, t4⟩ := hf 4 _ rfl
    obtain ⟨z0, r0, _⟩ := DataW.trod_int Try.underlying3 t0
    obtain ⟨z1, r1, _⟩ := DataW.trod_int Try.underlying3 t1
    obtain ⟨z2, r2, _⟩ := DataW.trod_int Try.underlying3 t2
    obtain ⟨z3, r3, _⟩ := DataW.trod_string Try.underlying9 t3
    obtain ⟨z4, r4, _⟩ := DataW.trod_int Try.underlying2 t4
    simp at e0 e1 e2 e3 e4 r0 r1 r2 r3 r4
    exact ⟨⟨z0, z1, z2, z3, z4⟩, by simp [Deed.cells, e0, e1, e2, e3, e4, r0, r1, r2, r3, r4]⟩

theorem open_deeds {v : Value} {d : DataW H} {p : List MemPlace} {r : Reach} {b0 : Nat} (hv : Value.okWide Try.prog w r b0 37 v)
    (h : DataW.Trod enc Try.prog w base (fun _ => true) held 37 v d p) :
    ∃ A n c, v = .slice A n c ∧ n ≤ 9223372036854775807 ∧ ∃ D : Nat → Deed, RowsAt w A n 5 (fun i => (D i).cells) := by
  obtain ⟨A, n, c, rfl, hn, R, hR, hx⟩ := open_rows Try.underlying37 (sz := 5) (by kernel_rfl) (by omega) hv h
  obtain ⟨D, hD⟩ := rows_choose (α := Deed) ⟨0, 0, 0, ⟨#[]⟩, 0⟩ (fun i hi => by
    obtain ⟨fuel, x, hx⟩ := hx i hi
    exact deed_of hx)
  refine ⟨A, n, c, rfl, hn, D, ⟨?_⟩⟩
  rcases hR.at_ with h0 | ⟨bl, off, h1, h2, h3⟩
  · exact .inl h0
  · exact .inr ⟨bl, off, h1, h2, fun i hi j u hu => h3 i hi j u (by rw [hD i hi]; exact hu)⟩
theorem RowsAt.deeds {A : Option Addr} {n : Nat} {D : Nat → Deed} (h : RowsAt w A n 5 (fun i => (D i).cells)) : n = 0 ∨ ∃ bl off, A = some ⟨bl, off, none⟩ ∧ DeedsAt w bl off n D := by
  rcases h.at_ with h0 | ⟨bl, off, h1, h2, h3⟩
  · exact .inl h0
  · exact .inr ⟨bl, off, h1, h2, fun k hk => ⟨h3 k hk 0 _ rfl, h3 k hk 1 _ rfl, h3 k hk 2 _ rfl, h3 k hk 3 _ rfl, h3 k hk 4 _ rfl⟩⟩
theorem RowsAt.ints {A : Option Addr} {n : Nat} {Z : Nat → Int} (h : RowsAt w A n 1 (fun i => [.int .i64 (Z i)])) : n = 0 ∨ ∃ bl off, A = some ⟨bl, off, none⟩ ∧ IntsAt w bl off n Z := by
  rcases h.at_ with h0 | ⟨bl, off, h1, h2, h3⟩
  · exact .inl h0
  · exact .inr ⟨bl, off, h1, h2, fun k hk => by have := h3 k hk 0 _ rfl; simpa using this⟩
end

set_option maxRecDepth 100000 in
set_option maxHeartbeats 1000000 in
theorem onceLaw_out (A At : Option Addr) (nl cl nt ct : Nat) (w : World) (h : 80 < nl ∨ nl ≤ 80 ∧ nt < nl) (hnl : nl ≤ 9223372036854775807) (hnt : nt ≤ 9223372036854775807) :
    Calls Try.prog 5 #[.slice A nl cl, .slice At nt ct] w fun e w' => e = .returned (.bool true) ∧ Ex w w' := by
  rcases h with h | ⟨h1, h2⟩
  all_goals
    go_enter Try.func5, Try.ntmps5
    go_wp2_with fail
    refine (mfirst_any _).mono ?_
    rintro e w1 ⟨rfl, hb⟩; obtain ⟨g0, n0, rfl⟩ := hb.ext; clear hb
    go_wp2_with fail
    go_ret
    exact ⟨rfl, Ex.of_ext _ _ _⟩
set_option maxRecDepth 100000 in
set_option maxHeartbeats 1000000 in
theorem onceLaw_zero (A At : Option Addr) (cl nt ct : Nat) (w : World) (hnt : nt ≤ 9223372036854775807) :
    Calls Try.prog 5 #[.slice A 0 cl, .slice At nt ct] w fun e w' => e = .returned (.bool true) ∧ Ex w w' := by
  go_enter Try.func5, Try.ntmps5
  go_wp2_with fail
  refine (mfirst_any _).mono ?_
  rintro e w1 ⟨rfl, hb⟩; obtain ⟨g0, n0, rfl⟩ := hb.ext; clear hb
  go_wp2_with fail
  refine wp_loop_rounds 1 ?_
  rw [rounds_succ]
  go_wp2_with fail
  go_ret
  exact ⟨rfl, ((Ex.refl _).more _ _).alloc _⟩
theorem onceLaw_any (A : Option Addr) (nl cl : Nat) (D : Nat → Deed) (At : Option Addr) (nt ct : Nat) (Z : Nat → Int) (w : World) (hnl : nl ≤ 9223372036854775807)
    (hD : RowsAt w A nl 5 (fun i => (D i).cells)) (hnt : nt ≤ 9223372036854775807) (hZ : RowsAt w At nt 1 (fun i => [.int .i64 (Z i)])) :
    Calls Try.prog 5 #[.slice A nl cl, .slice At nt ct] w fun e w' => e = .returned (.bool true) ∧ Ex w w' := by
  by_cases h : 80 < nl ∨ nl ≤ 80 ∧ nt < nl
  · exact onceLaw_out A At nl cl nt ct w h hnl hnt
  · rcases hD.deeds with rfl | ⟨bl, off, rfl, hD2⟩
    · exact onceLaw_zero A At cl nt ct w hnt
    · rcases hZ.ints with rfl | ⟨bt, ot, rfl, hZ2⟩
      · have : nl = 0 := by omega
        subst this
        exact onceLaw_zero _ _ _ _ _ w hnt
      · exact onceLaw_some bl off nl cl bt ot nt ct D Z w hD2 hZ2 (by omega) (by omega) hnt
end Go.Proofs.Ytppmbfffnpindaa
