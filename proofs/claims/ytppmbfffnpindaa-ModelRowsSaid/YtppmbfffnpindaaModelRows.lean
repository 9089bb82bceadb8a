/- The walk of the law ModelRows: for every input the call returns true. No condition. -/
import Derived.Test.YtppmbfffnpindaaModelE
import Derived.Test.YtppmbfffnpindaaOpen
namespace Go.Proofs.Ytppmbfffnpindaa
open Go.RowKit
set_option linter.unusedVariables false
set_option linter.unusedSimpArgs false
attribute [local go_sem] ext_size ext_drew cell_ext_if frozen_ext_if set_ext_if
attribute [local go_sem low] cell_alloc_if frozen_alloc_if set_alloc_if

set_option maxRecDepth 100000 in
set_option maxHeartbeats 4000000 in
theorem rowsLaw_in (id : Int) (A : Option Addr) (nl cl : Nat) (D : Nat → Int) (At : Option Addr) (nt ct : Nat) (Z : Nat → Bool) (w : World) (hl : RowsAt w A nl 1 (fun i => [.int .i64 (D i)])) (ht : RowsAt w At nt 1 (fun i => [.bool (Z i)])) (hnl : nl ≤ 12) (hnt : nl ≤ nt) (hct : nt ≤ 9223372036854775807) :
    Calls Try.prog 6 #[.int .i64 id, .slice A nl cl, .slice At nt ct] w fun e w' => e = .returned (.bool true) ∧ Ex w w' := by
  have HL := Lib.hid hl.at_
  have HT := Lib.hid ht.at_
  clear hl ht
  have hd1 : decide ((12 : Int) < (nl : Int)) = false := by simp; omega
  have hd2 : decide (nt < nl) = false := by simp; omega
  go_enter Try.func6, Try.ntmps6
  go_wp2_with fail
  refine (mfirst_any _).mono ?_
  rintro e w1 ⟨rfl, hb⟩; obtain ⟨g0, n0, rfl⟩ := hb.ext; clear hb
  go_wp2_with fail
  have hnew := MSt.new (w.ext g0 n0) w.heap.size (by rw [ext_size]; omega)
  rw [ext_size] at hnew
  refine (do_is w.heap.size (w.heap.size + g0.size) [] 0 ⟨_, _, _, _, _⟩ _ hnew ([(id, mzero)], true) (by simp [doF, mget, mput])).mono ?_
  rintro e w2 ⟨rfl, hst, hfr⟩
  have HEX := Lib.hid ((((Ex.refl w).more g0 n0).alloc _).of_dofr hfr)
  have HST := Lib.hid hst
  clear hst hfr hnew
  go_wp2_with fail
  refine (do_is w.heap.size (w.heap.size + g0.size) _ 0 ⟨_, _, _, _, _⟩ _ HST.out ([(id, mzero)], false) (by simp [doF, mget])).mono ?_
  rintro e w3 ⟨rfl, hst, hfr⟩
  have HEX2 := Lib.hid (HEX.out.of_dofr hfr)
  have HST2 := Lib.hid hst
  clear hst hfr HEX HST
  go_wp2_with fail
  go_loopw [9, 10] (fun x i wr => ∃ (k : Nat) (X : Int) (T : MTask), i = .int .i64 k ∧ x = .int .i64 X ∧ k ≤ nl ∧ 0 ≤ X ∧ X ≤ 52 * k ∧ T.gone = false ∧ Hid (T.epoch = k) ∧ (T.held = true → T.until_ ≤ X) ∧ MSt wr w.heap.size (w.heap.size + g0.size) [(id, T)] ∧ Ex w wr) (fun _ i _ => nl - (intOf i).toNat)
  case atStart => exact ⟨0, 0, mzero, rfl, rfl, Nat.zero_le _, by omega, by omega, rfl, rfl, (fun h => by cases h), HST2.out, HEX2.out⟩
  case round =>
    obtain ⟨k, X, T, rfl, rfl, hk, hX0, hX1, hg, hep, hun, hst, hex⟩ := hrel
    by_cases hlt : k < nl
    · obtain ⟨bl, ol, rfl, hbl, hl⟩ := HL.out.resolve_left (by omega)
      obtain ⟨bt, ot, rfl, hbt, ht⟩ := HT.out.resolve_left (by omega)
      have c0 := hl k hlt 0 _ rfl
      have ct0 := ht k (by omega) 0 _ rfl
      rw [Nat.mul_one, Nat.add_zero] at c0 ct0
      clear hl ht
      rw [← hex.cells.1 _ _ hbl] at c0
      generalize D k = z at *
      generalize hZ : Z k = lv at *
      have CT := Lib.hid ct0
      have HST := Lib.hid hst
      have HEX := Lib.hid hex
      have hz := hex.size
      have hm1 := Int.tmod_lt_of_pos z (b := 50) (by omega)
      have hm2 : -50 < z.tmod 50 := by have := Int.tmod_lt_of_pos (-z) (b := 50) (by omega); rw [Int.neg_tmod] at this; omega
      clear hst hex ct0 hZ HST2 HEX2
      have HG := Lib.hid hg
      have HU := Lib.hid hun
      clear hg hun
      obtain ⟨tg, th, tw, te, tu⟩ := T
      have e1 := HG.out
      have e2 := hep.out
      simp only at e1 e2
      subst e1 e2
      simp only at HU
      clear HG hep
      rcases Nat.mod_two_eq_zero_or_one k with hk2 | hk2
      · have h2 : (k : Int) % 2 = 0 := by omega
        go_wp2_with fail
        have hN : 2 ≤ 2 + z.tmod 50 % 50 ∧ 2 + z.tmod 50 % 50 ≤ 51 := by omega
        generalize 2 + z.tmod 50 % 50 = N at hN ⊢
        have HS0 := Lib.hid (HST.out.ex (((Ex.refl _).alloc (.cells #[.string ⟨#[97]⟩, .string ⟨#[98]⟩] 9)).alloc (.cells #[.string ⟨#[98]⟩, .string ⟨#[97]⟩] 9)))
        have HE0 := Lib.hid (HEX.out.trans (((Ex.refl _).alloc (.cells #[.string ⟨#[97]⟩, .string ⟨#[98]⟩] 9)).alloc (.cells #[.string ⟨#[98]⟩, .string ⟨#[97]⟩] 9)))
        refine (do_is w.heap.size (w.heap.size + g0.size) _ _ ⟨_, _, _, _, _⟩ _ HS0.out ([(id, ⟨false, th, tw, k, tu⟩)], false) ?_).mono ?_
        · exact eq_lock_no id k X th tw _ tu (by omega) _
        rintro e v1 ⟨rfl, hst, hfr⟩
        have HS1 := Lib.hid hst
        have HE1 := Lib.hid (HE0.out.of_dofr hfr)
        clear hst hfr
        go_wp2_with fail
        refine (do_is w.heap.size (w.heap.size + g0.size) _ _ ⟨_, _, _, _, _⟩ _ HS1.out ([(id, ⟨false, true, ⟨#[97]⟩, k + 1, X + N⟩)], true) ?_).mono ?_
        · exact eq_lock_yes id k X N th tw _ tu (by omega) (by rw [list_a]; simp) (by omega) HU.out
        rintro e v2 ⟨rfl, hst, hfr⟩
        have HS2 := Lib.hid hst
        have HE2 := Lib.hid (HE1.out.of_dofr hfr)
        clear hst hfr
        go_wp2_with fail
        refine (do_is w.heap.size (w.heap.size + g0.size) _ _ ⟨_, _, _, _, _⟩ _ HS2.out ([(id, ⟨false, true, ⟨#[97]⟩, k + 1, X + N⟩)], false) ?_).mono ?_
        · exact eq_early id k X N _ _ _ _ (by omega)
        rintro e v3 ⟨rfl, hst, hfr⟩
        have HS3 := Lib.hid hst
        have HE3 := Lib.hid (HE2.out.of_dofr hfr)
        clear hst hfr
        go_wp2_with fail
        refine (do_is w.heap.size (w.heap.size + g0.size) _ _ ⟨_, _, _, _, _⟩ _ HS3.out ([(id, ⟨false, true, ⟨#[97]⟩, k + 1, X + N⟩)], false) ?_).mono ?_
        · exact eq_other id k X N _ _ _ _ _ (by rw [list_a, list_b]; simp)
        rintro e v4 ⟨rfl, hst, hfr⟩
        have HS4 := Lib.hid hst
        have HE4 := Lib.hid (HE3.out.of_dofr hfr)
        clear hst hfr
        go_wp2_with fail
        refine (do_is w.heap.size (w.heap.size + g0.size) _ _ ⟨_, _, _, _, _⟩ _ HS4.out ([(id, ⟨false, true, ⟨#[97]⟩, k + 1, X + N⟩)], false) ?_).mono ?_
        · exact eq_late id k X N _ _ _ _
        rintro e v5 ⟨rfl, hst, hfr⟩
        have HS5 := Lib.hid hst
        have HE5 := Lib.hid (HE4.out.of_dofr hfr)
        clear hst hfr
        have ctw : v5.cell? ⟨bt, ot + k, none⟩ = some (.bool lv) := by rw [HE5.out.cells.1 _ _ hbt]; exact CT.out
        have hk0 : (0 : Int) ≤ (k : Int) := by omega
        have hk1 : (k : Int) < (nt : Int) := by omega
        have hep2 : Hid (((k : Int) + 1) = ((k + 1 : Nat) : Int)) := by show _ = _; omega
        cases lv
        · go_wp2_with fail
          go_roundw
          case rel => exact ⟨k + 1, X + N, ⟨false, true, ⟨#[97]⟩, k + 1, X + N⟩, by go_num, rfl, by omega, by omega, by omega, rfl, hep2, (fun _ => Int.le_refl _), HS5.out, HE5.out⟩
          case measure => simp [intOf]; omega
        · go_wp2_with fail
          refine (do_is w.heap.size (w.heap.size + g0.size) _ _ ⟨_, _, _, _, _⟩ _ HS5.out ([(id, ⟨false, false, ⟨#[]⟩, k + 1, 0⟩)], true) ?_).mono ?_
          · exact eq_leave id k X N _ _ (by omega)
          rintro e v6 ⟨rfl, hst, hfr⟩
          have HS6 := Lib.hid hst
          have HE6 := Lib.hid (HE5.out.of_dofr hfr)
          clear hst hfr
          go_wp2_with fail
          go_roundw
          case rel => exact ⟨k + 1, X + 1, ⟨false, false, ⟨#[]⟩, k + 1, 0⟩, by go_num, rfl, by omega, by omega, by omega, rfl, hep2, (fun h => by cases h), HS6.out, HE6.out⟩
          case measure => simp [intOf]; omega
      · have h2 : (k : Int) % 2 = 1 := by omega
        go_wp2_with fail
        have hN : 2 ≤ 2 + z.tmod 50 % 50 ∧ 2 + z.tmod 50 % 50 ≤ 51 := by omega
        generalize 2 + z.tmod 50 % 50 = N at hN ⊢
        have HS0 := Lib.hid (HST.out.ex (((Ex.refl _).alloc (.cells #[.string ⟨#[97]⟩, .string ⟨#[98]⟩] 9)).alloc (.cells #[.string ⟨#[98]⟩, .string ⟨#[97]⟩] 9)))
        have HE0 := Lib.hid (HEX.out.trans (((Ex.refl _).alloc (.cells #[.string ⟨#[97]⟩, .string ⟨#[98]⟩] 9)).alloc (.cells #[.string ⟨#[98]⟩, .string ⟨#[97]⟩] 9)))
        refine (do_is w.heap.size (w.heap.size + g0.size) _ _ ⟨_, _, _, _, _⟩ _ HS0.out ([(id, ⟨false, th, tw, k, tu⟩)], false) ?_).mono ?_
        · exact eq_lock_no id k X th tw _ tu (by omega) _
        rintro e v1 ⟨rfl, hst, hfr⟩
        have HS1 := Lib.hid hst
        have HE1 := Lib.hid (HE0.out.of_dofr hfr)
        clear hst hfr
        go_wp2_with fail
        refine (do_is w.heap.size (w.heap.size + g0.size) _ _ ⟨_, _, _, _, _⟩ _ HS1.out ([(id, ⟨false, true, ⟨#[98]⟩, k + 1, X + N⟩)], true) ?_).mono ?_
        · exact eq_lock_yes id k X N th tw _ tu (by omega) (by rw [list_b]; simp) (by omega) HU.out
        rintro e v2 ⟨rfl, hst, hfr⟩
        have HS2 := Lib.hid hst
        have HE2 := Lib.hid (HE1.out.of_dofr hfr)
        clear hst hfr
        go_wp2_with fail
        refine (do_is w.heap.size (w.heap.size + g0.size) _ _ ⟨_, _, _, _, _⟩ _ HS2.out ([(id, ⟨false, true, ⟨#[98]⟩, k + 1, X + N⟩)], false) ?_).mono ?_
        · exact eq_early id k X N _ _ _ _ (by omega)
        rintro e v3 ⟨rfl, hst, hfr⟩
        have HS3 := Lib.hid hst
        have HE3 := Lib.hid (HE2.out.of_dofr hfr)
        clear hst hfr
        go_wp2_with fail
        refine (do_is w.heap.size (w.heap.size + g0.size) _ _ ⟨_, _, _, _, _⟩ _ HS3.out ([(id, ⟨false, true, ⟨#[98]⟩, k + 1, X + N⟩)], false) ?_).mono ?_
        · exact eq_other id k X N _ _ _ _ _ (by rw [list_b, list_a]; simp)
        rintro e v4 ⟨rfl, hst, hfr⟩
        have HS4 := Lib.hid hst
        have HE4 := Lib.hid (HE3.out.of_dofr hfr)
        clear hst hfr
        go_wp2_with fail
        refine (do_is w.heap.size (w.heap.size + g0.size) _ _ ⟨_, _, _, _, _⟩ _ HS4.out ([(id, ⟨false, true, ⟨#[98]⟩, k + 1, X + N⟩)], false) ?_).mono ?_
        · exact eq_late id k X N _ _ _ _
        rintro e v5 ⟨rfl, hst, hfr⟩
        have HS5 := Lib.hid hst
        have HE5 := Lib.hid (HE4.out.of_dofr hfr)
        clear hst hfr
        have ctw : v5.cell? ⟨bt, ot + k, none⟩ = some (.bool lv) := by rw [HE5.out.cells.1 _ _ hbt]; exact CT.out
        have hk0 : (0 : Int) ≤ (k : Int) := by omega
        have hk1 : (k : Int) < (nt : Int) := by omega
        have hep2 : Hid (((k : Int) + 1) = ((k + 1 : Nat) : Int)) := by show _ = _; omega
        cases lv
        · go_wp2_with fail
          go_roundw
          case rel => exact ⟨k + 1, X + N, ⟨false, true, ⟨#[98]⟩, k + 1, X + N⟩, by go_num, rfl, by omega, by omega, by omega, rfl, hep2, (fun _ => Int.le_refl _), HS5.out, HE5.out⟩
          case measure => simp [intOf]; omega
        · go_wp2_with fail
          refine (do_is w.heap.size (w.heap.size + g0.size) _ _ ⟨_, _, _, _, _⟩ _ HS5.out ([(id, ⟨false, false, ⟨#[]⟩, k + 1, 0⟩)], true) ?_).mono ?_
          · exact eq_leave id k X N _ _ (by omega)
          rintro e v6 ⟨rfl, hst, hfr⟩
          have HS6 := Lib.hid hst
          have HE6 := Lib.hid (HE5.out.of_dofr hfr)
          clear hst hfr
          go_wp2_with fail
          go_roundw
          case rel => exact ⟨k + 1, X + 1, ⟨false, false, ⟨#[]⟩, k + 1, 0⟩, by go_num, rfl, by omega, by omega, by omega, rfl, hep2, (fun h => by cases h), HS6.out, HE6.out⟩
          case measure => simp [intOf]; omega
    · obtain rfl : k = nl := by omega
      have HS0 := Lib.hid hst
      have HE0 := Lib.hid hex
      obtain ⟨tg, th, tw, te, tu⟩ := T
      simp only at hg
      subst hg
      clear hst hex hun hep
      go_wp2_with fail
      refine (do_is w.heap.size (w.heap.size + g0.size) _ _ ⟨_, _, _, _, _⟩ _ HS0.out ([(id, ⟨true, false, ⟨#[]⟩, 0, 0⟩)], true) ?_).mono ?_
      · simp [doF, mget, mput, nextF]
      rintro e v1 ⟨rfl, hst, hfr⟩
      have HS1 := Lib.hid hst
      have HE1 := Lib.hid (HE0.out.of_dofr hfr)
      clear hst hfr
      go_wp2_with fail
      refine (do_is w.heap.size (w.heap.size + g0.size) _ _ ⟨_, _, _, _, _⟩ _ HS1.out ([(id, ⟨true, false, ⟨#[]⟩, 0, 0⟩)], false) ?_).mono ?_
      · simp [doF, mget, mput, nextF]
      rintro e v2 ⟨rfl, hst, hfr⟩
      have HS2 := Lib.hid hst
      have HE2 := Lib.hid (HE1.out.of_dofr hfr)
      clear hst hfr
      go_wp2_with fail
      refine (is_any w.heap.size (w.heap.size + g0.size) _ _ _ HS2.out).mono ?_
      simp only [thereB, goneB, mget, if_true]
      rintro e w1 ⟨rfl, hx⟩
      have HS3 := Lib.hid (HS2.out.ex hx)
      have HE3 := Lib.hid (HE2.out.trans hx)
      obtain ⟨g3, n3, rfl⟩ := hx.ext
      clear hx
      go_wp2_with fail
      refine (len_any w.heap.size (w.heap.size + g0.size) _ _ HS3.out (by simp)).mono ?_
      rintro e w1 ⟨rfl, hx⟩
      have HE4 := Lib.hid (HE3.out.trans hx)
      obtain ⟨g4, n4, rfl⟩ := hx.ext
      clear hx
      simp only [lenF, List.filter, Bool.not_true, List.length_nil]
      go_wp2_with fail
      go_ret
      exact ⟨rfl, HE4.out⟩

set_option maxRecDepth 100000 in
set_option maxHeartbeats 1000000 in
theorem rowsLaw_out (id : Int) (A At : Option Addr) (nl cl nt ct : Nat) (w : World) (h : 12 < nl ∨ nl ≤ 12 ∧ nt < nl) (hnl : nl ≤ 9223372036854775807) (hnt : nt ≤ 9223372036854775807) :
    Calls Try.prog 6 #[.int .i64 id, .slice A nl cl, .slice At nt ct] w fun e w' => e = .returned (.bool true) ∧ Ex w w' := by
  rcases h with h | ⟨h1, h2⟩
  all_goals
    go_enter Try.func6, Try.ntmps6
    go_wp2_with fail
    refine (mfirst_any _).mono ?_
    rintro e w1 ⟨rfl, hb⟩; obtain ⟨g0, n0, rfl⟩ := hb.ext; clear hb
    go_wp2_with fail
    go_ret
    exact ⟨rfl, Ex.of_ext _ _ _⟩
theorem rowsLaw_any (id : Int) (A : Option Addr) (nl cl : Nat) (D : Nat → Int) (At : Option Addr) (nt ct : Nat) (Z : Nat → Bool) (w : World) (hnl : nl ≤ 9223372036854775807) (hl : RowsAt w A nl 1 (fun i => [.int .i64 (D i)])) (hnt : nt ≤ 9223372036854775807) (ht : RowsAt w At nt 1 (fun i => [.bool (Z i)])) :
    Calls Try.prog 6 #[.int .i64 id, .slice A nl cl, .slice At nt ct] w fun e w' => e = .returned (.bool true) ∧ Ex w w' := by
  by_cases h : 12 < nl ∨ nl ≤ 12 ∧ nt < nl
  · exact rowsLaw_out id A At nl cl nt ct w h hnl hnt
  · exact rowsLaw_in id A nl cl D At nt ct Z w hl ht (by omega) (by omega) hnt
end Go.Proofs.Ytppmbfffnpindaa
