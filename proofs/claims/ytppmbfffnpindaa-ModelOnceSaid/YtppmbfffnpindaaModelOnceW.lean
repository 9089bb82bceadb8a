/- The walk of the law ModelOnce: for every list of deeds and of times the call returns true. No condition. -/
import Derived.Test.YtppmbfffnpindaaModelOnce
namespace Go.Proofs.Ytppmbfffnpindaa
open Go.RowKit
set_option linter.unusedVariables false
set_option linter.unusedSimpArgs false
attribute [local go_sem] ext_size ext_drew cell_ext_if frozen_ext_if set_ext_if
attribute [local go_sem low] cell_alloc_if frozen_alloc_if set_alloc_if

/-- The cells of a slice of deeds. -/
def DeedsAt (w : World) (bl off n : Nat) (D : Nat → Deed) : Prop := bl < w.heap.size ∧ ∀ k, k < n →
  w.cell? ⟨bl, off + k * 5, none⟩ = some (.int .i64 (D k).kind) ∧ w.cell? ⟨bl, off + k * 5 + 1, none⟩ = some (.int .i64 (D k).task) ∧ w.cell? ⟨bl, off + k * 5 + 2, none⟩ = some (.int .i64 (D k).epoch) ∧
  w.cell? ⟨bl, off + k * 5 + 3, none⟩ = some (.string (D k).worker) ∧ w.cell? ⟨bl, off + k * 5 + 4, none⟩ = some (.int .i64 (D k).until_)
def IntsAt (w : World) (bl off n : Nat) (Z : Nat → Int) : Prop := bl < w.heap.size ∧ ∀ k, k < n → w.cell? ⟨bl, off + k, none⟩ = some (.int .i64 (Z k))

set_option maxRecDepth 100000 in
set_option maxHeartbeats 4000000 in
theorem onceLaw_some (bl ol nl cl bt ot nt ct : Nat) (D : Nat → Deed) (Z : Nat → Int) (w : World) (hl : DeedsAt w bl ol nl D) (ht : IntsAt w bt ot nt Z) (hnl : nl ≤ 80) (hnt : nl ≤ nt) (hct : nt ≤ 9223372036854775807) :
    Calls Try.prog 5 #[.slice (some ⟨bl, ol, none⟩) nl cl, .slice (some ⟨bt, ot, none⟩) nt ct] w fun e w' => e = .returned (.bool true) ∧ Ex w w' := by
  obtain ⟨hbl, hl⟩ := hl
  obtain ⟨hbt, ht⟩ := ht
  have HL := Lib.hid hl
  have HT := Lib.hid ht
  clear hl ht
  have hd1 : decide ((80 : Int) < (nl : Int)) = false := by simp; omega
  have hd2 : decide (nt < nl) = false := by simp; omega
  go_enter Try.func5, Try.ntmps5
  go_wp2_with fail
  refine (mfirst_any _).mono ?_
  rintro e w1 ⟨rfl, hb⟩; obtain ⟨g0, n0, rfl⟩ := hb.ext; clear hb
  go_wp2_with fail
  go_loopw [7] (fun i wr => ∃ (k : Nat) (L : MS), i = .int .i64 k ∧ k ≤ nl ∧ MSt wr w.heap.size (w.heap.size + g0.size) L ∧ Ex w wr) (fun i _ => nl - (intOf i).toNat)
  case atStart => exact ⟨0, [], rfl, Nat.zero_le _, (by have := MSt.new (w.ext g0 n0) w.heap.size (by rw [ext_size]; omega); rw [ext_size] at this; exact this), (by repeat (first | exact Ex.refl _ | refine Ex.alloc ?_ _ | refine Ex.more ?_ _ _ | refine Ex.drew ?_))⟩
  case round =>
    obtain ⟨k, L, rfl, hk, hst, hex⟩ := hrel
    by_cases hlt : k < nl
    · obtain ⟨c0, c1, c2, c3, c4⟩ := HL.out k hlt
      have ct0 := HT.out k (by omega)
      have hc := once_c L (Z k) (D k)
      rw [← hex.cells.1 _ _ hbl] at c0 c1 c2 c3 c4
      generalize D k = d at *
      generalize hZ : Z k = z at *
      obtain ⟨d0, d1, d2, d3, d4⟩ := d
      have CT := Lib.hid ct0
      clear ct0 hZ
      generalize hA1 : thereB L (Deed.task ⟨d0, d1, d2, d3, d4⟩) = there at hc
      generalize hA2 : goneB L (Deed.task ⟨d0, d1, d2, d3, d4⟩) = gone at hc
      generalize hA3 : holderT L (Deed.task ⟨d0, d1, d2, d3, d4⟩) = ho at hc
      generalize hA4 : doF L z ⟨d0, d1, d2, d3, d4⟩ = p at hc
      obtain ⟨L', is_⟩ := p
      simp only at hc
      generalize hA5 : thereB L' (Deed.task ⟨d0, d1, d2, d3, d4⟩) = after at hc
      generalize hA6 : goneB L' (Deed.task ⟨d0, d1, d2, d3, d4⟩) = lost at hc
      generalize hA7 : holderT L' (Deed.task ⟨d0, d1, d2, d3, d4⟩) = ho2 at hc
      obtain ⟨wk, ep, un, held⟩ := ho
      obtain ⟨v, nx, un2, held2⟩ := ho2
      simp only at hc hA1 hA2 hA3 hA5 hA6 hA7 c0 c1 c2 c3 c4
      have A1 := Lib.hid hA1
      have A2 := Lib.hid hA2
      have A3 := Lib.hid hA3
      have A4 := Lib.hid hA4
      have A5 := Lib.hid hA5
      have A6 := Lib.hid hA6
      have A7 := Lib.hid hA7
      have HC := Lib.hid hc
      have HST := Lib.hid hst
      have HEX := Lib.hid hex
      have hz := hex.size
      clear hst hex hc hA1 hA2 hA3 hA4 hA5 hA6 hA7
      go_wp2_with fail
      refine (is_any w.heap.size (w.heap.size + g0.size) L _ _ (HST.out.ex ((Ex.refl _).alloc _))).mono ?_
      rw [A1.out, A2.out]
      rintro e w1 ⟨rfl, hx⟩
      have HST2 := Lib.hid ((HST.out.ex ((Ex.refl _).alloc _)).ex hx)
      obtain ⟨g1, n1, rfl⟩ := hx.ext
      clear hx
      go_wp2_with fail
      refine (holder_any w.heap.size (w.heap.size + g0.size) L _ _ HST2.out).mono ?_
      rw [holderV_eq, A3.out]
      rintro e w1 ⟨rfl, hx⟩
      have HST3 := Lib.hid (HST2.out.ex hx)
      obtain ⟨g2, n2, rfl⟩ := hx.ext
      clear hx HST2
      go_wp2_with fail
      refine wp_gen ?_
      intro W hW
      have hexW : Ex wr W := by rw [hW]; (repeat (first | exact Ex.refl _ | refine Ex.alloc ?_ _ | refine Ex.more ?_ _ _ | refine Ex.drew ?_))
      have hexB : Ex (wr.alloc (.cells #[.int .i64 d0, .int .i64 d1, .int .i64 d2, .string d3, .int .i64 d4] 44)) W := by rw [hW]; (repeat (first | exact Ex.refl _ | refine Ex.alloc ?_ _ | refine Ex.more ?_ _ _ | refine Ex.drew ?_))
      have hbx : W.heap[wr.heap.size]? = some (.cells #[.int .i64 d0, .int .i64 d1, .int .i64 d2, .string d3, .int .i64 d4] 44) :=
        (Below.block hexB _ (by simp)).trans (MapKept.heap_alloc wr _).1
      have b0 : W.cell? ⟨wr.heap.size, 0, none⟩ = some (.int .i64 d0) := by rw [cell_eq, hbx]; rfl
      have b1 : W.cell? ⟨wr.heap.size, 1, none⟩ = some (.int .i64 d1) := by rw [cell_eq, hbx]; rfl
      have b2 : W.cell? ⟨wr.heap.size, 2, none⟩ = some (.int .i64 d2) := by rw [cell_eq, hbx]; rfl
      have b3 : W.cell? ⟨wr.heap.size, 3, none⟩ = some (.string d3) := by rw [cell_eq, hbx]; rfl
      have b4 : W.cell? ⟨wr.heap.size, 4, none⟩ = some (.int .i64 d4) := by rw [cell_eq, hbx]; rfl
      have ctw : W.cell? ⟨bt, ot + k, none⟩ = some (.int .i64 z) := by rw [hexW.cells.1 _ _ (by omega), HEX.out.cells.1 _ _ hbt]; exact CT.out
      have hk0 : (0 : Int) ≤ (k : Int) := by omega
      have hk1 : (k : Int) < (nt : Int) := by omega
      rw [← hW] at HST3
      have HXW := Lib.hid hexW
      have HBX := Lib.hid hbx
      clear hW hexW hexB hbx
      go_still_tail 6, (by kernel_rfl)
      go_wp2_with fail
      refine (do_any w.heap.size (w.heap.size + g0.size) L _ ⟨_, _, _, _, _⟩ _ (HST3.out.ex (Ex.refl _).drew)).mono ?_
      rw [A4.out]
      rintro e w2 ⟨rfl, hst4, hfr⟩
      have HST4 := Lib.hid hst4
      have hs2 : wr.heap.size < W.heap.size := (Array.getElem?_eq_some_iff.1 HBX.out).1
      have hbx2 : w2.heap[wr.heap.size]? = some (.cells #[.int .i64 d0, .int .i64 d1, .int .i64 d2, .string d3, .int .i64 d4] 44) :=
        (hfr.rest _ hs2 (by have := HST.out.lt; omega) (fun es cl h => by rw [heap_drew, HBX.out] at h; cases h)).trans HBX.out
      have HEX2 := Lib.hid ((HEX.out.trans HXW.out).drew.of_dofr hfr)
      have hz2 : wr.heap.size < w2.heap.size := (Array.getElem?_eq_some_iff.1 hbx2).1
      have b0 : w2.cell? ⟨wr.heap.size, 0, none⟩ = some (.int .i64 d0) := by rw [cell_eq, hbx2]; rfl
      have b1 : w2.cell? ⟨wr.heap.size, 1, none⟩ = some (.int .i64 d1) := by rw [cell_eq, hbx2]; rfl
      have b2 : w2.cell? ⟨wr.heap.size, 2, none⟩ = some (.int .i64 d2) := by rw [cell_eq, hbx2]; rfl
      have b3 : w2.cell? ⟨wr.heap.size, 3, none⟩ = some (.string d3) := by rw [cell_eq, hbx2]; rfl
      have b4 : w2.cell? ⟨wr.heap.size, 4, none⟩ = some (.int .i64 d4) := by rw [cell_eq, hbx2]; rfl
      have ct2 : w2.cell? ⟨bt, ot + k, none⟩ = some (.int .i64 z) := by rw [HEX2.out.cells.1 _ _ hbt]; exact CT.out
      clear hst4 hfr hbx2 HST HST3 HBX HXW ctw c0 c1 c2 c3 c4
      clear HEX
      go_wp2_with fail
      refine (is_any w.heap.size (w.heap.size + g0.size) L' _ _ HST4.out).mono ?_
      rw [A5.out, A6.out]
      rintro e w1 ⟨rfl, hx⟩
      have HST5 := Lib.hid (HST4.out.ex hx)
      have HEX3 := Lib.hid (HEX2.out.trans hx)
      obtain ⟨g3, n3, rfl⟩ := hx.ext
      clear hx HEX2 HST4
      go_wp2_with fail
      refine (holder_any w.heap.size (w.heap.size + g0.size) L' _ _ HST5.out).mono ?_
      rw [holderV_eq, A7.out]
      rintro e w1 ⟨rfl, hx⟩
      have HST6 := Lib.hid (HST5.out.ex hx)
      have HEX4 := Lib.hid (HEX3.out.trans hx)
      obtain ⟨g4, n4, rfl⟩ := hx.ext
      clear hx HEX3 HST5
      have hc := HC.out
      rcases hc with ⟨e1, e2, e3, (⟨e4, e5⟩ | ⟨e4, e5⟩ | ⟨e4, e5⟩)⟩ | ⟨e1, e2, e3, e4⟩ | ⟨e1, e2, e3, e4, e5, (e6 | ⟨e6, e7, e8⟩)⟩ | ⟨e1, e2, (e3 | e3 | e3), e4, e5, e6, e7⟩ | ⟨e1, e2, e3, e4, e5, e6, e7, e8⟩ | ⟨e1, e2, (e3 | e3)⟩
      all_goals
        (try subst e1); (try subst e2); (try subst e3); (try subst e4); (try subst e5); (try subst e6); (try subst e8)
        clear HC A1 A2 A3 A4 A5 A6 A7
      all_goals as_aux_lemma =>
        go_wp2_with fail
        go_roundw
        case rel => exact ⟨k + 1, L', by go_num, by omega, HST6.out, HEX4.out⟩
        case measure => simp [intOf]; omega
    · go_wp2_with fail
      go_ret
      exact ⟨rfl, hex⟩
end Go.Proofs.Ytppmbfffnpindaa
