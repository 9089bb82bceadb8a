/- The contract of package model's Do, whole. No condition. -/
import Derived.Test.YtppmbfffnpindaaModel5
namespace Go.Proofs.Ytppmbfffnpindaa
open Go.RowKit
set_option linter.unusedVariables false
set_option linter.unusedSimpArgs false
attribute [local go_sem] ext_size ext_drew cell_ext_if frozen_ext_if set_ext_if
attribute [local go_sem low] cell_alloc_if frozen_alloc_if set_alloc_if

theorem DoPost.born {B b M : Nat} {L' : MS} {es' : Array MapEntry} {cl' : Nat} {p : MS × Bool} {w W W' : World} {x : Bool} (hB : B ≤ b)
    (h1 : w.heap[b]? = some (.cells #[.map none] 42)) (h3 : Ents ikey MTask.v es' cl' L') (hM : w.heap.size ≤ M) (hM2 : M < W.heap.size)
    (hx : Ex (w.setCell ⟨b, 0, none⟩ (.map (some M))) W) (hy : Ex (W.upd M (.map es' cl')) W') (hp : p = (L', x)) : DoPost B b p w (.returned (.bool x)) W' := by
  subst hp
  have hb : b < w.heap.size := (Array.getElem?_eq_some_iff.1 h1).1
  have hs := hx.size
  rw [World.size_setCell] at hs
  have hsu : (W.upd M (.map es' cl')).heap.size = W.heap.size := upd_size _ _ _
  have hx' : Below (w.setCell ⟨b, 0, none⟩ (.map (some M))).heap.size _ _ := hx
  have hy' : Below (W.upd M (.map es' cl')).heap.size _ _ := hy
  have get : ∀ j, j < w.heap.size → W'.heap[j]? = (w.setCell ⟨b, 0, none⟩ (.map (some M))).heap[j]? := fun j hj => by
    rw [hy'.block j (by rw [hsu]; omega), heap_upd, if_neg (by omega), hx'.block j (by rw [World.size_setCell]; exact hj)]
  have getb : W'.heap[b]? = some (.cells #[.map (some M)] 42) := by
    rw [get b hb]; simp [World.setCell, Array.getElem?_modify, h1]
  have geto : ∀ j, j < w.heap.size → j ≠ b → W'.heap[j]? = w.heap[j]? := fun j hj hne => by
    rw [get j hj]; exact Below.heap_setCell w _ _ j hne
  have getm : W'.heap[M]? = some (.map es' cl') := by
    rw [hy'.block M (by rw [hsu]; exact hM2), heap_upd, if_pos rfl, if_pos hM2]
  refine ⟨rfl, ⟨hB, _, getb, .inr ⟨M, es', cl', rfl, getm, h3, by omega⟩⟩, ⟨⟨hy'.os.trans hx'.os, hy'.tape.trans hx'.tape, hy'.output.trans hx'.output, ?_, fun k hk => geto k (by omega) (by omega)⟩, fun j hj hne _ => geto j hj hne⟩⟩
  have := hy.size
  omega

set_option maxHeartbeats 1000000 in
theorem do_born_some (B b : Nat) (L : MS) (now : Int) (d : Deed) (w : World) (mb : Nat) (es : Array MapEntry) (cl : Nat) (hB : B ≤ b) (h1 : w.heap[b]? = some (.cells #[.map (some mb)] 42))
    (h3 : w.heap[mb]? = some (.map es cl)) (h4 : Ents ikey MTask.v es cl L) (h5 : B ≤ mb) (hm : mget L d.task = none) (hk : d.kind = 1) :
    Calls Try.prog 22 #[.pointer (some ⟨b, 0, none⟩), .int .i64 now, d.v] w (DoPost B b (doF L now d) w) := by
  have hf : doF L now d = (mput L d.task mzero, true) := by unfold doF; rw [hm]; simp [hk]
  have h2 : MapV w B (.map (some mb)) L := .inr ⟨mb, es, cl, rfl, h3, h4, h5⟩
  obtain ⟨hlk, hlk2⟩ := h2.looks d.task (.tuple #[mzero.v, .bool false]) (by rw [hm]; rfl)
  have hc : w.cell? ⟨b, 0, none⟩ = some (.map (some mb)) := by rw [cell_eq, h1]; rfl
  have hb : b < w.heap.size := (Array.getElem?_eq_some_iff.1 h1).1
  obtain ⟨es', cl', h6, h7⟩ := run_update (mb := mb) ikeyOK Try.underlying40 h4 d.task mzero
  rw [hf]
  have H1 := Lib.hid h1
  have H3 := Lib.hid h3
  have H6 := Lib.hid h6
  have H7 := Lib.hid h7
  have heq := fun w => run_eql_map_nil (P := Try.prog) w 40 _ _ (some mb) Try.underlying40
  clear h1 h2 h3 h4 h6 h7 hm hf
  obtain ⟨d0, d1, d2, d3, d4⟩ := d
  simp only [Deed.v, MTask.v, mzero] at *
  subst hk
  go_enter Try.func22, Try.ntmps22
  go_wp2
  go_region
  go_wp2
  refine wp_gen ?_
  intro W hW
  have hex : Ex w W := by rw [hW]; (repeat (first | exact Ex.refl _ | refine Ex.alloc ?_ _ | refine Ex.more ?_ _ _ | refine Ex.drew ?_))
  have hcW : W.cell? ⟨b, 0, none⟩ = some (.map (some mb)) := by rw [hex.cells.1 _ _ hb, hc]
  have c1 : W.cell? ⟨w.heap.size, 1, none⟩ = some (.int .i64 d1) := by rw [hW]; simp [go_sem, ↓IntWalk.iteOmega]
  have HEX := Lib.hid hex
  clear hW hex
  go_still_tail 7, (by kernel_rfl)
  refine wpList_upd rfl _ _ _ 40 rfl rfl rfl rfl _ (H7.out _ ?_) ?_
  · exact (Below.block HEX.out mb (Array.getElem?_eq_some_iff.1 H3.out).1).trans H3.out
  go_wp2
  go_ret
  exact DoPost.upd hB h5 H1.out H3.out H6.out HEX.out.drew (Ex.refl _) rfl

set_option maxHeartbeats 1000000 in
theorem do_born_nil (B b : Nat) (now : Int) (d : Deed) (w : World) (hB : B ≤ b) (h1 : w.heap[b]? = some (.cells #[.map none] 42)) (hk : d.kind = 1) :
    Calls Try.prog 22 #[.pointer (some ⟨b, 0, none⟩), .int .i64 now, d.v] w (DoPost B b (doF [] now d) w) := by
  have hf : doF [] now d = (mput [] d.task mzero, true) := by unfold doF; simp [hk, mget]
  have h2 : MapV w B (.map none) [] := .inl ⟨rfl, rfl⟩
  obtain ⟨hlk, hlk2⟩ := h2.looks d.task (.tuple #[mzero.v, .bool false]) rfl
  have hc : w.cell? ⟨b, 0, none⟩ = some (.map none) := by rw [cell_eq, h1]; rfl
  have hfz : w.frozen? ⟨b, 0, none⟩ = false := by rw [frozen_eq, h1]; rfl
  have hb : b < w.heap.size := (Array.getElem?_eq_some_iff.1 h1).1
  rw [hf]
  have H1 := Lib.hid h1
  have heq := fun w => run_eql_map_nil (P := Try.prog) w 40 _ _ none Try.underlying40
  have hmm := @run_makeMap Try.prog
  clear h1 h2 hf
  obtain ⟨d0, d1, d2, d3, d4⟩ := d
  simp only [Deed.v, MTask.v, mzero] at *
  subst hk
  go_enter Try.func22, Try.ntmps22
  go_wp2
  go_region
  go_wp2
  refine wp_gen ?_
  intro W hW
  have hex : Ex (w.setCell ⟨b, 0, none⟩ (.map (some (w.heap.size + 1 + 1)))) W := by rw [hW]; (repeat (first | exact Ex.refl _ | refine Ex.alloc ?_ _ | refine Ex.more ?_ _ _ | refine Ex.drew ?_))
  have hcW : W.cell? ⟨b, 0, none⟩ = some (.map (some (w.heap.size + 1 + 1))) := by rw [hex.cells.1 _ _ (by rw [World.size_setCell]; exact hb), World.cell?_setCell_same w _ _ hc]
  have c1 : W.cell? ⟨w.heap.size, 1, none⟩ = some (.int .i64 d1) := by rw [hW]; simp [go_sem, ↓IntWalk.iteOmega]
  have hMb : W.heap[w.heap.size + 1 + 1]? = some (.map #[] 0) := by rw [hW, heap_drew, heap_alloc_at]; simp
  have hMs : w.heap.size + 1 + 1 < W.heap.size := by rw [hW]; simp
  obtain ⟨es', cl', h6, h7⟩ := run_update (mb := w.heap.size + 1 + 1) ikeyOK Try.underlying40 (Ents.empty (key := ikey) (enc := MTask.v) 0) d1 mzero
  have H6 := Lib.hid h6
  have H7 := Lib.hid h7
  simp only [MTask.v, mzero] at H7
  have HEX := Lib.hid hex
  have HM := Lib.hid hMb
  clear hW hex h6 h7 hMb
  go_still_tail 7, (by kernel_rfl)
  refine wpList_upd rfl _ _ _ 40 rfl rfl rfl rfl _ (H7.out _ HM.out) ?_
  go_wp2
  go_ret
  exact DoPost.born (W := W.drew) hB H1.out H6.out (by omega) hMs HEX.out.drew (Ex.refl _) rfl

theorem do_any (B b : Nat) (L : MS) (now : Int) (d : Deed) (w : World) (h : MSt w B b L) :
    Calls Try.prog 22 #[.pointer (some ⟨b, 0, none⟩), .int .i64 now, d.v] w (DoPost B b (doF L now d) w) := by
  cases hm : mget L d.task with
  | none =>
    by_cases hk : d.kind = 1
    · obtain ⟨hB, v, h1, h2⟩ := h
      rcases h2 with ⟨rfl, rfl⟩ | ⟨mb, es, cl, rfl, h3, h4, h5⟩
      · exact do_born_nil B b now d w hB h1 hk
      · exact do_born_some B b L now d w mb es cl hB h1 h3 h4 h5 hm hk
    · exact do_none_no B b L now d w h hm hk
  | some t =>
    by_cases hk : d.kind = 1
    · exact do_some_no B b L now d w t h hm (.inl hk)
    · cases hg : t.gone
      · cases hn : (nextF t now d).2
        · exact do_next_no B b L now d w t h hm hk hg hn
        · exact do_next_yes B b L now d w t h hm hk hg hn
      · exact do_some_no B b L now d w t h hm (.inr ⟨hk, hg⟩)
end Go.Proofs.Ytppmbfffnpindaa
