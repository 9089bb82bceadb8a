/- The contract of package model's Do, where it changes the map. No condition. -/
import Derived.Test.YtppmbfffnpindaaModel4
namespace Go.Proofs.Ytppmbfffnpindaa
open Go.RowKit
set_option linter.unusedVariables false
set_option linter.unusedSimpArgs false
attribute [local go_sem] ext_size ext_drew cell_ext_if frozen_ext_if set_ext_if
attribute [local go_sem low] cell_alloc_if frozen_alloc_if set_alloc_if

theorem DoPost.upd {B b mb : Nat} {L' : MS} {es es' : Array MapEntry} {cl cl' : Nat} {p : MS × Bool} {w W W' : World} {x : Bool} (hB : B ≤ b) (hBm : B ≤ mb)
    (h1 : w.heap[b]? = some (.cells #[.map (some mb)] 42)) (h2 : w.heap[mb]? = some (.map es cl)) (h3 : Ents ikey MTask.v es' cl' L')
    (hx : Ex w W) (hy : Ex (W.upd mb (.map es' cl')) W') (hp : p = (L', x)) : DoPost B b p w (.returned (.bool x)) W' := by
  subst hp
  have hb : b < w.heap.size := (Array.getElem?_eq_some_iff.1 h1).1
  have hm : mb < w.heap.size := (Array.getElem?_eq_some_iff.1 h2).1
  have hne : b ≠ mb := by rintro rfl; rw [h1] at h2; cases h2
  have hs := hx.size
  have hsu : (W.upd mb (.map es' cl')).heap.size = W.heap.size := upd_size _ _ _
  have get : ∀ j, j < w.heap.size → j ≠ mb → W'.heap[j]? = w.heap[j]? := fun j hj hjm => by
    rw [Below.block hy j (by rw [hsu]; omega), heap_upd, if_neg hjm, Below.block hx j hj]
  have getm : W'.heap[mb]? = some (.map es' cl') := by
    rw [Below.block hy mb (by rw [hsu]; omega), heap_upd, if_pos rfl, if_pos (by omega)]
  have hx' : Below _ _ _ := hx
  have hy' : Below _ _ _ := hy
  refine ⟨rfl, ⟨hB, _, (get b hb hne).trans h1, .inr ⟨mb, es', cl', rfl, getm, h3, hBm⟩⟩, ⟨⟨hy'.os.trans hx'.os, hy'.tape.trans hx'.tape, hy'.output.trans hx'.output, ?_, fun k hk => get k (by omega) (by omega)⟩, fun j hj _ hnm => get j hj (by rintro rfl; exact hnm _ _ h2)⟩⟩
  have := hy.size
  omega

set_option maxHeartbeats 1000000 in
theorem do_next_yes (B b : Nat) (L : MS) (now : Int) (d : Deed) (w : World) (t : MTask) (h : MSt w B b L) (hm : mget L d.task = some t) (hk : d.kind ≠ 1) (hg : t.gone = false) (hn : (nextF t now d).2 = true) :
    Calls Try.prog 22 #[.pointer (some ⟨b, 0, none⟩), .int .i64 now, d.v] w (DoPost B b (doF L now d) w) := by
  have hf : doF L now d = (mput L d.task (nextF t now d).1, true) := by
    unfold doF; rw [hm]; simp only
    rw [if_neg (by simp [hk, hg]), if_pos hn]
  obtain ⟨hB, v, h1, h2⟩ := h
  obtain ⟨hlk, hlk2⟩ := h2.looks d.task (.tuple #[t.v, .bool true]) (by rw [hm]; rfl)
  have hc : w.cell? ⟨b, 0, none⟩ = some v := by rw [cell_eq, h1]; rfl
  have hb : b < w.heap.size := (Array.getElem?_eq_some_iff.1 h1).1
  rcases h2 with ⟨rfl, rfl⟩ | ⟨mb, es, cl, rfl, h3, h4, h5⟩
  · cases hm
  obtain ⟨es', cl', h6, h7⟩ := run_update (mb := mb) ikeyOK Try.underlying40 h4 d.task (nextF t now d).1
  rw [hf]
  have H1 := Lib.hid h1
  have H3 := Lib.hid h3
  have H6 := Lib.hid h6
  have H7 := Lib.hid h7
  clear h1 h3 h4 h6 h7 hm hf
  generalize hp : nextF t now d = p at hn H6 H7 ⊢
  have HP := Lib.hid hp
  clear hp
  obtain ⟨⟨p0, p1, p2, p3, p4⟩, pb⟩ := p
  obtain ⟨d0, d1, d2, d3, d4⟩ := d
  obtain ⟨a0, a1, a2, a3, a4⟩ := t
  simp only [Deed.v, MTask.v] at *
  subst hg hn
  go_enter Try.func22, Try.ntmps22
  go_wp2
  go_region
  go_wp2_with (go_at_call 36; refine (next_any ⟨_, _, _, _, _⟩ _ ⟨_, _, _, _, _⟩ _).mono ?_; rw [HP.out]; rintro e w1 ⟨rfl, hx⟩; obtain ⟨g, n, rfl⟩ := hx.ext; clear hx; simp only [MTask.v])
  refine wp_gen ?_
  intro W hW
  have hex : Ex w W := by rw [hW]; (repeat (first | exact Ex.refl _ | refine Ex.alloc ?_ _ | refine Ex.more ?_ _ _ | refine Ex.drew ?_))
  have hcW : W.cell? ⟨b, 0, none⟩ = some (.map (some mb)) := by rw [hex.cells.1 _ _ hb, hc]
  have c1 : W.cell? ⟨w.heap.size, 1, none⟩ = some (.int .i64 d1) := by rw [hW]; simp [go_sem, ↓IntWalk.iteOmega]
  have e0 : W.cell? ⟨w.heap.size + 1 + 1 + g.size, 0, none⟩ = some (.bool p0) := by rw [hW]; simp [go_sem, ↓IntWalk.iteOmega]
  have e1 : W.cell? ⟨w.heap.size + 1 + 1 + g.size, 1, none⟩ = some (.bool p1) := by rw [hW]; simp [go_sem, ↓IntWalk.iteOmega]
  have e2 : W.cell? ⟨w.heap.size + 1 + 1 + g.size, 2, none⟩ = some (.string p2) := by rw [hW]; simp [go_sem, ↓IntWalk.iteOmega]
  have e3 : W.cell? ⟨w.heap.size + 1 + 1 + g.size, 3, none⟩ = some (.int .i64 p3) := by rw [hW]; simp [go_sem, ↓IntWalk.iteOmega]
  have e4 : W.cell? ⟨w.heap.size + 1 + 1 + g.size, 4, none⟩ = some (.int .i64 p4) := by rw [hW]; simp [go_sem, ↓IntWalk.iteOmega]
  have HEX := Lib.hid hex
  clear hW hex
  go_still_tail 7, (by kernel_rfl)
  refine wpList_upd rfl _ _ _ 40 rfl rfl rfl rfl _ (H7.out _ ?_) ?_
  · exact (Below.block HEX.out mb (Array.getElem?_eq_some_iff.1 H3.out).1).trans H3.out
  go_wp2
  go_ret
  exact DoPost.upd hB h5 H1.out H3.out H6.out HEX.out.drew (Ex.refl _) rfl
end Go.Proofs.Ytppmbfffnpindaa
