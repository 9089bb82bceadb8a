/- The contract of package model's Do. No condition. -/
import Derived.Test.YtppmbfffnpindaaModel3
import Derived.StillTailTactics
import Derived.WalkSpells
namespace Go.Proofs.Ytppmbfffnpindaa
open Go.RowKit
set_option linter.unusedVariables false
set_option linter.unusedSimpArgs false
attribute [local go_sem] ext_size ext_drew cell_ext_if frozen_ext_if set_ext_if
attribute [local go_sem low] cell_alloc_if frozen_alloc_if set_alloc_if

/-- Do. -/
def doF (L : MS) (now : Int) (d : Deed) : MS × Bool := match mget L d.task with
  | none => if d.kind = 1 then (mput L d.task mzero, true) else (L, false)
  | some t => if d.kind = 1 ∨ t.gone = true then (L, false) else if (nextF t now d).2 = true then (mput L d.task (nextF t now d).1, true) else (L, false)

/-- From block B on the model at b and maps may have changed; all else is as it was. -/
structure DoFr (B b : Nat) (w w' : World) : Prop where
  below : Below B w w'
  rest : ∀ j, j < w.heap.size → j ≠ b → (∀ es cl, w.heap[j]? ≠ some (.map es cl)) → w'.heap[j]? = w.heap[j]?
def DoPost (B b : Nat) (p : MS × Bool) (w : World) (e : Ending) (w' : World) : Prop := e = .returned (.bool p.2) ∧ MSt w' B b p.1 ∧ DoFr B b w w'
theorem DoPost.quiet {B b : Nat} {L : MS} {p : MS × Bool} {w w' : World} {x : Bool} (h : MSt w B b L) (hx : Ex w w') (hp : p = (L, x)) : DoPost B b p w (.returned (.bool x)) w' := by
  subst hp
  have hB : B ≤ w.heap.size := Nat.le_trans h.1 (Nat.le_of_lt h.lt)
  exact ⟨rfl, h.ex hx, ⟨Below.mono hx hB, fun j hj _ _ => Below.block hx j hj⟩⟩

theorem MapV.looks {w : World} {B : Nat} {v : Value} {L : MS} (h : MapV w B v L) (k : Int) (x : Value) (hx : x = .tuple #[((mget L k).getD mzero).v, .bool (mget L k).isSome]) :
    (∀ o, (Instr.lookup 40 v (.int .i64 k) true).run Try.prog ((w.alloc o).drew) = .ok x ((w.alloc o).drew)) ∧
    ∀ o o', (Instr.lookup 40 v (.int .i64 k) true).run Try.prog (((w.alloc o).alloc o').drew) = .ok x (((w.alloc o).alloc o').drew) := by
  subst hx
  exact ⟨fun o => (h.keep (w' := (w.alloc o).drew) (fun j hj => by rw [heap_drew, heap_alloc_at, if_pos hj])).look k true,
    fun o o' => (h.keep (w' := ((w.alloc o).alloc o').drew) (fun j hj => by rw [heap_drew, heap_alloc_at, if_pos (by rw [World.size_alloc]; omega), heap_alloc_at, if_pos hj])).look k true⟩

set_option maxHeartbeats 1000000 in
theorem do_none_no (B b : Nat) (L : MS) (now : Int) (d : Deed) (w : World) (h : MSt w B b L) (hm : mget L d.task = none) (hk : d.kind ≠ 1) :
    Calls Try.prog 22 #[.pointer (some ⟨b, 0, none⟩), .int .i64 now, d.v] w (DoPost B b (doF L now d) w) := by
  have hf : doF L now d = (L, false) := by unfold doF; rw [hm]; simp [hk]
  have H := Lib.hid h
  have HF := Lib.hid hf
  obtain ⟨_, v, h1, h2⟩ := h
  obtain ⟨hlk, hlk2⟩ := h2.looks d.task (.tuple #[mzero.v, .bool false]) (by rw [hm]; rfl)
  have hc : w.cell? ⟨b, 0, none⟩ = some v := by rw [cell_eq, h1]; rfl
  have hb : b < w.heap.size := (Array.getElem?_eq_some_iff.1 h1).1
  clear h1 h2 hm hf
  obtain ⟨d0, d1, d2, d3, d4⟩ := d
  simp only [Deed.v, MTask.v, mzero] at *
  go_enter Try.func22, Try.ntmps22
  go_wp2
  go_region
  go_wp2
  go_ret
  exact DoPost.quiet H.out (by repeat (first | exact Ex.refl _ | refine Ex.alloc ?_ _ | refine Ex.more ?_ _ _ | refine Ex.drew ?_)) HF.out

set_option maxHeartbeats 1000000 in
theorem do_some_no (B b : Nat) (L : MS) (now : Int) (d : Deed) (w : World) (t : MTask) (h : MSt w B b L) (hm : mget L d.task = some t) (hk : d.kind = 1 ∨ d.kind ≠ 1 ∧ t.gone = true) :
    Calls Try.prog 22 #[.pointer (some ⟨b, 0, none⟩), .int .i64 now, d.v] w (DoPost B b (doF L now d) w) := by
  have hf : doF L now d = (L, false) := by
    unfold doF; rw [hm]; simp only
    rw [if_pos]; rcases hk with h | h
    · exact .inl h
    · exact .inr h.2
  have H := Lib.hid h
  have HF := Lib.hid hf
  obtain ⟨_, v, h1, h2⟩ := h
  obtain ⟨hlk, hlk2⟩ := h2.looks d.task (.tuple #[t.v, .bool true]) (by rw [hm]; rfl)
  have hc : w.cell? ⟨b, 0, none⟩ = some v := by rw [cell_eq, h1]; rfl
  have hb : b < w.heap.size := (Array.getElem?_eq_some_iff.1 h1).1
  clear h1 h2 hm hf
  obtain ⟨d0, d1, d2, d3, d4⟩ := d
  obtain ⟨a0, a1, a2, a3, a4⟩ := t
  simp only [Deed.v, MTask.v] at *
  rcases hk with hk | ⟨hk, hg⟩
  · go_enter Try.func22, Try.ntmps22
    go_wp2
    go_region
    go_wp2
    go_ret
    exact DoPost.quiet H.out (by repeat (first | exact Ex.refl _ | refine Ex.alloc ?_ _ | refine Ex.more ?_ _ _ | refine Ex.drew ?_)) HF.out
  · subst hg
    go_enter Try.func22, Try.ntmps22
    go_wp2
    go_region
    go_wp2
    go_ret
    exact DoPost.quiet H.out (by repeat (first | exact Ex.refl _ | refine Ex.alloc ?_ _ | refine Ex.more ?_ _ _ | refine Ex.drew ?_)) HF.out

set_option maxHeartbeats 1000000 in
theorem do_next_no (B b : Nat) (L : MS) (now : Int) (d : Deed) (w : World) (t : MTask) (h : MSt w B b L) (hm : mget L d.task = some t) (hk : d.kind ≠ 1) (hg : t.gone = false) (hn : (nextF t now d).2 = false) :
    Calls Try.prog 22 #[.pointer (some ⟨b, 0, none⟩), .int .i64 now, d.v] w (DoPost B b (doF L now d) w) := by
  have hf : doF L now d = (L, false) := by
    unfold doF; rw [hm]; simp only
    rw [if_neg (by simp [hk, hg]), if_neg (by simp [hn])]
  have H := Lib.hid h
  have HF := Lib.hid hf
  obtain ⟨_, v, h1, h2⟩ := h
  obtain ⟨hlk, hlk2⟩ := h2.looks d.task (.tuple #[t.v, .bool true]) (by rw [hm]; rfl)
  have hc : w.cell? ⟨b, 0, none⟩ = some v := by rw [cell_eq, h1]; rfl
  have hb : b < w.heap.size := (Array.getElem?_eq_some_iff.1 h1).1
  clear h1 h2 hm hf
  generalize hp : nextF t now d = p at hn
  have HP := Lib.hid hp
  clear hp
  obtain ⟨⟨p0, p1, p2, p3, p4⟩, pb⟩ := p
  obtain ⟨d0, d1, d2, d3, d4⟩ := d
  obtain ⟨a0, a1, a2, a3, a4⟩ := t
  simp only [Deed.v, MTask.v] at *
  subst hg hn
  go_enter Try.func22, Try.ntmps22
  go_wp2
  go_region
  go_wp2_with (go_at_call 36; refine (next_any ⟨_, _, _, _, _⟩ _ ⟨_, _, _, _, _⟩ _).mono ?_; rw [HP.out]; rintro e w1 ⟨rfl, hx⟩; obtain ⟨g, n, rfl⟩ := hx.ext; clear hx; simp only [MTask.v])
  go_ret
  exact DoPost.quiet H.out (by repeat (first | exact Ex.refl _ | refine Ex.alloc ?_ _ | refine Ex.more ?_ _ _ | refine Ex.drew ?_)) HF.out
end Go.Proofs.Ytppmbfffnpindaa
