/- Contracts of package model: Is, Holder. No condition. -/
import Derived.Test.YtppmbfffnpindaaModel2
import Derived.Deep.QuietTactic
import Derived.BigQuiet
namespace Go.Proofs.Ytppmbfffnpindaa
open Go.RowKit
set_option linter.unusedVariables false
set_option linter.unusedSimpArgs false
attribute [local go_sem] ext_size ext_drew cell_ext_if frozen_ext_if set_ext_if
attribute [local go_sem low] cell_alloc_if frozen_alloc_if set_alloc_if

abbrev ikey (k : Int) : Value := .int .i64 k
theorem ikeyOK : KeyOK Try.prog 3 (.int .i64) ikey := ⟨Try.underlying3, fun _ => rfl, fun a b h => by injection h⟩
theorem zeroMT (w : World) : (zeroValue 73).run Try.prog w = .ok mzero.v w := by kernel_rfl

abbrev MS := List (Int × MTask)
def MapV (w : World) (B : Nat) (v : Value) (L : MS) : Prop :=
  (v = .map none ∧ L = []) ∨ ∃ mb es cl, v = .map (some mb) ∧ w.heap[mb]? = some (.map es cl) ∧ Ents ikey MTask.v es cl L ∧ B ≤ mb
/-- Block b is a Model that holds L; it and its map lie from block B on. -/
def MSt (w : World) (B b : Nat) (L : MS) : Prop := B ≤ b ∧ ∃ v, w.heap[b]? = some (.cells #[v] 42) ∧ MapV w B v L

theorem MapV.keep {w w' : World} {B : Nat} {v : Value} {L : MS} (h : MapV w B v L) (hw : ∀ j, j < w.heap.size → w'.heap[j]? = w.heap[j]?) : MapV w' B v L := by
  rcases h with h | ⟨mb, es, cl, h1, h2, h3⟩
  · exact .inl h
  · exact .inr ⟨mb, es, cl, h1, (hw mb (Array.getElem?_eq_some_iff.1 h2).1).trans h2, h3⟩
theorem MSt.lt {w : World} {B b : Nat} {L : MS} (h : MSt w B b L) : b < w.heap.size := by
  obtain ⟨_, v, h1, _⟩ := h
  exact (Array.getElem?_eq_some_iff.1 h1).1
theorem MSt.ex {w w' : World} {B b : Nat} {L : MS} (h : MSt w B b L) (hx : Ex w w') : MSt w' B b L := by
  obtain ⟨h0, v, h1, h2⟩ := h
  exact ⟨h0, v, (Below.block hx b (Array.getElem?_eq_some_iff.1 h1).1).trans h1, h2.keep fun j hj => Below.block hx j hj⟩
theorem MapV.look {w : World} {B : Nat} {v : Value} {L : MS} (h : MapV w B v L) (k : Int) (ok : Bool) :
    (Instr.lookup 40 v (.int .i64 k) ok).run Try.prog w = .ok (if ok then .tuple #[((mget L k).getD mzero).v, .bool (mget L k).isSome] else ((mget L k).getD mzero).v) w := by
  rcases h with ⟨rfl, rfl⟩ | ⟨mb, es, cl, rfl, h2, h3, _⟩
  · exact run_lookup_nil ikeyOK Try.underlying40 (zeroMT w) k ok
  · have := run_lookup (enc := MTask.v) ikeyOK Try.underlying40 (zeroMT w) h2 h3 k ok
    rw [show (.int .i64 k : Value) = ikey k from rfl, this]
    cases mget L k <;> rfl

def thereB (L : MS) (k : Int) : Bool := match mget L k with | none => false | some t => !t.gone
def goneB (L : MS) (k : Int) : Bool := match mget L k with | none => false | some t => t.gone

set_option maxHeartbeats 1000000 in
theorem is_any (B b : Nat) (L : MS) (k : Int) (w : World) (h : MSt w B b L) :
    Calls Try.prog 20 #[.pointer (some ⟨b, 0, none⟩), .int .i64 k] w fun e w' => e = .returned (.tuple #[.bool (thereB L k), .bool (goneB L k)]) ∧ Ex w w' := by
  obtain ⟨_, v, h1, h2⟩ := h
  have hlk := h2.look k true
  have hc : w.cell? ⟨b, 0, none⟩ = some v := by rw [cell_eq, h1]; rfl
  unfold thereB goneB
  cases hm : mget L k with
  | none =>
    rw [hm] at hlk
    simp only [MTask.v, mzero, Option.getD_none, Option.isSome_none, if_true] at hlk
    clear h1 h2 hm
    go_enter Try.func20, Try.ntmps20
    go_wp2
    go_region
    all_goals
      go_wp2
      go_ret2
      exact ⟨rfl, by repeat (first | exact Ex.refl _ | refine Ex.alloc ?_ _ | refine Ex.more ?_ _ _ | refine Ex.drew ?_)⟩
  | some t =>
    obtain ⟨a0, a1, a2, a3, a4⟩ := t
    rw [hm] at hlk
    simp only [MTask.v, Option.getD_some, Option.isSome_some, if_true] at hlk
    clear h1 h2 hm
    go_enter Try.func20, Try.ntmps20
    go_wp2
    go_region
    all_goals
      go_wp2
      go_ret2
      exact ⟨rfl, by repeat (first | exact Ex.refl _ | refine Ex.alloc ?_ _ | refine Ex.more ?_ _ _ | refine Ex.drew ?_)⟩

theorem results_tmp4 {fn : Func} {t u v x : Tmp} (h : fn.results = #[.tmp t, .tmp u, .tmp v, .tmp x]) (tmps : Array Value) (P : Program) (w : World) :
    (results fn tmps).run P w = .ok (.tuple #[tmps.getD t undef, tmps.getD u undef, tmps.getD v undef, tmps.getD x undef]) w := by simp [results, h]

/-- Holder's four answers. -/
def holderV (L : MS) (k : Int) : Value := match mget L k with
  | none => .tuple #[.string ⟨#[]⟩, .int .i64 0, .int .i64 0, .bool false]
  | some t => if t.held then .tuple #[.string t.worker, .int .i64 t.epoch, .int .i64 t.until_, .bool true] else .tuple #[.string ⟨#[]⟩, .int .i64 0, .int .i64 0, .bool false]
set_option maxHeartbeats 1000000 in
theorem holder_any (B b : Nat) (L : MS) (k : Int) (w : World) (h : MSt w B b L) :
    Calls Try.prog 21 #[.pointer (some ⟨b, 0, none⟩), .int .i64 k] w fun e w' => e = .returned (holderV L k) ∧ Ex w w' := by
  obtain ⟨_, v, h1, h2⟩ := h
  have hlk := h2.look k false
  have hc : w.cell? ⟨b, 0, none⟩ = some v := by rw [cell_eq, h1]; rfl
  unfold holderV
  cases hm : mget L k with
  | none =>
    rw [hm] at hlk
    simp only [MTask.v, mzero, Option.getD_none, Bool.false_eq_true, if_false] at hlk
    clear h1 h2 hm
    go_enter Try.func21, Try.ntmps21
    go_wp2
    refine bodyPost_ret (results_tmp4 rfl _ _ _) rfl ?_
    exact ⟨rfl, by repeat (first | exact Ex.refl _ | refine Ex.alloc ?_ _ | refine Ex.more ?_ _ _ | refine Ex.drew ?_)⟩
  | some t =>
    obtain ⟨a0, a1, a2, a3, a4⟩ := t
    rw [hm] at hlk
    simp only [MTask.v, Option.getD_some, Bool.false_eq_true, if_false] at hlk
    clear h1 h2 hm
    cases a1
    · go_enter Try.func21, Try.ntmps21
      go_wp2
      refine bodyPost_ret (results_tmp4 rfl _ _ _) rfl ?_
      exact ⟨rfl, by repeat (first | exact Ex.refl _ | refine Ex.alloc ?_ _ | refine Ex.more ?_ _ _ | refine Ex.drew ?_)⟩
    · go_enter Try.func21, Try.ntmps21
      go_wp2
      go_region
      go_wp2
      refine bodyPost_ret (results_tmp4 rfl _ _ _) rfl ?_
      exact ⟨rfl, by repeat (first | exact Ex.refl _ | refine Ex.alloc ?_ _ | refine Ex.more ?_ _ _ | refine Ex.drew ?_)⟩
end Go.Proofs.Ytppmbfffnpindaa
