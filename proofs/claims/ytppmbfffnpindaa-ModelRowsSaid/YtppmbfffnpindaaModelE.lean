/- What some deeds do to a task: plain equations. Conditions: the ranges named. -/
import Derived.Test.YtppmbfffnpindaaModelF
import Derived.Test.YtppmbfffnpindaaModelL
namespace Go.Proofs.Ytppmbfffnpindaa
open Go.RowKit
set_option linter.unusedVariables false
set_option linter.unusedSimpArgs false
theorem wrap_of {n : Int} (h : -9223372036854775808 ≤ n ∧ n ≤ 9223372036854775807) : wrap64 n = n := IntWalk.wrap64_in n h
theorem list_a : (ByteArray.mk #[97]).toList = [97] := by decide +kernel
theorem list_b : (ByteArray.mk #[98]).toList = [98] := by decide +kernel
section
variable (id k X N : Int) (th : Bool) (tw u v : ByteArray) (tu : Int) (hk : 0 ≤ k ∧ k ≤ 1000)
include hk
theorem eq_lock_no (q : Int) : doF [(id, ⟨false, th, tw, k, tu⟩)] X ⟨2, id, k, u, q⟩ = ([(id, ⟨false, th, tw, k, tu⟩)], false) := by
  have hwr := wrap_of (n := k + 1) (by omega)
  have h : ¬ (k = k + 1) := by omega
  simp [doF, mget, nextF, takenF, hwr, h]
theorem eq_lock_yes (hu : u.toList ≠ []) (hN : 0 < N) (ht : th = true → tu ≤ X) : doF [(id, ⟨false, th, tw, k, tu⟩)] X ⟨2, id, k + 1, u, X + N⟩ = ([(id, ⟨false, true, u, k + 1, X + N⟩)], true) := by
  have hwr := wrap_of (n := k + 1) (by omega)
  have hc : ¬ ((th = true ∧ X < tu) ∨ u.toList = [] ∨ k + 1 ≠ wrap64 (k + 1) ∨ X + N ≤ X) := by
    rw [hwr]
    rintro (⟨h1, h2⟩ | h | h | h)
    · have := ht h1; omega
    · exact hu h
    · exact h rfl
    · omega
  have hn : nextF ⟨false, th, tw, k, tu⟩ X ⟨2, id, k + 1, u, X + N⟩ = (⟨false, true, u, k + 1, X + N⟩, true) := by
    unfold nextF takenF
    rw [if_pos rfl, if_neg hc]
  simp [doF, mget, mput, hn]
end
section
variable (id k X N : Int) (u v : ByteArray)
theorem eq_early (q e : Int) (hN : 0 < N) : doF [(id, ⟨false, true, u, k + 1, X + N⟩)] (X + N - 1) ⟨2, id, e, v, q⟩ = ([(id, ⟨false, true, u, k + 1, X + N⟩)], false) := by
  have hn : nextF ⟨false, true, u, k + 1, X + N⟩ (X + N - 1) ⟨2, id, e, v, q⟩ = (⟨false, true, u, k + 1, X + N⟩, false) := by
    unfold nextF takenF
    rw [if_pos rfl, if_pos (.inl ⟨rfl, by simp only; omega⟩)]
  simp [doF, mget, hn]
theorem eq_other (e q now : Int) (huv : u.toList ≠ v.toList) : doF [(id, ⟨false, true, u, k + 1, X + N⟩)] now ⟨7, id, e, v, q⟩ = ([(id, ⟨false, true, u, k + 1, X + N⟩)], false) := by
  have hn : nextF ⟨false, true, u, k + 1, X + N⟩ now ⟨7, id, e, v, q⟩ = (⟨false, true, u, k + 1, X + N⟩, false) := by
    unfold nextF toldF
    simp [huv]
  simp [doF, mget, hn]
theorem eq_late (e q : Int) : doF [(id, ⟨false, true, u, k + 1, X + N⟩)] (X + N) ⟨3, id, e, v, q⟩ = ([(id, ⟨false, true, u, k + 1, X + N⟩)], false) := by
  have hn : nextF ⟨false, true, u, k + 1, X + N⟩ (X + N) ⟨3, id, e, v, q⟩ = (⟨false, true, u, k + 1, X + N⟩, false) := by
    unfold nextF toldF
    simp
  simp [doF, mget, hn]
theorem eq_leave (q : Int) (hN : 1 < N) : doF [(id, ⟨false, true, u, k + 1, X + N⟩)] (X + 1) ⟨4, id, k + 1, u, q⟩ = ([(id, ⟨false, false, ⟨#[]⟩, k + 1, 0⟩)], true) := by
  have hn : nextF ⟨false, true, u, k + 1, X + N⟩ (X + 1) ⟨4, id, k + 1, u, q⟩ = (⟨false, false, ⟨#[]⟩, k + 1, 0⟩, true) := by
    unfold nextF toldF
    have : ¬ (X + N ≤ X + 1) := by omega
    simp [this]
  simp [doF, mget, mput, hn]
end
theorem do_is (B b : Nat) (L : MS) (now : Int) (d : Deed) (w : World) (h : MSt w B b L) (p : MS × Bool) (hp : doF L now d = p) :
    Calls Try.prog 22 #[.pointer (some ⟨b, 0, none⟩), .int .i64 now, d.v] w (DoPost B b p w) := by
  rw [← hp]; exact do_any B b L now d w h
end Go.Proofs.Ytppmbfffnpindaa
