/- The contract of package model's Len. No condition. -/
import Derived.Test.YtppmbfffnpindaaModel6
import Derived.Test.YtppmbfffnpindaaMapRange
namespace Go.Proofs.Ytppmbfffnpindaa
open Go.RowKit
set_option linter.unusedVariables false
set_option linter.unusedSimpArgs false
attribute [local go_sem] ext_size ext_drew cell_ext_if frozen_ext_if set_ext_if upd_size upd_drew cell_upd_if frozen_upd_if
attribute [local go_sem low] cell_alloc_if frozen_alloc_if set_alloc_if

def lenF (L : MS) : Nat := (L.filter fun p => !p.2.gone).length
theorem lenF_le (L : MS) : lenF L ≤ L.length := List.length_filter_le _ _
theorem Ex.upd {a w : World} (h : Ex a w) {k : Nat} (hk : a.heap.size ≤ k) (o : Obj) : Ex a (w.upd k o) := by
  have h' : Below _ _ _ := h
  exact ⟨h'.os, h'.tape, h'.output, by rw [upd_size]; exact h'.size, fun j hj => by rw [heap_upd, if_neg (by omega)]; exact h'.block j hj⟩

set_option maxHeartbeats 1000000 in
theorem len_any (B b : Nat) (L : MS) (w : World) (h : MSt w B b L) (hL : L.length ≤ 9223372036854775806) :
    Calls Try.prog 23 #[.pointer (some ⟨b, 0, none⟩)] w fun e w' => e = .returned (.int .i64 (lenF L)) ∧ Ex w w' := by
  obtain ⟨hB, v, h1, h2⟩ := h
  have hc : w.cell? ⟨b, 0, none⟩ = some v := by rw [cell_eq, h1]; rfl
  rcases h2 with ⟨rfl, rfl⟩ | ⟨mb, es, cl, rfl, h3, h4, h5⟩
  · clear h1
    have hr := fun w => run_range_nilMap (P := Try.prog) w 40 _ _ Try.underlying40
    have hn := @run_next_nilMap Try.prog
    go_enter Try.func23, Try.ntmps23
    go_wp2
    refine wp_loop_rounds 1 ?_
    rw [rounds_succ]
    go_wp2
    go_ret
    exact ⟨rfl, (Ex.refl _).alloc _⟩
  · clear h1
    have hr := run_range_begin (P := Try.prog) Try.underlying40 h3 h4.kv
    obtain ⟨hr1, hr2⟩ := hr
    have HI := Lib.hid hr2
    have H3 := Lib.hid h3
    have H4 := Lib.hid h4
    clear hr2 h3 h4
    go_enter Try.func23, Try.ntmps23
    go_wp2_with fail
    go_loopw [3] (fun x wr => ∃ done todo : MS, x = .int .i64 (lenF done) ∧ (done ++ todo).Perm L ∧ Iter ikey MTask.v wr w.heap.size mb es cl todo ∧ Ex w wr) (fun _ wr => iterLeft wr w.heap.size es)
    case atStart => exact ⟨[], L, rfl, by simp, HI.out, (Ex.refl _).alloc _⟩
    case round =>
      obtain ⟨done, todo, rfl, hp, hi, hex⟩ := hrel
      have hmb : wr.heap[mb]? = some (.map es cl) := (Below.block hex mb (Array.getElem?_eq_some_iff.1 H3.out).1).trans H3.out
      have hil := hi.left
      have hlt := hi.lt
      rcases run_next_iter (P := Try.prog) hi hmb H4.out.st with ⟨rfl, hrun⟩ | ⟨l1, p, l2, rfl, w1, o, hw1, hrun, hi2, hent⟩
      · have HEX := Lib.hid hex
        have HP := Lib.hid hp
        clear hex hmb hil hp hi
        go_wp2_with fail
        go_ret
        refine ⟨ri ?_, HEX.out⟩
        have := HP.out
        rw [List.append_nil] at this
        unfold lenF
        rw [(this.filter _).length_eq]
      · obtain ⟨pk, ⟨a0, a1, a2, a3, a4⟩⟩ := p
        have HEX := Lib.hid hex
        have HP := Lib.hid hp
        have HI2 := Lib.hid hi2
        have hlen : done.length + (l1.length + l2.length + 1) = L.length := by
          have := hp.length_eq
          simp at this; omega
        have hll := lenF_le done
        have hen1 : (Instr.entry (.pointer (some ⟨w.heap.size, 0, none⟩))).run Try.prog (w1.upd w.heap.size o) = .ok (.tuple #[ikey pk, MTask.v ⟨a0, a1, a2, a3, a4⟩]) (w1.upd w.heap.size o) := by
          refine hent _ ?_ ?_
          · rw [heap_upd, if_pos rfl, if_pos]; rcases hw1 with rfl | rfl <;> exact hlt
          · rw [heap_upd, if_neg]
            · rcases hw1 with rfl | rfl <;> exact hmb
            · have := (Array.getElem?_eq_some_iff.1 H3.out).1; omega
        have hstep : ((done ++ [(pk, (⟨a0, a1, a2, a3, a4⟩ : MTask))]) ++ (l1 ++ l2)).Perm L := by
          refine List.Perm.trans ?_ hp
          rw [List.append_assoc]
          refine List.Perm.append_left _ ?_
          simpa using (List.perm_middle (a := (pk, (⟨a0, a1, a2, a3, a4⟩ : MTask))) (l₁ := l1) (l₂ := l2)).symm
        have hcnt : lenF (done ++ [(pk, (⟨a0, a1, a2, a3, a4⟩ : MTask))]) = lenF done + if a0 then 0 else 1 := by
          unfold lenF; rw [List.filter_append]; cases a0 <;> simp
        have HS := Lib.hid hstep
        have HCN := Lib.hid hcnt
        have HIL := Lib.hid hil
        have hkp : ∀ X, ((wr.upd w.heap.size o).alloc X).heap[w.heap.size]? = (wr.upd w.heap.size o).heap[w.heap.size]? := fun X => by rw [heap_alloc_at, if_pos (by rw [upd_size]; exact hlt)]
        have HKP := Lib.hid hkp
        clear hil hkp
        clear hex hmb hp hi hi2 hent hstep hcnt
        simp only [MTask.v] at hrun hen1
        cases a0
        all_goals
          rcases hw1 with rfl | rfl
          all_goals
            (try rw [upd_drew] at hen1)
            (try simp only [upd_drew] at hrun)
            go_wp2_with fail
            go_roundw
            case rel => exact ⟨_, _, by rw [HCN.out]; go_num, HS.out, HI2.out.keep (by first | exact HKP.out _ | (simp only [heap_drew, upd_drew]; exact HKP.out _)), by
              (repeat (first | exact HEX.out | refine Ex.alloc ?_ _ | refine Ex.drew ?_ | refine Ex.upd ?_ (Nat.le_refl _) _))⟩
            case measure =>
              first
              | (rw [(HI2.out.keep (HKP.out _)).left, HIL.out]; simp <;> omega)
              | (have hd : ∀ W : World, iterLeft W.drew w.heap.size es = iterLeft W w.heap.size es := fun _ => rfl
                 rw [hd, (Iter.left (HI2.out.keep (w' := (wr.upd w.heap.size o).alloc _) (HKP.out _))), HIL.out]; simp <;> omega)
end Go.Proofs.Ytppmbfffnpindaa
