/- Ranging over a map, said of the list of its entries. No condition beyond each theorem's own. -/
import Derived.Test.YtppmbfffnpindaaMapBase
import Derived.Maps.RangeWalk
namespace Go.Proofs.Ytppmbfffnpindaa
open Go.RowKit Go.MapKept
set_option linter.unusedVariables false
set_option linter.unusedSimpArgs false

section
variable {κ α : Type} {key : κ → Value} {enc : α → Value}
/-- Block r is an iterator over the map at mb that has todo still to come. -/
def Iter (key : κ → Value) (enc : α → Value) (w : World) (r mb : Nat) (es : Array MapEntry) (cl : Nat) (todo : List (κ × α)) : Prop :=
  ∃ seen c0, w.heap[r]? = some (.mapIter (some mb) cl seen c0) ∧ cl ≤ c0 ∧ (es.toList.filter fun e => !seen.contains e.born).map (fun e => (e.key, e.val)) = todo.map fun p => (key p.1, enc p.2)

theorem Iter.keep {w w' : World} {r mb : Nat} {es : Array MapEntry} {cl : Nat} {todo : List (κ × α)} (h : Iter key enc w r mb es cl todo) (hr : w'.heap[r]? = w.heap[r]?) : Iter key enc w' r mb es cl todo := by
  obtain ⟨seen, c0, h1, h2, h3⟩ := h
  exact ⟨seen, c0, hr.trans h1, h2, h3⟩
theorem Iter.lt {w : World} {r mb : Nat} {es : Array MapEntry} {cl : Nat} {todo : List (κ × α)} (h : Iter key enc w r mb es cl todo) : r < w.heap.size := by
  obtain ⟨seen, c0, h1, _⟩ := h
  exact (Array.getElem?_eq_some_iff.1 h1).1

/-- 'range m' begins. -/
theorem run_range_begin {P : Program} {T K E : TypeId} (hT : P.underlying T = some (.map K E)) {w : World} {mb : Nat} {es : Array MapEntry} {cl : Nat} {L : List (κ × α)} (hb : w.heap[mb]? = some (.map es cl)) (he : es.toList.map (fun e => (e.key, e.val)) = L.map fun p => (key p.1, enc p.2)) :
    (Instr.range T (.map (some mb))).run P w = .ok (.pointer (some ⟨w.heap.size, 0, none⟩)) (w.alloc (.mapIter (some mb) cl #[] cl)) ∧ Iter key enc (w.alloc (.mapIter (some mb) cl #[] cl)) w.heap.size mb es cl L := by
  refine ⟨run_range_map w T K E mb es cl hT hb, #[], cl, (MapKept.heap_alloc w _).1, Nat.le_refl _, ?_⟩
  rw [List.filter_eq_self.2 (by simp), he]

theorem map_split {β γ δ : Type} {f : β → δ} {g : γ → δ} : ∀ {l : List β} {m : List γ}, l.map f = m.map g → ∀ {x : β} {l1 l2 : List β}, l = l1 ++ x :: l2 → ∃ m1 y m2, m = m1 ++ y :: m2 ∧ f x = g y ∧ l1.map f = m1.map g ∧ l2.map f = m2.map g := by
  intro l m h x l1 l2 e
  subst e
  rw [List.map_append, List.map_cons] at h
  obtain ⟨m1, m', rfl, h1, h2⟩ := List.map_eq_append_iff.1 h.symm
  obtain ⟨y, m2, rfl, h3, h4⟩ := List.map_eq_cons_iff.1 h2
  exact ⟨m1, y, m2, rfl, h3.symm, h1.symm, h4.symm⟩

/-- 'next': nothing is left, or one of those that are. -/
theorem run_next_iter {P : Program} {w : World} {r mb : Nat} {es : Array MapEntry} {cl : Nat} {todo : List (κ × α)} (h : Iter key enc w r mb es cl todo) (hb : w.heap[mb]? = some (.map es cl)) (hst : Stamped es cl) :
    (todo = [] ∧ ∀ ty, (Instr.next (.pointer (some ⟨r, 0, none⟩)) false ty).run P w = .ok (.tuple #[.bool false]) w) ∨
    ∃ l1 p l2, todo = l1 ++ p :: l2 ∧ ∃ w1 o, (w1 = w ∨ w1 = w.drew) ∧ (∀ ty, (Instr.next (.pointer (some ⟨r, 0, none⟩)) false ty).run P w = .ok (.tuple #[.bool true, key p.1, enc p.2]) (w1.upd r o)) ∧
      Iter key enc (w1.upd r o) r mb es cl (l1 ++ l2) ∧ ∀ w', w'.heap[r]? = some o → w'.heap[mb]? = some (.map es cl) → (Instr.entry (.pointer (some ⟨r, 0, none⟩))).run P w' = .ok (.tuple #[key p.1, enc p.2]) w' := by
  obtain ⟨hs1, hs2, hs3⟩ := (stamped_iff es cl).1 hst
  have hrl := h.lt
  obtain ⟨seen, c0, h1, h2, h3⟩ := h
  rcases Go.run_next_at (P := P) w 0 r mb cl c0 seen es cl h1 hb hs1 h2 with ⟨hz, hrun⟩ | ⟨e, he, w1, hw1, hrun⟩
  · left
    refine ⟨?_, fun _ => hrun⟩
    have : (es.toList.filter fun e => !seen.contains e.born) = [] := by
      have : (Go.leftOf es seen).toList = [] := by simpa using hz
      unfold Go.leftOf at this
      rwa [Array.toList_filter] at this
    rw [this] at h3
    simpa using h3.symm
  · right
    have he' : e ∈ es.toList.filter fun e => !seen.contains e.born := by
      unfold Go.leftOf at he
      rwa [Array.toList_filter] at he
    obtain ⟨a, b, hab⟩ := List.append_of_mem he'
    obtain ⟨l1, p, l2, rfl, hp, hl1, hl2⟩ := map_split h3 hab
    simp only [Prod.mk.injEq] at hp
    have hmem : e ∈ es.toList := (List.mem_filter.1 he').1
    refine ⟨l1, p, l2, rfl, w1, .mapIter (some mb) cl (seen.push e.born) cl, hw1, fun ty => by rw [← hp.1, ← hp.2]; exact hrun, ?_, ?_⟩
    · refine ⟨seen.push e.born, cl, ?_, Nat.le_refl _, ?_⟩
      · rw [heap_upd, if_pos rfl, if_pos]
        rcases hw1 with rfl | rfl <;> exact hrl
      · have hnd : (a ++ e :: b).map (·.born) |>.Nodup := by
          rw [← hab]
          exact List.Nodup.sublist (List.Sublist.map _ List.filter_sublist) hs2
        have hf : (es.toList.filter fun x => !(seen.push e.born).contains x.born) = a ++ b := by
          have : (es.toList.filter fun x => !(seen.push e.born).contains x.born) = (es.toList.filter fun x => !seen.contains x.born).filter fun x => x.born != e.born := by
            rw [List.filter_filter]
            apply List.filter_congr
            intro x _
            simp [Bool.and_comm, bne]
            by_cases hx : x.born = e.born
            · simp [hx]
            · simp [hx]
          rw [this, hab, List.filter_append, List.filter_cons]
          simp only [bne_self_eq_false, Bool.false_eq_true, if_false]
          simp only [List.map_append, List.map_cons] at hnd
          rw [List.nodup_append] at hnd
          obtain ⟨_, hn2, hn3⟩ := hnd
          rw [List.filter_eq_self.2, List.filter_eq_self.2]
          · intro x hx
            simp only [bne_iff_ne, ne_eq]
            intro e'
            exact (List.nodup_cons.1 hn2).1 (List.mem_map.2 ⟨x, hx, e'⟩)
          · intro x hx
            simp only [bne_iff_ne, ne_eq]
            intro e'
            exact hn3 _ (List.mem_map.2 ⟨x, hx, rfl⟩) _ (List.mem_cons_self) e'
        rw [hf, List.map_append, List.map_append, hl1, hl2]
    · intro w' hr' hb'
      rw [Go.run_entry_at w' r mb cl seen es cl e hr' hb' hmem hs2, hp.1, hp.2]
/-- How many an iterator has left. -/
def iterLeft (w : World) (r : Nat) (es : Array MapEntry) : Nat := match w.heap[r]? with
  | some (.mapIter _ _ seen _) => (es.toList.filter fun e => !seen.contains e.born).length
  | _ => 0
theorem Iter.left {w : World} {r mb : Nat} {es : Array MapEntry} {cl : Nat} {todo : List (κ × α)} (h : Iter key enc w r mb es cl todo) : iterLeft w r es = todo.length := by
  obtain ⟨seen, c0, h1, _, h3⟩ := h
  unfold iterLeft
  rw [h1]
  simpa using congrArg List.length h3
end
end Go.Proofs.Ytppmbfffnpindaa
