/- Contracts of functions that the laws of package lease reach; each says what a call returns, for every argument, and that old memory stays. No condition. -/
import Derived.Test.YtppmbfffnpindaaRows
import Derived.WalkKit
import Derived.WalkSpells
import Derived.WalkLawsBesides
import Derived.Deep.QuietTactic
import Derived.BigQuiet
import Derived.Lib.Hide
namespace Go.Proofs.Ytppmbfffnpindaa
open Go.RowKit
set_option linter.unusedVariables false
set_option linter.unusedSimpArgs false

/-- A call returned v, and what lay in memory lies as it did. -/
def Ret (v : Value) (w : World) (e : Ending) (w' : World) : Prop := e = .returned v ∧ Below w.heap.size w w'
/-- A call returned v, and left the world alone. -/
def RetQ (v : Value) (w : World) (e : Ending) (w' : World) : Prop := e = .returned v ∧ w = w'

theorem rb {a b : Bool} (h : a = true ↔ b = true) : Ending.returned (.bool a) = Ending.returned (.bool b) := by rw [Bool.eq_iff_iff.2 h]
theorem ri {k : IntKind} {a b : Int} (h : a = b) : Ending.returned (.int k a) = Ending.returned (.int k b) := by rw [h]

theorem rib {k : IntKind} {a b : Int} {c d : Bool} (h : a = b) (h' : c = true ↔ d = true) : Ending.returned (.tuple #[.int k a, .bool c]) = Ending.returned (.tuple #[.int k b, .bool d]) := by rw [h, Bool.eq_iff_iff.2 h']

/-- What lay in memory lies as it did; new blocks may have come. -/
def Ex (w w' : World) : Prop := Below w.heap.size w w'
theorem Ex.refl (w : World) : Ex w w := Below.refl _ _
theorem Ex.trans {a b c : World} (h : Ex a b) (h' : Ex b c) : Ex a c := Below.trans h (Below.mono h' (Below.size h))
theorem Ex.alloc {a b : World} (h : Ex a b) (o : Obj) : Ex a (b.alloc o) := Below.alloc h (Below.size h) o
theorem Ex.drew {a b : World} (h : Ex a b) : Ex a b.drew := Below.drew h
theorem Ex.setCell {a b : World} (h : Ex a b) {p : Addr} (hp : a.heap.size ≤ p.block) (v : Value) : Ex a (b.setCell p v) := Below.setCell h hp v
theorem Ex.size {a b : World} (h : Ex a b) : a.heap.size ≤ b.heap.size := Below.size h
theorem Ex.cells {W w1 : World} (hb : Ex W w1) : (∀ b o, b < W.heap.size → w1.cell? ⟨b, o, none⟩ = W.cell? ⟨b, o, none⟩) ∧ (∀ b o, b < W.heap.size → w1.frozen? ⟨b, o, none⟩ = W.frozen? ⟨b, o, none⟩) :=
  ⟨fun b o h => Below.cell (p := ⟨b, o, none⟩) hb h, fun b o h => Below.frozen (p := ⟨b, o, none⟩) hb h⟩
/-- w, with more blocks behind, and as much drawn. -/
def _root_.Go.World.ext (w : World) (g : Array Obj) (n : Nat) : World := { w with heap := w.heap ++ g, drawn := n }
theorem Ex.ext {w w' : World} (h : Ex w w') : ∃ g n, w' = w.ext g n := by
  refine ⟨w'.heap.extract w.heap.size w'.heap.size, w'.drawn, ?_⟩
  obtain ⟨h1, h2, h3, h4, h5⟩ := h
  have hh : w'.heap = w.heap ++ w'.heap.extract w.heap.size w'.heap.size := by
    apply Array.ext_getElem?
    intro k
    rw [Array.getElem?_append]
    split
    · rename_i hk; exact h5 k hk
    · rename_i hk
      rw [Array.getElem?_extract]
      split
      · congr 1; omega
      · rw [Array.getElem?_eq_none]; omega
  unfold World.ext
  rw [← hh]
  cases w; cases w'
  simp only at *
  subst h1 h2 h3
  rfl
theorem Ex.of_ext (w : World) (g : Array Obj) (n : Nat) : Ex w (w.ext g n) :=
  ⟨rfl, rfl, rfl, by simp [World.ext], fun k hk => by simp [World.ext, Array.getElem?_append, hk]⟩
theorem Ex.more {a w : World} (h : Ex a w) (g : Array Obj) (n : Nat) : Ex a (w.ext g n) := h.trans (Ex.of_ext w g n)

/-- A cell that nobody asks for. -/
def cellAway (g : Array Obj) (b i : Nat) : Option Value := (World.cell? { (default : World) with heap := g } ⟨b, i, none⟩)
section
variable (w : World) (g : Array Obj) (m : Nat) (b i : Nat) (v : Value)
theorem ext_size : (w.ext g m).heap.size = w.heap.size + g.size := by simp [World.ext]
theorem ext_drew : w.drew.ext g m = w.ext g m := rfl
theorem ext_tape : (w.ext g m).tape = w.tape := rfl
theorem cell_ext (h : b < w.heap.size) : (w.ext g m).cell? ⟨b, i, none⟩ = w.cell? ⟨b, i, none⟩ := (Ex.of_ext w g m).cells.1 b i h
theorem frozen_ext (h : b < w.heap.size) : (w.ext g m).frozen? ⟨b, i, none⟩ = w.frozen? ⟨b, i, none⟩ := (Ex.of_ext w g m).cells.2 b i h
theorem set_ext (h : b < w.heap.size) : (w.ext g m).setCell ⟨b, i, none⟩ v = (w.setCell ⟨b, i, none⟩ v).ext g m := by
  unfold World.setCell World.ext
  congr 1
  apply Array.ext_getElem?
  intro k
  simp only [Array.getElem?_modify, Array.getElem?_append, Array.size_modify]
  by_cases hk : k < w.heap.size
  · simp [hk]
  · have : b ≠ k := by omega
    simp [hk, this]
end
/-! .. as the walk takes them: the test is omega's; what it does not decide stands behind a name. -/
def cellOff (w : World) (b i : Nat) : Option Value := w.cell? ⟨b, i, none⟩
def frozenOff (w : World) (b i : Nat) : Bool := w.frozen? ⟨b, i, none⟩
def setOff (w : World) (b i : Nat) (v : Value) : World := w.setCell ⟨b, i, none⟩ v
section
variable (w : World) (g : Array Obj) (m : Nat) (b i : Nat) (v : Value) (o : Obj)
theorem cell_ext_if : (w.ext g m).cell? ⟨b, i, none⟩ = if b < w.heap.size then w.cell? ⟨b, i, none⟩ else cellOff (w.ext g m) b i := by
  split
  · exact cell_ext _ _ _ _ _ ‹_›
  · rfl
theorem frozen_ext_if : (w.ext g m).frozen? ⟨b, i, none⟩ = if b < w.heap.size then w.frozen? ⟨b, i, none⟩ else frozenOff (w.ext g m) b i := by
  split
  · exact frozen_ext _ _ _ _ _ ‹_›
  · rfl
theorem set_ext_if : (w.ext g m).setCell ⟨b, i, none⟩ v = if b < w.heap.size then (w.setCell ⟨b, i, none⟩ v).ext g m else setOff (w.ext g m) b i v := by
  split
  · exact set_ext _ _ _ _ _ _ ‹_›
  · rfl
theorem cell_alloc_if : (w.alloc o).cell? ⟨b, i, none⟩ = if b < w.heap.size then w.cell? ⟨b, i, none⟩ else cellOff (w.alloc o) b i := by
  split
  · exact World.cell?_alloc_past _ _ _ ‹_›
  · rfl
theorem frozen_alloc_if : (w.alloc o).frozen? ⟨b, i, none⟩ = if b < w.heap.size then w.frozen? ⟨b, i, none⟩ else frozenOff (w.alloc o) b i := by
  split
  · exact World.frozen?_alloc_past _ _ _ ‹_›
  · rfl
theorem set_alloc_if : (w.alloc o).setCell ⟨b, i, none⟩ v = if b < w.heap.size then (w.setCell ⟨b, i, none⟩ v).alloc o else setOff (w.alloc o) b i v := by
  split
  · exact World.setCell_alloc_past _ _ _ _ ‹_›
  · rfl
end

/-! ### vars.Name -/
def signB (c : Int) : Bool := (decide (97 ≤ c) && decide (c ≤ 122)) || (decide (48 ≤ c) && decide (c ≤ 57)) || c == 95 || c == 45
theorem signB_iff (c : Int) : signB c = true ↔ (97 ≤ c ∧ c ≤ 122) ∨ (48 ≤ c ∧ c ≤ 57) ∨ c = 95 ∨ c = 45 := by
  simp [signB, or_assoc]
set_option maxHeartbeats 400000 in
theorem nameSign_any (c : Int) (w : World) :
    Calls Try.prog 38 #[.int .u8 c] w (RetQ (.bool (signB c)) w) := by
  go_enter Try.func38, Try.ntmps38
  go_wp2
  all_goals
    go_ret
    exact ⟨rb (by rw [signB_iff]; simp <;> omega), rfl⟩

def signsTo (s : ByteArray) (k : Nat) : Bool := (s.data.toList.take k).all fun c => signB c.toNat
/-- vars.Name. -/
def nameB (s : ByteArray) : Bool := decide (1 ≤ s.size) && decide (s.size ≤ 24) && signsTo s s.size
theorem signsTo_step (s : ByteArray) (k : Nat) (h : k < s.size) : signsTo s (k + 1) = (signsTo s k && signB (s[k].toNat : Int)) := by
  unfold signsTo
  rw [List.take_succ_eq_append_getElem (by simpa using h), List.all_append]
  simp
  rfl
theorem signsTo_false (s : ByteArray) (k : Nat) (h : k < s.size) (hf : signB (s[k].toNat : Int) = false) : signsTo s s.size = false := by
  unfold signsTo
  rw [List.take_of_length_le (by simp)]
  refine List.all_eq_false.2 ⟨s[k], ?_, by simpa using hf⟩
  show s.data[k] ∈ _
  simp

set_option maxHeartbeats 400000 in
theorem name_any (s : ByteArray) (w : World) :
    Calls Try.prog 33 #[.string s] w (RetQ (.bool (nameB s)) w) := by
  by_cases hs : 1 ≤ s.size
  · by_cases hs2 : s.size ≤ 24
    · go_enter Try.func33, Try.ntmps33
      go_wp2
      go_loop [14] (fun i => ∃ k : Nat, k ≤ s.size ∧ i = .int .i64 k ∧ Hid (signsTo s k = true)) (fun i => s.size - (intOf i).toNat)
      case atStart => exact ⟨0, Nat.zero_le _, rfl, rfl⟩
      case round =>
        obtain ⟨k, hk, rfl, hsg⟩ := hrel
        by_cases hlt : k < s.size
        · cases hc : signB (s[k].toNat : Int)
          · go_wp2_with (go_at_call 38; refine (nameSign_any _ _).mono ?_; rintro e w' ⟨rfl, rfl⟩)
            go_ret
            exact ⟨rb (by simp [nameB, signsTo_false s k hlt hc]), rfl⟩
          · go_wp2_with (go_at_call 38; refine (nameSign_any _ _).mono ?_; rintro e w' ⟨rfl, rfl⟩)
            go_round
            case rel => exact ⟨k + 1, by omega, by go_num, by have := hsg.out; show _ = _; rw [signsTo_step s k hlt, this, hc]; rfl⟩
            case measure => simp [intOf]; omega
        · go_wp2_with fail
          go_ret
          exact ⟨rb (by have := hsg.out; obtain rfl : k = s.size := by omega
                        simp [nameB, this, hs, hs2]), rfl⟩
    · go_enter Try.func33, Try.ntmps33
      go_wp2
      go_ret
      exact ⟨rb (by simp [nameB]; omega), rfl⟩
  · go_enter Try.func33, Try.ntmps33
    go_wp2
    go_ret
    exact ⟨rb (by simp [nameB]; omega), rfl⟩

def numB (n b : Int) : Int := n % b
theorem numB_lo (n b : Int) (hb : 0 < b) : 0 ≤ numB n b := Int.emod_nonneg _ (by omega)
theorem numB_hi (n b : Int) (hb : 0 < b) : numB n b < b := Int.emod_lt_of_pos _ hb
theorem tmod_numB (n b : Int) (hb : 0 < b) : n.tmod b = numB n b ∧ 0 ≤ n.tmod b ∨ n.tmod b < 0 ∧ n.tmod b + b = numB n b := by
  unfold numB
  have h1 := Int.emod_eq_of_lt (a := n.tmod b) (b := b)
  have h2 := Int.emod_eq_of_lt (a := n.tmod b + b) (b := b)
  have e1 := Int.tmod_lt_of_pos n hb
  have e2 : -b < n.tmod b := by have := Int.tmod_lt_of_pos (-n) hb; rw [Int.neg_tmod] at this; omega
  have h3 : n % b = n.tmod b % b := by
    have := Int.tmod_add_mul_tdiv n b
    conv => lhs; rw [← this]
    rw [Int.add_mul_emod_self_left]
  rcases Int.lt_or_le (n.tmod b) 0 with h | h
  · right
    refine ⟨h, ?_⟩
    rw [h3, ← h2 (by omega) (by omega), Int.add_emod_right]
  · left
    exact ⟨by rw [h3, h1 h e1], h⟩
set_option maxHeartbeats 400000 in
theorem number_any (n b : Int) (hb : 0 < b) (hb2 : b ≤ 9223372036854775807) (w : World) :
    Calls Try.prog 11 #[.int .i64 n, .int .i64 b] w fun e w' => ∃ r, e = .returned (.int .i64 r) ∧ Hid (r = numB n b) ∧ 0 ≤ r ∧ r < b ∧ w = w' := by
  have e1 := Int.tmod_lt_of_pos n hb
  have e2 : -b < n.tmod b := by have := Int.tmod_lt_of_pos (-n) hb; rw [Int.neg_tmod] at this; omega
  have e3 := Lib.hid (tmod_numB n b hb)
  go_enter Try.func11, Try.ntmps11
  go_wp2
  all_goals
    go_ret
    exact ⟨_, rfl, by have := e3.out; show _ = _; omega, by omega, by omega, rfl⟩


end Go.Proofs.Ytppmbfffnpindaa
