/- The law 5's seat: its masks, its sentinels, the facts of the reckoner. No condition. -/
import Derived.Test.YtjphohhpnoobfaaDoorSx19
import Derived.Test.YtjphohhpnoobfaaDoorChecked
import Derived.KernelRfl
namespace Go.Proofs.YtjphohhpnoobfaaDoor.Sx
open Go Go.RowKit Go.Proofs
set_option linter.unusedVariables false
set_option linter.unusedSectionVars false
set_option maxRecDepth 100000
noncomputable def msk : List Nat := [0, 0, 0, 261903, 262087, 65523, 6131, 133168911, 7, 5, 499, 61, 247, 19, 27, 19, 132226261520350065984243, 5, 3, 1971, 247, 29687, 1015, 5, 31, 29, 1, 5, 51, 199, 5, 19, 455, 5, 5, 5, 137438953975, 1, 5, 455, 29, 5, 5, 19, 19, 7229, 5, 31, 1, 19, 1, 51, 3629, 19, 5, 19, 5, 0, 7, 29, 3, 455, 27, 51, 7, 69575, 3103, 7, 4436815786425030573372052062151, 19, 19, 71, 71, 5, 61, 13, 5, 5, 5, 755, 5, 13, 131059, 523295, 5, 5, 5, 5, 5, 5, 5, 0, 0, 0, 0, 0, 0, 0, 0, 0, 0, 0, 0, 0, 0, 0, 0, 0, 0, 0, 0, 0, 0, 0, 0, 0, 0, 0, 0, 0, 0, 0, 0, 0, 0, 0, 0, 0, 0, 0, 0, 0, 0, 0, 0]
noncomputable def sents : List Sent := [⟨"strconv.ErrRange", 18, [118, 97, 108, 117, 101, 32, 111, 117, 116, 32, 111, 102, 32, 114, 97, 110, 103, 101]⟩, ⟨"strconv.ErrSyntax", 17, [105, 110, 118, 97, 108, 105, 100, 32, 115, 121, 110, 116, 97, 120]⟩, ⟨"leasehold/api.ErrEnd", 5, [105, 116, 32, 101, 110, 100, 115, 32, 116, 111, 111, 32, 101, 97, 114, 108, 121]⟩, ⟨"leasehold/api.ErrShape", 6, [110, 111, 116, 32, 97, 115, 32, 105, 116, 32, 104, 97, 115, 32, 116, 111, 32, 98, 101]⟩, ⟨"leasehold/api.ErrSum", 7, [97, 32, 115, 117, 109, 32, 116, 104, 97, 116, 32, 100, 111, 101, 115, 32, 110, 111, 116, 32, 102, 105, 116]⟩, ⟨"leasehold/api.ErrMany", 8, [116, 111, 111, 32, 109, 97, 110, 121, 44, 32, 111, 114, 32, 116, 111, 111, 32, 102, 101, 119]⟩, ⟨"leasehold/api.ErrLong", 1, [116, 111, 111, 32, 108, 111, 110, 103]⟩, ⟨"leasehold/api.ErrName", 9, [97, 32, 110, 97, 109, 101, 32, 116, 104, 97, 116, 32, 99, 97, 110, 39, 116, 32, 98, 101]⟩, ⟨"leasehold/api.ErrRange", 10, [97, 32, 110, 117, 109, 98, 101, 114, 32, 111, 117, 116, 32, 111, 102, 32, 105, 116, 115, 32, 114, 97, 110, 103, 101]⟩, ⟨"leasehold/api.ErrNone", 3, [116, 104, 101, 114, 101, 32, 105, 115, 32, 110, 111, 110, 101]⟩, ⟨"leasehold/api.ErrTwice", 11, [111, 110, 101, 32, 116, 104, 105, 110, 103, 32, 116, 119, 105, 99, 101]⟩, ⟨"leasehold/api.ErrType", 0, [111, 102, 32, 97, 110, 111, 116, 104, 101, 114, 32, 116, 121, 112, 101]⟩, ⟨"leasehold/api.ErrSyntax", 2, [110, 111, 116, 32, 97, 110, 32, 101, 120, 112, 114, 101, 115, 115, 105, 111, 110]⟩, ⟨"leasehold/api.ErrDeep", 12, [116, 111, 111, 32, 100, 101, 101, 112]⟩, ⟨"leasehold/api.ErrZero", 4, [97, 32, 100, 105, 118, 105, 115, 105, 111, 110, 32, 98, 121, 32, 110, 111, 116, 104, 105, 110, 103]⟩, ⟨"leasehold/api.ErrFull", 13, [116, 104, 101, 114, 101, 32, 105, 115, 32, 110, 111, 32, 114, 111, 111, 109]⟩, ⟨"leasehold/api.ErrDead", 14, [116, 104, 101, 32, 112, 111, 119, 101, 114, 32, 105, 115, 32, 103, 111, 110, 101]⟩, ⟨"leasehold/api.ErrStuck", 15, [110, 111, 32, 119, 97, 121, 32, 103, 111, 101, 115, 32, 111, 110]⟩]
/-- The memory that the sentinels make. -/
noncomputable def A0 : AW := layS 112 22 sents 0 ⟨22 + sents.length, .nil, 0⟩
noncomputable def lawE (fs : List Fact) : Env := stdEnv Tryd.prog msk fs [57]
noncomputable def run1 (fs : List Fact) (f : Nat) (args : List Value) : Bool := isTrue (evalFn (lawE fs) 1000 100 f args A0)

theorem star : "*" ++ "errors.errorString" = "*errors.errorString" := by decide
theorem sentOK : SentOK Tryd.prog 112 :=
  ⟨32, 114, 9, _, _, Tryd.underlying32, fun u h => typeName_ptr_named (nm := "errors.errorString") (by rw [star]; kernel_rfl) (by kernel_rfl) (by decide) u (by rw [star]; exact h), Tryd.underlying112,
    Tryd.underlying114, rfl, rfl, Tryd.underlying9, by kernel_rfl, by kernel_rfl⟩
theorem isTrue_inv {x : Option (Value × AW)} (h : isTrue x = true) : ∃ A, x = some (.bool true, A) := by
  unfold isTrue at h
  split at h
  · exact ⟨_, rfl⟩
  · cases h
theorem names_ok : (Tryd.prog.funcs.toList.all fun fn => !(fn.name == "runtime.NumGoroutine")) = true := by kernel_rfl
theorem mixed_ok : Tryd.prog.follows .mixedOrders = true := by kernel_rfl
theorem sents_ok : (sents.all fun s => (Tryd.prog.globalNamed s.name == some s.g) && ((Tryd.prog.globals[s.g]?).map (·.type) == some 32) && Nat.blt s.g 22) = true := by kernel_rfl
variable [Rho]
theorem cmp_ok : ExtOK Tryd.prog 57 := ext_cmp Tryd.func57 (by kernel_rfl) (by kernel_rfl) (by kernel_rfl) (by kernel_rfl)
theorem law_of_run {fs : List Fact} {f : Nat} {args cs : List Value} (hf : ∀ x ∈ fs, FactOK Tryd.prog x) (h : run1 fs f args = true) {L : List (String × DataW Unit)} {W : World} (hL : laidMet Tryd.prog L W) (keep : String × DataW Unit → Bool) (hk : L.filter keep = sents.map Sent.laid)
    (hv : ∀ σ, VRs σ args cs) : Calls Tryd.prog f cs.toArray W fun e W' => e = .returned (.bool true) ∧ Below W.heap.size W W' := by
  obtain ⟨σ, hW, hz⟩ := laid_wr sentOK hL keep sents hk 22 32 ⟨_, Tryd.underlying32⟩ sents_ok
  obtain ⟨A, hA⟩ := isTrue_inv h
  refine (fn_ok (stdEnv_ok msk hf (fun f hf' => by rw [List.mem_singleton.1 hf']; exact cmp_ok) mixed_ok names_ok) 1000 100 f args A0 _ _ hA σ W cs hW (hv σ)).mono ?_
  rintro e W' ⟨τ, c, rfl, h1, h2⟩
  exact ⟨by rw [h1.bool_inv], h2.below hz⟩

end Go.Proofs.YtjphohhpnoobfaaDoor.Sx
