/- CondLazy reckoned: lzA, p = false. No condition. -/
import Derived.Test.YtjphohhpnoobfaaDoorSxD0
namespace Go.Proofs.YtjphohhpnoobfaaDoor.Sx
open Go
set_option linter.unusedVariables false
theorem lzA_false_0 : run1 [⟨.lss, .i64, sy 0, 0, .bool false⟩, ⟨.rem, .i64, sy 0, 5, .int .i64 0⟩] 5 [.bool false, .int .i64 (sy 0)] = true := by kernel_rfl
theorem lzA_false_1 : run1 [⟨.lss, .i64, sy 0, 0, .bool false⟩, ⟨.rem, .i64, sy 0, 5, .int .i64 1⟩] 5 [.bool false, .int .i64 (sy 0)] = true := by kernel_rfl
theorem lzA_false_2 : run1 [⟨.lss, .i64, sy 0, 0, .bool false⟩, ⟨.rem, .i64, sy 0, 5, .int .i64 2⟩] 5 [.bool false, .int .i64 (sy 0)] = true := by kernel_rfl
theorem lzA_false_3 : run1 [⟨.lss, .i64, sy 0, 0, .bool false⟩, ⟨.rem, .i64, sy 0, 5, .int .i64 3⟩] 5 [.bool false, .int .i64 (sy 0)] = true := by kernel_rfl
theorem lzA_false_4 : run1 [⟨.lss, .i64, sy 0, 0, .bool false⟩, ⟨.rem, .i64, sy 0, 5, .int .i64 4⟩] 5 [.bool false, .int .i64 (sy 0)] = true := by kernel_rfl
end Go.Proofs.YtjphohhpnoobfaaDoor.Sx
