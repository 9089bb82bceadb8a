/- CondNumbers reckoned: cnZ. No condition. -/
import Derived.Test.YtjphohhpnoobfaaDoorSxD0
namespace Go.Proofs.YtjphohhpnoobfaaDoor.Sx
open Go
set_option linter.unusedVariables false
noncomputable def cnZ_facts : List Fact := [⟨.mul, .i64, (sy 1), (sy 2), .int .i64 (sy 3)⟩, ⟨.add, .i64, (sy 0), (sy 3), .int .i64 (sy 4)⟩, ⟨.sub, .i64, (sy 0), (sy 1), .int .i64 (sy 5)⟩, ⟨.sub, .i64, (sy 5), (sy 2), .int .i64 (sy 6)⟩, ⟨.add, .i64, (sy 0), (sy 1), .int .i64 (sy 7)⟩, ⟨.mul, .i64, (sy 7), (sy 2), .int .i64 (sy 8)⟩, ⟨.sub, .i64, 0, (sy 0), .int .i64 (sy 9)⟩, ⟨.sub, .i64, 0, (sy 1), .int .i64 (sy 10)⟩, ⟨.mul, .i64, (sy 0), (sy 10), .int .i64 (sy 11)⟩, ⟨.neq, .i64, (sy 4), (sy 4), .bool false⟩, ⟨.neq, .i64, (sy 6), (sy 6), .bool false⟩, ⟨.neq, .i64, (sy 8), (sy 8), .bool false⟩, ⟨.neq, .i64, (sy 9), (sy 9), .bool false⟩, ⟨.neq, .i64, (sy 11), (sy 11), .bool false⟩, ⟨.eql, .i64, (sy 1), 0, .bool true⟩]
theorem cnZ : run1 cnZ_facts 4 [.int .i64 (sy 0), .int .i64 (sy 1), .int .i64 (sy 2)] = true := by kernel_rfl
end Go.Proofs.YtjphohhpnoobfaaDoor.Sx
