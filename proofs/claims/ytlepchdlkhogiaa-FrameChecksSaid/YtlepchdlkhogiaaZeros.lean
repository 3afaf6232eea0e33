/- The block of noughts. -/
import Derived.Test.YtlepchdlkhogiaaBlocks
namespace Go.Proofs.Ytlepchdlkhogiaa
set_option linter.unusedVariables false
set_option linter.unusedSimpArgs false
open Go.RowKit
def zeros64 : List Int := List.replicate 64 0
theorem built48 : Try.prog.built 31 [] = some (bv zeros64) := by kernel_rfl
theorem zero48 : (Try.prog.info? 31).bind (·.zero) = some (.agg (bv zeros64)) := by kernel_rfl
end Go.Proofs.Ytlepchdlkhogiaa
