/- The block of noughts. -/
import Derived.Test.YtkhhnccpfeplhaaBlocks
namespace Go.Proofs.Ytkhhnccpfeplhaa
open Go.RowKit
def zeros64 : List Int := List.replicate 64 0
theorem built48 : Try.prog.built 31 [] = some (bv zeros64) := by kernel_rfl
theorem zero48 : (Try.prog.info? 31).bind (·.zero) = some (.agg (bv zeros64)) := by kernel_rfl
end Go.Proofs.Ytkhhnccpfeplhaa
