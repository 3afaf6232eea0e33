/- The element of a slice of bytes. -/
import Derived.Test.YtbnjapgmpjkooaaAppend
import Derived.Test.YtbnjapgmpjkooaaBytesV
namespace Go.Proofs.Ytbnjapgmpjkooaa
set_option linter.unusedVariables false
set_option linter.unusedSimpArgs false
open Go.RowKit
theorem elt_by : Elt Try.prog 23 5 1 1 := ⟨Try.underlying23, by kernel_rfl, by omega⟩
end Go.Proofs.Ytbnjapgmpjkooaa
