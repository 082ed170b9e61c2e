/- A closed fact of the row (each by itself, for the memory that it takes). -/
import Derived.Test.YtlfkgkedfciccaaGreatRows
import Derived.WalkKit
import Derived.ProofKit
namespace Go.Proofs.YtlfkgkedfciccaaGreat.nodeHandles
theorem jf0 : (Rows.nodeHandlesRow.inPlace == Tryz.pinned.checked.prog.inPlace 3) = true := by kernel_rfl
end Go.Proofs.YtlfkgkedfciccaaGreat.nodeHandles
