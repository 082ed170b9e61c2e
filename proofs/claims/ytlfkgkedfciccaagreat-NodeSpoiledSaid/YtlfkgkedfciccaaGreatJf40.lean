/- A closed fact of the row (each by itself, for the memory that it takes). -/
import Derived.Test.YtlfkgkedfciccaaGreatRows
import Derived.WalkKit
import Derived.ProofKit
namespace Go.Proofs.YtlfkgkedfciccaaGreat.nodeSpoiled
theorem jf0 : (Rows.nodeSpoiledRow.inPlace == Tryz.pinned.checked.prog.inPlace 4) = true := by kernel_rfl
end Go.Proofs.YtlfkgkedfciccaaGreat.nodeSpoiled
