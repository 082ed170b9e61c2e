/- A closed fact of the row (each by itself, for the memory that it takes). -/
import Derived.Test.YtlfkgkedfciccaaGreatRows
import Derived.WalkKit
import Derived.ProofKit
namespace Go.Proofs.YtlfkgkedfciccaaGreat.nodeSpoiled
theorem jf3 : (Rows.nodeSpoiledRow.named == Tryz.pinned.checked.prog.varsNamed 4) = true := by kernel_rfl
end Go.Proofs.YtlfkgkedfciccaaGreat.nodeSpoiled
