/- A closed fact of the row (each by itself, for the memory that it takes). -/
import Derived.Test.YtecplekkoikmmaaGreatRows
import Derived.WalkKit
import Derived.ProofKit
namespace Go.Proofs.YtecplekkoikmmaaGreat.netKnown
theorem jf3 : (Rows.netKnownRow.named == Tryz.pinned.checked.prog.varsNamed 3) = true := by kernel_rfl
end Go.Proofs.YtecplekkoikmmaaGreat.netKnown
