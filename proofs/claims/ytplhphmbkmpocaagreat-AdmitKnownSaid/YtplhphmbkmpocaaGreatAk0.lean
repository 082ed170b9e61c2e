/- Parts of a closed evaluation: the start. -/
import Derived.Test.YtplhphmbkmpocaaGreatRows
import Derived.Test.YtplhphmbkmpocaaGreatEnN
namespace Go.Proofs.YtplhphmbkmpocaaGreat.admitKnown
open Go.En

theorem special : NoSpecial Tryz.prog := noSpecial_of (by kernel_rfl)
end Go.Proofs.YtplhphmbkmpocaaGreat.admitKnown
