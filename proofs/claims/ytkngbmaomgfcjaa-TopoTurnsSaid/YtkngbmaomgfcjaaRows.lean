/-
  No cell of these rows narrows 'for every input' (looked for: loops, veiled, ifaces, maps, wideKeys, modest, calm, conditions, laid).
  DERIVED. THE GIVEN ROWS OF THIS SEAT. 7 by the template 'for every input the law returns true; each argument reads behind the call as it read before'; 0 by the template 'total and deterministic' (their statements: YtkngbmaomgfcjaaTotals.lean).
  GIVEN WITH THE SEED: the statements are not yours to turn. If you find one false, say at which input.
  Laid BY PROGRAM, IN A SANDBOX (cutbox-rows.mjs): the forced cells as the released guide's own fill.sh prints them over the translation dabe535a90d6b0ec… (all of the seat's roots in one cut). By AI agents, Wed Nov 11 2026. No macro, syntax, notation, axiom, sorry.
-/
import Derived.Test.YtkngbmaomgfcjaaChecked
import GoSem.Claim
import GoSem.ClaimJoined
import GoSem.ClaimMapViews
import Derived.JoinedTies
import Derived.KernelRfl
namespace Go.Proofs.Ytkngbmaomgfcjaa
/- THE CELL 'sum', in the pinned program and in every row, IS THE sha256 OF THE DUMP (.gsa) THAT YtkngbmaomgfcjaaProg.lean LOADS. Nothing in Lean hashes anything: it is a label: what it is worth is what the hold of that sum in a sandbox is worth. -/
noncomputable def Try.pinned : Pinned := { name := "ytkngbmaomgfcjaa", sum := "dabe535a90d6b0eccc65eb99e2ffb93237b80f3953615327e57743a6a687c4b9", checked := Try.checked }
namespace Rows
def none {H : Type} : Left H := { results := [], args := [] }

/-- 'isochronlaw16.TopoFinds': WHATEVER THE INPUT: true; the input reads as it did. -/
def topoFindsSpec : ChangeSpec := { name := "topoFinds", fn := fun _ => fun
  | [d1, d2, d3] => { results := [.lit (.bool true)], args := [d1, d2, d3] }
  | _ => none }
def topoFindsRow : OpenClaim := { program := "ytkngbmaomgfcjaa", sum := "dabe535a90d6b0eccc65eb99e2ffb93237b80f3953615327e57743a6a687c4b9", func := "isochron/isochronlaw16.TopoFinds", spec := "topoFinds", unfollowed := true, recurses := true, apart := false }
def TopoFindsSaid : Prop := topoFindsRow.holds Try.pinned (OpenSpec.ofChange topoFindsSpec)

/-- ITS FALSE NEIGHBOUR: 'it returns false'. Refute it at one input. -/
def topoFindsWrong : ChangeSpec := { name := "topoFinds", fn := fun _ => fun
  | [d1, d2, d3] => { results := [.lit (.bool false)], args := [d1, d2, d3] }
  | _ => none }
def TopoFindsWrongFalsely : Prop := topoFindsRow.holds Try.pinned (OpenSpec.ofChange topoFindsWrong)

/-- 'isochronlaw16.TopoReaches': WHATEVER THE INPUT: true; the input reads as it did. -/
def topoReachesSpec : ChangeSpec := { name := "topoReaches", fn := fun _ => fun
  | [d1, d2, d3] => { results := [.lit (.bool true)], args := [d1, d2, d3] }
  | _ => none }
def topoReachesRow : OpenClaim := { program := "ytkngbmaomgfcjaa", sum := "dabe535a90d6b0eccc65eb99e2ffb93237b80f3953615327e57743a6a687c4b9", func := "isochron/isochronlaw16.TopoReaches", spec := "topoReaches", unfollowed := true, recurses := true, apart := false }
def TopoReachesSaid : Prop := topoReachesRow.holds Try.pinned (OpenSpec.ofChange topoReachesSpec)

/-- ITS FALSE NEIGHBOUR: 'it returns false'. Refute it at one input. -/
def topoReachesWrong : ChangeSpec := { name := "topoReaches", fn := fun _ => fun
  | [d1, d2, d3] => { results := [.lit (.bool false)], args := [d1, d2, d3] }
  | _ => none }
def TopoReachesWrongFalsely : Prop := topoReachesRow.holds Try.pinned (OpenSpec.ofChange topoReachesWrong)

/-- 'isochronlaw16.TopoSpreads': WHATEVER THE INPUT: true; the input reads as it did. -/
def topoSpreadsSpec : ChangeSpec := { name := "topoSpreads", fn := fun _ => fun
  | [d1, d2, d3, d4] => { results := [.lit (.bool true)], args := [d1, d2, d3, d4] }
  | _ => none }
def topoSpreadsRow : OpenClaim := { program := "ytkngbmaomgfcjaa", sum := "dabe535a90d6b0eccc65eb99e2ffb93237b80f3953615327e57743a6a687c4b9", func := "isochron/isochronlaw16.TopoSpreads", spec := "topoSpreads", unfollowed := true, recurses := true, apart := false }
def TopoSpreadsSaid : Prop := topoSpreadsRow.holds Try.pinned (OpenSpec.ofChange topoSpreadsSpec)

/-- ITS FALSE NEIGHBOUR: 'it returns false'. Refute it at one input. -/
def topoSpreadsWrong : ChangeSpec := { name := "topoSpreads", fn := fun _ => fun
  | [d1, d2, d3, d4] => { results := [.lit (.bool false)], args := [d1, d2, d3, d4] }
  | _ => none }
def TopoSpreadsWrongFalsely : Prop := topoSpreadsRow.holds Try.pinned (OpenSpec.ofChange topoSpreadsWrong)

/-- 'isochronlaw16.TopoPorts': WHATEVER THE INPUT: true; the input reads as it did. -/
def topoPortsSpec : ChangeSpec := { name := "topoPorts", fn := fun _ => fun
  | [d1, d2] => { results := [.lit (.bool true)], args := [d1, d2] }
  | _ => none }
def topoPortsRow : OpenClaim := { program := "ytkngbmaomgfcjaa", sum := "dabe535a90d6b0eccc65eb99e2ffb93237b80f3953615327e57743a6a687c4b9", func := "isochron/isochronlaw16.TopoPorts", spec := "topoPorts", unfollowed := true, recurses := true, apart := false }
def TopoPortsSaid : Prop := topoPortsRow.holds Try.pinned (OpenSpec.ofChange topoPortsSpec)

/-- ITS FALSE NEIGHBOUR: 'it returns false'. Refute it at one input. -/
def topoPortsWrong : ChangeSpec := { name := "topoPorts", fn := fun _ => fun
  | [d1, d2] => { results := [.lit (.bool false)], args := [d1, d2] }
  | _ => none }
def TopoPortsWrongFalsely : Prop := topoPortsRow.holds Try.pinned (OpenSpec.ofChange topoPortsWrong)

/-- 'isochronlaw16.TopoKnown': WHATEVER THE INPUT: true; the input reads as it did. -/
def topoKnownSpec : ChangeSpec := { name := "topoKnown", fn := fun _ => fun
  | [] => { results := [.lit (.bool true)], args := [] }
  | _ => none }
def topoKnownRow : OpenClaim := { program := "ytkngbmaomgfcjaa", sum := "dabe535a90d6b0eccc65eb99e2ffb93237b80f3953615327e57743a6a687c4b9", func := "isochron/isochronlaw16.TopoKnown", spec := "topoKnown", unfollowed := true, recurses := true, apart := false }
def TopoKnownSaid : Prop := topoKnownRow.holds Try.pinned (OpenSpec.ofChange topoKnownSpec)

/-- ITS FALSE NEIGHBOUR: 'it returns false'. Refute it at one input. -/
def topoKnownWrong : ChangeSpec := { name := "topoKnown", fn := fun _ => fun
  | [] => { results := [.lit (.bool false)], args := [] }
  | _ => none }
def TopoKnownWrongFalsely : Prop := topoKnownRow.holds Try.pinned (OpenSpec.ofChange topoKnownWrong)

/-- 'isochronlaw16.TopoChecks': WHATEVER THE INPUT: true; the input reads as it did. -/
def topoChecksSpec : ChangeSpec := { name := "topoChecks", fn := fun _ => fun
  | [d1, d2] => { results := [.lit (.bool true)], args := [d1, d2] }
  | _ => none }
def topoChecksRow : OpenClaim := { program := "ytkngbmaomgfcjaa", sum := "dabe535a90d6b0eccc65eb99e2ffb93237b80f3953615327e57743a6a687c4b9", func := "isochron/isochronlaw16.TopoChecks", spec := "topoChecks", unfollowed := true, recurses := true, apart := false }
def TopoChecksSaid : Prop := topoChecksRow.holds Try.pinned (OpenSpec.ofChange topoChecksSpec)

/-- ITS FALSE NEIGHBOUR: 'it returns false'. Refute it at one input. -/
def topoChecksWrong : ChangeSpec := { name := "topoChecks", fn := fun _ => fun
  | [d1, d2] => { results := [.lit (.bool false)], args := [d1, d2] }
  | _ => none }
def TopoChecksWrongFalsely : Prop := topoChecksRow.holds Try.pinned (OpenSpec.ofChange topoChecksWrong)

/-- 'isochronlaw16.TopoTurns': WHATEVER THE INPUT: true; the input reads as it did. -/
def topoTurnsSpec : ChangeSpec := { name := "topoTurns", fn := fun _ => fun
  | [d] => { results := [.lit (.bool true)], args := [d] }
  | _ => none }
def topoTurnsRow : OpenClaim := { program := "ytkngbmaomgfcjaa", sum := "dabe535a90d6b0eccc65eb99e2ffb93237b80f3953615327e57743a6a687c4b9", func := "isochron/isochronlaw16.TopoTurns", spec := "topoTurns", unfollowed := true, recurses := true, apart := false }
def TopoTurnsSaid : Prop := topoTurnsRow.holds Try.pinned (OpenSpec.ofChange topoTurnsSpec)

/-- ITS FALSE NEIGHBOUR: 'it returns false'. Refute it at one input. -/
def topoTurnsWrong : ChangeSpec := { name := "topoTurns", fn := fun _ => fun
  | [d] => { results := [.lit (.bool false)], args := [d] }
  | _ => none }
def TopoTurnsWrongFalsely : Prop := topoTurnsRow.holds Try.pinned (OpenSpec.ofChange topoTurnsWrong)

/- THE SECOND FORM. 'bulk': how many values and letters a reading holds, each counted each time it is reached (what is shared counts as often as it is met; a slice's spare places count too). A statement '..UptoSaid' is the law's where the arguments, and the package variables that the reading takes, are together of bulk at most 1048576: NARROWER than '..Said'. Prove '..Said' where nothing that the law and all that it calls make is longer than what came in: it says more and counts as full. Else prove '..UptoSaid'. A law counts once. -/
mutual
def uptoBulk {H : Type} : DataW H → Nat
  | .lit (.string bytes) => bytes.length + 1
  | .lit _ => 1
  | .nil => 1
  | .ptr d => uptoBulk d + 1
  | .slice elems spare => uptoBulkAll elems + uptoBulkAll spare + 1
  | .agg parts => uptoBulkAll parts + 1
  | .iface _ d => uptoBulk d + 1
  | .map entries => uptoBulkEntries entries + 1
  | .held _ => 1
def uptoBulkAll {H : Type} : List (DataW H) → Nat
  | [] => 0
  | d :: r => uptoBulk d + uptoBulkAll r
def uptoBulkEntries {H : Type} : List (Lit × DataW H) → Nat
  | [] => 0
  | x :: r => uptoBulkEntry x + uptoBulkEntries r
def uptoBulkEntry {H : Type} : Lit × DataW H → Nat
  | (.string bytes, d) => bytes.length + uptoBulk d + 1
  | (_, d) => uptoBulk d + 1
 end
def uptoSmall : (H : Type) → List (DataW H) → Bool := fun _ ds => decide (uptoBulkAll ds ≤ 1048576)
def OpenSpec.upto (s : _root_.Go.ChangeSpec) : _root_.Go.OpenSpec := { _root_.Go.OpenSpec.ofChange s with cond := some uptoSmall }

/-- 'isochronlaw16.TopoFinds', WHERE WHAT IT READS IS OF BULK AT MOST 1048576: true; the input reads as it did. -/
def topoFindsUptoRow : OpenClaim := { program := "ytkngbmaomgfcjaa", sum := "dabe535a90d6b0eccc65eb99e2ffb93237b80f3953615327e57743a6a687c4b9", func := "isochron/isochronlaw16.TopoFinds", spec := "topoFinds", unfollowed := true, recurses := true, apart := false, narrowed := true }
def TopoFindsUptoSaid : Prop := topoFindsUptoRow.holds Try.pinned (OpenSpec.upto topoFindsSpec)

/-- 'isochronlaw16.TopoReaches', WHERE WHAT IT READS IS OF BULK AT MOST 1048576: true; the input reads as it did. -/
def topoReachesUptoRow : OpenClaim := { program := "ytkngbmaomgfcjaa", sum := "dabe535a90d6b0eccc65eb99e2ffb93237b80f3953615327e57743a6a687c4b9", func := "isochron/isochronlaw16.TopoReaches", spec := "topoReaches", unfollowed := true, recurses := true, apart := false, narrowed := true }
def TopoReachesUptoSaid : Prop := topoReachesUptoRow.holds Try.pinned (OpenSpec.upto topoReachesSpec)

/-- 'isochronlaw16.TopoSpreads', WHERE WHAT IT READS IS OF BULK AT MOST 1048576: true; the input reads as it did. -/
def topoSpreadsUptoRow : OpenClaim := { program := "ytkngbmaomgfcjaa", sum := "dabe535a90d6b0eccc65eb99e2ffb93237b80f3953615327e57743a6a687c4b9", func := "isochron/isochronlaw16.TopoSpreads", spec := "topoSpreads", unfollowed := true, recurses := true, apart := false, narrowed := true }
def TopoSpreadsUptoSaid : Prop := topoSpreadsUptoRow.holds Try.pinned (OpenSpec.upto topoSpreadsSpec)

/-- 'isochronlaw16.TopoPorts', WHERE WHAT IT READS IS OF BULK AT MOST 1048576: true; the input reads as it did. -/
def topoPortsUptoRow : OpenClaim := { program := "ytkngbmaomgfcjaa", sum := "dabe535a90d6b0eccc65eb99e2ffb93237b80f3953615327e57743a6a687c4b9", func := "isochron/isochronlaw16.TopoPorts", spec := "topoPorts", unfollowed := true, recurses := true, apart := false, narrowed := true }
def TopoPortsUptoSaid : Prop := topoPortsUptoRow.holds Try.pinned (OpenSpec.upto topoPortsSpec)

/-- 'isochronlaw16.TopoKnown', WHERE WHAT IT READS IS OF BULK AT MOST 1048576: true; the input reads as it did. -/
def topoKnownUptoRow : OpenClaim := { program := "ytkngbmaomgfcjaa", sum := "dabe535a90d6b0eccc65eb99e2ffb93237b80f3953615327e57743a6a687c4b9", func := "isochron/isochronlaw16.TopoKnown", spec := "topoKnown", unfollowed := true, recurses := true, apart := false, narrowed := true }
def TopoKnownUptoSaid : Prop := topoKnownUptoRow.holds Try.pinned (OpenSpec.upto topoKnownSpec)

/-- 'isochronlaw16.TopoChecks', WHERE WHAT IT READS IS OF BULK AT MOST 1048576: true; the input reads as it did. -/
def topoChecksUptoRow : OpenClaim := { program := "ytkngbmaomgfcjaa", sum := "dabe535a90d6b0eccc65eb99e2ffb93237b80f3953615327e57743a6a687c4b9", func := "isochron/isochronlaw16.TopoChecks", spec := "topoChecks", unfollowed := true, recurses := true, apart := false, narrowed := true }
def TopoChecksUptoSaid : Prop := topoChecksUptoRow.holds Try.pinned (OpenSpec.upto topoChecksSpec)

/-- 'isochronlaw16.TopoTurns', WHERE WHAT IT READS IS OF BULK AT MOST 1048576: true; the input reads as it did. -/
def topoTurnsUptoRow : OpenClaim := { program := "ytkngbmaomgfcjaa", sum := "dabe535a90d6b0eccc65eb99e2ffb93237b80f3953615327e57743a6a687c4b9", func := "isochron/isochronlaw16.TopoTurns", spec := "topoTurns", unfollowed := true, recurses := true, apart := false, narrowed := true }
def TopoTurnsUptoSaid : Prop := topoTurnsUptoRow.holds Try.pinned (OpenSpec.upto topoTurnsSpec)

end Rows
end Go.Proofs.Ytkngbmaomgfcjaa
