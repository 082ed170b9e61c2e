/-
  No cell of these rows narrows 'for every input' (looked for: loops, veiled, ifaces, maps, wideKeys, modest, calm, conditions, laid).
  DERIVED. THE GIVEN ROWS OF THIS SEAT. 7 by the template 'for every input the law returns true; each argument reads behind the call as it read before'; 0 by the template 'total and deterministic' (their statements: YtplhphmbkmpocaaGreatTotals.lean).
  GIVEN WITH THE SEED: the statements are not yours to turn. If you find one false, say at which input.
  Laid BY PROGRAM, IN A SANDBOX (cutbox-rows.mjs): the forced cells as the released guide's own fill.sh prints them over the translation abf60f279a8063c0… (all of the seat's roots in one cut). By AI agents, Wed Nov 11 2026. No macro, syntax, notation, axiom, sorry.
-/
import Derived.Test.YtplhphmbkmpocaaGreatChecked
import GoSem.Claim
import GoSem.ClaimJoined
import GoSem.ClaimMapViews
import Derived.JoinedTies
import Derived.KernelRfl
namespace Go.Proofs.YtplhphmbkmpocaaGreat
/- THE CELL 'sum', in the pinned program and in every row, IS THE sha256 OF THE DUMP (.gsa) THAT YtplhphmbkmpocaaGreatProg.lean LOADS. Nothing in Lean hashes anything: it is a label: what it is worth is what the hold of that sum in a sandbox is worth. -/
noncomputable def Tryz.pinned : Pinned := { name := "ytplhphmbkmpocaagreat", sum := "abf60f279a8063c0e513554603b82c5aa009a6da66026dd827655904bd4a30c9", checked := Tryz.checked }
namespace Rows
def none {H : Type} : Left H := { results := [], args := [] }

/-- 'isochronlaw31.AdmitHops': WHATEVER THE INPUT: true; the input reads as it did. -/
def admitHopsSpec : ChangeSpec := { name := "admitHops", fn := fun _ => fun
  | [d1, d2, d3, d4, d5] => { results := [.lit (.bool true)], args := [d1, d2, d3, d4, d5] }
  | _ => none }
def admitHopsRow : OpenClaim := { program := "ytplhphmbkmpocaagreat", sum := "abf60f279a8063c0e513554603b82c5aa009a6da66026dd827655904bd4a30c9", func := "isochron/isochronlaw31.AdmitHops", spec := "admitHops", unfollowed := true, recurses := true, named := ["math/bits.divideError", "math/bits.overflowError"], apart := false }
def AdmitHopsSaid : Prop := admitHopsRow.holds Tryz.pinned (OpenSpec.ofChange admitHopsSpec)

/-- ITS FALSE NEIGHBOUR: 'it returns false'. Refute it at one input. -/
def admitHopsWrong : ChangeSpec := { name := "admitHops", fn := fun _ => fun
  | [d1, d2, d3, d4, d5] => { results := [.lit (.bool false)], args := [d1, d2, d3, d4, d5] }
  | _ => none }
def AdmitHopsWrongFalsely : Prop := admitHopsRow.holds Tryz.pinned (OpenSpec.ofChange admitHopsWrong)

/-- 'isochronlaw31.AdmitLists': WHATEVER THE INPUT: true; the input reads as it did. -/
def admitListsSpec : ChangeSpec := { name := "admitLists", fn := fun _ => fun
  | [d1, d2] => { results := [.lit (.bool true)], args := [d1, d2] }
  | _ => none }
def admitListsRow : OpenClaim := { program := "ytplhphmbkmpocaagreat", sum := "abf60f279a8063c0e513554603b82c5aa009a6da66026dd827655904bd4a30c9", func := "isochron/isochronlaw31.AdmitLists", spec := "admitLists", unfollowed := true, recurses := true, named := ["math/bits.divideError", "math/bits.overflowError"], apart := false }
def AdmitListsSaid : Prop := admitListsRow.holds Tryz.pinned (OpenSpec.ofChange admitListsSpec)

/-- ITS FALSE NEIGHBOUR: 'it returns false'. Refute it at one input. -/
def admitListsWrong : ChangeSpec := { name := "admitLists", fn := fun _ => fun
  | [d1, d2] => { results := [.lit (.bool false)], args := [d1, d2] }
  | _ => none }
def AdmitListsWrongFalsely : Prop := admitListsRow.holds Tryz.pinned (OpenSpec.ofChange admitListsWrong)

/-- 'isochronlaw31.AdmitOrder': WHATEVER THE INPUT: true; the input reads as it did. -/
def admitOrderSpec : ChangeSpec := { name := "admitOrder", fn := fun _ => fun
  | [d1, d2, d3] => { results := [.lit (.bool true)], args := [d1, d2, d3] }
  | _ => none }
def admitOrderRow : OpenClaim := { program := "ytplhphmbkmpocaagreat", sum := "abf60f279a8063c0e513554603b82c5aa009a6da66026dd827655904bd4a30c9", func := "isochron/isochronlaw31.AdmitOrder", spec := "admitOrder", unfollowed := true, recurses := true, named := ["math/bits.divideError", "math/bits.overflowError"], apart := false }
def AdmitOrderSaid : Prop := admitOrderRow.holds Tryz.pinned (OpenSpec.ofChange admitOrderSpec)

/-- ITS FALSE NEIGHBOUR: 'it returns false'. Refute it at one input. -/
def admitOrderWrong : ChangeSpec := { name := "admitOrder", fn := fun _ => fun
  | [d1, d2, d3] => { results := [.lit (.bool false)], args := [d1, d2, d3] }
  | _ => none }
def AdmitOrderWrongFalsely : Prop := admitOrderRow.holds Tryz.pinned (OpenSpec.ofChange admitOrderWrong)

/-- 'isochronlaw31.AdmitSteps': WHATEVER THE INPUT: true; the input reads as it did. -/
def admitStepsSpec : ChangeSpec := { name := "admitSteps", fn := fun _ => fun
  | [d1, d2, d3] => { results := [.lit (.bool true)], args := [d1, d2, d3] }
  | _ => none }
def admitStepsRow : OpenClaim := { program := "ytplhphmbkmpocaagreat", sum := "abf60f279a8063c0e513554603b82c5aa009a6da66026dd827655904bd4a30c9", func := "isochron/isochronlaw31.AdmitSteps", spec := "admitSteps", unfollowed := true, recurses := true, named := ["math/bits.divideError", "math/bits.overflowError"], apart := false }
def AdmitStepsSaid : Prop := admitStepsRow.holds Tryz.pinned (OpenSpec.ofChange admitStepsSpec)

/-- ITS FALSE NEIGHBOUR: 'it returns false'. Refute it at one input. -/
def admitStepsWrong : ChangeSpec := { name := "admitSteps", fn := fun _ => fun
  | [d1, d2, d3] => { results := [.lit (.bool false)], args := [d1, d2, d3] }
  | _ => none }
def AdmitStepsWrongFalsely : Prop := admitStepsRow.holds Tryz.pinned (OpenSpec.ofChange admitStepsWrong)

/-- 'isochronlaw31.AdmitKeeps': WHATEVER THE INPUT: true; the input reads as it did. -/
def admitKeepsSpec : ChangeSpec := { name := "admitKeeps", fn := fun _ => fun
  | [d1, d2] => { results := [.lit (.bool true)], args := [d1, d2] }
  | _ => none }
def admitKeepsRow : OpenClaim := { program := "ytplhphmbkmpocaagreat", sum := "abf60f279a8063c0e513554603b82c5aa009a6da66026dd827655904bd4a30c9", func := "isochron/isochronlaw31.AdmitKeeps", spec := "admitKeeps", unfollowed := true, recurses := true, named := ["math/bits.divideError", "math/bits.overflowError"], apart := false }
def AdmitKeepsSaid : Prop := admitKeepsRow.holds Tryz.pinned (OpenSpec.ofChange admitKeepsSpec)

/-- ITS FALSE NEIGHBOUR: 'it returns false'. Refute it at one input. -/
def admitKeepsWrong : ChangeSpec := { name := "admitKeeps", fn := fun _ => fun
  | [d1, d2] => { results := [.lit (.bool false)], args := [d1, d2] }
  | _ => none }
def AdmitKeepsWrongFalsely : Prop := admitKeepsRow.holds Tryz.pinned (OpenSpec.ofChange admitKeepsWrong)

/-- 'isochronlaw31.AdmitKnown': WHATEVER THE INPUT: true; the input reads as it did. -/
def admitKnownSpec : ChangeSpec := { name := "admitKnown", fn := fun _ => fun
  | [] => { results := [.lit (.bool true)], args := [] }
  | _ => none }
def admitKnownRow : OpenClaim := { program := "ytplhphmbkmpocaagreat", sum := "abf60f279a8063c0e513554603b82c5aa009a6da66026dd827655904bd4a30c9", func := "isochron/isochronlaw31.AdmitKnown", spec := "admitKnown", unfollowed := true, recurses := true, named := ["math/bits.divideError", "math/bits.overflowError"], apart := false }
def AdmitKnownSaid : Prop := admitKnownRow.holds Tryz.pinned (OpenSpec.ofChange admitKnownSpec)

/-- ITS FALSE NEIGHBOUR: 'it returns false'. Refute it at one input. -/
def admitKnownWrong : ChangeSpec := { name := "admitKnown", fn := fun _ => fun
  | [] => { results := [.lit (.bool false)], args := [] }
  | _ => none }
def AdmitKnownWrongFalsely : Prop := admitKnownRow.holds Tryz.pinned (OpenSpec.ofChange admitKnownWrong)

/-- 'isochronlaw31.AdmitDrains': WHATEVER THE INPUT: true; the input reads as it did. -/
def admitDrainsSpec : ChangeSpec := { name := "admitDrains", fn := fun _ => fun
  | [d1, d2, d3, d4, d5] => { results := [.lit (.bool true)], args := [d1, d2, d3, d4, d5] }
  | _ => none }
def admitDrainsRow : OpenClaim := { program := "ytplhphmbkmpocaagreat", sum := "abf60f279a8063c0e513554603b82c5aa009a6da66026dd827655904bd4a30c9", func := "isochron/isochronlaw31.AdmitDrains", spec := "admitDrains", unfollowed := true, recurses := true, named := ["math/bits.divideError", "math/bits.overflowError"], apart := false }
def AdmitDrainsSaid : Prop := admitDrainsRow.holds Tryz.pinned (OpenSpec.ofChange admitDrainsSpec)

/-- ITS FALSE NEIGHBOUR: 'it returns false'. Refute it at one input. -/
def admitDrainsWrong : ChangeSpec := { name := "admitDrains", fn := fun _ => fun
  | [d1, d2, d3, d4, d5] => { results := [.lit (.bool false)], args := [d1, d2, d3, d4, d5] }
  | _ => none }
def AdmitDrainsWrongFalsely : Prop := admitDrainsRow.holds Tryz.pinned (OpenSpec.ofChange admitDrainsWrong)

/- THE SECOND FORM. 'bulk': how many values and letters a reading holds, each counted each time it is reached (what is shared counts as often as it is met; a slice's spare places count too). A statement '..UptoSaid' is the law's where the arguments, and the package variables that the reading takes, are together of bulk at most 1048576: NARROWER than '..Said'. Prove '..Said' where nothing that the law and all that it calls make is longer than what came in: it says more and counts as full. Else prove '..UptoSaid'. A law counts once. -/
mutual
def uptoBulk {H : Type} : DataW H → Nat
  | .lit (.string bytes) => bytes.length + 1
  | .lit _ => 1
  | .nil => 1
  | .ptr d => uptoBulk d + 1
  | .slice elems spare => uptoBulkAll elems + uptoBulkAll spare + 1
  | .agg parts => uptoBulkAll parts + 1
  | .iface _ d => uptoBulk d + 1
  | .map entries => uptoBulkEntries entries + 1
  | .held _ => 1
def uptoBulkAll {H : Type} : List (DataW H) → Nat
  | [] => 0
  | d :: r => uptoBulk d + uptoBulkAll r
def uptoBulkEntries {H : Type} : List (Lit × DataW H) → Nat
  | [] => 0
  | x :: r => uptoBulkEntry x + uptoBulkEntries r
def uptoBulkEntry {H : Type} : Lit × DataW H → Nat
  | (.string bytes, d) => bytes.length + uptoBulk d + 1
  | (_, d) => uptoBulk d + 1
 end
def uptoSmall : (H : Type) → List (DataW H) → Bool := fun _ ds => decide (uptoBulkAll ds ≤ 1048576)
def OpenSpec.upto (s : _root_.Go.ChangeSpec) : _root_.Go.OpenSpec := { _root_.Go.OpenSpec.ofChange s with cond := some uptoSmall }

/-- 'isochronlaw31.AdmitHops', WHERE WHAT IT READS IS OF BULK AT MOST 1048576: true; the input reads as it did. -/
def admitHopsUptoRow : OpenClaim := { program := "ytplhphmbkmpocaagreat", sum := "abf60f279a8063c0e513554603b82c5aa009a6da66026dd827655904bd4a30c9", func := "isochron/isochronlaw31.AdmitHops", spec := "admitHops", unfollowed := true, recurses := true, named := ["math/bits.divideError", "math/bits.overflowError"], apart := false, narrowed := true }
def AdmitHopsUptoSaid : Prop := admitHopsUptoRow.holds Tryz.pinned (OpenSpec.upto admitHopsSpec)

/-- 'isochronlaw31.AdmitLists', WHERE WHAT IT READS IS OF BULK AT MOST 1048576: true; the input reads as it did. -/
def admitListsUptoRow : OpenClaim := { program := "ytplhphmbkmpocaagreat", sum := "abf60f279a8063c0e513554603b82c5aa009a6da66026dd827655904bd4a30c9", func := "isochron/isochronlaw31.AdmitLists", spec := "admitLists", unfollowed := true, recurses := true, named := ["math/bits.divideError", "math/bits.overflowError"], apart := false, narrowed := true }
def AdmitListsUptoSaid : Prop := admitListsUptoRow.holds Tryz.pinned (OpenSpec.upto admitListsSpec)

/-- 'isochronlaw31.AdmitOrder', WHERE WHAT IT READS IS OF BULK AT MOST 1048576: true; the input reads as it did. -/
def admitOrderUptoRow : OpenClaim := { program := "ytplhphmbkmpocaagreat", sum := "abf60f279a8063c0e513554603b82c5aa009a6da66026dd827655904bd4a30c9", func := "isochron/isochronlaw31.AdmitOrder", spec := "admitOrder", unfollowed := true, recurses := true, named := ["math/bits.divideError", "math/bits.overflowError"], apart := false, narrowed := true }
def AdmitOrderUptoSaid : Prop := admitOrderUptoRow.holds Tryz.pinned (OpenSpec.upto admitOrderSpec)

/-- 'isochronlaw31.AdmitSteps', WHERE WHAT IT READS IS OF BULK AT MOST 1048576: true; the input reads as it did. -/
def admitStepsUptoRow : OpenClaim := { program := "ytplhphmbkmpocaagreat", sum := "abf60f279a8063c0e513554603b82c5aa009a6da66026dd827655904bd4a30c9", func := "isochron/isochronlaw31.AdmitSteps", spec := "admitSteps", unfollowed := true, recurses := true, named := ["math/bits.divideError", "math/bits.overflowError"], apart := false, narrowed := true }
def AdmitStepsUptoSaid : Prop := admitStepsUptoRow.holds Tryz.pinned (OpenSpec.upto admitStepsSpec)

/-- 'isochronlaw31.AdmitKeeps', WHERE WHAT IT READS IS OF BULK AT MOST 1048576: true; the input reads as it did. -/
def admitKeepsUptoRow : OpenClaim := { program := "ytplhphmbkmpocaagreat", sum := "abf60f279a8063c0e513554603b82c5aa009a6da66026dd827655904bd4a30c9", func := "isochron/isochronlaw31.AdmitKeeps", spec := "admitKeeps", unfollowed := true, recurses := true, named := ["math/bits.divideError", "math/bits.overflowError"], apart := false, narrowed := true }
def AdmitKeepsUptoSaid : Prop := admitKeepsUptoRow.holds Tryz.pinned (OpenSpec.upto admitKeepsSpec)

/-- 'isochronlaw31.AdmitKnown', WHERE WHAT IT READS IS OF BULK AT MOST 1048576: true; the input reads as it did. -/
def admitKnownUptoRow : OpenClaim := { program := "ytplhphmbkmpocaagreat", sum := "abf60f279a8063c0e513554603b82c5aa009a6da66026dd827655904bd4a30c9", func := "isochron/isochronlaw31.AdmitKnown", spec := "admitKnown", unfollowed := true, recurses := true, named := ["math/bits.divideError", "math/bits.overflowError"], apart := false, narrowed := true }
def AdmitKnownUptoSaid : Prop := admitKnownUptoRow.holds Tryz.pinned (OpenSpec.upto admitKnownSpec)

/-- 'isochronlaw31.AdmitDrains', WHERE WHAT IT READS IS OF BULK AT MOST 1048576: true; the input reads as it did. -/
def admitDrainsUptoRow : OpenClaim := { program := "ytplhphmbkmpocaagreat", sum := "abf60f279a8063c0e513554603b82c5aa009a6da66026dd827655904bd4a30c9", func := "isochron/isochronlaw31.AdmitDrains", spec := "admitDrains", unfollowed := true, recurses := true, named := ["math/bits.divideError", "math/bits.overflowError"], apart := false, narrowed := true }
def AdmitDrainsUptoSaid : Prop := admitDrainsUptoRow.holds Tryz.pinned (OpenSpec.upto admitDrainsSpec)

end Rows
end Go.Proofs.YtplhphmbkmpocaaGreat
