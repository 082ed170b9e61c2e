/-
  No cell of these rows narrows 'for every input' (looked for: loops, veiled, ifaces, maps, wideKeys, modest, calm, conditions, laid).
  DERIVED. THE GIVEN ROWS OF THIS SEAT. 3 by the template 'for every input the law returns true; each argument reads behind the call as it read before'; 0 by the template 'total and deterministic' (their statements: YtleloebnggepoaaGreatTotals.lean).
  GIVEN WITH THE SEED: the statements are not yours to turn. If you find one false, say at which input.
  Laid BY PROGRAM, IN A SANDBOX (cutbox-rows.mjs): the forced cells as the released guide's own fill.sh prints them over the translation 25904acfc36907eb… (all of the seat's roots in one cut). By AI agents, Wed Nov 11 2026. No macro, syntax, notation, axiom, sorry.
-/
import Derived.Test.YtleloebnggepoaaGreatChecked
import GoSem.Claim
import GoSem.ClaimJoined
import GoSem.ClaimMapViews
import Derived.JoinedTies
import Derived.KernelRfl
namespace Go.Proofs.YtleloebnggepoaaGreat
/- THE CELL 'sum', in the pinned program and in every row, IS THE sha256 OF THE DUMP (.gsa) THAT YtleloebnggepoaaGreatProg.lean LOADS. Nothing in Lean hashes anything: it is a label: what it is worth is what the hold of that sum in a sandbox is worth. -/
noncomputable def Tryz.pinned : Pinned := { name := "ytleloebnggepoaagreat", sum := "25904acfc36907ebcb4c661660872fffa8b323785045438948f7e58384539e77", checked := Tryz.checked }
namespace Rows
def none {H : Type} : Left H := { results := [], args := [] }

/-- 'isochronlaw41.SignalSafe': WHATEVER THE INPUT: true; the input reads as it did. -/
def signalSafeSpec : ChangeSpec := { name := "signalSafe", fn := fun _ => fun
  | [d] => { results := [.lit (.bool true)], args := [d] }
  | _ => none }
def signalSafeRow : OpenClaim := { program := "ytleloebnggepoaagreat", sum := "25904acfc36907ebcb4c661660872fffa8b323785045438948f7e58384539e77", func := "isochron/isochronlaw41.SignalSafe", spec := "signalSafe", unfollowed := true, recurses := true, named := ["math/bits.divideError", "math/bits.overflowError"], apart := false }
def SignalSafeSaid : Prop := signalSafeRow.holds Tryz.pinned (OpenSpec.ofChange signalSafeSpec)

/-- ITS FALSE NEIGHBOUR: 'it returns false'. Refute it at one input. -/
def signalSafeWrong : ChangeSpec := { name := "signalSafe", fn := fun _ => fun
  | [d] => { results := [.lit (.bool false)], args := [d] }
  | _ => none }
def SignalSafeWrongFalsely : Prop := signalSafeRow.holds Tryz.pinned (OpenSpec.ofChange signalSafeWrong)

/-- 'isochronlaw41.SignalAnswers': WHATEVER THE INPUT: true; the input reads as it did. -/
def signalAnswersSpec : ChangeSpec := { name := "signalAnswers", fn := fun _ => fun
  | [d1, d2] => { results := [.lit (.bool true)], args := [d1, d2] }
  | _ => none }
def signalAnswersRow : OpenClaim := { program := "ytleloebnggepoaagreat", sum := "25904acfc36907ebcb4c661660872fffa8b323785045438948f7e58384539e77", func := "isochron/isochronlaw41.SignalAnswers", spec := "signalAnswers", unfollowed := true, recurses := true, named := ["math/bits.divideError", "math/bits.overflowError"], apart := false }
def SignalAnswersSaid : Prop := signalAnswersRow.holds Tryz.pinned (OpenSpec.ofChange signalAnswersSpec)

/-- ITS FALSE NEIGHBOUR: 'it returns false'. Refute it at one input. -/
def signalAnswersWrong : ChangeSpec := { name := "signalAnswers", fn := fun _ => fun
  | [d1, d2] => { results := [.lit (.bool false)], args := [d1, d2] }
  | _ => none }
def SignalAnswersWrongFalsely : Prop := signalAnswersRow.holds Tryz.pinned (OpenSpec.ofChange signalAnswersWrong)

/-- 'isochronlaw41.SignalKnown': WHATEVER THE INPUT: true; the input reads as it did. -/
def signalKnownSpec : ChangeSpec := { name := "signalKnown", fn := fun _ => fun
  | [] => { results := [.lit (.bool true)], args := [] }
  | _ => none }
def signalKnownRow : OpenClaim := { program := "ytleloebnggepoaagreat", sum := "25904acfc36907ebcb4c661660872fffa8b323785045438948f7e58384539e77", func := "isochron/isochronlaw41.SignalKnown", spec := "signalKnown", unfollowed := true, recurses := true, named := ["math/bits.divideError", "math/bits.overflowError"], apart := false }
def SignalKnownSaid : Prop := signalKnownRow.holds Tryz.pinned (OpenSpec.ofChange signalKnownSpec)

/-- ITS FALSE NEIGHBOUR: 'it returns false'. Refute it at one input. -/
def signalKnownWrong : ChangeSpec := { name := "signalKnown", fn := fun _ => fun
  | [] => { results := [.lit (.bool false)], args := [] }
  | _ => none }
def SignalKnownWrongFalsely : Prop := signalKnownRow.holds Tryz.pinned (OpenSpec.ofChange signalKnownWrong)

/- THE SECOND FORM. 'bulk': how many values and letters a reading holds, each counted each time it is reached (what is shared counts as often as it is met; a slice's spare places count too). A statement '..UptoSaid' is the law's where the arguments, and the package variables that the reading takes, are together of bulk at most 1048576: NARROWER than '..Said'. Prove '..Said' where nothing that the law and all that it calls make is longer than what came in: it says more and counts as full. Else prove '..UptoSaid'. A law counts once. -/
mutual
def uptoBulk {H : Type} : DataW H → Nat
  | .lit (.string bytes) => bytes.length + 1
  | .lit _ => 1
  | .nil => 1
  | .ptr d => uptoBulk d + 1
  | .slice elems spare => uptoBulkAll elems + uptoBulkAll spare + 1
  | .agg parts => uptoBulkAll parts + 1
  | .iface _ d => uptoBulk d + 1
  | .map entries => uptoBulkEntries entries + 1
  | .held _ => 1
def uptoBulkAll {H : Type} : List (DataW H) → Nat
  | [] => 0
  | d :: r => uptoBulk d + uptoBulkAll r
def uptoBulkEntries {H : Type} : List (Lit × DataW H) → Nat
  | [] => 0
  | x :: r => uptoBulkEntry x + uptoBulkEntries r
def uptoBulkEntry {H : Type} : Lit × DataW H → Nat
  | (.string bytes, d) => bytes.length + uptoBulk d + 1
  | (_, d) => uptoBulk d + 1
 end
def uptoSmall : (H : Type) → List (DataW H) → Bool := fun _ ds => decide (uptoBulkAll ds ≤ 1048576)
def OpenSpec.upto (s : _root_.Go.ChangeSpec) : _root_.Go.OpenSpec := { _root_.Go.OpenSpec.ofChange s with cond := some uptoSmall }

/-- 'isochronlaw41.SignalSafe', WHERE WHAT IT READS IS OF BULK AT MOST 1048576: true; the input reads as it did. -/
def signalSafeUptoRow : OpenClaim := { program := "ytleloebnggepoaagreat", sum := "25904acfc36907ebcb4c661660872fffa8b323785045438948f7e58384539e77", func := "isochron/isochronlaw41.SignalSafe", spec := "signalSafe", unfollowed := true, recurses := true, named := ["math/bits.divideError", "math/bits.overflowError"], apart := false, narrowed := true }
def SignalSafeUptoSaid : Prop := signalSafeUptoRow.holds Tryz.pinned (OpenSpec.upto signalSafeSpec)

/-- 'isochronlaw41.SignalAnswers', WHERE WHAT IT READS IS OF BULK AT MOST 1048576: true; the input reads as it did. -/
def signalAnswersUptoRow : OpenClaim := { program := "ytleloebnggepoaagreat", sum := "25904acfc36907ebcb4c661660872fffa8b323785045438948f7e58384539e77", func := "isochron/isochronlaw41.SignalAnswers", spec := "signalAnswers", unfollowed := true, recurses := true, named := ["math/bits.divideError", "math/bits.overflowError"], apart := false, narrowed := true }
def SignalAnswersUptoSaid : Prop := signalAnswersUptoRow.holds Tryz.pinned (OpenSpec.upto signalAnswersSpec)

/-- 'isochronlaw41.SignalKnown', WHERE WHAT IT READS IS OF BULK AT MOST 1048576: true; the input reads as it did. -/
def signalKnownUptoRow : OpenClaim := { program := "ytleloebnggepoaagreat", sum := "25904acfc36907ebcb4c661660872fffa8b323785045438948f7e58384539e77", func := "isochron/isochronlaw41.SignalKnown", spec := "signalKnown", unfollowed := true, recurses := true, named := ["math/bits.divideError", "math/bits.overflowError"], apart := false, narrowed := true }
def SignalKnownUptoSaid : Prop := signalKnownUptoRow.holds Tryz.pinned (OpenSpec.upto signalKnownSpec)

end Rows
end Go.Proofs.YtleloebnggepoaaGreat
