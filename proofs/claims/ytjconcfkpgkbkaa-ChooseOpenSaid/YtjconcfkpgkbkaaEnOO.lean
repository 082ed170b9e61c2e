/- The engine, part OO: division, remainder, shifts with operands that are not literal; scopes. -/
import Derived.Test.YtjconcfkpgkbkaaEnON
namespace Go.En
set_option linter.unusedVariables false
variable {P : Program}

theorem rem_bin {t : TypeId} {k : IntKind} {a b : Int} (hb : b ≠ 0) (xo yo : Operand) : doBin P .rem t xo yo (.int k a) (.int k b) = some (.int k (a.tmod b)) := by
  have : plain P (do eqGuard .rem t xo yo (.int k a) (.int k b); binOp .rem t (.int k a) (.int k b)) = some (.int k (a.tmod b)) := by
    show plain P (if k ≠ k then stuck "BinOp: operands of different kinds" else Op.intDiv .rem k a b) = _
    rw [if_neg (by simp)]
    unfold Op.intDiv
    rw [if_neg hb]
    rfl
  unfold doBin sc
  rw [this]
  rfl
theorem quo_bin {t : TypeId} {k : IntKind} {a b : Int} (hb : b ≠ 0) (xo yo : Operand) : doBin P .quo t xo yo (.int k a) (.int k b) = some (.int k (k.wrap (a.tdiv b))) := by
  have : plain P (do eqGuard .quo t xo yo (.int k a) (.int k b); binOp .quo t (.int k a) (.int k b)) = some (.int k (k.wrap (a.tdiv b))) := by
    show plain P (if k ≠ k then stuck "BinOp: operands of different kinds" else Op.intDiv .quo k a b) = _
    rw [if_neg (by simp)]
    unfold Op.intDiv
    rw [if_neg hb]
    rfl
  unfold doBin sc
  rw [this]
  rfl
theorem shr_bin {t : TypeId} {k k' : IntKind} {a b : Int} (hb : 0 ≤ b) (xo yo : Operand) : doBin P .shr t xo yo (.int k a) (.int k' b) = some (.int k (a.fdiv (2 ^ (min b.toNat k.bits)))) := by
  have : plain P (do eqGuard .shr t xo yo (.int k a) (.int k' b); binOp .shr t (.int k a) (.int k' b)) = some (.int k (a.fdiv (2 ^ (min b.toNat k.bits)))) := by
    show plain P (Op.shift .shr k a k' b) = _
    unfold Op.shift
    rw [if_neg (by omega)]
    rfl
  unfold doBin sc
  rw [this]
  rfl

/-- The inner code of a function's first scope. -/
def findScp : Code → Option Code
  | .seq a b => match findScp a with
    | some c => some c
    | none => findScp b
  | .cond _ a b => match findScp a with
    | some c => some c
    | none => findScp b
  | .block _ c => findScp c
  | .loop c => findScp c
  | .scope c => some c
  | _ => none
def scp (P : Program) (f : Nat) : Code :=
  match P.funcs[f]? with
  | some fn => match fn.body with
    | some c => (findScp c).getD .skip
    | none => .skip
  | none => .skip
/-- What follows a label of a scope. -/
def after (c : Code) (l : Nat) : Code := (findLabel c l).getD .skip
end Go.En
