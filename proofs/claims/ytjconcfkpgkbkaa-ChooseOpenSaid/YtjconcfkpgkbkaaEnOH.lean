/- The engine, part OH: equality of structs, field by field, where the fields are variables. -/
import Derived.Test.YtjconcfkpgkbkaaEnOG
namespace Go.En
set_option linter.unusedVariables false
variable {P : Program} {φ : Ren} {H : Hp} {K : Nat → Prop} {w : World}

def eqF (P : Program) (eq : TypeId → Value → Value → Option Bool) (xs ys : Array Value) : List Field → Option Bool
  | [] => some true
  | f :: fs => if f.name = "_" then eqF P eq xs ys fs else
    match plain P (part f.type xs f.offset), plain P (part f.type ys f.offset) with
    | some x, some y => match eq f.type x y with
      | some b => match eqF P eq xs ys fs with
        | some c => some (b && c)
        | none => none
      | none => none
    | _, _ => none
def eqS (P : Program) : Nat → TypeId → Value → Value → Option Bool
  | 0, _, _, _ => none
  | d + 1, t, x, y => match P.underlying t with
    | some .bool => match x, y with
      | .bool a, .bool b => some (a == b)
      | _, _ => none
    | some (.int _) => match x, y with
      | .int k a, .int k' b => if k = k' then some (a == b) else none
      | _, _ => none
    | some (.struct fields) => match x, y with
      | .agg xs, .agg ys => if P.stoodInHeld t then none else eqF P (eqS P d) xs ys fields.toList
      | _, _ => none
    | _ => none

theorem plain_underlying {t : TypeId} {d : TypeDesc} (h : P.underlying t = some d) : plain P (underlying t) = some d := by
  show plain P (Sem.program fun p => _) = _
  simp only [plain]
  show plain P (Sem.bind (.pure P) _) = _
  simp only [Sem.bind, h]
  rfl
theorem eqF_ok {d : Nat} {xs ys : Array Value} (ih : ∀ (t : TypeId) (x y : Value) (b : Bool), eqS P d t x y = some b → plain P (Op.equalIn d t x y) = some b) : ∀ (fs : List Field) (b : Bool), eqF P (eqS P d) xs ys fs = some b →
    plain P (forIn fs ((none, ()) : Option Bool × Unit) fun f __s =>
            if f.name ≠ "_" then do
              let x ← part f.type xs f.offset
              let y ← part f.type ys f.offset
              let e ← Op.equalIn d f.type x y
              if (!e) = true then pure (ForInStep.done (some false, ())) else pure (ForInStep.yield (none, ()))
            else pure (ForInStep.yield (none, ()))) = some (if b then (none, ()) else (some false, ()))
  | [], b, h => by
    simp only [eqF, Option.some.injEq] at h
    subst h
    rfl
  | f :: fs, b, h => by
    rw [List.forIn_cons]
    show plain P (Sem.bind _ _) = _
    rw [plain_bind]
    simp only [eqF] at h
    split at h
    · rename_i hn
      rw [if_neg (by simp [hn])]
      show (Option.bind (plain P (Sem.pure _)) _) = _
      simp only [plain, Option.bind_some]
      exact eqF_ok ih fs b h
    · rename_i hn
      rw [if_pos hn]
      split at h
      case h_2 => cases h
      rename_i x y hx hy
      split at h
      case h_2 => cases h
      rename_i e he
      split at h
      case h_2 => cases h
      rename_i c hc
      cases h
      show (Option.bind (plain P (Sem.bind _ _)) _) = _
      rw [plain_bind, hx, Option.bind_some]
      show (Option.bind (plain P (Sem.bind _ _)) _) = _
      rw [plain_bind, hy, Option.bind_some]
      show (Option.bind (plain P (Sem.bind _ _)) _) = _
      rw [plain_bind, ih _ _ _ _ he, Option.bind_some]
      cases e with
      | false =>
        simp only [Bool.not_false, if_true, Bool.false_and]
        rfl
      | true =>
        simp only [Bool.not_true, Bool.false_eq_true, if_false, Bool.true_and]
        show (Option.bind (plain P (Sem.pure _)) _) = _
        simp only [plain, Option.bind_some]
        exact eqF_ok ih fs c hc

theorem eqS_ok : ∀ (d : Nat) (t : TypeId) (x y : Value) (b : Bool), eqS P d t x y = some b → plain P (Op.equalIn d t x y) = some b := by
  intro d
  induction d with
  | zero => intro t x y b h; cases h
  | succ d ih =>
    intro t x y b h
    simp only [eqS] at h
    unfold Op.equalIn
    split at h
    · rename_i hu
      split at h
      · cases h
        show plain P ((underlying t).bind _) = _
        rw [plain_bind, plain_underlying hu, Option.bind_some]
        rfl
      · cases h
    · rename_i hu
      split at h
      · split at h
        · rename_i hk
          cases h
          show plain P ((underlying t).bind _) = _
          rw [plain_bind, plain_underlying hu, Option.bind_some]
          simp only [hk, if_true]
          rfl
        · cases h
      · cases h
    · rename_i fields hu
      split at h
      · rename_i xs ys
        split at h
        · cases h
        · rename_i hst
          show plain P ((underlying t).bind _) = _
          rw [plain_bind, plain_underlying hu, Option.bind_some]
          dsimp only
          show plain P (Sem.bind program _) = _
          rw [plain_bind]
          show plain P (if P.stoodInHeld t = true then _ else _) = _
          rw [if_neg hst]
          show plain P (Sem.bind (forIn fields (none, ()) _) _) = _
          rw [plain_bind, ← Array.forIn_toList, eqF_ok ih fields.toList b h]
          cases b <;> rfl
      · cases h
    · cases h

theorem plain_guard {op : BinOp} {t : TypeId} {xo yo : Operand} {xs ys : Array Value} (hg : P.eqGuardType P.depth t = false) (ho : op = .eql ∨ op = .neq) : plain P (eqGuard op t xo yo (.agg xs) (.agg ys)) = some () := by
  rcases ho with rfl | rfl <;>
  · unfold eqGuard
    show plain P (Sem.bind program _) = _
    rw [plain_bind]
    show plain P (Sem.bind program _) = _
    rw [plain_bind]
    show plain P (if (!P.eqGuardType P.depth t) = true then _ else _) = _
    rw [hg]
    rfl
theorem bin_eql {t : TypeId} {xs ys : Array Value} {b : Bool} (hg : P.eqGuardType P.depth t = false) (ha : av (.agg xs) = true) (hb : av (.agg ys) = true) (h : eqS P 10000 t (.agg xs) (.agg ys) = some b) (xo yo : Operand) :
    doBin P .eql t xo yo (.agg xs) (.agg ys) = some (.bool b) ∧ doBin P .neq t xo yo (.agg xs) (.agg ys) = some (.bool (!b)) := by
  have he := eqS_ok 10000 t _ _ b h
  constructor
  · unfold doBin sc
    simp only [ha, hb, Bool.and_self, if_true]
    have : plain P (do eqGuard .eql t xo yo (.agg xs) (.agg ys); binOp .eql t (.agg xs) (.agg ys)) = some (.bool b) := by
      show plain P (Sem.bind _ _) = _
      rw [plain_bind, plain_guard hg (.inl rfl), Option.bind_some]
      show plain P (Sem.bind (Op.equalIn 10000 t _ _) _) = _
      rw [plain_bind, he]
      rfl
    rw [this]
    rfl
  · unfold doBin sc
    simp only [ha, hb, Bool.and_self, if_true]
    have : plain P (do eqGuard .neq t xo yo (.agg xs) (.agg ys); binOp .neq t (.agg xs) (.agg ys)) = some (.bool (!b)) := by
      show plain P (Sem.bind _ _) = _
      rw [plain_bind, plain_guard hg (.inr rfl), Option.bind_some]
      show plain P (Sem.bind (Op.equalIn 10000 t _ _) _) = _
      rw [plain_bind, he]
      rfl
    rw [this]
    rfl
end Go.En
