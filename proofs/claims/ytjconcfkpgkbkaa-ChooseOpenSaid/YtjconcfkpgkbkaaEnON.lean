/- The engine, part ON: a call that leaves new blocks in old ones. -/
import Derived.Test.YtjconcfkpgkbkaaEnOM
namespace Go.En
set_option linter.unusedVariables false
variable {P : Program} {H : Hp}

def gcK (ks : List Nat) (lo : Nat) (v : Value) (H : Hp) : Hp := Hp.only (fun b => decide (b < lo) || ks.contains b || (refs 4 v).contains b) H
theorem gcK_sub (ks : List Nat) (lo : Nat) (v : Value) (H : Hp) (b : Nat) (k : Blk) (h : (gcK ks lo v H).get b = some k) : H.get b = some k := by
  unfold gcK at h
  rw [Hp.get_only] at h
  split at h
  · exact h
  · cases h
def sCallK (P : Program) (ks : List Nat) (hs : Hints) (ch : List CHint) (E : Ev) (f : FuncId) (args : List Value) (H : Hp) (nx : Nat) : Option (Value × Hp × Nat × Eqs) :=
  match P.funcs[f]? with
  | some fn => match fn.body with
    | some c => match sCode P hs ch E none c (args ++ List.replicate (fn.ntmps - args.length) undef) [] H nx with
      | some (R, e) => match (match R.e with | .normal => true | .ret => true | _ => false) with
        | true => match killDs R.ds R.H with
          | some H1 => match resA P H1 R.tm fn.results.toList with
            | some vs => some (retV vs, gcK ks nx (retV vs) H1, R.nx, e)
            | none => none
          | none => none
        | false => none
      | none => none
    | none => none
  | none => none
theorem sCallK_ok {ks : List Nat} {hs : Hints} (hk : HintsOk P hs) {ch : List CHint} (hch : CHintsOk P ch) {E : Ev} (hE : E.Ok P) (hsp : NoSpecial P) {f : FuncId} {args : List Value} {nx : Nat} {v : Value} {H' : Hp} {nx' : Nat} {e : Eqs} (h : sCallK P ks hs ch E f args H nx = some (v, H', nx', e)) (he : e.Hold) :
    (∃ fn, P.funcs[f]? = some fn ∧ fn.body.isSome = true) ∧ CallOk P f args H nx v H' nx' := by
  unfold sCallK at h
  split at h
  case h_2 => cases h
  rename_i fn hfn
  split at h
  case h_2 => cases h
  rename_i c hc
  split at h
  case h_2 => cases h
  rename_i R e1 hR
  split at h
  case h_2 => cases h
  rename_i hen
  split at h
  case h_2 => cases h
  rename_i H1 hkd
  split at h
  case h_2 => cases h
  rename_i vs hv
  cases h
  refine ⟨⟨fn, hfn, by rw [hc]; rfl⟩, callOk_of hfn hc (sCode_ok hk hch hE hsp c hR he) ?_ hkd hv (gcK_sub ks nx _ _)⟩
  cases hE2 : R.e <;> simp [hE2] at hen ⊢
/-- A call, by hints; the new blocks named in the list are kept. -/
theorem call_k (ks : List Nat) {hs : Hints} {ch : List CHint} {E : Ev} {f : FuncId} {args : List Value} {nx : Nat} {v : Value} {H' : Hp} {nx' : Nat} (hE : E.Ok P) (hsp : NoSpecial P) (hk : HintsOk P hs) (hch : CHintsOk P ch)
    (h : leftsO (callOut (sCallK P ks hs ch E f args H nx)) = some ((v, H', nx'), rightsO (callOut (sCallK P ks hs ch E f args H nx)))) : (∃ fn, P.funcs[f]? = some fn ∧ fn.body.isSome = true) ∧ CallOk P f args H nx v H' nx' := by
  obtain ⟨e, h1, h2⟩ := out_of h
  simp only [callOut, Option.map_eq_some_iff, Prod.mk.injEq] at h1
  obtain ⟨⟨a, b, c, d⟩, h3, ⟨rfl, rfl, rfl⟩, rfl⟩ := h1
  exact sCallK_ok hk hch hE hsp h3 h2
/-- A call of which it is known what it comes to on the whole heap, as a hint. -/
theorem any_call {o : Oper} {nx : Nat} {cf : Operand} {args : Array Operand} {ats : Array TypeId} {f : FuncId} {vs : List Value} {v : Value} {H' : Hp} {nx' : Nat} (hsp : NoSpecial P)
    (ho : o.op = .call { callee := .value cf, args := args, argTypes := ats })
    (h : (∃ fn, P.funcs[f]? = some fn ∧ fn.body.isSome = true) ∧ CallOk P f vs H nx v H' nx') : Hint.Ok P (.any o (.func (.func f) #[] #[] :: vs) H nx v H' nx') := by
  intro r tm hop
  obtain ⟨⟨fn, hfn, hb⟩, hc⟩ := h
  have hops : o.op.operands.toList = cf :: args.toList := by rw [ho]; simp [Op.operands, Call.operands]
  rw [hops] at hop
  simp only [opvs] at hop
  split at hop
  · rename_i v0 vs0 hv0 hvs0
    cases hop
    exact opOk_call ho hsp hfn hb hv0 hvs0 (by simpa using hc)
  · cases hop
end Go.En
