/- The engine, part OI: loops over functions with hints: a round by hints, the statement's parts by their first region. -/
import Derived.Test.YtjconcfkpgkbkaaEnOH
namespace Go.En
set_option linter.unusedVariables false
variable {P : Program} {φ : Ren} {H : Hp} {K : Nat → Prop} {w : World}

/-- The statement that ranges over a function, by its first region. -/
def findRf (id : Nat) : Code → Option Code
  | .seq a b => match findRf id a with
    | some c => some c
    | none => findRf id b
  | .cond _ a b => match findRf id a with
    | some c => some c
    | none => findRf id b
  | .block _ c => findRf id c
  | .loop c => findRf id c
  | .scope c => findRf id c
  | .rangeFunc g ps a b => match firstReg (.rangeFunc g ps a b) with
    | some i => if i == id then some (.rangeFunc g ps a b) else match findRf id b with
      | some c => some c
      | none => findRf id a
    | none => none
  | _ => none
def rf (P : Program) (f id : Nat) : Code :=
  match P.funcs[f]? with
  | some fn => match fn.body with
    | some c => match findRf id c with
      | some c => c
      | none => .skip
    | none => .skip
  | none => .skip
def rfA : Code → Code
  | .rangeFunc _ _ a _ => a
  | _ => .skip
def rfB : Code → Code
  | .rangeFunc _ _ _ b => b
  | _ => .skip
def rfG : Code → Operand
  | .rangeFunc g _ _ _ => g
  | _ => .tmp 0
def rfP : Code → Array Tmp
  | .rangeFunc _ ps _ _ => ps
  | _ => #[]
/-- An operation, by its region and its place. -/
def findOp (id k : Nat) : Code → Option Oper
  | .seq a b => match findOp id k a with
    | some c => some c
    | none => findOp id k b
  | .cond _ a b => match findOp id k a with
    | some c => some c
    | none => findOp id k b
  | .block _ c => findOp id k c
  | .loop c => findOp id k c
  | .scope c => findOp id k c
  | .rangeFunc _ _ a b => match findOp id k a with
    | some c => some c
    | none => findOp id k b
  | .region i ops _ => if i == id then ops.toList[k]? else none
  | _ => none
def opAt (P : Program) (f id k : Nat) : Oper :=
  match P.funcs[f]? with
  | some fn => match fn.body with
    | some c => match findOp id k c with
      | some o => o
      | none => ⟨none, .move (.tmp 0), 0, "", #[], none⟩
    | none => ⟨none, .move (.tmp 0), 0, "", #[], none⟩
  | none => ⟨none, .move (.tmp 0), 0, "", #[], none⟩

/-- A round, by hints. -/
def sYield (P : Program) (hs : Hints) (ch : List CHint) (E : Ev) (l : Nat) (vs : List Value) (H : Hp) (nx : Nat) : Option (Value × Hp × Nat × Eqs) :=
  match H.get l with
  | some (.loop L) =>
    match Nat.beq vs.length L.params.size with
    | true =>
      match sCode P hs ch E (some l) L.assign (setParams L.params.toList vs L.tmps.toList) [] H nx with
      | some (R1, e1) => match R1.e, R1.ds, R1.H.get l with
        | .normal, [], some (.loop L1) => match L1.state with
          | .ready => match sCode P hs ch E (some l) L.body R1.tm [] (R1.H.set l (.loop { L1 with state := .busy })) R1.nx with
            | some (R2, e2) => match R2.H.get l, roundEnd R2.e with
              | some (.loop L2), some (b, s, p) => some (.bool b, R2.H.set l (.loop { L2 with state := s, pending := p }), R2.nx, e1.and e2)
              | _, _ => none
            | none => none
          | _ => none
        | _, _, _ => none
      | none => none
    | false => none
  | _ => none

theorem sYield_ok {hs : Hints} (hk : HintsOk P hs) {ch : List CHint} (hch : CHintsOk P ch) {E : Ev} (hE : E.Ok P) (hsp : NoSpecial P) {r : Option Nat} {o : Oper} {tm : List Value} {nx : Nat} {cf : Operand} {args : Array Operand} {ats : Array TypeId} (ho : o.op = .call { callee := .value cf, args := args, argTypes := ats })
    {l : Nat} {vs : List Value} (hcf : opv tm cf = some (.func (.yield l) #[] #[])) (hvs : opvs tm args.toList = some vs) {v : Value} {H' : Hp} {nx' : Nat} {e : Eqs} (h : sYield P hs ch E l vs H nx = some (v, H', nx', e)) (he : e.Hold) : OpOk P r o tm H nx v H' nx' := by
  unfold sYield at h
  split at h
  case h_2 => cases h
  rename_i L hl
  split at h
  case h_2 => cases h
  rename_i hn
  split at h
  case h_2 => cases h
  rename_i R1 e1 hR1
  split at h
  case h_2 => cases h
  rename_i L1 he1 hd1 hl1
  split at h
  case h_2 => cases h
  rename_i hst
  split at h
  case h_2 => cases h
  rename_i R2 e2 hR2
  split at h
  case h_2 => cases h
  rename_i L2 b s p hl2 he2
  cases h
  obtain ⟨g1, g2⟩ := Eqs.hold_and.1 he
  exact opOk_yield ho hcf hvs hl (Nat.eq_of_beq_eq_true hn) (sCode_ok hk hch hE hsp _ hR1 g1) he1 hd1 hl1 hst (sCode_ok hk hch hE hsp _ hR2 g2) hl2 he2

theorem yield_by {hs : Hints} {ch : List CHint} {E : Ev} {o : Oper} {nx : Nat} {cf : Operand} {args : Array Operand} {ats : Array TypeId} {l : Nat} {vs : List Value} {v : Value} {H' : Hp} {nx' : Nat} (hE : E.Ok P) (hsp : NoSpecial P) (hk : HintsOk P hs) (hch : CHintsOk P ch)
    (ho : o.op = .call { callee := .value cf, args := args, argTypes := ats })
    (h : leftsO (callOut (sYield P hs ch E l vs H nx)) = some ((v, H', nx'), rightsO (callOut (sYield P hs ch E l vs H nx)))) :
    Hint.Ok P (.any o (.func (.yield l) #[] #[] :: vs) H nx v H' nx') := by
  intro r tm hop
  obtain ⟨e, h1, h2⟩ := out_of h
  simp only [callOut, Option.map_eq_some_iff, Prod.mk.injEq] at h1
  obtain ⟨⟨a, b, c, d⟩, h3, ⟨rfl, rfl, rfl⟩, rfl⟩ := h1
  have hops : o.op.operands.toList = cf :: args.toList := by rw [ho]; simp [Op.operands, Call.operands]
  rw [hops] at hop
  simp only [opvs] at hop
  split at hop
  · rename_i v0 vs0 hv0 hvs0
    cases hop
    exact sYield_ok hk hch hE hsp ho hv0 hvs0 h3 h2
  · cases hop

/-- The statement, from what the function called comes to. -/
theorem range_by {c : Code} {tm : List Value} {ds : List Nat} {nx : Nat} {f : FuncId} {fs cs : List Value} {v : Value} {H1 : Hp} {nx1 : Nat} {L : Loop} {R : Res} (hsp : NoSpecial P)
    (hc : c = .rangeFunc (rfG c) (rfP c) (rfA c) (rfB c)) (hgv : opv tm (rfG c) = some (.func (.func f) fs.toArray cs.toArray))
    (h : (∃ fn, P.funcs[f]? = some fn ∧ fn.body.isSome = true) ∧ CallOk P f (fs ++ [.func (.yield (nx + 1)) #[] #[]] ++ cs) ((nx + 1, .loop (newLoop tm (rfP c) (rfA c) (rfB c) nx)) :: (nx, .defd) :: H) (nx + 2) v H1 nx1)
    (hl : H1.get (nx + 1) = some (.loop L)) (ha : afterLoop L tm (nx :: ds) (H1.del (nx + 1)) nx1 = some R) : CodeOk P none c tm ds H nx R := by
  obtain ⟨⟨fn, hfn, hb⟩, h2⟩ := h
  rw [hc]
  exact codeOk_rangeFunc hsp hfn hb hgv (by simpa using h2) hl ha
end Go.En
