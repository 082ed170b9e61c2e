/- The engine, part L: the evaluator, with fuel, and that it is sound. -/
import Derived.Test.YtecplekkoikmmaaGreatEnMR
noncomputable section
namespace Go.En
set_option linter.unusedVariables false
variable {P : Program} {φ : Ren} {H : Hp} {K : Nat → Prop} {w : World}

/-- A round of a loop over a function. -/
def yieldE (E : Ev) (l : Nat) (vs : List Value) (H : Hp) (nx : Nat) : Option (Value × Hp × Nat) :=
  match H.get l with
  | some (.loop L) =>
    if vs.length = L.params.size then
      match E.code (some l) L.assign (setParams L.params.toList vs L.tmps.toList) [] H nx with
      | some R1 => match R1.e, R1.ds, R1.H.get l with
        | .normal, [], some (.loop L1) => match L1.state with
          | .ready => match E.code (some l) L.body R1.tm [] (R1.H.set l (.loop { L1 with state := .busy })) R1.nx with
            | some R2 => match R2.H.get l, roundEnd R2.e with
              | some (.loop L2), some (b, s, p) => some (.bool b, R2.H.set l (.loop { L2 with state := s, pending := p }), R2.nx)
              | _, _ => none
            | none => none
          | _ => none
        | _, _, _ => none
      | none => none
    else none
  | _ => none

theorem yieldE_ok {E : Ev} (hE : E.Ok P) {r : Option Nat} {o : Oper} {tm : List Value} {nx : Nat} {cf : Operand} {args : Array Operand} {ats : Array TypeId} (ho : o.op = .call { callee := .value cf, args := args, argTypes := ats })
    {l : Nat} {vs : List Value} (hcf : opv tm cf = some (.func (.yield l) #[] #[])) (hvs : opvs tm args.toList = some vs) {v : Value} {H' : Hp} {nx' : Nat} (h : yieldE E l vs H nx = some (v, H', nx')) : OpOk P r o tm H nx v H' nx' := by
  unfold yieldE at h
  split at h
  case h_2 => cases h
  rename_i L hl
  split at h
  case isFalse => cases h
  rename_i hn
  split at h
  case h_2 => cases h
  rename_i R1 hR1
  split at h
  case h_2 => cases h
  rename_i L1 he1 hd1 hl1
  split at h
  case h_2 => cases h
  rename_i hst
  split at h
  case h_2 => cases h
  rename_i R2 hR2
  split at h
  case h_2 => cases h
  rename_i L2 b s p hl2 he2
  cases h
  exact opOk_yield ho hcf hvs hl hn (hE.code hR1) he1 hd1 hl1 hst (hE.code hR2) hl2 he2

/-- One operation. -/
def evalOp (P : Program) (E : Ev) (tm : List Value) (H : Hp) (nx : Nat) (o : Oper) : Option (Value × Hp × Nat) :=
  match o.op with
  | .call { callee := .value cf, args := args, argTypes := _ } => match opv tm cf, opvs tm args.toList with
    | some (.func (.func f) fs cs), some vs => E.call f (fs.toList ++ vs ++ cs.toList) H nx
    | some (.func (.yield l) ⟨[]⟩ ⟨[]⟩), some vs => yieldE E l vs H nx
    | _, _ => none
  | _ => doOp P tm H nx o

theorem evalOp_ok {E : Ev} (hE : E.Ok P) (hs : NoSpecial P) {r : Option Nat} {o : Oper} {tm : List Value} {nx : Nat} {v : Value} {H' : Hp} {nx' : Nat} (h : evalOp P E tm H nx o = some (v, H', nx')) : OpOk P r o tm H nx v H' nx' := by
  unfold evalOp at h
  split at h
  · rename_i cf args ats ho
    split at h
    · rename_i f fs cs vs hcf hvs
      obtain ⟨fn, hfn, hb⟩ := hE.named h
      exact opOk_call ho hs hfn hb hcf hvs (hE.call h)
    · rename_i l vs hcf hvs
      exact yieldE_ok hE ho hcf hvs h
    · cases h
  · exact opOk_plain h

theorem evalOp_looks {E : Ev} : Looks (evalOp P E) := by
  intro t t' H nx o h
  unfold evalOp
  cases ho : o.op with
  | call c =>
    obtain ⟨cal, args, ats⟩ := c
    cases cal with
    | value cf =>
      rw [ho] at h
      simp only [h cf (by simp [Op.operands, Call.operands]), opvs_congr (xs := args.toList) fun x hx => h x (by simp only [Op.operands, Call.operands, Array.mem_append]; right; simpa using hx)]
    | _ => exact doOp_congr h
  | _ => exact doOp_congr h

/-- Operations in their order. -/
def evalList (P : Program) (E : Ev) (ops : Array Oper) : List Oper → List Value → Hp → Nat → Option (List Value × Hp × Nat)
  | [], tm, H, nx => some (tm, H, nx)
  | o :: l, tm, H, nx => match wantedA ops tm o with
    | some true => match evalOp P E tm H nx o with
      | some (v, H1, nx1) => evalList P E ops l (putT tm o.dst v) H1 nx1
      | none => none
    | some false => evalList P E ops l (putT tm o.dst undef) H nx
    | none => none

theorem evalList_ok {E : Ev} (hE : E.Ok P) (hs : NoSpecial P) {r : Option Nat} {ops : Array Oper} : ∀ {l : List Oper} {k : Nat} {tm : List Value} {H : Hp} {nx : Nat} {tm' : List Value} {H' : Hp} {nx' : Nat},
    (∀ j : Nat, l[j]? = ops[k + j]?) → evalList P E ops l tm H nx = some (tm', H', nx') → OpsOk P r ops (List.range' k l.length) tm H nx tm' H' nx'
  | [], k, tm, H, nx, tm', H', nx', _, h => by simp only [evalList, Option.some.injEq, Prod.mk.injEq] at h; obtain ⟨rfl, rfl, rfl⟩ := h; exact opsOk_nil
  | o :: l, k, tm, H, nx, tm', H', nx', hl, h => by
    have h0 : ops[k]? = some o := by simpa using (hl 0).symm
    have hl' : ∀ j : Nat, l[j]? = ops[k + 1 + j]? := fun j => by have := hl (j + 1); simpa [Nat.add_assoc, Nat.add_comm 1 j] using this
    simp only [evalList] at h
    rw [List.length_cons, List.range'_succ]
    split at h
    · rename_i hw
      split at h
      · rename_i v H1 nx1 h1
        exact opsOk_cons h0 hw (evalOp_ok hE hs h1) (evalList_ok hE hs hl' h)
      · cases h
    · rename_i hw
      exact opsOk_skip h0 hw (evalList_ok hE hs hl' h)
    · cases h

/-- The statement that ranges over a function. -/
def evalRange (E : Ev) (r : Option Nat) (g : Operand) (ps : Array Tmp) (assign body : Code) (tm : List Value) (ds : List Nat) (H : Hp) (nx : Nat) : Option Res :=
  match opv tm g with
  | some (.func (.func f) fs cs) =>
    match r with
    | none =>
      match E.call f (fs.toList ++ [.func (.yield (nx + 1)) #[] #[]] ++ cs.toList) ((nx + 1, .loop (newLoop tm ps assign body nx)) :: (nx, .defd) :: H) (nx + 2) with
      | some (_, H1, nx1) => match H1.get (nx + 1) with
        | some (.loop L) => afterLoop L tm (nx :: ds) (H1.del (nx + 1)) nx1
        | _ => none
      | none => none
    | some l0 => match H.get l0 with
      | some (.loop L0) =>
        match E.call f (fs.toList ++ [.func (.yield nx) #[] #[]] ++ cs.toList) ((nx, .loop (newLoop tm ps assign body L0.defers)) :: H) (nx + 1) with
        | some (_, H1, nx1) => match H1.get nx with
          | some (.loop L) => afterLoop L tm ds (H1.del nx) nx1
          | _ => none
        | none => none
      | _ => none
  | _ => none

theorem evalRange_ok {E : Ev} (hE : E.Ok P) (hs : NoSpecial P) {r : Option Nat} {g : Operand} {ps : Array Tmp} {assign body : Code} {tm : List Value} {ds : List Nat} {nx : Nat} {R : Res} (h : evalRange E r g ps assign body tm ds H nx = some R) :
    CodeOk P r (.rangeFunc g ps assign body) tm ds H nx R := by
  unfold evalRange at h
  split at h
  case h_2 => cases h
  rename_i f fs cs hg
  split at h
  · split at h
    case h_2 => cases h
    rename_i v H1 nx1 hc
    split at h
    case h_2 => cases h
    rename_i L hl
    obtain ⟨fn, hfn, hb⟩ := hE.named hc
    exact codeOk_rangeFunc hs hfn hb hg (hE.call hc) hl h
  · rename_i l0
    split at h
    case h_2 => cases h
    rename_i L0 hl0
    split at h
    case h_2 => cases h
    rename_i v H1 nx1 hc
    split at h
    case h_2 => cases h
    rename_i L hl
    obtain ⟨fn, hfn, hb⟩ := hE.named hc
    exact codeOk_rangeFunc_in hs hfn hb hg hl0 (hE.call hc) hl h

/-- Code. -/
def evalCode (P : Program) (E : Ev) (r : Option Nat) : Code → List Value → List Nat → Hp → Nat → Option Res
  | .skip, tm, ds, H, nx => some ⟨.normal, tm, ds, H, nx⟩
  | .label _, tm, ds, H, nx => some ⟨.normal, tm, ds, H, nx⟩
  | .exit i, tm, ds, H, nx => some ⟨.exit i, tm, ds, H, nx⟩
  | .goto i, tm, ds, H, nx => some ⟨.goto i, tm, ds, H, nx⟩
  | .ret, tm, ds, H, nx => some ⟨.ret, tm, ds, H, nx⟩
  | .seq x y, tm, ds, H, nx => match evalCode P E r x tm ds H nx with
    | some R => match R.e with
      | .normal => evalCode P E r y R.tm R.ds R.H R.nx
      | _ => some R
    | none => none
  | .cond c x y, tm, ds, H, nx => match opv tm c with
    | some (.bool true) => evalCode P E r x tm ds H nx
    | some (.bool false) => evalCode P E r y tm ds H nx
    | _ => none
  | .block i c, tm, ds, H, nx => (evalCode P E r c tm ds H nx).map (Res.inBlock i)
  | .loop c, tm, ds, H, nx => match mapLoop (evalList P E) (E.code r) c tm ds H nx with
    | some R => some R
    | none => match evalCode P E r c tm ds H nx with
      | some R => match R.e with
        | .normal => E.loop r c R.tm R.ds R.H R.nx
        | _ => some R
      | none => none
  | .region _ ops false, tm, ds, H, nx => match evalList P E ops ops.toList tm H nx with
    | some (tm', H', nx') => some ⟨.normal, tm', ds, H', nx'⟩
    | none => none
  | .region _ ops true, tm, ds, H, nx => match evalDraw P (evalOp P E) ops tm H nx with
    | some (tm', H', nx') => some ⟨.normal, tm', ds, H', nx'⟩
    | none => none
  | .rangeFunc g ps assign body, tm, ds, H, nx => evalRange E r g ps assign body tm ds H nx
  | .scope c, tm, ds, H, nx => match r with
    | some _ => none
    | none => match evalCode P E none c tm ds H nx with
      | some R => match R.e with
        | .goto l => match findLabel c l with
          | some rest => E.scp c rest R.tm R.ds R.H R.nx
          | none => none
        | _ => some R
      | none => none
  | _, _, _, _, _ => none

theorem evalCode_ok {E : Ev} (hE : E.Ok P) (hs : NoSpecial P) {r : Option Nat} : ∀ (c : Code) {tm : List Value} {ds : List Nat} {H : Hp} {nx : Nat} {R : Res}, evalCode P E r c tm ds H nx = some R → CodeOk P r c tm ds H nx R := by
  intro c
  induction c with
  | skip => intro tm ds H nx R h; simp only [evalCode, Option.some.injEq] at h; subst h; exact codeOk_skip
  | label l => intro tm ds H nx R h; simp only [evalCode, Option.some.injEq] at h; subst h; exact codeOk_label
  | exit l => intro tm ds H nx R h; simp only [evalCode, Option.some.injEq] at h; subst h; exact codeOk_exit
  | goto l => intro tm ds H nx R h; simp only [evalCode, Option.some.injEq] at h; subst h; exact codeOk_goto
  | ret => intro tm ds H nx R h; simp only [evalCode, Option.some.injEq] at h; subst h; exact codeOk_ret
  | seq x y ihx ihy =>
    intro tm ds H nx R h
    simp only [evalCode] at h
    split at h
    case h_2 => cases h
    rename_i R1 h1
    split at h
    · rename_i he; exact codeOk_seq (ihx h1) he (ihy h)
    · rename_i he; cases h; exact codeOk_seq_out (ihx h1) he
  | cond c x y ihx ihy =>
    intro tm ds H nx R h
    simp only [evalCode] at h
    split at h
    · rename_i hc; exact codeOk_cond hc (by simpa using ihx h)
    · rename_i hc; exact codeOk_cond hc (by simpa using ihy h)
    · cases h
  | block i c ih =>
    intro tm ds H nx R h
    simp only [evalCode, Option.map_eq_some_iff] at h
    obtain ⟨R1, h1, rfl⟩ := h
    exact codeOk_block (ih h1)
  | loop c ih =>
    intro tm ds H nx R h
    simp only [evalCode] at h
    split at h
    · rename_i R1 h1
      cases h
      exact codeOk_loop (mapLoop_ok (r := r) (fun hj hx => evalList_ok (r := r) hE hs hj hx) (fun hx => hE.code hx) h1)
    split at h
    case h_2 => cases h
    rename_i R1 h1
    split at h
    · rename_i he; exact codeOk_loop (loopOk_more (ih h1) he (hE.loop h))
    · rename_i he; cases h; exact codeOk_loop (loopOk_out (ih h1) he)
  | region id ops draw =>
    intro tm ds H nx R h
    cases draw with
    | false =>
      simp only [evalCode] at h
      split at h
      case h_2 => cases h
      rename_i tm' H' nx' h1
      cases h
      refine codeOk_region ?_
      have := evalList_ok (r := r) hE hs (k := 0) (ops := ops) (fun j => by simp) h1
      rw [List.range_eq_range']
      simpa using this
    | true =>
      simp only [evalCode] at h
      split at h
      case h_2 => cases h
      rename_i tm' H' nx' h1
      cases h
      exact evalDraw_ok evalOp_looks (fun h => evalOp_ok hE hs h) h1
  | rangeFunc g ps assign body iha ihb =>
    intro tm ds H nx R h
    simp only [evalCode] at h
    exact evalRange_ok hE hs h
  | scope c ih =>
    intro tm ds H nx R h
    cases r with
    | some l => simp [evalCode] at h
    | none =>
      simp only [evalCode] at h
      split at h
      case h_2 => cases h
      rename_i R1 h1
      split at h
      · rename_i l he
        split at h
        · rename_i rest hf; exact codeOk_scope (scpOk_jump (ih h1) he hf (hE.scp h))
        · cases h
      · rename_i he; cases h; exact codeOk_scope (scpOk_out (ih h1) he)
  | refuse s => intro tm ds H nx R h; simp [evalCode] at h

/-! ### What a call has made and nobody can reach any more is dropped -/
def refs : Nat → Value → List Nat
  | 0, _ => []
  | _, .pointer (some a) => [a.block]
  | _, .slice (some a) _ _ => [a.block]
  | _, .map (some r) => [r]
  | n + 1, .func (.yield l) a b => l :: (a.toList.flatMap (refs n) ++ b.toList.flatMap (refs n))
  | n + 1, .func _ a b => a.toList.flatMap (refs n) ++ b.toList.flatMap (refs n)
  | n + 1, .iface _ v => refs n v
  | n + 1, .agg cs => cs.toList.flatMap (refs n)
  | n + 1, .tuple cs => cs.toList.flatMap (refs n)
  | _, _ => []
def refsB : Blk → List Nat
  | .cells cs _ => cs.flatMap (refs 4)
  | .loop l => l.defers :: l.tmps.toList.flatMap (refs 4)
  | .mp es _ => es.flatMap fun e => refs 4 e.2.1
  | .iter m _ => [m]
  | _ => []
/-- The names from lo on that are reached, by rounds. -/
def reach (lo : Nat) (H : Hp) : Nat → List Nat → List Nat → List Nat
  | 0, done, todo => done ++ todo
  | _ + 1, done, [] => done
  | n + 1, done, b :: todo => if done.contains b then reach lo H n done todo else match H.get b with
    | some k => reach lo H n (b :: done) (((refsB k).filter fun x => decide (lo ≤ x)) ++ todo)
    | none => reach lo H n (b :: done) todo
def oldRefs (lo : Nat) : Hp → List Nat
  | [] => []
  | (b, k) :: r => if b < lo then ((refsB k).filter fun x => decide (lo ≤ x)) ++ oldRefs lo r else oldRefs lo r
def hasNew (lo : Nat) : Hp → Bool
  | [] => false
  | (b, _) :: r => decide (lo ≤ b) || hasNew lo r
def gc (lo : Nat) (v : Value) (H : Hp) : Hp :=
  if hasNew lo H then
    match ((refs 4 v).filter fun x => decide (lo ≤ x)) ++ oldRefs lo H with
    | [] => Hp.only (fun b => decide (b < lo)) H
    | rs => match reach lo H 1000 [] rs with
      | ks => Hp.only (fun b => decide (b < lo) || ks.contains b) H
  else H
theorem gc_sub (lo : Nat) (v : Value) (H : Hp) (b : Nat) (k : Blk) (h : (gc lo v H).get b = some k) : H.get b = some k := by
  unfold gc at h
  split at h
  · split at h
    · rw [Hp.get_only] at h
      split at h
      · exact h
      · cases h
    · dsimp only at h
      rw [Hp.get_only] at h
      split at h
      · exact h
      · cases h
  · exact h

/-- A function's call. -/
def evalCall (P : Program) (E : Ev) (f : FuncId) (args : List Value) (H : Hp) (nx : Nat) : Option (Value × Hp × Nat) :=
  match P.funcs[f]? with
  | some fn => match fn.body with
    | some c => match evalCode P E none c (args ++ List.replicate (fn.ntmps - args.length) undef) [] H nx with
      | some R => match (match R.e with | .normal => true | .ret => true | _ => false) with
        | true => match killDs R.ds R.H with
          | some H1 => match resA P H1 R.tm fn.results.toList with
            | some vs => some (retV vs, gc nx (retV vs) H1, R.nx)
            | none => none
          | none => none
        | false => none
      | none => none
    | none => none
  | none => none
theorem evalCall_ok {E : Ev} (hE : E.Ok P) (hs : NoSpecial P) {f : FuncId} {args : List Value} {nx : Nat} {v : Value} {H' : Hp} {nx' : Nat} (h : evalCall P E f args H nx = some (v, H', nx')) :
    (∃ fn, P.funcs[f]? = some fn ∧ fn.body.isSome = true) ∧ CallOk P f args H nx v H' nx' := by
  unfold evalCall at h
  split at h
  case h_2 => cases h
  rename_i fn hfn
  split at h
  case h_2 => cases h
  rename_i c hc
  split at h
  case h_2 => cases h
  rename_i R hR
  split at h
  case h_2 => cases h
  rename_i he
  split at h
  case h_2 => cases h
  rename_i H1 hk
  split at h
  case h_2 => cases h
  rename_i vs hv
  cases h
  refine ⟨⟨fn, hfn, by rw [hc]; rfl⟩, callOk_of hfn hc (evalCode_ok hE hs c hR) ?_ hk hv (gc_sub nx _ _)⟩
  cases hE2 : R.e <;> simp [hE2] at he ⊢

def evStep (P : Program) (E : Ev) : Ev where
  call := evalCall P E
  code := evalCode P E
  loop := fun r c tm ds H nx => match evalCode P E r c tm ds H nx with
    | some R => match R.e with
      | .normal => E.loop r c R.tm R.ds R.H R.nx
      | _ => some R
    | none => none
  scp := fun c x tm ds H nx => match evalCode P E none x tm ds H nx with
    | some R => match R.e with
      | .goto l => match findLabel c l with
        | some rest => E.scp c rest R.tm R.ds R.H R.nx
        | none => none
      | _ => some R
    | none => none

theorem evStep_ok {E : Ev} (hE : E.Ok P) (hs : NoSpecial P) : (evStep P E).Ok P := by
  refine ⟨fun h => (evalCall_ok hE hs h).2, fun h => (evalCall_ok hE hs h).1, fun h => evalCode_ok hE hs _ h, fun {r c tm ds H nx R} h => ?_, fun {c x tm ds H nx R} h => ?_⟩
  · simp only [evStep] at h
    split at h
    case h_2 => cases h
    rename_i R1 h1
    split at h
    · rename_i he; exact loopOk_more (evalCode_ok hE hs c h1) he (hE.loop h)
    · rename_i he; cases h; exact loopOk_out (evalCode_ok hE hs c h1) he
  · simp only [evStep] at h
    split at h
    case h_2 => cases h
    rename_i R1 h1
    split at h
    · rename_i l he
      split at h
      · rename_i rest hf; exact scpOk_jump (evalCode_ok hE hs x h1) he hf (hE.scp h)
      · cases h
    · rename_i he; cases h; exact scpOk_out (evalCode_ok hE hs x h1) he

def ev (P : Program) : Nat → Ev
  | 0 => ⟨fun _ _ _ _ => none, fun _ _ _ _ _ _ => none, fun _ _ _ _ _ _ => none, fun _ _ _ _ _ _ => none⟩
  | n + 1 => evStep P (ev P n)
theorem ev_ok (hs : NoSpecial P) : ∀ n, (ev P n).Ok P
  | 0 => ⟨(fun h => by cases h), (fun h => by cases h), (fun h => by cases h), (fun h => by cases h), (fun h => by cases h)⟩
  | n + 1 => evStep_ok (ev_ok hs n) hs
end Go.En
