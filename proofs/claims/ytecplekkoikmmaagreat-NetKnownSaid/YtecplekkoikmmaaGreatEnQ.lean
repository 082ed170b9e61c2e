/- The engine, part Q: the evaluator with temporaries in a list of what was put last (quicker in the kernel). -/
import Derived.Test.YtecplekkoikmmaaGreatEnN
noncomputable section
namespace Go.En
set_option linter.unusedVariables false
variable {P : Program} {φ : Ren} {H : Hp} {K : Nat → Prop} {w : World}

abbrev TA := List (Nat × Value)
def ag (A : TA) (i : Nat) : Option Value := List.rec (motive := fun _ => Option Value) none (fun x _ ih => bif Nat.beq x.1 i then some x.2 else ih) A
theorem ag_cons (k : Nat) (v : Value) (A : TA) (i : Nat) : ag ((k, v) :: A) i = if k = i then some v else ag A i := by
  show (bif Nat.beq k i then some v else ag A i) = _
  cases h : Nat.beq k i with
  | true => rw [if_pos (Nat.eq_of_beq_eq_true h)]; rfl
  | false => rw [if_neg (Nat.ne_of_beq_eq_false h)]; rfl
def toL (n : Nat) (A : TA) : List Value := (List.range n).map fun i => (ag A i).getD undef
theorem toL_length (n : Nat) (A : TA) : (toL n A).length = n := by simp [toL]
theorem toL_get (n : Nat) (A : TA) (t : Nat) : (toL n A)[t]? = if t < n then some ((ag A t).getD undef) else none := by
  unfold toL
  by_cases h : t < n
  · simp [h]
  · simp [h]
def ofL : Nat → List Value → TA
  | _, [] => []
  | i, v :: r => (i, v) :: ofL (i + 1) r
theorem ag_ofL : ∀ (l : List Value) (i t : Nat), ag (ofL i l) t = if i ≤ t then l[t - i]? else none
  | [], i, t => by
    show none = _
    split <;> simp
  | v :: r, i, t => by
    rw [ofL, ag_cons, ag_ofL r (i + 1) t]
    by_cases h : i = t
    · subst h; simp
    · rw [if_neg h]
      by_cases h2 : i ≤ t
      · rw [if_pos h2, if_pos (by omega), show t - i = (t - (i + 1)) + 1 by omega]; rfl
      · rw [if_neg h2, if_neg (by omega)]
theorem toL_ofL_pad (l : List Value) {n : Nat} (h : l.length ≤ n) : toL n (ofL 0 l) = l ++ List.replicate (n - l.length) undef := by
  apply List.ext_getElem?
  intro t
  rw [toL_get, ag_ofL, if_pos (Nat.zero_le t), Nat.sub_zero]
  by_cases h1 : t < l.length
  · rw [if_pos (by omega), List.getElem?_append_left h1, List.getElem?_eq_getElem h1]; rfl
  · rw [List.getElem?_append_right (by omega), List.getElem?_eq_none (by omega), List.getElem?_replicate]
    by_cases h2 : t < n
    · rw [if_pos h2, if_pos (by omega)]; rfl
    · rw [if_neg h2, if_neg (by omega)]
theorem toL_ofL (l : List Value) {n : Nat} (h : l.length = n) : toL n (ofL 0 l) = l := by
  rw [toL_ofL_pad l (by omega), h, Nat.sub_self]; simp
/-- Of every temporary what was put last. -/
def nubA : TA → Nat → TA
  | [], _ => []
  | (k, v) :: r, m => bif Nat.testBit m k then nubA r m else (k, v) :: nubA r (Nat.lor m (2 ^ k))
theorem ag_nub : ∀ (A : TA) (m i : Nat), Nat.testBit m i = false → ag (nubA A m) i = ag A i
  | [], _, _, _ => rfl
  | (k, v) :: r, m, i, h => by
    simp only [nubA]
    cases hk : Nat.testBit m k with
    | true =>
      have hne : k ≠ i := by intro e; rw [e, h] at hk; cases hk
      rw [ag_cons, if_neg hne]
      exact ag_nub r m i h
    | false =>
      simp only [cond_false]
      rw [ag_cons, ag_cons]
      by_cases hki : k = i
      · rw [if_pos hki, if_pos hki]
      · rw [if_neg hki, if_neg hki]
        refine ag_nub r _ i ?_
        show Nat.testBit (m ||| 2 ^ k) i = false
        rw [Nat.testBit_or, h, Nat.testBit_two_pow]
        simp [hki]
theorem toL_nub (n : Nat) (A : TA) : toL n (nubA A 0) = toL n A := by
  unfold toL
  refine List.map_congr_left fun i _ => ?_
  rw [ag_nub A 0 i (Nat.zero_testBit i)]
def putA (A : TA) (dst : Option Tmp) (v : Value) : TA := match dst with
  | some d => (d, v) :: A
  | none => A
theorem toL_put (n : Nat) (A : TA) (dst : Option Tmp) (v : Value) : toL n (putA A dst v) = putT (toL n A) dst v := by
  cases dst with
  | none => rfl
  | some d =>
    rw [putT_some]
    apply List.ext_getElem?
    intro t
    rw [toL_get, List.getElem?_set, toL_length, toL_get]
    show (if t < n then some ((ag ((d, v) :: A) t).getD undef) else none) = _
    rw [ag_cons]
    by_cases h : d = t
    · subst h
      by_cases h2 : d < n
      · simp [h2]
      · simp [h2]
    · simp [h]

def opvA (n : Nat) (A : TA) : Operand → Option Value
  | .tmp t => match ag A t with
    | some (.complex _ _ _) => none
    | some v => bif Nat.blt t n then some v else none
    | none => bif Nat.blt t n then some undef else none
  | .const v => if av v then some v else none
  | .func f => some (.func (.func f) #[] #[])
  | .global _ => none
theorem blt_iff {a b : Nat} : Nat.blt a b = true ↔ a < b := by
  unfold Nat.blt
  rw [Nat.ble_eq]; exact Iff.rfl
theorem opvA_eq (n : Nat) (A : TA) (x : Operand) : opvA n A x = opv (toL n A) x := by
  cases x with
  | tmp t =>
    simp only [opvA, opv, lg_eq, toL_get]
    cases hb : Nat.blt t n with
    | false =>
      have : ¬ t < n := fun h => by rw [blt_iff.2 h] at hb; cases hb
      rw [if_neg this]
      cases ag A t with
      | none => rfl
      | some v => cases v <;> rfl
    | true =>
      rw [if_pos (blt_iff.1 hb)]
      cases ag A t with
      | none => rfl
      | some v => cases v <;> rfl
  | const c => rfl
  | func f => rfl
  | global g => rfl
def opvsA (n : Nat) (A : TA) : List Operand → Option (List Value)
  | [] => some []
  | x :: xs => match opvA n A x, opvsA n A xs with
    | some v, some vs => some (v :: vs)
    | _, _ => none
theorem opvsA_eq (n : Nat) (A : TA) : ∀ (xs : List Operand), opvsA n A xs = opvs (toL n A) xs
  | [] => rfl
  | x :: xs => by
    simp only [opvsA, opvs, opvA_eq, opvsA_eq n A xs]
    cases opv (toL n A) x <;> cases opvs (toL n A) xs <;> rfl
def partsvA (n : Nat) (A : TA) : List (Nat × Operand) → Option (List (Nat × Value))
  | [] => some []
  | x :: xs => match opvA n A x.2, partsvA n A xs with
    | some v, some vs => some ((x.1, v) :: vs)
    | _, _ => none
theorem partsvA_eq (n : Nat) (A : TA) : ∀ (xs : List (Nat × Operand)), partsvA n A xs = partsv (toL n A) xs
  | [] => rfl
  | x :: xs => by
    simp only [partsvA, partsv, opvA_eq, partsvA_eq n A xs]
    cases opv (toL n A) x.2 <;> cases partsv (toL n A) xs <;> rfl
def opvoA (n : Nat) (A : TA) : Option Operand → Option (Option Value)
  | none => some none
  | some x => (opvA n A x).map some
theorem opvoA_eq (n : Nat) (A : TA) (x : Option Operand) : opvoA n A x = opvo (toL n A) x := by
  cases x with
  | none => rfl
  | some x => simp only [opvoA, opvo, opvA_eq]
/-- One operation that calls no Go function. -/
def doOpA (P : Program) (m0 : Nat) (A : TA) (H : Hp) (nx : Nat) (o : Oper) : Option (Value × Hp × Nat) :=
  match o.op with
  | .move x => un1 H nx (opvA m0 A x)
  | .assign x => un1 H nx (opvA m0 A x)
  | .pick c a b => match opvA m0 A c with
    | some (.bool true) => un1 H nx (opvA m0 A a)
    | some (.bool false) => un1 H nx (opvA m0 A b)
    | _ => none
  | .alloc t => match infoF P t with
    | some i => match i.zero with
      | some z => if av z then doNew H nx z else none
      | none => none
    | none => none
  | .box t x => (opvA m0 A x).bind fun v => doNew H nx v
  | .build t ps => (partsvA m0 A ps.toList).bind fun vs => un1 H nx (doBuild P t vs)
  | .buildSlice t n ps => (partsvA m0 A ps.toList).bind fun vs => doBuildSlice P H nx t n vs
  | .load t a => (opvA m0 A a).bind fun v => un1 H nx (doLoad P H t v)
  | .store t a x => (opvA m0 A a).bind fun va => (opvA m0 A x).bind fun vx => (doStore P H t va vx).map fun H' => (undef, H', nx)
  | .nilCheck x => match opvA m0 A x with
    | some (.pointer (some a)) => some (.pointer (some a), H, nx)
    | some (.func (.func f) a b) => some (.func (.func f) a b, H, nx)
    | some (.func (.yield f) a b) => some (.func (.yield f) a b, H, nx)
    | _ => none
  | .binOp op t x y _ => (opvA m0 A x).bind fun a => (opvA m0 A y).bind fun b => un1 H nx (doBin P op t x y a b)
  | .unOp op _ x => (opvA m0 A x).bind fun a => un1 H nx (doUn P op a)
  | .convert s d x => (opvA m0 A x).bind fun a => un1 H nx (doConv P s d a)
  | .makeFunc (.func f) fs cs => (opvsA m0 A fs.toList).bind fun a => (opvsA m0 A cs.toList).bind fun b => some (.func (.func f) a.toArray b.toArray, H, nx)
  | .makeSlice t l c => (opvA m0 A l).bind fun a => (opvA m0 A c).bind fun b => doMakeSlice P H nx t a b
  | .slice t x lo hi mx => (opvA m0 A x).bind fun v => (opvoA m0 A lo).bind fun a => (opvoA m0 A hi).bind fun b => (opvoA m0 A mx).bind fun c => un1 H nx (doSlice P t v a b c)
  | .fieldAddr s x f => (opvA m0 A x).bind fun v => un1 H nx (doFieldAddr P s f v)
  | .field t x f => (opvA m0 A x).bind fun v => un1 H nx (doField P t f v)
  | .indexAddr t x i => (opvA m0 A x).bind fun v => (opvA m0 A i).bind fun j => un1 H nx (doIndexAddr P t v j)
  | .index t x i => (opvA m0 A x).bind fun v => (opvA m0 A i).bind fun j => un1 H nx (doIndex P t v j)
  | .extract x n => (opvA m0 A x).bind fun v => un1 H nx (doExtract n v)
  | .call { callee := .builtin b, args, argTypes } => (opvsA m0 A args.toList).bind fun vs => doBuiltin P H nx b argTypes.toList o.type vs
  | .makeMap t none => some (.map (some nx), (nx, .mp [] 0) :: H, nx + 1)
  | .lookup t x i c => (opvA m0 A x).bind fun v => (opvA m0 A i).bind fun j => un1 H nx (doLookup P H t v j c)
  | .mapUpdate t m k x => (opvA m0 A m).bind fun vm => (opvA m0 A k).bind fun vk => (opvA m0 A x).bind fun vx => (doMapUpd P H t vm vk vx).map fun H' => (undef, H', nx)
  | .insert t m k x => (opvA m0 A m).bind fun vm => (opvA m0 A k).bind fun vk => (opvA m0 A x).bind fun vx => (doMapUpd P H t vm vk vx).map fun H' => (undef, H', nx)
  | .range t x => (opvA m0 A x).bind fun v => doRange P H nx t v
  | _ => none
theorem doOpA_eq (n : Nat) (A : TA) (nx : Nat) (o : Oper) : doOpA P n A H nx o = doOp P (toL n A) H nx o := by
  unfold doOpA doOp
  simp only [opvA_eq, opvsA_eq, partsvA_eq, opvoA_eq]
  rfl
def wantedAA (ops : Array Oper) (A : TA) (n : Nat) (o : Oper) : Option Bool :=
  match o.guard with
  | none => some true
  | some (j, want) => match (ops[j]?).bind (·.dst) with
    | some d => match ag A d with
      | some (.bool b) => bif Nat.blt d n then some (b == want) else none
      | some (.tuple _) => bif Nat.blt d n then some false else none
      | some _ => none
      | none => bif Nat.blt d n then some false else none
    | none => none
theorem wantedAA_eq (ops : Array Oper) (A : TA) (n : Nat) (o : Oper) : wantedAA ops A n o = wantedA ops (toL n A) o := by
  unfold wantedAA wantedA
  cases o.guard with
  | none => rfl
  | some p =>
    obtain ⟨j, want⟩ := p
    cases hd : (ops[j]?).bind (·.dst) with
    | none => simp only [hd]; rfl
    | some d =>
      simp only [hd, Option.bind_some, lg_eq, toL_get]
      cases hb : Nat.blt d n with
      | false =>
        have : ¬ d < n := fun h => by rw [blt_iff.2 h] at hb; cases hb
        rw [if_neg this]
        cases ag A d with
        | none => rfl
        | some v => cases v <;> rfl
      | true =>
        rw [if_pos (blt_iff.1 hb)]
        cases ag A d with
        | none => rfl
        | some v => cases v <;> rfl

structure ResA where
  e : Exit
  A : TA
  ds : List Nat
  H : Hp
  nx : Nat
def ResA.res (n : Nat) (R : ResA) : Res := ⟨R.e, toL n R.A, R.ds, R.H, R.nx⟩
def ResA.inBlock (i : Nat) (R : ResA) : ResA := match R.e with
  | .exit j => if j = i then { R with e := .normal } else R
  | _ => R
theorem ResA.res_inBlock (n i : Nat) (R : ResA) : (R.inBlock i).res n = (R.res n).inBlock i := by
  obtain ⟨e, A, ds, H, nx⟩ := R
  cases e <;> try rfl
  simp only [ResA.inBlock, ResA.res, Res.inBlock]
  split <;> rfl
structure EvA where
  call : FuncId → List Value → Hp → Nat → Option (Value × Hp × Nat)
  code : Option Nat → Nat → Code → TA → List Nat → Hp → Nat → Option ResA
  loop : Option Nat → Nat → Code → TA → List Nat → Hp → Nat → Option ResA
  scp : Nat → Code → Code → TA → List Nat → Hp → Nat → Option ResA
structure EvA.Ok (P : Program) (E : EvA) : Prop where
  call : ∀ {f args H nx v H' nx'}, E.call f args H nx = some (v, H', nx') → CallOk P f args H nx v H' nx'
  named : ∀ {f args H nx v H' nx'}, E.call f args H nx = some (v, H', nx') → ∃ fn, P.funcs[f]? = some fn ∧ fn.body.isSome = true
  code : ∀ {r n c A ds H nx R}, E.code r n c A ds H nx = some R → CodeOk P r c (toL n A) ds H nx (R.res n)
  loop : ∀ {r n c A ds H nx R}, E.loop r n c A ds H nx = some R → LoopOk P r c (toL n A) ds H nx (R.res n)
  scp : ∀ {n c x A ds H nx R}, E.scp n c x A ds H nx = some R → ScpOk P c x (toL n A) ds H nx (R.res n)
/-- The same as an evaluator over lists. -/
def EvA.toEv (E : EvA) : Ev where
  call := E.call
  code := fun r c tm ds H nx => (E.code r tm.length c (ofL 0 tm) ds H nx).map (·.res tm.length)
  loop := fun r c tm ds H nx => (E.loop r tm.length c (ofL 0 tm) ds H nx).map (·.res tm.length)
  scp := fun c x tm ds H nx => (E.scp tm.length c x (ofL 0 tm) ds H nx).map (·.res tm.length)
theorem EvA.Ok.toEv {E : EvA} (h : E.Ok P) : E.toEv.Ok P := by
  refine ⟨h.call, h.named, fun {r c tm ds H nx R} hx => ?_, fun {r c tm ds H nx R} hx => ?_, fun {c x tm ds H nx R} hx => ?_⟩
  · simp only [EvA.toEv, Option.map_eq_some_iff] at hx
    obtain ⟨R0, h0, rfl⟩ := hx
    have := h.code h0
    rwa [toL_ofL tm rfl] at this
  · simp only [EvA.toEv, Option.map_eq_some_iff] at hx
    obtain ⟨R0, h0, rfl⟩ := hx
    have := h.loop h0
    rwa [toL_ofL tm rfl] at this
  · simp only [EvA.toEv, Option.map_eq_some_iff] at hx
    obtain ⟨R0, h0, rfl⟩ := hx
    have := h.scp h0
    rwa [toL_ofL tm rfl] at this
def evalOpA (P : Program) (E : EvA) (n : Nat) (A : TA) (H : Hp) (nx : Nat) (o : Oper) : Option (Value × Hp × Nat) :=
  match o.op with
  | .call { callee := .value cf, args := args, argTypes := _ } => match opvA n A cf, opvsA n A args.toList with
    | some (.func (.func f) fs cs), some vs => E.call f (fs.toList ++ vs ++ cs.toList) H nx
    | some (.func (.yield l) ⟨[]⟩ ⟨[]⟩), some vs => yieldE E.toEv l vs H nx
    | _, _ => none
  | _ => doOpA P n A H nx o
theorem evalOpA_eq (E : EvA) (n : Nat) (A : TA) (nx : Nat) (o : Oper) : evalOpA P E n A H nx o = evalOp P E.toEv (toL n A) H nx o := by
  unfold evalOpA evalOp
  simp only [opvA_eq, opvsA_eq, doOpA_eq]
  rfl
def evalListA (P : Program) (E : EvA) (n : Nat) (ops : Array Oper) : List Oper → TA → Hp → Nat → Option (TA × Hp × Nat)
  | [], A, H, nx => some (A, H, nx)
  | o :: l, A, H, nx => match wantedAA ops A n o with
    | some true => match evalOpA P E n A H nx o with
      | some (v, H1, nx1) => evalListA P E n ops l (putA A o.dst v) H1 nx1
      | none => none
    | some false => evalListA P E n ops l (putA A o.dst undef) H nx
    | none => none
theorem evalListA_eq (E : EvA) (n : Nat) (ops : Array Oper) : ∀ {l : List Oper} {A : TA} {H : Hp} {nx : Nat} {A' : TA} {H' : Hp} {nx' : Nat}, evalListA P E n ops l A H nx = some (A', H', nx') → evalList P E.toEv ops l (toL n A) H nx = some (toL n A', H', nx')
  | [], A, H, nx, A', H', nx', h => by simp only [evalListA, Option.some.injEq, Prod.mk.injEq] at h; obtain ⟨rfl, rfl, rfl⟩ := h; rfl
  | o :: l, A, H, nx, A', H', nx', h => by
    simp only [evalListA, wantedAA_eq, evalOpA_eq] at h
    simp only [evalList]
    split at h
    · rename_i hw
      rw [hw]
      dsimp only
      split at h
      · rename_i v H1 nx1 h1
        rw [h1]
        dsimp only
        rw [← toL_put]
        exact evalListA_eq E n ops h
      · cases h
    · rename_i hw
      rw [hw]
      dsimp only
      rw [← toL_put]
      exact evalListA_eq E n ops h
    · cases h
/-! ### Regions in any order -/
def blkA (n : Nat) (A : TA) (x : Operand) : List Nat := match opvA n A x with
  | some (.pointer (some a)) => [a.block]
  | some (.slice (some a) _ _) => [a.block]
  | some (.map (some r)) => [r]
  | _ => []
def targetA (n : Nat) (A : TA) (o : Oper) : List Nat :=
  match o.op with
  | .mapUpdate _ m _ _ => blkA n A m
  | .lookup _ x _ _ => blkA n A x
  | .store _ a _ => blkA n A a
  | .call { callee := .builtin .append, args := args, argTypes := _ } => match args.toList with
    | s :: _ => match opvA n A s with
      | some (.slice (some a) _ c) => bif Nat.ble openCap c then [a.block] else []
      | _ => []
    | _ => []
  | .call { callee := .builtin .copy, args := args, argTypes := _ } => match args.toList with
    | s :: _ => blkA n A s
    | _ => []
  | _ => []
def looksA (n : Nat) (A : TA) (o : Oper) : Option (List Nat) :=
  match o.op with
  | .load _ a => some (blkA n A a)
  | .store _ a _ => some (blkA n A a)
  | .call { callee := .builtin _, args := args, argTypes := _ } => some (args.toList.flatMap (blkA n A))
  | .call _ => none
  | .mapUpdate _ m _ _ => some (blkA n A m)
  | .lookup _ x _ _ => some (blkA n A x)
  | _ => some []
def cutA (n : Nat) (ops : Array Oper) (ms : List Nat) (est : List (List Nat)) (i : Nat) (o : Oper) (A : TA) (H : Hp) (done : List Stp) : Option (List Nat × See) :=
  match looksA n A o with
  | some bs => some ((targetA n A o).filter fun b => match H.get b with | some k => k.rw | none => false, .few bs)
  | none =>
    match (List.range ops.size).filter fun j => j != i && !ordered ms i j with
    | [] => some (names (H.filter fun x => x.2.rw), .all fun _ => true)
    | others =>
      match others.flatMap (fun j => est.getD j [] ++ (match ops[j]? with | some p => targetA n A p | none => [])), others.filterMap fun j => if j < i then (match (done.reverse)[j]? with | some s => if s.lo < s.hi then some (s.lo, s.hi) else none | none => none) else none with
      | mask, rs => some ([], .all fun b => !(mask.contains b || inRange rs b))
def guessA (P : Program) (n : Nat) (ops : Array Oper) (H : Hp) : List Oper → TA → List (List Nat)
  | [], _ => []
  | o :: l, A =>
    match o.op with
    | .store .. => targetA n A o :: guessA P n ops H l A
    | .load .. | .fieldAddr .. | .indexAddr .. | .move _ | .assign _ | .slice .. =>
      [] :: guessA P n ops H l (putA A o.dst (match wantedAA ops A n o with
        | some true => match doOpA P n A H 0 o with
          | some (v, _, _) => v
          | none => junk
        | _ => junk))
    | _ => targetA n A o :: guessA P n ops H l (putA A o.dst junk)
def drawGoA (P : Program) (E : EvA) (n : Nat) (ops : Array Oper) (cut : Nat → Oper → TA → Hp → List Stp → Option (List Nat × See)) : Nat → List Stp → List Oper → TA → Hp → Nat → Option (List Stp)
  | _, _, [], _, _, _ => some []
  | i, done, o :: l, A, H, nx =>
    match wantedAA ops A n o with
    | some false => match (⟨o, false, undef, keepT (toL n A) (slotsOf ops o), [], fun _ => false, [], nx, nx⟩ : Stp) with
      | s => match drawGoA P E n ops cut (i + 1) (s :: done) l (putA A o.dst undef) H nx with
        | some ss => some (s :: ss)
        | none => none
    | some true =>
      match cut i o A H done with
      | none => none
      | some (wr, see) => match viewD wr H see with
        | V => match evalOpA P E n A V nx o with
          | some (v, H1, nx1) =>
            if allRw (Hp.only (touchOf (fun b => wr.contains b) nx nx1) H1) && wr.all (fun b => (Hp.get V b).isSome) then
              match (⟨o, true, v, keepT (toL n A) (slotsOf ops o), V, fun b => wr.contains b, H1, nx, nx1⟩ : Stp) with
              | s => match drawGoA P E n ops cut (i + 1) (s :: done) l (putA A o.dst v) (mergeQ wr nx nx1 H1 H) nx1 with
                | some ss => some (s :: ss)
                | none => none
            else none
          | none => none
    | none => none
theorem drawGoA_ok {E : EvA} (hE : E.Ok P) (hs : NoSpecial P) {r : Option Nat} {n : Nat} {ops : Array Oper} {cut : Nat → Oper → TA → Hp → List Stp → Option (List Nat × See)} :
    ∀ {l : List Oper} {i : Nat} {done : List Stp} {A : TA} {H : Hp} {nx : Nat} {ss : List Stp}, drawGoA P E n ops cut i done l A H nx = some ss →
      ss.length = l.length ∧ ∀ (j : Nat) o s, l[j]? = some o → ss[j]? = some s → StpOk P r ops o (tmR (ss.take j) (toL n A)) (hpR (ss.take j) H) (nxR (ss.take j) nx) s
  | [], i, done, A, H, nx, ss, h => by simp only [drawGoA, Option.some.injEq] at h; subst h; exact ⟨rfl, fun j o s h => by simp at h⟩
  | o :: l, i, done, A, H, nx, ss, h => by
    simp only [drawGoA, wantedAA_eq] at h
    split at h
    · rename_i hw
      rw [wantedA_keep] at hw
      split at h
      case h_2 => cases h
      rename_i ss' h'
      cases h
      obtain ⟨hl, hj⟩ := drawGoA_ok hE hs h'
      rw [toL_put] at hj
      refine ⟨by simp [hl], fun j o' s ho hs' => ?_⟩
      cases j with
      | zero =>
        simp only [List.getElem?_cons_zero, Option.some.injEq] at ho hs'
        subst ho; subst hs'
        exact ⟨rfl, rfl, Nat.le_refl _, rfl, hw, (fun h => by cases h), (fun b k hb => by simp [Hp.get_nil] at hb), fun _ => ⟨rfl, fun b => by simp [Stp.touch, touchOf]⟩, fun b hb => by cases hb⟩
      | succ j =>
        simp only [List.getElem?_cons_succ] at ho hs'
        exact hj j o' s ho hs'
    · rename_i hw
      rw [wantedA_keep] at hw
      split at h
      case h_1 => cases h
      rename_i wr see hcut
      split at h
      case h_2 => cases h
      rename_i v H1 nx1 hop1
      rw [evalOpA_eq, evalOp_looks.keep (ops := ops)] at hop1
      split at h
      case isFalse => cases h
      rename_i hrw
      simp only [Bool.and_eq_true] at hrw
      obtain ⟨hrw, hwi⟩ := hrw
      split at h
      case h_2 => cases h
      rename_i ss' h'
      cases h
      rw [mergeQ_eq] at h'
      obtain ⟨hl, hj⟩ := drawGoA_ok hE hs h'
      rw [toL_put] at hj
      have hok : OpOk P r o (keepT (toL n A) (slotsOf ops o)) (viewD wr H see) nx v H1 nx1 := evalOp_ok hE.toEv hs hop1
      refine ⟨by simp [hl], fun j o' s ho hs' => ?_⟩
      cases j with
      | zero =>
        simp only [List.getElem?_cons_zero, Option.some.injEq] at ho hs'
        subst ho; subst hs'
        refine ⟨rfl, rfl, hok.1, rfl, hw, fun _ => ⟨hok, hrw⟩, fun b k hb => viewD_get hb, (fun h => by cases h), fun b hb => ?_⟩
        have := List.all_eq_true.1 hwi b (by simpa using hb)
        exact Option.isSome_iff_exists.1 this
      | succ j =>
        simp only [List.getElem?_cons_succ] at ho hs'
        exact hj j o' s ho hs'
    · cases h
def tmRA : List Stp → TA → TA
  | [], A => A
  | s :: ss, A => tmRA ss (putA A s.o.dst s.v)
theorem toL_tmRA (n : Nat) : ∀ (ss : List Stp) (A : TA), toL n (tmRA ss A) = tmR ss (toL n A)
  | [], _ => rfl
  | s :: ss, A => by rw [tmRA, toL_tmRA n ss, toL_put]; rfl
def evalDrawA (P : Program) (E : EvA) (n : Nat) (ops : Array Oper) (A : TA) (H : Hp) (nx : Nat) : Option (TA × Hp × Nat) :=
  match masksR ops.toList 0 [] with
  | ms => match (if ops.toList.any isWriter then guessA P n ops H ops.toList A else []) with
    | est => match drawGoA P E n ops (cutA n ops ms est) 0 [] ops.toList A H nx with
      | some ss => if staticQ ms ops && viewsFit ms ss && P.follows .mixedOrders then some (tmRA ss A, hpF ss H, nxR ss nx) else none
      | none => none
theorem evalDrawA_ok {E : EvA} (hE : E.Ok P) (hs : NoSpecial P) {r : Option Nat} {n : Nat} {id : Nat} {ops : Array Oper} {A A' : TA} {ds : List Nat} {H' : Hp} {nx nx' : Nat} (h : evalDrawA P E n ops A H nx = some (A', H', nx')) :
    CodeOk P r (.region id ops true) (toL n A) ds H nx ⟨.normal, toL n A', ds, H', nx'⟩ := by
  unfold evalDrawA at h
  dsimp only at h
  split at h
  case h_2 => cases h
  rename_i ss hss
  split at h
  case isFalse => cases h
  rename_i hc
  cases h
  simp only [Bool.and_eq_true, staticQ] at hc
  obtain ⟨⟨⟨h1, h2⟩, h3⟩, h4⟩ := hc
  have h1 := masksFitQ_ok h1
  have h2 := slotsQ_ok h2
  have hgo := drawGoA_ok (r := r) hE hs hss
  have hwr : ∀ s ∈ ss, ∀ b, s.wr b = true → ∃ k, s.V.get b = some k := fun s hsm b hb => by
    obtain ⟨j, hj, rfl⟩ := List.getElem_of_mem hsm
    have hj2 : j < ops.toList.length := by have := hgo.1; omega
    exact (hgo.2 j _ _ (List.getElem?_eq_getElem hj2) (List.getElem?_eq_getElem hj)).wrin b hb
  obtain ⟨D, hs2, ht⟩ := drawOk_st hgo h1 h2 h3
  have := codeOk_draw (id := id) (ds := ds) h4 D (HF := hpF ss H) (fun b k hb => by rw [hs2, ← hpF_get (H1 := H) hwr (fun _ => rfl) b]; exact hb)
  rw [ht] at this
  rw [toL_tmRA]
  exact this
/-- A result over lists, as one over what was put. -/
def backA (n : Nat) (R : Res) : Option ResA := bif Nat.beq R.tm.length n then some ⟨R.e, ofL 0 R.tm, R.ds, R.H, R.nx⟩ else none
theorem backA_res {n : Nat} {R : Res} {R' : ResA} (h : backA n R = some R') : R'.res n = R := by
  unfold backA at h
  cases hb : Nat.beq R.tm.length n with
  | false => rw [hb] at h; cases h
  | true =>
    rw [hb] at h
    cases h
    simp only [ResA.res, toL_ofL R.tm (Nat.eq_of_beq_eq_true hb)]
def evalCodeA (P : Program) (E : EvA) (r : Option Nat) (n : Nat) : Code → TA → List Nat → Hp → Nat → Option ResA
  | .skip, A, ds, H, nx => some ⟨.normal, A, ds, H, nx⟩
  | .label _, A, ds, H, nx => some ⟨.normal, A, ds, H, nx⟩
  | .exit i, A, ds, H, nx => some ⟨.exit i, A, ds, H, nx⟩
  | .goto i, A, ds, H, nx => some ⟨.goto i, A, ds, H, nx⟩
  | .ret, A, ds, H, nx => some ⟨.ret, A, ds, H, nx⟩
  | .seq x y, A, ds, H, nx => match evalCodeA P E r n x A ds H nx with
    | some R => match R.e with
      | .normal => evalCodeA P E r n y R.A R.ds R.H R.nx
      | _ => some R
    | none => none
  | .cond c x y, A, ds, H, nx => match opvA n A c with
    | some (.bool true) => evalCodeA P E r n x A ds H nx
    | some (.bool false) => evalCodeA P E r n y A ds H nx
    | _ => none
  | .block i c, A, ds, H, nx => match evalCodeA P E r n c A ds H nx with
    | some R => some (R.inBlock i)
    | none => none
  | .loop c, A, ds, H, nx => match (match mapShape c with | some _ => (mapLoop (evalList P E.toEv) (E.toEv.code r) c (toL n A) ds H nx).bind (backA n) | none => none) with
    | some R => some R
    | none => match evalCodeA P E r n c A ds H nx with
      | some R => match R.e with
        | .normal => E.loop r n c (nubA R.A 0) R.ds R.H R.nx
        | _ => some R
      | none => none
  | .region _ ops false, A, ds, H, nx => match evalListA P E n ops ops.toList A H nx with
    | some (A', H', nx') => some ⟨.normal, A', ds, H', nx'⟩
    | none => none
  | .region _ ops true, A, ds, H, nx => match evalDrawA P E n ops A H nx with
    | some (A', H', nx') => some ⟨.normal, A', ds, H', nx'⟩
    | none => none
  | .rangeFunc g ps assign body, A, ds, H, nx => match evalRange E.toEv r g ps assign body (toL n A) ds H nx with
    | some R => backA n R
    | none => none
  | .scope c, A, ds, H, nx => match r with
    | some _ => none
    | none => match evalCodeA P E none n c A ds H nx with
      | some R => match R.e with
        | .goto l => match findLabel c l with
          | some rest => E.scp n c rest R.A R.ds R.H R.nx
          | none => none
        | _ => some R
      | none => none
  | _, _, _, _, _ => none
theorem res_e (n : Nat) (R : ResA) : (R.res n).e = R.e := rfl
theorem evalCodeA_ok {E : EvA} (hE : E.Ok P) (hs : NoSpecial P) {r : Option Nat} {n : Nat} : ∀ (c : Code) {A : TA} {ds : List Nat} {H : Hp} {nx : Nat} {R : ResA}, evalCodeA P E r n c A ds H nx = some R → CodeOk P r c (toL n A) ds H nx (R.res n) := by
  intro c
  induction c with
  | skip => intro A ds H nx R h; simp only [evalCodeA, Option.some.injEq] at h; subst h; exact codeOk_skip
  | label l => intro A ds H nx R h; simp only [evalCodeA, Option.some.injEq] at h; subst h; exact codeOk_label
  | exit l => intro A ds H nx R h; simp only [evalCodeA, Option.some.injEq] at h; subst h; exact codeOk_exit
  | goto l => intro A ds H nx R h; simp only [evalCodeA, Option.some.injEq] at h; subst h; exact codeOk_goto
  | ret => intro A ds H nx R h; simp only [evalCodeA, Option.some.injEq] at h; subst h; exact codeOk_ret
  | seq x y ihx ihy =>
    intro A ds H nx R h
    simp only [evalCodeA] at h
    split at h
    case h_2 => cases h
    rename_i R1 h1
    split at h
    · rename_i he; exact codeOk_seq (ihx h1) (by rw [res_e]; exact he) (ihy h)
    · rename_i he; cases h; exact codeOk_seq_out (ihx h1) (by rw [res_e]; exact he)
  | cond c x y ihx ihy =>
    intro A ds H nx R h
    simp only [evalCodeA, opvA_eq] at h
    split at h
    · rename_i hc; exact codeOk_cond hc (by simpa using ihx h)
    · rename_i hc; exact codeOk_cond hc (by simpa using ihy h)
    · cases h
  | block i c ih =>
    intro A ds H nx R h
    simp only [evalCodeA] at h
    split at h
    case h_2 => cases h
    rename_i R1 h1
    cases h
    rw [ResA.res_inBlock]
    exact codeOk_block (ih h1)
  | loop c ih =>
    intro A ds H nx R h
    simp only [evalCodeA] at h
    split at h
    · rename_i R1 h1
      cases h
      split at h1
      case h_2 => cases h1
      simp only [Option.bind_eq_some_iff] at h1
      obtain ⟨R2, h2, h3⟩ := h1
      rw [backA_res h3]
      exact codeOk_loop (mapLoop_ok (r := r) (fun hj hx => evalList_ok (r := r) hE.toEv hs hj hx) (fun hx => hE.toEv.code hx) h2)
    split at h
    case h_2 => cases h
    rename_i R1 h1
    split at h
    · rename_i he
      have hl := hE.loop h
      rw [toL_nub] at hl
      exact codeOk_loop (loopOk_more (ih h1) (by rw [res_e]; exact he) hl)
    · rename_i he; cases h; exact codeOk_loop (loopOk_out (ih h1) (by rw [res_e]; exact he))
  | region id ops draw =>
    intro A ds H nx R h
    cases draw with
    | false =>
      simp only [evalCodeA] at h
      split at h
      case h_2 => cases h
      rename_i A' H' nx' h1
      cases h
      refine codeOk_region ?_
      have := evalList_ok (r := r) hE.toEv hs (k := 0) (ops := ops) (fun j => by simp) (evalListA_eq E n ops h1)
      rw [List.range_eq_range']
      simpa using this
    | true =>
      simp only [evalCodeA] at h
      split at h
      case h_2 => cases h
      rename_i A' H' nx' h1
      cases h
      exact evalDrawA_ok hE hs h1
  | rangeFunc g ps assign body iha ihb =>
    intro A ds H nx R h
    simp only [evalCodeA] at h
    split at h
    case h_2 => cases h
    rename_i R1 h1
    rw [backA_res h]
    exact evalRange_ok hE.toEv hs h1
  | scope c ih =>
    intro A ds H nx R h
    cases r with
    | some l => simp [evalCodeA] at h
    | none =>
      simp only [evalCodeA] at h
      split at h
      case h_2 => cases h
      rename_i R1 h1
      split at h
      · rename_i l he
        split at h
        · rename_i rest hf; exact codeOk_scope (scpOk_jump (ih h1) (by rw [res_e]; exact he) hf (hE.scp h))
        · cases h
      · rename_i he; cases h; exact codeOk_scope (scpOk_out (ih h1) (by rw [res_e]; exact he))
  | refuse s => intro A ds H nx R h; simp [evalCodeA] at h
def resAA (P : Program) (H : Hp) (n : Nat) (A : TA) : List ResultVar → Option (List Value)
  | [] => some []
  | .tmp t :: rs => match opvA n A (.tmp t), resAA P H n A rs with
    | some v, some vs => some (v :: vs)
    | _, _ => none
  | .cell a t :: rs => match (opvA n A (.tmp a)).bind (doLoad P H t), resAA P H n A rs with
    | some v, some vs => some (v :: vs)
    | _, _ => none
theorem resAA_eq (n : Nat) (A : TA) : ∀ rs : List ResultVar, resAA P H n A rs = resA P H (toL n A) rs
  | [] => rfl
  | .tmp t :: rs => by
    simp only [resAA, resA, opvA_eq, resAA_eq n A rs]
    cases opv (toL n A) (.tmp t) <;> cases resA P H (toL n A) rs <;> rfl
  | .cell a t :: rs => by
    simp only [resAA, resA, opvA_eq, resAA_eq n A rs]
    cases (opv (toL n A) (.tmp a)).bind (doLoad P H t) <;> cases resA P H (toL n A) rs <;> rfl
def evalCallA (P : Program) (E : EvA) (f : FuncId) (args : List Value) (H : Hp) (nx : Nat) : Option (Value × Hp × Nat) :=
  match funF P f with
  | some fn => match fn.body with
    | some c => bif Nat.ble args.length fn.ntmps then match evalCodeA P E none fn.ntmps c (ofL 0 args) [] H nx with
      | some R => match (match R.e with | .normal => true | .ret => true | _ => false) with
        | true => match killDs R.ds R.H with
          | some H1 => match resAA P H1 fn.ntmps R.A fn.results.toList with
            | some vs => some (retV vs, gc nx (retV vs) H1, R.nx)
            | none => none
          | none => none
        | false => none
      | none => none
      else none
    | none => none
  | none => none
theorem evalCallA_ok {E : EvA} (hE : E.Ok P) (hs : NoSpecial P) {f : FuncId} {args : List Value} {nx : Nat} {v : Value} {H' : Hp} {nx' : Nat} (h : evalCallA P E f args H nx = some (v, H', nx')) :
    (∃ fn, P.funcs[f]? = some fn ∧ fn.body.isSome = true) ∧ CallOk P f args H nx v H' nx' := by
  unfold evalCallA at h
  simp only [funF_eq] at h
  split at h
  case h_2 => cases h
  rename_i fn hfn
  split at h
  case h_2 => cases h
  rename_i c hc
  cases hb : Nat.ble args.length fn.ntmps with
  | false => rw [hb] at h; cases h
  | true =>
    rw [hb] at h
    simp only [cond_true] at h
    split at h
    case h_2 => cases h
    rename_i R hR
    split at h
    case h_2 => cases h
    rename_i he
    split at h
    case h_2 => cases h
    rename_i H1 hk
    split at h
    case h_2 => cases h
    rename_i vs hv
    cases h
    have hcode := evalCodeA_ok hE hs c hR
    rw [toL_ofL_pad args (Nat.le_of_ble_eq_true hb)] at hcode
    rw [resAA_eq] at hv
    refine ⟨⟨fn, hfn, by rw [hc]; rfl⟩, callOk_of hfn hc hcode ?_ hk hv (gc_sub nx _ _)⟩
    rw [res_e]
    cases hE2 : R.e <;> simp [hE2] at he ⊢
def evStepA (P : Program) (E : EvA) : EvA where
  call := evalCallA P E
  code := evalCodeA P E
  loop := fun r n c A ds H nx => match evalCodeA P E r n c A ds H nx with
    | some R => match R.e with
      | .normal => E.loop r n c (nubA R.A 0) R.ds R.H R.nx
      | _ => some R
    | none => none
  scp := fun n c x A ds H nx => match evalCodeA P E none n x A ds H nx with
    | some R => match R.e with
      | .goto l => match findLabel c l with
        | some rest => E.scp n c rest R.A R.ds R.H R.nx
        | none => none
      | _ => some R
    | none => none
theorem evStepA_ok {E : EvA} (hE : E.Ok P) (hs : NoSpecial P) : (evStepA P E).Ok P := by
  refine ⟨fun h => (evalCallA_ok hE hs h).2, fun h => (evalCallA_ok hE hs h).1, fun h => evalCodeA_ok hE hs _ h, fun {r n c A ds H nx R} h => ?_, fun {n c x A ds H nx R} h => ?_⟩
  · simp only [evStepA] at h
    split at h
    case h_2 => cases h
    rename_i R1 h1
    split at h
    · rename_i he
      have hl := hE.loop h
      rw [toL_nub] at hl
      exact loopOk_more (evalCodeA_ok hE hs c h1) (by rw [res_e]; exact he) hl
    · rename_i he; cases h; exact loopOk_out (evalCodeA_ok hE hs c h1) (by rw [res_e]; exact he)
  · simp only [evStepA] at h
    split at h
    case h_2 => cases h
    rename_i R1 h1
    split at h
    · rename_i l he
      split at h
      · rename_i rest hf; exact scpOk_jump (evalCodeA_ok hE hs x h1) (by rw [res_e]; exact he) hf (hE.scp h)
      · cases h
    · rename_i he; cases h; exact scpOk_out (evalCodeA_ok hE hs x h1) (by rw [res_e]; exact he)
/-- The evaluator with known calls, at every depth. -/
def evMA (P : Program) (ms : List Memo) : Nat → EvA
  | 0 => ⟨fun _ _ _ _ => none, fun _ _ _ _ _ _ _ => none, fun _ _ _ _ _ _ _ => none, fun _ _ _ _ _ _ _ => none⟩
  | n + 1 =>
    { evStepA P (evMA P ms n) with call := fun f args H nx => match lookM ms f args H nx with
      | some r => some r
      | none => evalCallA P (evMA P ms n) f args H nx }
theorem evMA_ok (hs : NoSpecial P) {ms : List Memo} (hms : ∀ m ∈ ms, m.Ok P) : ∀ n, (evMA P ms n).Ok P
  | 0 => ⟨(fun h => by cases h), (fun h => by cases h), (fun h => by cases h), (fun h => by cases h), (fun h => by cases h)⟩
  | n + 1 => by
    have hE := evStepA_ok (evMA_ok hs hms n) hs
    refine ⟨fun {f args H nx v H' nx'} h => ?_, fun {f args H nx v H' nx'} h => ?_, fun h => hE.code h, fun h => hE.loop h, fun h => hE.scp h⟩
    · simp only [evMA] at h
      split at h
      · rename_i r hr; cases h; exact (lookM_ok hms hr).2
      · exact hE.call h
    · simp only [evMA] at h
      split at h
      · rename_i r hr; cases h; exact (lookM_ok hms hr).1
      · exact hE.named h
/-- The evaluator comes to what the entry says. -/
def saysA (P : Program) (ms : List Memo) (n : Nat) (m : Memo) : Bool := memoSays (evMA P ms n).toEv m
theorem memoA_of {n : Nat} {ms : List Memo} {m : Memo} (hs : NoSpecial P) (hms : ∀ m ∈ ms, m.Ok P) (h : saysA P ms n m = true) : m.Ok P := memo_of (evMA_ok hs hms n).toEv h
theorem mems_nil : ∀ x ∈ ([] : List Memo), x.Ok P := fun _ h => by cases h
theorem mems_cons {m : Memo} {ms : List Memo} (h : m.Ok P) (hs : ∀ x ∈ ms, x.Ok P) : ∀ x ∈ m :: ms, x.Ok P := by
  intro x hx
  rcases List.mem_cons.1 hx with rfl | hx
  · exact h
  · exact hs x hx
def saysTrueA (P : Program) (ms : List Memo) (n : Nat) (f : FuncId) : Bool :=
  match (evMA P ms n).call f [] [] 0 with
  | some (.bool true, _, _) => true
  | _ => false
theorem closed_ofA {n : Nat} {f : FuncId} {ms : List Memo} (hs : NoSpecial P) (hms : ∀ m ∈ ms, m.Ok P) (h : saysTrueA P ms n f = true) : ∃ H' nx', CallOk P f [] [] 0 (.bool true) H' nx' := by
  unfold saysTrueA at h
  split at h
  · rename_i H' nx' he; exact ⟨H', nx', (evMA_ok hs hms n).call he⟩
  · cases h
end Go.En
