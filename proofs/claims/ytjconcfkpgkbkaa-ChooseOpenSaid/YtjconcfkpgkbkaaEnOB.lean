/- The engine, part OB: code with hints. -/
import Derived.Test.YtjconcfkpgkbkaaEnO
namespace Go.En
set_option linter.unusedVariables false
variable {P : Program} {φ : Ren} {H : Hp} {K : Nat → Prop} {w : World}

theorem Eqs.none_hold : Eqs.none.Hold := ⟨trivial, trivial, trivial⟩

/-! ### Operations in their order -/
def sList (P : Program) (hs : Hints) (E : Ev) (ops : Array Oper) : List Oper → List Value → Hp → Nat → Option (List Value × Hp × Nat × Eqs)
  | [], tm, H, nx => some (tm, H, nx, Eqs.none)
  | o :: l, tm, H, nx => match wantedA ops tm o with
    | some true => match sOp P hs E tm H nx o with
      | some (v, H1, nx1, e) => match sList P hs E ops l (putT tm o.dst v) H1 nx1 with
        | some (tm', H', nx', e') => some (tm', H', nx', e.and e')
        | none => none
      | none => none
    | some false => sList P hs E ops l (putT tm o.dst undef) H nx
    | none => none
theorem sList_ok {hs : Hints} (hk : HintsOk P hs) {E : Ev} (hE : E.Ok P) (hsp : NoSpecial P) {r : Option Nat} {ops : Array Oper} : ∀ {l : List Oper} {k : Nat} {tm : List Value} {H : Hp} {nx : Nat} {tm' : List Value} {H' : Hp} {nx' : Nat} {e : Eqs},
    (∀ j : Nat, l[j]? = ops[k + j]?) → sList P hs E ops l tm H nx = some (tm', H', nx', e) → e.Hold → OpsOk P r ops (List.range' k l.length) tm H nx tm' H' nx'
  | [], k, tm, H, nx, tm', H', nx', e, _, h, he => by simp only [sList, Option.some.injEq, Prod.mk.injEq] at h; obtain ⟨rfl, rfl, rfl, rfl⟩ := h; exact opsOk_nil
  | o :: l, k, tm, H, nx, tm', H', nx', e, hl, h, he => by
    have h0 : ops[k]? = some o := by simpa using (hl 0).symm
    have hl' : ∀ j : Nat, l[j]? = ops[k + 1 + j]? := fun j => by have := hl (j + 1); simpa [Nat.add_assoc, Nat.add_comm 1 j] using this
    simp only [sList] at h
    rw [List.length_cons, List.range'_succ]
    split at h
    · rename_i hw
      split at h
      case h_2 => cases h
      rename_i v H1 nx1 e1 h1
      split at h
      case h_2 => cases h
      rename_i tm2 H2 nx2 e2 h2
      cases h
      obtain ⟨g1, g2⟩ := Eqs.hold_and.1 he
      exact opsOk_cons h0 hw (sOp_ok hk hE hsp h1 g1) (sList_ok hk hE hsp hl' h2 g2)
    · rename_i hw
      exact opsOk_skip h0 hw (sList_ok hk hE hsp hl' h he)
    · cases h

/-! ### Drawn regions -/
theorem sOp_looks {hs : Hints} {E : Ev} {t t' : List Value} {nx : Nat} {o : Oper} (h : ∀ x ∈ o.op.operands, opv t x = opv t' x) : sOp P hs E t H nx o = sOp P hs E t' H nx o := by
  have hev : evalOp P E t H nx o = evalOp P E t' H nx o := evalOp_looks _ _ _ _ _ h
  unfold sOp
  split
  · rw [hev]
  · rw [hev]
  · cases ho : o.op with
    | call c =>
      obtain ⟨cal, args, ats⟩ := c
      cases cal with
      | value cf =>
        rw [ho] at h
        simp only [h cf (by simp [Op.operands, Call.operands]), opvs_congr (xs := args.toList) fun x hx => h x (by simp only [Op.operands, Call.operands, Array.mem_append]; right; simpa using hx)]
      | _ => rfl
    | _ => rfl
  · cases ho : o.op with
    | indexAddr t x i => rw [ho] at h; simp only [h x (by simp [Op.operands]), h i (by simp [Op.operands])]
    | _ => rfl
  · cases ho : o.op with
    | indexAddr t x i => rw [ho] at h; simp only [h x (by simp [Op.operands]), h i (by simp [Op.operands])]
    | _ => rfl
  · cases ho : o.op with
    | load t a => rw [ho] at h; simp only [h a (by simp [Op.operands])]
    | _ => rfl
  · cases ho : o.op with
    | store t a x => rw [ho] at h; simp only [h a (by simp [Op.operands]), h x (by simp [Op.operands])]
    | _ => rfl
  · rw [hev]
  · cases ho : o.op with
    | slice t x lo hi mx =>
      rw [ho] at h
      simp only [h x (by simp [Op.operands]), opvo_congr (x := lo) fun y hy => h y (by cases hy; simp [Op.operands]), opvo_congr (x := hi) fun y hy => h y (by cases hy; simp [Op.operands]), opvo_congr (x := mx) fun y hy => h y (by cases hy; simp [Op.operands])]
    | _ => rfl
  · cases ho : o.op with
    | call c =>
      obtain ⟨cal, args, ats⟩ := c
      cases cal with
      | builtin bi =>
        rw [ho] at h
        cases bi <;> try rfl
        simp only [opvs_congr (xs := args.toList) fun x hx => h x (by simp only [Op.operands, Call.operands, Array.mem_append]; right; simpa using hx)]
      | _ => rfl
    | _ => rfl
  · cases ho : o.op with
    | makeSlice t l c => rw [ho] at h; simp only [h l (by simp [Op.operands]), h c (by simp [Op.operands])]
    | _ => rfl
  · cases ho : o.op with
    | call c =>
      obtain ⟨cal, args, ats⟩ := c
      cases cal with
      | value cf =>
        rw [ho] at h
        simp only [h cf (by simp [Op.operands, Call.operands]), opvs_congr (xs := args.toList) fun x hx => h x (by simp only [Op.operands, Call.operands, Array.mem_append]; right; simpa using hx)]
      | _ => rfl
    | _ => rfl
  · cases ho : o.op with
    | binOp op t x y w => rw [ho] at h; simp only [h x (by simp [Op.operands]), h y (by simp [Op.operands])]
    | _ => rfl
  · rw [opvs_congr (xs := o.op.operands.toList) fun x hx => h x (by simpa using hx)]

def sStrip (P : Program) (hs : Hints) (E : Ev) (tm : List Value) (H : Hp) (nx : Nat) (o : Oper) : Option (Value × Hp × Nat) :=
  match sOp P hs E tm H nx o with
  | some (v, H', nx', _) => some (v, H', nx')
  | none => none
open Classical in
noncomputable def sStrict (P : Program) (hs : Hints) (E : Ev) (tm : List Value) (H : Hp) (nx : Nat) (o : Oper) : Option (Value × Hp × Nat) :=
  match sOp P hs E tm H nx o with
  | some (v, H', nx', e) => if e.Hold then some (v, H', nx') else none
  | none => none
theorem sStrict_looks {hs : Hints} {E : Ev} : Looks (sStrict P hs E) := by
  intro t t' H nx o h
  unfold sStrict
  rw [sOp_looks h]
theorem sStrict_ok {hs : Hints} (hk : HintsOk P hs) {E : Ev} (hE : E.Ok P) (hsp : NoSpecial P) {r : Option Nat} {o : Oper} {tm : List Value} {nx : Nat} {v : Value} {H' : Hp} {nx' : Nat} (h : sStrict P hs E tm H nx o = some (v, H', nx')) : OpOk P r o tm H nx v H' nx' := by
  unfold sStrict at h
  split at h
  case h_2 => cases h
  rename_i v1 H1 nx1 e he
  split at h
  case isFalse => cases h
  rename_i hh
  cases h
  exact sOp_ok hk hE hsp he hh

def stpEqs (P : Program) (hs : Hints) (E : Ev) (s : Stp) : Eqs :=
  match hs.find (hkey s.o) with
  | none => Eqs.none
  | some _ => match sOp P hs E s.tmo s.V s.lo s.o with
    | some (_, _, _, e) => e
    | none => Eqs.none
def drawEqs (P : Program) (hs : Hints) (E : Ev) : List Stp → Eqs
  | [] => Eqs.none
  | s :: ss => match s.ran with
    | true => (stpEqs P hs E s).and (drawEqs P hs E ss)
    | false => drawEqs P hs E ss

theorem sOp_plain {hs : Hints} {E : Ev} {tm : List Value} {nx : Nat} {o : Oper} (h : hs.find (hkey o) = none) {v : Value} {H' : Hp} {nx' : Nat} {e : Eqs} (hx : sOp P hs E tm H nx o = some (v, H', nx', e)) : e.Hold := by
  unfold sOp at hx
  rw [h] at hx
  simp only [Option.map_eq_some_iff, Prod.mk.injEq] at hx
  obtain ⟨_, _, _, _, _, rfl⟩ := hx
  exact Eqs.none_hold

theorem drawGo_strict {hs : Hints} {E : Ev} {ops : Array Oper} {cut : Nat → List Value → Hp → List Stp → Option (List Nat × (Nat → Bool))} :
    ∀ {l : List Oper} {i : Nat} {done : List Stp} {tm : List Value} {H : Hp} {nx : Nat} {ss : List Stp}, drawGo (sStrip P hs E) ops cut i done l tm H nx = some ss → (drawEqs P hs E ss).Hold → drawGo (sStrict P hs E) ops cut i done l tm H nx = some ss
  | [], i, done, tm, H, nx, ss, h, he => by simpa only [drawGo] using h
  | o :: l, i, done, tm, H, nx, ss, h, he => by
    simp only [drawGo] at h ⊢
    split at h
    · rename_i hw
      simp only [Option.map_eq_some_iff] at h
      obtain ⟨ss', h', rfl⟩ := h
      rw [drawGo_strict h' he]
      rfl
    · rename_i hw
      split at h
      case h_1 => cases h
      rename_i wr see hcut
      split at h
      case h_2 => cases h
      rename_i v H1 nx1 hop1
      split at h
      case isFalse => cases h
      rename_i hrw
      simp only [Option.map_eq_some_iff] at h
      obtain ⟨ss', h', rfl⟩ := h
      simp only [drawEqs] at he
      obtain ⟨e1, e2⟩ := Eqs.hold_and.1 he
      have hst : sStrict P hs E tm (Hp.only see (mkView (fun b => wr.contains b) (fun _ => false) H)) nx o = some (v, H1, nx1) := by
        unfold sStrip at hop1
        split at hop1
        case h_2 => cases hop1
        rename_i v2 H2 nx2 e hs2
        cases hop1
        unfold sStrict
        rw [hs2]
        have hh : e.Hold := by
          cases hfk : hs.find (hkey o) with
          | none => exact sOp_plain hfk hs2
          | some hnt =>
            have hkp : sOp P hs E (keepT tm (slotsOf ops o)) (Hp.only see (mkView (fun b => wr.contains b) (fun _ => false) H)) nx o = some (v, H1, nx1, e) := by
              rw [← hs2]
              exact (sOp_looks fun x hx => keepT_opv fun s hs => by
                simp only [slotsOf, List.mem_append, List.mem_flatMap]
                exact .inl ⟨x, by simpa using hx, hs⟩).symm
            simp only [stpEqs, hfk, hkp] at e1
            exact e1
        simp only [hh, if_true]
      rw [hst]
      dsimp only
      rw [if_pos hrw, drawGo_strict h' e2]
      rfl
    · cases h

/-- The block that an operation may turn, by its hint. -/
def targetS (hs : Hints) (tm : List Value) (o : Oper) : List Nat :=
  match hs.find (hkey o) with
  | some (.app _ _ _ _ dl _ _ _) => dl.toList
  | _ => targetOf tm o
def cutS (hs : Hints) (ops : Array Oper) (ms : List Nat) (est : List (List Nat)) (i : Nat) (tm : List Value) (H : Hp) (done : List Stp) : Option (List Nat × (Nat → Bool)) :=
  match ops[i]? with
  | none => none
  | some o =>
    match looksAtA tm o with
    | some bs => some ((targetS hs tm o).filter fun b => match H.get b with | some k => k.rw | none => false, fun b => bs.contains b)
    | none =>
      match (List.range ops.size).filter fun j => j != i && !ordered ms i j with
      | [] => some (names (H.filter fun x => x.2.rw), fun _ => true)
      | others =>
        match others.flatMap (fun j => est.getD j [] ++ (match ops[j]? with | some p => targetS hs tm p | none => [])), others.filterMap fun j => if j < i then (match (done.reverse)[j]? with | some s => if s.lo < s.hi then some (s.lo, s.hi) else none | none => none) else none with
        | mask, rs => some ([], fun b => !(mask.contains b || inRange rs b))
def guessS (P : Program) (hs : Hints) (ops : Array Oper) (H : Hp) : List Oper → List Value → List (List Nat)
  | [], _ => []
  | o :: l, tm =>
    match hs.find (hkey o) with
    | some (.slc _ _ _ _ _ v) => [] :: guessS P hs ops H l (putT tm o.dst v)
    | some (.ix _ _ _ v) => [] :: guessS P hs ops H l (putT tm o.dst v)
    | some (.ld _ _ _ _ _ v) => [] :: guessS P hs ops H l (putT tm o.dst v)
    | some (.app _ _ _ _ dl _ _ _) => dl.toList :: guessS P hs ops H l (putT tm o.dst junk)
    | some _ => targetOf tm o :: guessS P hs ops H l (putT tm o.dst junk)
    | none =>
      match o.op with
      | .store .. => targetOf tm o :: guessS P hs ops H l tm
      | .load .. | .fieldAddr .. | .indexAddr .. | .move _ | .assign _ | .slice .. =>
        [] :: guessS P hs ops H l (putT tm o.dst (match wantedA ops tm o with
          | some true => match doOp P tm H 0 o with
            | some (v, _, _) => v
            | none => junk
          | _ => junk))
      | _ => targetOf tm o :: guessS P hs ops H l (putT tm o.dst junk)

def sDraw (P : Program) (hs : Hints) (E : Ev) (ops : Array Oper) (tm : List Value) (H : Hp) (nx : Nat) : Option (List Value × Hp × Nat × Eqs) :=
  match masksOf ops.toList [] with
  | ms => match (if ops.toList.any isWriter then guessS P hs ops H ops.toList tm else []) with
    | est => match drawGo (sStrip P hs E) ops (cutS hs ops ms est) 0 [] ops.toList tm H nx with
      | some ss => if staticFit ops && viewsFit ms ss && P.follows .mixedOrders then some (tmR ss tm, hpR ss H, nxR ss nx, drawEqs P hs E ss) else none
      | none => none
theorem sDraw_ok {hs : Hints} (hk : HintsOk P hs) {E : Ev} (hE : E.Ok P) (hsp : NoSpecial P) {r : Option Nat} {id : Nat} {ops : Array Oper} {tm tm' : List Value} {ds : List Nat} {H' : Hp} {nx nx' : Nat} {e : Eqs} (h : sDraw P hs E ops tm H nx = some (tm', H', nx', e)) (he : e.Hold) : CodeOk P r (.region id ops true) tm ds H nx ⟨.normal, tm', ds, H', nx'⟩ := by
  unfold sDraw at h
  dsimp only at h
  split at h
  case h_2 => cases h
  rename_i ss hss
  split at h
  case isFalse => cases h
  rename_i hc
  cases h
  exact drawn_ok (op := sStrict P hs E) sStrict_looks (fun h => sStrict_ok hk hE hsp h) (drawGo_strict hss he) hc
end Go.En
