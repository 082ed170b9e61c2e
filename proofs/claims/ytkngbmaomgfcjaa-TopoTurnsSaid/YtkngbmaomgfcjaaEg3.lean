/- Parts of a proof, joined: OB, OC, OD, OE, OF, OG, OH, OI, OJ, OK, OL, OM, ON, OO. -/
import Derived.Test.YtkngbmaomgfcjaaEg2
/- The engine, part OB: code with hints. -/
namespace Go.En
set_option linter.unusedVariables false
variable {P : Program} {φ : Ren} {H : Hp} {K : Nat → Prop} {w : World}

theorem Eqs.none_hold : Eqs.none.Hold := ⟨trivial, trivial, trivial⟩

/-! ### Operations in their order -/
def sList (P : Program) (hs : Hints) (E : Ev) (ops : Array Oper) : List Oper → List Value → Hp → Nat → Option (List Value × Hp × Nat × Eqs)
  | [], tm, H, nx => some (tm, H, nx, Eqs.none)
  | o :: l, tm, H, nx => match wantedA ops tm o with
    | some true => match sOp P hs E tm H nx o with
      | some (v, H1, nx1, e) => match sList P hs E ops l (putT tm o.dst v) H1 nx1 with
        | some (tm', H', nx', e') => some (tm', H', nx', e.and e')
        | none => none
      | none => none
    | some false => sList P hs E ops l (putT tm o.dst undef) H nx
    | none => none
theorem sList_ok {hs : Hints} (hk : HintsOk P hs) {E : Ev} (hE : E.Ok P) (hsp : NoSpecial P) {r : Option Nat} {ops : Array Oper} : ∀ {l : List Oper} {k : Nat} {tm : List Value} {H : Hp} {nx : Nat} {tm' : List Value} {H' : Hp} {nx' : Nat} {e : Eqs},
    (∀ j : Nat, l[j]? = ops[k + j]?) → sList P hs E ops l tm H nx = some (tm', H', nx', e) → e.Hold → OpsOk P r ops (List.range' k l.length) tm H nx tm' H' nx'
  | [], k, tm, H, nx, tm', H', nx', e, _, h, he => by simp only [sList, Option.some.injEq, Prod.mk.injEq] at h; obtain ⟨rfl, rfl, rfl, rfl⟩ := h; exact opsOk_nil
  | o :: l, k, tm, H, nx, tm', H', nx', e, hl, h, he => by
    have h0 : ops[k]? = some o := by simpa using (hl 0).symm
    have hl' : ∀ j : Nat, l[j]? = ops[k + 1 + j]? := fun j => by have := hl (j + 1); simpa [Nat.add_assoc, Nat.add_comm 1 j] using this
    simp only [sList] at h
    rw [List.length_cons, List.range'_succ]
    split at h
    · rename_i hw
      split at h
      case h_2 => cases h
      rename_i v H1 nx1 e1 h1
      split at h
      case h_2 => cases h
      rename_i tm2 H2 nx2 e2 h2
      cases h
      obtain ⟨g1, g2⟩ := Eqs.hold_and.1 he
      exact opsOk_cons h0 hw (sOp_ok hk hE hsp h1 g1) (sList_ok hk hE hsp hl' h2 g2)
    · rename_i hw
      exact opsOk_skip h0 hw (sList_ok hk hE hsp hl' h he)
    · cases h

/-! ### Drawn regions -/
theorem sOp_looks {hs : Hints} {E : Ev} {t t' : List Value} {nx : Nat} {o : Oper} (h : ∀ x ∈ o.op.operands, opv t x = opv t' x) : sOp P hs E t H nx o = sOp P hs E t' H nx o := by
  have hev : evalOp P E t H nx o = evalOp P E t' H nx o := evalOp_looks _ _ _ _ _ h
  unfold sOp
  split
  · rw [hev]
  · rw [hev]
  · cases ho : o.op with
    | call c =>
      obtain ⟨cal, args, ats⟩ := c
      cases cal with
      | value cf =>
        rw [ho] at h
        simp only [h cf (by simp [Op.operands, Call.operands]), opvs_congr (xs := args.toList) fun x hx => h x (by simp only [Op.operands, Call.operands, Array.mem_append]; right; simpa using hx)]
      | _ => rfl
    | _ => rfl
  · cases ho : o.op with
    | indexAddr t x i => rw [ho] at h; simp only [h x (by simp [Op.operands]), h i (by simp [Op.operands])]
    | _ => rfl
  · cases ho : o.op with
    | indexAddr t x i => rw [ho] at h; simp only [h x (by simp [Op.operands]), h i (by simp [Op.operands])]
    | _ => rfl
  · cases ho : o.op with
    | load t a => rw [ho] at h; simp only [h a (by simp [Op.operands])]
    | _ => rfl
  · cases ho : o.op with
    | store t a x => rw [ho] at h; simp only [h a (by simp [Op.operands]), h x (by simp [Op.operands])]
    | _ => rfl
  · rw [hev]
  · cases ho : o.op with
    | slice t x lo hi mx =>
      rw [ho] at h
      simp only [h x (by simp [Op.operands]), opvo_congr (x := lo) fun y hy => h y (by cases hy; simp [Op.operands]), opvo_congr (x := hi) fun y hy => h y (by cases hy; simp [Op.operands]), opvo_congr (x := mx) fun y hy => h y (by cases hy; simp [Op.operands])]
    | _ => rfl
  · cases ho : o.op with
    | call c =>
      obtain ⟨cal, args, ats⟩ := c
      cases cal with
      | builtin bi =>
        rw [ho] at h
        cases bi <;> try rfl
        simp only [opvs_congr (xs := args.toList) fun x hx => h x (by simp only [Op.operands, Call.operands, Array.mem_append]; right; simpa using hx)]
      | _ => rfl
    | _ => rfl
  · cases ho : o.op with
    | makeSlice t l c => rw [ho] at h; simp only [h l (by simp [Op.operands]), h c (by simp [Op.operands])]
    | _ => rfl
  · cases ho : o.op with
    | call c =>
      obtain ⟨cal, args, ats⟩ := c
      cases cal with
      | value cf =>
        rw [ho] at h
        simp only [h cf (by simp [Op.operands, Call.operands]), opvs_congr (xs := args.toList) fun x hx => h x (by simp only [Op.operands, Call.operands, Array.mem_append]; right; simpa using hx)]
      | _ => rfl
    | _ => rfl
  · cases ho : o.op with
    | binOp op t x y w => rw [ho] at h; simp only [h x (by simp [Op.operands]), h y (by simp [Op.operands])]
    | _ => rfl
  · rw [opvs_congr (xs := o.op.operands.toList) fun x hx => h x (by simpa using hx)]

def sStrip (P : Program) (hs : Hints) (E : Ev) (tm : List Value) (H : Hp) (nx : Nat) (o : Oper) : Option (Value × Hp × Nat) :=
  match sOp P hs E tm H nx o with
  | some (v, H', nx', _) => some (v, H', nx')
  | none => none
open Classical in
noncomputable def sStrict (P : Program) (hs : Hints) (E : Ev) (tm : List Value) (H : Hp) (nx : Nat) (o : Oper) : Option (Value × Hp × Nat) :=
  match sOp P hs E tm H nx o with
  | some (v, H', nx', e) => if e.Hold then some (v, H', nx') else none
  | none => none
theorem sStrict_looks {hs : Hints} {E : Ev} : Looks (sStrict P hs E) := by
  intro t t' H nx o h
  unfold sStrict
  rw [sOp_looks h]
theorem sStrict_ok {hs : Hints} (hk : HintsOk P hs) {E : Ev} (hE : E.Ok P) (hsp : NoSpecial P) {r : Option Nat} {o : Oper} {tm : List Value} {nx : Nat} {v : Value} {H' : Hp} {nx' : Nat} (h : sStrict P hs E tm H nx o = some (v, H', nx')) : OpOk P r o tm H nx v H' nx' := by
  unfold sStrict at h
  split at h
  case h_2 => cases h
  rename_i v1 H1 nx1 e he
  split at h
  case isFalse => cases h
  rename_i hh
  cases h
  exact sOp_ok hk hE hsp he hh

def stpEqs (P : Program) (hs : Hints) (E : Ev) (s : Stp) : Eqs :=
  match hs.find (hkey s.o) with
  | none => Eqs.none
  | some _ => match sOp P hs E s.tmo s.V s.lo s.o with
    | some (_, _, _, e) => e
    | none => Eqs.none
def drawEqs (P : Program) (hs : Hints) (E : Ev) : List Stp → Eqs
  | [] => Eqs.none
  | s :: ss => match s.ran with
    | true => (stpEqs P hs E s).and (drawEqs P hs E ss)
    | false => drawEqs P hs E ss

theorem sOp_plain {hs : Hints} {E : Ev} {tm : List Value} {nx : Nat} {o : Oper} (h : hs.find (hkey o) = none) {v : Value} {H' : Hp} {nx' : Nat} {e : Eqs} (hx : sOp P hs E tm H nx o = some (v, H', nx', e)) : e.Hold := by
  unfold sOp at hx
  rw [h] at hx
  simp only [Option.map_eq_some_iff, Prod.mk.injEq] at hx
  obtain ⟨_, _, _, _, _, rfl⟩ := hx
  exact Eqs.none_hold

theorem drawGo_strict {hs : Hints} {E : Ev} {ops : Array Oper} {cut : Nat → List Value → Hp → List Stp → Option (List Nat × (Nat → Bool))} :
    ∀ {l : List Oper} {i : Nat} {done : List Stp} {tm : List Value} {H : Hp} {nx : Nat} {ss : List Stp}, drawGo (sStrip P hs E) ops cut i done l tm H nx = some ss → (drawEqs P hs E ss).Hold → drawGo (sStrict P hs E) ops cut i done l tm H nx = some ss
  | [], i, done, tm, H, nx, ss, h, he => by simpa only [drawGo] using h
  | o :: l, i, done, tm, H, nx, ss, h, he => by
    simp only [drawGo] at h ⊢
    split at h
    · rename_i hw
      simp only [Option.map_eq_some_iff] at h
      obtain ⟨ss', h', rfl⟩ := h
      rw [drawGo_strict h' he]
      rfl
    · rename_i hw
      split at h
      case h_1 => cases h
      rename_i wr see hcut
      split at h
      case h_2 => cases h
      rename_i v H1 nx1 hop1
      split at h
      case isFalse => cases h
      rename_i hrw
      simp only [Option.map_eq_some_iff] at h
      obtain ⟨ss', h', rfl⟩ := h
      simp only [drawEqs] at he
      obtain ⟨e1, e2⟩ := Eqs.hold_and.1 he
      have hst : sStrict P hs E tm (Hp.only see (mkView (fun b => wr.contains b) (fun _ => false) H)) nx o = some (v, H1, nx1) := by
        unfold sStrip at hop1
        split at hop1
        case h_2 => cases hop1
        rename_i v2 H2 nx2 e hs2
        cases hop1
        unfold sStrict
        rw [hs2]
        have hh : e.Hold := by
          cases hfk : hs.find (hkey o) with
          | none => exact sOp_plain hfk hs2
          | some hnt =>
            have hkp : sOp P hs E (keepT tm (slotsOf ops o)) (Hp.only see (mkView (fun b => wr.contains b) (fun _ => false) H)) nx o = some (v, H1, nx1, e) := by
              rw [← hs2]
              exact (sOp_looks fun x hx => keepT_opv fun s hs => by
                simp only [slotsOf, List.mem_append, List.mem_flatMap]
                exact .inl ⟨x, by simpa using hx, hs⟩).symm
            simp only [stpEqs, hfk, hkp] at e1
            exact e1
        simp only [hh, if_true]
      rw [hst]
      dsimp only
      rw [if_pos hrw, drawGo_strict h' e2]
      rfl
    · cases h

/-- The block that an operation may turn, by its hint. -/
def targetS (hs : Hints) (tm : List Value) (o : Oper) : List Nat :=
  match hs.find (hkey o) with
  | some (.app _ _ _ _ dl _ _ _) => dl.toList
  | _ => targetOf tm o
def cutS (hs : Hints) (ops : Array Oper) (ms : List Nat) (est : List (List Nat)) (i : Nat) (tm : List Value) (H : Hp) (done : List Stp) : Option (List Nat × (Nat → Bool)) :=
  match ops[i]? with
  | none => none
  | some o =>
    match looksAtA tm o with
    | some bs => some ((targetS hs tm o).filter fun b => match H.get b with | some k => k.rw | none => false, fun b => bs.contains b)
    | none =>
      match (List.range ops.size).filter fun j => j != i && !ordered ms i j with
      | [] => some (names (H.filter fun x => x.2.rw), fun _ => true)
      | others =>
        match others.flatMap (fun j => est.getD j [] ++ (match ops[j]? with | some p => targetS hs tm p | none => [])), others.filterMap fun j => if j < i then (match (done.reverse)[j]? with | some s => if s.lo < s.hi then some (s.lo, s.hi) else none | none => none) else none with
        | mask, rs => some ([], fun b => !(mask.contains b || inRange rs b))
def guessS (P : Program) (hs : Hints) (ops : Array Oper) (H : Hp) : List Oper → List Value → List (List Nat)
  | [], _ => []
  | o :: l, tm =>
    match hs.find (hkey o) with
    | some (.slc _ _ _ _ _ v) => [] :: guessS P hs ops H l (putT tm o.dst v)
    | some (.ix _ _ _ v) => [] :: guessS P hs ops H l (putT tm o.dst v)
    | some (.ld _ _ _ _ _ v) => [] :: guessS P hs ops H l (putT tm o.dst v)
    | some (.app _ _ _ _ dl _ _ _) => dl.toList :: guessS P hs ops H l (putT tm o.dst junk)
    | some _ => targetOf tm o :: guessS P hs ops H l (putT tm o.dst junk)
    | none =>
      match o.op with
      | .store .. => targetOf tm o :: guessS P hs ops H l tm
      | .load .. | .fieldAddr .. | .indexAddr .. | .move _ | .assign _ | .slice .. =>
        [] :: guessS P hs ops H l (putT tm o.dst (match wantedA ops tm o with
          | some true => match doOp P tm H 0 o with
            | some (v, _, _) => v
            | none => junk
          | _ => junk))
      | _ => targetOf tm o :: guessS P hs ops H l (putT tm o.dst junk)

def sDraw (P : Program) (hs : Hints) (E : Ev) (ops : Array Oper) (tm : List Value) (H : Hp) (nx : Nat) : Option (List Value × Hp × Nat × Eqs) :=
  match masksOf ops.toList [] with
  | ms => match (if ops.toList.any isWriter then guessS P hs ops H ops.toList tm else []) with
    | est => match drawGo (sStrip P hs E) ops (cutS hs ops ms est) 0 [] ops.toList tm H nx with
      | some ss => if staticFit ops && viewsFit ms ss && P.follows .mixedOrders then some (tmR ss tm, hpR ss H, nxR ss nx, drawEqs P hs E ss) else none
      | none => none
theorem sDraw_ok {hs : Hints} (hk : HintsOk P hs) {E : Ev} (hE : E.Ok P) (hsp : NoSpecial P) {r : Option Nat} {id : Nat} {ops : Array Oper} {tm tm' : List Value} {ds : List Nat} {H' : Hp} {nx nx' : Nat} {e : Eqs} (h : sDraw P hs E ops tm H nx = some (tm', H', nx', e)) (he : e.Hold) : CodeOk P r (.region id ops true) tm ds H nx ⟨.normal, tm', ds, H', nx'⟩ := by
  unfold sDraw at h
  dsimp only at h
  split at h
  case h_2 => cases h
  rename_i ss hss
  split at h
  case isFalse => cases h
  rename_i hc
  cases h
  exact drawn_ok (op := sStrict P hs E) sStrict_looks (fun h => sStrict_ok hk hE hsp h) (drawGo_strict hss he) hc
end Go.En
/- The engine, part OC: forgetting, framing, and whole code with hints. -/
namespace Go.En
set_option linter.unusedVariables false
variable {P : Program} {φ : Ren} {H : Hp} {K : Nat → Prop} {w : World}

/-! ### Forgetting -/
def isJunk : Value → Bool
  | .complex .f32 0 0 => true
  | _ => false
theorem isJunk_eq {v : Value} (h : isJunk v = true) : v = junk := by
  unfold isJunk at h
  split at h
  · rfl
  · cases h
/-- The value names nothing from lo on. -/
def smallL (f : Value → Bool) : List Value → Bool
  | [] => true
  | v :: r => f v && smallL f r
def small (lo : Nat) : Nat → Value → Bool
  | _, .bool _ => true
  | _, .int _ _ => true
  | _, .float _ _ => true
  | _, .string _ => true
  | _, .pointer none => true
  | _, .pointer (some a) => decide (a.block < lo)
  | _, .slice none _ _ => true
  | _, .slice (some a) _ _ => decide (a.block < lo)
  | _, .map none => true
  | _, .map (some b) => decide (b < lo)
  | _, .nilFunc => true
  | _, .nilIface => true
  | n + 1, .func (.func _) a b => smallL (small lo n) a.toList && smallL (small lo n) b.toList
  | n + 1, .func (.yield l) a b => decide (l < lo) && smallL (small lo n) a.toList && smallL (small lo n) b.toList
  | n + 1, .iface _ v => small lo n v
  | n + 1, .agg a => smallL (small lo n) a.toList
  | n + 1, .tuple a => smallL (small lo n) a.toList
  | _, _ => false

theorem smallL_rel {φ' : Ren} {f : Value → Bool} (hf : ∀ v v', f v = true → VRel φ' v v' → VRel φ v v') : ∀ {xs ys : List Value}, smallL f xs = true → LRel φ' xs ys → LRel φ xs ys
  | [], [], _, _ => trivial
  | x :: xs, y :: ys, h, hr => by
    simp only [smallL, Bool.and_eq_true] at h
    exact ⟨hf x y h.1 hr.1, smallL_rel hf h.2 hr.2⟩
  | [], _ :: _, _, h => h.elim
  | _ :: _, [], _, h => h.elim

theorem small_rel {φ' : Ren} {lo : Nat} (hφ : ∀ b, b < lo → φ' b = φ b) : ∀ (n : Nat) (v v' : Value), small lo n v = true → VRel φ' v v' → VRel φ v v' := by
  have base : ∀ (n : Nat) (v v' : Value), (match v with | .func .. => False | .iface .. => False | .agg _ => False | .tuple _ => False | _ => True) → small lo n v = true → VRel φ' v v' → VRel φ v v' := by
    intro n v v' hv hs hr
    cases hr with
    | bool b => exact .bool b
    | int k n => exact .int k n
    | float k n => exact .float k n
    | str s => exact .str s
    | ptrN => exact .ptrN
    | ptr b o L h => simp only [small, decide_eq_true_eq] at hs; exact .ptr b o L (by rw [← hφ b hs]; exact h)
    | slN n c => exact .slN n c
    | sl b o n c L h hc => simp only [small, decide_eq_true_eq] at hs; exact .sl b o n c L (by rw [← hφ b hs]; exact h) hc
    | slO b o n c c' L h hc hn hl => simp only [small, decide_eq_true_eq] at hs; exact .slO b o n c c' L (by rw [← hφ b hs]; exact h) hc hn hl
    | slE b o c a' L h hc => simp only [small, decide_eq_true_eq] at hs; exact .slE b o c a' L (by rw [← hφ b hs]; exact h) hc
    | mapN => exact .mapN
    | map r L h => simp only [small, decide_eq_true_eq] at hs; exact .map r L (by rw [← hφ r hs]; exact h)
    | nilFunc => exact .nilFunc
    | nilIface => exact .nilIface
    | func => exact hv.elim
    | iface => exact hv.elim
    | agg => exact hv.elim
    | tuple => exact hv.elim
  intro n
  induction n with
  | zero =>
    intro v v' hs hr
    cases v with
    | func f a b => cases f <;> simp [small] at hs
    | iface t u => simp [small] at hs
    | agg a => simp [small] at hs
    | tuple a => simp [small] at hs
    | _ => exact base 0 _ v' trivial hs hr
  | succ n ih =>
    intro v v' hs hr
    cases v with
    | func f a b =>
      obtain ⟨fn', ys, us, rfl, hf, h1, h2⟩ := hr.func_inv
      cases hf with
      | func f =>
        simp only [small, Bool.and_eq_true] at hs
        exact .func' (.func f) (smallL_rel ih hs.1 h1) (smallL_rel ih hs.2 h2)
      | yield l L hl =>
        simp only [small, Bool.and_eq_true, decide_eq_true_eq] at hs
        exact .func' (.yield l L (by rw [← hφ l hs.1.1]; exact hl)) (smallL_rel ih hs.1.2 h1) (smallL_rel ih hs.2 h2)
      | _ => simp [small] at hs
    | iface t u =>
      cases hr with
      | iface t v v' h => exact .iface t _ _ (ih _ _ hs h)
    | agg a =>
      obtain ⟨ys, rfl, hl⟩ := hr.agg_inv
      exact .agg' (smallL_rel ih hs hl)
    | tuple a =>
      obtain ⟨ys, rfl, hl⟩ := hr.tuple_inv
      exact .tuple' (smallL_rel ih hs hl)
    | _ => exact base (n + 1) _ v' trivial hs hr

/-- What is kept of the temporaries: what the pattern asks for, where it names nothing new. -/
def tidyT (lo : Nat) : List Value → List Value → List Value
  | [], [] => []
  | p :: ps, v :: vs => (match isJunk p with | true => junk | false => match small lo 5 v with | true => v | false => junk) :: tidyT lo ps vs
  | _, vs => vs.map fun _ => junk
theorem tidyT_len (lo : Nat) : ∀ (ps vs : List Value), (tidyT lo ps vs).length = vs.length
  | [], [] => rfl
  | p :: ps, v :: vs => by simp [tidyT, tidyT_len lo ps vs]
  | [], _ :: _ => by simp [tidyT]
  | _ :: _, [] => by simp [tidyT]
theorem tidyT_get (lo : Nat) {j : Nat} {u : Value} : ∀ (ps vs : List Value), (tidyT lo ps vs)[j]? = some u → u = junk ∨ (vs[j]? = some u ∧ small lo 5 u = true) := by
  intro ps vs
  induction vs generalizing ps j with
  | nil => intro h; cases ps <;> simp [tidyT] at h
  | cons v vs ih =>
    intro h
    cases ps with
    | nil =>
      simp only [tidyT, List.map_cons] at h
      cases j with
      | zero => simp at h; exact .inl h.symm
      | succ j =>
        simp only [List.getElem?_cons_succ, List.getElem?_map, Option.map_eq_some_iff] at h
        obtain ⟨_, _, rfl⟩ := h
        exact .inl rfl
    | cons p ps =>
      simp only [tidyT] at h
      cases j with
      | zero =>
        simp only [List.getElem?_cons_zero, Option.some.injEq] at h
        split at h
        · exact .inl h.symm
        · split at h
          · rename_i hs; subst h; exact .inr ⟨rfl, hs⟩
          · exact .inl h.symm
      | succ j =>
        simp only [List.getElem?_cons_succ] at h ⊢
        exact ih ps h

def tidyB (lo : Nat) : Blk → Bool
  | .cells cs _ => smallL (small lo 5) cs
  | .loop l => smallL (small lo 5) l.tmps.toList && decide (l.defers < lo)
  | _ => true
def tidyH (lo : Nat) : Hp → Hp
  | [] => []
  | (b, k) :: r => match decide (b < lo) && tidyB lo k with
    | true => (b, k) :: tidyH lo r
    | false => tidyH lo r
theorem smallL_get {f : Value → Bool} {j : Nat} {v : Value} : ∀ {cs : List Value}, smallL f cs = true → cs[j]? = some v → f v = true
  | [], _, h => by simp at h
  | x :: cs, hs, h => by
    simp only [smallL, Bool.and_eq_true] at hs
    cases j with
    | zero => simp at h; subst h; exact hs.1
    | succ j => simp at h; exact smallL_get hs.2 h
theorem tidyH_absent {lo b : Nat} : ∀ {H : Hp}, (∀ k, Hp.get H b = some k → False) → ∀ k, (tidyH lo H).get b = some k → False
  | [], _, k, h => by simp [tidyH, Hp.get] at h
  | (c, x) :: r, hn, k, h => by
    by_cases hc : c = b
    · subst hc; exact hn x (by simp [Hp.get])
    · have hn' : ∀ k, Hp.get r b = some k → False := fun k hk => hn k (by simp [Hp.get, hc, hk])
      simp only [tidyH] at h
      split at h
      · simp [Hp.get, hc] at h; exact tidyH_absent hn' k h
      · exact tidyH_absent hn' k h

/-- No name twice. -/
def nodupN : Hp → Bool
  | [] => true
  | (b, _) :: r => !(r.any fun x => x.1 == b) && nodupN r
theorem nodup_absent {b : Nat} : ∀ {r : Hp}, (r.any fun x => x.1 == b) = false → ∀ k, Hp.get r b = some k → False
  | [], _, k, h => by simp [Hp.get] at h
  | (c, x) :: r, hn, k, h => by
    simp only [List.any_cons, Bool.or_eq_false_iff] at hn
    have hc : c ≠ b := by simpa using hn.1
    simp [Hp.get, hc] at h
    exact nodup_absent hn.2 k h
theorem tidyH_get {lo b : Nat} {k : Blk} : ∀ {H : Hp}, nodupN H = true → (tidyH lo H).get b = some k → H.get b = some k ∧ b < lo ∧ tidyB lo k = true
  | [], _, h => by simp [tidyH, Hp.get] at h
  | (c, x) :: r, hn, h => by
    simp only [nodupN, Bool.and_eq_true, Bool.not_eq_true'] at hn
    simp only [tidyH] at h
    split at h
    · rename_i hc
      simp only [Bool.and_eq_true, decide_eq_true_eq] at hc
      by_cases hcb : c = b
      · subst hcb
        simp [Hp.get] at h
        subst h
        exact ⟨by simp [Hp.get], hc⟩
      · simp [Hp.get, hcb] at h
        have := tidyH_get hn.2 h
        exact ⟨by simp [Hp.get, hcb, this.1], this.2⟩
    · have := tidyH_get hn.2 h
      have hcb : c ≠ b := by rintro rfl; exact nodup_absent hn.1 k this.1
      exact ⟨by simp [Hp.get, hcb, this.1], this.2⟩

def tidyR (lo : Nat) (pat : List Value) (R : Res) : Res := ⟨R.e, tidyT lo pat R.tm, R.ds, tidyH lo R.H, lo⟩

theorem good_tidy {φ' : Ren} {lo : Nat} (hφ : ∀ b, b < lo → φ' b = φ b) {H' : Hp} (hn : nodupN H' = true) (g : Good φ' H' K w) : Good φ (tidyH lo H') K w := by
  refine ⟨fun b k hb => ?_, fun b c k k' L L' hb hc hne hkr h1 h2 => ?_, fun b k L hb hkr h1 => ?_, g.kin⟩
  · obtain ⟨h1, h2, h3⟩ := tidyH_get hn hb
    obtain ⟨L, hL, hbr⟩ := g.rel b k h1
    refine ⟨L, by rw [← hφ b h2]; exact hL, ?_⟩
    cases k with
    | cells cs ro =>
      obtain ⟨arr, el, fr, e1, e2, e3⟩ := hbr
      refine ⟨arr, el, fr, e1, fun j v hv => ?_, e3⟩
      obtain ⟨v', f1, f2⟩ := e2 j v hv
      exact ⟨v', f1, small_rel hφ 5 v v' (smallL_get h3 hv) f2⟩
    | loop l =>
      simp only [tidyB, Bool.and_eq_true, decide_eq_true_eq] at h3
      obtain ⟨l', e1, e2, e3, e4, e5, e6, e7, D, e8, e9⟩ := hbr
      refine ⟨l', e1, e2, e3, ⟨e4.1, fun j v hv => ?_⟩, e5, e6, e7, D, by rw [← hφ _ h3.2]; exact e8, e9⟩
      rcases e4.2 j v hv with h0 | ⟨v', f1, f2⟩
      · exact .inl h0
      · exact .inr ⟨v', f1, small_rel hφ 5 v v' (smallL_get h3.1 hv) f2⟩
    | defd => exact hbr
    | hid => exact hbr
  · obtain ⟨a1, a2, a3⟩ := tidyH_get hn hb
    obtain ⟨b1, b2, b3⟩ := tidyH_get hn hc
    exact g.sep b c k k' L L' a1 b1 hne hkr (by rw [hφ b a2]; exact h1) (by rw [hφ c b2]; exact h2)
  · obtain ⟨a1, a2, a3⟩ := tidyH_get hn hb
    exact g.prot b k L a1 hkr (by rw [hφ b a2]; exact h1)

def dsBelow (lo : Nat) (ds : List Nat) : Bool := ds.all fun d => decide (d < lo)
def hpBelow (lo : Nat) : Hp → Bool
  | [] => true
  | (b, k) :: r => (decide (b < lo) && tidyB lo k) && hpBelow lo r
theorem tidyH_id {lo : Nat} : ∀ {H : Hp}, hpBelow lo H = true → tidyH lo H = H
  | [], _ => rfl
  | (b, k) :: r, h => by
    simp only [hpBelow, Bool.and_eq_true] at h
    simp only [tidyH, h.1.1, h.1.2, Bool.and_self, tidyH_id h.2]
def tmBelow (lo : Nat) : List Value → Bool
  | [] => true
  | v :: r => (isJunk v || small lo 5 v) && tmBelow lo r
theorem isJunk_not {v v' : Value} (h : isJunk v = true) : ¬ VRel φ v v' := by
  intro hr
  rw [isJunk_eq h] at hr
  exact not_rel_junk hr
theorem tmBelow_get {lo j : Nat} {v : Value} : ∀ {tm : List Value}, tmBelow lo tm = true → tm[j]? = some v → isJunk v = true ∨ small lo 5 v = true
  | [], _, h => by simp at h
  | x :: tm, hs, h => by
    simp only [tmBelow, Bool.and_eq_true, Bool.or_eq_true] at hs
    cases j with
    | zero => simp at h; subst h; exact hs.1
    | succ j => simp at h; exact tmBelow_get hs.2 h
theorem drel_below {φ' : Ren} {lo : Nat} (hφ : ∀ b, b < lo → φ' b = φ b) : ∀ {ds : List Nat} {xs : List Deferred}, dsBelow lo ds = true → DRel φ' ds xs → DRel φ ds xs
  | [], [], _, _ => trivial
  | d :: ds, x :: xs, hb, h => by
    simp only [dsBelow, List.all_cons, Bool.and_eq_true, decide_eq_true_eq] at hb
    obtain ⟨⟨L, h1, h2⟩, h3⟩ := h
    exact ⟨⟨L, by rw [← hφ d hb.1]; exact h1, h2⟩, drel_below hφ hb.2 h3⟩
  | [], _ :: _, _, h => h.elim
  | _ :: _, [], _, h => h.elim
def rBelow (lo : Nat) : Option Nat → Bool
  | none => true
  | some l => decide (l < lo)

theorem codeOk_tidy {r : Option Nat} {c : Code} {tm : List Value} {ds : List Nat} {nx : Nat} {R : Res} (h : CodeOk P r c tm ds H nx R) (pat : List Value) (hn : nodupN R.H = true) (hd : dsBelow nx R.ds = true)
    (hH0 : nodupN H = true) (hH : hpBelow nx H = true) (hT : tmBelow nx tm = true) (hD : dsBelow nx ds = true) (hr0 : rBelow nx r = true) : CodeOk P r c tm ds H nx (tidyR nx pat R) := by
  refine ⟨Nat.le_refl _, fun φ w K a rc g hf ht hds hr => ?_⟩
  let φ0 : Ren := fun b => if b < nx then φ b else none
  have hφ : ∀ b, b < nx → φ b = φ0 b := fun b hb => by simp [φ0, hb]
  have g0 : Good φ0 H K w := by have := good_tidy hφ hH0 g; rwa [tidyH_id hH] at this
  have t0 : TRel φ0 tm a.tmps := ⟨ht.1, fun i v hv => by
    rcases ht.2 i v hv with h0 | ⟨v', h1, h2⟩
    · exact .inl h0
    · rcases tmBelow_get hT hv with hj | hs
      · exact absurd h2 (isJunk_not hj)
      · exact .inr ⟨v', h1, small_rel hφ 5 v v' hs h2⟩⟩
  have r0 : RRel φ0 r rc := by
    cases r <;> cases rc <;> simp only [RRel] at hr ⊢
    obtain ⟨L, h1, h2⟩ := hr
    simp only [rBelow, decide_eq_true_eq] at hr0
    exact ⟨L, by rw [← hφ _ hr0]; exact h1, h2⟩
  refine wpIn_mono (h.2 φ0 w K a rc g0 (fun b h1 h2 => by simp [φ0]; omega) t0 (drel_below hφ hD hds) r0) ?_
  rintro e a1 w1 ⟨rfl, φ', k1, k2, k3, k4, k5⟩
  have hφ' : ∀ b, b < nx → φ' b = φ b := fun b hb => by rw [k1.2 b (.inl hb), hφ b hb]
  refine ⟨rfl, φ, Ext.refl _ _ _, good_tidy hφ' hn k2, ⟨by rw [← k3.1]; exact tidyT_len _ _ _, fun j v hv => ?_⟩, drel_below hφ' hd k4, k5⟩
  rcases tidyT_get nx pat R.tm hv with h0 | ⟨h1, h2⟩
  · exact .inl h0
  · rcases k3.2 j v h1 with h0 | ⟨v', f1, f2⟩
    · exact .inl h0
    · exact .inr ⟨v', f1, small_rel hφ' 5 v v' h2 f2⟩

/-! ### Less known before, a frame around -/
theorem codeOk_pre {r : Option Nat} {c : Code} {tm tm0 : List Value} {ds : List Nat} {H0 : Hp} {nx : Nat} {R : Res} (h : CodeOk P r c tm0 ds H0 nx R) (hH : ∀ φ K w, Good φ H K w → Good φ H0 K w) (hT : ∀ φ ts, TRel φ tm ts → TRel φ tm0 ts) : CodeOk P r c tm ds H nx R :=
  ⟨h.1, fun φ w K a rc g hf ht hd hr => h.2 φ w K a rc (hH _ _ _ g) hf (hT _ _ ht) hd hr⟩

/-- Every block that is only read has an old name. -/
def roOld (H0 : Hp) : Hp → Bool
  | [] => true
  | (b, k) :: r => (k.rw || (H0.get b).isSome) && roOld H0 r
theorem roOld_get {H0 : Hp} {b : Nat} {k : Blk} : ∀ {H : Hp}, roOld H0 H = true → H.get b = some k → k.rw = false → ∃ k0, H0.get b = some k0
  | [], _, h, _ => by simp [Hp.get] at h
  | (c, x) :: r, hr, h, hk => by
    simp only [roOld, Bool.and_eq_true, Bool.or_eq_true] at hr
    by_cases hc : c = b
    · subst hc
      simp [Hp.get] at h; subst h
      rcases hr.1 with h1 | h1
      · rw [hk] at h1; cases h1
      · exact Option.isSome_iff_exists.1 h1
    · simp [Hp.get, hc] at h; exact roOld_get hr.2 h hk

theorem codeOk_frame {r : Option Nat} {c : Code} {tm : List Value} {ds : List Nat} {H1 F : Hp} {nx : Nat} {R : Res} (h : CodeOk P r c tm ds H1 nx R) (hro : roOld H1 R.H = true) (hF : ∀ b k, F.get b = some k → H1.get b = none)
    (hG : ∀ b k, H1.get b = some k → H.get b = some k) (hG2 : ∀ b k, F.get b = some k → H.get b = some k) : CodeOk P r c tm ds H nx { R with H := R.H ++ F } := by
  refine ⟨h.1, fun φ w K a rc g hf ht hd hr => ?_⟩
  let K2 : Nat → Prop := fun c => K c ∨ ∃ b k L, F.get b = some k ∧ φ b = some L ∧ L.blk = c
  have g1 : Good φ H1 K2 w := by
    refine ⟨fun b k hb => g.rel b k (hG b k hb), fun b c k k' L L' hb hc => g.sep b c k k' L L' (hG b k hb) (hG c k' hc), fun b k L hb hkr hL hK => ?_, fun c hc => ?_⟩
    · rcases hK with hK | ⟨d, k', L', hd', hL', he⟩
      · exact g.prot b k L (hG b k hb) hkr hL hK
      · have hne : b ≠ d := by rintro rfl; rw [hF _ _ hd'] at hb; cases hb
        exact g.sep b d k k' L L' (hG b k hb) (hG2 d k' hd') hne hkr hL hL' he.symm
    · rcases hc with hK | ⟨b, k, L, hb, hL, he⟩
      · exact g.kin c hK
      · have := (g.at (hG2 b k hb) hL).lt; omega
  refine wpIn_mono (h.2 φ w K2 a rc g1 hf ht hd hr) ?_
  rintro e a1 w1 ⟨rfl, φ', k1, k2, k3, k4, k5⟩
  refine ⟨rfl, φ', k1, ?_, k3, k4, ⟨k5.os, k5.tape, k5.output, k5.size, fun c hc => k5.kept c (.inl hc)⟩⟩
  have hget : ∀ b k, Hp.get (R.H ++ F) b = some k → R.H.get b = some k ∨ (R.H.get b = none ∧ F.get b = some k) := by
    intro b k hb
    rw [Hp.get_append] at hb
    cases hR : R.H.get b with
    | some k' => rw [hR] at hb; left; exact hb
    | none => rw [hR] at hb; exact .inr ⟨rfl, hb⟩
  have hFL : ∀ b k L, F.get b = some k → φ' b = some L → φ b = some L := by
    intro b k L hb hL
    obtain ⟨M, hM, _⟩ := g.rel b k (hG2 b k hb)
    have := k1.1 _ _ hM
    rw [hL] at this; cases this; exact hM
  refine ⟨fun b k hb => ?_, fun b c k k' L L' hb hc hne hkr hL hL' => ?_, fun b k L hb hkr hL hK => ?_, fun c hc => Nat.lt_of_lt_of_le (g.kin c hc) k5.size⟩
  · rcases hget b k hb with hb | ⟨_, hb⟩
    · exact k2.rel b k hb
    · obtain ⟨L, hL, hbr⟩ := g.rel b k (hG2 b k hb)
      exact ⟨L, k1.1 _ _ hL, (hbr.congr (k5.kept L.blk (.inr ⟨b, k, L, hb, hL, rfl⟩))).mono k1.1⟩
  · rcases hget b k hb with hb | ⟨_, hb⟩
    · rcases hget c k' hc with hc | ⟨_, hc⟩
      · exact k2.sep b c k k' L L' hb hc hne hkr hL hL'
      · exact fun e => k2.prot b k L hb hkr hL (.inr ⟨c, k', L', hc, hFL c k' L' hc hL', e.symm⟩)
    · have hLb := hFL b k L hb hL
      rcases hget c k' hc with hc | ⟨_, hc⟩
      · cases hkc : k'.rw with
        | true => exact fun e => k2.prot c k' L' hc hkc hL' (.inr ⟨b, k, L, hb, hLb, e⟩)
        | false =>
          obtain ⟨k0, h0⟩ := roOld_get hro hc hkc
          obtain ⟨M, hM, _⟩ := g.rel c k0 (hG c k0 h0)
          have := k1.1 _ _ hM
          rw [hL'] at this; cases this
          exact g.sep b c k k0 L L' (hG2 b k hb) (hG c k0 h0) hne hkr hLb hM
      · exact g.sep b c k k' L L' (hG2 b k hb) (hG2 c k' hc) hne hkr hLb (hFL c k' L' hc hL')
  · rcases hget b k hb with hb | ⟨_, hb⟩
    · exact k2.prot b k L hb hkr hL ∘ .inl <| hK
    · exact g.prot b k L (hG2 b k hb) hkr (hFL b k L hb hL) hK
end Go.En
/- The engine, part OD: whole code and calls with hints. -/
namespace Go.En
set_option linter.unusedVariables false
variable {P : Program} {φ : Ren} {H : Hp} {K : Nat → Prop} {w : World}

def firstReg : Code → Option Nat
  | .region id _ _ => some id
  | .seq a b => match firstReg a with | some i => some i | none => firstReg b
  | .cond _ a b => match firstReg a with | some i => some i | none => firstReg b
  | .block _ c => firstReg c
  | .loop c => firstReg c
  | .scope c => firstReg c
  | .rangeFunc _ _ a b => match firstReg b with | some i => some i | none => firstReg a
  | _ => none

/-- A piece of code of which it is known what it comes to. -/
structure CHint where
  id : Nat
  r : Option Nat
  c : Code
  tm : List Value
  ds : List Nat
  H : Hp
  nx : Nat
  R : Res
  /-- the heap as a whole (it may hold records of loops) -/
  whole : Bool := false
def CHint.Ok (P : Program) (h : CHint) : Prop := CodeOk P h.r h.c h.tm h.ds h.H h.nx h.R
def CHintsOk (P : Program) : List CHint → Prop
  | [] => True
  | h :: r => h.Ok P ∧ CHintsOk P r
def findC : List CHint → Option Nat → Option CHint
  | [], _ => none
  | _, none => none
  | h :: r, some i => if h.id == i then some h else findC r (some i)
theorem findC_ok : ∀ {ch : List CHint}, CHintsOk P ch → ∀ {i : Option Nat} {h : CHint}, findC ch i = some h → h.Ok P
  | [], _, i, h, hf => by cases i <;> cases hf
  | x :: r, hk, none, h, hf => by cases hf
  | x :: r, hk, some i, h, hf => by
    simp only [findC] at hf
    split at hf
    · cases hf; exact hk.1
    · exact findC_ok hk.2 hf

def tmEqs : List Value → List Value → Option (List (Value × Value))
  | [], [] => some []
  | p :: ps, v :: vs => match tmEqs ps vs with
    | some l => match isJunk p with
      | true => some l
      | false => some ((p, v) :: l)
    | none => none
  | _, _ => none
theorem tmEqs_rel : ∀ {ps vs : List Value} {l : List (Value × Value)}, tmEqs ps vs = some l → EqsV l → ps.length = vs.length ∧ ∀ (i : Nat) p, ps[i]? = some p → isJunk p = true ∨ vs[i]? = some p
  | [], [], l, h, he => ⟨rfl, fun i p hp => by simp at hp⟩
  | p :: ps, v :: vs, l, h, he => by
    simp only [tmEqs] at h
    split at h
    case h_2 => cases h
    rename_i l' hl'
    split at h
    · rename_i hj
      cases h
      have := tmEqs_rel hl' he
      refine ⟨by simp [this.1], fun i q hq => ?_⟩
      cases i with
      | zero => simp at hq; subst hq; exact .inl hj
      | succ i => simp at hq ⊢; exact this.2 i q hq
    · cases h
      have := tmEqs_rel hl' he.2
      refine ⟨by simp [this.1], fun i q hq => ?_⟩
      cases i with
      | zero => simp at hq; subst hq; right; have := he.1; dsimp only at this; simp [this]
      | succ i => simp at hq ⊢; exact this.2 i q hq
  | [], _ :: _, l, h, he => by simp [tmEqs] at h
  | _ :: _, [], l, h, he => by simp [tmEqs] at h

def hpEqs (H : Hp) : Hp → Option (List (Value × Value))
  | [] => some []
  | (b, .cells cs ro) :: r => match H.get b with
    | some (.cells cs' ro') => match ro == ro', hpEqs H r with
      | true, some l => some ((.tuple cs.toArray, .tuple cs'.toArray) :: l)
      | _, _ => none
    | _ => none
  | _ => none
theorem hpEqs_get {b : Nat} {k : Blk} : ∀ {H1 : Hp} {l : List (Value × Value)}, hpEqs H H1 = some l → EqsV l → H1.get b = some k → H.get b = some k
  | [], l, _, _, h => by simp [Hp.get] at h
  | (c, .cells cs ro) :: r, l, hl, he, h => by
    simp only [hpEqs] at hl
    split at hl
    case h_2 => cases hl
    rename_i cs' ro' hg
    split at hl
    case h_2 => cases hl
    rename_i l' hro hl'
    cases hl
    by_cases hc : c = b
    · subst hc
      simp [Hp.get] at h
      subst h
      have h1 := tuple_inj he.1
      have h2 : ro = ro' := by simpa using hro
      rw [hg, h1, h2]
    · simp [Hp.get, hc] at h
      exact hpEqs_get hl' he.2 h
  | (c, .loop x) :: r, l, hl, _, _ => by simp [hpEqs] at hl
  | (c, .defd) :: r, l, hl, _, _ => by simp [hpEqs] at hl
  | (c, .hid) :: r, l, hl, _, _ => by simp [hpEqs] at hl

def rest (H1 : Hp) : Hp → Hp
  | [] => []
  | (b, k) :: r => match H1.get b with
    | some _ => rest H1 r
    | none => (b, k) :: rest H1 r
theorem rest_get {H1 : Hp} {b : Nat} : ∀ {H : Hp}, (rest H1 H).get b = match H1.get b with | some _ => none | none => H.get b
  | [] => by simp only [rest, Hp.get]; split <;> rfl
  | (c, x) :: r => by
    have ih := rest_get (H1 := H1) (b := b) (H := r)
    simp only [rest]
    by_cases hc : c = b
    · subst hc
      cases h1 : H1.get c with
      | some y => simp only [h1] at ih ⊢; exact ih
      | none => simp [Hp.get]
    · cases h2 : H1.get c with
      | some y => simp only [Hp.get, hc, beq_iff_eq, if_false]; exact ih
      | none => simp only [Hp.get, hc, beq_iff_eq, if_false]; exact ih

def eqR : Option Nat → Option Nat → Bool
  | none, none => true
  | some a, some b => a == b
  | _, _ => false
theorem eqR_eq {a b : Option Nat} (h : eqR a b = true) : a = b := by
  cases a <;> cases b <;> simp [eqR] at h <;> simp [h]

def takeC (h : CHint) (r : Option Nat) (c : Code) (tm : List Value) (ds : List Nat) (H : Hp) (nx : Nat) : Option (Res × Eqs) :=
  match h.whole with
  | true => match eqR h.r r && eqDs h.ds ds && h.nx == nx with
    | true => match tmEqs h.tm tm with
      | some l => some (h.R, ⟨l, [(h.c, c)], [(h.H, H)]⟩)
      | none => none
    | false => none
  | false => match eqR h.r r && eqDs h.ds ds && h.nx == nx && roOld h.H h.R.H with
  | true => match tmEqs h.tm tm, hpEqs H h.H with
    | some l, some l' => some ({ h.R with H := h.R.H ++ rest h.H H }, ⟨l ++ l', [(h.c, c)], []⟩)
    | _, _ => none
  | false => none
theorem takeC_ok {h : CHint} (hk : h.Ok P) {r : Option Nat} {c : Code} {tm : List Value} {ds : List Nat} {nx : Nat} {R : Res} {e : Eqs} (ht : takeC h r c tm ds H nx = some (R, e)) (he : e.Hold) : CodeOk P r c tm ds H nx R := by
  unfold takeC at ht
  split at ht
  · split at ht
    case h_2 => cases ht
    rename_i hc
    split at ht
    case h_2 => cases ht
    rename_i l hl
    cases ht
    simp only [Bool.and_eq_true, beq_iff_eq] at hc
    obtain ⟨⟨h1, h2⟩, h3⟩ := hc
    have e3 : h.c = c := he.2.1.1
    have e4 : h.H = H := he.2.2.1
    have hk : CodeOk P h.r h.c h.tm h.ds h.H h.nx h.R := hk
    rw [eqR_eq h1, eqDs_eq h2, h3, e3, e4] at hk
    obtain ⟨t1, t2⟩ := tmEqs_rel hl he.1
    exact codeOk_pre hk (fun _ _ _ g => g) fun φ ts ht => ⟨by rw [t1]; exact ht.1, fun i v hv => by
      rcases t2 i v hv with hj | hv'
      · exact .inl (isJunk_eq hj)
      · exact ht.2 i v hv'⟩
  split at ht
  case h_2 => cases ht
  rename_i hc
  split at ht
  case h_2 => cases ht
  rename_i l l' hl hl'
  cases ht
  simp only [Bool.and_eq_true, beq_iff_eq] at hc
  obtain ⟨⟨⟨h1, h2⟩, h3⟩, h4⟩ := hc
  obtain ⟨e1, e2⟩ := eqsV_append.1 he.1
  have e3 : h.c = c := he.2.1.1
  have hk : CodeOk P h.r h.c h.tm h.ds h.H h.nx h.R := hk
  rw [eqR_eq h1, eqDs_eq h2, h3, e3] at hk
  obtain ⟨t1, t2⟩ := tmEqs_rel hl e1
  have hk2 : CodeOk P r c tm ds h.H nx h.R := codeOk_pre hk (fun _ _ _ g => g) fun φ ts ht => ⟨by rw [t1]; exact ht.1, fun i v hv => by
    rcases t2 i v hv with hj | hv'
    · exact .inl (isJunk_eq hj)
    · exact ht.2 i v hv'⟩
  exact codeOk_frame hk2 h4 (fun b k hb => by
    rw [rest_get] at hb
    cases hg : h.H.get b with
    | some x => rw [hg] at hb; cases hb
    | none => rfl) (fun b k hb => hpEqs_get hl' e2 hb) (fun b k hb => by
    rw [rest_get] at hb
    cases hg : h.H.get b with
    | some x => rw [hg] at hb; cases hb
    | none => rw [hg] at hb; exact hb)

def sCode (P : Program) (hs : Hints) (ch : List CHint) (E : Ev) (r : Option Nat) : Code → List Value → List Nat → Hp → Nat → Option (Res × Eqs)
  | .skip, tm, ds, H, nx => some (⟨.normal, tm, ds, H, nx⟩, Eqs.none)
  | .label _, tm, ds, H, nx => some (⟨.normal, tm, ds, H, nx⟩, Eqs.none)
  | .exit i, tm, ds, H, nx => some (⟨.exit i, tm, ds, H, nx⟩, Eqs.none)
  | .goto i, tm, ds, H, nx => some (⟨.goto i, tm, ds, H, nx⟩, Eqs.none)
  | .ret, tm, ds, H, nx => some (⟨.ret, tm, ds, H, nx⟩, Eqs.none)
  | .seq x y, tm, ds, H, nx => match sCode P hs ch E r x tm ds H nx with
    | some (R, e) => match R.e with
      | .normal => match sCode P hs ch E r y R.tm R.ds R.H R.nx with
        | some (R', e') => some (R', e.and e')
        | none => none
      | _ => some (R, e)
    | none => none
  | .cond c x y, tm, ds, H, nx => match opv tm c with
    | some (.bool true) => sCode P hs ch E r x tm ds H nx
    | some (.bool false) => sCode P hs ch E r y tm ds H nx
    | _ => none
  | .block i c, tm, ds, H, nx => match sCode P hs ch E r c tm ds H nx with
    | some (R, e) => some (R.inBlock i, e)
    | none => none
  | .loop c, tm, ds, H, nx => match findC ch (firstReg c) with
    | some h => takeC h r (.loop c) tm ds H nx
    | none => match evalCode P E r (.loop c) tm ds H nx with
      | some R => some (R, Eqs.none)
      | none => none
  | .region _ ops false, tm, ds, H, nx => match sList P hs E ops ops.toList tm H nx with
    | some (tm', H', nx', e) => some (⟨.normal, tm', ds, H', nx'⟩, e)
    | none => none
  | .region _ ops true, tm, ds, H, nx => match sDraw P hs E ops tm H nx with
    | some (tm', H', nx', e) => some (⟨.normal, tm', ds, H', nx'⟩, e)
    | none => none
  | .rangeFunc g ps assign body, tm, ds, H, nx => match findC ch (firstReg (.rangeFunc g ps assign body)) with
    | some h => takeC h r (.rangeFunc g ps assign body) tm ds H nx
    | none => match evalRange E r g ps assign body tm ds H nx with
      | some R => some (R, Eqs.none)
      | none => none
  | .scope c, tm, ds, H, nx => match r with
    | some _ => none
    | none => match findC ch ((firstReg c).map (1000 + ·)) with
      | some h => takeC h none (.scope c) tm ds H nx
      | none => match sCode P hs ch E none c tm ds H nx with
        | some (R, e) => match R.e with
          | .goto _ => none
          | _ => some (R, e)
        | none => none
  | _, _, _, _, _ => none

theorem sCode_ok {hs : Hints} (hk : HintsOk P hs) {ch : List CHint} (hch : CHintsOk P ch) {E : Ev} (hE : E.Ok P) (hsp : NoSpecial P) {r : Option Nat} : ∀ (c : Code) {tm : List Value} {ds : List Nat} {H : Hp} {nx : Nat} {R : Res} {e : Eqs}, sCode P hs ch E r c tm ds H nx = some (R, e) → e.Hold → CodeOk P r c tm ds H nx R := by
  intro c
  induction c with
  | skip => intro tm ds H nx R e h he; simp only [sCode, Option.some.injEq, Prod.mk.injEq] at h; obtain ⟨rfl, rfl⟩ := h; exact codeOk_skip
  | label l => intro tm ds H nx R e h he; simp only [sCode, Option.some.injEq, Prod.mk.injEq] at h; obtain ⟨rfl, rfl⟩ := h; exact codeOk_label
  | exit l => intro tm ds H nx R e h he; simp only [sCode, Option.some.injEq, Prod.mk.injEq] at h; obtain ⟨rfl, rfl⟩ := h; exact codeOk_exit
  | goto l => intro tm ds H nx R e h he; simp only [sCode, Option.some.injEq, Prod.mk.injEq] at h; obtain ⟨rfl, rfl⟩ := h; exact codeOk_goto
  | ret => intro tm ds H nx R e h he; simp only [sCode, Option.some.injEq, Prod.mk.injEq] at h; obtain ⟨rfl, rfl⟩ := h; exact codeOk_ret
  | seq x y ihx ihy =>
    intro tm ds H nx R e h he
    simp only [sCode] at h
    split at h
    case h_2 => cases h
    rename_i R1 e1 h1
    split at h
    · rename_i hn
      split at h
      case h_2 => cases h
      rename_i R2 e2 h2
      cases h
      obtain ⟨g1, g2⟩ := Eqs.hold_and.1 he
      exact codeOk_seq (ihx h1 g1) hn (ihy h2 g2)
    · rename_i hn; cases h; exact codeOk_seq_out (ihx h1 he) hn
  | cond c x y ihx ihy =>
    intro tm ds H nx R e h he
    simp only [sCode] at h
    split at h
    · rename_i hc; exact codeOk_cond hc (by simpa using ihx h he)
    · rename_i hc; exact codeOk_cond hc (by simpa using ihy h he)
    · cases h
  | block i c ih =>
    intro tm ds H nx R e h he
    simp only [sCode] at h
    split at h
    case h_2 => cases h
    rename_i R1 e1 h1
    cases h
    exact codeOk_block (ih h1 he)
  | loop c ih =>
    intro tm ds H nx R e h he
    simp only [sCode] at h
    split at h
    · rename_i x hf; exact takeC_ok (findC_ok hch hf) h he
    · split at h
      case h_2 => cases h
      rename_i R1 h1
      cases h
      exact evalCode_ok hE hsp _ h1
  | region id ops draw =>
    intro tm ds H nx R e h he
    cases draw with
    | false =>
      simp only [sCode] at h
      split at h
      case h_2 => cases h
      rename_i tm' H' nx' e' h1
      cases h
      refine codeOk_region ?_
      have := sList_ok (r := r) hk hE hsp (k := 0) (ops := ops) (fun j => by simp) h1 he
      rw [List.range_eq_range']
      simpa using this
    | true =>
      simp only [sCode] at h
      split at h
      case h_2 => cases h
      rename_i tm' H' nx' e' h1
      cases h
      exact sDraw_ok hk hE hsp h1 he
  | rangeFunc g ps assign body iha ihb =>
    intro tm ds H nx R e h he
    simp only [sCode] at h
    split at h
    · rename_i x hf; exact takeC_ok (findC_ok hch hf) h he
    · split at h
      case h_2 => cases h
      rename_i R1 h1
      cases h
      exact evalRange_ok hE hsp h1
  | scope c ih =>
    intro tm ds H nx R e h he
    cases r with
    | some l => simp [sCode] at h
    | none =>
      simp only [sCode] at h
      split at h
      · rename_i x hf; exact takeC_ok (findC_ok hch hf) h he
      split at h
      case h_2 => cases h
      rename_i R1 e1 h1
      split at h
      · cases h
      · rename_i hn; cases h; exact codeOk_scope (scpOk_out (ih h1 he) hn)
  | refuse s => intro tm ds H nx R e h he; simp [sCode] at h

/-- What a call hands out directly, and what is old. -/
def gcS (lo : Nat) (v : Value) (H : Hp) : Hp := Hp.only (fun b => decide (b < lo) || (refs 4 v).contains b) H
theorem gcS_sub (lo : Nat) (v : Value) (H : Hp) (b : Nat) (k : Blk) (h : (gcS lo v H).get b = some k) : H.get b = some k := by
  unfold gcS at h
  rw [Hp.get_only] at h
  split at h
  · exact h
  · cases h

/-- A function's call, with hints for its own code. -/
def sCall (P : Program) (hs : Hints) (ch : List CHint) (E : Ev) (f : FuncId) (args : List Value) (H : Hp) (nx : Nat) : Option (Value × Hp × Nat × Eqs) :=
  match P.funcs[f]? with
  | some fn => match fn.body with
    | some c => match sCode P hs ch E none c (args ++ List.replicate (fn.ntmps - args.length) undef) [] H nx with
      | some (R, e) => match (match R.e with | .normal => true | .ret => true | _ => false) with
        | true => match killDs R.ds R.H with
          | some H1 => match resA P H1 R.tm fn.results.toList with
            | some vs => some (retV vs, gcS nx (retV vs) H1, R.nx, e)
            | none => none
          | none => none
        | false => none
      | none => none
    | none => none
  | none => none
theorem sCall_ok {hs : Hints} (hk : HintsOk P hs) {ch : List CHint} (hch : CHintsOk P ch) {E : Ev} (hE : E.Ok P) (hsp : NoSpecial P) {f : FuncId} {args : List Value} {nx : Nat} {v : Value} {H' : Hp} {nx' : Nat} {e : Eqs} (h : sCall P hs ch E f args H nx = some (v, H', nx', e)) (he : e.Hold) :
    (∃ fn, P.funcs[f]? = some fn ∧ fn.body.isSome = true) ∧ CallOk P f args H nx v H' nx' := by
  unfold sCall at h
  split at h
  case h_2 => cases h
  rename_i fn hfn
  split at h
  case h_2 => cases h
  rename_i c hc
  split at h
  case h_2 => cases h
  rename_i R e1 hR
  split at h
  case h_2 => cases h
  rename_i hen
  split at h
  case h_2 => cases h
  rename_i H1 hkd
  split at h
  case h_2 => cases h
  rename_i vs hv
  cases h
  refine ⟨⟨fn, hfn, by rw [hc]; rfl⟩, callOk_of hfn hc (sCode_ok hk hch hE hsp c hR he) ?_ hkd hv (gcS_sub nx _ _)⟩
  cases hE2 : R.e <;> simp [hE2] at hen ⊢

/-! ### What the kernel checks -/
def lefts (e : Eqs) : List Value × List Code × List Hp := (e.vs.map (·.1), e.cs.map (·.1), e.hs.map (·.1))
def rights (e : Eqs) : List Value × List Code × List Hp := (e.vs.map (·.2), e.cs.map (·.2), e.hs.map (·.2))
theorem hold_of {e : Eqs} (h : lefts e = rights e) : e.Hold := by
  simp only [lefts, rights, Prod.mk.injEq] at h
  exact ⟨eqsV_of h.1, eqsC_of h.2.1, eqsH_of h.2.2⟩
def rightsO {α : Type} : Option (α × Eqs) → List Value × List Code × List Hp
  | some (_, e) => rights e
  | none => ([], [], [])
def callOut (x : Option (Value × Hp × Nat × Eqs)) : Option ((Value × Hp × Nat) × Eqs) := x.map fun y => ((y.1, y.2.1, y.2.2.1), y.2.2.2)
def leftsO {α : Type} : Option (α × Eqs) → Option (α × (List Value × List Code × List Hp))
  | some (a, e) => some (a, lefts e)
  | none => none
theorem out_of {α : Type} {x : Option (α × Eqs)} {a : α} (h : leftsO x = some (a, rightsO x)) : ∃ e, x = some (a, e) ∧ e.Hold := by
  cases x with
  | none => cases h
  | some y =>
    obtain ⟨b, e⟩ := y
    simp only [leftsO, rightsO, Option.some.injEq, Prod.mk.injEq] at h
    exact ⟨e, by rw [h.1], hold_of h.2⟩
/-- A call, by hints. -/
theorem call_by {hs : Hints} {ch : List CHint} {E : Ev} {f : FuncId} {args : List Value} {nx : Nat} {v : Value} {H' : Hp} {nx' : Nat} (hE : E.Ok P) (hsp : NoSpecial P) (hk : HintsOk P hs) (hch : CHintsOk P ch)
    (h : leftsO (callOut (sCall P hs ch E f args H nx)) = some ((v, H', nx'), rightsO (callOut (sCall P hs ch E f args H nx)))) : (∃ fn, P.funcs[f]? = some fn ∧ fn.body.isSome = true) ∧ CallOk P f args H nx v H' nx' := by
  obtain ⟨e, h1, h2⟩ := out_of h
  simp only [callOut, Option.map_eq_some_iff, Prod.mk.injEq] at h1
  obtain ⟨⟨a, b, c, d⟩, h3, ⟨rfl, rfl, rfl⟩, rfl⟩ := h1
  exact sCall_ok hk hch hE hsp h3 h2

/-- Code, by hints; what is new is forgotten. -/
def dropH (lo : Nat) : Hp → Hp
  | [] => []
  | (b, k) :: r => match decide (b < lo) with
    | true => (b, k) :: dropH lo r
    | false => dropH lo r
theorem dropH_tidy {lo : Nat} : ∀ {H : Hp}, hpBelow lo (dropH lo H) = true → tidyH lo H = dropH lo H
  | [], _ => rfl
  | (b, k) :: r, h => by
    cases hb : decide (b < lo) with
    | true =>
      simp only [dropH, hb, hpBelow, Bool.true_and, Bool.and_eq_true] at h
      simp only [tidyH, dropH, hb, h.1, Bool.and_self, dropH_tidy h.2]
    | false =>
      simp only [dropH, hb] at h
      simp only [tidyH, dropH, hb, Bool.false_and, dropH_tidy h]
def codeOut (lo : Nat) (pat : List Value) (x : Option (Res × Eqs)) : Option (Res × Eqs) := match x with
  | some (R, e) => match nodupN R.H && dsBelow lo R.ds with
    | true => some (⟨R.e, tidyT lo pat R.tm, R.ds, dropH lo R.H, lo⟩, e)
    | false => none
  | none => none
theorem code_by {hs : Hints} {ch : List CHint} {E : Ev} {r : Option Nat} {c : Code} {tm : List Value} {ds : List Nat} {nx : Nat} {R : Res} (hE : E.Ok P) (hsp : NoSpecial P) (hk : HintsOk P hs) (hch : CHintsOk P ch) (pat : List Value)
    (hpre : (nodupN H && tmBelow nx tm && dsBelow nx ds && rBelow nx r) = true) (hH : hpBelow nx H = true) (hH' : hpBelow nx R.H = true)
    (h : leftsO (codeOut nx pat (sCode P hs ch E r c tm ds H nx)) = some (R, rightsO (codeOut nx pat (sCode P hs ch E r c tm ds H nx)))) : CodeOk P r c tm ds H nx R := by
  obtain ⟨e, h1, h2⟩ := out_of h
  unfold codeOut at h1
  split at h1
  case h_2 => cases h1
  rename_i R1 e1 h3
  split at h1
  case h_2 => cases h1
  rename_i hn
  cases h1
  simp only [Bool.and_eq_true] at hn hpre
  obtain ⟨⟨⟨p1, p3⟩, p4⟩, p5⟩ := hpre
  have := codeOk_tidy (sCode_ok hk hch hE hsp c h3 h2) pat hn.1 hn.2 p1 hH p3 p4 p5
  unfold tidyR at this
  rwa [dropH_tidy hH'] at this
/-- The same; the pattern is what is said to come out. -/
theorem code_at {hs : Hints} {ch : List CHint} {E : Ev} {r : Option Nat} {c : Code} {tm : List Value} {ds : List Nat} {nx : Nat} {R : Res} (hE : E.Ok P) (hsp : NoSpecial P) (hk : HintsOk P hs) (hch : CHintsOk P ch)
    (hpre : (nodupN H && tmBelow nx tm && dsBelow nx ds && rBelow nx r) = true) (hH : hpBelow nx H = true) (hH' : hpBelow nx R.H = true)
    (h : leftsO (codeOut nx R.tm (sCode P hs ch E r c tm ds H nx)) = some (R, rightsO (codeOut nx R.tm (sCode P hs ch E r c tm ds H nx)))) : CodeOk P r c tm ds H nx R :=
  code_by hE hsp hk hch R.tm hpre hH hH' h
end Go.En
/- The engine, part OE: a call that is known at some names is known at others. -/
namespace Go.En
set_option linter.unusedVariables false
variable {P : Program} {φ : Ren} {H : Hp} {K : Nat → Prop} {w : World}

def renV (ρ : Nat → Nat) : Nat → Value → Value
  | _, .pointer (some ⟨b, o, none⟩) => .pointer (some ⟨ρ b, o, none⟩)
  | _, .slice (some ⟨b, o, none⟩) n c => .slice (some ⟨ρ b, o, none⟩) n c
  | _, .map (some b) => .map (some (ρ b))
  | n + 1, .func (.func f) a b => .func (.func f) (a.toList.map (renV ρ n)).toArray (b.toList.map (renV ρ n)).toArray
  | n + 1, .func (.yield l) a b => .func (.yield (ρ l)) (a.toList.map (renV ρ n)).toArray (b.toList.map (renV ρ n)).toArray
  | n + 1, .iface t v => .iface t (renV ρ n v)
  | n + 1, .agg a => .agg (a.toList.map (renV ρ n)).toArray
  | n + 1, .tuple a => .tuple (a.toList.map (renV ρ n)).toArray
  | _, v => v

theorem renL_fwd {φ1 : Ren} {f : Value → Bool} {g : Value → Value} (hf : ∀ v v', f v = true → VRel φ v v' → VRel φ1 (g v) v') : ∀ {xs ys : List Value}, smallL f xs = true → LRel φ xs ys → LRel φ1 (xs.map g) ys
  | [], [], _, _ => trivial
  | x :: xs, y :: ys, h, hr => by
    simp only [smallL, Bool.and_eq_true] at h
    exact ⟨hf x y h.1 hr.1, renL_fwd hf h.2 hr.2⟩
  | [], _ :: _, _, h => h.elim
  | _ :: _, [], _, h => h.elim
theorem renL_bwd {φ1 : Ren} {f : Value → Bool} {g : Value → Value} (hf : ∀ v v', f v = true → VRel φ1 (g v) v' → VRel φ v v') : ∀ {xs ys : List Value}, smallL f xs = true → LRel φ1 (xs.map g) ys → LRel φ xs ys
  | [], [], _, _ => trivial
  | x :: xs, y :: ys, h, hr => by
    simp only [smallL, Bool.and_eq_true] at h
    exact ⟨hf x y h.1 hr.1, renL_bwd hf h.2 hr.2⟩
  | [], _ :: _, _, h => h.elim
  | _ :: _, [], _, h => h.elim

theorem ren_fwd {φ1 : Ren} {ρ : Nat → Nat} {lo : Nat} (hφ : ∀ b L, b < lo → φ b = some L → φ1 (ρ b) = some L) : ∀ (n : Nat) (v v' : Value), small lo n v = true → VRel φ v v' → VRel φ1 (renV ρ n v) v' := by
  have base : ∀ (n : Nat) (v v' : Value), (match v with | .func .. => False | .iface .. => False | .agg _ => False | .tuple _ => False | _ => True) → small lo n v = true → VRel φ v v' → VRel φ1 (renV ρ n v) v' := by
    intro n v v' hv hs hr
    cases hr with
    | bool b => simp only [renV]; exact .bool b
    | int k n => simp only [renV]; exact .int k n
    | float k n => simp only [renV]; exact .float k n
    | str s => simp only [renV]; exact .str s
    | ptrN => simp only [renV]; exact .ptrN
    | ptr b o L h => simp only [small, decide_eq_true_eq] at hs; simp only [renV]; exact .ptr _ o L (hφ b L hs h)
    | slN n c => simp only [renV]; exact .slN n c
    | sl b o n c L h hc => simp only [small, decide_eq_true_eq] at hs; simp only [renV]; exact .sl _ o n c L (hφ b L hs h) hc
    | slO b o n c c' L h hc hn hl => simp only [small, decide_eq_true_eq] at hs; simp only [renV]; exact .slO _ o n c c' L (hφ b L hs h) hc hn hl
    | slE b o c a' L h hc => simp only [small, decide_eq_true_eq] at hs; simp only [renV]; exact .slE _ o c a' L (hφ b L hs h) hc
    | mapN => simp only [renV]; exact .mapN
    | map r L h => simp only [small, decide_eq_true_eq] at hs; simp only [renV]; exact .map _ L (hφ r L hs h)
    | nilFunc => simp only [renV]; exact .nilFunc
    | nilIface => simp only [renV]; exact .nilIface
    | func => exact hv.elim
    | iface => exact hv.elim
    | agg => exact hv.elim
    | tuple => exact hv.elim
  intro n
  induction n with
  | zero =>
    intro v v' hs hr
    cases v with
    | func f a b => cases f <;> simp [small] at hs
    | iface t u => simp [small] at hs
    | agg a => simp [small] at hs
    | tuple a => simp [small] at hs
    | _ => exact base 0 _ v' trivial hs hr
  | succ n ih =>
    intro v v' hs hr
    cases v with
    | func f a b =>
      obtain ⟨fn', ys, us, rfl, hf, h1, h2⟩ := hr.func_inv
      cases hf with
      | func f =>
        simp only [small, Bool.and_eq_true] at hs
        simp only [renV]
        exact .func' (.func f) (by simpa using renL_fwd ih hs.1 h1) (by simpa using renL_fwd ih hs.2 h2)
      | yield l L hl =>
        simp only [small, Bool.and_eq_true, decide_eq_true_eq] at hs
        simp only [renV]
        exact .func' (.yield _ L (hφ l L hs.1.1 hl)) (by simpa using renL_fwd ih hs.1.2 h1) (by simpa using renL_fwd ih hs.2 h2)
      | _ => simp [small] at hs
    | iface t u =>
      cases hr with
      | iface t v v' h => simp only [renV]; exact .iface t _ _ (ih _ _ hs h)
    | agg a =>
      obtain ⟨ys, rfl, hl⟩ := hr.agg_inv
      simp only [renV]
      exact .agg' (by simpa using renL_fwd ih hs hl)
    | tuple a =>
      obtain ⟨ys, rfl, hl⟩ := hr.tuple_inv
      simp only [renV]
      exact .tuple' (by simpa using renL_fwd ih hs hl)
    | _ => exact base (n + 1) _ v' trivial hs hr

theorem ren_bwd {φ1 : Ren} {ρ : Nat → Nat} {lo : Nat} (hφ : ∀ b L, b < lo → φ1 (ρ b) = some L → φ b = some L) : ∀ (n : Nat) (v v' : Value), small lo n v = true → VRel φ1 (renV ρ n v) v' → VRel φ v v' := by
  have base : ∀ (n : Nat) (v v' : Value), (match v with | .func .. => False | .iface .. => False | .agg _ => False | .tuple _ => False | _ => True) → small lo n v = true → VRel φ1 (renV ρ n v) v' → VRel φ v v' := by
    intro n v v' hv hs hr
    cases v with
    | bool b => simp only [renV] at hr; cases hr; exact .bool b
    | int k m => simp only [renV] at hr; cases hr; exact .int k m
    | float k m => simp only [renV] at hr; cases hr; exact .float k m
    | string s => simp only [renV] at hr; cases hr; exact .str s
    | pointer a =>
      cases a with
      | none => simp only [renV] at hr; cases hr; exact .ptrN
      | some a =>
        simp only [small, decide_eq_true_eq] at hs
        obtain ⟨b, o, x⟩ := a
        cases x with
        | none => simp only [renV] at hr; cases hr with | ptr _ _ L h => exact .ptr b o L (hφ b L hs h)
        | some y => simp only [renV] at hr; cases hr
    | slice a m c =>
      cases a with
      | none => simp only [renV] at hr; cases hr; exact .slN m c
      | some a =>
        simp only [small, decide_eq_true_eq] at hs
        obtain ⟨b, o, x⟩ := a
        cases x with
        | none =>
          simp only [renV] at hr
          cases hr with
          | sl _ _ _ _ L h hc => exact .sl b o m c L (hφ b L hs h) hc
          | slO _ _ _ _ c' L h hc hn hl => exact .slO b o m c c' L (hφ b L hs h) hc hn hl
          | slE _ _ _ a' L h hc => exact .slE b o c a' L (hφ b L hs h) hc
        | some y => simp only [renV] at hr; cases hr
    | map r =>
      cases r with
      | none => simp only [renV] at hr; cases hr; exact .mapN
      | some r => simp only [small, decide_eq_true_eq] at hs; simp only [renV] at hr; cases hr with | map _ L h => exact .map r L (hφ r L hs h)
    | nilFunc => simp only [renV] at hr; cases hr; exact .nilFunc
    | nilIface => simp only [renV] at hr; cases hr; exact .nilIface
    | func => exact hv.elim
    | iface => exact hv.elim
    | agg => exact hv.elim
    | tuple => exact hv.elim
    | _ => simp [small] at hs
  intro n
  induction n with
  | zero =>
    intro v v' hs hr
    cases v with
    | func f a b => cases f <;> simp [small] at hs
    | iface t u => simp [small] at hs
    | agg a => simp [small] at hs
    | tuple a => simp [small] at hs
    | _ => exact base 0 _ v' trivial hs hr
  | succ n ih =>
    intro v v' hs hr
    cases v with
    | func f a b =>
      cases f with
      | func f =>
        simp only [small, Bool.and_eq_true] at hs
        simp only [renV] at hr
        obtain ⟨fn', ys, us, rfl, hf, h1, h2⟩ := hr.func_inv
        cases hf
        exact .func' (.func f) (renL_bwd ih hs.1 (by simpa using h1)) (renL_bwd ih hs.2 (by simpa using h2))
      | yield l =>
        simp only [small, Bool.and_eq_true, decide_eq_true_eq] at hs
        simp only [renV] at hr
        obtain ⟨fn', ys, us, rfl, hf, h1, h2⟩ := hr.func_inv
        cases hf with
        | yield _ L hl => exact .func' (.yield l L (hφ l L hs.1.1 hl)) (renL_bwd ih hs.1.2 (by simpa using h1)) (renL_bwd ih hs.2 (by simpa using h2))
      | _ => simp [small] at hs
    | iface t u =>
      simp only [renV] at hr
      cases hr with
      | iface t v v' h => exact .iface t _ _ (ih _ _ hs h)
    | agg a =>
      simp only [renV] at hr
      obtain ⟨ys, rfl, hl⟩ := hr.agg_inv
      exact .agg' (renL_bwd ih hs (by simpa using hl))
    | tuple a =>
      simp only [renV] at hr
      obtain ⟨ys, rfl, hl⟩ := hr.tuple_inv
      exact .tuple' (renL_bwd ih hs (by simpa using hl))
    | _ => exact base (n + 1) _ v' trivial hs hr

def renH (ρ : Nat → Nat) : List (Nat × List Value) → List (Nat × List Value)
  | [] => []
  | (b, cs) :: r => (ρ b, cs.map (renV ρ 5)) :: renH ρ r
def smallH (n : Nat) : List (Nat × List Value) → Bool
  | [] => true
  | (_, cs) :: r => smallL (small n 5) cs && smallH n r
/-- Where a name goes: the old ones by ρ, the new ones from nx on. -/
def shift (ρ : Nat → Nat) (n nx : Nat) (b : Nat) : Nat := if b < n then ρ b else nx + (b - n)

theorem roHp_get {b : Nat} {k : Blk} : ∀ {V : List (Nat × List Value)}, (roHp V).get b = some k → ∃ cs, k = .cells cs true
  | [], h => by simp [roHp, Hp.get] at h
  | (c, cs) :: r, h => by
    by_cases hc : c = b
    · subst hc; simp [roHp, Hp.get] at h; exact ⟨cs, h.symm⟩
    · simp [roHp, Hp.get, hc] at h; exact roHp_get h
theorem roHp_small {n b : Nat} {cs : List Value} : ∀ {V : List (Nat × List Value)}, below n V = true → smallH n V = true → (roHp V).get b = some (.cells cs true) → b < n ∧ smallL (small n 5) cs = true
  | [], _, _, h => by simp [roHp, Hp.get] at h
  | (c, ds) :: r, hb, hs, h => by
    simp only [below, Bool.and_eq_true, decide_eq_true_eq] at hb
    simp only [smallH, Bool.and_eq_true] at hs
    by_cases hc : c = b
    · subst hc; simp [roHp, Hp.get] at h; subst h; exact ⟨hb.1, hs.1⟩
    · simp [roHp, Hp.get, hc] at h; exact roHp_small hb.2 hs.2 h
theorem rwHp_ren {ρ : Nat → Nat} {n n' nx c : Nat} {k : Blk} : ∀ {N : List (Nat × List Value)}, inNew n n' N = true → smallH n' N = true → (rwHp (renH (shift ρ n nx) N)).get c = some k →
    ∃ b cs, (rwHp N).get b = some (.cells cs false) ∧ c = nx + (b - n) ∧ n ≤ b ∧ b < n' ∧ k = .cells (cs.map (renV (shift ρ n nx) 5)) false ∧ smallL (small n' 5) cs = true
  | [], _, _, h => by simp [renH, rwHp, Hp.get] at h
  | (d, ds) :: r, hb, hs, h => by
    simp only [inNew, Bool.and_eq_true, decide_eq_true_eq] at hb
    simp only [smallH, Bool.and_eq_true] at hs
    have hd : shift ρ n nx d = nx + (d - n) := by unfold shift; rw [if_neg (by omega)]
    by_cases hc : shift ρ n nx d = c
    · simp [renH, rwHp, Hp.get, hc] at h
      subst h
      exact ⟨d, ds, by simp [rwHp, Hp.get], by rw [← hc, hd], hb.1.1, hb.1.2, rfl, hs.1⟩
    · simp [renH, rwHp, Hp.get, hc] at h
      obtain ⟨b, cs, h1, h2, h3, h4, h5, h6⟩ := rwHp_ren hb.2 hs.2 h
      have hdb : d ≠ b := by rintro rfl; exact hc (by rw [hd, h2])
      exact ⟨b, cs, by simp [rwHp, Hp.get, hdb, h1], h2, h3, h4, h5, h6⟩

theorem call_ren {f : FuncId} {args : List Value} {V V' new : List (Nat × List Value)} {n n' : Nat} {v : Value} (h : CallOk P f args (roHp V) n v (rwHp new ++ roHp V) n') (ρ : Nat → Nat) (nx : Nat)
    (hargs : smallL (small n 5) args = true) (hVb : below n V = true) (hVs : smallH n V = true) (hv : small n' 5 v = true) (hnb : inNew n n' new = true) (hns : smallH n' new = true)
    (hV' : ∀ b cs, (roHp V).get b = some (.cells cs true) → ∃ ds, (roHp V').get (ρ b) = some (.cells ds true) ∧ ∀ (j : Nat) u, cs[j]? = some u → ds[j]? = some (renV (shift ρ n nx) 5 u)) :
    CallOk P f (args.map (renV (shift ρ n nx) 5)) (roHp V') nx (renV (shift ρ n nx) 5 v) (rwHp (renH (shift ρ n nx) new) ++ roHp V') (nx + (n' - n)) := by
  have hnn := h.1
  refine ⟨by omega, fun φ w K us g hf hl => ?_⟩
  let φ0 : Ren := fun b => if b < n then φ (ρ b) else none
  let K2 : Nat → Prop := fun c => K c ∨ ∃ b k L, (roHp V').get b = some k ∧ φ b = some L ∧ L.blk = c
  have hsh : ∀ b, b < n → shift ρ n nx b = ρ b := fun b hb => by simp [shift, hb]
  have hφ0 : ∀ b L, b < n → φ (shift ρ n nx b) = some L → φ0 b = some L := fun b L hb hL => by rw [hsh b hb] at hL; simp [φ0, hb, hL]
  have hro : ∀ (b : Nat) (k : Blk), (roHp V).get b = some k → k.rw = true → False := fun b k hb hk => by
    obtain ⟨cs, rfl⟩ := roHp_get hb
    simp [Blk.rw] at hk
  have g0 : Good φ0 (roHp V) K2 w := by
    refine ⟨fun b k hb => ?_, fun b c k k' L L' hb hc hne hkr => (hro b k hb hkr).elim, fun b k L hb hkr => (hro b k hb hkr).elim, fun c hc => ?_⟩
    · obtain ⟨cs, rfl⟩ := roHp_get hb
      obtain ⟨hbn, hsm⟩ := roHp_small hVb hVs hb
      obtain ⟨ds, hds, hdj⟩ := hV' b cs hb
      obtain ⟨L, hL, arr, el, fr, e1, e2, e3⟩ := g.rel _ _ hds
      refine ⟨L, by simp [φ0, hbn, hL], arr, el, fr, e1, fun j u hu => ?_, fun h => by cases h⟩
      obtain ⟨u', f1, f2⟩ := e2 j (renV (shift ρ n nx) 5 u) (hdj j u hu)
      exact ⟨u', f1, ren_bwd hφ0 5 u u' (smallL_get hsm hu) f2⟩
    · rcases hc with hK | ⟨b, k, L, hb, hL, he⟩
      · exact g.kin c hK
      · have := (g.at hb hL).lt; omega
  refine Calls.mono (h.2 φ0 w K2 us g0 (fun b h1 h2 => by simp [φ0]; omega) (renL_bwd (fun u u' hs hr => ren_bwd hφ0 5 u u' hs hr) hargs hl)) ?_
  rintro e w' ⟨v', φ', rfl, x1, x2, x3, x4⟩
  let φ1 : Ren := fun b => if nx ≤ b ∧ b < nx + (n' - n) then φ' (n + (b - nx)) else φ b
  have hold : ∀ b L, φ b = some L → φ1 b = some L := fun b L hL => by
    by_cases hb : nx ≤ b ∧ b < nx + (n' - n)
    · have := hf b hb.1 hb.2; rw [hL] at this; cases this
    · simp [φ1, hb, hL]
  have hnewn : ∀ b, n ≤ b → b < n' → φ1 (nx + (b - n)) = φ' b := fun b h1 h2 => by
    have h3 : nx ≤ nx + (b - n) ∧ nx + (b - n) < nx + (n' - n) := by omega
    simp only [φ1, h3, and_self, if_true]
    congr 1; omega
  have hup : ∀ b L, b < n' → φ' b = some L → φ1 (shift ρ n nx b) = some L := by
    intro b L hb hL
    by_cases hbn : b < n
    · rw [x2.2 b (.inl hbn)] at hL
      simp only [φ0, hbn, if_true] at hL
      rw [hsh b hbn]
      exact hold _ _ hL
    · have : shift ρ n nx b = nx + (b - n) := by simp [shift, hbn]
      rw [this, hnewn b (by omega) hb]; exact hL
  refine ⟨v', φ1, rfl, ren_fwd hup 5 v v' hv x1, ⟨hold, fun b hb => by
    have : ¬ (nx ≤ b ∧ b < nx + (n' - n)) := by omega
    simp [φ1, this]⟩, ?_, ⟨x4.os, x4.tape, x4.output, x4.size, fun c hc => x4.kept c (.inl hc)⟩⟩
  have hget : ∀ c k, Hp.get (rwHp (renH (shift ρ n nx) new) ++ roHp V') c = some k → (rwHp (renH (shift ρ n nx) new)).get c = some k ∨ (roHp V').get c = some k := by
    intro c k hc
    rw [Hp.get_append] at hc
    cases hR : (rwHp (renH (shift ρ n nx) new)).get c with
    | some k' => rw [hR] at hc; left; exact hc
    | none => rw [hR] at hc; exact .inr hc
  have hnw : ∀ c k L, (rwHp (renH (shift ρ n nx) new)).get c = some k → φ1 c = some L → ∃ b cs, Hp.get (rwHp new ++ roHp V) b = some (.cells cs false) ∧ φ' b = some L ∧ c = nx + (b - n) ∧ n ≤ b ∧ k = .cells (cs.map (renV (shift ρ n nx) 5)) false ∧ smallL (small n' 5) cs = true := by
    intro c k L hc hL
    obtain ⟨b, cs, h1, h2, h3, h4, h5, h6⟩ := rwHp_ren hnb hns hc
    refine ⟨b, cs, by rw [Hp.get_append, h1], ?_, h2, h3, h5, h6⟩
    rw [h2, hnewn b h3 h4] at hL
    exact hL
  have hV1 : ∀ c k L, (roHp V').get c = some k → φ1 c = some L → φ c = some L := by
    intro c k L hc hL
    obtain ⟨M, hM, _⟩ := g.rel c k hc
    rw [hold c M hM] at hL
    cases hL; exact hM
  refine ⟨fun c k hc => ?_, fun c d k k' L L' hc hd hne hkr hL hL' => ?_, fun c k L hc hkr hL hK => ?_, fun c hc => Nat.lt_of_lt_of_le (g.kin c hc) x4.size⟩
  · rcases hget c k hc with hc | hc
    · obtain ⟨b, cs, h1, h2, h3, h4, rfl, h6⟩ := rwHp_ren hnb hns hc
      have hb : Hp.get (rwHp new ++ roHp V) b = some (.cells cs false) := by rw [Hp.get_append, h1]
      obtain ⟨L, hL, arr, el, fr, e1, e2, e3⟩ := x3.rel b _ hb
      refine ⟨L, by rw [h2, hnewn b h3 h4]; exact hL, arr, el, fr, e1, fun j u hu => ?_, e3⟩
      simp only [List.getElem?_map, Option.map_eq_some_iff] at hu
      obtain ⟨u0, hu0, rfl⟩ := hu
      obtain ⟨u', f1, f2⟩ := e2 j u0 hu0
      exact ⟨u', f1, ren_fwd hup 5 u0 u' (smallL_get h6 hu0) f2⟩
    · obtain ⟨L, hL, hbr⟩ := g.rel c k hc
      exact ⟨L, hold _ _ hL, (hbr.congr (x4.kept L.blk (.inr ⟨c, k, L, hc, hL, rfl⟩))).mono hold⟩
  · rcases hget c k hc with hc | hc
    · obtain ⟨b, cs, h1, h2, h3, h4, rfl, h6⟩ := hnw c k L hc hL
      rcases hget d k' hd with hd | hd
      · obtain ⟨b2, cs2, j1, j2, j3, j4, rfl, j6⟩ := hnw d k' L' hd hL'
        refine x3.sep b b2 _ _ L L' h1 j1 (fun e => hne ?_) rfl h2 j2
        rw [h3, j3, e]
      · exact fun e => x3.prot b _ L h1 rfl h2 (.inr ⟨d, k', L', hd, hV1 d k' L' hd hL', e.symm⟩)
    · obtain ⟨cs, rfl⟩ := roHp_get hc
      simp [Blk.rw] at hkr
  · rcases hget c k hc with hc | hc
    · obtain ⟨b, cs, h1, h2, h3, h4, rfl, h6⟩ := hnw c k L hc hL
      exact x3.prot b _ L h1 rfl h2 (.inl hK)
    · obtain ⟨cs, rfl⟩ := roHp_get hc
      simp [Blk.rw] at hkr

/-- Cells without addresses stay as they are. -/
theorem renV_av1 {ρ : Nat → Nat} {n : Nat} {v : Value} (h : av1 v = true) : renV ρ n v = v := by
  cases v with
  | pointer a => cases a with
    | none => simp [renV]
    | some a => simp [av1] at h
  | slice a m c => cases a with
    | none => simp [renV]
    | some a => simp [av1] at h
  | map r => cases r with
    | none => simp [renV]
    | some r => simp [av1] at h
  | func f a b => simp [av1] at h
  | iface t u => simp [av1] at h
  | agg a => simp [av1] at h
  | tuple a => simp [av1] at h
  | _ => simp [renV]
theorem renV_avL {ρ : Nat → Nat} {n : Nat} : ∀ {cs : List Value}, avL cs = true → cs.map (renV ρ n) = cs
  | [], _ => rfl
  | v :: cs, h => by
    simp only [avL, Bool.and_eq_true] at h
    simp only [List.map_cons, renV_av1 h.1, renV_avL h.2]
theorem small_av1 {lo n : Nat} {v : Value} (h : av1 v = true) : small lo n v = true := by
  cases v with
  | pointer a => cases a with
    | none => simp [small]
    | some a => simp [av1] at h
  | slice a m c => cases a with
    | none => simp [small]
    | some a => simp [av1] at h
  | map r => cases r with
    | none => simp [small]
    | some r => simp [av1] at h
  | func f a b => simp [av1] at h
  | iface t u => simp [av1] at h
  | agg a => simp [av1] at h
  | tuple a => simp [av1] at h
  | complex => simp [av1] at h
  | _ => first | (simp [small]; done) | (simp [av1] at h; done)
theorem small_avL {lo n : Nat} : ∀ {cs : List Value}, avL cs = true → smallL (small lo n) cs = true
  | [], _ => rfl
  | v :: cs, h => by
    simp only [avL, Bool.and_eq_true] at h
    simp only [smallL, small_av1 h.1, small_avL h.2, Bool.and_self]
end Go.En
/- The engine, part OF: contracts. -/
namespace Go.En
set_option linter.unusedVariables false
variable {P : Program} {φ : Ren} {H : Hp} {K : Nat → Prop} {w : World}

theorem roHp_below {n : Nat} : ∀ {V : List (Nat × List Value)}, below n V = true → smallH n V = true → hpBelow n (roHp V) = true
  | [], _, _ => rfl
  | (b, cs) :: r, h1, h2 => by
    simp only [below, Bool.and_eq_true] at h1
    simp only [smallH, Bool.and_eq_true] at h2
    simp only [roHp, hpBelow, tidyB, h1.1, h2.1, roHp_below h1.2 h2.2, Bool.and_self]

/-- What a call has made and does not hand out takes no names. -/
theorem call_tidy {f : FuncId} {args : List Value} {n n' : Nat} {v : Value} {H' : Hp} (h : CallOk P f args H n v H' n') (hn : nodupN H' = true) (hH' : hpBelow n H' = true) (hv : small n 5 v = true)
    (hH0 : nodupN H = true) (hH : hpBelow n H = true) (hargs : smallL (small n 5) args = true) : CallOk P f args H n v H' n := by
  refine ⟨Nat.le_refl _, fun φ w K us g hf hl => ?_⟩
  let φ0 : Ren := fun b => if b < n then φ b else none
  have hφ : ∀ b, b < n → φ b = φ0 b := fun b hb => by simp [φ0, hb]
  have g0 : Good φ0 H K w := by have := good_tidy hφ hH0 g; rwa [tidyH_id hH] at this
  refine Calls.mono (h.2 φ0 w K us g0 (fun b h1 h2 => by simp [φ0]; omega) (smallL_rel (fun v v' => small_rel hφ 5 v v') hargs hl)) ?_
  rintro e w' ⟨v', φ', rfl, x1, x2, x3, x4⟩
  have hφ' : ∀ b, b < n → φ' b = φ b := fun b hb => by rw [x2.2 b (.inl hb), hφ b hb]
  have g1 := good_tidy hφ' hn x3
  rw [tidyH_id hH'] at g1
  exact ⟨v', φ, rfl, small_rel hφ' 5 v v' hv x1, Ext.refl _ _ _, g1, x4⟩

/-- A contract of a call that hands out nothing new. -/
theorem memo_pure {hs : Hints} {ch : List CHint} {E : Ev} {f : FuncId} {args : List Value} {V : List (Nat × List Value)} {n : Nat} {v : Value} (n' : Nat) (hE : E.Ok P) (hsp : NoSpecial P) (hk : HintsOk P hs) (hch : CHintsOk P ch)
    (hV : (nodupN (roHp V) && below n V && smallL (small n 5) args && small n 5 v) = true) (hVs : smallH n V = true)
    (h : leftsO (callOut (sCall P hs ch E f args (roHp V) n)) = some ((v, roHp V, n'), rightsO (callOut (sCall P hs ch E f args (roHp V) n)))) : Memo.Ok P ⟨f, n, args, V, v, [], n⟩ := by
  obtain ⟨h1, h2⟩ := call_by hE hsp hk hch h
  simp only [Bool.and_eq_true] at hV
  obtain ⟨⟨⟨q1, q2⟩, q3⟩, q4⟩ := hV
  have hb := roHp_below q2 hVs
  refine ⟨h1, ?_⟩
  have := call_tidy h2 q1 hb q4 q1 hb q3
  simpa [rwHp] using this
/-- A contract of a call that hands out new blocks. -/
theorem memo_new {hs : Hints} {ch : List CHint} {E : Ev} {f : FuncId} {args : List Value} {V new : List (Nat × List Value)} {n n' : Nat} {v : Value} (hE : E.Ok P) (hsp : NoSpecial P) (hk : HintsOk P hs) (hch : CHintsOk P ch)
    (h : leftsO (callOut (sCall P hs ch E f args (roHp V) n)) = some ((v, rwHp new ++ roHp V, n'), rightsO (callOut (sCall P hs ch E f args (roHp V) n)))) : Memo.Ok P ⟨f, n, args, V, v, new, n'⟩ :=
  call_by hE hsp hk hch h

/-- A contract at other names; the blocks may hold more. -/
theorem memo_renW {f : FuncId} {args : List Value} {V new : List (Nat × List Value)} {n n' : Nat} {v : Value} (h : Memo.Ok P ⟨f, n, args, V, v, new, n'⟩) (ρ : Nat → Nat) (nx : Nat) (V' : List (Nat × List Value))
    (hc : (smallL (small n 5) args && below n V && small n' 5 v && inNew n n' new) = true) (hVs : smallH n V = true) (hns : smallH n' new = true)
    (hV' : ∀ b cs, (roHp V).get b = some (.cells cs true) → ∃ ds, (roHp V').get (ρ b) = some (.cells ds true) ∧ ∀ (j : Nat) u, cs[j]? = some u → ds[j]? = some (renV (shift ρ n nx) 5 u)) :
    Memo.Ok P ⟨f, nx, args.map (renV (shift ρ n nx) 5), V', renV (shift ρ n nx) 5 v, renH (shift ρ n nx) new, nx + (n' - n)⟩ := by
  simp only [Bool.and_eq_true] at hc
  obtain ⟨⟨⟨q1, q2⟩, q3⟩, q4⟩ := hc
  exact ⟨h.1, call_ren h.2 ρ nx q1 q2 hVs q3 q4 hns hV'⟩
/-- A contract at other names. -/
theorem memo_ren {f : FuncId} {args : List Value} {V new : List (Nat × List Value)} {n n' : Nat} {v : Value} (h : Memo.Ok P ⟨f, n, args, V, v, new, n'⟩) (ρ : Nat → Nat) (nx : Nat) (V' : List (Nat × List Value))
    (hc : (smallL (small n 5) args && below n V && small n' 5 v && inNew n n' new) = true) (hVs : smallH n V = true) (hns : smallH n' new = true)
    (hV' : ∀ b cs, (roHp V).get b = some (.cells cs true) → (roHp V').get (ρ b) = some (.cells (cs.map (renV (shift ρ n nx) 5)) true)) :
    Memo.Ok P ⟨f, nx, args.map (renV (shift ρ n nx) 5), V', renV (shift ρ n nx) 5 v, renH (shift ρ n nx) new, nx + (n' - n)⟩ :=
  memo_renW h ρ nx V' hc hVs hns fun b cs hb => ⟨_, hV' b cs hb, fun j u hu => by simp [hu]⟩

/-- A contract without blocks, anywhere. -/
theorem memo_any {f : FuncId} {args : List Value} {v : Value} (h : Memo.Ok P ⟨f, 0, args, [], v, [], 0⟩) (nx : Nat) (ha : (smallL (small 0 5) args && small 0 5 v) = true)
    {args' : List Value} {v' : Value} (h1 : args.map (renV (shift (fun b => b) 0 nx) 5) = args') (h2 : renV (shift (fun b => b) 0 nx) 5 v = v') : Memo.Ok P ⟨f, nx, args', [], v', [], nx⟩ := by
  simp only [Bool.and_eq_true] at ha
  have := memo_ren h (fun b => b) nx [] (by simp [ha.1, ha.2, below, inNew]) rfl rfl (fun b cs hb => by simp [roHp, Hp.get] at hb)
  simpa [h1, h2, renH] using this
end Go.En
/- The engine, part OG: small things for contracts: loops by their first region, elements of slices. -/
namespace Go.En
set_option linter.unusedVariables false
variable {P : Program} {φ : Ren} {H : Hp} {K : Nat → Prop} {w : World}

/-- The body of the loop whose first region is id. -/
def findLoop (id : Nat) : Code → Option Code
  | .seq a b => match findLoop id a with
    | some c => some c
    | none => findLoop id b
  | .cond _ a b => match findLoop id a with
    | some c => some c
    | none => findLoop id b
  | .block _ c => findLoop id c
  | .loop c => match firstReg c with
    | some i => if i == id then some c else findLoop id c
    | none => findLoop id c
  | .scope c => findLoop id c
  | .rangeFunc _ _ a b => match findLoop id b with
    | some c => some c
    | none => findLoop id a
  | _ => none
def lp (P : Program) (f id : Nat) : Code :=
  match P.funcs[f]? with
  | some fn => match fn.body with
    | some c => match findLoop id c with
      | some c => c
      | none => .skip
    | none => .skip
  | none => .skip

theorem idx_nat {k : IntKind} {i n : Nat} (h : i < n) : idx (.int k i) n = some i := by
  unfold idx
  simp [h]
theorem ix_at {t e : TypeId} {inf : TypeInfo} {b off n c i : Nat} {k : IntKind} (hu : P.underlying t = some (.slice e)) (he : P.info? e = some inf) (h : i < n) :
    doIndexAddr P t (.slice (some ⟨b, off, none⟩) n c) (.int k i) = some (.pointer (some ⟨b, off + i * inf.size, none⟩)) := by
  simp only [doIndexAddr, hu, idx_nat h, he]

/-- A round that goes on, a round that ends. -/
theorem loop_step {r : Option Nat} {c : Code} {tm tm1 : List Value} {ds ds1 : List Nat} {H1 : Hp} {nx nx1 : Nat} {R : Res} (h1 : CodeOk P r c tm ds H nx ⟨.normal, tm1, ds1, H1, nx1⟩) (h2 : LoopOk P r c tm1 ds1 H1 nx1 R) : LoopOk P r c tm ds H nx R :=
  loopOk_more h1 rfl h2

/-- A contract that looks at one block, with that block and the names elsewhere. -/
theorem memo_blk {f : FuncId} {args args' cs : List Value} {v v' : Value} (h : Memo.Ok P ⟨f, 1, args, [(0, cs)], v, [], 1⟩) (hs : avL cs = true) (b nx : Nat) (hc : (smallL (small 1 5) args && small 1 5 v) = true)
    (h1 : args.map (renV (shift (fun _ => b) 1 nx) 5) = args') (h2 : renV (shift (fun _ => b) 1 nx) 5 v = v') : Memo.Ok P ⟨f, nx, args', [(b, cs)], v', [], nx⟩ := by
  simp only [Bool.and_eq_true] at hc
  have := memo_ren h (fun _ => b) nx [(b, cs)] (by simp [hc.1, hc.2, below, inNew]) (by simp [smallH, small_avL hs]) rfl (fun c ds hb => by
    by_cases h0 : 0 = c
    · subst h0
      simp [roHp, Hp.get] at hb ⊢
      subst hb
      exact (renV_avL hs).symm
    · simp [roHp, Hp.get, h0] at hb)
  simpa [h1, h2, renH] using this
end Go.En
/- The engine, part OH: equality of structs, field by field, where the fields are variables. -/
namespace Go.En
set_option linter.unusedVariables false
variable {P : Program} {φ : Ren} {H : Hp} {K : Nat → Prop} {w : World}

def eqF (P : Program) (eq : TypeId → Value → Value → Option Bool) (xs ys : Array Value) : List Field → Option Bool
  | [] => some true
  | f :: fs => if f.name = "_" then eqF P eq xs ys fs else
    match plain P (part f.type xs f.offset), plain P (part f.type ys f.offset) with
    | some x, some y => match eq f.type x y with
      | some b => match eqF P eq xs ys fs with
        | some c => some (b && c)
        | none => none
      | none => none
    | _, _ => none
def eqS (P : Program) : Nat → TypeId → Value → Value → Option Bool
  | 0, _, _, _ => none
  | d + 1, t, x, y => match P.underlying t with
    | some .bool => match x, y with
      | .bool a, .bool b => some (a == b)
      | _, _ => none
    | some (.int _) => match x, y with
      | .int k a, .int k' b => if k = k' then some (a == b) else none
      | _, _ => none
    | some (.struct fields) => match x, y with
      | .agg xs, .agg ys => if P.stoodInHeld t then none else eqF P (eqS P d) xs ys fields.toList
      | _, _ => none
    | _ => none

theorem plain_underlying {t : TypeId} {d : TypeDesc} (h : P.underlying t = some d) : plain P (underlying t) = some d := by
  show plain P (Sem.program fun p => _) = _
  simp only [plain]
  show plain P (Sem.bind (.pure P) _) = _
  simp only [Sem.bind, h]
  rfl
theorem eqF_ok {d : Nat} {xs ys : Array Value} (ih : ∀ (t : TypeId) (x y : Value) (b : Bool), eqS P d t x y = some b → plain P (Op.equalIn d t x y) = some b) : ∀ (fs : List Field) (b : Bool), eqF P (eqS P d) xs ys fs = some b →
    plain P (forIn fs ((none, ()) : Option Bool × Unit) fun f __s =>
            if f.name ≠ "_" then do
              let x ← part f.type xs f.offset
              let y ← part f.type ys f.offset
              let e ← Op.equalIn d f.type x y
              if (!e) = true then pure (ForInStep.done (some false, ())) else pure (ForInStep.yield (none, ()))
            else pure (ForInStep.yield (none, ()))) = some (if b then (none, ()) else (some false, ()))
  | [], b, h => by
    simp only [eqF, Option.some.injEq] at h
    subst h
    rfl
  | f :: fs, b, h => by
    rw [List.forIn_cons]
    show plain P (Sem.bind _ _) = _
    rw [plain_bind]
    simp only [eqF] at h
    split at h
    · rename_i hn
      rw [if_neg (by simp [hn])]
      show (Option.bind (plain P (Sem.pure _)) _) = _
      simp only [plain, Option.bind_some]
      exact eqF_ok ih fs b h
    · rename_i hn
      rw [if_pos hn]
      split at h
      case h_2 => cases h
      rename_i x y hx hy
      split at h
      case h_2 => cases h
      rename_i e he
      split at h
      case h_2 => cases h
      rename_i c hc
      cases h
      show (Option.bind (plain P (Sem.bind _ _)) _) = _
      rw [plain_bind, hx, Option.bind_some]
      show (Option.bind (plain P (Sem.bind _ _)) _) = _
      rw [plain_bind, hy, Option.bind_some]
      show (Option.bind (plain P (Sem.bind _ _)) _) = _
      rw [plain_bind, ih _ _ _ _ he, Option.bind_some]
      cases e with
      | false =>
        simp only [Bool.not_false, if_true, Bool.false_and]
        rfl
      | true =>
        simp only [Bool.not_true, Bool.false_eq_true, if_false, Bool.true_and]
        show (Option.bind (plain P (Sem.pure _)) _) = _
        simp only [plain, Option.bind_some]
        exact eqF_ok ih fs c hc

theorem eqS_ok : ∀ (d : Nat) (t : TypeId) (x y : Value) (b : Bool), eqS P d t x y = some b → plain P (Op.equalIn d t x y) = some b := by
  intro d
  induction d with
  | zero => intro t x y b h; cases h
  | succ d ih =>
    intro t x y b h
    simp only [eqS] at h
    unfold Op.equalIn
    split at h
    · rename_i hu
      split at h
      · cases h
        show plain P ((underlying t).bind _) = _
        rw [plain_bind, plain_underlying hu, Option.bind_some]
        rfl
      · cases h
    · rename_i hu
      split at h
      · split at h
        · rename_i hk
          cases h
          show plain P ((underlying t).bind _) = _
          rw [plain_bind, plain_underlying hu, Option.bind_some]
          simp only [hk, if_true]
          rfl
        · cases h
      · cases h
    · rename_i fields hu
      split at h
      · rename_i xs ys
        split at h
        · cases h
        · rename_i hst
          show plain P ((underlying t).bind _) = _
          rw [plain_bind, plain_underlying hu, Option.bind_some]
          dsimp only
          show plain P (Sem.bind program _) = _
          rw [plain_bind]
          show plain P (if P.stoodInHeld t = true then _ else _) = _
          rw [if_neg hst]
          show plain P (Sem.bind (forIn fields (none, ()) _) _) = _
          rw [plain_bind, ← Array.forIn_toList, eqF_ok ih fields.toList b h]
          cases b <;> rfl
      · cases h
    · cases h

theorem plain_guard {op : BinOp} {t : TypeId} {xo yo : Operand} {xs ys : Array Value} (hg : P.eqGuardType P.depth t = false) (ho : op = .eql ∨ op = .neq) : plain P (eqGuard op t xo yo (.agg xs) (.agg ys)) = some () := by
  rcases ho with rfl | rfl <;>
  · unfold eqGuard
    show plain P (Sem.bind program _) = _
    rw [plain_bind]
    show plain P (Sem.bind program _) = _
    rw [plain_bind]
    show plain P (if (!P.eqGuardType P.depth t) = true then _ else _) = _
    rw [hg]
    rfl
theorem bin_eql {t : TypeId} {xs ys : Array Value} {b : Bool} (hg : P.eqGuardType P.depth t = false) (ha : av (.agg xs) = true) (hb : av (.agg ys) = true) (h : eqS P 10000 t (.agg xs) (.agg ys) = some b) (xo yo : Operand) :
    doBin P .eql t xo yo (.agg xs) (.agg ys) = some (.bool b) ∧ doBin P .neq t xo yo (.agg xs) (.agg ys) = some (.bool (!b)) := by
  have he := eqS_ok 10000 t _ _ b h
  constructor
  · unfold doBin sc
    simp only [ha, hb, Bool.and_self, if_true]
    have : plain P (do eqGuard .eql t xo yo (.agg xs) (.agg ys); binOp .eql t (.agg xs) (.agg ys)) = some (.bool b) := by
      show plain P (Sem.bind _ _) = _
      rw [plain_bind, plain_guard hg (.inl rfl), Option.bind_some]
      show plain P (Sem.bind (Op.equalIn 10000 t _ _) _) = _
      rw [plain_bind, he]
      rfl
    rw [this]
    rfl
  · unfold doBin sc
    simp only [ha, hb, Bool.and_self, if_true]
    have : plain P (do eqGuard .neq t xo yo (.agg xs) (.agg ys); binOp .neq t (.agg xs) (.agg ys)) = some (.bool (!b)) := by
      show plain P (Sem.bind _ _) = _
      rw [plain_bind, plain_guard hg (.inr rfl), Option.bind_some]
      show plain P (Sem.bind (Op.equalIn 10000 t _ _) _) = _
      rw [plain_bind, he]
      rfl
    rw [this]
    rfl
end Go.En
/- The engine, part OI: loops over functions with hints: a round by hints, the statement's parts by their first region. -/
namespace Go.En
set_option linter.unusedVariables false
variable {P : Program} {φ : Ren} {H : Hp} {K : Nat → Prop} {w : World}

/-- The statement that ranges over a function, by its first region. -/
def findRf (id : Nat) : Code → Option Code
  | .seq a b => match findRf id a with
    | some c => some c
    | none => findRf id b
  | .cond _ a b => match findRf id a with
    | some c => some c
    | none => findRf id b
  | .block _ c => findRf id c
  | .loop c => findRf id c
  | .scope c => findRf id c
  | .rangeFunc g ps a b => match firstReg (.rangeFunc g ps a b) with
    | some i => if i == id then some (.rangeFunc g ps a b) else match findRf id b with
      | some c => some c
      | none => findRf id a
    | none => none
  | _ => none
def rf (P : Program) (f id : Nat) : Code :=
  match P.funcs[f]? with
  | some fn => match fn.body with
    | some c => match findRf id c with
      | some c => c
      | none => .skip
    | none => .skip
  | none => .skip
def rfA : Code → Code
  | .rangeFunc _ _ a _ => a
  | _ => .skip
def rfB : Code → Code
  | .rangeFunc _ _ _ b => b
  | _ => .skip
def rfG : Code → Operand
  | .rangeFunc g _ _ _ => g
  | _ => .tmp 0
def rfP : Code → Array Tmp
  | .rangeFunc _ ps _ _ => ps
  | _ => #[]
/-- An operation, by its region and its place. -/
def findOp (id k : Nat) : Code → Option Oper
  | .seq a b => match findOp id k a with
    | some c => some c
    | none => findOp id k b
  | .cond _ a b => match findOp id k a with
    | some c => some c
    | none => findOp id k b
  | .block _ c => findOp id k c
  | .loop c => findOp id k c
  | .scope c => findOp id k c
  | .rangeFunc _ _ a b => match findOp id k a with
    | some c => some c
    | none => findOp id k b
  | .region i ops _ => if i == id then ops.toList[k]? else none
  | _ => none
def opAt (P : Program) (f id k : Nat) : Oper :=
  match P.funcs[f]? with
  | some fn => match fn.body with
    | some c => match findOp id k c with
      | some o => o
      | none => ⟨none, .move (.tmp 0), 0, "", #[], none⟩
    | none => ⟨none, .move (.tmp 0), 0, "", #[], none⟩
  | none => ⟨none, .move (.tmp 0), 0, "", #[], none⟩

/-- A round, by hints. -/
def sYield (P : Program) (hs : Hints) (ch : List CHint) (E : Ev) (l : Nat) (vs : List Value) (H : Hp) (nx : Nat) : Option (Value × Hp × Nat × Eqs) :=
  match H.get l with
  | some (.loop L) =>
    match Nat.beq vs.length L.params.size with
    | true =>
      match sCode P hs ch E (some l) L.assign (setParams L.params.toList vs L.tmps.toList) [] H nx with
      | some (R1, e1) => match R1.e, R1.ds, R1.H.get l with
        | .normal, [], some (.loop L1) => match L1.state with
          | .ready => match sCode P hs ch E (some l) L.body R1.tm [] (R1.H.set l (.loop { L1 with state := .busy })) R1.nx with
            | some (R2, e2) => match R2.H.get l, roundEnd R2.e with
              | some (.loop L2), some (b, s, p) => some (.bool b, R2.H.set l (.loop { L2 with state := s, pending := p }), R2.nx, e1.and e2)
              | _, _ => none
            | none => none
          | _ => none
        | _, _, _ => none
      | none => none
    | false => none
  | _ => none

theorem sYield_ok {hs : Hints} (hk : HintsOk P hs) {ch : List CHint} (hch : CHintsOk P ch) {E : Ev} (hE : E.Ok P) (hsp : NoSpecial P) {r : Option Nat} {o : Oper} {tm : List Value} {nx : Nat} {cf : Operand} {args : Array Operand} {ats : Array TypeId} (ho : o.op = .call { callee := .value cf, args := args, argTypes := ats })
    {l : Nat} {vs : List Value} (hcf : opv tm cf = some (.func (.yield l) #[] #[])) (hvs : opvs tm args.toList = some vs) {v : Value} {H' : Hp} {nx' : Nat} {e : Eqs} (h : sYield P hs ch E l vs H nx = some (v, H', nx', e)) (he : e.Hold) : OpOk P r o tm H nx v H' nx' := by
  unfold sYield at h
  split at h
  case h_2 => cases h
  rename_i L hl
  split at h
  case h_2 => cases h
  rename_i hn
  split at h
  case h_2 => cases h
  rename_i R1 e1 hR1
  split at h
  case h_2 => cases h
  rename_i L1 he1 hd1 hl1
  split at h
  case h_2 => cases h
  rename_i hst
  split at h
  case h_2 => cases h
  rename_i R2 e2 hR2
  split at h
  case h_2 => cases h
  rename_i L2 b s p hl2 he2
  cases h
  obtain ⟨g1, g2⟩ := Eqs.hold_and.1 he
  exact opOk_yield ho hcf hvs hl (Nat.eq_of_beq_eq_true hn) (sCode_ok hk hch hE hsp _ hR1 g1) he1 hd1 hl1 hst (sCode_ok hk hch hE hsp _ hR2 g2) hl2 he2

theorem yield_by {hs : Hints} {ch : List CHint} {E : Ev} {o : Oper} {nx : Nat} {cf : Operand} {args : Array Operand} {ats : Array TypeId} {l : Nat} {vs : List Value} {v : Value} {H' : Hp} {nx' : Nat} (hE : E.Ok P) (hsp : NoSpecial P) (hk : HintsOk P hs) (hch : CHintsOk P ch)
    (ho : o.op = .call { callee := .value cf, args := args, argTypes := ats })
    (h : leftsO (callOut (sYield P hs ch E l vs H nx)) = some ((v, H', nx'), rightsO (callOut (sYield P hs ch E l vs H nx)))) :
    Hint.Ok P (.any o (.func (.yield l) #[] #[] :: vs) H nx v H' nx') := by
  intro r tm hop
  obtain ⟨e, h1, h2⟩ := out_of h
  simp only [callOut, Option.map_eq_some_iff, Prod.mk.injEq] at h1
  obtain ⟨⟨a, b, c, d⟩, h3, ⟨rfl, rfl, rfl⟩, rfl⟩ := h1
  have hops : o.op.operands.toList = cf :: args.toList := by rw [ho]; simp [Op.operands, Call.operands]
  rw [hops] at hop
  simp only [opvs] at hop
  split at hop
  · rename_i v0 vs0 hv0 hvs0
    cases hop
    exact sYield_ok hk hch hE hsp ho hv0 hvs0 h3 h2
  · cases hop

/-- The statement, from what the function called comes to. -/
theorem range_by {c : Code} {tm : List Value} {ds : List Nat} {nx : Nat} {f : FuncId} {fs cs : List Value} {v : Value} {H1 : Hp} {nx1 : Nat} {L : Loop} {R : Res} (hsp : NoSpecial P)
    (hc : c = .rangeFunc (rfG c) (rfP c) (rfA c) (rfB c)) (hgv : opv tm (rfG c) = some (.func (.func f) fs.toArray cs.toArray))
    (h : (∃ fn, P.funcs[f]? = some fn ∧ fn.body.isSome = true) ∧ CallOk P f (fs ++ [.func (.yield (nx + 1)) #[] #[]] ++ cs) ((nx + 1, .loop (newLoop tm (rfP c) (rfA c) (rfB c) nx)) :: (nx, .defd) :: H) (nx + 2) v H1 nx1)
    (hl : H1.get (nx + 1) = some (.loop L)) (ha : afterLoop L tm (nx :: ds) (H1.del (nx + 1)) nx1 = some R) : CodeOk P none c tm ds H nx R := by
  obtain ⟨⟨fn, hfn, hb⟩, h2⟩ := h
  rw [hc]
  exact codeOk_rangeFunc hsp hfn hb hgv (by simpa using h2) hl ha
end Go.En
/- The engine, part OJ: a row's arguments, opened: cells of flat types, slices of them, and the call of a law's function. -/
namespace Go.En
set_option linter.unusedVariables false
variable {P : Program} {φ : Ren} {H : Hp} {K : Nat → Prop} {w : World}
open Go.RowKit Go.ChangeShapes Go.WideShapes

/-! ### Flat types: their cells are numbers and truth values -/
inductive Leaf where
  | b
  | i (k : IntKind)
def Leaf.is : Leaf → Value → Prop
  | .b, v => ∃ x, v = .bool x
  | .i k, v => ∃ n, v = .int k n ∧ (Lit.int k n).wf = true
def LeafL : List Leaf → List Value → Prop
  | [], [] => True
  | l :: ls, v :: vs => l.is v ∧ LeafL ls vs
  | _, _ => False
theorem LeafL.uncons {l : Leaf} {ls : List Leaf} {row : List Value} (h : LeafL (l :: ls) row) : ∃ v vs, row = v :: vs ∧ l.is v ∧ LeafL ls vs := by
  cases row with
  | nil => exact h.elim
  | cons v vs => exact ⟨v, vs, rfl, h.1, h.2⟩
theorem LeafL.done {row : List Value} (h : LeafL [] row) : row = [] := by
  cases row with
  | nil => rfl
  | cons v vs => exact h.elim
theorem LeafL.int {k : IntKind} {ls : List Leaf} {row : List Value} (h : LeafL (.i k :: ls) row) : ∃ n vs, row = .int k n :: vs ∧ (Lit.int k n).wf = true ∧ LeafL ls vs := by
  obtain ⟨v, vs, rfl, ⟨n, rfl, hw⟩, h2⟩ := h.uncons
  exact ⟨n, vs, rfl, hw, h2⟩
theorem LeafL.bool {ls : List Leaf} {row : List Value} (h : LeafL (.b :: ls) row) : ∃ n vs, row = .bool n :: vs ∧ LeafL ls vs := by
  obtain ⟨v, vs, rfl, ⟨n, rfl⟩, h2⟩ := h.uncons
  exact ⟨n, vs, rfl, h2⟩
theorem LeafL.append : ∀ {a b : List Leaf} {x y : List Value}, LeafL a x → LeafL b y → LeafL (a ++ b) (x ++ y)
  | [], _, [], _, _, h => h
  | l :: a, b, v :: x, y, h, k => ⟨h.1, LeafL.append h.2 k⟩
  | [], _, _ :: _, _, h, _ => h.elim
  | _ :: _, _, [], _, h, _ => h.elim
def flatFs (fl : TypeId → Option (List Leaf)) (sz : TypeId → Nat) : List Field → Nat → Option (List Leaf)
  | [], _ => some []
  | f :: fs, off => if f.offset = off then match fl f.type, flatFs fl sz fs (off + sz f.type) with
    | some a, some b => if a.length = sz f.type then some (a ++ b) else none
    | _, _ => none
    else none
def flat (P : Program) : Nat → TypeId → Option (List Leaf)
  | 0, _ => none
  | n + 1, t => match P.underlying t with
    | some .bool => some [.b]
    | some (.int k) => some [.i k]
    | some (.struct fs) => match flatFs (flat P n) P.cellsOf fs.toList 0 with
      | some ls => if ls.length = P.cellsOf t then some ls else none
      | none => none
    | _ => none
section
variable {T : Type} {enc : TypeId × Value → T} {base : Nat} {spare : Nat → Bool} {held : Bool}
theorem mapM_all {α β : Type} {g : α → Option β} : ∀ {l : List α} {xs : List β}, l.mapM g = some xs → ∀ a ∈ l, ∃ y, g a = some y
  | [], _, _, a, h => by cases h
  | x :: l, xs, h, a, ha => by
    simp only [List.mapM_cons, Option.bind_eq_bind, Option.bind_eq_some_iff] at h
    obtain ⟨y, hy, ys, hys, _⟩ := h
    rcases List.mem_cons.1 ha with rfl | ha
    · exact ⟨y, hy⟩
    · exact mapM_all hys a ha
theorem flatFs_of {fl : TypeId → Option (List Leaf)} {sz : TypeId → Nat} {cs : List Value} : ∀ {fs : List Field} {off : Nat} {ls : List Leaf}, flatFs fl sz fs off = some ls →
    (∀ f ∈ fs, ∀ a, fl f.type = some a → LeafL a ((cs.drop f.offset).take (sz f.type))) → off + ls.length = cs.length → LeafL ls (cs.drop off)
  | [], off, ls, h, _, hl => by
    simp only [flatFs, Option.some.injEq] at h
    subst h
    have : cs.drop off = [] := by simp at hl ⊢; omega
    rw [this]; trivial
  | f :: fs, off, ls, h, hf, hl => by
    simp only [flatFs] at h
    split at h
    case isFalse => cases h
    rename_i ho
    split at h
    case h_2 => cases h
    rename_i a b ha hb
    split at h
    case isFalse => cases h
    rename_i hz
    cases h
    have h1 := hf f (by simp) a ha
    have h2 := flatFs_of (cs := cs) hb (fun g hg => hf g (by simp [hg])) (by simp at hl; omega)
    rw [ho] at h1
    have e : cs.drop off = (cs.drop off).take (sz f.type) ++ cs.drop (off + sz f.type) := by
      rw [← List.drop_drop]; exact (List.take_append_drop _ _).symm
    rw [e]
    exact h1.append h2
theorem flat_of : ∀ (n : Nat) {t : TypeId} {ls : List Leaf} {fuel : Nat} {cs : List Value} {x : DataW T × List MemPlace}, flat P n t = some ls → DataW.trod enc P w base spare held fuel t cs = some x → LeafL ls cs
  | 0, _, _, _, _, _, h, _ => by cases h
  | n + 1, t, ls, 0, cs, x, _, h => by cases h
  | n + 1, t, ls, fuel + 1, cs, x, h, hx => by
    simp only [flat] at h
    split at h
    · rename_i hu
      cases h
      simp only [DataW.trod, hu] at hx
      split at hx <;> first | (rename_i e1 e2; cases e1; done) | skip
      all_goals first | exact ⟨⟨_, rfl⟩, trivial⟩ | (simp_all; done) | cases hx
    · rename_i k hu
      cases h
      obtain ⟨m, h1, h2, h3⟩ := DataW.trod_int hu hx
      subst h1
      exact ⟨⟨m, rfl, h3⟩, trivial⟩
    · rename_i fs hu
      split at h
      case h_2 => cases h
      rename_i ls' hls
      split at h
      case isFalse => cases h
      rename_i hlen
      cases h
      simp only [DataW.trod, hu] at hx
      have hx : cs.length = P.cellsOf t ∧ ∃ xs, (fs.toList.mapM fun f => DataW.trod enc P w base spare held fuel f.type ((cs.drop f.offset).take (P.cellsOf f.type))) = some xs := by
        split at hx
        · rename_i hl
          simp only [Option.map_eq_some_iff] at hx
          obtain ⟨xs, hxs, _⟩ := hx
          exact ⟨hl, xs, hxs⟩
        · cases hx
      obtain ⟨hl, xs, hxs⟩ := hx
      have := flatFs_of (cs := cs) hls (fun f hf a ha => by
        obtain ⟨y, hy⟩ := mapM_all hxs f hf
        exact flat_of n ha hy) (by omega)
      simpa using this
    · cases h

theorem list_of {α : Type} {Φ : Nat → α → Prop} : ∀ (n : Nat), (∀ i, i < n → ∃ q, Φ i q) → ∃ l : List α, l.length = n ∧ ∀ i q, l[i]? = some q → Φ i q
  | 0, _ => ⟨[], rfl, fun i q h => by simp at h⟩
  | n + 1, h => by
    obtain ⟨l, hl, hq⟩ := list_of n fun i hi => h i (by omega)
    obtain ⟨q, hn⟩ := h n (by omega)
    refine ⟨l ++ [q], by simp [hl], fun i q' hi => ?_⟩
    by_cases hlt : i < l.length
    · rw [List.getElem?_append_left hlt] at hi; exact hq i q' hi
    · rw [List.getElem?_append_right (by omega)] at hi
      have : i - l.length = 0 := by
        have := (List.getElem?_eq_some_iff.1 hi).1
        simp at this; omega
      rw [this] at hi
      simp at hi
      subst hi
      have : i = n := by omega
      rw [this]; exact hn
/-- A slice of flat elements. -/
theorem open_sl {r : Reach} {b0 : Nat} {t e : TypeId} {v : Value} {x : DataW T × List MemPlace} {fuel n : Nat} {ls : List Leaf} (ht : P.underlying t = some (.slice e)) (hv : Cell.okWide P w r b0 t v)
    (hd : DataW.trod enc P w base spare held fuel t [v] = some x) (hfl : flat P n e = some ls) :
    v = .slice none 0 0 ∨ ∃ b o len cap arr el fr, v = .slice (some ⟨b, o, none⟩) len cap ∧ len ≤ cap ∧ cap ≤ maxLen ∧ w.heap[b]? = some (.cells arr el fr) ∧
      ∀ i, i < len → ∃ row, LeafL ls row ∧ ∀ (j : Nat) u, row[j]? = some u → arr[o + i * P.cellsOf e + j]? = some u := by
  rcases DataW.trod_slice ht hd with ⟨h0, _⟩ | ⟨a, len, cap, elems, rest, m, _, h0, _, hb, hl, hm, hlen, hel, hsp, hns⟩
  · left; simpa using h0
  · right
    have h0 : v = .slice (some a) len cap := by simpa using h0
    subst h0
    simp only [Cell.okWide, ht, Cell.ok] at hv
    obtain ⟨_, _, _, hspot, row, cells, hshape, _⟩ := hv
    obtain ⟨b, o, sp⟩ := a
    dsimp only at hspot
    subst hspot
    unfold World.shape? at hshape
    split at hshape
    case h_2 => cases hshape
    rename_i arr el fr hheap
    refine ⟨b, o, len, cap, arr, el, fr, rfl, hl, hm, hheap, fun i hi => ?_⟩
    have h1 := hel i hi
    have h2 : ∃ y, elems[i]? = some y := ⟨elems[i], List.getElem?_eq_getElem (by omega)⟩
    obtain ⟨y, hy⟩ := h2
    rw [hy, Option.bind_eq_some_iff] at h1
    obtain ⟨cs, hcs, htr⟩ := h1
    refine ⟨cs, flat_of n hfl htr, fun j u hu => ?_⟩
    obtain ⟨_, h3, h4⟩ := World.cells?_some hcs
    have hj : j < P.cellsOf e := by
      have := (List.getElem?_eq_some_iff.1 hu).1
      omega
    have h5 := h4 j hj
    rw [hu, Addr.add_none, Addr.add_none] at h5
    simpa [World.cell?, hheap] using h5
end

/-! ### The call of a law's function -/
theorem calls_open {f : FuncId} {n : Nat} {args : List Value} {V : List (Nat × List Value)} (hm : Memo.Ok P ⟨f, n, args, V, .bool true, [], n⟩) {us : List Value} (g : Good φ (roHp V) (fun c => c < w.heap.size) w) (hl : LRel φ args us) :
    Calls P f us.toArray w fun e w' => e = .returned (.bool true) ∧ Below w.heap.size w w' := by
  refine Calls.mono (hm.2.2 φ w (fun c => c < w.heap.size) us g (fun b h1 h2 => by dsimp only at h1 h2; omega) hl) ?_
  rintro e w' ⟨v', φ', rfl, x1, x2, x3, x4⟩
  cases x1
  exact ⟨rfl, below_of_went x4⟩
theorem good_ro {V : List (Nat × List Value)} (h : ∀ b cs, (roHp V).get b = some (.cells cs true) → ∃ L, φ b = some L ∧ BRel φ w L (.cells cs true)) : Good φ (roHp V) (fun c => c < w.heap.size) w := by
  have hro : ∀ (b : Nat) (k : Blk), (roHp V).get b = some k → k.rw = true → False := fun b k hb hk => by
    obtain ⟨cs, rfl⟩ := roHp_get hb
    simp [Blk.rw] at hk
  refine ⟨fun b k hb => ?_, fun b c k k' L L' hb hc hne hkr => (hro b k hb hkr).elim, fun b k L hb hkr => (hro b k hb hkr).elim, fun c hc => hc⟩
  obtain ⟨cs, rfl⟩ := roHp_get hb
  exact h b cs hb
/-- One block, of numbers and truth values. -/
def ren1 (b o : Nat) : Ren := fun c => if c = 0 then some ⟨b, o, 0⟩ else none
theorem good_one {b o : Nat} {cs : List Value} {arr : Array Value} {el : TypeId} {fr : Nat × Nat} (hb : w.heap[b]? = some (.cells arr el fr)) (hs : avL cs = true) (hc : ∀ (j : Nat) u, cs[j]? = some u → arr[o + j]? = some u) :
    Good (ren1 b o) (roHp [(0, cs)]) (fun c => c < w.heap.size) w := by
  refine good_ro fun c ds hcd => ?_
  by_cases h0 : 0 = c
  · subst h0
    simp [roHp, Hp.get] at hcd
    subst hcd
    refine ⟨⟨b, o, 0⟩, rfl, arr, el, fr, hb, fun j v hv => ⟨v, hc j v hv, ?_⟩, fun h => by cases h⟩
    obtain ⟨v', h1, h2⟩ := (avL_rel (φ := ren1 b o) hs).get hv
    rw [hv] at h1; cases h1; exact h2
  · simp [roHp, Hp.get, h0] at hcd
end Go.En
/- The engine, part OK: slices that may be nil, over blocks of cells; loads, stores, made slices at places that are not literal. -/
namespace Go.En
set_option linter.unusedVariables false
variable {P : Program} {φ : Ren} {H : Hp} {K : Nat → Prop} {w : World}

/-- A slice over block b from its first cell on, or nil. -/
def Sl (b n : Nat) (sa : Option Addr) : Prop := (sa = none ∧ n = 0) ∨ sa = some ⟨b, 0, none⟩
theorem Sl.ix {t e : TypeId} {inf : TypeInfo} {b n c i : Nat} {k : IntKind} {sa : Option Addr} (h : Sl b n sa) (hu : P.underlying t = some (.slice e)) (he : P.info? e = some inf) (hi : i < n) :
    doIndexAddr P t (.slice sa n c) (.int k i) = some (.pointer (some ⟨b, 0 + i * inf.size, none⟩)) := by
  rcases h with ⟨_, h0⟩ | rfl
  · omega
  · exact ix_at hu he hi
/-- The size of a type's values in cells. -/
def szIs (P : Program) (t : TypeId) (n : Nat) (agg : Bool) : Bool := match P.underlying t, P.info? t with
  | some d, some i => i.size == n && (aggD d == agg)
  | _, _ => false
theorem szIs_some {t : TypeId} {n : Nat} {agg : Bool} (h : szIs P t n agg = true) : ∃ d i, P.underlying t = some d ∧ P.info? t = some i ∧ i.size = n ∧ aggD d = agg := by
  unfold szIs at h
  split at h
  · rename_i d i h1 h2
    simp only [Bool.and_eq_true, beq_iff_eq] at h
    exact ⟨d, i, h1, h2, h.1, h.2⟩
  · cases h
theorem Sl.ix' {t e : TypeId} {b n c i s : Nat} {agg : Bool} {k : IntKind} {sa : Option Addr} (h : Sl b n sa) (hu : P.underlying t = some (.slice e)) (he : szIs P e s agg = true) (hi : i < n) :
    doIndexAddr P t (.slice sa n c) (.int k i) = some (.pointer (some ⟨b, 0 + i * s, none⟩)) := by
  obtain ⟨d, inf, h1, h2, h3, h4⟩ := szIs_some he
  rw [← h3]
  exact h.ix hu h2 hi
theorem ld1 {t : TypeId} {b o : Nat} {cs : List Value} {ro : Bool} {v : Value} (hs : szIs P t 1 false = true) (hv : cs[o]? = some v) : doLoad P [(b, .cells cs ro)] t (.pointer (some ⟨b, o, none⟩)) = some v := by
  obtain ⟨d, i, h1, h2, h3, h4⟩ := szIs_some hs
  simp only [doLoad, Hp.get, beq_self_eq_true, if_true, h1, h2, h4, hv]
  simp
theorem take_eq {cs ds : List Value} {o n : Nat} (hn : ds.length = n) (hp : ∀ (j : Nat) v, ds[j]? = some v → cs[o + j]? = some v) : (cs.drop o).take n = ds := by
  apply List.ext_getElem?
  intro j
  rw [List.getElem?_take]
  by_cases hj : j < n
  · rw [if_pos hj, List.getElem?_drop]
    have hd : ds[j]? = some ds[j] := List.getElem?_eq_getElem (by omega)
    rw [hd, hp j _ hd]
  · rw [if_neg hj, List.getElem?_eq_none (by omega)]
theorem ldN {t : TypeId} {b o n : Nat} {cs ds : List Value} {ro : Bool} (hs : szIs P t (n + 1) true = true) (hn : ds.length = n + 1) (hp : ∀ (j : Nat) v, ds[j]? = some v → cs[o + j]? = some v) : doLoad P [(b, .cells cs ro)] t (.pointer (some ⟨b, o, none⟩)) = some (.agg ds.toArray) := by
  obtain ⟨d, i, h1, h2, h3, h4⟩ := szIs_some hs
  have hd : ds[n]? = some ds[n] := List.getElem?_eq_getElem (by omega)
  have hlen : o + (n + 1) ≤ cs.length := by
    have := hp n _ hd
    have := (List.getElem?_eq_some_iff.1 this).1
    omega
  simp only [doLoad, Hp.get, beq_self_eq_true, if_true, h1, h2, h4, h3, hlen, take_eq hn hp]
theorem spl_set {cs : List Value} {o : Nat} {x : Value} (h : o < cs.length) : spl cs o [x] = cs.set o x := by
  apply List.ext_getElem?
  intro j
  rw [spl_get cs o [x] (by simp; omega), List.getElem?_set]
  simp only [List.length_singleton]
  by_cases h1 : j < o
  · simp [h1, show o ≠ j by omega]
  · by_cases h2 : j < o + 1
    · have : j = o := by omega
      subst this; simp [h]
    · simp [h1, h2, show o ≠ j by omega]
/-- One cell is stored. -/
theorem st1 {t : TypeId} {b o : Nat} {cs : List Value} {x : Value} (hs : szIs P t 1 false = true) (ho : o < cs.length) (hx : (flatV x && oneL x.cells.toList) = true) (hc : x.cells.toList = [x]) :
    doStore P [(b, .cells cs false)] t (.pointer (some ⟨b, o, none⟩)) x = some [(b, .cells (cs.set o x) false)] := by
  obtain ⟨d, i, h1, h2, h3, h4⟩ := szIs_some hs
  simp only [Bool.and_eq_true] at hx
  rw [hc] at hx
  have hle : o + 1 ≤ cs.length := ho
  simp only [doStore, Hp.get, beq_self_eq_true, if_true, h2, hx.1, hx.2, h3, hc, List.length_singleton, Bool.and_self, hle, decide_true, List.isEmpty_cons, Bool.false_eq_true, if_false, Hp.set, spl_set ho]
/-- A slice made of n zeroes. -/
theorem mk_n {t e : TypeId} {n : Nat} {z : Value} {by_ : Nat} (hu : P.underlying t = some (.slice e)) (hi : (match P.info? e with | some i => i.size == 1 && i.bytes == by_ && (match i.zero with | some y => y.cells.size == 1 | none => false) | none => false) = true)
    (hz : (match P.info? e with | some i => (match i.zero with | some y => y.cells[0]? | none => none) | none => none) = some z) (hav : av1 z = true) (hby : by_ ≤ 8) (hn : n ≤ 1000) :
    Hint.Ok P (.mk t (.int .i64 n) (.int .i64 n) n (List.replicate n z)) := by
  intro H nx
  split at hi
  case h_2 => cases hi
  rename_i i he
  rw [he] at hz
  dsimp only at hz
  simp only [Bool.and_eq_true, beq_iff_eq] at hi
  obtain ⟨⟨h1, h2⟩, h3⟩ := hi
  cases hzz : i.zero with
  | none => rw [hzz] at h3; cases h3
  | some y =>
    rw [hzz] at h3 hz
    have h3 : y.cells.size = 1 := by simpa using h3
    have hz : y.cells[0]? = some z := hz
    have hget : ∀ k, y.cells[k % y.cells.size]! = z := by
      intro k
      rw [h3, Nat.mod_one]
      rw [getElem!_pos y.cells 0 (by omega)]
      have := (Array.getElem?_eq_some_iff.1 hz).2
      exact this
    have hl : ((Array.range ((n : Int).toNat * i.size)).map (y.cells[· % y.cells.size]!)).toList = List.replicate n z := by
      simp only [hget]
      rw [h1]
      simp [List.eq_replicate_iff]
    have hw : IntKind.i64.wrap (n : Int) = n := by
      simp only [IntKind.wrap, IntKind.signed, IntKind.bits]
      simp
      omega
    have ha : avL (List.replicate n z) = true := by
      clear hl hw hn
      induction n with
      | zero => rfl
      | succ n ih => simp only [List.replicate_succ, avL, hav, ih, Bool.and_self]
    have hb : (i.bytes : Int) * (n : Int) ≤ 2 ^ 48 := by
      rw [h2]
      have h1 : ((by_ : Int)) ≤ 8 := by omega
      have h2 : ((n : Int)) ≤ 1000 := by omega
      have : (by_ : Int) * n ≤ 8 * 1000 := Int.mul_le_mul h1 h2 (by omega) (by omega)
      have h4 : (2 : Int) ^ 48 = 281474976710656 := by decide
      omega
    have ho : (n : Int).toNat < openCap := by simp [openCap]; omega
    simp only [doMakeSlice, hu, he, hzz]
    rw [if_pos ⟨hw, hw, by omega, by omega, hb, ho, by omega, by rw [hl]; exact ha⟩, hl]
    simp
end Go.En
/- The engine, part OL: a row's slices of flat elements, nil or not, as blocks; ints; several blocks. -/
namespace Go.En
set_option linter.unusedVariables false
variable {P : Program} {φ : Ren} {H : Hp} {K : Nat → Prop} {w : World}
open Go.RowKit Go.ChangeShapes Go.WideShapes

/-- A block of cells stands somewhere. -/
def CellsAt (w : World) (b : Nat) : Prop := ∃ arr el fr, w.heap[b]? = some (.cells arr el fr)
/-- The slice v' of the world is the abstract slice over block b. -/
structure SlAt (w : World) (b n c : Nat) (sa : Option Addr) (cs : List Value) (v' : Value) (L : Loc) : Prop where
  blk : ∃ arr el fr, w.heap[L.blk]? = some (.cells arr el fr) ∧ ∀ (j : Nat) u, cs[j]? = some u → arr[L.off + j]? = some u
  val : (sa = none ∧ v' = .slice none 0 0 ∧ n = 0 ∧ c = 0) ∨ (sa = some ⟨b, 0, none⟩ ∧ v' = .slice (some ⟨L.blk, L.off, none⟩) n c)
  le : n ≤ c
  lt : c < openCap
theorem SlAt.sl {b n c : Nat} {sa : Option Addr} {cs : List Value} {v' : Value} {L : Loc} (h : SlAt w b n c sa cs v' L) : Sl b n sa := by
  rcases h.val with ⟨h1, _, h2, _⟩ | ⟨h1, _⟩
  · exact .inl ⟨h1, h2⟩
  · exact .inr h1
theorem SlAt.rel {b n c : Nat} {sa : Option Addr} {cs : List Value} {v' : Value} {L : Loc} (h : SlAt w b n c sa cs v' L) (hφ : φ b = some L) : VRel φ (.slice sa n c) v' := by
  rcases h.val with ⟨rfl, rfl, rfl, rfl⟩ | ⟨rfl, rfl⟩
  · exact .slN 0 0
  · have := VRel.sl (φ := φ) b 0 n c L hφ h.lt
    simpa using this
theorem SlAt.brel {b n c : Nat} {sa : Option Addr} {cs : List Value} {v' : Value} {L : Loc} (h : SlAt w b n c sa cs v' L) (ha : avL cs = true) : BRel φ w L (.cells cs true) := by
  obtain ⟨arr, el, fr, h1, h2⟩ := h.blk
  refine ⟨arr, el, fr, h1, fun j v hv => ⟨v, h2 j v hv, ?_⟩, fun h => by cases h⟩
  obtain ⟨v', e1, e2⟩ := (avL_rel (φ := φ) ha).get hv
  rw [hv] at e1; cases e1; exact e2
def cellsOfL {α : Type} (f : α → List Value) : List α → List Value
  | [] => []
  | a :: r => f a ++ cellsOfL f r
theorem cellsOfL_inv {α : Type} {f : α → List Value} {s : Nat} (hf : ∀ a, (f a).length = s) : ∀ {l : List α} {j : Nat} {v : Value}, (cellsOfL f l)[j]? = some v → ∃ i a r, l[i]? = some a ∧ (f a)[r]? = some v ∧ j = i * s + r
  | [], j, v, h => by simp [cellsOfL] at h
  | p :: l, j, v, h => by
    simp only [cellsOfL] at h
    by_cases hj : j < (f p).length
    · rw [List.getElem?_append_left hj] at h
      exact ⟨0, p, j, rfl, h, by omega⟩
    · rw [List.getElem?_append_right (by omega)] at h
      obtain ⟨i, q, r, h1, h2, h3⟩ := cellsOfL_inv hf h
      have := hf p
      exact ⟨i + 1, q, r, by simpa using h1, h2, by rw [Nat.add_mul]; omega⟩
section
variable {T : Type} {enc : TypeId × Value → T} {base : Nat} {spare : Nat → Bool} {held : Bool}
theorem open_at {α : Type} {f : α → List Value} {s : Nat} {r : Reach} {b0 : Nat} {t e : TypeId} {v : Value} {x : DataW T × List MemPlace} {fuel n : Nat} {ls : List Leaf} (ht : P.underlying t = some (.slice e)) (hv : Cell.okWide P w r b0 t v)
    (hd : DataW.trod enc P w base spare held fuel t [v] = some x) (hfl : flat P n e = some ls) (hs : P.cellsOf e = s) (hf : ∀ a, (f a).length = s) (hrow : ∀ row, LeafL ls row → ∃ a, row = f a) (h0 : CellsAt w 0) (b : Nat) :
    ∃ (l : List α) (sa : Option Addr) (c : Nat) (L : Loc), SlAt w b l.length c sa (cellsOfL f l) v L := by
  rcases open_sl ht hv hd hfl with h | ⟨bb, o, len, cap, arr, el, fr, rfl, h1, h2, h3, h4⟩
  · obtain ⟨arr, el, fr, h0⟩ := h0
    exact ⟨[], none, 0, ⟨0, 0, 0⟩, ⟨arr, el, fr, h0, fun j u hu => by simp [cellsOfL] at hu⟩, .inl ⟨rfl, h, rfl, rfl⟩, Nat.le_refl _, by simp [openCap]⟩
  · obtain ⟨l, hl, hq⟩ := list_of (Φ := fun i (p : α) => ∀ (j : Nat) u, (f p)[j]? = some u → arr[o + i * s + j]? = some u) len (fun i hi => by
      obtain ⟨row, hr1, hr2⟩ := h4 i hi
      obtain ⟨p, rfl⟩ := hrow row hr1
      rw [hs] at hr2
      exact ⟨p, hr2⟩)
    subst hl
    refine ⟨l, some ⟨b, 0, none⟩, cap, ⟨bb, o, 0⟩, ⟨arr, el, fr, h3, fun j u hu => ?_⟩, .inr ⟨rfl, rfl⟩, h1, by unfold maxLen at h2; unfold openCap; omega⟩
    obtain ⟨i, p, r, e1, e2, e3⟩ := cellsOfL_inv hf hu
    have := hq i p e1 r u e2
    rw [← this]
    congr 1; dsimp only; omega
/-- A struct's fields, each read. -/
theorem trod_flds {t : TypeId} {fs : Array Field} {fuel : Nat} {cs : List Value} {x : DataW T × List MemPlace} (hu : P.underlying t = some (.struct fs)) (h : DataW.trod enc P w base spare held fuel t cs = some x) :
    cs.length = P.cellsOf t ∧ ∀ f ∈ fs.toList, ∃ fuel' y, DataW.trod enc P w base spare held fuel' f.type ((cs.drop f.offset).take (P.cellsOf f.type)) = some y := by
  cases fuel with
  | zero => cases h
  | succ fuel =>
    simp only [DataW.trod, hu] at h
    split at h
    · rename_i hl
      simp only [Option.map_eq_some_iff] at h
      obtain ⟨xs, hxs, _⟩ := h
      exact ⟨hl, fun f hf => let ⟨y, hy⟩ := mapM_all hxs f hf; ⟨fuel, y, hy⟩⟩
    · cases h
def fieldsOf (P : Program) (t : TypeId) : Option (List (Nat × Nat)) := match P.underlying t with
  | some (.struct fs) => some (fs.toList.map fun f => (f.type, f.offset))
  | _ => none
/-- A struct's value: its cells, of their types, and its fields read. -/
theorem open_agg {r : Reach} {b0 : Nat} {t : TypeId} {v : Value} {d : DataW T} {ps : List MemPlace} {fl : List (Nat × Nat)} {ts : List TypeId} (hf : fieldsOf P t = some fl) (hts : P.cellTypes P.depth t = some ts) (hv : Value.okWide P w r b0 t v) (hd : DataW.Trod enc P w base spare held t v d ps) :
    ∃ cs : List Value, v = .agg cs.toArray ∧ cs.length = P.cellsOf t ∧ (∀ p ∈ fl, ∃ fuel y, DataW.trod enc P w base spare held fuel p.1 ((cs.drop p.2).take (P.cellsOf p.1)) = some y) ∧
      ∀ (i : Nat) u, cs[i]? = some u → ∃ t', ts[i % ts.length]? = some t' ∧ Cell.okWide P w r b0 t' u := by
  unfold fieldsOf at hf
  split at hf
  case h_2 => cases hf
  rename_i fs hu
  cases hf
  simp only [Value.okWide, hu] at hv
  obtain ⟨cs, rfl, hsz, ts', hts', _, hcell⟩ := hv
  rw [hts] at hts'
  cases hts'
  obtain ⟨fuel, hfu⟩ := hd
  obtain ⟨h1, h2⟩ := trod_flds hu hfu
  refine ⟨cs.toList, rfl, by simpa using hsz, fun p hp => ?_, fun i u hu => hcell i u (by simpa using hu)⟩
  obtain ⟨f, hf, rfl⟩ := List.mem_map.1 hp
  exact h2 f hf
end
/-- The first block of every world that is shaped by a program without variables. -/
theorem cells_0 (hw : w.ShapedOpen P) (hg : P.globals.size = 0) (h0 : ∃ arr el fr, (begin P (fun _ _ => 0) default).world.heap[0]? = some (.cells arr el fr)) : CellsAt w 0 := by
  obtain ⟨arr, el, fr, h0⟩ := h0
  have hlt : 0 < (begin P (fun _ _ => 0) default).world.heap.size := (Array.getElem?_eq_some_iff.1 h0).1
  obtain ⟨o, o₀, h1, h2, h3⟩ := hw.2 0 (by omega) hlt
  rw [hg] at h3
  simp [World.looseAt] at h3
  rw [h0] at h2
  cases h2
  exact ⟨arr, el, fr, by rw [h1, h3]⟩
/-- Names and places. -/
def renL : List Loc → Ren := fun l b => l[b]?
theorem good_V {V : List (Nat × List Value)} {Ls : List Loc} (h : ∀ b cs, (roHp V).get b = some (.cells cs true) → ∃ L, Ls[b]? = some L ∧ BRel (renL Ls) w L (.cells cs true)) : Good (renL Ls) (roHp V) (fun c => c < w.heap.size) w := good_ro h
end Go.En
/- The engine, part OM: loops whose rounds give new blocks: the names from lo to nx are given anew in each round. -/
namespace Go.En
set_option linter.unusedVariables false
variable {P : Program} {φ : Ren} {H : Hp} {K : Nat → Prop} {w : World}

def PostL (lo : Nat) (φ : Ren) (K : Nat → Prop) (w : World) (R : Res) (e : Exit) (a' : Act) (w' : World) : Prop :=
  e = R.e ∧ ∃ φ', (∀ b, b < lo ∨ R.nx ≤ b → φ' b = φ b) ∧ Good φ' R.H K w' ∧ TRel φ' R.tm a'.tmps ∧ DRel φ' R.ds a'.defers ∧ Went K w w'
def LoopL (P : Program) (lo : Nat) (r : Option Nat) (c : Code) (tm : List Value) (ds : List Nat) (H : Hp) (nx : Nat) (R : Res) : Prop :=
  lo ≤ nx ∧ nx ≤ R.nx ∧ ∃ m, ∀ φ w K a rc, Good φ H K w → Fresh φ nx R.nx → TRel φ tm a.tmps → DRel φ ds a.defers → RRel φ r rc → Code.roundsIn (fw rc) 0 P c (PostL lo φ K w R) m a w
theorem loopL_out {lo : Nat} {r : Option Nat} {c : Code} {tm : List Value} {ds : List Nat} {nx : Nat} {R : Res} (h1 : CodeOk P r c tm ds H nx R) (he : R.e ≠ .normal) (hlo : lo ≤ nx) {M : Nat} (hM : R.nx ≤ M) : LoopL P lo r c tm ds H nx { R with nx := M } := by
  refine ⟨hlo, Nat.le_trans h1.1 hM, 1, fun φ w K a rc g hf ht hd hr => ?_⟩
  rw [roundsIn_succ]
  refine wpIn_mono (h1.2 φ w K a rc g (hf.left hM) ht hd hr) ?_
  intro e a1 w1 hp
  obtain ⟨rfl, φ1, k1, k2, k3, k4, k5⟩ := hp
  have hq : PostL lo φ K w { R with nx := M } R.e a1 w1 := ⟨rfl, φ1, fun b hb => k1.2 b (by rcases hb with hb | hb; exact .inl (by omega); exact .inr (Nat.le_trans hM hb)), k2, k3, k4, k5⟩
  cases hE : R.e with
  | normal => exact absurd hE he
  | _ => rw [hE] at hq; exact hq
/-- In a frame where the names from lo on are not given yet. -/
theorem loopOk_of_L {lo : Nat} {r : Option Nat} {c : Code} {tm : List Value} {ds : List Nat} {nx : Nat} {R : Res} (h : LoopL P lo r c tm ds H nx R) : LoopOk P r c tm ds H lo R := by
  obtain ⟨h1, h2, m, h⟩ := h
  refine ⟨Nat.le_trans h1 h2, m, fun φ w K a rc g hf ht hd hr => ?_⟩
  have := h φ w K a rc g (fun b h3 h4 => hf b (by omega) h4) ht hd hr
  have mono : ∀ (m : Nat) (a : Act) (w2 : World), Code.roundsIn (fw rc) 0 P c (PostL lo φ K w R) m a w2 → Code.roundsIn (fw rc) 0 P c (Post φ K w lo R) m a w2 := by
    intro m
    induction m with
    | zero => intro a w2 h; exact h
    | succ m ih =>
      intro a w2 h
      rw [roundsIn_succ] at h ⊢
      refine wpIn_mono h ?_
      intro e a2 w3 hq
      have key : ∀ e, PostL lo φ K w R e a2 w3 → Post φ K w lo R e a2 w3 := by
        rintro e ⟨rfl, φ', k1, k2, k3, k4, k5⟩
        refine ⟨rfl, φ', ⟨fun b L hb => ?_, k1⟩, k2, k3, k4, k5⟩
        by_cases hlt : b < lo ∨ R.nx ≤ b
        · rw [k1 b hlt]; exact hb
        · have := hf b (by omega) (by omega)
          rw [hb] at this; cases this
      cases e <;> first | exact ih _ _ hq | exact key _ hq
  exact mono m a w this

def renBlk (σ : Nat → Nat) : Blk → Blk
  | .cells cs ro => .cells (cs.map (renV σ 5)) ro
  | k => k
def renHp (σ : Nat → Nat) : Hp → Hp
  | [] => []
  | (b, k) :: r => (σ b, renBlk σ k) :: renHp σ r
/-- Which blocks may be renamed: cells; records of loops and the like only where nothing is renamed. -/
def fixB (lo : Nat) : Hp → Bool
  | [] => true
  | (_, .cells _ _) :: r => fixB lo r
  | (b, .loop l) :: r => decide (b < lo) && En.smallL (small lo 5) l.tmps.toList && decide (l.defers < lo) && fixB lo r
  | (b, .defd) :: r => decide (b < lo) && fixB lo r
  | (_, .hid) :: _ => false
def hasN (b : Nat) (H : Hp) : Bool := H.any fun x => x.1 == b
theorem renV_junk {σ : Nat → Nat} {n k : Nat} {v : Value} (hs : small k n v = true) : renV σ n v ≠ junk := by
  intro h
  cases v with
  | pointer a =>
    cases a with
    | none => cases n <;> simp [renV, junk] at h
    | some a => obtain ⟨b, o, x⟩ := a; cases x <;> cases n <;> simp [renV, junk] at h
  | slice a m c =>
    cases a with
    | none => cases n <;> simp [renV, junk] at h
    | some a => obtain ⟨b, o, x⟩ := a; cases x <;> cases n <;> simp [renV, junk] at h
  | map r => cases r <;> cases n <;> simp [renV, junk] at h
  | func f a b => cases f <;> cases n <;> simp [renV, junk] at h
  | iface t v => cases n <;> simp [renV, junk] at h
  | agg a => cases n <;> simp [renV, junk] at h
  | tuple a => cases n <;> simp [renV, junk] at h
  | complex a b c => cases n <;> simp [small] at hs
  | _ => cases n <;> simp [renV, junk] at h
theorem hasN_ren {σ : Nat → Nat} {b : Nat} {k : Blk} : ∀ {H : Hp}, H.get b = some k → hasN (σ b) (renHp σ H) = true
  | [], h => by cases h
  | (c, x) :: r, h => by
    by_cases hc : c = b
    · subst hc; simp [renHp, hasN]
    · simp [Hp.get, hc] at h
      have := hasN_ren (σ := σ) h
      unfold hasN at this ⊢
      simp only [renHp, List.any_cons, this, Bool.or_true]
theorem renHp_get {σ : Nat → Nat} {b : Nat} {k : Blk} : ∀ {H : Hp}, nodupN (renHp σ H) = true → H.get b = some k → (renHp σ H).get (σ b) = some (renBlk σ k)
  | [], _, h => by cases h
  | (c, x) :: r, hn, h => by
    simp only [renHp, nodupN, Bool.and_eq_true, Bool.not_eq_true'] at hn
    by_cases hc : c = b
    · subst hc; simp [Hp.get] at h; subst h; simp [renHp, Hp.get]
    · simp [Hp.get, hc] at h
      have h2 := hasN_ren (σ := σ) h
      have hne : σ c ≠ σ b := by
        intro e
        unfold hasN at h2
        rw [← e, hn.1] at h2; cases h2
      simp [renHp, Hp.get, hne, renHp_get hn.2 h]
theorem renHp_inj {σ : Nat → Nat} {b c : Nat} {k k' : Blk} : ∀ {H : Hp}, nodupN (renHp σ H) = true → H.get b = some k → H.get c = some k' → b ≠ c → σ b ≠ σ c
  | [], _, h, _, _ => by cases h
  | (d, x) :: r, hn, h, h', hne => by
    simp only [renHp, nodupN, Bool.and_eq_true, Bool.not_eq_true'] at hn
    by_cases hd : d = b
    · subst hd
      simp [Hp.get, hne] at h'
      intro e
      have := hasN_ren (σ := σ) h'
      unfold hasN at this
      rw [← e, hn.1] at this; cases this
    · by_cases hd2 : d = c
      · subst hd2
        simp [Hp.get, hd] at h
        intro e
        have := hasN_ren (σ := σ) h
        unfold hasN at this
        rw [e, hn.1] at this; cases this
      · simp [Hp.get, hd] at h
        simp [Hp.get, hd2] at h'
        exact renHp_inj hn.2 h h' hne
theorem fixB_get {lo b : Nat} {k : Blk} : ∀ {H : Hp}, fixB lo H = true → H.get b = some k → match k with
    | .cells _ _ => True
    | .loop l => b < lo ∧ smallL (small lo 5) l.tmps.toList = true ∧ l.defers < lo
    | .defd => b < lo
    | .hid => False
  | [], _, h => by cases h
  | (c, x) :: r, hf, h => by
    by_cases hc : c = b
    · subst hc
      simp [Hp.get] at h
      subst h
      cases x with
      | cells => trivial
      | loop l => simp only [fixB, Bool.and_eq_true, decide_eq_true_eq] at hf; exact ⟨hf.1.1.1, hf.1.1.2, hf.1.2⟩
      | defd => simp only [fixB, Bool.and_eq_true, decide_eq_true_eq] at hf; exact hf.1
      | hid => simp [fixB] at hf
    · simp [Hp.get, hc] at h
      have hf2 : fixB lo r = true := by
        cases x <;> simp only [fixB, Bool.and_eq_true, Bool.false_eq_true] at hf <;> first | exact hf | exact hf.2 | exact hf.elim
      exact fixB_get hf2 h
theorem hpBelow_get {n b : Nat} {k : Blk} : ∀ {H : Hp}, hpBelow n H = true → H.get b = some k → b < n ∧ tidyB n k = true
  | [], _, h => by cases h
  | (c, x) :: r, hb, h => by
    simp only [hpBelow, Bool.and_eq_true, decide_eq_true_eq] at hb
    by_cases hc : c = b
    · subst hc; simp [Hp.get] at h; subst h; exact hb.1
    · simp [Hp.get, hc] at h; exact hpBelow_get hb.2 h
/-- A round that goes on, its new names given the old ones' names. -/
theorem loopL_step {lo : Nat} {r : Option Nat} {c : Code} {tm tm' : List Value} {ds : List Nat} {H' : Hp} {nx n1 : Nat} {R : Res} (σ : Nat → Nat) (h1 : CodeOk P r c tm ds H nx ⟨.normal, tm'.map (renV σ 5), ds, renHp σ H', n1⟩) (h2 : LoopL P lo r c tm' ds H' nx R) (hn1 : n1 ≤ R.nx)
    (hσ : ∀ b, b < lo → σ b = b) (hc : (tmBelow nx tm' && nodupN (renHp σ H') && fixB lo H' && dsBelow lo ds && rBelow lo r) = true) (hb : hpBelow nx H' = true) : LoopL P lo r c tm ds H nx R := by
  obtain ⟨l1, l2, m, h2⟩ := h2
  simp only [Bool.and_eq_true] at hc
  obtain ⟨⟨⟨⟨c1, c2⟩, c3⟩, c4⟩, c5⟩ := hc
  refine ⟨l1, l2, m + 1, fun φ w K a rc g hf ht hd hr => ?_⟩
  rw [roundsIn_succ]
  refine wpIn_mono (h1.2 φ w K a rc g (hf.left hn1) ht hd hr) ?_
  rintro e a1 w1 ⟨rfl, φ1, k1, k2, k3, k4, k5⟩
  let φ2 : Ren := fun b => if b < nx then φ1 (σ b) else if b < R.nx then none else φ b
  have e2 : ∀ b L, b < nx → φ1 (σ b) = some L → φ2 b = some L := fun b L hb hL => by simp [φ2, hb, hL]
  have e3 : ∀ b, b < lo → φ2 b = φ b := fun b hb => by
    have : b < nx := by omega
    simp only [φ2, this, if_true, hσ b hb]
    exact k1.2 b (.inl this)
  have e4 : ∀ b, b < lo → φ1 b = φ2 b := fun b hb => by rw [e3 b hb]; exact k1.2 b (.inl (by omega))
  have g2 : Good φ2 H' K w1 := by
    refine ⟨fun b k hbk => ?_, fun b d k k' L L' hbk hdk hne hkr hL hL' => ?_, fun b k L hbk hkr hL => ?_, k2.kin⟩
    · obtain ⟨hlt, htd⟩ := hpBelow_get hb hbk
      obtain ⟨L, hL, hB⟩ := k2.rel _ _ (renHp_get c2 hbk)
      refine ⟨L, e2 b L hlt hL, ?_⟩
      have hfx := fixB_get c3 hbk
      cases k with
      | cells cs ro =>
        obtain ⟨arr, el, fr, f1, f2, f3⟩ := hB
        refine ⟨arr, el, fr, f1, fun j v hv => ?_, f3⟩
        obtain ⟨v', q1, q2⟩ := f2 j (renV σ 5 v) (by simp [hv])
        exact ⟨v', q1, ren_bwd e2 5 v v' (smallL_get htd hv) q2⟩
      | loop l =>
        obtain ⟨x1, x2, x3⟩ := hfx
        obtain ⟨l', f1, f2, f3, f4, f5, f6, f7, D, f8, f9⟩ := hB
        refine ⟨l', f1, f2, f3, ⟨f4.1, fun i v hv => ?_⟩, f5, f6, f7, D, by rw [← e4 _ x3]; exact f8, f9⟩
        rcases f4.2 i v hv with h | ⟨v', q1, q2⟩
        · exact .inl h
        · exact .inr ⟨v', q1, small_rel e4 5 v v' (smallL_get x2 hv) q2⟩
      | defd => exact hB
      | hid => exact hfx.elim
    · obtain ⟨hlt, _⟩ := hpBelow_get hb hbk
      obtain ⟨hlt', _⟩ := hpBelow_get hb hdk
      simp only [φ2, hlt, hlt', if_true] at hL hL'
      exact k2.sep _ _ _ _ L L' (renHp_get c2 hbk) (renHp_get c2 hdk) (renHp_inj c2 hbk hdk hne) (by cases k <;> exact hkr) hL hL'
    · obtain ⟨hlt, _⟩ := hpBelow_get hb hbk
      simp only [φ2, hlt, if_true] at hL
      exact k2.prot _ _ L (renHp_get c2 hbk) (by cases k <;> exact hkr) hL
  have t2 : TRel φ2 tm' a1.tmps := by
    refine ⟨by have := k3.1; simpa using this, fun i v hv => ?_⟩
    rcases tmBelow_get c1 hv with hj | hs
    · exact .inl (isJunk_eq hj)
    · rcases k3.2 i (renV σ 5 v) (by simp [hv]) with h | ⟨v', q1, q2⟩
      · exact absurd h (renV_junk hs)
      · exact .inr ⟨v', q1, ren_bwd e2 5 v v' hs q2⟩
  have d2 : DRel φ2 ds a1.defers := by
    have : ∀ (ds : List Nat) (xs : List Deferred), dsBelow lo ds = true → DRel φ1 ds xs → DRel φ2 ds xs := by
      intro ds
      induction ds with
      | nil => intro xs _ h; cases xs <;> exact h
      | cons d ds ih =>
        intro xs hb h
        simp only [dsBelow, List.all_cons, Bool.and_eq_true, decide_eq_true_eq] at hb
        cases xs with
        | nil => exact h
        | cons x xs =>
          obtain ⟨⟨L, q1, q2⟩, q3⟩ := h
          exact ⟨⟨L, by rw [← e4 d hb.1]; exact q1, q2⟩, ih xs hb.2 q3⟩
    exact this ds _ c4 k4
  have r2 : RRel φ2 r rc := by
    cases r with
    | none => cases rc <;> exact hr
    | some l =>
      cases rc with
      | none => exact hr
      | some cc =>
        obtain ⟨L, q1, q2⟩ := hr
        simp only [rBelow, decide_eq_true_eq] at c5
        exact ⟨L, by rw [e3 l c5]; exact q1, q2⟩
  have := h2 φ2 w1 K a1 rc g2 (fun b h3 h4 => by simp only [φ2, show ¬ b < nx by omega, h4, if_true, if_false]) t2 d2 r2
  have mono : ∀ (m : Nat) (a : Act) (w2 : World), Code.roundsIn (fw rc) 0 P c (PostL lo φ2 K w1 R) m a w2 → Code.roundsIn (fw rc) 0 P c (PostL lo φ K w R) m a w2 := by
    intro m
    induction m with
    | zero => intro a w2 h; exact h
    | succ m ih =>
      intro a w2 h
      rw [roundsIn_succ] at h ⊢
      refine wpIn_mono h ?_
      intro e a2 w3 hq
      have key : ∀ e, PostL lo φ2 K w1 R e a2 w3 → PostL lo φ K w R e a2 w3 := by
        rintro e ⟨rfl, φ', q1, q2, q3, q4, q5⟩
        refine ⟨rfl, φ', fun b hb => ?_, q2, q3, q4, k5.trans q5⟩
        rw [q1 b hb]
        rcases hb with hb | hb
        · exact e3 b hb
        · simp only [φ2, show ¬ b < nx by omega, show ¬ b < R.nx by omega, if_false]
      cases e <;> first | exact ih _ _ hq | exact key _ hq
  exact mono m a1 w1 this
/-- What is said to come out, of what comes out. -/
theorem codeOk_sub {r : Option Nat} {c : Code} {tm : List Value} {ds : List Nat} {nx : Nat} {R : Res} (h : CodeOk P r c tm ds H nx R) {tm' : List Value} {H' : Hp} (ht : tm'.length = R.tm.length ∧ ∀ (i : Nat) v, tm'[i]? = some v → isJunk v = true ∨ R.tm[i]? = some v) (hH : ∀ b k, H'.get b = some k → R.H.get b = some k) :
    CodeOk P r c tm ds H nx { R with tm := tm', H := H' } := by
  refine ⟨h.1, fun φ w K a rc g hf ht0 hd hr => wpIn_mono (h.2 φ w K a rc g hf ht0 hd hr) ?_⟩
  rintro e a1 w1 ⟨rfl, φ1, k1, k2, k3, k4, k5⟩
  refine ⟨rfl, φ1, k1, k2.sub hH, ⟨by rw [ht.1]; exact k3.1, fun i v hv => ?_⟩, k4, k5⟩
  rcases ht.2 i v hv with hj | hv'
  · exact .inl (isJunk_eq hj)
  · exact k3.2 i v hv'
def maskT : List Value → List Value → List Value
  | [], [] => []
  | p :: ps, v :: vs => (match isJunk p with | true => junk | false => v) :: maskT ps vs
  | _, vs => vs
theorem maskT_len : ∀ (ps vs : List Value), (maskT ps vs).length = vs.length
  | [], [] => rfl
  | p :: ps, v :: vs => by simp [maskT, maskT_len ps vs]
  | [], _ :: _ => by simp [maskT]
  | _ :: _, [] => by simp [maskT]
theorem maskT_get : ∀ (ps vs : List Value) (i : Nat) (v : Value), (maskT ps vs)[i]? = some v → isJunk v = true ∨ vs[i]? = some v
  | [], [], i, v, h => by simp [maskT] at h
  | p :: ps, u :: vs, 0, v, h => by
    simp only [maskT, List.getElem?_cons_zero, Option.some.injEq] at h
    cases hp : isJunk p with
    | true => rw [hp] at h; dsimp only at h; subst h; exact .inl rfl
    | false => rw [hp] at h; dsimp only at h; subst h; exact .inr rfl
  | p :: ps, u :: vs, i + 1, v, h => by
    simp only [maskT, List.getElem?_cons_succ] at h ⊢
    exact maskT_get ps vs i v h
  | [], u :: vs, i, v, h => by simp only [maskT] at h; exact .inr h
  | p :: ps, [], i, v, h => by simp [maskT] at h
def pickH (H : Hp) : List Nat → Option Hp
  | [] => some []
  | b :: r => match H.get b, pickH H r with
    | some k, some H' => some ((b, k) :: H')
    | _, _ => none
theorem pickH_get {b : Nat} {k : Blk} : ∀ {ks : List Nat} {H' : Hp}, pickH H ks = some H' → H'.get b = some k → H.get b = some k
  | [], H', h, hb => by simp only [pickH, Option.some.injEq] at h; subst h; cases hb
  | c :: r, H', h, hb => by
    simp only [pickH] at h
    split at h
    case h_2 => cases h
    rename_i x H2 hx h2
    cases h
    by_cases hc : c = b
    · subst hc; simp [Hp.get] at hb; subst hb; exact hx
    · simp [Hp.get, hc] at hb; exact pickH_get h2 hb
def codeOutK (ks : List Nat) (pat : List Value) (x : Option (Res × Eqs)) : Option (Res × Eqs) := match x with
  | some (R, e) => match pickH R.H ks with
    | some H' => some (⟨R.e, maskT pat R.tm, R.ds, H', R.nx⟩, e)
    | none => none
  | none => none
/-- Code, by hints; of what is new the blocks ks are kept, under their names. -/
theorem code_k {hs : Hints} {ch : List CHint} {E : Ev} {r : Option Nat} {c : Code} {tm : List Value} {ds : List Nat} {nx : Nat} {R : Res} (ks : List Nat) (hE : E.Ok P) (hsp : NoSpecial P) (hk : HintsOk P hs) (hch : CHintsOk P ch)
    (h : leftsO (codeOutK ks R.tm (sCode P hs ch E r c tm ds H nx)) = some (R, rightsO (codeOutK ks R.tm (sCode P hs ch E r c tm ds H nx)))) : CodeOk P r c tm ds H nx R := by
  obtain ⟨e, h1, h2⟩ := out_of h
  generalize R.tm = pat at h1
  unfold codeOutK at h1
  split at h1
  case h_2 => cases h1
  rename_i R1 e1 h3
  split at h1
  case h_2 => cases h1
  rename_i H' hp
  cases h1
  exact codeOk_sub (sCode_ok hk hch hE hsp c h3 h2) ⟨maskT_len _ _, fun i v hv => maskT_get _ _ i v hv⟩ (fun b k hb => pickH_get hp hb)
end Go.En
/- The engine, part ON: a call that leaves new blocks in old ones. -/
namespace Go.En
set_option linter.unusedVariables false
variable {P : Program} {H : Hp}

def gcK (ks : List Nat) (lo : Nat) (v : Value) (H : Hp) : Hp := Hp.only (fun b => decide (b < lo) || ks.contains b || (refs 4 v).contains b) H
theorem gcK_sub (ks : List Nat) (lo : Nat) (v : Value) (H : Hp) (b : Nat) (k : Blk) (h : (gcK ks lo v H).get b = some k) : H.get b = some k := by
  unfold gcK at h
  rw [Hp.get_only] at h
  split at h
  · exact h
  · cases h
def sCallK (P : Program) (ks : List Nat) (hs : Hints) (ch : List CHint) (E : Ev) (f : FuncId) (args : List Value) (H : Hp) (nx : Nat) : Option (Value × Hp × Nat × Eqs) :=
  match P.funcs[f]? with
  | some fn => match fn.body with
    | some c => match sCode P hs ch E none c (args ++ List.replicate (fn.ntmps - args.length) undef) [] H nx with
      | some (R, e) => match (match R.e with | .normal => true | .ret => true | _ => false) with
        | true => match killDs R.ds R.H with
          | some H1 => match resA P H1 R.tm fn.results.toList with
            | some vs => some (retV vs, gcK ks nx (retV vs) H1, R.nx, e)
            | none => none
          | none => none
        | false => none
      | none => none
    | none => none
  | none => none
theorem sCallK_ok {ks : List Nat} {hs : Hints} (hk : HintsOk P hs) {ch : List CHint} (hch : CHintsOk P ch) {E : Ev} (hE : E.Ok P) (hsp : NoSpecial P) {f : FuncId} {args : List Value} {nx : Nat} {v : Value} {H' : Hp} {nx' : Nat} {e : Eqs} (h : sCallK P ks hs ch E f args H nx = some (v, H', nx', e)) (he : e.Hold) :
    (∃ fn, P.funcs[f]? = some fn ∧ fn.body.isSome = true) ∧ CallOk P f args H nx v H' nx' := by
  unfold sCallK at h
  split at h
  case h_2 => cases h
  rename_i fn hfn
  split at h
  case h_2 => cases h
  rename_i c hc
  split at h
  case h_2 => cases h
  rename_i R e1 hR
  split at h
  case h_2 => cases h
  rename_i hen
  split at h
  case h_2 => cases h
  rename_i H1 hkd
  split at h
  case h_2 => cases h
  rename_i vs hv
  cases h
  refine ⟨⟨fn, hfn, by rw [hc]; rfl⟩, callOk_of hfn hc (sCode_ok hk hch hE hsp c hR he) ?_ hkd hv (gcK_sub ks nx _ _)⟩
  cases hE2 : R.e <;> simp [hE2] at hen ⊢
/-- A call, by hints; the new blocks named in the list are kept. -/
theorem call_k (ks : List Nat) {hs : Hints} {ch : List CHint} {E : Ev} {f : FuncId} {args : List Value} {nx : Nat} {v : Value} {H' : Hp} {nx' : Nat} (hE : E.Ok P) (hsp : NoSpecial P) (hk : HintsOk P hs) (hch : CHintsOk P ch)
    (h : leftsO (callOut (sCallK P ks hs ch E f args H nx)) = some ((v, H', nx'), rightsO (callOut (sCallK P ks hs ch E f args H nx)))) : (∃ fn, P.funcs[f]? = some fn ∧ fn.body.isSome = true) ∧ CallOk P f args H nx v H' nx' := by
  obtain ⟨e, h1, h2⟩ := out_of h
  simp only [callOut, Option.map_eq_some_iff, Prod.mk.injEq] at h1
  obtain ⟨⟨a, b, c, d⟩, h3, ⟨rfl, rfl, rfl⟩, rfl⟩ := h1
  exact sCallK_ok hk hch hE hsp h3 h2
/-- A call of which it is known what it comes to on the whole heap, as a hint. -/
theorem any_call {o : Oper} {nx : Nat} {cf : Operand} {args : Array Operand} {ats : Array TypeId} {f : FuncId} {vs : List Value} {v : Value} {H' : Hp} {nx' : Nat} (hsp : NoSpecial P)
    (ho : o.op = .call { callee := .value cf, args := args, argTypes := ats })
    (h : (∃ fn, P.funcs[f]? = some fn ∧ fn.body.isSome = true) ∧ CallOk P f vs H nx v H' nx') : Hint.Ok P (.any o (.func (.func f) #[] #[] :: vs) H nx v H' nx') := by
  intro r tm hop
  obtain ⟨⟨fn, hfn, hb⟩, hc⟩ := h
  have hops : o.op.operands.toList = cf :: args.toList := by rw [ho]; simp [Op.operands, Call.operands]
  rw [hops] at hop
  simp only [opvs] at hop
  split at hop
  · rename_i v0 vs0 hv0 hvs0
    cases hop
    exact opOk_call ho hsp hfn hb hv0 hvs0 (by simpa using hc)
  · cases hop
end Go.En
/- The engine, part OO: division, remainder, shifts with operands that are not literal; scopes. -/
namespace Go.En
set_option linter.unusedVariables false
variable {P : Program}

theorem rem_bin {t : TypeId} {k : IntKind} {a b : Int} (hb : b ≠ 0) (xo yo : Operand) : doBin P .rem t xo yo (.int k a) (.int k b) = some (.int k (a.tmod b)) := by
  have : plain P (do eqGuard .rem t xo yo (.int k a) (.int k b); binOp .rem t (.int k a) (.int k b)) = some (.int k (a.tmod b)) := by
    show plain P (if k ≠ k then stuck "BinOp: operands of different kinds" else Op.intDiv .rem k a b) = _
    rw [if_neg (by simp)]
    unfold Op.intDiv
    rw [if_neg hb]
    rfl
  unfold doBin sc
  rw [this]
  rfl
theorem quo_bin {t : TypeId} {k : IntKind} {a b : Int} (hb : b ≠ 0) (xo yo : Operand) : doBin P .quo t xo yo (.int k a) (.int k b) = some (.int k (k.wrap (a.tdiv b))) := by
  have : plain P (do eqGuard .quo t xo yo (.int k a) (.int k b); binOp .quo t (.int k a) (.int k b)) = some (.int k (k.wrap (a.tdiv b))) := by
    show plain P (if k ≠ k then stuck "BinOp: operands of different kinds" else Op.intDiv .quo k a b) = _
    rw [if_neg (by simp)]
    unfold Op.intDiv
    rw [if_neg hb]
    rfl
  unfold doBin sc
  rw [this]
  rfl
theorem shr_bin {t : TypeId} {k k' : IntKind} {a b : Int} (hb : 0 ≤ b) (xo yo : Operand) : doBin P .shr t xo yo (.int k a) (.int k' b) = some (.int k (a.fdiv (2 ^ (min b.toNat k.bits)))) := by
  have : plain P (do eqGuard .shr t xo yo (.int k a) (.int k' b); binOp .shr t (.int k a) (.int k' b)) = some (.int k (a.fdiv (2 ^ (min b.toNat k.bits)))) := by
    show plain P (Op.shift .shr k a k' b) = _
    unfold Op.shift
    rw [if_neg (by omega)]
    rfl
  unfold doBin sc
  rw [this]
  rfl

/-- The inner code of a function's first scope. -/
def findScp : Code → Option Code
  | .seq a b => match findScp a with
    | some c => some c
    | none => findScp b
  | .cond _ a b => match findScp a with
    | some c => some c
    | none => findScp b
  | .block _ c => findScp c
  | .loop c => findScp c
  | .scope c => some c
  | _ => none
def scp (P : Program) (f : Nat) : Code :=
  match P.funcs[f]? with
  | some fn => match fn.body with
    | some c => (findScp c).getD .skip
    | none => .skip
  | none => .skip
/-- What follows a label of a scope. -/
def after (c : Code) (l : Nat) : Code := (findLabel c l).getD .skip
end Go.En
