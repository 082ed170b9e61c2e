/- The engine, part OD: whole code and calls with hints. -/
import Derived.Test.YtjconcfkpgkbkaaEnOC
namespace Go.En
set_option linter.unusedVariables false
variable {P : Program} {φ : Ren} {H : Hp} {K : Nat → Prop} {w : World}

def firstReg : Code → Option Nat
  | .region id _ _ => some id
  | .seq a b => match firstReg a with | some i => some i | none => firstReg b
  | .cond _ a b => match firstReg a with | some i => some i | none => firstReg b
  | .block _ c => firstReg c
  | .loop c => firstReg c
  | .scope c => firstReg c
  | .rangeFunc _ _ a b => match firstReg b with | some i => some i | none => firstReg a
  | _ => none

/-- A piece of code of which it is known what it comes to. -/
structure CHint where
  id : Nat
  r : Option Nat
  c : Code
  tm : List Value
  ds : List Nat
  H : Hp
  nx : Nat
  R : Res
  /-- the heap as a whole (it may hold records of loops) -/
  whole : Bool := false
def CHint.Ok (P : Program) (h : CHint) : Prop := CodeOk P h.r h.c h.tm h.ds h.H h.nx h.R
def CHintsOk (P : Program) : List CHint → Prop
  | [] => True
  | h :: r => h.Ok P ∧ CHintsOk P r
def findC : List CHint → Option Nat → Option CHint
  | [], _ => none
  | _, none => none
  | h :: r, some i => if h.id == i then some h else findC r (some i)
theorem findC_ok : ∀ {ch : List CHint}, CHintsOk P ch → ∀ {i : Option Nat} {h : CHint}, findC ch i = some h → h.Ok P
  | [], _, i, h, hf => by cases i <;> cases hf
  | x :: r, hk, none, h, hf => by cases hf
  | x :: r, hk, some i, h, hf => by
    simp only [findC] at hf
    split at hf
    · cases hf; exact hk.1
    · exact findC_ok hk.2 hf

def tmEqs : List Value → List Value → Option (List (Value × Value))
  | [], [] => some []
  | p :: ps, v :: vs => match tmEqs ps vs with
    | some l => match isJunk p with
      | true => some l
      | false => some ((p, v) :: l)
    | none => none
  | _, _ => none
theorem tmEqs_rel : ∀ {ps vs : List Value} {l : List (Value × Value)}, tmEqs ps vs = some l → EqsV l → ps.length = vs.length ∧ ∀ (i : Nat) p, ps[i]? = some p → isJunk p = true ∨ vs[i]? = some p
  | [], [], l, h, he => ⟨rfl, fun i p hp => by simp at hp⟩
  | p :: ps, v :: vs, l, h, he => by
    simp only [tmEqs] at h
    split at h
    case h_2 => cases h
    rename_i l' hl'
    split at h
    · rename_i hj
      cases h
      have := tmEqs_rel hl' he
      refine ⟨by simp [this.1], fun i q hq => ?_⟩
      cases i with
      | zero => simp at hq; subst hq; exact .inl hj
      | succ i => simp at hq ⊢; exact this.2 i q hq
    · cases h
      have := tmEqs_rel hl' he.2
      refine ⟨by simp [this.1], fun i q hq => ?_⟩
      cases i with
      | zero => simp at hq; subst hq; right; have := he.1; dsimp only at this; simp [this]
      | succ i => simp at hq ⊢; exact this.2 i q hq
  | [], _ :: _, l, h, he => by simp [tmEqs] at h
  | _ :: _, [], l, h, he => by simp [tmEqs] at h

def hpEqs (H : Hp) : Hp → Option (List (Value × Value))
  | [] => some []
  | (b, .cells cs ro) :: r => match H.get b with
    | some (.cells cs' ro') => match ro == ro', hpEqs H r with
      | true, some l => some ((.tuple cs.toArray, .tuple cs'.toArray) :: l)
      | _, _ => none
    | _ => none
  | _ => none
theorem hpEqs_get {b : Nat} {k : Blk} : ∀ {H1 : Hp} {l : List (Value × Value)}, hpEqs H H1 = some l → EqsV l → H1.get b = some k → H.get b = some k
  | [], l, _, _, h => by simp [Hp.get] at h
  | (c, .cells cs ro) :: r, l, hl, he, h => by
    simp only [hpEqs] at hl
    split at hl
    case h_2 => cases hl
    rename_i cs' ro' hg
    split at hl
    case h_2 => cases hl
    rename_i l' hro hl'
    cases hl
    by_cases hc : c = b
    · subst hc
      simp [Hp.get] at h
      subst h
      have h1 := tuple_inj he.1
      have h2 : ro = ro' := by simpa using hro
      rw [hg, h1, h2]
    · simp [Hp.get, hc] at h
      exact hpEqs_get hl' he.2 h
  | (c, .loop x) :: r, l, hl, _, _ => by simp [hpEqs] at hl
  | (c, .defd) :: r, l, hl, _, _ => by simp [hpEqs] at hl
  | (c, .hid) :: r, l, hl, _, _ => by simp [hpEqs] at hl

def rest (H1 : Hp) : Hp → Hp
  | [] => []
  | (b, k) :: r => match H1.get b with
    | some _ => rest H1 r
    | none => (b, k) :: rest H1 r
theorem rest_get {H1 : Hp} {b : Nat} : ∀ {H : Hp}, (rest H1 H).get b = match H1.get b with | some _ => none | none => H.get b
  | [] => by simp only [rest, Hp.get]; split <;> rfl
  | (c, x) :: r => by
    have ih := rest_get (H1 := H1) (b := b) (H := r)
    simp only [rest]
    by_cases hc : c = b
    · subst hc
      cases h1 : H1.get c with
      | some y => simp only [h1] at ih ⊢; exact ih
      | none => simp [Hp.get]
    · cases h2 : H1.get c with
      | some y => simp only [Hp.get, hc, beq_iff_eq, if_false]; exact ih
      | none => simp only [Hp.get, hc, beq_iff_eq, if_false]; exact ih

def eqR : Option Nat → Option Nat → Bool
  | none, none => true
  | some a, some b => a == b
  | _, _ => false
theorem eqR_eq {a b : Option Nat} (h : eqR a b = true) : a = b := by
  cases a <;> cases b <;> simp [eqR] at h <;> simp [h]

def takeC (h : CHint) (r : Option Nat) (c : Code) (tm : List Value) (ds : List Nat) (H : Hp) (nx : Nat) : Option (Res × Eqs) :=
  match h.whole with
  | true => match eqR h.r r && eqDs h.ds ds && h.nx == nx with
    | true => match tmEqs h.tm tm with
      | some l => some (h.R, ⟨l, [(h.c, c)], [(h.H, H)]⟩)
      | none => none
    | false => none
  | false => match eqR h.r r && eqDs h.ds ds && h.nx == nx && roOld h.H h.R.H with
  | true => match tmEqs h.tm tm, hpEqs H h.H with
    | some l, some l' => some ({ h.R with H := h.R.H ++ rest h.H H }, ⟨l ++ l', [(h.c, c)], []⟩)
    | _, _ => none
  | false => none
theorem takeC_ok {h : CHint} (hk : h.Ok P) {r : Option Nat} {c : Code} {tm : List Value} {ds : List Nat} {nx : Nat} {R : Res} {e : Eqs} (ht : takeC h r c tm ds H nx = some (R, e)) (he : e.Hold) : CodeOk P r c tm ds H nx R := by
  unfold takeC at ht
  split at ht
  · split at ht
    case h_2 => cases ht
    rename_i hc
    split at ht
    case h_2 => cases ht
    rename_i l hl
    cases ht
    simp only [Bool.and_eq_true, beq_iff_eq] at hc
    obtain ⟨⟨h1, h2⟩, h3⟩ := hc
    have e3 : h.c = c := he.2.1.1
    have e4 : h.H = H := he.2.2.1
    have hk : CodeOk P h.r h.c h.tm h.ds h.H h.nx h.R := hk
    rw [eqR_eq h1, eqDs_eq h2, h3, e3, e4] at hk
    obtain ⟨t1, t2⟩ := tmEqs_rel hl he.1
    exact codeOk_pre hk (fun _ _ _ g => g) fun φ ts ht => ⟨by rw [t1]; exact ht.1, fun i v hv => by
      rcases t2 i v hv with hj | hv'
      · exact .inl (isJunk_eq hj)
      · exact ht.2 i v hv'⟩
  split at ht
  case h_2 => cases ht
  rename_i hc
  split at ht
  case h_2 => cases ht
  rename_i l l' hl hl'
  cases ht
  simp only [Bool.and_eq_true, beq_iff_eq] at hc
  obtain ⟨⟨⟨h1, h2⟩, h3⟩, h4⟩ := hc
  obtain ⟨e1, e2⟩ := eqsV_append.1 he.1
  have e3 : h.c = c := he.2.1.1
  have hk : CodeOk P h.r h.c h.tm h.ds h.H h.nx h.R := hk
  rw [eqR_eq h1, eqDs_eq h2, h3, e3] at hk
  obtain ⟨t1, t2⟩ := tmEqs_rel hl e1
  have hk2 : CodeOk P r c tm ds h.H nx h.R := codeOk_pre hk (fun _ _ _ g => g) fun φ ts ht => ⟨by rw [t1]; exact ht.1, fun i v hv => by
    rcases t2 i v hv with hj | hv'
    · exact .inl (isJunk_eq hj)
    · exact ht.2 i v hv'⟩
  exact codeOk_frame hk2 h4 (fun b k hb => by
    rw [rest_get] at hb
    cases hg : h.H.get b with
    | some x => rw [hg] at hb; cases hb
    | none => rfl) (fun b k hb => hpEqs_get hl' e2 hb) (fun b k hb => by
    rw [rest_get] at hb
    cases hg : h.H.get b with
    | some x => rw [hg] at hb; cases hb
    | none => rw [hg] at hb; exact hb)

def sCode (P : Program) (hs : Hints) (ch : List CHint) (E : Ev) (r : Option Nat) : Code → List Value → List Nat → Hp → Nat → Option (Res × Eqs)
  | .skip, tm, ds, H, nx => some (⟨.normal, tm, ds, H, nx⟩, Eqs.none)
  | .label _, tm, ds, H, nx => some (⟨.normal, tm, ds, H, nx⟩, Eqs.none)
  | .exit i, tm, ds, H, nx => some (⟨.exit i, tm, ds, H, nx⟩, Eqs.none)
  | .goto i, tm, ds, H, nx => some (⟨.goto i, tm, ds, H, nx⟩, Eqs.none)
  | .ret, tm, ds, H, nx => some (⟨.ret, tm, ds, H, nx⟩, Eqs.none)
  | .seq x y, tm, ds, H, nx => match sCode P hs ch E r x tm ds H nx with
    | some (R, e) => match R.e with
      | .normal => match sCode P hs ch E r y R.tm R.ds R.H R.nx with
        | some (R', e') => some (R', e.and e')
        | none => none
      | _ => some (R, e)
    | none => none
  | .cond c x y, tm, ds, H, nx => match opv tm c with
    | some (.bool true) => sCode P hs ch E r x tm ds H nx
    | some (.bool false) => sCode P hs ch E r y tm ds H nx
    | _ => none
  | .block i c, tm, ds, H, nx => match sCode P hs ch E r c tm ds H nx with
    | some (R, e) => some (R.inBlock i, e)
    | none => none
  | .loop c, tm, ds, H, nx => match findC ch (firstReg c) with
    | some h => takeC h r (.loop c) tm ds H nx
    | none => match evalCode P E r (.loop c) tm ds H nx with
      | some R => some (R, Eqs.none)
      | none => none
  | .region _ ops false, tm, ds, H, nx => match sList P hs E ops ops.toList tm H nx with
    | some (tm', H', nx', e) => some (⟨.normal, tm', ds, H', nx'⟩, e)
    | none => none
  | .region _ ops true, tm, ds, H, nx => match sDraw P hs E ops tm H nx with
    | some (tm', H', nx', e) => some (⟨.normal, tm', ds, H', nx'⟩, e)
    | none => none
  | .rangeFunc g ps assign body, tm, ds, H, nx => match findC ch (firstReg (.rangeFunc g ps assign body)) with
    | some h => takeC h r (.rangeFunc g ps assign body) tm ds H nx
    | none => match evalRange E r g ps assign body tm ds H nx with
      | some R => some (R, Eqs.none)
      | none => none
  | .scope c, tm, ds, H, nx => match r with
    | some _ => none
    | none => match findC ch ((firstReg c).map (1000 + ·)) with
      | some h => takeC h none (.scope c) tm ds H nx
      | none => match sCode P hs ch E none c tm ds H nx with
        | some (R, e) => match R.e with
          | .goto _ => none
          | _ => some (R, e)
        | none => none
  | _, _, _, _, _ => none

theorem sCode_ok {hs : Hints} (hk : HintsOk P hs) {ch : List CHint} (hch : CHintsOk P ch) {E : Ev} (hE : E.Ok P) (hsp : NoSpecial P) {r : Option Nat} : ∀ (c : Code) {tm : List Value} {ds : List Nat} {H : Hp} {nx : Nat} {R : Res} {e : Eqs}, sCode P hs ch E r c tm ds H nx = some (R, e) → e.Hold → CodeOk P r c tm ds H nx R := by
  intro c
  induction c with
  | skip => intro tm ds H nx R e h he; simp only [sCode, Option.some.injEq, Prod.mk.injEq] at h; obtain ⟨rfl, rfl⟩ := h; exact codeOk_skip
  | label l => intro tm ds H nx R e h he; simp only [sCode, Option.some.injEq, Prod.mk.injEq] at h; obtain ⟨rfl, rfl⟩ := h; exact codeOk_label
  | exit l => intro tm ds H nx R e h he; simp only [sCode, Option.some.injEq, Prod.mk.injEq] at h; obtain ⟨rfl, rfl⟩ := h; exact codeOk_exit
  | goto l => intro tm ds H nx R e h he; simp only [sCode, Option.some.injEq, Prod.mk.injEq] at h; obtain ⟨rfl, rfl⟩ := h; exact codeOk_goto
  | ret => intro tm ds H nx R e h he; simp only [sCode, Option.some.injEq, Prod.mk.injEq] at h; obtain ⟨rfl, rfl⟩ := h; exact codeOk_ret
  | seq x y ihx ihy =>
    intro tm ds H nx R e h he
    simp only [sCode] at h
    split at h
    case h_2 => cases h
    rename_i R1 e1 h1
    split at h
    · rename_i hn
      split at h
      case h_2 => cases h
      rename_i R2 e2 h2
      cases h
      obtain ⟨g1, g2⟩ := Eqs.hold_and.1 he
      exact codeOk_seq (ihx h1 g1) hn (ihy h2 g2)
    · rename_i hn; cases h; exact codeOk_seq_out (ihx h1 he) hn
  | cond c x y ihx ihy =>
    intro tm ds H nx R e h he
    simp only [sCode] at h
    split at h
    · rename_i hc; exact codeOk_cond hc (by simpa using ihx h he)
    · rename_i hc; exact codeOk_cond hc (by simpa using ihy h he)
    · cases h
  | block i c ih =>
    intro tm ds H nx R e h he
    simp only [sCode] at h
    split at h
    case h_2 => cases h
    rename_i R1 e1 h1
    cases h
    exact codeOk_block (ih h1 he)
  | loop c ih =>
    intro tm ds H nx R e h he
    simp only [sCode] at h
    split at h
    · rename_i x hf; exact takeC_ok (findC_ok hch hf) h he
    · split at h
      case h_2 => cases h
      rename_i R1 h1
      cases h
      exact evalCode_ok hE hsp _ h1
  | region id ops draw =>
    intro tm ds H nx R e h he
    cases draw with
    | false =>
      simp only [sCode] at h
      split at h
      case h_2 => cases h
      rename_i tm' H' nx' e' h1
      cases h
      refine codeOk_region ?_
      have := sList_ok (r := r) hk hE hsp (k := 0) (ops := ops) (fun j => by simp) h1 he
      rw [List.range_eq_range']
      simpa using this
    | true =>
      simp only [sCode] at h
      split at h
      case h_2 => cases h
      rename_i tm' H' nx' e' h1
      cases h
      exact sDraw_ok hk hE hsp h1 he
  | rangeFunc g ps assign body iha ihb =>
    intro tm ds H nx R e h he
    simp only [sCode] at h
    split at h
    · rename_i x hf; exact takeC_ok (findC_ok hch hf) h he
    · split at h
      case h_2 => cases h
      rename_i R1 h1
      cases h
      exact evalRange_ok hE hsp h1
  | scope c ih =>
    intro tm ds H nx R e h he
    cases r with
    | some l => simp [sCode] at h
    | none =>
      simp only [sCode] at h
      split at h
      · rename_i x hf; exact takeC_ok (findC_ok hch hf) h he
      split at h
      case h_2 => cases h
      rename_i R1 e1 h1
      split at h
      · cases h
      · rename_i hn; cases h; exact codeOk_scope (scpOk_out (ih h1 he) hn)
  | refuse s => intro tm ds H nx R e h he; simp [sCode] at h

/-- What a call hands out directly, and what is old. -/
def gcS (lo : Nat) (v : Value) (H : Hp) : Hp := Hp.only (fun b => decide (b < lo) || (refs 4 v).contains b) H
theorem gcS_sub (lo : Nat) (v : Value) (H : Hp) (b : Nat) (k : Blk) (h : (gcS lo v H).get b = some k) : H.get b = some k := by
  unfold gcS at h
  rw [Hp.get_only] at h
  split at h
  · exact h
  · cases h

/-- A function's call, with hints for its own code. -/
def sCall (P : Program) (hs : Hints) (ch : List CHint) (E : Ev) (f : FuncId) (args : List Value) (H : Hp) (nx : Nat) : Option (Value × Hp × Nat × Eqs) :=
  match P.funcs[f]? with
  | some fn => match fn.body with
    | some c => match sCode P hs ch E none c (args ++ List.replicate (fn.ntmps - args.length) undef) [] H nx with
      | some (R, e) => match (match R.e with | .normal => true | .ret => true | _ => false) with
        | true => match killDs R.ds R.H with
          | some H1 => match resA P H1 R.tm fn.results.toList with
            | some vs => some (retV vs, gcS nx (retV vs) H1, R.nx, e)
            | none => none
          | none => none
        | false => none
      | none => none
    | none => none
  | none => none
theorem sCall_ok {hs : Hints} (hk : HintsOk P hs) {ch : List CHint} (hch : CHintsOk P ch) {E : Ev} (hE : E.Ok P) (hsp : NoSpecial P) {f : FuncId} {args : List Value} {nx : Nat} {v : Value} {H' : Hp} {nx' : Nat} {e : Eqs} (h : sCall P hs ch E f args H nx = some (v, H', nx', e)) (he : e.Hold) :
    (∃ fn, P.funcs[f]? = some fn ∧ fn.body.isSome = true) ∧ CallOk P f args H nx v H' nx' := by
  unfold sCall at h
  split at h
  case h_2 => cases h
  rename_i fn hfn
  split at h
  case h_2 => cases h
  rename_i c hc
  split at h
  case h_2 => cases h
  rename_i R e1 hR
  split at h
  case h_2 => cases h
  rename_i hen
  split at h
  case h_2 => cases h
  rename_i H1 hkd
  split at h
  case h_2 => cases h
  rename_i vs hv
  cases h
  refine ⟨⟨fn, hfn, by rw [hc]; rfl⟩, callOk_of hfn hc (sCode_ok hk hch hE hsp c hR he) ?_ hkd hv (gcS_sub nx _ _)⟩
  cases hE2 : R.e <;> simp [hE2] at hen ⊢

/-! ### What the kernel checks -/
def lefts (e : Eqs) : List Value × List Code × List Hp := (e.vs.map (·.1), e.cs.map (·.1), e.hs.map (·.1))
def rights (e : Eqs) : List Value × List Code × List Hp := (e.vs.map (·.2), e.cs.map (·.2), e.hs.map (·.2))
theorem hold_of {e : Eqs} (h : lefts e = rights e) : e.Hold := by
  simp only [lefts, rights, Prod.mk.injEq] at h
  exact ⟨eqsV_of h.1, eqsC_of h.2.1, eqsH_of h.2.2⟩
def rightsO {α : Type} : Option (α × Eqs) → List Value × List Code × List Hp
  | some (_, e) => rights e
  | none => ([], [], [])
def callOut (x : Option (Value × Hp × Nat × Eqs)) : Option ((Value × Hp × Nat) × Eqs) := x.map fun y => ((y.1, y.2.1, y.2.2.1), y.2.2.2)
def leftsO {α : Type} : Option (α × Eqs) → Option (α × (List Value × List Code × List Hp))
  | some (a, e) => some (a, lefts e)
  | none => none
theorem out_of {α : Type} {x : Option (α × Eqs)} {a : α} (h : leftsO x = some (a, rightsO x)) : ∃ e, x = some (a, e) ∧ e.Hold := by
  cases x with
  | none => cases h
  | some y =>
    obtain ⟨b, e⟩ := y
    simp only [leftsO, rightsO, Option.some.injEq, Prod.mk.injEq] at h
    exact ⟨e, by rw [h.1], hold_of h.2⟩
/-- A call, by hints. -/
theorem call_by {hs : Hints} {ch : List CHint} {E : Ev} {f : FuncId} {args : List Value} {nx : Nat} {v : Value} {H' : Hp} {nx' : Nat} (hE : E.Ok P) (hsp : NoSpecial P) (hk : HintsOk P hs) (hch : CHintsOk P ch)
    (h : leftsO (callOut (sCall P hs ch E f args H nx)) = some ((v, H', nx'), rightsO (callOut (sCall P hs ch E f args H nx)))) : (∃ fn, P.funcs[f]? = some fn ∧ fn.body.isSome = true) ∧ CallOk P f args H nx v H' nx' := by
  obtain ⟨e, h1, h2⟩ := out_of h
  simp only [callOut, Option.map_eq_some_iff, Prod.mk.injEq] at h1
  obtain ⟨⟨a, b, c, d⟩, h3, ⟨rfl, rfl, rfl⟩, rfl⟩ := h1
  exact sCall_ok hk hch hE hsp h3 h2

/-- Code, by hints; what is new is forgotten. -/
def dropH (lo : Nat) : Hp → Hp
  | [] => []
  | (b, k) :: r => match decide (b < lo) with
    | true => (b, k) :: dropH lo r
    | false => dropH lo r
theorem dropH_tidy {lo : Nat} : ∀ {H : Hp}, hpBelow lo (dropH lo H) = true → tidyH lo H = dropH lo H
  | [], _ => rfl
  | (b, k) :: r, h => by
    cases hb : decide (b < lo) with
    | true =>
      simp only [dropH, hb, hpBelow, Bool.true_and, Bool.and_eq_true] at h
      simp only [tidyH, dropH, hb, h.1, Bool.and_self, dropH_tidy h.2]
    | false =>
      simp only [dropH, hb] at h
      simp only [tidyH, dropH, hb, Bool.false_and, dropH_tidy h]
def codeOut (lo : Nat) (pat : List Value) (x : Option (Res × Eqs)) : Option (Res × Eqs) := match x with
  | some (R, e) => match nodupN R.H && dsBelow lo R.ds with
    | true => some (⟨R.e, tidyT lo pat R.tm, R.ds, dropH lo R.H, lo⟩, e)
    | false => none
  | none => none
theorem code_by {hs : Hints} {ch : List CHint} {E : Ev} {r : Option Nat} {c : Code} {tm : List Value} {ds : List Nat} {nx : Nat} {R : Res} (hE : E.Ok P) (hsp : NoSpecial P) (hk : HintsOk P hs) (hch : CHintsOk P ch) (pat : List Value)
    (hpre : (nodupN H && tmBelow nx tm && dsBelow nx ds && rBelow nx r) = true) (hH : hpBelow nx H = true) (hH' : hpBelow nx R.H = true)
    (h : leftsO (codeOut nx pat (sCode P hs ch E r c tm ds H nx)) = some (R, rightsO (codeOut nx pat (sCode P hs ch E r c tm ds H nx)))) : CodeOk P r c tm ds H nx R := by
  obtain ⟨e, h1, h2⟩ := out_of h
  unfold codeOut at h1
  split at h1
  case h_2 => cases h1
  rename_i R1 e1 h3
  split at h1
  case h_2 => cases h1
  rename_i hn
  cases h1
  simp only [Bool.and_eq_true] at hn hpre
  obtain ⟨⟨⟨p1, p3⟩, p4⟩, p5⟩ := hpre
  have := codeOk_tidy (sCode_ok hk hch hE hsp c h3 h2) pat hn.1 hn.2 p1 hH p3 p4 p5
  unfold tidyR at this
  rwa [dropH_tidy hH'] at this
/-- The same; the pattern is what is said to come out. -/
theorem code_at {hs : Hints} {ch : List CHint} {E : Ev} {r : Option Nat} {c : Code} {tm : List Value} {ds : List Nat} {nx : Nat} {R : Res} (hE : E.Ok P) (hsp : NoSpecial P) (hk : HintsOk P hs) (hch : CHintsOk P ch)
    (hpre : (nodupN H && tmBelow nx tm && dsBelow nx ds && rBelow nx r) = true) (hH : hpBelow nx H = true) (hH' : hpBelow nx R.H = true)
    (h : leftsO (codeOut nx R.tm (sCode P hs ch E r c tm ds H nx)) = some (R, rightsO (codeOut nx R.tm (sCode P hs ch E r c tm ds H nx)))) : CodeOk P r c tm ds H nx R :=
  code_by hE hsp hk hch R.tm hpre hH hH' h
end Go.En
