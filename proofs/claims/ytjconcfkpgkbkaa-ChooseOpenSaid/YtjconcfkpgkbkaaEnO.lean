/- The engine, part O: evaluation with free variables. Where the evaluator would have to decide something about a variable, a hint says what comes out; what a hint relies on is collected as equations (to be checked by the kernel) or is proved beside. -/
import Derived.Test.YtjconcfkpgkbkaaEnN
namespace Go.En
set_option linter.unusedVariables false
variable {P : Program} {φ : Ren} {H : Hp} {K : Nat → Prop} {w : World}

/-- What is collected on the way. -/
structure Eqs where
  vs : List (Value × Value)
  cs : List (Code × Code)
  hs : List (Hp × Hp) := []
def Eqs.none : Eqs := ⟨[], [], []⟩
def Eqs.and (a b : Eqs) : Eqs := ⟨a.vs ++ b.vs, a.cs ++ b.cs, a.hs ++ b.hs⟩
def EqsV : List (Value × Value) → Prop
  | [] => True
  | e :: r => e.1 = e.2 ∧ EqsV r
def EqsC : List (Code × Code) → Prop
  | [] => True
  | e :: r => e.1 = e.2 ∧ EqsC r
def EqsH : List (Hp × Hp) → Prop
  | [] => True
  | e :: r => e.1 = e.2 ∧ EqsH r
def Eqs.Hold (e : Eqs) : Prop := EqsV e.vs ∧ EqsC e.cs ∧ EqsH e.hs
theorem eqsV_append {a b : List (Value × Value)} : EqsV (a ++ b) ↔ EqsV a ∧ EqsV b := by
  induction a with
  | nil => simp [EqsV]
  | cons x a ih => simp only [List.cons_append, EqsV, ih, and_assoc]
theorem eqsC_append {a b : List (Code × Code)} : EqsC (a ++ b) ↔ EqsC a ∧ EqsC b := by
  induction a with
  | nil => simp [EqsC]
  | cons x a ih => simp only [List.cons_append, EqsC, ih, and_assoc]
theorem eqsH_append {a b : List (Hp × Hp)} : EqsH (a ++ b) ↔ EqsH a ∧ EqsH b := by
  induction a with
  | nil => simp [EqsH]
  | cons x a ih => simp only [List.cons_append, EqsH, ih, and_assoc]
theorem Eqs.hold_and {a b : Eqs} : (a.and b).Hold ↔ a.Hold ∧ b.Hold := by
  simp only [Eqs.Hold, Eqs.and, eqsV_append, eqsC_append, eqsH_append]
  constructor
  · rintro ⟨⟨h1, h2⟩, ⟨h3, h4⟩, h5, h6⟩; exact ⟨⟨h1, h3, h5⟩, h2, h4, h6⟩
  · rintro ⟨⟨h1, h3, h5⟩, h2, h4, h6⟩; exact ⟨⟨h1, h2⟩, ⟨h3, h4⟩, h5, h6⟩
theorem eqsV_of : ∀ {l : List (Value × Value)}, l.map (·.1) = l.map (·.2) → EqsV l
  | [], _ => trivial
  | x :: l, h => by simp only [List.map_cons, List.cons.injEq] at h; exact ⟨h.1, eqsV_of h.2⟩
theorem eqsC_of : ∀ {l : List (Code × Code)}, l.map (·.1) = l.map (·.2) → EqsC l
  | [], _ => trivial
  | x :: l, h => by simp only [List.map_cons, List.cons.injEq] at h; exact ⟨h.1, eqsC_of h.2⟩

theorem eqsH_of : ∀ {l : List (Hp × Hp)}, l.map (·.1) = l.map (·.2) → EqsH l
  | [], _ => trivial
  | x :: l, h => by simp only [List.map_cons, List.cons.injEq] at h; exact ⟨h.1, eqsH_of h.2⟩

inductive Hint where
  /-- the operation by itself gives v0, and that is v -/
  | val (v0 v : Value)
  /-- a call that is known -/
  | call (m : Memo)
  /-- an element's address: a name of its own for the element -/
  | win (t : TypeId) (x i : Value) (b off : Nat) (cs0 cs : List Value)
  /-- a load from a place that is not literal -/
  | ld (t : TypeId) (p : Value) (b : Nat) (cs0 : List Value) (ro : Bool) (v : Value)
  /-- an element's address, as it is -/
  | ix (t : TypeId) (x i v : Value)
  /-- a store to a place that is not literal -/
  | st (t : TypeId) (p x : Value) (b : Nat) (cs0 cs1 : List Value)
  /-- a new variable that nobody turns any more -/
  | frz
  /-- a part of a slice, where its bounds are not literal -/
  | slc (t : TypeId) (x : Value) (lo hi mx : Option Value) (v : Value)
  /-- an append that makes a new block: what it is handed, the blocks that it looks at, the new length, capacity and cells -/
  | app (ats : List TypeId) (ty : TypeId) (ins : List Value) (V : List (Nat × List Value)) (dl : Option Nat) (len cap : Nat) (new : List Value)
  /-- a slice that is made, its length not literal -/
  | mk (t : TypeId) (l c : Value) (len : Nat) (new : List Value)
  /-- a call of one of several functions, each known -/
  | calls (ms : List Memo)
  /-- an operation with two operands -/
  | bin (op : BinOp) (t : TypeId) (a b v : Value)
  /-- an operation of which it is known what it comes to, on a heap -/
  | any (o : Oper) (ins : List Value) (H : Hp) (nx : Nat) (v : Value) (H' : Hp) (nx' : Nat)

def MemosOk (P : Program) : List Memo → Prop
  | [] => True
  | m :: r => m.Ok P ∧ MemosOk P r
def findM : List Memo → FuncId → Option Memo
  | [], _ => none
  | m :: r, f => if m.f == f then some m else findM r f
theorem findM_ok : ∀ {ms : List Memo}, MemosOk P ms → ∀ {f : FuncId} {m : Memo}, findM ms f = some m → m.Ok P
  | [], _, f, m, h => by cases h
  | x :: r, hk, f, m, h => by
    simp only [findM] at h
    split at h
    · cases h; exact hk.1
    · exact findM_ok hk.2 h
/-- A block that is given up (it must be ours to turn). -/
def rwO (H : Hp) : Option Nat → Bool
  | none => true
  | some b => match H.get b with
    | some (.cells _ false) => true
    | _ => false
def delO (H : Hp) : Option Nat → Hp
  | none => H
  | some b => H.del b
def Hint.Ok (P : Program) : Hint → Prop
  | .val v0 v => v0 = v
  | .call m => m.Ok P
  | .win t x i b off cs0 cs => doIndexAddr P t x i = some (.pointer (some ⟨b, off, none⟩)) ∧ ∀ (j : Nat) v, cs[j]? = some v → cs0[off + j]? = some v
  | .ld t p b cs0 ro v => doLoad P [(b, .cells cs0 ro)] t p = some v ∧ ∃ o, p = .pointer (some ⟨b, o, none⟩)
  | .ix t x i v => doIndexAddr P t x i = some v
  | .st t p x b cs0 cs1 => doStore P [(b, .cells cs0 false)] t p x = some [(b, .cells cs1 false)] ∧ ∃ o, p = .pointer (some ⟨b, o, none⟩)
  | .frz => True
  | .slc t x lo hi mx v => doSlice P t x lo hi mx = some v
  | .app ats ty ins V dl len cap new => ∀ (H : Hp) (nx : Nat), (∀ b cs, (b, cs) ∈ V → ∃ ro, H.get b = some (.cells cs ro)) → rwO H dl = true → doBuiltin P H nx .append ats ty ins = some (.slice (some ⟨nx, 0, none⟩) len cap, (nx, .cells new false) :: delO H dl, nx + 1)
  | .mk t l c len new => ∀ (H : Hp) (nx : Nat), doMakeSlice P H nx t l c = some (.slice (some ⟨nx, 0, none⟩) len len, (nx, .cells new false) :: H, nx + 1)
  | .calls ms => MemosOk P ms
  | .bin op t a b v => ∀ xo yo, doBin P op t xo yo a b = some v
  | .any o ins H nx v H' nx' => ∀ (r : Option Nat) (tm : List Value), opvs tm o.op.operands.toList = some ins → OpOk P r o tm H nx v H' nx'

abbrev Hints := List (Nat × Hint)
def Hints.find : Hints → Nat → Option Hint
  | [], _ => none
  | (d, h) :: r, n => if d == n then some h else Hints.find r n
def HintsOk (P : Program) : Hints → Prop
  | [] => True
  | h :: r => h.2.Ok P ∧ HintsOk P r
theorem HintsOk.find : ∀ {hs : Hints}, HintsOk P hs → ∀ {d : Nat} {h : Hint}, hs.find d = some h → h.Ok P
  | [], _, d, h, hf => by cases hf
  | x :: r, hk, d, h, hf => by
    obtain ⟨e, k⟩ := x
    simp only [Hints.find] at hf
    split at hf
    · cases hf; exact hk.1
    · exact HintsOk.find hk.2 hf

/-- The blocks that a known call looks at, as equations. -/
def viewEqs (H : Hp) : List (Nat × List Value) → Option (List (Value × Value))
  | [] => some []
  | (b, cs) :: r => match H.get b with
    | some (.cells ds _) => match viewEqs H r with
      | some l => some ((.tuple cs.toArray, .tuple ds.toArray) :: l)
      | none => none
    | _ => none
theorem tuple_inj {a b : List Value} (h : Value.tuple a.toArray = Value.tuple b.toArray) : a = b := by
  have := Value.tuple.inj h
  simpa using congrArg Array.toList this
theorem viewEqs_get {b : Nat} {k : Blk} : ∀ {V : List (Nat × List Value)} {l : List (Value × Value)}, viewEqs H V = some l → EqsV l → (roHp V).get b = some k → ∃ k0, H.get b = some k0 ∧ k = seen1 (fun _ => false) (fun _ => false) b k0
  | [], l, _, _, h => by simp [roHp, Hp.get] at h
  | (c, cs) :: r, l, hl, he, h => by
    simp only [viewEqs] at hl
    split at hl
    case h_2 => cases hl
    rename_i ds ro hg
    split at hl
    case h_2 => cases hl
    rename_i l' hl'
    cases hl
    have h1 := tuple_inj he.1
    by_cases hc : c = b
    · subst hc
      simp [roHp, Hp.get] at h
      subst h
      exact ⟨_, hg, by rw [h1]; simp [seen1]⟩
    · simp [roHp, Hp.get, hc] at h
      exact viewEqs_get hl' he.2 h

theorem viewEqs_mem {b : Nat} {cs : List Value} : ∀ {V : List (Nat × List Value)} {l : List (Value × Value)}, viewEqs H V = some l → EqsV l → (b, cs) ∈ V → ∃ ro, H.get b = some (.cells cs ro)
  | [], l, _, _, h => by cases h
  | (c, ds) :: r, l, hl, he, h => by
    simp only [viewEqs] at hl
    split at hl
    case h_2 => cases hl
    rename_i es ro hg
    split at hl
    case h_2 => cases hl
    rename_i l' hl'
    cases hl
    have h1 := tuple_inj he.1
    rcases List.mem_cons.1 h with h | h
    · cases h
      exact ⟨ro, by rw [hg, h1]⟩
    · exact viewEqs_mem hl' he.2 h
def eqDs : List Nat → List Nat → Bool
  | [], [] => true
  | a :: x, b :: y => a == b && eqDs x y
  | _, _ => false
theorem eqDs_eq : ∀ {a b : List Nat}, eqDs a b = true → a = b
  | [], [], _ => rfl
  | a :: x, b :: y, h => by simp [eqDs] at h; rw [h.1, eqDs_eq h.2]
  | [], _ :: _, h => by simp [eqDs] at h
  | _ :: _, [], h => by simp [eqDs] at h

/-- A known call, taken. -/
def takeMemo (m : Memo) (f : FuncId) (args : List Value) (H : Hp) (nx : Nat) : Option (Value × Hp × Nat × Eqs) :=
  if m.f == f && m.nx == nx && inNew m.nx m.nx' m.new && below m.nx m.V then match viewEqs H m.V with
    | some l => some (m.v, rwHp m.new ++ H, m.nx', ⟨(.tuple m.args.toArray, .tuple args.toArray) :: l, [], []⟩)
    | none => none
  else none
theorem takeMemo_ok {m : Memo} (hm : m.Ok P) {f : FuncId} {args : List Value} {H : Hp} {nx : Nat} {v : Value} {H' : Hp} {nx' : Nat} {e : Eqs} (h : takeMemo m f args H nx = some (v, H', nx', e)) (he : e.Hold) :
    (∃ fn, P.funcs[f]? = some fn ∧ fn.body.isSome = true) ∧ CallOk P f args H nx v H' nx' := by
  unfold takeMemo at h
  split at h
  case isFalse => cases h
  rename_i hc
  split at h
  case h_2 => cases h
  rename_i l hl
  cases h
  simp only [Bool.and_eq_true, beq_iff_eq] at hc
  obtain ⟨⟨⟨h1, h2⟩, h5⟩, h6⟩ := hc
  subst h1; subst h2
  have h3 := tuple_inj he.1.1
  subst h3
  exact ⟨hm.1, memo_use hm (fun b k hb => viewEqs_get hl he.1.2 hb) h5 h6⟩

/-! ### One operation with a hint -/
theorem doLoad_at {t : TypeId} {b : Nat} {cs : List Value} {ro : Bool} {o : Nat} {v : Value} (hb : H.get b = some (.cells cs ro)) (h : doLoad P [(b, .cells cs ro)] t (.pointer (some ⟨b, o, none⟩)) = some v) : doLoad P H t (.pointer (some ⟨b, o, none⟩)) = some v := by
  simp only [doLoad, hb]
  simpa [doLoad, Hp.get] using h
theorem doStore_at {t : TypeId} {b : Nat} {cs cs1 : List Value} {o : Nat} {x : Value} (hb : H.get b = some (.cells cs false)) (h : doStore P [(b, .cells cs false)] t (.pointer (some ⟨b, o, none⟩)) x = some [(b, .cells cs1 false)]) :
    doStore P H t (.pointer (some ⟨b, o, none⟩)) x = some H ∧ cs1 = cs ∨ doStore P H t (.pointer (some ⟨b, o, none⟩)) x = some (H.set b (.cells cs1 false)) := by
  simp only [doStore, hb]
  simp only [doStore, Hp.get, beq_self_eq_true, if_true] at h
  split at h
  case h_2 => cases h
  rename_i cs' i h1 h2
  cases h1
  split at h
  case isFalse => cases h
  rename_i hc
  simp only [hc, if_true]
  split at h
  · rename_i hem
    simp only [Option.some.injEq, List.cons.injEq, Prod.mk.injEq, Blk.cells.injEq, and_true, true_and] at h
    left
    simp only [hem, if_true]
    exact ⟨trivial, h.symm⟩
  · rename_i hem
    simp only [Hp.set, beq_self_eq_true, if_true, Option.some.injEq, List.cons.injEq, Prod.mk.injEq, Blk.cells.injEq, and_true, true_and] at h
    right
    simp only [hem, h]
    rfl

/-- An address of a part that is only read, under a name of its own. -/
theorem OpOk.win {r : Option Nat} {o : Oper} {tm : List Value} {nx : Nat} {b off : Nat} {cs0 cs : List Value} (h : OpOk P r o tm H nx (.pointer (some ⟨b, off, none⟩)) H nx) (hb : H.get b = some (.cells cs0 true))
    (hc : ∀ (j : Nat) v, cs[j]? = some v → cs0[off + j]? = some v) : OpOk P r o tm H nx (.pointer (some ⟨nx, 0, none⟩)) ((nx, .cells cs true) :: H) (nx + 1) := by
  refine ⟨by omega, fun φ w K a rc next Q g hf ht hr hk => h.2 φ w K a rc next Q g (fun b h1 h2 => by omega) ht hr ?_⟩
  intro v' φ' w' hv he hg hw
  have hfe : φ' = φ := by funext c; exact he.2 c (by omega)
  rw [hfe] at hv hg
  cases hv with
  | ptr _ _ L hL =>
    have hn : φ nx = none := hf nx (Nat.le_refl _) (by omega)
    have hle : φ.le (φ.put nx ⟨L.blk, L.off + off, 0⟩) := Ren.put_le hn _
    have hHn := hg.absent hn
    have hnew : (φ.put nx ⟨L.blk, L.off + off, 0⟩) nx = some ⟨L.blk, L.off + off, 0⟩ := by simp [Ren.put]
    have hold : ∀ c, c ≠ nx → (φ.put nx ⟨L.blk, L.off + off, 0⟩) c = φ c := fun c hc => by simp [Ren.put, hc]
    have hbn : b ≠ nx := by rintro rfl; rw [hb] at hHn; cases hHn
    have hbr := hg.at hb hL
    refine hk _ (φ.put nx ⟨L.blk, L.off + off, 0⟩) w' ?_ ⟨hle, fun c hc => hold c (by omega)⟩ ?_ hw
    · have := VRel.ptr (φ := φ.put nx ⟨L.blk, L.off + off, 0⟩) nx 0 _ hnew
      simpa using this
    · have hget : ∀ c k, Hp.get ((nx, .cells cs true) :: H) c = some k → (c = nx ∧ k = .cells cs true) ∨ (c ≠ nx ∧ H.get c = some k) := by
        intro c k hc'
        by_cases hcn : nx = c
        · subst hcn; simp [Hp.get] at hc'; exact .inl ⟨rfl, hc'.symm⟩
        · simp [Hp.get, hcn] at hc'; exact .inr ⟨fun e => hcn e.symm, hc'⟩
      refine ⟨fun c k hck => ?_, fun c d k k' L1 L2 hck hdk hne hkr h1 h2 => ?_, fun c k L1 hck hkr h1 => ?_, hg.kin⟩
      · rcases hget c k hck with ⟨rfl, rfl⟩ | ⟨hcn, hck⟩
        · refine ⟨_, hnew, ?_⟩
          obtain ⟨arr, el, fr, e1, e2, e3⟩ := hbr
          refine ⟨arr, el, fr, e1, fun j v hv => ?_, fun h => by cases h⟩
          obtain ⟨v', f1, f2⟩ := e2 (off + j) v (hc j v hv)
          exact ⟨v', by rw [← f1]; congr 1; dsimp only; omega, f2.mono hle⟩
        · obtain ⟨L1, h1, h2⟩ := hg.rel c k hck
          exact ⟨L1, by rw [hold c hcn]; exact h1, h2.mono hle⟩
      · rcases hget c k hck with ⟨rfl, rfl⟩ | ⟨hcn, hck2⟩
        · simp [Blk.rw] at hkr
        · rw [hold c hcn] at h1
          rcases hget d k' hdk with ⟨rfl, rfl⟩ | ⟨hdn, hdk2⟩
          · rw [hnew] at h2
            cases h2
            by_cases hcb : c = b
            · subst hcb; rw [hb] at hck2; cases hck2; simp [Blk.rw] at hkr
            · exact hg.sep c b k _ L1 L hck2 hb hcb hkr h1 hL
          · rw [hold d hdn] at h2
            exact hg.sep c d k k' L1 L2 hck2 hdk2 hne hkr h1 h2
      · rcases hget c k hck with ⟨rfl, rfl⟩ | ⟨hcn, hck⟩
        · simp [Blk.rw] at hkr
        · rw [hold c hcn] at h1
          exact hg.prot c k L1 hck hkr h1

/-- A new variable that is only read from now on. -/
theorem OpOk.frz {r : Option Nat} {o : Oper} {tm : List Value} {nx nx' : Nat} {v : Value} {b : Nat} {cs : List Value} {H1 : Hp} (h : OpOk P r o tm H nx v ((b, .cells cs false) :: H1) nx') : OpOk P r o tm H nx v ((b, .cells cs true) :: H1) nx' := by
  refine ⟨h.1, fun φ w K a rc next Q g hf ht hr hk => h.2 φ w K a rc next Q g hf ht hr ?_⟩
  intro v' φ' w' hv he hg hw
  refine hk v' φ' w' hv he ?_ hw
  have hget : ∀ c k, Hp.get ((b, .cells cs true) :: H1) c = some k → (k = .cells cs true ∧ c = b) ∨ (c ≠ b ∧ Hp.get ((b, .cells cs false) :: H1) c = some k) := by
    intro c k hc
    by_cases hcb : b = c
    · subst hcb; simp [Hp.get] at hc; exact .inl ⟨hc.symm, rfl⟩
    · simp [Hp.get, hcb] at hc; exact .inr ⟨fun e => hcb e.symm, by simp [Hp.get, hcb, hc]⟩
  have hb : Hp.get ((b, .cells cs false) :: H1) b = some (.cells cs false) := by simp [Hp.get]
  refine ⟨fun c k hck => ?_, fun c d k k' L1 L2 hck hdk hne hkr h1 h2 => ?_, fun c k L1 hck hkr h1 => ?_, hg.kin⟩
  · rcases hget c k hck with ⟨rfl, rfl⟩ | ⟨_, hck⟩
    · obtain ⟨L, h1, arr, el, fr, e1, e2, e3⟩ := hg.rel c _ hb
      exact ⟨L, h1, arr, el, fr, e1, e2, fun h => by cases h⟩
    · exact hg.rel c k hck
  · rcases hget c k hck with ⟨rfl, rfl⟩ | ⟨_, hck⟩
    · simp [Blk.rw] at hkr
    · rcases hget d k' hdk with ⟨rfl, rfl⟩ | ⟨_, hdk⟩
      · exact hg.sep c d k _ L1 L2 hck hb hne hkr h1 h2
      · exact hg.sep c d k k' L1 L2 hck hdk hne hkr h1 h2
  · rcases hget c k hck with ⟨rfl, rfl⟩ | ⟨_, hck⟩
    · simp [Blk.rw] at hkr
    · exact hg.prot c k L1 hck hkr h1

/-- An optional value as a list of two. -/
def optL : Option Value → List Value
  | none => [.bool false, .nilFunc]
  | some v => [.bool true, v]
theorem optL_inj {a b : Option Value} (h : optL a = optL b) : a = b := by
  cases a <;> cases b <;> simp [optL] at h <;> simp [h]
theorem optL_len (a : Option Value) : (optL a).length = 2 := by cases a <;> rfl

/-- Where an operation's hint is kept: under its temporary, or, for a store, under its address' temporary + 100000. -/
def hkey (o : Oper) : Nat := match o.dst with | some d => d | none => match o.op with | .store _ (.tmp t) _ => t + 100000 | _ => 100000

/-- One operation, with the hint for its temporary (or, for a store, for its address' temporary + 100000). -/
def sOp (P : Program) (hs : Hints) (E : Ev) (tm : List Value) (H : Hp) (nx : Nat) (o : Oper) : Option (Value × Hp × Nat × Eqs) :=
  match hs.find (hkey o) with
  | none => (evalOp P E tm H nx o).map fun x => (x.1, x.2.1, x.2.2, Eqs.none)
  | some (.val v0 v) => (evalOp P E tm H nx o).map fun x => (v, x.2.1, x.2.2, ⟨[(v0, x.1)], [], []⟩)
  | some (.call m) => match o.op with
    | .call { callee := .value cf, args := args, argTypes := _ } => match opv tm cf, opvs tm args.toList with
      | some (.func (.func f) fs cs), some vs => takeMemo m f (fs.toList ++ vs ++ cs.toList) H nx
      | _, _ => none
    | _ => none
  | some (.win t x i b off cs0 cs) => match o.op with
    | .indexAddr t' xo io => match opv tm xo, opv tm io, H.get b with
      | some x', some i', some (.cells cs0' true) => if t == t' then some (.pointer (some ⟨nx, 0, none⟩), (nx, .cells cs true) :: H, nx + 1, ⟨[(x, x'), (i, i'), (.tuple cs0.toArray, .tuple cs0'.toArray)], [], []⟩) else none
      | _, _, _ => none
    | _ => none
  | some (.ix t x i v) => match o.op with
    | .indexAddr t' xo io => match opv tm xo, opv tm io with
      | some x', some i' => if t == t' then some (v, H, nx, ⟨[(x, x'), (i, i')], [], []⟩) else none
      | _, _ => none
    | _ => none
  | some (.ld t p b cs0 ro v) => match o.op with
    | .load t' po => match opv tm po, H.get b with
      | some p', some (.cells cs0' ro') => if t == t' && ro == ro' then some (v, H, nx, ⟨[(p, p'), (.tuple cs0.toArray, .tuple cs0'.toArray)], [], []⟩) else none
      | _, _ => none
    | _ => none
  | some (.st t p x b cs0 cs1) => match o.op with
    | .store t' po xo => match opv tm po, opv tm xo, H.get b with
      | some p', some x', some (.cells cs0' false) => if t == t' then some (undef, H.set b (.cells cs1 false), nx, ⟨[(p, p'), (x, x'), (.tuple cs0.toArray, .tuple cs0'.toArray)], [], []⟩) else none
      | _, _, _ => none
    | _ => none
  | some .frz => match evalOp P E tm H nx o with
    | some (v, (b, .cells cs false) :: H1, nx') => some (v, (b, .cells cs true) :: H1, nx', Eqs.none)
    | _ => none
  | some (.slc t x lo hi mx v) => match o.op with
    | .slice t' xo loo hio mxo => match opv tm xo, opvo tm loo, opvo tm hio, opvo tm mxo with
      | some x', some lo', some hi', some mx' => if t == t' then some (v, H, nx, ⟨[(.tuple (x :: (optL lo ++ optL hi ++ optL mx)).toArray, .tuple (x' :: (optL lo' ++ optL hi' ++ optL mx')).toArray)], [], []⟩) else none
      | _, _, _, _ => none
    | _ => none
  | some (.app ats ty ins V dl len cap new) => match o.op with
    | .call { callee := .builtin .append, args := args, argTypes := ats' } => match opvs tm args.toList, viewEqs H V with
      | some ins', some l => if eqDs ats ats'.toList && ty == o.type && rwO H dl then some (.slice (some ⟨nx, 0, none⟩) len cap, (nx, .cells new false) :: delO H dl, nx + 1, ⟨(.tuple ins.toArray, .tuple ins'.toArray) :: l, [], []⟩) else none
      | _, _ => none
    | _ => none
  | some (.mk t l c len new) => match o.op with
    | .makeSlice t' lo co => match opv tm lo, opv tm co with
      | some l', some c' => if t == t' then some (.slice (some ⟨nx, 0, none⟩) len len, (nx, .cells new false) :: H, nx + 1, ⟨[(l, l'), (c, c')], [], []⟩) else none
      | _, _ => none
    | _ => none
  | some (.calls ms) => match o.op with
    | .call { callee := .value cf, args := args, argTypes := _ } => match opv tm cf, opvs tm args.toList with
      | some (.func (.func f) fs cs), some vs => match findM ms f with
        | some m => takeMemo m f (fs.toList ++ vs ++ cs.toList) H nx
        | none => none
      | _, _ => none
    | _ => none
  | some (.bin op t a b v) => match o.op with
    | .binOp op' t' xo yo _ => match opv tm xo, opv tm yo with
      | some a', some b' => if t == t' && decide (op = op') then some (v, H, nx, ⟨[(a, a'), (b, b')], [], []⟩) else none
      | _, _ => none
    | _ => none
  | some (.any o0 ins H0 nx0 v H' nx') => match opvs tm o.op.operands.toList with
    | some ins' => if nx0 == nx then some (v, H', nx', ⟨[(.tuple ins.toArray, .tuple ins'.toArray)], [(.region 0 #[o0] false, .region 0 #[o] false)], [(H0, H)]⟩) else none
    | none => none

theorem set_same : ∀ {H : Hp} {b : Nat} {k : Blk}, H.get b = some k → H.set b k = H
  | [], b, k, h => by cases h
  | (c, x) :: r, b, k, h => by
    by_cases hc : c = b
    · subst hc; simp [Hp.get] at h; subst h; simp [Hp.set]
    · simp [Hp.get, hc] at h; simp [Hp.set, hc, set_same h]

theorem sOp_ok {hs : Hints} (hk : HintsOk P hs) {E : Ev} (hE : E.Ok P) (hsp : NoSpecial P) {r : Option Nat} {o : Oper} {tm : List Value} {nx : Nat} {v : Value} {H' : Hp} {nx' : Nat} {e : Eqs} (h : sOp P hs E tm H nx o = some (v, H', nx', e)) (he : e.Hold) : OpOk P r o tm H nx v H' nx' := by
  unfold sOp at h
  split at h
  · simp only [Option.map_eq_some_iff, Prod.mk.injEq] at h
    obtain ⟨⟨x1, x2, x3⟩, hx, rfl, rfl, rfl, rfl⟩ := h
    exact evalOp_ok hE hsp hx
  · rename_i v0 v1 hf
    simp only [Option.map_eq_some_iff, Prod.mk.injEq] at h
    obtain ⟨⟨x1, x2, x3⟩, hx, rfl, rfl, rfl, rfl⟩ := h
    have h1 : v0 = v1 := hk.find hf
    have h2 : v0 = x1 := he.1.1
    rw [← h1, h2]
    exact evalOp_ok hE hsp hx
  · rename_i m hf
    split at h
    case h_2 => cases h
    rename_i cf args ats ho
    split at h
    case h_2 => cases h
    rename_i f fs cs vs hcf hvs
    obtain ⟨⟨fn, hfn, hb⟩, hc⟩ := takeMemo_ok (hk.find hf) h he
    exact opOk_call ho hsp hfn hb hcf hvs hc
  · rename_i t x i b off cs0 cs hf
    split at h
    case h_2 => cases h
    rename_i t' xo io ho
    split at h
    case h_2 => cases h
    rename_i x' i' cs0' hx hi hb
    split at h
    case isFalse => cases h
    rename_i ht
    simp only [beq_iff_eq] at ht
    subst ht
    cases h
    obtain ⟨e1, e2, e3, _⟩ := he.1
    dsimp only at e1 e2 e3
    have e3 := tuple_inj e3
    obtain ⟨k1, k2⟩ := hk.find hf
    rw [e1, e2] at k1
    rw [e3] at k2
    refine OpOk.win (opOk_plain ?_) hb k2
    unfold doOp
    simp only [ho, hx, hi, Option.bind_some, k1, un1, Option.map_some]
  · rename_i t x i v0 hf
    split at h
    case h_2 => cases h
    rename_i t' xo io ho
    split at h
    case h_2 => cases h
    rename_i x' i' hx hi
    split at h
    case isFalse => cases h
    rename_i ht
    simp only [beq_iff_eq] at ht
    subst ht
    cases h
    obtain ⟨e1, e2, _⟩ := he.1
    dsimp only at e1 e2
    have k1 : doIndexAddr P t x i = some v := hk.find hf
    rw [e1, e2] at k1
    refine opOk_plain ?_
    unfold doOp
    simp only [ho, hx, hi, Option.bind_some, k1, un1, Option.map_some]
  · rename_i t p b cs0 ro v0 hf
    split at h
    case h_2 => cases h
    rename_i t' po ho
    split at h
    case h_2 => cases h
    rename_i p' cs0' ro' hp hb
    split at h
    case isFalse => cases h
    rename_i ht
    simp only [Bool.and_eq_true, beq_iff_eq] at ht
    obtain ⟨rfl, rfl⟩ := ht
    cases h
    obtain ⟨e1, e2, _⟩ := he.1
    dsimp only at e1 e2
    have e2 := tuple_inj e2
    obtain ⟨k1, q, rfl⟩ := hk.find hf
    rw [e2] at k1
    refine opOk_plain ?_
    unfold doOp
    simp only [ho, hp, Option.bind_some, ← e1, doLoad_at hb k1, un1, Option.map_some]
  · rename_i t p x b cs0 cs1 hf
    split at h
    case h_2 => cases h
    rename_i t' po xo ho
    split at h
    case h_2 => cases h
    rename_i p' x' cs0' hp hx hb
    split at h
    case isFalse => cases h
    rename_i ht
    simp only [beq_iff_eq] at ht
    subst ht
    cases h
    obtain ⟨e1, e2, e3, _⟩ := he.1
    dsimp only at e1 e2 e3
    have e3 := tuple_inj e3
    obtain ⟨k1, q, rfl⟩ := hk.find hf
    rw [e3] at k1
    refine opOk_plain ?_
    unfold doOp
    simp only [ho, hp, hx, Option.bind_some, ← e1, ← e2]
    rcases doStore_at hb k1 with ⟨h1, rfl⟩ | h1
    · rw [h1, set_same hb]; rfl
    · rw [h1]; rfl
  · split at h
    case h_2 => cases h
    rename_i v1 b cs H1 nx1 hx
    cases h
    exact (evalOp_ok hE hsp hx).frz
  · rename_i t x lo hi mx v0 hf
    split at h
    case h_2 => cases h
    rename_i t' xo loo hio mxo ho
    split at h
    case h_2 => cases h
    rename_i x' lo' hi' mx' hx hlo hhi hmx
    split at h
    case isFalse => cases h
    rename_i ht
    simp only [beq_iff_eq] at ht
    subst ht
    cases h
    have e1 := tuple_inj he.1.1
    simp only [List.cons.injEq] at e1
    obtain ⟨e1, e2⟩ := e1
    have e3 := List.append_inj e2 (by simp [optL_len])
    have e4 := List.append_inj e3.1 (by simp [optL_len])
    have k1 : doSlice P t x lo hi mx = some v := hk.find hf
    rw [e1, optL_inj e4.1, optL_inj e4.2, optL_inj e3.2] at k1
    refine opOk_plain ?_
    unfold doOp
    simp only [ho, hx, hlo, hhi, hmx, Option.bind_some, k1, un1, Option.map_some]
  · rename_i ats ty ins V dl len cap new hf
    split at h
    case h_2 => cases h
    rename_i args ats' ho
    split at h
    case h_2 => cases h
    rename_i ins' l hins hl
    split at h
    case isFalse => cases h
    rename_i ht
    simp only [Bool.and_eq_true, beq_iff_eq] at ht
    obtain ⟨⟨h1, rfl⟩, h2⟩ := ht
    have h1 := eqDs_eq h1
    subst h1
    cases h
    have e1 := tuple_inj he.1.1
    subst e1
    have k1 := hk.find hf H nx (fun b cs hb => viewEqs_mem hl he.1.2 hb) h2
    refine opOk_plain ?_
    unfold doOp
    simp only [ho, hins, Option.bind_some, k1]
  · rename_i t l c len new hf
    split at h
    case h_2 => cases h
    rename_i t' lo co ho
    split at h
    case h_2 => cases h
    rename_i l' c' hl hc
    split at h
    case isFalse => cases h
    rename_i ht
    simp only [beq_iff_eq] at ht
    subst ht
    cases h
    obtain ⟨e1, e2, _⟩ := he.1
    dsimp only at e1 e2
    have k1 := hk.find hf H nx
    rw [e1, e2] at k1
    refine opOk_plain ?_
    unfold doOp
    simp only [ho, hl, hc, Option.bind_some, k1]
  · rename_i ms hf
    split at h
    case h_2 => cases h
    rename_i cf args ats ho
    split at h
    case h_2 => cases h
    rename_i f fs cs vs hcf hvs
    split at h
    case h_2 => cases h
    rename_i m hm
    obtain ⟨⟨fn, hfn, hb⟩, hc⟩ := takeMemo_ok (findM_ok (hk.find hf) hm) h he
    exact opOk_call ho hsp hfn hb hcf hvs hc
  · rename_i op t a b v0 hf
    split at h
    case h_2 => cases h
    rename_i op' t' xo yo yt ho
    split at h
    case h_2 => cases h
    rename_i a' b' ha hb
    split at h
    case isFalse => cases h
    rename_i ht
    simp only [Bool.and_eq_true, beq_iff_eq, decide_eq_true_eq] at ht
    obtain ⟨rfl, rfl⟩ := ht
    cases h
    obtain ⟨e1, e2, _⟩ := he.1
    dsimp only at e1 e2
    have k1 : ∀ xo yo, doBin P op t xo yo a b = some v := hk.find hf
    rw [e1, e2] at k1
    refine opOk_plain ?_
    unfold doOp
    simp only [ho, ha, hb, Option.bind_some, k1, un1, Option.map_some]
  · rename_i o0 ins H0 nx0 v0 H0' nx0' hf
    split at h
    case h_2 => cases h
    rename_i ins' hins
    split at h
    case isFalse => cases h
    rename_i hn
    simp only [beq_iff_eq] at hn
    subst hn
    cases h
    obtain ⟨⟨e1, _⟩, ⟨e2, _⟩, e3, _⟩ := he
    have e1 := tuple_inj e1
    have e2 : o0 = o := by simpa using e2
    have e3 : H0 = H := e3
    subst e1; subst e2; subst e3
    exact hk.find hf r tm hins
end Go.En
