/- The engine, part I: an operation of a region: plain, a call, a round of a loop over a function. -/
import Derived.Test.YtecplekkoikmmaaGreatEnH
noncomputable section
namespace Go.En
set_option linter.unusedVariables false
variable {P : Program} {φ : Ren} {H : Hp} {K : Nat → Prop} {w : World}

def OpOk (P : Program) (r : Option Nat) (o : Oper) (tm : List Value) (H : Hp) (nx : Nat) (v : Value) (H' : Hp) (nx' : Nat) : Prop :=
  nx ≤ nx' ∧ ∀ (φ : Ren) (w : World) (K : Nat → Prop) (a : Act) (rc : Option Nat) (next : Act → World → Prop) (Q : Exit → Act → World → Prop), Good φ H K w → Fresh φ nx nx' → TRel φ tm a.tmps → RRel φ r rc →
    (∀ v' φ' w', VRel φ' v v' → Ext φ φ' nx nx' → Good φ' H' K w' → Went K w w' → next (a.put o.dst v') w') → o.wpIn (fw rc) 0 P a w next Q

theorem about_fw {rc : Option Nat} {o : Oper} {a : Act} {w : World} : ∀ f, o.about P w a.eval = some f → (fw rc).fn f := fun _ _ => trivial

theorem doOp_nodefer {tm : List Value} {nx : Nat} {o : Oper} {x : Value × Hp × Nat} (h : doOp P tm H nx o = some x) : ∀ c, o.op ≠ .defer c := by
  intro c hc
  unfold doOp at h
  simp [hc] at h

theorem doOp_le {tm : List Value} {nx : Nat} {o : Oper} {v : Value} {H' : Hp} {nx' : Nat} (h : doOp P tm H nx o = some (v, H', nx')) : nx ≤ nx' := by
  unfold doOp at h
  split at h
  case h_4 =>
    split at h
    case h_2 => cases h
    split at h
    case h_2 => cases h
    split at h
    case isFalse => cases h
    unfold doNew at h
    split at h
    · cases h; omega
    · cases h
  case h_5 =>
    simp only [Option.bind_eq_some_iff] at h
    obtain ⟨u, hu, h⟩ := h
    unfold doNew at h
    split at h
    · cases h; omega
    · cases h
  case h_7 =>
    simp only [Option.bind_eq_some_iff] at h
    obtain ⟨u, hu, h⟩ := h
    unfold doBuildSlice at h
    (repeat' split at h) <;> first | (cases h; done) | (cases h; omega)
  case h_15 =>
    simp only [Option.bind_eq_some_iff] at h
    obtain ⟨u, hu, u2, hu2, h⟩ := h
    unfold doMakeSlice at h
    (repeat' split at h) <;> first | (cases h; done) | (cases h; omega)
  case h_22 =>
    simp only [Option.bind_eq_some_iff] at h
    obtain ⟨u, hu, h⟩ := h
    have := doBuiltin_nx h
    omega
  case h_27 =>
    simp only [Option.bind_eq_some_iff] at h
    obtain ⟨u, hu, h⟩ := h
    unfold doRange at h
    (repeat' split at h) <;> first | (cases h; done) | (cases h; omega)
  all_goals first
    | (cases h; done)
    | (have := (un1_some h).2.2; omega)
    | (simp only [Option.bind_eq_some_iff, Option.map_eq_some_iff] at h; obtain ⟨u, hu, h⟩ := h; first | (have := (un1_some h).2.2; omega) | (obtain ⟨u2, hu2, h⟩ := h; first | (have := (un1_some h).2.2; omega) | (cases h; omega) | (obtain ⟨u3, hu3, h⟩ := h; first | (cases h; omega) | (obtain ⟨u4, hu4, h⟩ := h; first | (cases h; omega) | (have := (un1_some h).2.2; omega)))))
    | (cases h; omega)
    | (split at h <;> first | (cases h; done) | (have := (un1_some h).2.2; omega) | (cases h; omega))

theorem opOk_plain {r : Option Nat} {o : Oper} {tm : List Value} {nx : Nat} {v : Value} {H' : Hp} {nx' : Nat} (h : doOp P tm H nx o = some (v, H', nx')) : OpOk P r o tm H nx v H' nx' := by
  refine ⟨doOp_le h, fun φ w K a rc next Q g hf ht hr hk => ⟨about_fw, ?_⟩⟩
  obtain ⟨nxt, w', φ', v', h1, h2, h3, h4, h5, h6, h7⟩ := doOp_ok g ht hf h
  rw [Oper.semAt_eq _ _ _ (doOp_nodefer h), h1]
  rcases h2 with rfl | ⟨rfl, rfl⟩
  · exact hk v' φ' w' h3 h4 h5 h6
  · exact hk undef φ' w' h3 h4 h5 h6

/-- No function of the program is one that the machine takes by its name. -/
def NoSpecial (P : Program) : Prop := ∀ (f : FuncId) (fn : Func), P.funcs[f]? = some fn → (fn.name == "runtime.NumGoroutine") = false

theorem run_callFunc {f : FuncId} {fn : Func} (hs : NoSpecial P) (hf : P.funcs[f]? = some fn) (hb : fn.body.isSome = true) (args : Array Value) (w : World) : (callFunc f args).run P w = .ok (.enter f args) w := by
  have h1 := hs f fn hf
  have h2 : fn.body.isNone = false := by cases h : fn.body <;> simp_all
  unfold callFunc
  simp only [Sem.run_bind, run_program, Result.andThen_ok, hf, h1, h2, Bool.false_eq_true, if_false, Sem.run_pure]

theorem callsIn_fw {rc : Option Nat} {f : FuncId} {args : Array Value} {w : World} {R : Ending → World → Prop} (h : Calls P f args w R) : CallsIn (fw rc) 0 P f args w R := by
  have := callsIn_wide (n := 0).2 h
  cases rc with
  | none => exact this
  | some l => exact CallsIn.inRound l this

/-- Calling a function value. -/
theorem opOk_call {r : Option Nat} {o : Oper} {tm : List Value} {nx : Nat} {v : Value} {H' : Hp} {nx' : Nat} {cf : Operand} {args : Array Operand} {ats : Array TypeId} (ho : o.op = .call { callee := .value cf, args := args, argTypes := ats })
    {f : FuncId} {fn : Func} {fs cs : Array Value} {vs : List Value} (hs : NoSpecial P) (hfn : P.funcs[f]? = some fn) (hb : fn.body.isSome = true)
    (hcf : opv tm cf = some (.func (.func f) fs cs)) (hvs : opvs tm args.toList = some vs) (h : CallOk P f (fs.toList ++ vs ++ cs.toList) H nx v H' nx') : OpOk P r o tm H nx v H' nx' := by
  refine ⟨h.1, fun φ w K a rc next Q g hf ht hr hk => ⟨about_fw, ?_⟩⟩
  have hcv := opv_rel ht hcf
  obtain ⟨fn', ys, us, hev, hfr, h1, h2⟩ := hcv.func_inv
  cases hfr
  have hvr := opvs_rel ht hvs
  have hrun : (execOp a.eval o).run P w = .ok (.enter f (ys ++ args.map a.eval ++ us)) w := by
    unfold execOp
    simp only [ho, resolve, hev, Deferred.ofValue, Sem.run_bind, Sem.run_pure, Result.andThen_ok, invoke, run_callFunc hs hfn hb]
  rw [Oper.semAt_eq _ _ _ (fun c hc => by rw [ho] at hc; cases hc), hrun]
  refine ⟨fun h0 => by simp [fw, Fence.wide] at h0, ?_⟩
  have hc := h.2 φ w K (ys.toList ++ (args.map a.eval).toList ++ us.toList) g hf ((h1.append (by simpa using hvr)).append h2)
  have ea : (ys.toList ++ (args.map a.eval).toList ++ us.toList).toArray = ys ++ args.map a.eval ++ us := by apply Array.ext'; simp
  rw [ea] at hc
  refine (callsIn_fw hc).mono ?_
  rintro e w' ⟨v', φ', rfl, k1, k2, k3, k4⟩
  exact hk v' φ' w' k1 k2 k3 k4

/-- The record of a loop over a function, turned. -/
theorem loop_set (g : Good φ H K w) {l : Nat} {L : Loop} {Lc : Loc} (hl : H.get l = some (.loop L)) (hL : φ l = some Lc) :
    ∃ l' : Loop, w.heap[Lc.blk]? = some (.loop l') ∧ l'.state = L.state ∧ l'.pending = L.pending ∧ TRel φ L.tmps.toList l'.tmps ∧ l'.params = L.params ∧ l'.assign = L.assign ∧ l'.body = L.body ∧
      ∀ (s : LoopState) (p : Option Code), Good φ (H.set l (.loop { L with state := s, pending := p })) K { w with heap := w.heap.setIfInBounds Lc.blk (.loop { l' with state := s, pending := p }) } ∧
        Went K w { w with heap := w.heap.setIfInBounds Lc.blk (.loop { l' with state := s, pending := p }) } := by
  obtain ⟨l', h1, h2, h3, h4, h5, h6, h7, D, h8, h9⟩ := g.at hl hL
  have hlt : Lc.blk < w.heap.size := (Array.getElem?_eq_some_iff.1 h1).1
  refine ⟨l', h1, h2, h3, h4, h5, h6, h7, fun s p => ?_⟩
  have hoth : ∀ (o : Obj) c, c ≠ Lc.blk → ({ w with heap := w.heap.setIfInBounds Lc.blk o } : World).heap[c]? = w.heap[c]? := fun o c hc => by
    show (w.heap.setIfInBounds Lc.blk o)[c]? = _
    rw [Array.getElem?_setIfInBounds, if_neg (fun e => hc e.symm)]
  refine ⟨g.upd hl rfl hL (hoth _) (by simp) ⟨{ l' with state := s, pending := p }, ?_, rfl, rfl, h4, h5, h6, h7, D, h8, h9⟩, ⟨rfl, rfl, rfl, by simp, fun c hc => hoth _ c (fun e => g.prot l _ Lc hl rfl hL (e ▸ hc))⟩⟩
  show (w.heap.setIfInBounds Lc.blk _)[Lc.blk]? = _
  rw [Array.getElem?_setIfInBounds]; simp [hlt]

def setParams : List Tmp → List Value → List Value → List Value
  | t :: ts, v :: vs, tm => setParams ts vs (tm.set t v)
  | _, _, tm => tm
theorem setParams_rel : ∀ {ps : List Tmp} {vs us : List Value} {tm : List Value} {ts : Array Value}, LRel φ vs us → TRel φ tm ts →
    TRel φ (setParams ps vs tm) ((ps.zip us).foldl (fun (ts : Array Value) (x : Tmp × Value) => ts.setIfInBounds x.1 x.2) ts)
  | [], vs, us, tm, ts, _, h => by simpa [setParams] using h
  | p :: ps, [], [], tm, ts, _, h => by simpa [setParams] using h
  | p :: ps, v :: vs, u :: us, tm, ts, hr, h => by
    simp only [setParams, List.zip_cons_cons, List.foldl_cons]
    exact setParams_rel hr.2 (h.set p hr.1)
  | _ :: _, [], _ :: _, _, _, hr, _ => hr.elim
  | _ :: _, _ :: _, [], _, _, hr, _ => hr.elim

/-- How a round ends. -/
def roundEnd (e : Exit) : Option (Bool × LoopState × Option Code) :=
  match e with
  | .normal => some (true, .ready, none)
  | .ret => some (false, .done, some .ret)
  | .exit i => some (false, .done, some (.exit i))
  | .goto i => some (false, .done, some (.goto i))
  | _ => none

/-- Calling yield: a round. -/
theorem opOk_yield {r : Option Nat} {o : Oper} {tm : List Value} {nx : Nat} {cf : Operand} {args : Array Operand} {ats : Array TypeId} (ho : o.op = .call { callee := .value cf, args := args, argTypes := ats })
    {l : Nat} {vs : List Value} {L L1 L2 : Loop} {R1 R2 : Res} {b : Bool} {s : LoopState} {p : Option Code}
    (hcf : opv tm cf = some (.func (.yield l) #[] #[])) (hvs : opvs tm args.toList = some vs) (hl : H.get l = some (.loop L)) (hn : vs.length = L.params.size)
    (h1 : CodeOk P (some l) L.assign (setParams L.params.toList vs L.tmps.toList) [] H nx R1) (he1 : R1.e = .normal) (hd1 : R1.ds = [])
    (hl1 : R1.H.get l = some (.loop L1)) (hst : L1.state = .ready)
    (h2 : CodeOk P (some l) L.body R1.tm [] (R1.H.set l (.loop { L1 with state := .busy })) R1.nx R2)
    (hl2 : R2.H.get l = some (.loop L2)) (he2 : roundEnd R2.e = some (b, s, p)) :
    OpOk P r o tm H nx (.bool b) (R2.H.set l (.loop { L2 with state := s, pending := p })) R2.nx := by
  refine ⟨Nat.le_trans h1.1 h2.1, fun φ w K a rc next Q g hf ht hr hk => ⟨about_fw, ?_⟩⟩
  have hcv := opv_rel ht hcf
  obtain ⟨fn', ys, us0, hev, hfr, e1, e2⟩ := hcv.func_inv
  cases hfr with
  | yield _ Lc hLc =>
  have hys : ys = #[] := Array.eq_empty_of_size_eq_zero (by have := e1.length; simp at this; exact this.symm)
  have hvr := opvs_rel ht hvs
  obtain ⟨l', k1, k2, k3, k4, k5, k6, k7, k8⟩ := loop_set g hl hLc
  have hgl : ∀ (w : World) (lr : Loop), w.heap[Lc.blk]? = some (.loop lr) → (Instr.getLoop Lc.blk).run P w = .ok lr w := fun w lr h => by
    simp [Instr.getLoop, getObj, Sem.run, h]
  have hrun : (execOp a.eval o).run P w = .ok (.round Lc.blk l'.fn (((l'.params.zip (args.map a.eval)).foldl (fun tmps (x : Tmp × Value) => tmps.setIfInBounds x.1 x.2) l'.tmps)) l'.assign l'.body) w := by
    unfold execOp
    have hsz : (args.map a.eval).size = l'.params.size := by
      have := hvr.length
      simp at this
      rw [k5, ← hn, this]; simp
    simp only [ho, resolve, hev, Deferred.ofValue, Sem.run_bind, Sem.run_pure, Result.andThen_ok, invoke, Instr.yield, hgl w l' k1, hys, Array.empty_append, hsz, ne_eq, not_true_eq_false, if_false]
  rw [Oper.semAt_eq _ _ _ (fun c hc => by rw [ho] at hc; cases hc), hrun]
  refine ⟨fun h0 => by simp [fw, Fence.wide] at h0, ?_⟩
  refine roundIn_of_wpIn (F := fw rc) trivial ?_
  rw [k6, k7]
  have ht0 : TRel φ (setParams L.params.toList vs L.tmps.toList) ((l'.params.zip (args.map a.eval)).foldl (fun tmps (x : Tmp × Value) => tmps.setIfInBounds x.1 x.2) l'.tmps) := by
    rw [k5, ← Array.foldl_toList, Array.toList_zip]
    exact setParams_rel (by simpa using hvr) k4
  have hw1 := h1.2 φ w K { tmps := (l'.params.zip (args.map a.eval)).foldl (fun tmps (x : Tmp × Value) => tmps.setIfInBounds x.1 x.2) l'.tmps, defers := [] } (some Lc.blk) g (hf.left h2.1) ht0 trivial ⟨Lc, hLc, rfl⟩
  refine wpIn_mono hw1 ?_
  rintro e a1 w1 ⟨rfl, φ1, x1, x2, x3, x4, x5⟩
  rw [he1]
  have hLc1 := x1.1 _ _ hLc
  obtain ⟨l1', y1, y2, y3, y4, y5, y6, y7, y8⟩ := loop_set x2 hl1 hLc1
  obtain ⟨z1, z2⟩ := y8 .busy L1.pending
  have hsame : ({ l1' with state := .busy, pending := L1.pending } : Loop) = { l1' with state := .busy } := by rw [← y3]
  rw [hsame] at z1 z2
  refine ⟨_, by simp [Instr.beginRound, hgl w1 l1' y1, setObj, Sem.run, y1, y2, hst, Sem.run_bind]; rfl, ?_⟩
  have hd1' : a1.defers = [] := by rw [hd1] at x4; revert x4; cases a1.defers <;> simp [DRel]
  have hw2 := h2.2 φ1 _ K a1 (some Lc.blk) z1 (hf.right x1 h1.1) x3 (by rw [hd1']; trivial) ⟨Lc, hLc1, rfl⟩
  refine wpIn_mono hw2 ?_
  rintro e a2 w2 ⟨rfl, φ2, u1, u2, u3, u4, u5⟩
  have hLc2 := u1.1 _ _ hLc1
  obtain ⟨l2', v1, v2, v3, v4, v5, v6, v7, v8⟩ := loop_set u2 hl2 hLc2
  have fin : ∀ (jump : Option Code), p = jump → (s = if jump.isNone then .ready else .done) → b = jump.isNone → ∃ v w', (Instr.endRound Lc.blk jump).run P w2 = .ok v w' ∧ (fun e w'' => match e with
      | .returned v => next (a.put o.dst v) w''
      | .panicked chain => Q (.panic chain) a w''
      | .outgrown => LetsOut Q : Ending → World → Prop) (.returned v) w' := by
    rintro jump rfl rfl rfl
    obtain ⟨q1, q2⟩ := v8 (if p.isNone then .ready else .done) p
    refine ⟨.bool p.isNone, { w2 with heap := w2.heap.setIfInBounds Lc.blk (.loop { l2' with state := if p.isNone then .ready else .done, pending := p }) }, ?_, ?_⟩
    · simp only [Instr.endRound, Sem.run_bind, hgl w2 l2' v1, Result.andThen_ok, setObj, Sem.run, v1, Sem.run_pure]
    exact hk _ φ2 _ (.bool _) (x1.trans u1 h1.1 h2.1) q1 (((x5.trans z2).trans u5).trans q2)
  cases hE : R2.e with
  | normal => rw [hE] at he2; cases he2; exact fin none rfl rfl rfl
  | ret => rw [hE] at he2; cases he2; exact fin (some .ret) rfl rfl rfl
  | exit i => rw [hE] at he2; cases he2; exact fin (some (.exit i)) rfl rfl rfl
  | goto i => rw [hE] at he2; cases he2; exact fin (some (.goto i)) rfl rfl rfl
  | panic c => rw [hE] at he2; cases he2
  | outgrown => rw [hE] at he2; cases he2
end Go.En
