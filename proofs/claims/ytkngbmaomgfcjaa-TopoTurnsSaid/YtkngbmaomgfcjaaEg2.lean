/- Parts of a proof, joined: J, K, KB, KC, L, M, N, O. -/
import Derived.Carry
import Derived.ChangeSame
import Derived.KernelRfl
import Derived.OpenShut
import Derived.Orders
import Derived.Test.YtkngbmaomgfcjaaEg1
/- The engine, part J: regions in their text's order; the statement that ranges over a function; a function's whole call. -/
namespace Go.En
set_option linter.unusedVariables false
variable {P : Program} {φ : Ren} {H : Hp} {K : Nat → Prop} {w : World}

def putT (tm : List Value) (dst : Option Tmp) (v : Value) : List Value :=
  match dst with
  | some d => tm.set d v
  | none => tm
theorem putT_rel {tm : List Value} {a : Act} (ht : TRel φ tm a.tmps) (dst : Option Tmp) {v v' : Value} (hv : VRel φ v v') : TRel φ (putT tm dst v) (a.put dst v').tmps := by
  cases dst with
  | none => exact ht
  | some d => exact ht.set d hv
theorem put_defers (a : Act) (dst : Option Tmp) (v : Value) : (a.put dst v).defers = a.defers := by cases dst <;> rfl

/-- Whether an operation's guard lets it run. -/
def wantedA (ops : Array Oper) (tm : List Value) (o : Oper) : Option Bool :=
  match o.guard with
  | none => some true
  | some (j, want) => match ((ops[j]?).bind (·.dst)).bind (tm[·]?) with
    | some (.bool b) => some (b == want)
    | some (.tuple _) => some false
    | _ => none
theorem wantedA_ok {ops : Array Oper} {tm : List Value} {a : Act} {o : Oper} {b : Bool} (ht : TRel φ tm a.tmps) (h : wantedA ops tm o = some b) : Region.wanted o (yielded ops a.tmps) = b := by
  unfold wantedA at h
  unfold Region.wanted
  cases hg : o.guard with
  | none => simp [hg] at h; subst h; rfl
  | some p =>
    obtain ⟨j, want⟩ := p
    simp only [hg] at h ⊢
    unfold yielded
    cases hd : (ops[j]?).bind (·.dst) with
    | none => simp [hd] at h
    | some d =>
      simp only [hd, Option.bind_some] at h ⊢
      cases hv : tm[d]? with
      | none => simp [hv] at h
      | some v =>
        rw [hv] at h
        rcases ht.2 d v hv with rfl | ⟨v', h1, h2⟩
        · simp [junk] at h
        · rw [h1]
          cases v with
          | bool c => cases h2; simp at h; subst h; cases c <;> cases want <;> rfl
          | tuple xs =>
            obtain ⟨ys, rfl, _⟩ := h2.tuple_inv
            simp at h; subst h; cases want <;> rfl
          | _ => simp at h

def OpsOk (P : Program) (r : Option Nat) (ops : Array Oper) (l : List Nat) (tm : List Value) (H : Hp) (nx : Nat) (tm' : List Value) (H' : Hp) (nx' : Nat) : Prop :=
  nx ≤ nx' ∧ ∀ (φ : Ren) (w : World) (K : Nat → Prop) (a : Act) (rc : Option Nat) (Q : Exit → Act → World → Prop), Good φ H K w → Fresh φ nx nx' → TRel φ tm a.tmps → RRel φ r rc →
    (∀ φ' a' w', Ext φ φ' nx nx' → Good φ' H' K w' → TRel φ' tm' a'.tmps → a'.defers = a.defers → Went K w w' → Q .normal a' w') → wpOpsIn (fw rc) 0 P ops Q l a w

theorem opsOk_nil {r : Option Nat} {ops : Array Oper} {tm : List Value} {nx : Nat} : OpsOk P r ops [] tm H nx tm H nx :=
  ⟨Nat.le_refl _, fun φ w K a rc Q g hf ht hr hk => hk φ a w (Ext.refl _ _ _) g ht rfl (Went.refl _ _)⟩
theorem opsOk_cons {r : Option Nat} {ops : Array Oper} {i : Nat} {l : List Nat} {o : Oper} {tm tm' : List Value} {H1 H' : Hp} {nx nx1 nx' : Nat} {v : Value} (hi : ops[i]? = some o) (hw : wantedA ops tm o = some true)
    (h1 : OpOk P r o tm H nx v H1 nx1) (h2 : OpsOk P r ops l (putT tm o.dst v) H1 nx1 tm' H' nx') : OpsOk P r ops (i :: l) tm H nx tm' H' nx' := by
  refine ⟨Nat.le_trans h1.1 h2.1, fun φ w K a rc Q g hf ht hr hk => ?_⟩
  simp only [wpOpsIn, hi]
  rw [if_pos (wantedA_ok ht hw)]
  refine h1.2 φ w K a rc _ Q g (hf.left h2.1) ht hr fun v' φ1 w1 x1 x2 x3 x4 => ?_
  refine h2.2 φ1 w1 K (a.put o.dst v') rc Q x3 (hf.right x2 h1.1) (putT_rel (ht.mono x2.1) o.dst x1) (hr.mono x2.1) fun φ2 a2 w2 y1 y2 y3 y4 y5 => ?_
  exact hk φ2 a2 w2 (x2.trans y1 h1.1 h2.1) y2 y3 (by rw [y4, put_defers]) (x4.trans y5)
theorem opsOk_skip {r : Option Nat} {ops : Array Oper} {i : Nat} {l : List Nat} {o : Oper} {tm tm' : List Value} {H' : Hp} {nx nx' : Nat} (hi : ops[i]? = some o) (hw : wantedA ops tm o = some false)
    (h2 : OpsOk P r ops l (putT tm o.dst undef) H nx tm' H' nx') : OpsOk P r ops (i :: l) tm H nx tm' H' nx' := by
  refine ⟨h2.1, fun φ w K a rc Q g hf ht hr hk => ?_⟩
  simp only [wpOpsIn, hi]
  rw [if_neg (by rw [wantedA_ok ht hw]; simp)]
  refine ⟨about_fw, ?_⟩
  have hu : VRel φ undef undef := .tuple' (by simp [LRel])
  refine h2.2 φ w K (a.put o.dst undef) rc Q g hf (putT_rel ht o.dst hu) hr fun φ2 a2 w2 y1 y2 y3 y4 y5 => ?_
  exact hk φ2 a2 w2 y1 y2 y3 (by rw [y4, put_defers]) y5

theorem codeOk_region {r : Option Nat} {id : Nat} {ops : Array Oper} {tm tm' : List Value} {ds : List Nat} {H' : Hp} {nx nx' : Nat} (h : OpsOk P r ops (List.range ops.size) tm H nx tm' H' nx') :
    CodeOk P r (.region id ops false) tm ds H nx ⟨.normal, tm', ds, H', nx'⟩ := by
  refine ⟨h.1, fun φ w K a rc g hf ht hd hr => wpIn_region ?_⟩
  exact h.2 φ w K a rc _ g hf ht hr fun φ1 a1 w1 x1 x2 x3 x4 x5 => ⟨rfl, φ1, x1, x2, x3, by rw [x4]; exact hd.mono x1.1, x5⟩

/-- The mark for the deferred calls and the loop's record are laid; the function is called; the pending jump is taken up. -/
theorem good_obj (g : Good φ H K w) {n : Nat} (hn : φ n = none) (o : Obj) {k : Blk} (hk : BRel (φ.put n ⟨w.heap.size, 0, 0⟩) (w.alloc o) ⟨w.heap.size, 0, 0⟩ k) :
    Good (φ.put n ⟨w.heap.size, 0, 0⟩) ((n, k) :: H) K (w.alloc o) := g.new hn o rfl hk

theorem heap_alloc_last (w : World) (o : Obj) : (w.alloc o).heap[w.heap.size]? = some o := by
  show (w.heap.push o)[w.heap.size]? = _
  simp

def newLoop (tm : List Value) (ps : Array Tmp) (assign body : Code) (d : Nat) : Loop :=
  { state := .ready, pending := none, fn := 0, tmps := tm.toArray, params := ps, assign := assign, body := body, defers := d }

/-- What follows the call of a range-over-function statement. -/
def afterLoop (L : Loop) (tm : List Value) (ds : List Nat) (H : Hp) (nx : Nat) : Option Res :=
  match L.state, L.pending with
  | .busy, _ => none
  | _, none => some ⟨.normal, tm, ds, H, nx⟩
  | _, some .ret => some ⟨.ret, tm, ds, H, nx⟩
  | _, some (.exit i) => some ⟨.exit i, tm, ds, H, nx⟩
  | _, some (.goto i) => some ⟨.goto i, tm, ds, H, nx⟩
  | _, _ => none

theorem endLoop_ok {r : Option Nat} {tm : List Value} {ds : List Nat} {nx : Nat} {l : Nat} {L : Loop} {Lc : Loc} {R : Res} (g : Good φ H K w) (hl : H.get l = some (.loop L)) (hL : φ l = some Lc) (ha : afterLoop L tm ds (H.del l) nx = some R)
    {a : Act} {rc : Option Nat} (ht : TRel φ tm a.tmps) (hd : DRel φ ds a.defers) (hr : RRel φ r rc) :
    ∃ jump w4, (Instr.endLoop Lc.blk).run P w = .ok jump w4 ∧ (match jump with
       | none => Post φ K w nx R .normal a w4
       | some c => c.wpIn (fw rc) 0 P (Post φ K w nx R) a w4) := by
  obtain ⟨l', k1, k2, k3, k4, k5, k6, k7, k8⟩ := loop_set g hl hL
  obtain ⟨q1, q2⟩ := k8 .exhausted L.pending
  have hsame : ({ l' with state := .exhausted, pending := L.pending } : Loop) = { l' with state := .exhausted } := by rw [← k3]
  rw [hsame] at q1 q2
  have hgl : (Instr.getLoop Lc.blk).run P w = .ok l' w := by simp [Instr.getLoop, getObj, Sem.run, k1]
  have hnb : (l'.state == .busy) = false := by
    rw [k2]
    unfold afterLoop at ha
    cases hs : L.state <;> simp [hs] at ha ⊢
  have hg : Good φ (H.del l) K { w with heap := w.heap.setIfInBounds Lc.blk (.loop { l' with state := .exhausted }) } := q1.sub fun b k hb => by
    rw [Hp.get_del] at hb
    rw [Hp.get_set]
    split at hb
    · cases hb
    · rename_i hne; simp only [hne, if_false]; exact hb
  obtain ⟨w4, hw4⟩ : ∃ w4 : World, w4 = { w with heap := w.heap.setIfInBounds Lc.blk (.loop { l' with state := .exhausted }) } := ⟨_, rfl⟩
  rw [← hw4] at hg q2
  refine ⟨l'.pending, w4, by rw [hw4]; simp only [Instr.endLoop, Sem.run_bind, hgl, Result.andThen_ok, hnb, Bool.false_eq_true, if_false, Sem.run_pure, setObj, Sem.run, k1], ?_⟩
  rw [k3]
  unfold afterLoop at ha
  cases hp : L.pending with
  | none =>
    have : R = ⟨.normal, tm, ds, H.del l, nx⟩ := by cases hs : L.state <;> simp [hs, hp] at ha <;> exact ha.symm
    subst this
    exact ⟨rfl, φ, Ext.refl _ _ _, hg, ht, hd, q2⟩
  | some c =>
    cases c with
    | ret =>
      have : R = ⟨.ret, tm, ds, H.del l, nx⟩ := by cases hs : L.state <;> simp [hs, hp] at ha <;> exact ha.symm
      subst this
      exact wpIn_ret ⟨rfl, φ, Ext.refl _ _ _, hg, ht, hd, q2⟩
    | exit i =>
      have : R = ⟨.exit i, tm, ds, H.del l, nx⟩ := by cases hs : L.state <;> simp [hs, hp] at ha <;> exact ha.symm
      subst this
      exact wpIn_exit ⟨rfl, φ, Ext.refl _ _ _, hg, ht, hd, q2⟩
    | goto i =>
      have : R = ⟨.goto i, tm, ds, H.del l, nx⟩ := by cases hs : L.state <;> simp [hs, hp] at ha <;> exact ha.symm
      subst this
      exact wpIn_goto ⟨rfl, φ, Ext.refl _ _ _, hg, ht, hd, q2⟩
    | _ => cases hs : L.state <;> simp [hs, hp] at ha

theorem afterLoop_nx {L : Loop} {tm : List Value} {ds : List Nat} {nx : Nat} {R : Res} (h : afterLoop L tm ds H nx = some R) : R.nx = nx := by
  unfold afterLoop at h
  (repeat' split at h) <;> first | (cases h; done) | (cases h; rfl)

/-- In a frame of its own: no round. -/
theorem codeOk_rangeFunc {g : Operand} {ps : Array Tmp} {assign body : Code} {tm : List Value} {ds : List Nat} {nx : Nat} {f : FuncId} {fn : Func} {fs cs : Array Value} {v : Value} {H1 : Hp} {nx1 : Nat} {L : Loop} {R : Res}
    (hs : NoSpecial P) (hfn : P.funcs[f]? = some fn) (hb : fn.body.isSome = true) (hgv : opv tm g = some (.func (.func f) fs cs))
    (hc : CallOk P f (fs.toList ++ [.func (.yield (nx + 1)) #[] #[]] ++ cs.toList) ((nx + 1, .loop (newLoop tm ps assign body nx)) :: (nx, .defd) :: H) (nx + 2) v H1 nx1)
    (hl : H1.get (nx + 1) = some (.loop L)) (ha : afterLoop L tm (nx :: ds) (H1.del (nx + 1)) nx1 = some R) :
    CodeOk P none (.rangeFunc g ps assign body) tm ds H nx R := by
  have hRnx := afterLoop_nx ha
  have hle := hc.1
  refine ⟨by omega, fun φ w K a rc gd hf ht hd hr => ?_⟩
  have hrc : rc = none := by cases rc <;> simp [RRel] at hr ⊢
  subst hrc
  refine wpIn_rangeFunc fun fnid _ => ?_
  have hn0 : φ nx = none := hf nx (by omega) (by omega)
  have hn1 : φ (nx + 1) = none := hf (nx + 1) (by omega) (by omega)
  have g1 := good_obj gd hn0 (.deferred (some [])) (k := .defd) (heap_alloc_last w _)
  have hp1 : (φ.put nx ⟨w.heap.size, 0, 0⟩) (nx + 1) = none := by rw [Ren.put_other _ _ (by omega)]; exact hn1
  have hgv' := opv_rel ht hgv
  obtain ⟨fn', ys, us, hev, hfr, e1, e2⟩ := hgv'.func_inv
  cases hfr
  have le1 := Ren.put_le hn0 ⟨w.heap.size, 0, 0⟩
  have le2 := Ren.put_le hp1 ⟨(w.alloc (.deferred (some []))).heap.size, 0, 0⟩
  have hlp : Loop.mk .ready none fnid a.tmps ps assign body w.heap.size = { state := .ready, pending := none, fn := fnid, tmps := a.tmps, params := ps, assign := assign, body := body, defers := w.heap.size } := rfl
  have g2 := good_obj g1 hp1 (.loop { state := .ready, pending := none, fn := fnid, tmps := a.tmps, params := ps, assign := assign, body := body, defers := w.heap.size }) (k := .loop (newLoop tm ps assign body nx))
    ⟨_, heap_alloc_last _ _, rfl, rfl, by simpa [newLoop] using (ht.mono le1).mono le2, rfl, rfl, rfl, ⟨w.heap.size, 0, 0⟩, le2 _ _ (Ren.put_same _ _ _), rfl⟩
  have ext1 : Ext φ ((φ.put nx ⟨w.heap.size, 0, 0⟩).put (nx + 1) ⟨(w.alloc (.deferred (some []))).heap.size, 0, 0⟩) nx (nx + 2) := (Ext.put hn0 _).trans (Ext.put hp1 _) (by omega) (by omega)
  have w1 : Went K w ((w.alloc (.deferred (some []))).alloc (.loop { state := .ready, pending := none, fn := fnid, tmps := a.tmps, params := ps, assign := assign, body := body, defers := w.heap.size })) := (Went.alloc gd _).trans (Went.alloc g1 _)
  obtain ⟨w2, hw2⟩ : ∃ w2 : World, w2 = (w.alloc (.deferred (some []))).alloc (.loop { state := .ready, pending := none, fn := fnid, tmps := a.tmps, params := ps, assign := assign, body := body, defers := w.heap.size }) := ⟨_, rfl⟩
  rw [← hw2] at g2 w1
  have run1 : (Instr.enterLoop fnid a.tmps ps assign body none).run P w = .ok (w.heap.size + 1, [{ target := .collected w.heap.size, args := #[] }]) w2 := by
    rw [hw2]; simp [Instr.enterLoop]
  have run2 : (resolve a.eval (rangeCall g (w.heap.size + 1)) 0).run P w2 = .ok { target := .fn (.func f) us, args := ys ++ #[.func (.yield (w.heap.size + 1)) #[] #[]] } w2 := by
    show (Deferred.ofValue (a.eval g) _).run P w2 = _
    have em : (rangeCall g (w.heap.size + 1)).args.map a.eval = #[.func (.yield (w.heap.size + 1)) #[] #[]] := by simp [Act.eval]
    rw [hev, em]; rfl
  have run3 : (invoke (.fn (.func f) us) (ys ++ #[.func (.yield (w.heap.size + 1)) #[] #[]])).run P w2 = .ok (.enter f (ys ++ #[.func (.yield (w.heap.size + 1)) #[] #[]] ++ us)) w2 := by
    simp only [invoke, run_callFunc hs hfn hb]
  refine ⟨w.heap.size + 1, [{ target := .collected w.heap.size, args := #[] }], w2, _, w2, f, _, w2, run1, run2, fun _ _ => trivial, run3, (fun h0 => by simp [fw, Fence.wide] at h0), ?_⟩
  · have hy : LRel ((φ.put nx ⟨w.heap.size, 0, 0⟩).put (nx + 1) ⟨(w.alloc (.deferred (some []))).heap.size, 0, 0⟩) [Value.func (.yield (nx + 1)) #[] #[]] [Value.func (.yield (w.heap.size + 1)) #[] #[]] := by
      refine ⟨.func' ?_ (by simp [LRel]) (by simp [LRel]), trivial⟩
      have := FnRel.yield (φ := (φ.put nx ⟨w.heap.size, 0, 0⟩).put (nx + 1) ⟨(w.alloc (.deferred (some []))).heap.size, 0, 0⟩) (nx + 1) _ (Ren.put_same _ _ _)
      simpa using this
    have hcall := hc.2 _ _ K (ys.toList ++ [Value.func (.yield (w.heap.size + 1)) #[] #[]] ++ us.toList) g2 (fun b h1 h2 => by rw [ext1.2 b (.inr h1)]; exact hf b (by omega) (by omega))
      ((((e1.mono le1).mono le2).append hy).append ((e2.mono le1).mono le2))
    have ea : (ys.toList ++ [Value.func (.yield (w.heap.size + 1)) #[] #[]] ++ us.toList).toArray = ys ++ #[Value.func (.yield (w.heap.size + 1)) #[] #[]] ++ us := by apply Array.ext'; simp
    rw [ea] at hcall
    refine (callsIn_fw hcall).mono ?_
    rintro e w3 ⟨v', φ3, rfl, x1, x2, x3, x4⟩
    have hLl := x2.1 _ _ (Ren.put_same (φ.put nx ⟨w.heap.size, 0, 0⟩) (nx + 1) ⟨(w.alloc (.deferred (some []))).heap.size, 0, 0⟩)
    have hLd := x2.1 _ _ (le2 _ _ (Ren.put_same φ nx ⟨w.heap.size, 0, 0⟩))
    have le3 : φ.le φ3 := Ren.le_trans (Ren.le_trans le1 le2) x2.1
    obtain ⟨jump, w4, y1, y2⟩ := endLoop_ok (P := P) (r := none) (rc := none) (a := { a with defers := [{ target := .collected w.heap.size, args := #[] }] ++ a.defers }) x3 hl hLl ha (ht.mono le3) ⟨⟨_, hLd, rfl⟩, hd.mono le3⟩ trivial
    simp only [World.size_alloc] at y1
    refine ⟨jump, w4, y1, ?_⟩
    have fin : ∀ e a' w', Post φ3 K w3 nx1 R e a' w' → Post φ K w nx R e a' w' := fun e a' w' hp => Post.after ((ext1.trans x2 (by omega) hle)) (w1.trans x4) (by omega) (by omega) hp
    cases jump with
    | none => exact fin _ _ _ y2
    | some c => exact wpIn_mono y2 fin

/-- In a round of another loop. -/
theorem codeOk_rangeFunc_in {l0 : Nat} {g : Operand} {ps : Array Tmp} {assign body : Code} {tm : List Value} {ds : List Nat} {nx : Nat} {f : FuncId} {fn : Func} {fs cs : Array Value} {v : Value} {H1 : Hp} {nx1 : Nat} {L0 L : Loop} {R : Res}
    (hs : NoSpecial P) (hfn : P.funcs[f]? = some fn) (hb : fn.body.isSome = true) (hgv : opv tm g = some (.func (.func f) fs cs)) (hl0 : H.get l0 = some (.loop L0))
    (hc : CallOk P f (fs.toList ++ [.func (.yield nx) #[] #[]] ++ cs.toList) ((nx, .loop (newLoop tm ps assign body L0.defers)) :: H) (nx + 1) v H1 nx1)
    (hl : H1.get nx = some (.loop L)) (ha : afterLoop L tm ds (H1.del nx) nx1 = some R) :
    CodeOk P (some l0) (.rangeFunc g ps assign body) tm ds H nx R := by
  have hRnx := afterLoop_nx ha
  have hle := hc.1
  refine ⟨by omega, fun φ w K a rc gd hf ht hd hr => ?_⟩
  cases rc with
  | none => exact hr.elim
  | some c0 =>
  obtain ⟨Lc0, hLc0, hbc⟩ := hr
  refine wpIn_rangeFunc fun fnid _ => ?_
  have hn0 : φ nx = none := hf nx (by omega) (by omega)
  obtain ⟨l0', q1, q2, q3, q4, q5, q6, q7, D, q8, q9⟩ := gd.at hl0 hLc0
  have hgv' := opv_rel ht hgv
  obtain ⟨fn', ys, us, hev, hfr, e1, e2⟩ := hgv'.func_inv
  cases hfr
  have le1 := Ren.put_le hn0 ⟨w.heap.size, 0, 0⟩
  have g2 := good_obj gd hn0 (.loop { state := .ready, pending := none, fn := fnid, tmps := a.tmps, params := ps, assign := assign, body := body, defers := l0'.defers }) (k := .loop (newLoop tm ps assign body L0.defers))
    ⟨_, heap_alloc_last _ _, rfl, rfl, by simpa [newLoop] using ht.mono le1, rfl, rfl, rfl, D, le1 _ _ q8, q9⟩
  have ext1 := Ext.put hn0 ⟨w.heap.size, 0, 0⟩
  have w1 := Went.alloc gd (.loop { state := .ready, pending := none, fn := fnid, tmps := a.tmps, params := ps, assign := assign, body := body, defers := l0'.defers })
  obtain ⟨w2, hw2⟩ : ∃ w2 : World, w2 = w.alloc (.loop { state := .ready, pending := none, fn := fnid, tmps := a.tmps, params := ps, assign := assign, body := body, defers := l0'.defers }) := ⟨_, rfl⟩
  rw [← hw2] at g2 w1
  have run1 : (Instr.enterLoop fnid a.tmps ps assign body (some c0)).run P w = .ok (w.heap.size, []) w2 := by
    rw [hw2, ← hbc]
    have hgl : (Instr.getLoop Lc0.blk).run P w = .ok l0' w := by simp [Instr.getLoop, getObj, Sem.run, q1]
    simp [Instr.enterLoop, hgl]
  have run2 : (resolve a.eval (rangeCall g w.heap.size) 0).run P w2 = .ok { target := .fn (.func f) us, args := ys ++ #[.func (.yield w.heap.size) #[] #[]] } w2 := by
    show (Deferred.ofValue (a.eval g) _).run P w2 = _
    have em : (rangeCall g w.heap.size).args.map a.eval = #[.func (.yield w.heap.size) #[] #[]] := by simp [Act.eval]
    rw [hev, em]; rfl
  have run3 : (invoke (.fn (.func f) us) (ys ++ #[.func (.yield w.heap.size) #[] #[]])).run P w2 = .ok (.enter f (ys ++ #[.func (.yield w.heap.size) #[] #[]] ++ us)) w2 := by
    simp only [invoke, run_callFunc hs hfn hb]
  refine ⟨w.heap.size, [], w2, _, w2, f, _, w2, run1, run2, fun _ _ => trivial, run3, (fun h0 => by simp [fw, Fence.wide] at h0), ?_⟩
  have hy : LRel (φ.put nx ⟨w.heap.size, 0, 0⟩) [Value.func (.yield nx) #[] #[]] [Value.func (.yield w.heap.size) #[] #[]] :=
    ⟨.func' (FnRel.yield (φ := φ.put nx ⟨w.heap.size, 0, 0⟩) nx _ (Ren.put_same _ _ _)) (by simp [LRel]) (by simp [LRel]), trivial⟩
  have hcall := hc.2 _ _ K (ys.toList ++ [Value.func (.yield w.heap.size) #[] #[]] ++ us.toList) g2 (fun b h1 h2 => by rw [ext1.2 b (.inr h1)]; exact hf b (by omega) (by omega))
    (((e1.mono le1).append hy).append (e2.mono le1))
  have ea : (ys.toList ++ [Value.func (.yield w.heap.size) #[] #[]] ++ us.toList).toArray = ys ++ #[Value.func (.yield w.heap.size) #[] #[]] ++ us := by apply Array.ext'; simp
  rw [ea] at hcall
  refine (callsIn_fw hcall).mono ?_
  rintro e w3 ⟨v', φ3, rfl, x1, x2, x3, x4⟩
  have hLl := x2.1 _ _ (Ren.put_same φ nx ⟨w.heap.size, 0, 0⟩)
  have le3 : φ.le φ3 := Ren.le_trans le1 x2.1
  obtain ⟨jump, w4, y1, y2⟩ := endLoop_ok (P := P) (r := some l0) (rc := some c0) (a := { a with defers := [] ++ a.defers }) x3 hl hLl ha (ht.mono le3) (hd.mono le3) ⟨Lc0, le3 _ _ hLc0, hbc⟩
  refine ⟨jump, w4, y1, ?_⟩
  have fin : ∀ e a' w', Post φ3 K w3 nx1 R e a' w' → Post φ K w nx R e a' w' := fun e a' w' hp => Post.after ((ext1.trans x2 (by omega) hle)) (w1.trans x4) (by omega) (by omega) hp
  cases jump with
  | none => exact fin _ _ _ y2
  | some c => exact wpIn_mono y2 fin

/-- The results of a function, at its end. -/
def resA (P : Program) (H : Hp) (tm : List Value) : List ResultVar → Option (List Value)
  | [] => some []
  | .tmp t :: rs => match opv tm (.tmp t), resA P H tm rs with
    | some v, some vs => some (v :: vs)
    | _, _ => none
  | .cell a t :: rs => match (opv tm (.tmp a)).bind (doLoad P H t), resA P H tm rs with
    | some v, some vs => some (v :: vs)
    | _, _ => none
def retV : List Value → Value
  | [v] => v
  | vs => .tuple vs.toArray

theorem asAddr_of_load {H : Hp} {t : TypeId} {u u' v : Value} (h : doLoad P H t u = some v) (hr : VRel φ u u') (w : World) : ∃ a, (asAddr u').run P w = .ok a w ∧ Instr.sureAddr u' = pure a := by
  unfold doLoad at h
  split at h
  · cases hr; exact ⟨_, rfl, rfl⟩
  · cases h

theorem resA_ok (g : Good φ H K w) {tm : List Value} {a : Act} (ht : TRel φ tm a.tmps) : ∀ {rs : List ResultVar} {vs : List Value}, resA P H tm rs = some vs →
    ∃ us, (rs.mapM (fun | .tmp t => pure (a.tmps.getD t undef) | .cell b t => do loadVar t (← asAddr (a.tmps.getD b undef)) : ResultVar → Sem Value)).run P w = .ok us w ∧ LRel φ vs us
  | [], vs, h => by simp [resA] at h; subst h; exact ⟨[], by simp, trivial⟩
  | .tmp t :: rs, vs, h => by
    simp only [resA] at h
    split at h
    · rename_i v us h1 h2
      cases h
      obtain ⟨us', h3, h4⟩ := resA_ok g ht h2
      have hv := opv_rel ht h1
      refine ⟨a.eval (.tmp t) :: us', ?_, hv, h4⟩
      rw [List.mapM_cons]
      simp only [Sem.run_bind, Sem.run_pure, Result.andThen_ok, h3]
      rfl
    · cases h
  | .cell b t :: rs, vs, h => by
    simp only [resA] at h
    split at h
    · rename_i v us h1 h2
      cases h
      simp only [Option.bind_eq_some_iff] at h1
      obtain ⟨u, hu, h1⟩ := h1
      obtain ⟨us', h3, h4⟩ := resA_ok g ht h2
      have hv := opv_rel ht hu
      obtain ⟨v', h5, h6⟩ := doLoad_ok g h1 hv
      obtain ⟨ad, h7, h8⟩ := asAddr_of_load h1 hv w
      refine ⟨v' :: us', ?_, h6, h4⟩
      have h9 : (loadVar t ad).run P w = .ok v' w := by
        have := h5
        simp only [Instr.loadAt, h8] at this
        simpa using this
      have h10 : (asAddr (a.tmps.getD b undef)).run P w = .ok ad w := h7
      rw [List.mapM_cons]
      simp only [Sem.run_bind, Sem.run_pure, Result.andThen_ok, h3, h10, h9]
    · cases h

/-- The blocks for deferred calls are shut at the function's end. -/
def killDs : List Nat → Hp → Option Hp
  | [], H => some H
  | d :: ds, H => match H.get d with
    | some .defd => killDs ds (H.del d)
    | _ => none

theorem good_kill (g : Good φ H K w) {d : Nat} {k : Blk} {L : Loc} (hd : H.get d = some k) (hrw : k.rw = true) (hL : φ d = some L) (o : Obj) :
    Good φ (H.del d) K (w.putObj L.blk o) ∧ Went K w (w.putObj L.blk o) := by
  have hoth : ∀ c, c ≠ L.blk → (w.putObj L.blk o).heap[c]? = w.heap[c]? := fun c hc => by
    show (w.heap.setIfInBounds L.blk o)[c]? = _
    rw [Array.getElem?_setIfInBounds, if_neg (fun e => hc e.symm)]
  have hsz : (w.putObj L.blk o).heap.size = w.heap.size := by show (w.heap.setIfInBounds L.blk o).size = _; simp
  refine ⟨⟨fun b x hb => ?_, fun b c x y M N hb hc => ?_, fun b x M hb => ?_, fun c hc => by rw [hsz]; exact g.kin c hc⟩, ⟨rfl, rfl, rfl, Nat.le_of_eq hsz.symm, fun c hc => hoth c (fun e => g.prot d k L hd hrw hL (e ▸ hc))⟩⟩
  · rw [Hp.get_del] at hb
    split at hb
    · cases hb
    · rename_i hne
      obtain ⟨M, hM, hr⟩ := g.rel b x hb
      exact ⟨M, hM, hr.congr (hoth _ (fun e => g.sep d b k x L M hd hb (fun e => hne e.symm) hrw hL hM e.symm))⟩
  · rw [Hp.get_del] at hb hc
    split at hb
    · cases hb
    · split at hc
      · cases hc
      · exact g.sep b c x y M N hb hc
  · rw [Hp.get_del] at hb
    split at hb
    · cases hb
    · exact g.prot b x M hb

theorem leaves_ok {fn : Func} {tmps : Array Value} {Rr : Ending → World → Prop} : ∀ {ds : List Nat} {xs : List Deferred} {H H' : Hp} {w : World}, DRel φ ds xs → Good φ H K w → killDs ds H = some H' →
    (∀ w', Good φ H' K w' → Went K w w' → ∃ v, (results fn tmps).run P w' = .ok v w' ∧ Rr (.returned v) w') → LeavesInM (fw none) 0 P fn tmps Rr xs .returning w
  | [], [], H, H', w, _, g, hk, h => by
    simp [killDs] at hk; subst hk
    exact h w g (Went.refl _ _)
  | d :: ds, x :: xs, H, H', w, hd, g, hk, h => by
    obtain ⟨⟨L, hL, rfl⟩, hd⟩ := hd
    simp only [killDs] at hk
    split at hk
    · rename_i hb
      have hbr : w.heap[L.blk]? = some (.deferred (some [])) := g.at hb hL
      obtain ⟨g', hw'⟩ := good_kill g hb rfl hL (.deferred none)
      refine ⟨by simp, .inl ⟨L.blk, _, rfl, run_takeDeferred hbr, ?_⟩⟩
      exact leaves_ok hd g' hk fun w' g2 h2 => h w' g2 (hw'.trans h2)
    · cases hk
  | [], _ :: _, _, _, _, h, _, _, _ => h.elim
  | _ :: _, [], _, _, _, h, _, _, _ => h.elim

theorem callOk_of {f : FuncId} {fn : Func} {c : Code} {args : List Value} {nx : Nat} {R : Res} {H1 H2 : Hp} {vs : List Value} (hfn : P.funcs[f]? = some fn) (hb : fn.body = some c)
    (h : CodeOk P none c (args ++ List.replicate (fn.ntmps - args.length) undef) [] H nx R) (he : R.e = .normal ∨ R.e = .ret) (hk : killDs R.ds R.H = some H1) (hr : resA P H1 R.tm fn.results.toList = some vs)
    (hs : ∀ b k, H2.get b = some k → H1.get b = some k) : CallOk P f args H nx (retV vs) H2 R.nx := by
  refine ⟨h.1, fun φ w K us g hf hl => ?_⟩
  have hcin : CallsIn (fw none) 0 P f us.toArray w fun e w' => ∃ v' φ', e = .returned v' ∧ VRel φ' (retV vs) v' ∧ Ext φ φ' nx R.nx ∧ Good φ' H2 K w' ∧ Went K w w' := by
    refine callsIn_of_wp_marks hfn hb trivial ?_
    have hlen := hl.length
    have ht : TRel φ (args ++ List.replicate (fn.ntmps - args.length) undef) (us.toArray ++ Array.replicate (fn.ntmps - us.toArray.size) undef) := by
      have hu : VRel φ undef undef := .tuple' (by simp [LRel])
      have hrep : ∀ n, LRel φ (List.replicate n undef) (List.replicate n undef) := by
        intro n; induction n with
        | zero => trivial
        | succ n ih => exact ⟨hu, ih⟩
      have hall := hl.append (hrep (fn.ntmps - args.length))
      refine ⟨by simp [hlen], fun i v hv => .inr ?_⟩
      obtain ⟨v', h1, h2⟩ := hall.get hv
      refine ⟨v', ?_, h2⟩
      rw [← h1, ← Array.getElem?_toList]
      simp [hlen]
    refine wpIn_mono (h.2 φ w K { tmps := us.toArray ++ Array.replicate (fn.ntmps - us.toArray.size) undef, defers := [] } none g hf ht trivial trivial) ?_
    rintro e a1 w1 ⟨rfl, φ1, x1, x2, x3, x4, x5⟩
    have key : LeavesInM (fw none) 0 P fn a1.tmps (fun e w' => ∃ v' φ', e = .returned v' ∧ VRel φ' (retV vs) v' ∧ Ext φ φ' nx R.nx ∧ Good φ' H2 K w' ∧ Went K w w') a1.defers .returning w1 := by
      refine leaves_ok x4 x2 hk fun w' g' hw' => ?_
      obtain ⟨us', h1, h2⟩ := resA_ok (P := P) g' x3 hr
      have h1' : (fn.results.mapM (fun | .tmp t => pure (a1.tmps.getD t undef) | .cell b t => do loadVar t (← asAddr (a1.tmps.getD b undef)) : ResultVar → Sem Value)).run P w' = .ok us'.toArray w' := by
        rw [← Array.toArray_toList (xs := fn.results), List.mapM_toArray]
        simp only [Sem.run_map, h1, Result.andThen_ok]
      have hlen2 := h2.length
      refine ⟨retV us', ?_, retV us', φ1, rfl, ?_, x1, g'.sub hs, x5.trans hw'⟩
      · unfold results
        simp only [Sem.run_bind]
        erw [h1']
        simp only [Result.andThen_ok, Sem.run_pure]
        congr 1
        match us' with
        | [] => rfl
        | [v] => rfl
        | _ :: _ :: _ => simp [retV]
      · match vs, us', h2 with
        | [], [], _ => exact .tuple' (by simp [LRel])
        | [v], [v'], h2 => exact h2.1
        | _ :: _ :: _, _ :: _ :: _, h2 => exact .tuple' (by simpa [retV] using h2)
    rcases he with he | he <;> (rw [he]; exact key)
  exact callsIn_wide.1 hcin
end Go.En
/- The engine, part K: regions that draw their order. -/
namespace Go.En
set_option linter.unusedVariables false
variable {P : Program} {φ : Ren} {H : Hp} {K : Nat → Prop} {w : World}

structure Ev where
  call : FuncId → List Value → Hp → Nat → Option (Value × Hp × Nat)
  code : Option Nat → Code → List Value → List Nat → Hp → Nat → Option Res
  loop : Option Nat → Code → List Value → List Nat → Hp → Nat → Option Res
  scp : Code → Code → List Value → List Nat → Hp → Nat → Option Res

structure Ev.Ok (P : Program) (E : Ev) : Prop where
  call : ∀ {f args H nx v H' nx'}, E.call f args H nx = some (v, H', nx') → CallOk P f args H nx v H' nx'
  named : ∀ {f args H nx v H' nx'}, E.call f args H nx = some (v, H', nx') → ∃ fn, P.funcs[f]? = some fn ∧ fn.body.isSome = true
  code : ∀ {r c tm ds H nx R}, E.code r c tm ds H nx = some R → CodeOk P r c tm ds H nx R
  loop : ∀ {r c tm ds H nx R}, E.loop r c tm ds H nx = some R → LoopOk P r c tm ds H nx R
  scp : ∀ {c x tm ds H nx R}, E.scp c x tm ds H nx = some R → ScpOk P c x tm ds H nx R

/-! ### A part of a heap handed to an operation -/

def Hp.only (p : Nat → Bool) : Hp → Hp
  | [] => []
  | (b, k) :: r => if p b then (b, k) :: Hp.only p r else Hp.only p r
theorem Hp.get_only (p : Nat → Bool) (n : Nat) : ∀ H : Hp, (Hp.only p H).get n = if p n then H.get n else none
  | [] => by simp [Hp.only, Hp.get]
  | (b, k) :: r => by
    have ih := Hp.get_only p n r
    by_cases hb : b = n
    · subst hb
      by_cases hp : p b = true
      · simp [Hp.only, Hp.get, hp]
      · simp only [Bool.not_eq_true] at hp; simp [Hp.only, hp, ih]
    · by_cases hp : p b = true
      · simp [Hp.only, Hp.get, hp, hb, ih]
      · simp only [Bool.not_eq_true] at hp; simp [Hp.only, Hp.get, hp, hb, ih]
theorem Hp.get_append (n : Nat) : ∀ H G : Hp, Hp.get (H ++ G) n = (match H.get n with | some k => some k | none => G.get n)
  | [], G => by simp [Hp.get]
  | (b, k) :: r, G => by
    have ih := Hp.get_append n r G
    by_cases hb : b = n
    · subst hb; simp [Hp.get]
    · simp [Hp.get, hb, ih]

/-- How an operation sees a block: a name of wr as it is; a masked one not at all; cells of others to read alone. -/
def seen1 (wr mask : Nat → Bool) (b : Nat) (k : Blk) : Blk :=
  if wr b then k else if mask b then .hid else match k with
    | .cells cs _ => .cells cs true
    | _ => .hid
def mkView (wr mask : Nat → Bool) : Hp → Hp
  | [] => []
  | (b, k) :: r => (b, seen1 wr mask b k) :: mkView wr mask r
theorem mkView_get (wr mask : Nat → Bool) (n : Nat) : ∀ H : Hp, (mkView wr mask H).get n = (H.get n).map (seen1 wr mask n)
  | [] => by simp [mkView, Hp.get]
  | (b, k) :: r => by
    have ih := mkView_get wr mask n r
    by_cases hb : b = n
    · subst hb; simp [mkView, Hp.get]
    · simp [mkView, Hp.get, hb, ih]

theorem BRel.hid_of {φ : Ren} {w : World} {L : Loc} {k : Blk} (h : BRel φ w L k) : BRel φ w L .hid := by
  have := h.lt
  exact ⟨w.heap[L.blk], by simp [this]⟩

/-- The heap behind an operation that was handed a view of it. -/
def merge (touch : Nat → Bool) (H' G : Hp) : Hp := Hp.only touch H' ++ Hp.only (fun b => !touch b) G
theorem merge_get (touch : Nat → Bool) (H' G : Hp) (b : Nat) : (merge touch H' G).get b = if touch b then H'.get b else G.get b := by
  unfold merge
  rw [Hp.get_append, Hp.get_only, Hp.get_only]
  cases h : touch b
  · simp
  · simp; cases H'.get b <;> rfl

def allRw : Hp → Bool
  | [] => true
  | (_, k) :: r => k.rw && allRw r
theorem allRw_get {b : Nat} {k : Blk} : ∀ {H : Hp}, allRw H = true → H.get b = some k → k.rw = true
  | [], _, h => by simp [Hp.get] at h
  | (c, x) :: r, ha, h => by
    simp only [allRw, Bool.and_eq_true] at ha
    by_cases hb : c = b
    · subst hb; simp [Hp.get] at h; subst h; exact ha.1
    · simp [Hp.get, hb] at h; exact allRw_get ha.2 h

/-- The names that an operation may turn, and those that it may take new. -/
def touchOf (wr : Nat → Bool) (lo hi : Nat) (b : Nat) : Bool := wr b || (decide (lo ≤ b) && decide (b < hi))

/-- An operation run on a view of the heap G: what it does to G. -/
theorem view_ok {r : Option Nat} {o : Oper} {tm : List Value} {V H' G : Hp} {wr mask : Nat → Bool} {lo hi : Nat} {v : Value} (h : OpOk P r o tm V lo v H' hi)
    (hV : ∀ b k, V.get b = some k → ∃ k0, G.get b = some k0 ∧ k = seen1 wr mask b k0) (hrw : allRw (Hp.only (touchOf wr lo hi) H') = true)
    (φ : Ren) (w : World) (K : Nat → Prop) (a : Act) (rc : Option Nat) (next : Act → World → Prop) (Q : Exit → Act → World → Prop) (g : Good φ G K w) (hf : Fresh φ lo hi) (ht : TRel φ tm a.tmps) (hr : RRel φ r rc)
    (hk : ∀ v' φ' w', VRel φ' v v' → Ext φ φ' lo hi → Good φ' (merge (touchOf wr lo hi) H' G) K w' → Went K w w' → next (a.put o.dst v') w') : o.wpIn (fw rc) 0 P a w next Q := by
  let K2 : Nat → Prop := fun c => K c ∨ ∃ b k L, G.get b = some k ∧ wr b = false ∧ φ b = some L ∧ L.blk = c
  have hV' : ∀ b k, V.get b = some k → k.rw = true → wr b = true := by
    intro b k hb hk
    obtain ⟨k0, h0, rfl⟩ := hV b k hb
    cases hw : wr b with
    | true => rfl
    | false =>
      simp only [seen1, hw, Bool.false_eq_true, if_false] at hk
      split at hk
      · simp [Blk.rw] at hk
      · split at hk <;> simp [Blk.rw] at hk
  have hsame : ∀ b k, V.get b = some k → wr b = true → G.get b = some k := by
    intro b k hb hw
    obtain ⟨k0, h0, rfl⟩ := hV b k hb
    simp only [seen1, hw, if_true]; exact h0
  have g2 : Good φ V K2 w := by
    refine ⟨fun b k hb => ?_, fun b c k k' L L' hb hc hne hkr hL hL' => ?_, fun b k L hb hkr hL hK2 => ?_, fun c hc => ?_⟩
    · obtain ⟨k0, h0, rfl⟩ := hV b k hb
      obtain ⟨L, hL, hbr⟩ := g.rel b k0 h0
      refine ⟨L, hL, ?_⟩
      unfold seen1
      split
      · exact hbr
      · split
        · exact hbr.hid_of
        · split
          · obtain ⟨arr, el, fr, h1, h2, h3⟩ := hbr
            exact ⟨arr, el, fr, h1, h2, fun h => by cases h⟩
          · exact hbr.hid_of
    · have hw := hV' b k hb hkr
      obtain ⟨k1, h1, _⟩ := hV c k' hc
      exact g.sep b c k k1 L L' (hsame b k hb hw) h1 hne hkr hL hL'
    · have hw := hV' b k hb hkr
      have hG := hsame b k hb hw
      rcases hK2 with hK | ⟨c, k', L', hc, hwc, hLc, he⟩
      · exact g.prot b k L hG hkr hL hK
      · have hne : b ≠ c := fun e => by subst e; rw [hw] at hwc; cases hwc
        exact g.sep b c k k' L L' hG hc hne hkr hL hLc he.symm
    · rcases hc with hK | ⟨b, k, L, hb, _, hL, he⟩
      · exact g.kin c hK
      · have := (g.at hb hL).lt; omega
  refine h.2 φ w K2 a rc next Q g2 hf ht hr fun v' φ' w' x1 x2 x3 x4 => ?_
  refine hk v' φ' w' x1 x2 ?_ ⟨x4.os, x4.tape, x4.output, x4.size, fun c hc => x4.kept c (.inl hc)⟩
  have htr : ∀ b k, (merge (touchOf wr lo hi) H' G).get b = some k → touchOf wr lo hi b = true → H'.get b = some k ∧ k.rw = true := by
    intro b k hb ht
    rw [merge_get, ht] at hb
    refine ⟨hb, allRw_get (b := b) hrw ?_⟩
    rw [Hp.get_only, ht]; exact hb
  have hun : ∀ b k, (merge (touchOf wr lo hi) H' G).get b = some k → touchOf wr lo hi b = false → G.get b = some k ∧ wr b = false := by
    intro b k hb ht
    rw [merge_get, ht] at hb
    refine ⟨by simpa using hb, ?_⟩
    simp only [touchOf, Bool.or_eq_false_iff] at ht
    exact ht.1
  refine ⟨fun b k hb => ?_, fun b c k k' L L' hb hc hne hkr hL hL' => ?_, fun b k L hb hkr hL hK => ?_, fun c hc => Nat.lt_of_lt_of_le (g.kin c hc) x4.size⟩
  · cases ht : touchOf wr lo hi b with
    | true => exact x3.rel b k (htr b k hb ht).1
    | false =>
      obtain ⟨hG, hw⟩ := hun b k hb ht
      obtain ⟨L, hL, hbr⟩ := g.rel b k hG
      exact ⟨L, x2.1 _ _ hL, (hbr.congr (x4.kept L.blk (.inr ⟨b, k, L, hG, hw, hL, rfl⟩))).mono x2.1⟩
  · cases htb : touchOf wr lo hi b with
    | true =>
      obtain ⟨hb', hbr⟩ := htr b k hb htb
      cases htc : touchOf wr lo hi c with
      | true => exact x3.sep b c k k' L L' hb' (htr c k' hc htc).1 hne hbr hL hL'
      | false =>
        obtain ⟨hG, hw⟩ := hun c k' hc htc
        obtain ⟨M, hM, _⟩ := g.rel c k' hG
        have := x2.1 _ _ hM
        rw [hL'] at this; cases this
        exact fun e => x3.prot b k L hb' hbr hL (.inr ⟨c, k', L', hG, hw, hM, e.symm⟩)
    | false =>
      obtain ⟨hG, hw⟩ := hun b k hb htb
      obtain ⟨M, hM, _⟩ := g.rel b k hG
      have hM' := x2.1 _ _ hM
      rw [hL] at hM'; cases hM'
      cases htc : touchOf wr lo hi c with
      | true =>
        obtain ⟨hc', hcr⟩ := htr c k' hc htc
        exact fun e => x3.prot c k' L' hc' hcr hL' (.inr ⟨b, k, L, hG, hw, hM, e⟩)
      | false =>
        obtain ⟨hGc, hwc⟩ := hun c k' hc htc
        obtain ⟨M2, hM2, _⟩ := g.rel c k' hGc
        have := x2.1 _ _ hM2
        rw [hL'] at this; cases this
        exact g.sep b c k k' L L' hG hGc hne hkr hM hM2
  · cases htb : touchOf wr lo hi b with
    | true =>
      obtain ⟨hb', hbr⟩ := htr b k hb htb
      exact x3.prot b k L hb' hbr hL (.inl hK)
    | false =>
      obtain ⟨hG, hw⟩ := hun b k hb htb
      obtain ⟨M, hM, _⟩ := g.rel b k hG
      have hM' := x2.1 _ _ hM
      rw [hL] at hM'; cases hM'
      exact g.prot b k L hG hkr hM hK
end Go.En
/- The engine, part KB: whatever order a region draws, it comes to the same. -/
namespace Go.En
set_option linter.unusedVariables false
variable {P : Program} {φ : Ren} {H : Hp} {K : Nat → Prop} {w : World}

/-- A step of a region's evaluation in its text's order. -/
structure Stp where
  o : Oper
  ran : Bool
  v : Value
  tmo : List Value
  V : Hp
  wr : Nat → Bool
  H' : Hp
  lo : Nat
  hi : Nat

def Stp.touch (s : Stp) (b : Nat) : Bool := touchOf s.wr s.lo s.hi b

section
variable (st : Nat → Stp) (H0 : Hp) (tm0 : List Value)

/-- The heap, name by name, when the steps of S (of the first m) are done. -/
def spec (S : Nat → Bool) : Nat → Nat → Option Blk
  | 0, b => H0.get b
  | m + 1, b => if S m && (st m).touch b then (st m).H'.get b else spec S m b
/-- The temporaries. -/
def tmS (S : Nat → Bool) : Nat → List Value
  | 0 => tm0
  | m + 1 => if S m then putT (tmS S m) (st m).o.dst (st m).v else tmS S m
end

variable {st : Nat → Stp} {H0 : Hp} {tm0 : List Value}

theorem spec_agree {S T : Nat → Bool} {b : Nat} : ∀ {m : Nat}, (∀ k, k < m → (st k).touch b = true → S k = T k) → spec st H0 S m b = spec st H0 T m b
  | 0, _ => rfl
  | m + 1, h => by
    have ih := spec_agree (S := S) (T := T) (b := b) (m := m) fun k hk => h k (by omega)
    simp only [spec]
    cases ht : (st m).touch b with
    | false => simpa using ih
    | true => rw [h m (by omega) ht, ih]

theorem putT_length (tm : List Value) (d : Option Tmp) (v : Value) : (putT tm d v).length = tm.length := by cases d <;> simp [putT]
theorem tmS_length (S : Nat → Bool) : ∀ m, (tmS st tm0 S m).length = tm0.length
  | 0 => rfl
  | m + 1 => by
    simp only [tmS]
    split
    · rw [putT_length]; exact tmS_length S m
    · exact tmS_length S m
theorem putT_get (tm : List Value) (d : Option Tmp) (v : Value) (s : Nat) : (putT tm d v)[s]? = if d = some s ∧ s < tm.length then some v else tm[s]? := by
  cases d with
  | none => simp [putT]
  | some d =>
    simp only [putT, List.getElem?_set, Option.some.injEq]
    by_cases h : d = s
    · subst h
      by_cases hl : d < tm.length
      · simp [hl]
      · simp [hl]
    · simp [h]
theorem tmS_agree {S T : Nat → Bool} {s : Nat} : ∀ {m : Nat}, (∀ k, k < m → (st k).o.dst = some s → S k = T k) → (tmS st tm0 S m)[s]? = (tmS st tm0 T m)[s]?
  | 0, _ => rfl
  | m + 1, h => by
    have ih := tmS_agree (S := S) (T := T) (s := s) (m := m) fun k hk => h k (by omega)
    simp only [tmS]
    by_cases hd : (st m).o.dst = some s
    · rw [h m (by omega) hd]
      split
      · rw [putT_get, putT_get, tmS_length, tmS_length, ih]
      · exact ih
    · have h1 : ∀ (T : Nat → Bool), (if T m then putT (tmS st tm0 T m) (st m).o.dst (st m).v else tmS st tm0 T m)[s]? = (tmS st tm0 T m)[s]? := by
        intro T
        split
        · rw [putT_get]; simp [hd]
        · rfl
      rw [h1, h1, ih]

/-- What the evaluation in the text's order must have shown. -/
structure DrawOk (P : Program) (r : Option Nat) (ops : Array Oper) (tm0 : List Value) (H0 : Hp) (nx nx' : Nat) (st : Nat → Stp) (A : Nat → Nat → Bool) : Prop where
  hops : ∀ i, i < ops.size → ops[i]? = some (st i).o
  rng : ∀ i, i < ops.size → (st i).lo ≤ (st i).hi
  rngs : ∀ i j, i < j → j < ops.size → (st i).hi ≤ (st j).lo
  rng0 : ∀ i, i < ops.size → nx ≤ (st i).lo ∧ (st i).hi ≤ nx'
  nxs : nx ≤ nx'
  a1 : ∀ i, i < ops.size → ∀ e ∈ (st i).o.after, Region.binds .any e = true → A i e.on = true ∧ e.on < i
  a2 : ∀ i, i < ops.size → ∀ j, A i j = true → ∃ e ∈ (st i).o.after, Region.binds .any e = true ∧ (j = e.on ∨ A e.on j = true)
  a3 : ∀ i j, i < ops.size → A i j = true → j < i
  tlen : ∀ i, i < ops.size → (st i).tmo.length = tm0.length
  tmo : ∀ i, i < ops.size → ∀ (s : Nat) v, (st i).tmo[s]? = some v → v = junk ∨ ((tmS st tm0 (fun k => decide (k < i)) ops.size)[s]? = some v ∧ ∀ k, k < ops.size → k ≠ i → (st k).o.dst = some s → A i k = true ∨ A k i = true)
  dst : ∀ i j (s : Nat), i < ops.size → j < ops.size → i ≠ j → (st i).o.dst = some s → (st j).o.dst ≠ some s
  want : ∀ i, i < ops.size → wantedA ops (st i).tmo (st i).o = some (st i).ran
  ok : ∀ i, i < ops.size → (st i).ran = true → OpOk P r (st i).o (st i).tmo (st i).V (st i).lo (st i).v (st i).H' (st i).hi ∧ allRw (Hp.only (st i).touch (st i).H') = true
  vw : ∀ i, i < ops.size → ∀ b k, (st i).V.get b = some k → ∃ k0, spec st H0 (fun k => decide (k < i)) ops.size b = some k0 ∧ k = seen1 (st i).wr (fun _ => false) b k0
  skip : ∀ i, i < ops.size → (st i).ran = false → (st i).v = undef ∧ ∀ b, (st i).touch b = false
  dis : ∀ i j, i < ops.size → j < ops.size → i ≠ j → A i j = false → A j i = false → ∀ b k, (st i).V.get b = some k → (st j).touch b = false
  wrin : ∀ i, i < ops.size → ∀ b, (st i).wr b = true → ∃ k, (st i).V.get b = some k

theorem getD_false {listed : Array Bool} {i : Nat} (h : listed.getD i true = false) : listed.getD i false = false ∧ i < listed.size := by
  by_cases hl : i < listed.size
  · simp [Array.getD, hl] at h ⊢; exact h
  · simp [Array.getD, hl] at h

theorem touch_disj {r : Option Nat} {ops : Array Oper} {nx nx' : Nat} {A : Nat → Nat → Bool} (D : DrawOk P r ops tm0 H0 nx nx' st A) {i j : Nat} (hi : i < ops.size) (hj : j < ops.size) (hne : i ≠ j) (h1 : A i j = false) (h2 : A j i = false) {b : Nat}
    (hb : (st i).touch b = true) : (st j).touch b = false := by
  cases hjb : (st j).touch b with
  | false => rfl
  | true =>
    exfalso
    have hb' := hb
    have hjb' := hjb
    simp only [Stp.touch, touchOf, Bool.or_eq_true, Bool.and_eq_true, decide_eq_true_eq] at hb' hjb'
    rcases hb' with hw | ⟨hl, hh⟩
    · obtain ⟨k, hk⟩ := D.wrin i hi b hw
      have := D.dis i j hi hj hne h1 h2 b k hk
      rw [hjb] at this; cases this
    · rcases hjb' with hw | ⟨hl2, hh2⟩
      · obtain ⟨k, hk⟩ := D.wrin j hj b hw
        have := D.dis j i hj hi (fun e => hne e.symm) h2 h1 b k hk
        rw [hb] at this; cases this
      · rcases Nat.lt_or_gt_of_ne hne with hlt | hgt
        · have := D.rngs i j hlt hj; omega
        · have := D.rngs j i hgt hi; omega

theorem spec_add {r : Option Nat} {ops : Array Oper} {nx nx' : Nat} {A : Nat → Nat → Bool} (D : DrawOk P r ops tm0 H0 nx nx' st A) {S : Nat → Bool} {i : Nat} (hi : i < ops.size) (hSi : S i = false)
    (hdown : ∀ k, k < ops.size → S k = true → ∀ j, A k j = true → S j = true) (b : Nat) :
    spec st H0 (fun k => S k || k == i) ops.size b = if (st i).touch b then (st i).H'.get b else spec st H0 S ops.size b := by
  have key : ∀ m, m ≤ ops.size → spec st H0 (fun k => S k || k == i) m b = if decide (i < m) && (st i).touch b then (st i).H'.get b else spec st H0 S m b := by
    intro m
    induction m with
    | zero => intro _; simp [spec]
    | succ m ih =>
      intro hm
      have ih := ih (by omega)
      simp only [spec]
      by_cases hmi : m = i
      · subst hmi
        simp only [beq_self_eq_true, Bool.or_true, Bool.true_and, hSi, Bool.false_and, Bool.false_eq_true, if_false, Nat.lt_succ_self, decide_true]
        split
        · rfl
        · rename_i ht; rw [ih]; simp
      · have hbe : (m == i) = false := by simp [hmi]
        simp only [hbe, Bool.or_false]
        by_cases hlt : i < m
        · have hlt' : i < m + 1 := by omega
          simp only [hlt', decide_true, Bool.true_and]
          simp only [hlt, decide_true, Bool.true_and] at ih
          cases hti : (st i).touch b with
          | false => rw [ih]; simp [hti]
          | true =>
            simp only [hti, if_true] at ih ⊢
            have : (S m && (st m).touch b) = false := by
              cases hSm : S m with
              | false => rfl
              | true =>
                have h1 : A i m = false := by
                  cases hA : A i m with
                  | false => rfl
                  | true => have := D.a3 i m hi hA; omega
                have h2 : A m i = false := by
                  cases hA : A m i with
                  | false => rfl
                  | true => have := hdown m (by omega) hSm i hA; rw [hSi] at this; cases this
                simp [touch_disj D hi (by omega) (fun e => hmi e.symm) h1 h2 hti]
            rw [this]; simpa using ih
        · have hlt' : ¬ i < m + 1 := by omega
          simp only [hlt', decide_false, Bool.false_and, Bool.false_eq_true, if_false]
          simp only [hlt, decide_false, Bool.false_and, Bool.false_eq_true, if_false] at ih
          rw [ih]
  have := key ops.size (Nat.le_refl _)
  simpa [hi] using this

theorem tmS_add {r : Option Nat} {ops : Array Oper} {nx nx' : Nat} {A : Nat → Nat → Bool} (D : DrawOk P r ops tm0 H0 nx nx' st A) {S : Nat → Bool} {i : Nat} (hi : i < ops.size) (hSi : S i = false) :
    tmS st tm0 (fun k => S k || k == i) ops.size = putT (tmS st tm0 S ops.size) (st i).o.dst (st i).v := by
  apply List.ext_getElem?
  intro s
  rw [putT_get, tmS_length]
  have key : ∀ m, m ≤ ops.size → (tmS st tm0 (fun k => S k || k == i) m)[s]? = if i < m ∧ (st i).o.dst = some s ∧ s < tm0.length then some (st i).v else (tmS st tm0 S m)[s]? := by
    intro m
    induction m with
    | zero => intro _; simp [tmS]
    | succ m ih =>
      intro hm
      have ih := ih (by omega)
      simp only [tmS]
      by_cases hmi : m = i
      · subst hmi
        simp only [beq_self_eq_true, Bool.or_true, if_true, hSi, Bool.false_eq_true, if_false, Nat.lt_succ_self, true_and]
        rw [putT_get, tmS_length, ih]
        simp
      · have hbe : (m == i) = false := by simp [hmi]
        simp only [hbe, Bool.or_false]
        have hlt : (i < m + 1) ↔ (i < m) := by omega
        simp only [hlt]
        by_cases hSm : S m = true
        · simp only [hSm, if_true]
          rw [putT_get, putT_get, tmS_length, tmS_length, ih]
          by_cases hd : (st m).o.dst = some s
          · have hd' : (st i).o.dst ≠ some s := D.dst m i s (by omega) hi hmi hd
            simp [hd, hd']
          · simp [hd]
        · simp only [hSm]
          exact ih
  have := key ops.size (Nat.le_refl _)
  simpa [hi] using this

theorem draw_main {r : Option Nat} {ops : Array Oper} {nx nx' : Nat} {A : Nat → Nat → Bool} (D : DrawOk P r ops tm0 H0 nx nx' st A) {tmF : List Value} {HF : Hp} (htF : tmF = tmS st tm0 (fun k => decide (k < ops.size)) ops.size)
    (hHF : ∀ b k, HF.get b = some k → spec st H0 (fun k => decide (k < ops.size)) ops.size b = some k) (rc : Option Nat) (φ0 : Ren) (w0 : World) (K : Nat → Prop) (a0 : Act) (Q : Exit → Act → World → Prop)
    (hk : ∀ φ' a' w', Ext φ0 φ' nx nx' → Good φ' HF K w' → TRel φ' tmF a'.tmps → a'.defers = a0.defers → Went K w0 w' → Q .normal a' w') :
    ∀ (fuel t : Nat) (listed : Array Bool) (φ : Ren) (G : Hp) (a : Act) (w : World), listed.size = ops.size → ((List.range ops.size).filter fun k => !listed.getD k false).length ≤ fuel →
      (∀ i, i < ops.size → listed.getD i false = true → ∀ j, A i j = true → listed.getD j false = true) → (∀ b, G.get b = spec st H0 (fun k => listed.getD k false) ops.size b) → Good φ G K w →
      TRel φ (tmS st tm0 (fun k => listed.getD k false) ops.size) a.tmps → (∀ i, i < ops.size → listed.getD i false = false → Fresh φ (st i).lo (st i).hi) → Ext φ0 φ nx nx' → Went K w0 w → a.defers = a0.defers → RRel φ r rc →
      wpOpsIn (fw rc) 0 P ops Q (Region.linearise.go .any ops fuel t listed []) a w := by
  intro fuel
  have final : ∀ (listed : Array Bool) (φ : Ren) (G : Hp) (a : Act) (w : World), (∀ k, k < ops.size → listed.getD k false = true) → (∀ b, G.get b = spec st H0 (fun k => listed.getD k false) ops.size b) → Good φ G K w →
      TRel φ (tmS st tm0 (fun k => listed.getD k false) ops.size) a.tmps → Ext φ0 φ nx nx' → Went K w0 w → a.defers = a0.defers → Q .normal a w := by
    intro listed φ G a w hall hG g ht he hw hd
    refine hk φ a w he (g.sub fun b k hb => ?_) ?_ hd hw
    · rw [hG, spec_agree (T := fun k => decide (k < ops.size)) (fun k hk _ => by simp [hall k hk, hk])]
      exact hHF b k hb
    · have : tmS st tm0 (fun k => listed.getD k false) ops.size = tmF := by
        rw [htF]
        apply List.ext_getElem?
        intro s
        exact tmS_agree fun k hk _ => by simp [hall k hk, hk]
      rw [← this]; exact ht
  induction fuel with
  | zero =>
    intro t listed φ G a w hsz hcnt hdown hG g ht hfr he hw hd hr
    simp only [Region.linearise.go, List.reverse_nil, wpOpsIn]
    refine final listed φ G a w (fun k hk => ?_) hG g ht he hw hd
    have hnil := List.eq_nil_of_length_eq_zero (Nat.le_zero.1 hcnt)
    have := List.filter_eq_nil_iff.1 hnil k (List.mem_range.2 hk)
    simpa using this
  | succ fuel ih =>
    intro t listed φ G a w hsz hcnt hdown hG g ht hfr he hw hd hr
    simp only [Region.linearise.go]
    change wpOpsIn (fw rc) 0 P ops Q (match (Region.ready .any ops listed)[t % (Region.ready .any ops listed).length]? with
      | some i => Region.linearise.go .any ops fuel (t / (Region.ready .any ops listed).length) (listed.setIfInBounds i true) [i]
      | none => [].reverse) a w
    cases hi : (Region.ready .any ops listed)[t % (Region.ready .any ops listed).length]? with
    | none =>
      have hnil : Region.ready .any ops listed = [] := by
        cases hr : Region.ready .any ops listed with
        | nil => rfl
        | cons x xs =>
          rw [hr] at hi
          have hlt : t % (x :: xs).length < (x :: xs).length := Nat.mod_lt _ (by simp)
          simp at hi
          simp at hlt
          omega
      simp only [List.reverse_nil, wpOpsIn]
      refine final listed φ G a w ?_ hG g ht he hw hd
      intro k
      induction k using Nat.strongRecOn with
      | _ k ihk =>
        intro hk
        cases hl : listed.getD k false with
        | true => rfl
        | false =>
          exfalso
          have hmem : k ∈ Region.ready .any ops listed := by
            rw [mem_ready]
            refine ⟨?_, (st k).o, D.hops k hk, fun e he hb => ?_⟩
            · have : k < listed.size := by omega
              simp [Array.getD, this] at hl ⊢; exact hl
            · have := (D.a1 k hk e he hb).2
              exact ihk e.on this (by omega)
          rw [hnil] at hmem; cases hmem
    | some i =>
      simp only []
      rw [linearise_go_acc, List.reverse_singleton, List.singleton_append]
      have hmem := List.mem_of_getElem? hi
      rw [mem_ready] at hmem
      obtain ⟨hli, o, ho, hed⟩ := hmem
      obtain ⟨hSi, hil⟩ := getD_false hli
      have hin : i < ops.size := by omega
      have hoe : o = (st i).o := by have := D.hops i hin; rw [ho] at this; cases this; rfl
      subst hoe
      have hanc : ∀ j, A i j = true → listed.getD j false = true := by
        intro j hj
        obtain ⟨e, he, hb, hor⟩ := D.a2 i hin j hj
        have h1 := hed e he hb
        rcases hor with rfl | hA
        · exact h1
        · exact hdown e.on (by have := (D.a1 i hin e he hb).2; omega) h1 j hA
      have hagree : ∀ k, k < ops.size → (k = i ∨ A i k = true ∨ A k i = true) → listed.getD k false = decide (k < i) := by
        intro k hk hor
        rcases hor with rfl | hA | hA
        · rw [hSi]; simp
        · rw [hanc k hA]; have := D.a3 i k hin hA; simp [this]
        · have h1 := D.a3 k i hk hA
          have : listed.getD k false = false := by
            cases hl : listed.getD k false with
            | false => rfl
            | true => have := hdown k hk hl i hA; rw [hSi] at this; cases this
          rw [this]; simp; omega
      have htmo : TRel φ (st i).tmo a.tmps := by
        refine ⟨by rw [D.tlen i hin, ← ht.1, tmS_length], fun s v hv => ?_⟩
        rcases D.tmo i hin s v hv with hj | ⟨h1, h2⟩
        · exact .inl hj
        · refine ht.2 s v ?_
          rw [← h1]
          refine tmS_agree fun k hk hdk => hagree k hk ?_
          by_cases hki : k = i
          · exact .inl hki
          · exact .inr (h2 k hk hki hdk)
      have hset : ∀ k, (listed.setIfInBounds i true).getD k false = (listed.getD k false || k == i) := by
        intro k
        by_cases hki : k = i
        · subst hki; simp [Array.getD, hil]
        · rw [getD_set_ne false (fun e => hki e.symm)]
          simp [hki]
      have hfun : (fun k => (listed.setIfInBounds i true).getD k false) = (fun k => listed.getD k false || k == i) := funext hset
      have hcnt' : ((List.range ops.size).filter fun k => !(listed.setIfInBounds i true).getD k false).length ≤ fuel := by
        have e1 : ((List.range ops.size).filter fun k => !(listed.setIfInBounds i true).getD k false) = (((List.range ops.size).filter fun k => !listed.getD k false)).filter fun k => !(k == i) := by
          rw [List.filter_filter]
          congr 1
          funext k
          rw [hset]
          cases listed.getD k false <;> cases (k == i) <;> rfl
        have e2 := List.length_filter_lt_length_iff_exists (p := fun k => !(k == i)) (l := (List.range ops.size).filter fun k => !listed.getD k false) |>.2 ⟨i, by rw [List.mem_filter]; exact ⟨List.mem_range.2 hin, by rw [hSi]; rfl⟩, by simp⟩
        rw [e1]; omega
      have hdown' : ∀ k, k < ops.size → (listed.setIfInBounds i true).getD k false = true → ∀ j, A k j = true → (listed.setIfInBounds i true).getD j false = true := by
        intro k hk hl j hj
        rw [hset] at hl ⊢
        simp only [Bool.or_eq_true, beq_iff_eq] at hl ⊢
        rcases hl with hl | rfl
        · exact .inl (hdown k hk hl j hj)
        · exact .inl (hanc j hj)
      have hfresh' : ∀ φ', Ext φ φ' (st i).lo (st i).hi → ∀ k, k < ops.size → (listed.setIfInBounds i true).getD k false = false → Fresh φ' (st k).lo (st k).hi := by
        intro φ' hx k hk hl b hb1 hb2
        rw [hset] at hl
        simp only [Bool.or_eq_false_iff, beq_eq_false_iff_ne] at hl
        have := hfr k hk hl.1 b hb1 hb2
        rw [hx.2 b ?_]
        · exact this
        · rcases Nat.lt_or_gt_of_ne hl.2 with hlt | hgt
          · have := D.rngs k i hlt hin; omega
          · have := D.rngs i k hgt hk; omega
      have hsd : ∀ k, k < ops.size → (fun k => listed.getD k false) k = true → ∀ j, A k j = true → (fun k => listed.getD k false) j = true := hdown
      simp only [wpOpsIn, ho]
      have hwant := wantedA_ok htmo (D.want i hin)
      cases hran : (st i).ran with
      | true =>
        rw [if_pos (by rw [hwant, hran])]
        obtain ⟨hok, hrw⟩ := D.ok i hin hran
        have hV : ∀ b k, (st i).V.get b = some k → ∃ k0, G.get b = some k0 ∧ k = seen1 (st i).wr (fun _ => false) b k0 := by
          intro b k hb
          obtain ⟨k0, h1, h2⟩ := D.vw i hin b k hb
          refine ⟨k0, ?_, h2⟩
          rw [hG, ← h1]
          refine spec_agree fun k' hk' htk => hagree k' hk' ?_
          by_cases hki : k' = i
          · exact .inl hki
          · right
            cases h3 : A i k' with
            | true => exact .inl rfl
            | false =>
              cases h4 : A k' i with
              | true => exact .inr rfl
              | false =>
                have := D.dis i k' hin hk' (fun e => hki e.symm) h3 h4 b k hb
                rw [htk] at this; cases this
        refine view_ok hok hV hrw φ w K a rc _ Q g (hfr i hin hSi) htmo hr fun v' φ' w' x1 x2 x3 x4 => ?_
        refine ih _ _ φ' _ _ w' (by simpa using hsz) hcnt' hdown' (fun b => ?_) x3 ?_ (hfresh' φ' x2) ?_ (hw.trans x4) (by rw [put_defers]; exact hd) (hr.mono x2.1)
        · rw [merge_get, hfun, spec_add D hin hSi hsd]
          show (if (st i).touch b = true then _ else _) = _
          rw [hG]
        · rw [hfun, tmS_add D hin hSi]
          exact putT_rel (ht.mono x2.1) _ x1
        · refine ⟨Ren.le_trans he.1 x2.1, fun b hb => ?_⟩
          have := D.rng0 i hin
          rw [x2.2 b (by omega), he.2 b hb]
      | false =>
        rw [if_neg (by rw [hwant, hran]; simp)]
        refine ⟨about_fw, ?_⟩
        obtain ⟨hv, htch⟩ := D.skip i hin hran
        refine ih _ _ φ G _ w (by simpa using hsz) hcnt' hdown' (fun b => ?_) g ?_ (hfresh' φ (Ext.refl _ _ _)) he hw (by rw [put_defers]; exact hd) hr
        · rw [hfun, spec_add D hin hSi hsd, htch b]
          simp only [Bool.false_eq_true, if_false]
          exact hG b
        · rw [hfun, tmS_add D hin hSi, hv]
          exact putT_rel ht _ (.tuple' (by simp [LRel]))

theorem codeOk_draw {r : Option Nat} {id : Nat} {ops : Array Oper} {nx nx' : Nat} {A : Nat → Nat → Bool} {ds : List Nat} (hm : P.follows .mixedOrders = true) (D : DrawOk P r ops tm0 H0 nx nx' st A) {HF : Hp}
    (hHF : ∀ b k, HF.get b = some k → spec st H0 (fun k => decide (k < ops.size)) ops.size b = some k) :
    CodeOk P r (.region id ops true) tm0 ds H0 nx ⟨.normal, tmS st tm0 (fun k => decide (k < ops.size)) ops.size, ds, HF, nx'⟩ := by
  refine ⟨D.nxs, fun φ w K a rc g hf ht hd hr => wpIn_region_draw fun t => ?_⟩
  rw [hm]
  simp only [Region.schedule, Bool.true_or, if_true, Region.linearise]
  have g0 : ∀ k, (Array.replicate ops.size false).getD k false = false := by intro k; simp [Array.getD]
  have e0 : (fun k => (Array.replicate ops.size false).getD k false) = fun _ => false := funext g0
  have es : ∀ m b, spec st H0 (fun _ => false) m b = H0.get b := by
    intro m b; induction m with
    | zero => rfl
    | succ m ih => simpa [spec] using ih
  have et : ∀ m, tmS st tm0 (fun _ => false) m = tm0 := by
    intro m; induction m with
    | zero => rfl
    | succ m ih => simpa [tmS] using ih
  refine draw_main D rfl hHF rc φ w K a _ (fun φ' a' w' x1 x2 x3 x4 x5 => ⟨rfl, φ', x1, x2, x3, by rw [x4]; exact hd.mono x1.1, x5⟩) ops.size t (Array.replicate ops.size false) φ H0 a w.drew (by simp) ?_ (fun i hi hl => by rw [g0] at hl; cases hl) (fun b => by rw [e0, es]) g.drew (by rw [e0, et]; exact ht) (fun i hi _ b h1 h2 => hf b (by have := D.rng0 i hi; omega) (by have := D.rng0 i hi; show b < nx'; omega)) (Ext.refl _ _ _) (Went.drew K w) rfl hr
  exact Nat.le_trans (List.length_filter_le _ _) (by simp)
end Go.En
/- The engine, part KC: evaluating a region that draws its order, with the looks that make every order come to the same. -/
namespace Go.En
set_option linter.unusedVariables false
variable {P : Program} {φ : Ren} {H : Hp} {K : Nat → Prop} {w : World}

/-! ### Which operations come before which -/
def edgeMask (ms : List Nat) : List Edge → Nat
  | [] => 0
  | e :: es => (if Region.binds .any e then (1 <<< e.on) ||| ms.getD e.on 0 else 0) ||| edgeMask ms es
theorem edgeMask_bit (ms : List Nat) (j : Nat) : ∀ es : List Edge, (edgeMask ms es).testBit j = true ↔ ∃ e ∈ es, Region.binds .any e = true ∧ (j = e.on ∨ (ms.getD e.on 0).testBit j = true)
  | [] => by simp [edgeMask]
  | e :: es => by
    have ih := edgeMask_bit ms j es
    simp only [edgeMask, Nat.testBit_or, Bool.or_eq_true, ih, List.mem_cons, exists_eq_or_imp]
    by_cases hb : Region.binds .any e = true
    · simp only [hb, if_true, Nat.testBit_or, Bool.or_eq_true, Nat.one_shiftLeft, Nat.testBit_two_pow, decide_eq_true_eq, true_and]
      constructor
      · rintro ((h | h) | h)
        · exact .inl (.inl h.symm)
        · exact .inl (.inr h)
        · exact .inr h
      · rintro ((h | h) | h)
        · exact .inl (.inl h.symm)
        · exact .inl (.inr h)
        · exact .inr h
    · simp only [hb, if_false, Nat.zero_testBit, Bool.false_eq_true, false_or, false_and]
def masksOf : List Oper → List Nat → List Nat
  | [], ms => ms
  | o :: os, ms => masksOf os (ms ++ [edgeMask ms o.after.toList])
/-- The masks fit the edges, and every edge goes back. -/
def masksFit (ms : List Nat) : Nat → List Oper → Bool
  | _, [] => true
  | i, o :: os => (ms.getD i 0 == edgeMask ms o.after.toList) && o.after.toList.all (fun e => !Region.binds .any e || decide (e.on < i)) && decide (ms.getD i 0 < 2 ^ i) && masksFit ms (i + 1) os
theorem masksFit_at {ms : List Nat} : ∀ {l : List Oper} {i j : Nat} {o : Oper}, masksFit ms i l = true → l[j]? = some o →
    ms.getD (i + j) 0 = edgeMask ms o.after.toList ∧ (∀ e ∈ o.after.toList, Region.binds .any e = true → e.on < i + j) ∧ ms.getD (i + j) 0 < 2 ^ (i + j)
  | [], i, j, o, _, h => by simp at h
  | x :: l, i, 0, o, hf, h => by
    simp at h; subst h
    simp only [masksFit, Bool.and_eq_true, beq_iff_eq, decide_eq_true_eq, List.all_eq_true, Bool.or_eq_true, Bool.not_eq_true'] at hf
    obtain ⟨⟨⟨h1, h2⟩, h3⟩, h4⟩ := hf
    refine ⟨h1, fun e he hb => ?_, h3⟩
    rcases h2 e he with h | h
    · rw [hb] at h; cases h
    · exact h
  | x :: l, i, j + 1, o, hf, h => by
    simp only [masksFit, Bool.and_eq_true] at hf
    have := masksFit_at (j := j) hf.2 (by simpa using h)
    rw [show i + 1 + j = i + (j + 1) by omega] at this
    exact this

/-! ### The temporaries that an operation reads -/
def slotOf : Operand → List Nat
  | .tmp t => [t]
  | _ => []
def slotsOf (ops : Array Oper) (o : Oper) : List Nat :=
  (o.op.operands.toList.flatMap slotOf) ++ (match o.guard with
    | some (j, _) => match (ops[j]?).bind (·.dst) with
      | some d => [d]
      | none => []
    | none => [])
def keepT (tm : List Value) (slots : List Nat) : List Value := slots.foldl (fun t s => t.set s (tm.getD s junk)) (List.replicate tm.length junk)
theorem keepT_get {tm : List Value} {slots : List Nat} : (keepT tm slots).length = tm.length ∧ ∀ (s : Nat) v, (keepT tm slots)[s]? = some v → v = junk ∨ (s ∈ slots ∧ tm[s]? = some v) := by
  unfold keepT
  have key : ∀ (sl : List Nat) (t : List Value), t.length = tm.length → (∀ (s : Nat) v, t[s]? = some v → v = junk ∨ (s ∈ slots ∧ tm[s]? = some v)) → (∀ s ∈ sl, s ∈ slots) →
      (sl.foldl (fun t s => t.set s (tm.getD s junk)) t).length = tm.length ∧ ∀ (s : Nat) v, (sl.foldl (fun t s => t.set s (tm.getD s junk)) t)[s]? = some v → v = junk ∨ (s ∈ slots ∧ tm[s]? = some v) := by
    intro sl
    induction sl with
    | nil => intro t h1 h2 _; exact ⟨h1, h2⟩
    | cons x sl ih =>
      intro t h1 h2 h3
      simp only [List.foldl_cons]
      refine ih _ (by simpa using h1) (fun s v hv => ?_) (fun s hs => h3 s (by simp [hs]))
      rw [List.getElem?_set] at hv
      by_cases hx : x = s
      · subst hx
        simp at hv
        obtain ⟨hl, rfl⟩ := hv
        right
        refine ⟨h3 x (by simp), ?_⟩
        rw [h1] at hl
        simp [hl]
      · simp [hx] at hv; exact h2 s v hv
  refine key slots _ (by simp) (fun s v hv => ?_) (fun s hs => hs)
  rw [List.getElem?_replicate] at hv
  split at hv
  · cases hv; exact .inl rfl
  · cases hv

theorem keepT_at {tm : List Value} {slots : List Nat} {s : Nat} (hs : s ∈ slots) : (keepT tm slots)[s]? = tm[s]? := by
  unfold keepT
  have key : ∀ (sl : List Nat) (t : List Value), t.length = tm.length → (s ∈ sl ∨ t[s]? = tm[s]?) → (sl.foldl (fun t s => t.set s (tm.getD s junk)) t)[s]? = tm[s]? := by
    intro sl
    induction sl with
    | nil => intro t _ h; simpa using h
    | cons x sl ih =>
      intro t hl h
      simp only [List.foldl_cons]
      refine ih _ (by simpa using hl) ?_
      by_cases hx : x = s
      · subst hx
        right
        rw [List.getElem?_set]
        by_cases hlt : x < tm.length
        · simp [hl, hlt]
        · simp [hl, hlt]
      · rcases h with h | h
        · rcases List.mem_cons.1 h with h | h
          · exact absurd h.symm hx
          · exact .inl h
        · right
          rw [List.getElem?_set]
          simp [hx, h]
  exact key slots _ (by simp) (.inl hs)
theorem keepT_opv {tm : List Value} {slots : List Nat} {x : Operand} (hs : ∀ s ∈ slotOf x, s ∈ slots) : opv tm x = opv (keepT tm slots) x := by
  cases x with
  | tmp t =>
    have := keepT_at (tm := tm) (hs t (by simp [slotOf]))
    simp only [opv, this]
  | _ => rfl
theorem opvs_congr {t t' : List Value} : ∀ {xs : List Operand}, (∀ x ∈ xs, opv t x = opv t' x) → opvs t xs = opvs t' xs
  | [], _ => rfl
  | x :: xs, h => by simp only [opvs]; rw [h x (by simp), opvs_congr fun y hy => h y (by simp [hy])]
theorem partsv_congr {t t' : List Value} : ∀ {xs : List (Nat × Operand)}, (∀ x ∈ xs, opv t x.2 = opv t' x.2) → partsv t xs = partsv t' xs
  | [], _ => rfl
  | x :: xs, h => by simp only [partsv]; rw [h x (by simp), partsv_congr fun y hy => h y (by simp [hy])]
theorem opvo_congr {t t' : List Value} {x : Option Operand} (h : ∀ y ∈ x, opv t y = opv t' y) : opvo t x = opvo t' x := by
  cases x with
  | none => rfl
  | some y => simp only [opvo]; rw [h y rfl]
theorem doOp_congr {t t' : List Value} {nx : Nat} {o : Oper} (h : ∀ x ∈ o.op.operands, opv t x = opv t' x) : doOp P t H nx o = doOp P t' H nx o := by
  unfold doOp
  cases ho : o.op with
  | move x => rw [ho] at h; simp only [h x (by simp [Op.operands])]
  | assign x => rw [ho] at h; simp only [h x (by simp [Op.operands])]
  | pick c a b => rw [ho] at h; simp only [h c (by simp [Op.operands]), h a (by simp [Op.operands]), h b (by simp [Op.operands])]
  | alloc t => rfl
  | box t x => rw [ho] at h; simp only [h x (by simp [Op.operands])]
  | build t ps => rw [ho] at h; simp only [partsv_congr (xs := ps.toList) fun x hx => h x.2 (by simp only [Op.operands, List.mem_toArray, List.mem_map]; exact ⟨x, hx, rfl⟩)]
  | buildSlice t n ps => rw [ho] at h; simp only [partsv_congr (xs := ps.toList) fun x hx => h x.2 (by simp only [Op.operands, List.mem_toArray, List.mem_map]; exact ⟨x, hx, rfl⟩)]
  | load t a => rw [ho] at h; simp only [h a (by simp [Op.operands])]
  | store t a x => rw [ho] at h; simp only [h a (by simp [Op.operands]), h x (by simp [Op.operands])]
  | nilCheck x => rw [ho] at h; simp only [h x (by simp [Op.operands])]
  | binOp op t x y w => rw [ho] at h; simp only [h x (by simp [Op.operands]), h y (by simp [Op.operands])]
  | unOp op t x => rw [ho] at h; simp only [h x (by simp [Op.operands])]
  | convert s d x => rw [ho] at h; simp only [h x (by simp [Op.operands])]
  | makeFunc f fs cs =>
    rw [ho] at h
    cases f <;> try rfl
    simp only [opvs_congr (xs := fs.toList) fun x hx => h x (by simp only [Op.operands, Array.mem_append]; left; simpa using hx), opvs_congr (xs := cs.toList) fun x hx => h x (by simp only [Op.operands, Array.mem_append]; right; simpa using hx)]
  | makeSlice t l c => rw [ho] at h; simp only [h l (by simp [Op.operands]), h c (by simp [Op.operands])]
  | slice t x lo hi mx =>
    rw [ho] at h
    simp only [h x (by simp [Op.operands]), opvo_congr (x := lo) fun y hy => h y (by cases hy; simp [Op.operands]), opvo_congr (x := hi) fun y hy => h y (by cases hy; simp [Op.operands]), opvo_congr (x := mx) fun y hy => h y (by cases hy; simp [Op.operands])]
  | fieldAddr s x f => rw [ho] at h; simp only [h x (by simp [Op.operands])]
  | field s x f => rw [ho] at h; simp only [h x (by simp [Op.operands])]
  | indexAddr t x i => rw [ho] at h; simp only [h x (by simp [Op.operands]), h i (by simp [Op.operands])]
  | index t x i => rw [ho] at h; simp only [h x (by simp [Op.operands]), h i (by simp [Op.operands])]
  | extract x n => rw [ho] at h; simp only [h x (by simp [Op.operands])]
  | call c =>
    rw [ho] at h
    obtain ⟨cal, args, ats⟩ := c
    cases cal <;> try rfl
    simp only [opvs_congr (xs := args.toList) fun x hx => h x (by simp only [Op.operands, Call.operands, Array.mem_append]; right; simpa using hx)]
  | _ => rfl
theorem wantedA_keep {ops : Array Oper} {tm : List Value} {o : Oper} : wantedA ops tm o = wantedA ops (keepT tm (slotsOf ops o)) o := by
  unfold wantedA
  cases hg : o.guard with
  | none => rfl
  | some p =>
    obtain ⟨j, want⟩ := p
    dsimp only
    cases hd : (ops[j]?).bind (·.dst) with
    | none => rfl
    | some d =>
      have : (keepT tm (slotsOf ops o))[d]? = tm[d]? := keepT_at (by simp [slotsOf, hg, hd])
      simp only [Option.bind_some, this]
/-- The evaluation of an operation looks at its operands alone. -/
def Looks (op : List Value → Hp → Nat → Oper → Option (Value × Hp × Nat)) : Prop := ∀ (t t' : List Value) (H : Hp) (nx : Nat) (o : Oper), (∀ x ∈ o.op.operands, opv t x = opv t' x) → op t H nx o = op t' H nx o
theorem Looks.keep {op : List Value → Hp → Nat → Oper → Option (Value × Hp × Nat)} (h : Looks op) {ops : Array Oper} {tm : List Value} {H : Hp} {nx : Nat} {o : Oper} : op tm H nx o = op (keepT tm (slotsOf ops o)) H nx o :=
  h _ _ _ _ _ fun x hx => keepT_opv fun s hs => by
    simp only [slotsOf, List.mem_append, List.mem_flatMap]
    exact .inl ⟨x, by simpa using hx, hs⟩

/-! ### The evaluation -/
def names (H : Hp) : List Nat := H.map (·.1)
/-- The block that a store or an append may turn. -/
def targetOf (tm : List Value) (o : Oper) : List Nat :=
  match o.op with
  | .store _ a _ => match opv tm a with
    | some (.pointer (some a)) => [a.block]
    | _ => []
  | .call { callee := .builtin .append, args := args, argTypes := _ } => match args.toList with
    | s :: _ => match opv tm s with
      | some (.slice (some a) _ c) => if openCap ≤ c then [a.block] else []
      | _ => []
    | _ => []
  | .call { callee := .builtin .copy, args := args, argTypes := _ } => match args.toList with
    | s :: _ => match opv tm s with
      | some (.slice (some a) _ _) => [a.block]
      | _ => []
    | _ => []
  | _ => []
def inRange (rs : List (Nat × Nat)) (b : Nat) : Bool := rs.any fun x => decide (x.1 ≤ b) && decide (b < x.2)

/-- A region's operations, in their text's order. 'cut' says how an operation's view is cut: which names it may turn, which it may not see (of no weight for the soundness). -/
def drawGo (op : List Value → Hp → Nat → Oper → Option (Value × Hp × Nat)) (ops : Array Oper) (cut : Nat → List Value → Hp → List Stp → Option (List Nat × (Nat → Bool))) : Nat → List Stp → List Oper → List Value → Hp → Nat → Option (List Stp)
  | _, _, [], _, _, _ => some []
  | i, done, o :: l, tm, H, nx =>
    match wantedA ops tm o with
    | some false => (drawGo op ops cut (i + 1) (⟨o, false, undef, keepT tm (slotsOf ops o), [], fun _ => false, [], nx, nx⟩ :: done) l (putT tm o.dst undef) H nx).map (⟨o, false, undef, keepT tm (slotsOf ops o), [], fun _ => false, [], nx, nx⟩ :: ·)
    | some true =>
      match cut i tm H done with
      | none => none
      | some (wr, see) =>
        match op tm (Hp.only see (mkView (fun b => wr.contains b) (fun _ => false) H)) nx o with
        | some (v, H1, nx1) =>
          if allRw (Hp.only (touchOf (fun b => wr.contains b) nx nx1) H1) && wr.all (fun b => (Hp.get (Hp.only see (mkView (fun b => wr.contains b) (fun _ => false) H)) b).isSome) then
            (drawGo op ops cut (i + 1) (⟨o, true, v, keepT tm (slotsOf ops o), Hp.only see (mkView (fun b => wr.contains b) (fun _ => false) H), fun b => wr.contains b, H1, nx, nx1⟩ :: done) l (putT tm o.dst v)
              (merge (touchOf (fun b => wr.contains b) nx nx1) H1 H) nx1).map (⟨o, true, v, keepT tm (slotsOf ops o), Hp.only see (mkView (fun b => wr.contains b) (fun _ => false) H), fun b => wr.contains b, H1, nx, nx1⟩ :: ·)
          else none
        | none => none
    | none => none

def tmR : List Stp → List Value → List Value
  | [], tm => tm
  | s :: ss, tm => tmR ss (putT tm s.o.dst s.v)
def hpR : List Stp → Hp → Hp
  | [], H => H
  | s :: ss, H => hpR ss (if s.ran then merge s.touch s.H' H else H)
def nxR : List Stp → Nat → Nat
  | [], nx => nx
  | s :: ss, nx => nxR ss s.hi

/-- What is known of a step, from the state before it. -/
structure StpOk (P : Program) (r : Option Nat) (ops : Array Oper) (o : Oper) (tm : List Value) (H : Hp) (nx : Nat) (s : Stp) : Prop where
  o_eq : s.o = o
  lo_eq : s.lo = nx
  le : s.lo ≤ s.hi
  tmo_eq : s.tmo = keepT tm (slotsOf ops o)
  want : wantedA ops s.tmo s.o = some s.ran
  ok : s.ran = true → OpOk P r s.o s.tmo s.V s.lo s.v s.H' s.hi ∧ allRw (Hp.only s.touch s.H') = true
  vw : ∀ b k, s.V.get b = some k → ∃ k0, H.get b = some k0 ∧ k = seen1 s.wr (fun _ => false) b k0
  skip : s.ran = false → s.v = undef ∧ ∀ b, s.touch b = false
  wrin : ∀ b, s.wr b = true → ∃ k, s.V.get b = some k

theorem drawGo_ok {op : List Value → Hp → Nat → Oper → Option (Value × Hp × Nat)} {r : Option Nat} (hlk : Looks op) (hop : ∀ {tm H nx o v H' nx'}, op tm H nx o = some (v, H', nx') → OpOk P r o tm H nx v H' nx') {ops : Array Oper} {cut : Nat → List Value → Hp → List Stp → Option (List Nat × (Nat → Bool))} :
    ∀ {l : List Oper} {i : Nat} {done : List Stp} {tm : List Value} {H : Hp} {nx : Nat} {ss : List Stp}, drawGo op ops cut i done l tm H nx = some ss →
      ss.length = l.length ∧ ∀ (j : Nat) o s, l[j]? = some o → ss[j]? = some s → StpOk P r ops o (tmR (ss.take j) tm) (hpR (ss.take j) H) (nxR (ss.take j) nx) s
  | [], i, done, tm, H, nx, ss, h => by simp only [drawGo, Option.some.injEq] at h; subst h; exact ⟨rfl, fun j o s h => by simp at h⟩
  | o :: l, i, done, tm, H, nx, ss, h => by
    simp only [drawGo] at h
    split at h
    · rename_i hw
      rw [wantedA_keep] at hw
      simp only [Option.map_eq_some_iff] at h
      obtain ⟨ss', h', rfl⟩ := h
      obtain ⟨hl, hj⟩ := drawGo_ok hlk hop h'
      refine ⟨by simp [hl], fun j o' s ho hs => ?_⟩
      cases j with
      | zero =>
        simp only [List.getElem?_cons_zero, Option.some.injEq] at ho hs
        subst ho; subst hs
        exact ⟨rfl, rfl, Nat.le_refl _, rfl, hw, (fun h => by cases h), (fun b k hb => by simp [Hp.get] at hb), fun _ => ⟨rfl, fun b => by simp [Stp.touch, touchOf]⟩, fun b hb => by cases hb⟩
      | succ j =>
        simp only [List.getElem?_cons_succ] at ho hs
        exact hj j o' s ho hs
    · rename_i hw
      rw [wantedA_keep] at hw
      split at h
      case h_1 => cases h
      rename_i wr see hcut
      split at h
      case h_2 => cases h
      rename_i v H1 nx1 hop1
      rw [hlk.keep (ops := ops)] at hop1
      split at h
      case isFalse => cases h
      rename_i hrw
      simp only [Bool.and_eq_true] at hrw
      obtain ⟨hrw, hwi⟩ := hrw
      simp only [Option.map_eq_some_iff] at h
      obtain ⟨ss', h', rfl⟩ := h
      obtain ⟨hl, hj⟩ := drawGo_ok hlk hop h'
      have hok := hop hop1
      refine ⟨by simp [hl], fun j o' s ho hs => ?_⟩
      cases j with
      | zero =>
        simp only [List.getElem?_cons_zero, Option.some.injEq] at ho hs
        subst ho; subst hs
        refine ⟨rfl, rfl, hok.1, rfl, hw, fun _ => ⟨hok, hrw⟩, fun b k hb => ?_, (fun h => by cases h), fun b hb => ?_⟩
        dsimp only at hb ⊢
        rw [Hp.get_only, mkView_get] at hb
        split at hb
        · simp only [Option.map_eq_some_iff] at hb
          obtain ⟨k0, h0, rfl⟩ := hb
          exact ⟨k0, h0, rfl⟩
        · cases hb
        · have := List.all_eq_true.1 hwi b (by simpa using hb)
          exact Option.isSome_iff_exists.1 this
      | succ j =>
        simp only [List.getElem?_cons_succ] at ho hs
        exact hj j o' s ho hs
    · cases h

/-! ### The looks -/
def ordered (ms : List Nat) (i j : Nat) : Bool := (ms.getD i 0).testBit j || (ms.getD j 0).testBit i
/-- No two write one temporary; what is read of the region's own is ordered. -/
def slotsFit (ms : List Nat) (ops : Array Oper) : Bool :=
  ops.toList.zipIdx.all fun s => ops.toList.zipIdx.all fun t => s.2 == t.2 || ((s.1.dst.isNone || s.1.dst != t.1.dst) && ((slotsOf ops s.1).all fun x => t.1.dst != some x || ordered ms s.2 t.2))
/-- What an operation sees, no operation that is not ordered with it turns. -/
def viewsFit (ms : List Nat) (ss : List Stp) : Bool :=
  ss.zipIdx.all fun t => !t.1.ran || (Nat.beq t.1.lo t.1.hi && t.1.V.all fun x => !t.1.wr x.1) || ss.zipIdx.all fun s => s.2 == t.2 || ordered ms s.2 t.2 || s.1.V.all fun x => !t.1.touch x.1

theorem zipIdx_all {α : Type} {p : α × Nat → Bool} {l : List α} (h : l.zipIdx.all p = true) {i : Nat} {x : α} (hx : l[i]? = some x) : p (x, i) = true := by
  refine List.all_eq_true.1 h (x, i) ?_
  rw [List.mem_zipIdx_iff_getElem?]
  exact hx

def dfltStp : Stp := ⟨default, false, undef, [], [], fun _ => false, [], 0, 0⟩

theorem tmR_snoc (ss : List Stp) (s : Stp) : ∀ tm, tmR (ss ++ [s]) tm = putT (tmR ss tm) s.o.dst s.v := by
  induction ss with
  | nil => intro tm; rfl
  | cons x ss ih => intro tm; exact ih _
theorem hpR_snoc (ss : List Stp) (s : Stp) : ∀ H, hpR (ss ++ [s]) H = if s.ran then merge s.touch s.H' (hpR ss H) else hpR ss H := by
  induction ss with
  | nil => intro H; rfl
  | cons x ss ih => intro H; exact ih _
theorem nxR_snoc (ss : List Stp) (s : Stp) : ∀ nx, nxR (ss ++ [s]) nx = s.hi := by
  induction ss with
  | nil => intro nx; rfl
  | cons x ss ih => intro nx; exact ih _

theorem hp_get_all {p : Nat × Blk → Bool} {b : Nat} {k : Blk} : ∀ {H : Hp}, H.all p = true → H.get b = some k → p (b, k) = true
  | [], _, h => by simp [Hp.get] at h
  | (c, x) :: r, ha, h => by
    simp only [List.all_cons, Bool.and_eq_true] at ha
    by_cases hb : c = b
    · subst hb; simp [Hp.get] at h; subst h; exact ha.1
    · simp [Hp.get, hb] at h; exact hp_get_all ha.2 h

theorem drawOk_of {op : List Value → Hp → Nat → Oper → Option (Value × Hp × Nat)} {r : Option Nat} (hlk : Looks op) (hop : ∀ {tm H nx o v H' nx'}, op tm H nx o = some (v, H', nx') → OpOk P r o tm H nx v H' nx') {ops : Array Oper} {cut : Nat → List Value → Hp → List Stp → Option (List Nat × (Nat → Bool))}
    {tm : List Value} {H : Hp} {nx : Nat} {ss : List Stp} {ms : List Nat} (h : drawGo op ops cut 0 [] ops.toList tm H nx = some ss) (hm : masksFit ms 0 ops.toList = true) (hsl : slotsFit ms ops = true) (hvw : viewsFit ms ss = true) :
    DrawOk P r ops tm H nx (nxR ss nx) (fun i => ss.getD i dfltStp) (fun i j => (ms.getD i 0).testBit j) ∧
      (∀ b, spec (fun i => ss.getD i dfltStp) H (fun k => decide (k < ops.size)) ops.size b = (hpR ss H).get b) ∧ tmS (fun i => ss.getD i dfltStp) tm (fun k => decide (k < ops.size)) ops.size = tmR ss tm := by
  obtain ⟨hlen, hst⟩ := drawGo_ok hlk hop h
  simp only [Array.length_toList] at hlen
  have hss : ∀ i, i < ops.size → ss[i]? = some (ss.getD i dfltStp) := fun i hi => by
    have : i < ss.length := by omega
    simp [this]
  have hso : ∀ i, i < ops.size → ops.toList[i]? = some ops[i]! := fun i hi => by simp [hi]
  have hok : ∀ i (hi : i < ops.size), StpOk P r ops ops[i]! (tmR (ss.take i) tm) (hpR (ss.take i) H) (nxR (ss.take i) nx) (ss.getD i dfltStp) := fun i hi => hst i _ _ (hso i hi) (hss i hi)
  have htake : ∀ i, i < ops.size → ss.take (i + 1) = ss.take i ++ [ss.getD i dfltStp] := fun i hi => by
    have : i < ss.length := by omega
    rw [List.take_succ_eq_append_getElem this]
    simp [this]
  -- the running state is what tmS and spec say
  have ht : ∀ i, i ≤ ops.size → ∀ m, i ≤ m → m ≤ ops.size → tmS (fun i => ss.getD i dfltStp) tm (fun k => decide (k < i)) m = tmR (ss.take i) tm := by
    intro i hi m
    induction m generalizing i with
    | zero => intro h1 _; have : i = 0 := by omega
              subst this; rfl
    | succ m ih =>
      intro h1 h2
      simp only [tmS]
      by_cases hmi : m < i
      · have : i = m + 1 := by omega
        subst this
        simp only [Nat.lt_succ_self, decide_true, if_true]
        have e1 : tmS (fun i => ss.getD i dfltStp) tm (fun k => decide (k < m + 1)) m = tmS (fun i => ss.getD i dfltStp) tm (fun k => decide (k < m)) m := by
          apply List.ext_getElem?
          intro s
          exact tmS_agree fun k hk _ => by simp [hk]; omega
        rw [e1, ih m (by omega) (Nat.le_refl _) (by omega), htake m (by omega), tmR_snoc]
      · simp only [hmi, decide_false, Bool.false_eq_true, if_false]
        exact ih i hi (by omega) (by omega)
  have hh : ∀ i, i ≤ ops.size → ∀ m, i ≤ m → m ≤ ops.size → ∀ b, spec (fun i => ss.getD i dfltStp) H (fun k => decide (k < i)) m b = (hpR (ss.take i) H).get b := by
    intro i hi m
    induction m generalizing i with
    | zero => intro h1 _ b; have : i = 0 := by omega
              subst this; rfl
    | succ m ih =>
      intro h1 h2 b
      simp only [spec]
      by_cases hmi : m < i
      · have : i = m + 1 := by omega
        subst this
        simp only [Nat.lt_succ_self, decide_true, Bool.true_and]
        have e1 : spec (fun i => ss.getD i dfltStp) H (fun k => decide (k < m + 1)) m b = spec (fun i => ss.getD i dfltStp) H (fun k => decide (k < m)) m b := spec_agree fun k hk _ => by simp [hk]; omega
        rw [e1, ih m (by omega) (Nat.le_refl _) (by omega), htake m (by omega), hpR_snoc]
        have hk := hok m (by omega)
        cases hr : (ss.getD m dfltStp).ran with
        | true => simp only [if_true]; rw [merge_get]
        | false => rw [(hk.skip hr).2 b]; simp
      · simp only [hmi, decide_false, Bool.false_and, Bool.false_eq_true, if_false]
        exact ih i hi (by omega) (by omega) b
  have hnx : ∀ i, i ≤ ops.size → ∀ j, j < i → (ss.getD j dfltStp).hi ≤ nxR (ss.take i) nx := by
    intro i
    induction i with
    | zero => intro _ j hj; omega
    | succ i ih =>
      intro hi j hj
      rw [htake i (by omega), nxR_snoc]
      have hk := hok i (by omega)
      by_cases hji : j = i
      · subst hji; exact Nat.le_refl _
      · have := ih (by omega) j (by omega)
        rw [← hk.lo_eq] at this
        exact Nat.le_trans this hk.le
  have hnx0 : ∀ i, i ≤ ops.size → nx ≤ nxR (ss.take i) nx := by
    intro i
    induction i with
    | zero => intro _; exact Nat.le_refl _
    | succ i ih =>
      intro hi
      rw [htake i (by omega), nxR_snoc]
      have hk := hok i (by omega)
      have := ih (by omega)
      rw [← hk.lo_eq] at this
      exact Nat.le_trans this hk.le
  have hall : ss.take ops.size = ss := List.take_of_length_le (by omega)
  have hmf : ∀ i, i < ops.size → ms.getD i 0 = edgeMask ms (ss.getD i dfltStp).o.after.toList ∧ (∀ e ∈ (ss.getD i dfltStp).o.after.toList, Region.binds .any e = true → e.on < i) ∧ ms.getD i 0 < 2 ^ i := fun i hi => by
    have := masksFit_at hm (hso i hi)
    rw [← (hok i hi).o_eq] at this
    simpa using this
  have slt : ∀ i k, i < ops.size → k < ops.size → i ≠ k → ((ss.getD i dfltStp).o.dst.isNone || (ss.getD i dfltStp).o.dst != (ss.getD k dfltStp).o.dst) = true ∧ ((slotsOf ops (ss.getD i dfltStp).o).all fun x => (ss.getD k dfltStp).o.dst != some x || ordered ms i k) = true := by
    intro i k hi hk hne
    have h1 := zipIdx_all (zipIdx_all hsl (hso i hi)) (hso k hk)
    rw [← (hok i hi).o_eq, ← (hok k hk).o_eq] at h1
    have hb : (i == k) = false := by simp [hne]
    simpa [hb] using h1
  refine ⟨⟨fun i hi => ?_, fun i hi => (hok i hi).le, fun i j hij hj => ?_, fun i hi => ⟨by rw [(hok i hi).lo_eq]; exact hnx0 i (by omega), by have := hnx ops.size (Nat.le_refl _) i hi; rwa [hall] at this⟩, by have := hnx0 ops.size (Nat.le_refl _); rwa [hall] at this,
    fun i hi e he hb => ?_, fun i hi j hj => ?_, fun i j hi hj => ?_, fun i hi => ?_, fun i hi s v hv => ?_, fun i j s hi hj hne hd => ?_, fun i hi => (hok i hi).want, fun i hi => (hok i hi).ok, fun i hi b k hb => ?_, fun i hi => (hok i hi).skip,
    fun i j hi hj hne h1 h2 b k hb => ?_, fun i hi => (hok i hi).wrin⟩, fun b => ?_, ?_⟩
  · rw [(hok i hi).o_eq]; simp [hi]
  · rw [(hok j hj).lo_eq]; exact hnx j (by omega) i hij
  · refine ⟨?_, (hmf i hi).2.1 e (by simpa using he) hb⟩
    try dsimp only
    rw [(hmf i hi).1, edgeMask_bit]
    exact ⟨e, by simpa using he, hb, .inl rfl⟩
  · try dsimp only at hj
    rw [(hmf i hi).1, edgeMask_bit] at hj
    obtain ⟨e, he, hb, hor⟩ := hj
    exact ⟨e, by simpa using he, hb, hor⟩
  · have hlt := (hmf i hi).2.2
    try dsimp only at hj
    rcases Nat.lt_or_ge j i with h | h
    · exact h
    · rw [Nat.testBit_lt_two_pow (Nat.lt_of_lt_of_le hlt (Nat.pow_le_pow_right (by omega) h))] at hj
      cases hj
  · try dsimp only
    rw [(hok i hi).tmo_eq, keepT_get.1, ← ht i (by omega) i (Nat.le_refl _) (by omega), tmS_length]
  · try dsimp only at hv ⊢
    rw [(hok i hi).tmo_eq] at hv
    rcases keepT_get.2 s v hv with h0 | ⟨h1, h2⟩
    · exact .inl h0
    · refine .inr ⟨by rw [ht i (by omega) _ (by omega) (Nat.le_refl _)]; exact h2, fun k hk hne hd => ?_⟩
      have := (slt i k hi hk (fun e => hne e.symm)).2
      rw [(hok i hi).o_eq] at this
      have := List.all_eq_true.1 this s h1
      rw [hd] at this
      simpa [ordered] using this
  · have := (slt i j hi hj hne).1
    rw [hd] at this
    try dsimp only at this hd ⊢
    simp at this
    exact fun e => this e.symm
  · try dsimp only at hb ⊢
    obtain ⟨k0, h0, h1⟩ := (hok i hi).vw b k hb
    exact ⟨k0, by rw [hh i (by omega) _ (by omega) (Nat.le_refl _)]; exact h0, h1⟩
  · try dsimp only at hb ⊢
    cases hr : (ss.getD j dfltStp).ran with
    | false => exact ((hok j hj).skip hr).2 b
    | true =>
      have hv := zipIdx_all hvw (hss j hj)
      simp only [hr, Bool.not_true, Bool.false_or, Bool.or_eq_true] at hv
      rcases hv with hv | hv
      · simp only [Bool.and_eq_true] at hv
        have hlh := Nat.eq_of_beq_eq_true hv.1
        cases hw : (ss.getD j dfltStp).wr b with
        | true =>
          obtain ⟨k', hk'⟩ := (hok j hj).wrin b hw
          have := hp_get_all hv.2 hk'
          dsimp only at this
          rw [hw] at this
          cases this
        | false =>
          simp only [Stp.touch, touchOf, hw, Bool.false_or, hlh]
          simp only [Bool.and_eq_false_iff, decide_eq_false_iff_not]
          omega
      have hv := zipIdx_all hv (hss i hi)
      have hb1 : (i == j) = false := by simp [hne]
      have hb2 : ordered ms i j = false := by simp only [ordered, Bool.or_eq_false_iff]; exact ⟨h1, h2⟩
      simp only [hb1, hb2, Bool.false_or] at hv
      have := hp_get_all hv hb
      simpa using this
  · rw [hh ops.size (Nat.le_refl _) _ (Nat.le_refl _) (Nat.le_refl _), hall]
  · rw [ht ops.size (Nat.le_refl _) _ (Nat.le_refl _) (Nat.le_refl _), hall]

def blockOf (tm : List Value) (x : Operand) : List Nat :=
  match opv tm x with
  | some (.pointer (some a)) => [a.block]
  | some (.slice (some a) _ _) => [a.block]
  | _ => []
/-- The blocks that an operation looks at, where its operands tell. -/
def looksAtA (tm : List Value) (o : Oper) : Option (List Nat) :=
  match o.op with
  | .load _ a => some (blockOf tm a)
  | .store _ a _ => some (blockOf tm a)
  | .call { callee := .builtin _, args := args, argTypes := _ } => some (args.toList.flatMap (blockOf tm))
  | .call _ => none
  | _ => some []
/-- Which names an operation may turn, which it may see: by its operands, or by what the others may turn. -/
def cutOf (ops : Array Oper) (ms : List Nat) (est : List (List Nat)) (i : Nat) (tm : List Value) (H : Hp) (done : List Stp) : Option (List Nat × (Nat → Bool)) :=
  match ops[i]? with
  | none => none
  | some o =>
    match looksAtA tm o with
    | some bs => some ((targetOf tm o).filter fun b => match H.get b with | some k => k.rw | none => false, fun b => bs.contains b)
    | none =>
      match (List.range ops.size).filter fun j => j != i && !ordered ms i j with
      | [] => some (names (H.filter fun x => x.2.rw), fun _ => true)
      | others =>
        match others.flatMap (fun j => est.getD j [] ++ (match ops[j]? with | some p => targetOf tm p | none => [])), others.filterMap fun j => if j < i then (match (done.reverse)[j]? with | some s => if s.lo < s.hi then some (s.lo, s.hi) else none | none => none) else none with
        | mask, rs => some ([], fun b => !(mask.contains b || inRange rs b))

/-- A first guess at what each operation may turn. -/
def guess (P : Program) (ops : Array Oper) (H : Hp) : List Oper → List Value → List (List Nat)
  | [], _ => []
  | o :: l, tm =>
    match o.op with
    | .store .. => targetOf tm o :: guess P ops H l tm
    | .load .. | .fieldAddr .. | .indexAddr .. | .move _ | .assign _ | .slice .. =>
      [] :: guess P ops H l (putT tm o.dst (match wantedA ops tm o with
        | some true => match doOp P tm H 0 o with
          | some (v, _, _) => v
          | none => junk
        | _ => junk))
    | _ => targetOf tm o :: guess P ops H l (putT tm o.dst junk)

def isWriter (o : Oper) : Bool := match o.op with
  | .store .. => true
  | .call { callee := .builtin .append, args := _, argTypes := _ } => true
  | .call { callee := .builtin .copy, args := _, argTypes := _ } => true
  | _ => false

def staticFit (ops : Array Oper) : Bool := masksFit (masksOf ops.toList []) 0 ops.toList && slotsFit (masksOf ops.toList []) ops

def evalDraw (P : Program) (op : List Value → Hp → Nat → Oper → Option (Value × Hp × Nat)) (ops : Array Oper) (tm : List Value) (H : Hp) (nx : Nat) : Option (List Value × Hp × Nat) :=
  match masksOf ops.toList [] with
  | ms => match (if ops.toList.any isWriter then guess P ops H ops.toList tm else []) with
    | est => match drawGo op ops (cutOf ops ms est) 0 [] ops.toList tm H nx with
      | some ss => if staticFit ops && viewsFit ms ss && P.follows .mixedOrders then some (tmR ss tm, hpR ss H, nxR ss nx) else none
      | none => none

/-- With any cut. -/
theorem drawn_ok {op : List Value → Hp → Nat → Oper → Option (Value × Hp × Nat)} {r : Option Nat} (hlk : Looks op) (hop : ∀ {tm H nx o v H' nx'}, op tm H nx o = some (v, H', nx') → OpOk P r o tm H nx v H' nx')
    {id : Nat} {ops : Array Oper} {cut : Nat → List Value → Hp → List Stp → Option (List Nat × (Nat → Bool))} {tm : List Value} {ds : List Nat} {nx : Nat} {ss : List Stp} (hss : drawGo op ops cut 0 [] ops.toList tm H nx = some ss)
    (hc : (staticFit ops && viewsFit (masksOf ops.toList []) ss && P.follows .mixedOrders) = true) : CodeOk P r (.region id ops true) tm ds H nx ⟨.normal, tmR ss tm, ds, hpR ss H, nxR ss nx⟩ := by
  simp only [Bool.and_eq_true, staticFit] at hc
  obtain ⟨⟨⟨h1, h2⟩, h3⟩, h4⟩ := hc
  obtain ⟨D, hs, ht⟩ := drawOk_of hlk hop hss h1 h2 h3
  have := codeOk_draw (id := id) (ds := ds) h4 D (HF := hpR ss H) (fun b k hb => by rw [hs]; exact hb)
  rw [ht] at this
  exact this
theorem evalDraw_ok {op : List Value → Hp → Nat → Oper → Option (Value × Hp × Nat)} {r : Option Nat} (hlk : Looks op) (hop : ∀ {tm H nx o v H' nx'}, op tm H nx o = some (v, H', nx') → OpOk P r o tm H nx v H' nx')
    {id : Nat} {ops : Array Oper} {tm tm' : List Value} {ds : List Nat} {H' : Hp} {nx nx' : Nat} (h : evalDraw P op ops tm H nx = some (tm', H', nx')) : CodeOk P r (.region id ops true) tm ds H nx ⟨.normal, tm', ds, H', nx'⟩ := by
  unfold evalDraw at h
  dsimp only at h
  split at h
  case h_2 => cases h
  rename_i ss hss
  split at h
  case isFalse => cases h
  rename_i hc
  cases h
  simp only [Bool.and_eq_true, staticFit] at hc
  obtain ⟨⟨⟨h1, h2⟩, h3⟩, h4⟩ := hc
  obtain ⟨D, hs, ht⟩ := drawOk_of hlk hop hss h1 h2 h3
  have := codeOk_draw (id := id) (ds := ds) h4 D (HF := hpR ss H) (fun b k hb => by rw [hs]; exact hb)
  rw [ht] at this
  exact this
end Go.En
/- The engine, part L: the evaluator, with fuel, and that it is sound. -/
namespace Go.En
set_option linter.unusedVariables false
variable {P : Program} {φ : Ren} {H : Hp} {K : Nat → Prop} {w : World}

/-- A round of a loop over a function. -/
def yieldE (E : Ev) (l : Nat) (vs : List Value) (H : Hp) (nx : Nat) : Option (Value × Hp × Nat) :=
  match H.get l with
  | some (.loop L) =>
    if vs.length = L.params.size then
      match E.code (some l) L.assign (setParams L.params.toList vs L.tmps.toList) [] H nx with
      | some R1 => match R1.e, R1.ds, R1.H.get l with
        | .normal, [], some (.loop L1) => match L1.state with
          | .ready => match E.code (some l) L.body R1.tm [] (R1.H.set l (.loop { L1 with state := .busy })) R1.nx with
            | some R2 => match R2.H.get l, roundEnd R2.e with
              | some (.loop L2), some (b, s, p) => some (.bool b, R2.H.set l (.loop { L2 with state := s, pending := p }), R2.nx)
              | _, _ => none
            | none => none
          | _ => none
        | _, _, _ => none
      | none => none
    else none
  | _ => none

theorem yieldE_ok {E : Ev} (hE : E.Ok P) {r : Option Nat} {o : Oper} {tm : List Value} {nx : Nat} {cf : Operand} {args : Array Operand} {ats : Array TypeId} (ho : o.op = .call { callee := .value cf, args := args, argTypes := ats })
    {l : Nat} {vs : List Value} (hcf : opv tm cf = some (.func (.yield l) #[] #[])) (hvs : opvs tm args.toList = some vs) {v : Value} {H' : Hp} {nx' : Nat} (h : yieldE E l vs H nx = some (v, H', nx')) : OpOk P r o tm H nx v H' nx' := by
  unfold yieldE at h
  split at h
  case h_2 => cases h
  rename_i L hl
  split at h
  case isFalse => cases h
  rename_i hn
  split at h
  case h_2 => cases h
  rename_i R1 hR1
  split at h
  case h_2 => cases h
  rename_i L1 he1 hd1 hl1
  split at h
  case h_2 => cases h
  rename_i hst
  split at h
  case h_2 => cases h
  rename_i R2 hR2
  split at h
  case h_2 => cases h
  rename_i L2 b s p hl2 he2
  cases h
  exact opOk_yield ho hcf hvs hl hn (hE.code hR1) he1 hd1 hl1 hst (hE.code hR2) hl2 he2

/-- One operation. -/
def evalOp (P : Program) (E : Ev) (tm : List Value) (H : Hp) (nx : Nat) (o : Oper) : Option (Value × Hp × Nat) :=
  match o.op with
  | .call { callee := .value cf, args := args, argTypes := _ } => match opv tm cf, opvs tm args.toList with
    | some (.func (.func f) fs cs), some vs => E.call f (fs.toList ++ vs ++ cs.toList) H nx
    | some (.func (.yield l) ⟨[]⟩ ⟨[]⟩), some vs => yieldE E l vs H nx
    | _, _ => none
  | _ => doOp P tm H nx o

theorem evalOp_ok {E : Ev} (hE : E.Ok P) (hs : NoSpecial P) {r : Option Nat} {o : Oper} {tm : List Value} {nx : Nat} {v : Value} {H' : Hp} {nx' : Nat} (h : evalOp P E tm H nx o = some (v, H', nx')) : OpOk P r o tm H nx v H' nx' := by
  unfold evalOp at h
  split at h
  · rename_i cf args ats ho
    split at h
    · rename_i f fs cs vs hcf hvs
      obtain ⟨fn, hfn, hb⟩ := hE.named h
      exact opOk_call ho hs hfn hb hcf hvs (hE.call h)
    · rename_i l vs hcf hvs
      exact yieldE_ok hE ho hcf hvs h
    · cases h
  · exact opOk_plain h

theorem evalOp_looks {E : Ev} : Looks (evalOp P E) := by
  intro t t' H nx o h
  unfold evalOp
  cases ho : o.op with
  | call c =>
    obtain ⟨cal, args, ats⟩ := c
    cases cal with
    | value cf =>
      rw [ho] at h
      simp only [h cf (by simp [Op.operands, Call.operands]), opvs_congr (xs := args.toList) fun x hx => h x (by simp only [Op.operands, Call.operands, Array.mem_append]; right; simpa using hx)]
    | _ => exact doOp_congr h
  | _ => exact doOp_congr h

/-- Operations in their order. -/
def evalList (P : Program) (E : Ev) (ops : Array Oper) : List Oper → List Value → Hp → Nat → Option (List Value × Hp × Nat)
  | [], tm, H, nx => some (tm, H, nx)
  | o :: l, tm, H, nx => match wantedA ops tm o with
    | some true => match evalOp P E tm H nx o with
      | some (v, H1, nx1) => evalList P E ops l (putT tm o.dst v) H1 nx1
      | none => none
    | some false => evalList P E ops l (putT tm o.dst undef) H nx
    | none => none

theorem evalList_ok {E : Ev} (hE : E.Ok P) (hs : NoSpecial P) {r : Option Nat} {ops : Array Oper} : ∀ {l : List Oper} {k : Nat} {tm : List Value} {H : Hp} {nx : Nat} {tm' : List Value} {H' : Hp} {nx' : Nat},
    (∀ j : Nat, l[j]? = ops[k + j]?) → evalList P E ops l tm H nx = some (tm', H', nx') → OpsOk P r ops (List.range' k l.length) tm H nx tm' H' nx'
  | [], k, tm, H, nx, tm', H', nx', _, h => by simp only [evalList, Option.some.injEq, Prod.mk.injEq] at h; obtain ⟨rfl, rfl, rfl⟩ := h; exact opsOk_nil
  | o :: l, k, tm, H, nx, tm', H', nx', hl, h => by
    have h0 : ops[k]? = some o := by simpa using (hl 0).symm
    have hl' : ∀ j : Nat, l[j]? = ops[k + 1 + j]? := fun j => by have := hl (j + 1); simpa [Nat.add_assoc, Nat.add_comm 1 j] using this
    simp only [evalList] at h
    rw [List.length_cons, List.range'_succ]
    split at h
    · rename_i hw
      split at h
      · rename_i v H1 nx1 h1
        exact opsOk_cons h0 hw (evalOp_ok hE hs h1) (evalList_ok hE hs hl' h)
      · cases h
    · rename_i hw
      exact opsOk_skip h0 hw (evalList_ok hE hs hl' h)
    · cases h

/-- The statement that ranges over a function. -/
def evalRange (E : Ev) (r : Option Nat) (g : Operand) (ps : Array Tmp) (assign body : Code) (tm : List Value) (ds : List Nat) (H : Hp) (nx : Nat) : Option Res :=
  match opv tm g with
  | some (.func (.func f) fs cs) =>
    match r with
    | none =>
      match E.call f (fs.toList ++ [.func (.yield (nx + 1)) #[] #[]] ++ cs.toList) ((nx + 1, .loop (newLoop tm ps assign body nx)) :: (nx, .defd) :: H) (nx + 2) with
      | some (_, H1, nx1) => match H1.get (nx + 1) with
        | some (.loop L) => afterLoop L tm (nx :: ds) (H1.del (nx + 1)) nx1
        | _ => none
      | none => none
    | some l0 => match H.get l0 with
      | some (.loop L0) =>
        match E.call f (fs.toList ++ [.func (.yield nx) #[] #[]] ++ cs.toList) ((nx, .loop (newLoop tm ps assign body L0.defers)) :: H) (nx + 1) with
        | some (_, H1, nx1) => match H1.get nx with
          | some (.loop L) => afterLoop L tm ds (H1.del nx) nx1
          | _ => none
        | none => none
      | _ => none
  | _ => none

theorem evalRange_ok {E : Ev} (hE : E.Ok P) (hs : NoSpecial P) {r : Option Nat} {g : Operand} {ps : Array Tmp} {assign body : Code} {tm : List Value} {ds : List Nat} {nx : Nat} {R : Res} (h : evalRange E r g ps assign body tm ds H nx = some R) :
    CodeOk P r (.rangeFunc g ps assign body) tm ds H nx R := by
  unfold evalRange at h
  split at h
  case h_2 => cases h
  rename_i f fs cs hg
  split at h
  · split at h
    case h_2 => cases h
    rename_i v H1 nx1 hc
    split at h
    case h_2 => cases h
    rename_i L hl
    obtain ⟨fn, hfn, hb⟩ := hE.named hc
    exact codeOk_rangeFunc hs hfn hb hg (hE.call hc) hl h
  · rename_i l0
    split at h
    case h_2 => cases h
    rename_i L0 hl0
    split at h
    case h_2 => cases h
    rename_i v H1 nx1 hc
    split at h
    case h_2 => cases h
    rename_i L hl
    obtain ⟨fn, hfn, hb⟩ := hE.named hc
    exact codeOk_rangeFunc_in hs hfn hb hg hl0 (hE.call hc) hl h

/-- Code. -/
def evalCode (P : Program) (E : Ev) (r : Option Nat) : Code → List Value → List Nat → Hp → Nat → Option Res
  | .skip, tm, ds, H, nx => some ⟨.normal, tm, ds, H, nx⟩
  | .label _, tm, ds, H, nx => some ⟨.normal, tm, ds, H, nx⟩
  | .exit i, tm, ds, H, nx => some ⟨.exit i, tm, ds, H, nx⟩
  | .goto i, tm, ds, H, nx => some ⟨.goto i, tm, ds, H, nx⟩
  | .ret, tm, ds, H, nx => some ⟨.ret, tm, ds, H, nx⟩
  | .seq x y, tm, ds, H, nx => match evalCode P E r x tm ds H nx with
    | some R => match R.e with
      | .normal => evalCode P E r y R.tm R.ds R.H R.nx
      | _ => some R
    | none => none
  | .cond c x y, tm, ds, H, nx => match opv tm c with
    | some (.bool true) => evalCode P E r x tm ds H nx
    | some (.bool false) => evalCode P E r y tm ds H nx
    | _ => none
  | .block i c, tm, ds, H, nx => (evalCode P E r c tm ds H nx).map (Res.inBlock i)
  | .loop c, tm, ds, H, nx => match evalCode P E r c tm ds H nx with
    | some R => match R.e with
      | .normal => E.loop r c R.tm R.ds R.H R.nx
      | _ => some R
    | none => none
  | .region _ ops false, tm, ds, H, nx => match evalList P E ops ops.toList tm H nx with
    | some (tm', H', nx') => some ⟨.normal, tm', ds, H', nx'⟩
    | none => none
  | .region _ ops true, tm, ds, H, nx => match evalDraw P (evalOp P E) ops tm H nx with
    | some (tm', H', nx') => some ⟨.normal, tm', ds, H', nx'⟩
    | none => none
  | .rangeFunc g ps assign body, tm, ds, H, nx => evalRange E r g ps assign body tm ds H nx
  | .scope c, tm, ds, H, nx => match r with
    | some _ => none
    | none => match evalCode P E none c tm ds H nx with
      | some R => match R.e with
        | .goto l => match findLabel c l with
          | some rest => E.scp c rest R.tm R.ds R.H R.nx
          | none => none
        | _ => some R
      | none => none
  | _, _, _, _, _ => none

theorem evalCode_ok {E : Ev} (hE : E.Ok P) (hs : NoSpecial P) {r : Option Nat} : ∀ (c : Code) {tm : List Value} {ds : List Nat} {H : Hp} {nx : Nat} {R : Res}, evalCode P E r c tm ds H nx = some R → CodeOk P r c tm ds H nx R := by
  intro c
  induction c with
  | skip => intro tm ds H nx R h; simp only [evalCode, Option.some.injEq] at h; subst h; exact codeOk_skip
  | label l => intro tm ds H nx R h; simp only [evalCode, Option.some.injEq] at h; subst h; exact codeOk_label
  | exit l => intro tm ds H nx R h; simp only [evalCode, Option.some.injEq] at h; subst h; exact codeOk_exit
  | goto l => intro tm ds H nx R h; simp only [evalCode, Option.some.injEq] at h; subst h; exact codeOk_goto
  | ret => intro tm ds H nx R h; simp only [evalCode, Option.some.injEq] at h; subst h; exact codeOk_ret
  | seq x y ihx ihy =>
    intro tm ds H nx R h
    simp only [evalCode] at h
    split at h
    case h_2 => cases h
    rename_i R1 h1
    split at h
    · rename_i he; exact codeOk_seq (ihx h1) he (ihy h)
    · rename_i he; cases h; exact codeOk_seq_out (ihx h1) he
  | cond c x y ihx ihy =>
    intro tm ds H nx R h
    simp only [evalCode] at h
    split at h
    · rename_i hc; exact codeOk_cond hc (by simpa using ihx h)
    · rename_i hc; exact codeOk_cond hc (by simpa using ihy h)
    · cases h
  | block i c ih =>
    intro tm ds H nx R h
    simp only [evalCode, Option.map_eq_some_iff] at h
    obtain ⟨R1, h1, rfl⟩ := h
    exact codeOk_block (ih h1)
  | loop c ih =>
    intro tm ds H nx R h
    simp only [evalCode] at h
    split at h
    case h_2 => cases h
    rename_i R1 h1
    split at h
    · rename_i he; exact codeOk_loop (loopOk_more (ih h1) he (hE.loop h))
    · rename_i he; cases h; exact codeOk_loop (loopOk_out (ih h1) he)
  | region id ops draw =>
    intro tm ds H nx R h
    cases draw with
    | false =>
      simp only [evalCode] at h
      split at h
      case h_2 => cases h
      rename_i tm' H' nx' h1
      cases h
      refine codeOk_region ?_
      have := evalList_ok (r := r) hE hs (k := 0) (ops := ops) (fun j => by simp) h1
      rw [List.range_eq_range']
      simpa using this
    | true =>
      simp only [evalCode] at h
      split at h
      case h_2 => cases h
      rename_i tm' H' nx' h1
      cases h
      exact evalDraw_ok evalOp_looks (fun h => evalOp_ok hE hs h) h1
  | rangeFunc g ps assign body iha ihb =>
    intro tm ds H nx R h
    simp only [evalCode] at h
    exact evalRange_ok hE hs h
  | scope c ih =>
    intro tm ds H nx R h
    cases r with
    | some l => simp [evalCode] at h
    | none =>
      simp only [evalCode] at h
      split at h
      case h_2 => cases h
      rename_i R1 h1
      split at h
      · rename_i l he
        split at h
        · rename_i rest hf; exact codeOk_scope (scpOk_jump (ih h1) he hf (hE.scp h))
        · cases h
      · rename_i he; cases h; exact codeOk_scope (scpOk_out (ih h1) he)
  | refuse s => intro tm ds H nx R h; simp [evalCode] at h

/-! ### What a call has made and nobody can reach any more is dropped -/
def refs : Nat → Value → List Nat
  | 0, _ => []
  | _, .pointer (some a) => [a.block]
  | _, .slice (some a) _ _ => [a.block]
  | _, .map (some r) => [r]
  | n + 1, .func (.yield l) a b => l :: (a.toList.flatMap (refs n) ++ b.toList.flatMap (refs n))
  | n + 1, .func _ a b => a.toList.flatMap (refs n) ++ b.toList.flatMap (refs n)
  | n + 1, .iface _ v => refs n v
  | n + 1, .agg cs => cs.toList.flatMap (refs n)
  | n + 1, .tuple cs => cs.toList.flatMap (refs n)
  | _, _ => []
def refsB : Blk → List Nat
  | .cells cs _ => cs.flatMap (refs 4)
  | .loop l => l.defers :: l.tmps.toList.flatMap (refs 4)
  | _ => []
/-- The names from lo on that are reached, by rounds. -/
def reach (lo : Nat) (H : Hp) : Nat → List Nat → List Nat → List Nat
  | 0, done, todo => done ++ todo
  | _ + 1, done, [] => done
  | n + 1, done, b :: todo => if done.contains b then reach lo H n done todo else match H.get b with
    | some k => reach lo H n (b :: done) (((refsB k).filter fun x => decide (lo ≤ x)) ++ todo)
    | none => reach lo H n (b :: done) todo
def oldRefs (lo : Nat) : Hp → List Nat
  | [] => []
  | (b, k) :: r => if b < lo then ((refsB k).filter fun x => decide (lo ≤ x)) ++ oldRefs lo r else oldRefs lo r
def hasNew (lo : Nat) : Hp → Bool
  | [] => false
  | (b, _) :: r => decide (lo ≤ b) || hasNew lo r
def gc (lo : Nat) (v : Value) (H : Hp) : Hp :=
  if hasNew lo H then
    match ((refs 4 v).filter fun x => decide (lo ≤ x)) ++ oldRefs lo H with
    | [] => Hp.only (fun b => decide (b < lo)) H
    | rs => match reach lo H 1000 [] rs with
      | ks => Hp.only (fun b => decide (b < lo) || ks.contains b) H
  else H
theorem gc_sub (lo : Nat) (v : Value) (H : Hp) (b : Nat) (k : Blk) (h : (gc lo v H).get b = some k) : H.get b = some k := by
  unfold gc at h
  split at h
  · split at h
    · rw [Hp.get_only] at h
      split at h
      · exact h
      · cases h
    · dsimp only at h
      rw [Hp.get_only] at h
      split at h
      · exact h
      · cases h
  · exact h

/-- A function's call. -/
def evalCall (P : Program) (E : Ev) (f : FuncId) (args : List Value) (H : Hp) (nx : Nat) : Option (Value × Hp × Nat) :=
  match P.funcs[f]? with
  | some fn => match fn.body with
    | some c => match evalCode P E none c (args ++ List.replicate (fn.ntmps - args.length) undef) [] H nx with
      | some R => match (match R.e with | .normal => true | .ret => true | _ => false) with
        | true => match killDs R.ds R.H with
          | some H1 => match resA P H1 R.tm fn.results.toList with
            | some vs => some (retV vs, gc nx (retV vs) H1, R.nx)
            | none => none
          | none => none
        | false => none
      | none => none
    | none => none
  | none => none
theorem evalCall_ok {E : Ev} (hE : E.Ok P) (hs : NoSpecial P) {f : FuncId} {args : List Value} {nx : Nat} {v : Value} {H' : Hp} {nx' : Nat} (h : evalCall P E f args H nx = some (v, H', nx')) :
    (∃ fn, P.funcs[f]? = some fn ∧ fn.body.isSome = true) ∧ CallOk P f args H nx v H' nx' := by
  unfold evalCall at h
  split at h
  case h_2 => cases h
  rename_i fn hfn
  split at h
  case h_2 => cases h
  rename_i c hc
  split at h
  case h_2 => cases h
  rename_i R hR
  split at h
  case h_2 => cases h
  rename_i he
  split at h
  case h_2 => cases h
  rename_i H1 hk
  split at h
  case h_2 => cases h
  rename_i vs hv
  cases h
  refine ⟨⟨fn, hfn, by rw [hc]; rfl⟩, callOk_of hfn hc (evalCode_ok hE hs c hR) ?_ hk hv (gc_sub nx _ _)⟩
  cases hE2 : R.e <;> simp [hE2] at he ⊢

def evStep (P : Program) (E : Ev) : Ev where
  call := evalCall P E
  code := evalCode P E
  loop := fun r c tm ds H nx => match evalCode P E r c tm ds H nx with
    | some R => match R.e with
      | .normal => E.loop r c R.tm R.ds R.H R.nx
      | _ => some R
    | none => none
  scp := fun c x tm ds H nx => match evalCode P E none x tm ds H nx with
    | some R => match R.e with
      | .goto l => match findLabel c l with
        | some rest => E.scp c rest R.tm R.ds R.H R.nx
        | none => none
      | _ => some R
    | none => none

theorem evStep_ok {E : Ev} (hE : E.Ok P) (hs : NoSpecial P) : (evStep P E).Ok P := by
  refine ⟨fun h => (evalCall_ok hE hs h).2, fun h => (evalCall_ok hE hs h).1, fun h => evalCode_ok hE hs _ h, fun {r c tm ds H nx R} h => ?_, fun {c x tm ds H nx R} h => ?_⟩
  · simp only [evStep] at h
    split at h
    case h_2 => cases h
    rename_i R1 h1
    split at h
    · rename_i he; exact loopOk_more (evalCode_ok hE hs c h1) he (hE.loop h)
    · rename_i he; cases h; exact loopOk_out (evalCode_ok hE hs c h1) he
  · simp only [evStep] at h
    split at h
    case h_2 => cases h
    rename_i R1 h1
    split at h
    · rename_i l he
      split at h
      · rename_i rest hf; exact scpOk_jump (evalCode_ok hE hs x h1) he hf (hE.scp h)
      · cases h
    · rename_i he; cases h; exact scpOk_out (evalCode_ok hE hs x h1) he

def ev (P : Program) : Nat → Ev
  | 0 => ⟨fun _ _ _ _ => none, fun _ _ _ _ _ _ => none, fun _ _ _ _ _ _ => none, fun _ _ _ _ _ _ => none⟩
  | n + 1 => evStep P (ev P n)
theorem ev_ok (hs : NoSpecial P) : ∀ n, (ev P n).Ok P
  | 0 => ⟨(fun h => by cases h), (fun h => by cases h), (fun h => by cases h), (fun h => by cases h), (fun h => by cases h)⟩
  | n + 1 => evStep_ok (ev_ok hs n) hs
end Go.En
/- The engine, part M: from the evaluator's answer to a law's row. -/
namespace Go.En
set_option linter.unusedVariables false
variable {P : Program} {φ : Ren} {H : Hp} {K : Nat → Prop} {w : World}
open Go.RowKit Go.ChangeShapes Go.WideShapes

def noSpecialB (P : Program) : Bool := P.funcs.toList.all fun fn => !(fn.name == "runtime.NumGoroutine")
theorem noSpecial_of (h : noSpecialB P = true) : NoSpecial P := by
  intro f fn hf
  have := List.all_eq_true.1 h fn (by
    rw [← Array.getElem?_toList] at hf
    exact List.mem_of_getElem? hf)
  simpa using this

def noneRen : Ren := fun _ => none
theorem good_nil (w : World) (K : Nat → Prop) (hK : ∀ c, K c → c < w.heap.size) : Good noneRen [] K w :=
  ⟨fun b k h => by simp [Hp.get] at h, fun b c k k' L L' h => by simp [Hp.get] at h, fun b k L h => by simp [Hp.get] at h, hK⟩

theorem below_of_went {w w' : World} (h : Went (fun c => c < w.heap.size) w w') : Below w.heap.size w w' :=
  ⟨h.os, h.tape, h.output, h.size, fun k hk => h.kept k hk⟩

/-- The evaluator says true of a closed call. -/
def saysTrue (P : Program) (n : Nat) (f : FuncId) : Bool :=
  match (ev P n).call f [] [] 0 with
  | some (.bool true, _, _) => true
  | _ => false
theorem closed_of {n : Nat} {f : FuncId} (hs : NoSpecial P) (h : saysTrue P n f = true) : ∃ H' nx', CallOk P f [] [] 0 (.bool true) H' nx' := by
  unfold saysTrue at h
  split at h
  · rename_i H' nx' he; exact ⟨H', nx', (ev_ok hs n).call he⟩
  · cases h
theorem calls_closed {f : FuncId} {H' : Hp} {nx' : Nat} (h : CallOk P f [] [] 0 (.bool true) H' nx') (w : World) : Calls P f #[] w fun e w' => e = .returned (.bool true) ∧ Below w.heap.size w w' := by
  have := h.2 noneRen w (fun c => c < w.heap.size) [] (good_nil w _ (fun _ h => h)) (fun b _ _ => rfl) trivial
  refine Calls.mono this ?_
  rintro e w' ⟨v', φ', rfl, x1, x2, x3, x4⟩
  cases x1
  exact ⟨rfl, below_of_went x4⟩

/-- Every argument reads as it did, where nothing below the old size has turned. -/
theorem trodAll_below {T : Type} {enc : TypeId × Value → T} (hl : laidOutB P = true) {W W' : World} (hb : Below W.heap.size W W') : ∀ {ts : List TypeId} {vs : List Value} {ds : List (DataW T)} {ps : List MemPlace},
    (∀ t ∈ ts, P.readableRec t = true ∧ t < P.types.size) → (∀ x ∈ ps, x.block < W.heap.size) → DataW.TrodAll enc P W 0 (fun _ => true) true ts vs ds ps → DataW.TrodAll enc P W' 0 (fun b => decide (b < W.heap.size)) true ts vs ds ps
  | [], _, _, _, _, _, h => by
    obtain ⟨rfl, rfl, rfl⟩ := trodAll_nil h
    exact trodAll_mk0
  | t :: ts, _, _, _, ht, hp, h => by
    obtain ⟨v, vs1, d, ds1, a, b, rfl, rfl, rfl, h1, h2⟩ := trodAll_cons h
    have h3 := ht t (by simp)
    exact ⟨a, b, Below.trod hl h3.1 h3.2 h1 hb (fun x hx => hp x (by simp [hx])), trodAll_below hl hb (fun t' h' => ht t' (by simp [h'])) (fun x hx => hp x (by simp [hx])) h2, rfl⟩

def readsB (P : Program) (ts : List TypeId) : Bool := ts.all fun t => P.readableRec t && decide (t < P.types.size)

/-- What a law's row asks behind the call. -/
theorem law_post {T : Type} {enc : TypeId × Value → T} {f : Func} {s : ChangeSpec} (hv : s.vars = []) (hl : laidOutB P = true) (hr : readsB P f.params.toList = true) {t : TypeId} (ht : f.resultTypes = #[t]) (hu : P.underlying t = some .bool)
    {W W' : World} {args : Array Value} {ds gs : List (DataW T)} {before : List MemPlace} (hW : DataW.Whole enc P f.params.toList s.vars false W args.toList ds gs before)
    (hres : (s.fn T (ds ++ gs)).results = [.lit (.bool true)]) (hargs : (s.fn T (ds ++ gs)).args = ds) (hvars : (s.fn T (ds ++ gs)).vars = []) (hb : Below W.heap.size W W') :
    s.post enc P f false true false false W args (.bool true) W' := by
  have hlt : ∀ p ∈ before, p.block < W.heap.size := fun p hp => hW.lt p hp
  have hW0 := hW
  obtain ⟨p, q, hA, hV, rfl, hz, hn⟩ := hW
  rw [hv] at hV
  obtain ⟨rfl, rfl⟩ := trodVars_none hV
  refine ⟨ds, [], p ++ [], [], p, [], hW0, ?_, ?_, ?_, ?_, fun h => by cases h⟩
  · rw [hres, ht]
    exact trodAll_cons_mk (shut_bool hu _) trodAll_mk0
  · rw [hargs]
    refine trodAll_below hl hb (fun t h => ?_) (fun x hx => hlt x (by simp [hx])) hA
    have := List.all_eq_true.1 hr t h
    simpa using this
  · rw [hvars, hv]; rfl
  · exact World.keptBut_mono (fun p hp => hp.elim) (hb.frame (fun _ => False))
end Go.En
/- The engine, part N: calls that are known already (each evaluated by itself, on the part of the heap that it can reach), and the evaluator that looks them up. -/
namespace Go.En
set_option linter.unusedVariables false
variable {P : Program} {φ : Ren} {H : Hp} {K : Nat → Prop} {w : World}

/-- A call evaluated on a view of the heap G that it may only read: what it does to G. -/
theorem call_view {f : FuncId} {args : List Value} {V H' G : Hp} {lo hi : Nat} {v : Value} (h : CallOk P f args V lo v H' hi)
    (hV : ∀ b k, V.get b = some k → ∃ k0, G.get b = some k0 ∧ k = seen1 (fun _ => false) (fun _ => false) b k0) (hrw : allRw (Hp.only (touchOf (fun _ => false) lo hi) H') = true) :
    CallOk P f args G lo v (merge (touchOf (fun _ => false) lo hi) H' G) hi := by
  refine ⟨h.1, fun φ w K us g hf hl => ?_⟩
  let K2 : Nat → Prop := fun c => K c ∨ ∃ b k L, G.get b = some k ∧ φ b = some L ∧ L.blk = c
  have hV' : ∀ b k, V.get b = some k → k.rw = true → False := by
    intro b k hb hk
    obtain ⟨k0, h0, rfl⟩ := hV b k hb
    simp only [seen1, Bool.false_eq_true, if_false] at hk
    split at hk <;> simp [Blk.rw] at hk
  have g2 : Good φ V K2 w := by
    refine ⟨fun b k hb => ?_, fun b c k k' L L' hb hc hne hkr => (hV' b k hb hkr).elim, fun b k L hb hkr => (hV' b k hb hkr).elim, fun c hc => ?_⟩
    · obtain ⟨k0, h0, rfl⟩ := hV b k hb
      obtain ⟨L, hL, hbr⟩ := g.rel b k0 h0
      refine ⟨L, hL, ?_⟩
      simp only [seen1, Bool.false_eq_true, if_false]
      split
      · obtain ⟨arr, el, fr, h1, h2, h3⟩ := hbr
        exact ⟨arr, el, fr, h1, h2, fun h => by cases h⟩
      · exact hbr.hid_of
    · rcases hc with hK | ⟨b, k, L, hb, hL, he⟩
      · exact g.kin c hK
      · have := (g.at hb hL).lt; omega
  refine Calls.mono (h.2 φ w K2 us g2 hf hl) ?_
  rintro e w' ⟨v', φ', rfl, x1, x2, x3, x4⟩
  refine ⟨v', φ', rfl, x1, x2, ?_, ⟨x4.os, x4.tape, x4.output, x4.size, fun c hc => x4.kept c (.inl hc)⟩⟩
  have htr : ∀ b k, (merge (touchOf (fun _ => false) lo hi) H' G).get b = some k → touchOf (fun _ => false) lo hi b = true → H'.get b = some k ∧ k.rw = true := by
    intro b k hb ht
    rw [merge_get, ht] at hb
    refine ⟨hb, allRw_get (b := b) hrw ?_⟩
    rw [Hp.get_only, ht]; exact hb
  have hun : ∀ b k, (merge (touchOf (fun _ => false) lo hi) H' G).get b = some k → touchOf (fun _ => false) lo hi b = false → G.get b = some k := by
    intro b k hb ht
    rw [merge_get, ht] at hb
    simpa using hb
  refine ⟨fun b k hb => ?_, fun b c k k' L L' hb hc hne hkr hL hL' => ?_, fun b k L hb hkr hL hK => ?_, fun c hc => Nat.lt_of_lt_of_le (g.kin c hc) x4.size⟩
  · cases ht : touchOf (fun _ => false) lo hi b with
    | true => exact x3.rel b k (htr b k hb ht).1
    | false =>
      have hG := hun b k hb ht
      obtain ⟨L, hL, hbr⟩ := g.rel b k hG
      exact ⟨L, x2.1 _ _ hL, (hbr.congr (x4.kept L.blk (.inr ⟨b, k, L, hG, hL, rfl⟩))).mono x2.1⟩
  · cases htb : touchOf (fun _ => false) lo hi b with
    | true =>
      obtain ⟨hb', hbr⟩ := htr b k hb htb
      cases htc : touchOf (fun _ => false) lo hi c with
      | true => exact x3.sep b c k k' L L' hb' (htr c k' hc htc).1 hne hbr hL hL'
      | false =>
        have hG := hun c k' hc htc
        obtain ⟨M, hM, _⟩ := g.rel c k' hG
        have := x2.1 _ _ hM
        rw [hL'] at this; cases this
        exact fun e => x3.prot b k L hb' hbr hL (.inr ⟨c, k', L', hG, hM, e.symm⟩)
    | false =>
      have hG := hun b k hb htb
      obtain ⟨M, hM, _⟩ := g.rel b k hG
      have hM' := x2.1 _ _ hM
      rw [hL] at hM'; cases hM'
      cases htc : touchOf (fun _ => false) lo hi c with
      | true =>
        obtain ⟨hc', hcr⟩ := htr c k' hc htc
        exact fun e => x3.prot c k' L' hc' hcr hL' (.inr ⟨b, k, L, hG, hM, e⟩)
      | false =>
        have hGc := hun c k' hc htc
        obtain ⟨M2, hM2, _⟩ := g.rel c k' hGc
        have := x2.1 _ _ hM2
        rw [hL'] at this; cases this
        exact g.sep b c k k' L L' hG hGc hne hkr hM hM2
  · cases htb : touchOf (fun _ => false) lo hi b with
    | true =>
      obtain ⟨hb', hbr⟩ := htr b k hb htb
      exact x3.prot b k L hb' hbr hL (.inl hK)
    | false =>
      have hG := hun b k hb htb
      obtain ⟨M, hM, _⟩ := g.rel b k hG
      have hM' := x2.1 _ _ hM
      rw [hL] at hM'; cases hM'
      exact g.prot b k L hG hkr hM hK

/-! ### Equality of values, as far as it is asked -/
def keq (a b : IntKind) : Bool := match a, b with
  | .i8, .i8 | .i16, .i16 | .i32, .i32 | .i64, .i64 | .u8, .u8 | .u16, .u16 | .u32, .u32 | .u64, .u64 => true
  | _, _ => false
theorem keq_eq {a b : IntKind} (h : keq a b = true) : a = b := by cases a <;> cases b <;> first | rfl | simp [keq] at h
def ieq : Int → Int → Bool
  | .ofNat a, .ofNat b => a == b
  | .negSucc a, .negSucc b => a == b
  | _, _ => false
theorem ieq_eq {a b : Int} (h : ieq a b = true) : a = b := by
  cases a <;> cases b <;> simp [ieq] at h <;> simp [h]
def adeq : Option Addr → Option Addr → Bool
  | none, none => true
  | some ⟨b, o, none⟩, some ⟨c, p, none⟩ => b == c && o == p
  | _, _ => false
theorem adeq_eq {a b : Option Addr} (h : adeq a b = true) : a = b := by
  unfold adeq at h
  split at h
  · rfl
  · simp at h; obtain ⟨rfl, rfl⟩ := h; rfl
  · cases h
def fneq : Fn → Fn → Bool
  | .func a, .func b => a == b
  | .yield a, .yield b => a == b
  | _, _ => false
theorem fneq_eq {a b : Fn} (h : fneq a b = true) : a = b := by
  unfold fneq at h
  split at h
  · simp at h; rw [h]
  · simp at h; rw [h]
  · cases h
def beqs : List UInt8 → List UInt8 → Bool
  | [], [] => true
  | a :: x, b :: y => a.toNat == b.toNat && beqs x y
  | _, _ => false
theorem beqs_eq : ∀ {a b : List UInt8}, beqs a b = true → a = b
  | [], [], _ => rfl
  | a :: x, b :: y, h => by
    simp [beqs] at h
    rw [beqs_eq h.2, UInt8.toNat_inj.1 h.1]
  | [], _ :: _, h => by simp [beqs] at h
  | _ :: _, [], h => by simp [beqs] at h
def leqBy (f : Value → Value → Bool) : List Value → List Value → Bool
  | [], [] => true
  | a :: x, b :: y => f a b && leqBy f x y
  | _, _ => false
theorem leqBy_eq {f : Value → Value → Bool} (hf : ∀ a b, f a b = true → a = b) : ∀ {x y : List Value}, leqBy f x y = true → x = y
  | [], [], _ => rfl
  | a :: x, b :: y, h => by
    simp [leqBy] at h
    rw [hf a b h.1, leqBy_eq hf h.2]
  | [], _ :: _, h => by simp [leqBy] at h
  | _ :: _, [], h => by simp [leqBy] at h
def veq : Nat → Value → Value → Bool
  | _, .bool a, .bool b => a == b
  | _, .int k a, .int l b => keq k l && ieq a b
  | _, .pointer a, .pointer b => adeq a b
  | _, .slice a n c, .slice b m d => adeq a b && n == m && c == d
  | _, .string a, .string b => beqs a.data.toList b.data.toList
  | _, .nilFunc, .nilFunc => true
  | _, .nilIface, .nilIface => true
  | _, .map none, .map none => true
  | _, .map (some a), .map (some b) => a == b
  | n + 1, .func f a b, .func g c d => fneq f g && leqBy (veq n) a.toList c.toList && leqBy (veq n) b.toList d.toList
  | n + 1, .iface t a, .iface u b => t == u && veq n a b
  | n + 1, .agg a, .agg b => leqBy (veq n) a.toList b.toList
  | n + 1, .tuple a, .tuple b => leqBy (veq n) a.toList b.toList
  | _, _, _ => false
theorem veq_eq : ∀ (n : Nat) (a b : Value), veq n a b = true → a = b := by
  intro n
  induction n with
  | zero =>
    intro a b h
    unfold veq at h
    split at h
    · simp at h; rw [h]
    · simp at h; rw [keq_eq h.1, ieq_eq h.2]
    · rw [adeq_eq h]
    · simp at h; rw [adeq_eq h.1.1, h.1.2, h.2]
    · rename_i x y
      have := beqs_eq h
      cases x; cases y
      simp only at this
      rw [Array.toList_inj.1 this]
    · rfl
    · rfl
    · rfl
    · simp at h; rw [h]
    all_goals first | omega | cases h
  | succ n ih =>
    intro a b h
    unfold veq at h
    split at h
    · simp at h; rw [h]
    · simp at h; rw [keq_eq h.1, ieq_eq h.2]
    · rw [adeq_eq h]
    · simp at h; rw [adeq_eq h.1.1, h.1.2, h.2]
    · rename_i x y
      have := beqs_eq h
      cases x; cases y
      simp only at this
      rw [Array.toList_inj.1 this]
    · rfl
    · rfl
    · rfl
    · simp at h; rw [h]
    · rename_i m f x y g c d hm
      cases hm
      simp only [Bool.and_eq_true] at h
      rw [fneq_eq h.1.1, Array.toList_inj.1 (leqBy_eq ih h.1.2), Array.toList_inj.1 (leqBy_eq ih h.2)]
    · rename_i m t x u y hm
      cases hm
      simp at h
      rw [h.1, ih _ _ h.2]
    · rename_i m x y hm
      cases hm
      rw [Array.toList_inj.1 (leqBy_eq ih h)]
    · rename_i m x y hm
      cases hm
      rw [Array.toList_inj.1 (leqBy_eq ih h)]
    · cases h

/-- A call that is known. -/
structure Memo where
  f : FuncId
  nx : Nat
  args : List Value
  V : List (Nat × List Value)
  v : Value
  new : List (Nat × List Value)
  nx' : Nat

def roHp : List (Nat × List Value) → Hp
  | [] => []
  | (b, cs) :: r => (b, .cells cs true) :: roHp r
def rwHp : List (Nat × List Value) → Hp
  | [] => []
  | (b, cs) :: r => (b, .cells cs false) :: rwHp r

/-- What a known call is worth. -/
def Memo.Ok (P : Program) (m : Memo) : Prop :=
  (∃ fn, P.funcs[m.f]? = some fn ∧ fn.body.isSome = true) ∧ CallOk P m.f m.args (roHp m.V) m.nx m.v (rwHp m.new ++ roHp m.V) m.nx'

/-- The heap holds what the call looked at. -/
def holdsV (H : Hp) : List (Nat × List Value) → Bool
  | [] => true
  | (b, cs) :: r => (match H.get b with
    | some (.cells ds _) => leqBy (veq 4) cs ds
    | _ => false) && holdsV H r
theorem holdsV_get {H : Hp} {b : Nat} {k : Blk} : ∀ {V : List (Nat × List Value)}, holdsV H V = true → (roHp V).get b = some k → ∃ k0, H.get b = some k0 ∧ k = seen1 (fun _ => false) (fun _ => false) b k0
  | [], _, h => by simp [roHp, Hp.get] at h
  | (c, cs) :: r, hh, h => by
    simp only [holdsV, Bool.and_eq_true] at hh
    by_cases hc : c = b
    · subst hc
      simp [roHp, Hp.get] at h
      subst h
      have h1 := hh.1
      split at h1
      · rename_i ds ro hg
        refine ⟨_, hg, ?_⟩
        rw [leqBy_eq (veq_eq 4) h1]
        simp [seen1]
      · cases h1
    · simp [roHp, Hp.get, hc] at h
      exact holdsV_get hh.2 h

def inNew (lo hi : Nat) : List (Nat × List Value) → Bool
  | [] => true
  | (b, _) :: r => decide (lo ≤ b) && decide (b < hi) && inNew lo hi r
def below (lo : Nat) : List (Nat × List Value) → Bool
  | [] => true
  | (b, _) :: r => decide (b < lo) && below lo r
theorem rwHp_get {lo hi b : Nat} {k : Blk} : ∀ {N : List (Nat × List Value)}, inNew lo hi N = true → (rwHp N).get b = some k → lo ≤ b ∧ b < hi ∧ k.rw = true
  | [], _, h => by simp [rwHp, Hp.get] at h
  | (c, cs) :: r, hn, h => by
    simp only [inNew, Bool.and_eq_true, decide_eq_true_eq] at hn
    by_cases hc : c = b
    · subst hc
      simp [rwHp, Hp.get] at h
      subst h
      exact ⟨hn.1.1, hn.1.2, rfl⟩
    · simp [rwHp, Hp.get, hc] at h
      exact rwHp_get hn.2 h

/-- Looking a call up. -/
def useMemo (m : Memo) (f : FuncId) (args : List Value) (H : Hp) (nx : Nat) : Option (Value × Hp × Nat) :=
  if m.f == f && m.nx == nx && leqBy (veq 5) m.args args && holdsV H m.V && inNew m.nx m.nx' m.new && below m.nx m.V then some (m.v, rwHp m.new ++ H, m.nx') else none

/-- A known call, on a heap that holds what it looked at. -/
theorem memo_use {m : Memo} (hm : m.Ok P) {H : Hp} (hV : ∀ b k, (roHp m.V).get b = some k → ∃ k0, H.get b = some k0 ∧ k = seen1 (fun _ => false) (fun _ => false) b k0)
    (h5 : inNew m.nx m.nx' m.new = true) (h6 : below m.nx m.V = true) : CallOk P m.f m.args H m.nx m.v (rwHp m.new ++ H) m.nx' := by
  have hbel : ∀ {V : List (Nat × List Value)} {b : Nat} {k : Blk}, below m.nx V = true → (roHp V).get b = some k → b < m.nx := by
    intro V
    induction V with
    | nil => intro b k _ h; simp [roHp, Hp.get] at h
    | cons x V ih =>
      intro b k hb h
      obtain ⟨c, cs⟩ := x
      simp only [below, Bool.and_eq_true, decide_eq_true_eq] at hb
      by_cases hc : c = b
      · subst hc; exact hb.1
      · simp [roHp, Hp.get, hc] at h; exact ih hb.2 h
  have hrw : allRw (Hp.only (touchOf (fun _ => false) m.nx m.nx') (rwHp m.new ++ roHp m.V)) = true := by
    have key : ∀ (N : List (Nat × List Value)), allRw (Hp.only (touchOf (fun _ => false) m.nx m.nx') (rwHp N)) = true := by
      intro N
      induction N with
      | nil => rfl
      | cons x N ih =>
        obtain ⟨c, cs⟩ := x
        simp only [rwHp, Hp.only]
        split
        · simpa [allRw, Blk.rw] using ih
        · exact ih
    have key2 : ∀ (V : List (Nat × List Value)), below m.nx V = true → Hp.only (touchOf (fun _ => false) m.nx m.nx') (roHp V) = [] := by
      intro V
      induction V with
      | nil => intro _; rfl
      | cons x V ih =>
        intro hb
        obtain ⟨c, cs⟩ := x
        simp only [below, Bool.and_eq_true, decide_eq_true_eq] at hb
        have : touchOf (fun _ => false) m.nx m.nx' c = false := by simp [touchOf]; omega
        simp only [roHp, Hp.only, this, Bool.false_eq_true, if_false]
        exact ih hb.2
    have app : ∀ (A B : Hp) (p : Nat → Bool), Hp.only p (A ++ B) = Hp.only p A ++ Hp.only p B := by
      intro A B p
      induction A with
      | nil => rfl
      | cons x A ih =>
        obtain ⟨c, k⟩ := x
        simp only [List.cons_append, Hp.only]
        split
        · rw [ih]; rfl
        · exact ih
    rw [app, key2 _ h6, List.append_nil]
    exact key _
  have hcv := call_view hm.2 hV hrw
  refine ⟨hcv.1, fun φ w K us g hf hl => Calls.mono (hcv.2 φ w K us g hf hl) ?_⟩
  rintro e w' ⟨v', φ', rfl, x1, x2, x3, x4⟩
  refine ⟨v', φ', rfl, x1, x2, x3.sub fun b k hb => ?_, x4⟩
  rw [merge_get]
  rw [Hp.get_append] at hb
  cases hn : (rwHp m.new).get b with
  | some k' =>
    rw [hn] at hb
    cases hb
    have := rwHp_get h5 hn
    have ht : touchOf (fun _ => false) m.nx m.nx' b = true := by simp [touchOf]; omega
    rw [ht]
    simp only [if_true]
    rw [Hp.get_append, hn]
  | none =>
    rw [hn] at hb
    have hb : H.get b = some k := hb
    have ht : touchOf (fun _ => false) m.nx m.nx' b = false := by
      simp only [touchOf, Bool.false_or, Bool.and_eq_false_iff, decide_eq_false_iff_not]
      obtain ⟨L, hL, _⟩ := g.rel b k hb
      rcases Nat.lt_or_ge b m.nx with h | h
      · exact .inl (by omega)
      · rcases Nat.lt_or_ge b m.nx' with h' | h'
        · have := hf b h h'; rw [hL] at this; cases this
        · exact .inr (by omega)
    rw [ht]
    simpa using hb

theorem useMemo_ok {m : Memo} (hm : m.Ok P) {f : FuncId} {args : List Value} {H : Hp} {nx : Nat} {v : Value} {H' : Hp} {nx' : Nat} (h : useMemo m f args H nx = some (v, H', nx')) :
    (∃ fn, P.funcs[f]? = some fn ∧ fn.body.isSome = true) ∧ CallOk P f args H nx v H' nx' := by
  unfold useMemo at h
  split at h
  · rename_i hc
    cases h
    simp only [Bool.and_eq_true, beq_iff_eq] at hc
    obtain ⟨⟨⟨⟨⟨h1, h2⟩, h3⟩, h4⟩, h5⟩, h6⟩ := hc
    subst h1; subst h2
    have h3 := leqBy_eq (veq_eq 5) h3
    subst h3
    exact ⟨hm.1, memo_use hm (fun b k hb => holdsV_get h4 hb) h5 h6⟩
  · cases h

def lookM : List Memo → FuncId → List Value → Hp → Nat → Option (Value × Hp × Nat)
  | [], _, _, _, _ => none
  | m :: ms, f, args, H, nx => if m.nx == nx && m.f == f then (match useMemo m f args H nx with
    | some r => some r
    | none => lookM ms f args H nx) else lookM ms f args H nx

/-- The evaluator with known calls. -/
def memoEv (ms : List Memo) (E : Ev) : Ev where
  call := fun f args H nx => match lookM ms f args H nx with
    | some r => some r
    | none => E.call f args H nx
  code := E.code
  loop := E.loop
  scp := E.scp

theorem lookM_ok : ∀ {ms : List Memo}, (∀ m ∈ ms, m.Ok P) → ∀ {f : FuncId} {args : List Value} {H : Hp} {nx : Nat} {v : Value} {H' : Hp} {nx' : Nat}, lookM ms f args H nx = some (v, H', nx') →
    (∃ fn, P.funcs[f]? = some fn ∧ fn.body.isSome = true) ∧ CallOk P f args H nx v H' nx'
  | [], _, _, _, _, _, _, _, _, h => by cases h
  | m :: ms, hm, f, args, H, nx, v, H', nx', h => by
    simp only [lookM] at h
    split at h
    · split at h
      · rename_i r hr
        cases h
        exact useMemo_ok (hm m (by simp)) hr
      · exact lookM_ok (fun m hm' => hm m (by simp [hm'])) h
    · exact lookM_ok (fun m hm' => hm m (by simp [hm'])) h

theorem memoEv_ok {ms : List Memo} {E : Ev} (hms : ∀ m ∈ ms, m.Ok P) (hE : E.Ok P) : (memoEv ms E).Ok P := by
  refine ⟨fun {f args H nx v H' nx'} h => ?_, fun {f args H nx v H' nx'} h => ?_, fun h => hE.code h, fun h => hE.loop h, fun h => hE.scp h⟩
  · simp only [memoEv] at h
    split at h
    · rename_i r hr; cases h; exact (lookM_ok hms hr).2
    · exact hE.call h
  · simp only [memoEv] at h
    split at h
    · rename_i r hr; cases h; exact (lookM_ok hms hr).1
    · exact hE.named h

/-- The evaluator with known calls, at every depth. -/
def evM (P : Program) (ms : List Memo) : Nat → Ev
  | 0 => ⟨fun _ _ _ _ => none, fun _ _ _ _ _ _ => none, fun _ _ _ _ _ _ => none, fun _ _ _ _ _ _ => none⟩
  | n + 1 => memoEv ms (evStep P (evM P ms n))
theorem evM_ok (hs : NoSpecial P) {ms : List Memo} (hms : ∀ m ∈ ms, m.Ok P) : ∀ n, (evM P ms n).Ok P
  | 0 => ⟨(fun h => by cases h), (fun h => by cases h), (fun h => by cases h), (fun h => by cases h), (fun h => by cases h)⟩
  | n + 1 => memoEv_ok hms (evStep_ok (evM_ok hs hms n) hs)

/-- The heap H' has these blocks, to be turned (ro = false) or to be read. -/
def hasAll (ro : Bool) (H : Hp) : List (Nat × List Value) → Bool
  | [] => true
  | (b, cs) :: r => (match H.get b with
    | some (.cells ds r') => (r' == ro) && leqBy (veq 4) cs ds
    | _ => false) && hasAll ro H r
theorem hasAll_ro {b : Nat} {k : Blk} : ∀ {V : List (Nat × List Value)}, hasAll true H V = true → (roHp V).get b = some k → H.get b = some k
  | [], _, h => by simp [roHp, Hp.get] at h
  | (c, cs) :: r, hh, h => by
    simp only [hasAll, Bool.and_eq_true] at hh
    by_cases hc : c = b
    · subst hc
      simp [roHp, Hp.get] at h
      subst h
      have h1 := hh.1
      split at h1
      · rename_i ds ro hg
        simp only [Bool.and_eq_true, beq_iff_eq] at h1
        rw [leqBy_eq (veq_eq 4) h1.2, hg, h1.1]
      · cases h1
    · simp [roHp, Hp.get, hc] at h
      exact hasAll_ro hh.2 h
theorem hasAll_rw {b : Nat} {k : Blk} : ∀ {V : List (Nat × List Value)}, hasAll false H V = true → (rwHp V).get b = some k → H.get b = some k
  | [], _, h => by simp [rwHp, Hp.get] at h
  | (c, cs) :: r, hh, h => by
    simp only [hasAll, Bool.and_eq_true] at hh
    by_cases hc : c = b
    · subst hc
      simp [rwHp, Hp.get] at h
      subst h
      have h1 := hh.1
      split at h1
      · rename_i ds ro hg
        simp only [Bool.and_eq_true, beq_iff_eq] at h1
        rw [leqBy_eq (veq_eq 4) h1.2, hg, h1.1]
      · cases h1
    · simp [rwHp, Hp.get, hc] at h
      exact hasAll_rw hh.2 h

/-- The evaluator comes to what the entry says. -/
def memoSays (E : Ev) (m : Memo) : Bool :=
  match E.call m.f m.args (roHp m.V) m.nx with
  | some (v, H', nx') => veq 5 m.v v && nx' == m.nx' && hasAll false H' m.new && hasAll true H' m.V
  | none => false
theorem memo_of {E : Ev} {m : Memo} (hE : E.Ok P) (h : memoSays E m = true) : m.Ok P := by
  unfold memoSays at h
  split at h
  · rename_i v H' nx' he
    simp only [Bool.and_eq_true, beq_iff_eq] at h
    obtain ⟨⟨⟨h1, h2⟩, h3⟩, h4⟩ := h
    have h1 := veq_eq 5 _ _ h1
    subst h1; subst h2
    refine ⟨hE.named he, ?_⟩
    have hc := hE.call he
    refine ⟨hc.1, fun φ w K us g hf hl => Calls.mono (hc.2 φ w K us g hf hl) ?_⟩
    rintro e w' ⟨v', φ', rfl, x1, x2, x3, x4⟩
    refine ⟨v', φ', rfl, x1, x2, x3.sub fun b k hb => ?_, x4⟩
    rw [Hp.get_append] at hb
    cases hn : (rwHp m.new).get b with
    | some k' =>
      rw [hn] at hb
      cases hb
      exact hasAll_rw h3 hn
    | none =>
      rw [hn] at hb
      exact hasAll_ro h4 hb
  · cases h

def saysTrueM (P : Program) (ms : List Memo) (n : Nat) (f : FuncId) : Bool :=
  match (evM P ms n).call f [] [] 0 with
  | some (.bool true, _, _) => true
  | _ => false
theorem closed_ofM {n : Nat} {f : FuncId} {ms : List Memo} (hs : NoSpecial P) (hms : ∀ m ∈ ms, m.Ok P) (h : saysTrueM P ms n f = true) : ∃ H' nx', CallOk P f [] [] 0 (.bool true) H' nx' := by
  unfold saysTrueM at h
  split at h
  · rename_i H' nx' he; exact ⟨H', nx', (evM_ok hs hms n).call he⟩
  · cases h

/-- More known calls, each evaluated with those before it. -/
theorem memos_cons {n : Nat} {m : Memo} {ms : List Memo} (hs : NoSpecial P) (hms : ∀ m ∈ ms, m.Ok P) (h : memoSays (evM P ms n) m = true) : ∀ x ∈ m :: ms, x.Ok P := by
  intro x hx
  rcases List.mem_cons.1 hx with rfl | hx
  · exact memo_of (evM_ok hs hms n) h
  · exact hms x hx
end Go.En
/- The engine, part O: evaluation with free variables. Where the evaluator would have to decide something about a variable, a hint says what comes out; what a hint relies on is collected as equations (to be checked by the kernel) or is proved beside. -/
namespace Go.En
set_option linter.unusedVariables false
variable {P : Program} {φ : Ren} {H : Hp} {K : Nat → Prop} {w : World}

/-- What is collected on the way. -/
structure Eqs where
  vs : List (Value × Value)
  cs : List (Code × Code)
  hs : List (Hp × Hp) := []
def Eqs.none : Eqs := ⟨[], [], []⟩
def Eqs.and (a b : Eqs) : Eqs := ⟨a.vs ++ b.vs, a.cs ++ b.cs, a.hs ++ b.hs⟩
def EqsV : List (Value × Value) → Prop
  | [] => True
  | e :: r => e.1 = e.2 ∧ EqsV r
def EqsC : List (Code × Code) → Prop
  | [] => True
  | e :: r => e.1 = e.2 ∧ EqsC r
def EqsH : List (Hp × Hp) → Prop
  | [] => True
  | e :: r => e.1 = e.2 ∧ EqsH r
def Eqs.Hold (e : Eqs) : Prop := EqsV e.vs ∧ EqsC e.cs ∧ EqsH e.hs
theorem eqsV_append {a b : List (Value × Value)} : EqsV (a ++ b) ↔ EqsV a ∧ EqsV b := by
  induction a with
  | nil => simp [EqsV]
  | cons x a ih => simp only [List.cons_append, EqsV, ih, and_assoc]
theorem eqsC_append {a b : List (Code × Code)} : EqsC (a ++ b) ↔ EqsC a ∧ EqsC b := by
  induction a with
  | nil => simp [EqsC]
  | cons x a ih => simp only [List.cons_append, EqsC, ih, and_assoc]
theorem eqsH_append {a b : List (Hp × Hp)} : EqsH (a ++ b) ↔ EqsH a ∧ EqsH b := by
  induction a with
  | nil => simp [EqsH]
  | cons x a ih => simp only [List.cons_append, EqsH, ih, and_assoc]
theorem Eqs.hold_and {a b : Eqs} : (a.and b).Hold ↔ a.Hold ∧ b.Hold := by
  simp only [Eqs.Hold, Eqs.and, eqsV_append, eqsC_append, eqsH_append]
  constructor
  · rintro ⟨⟨h1, h2⟩, ⟨h3, h4⟩, h5, h6⟩; exact ⟨⟨h1, h3, h5⟩, h2, h4, h6⟩
  · rintro ⟨⟨h1, h3, h5⟩, h2, h4, h6⟩; exact ⟨⟨h1, h2⟩, ⟨h3, h4⟩, h5, h6⟩
theorem eqsV_of : ∀ {l : List (Value × Value)}, l.map (·.1) = l.map (·.2) → EqsV l
  | [], _ => trivial
  | x :: l, h => by simp only [List.map_cons, List.cons.injEq] at h; exact ⟨h.1, eqsV_of h.2⟩
theorem eqsC_of : ∀ {l : List (Code × Code)}, l.map (·.1) = l.map (·.2) → EqsC l
  | [], _ => trivial
  | x :: l, h => by simp only [List.map_cons, List.cons.injEq] at h; exact ⟨h.1, eqsC_of h.2⟩

theorem eqsH_of : ∀ {l : List (Hp × Hp)}, l.map (·.1) = l.map (·.2) → EqsH l
  | [], _ => trivial
  | x :: l, h => by simp only [List.map_cons, List.cons.injEq] at h; exact ⟨h.1, eqsH_of h.2⟩

inductive Hint where
  /-- the operation by itself gives v0, and that is v -/
  | val (v0 v : Value)
  /-- a call that is known -/
  | call (m : Memo)
  /-- an element's address: a name of its own for the element -/
  | win (t : TypeId) (x i : Value) (b off : Nat) (cs0 cs : List Value)
  /-- a load from a place that is not literal -/
  | ld (t : TypeId) (p : Value) (b : Nat) (cs0 : List Value) (ro : Bool) (v : Value)
  /-- an element's address, as it is -/
  | ix (t : TypeId) (x i v : Value)
  /-- a store to a place that is not literal -/
  | st (t : TypeId) (p x : Value) (b : Nat) (cs0 cs1 : List Value)
  /-- a new variable that nobody turns any more -/
  | frz
  /-- a part of a slice, where its bounds are not literal -/
  | slc (t : TypeId) (x : Value) (lo hi mx : Option Value) (v : Value)
  /-- an append that makes a new block: what it is handed, the blocks that it looks at, the new length, capacity and cells -/
  | app (ats : List TypeId) (ty : TypeId) (ins : List Value) (V : List (Nat × List Value)) (dl : Option Nat) (len cap : Nat) (new : List Value)
  /-- a slice that is made, its length not literal -/
  | mk (t : TypeId) (l c : Value) (len : Nat) (new : List Value)
  /-- a call of one of several functions, each known -/
  | calls (ms : List Memo)
  /-- an operation with two operands -/
  | bin (op : BinOp) (t : TypeId) (a b v : Value)
  /-- an operation of which it is known what it comes to, on a heap -/
  | any (o : Oper) (ins : List Value) (H : Hp) (nx : Nat) (v : Value) (H' : Hp) (nx' : Nat)

def MemosOk (P : Program) : List Memo → Prop
  | [] => True
  | m :: r => m.Ok P ∧ MemosOk P r
def findM : List Memo → FuncId → Option Memo
  | [], _ => none
  | m :: r, f => if m.f == f then some m else findM r f
theorem findM_ok : ∀ {ms : List Memo}, MemosOk P ms → ∀ {f : FuncId} {m : Memo}, findM ms f = some m → m.Ok P
  | [], _, f, m, h => by cases h
  | x :: r, hk, f, m, h => by
    simp only [findM] at h
    split at h
    · cases h; exact hk.1
    · exact findM_ok hk.2 h
/-- A block that is given up (it must be ours to turn). -/
def rwO (H : Hp) : Option Nat → Bool
  | none => true
  | some b => match H.get b with
    | some (.cells _ false) => true
    | _ => false
def delO (H : Hp) : Option Nat → Hp
  | none => H
  | some b => H.del b
def Hint.Ok (P : Program) : Hint → Prop
  | .val v0 v => v0 = v
  | .call m => m.Ok P
  | .win t x i b off cs0 cs => doIndexAddr P t x i = some (.pointer (some ⟨b, off, none⟩)) ∧ ∀ (j : Nat) v, cs[j]? = some v → cs0[off + j]? = some v
  | .ld t p b cs0 ro v => doLoad P [(b, .cells cs0 ro)] t p = some v ∧ ∃ o, p = .pointer (some ⟨b, o, none⟩)
  | .ix t x i v => doIndexAddr P t x i = some v
  | .st t p x b cs0 cs1 => doStore P [(b, .cells cs0 false)] t p x = some [(b, .cells cs1 false)] ∧ ∃ o, p = .pointer (some ⟨b, o, none⟩)
  | .frz => True
  | .slc t x lo hi mx v => doSlice P t x lo hi mx = some v
  | .app ats ty ins V dl len cap new => ∀ (H : Hp) (nx : Nat), (∀ b cs, (b, cs) ∈ V → ∃ ro, H.get b = some (.cells cs ro)) → rwO H dl = true → doBuiltin P H nx .append ats ty ins = some (.slice (some ⟨nx, 0, none⟩) len cap, (nx, .cells new false) :: delO H dl, nx + 1)
  | .mk t l c len new => ∀ (H : Hp) (nx : Nat), doMakeSlice P H nx t l c = some (.slice (some ⟨nx, 0, none⟩) len len, (nx, .cells new false) :: H, nx + 1)
  | .calls ms => MemosOk P ms
  | .bin op t a b v => ∀ xo yo, doBin P op t xo yo a b = some v
  | .any o ins H nx v H' nx' => ∀ (r : Option Nat) (tm : List Value), opvs tm o.op.operands.toList = some ins → OpOk P r o tm H nx v H' nx'

abbrev Hints := List (Nat × Hint)
def Hints.find : Hints → Nat → Option Hint
  | [], _ => none
  | (d, h) :: r, n => if d == n then some h else Hints.find r n
def HintsOk (P : Program) : Hints → Prop
  | [] => True
  | h :: r => h.2.Ok P ∧ HintsOk P r
theorem HintsOk.find : ∀ {hs : Hints}, HintsOk P hs → ∀ {d : Nat} {h : Hint}, hs.find d = some h → h.Ok P
  | [], _, d, h, hf => by cases hf
  | x :: r, hk, d, h, hf => by
    obtain ⟨e, k⟩ := x
    simp only [Hints.find] at hf
    split at hf
    · cases hf; exact hk.1
    · exact HintsOk.find hk.2 hf

/-- The blocks that a known call looks at, as equations. -/
def viewEqs (H : Hp) : List (Nat × List Value) → Option (List (Value × Value))
  | [] => some []
  | (b, cs) :: r => match H.get b with
    | some (.cells ds _) => match viewEqs H r with
      | some l => some ((.tuple cs.toArray, .tuple ds.toArray) :: l)
      | none => none
    | _ => none
theorem tuple_inj {a b : List Value} (h : Value.tuple a.toArray = Value.tuple b.toArray) : a = b := by
  have := Value.tuple.inj h
  simpa using congrArg Array.toList this
theorem viewEqs_get {b : Nat} {k : Blk} : ∀ {V : List (Nat × List Value)} {l : List (Value × Value)}, viewEqs H V = some l → EqsV l → (roHp V).get b = some k → ∃ k0, H.get b = some k0 ∧ k = seen1 (fun _ => false) (fun _ => false) b k0
  | [], l, _, _, h => by simp [roHp, Hp.get] at h
  | (c, cs) :: r, l, hl, he, h => by
    simp only [viewEqs] at hl
    split at hl
    case h_2 => cases hl
    rename_i ds ro hg
    split at hl
    case h_2 => cases hl
    rename_i l' hl'
    cases hl
    have h1 := tuple_inj he.1
    by_cases hc : c = b
    · subst hc
      simp [roHp, Hp.get] at h
      subst h
      exact ⟨_, hg, by rw [h1]; simp [seen1]⟩
    · simp [roHp, Hp.get, hc] at h
      exact viewEqs_get hl' he.2 h

theorem viewEqs_mem {b : Nat} {cs : List Value} : ∀ {V : List (Nat × List Value)} {l : List (Value × Value)}, viewEqs H V = some l → EqsV l → (b, cs) ∈ V → ∃ ro, H.get b = some (.cells cs ro)
  | [], l, _, _, h => by cases h
  | (c, ds) :: r, l, hl, he, h => by
    simp only [viewEqs] at hl
    split at hl
    case h_2 => cases hl
    rename_i es ro hg
    split at hl
    case h_2 => cases hl
    rename_i l' hl'
    cases hl
    have h1 := tuple_inj he.1
    rcases List.mem_cons.1 h with h | h
    · cases h
      exact ⟨ro, by rw [hg, h1]⟩
    · exact viewEqs_mem hl' he.2 h
def eqDs : List Nat → List Nat → Bool
  | [], [] => true
  | a :: x, b :: y => a == b && eqDs x y
  | _, _ => false
theorem eqDs_eq : ∀ {a b : List Nat}, eqDs a b = true → a = b
  | [], [], _ => rfl
  | a :: x, b :: y, h => by simp [eqDs] at h; rw [h.1, eqDs_eq h.2]
  | [], _ :: _, h => by simp [eqDs] at h
  | _ :: _, [], h => by simp [eqDs] at h

/-- A known call, taken. -/
def takeMemo (m : Memo) (f : FuncId) (args : List Value) (H : Hp) (nx : Nat) : Option (Value × Hp × Nat × Eqs) :=
  if m.f == f && m.nx == nx && inNew m.nx m.nx' m.new && below m.nx m.V then match viewEqs H m.V with
    | some l => some (m.v, rwHp m.new ++ H, m.nx', ⟨(.tuple m.args.toArray, .tuple args.toArray) :: l, [], []⟩)
    | none => none
  else none
theorem takeMemo_ok {m : Memo} (hm : m.Ok P) {f : FuncId} {args : List Value} {H : Hp} {nx : Nat} {v : Value} {H' : Hp} {nx' : Nat} {e : Eqs} (h : takeMemo m f args H nx = some (v, H', nx', e)) (he : e.Hold) :
    (∃ fn, P.funcs[f]? = some fn ∧ fn.body.isSome = true) ∧ CallOk P f args H nx v H' nx' := by
  unfold takeMemo at h
  split at h
  case isFalse => cases h
  rename_i hc
  split at h
  case h_2 => cases h
  rename_i l hl
  cases h
  simp only [Bool.and_eq_true, beq_iff_eq] at hc
  obtain ⟨⟨⟨h1, h2⟩, h5⟩, h6⟩ := hc
  subst h1; subst h2
  have h3 := tuple_inj he.1.1
  subst h3
  exact ⟨hm.1, memo_use hm (fun b k hb => viewEqs_get hl he.1.2 hb) h5 h6⟩

/-! ### One operation with a hint -/
theorem doLoad_at {t : TypeId} {b : Nat} {cs : List Value} {ro : Bool} {o : Nat} {v : Value} (hb : H.get b = some (.cells cs ro)) (h : doLoad P [(b, .cells cs ro)] t (.pointer (some ⟨b, o, none⟩)) = some v) : doLoad P H t (.pointer (some ⟨b, o, none⟩)) = some v := by
  simp only [doLoad, hb]
  simpa [doLoad, Hp.get] using h
theorem doStore_at {t : TypeId} {b : Nat} {cs cs1 : List Value} {o : Nat} {x : Value} (hb : H.get b = some (.cells cs false)) (h : doStore P [(b, .cells cs false)] t (.pointer (some ⟨b, o, none⟩)) x = some [(b, .cells cs1 false)]) :
    doStore P H t (.pointer (some ⟨b, o, none⟩)) x = some H ∧ cs1 = cs ∨ doStore P H t (.pointer (some ⟨b, o, none⟩)) x = some (H.set b (.cells cs1 false)) := by
  simp only [doStore, hb]
  simp only [doStore, Hp.get, beq_self_eq_true, if_true] at h
  split at h
  case h_2 => cases h
  rename_i cs' i h1 h2
  cases h1
  split at h
  case isFalse => cases h
  rename_i hc
  simp only [hc, if_true]
  split at h
  · rename_i hem
    simp only [Option.some.injEq, List.cons.injEq, Prod.mk.injEq, Blk.cells.injEq, and_true, true_and] at h
    left
    simp only [hem, if_true]
    exact ⟨trivial, h.symm⟩
  · rename_i hem
    simp only [Hp.set, beq_self_eq_true, if_true, Option.some.injEq, List.cons.injEq, Prod.mk.injEq, Blk.cells.injEq, and_true, true_and] at h
    right
    simp only [hem, h]
    rfl

/-- An address of a part that is only read, under a name of its own. -/
theorem OpOk.win {r : Option Nat} {o : Oper} {tm : List Value} {nx : Nat} {b off : Nat} {cs0 cs : List Value} (h : OpOk P r o tm H nx (.pointer (some ⟨b, off, none⟩)) H nx) (hb : H.get b = some (.cells cs0 true))
    (hc : ∀ (j : Nat) v, cs[j]? = some v → cs0[off + j]? = some v) : OpOk P r o tm H nx (.pointer (some ⟨nx, 0, none⟩)) ((nx, .cells cs true) :: H) (nx + 1) := by
  refine ⟨by omega, fun φ w K a rc next Q g hf ht hr hk => h.2 φ w K a rc next Q g (fun b h1 h2 => by omega) ht hr ?_⟩
  intro v' φ' w' hv he hg hw
  have hfe : φ' = φ := by funext c; exact he.2 c (by omega)
  rw [hfe] at hv hg
  cases hv with
  | ptr _ _ L hL =>
    have hn : φ nx = none := hf nx (Nat.le_refl _) (by omega)
    have hle : φ.le (φ.put nx ⟨L.blk, L.off + off, 0⟩) := Ren.put_le hn _
    have hHn := hg.absent hn
    have hnew : (φ.put nx ⟨L.blk, L.off + off, 0⟩) nx = some ⟨L.blk, L.off + off, 0⟩ := by simp [Ren.put]
    have hold : ∀ c, c ≠ nx → (φ.put nx ⟨L.blk, L.off + off, 0⟩) c = φ c := fun c hc => by simp [Ren.put, hc]
    have hbn : b ≠ nx := by rintro rfl; rw [hb] at hHn; cases hHn
    have hbr := hg.at hb hL
    refine hk _ (φ.put nx ⟨L.blk, L.off + off, 0⟩) w' ?_ ⟨hle, fun c hc => hold c (by omega)⟩ ?_ hw
    · have := VRel.ptr (φ := φ.put nx ⟨L.blk, L.off + off, 0⟩) nx 0 _ hnew
      simpa using this
    · have hget : ∀ c k, Hp.get ((nx, .cells cs true) :: H) c = some k → (c = nx ∧ k = .cells cs true) ∨ (c ≠ nx ∧ H.get c = some k) := by
        intro c k hc'
        by_cases hcn : nx = c
        · subst hcn; simp [Hp.get] at hc'; exact .inl ⟨rfl, hc'.symm⟩
        · simp [Hp.get, hcn] at hc'; exact .inr ⟨fun e => hcn e.symm, hc'⟩
      refine ⟨fun c k hck => ?_, fun c d k k' L1 L2 hck hdk hne hkr h1 h2 => ?_, fun c k L1 hck hkr h1 => ?_, hg.kin⟩
      · rcases hget c k hck with ⟨rfl, rfl⟩ | ⟨hcn, hck⟩
        · refine ⟨_, hnew, ?_⟩
          obtain ⟨arr, el, fr, e1, e2, e3⟩ := hbr
          refine ⟨arr, el, fr, e1, fun j v hv => ?_, fun h => by cases h⟩
          obtain ⟨v', f1, f2⟩ := e2 (off + j) v (hc j v hv)
          exact ⟨v', by rw [← f1]; congr 1; dsimp only; omega, f2.mono hle⟩
        · obtain ⟨L1, h1, h2⟩ := hg.rel c k hck
          exact ⟨L1, by rw [hold c hcn]; exact h1, h2.mono hle⟩
      · rcases hget c k hck with ⟨rfl, rfl⟩ | ⟨hcn, hck2⟩
        · simp [Blk.rw] at hkr
        · rw [hold c hcn] at h1
          rcases hget d k' hdk with ⟨rfl, rfl⟩ | ⟨hdn, hdk2⟩
          · rw [hnew] at h2
            cases h2
            by_cases hcb : c = b
            · subst hcb; rw [hb] at hck2; cases hck2; simp [Blk.rw] at hkr
            · exact hg.sep c b k _ L1 L hck2 hb hcb hkr h1 hL
          · rw [hold d hdn] at h2
            exact hg.sep c d k k' L1 L2 hck2 hdk2 hne hkr h1 h2
      · rcases hget c k hck with ⟨rfl, rfl⟩ | ⟨hcn, hck⟩
        · simp [Blk.rw] at hkr
        · rw [hold c hcn] at h1
          exact hg.prot c k L1 hck hkr h1

/-- A new variable that is only read from now on. -/
theorem OpOk.frz {r : Option Nat} {o : Oper} {tm : List Value} {nx nx' : Nat} {v : Value} {b : Nat} {cs : List Value} {H1 : Hp} (h : OpOk P r o tm H nx v ((b, .cells cs false) :: H1) nx') : OpOk P r o tm H nx v ((b, .cells cs true) :: H1) nx' := by
  refine ⟨h.1, fun φ w K a rc next Q g hf ht hr hk => h.2 φ w K a rc next Q g hf ht hr ?_⟩
  intro v' φ' w' hv he hg hw
  refine hk v' φ' w' hv he ?_ hw
  have hget : ∀ c k, Hp.get ((b, .cells cs true) :: H1) c = some k → (k = .cells cs true ∧ c = b) ∨ (c ≠ b ∧ Hp.get ((b, .cells cs false) :: H1) c = some k) := by
    intro c k hc
    by_cases hcb : b = c
    · subst hcb; simp [Hp.get] at hc; exact .inl ⟨hc.symm, rfl⟩
    · simp [Hp.get, hcb] at hc; exact .inr ⟨fun e => hcb e.symm, by simp [Hp.get, hcb, hc]⟩
  have hb : Hp.get ((b, .cells cs false) :: H1) b = some (.cells cs false) := by simp [Hp.get]
  refine ⟨fun c k hck => ?_, fun c d k k' L1 L2 hck hdk hne hkr h1 h2 => ?_, fun c k L1 hck hkr h1 => ?_, hg.kin⟩
  · rcases hget c k hck with ⟨rfl, rfl⟩ | ⟨_, hck⟩
    · obtain ⟨L, h1, arr, el, fr, e1, e2, e3⟩ := hg.rel c _ hb
      exact ⟨L, h1, arr, el, fr, e1, e2, fun h => by cases h⟩
    · exact hg.rel c k hck
  · rcases hget c k hck with ⟨rfl, rfl⟩ | ⟨_, hck⟩
    · simp [Blk.rw] at hkr
    · rcases hget d k' hdk with ⟨rfl, rfl⟩ | ⟨_, hdk⟩
      · exact hg.sep c d k _ L1 L2 hck hb hne hkr h1 h2
      · exact hg.sep c d k k' L1 L2 hck hdk hne hkr h1 h2
  · rcases hget c k hck with ⟨rfl, rfl⟩ | ⟨_, hck⟩
    · simp [Blk.rw] at hkr
    · exact hg.prot c k L1 hck hkr h1

/-- An optional value as a list of two. -/
def optL : Option Value → List Value
  | none => [.bool false, .nilFunc]
  | some v => [.bool true, v]
theorem optL_inj {a b : Option Value} (h : optL a = optL b) : a = b := by
  cases a <;> cases b <;> simp [optL] at h <;> simp [h]
theorem optL_len (a : Option Value) : (optL a).length = 2 := by cases a <;> rfl

/-- Where an operation's hint is kept: under its temporary, or, for a store, under its address' temporary + 100000. -/
def hkey (o : Oper) : Nat := match o.dst with | some d => d | none => match o.op with | .store _ (.tmp t) _ => t + 100000 | _ => 100000

/-- One operation, with the hint for its temporary (or, for a store, for its address' temporary + 100000). -/
def sOp (P : Program) (hs : Hints) (E : Ev) (tm : List Value) (H : Hp) (nx : Nat) (o : Oper) : Option (Value × Hp × Nat × Eqs) :=
  match hs.find (hkey o) with
  | none => (evalOp P E tm H nx o).map fun x => (x.1, x.2.1, x.2.2, Eqs.none)
  | some (.val v0 v) => (evalOp P E tm H nx o).map fun x => (v, x.2.1, x.2.2, ⟨[(v0, x.1)], [], []⟩)
  | some (.call m) => match o.op with
    | .call { callee := .value cf, args := args, argTypes := _ } => match opv tm cf, opvs tm args.toList with
      | some (.func (.func f) fs cs), some vs => takeMemo m f (fs.toList ++ vs ++ cs.toList) H nx
      | _, _ => none
    | _ => none
  | some (.win t x i b off cs0 cs) => match o.op with
    | .indexAddr t' xo io => match opv tm xo, opv tm io, H.get b with
      | some x', some i', some (.cells cs0' true) => if t == t' then some (.pointer (some ⟨nx, 0, none⟩), (nx, .cells cs true) :: H, nx + 1, ⟨[(x, x'), (i, i'), (.tuple cs0.toArray, .tuple cs0'.toArray)], [], []⟩) else none
      | _, _, _ => none
    | _ => none
  | some (.ix t x i v) => match o.op with
    | .indexAddr t' xo io => match opv tm xo, opv tm io with
      | some x', some i' => if t == t' then some (v, H, nx, ⟨[(x, x'), (i, i')], [], []⟩) else none
      | _, _ => none
    | _ => none
  | some (.ld t p b cs0 ro v) => match o.op with
    | .load t' po => match opv tm po, H.get b with
      | some p', some (.cells cs0' ro') => if t == t' && ro == ro' then some (v, H, nx, ⟨[(p, p'), (.tuple cs0.toArray, .tuple cs0'.toArray)], [], []⟩) else none
      | _, _ => none
    | _ => none
  | some (.st t p x b cs0 cs1) => match o.op with
    | .store t' po xo => match opv tm po, opv tm xo, H.get b with
      | some p', some x', some (.cells cs0' false) => if t == t' then some (undef, H.set b (.cells cs1 false), nx, ⟨[(p, p'), (x, x'), (.tuple cs0.toArray, .tuple cs0'.toArray)], [], []⟩) else none
      | _, _, _ => none
    | _ => none
  | some .frz => match evalOp P E tm H nx o with
    | some (v, (b, .cells cs false) :: H1, nx') => some (v, (b, .cells cs true) :: H1, nx', Eqs.none)
    | _ => none
  | some (.slc t x lo hi mx v) => match o.op with
    | .slice t' xo loo hio mxo => match opv tm xo, opvo tm loo, opvo tm hio, opvo tm mxo with
      | some x', some lo', some hi', some mx' => if t == t' then some (v, H, nx, ⟨[(.tuple (x :: (optL lo ++ optL hi ++ optL mx)).toArray, .tuple (x' :: (optL lo' ++ optL hi' ++ optL mx')).toArray)], [], []⟩) else none
      | _, _, _, _ => none
    | _ => none
  | some (.app ats ty ins V dl len cap new) => match o.op with
    | .call { callee := .builtin .append, args := args, argTypes := ats' } => match opvs tm args.toList, viewEqs H V with
      | some ins', some l => if eqDs ats ats'.toList && ty == o.type && rwO H dl then some (.slice (some ⟨nx, 0, none⟩) len cap, (nx, .cells new false) :: delO H dl, nx + 1, ⟨(.tuple ins.toArray, .tuple ins'.toArray) :: l, [], []⟩) else none
      | _, _ => none
    | _ => none
  | some (.mk t l c len new) => match o.op with
    | .makeSlice t' lo co => match opv tm lo, opv tm co with
      | some l', some c' => if t == t' then some (.slice (some ⟨nx, 0, none⟩) len len, (nx, .cells new false) :: H, nx + 1, ⟨[(l, l'), (c, c')], [], []⟩) else none
      | _, _ => none
    | _ => none
  | some (.calls ms) => match o.op with
    | .call { callee := .value cf, args := args, argTypes := _ } => match opv tm cf, opvs tm args.toList with
      | some (.func (.func f) fs cs), some vs => match findM ms f with
        | some m => takeMemo m f (fs.toList ++ vs ++ cs.toList) H nx
        | none => none
      | _, _ => none
    | _ => none
  | some (.bin op t a b v) => match o.op with
    | .binOp op' t' xo yo _ => match opv tm xo, opv tm yo with
      | some a', some b' => if t == t' && decide (op = op') then some (v, H, nx, ⟨[(a, a'), (b, b')], [], []⟩) else none
      | _, _ => none
    | _ => none
  | some (.any o0 ins H0 nx0 v H' nx') => match opvs tm o.op.operands.toList with
    | some ins' => if nx0 == nx then some (v, H', nx', ⟨[(.tuple ins.toArray, .tuple ins'.toArray)], [(.region 0 #[o0] false, .region 0 #[o] false)], [(H0, H)]⟩) else none
    | none => none

theorem set_same : ∀ {H : Hp} {b : Nat} {k : Blk}, H.get b = some k → H.set b k = H
  | [], b, k, h => by cases h
  | (c, x) :: r, b, k, h => by
    by_cases hc : c = b
    · subst hc; simp [Hp.get] at h; subst h; simp [Hp.set]
    · simp [Hp.get, hc] at h; simp [Hp.set, hc, set_same h]

theorem sOp_ok {hs : Hints} (hk : HintsOk P hs) {E : Ev} (hE : E.Ok P) (hsp : NoSpecial P) {r : Option Nat} {o : Oper} {tm : List Value} {nx : Nat} {v : Value} {H' : Hp} {nx' : Nat} {e : Eqs} (h : sOp P hs E tm H nx o = some (v, H', nx', e)) (he : e.Hold) : OpOk P r o tm H nx v H' nx' := by
  unfold sOp at h
  split at h
  · simp only [Option.map_eq_some_iff, Prod.mk.injEq] at h
    obtain ⟨⟨x1, x2, x3⟩, hx, rfl, rfl, rfl, rfl⟩ := h
    exact evalOp_ok hE hsp hx
  · rename_i v0 v1 hf
    simp only [Option.map_eq_some_iff, Prod.mk.injEq] at h
    obtain ⟨⟨x1, x2, x3⟩, hx, rfl, rfl, rfl, rfl⟩ := h
    have h1 : v0 = v1 := hk.find hf
    have h2 : v0 = x1 := he.1.1
    rw [← h1, h2]
    exact evalOp_ok hE hsp hx
  · rename_i m hf
    split at h
    case h_2 => cases h
    rename_i cf args ats ho
    split at h
    case h_2 => cases h
    rename_i f fs cs vs hcf hvs
    obtain ⟨⟨fn, hfn, hb⟩, hc⟩ := takeMemo_ok (hk.find hf) h he
    exact opOk_call ho hsp hfn hb hcf hvs hc
  · rename_i t x i b off cs0 cs hf
    split at h
    case h_2 => cases h
    rename_i t' xo io ho
    split at h
    case h_2 => cases h
    rename_i x' i' cs0' hx hi hb
    split at h
    case isFalse => cases h
    rename_i ht
    simp only [beq_iff_eq] at ht
    subst ht
    cases h
    obtain ⟨e1, e2, e3, _⟩ := he.1
    dsimp only at e1 e2 e3
    have e3 := tuple_inj e3
    obtain ⟨k1, k2⟩ := hk.find hf
    rw [e1, e2] at k1
    rw [e3] at k2
    refine OpOk.win (opOk_plain ?_) hb k2
    unfold doOp
    simp only [ho, hx, hi, Option.bind_some, k1, un1, Option.map_some]
  · rename_i t x i v0 hf
    split at h
    case h_2 => cases h
    rename_i t' xo io ho
    split at h
    case h_2 => cases h
    rename_i x' i' hx hi
    split at h
    case isFalse => cases h
    rename_i ht
    simp only [beq_iff_eq] at ht
    subst ht
    cases h
    obtain ⟨e1, e2, _⟩ := he.1
    dsimp only at e1 e2
    have k1 : doIndexAddr P t x i = some v := hk.find hf
    rw [e1, e2] at k1
    refine opOk_plain ?_
    unfold doOp
    simp only [ho, hx, hi, Option.bind_some, k1, un1, Option.map_some]
  · rename_i t p b cs0 ro v0 hf
    split at h
    case h_2 => cases h
    rename_i t' po ho
    split at h
    case h_2 => cases h
    rename_i p' cs0' ro' hp hb
    split at h
    case isFalse => cases h
    rename_i ht
    simp only [Bool.and_eq_true, beq_iff_eq] at ht
    obtain ⟨rfl, rfl⟩ := ht
    cases h
    obtain ⟨e1, e2, _⟩ := he.1
    dsimp only at e1 e2
    have e2 := tuple_inj e2
    obtain ⟨k1, q, rfl⟩ := hk.find hf
    rw [e2] at k1
    refine opOk_plain ?_
    unfold doOp
    simp only [ho, hp, Option.bind_some, ← e1, doLoad_at hb k1, un1, Option.map_some]
  · rename_i t p x b cs0 cs1 hf
    split at h
    case h_2 => cases h
    rename_i t' po xo ho
    split at h
    case h_2 => cases h
    rename_i p' x' cs0' hp hx hb
    split at h
    case isFalse => cases h
    rename_i ht
    simp only [beq_iff_eq] at ht
    subst ht
    cases h
    obtain ⟨e1, e2, e3, _⟩ := he.1
    dsimp only at e1 e2 e3
    have e3 := tuple_inj e3
    obtain ⟨k1, q, rfl⟩ := hk.find hf
    rw [e3] at k1
    refine opOk_plain ?_
    unfold doOp
    simp only [ho, hp, hx, Option.bind_some, ← e1, ← e2]
    rcases doStore_at hb k1 with ⟨h1, rfl⟩ | h1
    · rw [h1, set_same hb]; rfl
    · rw [h1]; rfl
  · split at h
    case h_2 => cases h
    rename_i v1 b cs H1 nx1 hx
    cases h
    exact (evalOp_ok hE hsp hx).frz
  · rename_i t x lo hi mx v0 hf
    split at h
    case h_2 => cases h
    rename_i t' xo loo hio mxo ho
    split at h
    case h_2 => cases h
    rename_i x' lo' hi' mx' hx hlo hhi hmx
    split at h
    case isFalse => cases h
    rename_i ht
    simp only [beq_iff_eq] at ht
    subst ht
    cases h
    have e1 := tuple_inj he.1.1
    simp only [List.cons.injEq] at e1
    obtain ⟨e1, e2⟩ := e1
    have e3 := List.append_inj e2 (by simp [optL_len])
    have e4 := List.append_inj e3.1 (by simp [optL_len])
    have k1 : doSlice P t x lo hi mx = some v := hk.find hf
    rw [e1, optL_inj e4.1, optL_inj e4.2, optL_inj e3.2] at k1
    refine opOk_plain ?_
    unfold doOp
    simp only [ho, hx, hlo, hhi, hmx, Option.bind_some, k1, un1, Option.map_some]
  · rename_i ats ty ins V dl len cap new hf
    split at h
    case h_2 => cases h
    rename_i args ats' ho
    split at h
    case h_2 => cases h
    rename_i ins' l hins hl
    split at h
    case isFalse => cases h
    rename_i ht
    simp only [Bool.and_eq_true, beq_iff_eq] at ht
    obtain ⟨⟨h1, rfl⟩, h2⟩ := ht
    have h1 := eqDs_eq h1
    subst h1
    cases h
    have e1 := tuple_inj he.1.1
    subst e1
    have k1 := hk.find hf H nx (fun b cs hb => viewEqs_mem hl he.1.2 hb) h2
    refine opOk_plain ?_
    unfold doOp
    simp only [ho, hins, Option.bind_some, k1]
  · rename_i t l c len new hf
    split at h
    case h_2 => cases h
    rename_i t' lo co ho
    split at h
    case h_2 => cases h
    rename_i l' c' hl hc
    split at h
    case isFalse => cases h
    rename_i ht
    simp only [beq_iff_eq] at ht
    subst ht
    cases h
    obtain ⟨e1, e2, _⟩ := he.1
    dsimp only at e1 e2
    have k1 := hk.find hf H nx
    rw [e1, e2] at k1
    refine opOk_plain ?_
    unfold doOp
    simp only [ho, hl, hc, Option.bind_some, k1]
  · rename_i ms hf
    split at h
    case h_2 => cases h
    rename_i cf args ats ho
    split at h
    case h_2 => cases h
    rename_i f fs cs vs hcf hvs
    split at h
    case h_2 => cases h
    rename_i m hm
    obtain ⟨⟨fn, hfn, hb⟩, hc⟩ := takeMemo_ok (findM_ok (hk.find hf) hm) h he
    exact opOk_call ho hsp hfn hb hcf hvs hc
  · rename_i op t a b v0 hf
    split at h
    case h_2 => cases h
    rename_i op' t' xo yo yt ho
    split at h
    case h_2 => cases h
    rename_i a' b' ha hb
    split at h
    case isFalse => cases h
    rename_i ht
    simp only [Bool.and_eq_true, beq_iff_eq, decide_eq_true_eq] at ht
    obtain ⟨rfl, rfl⟩ := ht
    cases h
    obtain ⟨e1, e2, _⟩ := he.1
    dsimp only at e1 e2
    have k1 : ∀ xo yo, doBin P op t xo yo a b = some v := hk.find hf
    rw [e1, e2] at k1
    refine opOk_plain ?_
    unfold doOp
    simp only [ho, ha, hb, Option.bind_some, k1, un1, Option.map_some]
  · rename_i o0 ins H0 nx0 v0 H0' nx0' hf
    split at h
    case h_2 => cases h
    rename_i ins' hins
    split at h
    case isFalse => cases h
    rename_i hn
    simp only [beq_iff_eq] at hn
    subst hn
    cases h
    obtain ⟨⟨e1, _⟩, ⟨e2, _⟩, e3, _⟩ := he
    have e1 := tuple_inj e1
    have e2 : o0 = o := by simpa using e2
    have e3 : H0 = H := e3
    subst e1; subst e2; subst e3
    exact hk.find hf r tm hins
end Go.En
