/- The engine, part J: regions in their text's order; the statement that ranges over a function; a function's whole call. -/
import Derived.Test.YtecplekkoikmmaaGreatEnI
noncomputable section
namespace Go.En
set_option linter.unusedVariables false
variable {P : Program} {φ : Ren} {H : Hp} {K : Nat → Prop} {w : World}

/-- The list with v at i. -/
def ls (l : List Value) (i : Nat) (v : Value) : List Value := List.rec (motive := fun _ => Nat → List Value) (fun _ => []) (fun x r ih i => Nat.rec (motive := fun _ => List Value) (v :: r) (fun m _ => x :: ih m) i) l i
theorem ls_eq (v : Value) : ∀ (l : List Value) (i : Nat), ls l i v = l.set i v
  | [], _ => by simp [ls]
  | x :: l, 0 => rfl
  | x :: l, i + 1 => by
    show x :: ls l i v = _
    rw [ls_eq v l i]; simp
def putT (tm : List Value) (dst : Option Tmp) (v : Value) : List Value :=
  match dst with
  | some d => ls tm d v
  | none => tm
theorem putT_some (tm : List Value) (d : Tmp) (v : Value) : putT tm (some d) v = tm.set d v := ls_eq v tm d
theorem putT_rel {tm : List Value} {a : Act} (ht : TRel φ tm a.tmps) (dst : Option Tmp) {v v' : Value} (hv : VRel φ v v') : TRel φ (putT tm dst v) (a.put dst v').tmps := by
  cases dst with
  | none => exact ht
  | some d => rw [putT_some]; exact ht.set d hv
theorem put_defers (a : Act) (dst : Option Tmp) (v : Value) : (a.put dst v).defers = a.defers := by cases dst <;> rfl

/-- Whether an operation's guard lets it run. -/
def wantedA (ops : Array Oper) (tm : List Value) (o : Oper) : Option Bool :=
  match o.guard with
  | none => some true
  | some (j, want) => match ((ops[j]?).bind (·.dst)).bind (lg tm ·) with
    | some (.bool b) => some (b == want)
    | some (.tuple _) => some false
    | _ => none
theorem wantedA_ok {ops : Array Oper} {tm : List Value} {a : Act} {o : Oper} {b : Bool} (ht : TRel φ tm a.tmps) (h : wantedA ops tm o = some b) : Region.wanted o (yielded ops a.tmps) = b := by
  unfold wantedA at h
  unfold Region.wanted
  cases hg : o.guard with
  | none => simp [hg] at h; subst h; rfl
  | some p =>
    obtain ⟨j, want⟩ := p
    simp only [hg] at h ⊢
    unfold yielded
    cases hd : (ops[j]?).bind (·.dst) with
    | none => simp [hd] at h
    | some d =>
      simp only [hd, Option.bind_some, lg_eq] at h ⊢
      cases hv : tm[d]? with
      | none => simp [hv] at h
      | some v =>
        rw [hv] at h
        rcases ht.2 d v hv with rfl | ⟨v', h1, h2⟩
        · simp [junk] at h
        · rw [h1]
          cases v with
          | bool c => cases h2; simp at h; subst h; cases c <;> cases want <;> rfl
          | tuple xs =>
            obtain ⟨ys, rfl, _⟩ := h2.tuple_inv
            simp at h; subst h; cases want <;> rfl
          | _ => simp at h

def OpsOk (P : Program) (r : Option Nat) (ops : Array Oper) (l : List Nat) (tm : List Value) (H : Hp) (nx : Nat) (tm' : List Value) (H' : Hp) (nx' : Nat) : Prop :=
  nx ≤ nx' ∧ ∀ (φ : Ren) (w : World) (K : Nat → Prop) (a : Act) (rc : Option Nat) (Q : Exit → Act → World → Prop), Good φ H K w → Fresh φ nx nx' → TRel φ tm a.tmps → RRel φ r rc →
    (∀ φ' a' w', Ext φ φ' nx nx' → Good φ' H' K w' → TRel φ' tm' a'.tmps → a'.defers = a.defers → Went K w w' → Q .normal a' w') → wpOpsIn (fw rc) 0 P ops Q l a w

theorem opsOk_nil {r : Option Nat} {ops : Array Oper} {tm : List Value} {nx : Nat} : OpsOk P r ops [] tm H nx tm H nx :=
  ⟨Nat.le_refl _, fun φ w K a rc Q g hf ht hr hk => hk φ a w (Ext.refl _ _ _) g ht rfl (Went.refl _ _)⟩
theorem opsOk_cons {r : Option Nat} {ops : Array Oper} {i : Nat} {l : List Nat} {o : Oper} {tm tm' : List Value} {H1 H' : Hp} {nx nx1 nx' : Nat} {v : Value} (hi : ops[i]? = some o) (hw : wantedA ops tm o = some true)
    (h1 : OpOk P r o tm H nx v H1 nx1) (h2 : OpsOk P r ops l (putT tm o.dst v) H1 nx1 tm' H' nx') : OpsOk P r ops (i :: l) tm H nx tm' H' nx' := by
  refine ⟨Nat.le_trans h1.1 h2.1, fun φ w K a rc Q g hf ht hr hk => ?_⟩
  simp only [wpOpsIn, hi]
  rw [if_pos (wantedA_ok ht hw)]
  refine h1.2 φ w K a rc _ Q g (hf.left h2.1) ht hr fun v' φ1 w1 x1 x2 x3 x4 => ?_
  refine h2.2 φ1 w1 K (a.put o.dst v') rc Q x3 (hf.right x2 h1.1) (putT_rel (ht.mono x2.1) o.dst x1) (hr.mono x2.1) fun φ2 a2 w2 y1 y2 y3 y4 y5 => ?_
  exact hk φ2 a2 w2 (x2.trans y1 h1.1 h2.1) y2 y3 (by rw [y4, put_defers]) (x4.trans y5)
theorem opsOk_skip {r : Option Nat} {ops : Array Oper} {i : Nat} {l : List Nat} {o : Oper} {tm tm' : List Value} {H' : Hp} {nx nx' : Nat} (hi : ops[i]? = some o) (hw : wantedA ops tm o = some false)
    (h2 : OpsOk P r ops l (putT tm o.dst undef) H nx tm' H' nx') : OpsOk P r ops (i :: l) tm H nx tm' H' nx' := by
  refine ⟨h2.1, fun φ w K a rc Q g hf ht hr hk => ?_⟩
  simp only [wpOpsIn, hi]
  rw [if_neg (by rw [wantedA_ok ht hw]; simp)]
  refine ⟨about_fw, ?_⟩
  have hu : VRel φ undef undef := .tuple' (by simp [LRel])
  refine h2.2 φ w K (a.put o.dst undef) rc Q g hf (putT_rel ht o.dst hu) hr fun φ2 a2 w2 y1 y2 y3 y4 y5 => ?_
  exact hk φ2 a2 w2 y1 y2 y3 (by rw [y4, put_defers]) y5

theorem codeOk_region {r : Option Nat} {id : Nat} {ops : Array Oper} {tm tm' : List Value} {ds : List Nat} {H' : Hp} {nx nx' : Nat} (h : OpsOk P r ops (List.range ops.size) tm H nx tm' H' nx') :
    CodeOk P r (.region id ops false) tm ds H nx ⟨.normal, tm', ds, H', nx'⟩ := by
  refine ⟨h.1, fun φ w K a rc g hf ht hd hr => wpIn_region ?_⟩
  exact h.2 φ w K a rc _ g hf ht hr fun φ1 a1 w1 x1 x2 x3 x4 x5 => ⟨rfl, φ1, x1, x2, x3, by rw [x4]; exact hd.mono x1.1, x5⟩

/-- The mark for the deferred calls and the loop's record are laid; the function is called; the pending jump is taken up. -/
theorem good_obj (g : Good φ H K w) {n : Nat} (hn : φ n = none) (o : Obj) {k : Blk} (hk : BRel (φ.put n ⟨w.heap.size, 0, 0⟩) (w.alloc o) ⟨w.heap.size, 0, 0⟩ k) :
    Good (φ.put n ⟨w.heap.size, 0, 0⟩) ((n, k) :: H) K (w.alloc o) := g.new hn o rfl hk

theorem heap_alloc_last (w : World) (o : Obj) : (w.alloc o).heap[w.heap.size]? = some o := by
  show (w.heap.push o)[w.heap.size]? = _
  simp

def newLoop (tm : List Value) (ps : Array Tmp) (assign body : Code) (d : Nat) : Loop :=
  { state := .ready, pending := none, fn := 0, tmps := tm.toArray, params := ps, assign := assign, body := body, defers := d }

/-- What follows the call of a range-over-function statement. -/
def afterLoop (L : Loop) (tm : List Value) (ds : List Nat) (H : Hp) (nx : Nat) : Option Res :=
  match L.state, L.pending with
  | .busy, _ => none
  | _, none => some ⟨.normal, tm, ds, H, nx⟩
  | _, some .ret => some ⟨.ret, tm, ds, H, nx⟩
  | _, some (.exit i) => some ⟨.exit i, tm, ds, H, nx⟩
  | _, some (.goto i) => some ⟨.goto i, tm, ds, H, nx⟩
  | _, _ => none

theorem endLoop_ok {r : Option Nat} {tm : List Value} {ds : List Nat} {nx : Nat} {l : Nat} {L : Loop} {Lc : Loc} {R : Res} (g : Good φ H K w) (hl : H.get l = some (.loop L)) (hL : φ l = some Lc) (ha : afterLoop L tm ds (H.del l) nx = some R)
    {a : Act} {rc : Option Nat} (ht : TRel φ tm a.tmps) (hd : DRel φ ds a.defers) (hr : RRel φ r rc) :
    ∃ jump w4, (Instr.endLoop Lc.blk).run P w = .ok jump w4 ∧ (match jump with
       | none => Post φ K w nx R .normal a w4
       | some c => c.wpIn (fw rc) 0 P (Post φ K w nx R) a w4) := by
  obtain ⟨l', k1, k2, k3, k4, k5, k6, k7, k8⟩ := loop_set g hl hL
  obtain ⟨q1, q2⟩ := k8 .exhausted L.pending
  have hsame : ({ l' with state := .exhausted, pending := L.pending } : Loop) = { l' with state := .exhausted } := by rw [← k3]
  rw [hsame] at q1 q2
  have hgl : (Instr.getLoop Lc.blk).run P w = .ok l' w := by simp [Instr.getLoop, getObj, Sem.run, k1]
  have hnb : (l'.state == .busy) = false := by
    rw [k2]
    unfold afterLoop at ha
    cases hs : L.state <;> simp [hs] at ha ⊢
  have hg : Good φ (H.del l) K { w with heap := w.heap.setIfInBounds Lc.blk (.loop { l' with state := .exhausted }) } := q1.sub fun b k hb => by
    rw [Hp.get_del] at hb
    rw [Hp.get_set]
    split at hb
    · cases hb
    · rename_i hne; simp only [hne, if_false]; exact hb
  obtain ⟨w4, hw4⟩ : ∃ w4 : World, w4 = { w with heap := w.heap.setIfInBounds Lc.blk (.loop { l' with state := .exhausted }) } := ⟨_, rfl⟩
  rw [← hw4] at hg q2
  refine ⟨l'.pending, w4, by rw [hw4]; simp only [Instr.endLoop, Sem.run_bind, hgl, Result.andThen_ok, hnb, Bool.false_eq_true, if_false, Sem.run_pure, setObj, Sem.run, k1], ?_⟩
  rw [k3]
  unfold afterLoop at ha
  cases hp : L.pending with
  | none =>
    have : R = ⟨.normal, tm, ds, H.del l, nx⟩ := by cases hs : L.state <;> simp [hs, hp] at ha <;> exact ha.symm
    subst this
    exact ⟨rfl, φ, Ext.refl _ _ _, hg, ht, hd, q2⟩
  | some c =>
    cases c with
    | ret =>
      have : R = ⟨.ret, tm, ds, H.del l, nx⟩ := by cases hs : L.state <;> simp [hs, hp] at ha <;> exact ha.symm
      subst this
      exact wpIn_ret ⟨rfl, φ, Ext.refl _ _ _, hg, ht, hd, q2⟩
    | exit i =>
      have : R = ⟨.exit i, tm, ds, H.del l, nx⟩ := by cases hs : L.state <;> simp [hs, hp] at ha <;> exact ha.symm
      subst this
      exact wpIn_exit ⟨rfl, φ, Ext.refl _ _ _, hg, ht, hd, q2⟩
    | goto i =>
      have : R = ⟨.goto i, tm, ds, H.del l, nx⟩ := by cases hs : L.state <;> simp [hs, hp] at ha <;> exact ha.symm
      subst this
      exact wpIn_goto ⟨rfl, φ, Ext.refl _ _ _, hg, ht, hd, q2⟩
    | _ => cases hs : L.state <;> simp [hs, hp] at ha

theorem afterLoop_nx {L : Loop} {tm : List Value} {ds : List Nat} {nx : Nat} {R : Res} (h : afterLoop L tm ds H nx = some R) : R.nx = nx := by
  unfold afterLoop at h
  (repeat' split at h) <;> first | (cases h; done) | (cases h; rfl)

/-- In a frame of its own: no round. -/
theorem codeOk_rangeFunc {g : Operand} {ps : Array Tmp} {assign body : Code} {tm : List Value} {ds : List Nat} {nx : Nat} {f : FuncId} {fn : Func} {fs cs : Array Value} {v : Value} {H1 : Hp} {nx1 : Nat} {L : Loop} {R : Res}
    (hs : NoSpecial P) (hfn : P.funcs[f]? = some fn) (hb : fn.body.isSome = true) (hgv : opv tm g = some (.func (.func f) fs cs))
    (hc : CallOk P f (fs.toList ++ [.func (.yield (nx + 1)) #[] #[]] ++ cs.toList) ((nx + 1, .loop (newLoop tm ps assign body nx)) :: (nx, .defd) :: H) (nx + 2) v H1 nx1)
    (hl : H1.get (nx + 1) = some (.loop L)) (ha : afterLoop L tm (nx :: ds) (H1.del (nx + 1)) nx1 = some R) :
    CodeOk P none (.rangeFunc g ps assign body) tm ds H nx R := by
  have hRnx := afterLoop_nx ha
  have hle := hc.1
  refine ⟨by omega, fun φ w K a rc gd hf ht hd hr => ?_⟩
  have hrc : rc = none := by cases rc <;> simp [RRel] at hr ⊢
  subst hrc
  refine wpIn_rangeFunc fun fnid _ => ?_
  have hn0 : φ nx = none := hf nx (by omega) (by omega)
  have hn1 : φ (nx + 1) = none := hf (nx + 1) (by omega) (by omega)
  have g1 := good_obj gd hn0 (.deferred (some [])) (k := .defd) (heap_alloc_last w _)
  have hp1 : (φ.put nx ⟨w.heap.size, 0, 0⟩) (nx + 1) = none := by rw [Ren.put_other _ _ (by omega)]; exact hn1
  have hgv' := opv_rel ht hgv
  obtain ⟨fn', ys, us, hev, hfr, e1, e2⟩ := hgv'.func_inv
  cases hfr
  have le1 := Ren.put_le hn0 ⟨w.heap.size, 0, 0⟩
  have le2 := Ren.put_le hp1 ⟨(w.alloc (.deferred (some []))).heap.size, 0, 0⟩
  have hlp : Loop.mk .ready none fnid a.tmps ps assign body w.heap.size = { state := .ready, pending := none, fn := fnid, tmps := a.tmps, params := ps, assign := assign, body := body, defers := w.heap.size } := rfl
  have g2 := good_obj g1 hp1 (.loop { state := .ready, pending := none, fn := fnid, tmps := a.tmps, params := ps, assign := assign, body := body, defers := w.heap.size }) (k := .loop (newLoop tm ps assign body nx))
    ⟨_, heap_alloc_last _ _, rfl, rfl, by simpa [newLoop] using (ht.mono le1).mono le2, rfl, rfl, rfl, ⟨w.heap.size, 0, 0⟩, le2 _ _ (Ren.put_same _ _ _), rfl⟩
  have ext1 : Ext φ ((φ.put nx ⟨w.heap.size, 0, 0⟩).put (nx + 1) ⟨(w.alloc (.deferred (some []))).heap.size, 0, 0⟩) nx (nx + 2) := (Ext.put hn0 _).trans (Ext.put hp1 _) (by omega) (by omega)
  have w1 : Went K w ((w.alloc (.deferred (some []))).alloc (.loop { state := .ready, pending := none, fn := fnid, tmps := a.tmps, params := ps, assign := assign, body := body, defers := w.heap.size })) := (Went.alloc gd _).trans (Went.alloc g1 _)
  obtain ⟨w2, hw2⟩ : ∃ w2 : World, w2 = (w.alloc (.deferred (some []))).alloc (.loop { state := .ready, pending := none, fn := fnid, tmps := a.tmps, params := ps, assign := assign, body := body, defers := w.heap.size }) := ⟨_, rfl⟩
  rw [← hw2] at g2 w1
  have run1 : (Instr.enterLoop fnid a.tmps ps assign body none).run P w = .ok (w.heap.size + 1, [{ target := .collected w.heap.size, args := #[] }]) w2 := by
    rw [hw2]; simp [Instr.enterLoop]
  have run2 : (resolve a.eval (rangeCall g (w.heap.size + 1)) 0).run P w2 = .ok { target := .fn (.func f) us, args := ys ++ #[.func (.yield (w.heap.size + 1)) #[] #[]] } w2 := by
    show (Deferred.ofValue (a.eval g) _).run P w2 = _
    have em : (rangeCall g (w.heap.size + 1)).args.map a.eval = #[.func (.yield (w.heap.size + 1)) #[] #[]] := by simp [Act.eval]
    rw [hev, em]; rfl
  have run3 : (invoke (.fn (.func f) us) (ys ++ #[.func (.yield (w.heap.size + 1)) #[] #[]])).run P w2 = .ok (.enter f (ys ++ #[.func (.yield (w.heap.size + 1)) #[] #[]] ++ us)) w2 := by
    simp only [invoke, run_callFunc hs hfn hb]
  refine ⟨w.heap.size + 1, [{ target := .collected w.heap.size, args := #[] }], w2, _, w2, f, _, w2, run1, run2, fun _ _ => trivial, run3, (fun h0 => by simp [fw, Fence.wide] at h0), ?_⟩
  · have hy : LRel ((φ.put nx ⟨w.heap.size, 0, 0⟩).put (nx + 1) ⟨(w.alloc (.deferred (some []))).heap.size, 0, 0⟩) [Value.func (.yield (nx + 1)) #[] #[]] [Value.func (.yield (w.heap.size + 1)) #[] #[]] := by
      refine ⟨.func' ?_ (by simp [LRel]) (by simp [LRel]), trivial⟩
      have := FnRel.yield (φ := (φ.put nx ⟨w.heap.size, 0, 0⟩).put (nx + 1) ⟨(w.alloc (.deferred (some []))).heap.size, 0, 0⟩) (nx + 1) _ (Ren.put_same _ _ _)
      simpa using this
    have hcall := hc.2 _ _ K (ys.toList ++ [Value.func (.yield (w.heap.size + 1)) #[] #[]] ++ us.toList) g2 (fun b h1 h2 => by rw [ext1.2 b (.inr h1)]; exact hf b (by omega) (by omega))
      ((((e1.mono le1).mono le2).append hy).append ((e2.mono le1).mono le2))
    have ea : (ys.toList ++ [Value.func (.yield (w.heap.size + 1)) #[] #[]] ++ us.toList).toArray = ys ++ #[Value.func (.yield (w.heap.size + 1)) #[] #[]] ++ us := by apply Array.ext'; simp
    rw [ea] at hcall
    refine (callsIn_fw hcall).mono ?_
    rintro e w3 ⟨v', φ3, rfl, x1, x2, x3, x4⟩
    have hLl := x2.1 _ _ (Ren.put_same (φ.put nx ⟨w.heap.size, 0, 0⟩) (nx + 1) ⟨(w.alloc (.deferred (some []))).heap.size, 0, 0⟩)
    have hLd := x2.1 _ _ (le2 _ _ (Ren.put_same φ nx ⟨w.heap.size, 0, 0⟩))
    have le3 : φ.le φ3 := Ren.le_trans (Ren.le_trans le1 le2) x2.1
    obtain ⟨jump, w4, y1, y2⟩ := endLoop_ok (P := P) (r := none) (rc := none) (a := { a with defers := [{ target := .collected w.heap.size, args := #[] }] ++ a.defers }) x3 hl hLl ha (ht.mono le3) ⟨⟨_, hLd, rfl⟩, hd.mono le3⟩ trivial
    simp only [World.size_alloc] at y1
    refine ⟨jump, w4, y1, ?_⟩
    have fin : ∀ e a' w', Post φ3 K w3 nx1 R e a' w' → Post φ K w nx R e a' w' := fun e a' w' hp => Post.after ((ext1.trans x2 (by omega) hle)) (w1.trans x4) (by omega) (by omega) hp
    cases jump with
    | none => exact fin _ _ _ y2
    | some c => exact wpIn_mono y2 fin

/-- In a round of another loop. -/
theorem codeOk_rangeFunc_in {l0 : Nat} {g : Operand} {ps : Array Tmp} {assign body : Code} {tm : List Value} {ds : List Nat} {nx : Nat} {f : FuncId} {fn : Func} {fs cs : Array Value} {v : Value} {H1 : Hp} {nx1 : Nat} {L0 L : Loop} {R : Res}
    (hs : NoSpecial P) (hfn : P.funcs[f]? = some fn) (hb : fn.body.isSome = true) (hgv : opv tm g = some (.func (.func f) fs cs)) (hl0 : H.get l0 = some (.loop L0))
    (hc : CallOk P f (fs.toList ++ [.func (.yield nx) #[] #[]] ++ cs.toList) ((nx, .loop (newLoop tm ps assign body L0.defers)) :: H) (nx + 1) v H1 nx1)
    (hl : H1.get nx = some (.loop L)) (ha : afterLoop L tm ds (H1.del nx) nx1 = some R) :
    CodeOk P (some l0) (.rangeFunc g ps assign body) tm ds H nx R := by
  have hRnx := afterLoop_nx ha
  have hle := hc.1
  refine ⟨by omega, fun φ w K a rc gd hf ht hd hr => ?_⟩
  cases rc with
  | none => exact hr.elim
  | some c0 =>
  obtain ⟨Lc0, hLc0, hbc⟩ := hr
  refine wpIn_rangeFunc fun fnid _ => ?_
  have hn0 : φ nx = none := hf nx (by omega) (by omega)
  obtain ⟨l0', q1, q2, q3, q4, q5, q6, q7, D, q8, q9⟩ := gd.at hl0 hLc0
  have hgv' := opv_rel ht hgv
  obtain ⟨fn', ys, us, hev, hfr, e1, e2⟩ := hgv'.func_inv
  cases hfr
  have le1 := Ren.put_le hn0 ⟨w.heap.size, 0, 0⟩
  have g2 := good_obj gd hn0 (.loop { state := .ready, pending := none, fn := fnid, tmps := a.tmps, params := ps, assign := assign, body := body, defers := l0'.defers }) (k := .loop (newLoop tm ps assign body L0.defers))
    ⟨_, heap_alloc_last _ _, rfl, rfl, by simpa [newLoop] using ht.mono le1, rfl, rfl, rfl, D, le1 _ _ q8, q9⟩
  have ext1 := Ext.put hn0 ⟨w.heap.size, 0, 0⟩
  have w1 := Went.alloc gd (.loop { state := .ready, pending := none, fn := fnid, tmps := a.tmps, params := ps, assign := assign, body := body, defers := l0'.defers })
  obtain ⟨w2, hw2⟩ : ∃ w2 : World, w2 = w.alloc (.loop { state := .ready, pending := none, fn := fnid, tmps := a.tmps, params := ps, assign := assign, body := body, defers := l0'.defers }) := ⟨_, rfl⟩
  rw [← hw2] at g2 w1
  have run1 : (Instr.enterLoop fnid a.tmps ps assign body (some c0)).run P w = .ok (w.heap.size, []) w2 := by
    rw [hw2, ← hbc]
    have hgl : (Instr.getLoop Lc0.blk).run P w = .ok l0' w := by simp [Instr.getLoop, getObj, Sem.run, q1]
    simp [Instr.enterLoop, hgl]
  have run2 : (resolve a.eval (rangeCall g w.heap.size) 0).run P w2 = .ok { target := .fn (.func f) us, args := ys ++ #[.func (.yield w.heap.size) #[] #[]] } w2 := by
    show (Deferred.ofValue (a.eval g) _).run P w2 = _
    have em : (rangeCall g w.heap.size).args.map a.eval = #[.func (.yield w.heap.size) #[] #[]] := by simp [Act.eval]
    rw [hev, em]; rfl
  have run3 : (invoke (.fn (.func f) us) (ys ++ #[.func (.yield w.heap.size) #[] #[]])).run P w2 = .ok (.enter f (ys ++ #[.func (.yield w.heap.size) #[] #[]] ++ us)) w2 := by
    simp only [invoke, run_callFunc hs hfn hb]
  refine ⟨w.heap.size, [], w2, _, w2, f, _, w2, run1, run2, fun _ _ => trivial, run3, (fun h0 => by simp [fw, Fence.wide] at h0), ?_⟩
  have hy : LRel (φ.put nx ⟨w.heap.size, 0, 0⟩) [Value.func (.yield nx) #[] #[]] [Value.func (.yield w.heap.size) #[] #[]] :=
    ⟨.func' (FnRel.yield (φ := φ.put nx ⟨w.heap.size, 0, 0⟩) nx _ (Ren.put_same _ _ _)) (by simp [LRel]) (by simp [LRel]), trivial⟩
  have hcall := hc.2 _ _ K (ys.toList ++ [Value.func (.yield w.heap.size) #[] #[]] ++ us.toList) g2 (fun b h1 h2 => by rw [ext1.2 b (.inr h1)]; exact hf b (by omega) (by omega))
    (((e1.mono le1).append hy).append (e2.mono le1))
  have ea : (ys.toList ++ [Value.func (.yield w.heap.size) #[] #[]] ++ us.toList).toArray = ys ++ #[Value.func (.yield w.heap.size) #[] #[]] ++ us := by apply Array.ext'; simp
  rw [ea] at hcall
  refine (callsIn_fw hcall).mono ?_
  rintro e w3 ⟨v', φ3, rfl, x1, x2, x3, x4⟩
  have hLl := x2.1 _ _ (Ren.put_same φ nx ⟨w.heap.size, 0, 0⟩)
  have le3 : φ.le φ3 := Ren.le_trans le1 x2.1
  obtain ⟨jump, w4, y1, y2⟩ := endLoop_ok (P := P) (r := some l0) (rc := some c0) (a := { a with defers := [] ++ a.defers }) x3 hl hLl ha (ht.mono le3) (hd.mono le3) ⟨Lc0, le3 _ _ hLc0, hbc⟩
  refine ⟨jump, w4, y1, ?_⟩
  have fin : ∀ e a' w', Post φ3 K w3 nx1 R e a' w' → Post φ K w nx R e a' w' := fun e a' w' hp => Post.after ((ext1.trans x2 (by omega) hle)) (w1.trans x4) (by omega) (by omega) hp
  cases jump with
  | none => exact fin _ _ _ y2
  | some c => exact wpIn_mono y2 fin

/-- The results of a function, at its end. -/
def resA (P : Program) (H : Hp) (tm : List Value) : List ResultVar → Option (List Value)
  | [] => some []
  | .tmp t :: rs => match opv tm (.tmp t), resA P H tm rs with
    | some v, some vs => some (v :: vs)
    | _, _ => none
  | .cell a t :: rs => match (opv tm (.tmp a)).bind (doLoad P H t), resA P H tm rs with
    | some v, some vs => some (v :: vs)
    | _, _ => none
def retV : List Value → Value
  | [v] => v
  | vs => .tuple vs.toArray

theorem asAddr_of_load {H : Hp} {t : TypeId} {u u' v : Value} (h : doLoad P H t u = some v) (hr : VRel φ u u') (w : World) : ∃ a, (asAddr u').run P w = .ok a w ∧ Instr.sureAddr u' = pure a := by
  unfold doLoad at h
  split at h
  · cases hr; exact ⟨_, rfl, rfl⟩
  · cases h

theorem resA_ok (g : Good φ H K w) {tm : List Value} {a : Act} (ht : TRel φ tm a.tmps) : ∀ {rs : List ResultVar} {vs : List Value}, resA P H tm rs = some vs →
    ∃ us, (rs.mapM (fun | .tmp t => pure (a.tmps.getD t undef) | .cell b t => do loadVar t (← asAddr (a.tmps.getD b undef)) : ResultVar → Sem Value)).run P w = .ok us w ∧ LRel φ vs us
  | [], vs, h => by simp [resA] at h; subst h; exact ⟨[], by simp, trivial⟩
  | .tmp t :: rs, vs, h => by
    simp only [resA] at h
    split at h
    · rename_i v us h1 h2
      cases h
      obtain ⟨us', h3, h4⟩ := resA_ok g ht h2
      have hv := opv_rel ht h1
      refine ⟨a.eval (.tmp t) :: us', ?_, hv, h4⟩
      rw [List.mapM_cons]
      simp only [Sem.run_bind, Sem.run_pure, Result.andThen_ok, h3]
      rfl
    · cases h
  | .cell b t :: rs, vs, h => by
    simp only [resA] at h
    split at h
    · rename_i v us h1 h2
      cases h
      simp only [Option.bind_eq_some_iff] at h1
      obtain ⟨u, hu, h1⟩ := h1
      obtain ⟨us', h3, h4⟩ := resA_ok g ht h2
      have hv := opv_rel ht hu
      obtain ⟨v', h5, h6⟩ := doLoad_ok g h1 hv
      obtain ⟨ad, h7, h8⟩ := asAddr_of_load h1 hv w
      refine ⟨v' :: us', ?_, h6, h4⟩
      have h9 : (loadVar t ad).run P w = .ok v' w := by
        have := h5
        simp only [Instr.loadAt, h8] at this
        simpa using this
      have h10 : (asAddr (a.tmps.getD b undef)).run P w = .ok ad w := h7
      rw [List.mapM_cons]
      simp only [Sem.run_bind, Sem.run_pure, Result.andThen_ok, h3, h10, h9]
    · cases h

/-- The blocks for deferred calls are shut at the function's end. -/
def killDs : List Nat → Hp → Option Hp
  | [], H => some H
  | d :: ds, H => match H.get d with
    | some .defd => killDs ds (H.del d)
    | _ => none

theorem good_kill (g : Good φ H K w) {d : Nat} {k : Blk} {L : Loc} (hd : H.get d = some k) (hrw : k.rw = true) (hL : φ d = some L) (o : Obj) :
    Good φ (H.del d) K (w.putObj L.blk o) ∧ Went K w (w.putObj L.blk o) := by
  have hoth : ∀ c, c ≠ L.blk → (w.putObj L.blk o).heap[c]? = w.heap[c]? := fun c hc => by
    show (w.heap.setIfInBounds L.blk o)[c]? = _
    rw [Array.getElem?_setIfInBounds, if_neg (fun e => hc e.symm)]
  have hsz : (w.putObj L.blk o).heap.size = w.heap.size := by show (w.heap.setIfInBounds L.blk o).size = _; simp
  refine ⟨⟨fun b x hb => ?_, fun b c x y M N hb hc => ?_, fun b x M hb => ?_, fun c hc => by rw [hsz]; exact g.kin c hc⟩, ⟨rfl, rfl, rfl, Nat.le_of_eq hsz.symm, fun c hc => hoth c (fun e => g.prot d k L hd hrw hL (e ▸ hc))⟩⟩
  · rw [Hp.get_del] at hb
    split at hb
    · cases hb
    · rename_i hne
      obtain ⟨M, hM, hr⟩ := g.rel b x hb
      exact ⟨M, hM, hr.congr (hoth _ (fun e => g.sep d b k x L M hd hb (fun e => hne e.symm) hrw hL hM e.symm))⟩
  · rw [Hp.get_del] at hb hc
    split at hb
    · cases hb
    · split at hc
      · cases hc
      · exact g.sep b c x y M N hb hc
  · rw [Hp.get_del] at hb
    split at hb
    · cases hb
    · exact g.prot b x M hb

theorem leaves_ok {fn : Func} {tmps : Array Value} {Rr : Ending → World → Prop} : ∀ {ds : List Nat} {xs : List Deferred} {H H' : Hp} {w : World}, DRel φ ds xs → Good φ H K w → killDs ds H = some H' →
    (∀ w', Good φ H' K w' → Went K w w' → ∃ v, (results fn tmps).run P w' = .ok v w' ∧ Rr (.returned v) w') → LeavesInM (fw none) 0 P fn tmps Rr xs .returning w
  | [], [], H, H', w, _, g, hk, h => by
    simp [killDs] at hk; subst hk
    exact h w g (Went.refl _ _)
  | d :: ds, x :: xs, H, H', w, hd, g, hk, h => by
    obtain ⟨⟨L, hL, rfl⟩, hd⟩ := hd
    simp only [killDs] at hk
    split at hk
    · rename_i hb
      have hbr : w.heap[L.blk]? = some (.deferred (some [])) := g.at hb hL
      obtain ⟨g', hw'⟩ := good_kill g hb rfl hL (.deferred none)
      refine ⟨by simp, .inl ⟨L.blk, _, rfl, run_takeDeferred hbr, ?_⟩⟩
      exact leaves_ok hd g' hk fun w' g2 h2 => h w' g2 (hw'.trans h2)
    · cases hk
  | [], _ :: _, _, _, _, h, _, _, _ => h.elim
  | _ :: _, [], _, _, _, h, _, _, _ => h.elim

theorem callOk_of {f : FuncId} {fn : Func} {c : Code} {args : List Value} {nx : Nat} {R : Res} {H1 H2 : Hp} {vs : List Value} (hfn : P.funcs[f]? = some fn) (hb : fn.body = some c)
    (h : CodeOk P none c (args ++ List.replicate (fn.ntmps - args.length) undef) [] H nx R) (he : R.e = .normal ∨ R.e = .ret) (hk : killDs R.ds R.H = some H1) (hr : resA P H1 R.tm fn.results.toList = some vs)
    (hs : ∀ b k, H2.get b = some k → H1.get b = some k) : CallOk P f args H nx (retV vs) H2 R.nx := by
  refine ⟨h.1, fun φ w K us g hf hl => ?_⟩
  have hcin : CallsIn (fw none) 0 P f us.toArray w fun e w' => ∃ v' φ', e = .returned v' ∧ VRel φ' (retV vs) v' ∧ Ext φ φ' nx R.nx ∧ Good φ' H2 K w' ∧ Went K w w' := by
    refine callsIn_of_wp_marks hfn hb trivial ?_
    have hlen := hl.length
    have ht : TRel φ (args ++ List.replicate (fn.ntmps - args.length) undef) (us.toArray ++ Array.replicate (fn.ntmps - us.toArray.size) undef) := by
      have hu : VRel φ undef undef := .tuple' (by simp [LRel])
      have hrep : ∀ n, LRel φ (List.replicate n undef) (List.replicate n undef) := by
        intro n; induction n with
        | zero => trivial
        | succ n ih => exact ⟨hu, ih⟩
      have hall := hl.append (hrep (fn.ntmps - args.length))
      refine ⟨by simp [hlen], fun i v hv => .inr ?_⟩
      obtain ⟨v', h1, h2⟩ := hall.get hv
      refine ⟨v', ?_, h2⟩
      rw [← h1, ← Array.getElem?_toList]
      simp [hlen]
    refine wpIn_mono (h.2 φ w K { tmps := us.toArray ++ Array.replicate (fn.ntmps - us.toArray.size) undef, defers := [] } none g hf ht trivial trivial) ?_
    rintro e a1 w1 ⟨rfl, φ1, x1, x2, x3, x4, x5⟩
    have key : LeavesInM (fw none) 0 P fn a1.tmps (fun e w' => ∃ v' φ', e = .returned v' ∧ VRel φ' (retV vs) v' ∧ Ext φ φ' nx R.nx ∧ Good φ' H2 K w' ∧ Went K w w') a1.defers .returning w1 := by
      refine leaves_ok x4 x2 hk fun w' g' hw' => ?_
      obtain ⟨us', h1, h2⟩ := resA_ok (P := P) g' x3 hr
      have h1' : (fn.results.mapM (fun | .tmp t => pure (a1.tmps.getD t undef) | .cell b t => do loadVar t (← asAddr (a1.tmps.getD b undef)) : ResultVar → Sem Value)).run P w' = .ok us'.toArray w' := by
        rw [← Array.toArray_toList (xs := fn.results), List.mapM_toArray]
        simp only [Sem.run_map, h1, Result.andThen_ok]
      have hlen2 := h2.length
      refine ⟨retV us', ?_, retV us', φ1, rfl, ?_, x1, g'.sub hs, x5.trans hw'⟩
      · unfold results
        simp only [Sem.run_bind]
        erw [h1']
        simp only [Result.andThen_ok, Sem.run_pure]
        congr 1
        match us' with
        | [] => rfl
        | [v] => rfl
        | _ :: _ :: _ => simp [retV]
      · match vs, us', h2 with
        | [], [], _ => exact .tuple' (by simp [LRel])
        | [v], [v'], h2 => exact h2.1
        | _ :: _ :: _, _ :: _ :: _, h2 => exact .tuple' (by simpa [retV] using h2)
    rcases he with he | he <;> (rw [he]; exact key)
  exact callsIn_wide.1 hcin
end Go.En
