/- The engine, part G: one operation that is no call of a Go function. -/
import Derived.Test.YtecplekkoikmmaaGreatEnFM
noncomputable section
namespace Go.En
set_option linter.unusedVariables false
variable {P : Program} {φ : Ren} {H : Hp} {K : Nat → Prop} {w : World}

def opvs (tm : List Value) : List Operand → Option (List Value)
  | [] => some []
  | x :: xs => match opv tm x, opvs tm xs with
    | some v, some vs => some (v :: vs)
    | _, _ => none
def partsv (tm : List Value) : List (Nat × Operand) → Option (List (Nat × Value))
  | [] => some []
  | x :: xs => match opv tm x.2, partsv tm xs with
    | some v, some vs => some ((x.1, v) :: vs)
    | _, _ => none
def opvo (tm : List Value) : Option Operand → Option (Option Value)
  | none => some none
  | some x => (opv tm x).map some

theorem opvs_rel {tm : List Value} {a : Act} (h : TRel φ tm a.tmps) : ∀ {xs : List Operand} {vs : List Value}, opvs tm xs = some vs → LRel φ vs (xs.map a.eval)
  | [], vs, hv => by simp [opvs] at hv; subst hv; trivial
  | x :: xs, vs, hv => by
    simp only [opvs] at hv
    split at hv
    · rename_i v us h1 h2; cases hv; exact ⟨opv_rel h h1, opvs_rel h h2⟩
    · cases hv
theorem partsv_rel {tm : List Value} {a : Act} (h : TRel φ tm a.tmps) : ∀ {xs : List (Nat × Operand)} {vs : List (Nat × Value)}, partsv tm xs = some vs → PRel φ vs (xs.map fun p => (p.1, a.eval p.2))
  | [], vs, hv => by simp [partsv] at hv; subst hv; trivial
  | x :: xs, vs, hv => by
    simp only [partsv] at hv
    split at hv
    · rename_i v us h1 h2; cases hv; exact ⟨rfl, opv_rel h h1, partsv_rel h h2⟩
    · cases hv
theorem opvo_rel {tm : List Value} {a : Act} (h : TRel φ tm a.tmps) {x : Option Operand} {v : Option Value} (hx : opvo tm x = some v) : ORel φ v (x.map a.eval) := by
  cases x with
  | none => simp [opvo] at hx; subst hx; trivial
  | some x =>
    simp only [opvo, Option.map_eq_some_iff] at hx
    obtain ⟨u, h1, rfl⟩ := hx
    exact opv_rel h h1

/-- len of a slice, an array, a string. -/
def doLen (P : Program) (t : TypeId) : Value → Option Value
  | .slice _ n _ => match undF P t with
    | some (.slice _) => some (goInt n)
    | _ => none
  | v => if av v then sc P (Builtin.len_ #[t] 0 #[v]) else none
theorem doLen_ok {t ty : TypeId} {x x' v : Value} (h : doLen P t x = some v) (hx : VRel φ x x') (w : World) : (Builtin.len_ #[t] ty #[x']).run P w = .ok v w ∧ VRel φ v v := by
  unfold doLen at h
  simp only [undF_eq] at h
  split at h
  · split at h
    · rename_i hu
      cases h
      obtain ⟨a', c', rfl, _⟩ := hx.shorten (Nat.le_refl _)
      exact ⟨by simp [Builtin.len_, run_underlying hu], .int _ _⟩
    · cases h
  · split at h
    · rename_i hv
      rw [av_eq hv hx]
      exact sc_run (s := Builtin.len_ #[t] ty #[_]) h w
    · cases h

def un1 (H : Hp) (nx : Nat) (v : Option Value) : Option (Value × Hp × Nat) := v.map fun v => (v, H, nx)

/-- The builtins. -/
def doBuiltin (P : Program) (H : Hp) (nx : Nat) (b : Builtin) (ts : List TypeId) (ty : TypeId) (vs : List Value) : Option (Value × Hp × Nat) :=
  match b, ts, vs with
  | .append, [t, u], [s, x] => if t = u then doAppend P H nx t s x else none
  | .len, [t], [x] => un1 H (nx + 1) (doLen P t x)
  | .copy, [t, u], [d, x] => (doCopy P H t d x).map fun r => (r.1, r.2, nx + 1)
  | .min, ts, vs => if avL vs then un1 H (nx + 1) (sc P (Builtin.min_ ts.toArray ty vs.toArray)) else none
  | .max, ts, vs => if avL vs then un1 H (nx + 1) (sc P (Builtin.max_ ts.toArray ty vs.toArray)) else none
  | _, _, _ => none

/-- What an operation comes to, run in the world. -/
def Ran (P : Program) (φ : Ren) (K : Nat → Prop) (w : World) (nx : Nat) (s : Sem Value) (v : Value) (H' : Hp) (nx' : Nat) : Prop :=
  ∃ v' w' φ', s.run P w = .ok v' w' ∧ VRel φ' v v' ∧ Ext φ φ' nx nx' ∧ Good φ' H' K w' ∧ Went K w w' ∧ nx ≤ nx'

theorem Ran.same (g : Good φ H K w) {nx : Nat} {s : Sem Value} {v : Value} (h : ∃ v', s.run P w = .ok v' w ∧ VRel φ v v') : Ran P φ K w nx s v H nx :=
  let ⟨v', h1, h2⟩ := h
  ⟨v', w, φ, h1, h2, Ext.refl _ _ _, g, Went.refl _ _, Nat.le_refl _⟩

theorem Ran.same1 (g : Good φ H K w) {nx : Nat} {s : Sem Value} {v : Value} (h : ∃ v', s.run P w = .ok v' w ∧ VRel φ v v') : Ran P φ K w nx s v H (nx + 1) :=
  let ⟨v', h1, h2⟩ := h
  ⟨v', w, φ, h1, h2, Ext.refl _ _ _, g, Went.refl _ _, Nat.le_succ _⟩

theorem un1_some {v : Option Value} {u : Value} {H H' : Hp} {nx nx' : Nat} (h : un1 H nx v = some (u, H', nx')) : v = some u ∧ H' = H ∧ nx' = nx := by
  unfold un1 at h
  cases v with
  | none => cases h
  | some v => cases h; exact ⟨rfl, rfl, rfl⟩

theorem doBuiltin_ok (g : Good φ H K w) {nx : Nat} (hfr : φ nx = none) {b : Builtin} {ts : List TypeId} {ty : TypeId} {cs : Array Bool} {vs us : List Value} {v : Value} {H' : Hp} {nx' : Nat}
    (h : doBuiltin P H nx b ts ty vs = some (v, H', nx')) (hr : LRel φ vs us) :
    ∃ s, builtin b ts.toArray ty cs us.toArray = (do pure (.value (← s)) : Sem Next) ∧ Ran P φ K w nx s v H' nx' := by
  unfold doBuiltin at h
  split at h
  · rename_i t u s x
    split at h
    · rename_i htu
      subst htu
      match us, hr with
      | [s', x'], ⟨h1, h2, _⟩ =>
        refine ⟨Builtin.append_ #[t, t] ty #[s', x'], rfl, ?_⟩
        obtain ⟨v', w', φ', e1, e2, e3, e4, e5, e6⟩ := doAppend_ok (ty := ty) g hfr h h1 h2
        exact ⟨v', w', φ', e1, e2, e3, e4, e5, e6⟩
    · cases h
  · rename_i t x
    obtain ⟨h2, rfl, rfl⟩ := un1_some h
    match us, hr with
    | [x'], ⟨h1, _⟩ =>
      exact ⟨Builtin.len_ #[t] ty #[x'], rfl, Ran.same1 g ⟨v, doLen_ok h2 h1 w⟩⟩
  · rename_i t u d x
    simp only [Option.map_eq_some_iff] at h
    obtain ⟨r, h, he⟩ := h
    cases he
    match us, hr with
    | [d', x'], ⟨h1, h2, _⟩ =>
      obtain ⟨w', e1, e2, e3, e4⟩ := doCopy_ok (ts := u) (ty := ty) g h h1 h2
      exact ⟨Builtin.copy_ #[t, u] ty #[d', x'], rfl, _, w', φ, e1, e2, Ext.refl _ _ _, e3, e4, Nat.le_succ _⟩
  · split at h
    · rename_i hv
      obtain ⟨h2, rfl, rfl⟩ := un1_some h
      rw [avL_eq hv hr]
      exact ⟨_, rfl, Ran.same1 g ⟨v, sc_run h2 w⟩⟩
    · cases h
  · split at h
    · rename_i hv
      obtain ⟨h2, rfl, rfl⟩ := un1_some h
      rw [avL_eq hv hr]
      exact ⟨_, rfl, Ran.same1 g ⟨v, sc_run h2 w⟩⟩
    · cases h
  · cases h

theorem doAppend_nx {nx : Nat} {t : TypeId} {s x v : Value} {H' : Hp} {nx' : Nat} (h : doAppend P H nx t s x = some (v, H', nx')) : nx' = nx + 1 := by
  unfold doAppend at h
  simp only [infoF_eq, undF_eq] at h
  (repeat' split at h) <;> first | (cases h; done) | (cases h; rfl)
theorem doBuiltin_nx {nx : Nat} {b : Builtin} {ts : List TypeId} {ty : TypeId} {vs : List Value} {v : Value} {H' : Hp} {nx' : Nat} (h : doBuiltin P H nx b ts ty vs = some (v, H', nx')) : nx' = nx + 1 := by
  unfold doBuiltin at h
  split at h
  · split at h
    · exact doAppend_nx h
    · cases h
  · exact (un1_some h).2.2
  · simp only [Option.map_eq_some_iff] at h
    obtain ⟨r, h, he⟩ := h
    cases he; rfl
  · split at h
    · exact (un1_some h).2.2
    · cases h
  · split at h
    · exact (un1_some h).2.2
    · cases h
  · cases h

/-- A new variable that holds a value. -/
def doNew (H : Hp) (nx : Nat) (v : Value) : Option (Value × Hp × Nat) :=
  if flatV v then some (.pointer (some ⟨nx, 0, none⟩), (nx, .cells v.cells.toList false) :: H, nx + 1) else none

/-- One operation that calls no Go function. -/
def doOp (P : Program) (tm : List Value) (H : Hp) (nx : Nat) (o : Oper) : Option (Value × Hp × Nat) :=
  match o.op with
  | .move x => un1 H nx (opv tm x)
  | .assign x => un1 H nx (opv tm x)
  | .pick c a b => match opv tm c with
    | some (.bool true) => un1 H nx (opv tm a)
    | some (.bool false) => un1 H nx (opv tm b)
    | _ => none
  | .alloc t => match infoF P t with
    | some i => match i.zero with
      | some z => if av z then doNew H nx z else none
      | none => none
    | none => none
  | .box t x => (opv tm x).bind fun v => doNew H nx v
  | .build t ps => (partsv tm ps.toList).bind fun vs => un1 H nx (doBuild P t vs)
  | .buildSlice t n ps => (partsv tm ps.toList).bind fun vs => doBuildSlice P H nx t n vs
  | .load t a => (opv tm a).bind fun v => un1 H nx (doLoad P H t v)
  | .store t a x => (opv tm a).bind fun va => (opv tm x).bind fun vx => (doStore P H t va vx).map fun H' => (undef, H', nx)
  | .nilCheck x => match opv tm x with
    | some (.pointer (some a)) => some (.pointer (some a), H, nx)
    | some (.func (.func f) a b) => some (.func (.func f) a b, H, nx)
    | some (.func (.yield f) a b) => some (.func (.yield f) a b, H, nx)
    | _ => none
  | .binOp op t x y _ => (opv tm x).bind fun a => (opv tm y).bind fun b => un1 H nx (doBin P op t x y a b)
  | .unOp op _ x => (opv tm x).bind fun a => un1 H nx (doUn P op a)
  | .convert s d x => (opv tm x).bind fun a => un1 H nx (doConv P s d a)
  | .makeFunc (.func f) fs cs => (opvs tm fs.toList).bind fun a => (opvs tm cs.toList).bind fun b => some (.func (.func f) a.toArray b.toArray, H, nx)
  | .makeSlice t l c => (opv tm l).bind fun a => (opv tm c).bind fun b => doMakeSlice P H nx t a b
  | .slice t x lo hi mx => (opv tm x).bind fun v => (opvo tm lo).bind fun a => (opvo tm hi).bind fun b => (opvo tm mx).bind fun c => un1 H nx (doSlice P t v a b c)
  | .fieldAddr s x f => (opv tm x).bind fun v => un1 H nx (doFieldAddr P s f v)
  | .field t x f => (opv tm x).bind fun v => un1 H nx (doField P t f v)
  | .indexAddr t x i => (opv tm x).bind fun v => (opv tm i).bind fun j => un1 H nx (doIndexAddr P t v j)
  | .index t x i => (opv tm x).bind fun v => (opv tm i).bind fun j => un1 H nx (doIndex P t v j)
  | .extract x n => (opv tm x).bind fun v => un1 H nx (doExtract n v)
  | .call { callee := .builtin b, args, argTypes } => (opvs tm args.toList).bind fun vs => doBuiltin P H nx b argTypes.toList o.type vs
  | .makeMap t none => some (.map (some nx), (nx, .mp [] 0) :: H, nx + 1)
  | .lookup t x i c => (opv tm x).bind fun v => (opv tm i).bind fun j => un1 H nx (doLookup P H t v j c)
  | .mapUpdate t m k x => (opv tm m).bind fun vm => (opv tm k).bind fun vk => (opv tm x).bind fun vx => (doMapUpd P H t vm vk vx).map fun H' => (undef, H', nx)
  | .insert t m k x => (opv tm m).bind fun vm => (opv tm k).bind fun vk => (opv tm x).bind fun vx => (doMapUpd P H t vm vk vx).map fun H' => (undef, H', nx)
  | .range t x => (opv tm x).bind fun v => doRange P H nx t v
  | _ => none

/-- What an operation comes to, as the machine takes it. -/
def OpRan (P : Program) (φ : Ren) (K : Nat → Prop) (w : World) (nx : Nat) (s : Sem Next) (v : Value) (H' : Hp) (nx' : Nat) : Prop :=
  ∃ nxt w' φ' v', s.run P w = .ok nxt w' ∧ (nxt = .value v' ∨ (nxt = .skip ∧ v' = undef)) ∧ VRel φ' v v' ∧ Ext φ φ' nx nx' ∧ Good φ' H' K w' ∧ Went K w w' ∧ nx ≤ nx'

theorem Ran.op {nx nx' : Nat} {s : Sem Value} {v : Value} {H' : Hp} (h : Ran P φ K w nx s v H' nx') : OpRan P φ K w nx (do pure (.value (← s))) v H' nx' := by
  obtain ⟨v', w', φ', h1, h2, h3, h4, h5, h6⟩ := h
  exact ⟨.value v', w', φ', v', by simp [h1], .inl rfl, h2, h3, h4, h5, h6⟩

theorem doNew_ran (g : Good φ H K w) {nx : Nat} (hfr : φ nx = none) {v v' u : Value} {H' : Hp} {nx' : Nat} (h : doNew H nx v = some (u, H', nx')) (hv : VRel φ v v') (t : TypeId) :
    Ran P φ K w nx (do pure (.pointer (some (← newVar t v')))) u H' nx' := by
  unfold doNew at h
  split at h
  · rename_i hf
    cases h
    obtain ⟨φ', h1, h2, h3, h4⟩ := newVar_ok (P := P) g hfr hv hf t
    exact ⟨_, _, φ', by simp [h1], h4, h2, h3, Went.alloc g _, Nat.le_succ _⟩
  · cases h

theorem opran_skip {nx : Nat} {s : Sem Unit} {H' : Hp} (h : ∃ w', s.run P w = .ok () w' ∧ Good φ H' K w' ∧ Went K w w') : OpRan P φ K w nx (do s; pure .skip) undef H' nx := by
  obtain ⟨w', h1, h2, h3⟩ := h
  exact ⟨.skip, w', φ, undef, by simp [h1], .inr ⟨rfl, rfl⟩, .tuple' (by simp [LRel]), Ext.refl _ _ _, h2, h3, Nat.le_refl _⟩
theorem opran_pure (g : Good φ H K w) {nx : Nat} {v v' : Value} (h : VRel φ v v') : OpRan P φ K w nx (pure (.value v')) v H nx :=
  ⟨.value v', w, φ, v', rfl, .inl rfl, h, Ext.refl _ _ _, g, Went.refl _ _, Nat.le_refl _⟩

set_option maxHeartbeats 1000000 in
theorem doOp_ok (g : Good φ H K w) {tm : List Value} {a : Act} (ht : TRel φ tm a.tmps) {nx : Nat} {o : Oper} {v : Value} {H' : Hp} {nx' : Nat} (hfr : Fresh φ nx nx') (h : doOp P tm H nx o = some (v, H', nx')) :
    OpRan P φ K w nx (execOp a.eval o) v H' nx' := by
  unfold doOp at h
  unfold execOp
  split at h
  · rename_i x ho
    obtain ⟨h2, rfl, rfl⟩ := un1_some h
    simp only [ho]
    exact opran_pure g (opv_rel ht h2)
  · rename_i x ho
    obtain ⟨h2, rfl, rfl⟩ := un1_some h
    simp only [ho]
    exact opran_pure g (opv_rel ht h2)
  · rename_i c x y ho
    simp only [ho]
    split at h
    · rename_i hc
      obtain ⟨h2, rfl, rfl⟩ := un1_some h
      have hc' := opv_rel ht hc
      generalize a.eval c = u at hc'
      cases hc'
      exact opran_pure g (opv_rel ht h2)
    · rename_i hc
      obtain ⟨h2, rfl, rfl⟩ := un1_some h
      have hc' := opv_rel ht hc
      generalize a.eval c = u at hc'
      cases hc'
      exact opran_pure g (opv_rel ht h2)
    · cases h
  · rename_i t ho
    simp only [ho]
    split at h
    case h_2 => cases h
    rename_i i hi
    split at h
    case h_2 => cases h
    rename_i z hz
    split at h
    case isFalse => cases h
    rename_i hv
    have hfr0 : φ nx = none := by
      unfold doNew at h
      split at h
      · cases h; exact hfr nx (Nat.le_refl _) (Nat.lt_succ_self _)
      · cases h
    obtain ⟨v', w', φ', h1, h2⟩ := doNew_ran (P := P) g hfr0 h (av_rel hv) t
    refine Ran.op ⟨v', w', φ', ?_, h2⟩
    simpa [Instr.alloc, run_zeroValue' (infoF_eq P t ▸ hi) hz] using h1
  · rename_i t x ho
    simp only [ho]
    simp only [Option.bind_eq_some_iff] at h
    obtain ⟨u, hu, h⟩ := h
    have hfr0 : φ nx = none := by
      unfold doNew at h
      split at h
      · cases h; exact hfr nx (Nat.le_refl _) (Nat.lt_succ_self _)
      · cases h
    exact Ran.op (doNew_ran (P := P) g hfr0 h (opv_rel ht hu) t)
  · rename_i t ps ho
    simp only [ho]
    simp only [Option.bind_eq_some_iff] at h
    obtain ⟨vs, hvs, h⟩ := h
    obtain ⟨h2, rfl, rfl⟩ := un1_some h
    obtain ⟨v', h3, h4⟩ := doBuild_ok h2 (partsv_rel ht hvs) w
    refine Ran.op (Ran.same g ⟨v', ?_, h4⟩)
    rw [← h3]; congr 2
    apply Array.ext'; simp
  · rename_i t n ps ho
    simp only [ho]
    simp only [Option.bind_eq_some_iff] at h
    obtain ⟨vs, hvs, h⟩ := h
    have hfr0 : φ nx = none := by
      unfold doBuildSlice at h
      simp only [infoF_eq, undF_eq] at h
      (repeat' split at h) <;> first | (cases h; done) | (cases h; exact hfr nx (Nat.le_refl _) (Nat.lt_succ_self _))
    have := doBuildSlice_ok (P := P) g hfr0 h (partsv_rel ht hvs)
    obtain ⟨v', w', φ', h1, h2⟩ := this
    refine Ran.op ⟨v', w', φ', ?_, h2⟩
    rw [← h1]; congr 2
    apply Array.ext'; simp
  · rename_i t x ho
    simp only [ho]
    simp only [Option.bind_eq_some_iff] at h
    obtain ⟨u, hu, h⟩ := h
    obtain ⟨h2, rfl, rfl⟩ := un1_some h
    exact Ran.op (Ran.same g (doLoad_ok g h2 (opv_rel ht hu)))
  · rename_i t x y ho
    simp only [ho]
    simp only [Option.bind_eq_some_iff, Option.map_eq_some_iff] at h
    obtain ⟨u, hu, u2, hu2, H2, h, he⟩ := h
    cases he
    exact opran_skip (doStore_ok g h (opv_rel ht hu) (opv_rel ht hu2))
  · rename_i x ho
    simp only [ho]
    split at h
    · rename_i b hc
      cases h
      have hc' := opv_rel ht hc
      generalize a.eval x = u at hc'
      cases hc'
      exact opran_pure g (.ptr _ _ _ (by assumption))
    · rename_i f b c hc
      cases h
      have hc' := opv_rel ht hc
      generalize a.eval x = u at hc'
      obtain ⟨fn', ys, us, rfl, hf, h1, h2⟩ := hc'.func_inv
      cases hf
      exact opran_pure g hc'
    · rename_i f b c hc
      cases h
      have hc' := opv_rel ht hc
      generalize a.eval x = u at hc'
      obtain ⟨fn', ys, us, rfl, hf, h1, h2⟩ := hc'.func_inv
      cases hf
      exact opran_pure g hc'
    · cases h
  · rename_i op t x y yt ho
    simp only [ho]
    simp only [Option.bind_eq_some_iff] at h
    obtain ⟨u, hu, u2, hu2, h⟩ := h
    obtain ⟨h2, rfl, rfl⟩ := un1_some h
    exact Ran.op (Ran.same g ⟨v, doBin_ok h2 (opv_rel ht hu) (opv_rel ht hu2) w⟩)
  · rename_i op t x ho
    simp only [ho]
    simp only [Option.bind_eq_some_iff] at h
    obtain ⟨u, hu, h⟩ := h
    obtain ⟨h2, rfl, rfl⟩ := un1_some h
    exact Ran.op (Ran.same g ⟨v, doUn_ok h2 (opv_rel ht hu) w⟩)
  · rename_i s d x ho
    simp only [ho]
    simp only [Option.bind_eq_some_iff] at h
    obtain ⟨u, hu, h⟩ := h
    obtain ⟨h2, rfl, rfl⟩ := un1_some h
    exact Ran.op (Ran.same g ⟨v, doConv_ok h2 (opv_rel ht hu) w⟩)
  · rename_i f fs cs ho
    simp only [ho]
    simp only [Option.bind_eq_some_iff] at h
    obtain ⟨va, ha, vb, hb, h⟩ := h
    cases h
    refine opran_pure g (.func' (.func f) ?_ ?_)
    · simpa using opvs_rel ht ha
    · simpa using opvs_rel ht hb
  · rename_i t l c ho
    simp only [ho]
    simp only [Option.bind_eq_some_iff] at h
    obtain ⟨u, hu, u2, hu2, h⟩ := h
    have hfr0 : φ nx = none := by
      unfold doMakeSlice at h
      simp only [infoF_eq, undF_eq] at h
      (repeat' split at h) <;> first | (cases h; done) | (cases h; exact hfr nx (Nat.le_refl _) (Nat.lt_succ_self _))
    obtain ⟨v', w', φ', h1, h2⟩ := doMakeSlice_ok (P := P) g hfr0 h (opv_rel ht hu) (opv_rel ht hu2)
    exact Ran.op ⟨v', w', φ', h1, h2⟩
  · rename_i t x lo hi mx ho
    simp only [ho]
    simp only [Option.bind_eq_some_iff] at h
    obtain ⟨u, hu, va, ha, vb, hb, vc, hc, h⟩ := h
    obtain ⟨h2, rfl, rfl⟩ := un1_some h
    exact Ran.op (Ran.same g (doSlice_ok h2 (opv_rel ht hu) (opvo_rel ht ha) (opvo_rel ht hb) (opvo_rel ht hc) w))
  · rename_i s x f ho
    simp only [ho]
    simp only [Option.bind_eq_some_iff] at h
    obtain ⟨u, hu, h⟩ := h
    obtain ⟨h2, rfl, rfl⟩ := un1_some h
    exact Ran.op (Ran.same g (doFieldAddr_ok h2 (opv_rel ht hu) w))
  · rename_i t x f ho
    simp only [ho]
    simp only [Option.bind_eq_some_iff] at h
    obtain ⟨u, hu, h⟩ := h
    obtain ⟨h2, rfl, rfl⟩ := un1_some h
    exact Ran.op (Ran.same g (doField_ok h2 (opv_rel ht hu) w))
  · rename_i t x i ho
    simp only [ho]
    simp only [Option.bind_eq_some_iff] at h
    obtain ⟨u, hu, u2, hu2, h⟩ := h
    obtain ⟨h2, rfl, rfl⟩ := un1_some h
    exact Ran.op (Ran.same g (doIndexAddr_ok h2 (opv_rel ht hu) (opv_rel ht hu2) w))
  · rename_i t x i ho
    simp only [ho]
    simp only [Option.bind_eq_some_iff] at h
    obtain ⟨u, hu, u2, hu2, h⟩ := h
    obtain ⟨h2, rfl, rfl⟩ := un1_some h
    exact Ran.op (Ran.same g (doIndex_ok h2 (opv_rel ht hu) (opv_rel ht hu2) w))
  · rename_i x n ho
    simp only [ho]
    simp only [Option.bind_eq_some_iff] at h
    obtain ⟨u, hu, h⟩ := h
    obtain ⟨h2, rfl, rfl⟩ := un1_some h
    exact Ran.op (Ran.same g (doExtract_ok h2 (opv_rel ht hu) w))
  · rename_i b args ats ho
    simp only [ho]
    simp only [Option.bind_eq_some_iff] at h
    obtain ⟨vs, hvs, h⟩ := h
    have hn := doBuiltin_nx h
    subst hn
    obtain ⟨s, hs, hr⟩ := doBuiltin_ok (cs := args.map fun | .const _ => true | _ => false) g (hfr nx (Nat.le_refl _) (Nat.lt_succ_self _)) h (opvs_rel ht hvs)
    have e : (do let d ← resolve a.eval { callee := .builtin b, args, argTypes := ats } o.type; invoke d.target d.args : Sem Next) = (do pure (.value (← s)) : Sem Next) := by
      rw [← hs]
      show builtin b ats o.type _ _ = _
      congr 1
      apply Array.ext'; simp
    rw [e]
    exact hr.op
  · rename_i t ho
    simp only [ho]
    cases h
    obtain ⟨φ', h1, h2, h3, h4⟩ := newMap_ok (P := P) g (hfr nx (Nat.le_refl _) (Nat.lt_succ_self _))
    refine Ran.op ⟨.map (some w.heap.size), _, φ', ?_, h4, h2, h3, Went.alloc g _, Nat.le_succ _⟩
    unfold Instr.makeMap
    simp [h1, Result.andThen]
  · rename_i t x i c ho
    simp only [ho]
    simp only [Option.bind_eq_some_iff] at h
    obtain ⟨u, hu, u2, hu2, h⟩ := h
    obtain ⟨h2, rfl, rfl⟩ := un1_some h
    exact Ran.op (Ran.same g (doLookup_ok g h2 (opv_rel ht hu) (opv_rel ht hu2)))
  · rename_i t m k x ho
    simp only [ho]
    simp only [Option.bind_eq_some_iff, Option.map_eq_some_iff] at h
    obtain ⟨u, hu, u2, hu2, u3, hu3, H2, h, he⟩ := h
    cases he
    exact opran_skip (doMapUpd_ok g h (opv_rel ht hu) (opv_rel ht hu2) (opv_rel ht hu3))
  · rename_i t m k x ho
    simp only [ho]
    simp only [Option.bind_eq_some_iff, Option.map_eq_some_iff] at h
    obtain ⟨u, hu, u2, hu2, u3, hu3, H2, h, he⟩ := h
    cases he
    exact opran_skip (doMapUpd_ok g h (opv_rel ht hu) (opv_rel ht hu2) (opv_rel ht hu3))
  · rename_i t x ho
    simp only [ho]
    simp only [Option.bind_eq_some_iff] at h
    obtain ⟨u, hu, h⟩ := h
    have hfr0 : φ nx = none := by
      have h2 := h
      unfold doRange at h2
      (repeat' split at h2) <;> first | (cases h2; done) | (cases h2; exact hfr nx (Nat.le_refl _) (Nat.lt_succ_self _))
    exact Ran.op (doRange_ok g hfr0 h (opv_rel ht hu))
  · cases h
end Go.En
