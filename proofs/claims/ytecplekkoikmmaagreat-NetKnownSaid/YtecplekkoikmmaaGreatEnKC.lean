/- The engine, part KC: evaluating a region that draws its order, with the looks that make every order come to the same. -/
import Derived.Test.YtecplekkoikmmaaGreatEnKB
noncomputable section
namespace Go.En
set_option linter.unusedVariables false
variable {P : Program} {φ : Ren} {H : Hp} {K : Nat → Prop} {w : World}

/-! ### Which operations come before which -/
def edgeMask (ms : List Nat) : List Edge → Nat
  | [] => 0
  | e :: es => (if Region.binds .any e then (1 <<< e.on) ||| ms.getD e.on 0 else 0) ||| edgeMask ms es
theorem edgeMask_bit (ms : List Nat) (j : Nat) : ∀ es : List Edge, (edgeMask ms es).testBit j = true ↔ ∃ e ∈ es, Region.binds .any e = true ∧ (j = e.on ∨ (ms.getD e.on 0).testBit j = true)
  | [] => by simp [edgeMask]
  | e :: es => by
    have ih := edgeMask_bit ms j es
    simp only [edgeMask, Nat.testBit_or, Bool.or_eq_true, ih, List.mem_cons, exists_eq_or_imp]
    by_cases hb : Region.binds .any e = true
    · simp only [hb, if_true, Nat.testBit_or, Bool.or_eq_true, Nat.one_shiftLeft, Nat.testBit_two_pow, decide_eq_true_eq, true_and]
      constructor
      · rintro ((h | h) | h)
        · exact .inl (.inl h.symm)
        · exact .inl (.inr h)
        · exact .inr h
      · rintro ((h | h) | h)
        · exact .inl (.inl h.symm)
        · exact .inl (.inr h)
        · exact .inr h
    · simp only [hb, if_false, Nat.zero_testBit, Bool.false_eq_true, false_or, false_and]
def masksOf : List Oper → List Nat → List Nat
  | [], ms => ms
  | o :: os, ms => masksOf os (ms ++ [edgeMask ms o.after.toList])
/-- The masks fit the edges, and every edge goes back. -/
def masksFit (ms : List Nat) : Nat → List Oper → Bool
  | _, [] => true
  | i, o :: os => (ms.getD i 0 == edgeMask ms o.after.toList) && o.after.toList.all (fun e => !Region.binds .any e || decide (e.on < i)) && decide (ms.getD i 0 < 2 ^ i) && masksFit ms (i + 1) os
theorem masksFit_at {ms : List Nat} : ∀ {l : List Oper} {i j : Nat} {o : Oper}, masksFit ms i l = true → l[j]? = some o →
    ms.getD (i + j) 0 = edgeMask ms o.after.toList ∧ (∀ e ∈ o.after.toList, Region.binds .any e = true → e.on < i + j) ∧ ms.getD (i + j) 0 < 2 ^ (i + j)
  | [], i, j, o, _, h => by simp at h
  | x :: l, i, 0, o, hf, h => by
    simp at h; subst h
    simp only [masksFit, Bool.and_eq_true, beq_iff_eq, decide_eq_true_eq, List.all_eq_true, Bool.or_eq_true, Bool.not_eq_true'] at hf
    obtain ⟨⟨⟨h1, h2⟩, h3⟩, h4⟩ := hf
    refine ⟨h1, fun e he hb => ?_, h3⟩
    rcases h2 e he with h | h
    · rw [hb] at h; cases h
    · exact h
  | x :: l, i, j + 1, o, hf, h => by
    simp only [masksFit, Bool.and_eq_true] at hf
    have := masksFit_at (j := j) hf.2 (by simpa using h)
    rw [show i + 1 + j = i + (j + 1) by omega] at this
    exact this

/-! ### The temporaries that an operation reads -/
def slotOf : Operand → List Nat
  | .tmp t => [t]
  | _ => []
def slotsOf (ops : Array Oper) (o : Oper) : List Nat :=
  (o.op.operands.toList.flatMap slotOf) ++ (match o.guard with
    | some (j, _) => match (ops[j]?).bind (·.dst) with
      | some d => [d]
      | none => []
    | none => [])
def keepT (tm : List Value) (slots : List Nat) : List Value := slots.foldl (fun t s => t.set s (tm.getD s junk)) (List.replicate tm.length junk)
theorem keepT_get {tm : List Value} {slots : List Nat} : (keepT tm slots).length = tm.length ∧ ∀ (s : Nat) v, (keepT tm slots)[s]? = some v → v = junk ∨ (s ∈ slots ∧ tm[s]? = some v) := by
  unfold keepT
  have key : ∀ (sl : List Nat) (t : List Value), t.length = tm.length → (∀ (s : Nat) v, t[s]? = some v → v = junk ∨ (s ∈ slots ∧ tm[s]? = some v)) → (∀ s ∈ sl, s ∈ slots) →
      (sl.foldl (fun t s => t.set s (tm.getD s junk)) t).length = tm.length ∧ ∀ (s : Nat) v, (sl.foldl (fun t s => t.set s (tm.getD s junk)) t)[s]? = some v → v = junk ∨ (s ∈ slots ∧ tm[s]? = some v) := by
    intro sl
    induction sl with
    | nil => intro t h1 h2 _; exact ⟨h1, h2⟩
    | cons x sl ih =>
      intro t h1 h2 h3
      simp only [List.foldl_cons]
      refine ih _ (by simpa using h1) (fun s v hv => ?_) (fun s hs => h3 s (by simp [hs]))
      rw [List.getElem?_set] at hv
      by_cases hx : x = s
      · subst hx
        simp at hv
        obtain ⟨hl, rfl⟩ := hv
        right
        refine ⟨h3 x (by simp), ?_⟩
        rw [h1] at hl
        simp [hl]
      · simp [hx] at hv; exact h2 s v hv
  refine key slots _ (by simp) (fun s v hv => ?_) (fun s hs => hs)
  rw [List.getElem?_replicate] at hv
  split at hv
  · cases hv; exact .inl rfl
  · cases hv

theorem keepT_at {tm : List Value} {slots : List Nat} {s : Nat} (hs : s ∈ slots) : (keepT tm slots)[s]? = tm[s]? := by
  unfold keepT
  have key : ∀ (sl : List Nat) (t : List Value), t.length = tm.length → (s ∈ sl ∨ t[s]? = tm[s]?) → (sl.foldl (fun t s => t.set s (tm.getD s junk)) t)[s]? = tm[s]? := by
    intro sl
    induction sl with
    | nil => intro t _ h; simpa using h
    | cons x sl ih =>
      intro t hl h
      simp only [List.foldl_cons]
      refine ih _ (by simpa using hl) ?_
      by_cases hx : x = s
      · subst hx
        right
        rw [List.getElem?_set]
        by_cases hlt : x < tm.length
        · simp [hl, hlt]
        · simp [hl, hlt]
      · rcases h with h | h
        · rcases List.mem_cons.1 h with h | h
          · exact absurd h.symm hx
          · exact .inl h
        · right
          rw [List.getElem?_set]
          simp [hx, h]
  exact key slots _ (by simp) (.inl hs)
theorem keepT_opv {tm : List Value} {slots : List Nat} {x : Operand} (hs : ∀ s ∈ slotOf x, s ∈ slots) : opv tm x = opv (keepT tm slots) x := by
  cases x with
  | tmp t =>
    have := keepT_at (tm := tm) (hs t (by simp [slotOf]))
    simp only [opv, lg_eq, this]
  | _ => rfl
theorem opvs_congr {t t' : List Value} : ∀ {xs : List Operand}, (∀ x ∈ xs, opv t x = opv t' x) → opvs t xs = opvs t' xs
  | [], _ => rfl
  | x :: xs, h => by simp only [opvs]; rw [h x (by simp), opvs_congr fun y hy => h y (by simp [hy])]
theorem partsv_congr {t t' : List Value} : ∀ {xs : List (Nat × Operand)}, (∀ x ∈ xs, opv t x.2 = opv t' x.2) → partsv t xs = partsv t' xs
  | [], _ => rfl
  | x :: xs, h => by simp only [partsv]; rw [h x (by simp), partsv_congr fun y hy => h y (by simp [hy])]
theorem opvo_congr {t t' : List Value} {x : Option Operand} (h : ∀ y ∈ x, opv t y = opv t' y) : opvo t x = opvo t' x := by
  cases x with
  | none => rfl
  | some y => simp only [opvo]; rw [h y rfl]
theorem doOp_congr {t t' : List Value} {nx : Nat} {o : Oper} (h : ∀ x ∈ o.op.operands, opv t x = opv t' x) : doOp P t H nx o = doOp P t' H nx o := by
  unfold doOp
  cases ho : o.op with
  | move x => rw [ho] at h; simp only [h x (by simp [Op.operands])]
  | assign x => rw [ho] at h; simp only [h x (by simp [Op.operands])]
  | pick c a b => rw [ho] at h; simp only [h c (by simp [Op.operands]), h a (by simp [Op.operands]), h b (by simp [Op.operands])]
  | alloc t => rfl
  | box t x => rw [ho] at h; simp only [h x (by simp [Op.operands])]
  | build t ps => rw [ho] at h; simp only [partsv_congr (xs := ps.toList) fun x hx => h x.2 (by simp only [Op.operands, List.mem_toArray, List.mem_map]; exact ⟨x, hx, rfl⟩)]
  | buildSlice t n ps => rw [ho] at h; simp only [partsv_congr (xs := ps.toList) fun x hx => h x.2 (by simp only [Op.operands, List.mem_toArray, List.mem_map]; exact ⟨x, hx, rfl⟩)]
  | load t a => rw [ho] at h; simp only [h a (by simp [Op.operands])]
  | store t a x => rw [ho] at h; simp only [h a (by simp [Op.operands]), h x (by simp [Op.operands])]
  | nilCheck x => rw [ho] at h; simp only [h x (by simp [Op.operands])]
  | binOp op t x y w => rw [ho] at h; simp only [h x (by simp [Op.operands]), h y (by simp [Op.operands])]
  | unOp op t x => rw [ho] at h; simp only [h x (by simp [Op.operands])]
  | convert s d x => rw [ho] at h; simp only [h x (by simp [Op.operands])]
  | makeFunc f fs cs =>
    rw [ho] at h
    cases f <;> try rfl
    simp only [opvs_congr (xs := fs.toList) fun x hx => h x (by simp only [Op.operands, Array.mem_append]; left; simpa using hx), opvs_congr (xs := cs.toList) fun x hx => h x (by simp only [Op.operands, Array.mem_append]; right; simpa using hx)]
  | makeSlice t l c => rw [ho] at h; simp only [h l (by simp [Op.operands]), h c (by simp [Op.operands])]
  | slice t x lo hi mx =>
    rw [ho] at h
    simp only [h x (by simp [Op.operands]), opvo_congr (x := lo) fun y hy => h y (by cases hy; simp [Op.operands]), opvo_congr (x := hi) fun y hy => h y (by cases hy; simp [Op.operands]), opvo_congr (x := mx) fun y hy => h y (by cases hy; simp [Op.operands])]
  | fieldAddr s x f => rw [ho] at h; simp only [h x (by simp [Op.operands])]
  | field s x f => rw [ho] at h; simp only [h x (by simp [Op.operands])]
  | indexAddr t x i => rw [ho] at h; simp only [h x (by simp [Op.operands]), h i (by simp [Op.operands])]
  | index t x i => rw [ho] at h; simp only [h x (by simp [Op.operands]), h i (by simp [Op.operands])]
  | extract x n => rw [ho] at h; simp only [h x (by simp [Op.operands])]
  | call c =>
    rw [ho] at h
    obtain ⟨cal, args, ats⟩ := c
    cases cal <;> try rfl
    simp only [opvs_congr (xs := args.toList) fun x hx => h x (by simp only [Op.operands, Call.operands, Array.mem_append]; right; simpa using hx)]
  | makeMap t r => cases r <;> rfl
  | lookup t x i c => rw [ho] at h; simp only [h x (by simp [Op.operands]), h i (by simp [Op.operands])]
  | mapUpdate t m k x => rw [ho] at h; simp only [h m (by simp [Op.operands]), h k (by simp [Op.operands]), h x (by simp [Op.operands])]
  | insert t m k x => rw [ho] at h; simp only [h m (by simp [Op.operands]), h k (by simp [Op.operands]), h x (by simp [Op.operands])]
  | range t x => rw [ho] at h; simp only [h x (by simp [Op.operands])]
  | _ => rfl
theorem wantedA_keep {ops : Array Oper} {tm : List Value} {o : Oper} : wantedA ops tm o = wantedA ops (keepT tm (slotsOf ops o)) o := by
  unfold wantedA
  cases hg : o.guard with
  | none => rfl
  | some p =>
    obtain ⟨j, want⟩ := p
    dsimp only
    cases hd : (ops[j]?).bind (·.dst) with
    | none => rfl
    | some d =>
      have : (keepT tm (slotsOf ops o))[d]? = tm[d]? := keepT_at (by simp [slotsOf, hg, hd])
      simp only [Option.bind_some, lg_eq, this]
/-- The evaluation of an operation looks at its operands alone. -/
def Looks (op : List Value → Hp → Nat → Oper → Option (Value × Hp × Nat)) : Prop := ∀ (t t' : List Value) (H : Hp) (nx : Nat) (o : Oper), (∀ x ∈ o.op.operands, opv t x = opv t' x) → op t H nx o = op t' H nx o
theorem Looks.keep {op : List Value → Hp → Nat → Oper → Option (Value × Hp × Nat)} (h : Looks op) {ops : Array Oper} {tm : List Value} {H : Hp} {nx : Nat} {o : Oper} : op tm H nx o = op (keepT tm (slotsOf ops o)) H nx o :=
  h _ _ _ _ _ fun x hx => keepT_opv fun s hs => by
    simp only [slotsOf, List.mem_append, List.mem_flatMap]
    exact .inl ⟨x, by simpa using hx, hs⟩

/-! ### The evaluation -/
def names (H : Hp) : List Nat := H.map (·.1)
/-- The block that a store or an append may turn. -/
def mapBlk (tm : List Value) (x : Operand) : List Nat := match opv tm x with
  | some (.map (some r)) => [r]
  | _ => []
def targetOf (tm : List Value) (o : Oper) : List Nat :=
  match o.op with
  | .mapUpdate _ m _ _ => mapBlk tm m
  | .lookup _ x _ _ => mapBlk tm x
  | .store _ a _ => match opv tm a with
    | some (.pointer (some a)) => [a.block]
    | _ => []
  | .call { callee := .builtin .append, args := args, argTypes := _ } => match args.toList with
    | s :: _ => match opv tm s with
      | some (.slice (some a) _ c) => if openCap ≤ c then [a.block] else []
      | _ => []
    | _ => []
  | .call { callee := .builtin .copy, args := args, argTypes := _ } => match args.toList with
    | s :: _ => match opv tm s with
      | some (.slice (some a) _ _) => [a.block]
      | _ => []
    | _ => []
  | _ => []
def inRange (rs : List (Nat × Nat)) (b : Nat) : Bool := rs.any fun x => decide (x.1 ≤ b) && decide (b < x.2)

/-- What an operation is let see: a few blocks, or all of a kind. -/
inductive See where
  | few (bs : List Nat)
  | all (f : Nat → Bool)
def viewFew (wr : List Nat) (H : Hp) : List Nat → Hp
  | [] => []
  | b :: bs => match H.get b with
    | some k => (b, seen1 (fun b => wr.contains b) (fun _ => false) b k) :: viewFew wr H bs
    | none => viewFew wr H bs
def viewD (wr : List Nat) (H : Hp) : See → Hp
  | .few bs => viewFew wr H bs
  | .all f => Hp.only f (mkView (fun b => wr.contains b) (fun _ => false) H)
theorem viewFew_get {wr : List Nat} {b : Nat} {k : Blk} : ∀ {bs : List Nat}, (viewFew wr H bs).get b = some k → ∃ k0, H.get b = some k0 ∧ k = seen1 (fun b => wr.contains b) (fun _ => false) b k0
  | [], h => by simp [viewFew, Hp.get_nil] at h
  | c :: bs, h => by
    simp only [viewFew] at h
    split at h
    · rename_i k0 h0
      by_cases hc : c = b
      · subst hc
        rw [Hp.get_cons] at h
        simp only [beq_self_eq_true, if_true, Option.some.injEq] at h
        exact ⟨k0, h0, h.symm⟩
      · simp [Hp.get_cons, hc] at h
        exact viewFew_get h
    · exact viewFew_get h
theorem viewD_get {wr : List Nat} {b : Nat} {k : Blk} {s : See} (h : (viewD wr H s).get b = some k) : ∃ k0, H.get b = some k0 ∧ k = seen1 (fun b => wr.contains b) (fun _ => false) b k0 := by
  cases s with
  | few bs => exact viewFew_get h
  | all f =>
    simp only [viewD, Hp.get_only, mkView_get] at h
    split at h
    · simp only [Option.map_eq_some_iff] at h
      obtain ⟨k0, h0, rfl⟩ := h
      exact ⟨k0, h0, rfl⟩
    · cases h
/-- The heap behind an operation. -/
def mergeQ (wr : List Nat) (lo hi : Nat) (H1 H : Hp) : Hp := match wr with
  | [] => bif Nat.beq lo hi then H else merge (touchOf (fun b => ([] : List Nat).contains b) lo hi) H1 H
  | wr => merge (touchOf (fun b => wr.contains b) lo hi) H1 H
theorem only_none {p : Nat → Bool} (hp : ∀ b, p b = false) : ∀ G : Hp, Hp.only p G = []
  | [] => rfl
  | (b, k) :: r => by simp [Hp.only, hp b, only_none hp r]
theorem only_all {p : Nat → Bool} (hp : ∀ b, p b = true) : ∀ G : Hp, Hp.only p G = G
  | [] => rfl
  | (b, k) :: r => by simp [Hp.only, hp b, only_all hp r]
theorem mergeQ_eq (wr : List Nat) (lo hi : Nat) (H1 H : Hp) : mergeQ wr lo hi H1 H = merge (touchOf (fun b => wr.contains b) lo hi) H1 H := by
  unfold mergeQ
  split
  · cases h : Nat.beq lo hi with
    | false => rfl
    | true =>
      have he := Nat.eq_of_beq_eq_true h
      subst he
      have ht : ∀ b, touchOf (fun b => ([] : List Nat).contains b) lo lo b = false := fun b => by
        simp [touchOf]
      show H = merge _ H1 H
      unfold merge
      rw [only_none ht, only_all (fun b => by rw [ht b]; rfl)]
      rfl
  · rfl

/-- A region's operations, in their text's order. 'cut' says how an operation's view is cut: which names it may turn, which it may not see (of no weight for the soundness). -/
def drawGo (op : List Value → Hp → Nat → Oper → Option (Value × Hp × Nat)) (ops : Array Oper) (cut : Nat → List Value → Hp → List Stp → Option (List Nat × See)) : Nat → List Stp → List Oper → List Value → Hp → Nat → Option (List Stp)
  | _, _, [], _, _, _ => some []
  | i, done, o :: l, tm, H, nx =>
    match wantedA ops tm o with
    | some false => (drawGo op ops cut (i + 1) (⟨o, false, undef, keepT tm (slotsOf ops o), [], fun _ => false, [], nx, nx⟩ :: done) l (putT tm o.dst undef) H nx).map (⟨o, false, undef, keepT tm (slotsOf ops o), [], fun _ => false, [], nx, nx⟩ :: ·)
    | some true =>
      match cut i tm H done with
      | none => none
      | some (wr, see) =>
        match op tm (viewD wr H see) nx o with
        | some (v, H1, nx1) =>
          if allRw (Hp.only (touchOf (fun b => wr.contains b) nx nx1) H1) && wr.all (fun b => (Hp.get (viewD wr H see) b).isSome) then
            (drawGo op ops cut (i + 1) (⟨o, true, v, keepT tm (slotsOf ops o), viewD wr H see, fun b => wr.contains b, H1, nx, nx1⟩ :: done) l (putT tm o.dst v)
              (mergeQ wr nx nx1 H1 H) nx1).map (⟨o, true, v, keepT tm (slotsOf ops o), viewD wr H see, fun b => wr.contains b, H1, nx, nx1⟩ :: ·)
          else none
        | none => none
    | none => none

def tmR : List Stp → List Value → List Value
  | [], tm => tm
  | s :: ss, tm => tmR ss (putT tm s.o.dst s.v)
def hpR : List Stp → Hp → Hp
  | [], H => H
  | s :: ss, H => hpR ss (if s.ran then merge s.touch s.H' H else H)
def nxR : List Stp → Nat → Nat
  | [], nx => nx
  | s :: ss, nx => nxR ss s.hi

/-- What is known of a step, from the state before it. -/
structure StpOk (P : Program) (r : Option Nat) (ops : Array Oper) (o : Oper) (tm : List Value) (H : Hp) (nx : Nat) (s : Stp) : Prop where
  o_eq : s.o = o
  lo_eq : s.lo = nx
  le : s.lo ≤ s.hi
  tmo_eq : s.tmo = keepT tm (slotsOf ops o)
  want : wantedA ops s.tmo s.o = some s.ran
  ok : s.ran = true → OpOk P r s.o s.tmo s.V s.lo s.v s.H' s.hi ∧ allRw (Hp.only s.touch s.H') = true
  vw : ∀ b k, s.V.get b = some k → ∃ k0, H.get b = some k0 ∧ k = seen1 s.wr (fun _ => false) b k0
  skip : s.ran = false → s.v = undef ∧ ∀ b, s.touch b = false
  wrin : ∀ b, s.wr b = true → ∃ k, s.V.get b = some k

theorem drawGo_ok {op : List Value → Hp → Nat → Oper → Option (Value × Hp × Nat)} {r : Option Nat} (hlk : Looks op) (hop : ∀ {tm H nx o v H' nx'}, op tm H nx o = some (v, H', nx') → OpOk P r o tm H nx v H' nx') {ops : Array Oper} {cut : Nat → List Value → Hp → List Stp → Option (List Nat × See)} :
    ∀ {l : List Oper} {i : Nat} {done : List Stp} {tm : List Value} {H : Hp} {nx : Nat} {ss : List Stp}, drawGo op ops cut i done l tm H nx = some ss →
      ss.length = l.length ∧ ∀ (j : Nat) o s, l[j]? = some o → ss[j]? = some s → StpOk P r ops o (tmR (ss.take j) tm) (hpR (ss.take j) H) (nxR (ss.take j) nx) s
  | [], i, done, tm, H, nx, ss, h => by simp only [drawGo, Option.some.injEq] at h; subst h; exact ⟨rfl, fun j o s h => by simp at h⟩
  | o :: l, i, done, tm, H, nx, ss, h => by
    simp only [drawGo] at h
    split at h
    · rename_i hw
      rw [wantedA_keep] at hw
      simp only [Option.map_eq_some_iff] at h
      obtain ⟨ss', h', rfl⟩ := h
      obtain ⟨hl, hj⟩ := drawGo_ok hlk hop h'
      refine ⟨by simp [hl], fun j o' s ho hs => ?_⟩
      cases j with
      | zero =>
        simp only [List.getElem?_cons_zero, Option.some.injEq] at ho hs
        subst ho; subst hs
        exact ⟨rfl, rfl, Nat.le_refl _, rfl, hw, (fun h => by cases h), (fun b k hb => by simp [Hp.get_nil] at hb), fun _ => ⟨rfl, fun b => by simp [Stp.touch, touchOf]⟩, fun b hb => by cases hb⟩
      | succ j =>
        simp only [List.getElem?_cons_succ] at ho hs
        exact hj j o' s ho hs
    · rename_i hw
      rw [wantedA_keep] at hw
      split at h
      case h_1 => cases h
      rename_i wr see hcut
      split at h
      case h_2 => cases h
      rename_i v H1 nx1 hop1
      rw [hlk.keep (ops := ops)] at hop1
      split at h
      case isFalse => cases h
      rename_i hrw
      simp only [Bool.and_eq_true] at hrw
      obtain ⟨hrw, hwi⟩ := hrw
      simp only [Option.map_eq_some_iff] at h
      obtain ⟨ss', h', rfl⟩ := h
      rw [mergeQ_eq] at h'
      obtain ⟨hl, hj⟩ := drawGo_ok hlk hop h'
      have hok := hop hop1
      refine ⟨by simp [hl], fun j o' s ho hs => ?_⟩
      cases j with
      | zero =>
        simp only [List.getElem?_cons_zero, Option.some.injEq] at ho hs
        subst ho; subst hs
        refine ⟨rfl, rfl, hok.1, rfl, hw, fun _ => ⟨hok, hrw⟩, fun b k hb => ?_, (fun h => by cases h), fun b hb => ?_⟩
        · exact viewD_get hb
        · have := List.all_eq_true.1 hwi b (by simpa using hb)
          exact Option.isSome_iff_exists.1 this
      | succ j =>
        simp only [List.getElem?_cons_succ] at ho hs
        exact hj j o' s ho hs
    · cases h

/-! ### The looks -/
def ordered (ms : List Nat) (i j : Nat) : Bool := (ms.getD i 0).testBit j || (ms.getD j 0).testBit i
/-- No two write one temporary; what is read of the region's own is ordered. -/
def slotsFit (ms : List Nat) (ops : Array Oper) : Bool :=
  ops.toList.zipIdx.all fun s => ops.toList.zipIdx.all fun t => s.2 == t.2 || ((s.1.dst.isNone || s.1.dst != t.1.dst) && ((slotsOf ops s.1).all fun x => t.1.dst != some x || ordered ms s.2 t.2))
/-- What an operation sees, no operation that is not ordered with it turns. -/
def viewsFit (ms : List Nat) (ss : List Stp) : Bool :=
  ss.zipIdx.all fun t => !t.1.ran || (Nat.beq t.1.lo t.1.hi && t.1.V.all fun x => !t.1.wr x.1) || ss.zipIdx.all fun s => s.2 == t.2 || ordered ms s.2 t.2 || s.1.V.all fun x => !t.1.touch x.1

theorem zipIdx_all {α : Type} {p : α × Nat → Bool} {l : List α} (h : l.zipIdx.all p = true) {i : Nat} {x : α} (hx : l[i]? = some x) : p (x, i) = true := by
  refine List.all_eq_true.1 h (x, i) ?_
  rw [List.mem_zipIdx_iff_getElem?]
  exact hx

def dfltStp : Stp := ⟨default, false, undef, [], [], fun _ => false, [], 0, 0⟩

theorem tmR_snoc (ss : List Stp) (s : Stp) : ∀ tm, tmR (ss ++ [s]) tm = putT (tmR ss tm) s.o.dst s.v := by
  induction ss with
  | nil => intro tm; rfl
  | cons x ss ih => intro tm; exact ih _
theorem hpR_snoc (ss : List Stp) (s : Stp) : ∀ H, hpR (ss ++ [s]) H = if s.ran then merge s.touch s.H' (hpR ss H) else hpR ss H := by
  induction ss with
  | nil => intro H; rfl
  | cons x ss ih => intro H; exact ih _
theorem nxR_snoc (ss : List Stp) (s : Stp) : ∀ nx, nxR (ss ++ [s]) nx = s.hi := by
  induction ss with
  | nil => intro nx; rfl
  | cons x ss ih => intro nx; exact ih _

theorem hp_get_all {p : Nat × Blk → Bool} {b : Nat} {k : Blk} : ∀ {H : Hp}, H.all p = true → H.get b = some k → p (b, k) = true
  | [], _, h => by simp [Hp.get_nil] at h
  | (c, x) :: r, ha, h => by
    simp only [List.all_cons, Bool.and_eq_true] at ha
    by_cases hb : c = b
    · subst hb; simp [Hp.get_cons] at h; subst h; exact ha.1
    · simp [Hp.get_cons, hb] at h; exact hp_get_all ha.2 h

theorem drawOk_st {r : Option Nat} {ops : Array Oper}
    {tm : List Value} {H : Hp} {nx : Nat} {ss : List Stp} {ms : List Nat} (hgo : ss.length = ops.toList.length ∧ ∀ (j : Nat) o s, ops.toList[j]? = some o → ss[j]? = some s → StpOk P r ops o (tmR (ss.take j) tm) (hpR (ss.take j) H) (nxR (ss.take j) nx) s)
    (hm : masksFit ms 0 ops.toList = true) (hsl : slotsFit ms ops = true) (hvw : viewsFit ms ss = true) :
    DrawOk P r ops tm H nx (nxR ss nx) (fun i => ss.getD i dfltStp) (fun i j => (ms.getD i 0).testBit j) ∧
      (∀ b, spec (fun i => ss.getD i dfltStp) H (fun k => decide (k < ops.size)) ops.size b = (hpR ss H).get b) ∧ tmS (fun i => ss.getD i dfltStp) tm (fun k => decide (k < ops.size)) ops.size = tmR ss tm := by
  obtain ⟨hlen, hst⟩ := hgo
  simp only [Array.length_toList] at hlen
  have hss : ∀ i, i < ops.size → ss[i]? = some (ss.getD i dfltStp) := fun i hi => by
    have : i < ss.length := by omega
    simp [this]
  have hso : ∀ i, i < ops.size → ops.toList[i]? = some ops[i]! := fun i hi => by simp [hi]
  have hok : ∀ i (hi : i < ops.size), StpOk P r ops ops[i]! (tmR (ss.take i) tm) (hpR (ss.take i) H) (nxR (ss.take i) nx) (ss.getD i dfltStp) := fun i hi => hst i _ _ (hso i hi) (hss i hi)
  have htake : ∀ i, i < ops.size → ss.take (i + 1) = ss.take i ++ [ss.getD i dfltStp] := fun i hi => by
    have : i < ss.length := by omega
    rw [List.take_succ_eq_append_getElem this]
    simp [this]
  -- the running state is what tmS and spec say
  have ht : ∀ i, i ≤ ops.size → ∀ m, i ≤ m → m ≤ ops.size → tmS (fun i => ss.getD i dfltStp) tm (fun k => decide (k < i)) m = tmR (ss.take i) tm := by
    intro i hi m
    induction m generalizing i with
    | zero => intro h1 _; have : i = 0 := by omega
              subst this; rfl
    | succ m ih =>
      intro h1 h2
      simp only [tmS]
      by_cases hmi : m < i
      · have : i = m + 1 := by omega
        subst this
        simp only [Nat.lt_succ_self, decide_true, if_true]
        have e1 : tmS (fun i => ss.getD i dfltStp) tm (fun k => decide (k < m + 1)) m = tmS (fun i => ss.getD i dfltStp) tm (fun k => decide (k < m)) m := by
          apply List.ext_getElem?
          intro s
          exact tmS_agree fun k hk _ => by simp [hk]; omega
        rw [e1, ih m (by omega) (Nat.le_refl _) (by omega), htake m (by omega), tmR_snoc]
      · simp only [hmi, decide_false, Bool.false_eq_true, if_false]
        exact ih i hi (by omega) (by omega)
  have hh : ∀ i, i ≤ ops.size → ∀ m, i ≤ m → m ≤ ops.size → ∀ b, spec (fun i => ss.getD i dfltStp) H (fun k => decide (k < i)) m b = (hpR (ss.take i) H).get b := by
    intro i hi m
    induction m generalizing i with
    | zero => intro h1 _ b; have : i = 0 := by omega
              subst this; rfl
    | succ m ih =>
      intro h1 h2 b
      simp only [spec]
      by_cases hmi : m < i
      · have : i = m + 1 := by omega
        subst this
        simp only [Nat.lt_succ_self, decide_true, Bool.true_and]
        have e1 : spec (fun i => ss.getD i dfltStp) H (fun k => decide (k < m + 1)) m b = spec (fun i => ss.getD i dfltStp) H (fun k => decide (k < m)) m b := spec_agree fun k hk _ => by simp [hk]; omega
        rw [e1, ih m (by omega) (Nat.le_refl _) (by omega), htake m (by omega), hpR_snoc]
        have hk := hok m (by omega)
        cases hr : (ss.getD m dfltStp).ran with
        | true => simp only [if_true]; rw [merge_get]
        | false => rw [(hk.skip hr).2 b]; simp
      · simp only [hmi, decide_false, Bool.false_and, Bool.false_eq_true, if_false]
        exact ih i hi (by omega) (by omega) b
  have hnx : ∀ i, i ≤ ops.size → ∀ j, j < i → (ss.getD j dfltStp).hi ≤ nxR (ss.take i) nx := by
    intro i
    induction i with
    | zero => intro _ j hj; omega
    | succ i ih =>
      intro hi j hj
      rw [htake i (by omega), nxR_snoc]
      have hk := hok i (by omega)
      by_cases hji : j = i
      · subst hji; exact Nat.le_refl _
      · have := ih (by omega) j (by omega)
        rw [← hk.lo_eq] at this
        exact Nat.le_trans this hk.le
  have hnx0 : ∀ i, i ≤ ops.size → nx ≤ nxR (ss.take i) nx := by
    intro i
    induction i with
    | zero => intro _; exact Nat.le_refl _
    | succ i ih =>
      intro hi
      rw [htake i (by omega), nxR_snoc]
      have hk := hok i (by omega)
      have := ih (by omega)
      rw [← hk.lo_eq] at this
      exact Nat.le_trans this hk.le
  have hall : ss.take ops.size = ss := List.take_of_length_le (by omega)
  have hmf : ∀ i, i < ops.size → ms.getD i 0 = edgeMask ms (ss.getD i dfltStp).o.after.toList ∧ (∀ e ∈ (ss.getD i dfltStp).o.after.toList, Region.binds .any e = true → e.on < i) ∧ ms.getD i 0 < 2 ^ i := fun i hi => by
    have := masksFit_at hm (hso i hi)
    rw [← (hok i hi).o_eq] at this
    simpa using this
  have slt : ∀ i k, i < ops.size → k < ops.size → i ≠ k → ((ss.getD i dfltStp).o.dst.isNone || (ss.getD i dfltStp).o.dst != (ss.getD k dfltStp).o.dst) = true ∧ ((slotsOf ops (ss.getD i dfltStp).o).all fun x => (ss.getD k dfltStp).o.dst != some x || ordered ms i k) = true := by
    intro i k hi hk hne
    have h1 := zipIdx_all (zipIdx_all hsl (hso i hi)) (hso k hk)
    rw [← (hok i hi).o_eq, ← (hok k hk).o_eq] at h1
    have hb : (i == k) = false := by simp [hne]
    simpa [hb] using h1
  refine ⟨⟨fun i hi => ?_, fun i hi => (hok i hi).le, fun i j hij hj => ?_, fun i hi => ⟨by rw [(hok i hi).lo_eq]; exact hnx0 i (by omega), by have := hnx ops.size (Nat.le_refl _) i hi; rwa [hall] at this⟩, by have := hnx0 ops.size (Nat.le_refl _); rwa [hall] at this,
    fun i hi e he hb => ?_, fun i hi j hj => ?_, fun i j hi hj => ?_, fun i hi => ?_, fun i hi s v hv => ?_, fun i j s hi hj hne hd => ?_, fun i hi => (hok i hi).want, fun i hi => (hok i hi).ok, fun i hi b k hb => ?_, fun i hi => (hok i hi).skip,
    fun i j hi hj hne h1 h2 b k hb => ?_, fun i hi => (hok i hi).wrin⟩, fun b => ?_, ?_⟩
  · rw [(hok i hi).o_eq]; simp [hi]
  · rw [(hok j hj).lo_eq]; exact hnx j (by omega) i hij
  · refine ⟨?_, (hmf i hi).2.1 e (by simpa using he) hb⟩
    try dsimp only
    rw [(hmf i hi).1, edgeMask_bit]
    exact ⟨e, by simpa using he, hb, .inl rfl⟩
  · try dsimp only at hj
    rw [(hmf i hi).1, edgeMask_bit] at hj
    obtain ⟨e, he, hb, hor⟩ := hj
    exact ⟨e, by simpa using he, hb, hor⟩
  · have hlt := (hmf i hi).2.2
    try dsimp only at hj
    rcases Nat.lt_or_ge j i with h | h
    · exact h
    · rw [Nat.testBit_lt_two_pow (Nat.lt_of_lt_of_le hlt (Nat.pow_le_pow_right (by omega) h))] at hj
      cases hj
  · try dsimp only
    rw [(hok i hi).tmo_eq, keepT_get.1, ← ht i (by omega) i (Nat.le_refl _) (by omega), tmS_length]
  · try dsimp only at hv ⊢
    rw [(hok i hi).tmo_eq] at hv
    rcases keepT_get.2 s v hv with h0 | ⟨h1, h2⟩
    · exact .inl h0
    · refine .inr ⟨by rw [ht i (by omega) _ (by omega) (Nat.le_refl _)]; exact h2, fun k hk hne hd => ?_⟩
      have := (slt i k hi hk (fun e => hne e.symm)).2
      rw [(hok i hi).o_eq] at this
      have := List.all_eq_true.1 this s h1
      rw [hd] at this
      simpa [ordered] using this
  · have := (slt i j hi hj hne).1
    rw [hd] at this
    try dsimp only at this hd ⊢
    simp at this
    exact fun e => this e.symm
  · try dsimp only at hb ⊢
    obtain ⟨k0, h0, h1⟩ := (hok i hi).vw b k hb
    exact ⟨k0, by rw [hh i (by omega) _ (by omega) (Nat.le_refl _)]; exact h0, h1⟩
  · try dsimp only at hb ⊢
    cases hr : (ss.getD j dfltStp).ran with
    | false => exact ((hok j hj).skip hr).2 b
    | true =>
      have hv := zipIdx_all hvw (hss j hj)
      simp only [hr, Bool.not_true, Bool.false_or, Bool.or_eq_true] at hv
      rcases hv with hv | hv
      · simp only [Bool.and_eq_true] at hv
        have hlh := Nat.eq_of_beq_eq_true hv.1
        cases hw : (ss.getD j dfltStp).wr b with
        | true =>
          obtain ⟨k', hk'⟩ := (hok j hj).wrin b hw
          have := hp_get_all hv.2 hk'
          dsimp only at this
          rw [hw] at this
          cases this
        | false =>
          simp only [Stp.touch, touchOf, hw, Bool.false_or, hlh]
          simp only [Bool.and_eq_false_iff, decide_eq_false_iff_not]
          omega
      have hv := zipIdx_all hv (hss i hi)
      have hb1 : (i == j) = false := by simp [hne]
      have hb2 : ordered ms i j = false := by simp only [ordered, Bool.or_eq_false_iff]; exact ⟨h1, h2⟩
      simp only [hb1, hb2, Bool.false_or] at hv
      have := hp_get_all hv hb
      simpa using this
  · rw [hh ops.size (Nat.le_refl _) _ (Nat.le_refl _) (Nat.le_refl _), hall]
  · rw [ht ops.size (Nat.le_refl _) _ (Nat.le_refl _) (Nat.le_refl _), hall]

def blockOf (tm : List Value) (x : Operand) : List Nat :=
  match opv tm x with
  | some (.pointer (some a)) => [a.block]
  | some (.slice (some a) _ _) => [a.block]
  | _ => []
/-- The blocks that an operation looks at, where its operands tell. -/
def looksAtA (tm : List Value) (o : Oper) : Option (List Nat) :=
  match o.op with
  | .load _ a => some (blockOf tm a)
  | .store _ a _ => some (blockOf tm a)
  | .call { callee := .builtin _, args := args, argTypes := _ } => some (args.toList.flatMap (blockOf tm))
  | .call _ => none
  | .mapUpdate _ m _ _ => some (mapBlk tm m)
  | .lookup _ x _ _ => some (mapBlk tm x)
  | _ => some []
/-- Which names an operation may turn, which it may see: by its operands, or by what the others may turn. -/
def cutOf (ops : Array Oper) (ms : List Nat) (est : List (List Nat)) (i : Nat) (tm : List Value) (H : Hp) (done : List Stp) : Option (List Nat × See) :=
  match ops[i]? with
  | none => none
  | some o =>
    match looksAtA tm o with
    | some bs => some ((targetOf tm o).filter fun b => match H.get b with | some k => k.rw | none => false, .few bs)
    | none =>
      match (List.range ops.size).filter fun j => j != i && !ordered ms i j with
      | [] => some (names (H.filter fun x => x.2.rw), .all fun _ => true)
      | others =>
        match others.flatMap (fun j => est.getD j [] ++ (match ops[j]? with | some p => targetOf tm p | none => [])), others.filterMap fun j => if j < i then (match (done.reverse)[j]? with | some s => if s.lo < s.hi then some (s.lo, s.hi) else none | none => none) else none with
        | mask, rs => some ([], .all fun b => !(mask.contains b || inRange rs b))

/-- A first guess at what each operation may turn. -/
def guess (P : Program) (ops : Array Oper) (H : Hp) : List Oper → List Value → List (List Nat)
  | [], _ => []
  | o :: l, tm =>
    match o.op with
    | .store .. => targetOf tm o :: guess P ops H l tm
    | .load .. | .fieldAddr .. | .indexAddr .. | .move _ | .assign _ | .slice .. =>
      [] :: guess P ops H l (putT tm o.dst (match wantedA ops tm o with
        | some true => match doOp P tm H 0 o with
          | some (v, _, _) => v
          | none => junk
        | _ => junk))
    | _ => targetOf tm o :: guess P ops H l (putT tm o.dst junk)

def isWriter (o : Oper) : Bool := match o.op with
  | .store .. => true
  | .mapUpdate .. => true
  | .call { callee := .builtin .append, args := _, argTypes := _ } => true
  | .call { callee := .builtin .copy, args := _, argTypes := _ } => true
  | _ => false

def staticFit (ops : Array Oper) : Bool := masksFit (masksOf ops.toList []) 0 ops.toList && slotsFit (masksOf ops.toList []) ops

/-! ### The same looks, quicker -/
def lnat (l : List Nat) (i : Nat) : Nat := List.rec (motive := fun _ => Nat → Nat) (fun _ => 0) (fun x _ ih i => Nat.rec (motive := fun _ => Nat) x (fun m _ => ih m) i) l i
theorem lnat_eq : ∀ (l : List Nat) (i : Nat), lnat l i = l.getD i 0
  | [], _ => by simp [lnat]
  | x :: l, 0 => rfl
  | x :: l, i + 1 => by
    show lnat l i = _
    rw [lnat_eq l i]; simp
def edgeMaskQ (ms : List Nat) : List Edge → Nat
  | [] => 0
  | e :: es => Nat.lor (bif Region.binds .any e then Nat.lor (Nat.shiftLeft 1 e.on) (lnat ms e.on) else 0) (edgeMaskQ ms es)
theorem edgeMaskQ_eq (ms : List Nat) : ∀ es : List Edge, edgeMaskQ ms es = edgeMask ms es
  | [] => rfl
  | e :: es => by
    simp only [edgeMaskQ, edgeMask, edgeMaskQ_eq ms es, lnat_eq]
    cases Region.binds .any e <;> rfl
/-- The masks, found with the list turned round. -/
def edgeMaskR (rs : List Nat) (i : Nat) : List Edge → Nat
  | [] => 0
  | e :: es => Nat.lor (bif Region.binds .any e then Nat.lor (Nat.shiftLeft 1 e.on) (lnat rs (i - 1 - e.on)) else 0) (edgeMaskR rs i es)
def masksR : List Oper → Nat → List Nat → List Nat
  | [], _, rs => rs.reverse
  | o :: os, i, rs => masksR os (i + 1) (edgeMaskR rs i o.after.toList :: rs)
def edgesBack (i : Nat) : List Edge → Bool
  | [] => true
  | e :: es => (!Region.binds .any e || Nat.blt e.on i) && edgesBack i es
theorem blt_lt {a b : Nat} (h : Nat.blt a b = true) : a < b := by
  unfold Nat.blt at h
  rw [Nat.ble_eq] at h; exact h
theorem edgesBack_ok {i : Nat} : ∀ {es : List Edge}, edgesBack i es = true → es.all (fun e => !Region.binds .any e || decide (e.on < i)) = true
  | [], _ => rfl
  | e :: es, h => by
    simp only [edgesBack, Bool.and_eq_true, Bool.or_eq_true] at h
    simp only [List.all_cons, edgesBack_ok h.2, Bool.and_true, Bool.or_eq_true, decide_eq_true_eq]
    rcases h.1 with h | h
    · exact .inl h
    · exact .inr (blt_lt h)
def masksFitQ (ms : List Nat) : Nat → List Oper → Bool
  | _, [] => true
  | i, o :: os => (match lnat ms i with | m => Nat.beq m (edgeMaskQ ms o.after.toList) && Nat.blt m (Nat.pow 2 i)) && edgesBack i o.after.toList && masksFitQ ms (i + 1) os
theorem masksFitQ_ok {ms : List Nat} : ∀ {l : List Oper} {i : Nat}, masksFitQ ms i l = true → masksFit ms i l = true
  | [], _, _ => rfl
  | o :: os, i, h => by
    simp only [masksFitQ, Bool.and_eq_true, edgeMaskQ_eq, lnat_eq] at h
    obtain ⟨⟨⟨h1, h2⟩, h3⟩, h4⟩ := h
    have h1 := Nat.eq_of_beq_eq_true h1
    simp only [masksFit, masksFitQ_ok h4, edgesBack_ok h3, Bool.and_true, Bool.and_eq_true, beq_iff_eq, decide_eq_true_eq]
    exact ⟨h1, blt_lt h2⟩
def dstL : Nat → List Oper → List (Nat × Nat)
  | _, [] => []
  | i, o :: os => match o.dst with
    | some d => (d, i) :: dstL (i + 1) os
    | none => dstL (i + 1) os
theorem dstL_mem {d : Nat} {p : Oper} : ∀ {l : List Oper} {i j : Nat}, l[j]? = some p → p.dst = some d → (d, i + j) ∈ dstL i l
  | [], _, _, h, _ => by simp at h
  | o :: os, i, 0, h, hd => by
    simp at h
    subst h
    simp only [dstL, hd]
    simp
  | o :: os, i, j + 1, h, hd => by
    have ih := dstL_mem (l := os) (i := i + 1) (j := j) (by simpa using h) hd
    rw [show i + 1 + j = i + (j + 1) by omega] at ih
    simp only [dstL]
    split
    · exact List.mem_cons_of_mem _ ih
    · exact ih
def ordQ (ms : List Nat) (i j : Nat) : Bool := Nat.testBit (lnat ms i) j || Nat.testBit (lnat ms j) i
/-- Where x is put, it is op i itself, or an op ordered with it. -/
def slotQ (ms : List Nat) (i x : Nat) (dl : List (Nat × Nat)) : Bool := List.rec (motive := fun _ => Bool) true (fun p _ ih => (bif Nat.beq p.1 x then Nat.beq p.2 i || ordQ ms i p.2 else true) && ih) dl
theorem slotQ_mem {ms : List Nat} {i x d j : Nat} : ∀ {dl : List (Nat × Nat)}, slotQ ms i x dl = true → (d, j) ∈ dl → d = x → j ≠ i → ordQ ms i j = true
  | [], _, h, _, _ => by cases h
  | p :: dl, h, hm, hd, hj => by
    have h : ((bif Nat.beq p.1 x then Nat.beq p.2 i || ordQ ms i p.2 else true) && slotQ ms i x dl) = true := h
    simp only [Bool.and_eq_true] at h
    rcases List.mem_cons.1 hm with he | hm
    · subst he
      have hb : Nat.beq d x = true := by rw [hd]; exact Nat.beq_refl x
      have h1 := h.1
      rw [hb] at h1
      simp only [cond_true, Bool.or_eq_true] at h1
      rcases h1 with h1 | h1
      · exact absurd (Nat.eq_of_beq_eq_true h1) hj
      · exact h1
    · exact slotQ_mem h.2 hm hd hj
/-- No other op puts x. -/
def oneQ (i x : Nat) (dl : List (Nat × Nat)) : Bool := List.rec (motive := fun _ => Bool) true (fun p _ ih => (bif Nat.beq p.1 x then Nat.beq p.2 i else true) && ih) dl
theorem oneQ_mem {i x d j : Nat} : ∀ {dl : List (Nat × Nat)}, oneQ i x dl = true → (d, j) ∈ dl → d = x → j = i
  | [], _, h, _ => by cases h
  | p :: dl, h, hm, hd => by
    have h : ((bif Nat.beq p.1 x then Nat.beq p.2 i else true) && oneQ i x dl) = true := h
    simp only [Bool.and_eq_true] at h
    rcases List.mem_cons.1 hm with he | hm
    · subst he
      have hb : Nat.beq d x = true := by rw [hd]; exact Nat.beq_refl x
      have h1 := h.1
      rw [hb] at h1
      exact Nat.eq_of_beq_eq_true h1
    · exact oneQ_mem h.2 hm hd
def allQ (f : Nat → Bool) : List Nat → Bool
  | [] => true
  | x :: r => f x && allQ f r
theorem allQ_mem {f : Nat → Bool} : ∀ {l : List Nat} {x : Nat}, allQ f l = true → x ∈ l → f x = true
  | [], _, _, h => by cases h
  | y :: l, x, h, hx => by
    simp only [allQ, Bool.and_eq_true] at h
    rcases List.mem_cons.1 hx with rfl | hx
    · exact h.1
    · exact allQ_mem h.2 hx
def slotsQ (ms : List Nat) (ops : Array Oper) (dl : List (Nat × Nat)) : Nat → List Oper → Bool
  | _, [] => true
  | i, o :: os => (match o.dst with
    | some d => oneQ i d dl
    | none => true) && allQ (fun x => slotQ ms i x dl) (slotsOf ops o) && slotsQ ms ops dl (i + 1) os
theorem slotsQ_at {ms : List Nat} {ops : Array Oper} {dl : List (Nat × Nat)} : ∀ {l : List Oper} {i j : Nat} {o : Oper}, slotsQ ms ops dl i l = true → l[j]? = some o →
    (∀ d, o.dst = some d → oneQ (i + j) d dl = true) ∧ ∀ x ∈ slotsOf ops o, slotQ ms (i + j) x dl = true
  | [], _, _, _, _, h => by simp at h
  | p :: os, i, 0, o, h, ho => by
    simp at ho
    subst ho
    simp only [slotsQ, Bool.and_eq_true] at h
    refine ⟨fun d hd => ?_, fun x hx => allQ_mem h.1.2 hx⟩
    have h1 := h.1.1
    rw [hd] at h1
    exact h1
  | p :: os, i, j + 1, o, h, ho => by
    simp only [slotsQ, Bool.and_eq_true] at h
    have := slotsQ_at (j := j) h.2 (by simpa using ho)
    rwa [show i + 1 + j = i + (j + 1) by omega] at this
theorem slotsQ_ok {ms : List Nat} {ops : Array Oper} (h : slotsQ ms ops (dstL 0 ops.toList) 0 ops.toList = true) : slotsFit ms ops = true := by
  unfold slotsFit
  rw [List.all_eq_true]
  rintro ⟨o, i⟩ hs
  rw [List.all_eq_true]
  rintro ⟨p, j⟩ ht
  rw [List.mem_zipIdx_iff_getElem?] at hs ht
  dsimp only at hs ht ⊢
  by_cases hij : i = j
  · subst hij; simp
  · obtain ⟨h1, h2⟩ := slotsQ_at h hs
    rw [Nat.zero_add] at h1 h2
    have e0 : (i == j) = false := by simpa using hij
    rw [e0, Bool.false_or, Bool.and_eq_true]
    constructor
    · cases hd : o.dst with
      | none => rfl
      | some d =>
        simp only [Option.isNone_some, Bool.false_or, bne_iff_ne, ne_eq]
        intro he
        have hm := dstL_mem (i := 0) ht he.symm
        rw [Nat.zero_add] at hm
        exact hij (oneQ_mem (h1 d hd) hm rfl).symm
    · rw [List.all_eq_true]
      intro x hx
      by_cases hpx : p.dst = some x
      · have hm := dstL_mem (i := 0) ht hpx
        rw [Nat.zero_add] at hm
        have := slotQ_mem (h2 x hx) hm rfl (fun e => hij e.symm)
        unfold ordQ at this
        rw [lnat_eq, lnat_eq] at this
        simp only [Bool.or_eq_true, bne_iff_ne]
        right
        simpa [ordered] using this
      · simp only [Bool.or_eq_true, bne_iff_ne]
        exact .inl hpx
def staticQ (ms : List Nat) (ops : Array Oper) : Bool := masksFitQ ms 0 ops.toList && slotsQ ms ops (dstL 0 ops.toList) 0 ops.toList

/-- The heap behind all steps, quicker. -/
def hpF : List Stp → Hp → Hp
  | [], H => H
  | s :: ss, H => hpF ss (if s.ran then (bif Nat.beq s.lo s.hi && s.V.all (fun x => !s.wr x.1) then H else merge s.touch s.H' H) else H)
theorem hpF_get : ∀ {ss : List Stp} {H1 H2 : Hp}, (∀ s ∈ ss, ∀ b, s.wr b = true → ∃ k, s.V.get b = some k) → (∀ b, H1.get b = H2.get b) → ∀ b, (hpF ss H1).get b = (hpR ss H2).get b
  | [], _, _, _, h, b => h b
  | s :: ss, H1, H2, hw, h, b => by
    simp only [hpF, hpR]
    refine hpF_get (fun t ht => hw t (by simp [ht])) (fun c => ?_) b
    cases hr : s.ran with
    | false => exact h c
    | true =>
      simp only [if_true]
      cases hq : (Nat.beq s.lo s.hi && s.V.all (fun x => !s.wr x.1)) with
      | false =>
        simp only [cond_false, merge_get, h c]
      | true =>
        simp only [Bool.and_eq_true] at hq
        have hlh := Nat.eq_of_beq_eq_true hq.1
        have ht : s.touch c = false := by
          cases hwc : s.wr c with
          | true =>
            obtain ⟨k', hk'⟩ := hw s (by simp) c hwc
            have := hp_get_all hq.2 hk'
            dsimp only at this
            rw [hwc] at this
            cases this
          | false =>
            simp only [Stp.touch, touchOf, hwc, Bool.false_or, hlh]
            simp only [Bool.and_eq_false_iff, decide_eq_false_iff_not]
            omega
        simp only [cond_true, merge_get, ht, h c]
        rfl
def evalDraw (P : Program) (op : List Value → Hp → Nat → Oper → Option (Value × Hp × Nat)) (ops : Array Oper) (tm : List Value) (H : Hp) (nx : Nat) : Option (List Value × Hp × Nat) :=
  match masksR ops.toList 0 [] with
  | ms => match (if ops.toList.any isWriter then guess P ops H ops.toList tm else []) with
    | est => match drawGo op ops (cutOf ops ms est) 0 [] ops.toList tm H nx with
      | some ss => if staticQ ms ops && viewsFit ms ss && P.follows .mixedOrders then some (tmR ss tm, hpF ss H, nxR ss nx) else none
      | none => none

/-- With any cut. -/
theorem drawn_ok {op : List Value → Hp → Nat → Oper → Option (Value × Hp × Nat)} {r : Option Nat} (hlk : Looks op) (hop : ∀ {tm H nx o v H' nx'}, op tm H nx o = some (v, H', nx') → OpOk P r o tm H nx v H' nx')
    {id : Nat} {ops : Array Oper} {cut : Nat → List Value → Hp → List Stp → Option (List Nat × See)} {tm : List Value} {ds : List Nat} {nx : Nat} {ss : List Stp} (hss : drawGo op ops cut 0 [] ops.toList tm H nx = some ss)
    (hc : (staticFit ops && viewsFit (masksOf ops.toList []) ss && P.follows .mixedOrders) = true) : CodeOk P r (.region id ops true) tm ds H nx ⟨.normal, tmR ss tm, ds, hpR ss H, nxR ss nx⟩ := by
  simp only [Bool.and_eq_true, staticFit] at hc
  obtain ⟨⟨⟨h1, h2⟩, h3⟩, h4⟩ := hc
  obtain ⟨D, hs, ht⟩ := drawOk_st (drawGo_ok hlk hop hss) h1 h2 h3
  have := codeOk_draw (id := id) (ds := ds) h4 D (HF := hpR ss H) (fun b k hb => by rw [hs]; exact hb)
  rw [ht] at this
  exact this
theorem evalDraw_ok {op : List Value → Hp → Nat → Oper → Option (Value × Hp × Nat)} {r : Option Nat} (hlk : Looks op) (hop : ∀ {tm H nx o v H' nx'}, op tm H nx o = some (v, H', nx') → OpOk P r o tm H nx v H' nx')
    {id : Nat} {ops : Array Oper} {tm tm' : List Value} {ds : List Nat} {H' : Hp} {nx nx' : Nat} (h : evalDraw P op ops tm H nx = some (tm', H', nx')) : CodeOk P r (.region id ops true) tm ds H nx ⟨.normal, tm', ds, H', nx'⟩ := by
  unfold evalDraw at h
  dsimp only at h
  split at h
  case h_2 => cases h
  rename_i ss hss
  split at h
  case isFalse => cases h
  rename_i hc
  cases h
  simp only [Bool.and_eq_true, staticQ] at hc
  obtain ⟨⟨⟨h1, h2⟩, h3⟩, h4⟩ := hc
  have h1 := masksFitQ_ok h1
  have h2 := slotsQ_ok h2
  have hwr : ∀ s ∈ ss, ∀ b, s.wr b = true → ∃ k, s.V.get b = some k := fun s hsm b hb => by
    obtain ⟨j, hj, rfl⟩ := List.getElem_of_mem hsm
    obtain ⟨hl, hall⟩ := drawGo_ok (r := r) hlk hop hss
    have hj2 : j < ops.toList.length := by omega
    exact (hall j _ _ (List.getElem?_eq_getElem hj2) (List.getElem?_eq_getElem hj)).wrin b hb
  obtain ⟨D, hs, ht⟩ := drawOk_st (drawGo_ok hlk hop hss) h1 h2 h3
  have := codeOk_draw (id := id) (ds := ds) h4 D (HF := hpF ss H) (fun b k hb => by rw [hs, ← hpF_get (H1 := H) hwr (fun _ => rfl) b]; exact hb)
  rw [ht] at this
  exact this
end Go.En
