/- The engine, part C: single operations on abstract states, and that the world's operations do the same. -/
import Derived.Test.YtecplekkoikmmaaGreatEnB
noncomputable section
namespace Go.En
set_option linter.unusedVariables false
variable {P : Program} {φ : Ren} {H : Hp} {K : Nat → Prop} {w : World}

/-- The element at i. -/
def lg (l : List Value) (i : Nat) : Option Value := List.rec (motive := fun _ => Nat → Option Value) (fun _ => none) (fun x _ ih i => Nat.rec (motive := fun _ => Option Value) (some x) (fun m _ => ih m) i) l i
theorem lg_eq : ∀ (l : List Value) (i : Nat), lg l i = l[i]?
  | [], _ => by simp [lg]
  | x :: l, 0 => rfl
  | x :: l, i + 1 => by
    show lg l i = _
    rw [lg_eq l i]; simp
/-- An operand's abstract value. -/
def opv (tm : List Value) : Operand → Option Value
  | .tmp t => match lg tm t with
    | some (.complex _ _ _) => none
    | v => v
  | .const v => if av v then some v else none
  | .func f => some (.func (.func f) #[] #[])
  | .global _ => none

theorem opv_rel {tm : List Value} {a : Act} (h : TRel φ tm a.tmps) {x : Operand} {v : Value} (hx : opv tm x = some v) : VRel φ v (a.eval x) := by
  cases x with
  | tmp t =>
    simp only [opv, lg_eq] at hx
    cases ht : tm[t]? with
    | none => simp [ht] at hx
    | some u =>
      rw [ht] at hx
      have hu : u = v := by
        cases u <;> simp at hx <;> exact hx
      subst hu
      rcases h.2 t u ht with rfl | ⟨v', h1, h2⟩
      · simp [junk] at hx
      · simp only [Act.eval, Array.getD_eq_getD_getElem?, h1]; exact h2
  | const c =>
    simp only [opv] at hx
    split at hx
    · cases hx; exact av_rel (by assumption)
    · cases hx
  | func f => simp only [opv] at hx; cases hx; exact .func' (.func f) (by simp [LRel]) (by simp [LRel])
  | global g => simp [opv] at hx

/-- A computation that touches nothing but the program's tables. -/
def plain (P : Program) {α : Type} : Sem α → Option α
  | .pure a => some a
  | .program k => plain P (k P)
  | .mark _ k => plain P k
  | _ => none
theorem plain_run {α : Type} (s : Sem α) : ∀ {a : α} (w : World), plain P s = some a → s.run P w = .ok a w := by
  induction s with
  | pure b => intro a w h; simp [plain] at h; subst h; rfl
  | program k ih => intro a w h; simp [plain] at h; simpa [Sem.run] using ih P w h
  | mark m k ih => intro a w h; simp [plain] at h; simpa [Sem.run] using ih w h
  | _ => intro a w h; simp [plain] at h

/-- A scalar result. -/
def sc (P : Program) (s : Sem Value) : Option Value :=
  match plain P s with
  | some v => if av v then some v else none
  | none => none
theorem sc_run {s : Sem Value} {v : Value} (h : sc P s = some v) (w : World) : s.run P w = .ok v w ∧ VRel φ v v := by
  unfold sc at h
  split at h
  · rename_i u hu
    split at h
    · cases h; exact ⟨plain_run s w hu, av_rel (by assumption)⟩
    · cases h
  · cases h

/-- 'x == y' beyond scalars: against nil. -/
def nilEq : Value → Value → Option Bool
  | .slice (some _) _ _, .slice none _ _ => some false
  | .slice none _ _, .slice (some _) _ _ => some false
  | .func .., .nilFunc => some false
  | .nilFunc, .func .. => some false
  | .pointer (some _), .pointer none => some false
  | .pointer none, .pointer (some _) => some false
  | .map (some _), .map none => some false
  | .map none, .map (some _) => some false
  | _, _ => none

/-! ### Quick ways for integers -/
def keqF : IntKind → IntKind → Bool
  | .i64, .i64 => true
  | .u64, .u64 => true
  | .i32, .i32 => true
  | .u32, .u32 => true
  | .i16, .i16 => true
  | .u16, .u16 => true
  | .i8, .i8 => true
  | .u8, .u8 => true
  | _, _ => false
theorem keqF_eq {a b : IntKind} (h : keqF a b = true) : a = b := by cases a <;> cases b <;> first | rfl | cases h
def iltF : Int → Int → Bool
  | .ofNat a, .ofNat b => Nat.blt a b
  | .ofNat _, .negSucc _ => false
  | .negSucc _, .ofNat _ => true
  | .negSucc a, .negSucc b => Nat.blt b a
theorem blt_dec (a b : Nat) : Nat.blt a b = decide (a < b) := by
  rw [Bool.eq_iff_iff, decide_eq_true_eq]
  unfold Nat.blt
  rw [Nat.ble_eq]; exact Iff.rfl
theorem iltF_eq (x y : Int) : iltF x y = decide (x < y) := by
  cases x with
  | ofNat a => cases y with
    | ofNat b =>
      show Nat.blt a b = _
      rw [blt_dec, Bool.eq_iff_iff, decide_eq_true_eq, decide_eq_true_eq]
      exact Int.ofNat_lt.symm
    | negSucc b =>
      show false = _
      symm; rw [decide_eq_false_iff_not]
      have : Int.negSucc b < 0 := Int.negSucc_lt_zero b
      have h2 : (0 : Int) ≤ Int.ofNat a := Int.natCast_nonneg a
      omega
  | negSucc a => cases y with
    | ofNat b =>
      show true = _
      symm; rw [decide_eq_true_eq]
      have : Int.negSucc a < 0 := Int.negSucc_lt_zero a
      have h2 : (0 : Int) ≤ Int.ofNat b := Int.natCast_nonneg b
      omega
    | negSucc b =>
      show Nat.blt b a = _
      rw [blt_dec, Bool.eq_iff_iff, decide_eq_true_eq, decide_eq_true_eq, Int.negSucc_eq, Int.negSucc_eq]
      omega
def ieqF : Int → Int → Bool
  | .ofNat a, .ofNat b => Nat.beq a b
  | .negSucc a, .negSucc b => Nat.beq a b
  | _, _ => false
theorem ieqF_eq (x y : Int) : ieqF x y = (x == y) := by
  rw [Bool.eq_iff_iff, beq_iff_eq]
  cases x with
  | ofNat a => cases y with
    | ofNat b =>
      show Nat.beq a b = true ↔ _
      rw [Nat.beq_eq]
      exact ⟨fun h => by rw [h], fun h => Int.ofNat.inj h⟩
    | negSucc b => exact ⟨(fun h => by cases h), (fun h => by cases h)⟩
  | negSucc a => cases y with
    | ofNat b => exact ⟨(fun h => by cases h), (fun h => by cases h)⟩
    | negSucc b =>
      show Nat.beq a b = true ↔ _
      rw [Nat.beq_eq]
      exact ⟨fun h => by rw [h], fun h => Int.negSucc.inj h⟩
def wrF (k : IntKind) (z : Int) : Int := match k, z with
  | .i64, .ofNat m => bif Nat.blt m 9223372036854775808 then .ofNat m else IntKind.i64.wrap (.ofNat m)
  | k, z => k.wrap z
theorem wrF_eq (k : IntKind) (z : Int) : wrF k z = k.wrap z := by
  unfold wrF
  split
  · rename_i m
    cases h : Nat.blt m 9223372036854775808 with
    | false => rfl
    | true =>
      rw [blt_dec, decide_eq_true_eq] at h
      show Int.ofNat m = _
      have : (Int.ofNat m) = (m : Int) := rfl
      rw [this]
      simp only [IntKind.wrap, IntKind.signed, IntKind.bits]
      simp
      omega
  · rfl
def binF (op : BinOp) (a b : Value) : Option Value := match a, b with
  | .int k x, .int k' y => bif keqF k k' then (match op with
      | .add => some (.int k (wrF k (x + y)))
      | .sub => some (.int k (wrF k (x - y)))
      | .mul => some (.int k (wrF k (x * y)))
      | .eql => some (.bool (ieqF x y))
      | .neq => some (.bool (!ieqF x y))
      | .lss => some (.bool (iltF x y))
      | .leq => some (.bool (!iltF y x))
      | .gtr => some (.bool (iltF y x))
      | .geq => some (.bool (!iltF x y))
      | _ => none) else none
  | _, _ => none
theorem not_ilt (x y : Int) : (!iltF y x) = decide (x ≤ y) := by
  rw [iltF_eq, Bool.eq_iff_iff, Bool.not_eq_true', decide_eq_false_iff_not, decide_eq_true_eq]
  omega
theorem binF_ok {op : BinOp} {a b v : Value} (h : binF op a b = some v) (t : TypeId) (xo yo : Operand) : plain P (do eqGuard op t xo yo a b; binOp op t a b) = some v ∧ (∃ k x y, a = .int k x ∧ b = .int k y) ∧ av v = true := by
  unfold binF at h
  split at h
  case h_2 => cases h
  rename_i k x k' y
  cases hk : keqF k k' with
  | false => rw [hk] at h; cases h
  | true =>
    have := keqF_eq hk
    subst this
    rw [hk] at h
    simp only [cond_true] at h
    cases op <;> simp only [Option.some.injEq, reduceCtorEq] at h <;> subst h <;> refine ⟨?_, ⟨k, x, y, rfl, rfl⟩, rfl⟩
    · show plain P (if k ≠ k then stuck "BinOp: operands of different kinds" else Op.intArith .add k x y) = _
      rw [if_neg (by simp), wrF_eq]; rfl
    · show plain P (if k ≠ k then stuck "BinOp: operands of different kinds" else Op.intArith .sub k x y) = _
      rw [if_neg (by simp), wrF_eq]; rfl
    · show plain P (if k ≠ k then stuck "BinOp: operands of different kinds" else Op.intArith .mul k x y) = _
      rw [if_neg (by simp), wrF_eq]; rfl
    all_goals first
      | (show plain P (if k ≠ k then stuck "BinOp: operands of different kinds" else Op.intCmp .eql x y) = _
         rw [if_neg (by simp), ieqF_eq]; rfl)
      | (show plain P (if k ≠ k then stuck "BinOp: operands of different kinds" else Op.intCmp .neq x y) = _
         rw [if_neg (by simp), ieqF_eq]; rfl)
      | (show plain P (if k ≠ k then stuck "BinOp: operands of different kinds" else Op.intCmp .lss x y) = _
         rw [if_neg (by simp), iltF_eq]; rfl)
      | (show plain P (if k ≠ k then stuck "BinOp: operands of different kinds" else Op.intCmp .leq x y) = _
         rw [if_neg (by simp), not_ilt]; rfl)
      | (show plain P (if k ≠ k then stuck "BinOp: operands of different kinds" else Op.intCmp .gtr x y) = _
         rw [if_neg (by simp), iltF_eq]; rfl)
      | (show plain P (if k ≠ k then stuck "BinOp: operands of different kinds" else Op.intCmp .geq x y) = _
         rw [if_neg (by simp), not_ilt]; rfl)
/-- A list's element, by raw recursion. -/
def gl {α : Type} (l : List α) (i : Nat) : Option α := List.rec (motive := fun _ => Nat → Option α) (fun _ => none) (fun x _ ih i => Nat.rec (motive := fun _ => Option α) (some x) (fun m _ => ih m) i) l i
theorem gl_eq {α : Type} : ∀ (l : List α) (i : Nat), gl l i = l[i]?
  | [], _ => by simp [gl]
  | x :: l, 0 => rfl
  | x :: l, i + 1 => by
    show gl l i = _
    rw [gl_eq l i]; simp
/-- A type's row. -/
def infoF (P : Program) (t : TypeId) : Option TypeInfo :=
  match gl P.types.toList t with
  | some i => some i
  | none => P.info? t
theorem infoF_eq (P : Program) (t : TypeId) : infoF P t = P.info? t := by
  unfold infoF
  split
  · rename_i i h
    rw [gl_eq] at h
    have hlt : t < P.types.toList.length := by
      obtain ⟨h1, -⟩ := List.getElem?_eq_some_iff.1 h
      exact h1
    have hlt' : t < P.types.size := by simpa using hlt
    unfold Tables.info?
    rw [if_pos hlt', ← h, Array.getElem?_toList]
  · rfl
def undF (P : Program) (t : TypeId) : Option TypeDesc :=
  match infoF P t with
  | some i => match i.desc with
    | .named _ u => match infoF P u with
      | some j => some j.desc
      | none => none
    | d => some d
  | none => none
theorem undF_eq (P : Program) (t : TypeId) : undF P t = P.underlying t := by
  unfold undF Program.underlying
  simp only [infoF_eq]
  cases h : P.info? t with
  | none => rfl
  | some i =>
    obtain ⟨d⟩ := i
    cases d with
    | named n u => simp only []; cases P.info? u <;> rfl
    | _ => rfl
/-- A function. -/
def funF (P : Program) (f : FuncId) : Option Func := gl P.funcs.toList f
theorem funF_eq (P : Program) (f : FuncId) : funF P f = P.funcs[f]? := by
  rw [funF, gl_eq, Array.getElem?_toList]

/-- A comparison with nil. -/
def fitsD : TypeDesc → Value → Bool
  | .slice _, .slice _ _ _ => true
  | .map _ _, .map _ => true
  | .pointer _, .pointer _ => true
  | .func _ _ _, .func _ _ _ => true
  | .func _ _ _, .nilFunc => true
  | _, _ => false
def nilCmp (P : Program) (t : TypeId) (a b : Value) : Option Bool := match nilEq a b with
  | some r => match undF P t with
    | some d => if fitsD d a then some r else none
    | none => none
  | none => none
theorem nilEq_rel {a b a' b' : Value} {r : Bool} (h : nilEq a b = some r) (ha : VRel φ a a') (hb : VRel φ b b') : nilEq a' b' = some r := by
  unfold nilEq at h
  split at h <;> first | (cases h; done) | (cases ha <;> cases hb <;> exact h)
theorem fitsD_rel {d : TypeDesc} {a a' : Value} (h : fitsD d a = true) (ha : VRel φ a a') : fitsD d a' = true := by
  unfold fitsD at h
  split at h <;> first | (cases h; done) | (cases ha <;> rfl)
theorem run_nilCmp {t : TypeId} {d : TypeDesc} {a b : Value} {r : Bool} (hu : P.underlying t = some d) (hf : fitsD d a = true) (h : nilEq a b = some r) (w : World) : (Op.equal t a b).run P w = .ok r w := by
  unfold Op.equal Op.maxDepth
  unfold Op.equalIn
  simp only [Sem.run_bind, run_underlying hu, Result.andThen_ok]
  unfold nilEq at h
  unfold fitsD at hf
  split at h <;> first | (cases h; done) | (cases h; cases d <;> first | (simp at hf; done) | rfl)
theorem nilCmp_ok {t : TypeId} {x y : Operand} {a b a' b' : Value} {r : Bool} (h : nilCmp P t a b = some r) (ha : VRel φ a a') (hb : VRel φ b b') (w : World) :
    (do eqGuard .eql t x y a' b'; binOp .eql t a' b' : Sem Value).run P w = .ok (.bool r) w ∧ (do eqGuard .neq t x y a' b'; binOp .neq t a' b' : Sem Value).run P w = .ok (.bool (!r)) w := by
  unfold nilCmp at h
  split at h
  case h_2 => cases h
  rename_i r0 hr
  split at h
  case h_2 => cases h
  rename_i d hd
  split at h
  case isFalse => cases h
  rename_i hf
  cases h
  rw [undF_eq] at hd
  have hr' := nilEq_rel hr ha hb
  have he := run_nilCmp hd (fitsD_rel hf ha) hr' w
  unfold nilEq at hr'
  split at hr' <;> first | (cases hr'; done) | (constructor <;> simp [eqGuard, binOp, he])
def doBin (P : Program) (op : BinOp) (t : TypeId) (x y : Operand) (a b : Value) : Option Value :=
  match binF op a b with
  | some v => some v
  | none => if av a && av b then sc P (do eqGuard op t x y a b; binOp op t a b) else match op with
    | .eql => (nilCmp P t a b).map Value.bool
    | .neq => (nilCmp P t a b).map fun r => .bool (!r)
    | _ => none

theorem doBin_ok {op : BinOp} {t : TypeId} {x y : Operand} {a b a' b' v : Value} (h : doBin P op t x y a b = some v) (ha : VRel φ a a') (hb : VRel φ b b') (w : World) :
    (do eqGuard op t x y a' b'; binOp op t a' b' : Sem Value).run P w = .ok v w ∧ VRel φ v v := by
  unfold doBin at h
  split at h
  · rename_i u hu
    cases h
    obtain ⟨h1, ⟨k, p, q, rfl, rfl⟩, h2⟩ := binF_ok (P := P) hu t x y
    cases ha
    cases hb
    exact ⟨plain_run _ w h1, av_rel h2⟩
  · split at h
    · rename_i hv
      simp at hv
      rw [av_eq hv.1 ha, av_eq hv.2 hb]
      exact sc_run h w
    · split at h
      · simp only [Option.map_eq_some_iff] at h
        obtain ⟨r, hr, rfl⟩ := h
        exact ⟨(nilCmp_ok (x := x) (y := y) hr ha hb w).1, .bool _⟩
      · simp only [Option.map_eq_some_iff] at h
        obtain ⟨r, hr, rfl⟩ := h
        exact ⟨(nilCmp_ok (x := x) (y := y) hr ha hb w).2, .bool _⟩
      · cases h

def doUn (P : Program) (op : UnOp) (a : Value) : Option Value := match op, a with
  | .not, .bool b => some (.bool (!b))
  | op, a => if av a then sc P (Op.unary op a) else none
theorem doUn_ok {op : UnOp} {a a' v : Value} (h : doUn P op a = some v) (ha : VRel φ a a') (w : World) : (Op.unary op a').run P w = .ok v w ∧ VRel φ v v := by
  unfold doUn at h
  split at h
  · cases h; cases ha; exact ⟨rfl, .bool _⟩
  · split at h
    · rename_i hv; rw [av_eq hv ha]; exact sc_run h w
    · cases h

def doConv (P : Program) (s d : TypeId) (a : Value) : Option Value := if av a then sc P (convert s d a) else none
theorem doConv_ok {s d : TypeId} {a a' v : Value} (h : doConv P s d a = some v) (ha : VRel φ a a') (w : World) : (convert s d a').run P w = .ok v w ∧ VRel φ v v := by
  unfold doConv at h
  split at h
  · rename_i hv; rw [av_eq hv ha]; exact sc_run h w
  · cases h

theorem cells_one {v : Value} (h : v.oneCell' = true) : v.cells = #[v] := by cases v <;> first | rfl | simp [Value.oneCell'] at h
theorem VRel.cells {v v' : Value} (h : VRel φ v v') (hn : v.oneCell' = true ∨ ∃ cs, v = .agg cs) : LRel φ v.cells.toList v'.cells.toList := by
  rcases hn with hn | ⟨cs, rfl⟩
  · rw [cells_one hn, cells_one (by rw [h.one]; exact hn)]
    exact ⟨h, trivial⟩
  · obtain ⟨ys, rfl, hl⟩ := h.agg_inv
    exact hl

def flatV : Value → Bool
  | .tuple _ => false
  | _ => true
theorem VRel.cells' {v v' : Value} (h : VRel φ v v') (hn : flatV v = true) : LRel φ v.cells.toList v'.cells.toList := by
  refine h.cells ?_
  cases v <;> simp [flatV, Value.oneCell'] at hn ⊢

def aggD : TypeDesc → Bool
  | .struct _ | .array _ _ => true
  | _ => false

theorem run_isAgg {t : TypeId} {d : TypeDesc} (h : P.underlying t = some d) (w : World) : (isAgg t).run P w = .ok (aggD d) w := by
  unfold isAgg
  simp only [Sem.run_bind, run_underlying h, Result.andThen_ok]
  cases d <;> rfl
theorem run_sizeOf {t : TypeId} {i : TypeInfo} (h : P.info? t = some i) (w : World) : (sizeOf t).run P w = .ok i.size w := by
  simp [sizeOf, typeInfo, h]
theorem run_zeroValue' {t : TypeId} {i : TypeInfo} {v : Value} (h : P.info? t = some i) (hz : i.zero = some v) (w : World) : (zeroValue t).run P w = .ok v w := by
  simp [zeroValue, typeInfo, h, hz]

/-- Loading a variable. -/
def doLoad (P : Program) (H : Hp) (t : TypeId) : Value → Option Value
  | .pointer (some ⟨b, o, none⟩) =>
    match H.get b, undF P t, infoF P t with
    | some (.cells cs _), some d, some i =>
      if aggD d then (if o + i.size ≤ cs.length then some (.agg ((cs.drop o).take i.size).toArray) else none)
      else cs[o]?
    | _, _, _ => none
  | _ => none

theorem Addr.add_none (b o n : Nat) : (⟨b, o, none⟩ : Addr).add n = ⟨b, o + n, none⟩ := by
  unfold Addr.add; split
  · rename_i h; subst h; rfl
  · rfl

theorem doLoad_ok (g : Good φ H K w) {t : TypeId} {a a' v : Value} (h : doLoad P H t a = some v) (ha : VRel φ a a') :
    ∃ v', (Instr.loadAt t a').run P w = .ok v' w ∧ VRel φ v v' := by
  unfold doLoad at h
  simp only [infoF_eq, undF_eq] at h
  split at h
  · rename_i b o
    cases ha with
    | ptr _ _ L hL =>
      split at h
      · rename_i cs ro d i hb hu hi
        simp only [Instr.loadAt, Instr.sureAddr, loadVar]
        by_cases hd : aggD d = true
        · simp only [hd, if_true] at h
          split at h
          · rename_i hn
            cases h
            obtain ⟨us, hl, hc, hr⟩ := g.read hb hL o i.size hn
            have hrun := run_loadCells_list (P := P) w ⟨L.blk, L.off + o, none⟩ us (fun j v hv => by rw [Addr.add_none]; exact hc j v hv)
            rw [hl] at hrun
            refine ⟨.agg us.toArray, by simp [run_isAgg hu, hd, run_sizeOf hi, hrun], .agg' (by simpa using hr)⟩
          · cases h
        · have hd : aggD d = false := by simpa using hd
          simp only [hd, if_false, Bool.false_eq_true] at h
          have ho : o + 1 ≤ cs.length := (List.getElem?_eq_some_iff.1 h).1
          obtain ⟨us, hl, hc, hr⟩ := g.read hb hL o 1 ho
          match us, hl with
          | [u], _ =>
            have hu1 := hc 0 u rfl
            have h2 : (List.drop o cs).take 1 = [v] := by
              apply List.ext_getElem?
              intro j
              cases j with
              | zero => simp [h]
              | succ j => simp; omega
            rw [h2] at hr
            refine ⟨u, ?_, hr.1⟩
            simp at hu1
            simp [run_isAgg hu, hd, hu1]
      · cases h
  · cases h

/-- Storing a variable. -/
def doStore (P : Program) (H : Hp) (t : TypeId) (va vx : Value) : Option Hp :=
  match va with
  | .pointer (some ⟨b, o, none⟩) =>
    match H.get b, infoF P t with
    | some (.cells cs false), some i =>
      if flatV vx && vx.cells.toList.length == i.size && oneL vx.cells.toList && decide (o + vx.cells.toList.length ≤ cs.length) then
        (if vx.cells.toList.isEmpty then some H else some (H.set b (.cells (spl cs o vx.cells.toList) false)))
      else none
    | _, _ => none
  | _ => none

theorem doStore_ok (g : Good φ H K w) {t : TypeId} {a a' x x' : Value} {H' : Hp} (h : doStore P H t a x = some H') (ha : VRel φ a a') (hx : VRel φ x x') :
    ∃ w', (Instr.storeAt t a' x').run P w = .ok () w' ∧ Good φ H' K w' ∧ Went K w w' := by
  unfold doStore at h
  simp only [infoF_eq] at h
  split at h
  · rename_i b o
    cases ha with
    | ptr _ _ L hL =>
      split at h
      · rename_i cs i hb hi
        split at h
        · rename_i hc
          simp only [Bool.and_eq_true, beq_iff_eq, decide_eq_true_eq] at hc
          obtain ⟨⟨⟨hf, hlen⟩, h1⟩, hfit⟩ := hc
          have hr := hx.cells' hf
          have hlen' : x'.cells.size = i.size := by have := hr.length; simp at this hlen; omega
          have hrun : ∀ (r : Result Unit) (w' : World), (storeCells ⟨L.blk, L.off + o, none⟩ x'.cells.toList).run P w = r → (Instr.storeAt t (.pointer (some ⟨L.blk, L.off + o, none⟩)) x').run P w = r := by
            intro r w' hr
            simp only [Instr.storeAt, Instr.sureAddr, storeVar]
            simp [run_sizeOf hi, hlen', hr]
          split at h
          · rename_i he
            cases h
            have hnil : x'.cells.toList = [] := by
              have := hr.length
              simp at he
              simp [he] at this
              simpa using this.symm
            refine ⟨w, hrun _ w (by rw [hnil]; rfl), g, Went.refl _ _⟩
          · rename_i he
            cases h
            obtain ⟨w', hw, hg, ht⟩ := g.write P hb hL o hfit h1 hr (by simpa using he)
            exact ⟨w', hrun _ w' hw, hg, ht⟩
        · cases h
      · cases h
  · cases h

/-- A new variable. -/
theorem newVar_ok (g : Good φ H K w) {n : Nat} (hn : φ n = none) {v v' : Value} (hv : VRel φ v v') (hf : flatV v = true) (t : TypeId) :
    ∃ φ', (newVar t v').run P w = .ok ⟨w.heap.size, 0, none⟩ (w.alloc (.cells v'.cells t)) ∧ Ext φ φ' n (n + 1) ∧ Good φ' ((n, .cells v.cells.toList false) :: H) K (w.alloc (.cells v'.cells t)) ∧
      VRel φ' (.pointer (some ⟨n, 0, none⟩)) (.pointer (some ⟨w.heap.size, 0, none⟩)) := by
  have hr := hv.cells' hf
  have hg := g.make hn hr t v'.cells.toList.length [] (by simp)
  simp only [List.append_nil, Array.toArray_toList] at hg
  refine ⟨_, by simp [newVar, newRow], Ext.put hn _, hg, ?_⟩
  have := VRel.ptr (φ := φ.put n ⟨w.heap.size, 0, v'.cells.toList.length⟩) n 0 _ (Ren.put_same _ _ _)
  simpa using this
end Go.En
