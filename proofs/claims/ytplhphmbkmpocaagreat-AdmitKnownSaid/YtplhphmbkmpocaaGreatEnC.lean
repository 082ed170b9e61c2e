/- The engine, part C: single operations on abstract states, and that the world's operations do the same. -/
import Derived.Test.YtplhphmbkmpocaaGreatEnB
noncomputable section
namespace Go.En
set_option linter.unusedVariables false
variable {P : Program} {φ : Ren} {H : Hp} {K : Nat → Prop} {w : World}

/-- The element at i. -/
def lg (l : List Value) (i : Nat) : Option Value := List.rec (motive := fun _ => Nat → Option Value) (fun _ => none) (fun x _ ih i => Nat.rec (motive := fun _ => Option Value) (some x) (fun m _ => ih m) i) l i
theorem lg_eq : ∀ (l : List Value) (i : Nat), lg l i = l[i]?
  | [], _ => by simp [lg]
  | x :: l, 0 => rfl
  | x :: l, i + 1 => by
    show lg l i = _
    rw [lg_eq l i]; simp
/-- An operand's abstract value. -/
def opv (tm : List Value) : Operand → Option Value
  | .tmp t => match lg tm t with
    | some (.complex _ _ _) => none
    | v => v
  | .const v => if av v then some v else none
  | .func f => some (.func (.func f) #[] #[])
  | .global _ => none

theorem opv_rel {tm : List Value} {a : Act} (h : TRel φ tm a.tmps) {x : Operand} {v : Value} (hx : opv tm x = some v) : VRel φ v (a.eval x) := by
  cases x with
  | tmp t =>
    simp only [opv, lg_eq] at hx
    cases ht : tm[t]? with
    | none => simp [ht] at hx
    | some u =>
      rw [ht] at hx
      have hu : u = v := by
        cases u <;> simp at hx <;> exact hx
      subst hu
      rcases h.2 t u ht with rfl | ⟨v', h1, h2⟩
      · simp [junk] at hx
      · simp only [Act.eval, Array.getD_eq_getD_getElem?, h1]; exact h2
  | const c =>
    simp only [opv] at hx
    split at hx
    · cases hx; exact av_rel (by assumption)
    · cases hx
  | func f => simp only [opv] at hx; cases hx; exact .func' (.func f) (by simp [LRel]) (by simp [LRel])
  | global g => simp [opv] at hx

/-- A computation that touches nothing but the program's tables. -/
def plain (P : Program) {α : Type} : Sem α → Option α
  | .pure a => some a
  | .program k => plain P (k P)
  | .mark _ k => plain P k
  | _ => none
theorem plain_run {α : Type} (s : Sem α) : ∀ {a : α} (w : World), plain P s = some a → s.run P w = .ok a w := by
  induction s with
  | pure b => intro a w h; simp [plain] at h; subst h; rfl
  | program k ih => intro a w h; simp [plain] at h; simpa [Sem.run] using ih P w h
  | mark m k ih => intro a w h; simp [plain] at h; simpa [Sem.run] using ih w h
  | _ => intro a w h; simp [plain] at h

/-- A scalar result. -/
def sc (P : Program) (s : Sem Value) : Option Value :=
  match plain P s with
  | some v => if av v then some v else none
  | none => none
theorem sc_run {s : Sem Value} {v : Value} (h : sc P s = some v) (w : World) : s.run P w = .ok v w ∧ VRel φ v v := by
  unfold sc at h
  split at h
  · rename_i u hu
    split at h
    · cases h; exact ⟨plain_run s w hu, av_rel (by assumption)⟩
    · cases h
  · cases h

/-- 'x == y' beyond scalars: against nil. -/
def nilEq : Value → Value → Option Bool
  | .slice (some _) _ _, .slice none _ _ => some false
  | .slice none _ _, .slice (some _) _ _ => some false
  | .func .., .nilFunc => some false
  | .nilFunc, .func .. => some false
  | .pointer (some _), .pointer none => some false
  | .pointer none, .pointer (some _) => some false
  | .map (some _), .map none => some false
  | .map none, .map (some _) => some false
  | _, _ => none

def doBin (P : Program) (op : BinOp) (t : TypeId) (x y : Operand) (a b : Value) : Option Value :=
  if av a && av b then sc P (do eqGuard op t x y a b; binOp op t a b) else none

theorem doBin_ok {op : BinOp} {t : TypeId} {x y : Operand} {a b a' b' v : Value} (h : doBin P op t x y a b = some v) (ha : VRel φ a a') (hb : VRel φ b b') (w : World) :
    (do eqGuard op t x y a' b'; binOp op t a' b' : Sem Value).run P w = .ok v w ∧ VRel φ v v := by
  unfold doBin at h
  split at h
  · rename_i hv
    simp at hv
    rw [av_eq hv.1 ha, av_eq hv.2 hb]
    exact sc_run h w
  · cases h

def doUn (P : Program) (op : UnOp) (a : Value) : Option Value := if av a then sc P (Op.unary op a) else none
theorem doUn_ok {op : UnOp} {a a' v : Value} (h : doUn P op a = some v) (ha : VRel φ a a') (w : World) : (Op.unary op a').run P w = .ok v w ∧ VRel φ v v := by
  unfold doUn at h
  split at h
  · rename_i hv; rw [av_eq hv ha]; exact sc_run h w
  · cases h

def doConv (P : Program) (s d : TypeId) (a : Value) : Option Value := if av a then sc P (convert s d a) else none
theorem doConv_ok {s d : TypeId} {a a' v : Value} (h : doConv P s d a = some v) (ha : VRel φ a a') (w : World) : (convert s d a').run P w = .ok v w ∧ VRel φ v v := by
  unfold doConv at h
  split at h
  · rename_i hv; rw [av_eq hv ha]; exact sc_run h w
  · cases h

theorem cells_one {v : Value} (h : v.oneCell' = true) : v.cells = #[v] := by cases v <;> first | rfl | simp [Value.oneCell'] at h
theorem VRel.cells {v v' : Value} (h : VRel φ v v') (hn : v.oneCell' = true ∨ ∃ cs, v = .agg cs) : LRel φ v.cells.toList v'.cells.toList := by
  rcases hn with hn | ⟨cs, rfl⟩
  · rw [cells_one hn, cells_one (by rw [h.one]; exact hn)]
    exact ⟨h, trivial⟩
  · obtain ⟨ys, rfl, hl⟩ := h.agg_inv
    exact hl

def flatV : Value → Bool
  | .tuple _ => false
  | _ => true
theorem VRel.cells' {v v' : Value} (h : VRel φ v v') (hn : flatV v = true) : LRel φ v.cells.toList v'.cells.toList := by
  refine h.cells ?_
  cases v <;> simp [flatV, Value.oneCell'] at hn ⊢

def aggD : TypeDesc → Bool
  | .struct _ | .array _ _ => true
  | _ => false

theorem run_isAgg {t : TypeId} {d : TypeDesc} (h : P.underlying t = some d) (w : World) : (isAgg t).run P w = .ok (aggD d) w := by
  unfold isAgg
  simp only [Sem.run_bind, run_underlying h, Result.andThen_ok]
  cases d <;> rfl
theorem run_sizeOf {t : TypeId} {i : TypeInfo} (h : P.info? t = some i) (w : World) : (sizeOf t).run P w = .ok i.size w := by
  simp [sizeOf, typeInfo, h]
theorem run_zeroValue' {t : TypeId} {i : TypeInfo} {v : Value} (h : P.info? t = some i) (hz : i.zero = some v) (w : World) : (zeroValue t).run P w = .ok v w := by
  simp [zeroValue, typeInfo, h, hz]

/-- Loading a variable. -/
def doLoad (P : Program) (H : Hp) (t : TypeId) : Value → Option Value
  | .pointer (some ⟨b, o, none⟩) =>
    match H.get b, P.underlying t, P.info? t with
    | some (.cells cs _), some d, some i =>
      if aggD d then (if o + i.size ≤ cs.length then some (.agg ((cs.drop o).take i.size).toArray) else none)
      else cs[o]?
    | _, _, _ => none
  | _ => none

theorem Addr.add_none (b o n : Nat) : (⟨b, o, none⟩ : Addr).add n = ⟨b, o + n, none⟩ := by
  unfold Addr.add; split
  · rename_i h; subst h; rfl
  · rfl

theorem doLoad_ok (g : Good φ H K w) {t : TypeId} {a a' v : Value} (h : doLoad P H t a = some v) (ha : VRel φ a a') :
    ∃ v', (Instr.loadAt t a').run P w = .ok v' w ∧ VRel φ v v' := by
  unfold doLoad at h
  split at h
  · rename_i b o
    cases ha with
    | ptr _ _ L hL =>
      split at h
      · rename_i cs ro d i hb hu hi
        simp only [Instr.loadAt, Instr.sureAddr, loadVar]
        by_cases hd : aggD d = true
        · simp only [hd, if_true] at h
          split at h
          · rename_i hn
            cases h
            obtain ⟨us, hl, hc, hr⟩ := g.read hb hL o i.size hn
            have hrun := run_loadCells_list (P := P) w ⟨L.blk, L.off + o, none⟩ us (fun j v hv => by rw [Addr.add_none]; exact hc j v hv)
            rw [hl] at hrun
            refine ⟨.agg us.toArray, by simp [run_isAgg hu, hd, run_sizeOf hi, hrun], .agg' (by simpa using hr)⟩
          · cases h
        · have hd : aggD d = false := by simpa using hd
          simp only [hd, if_false, Bool.false_eq_true] at h
          have ho : o + 1 ≤ cs.length := (List.getElem?_eq_some_iff.1 h).1
          obtain ⟨us, hl, hc, hr⟩ := g.read hb hL o 1 ho
          match us, hl with
          | [u], _ =>
            have hu1 := hc 0 u rfl
            have h2 : (List.drop o cs).take 1 = [v] := by
              apply List.ext_getElem?
              intro j
              cases j with
              | zero => simp [h]
              | succ j => simp; omega
            rw [h2] at hr
            refine ⟨u, ?_, hr.1⟩
            simp at hu1
            simp [run_isAgg hu, hd, hu1]
      · cases h
  · cases h

/-- Storing a variable. -/
def doStore (P : Program) (H : Hp) (t : TypeId) (va vx : Value) : Option Hp :=
  match va with
  | .pointer (some ⟨b, o, none⟩) =>
    match H.get b, P.info? t with
    | some (.cells cs false), some i =>
      if flatV vx && vx.cells.toList.length == i.size && oneL vx.cells.toList && decide (o + vx.cells.toList.length ≤ cs.length) then
        (if vx.cells.toList.isEmpty then some H else some (H.set b (.cells (spl cs o vx.cells.toList) false)))
      else none
    | _, _ => none
  | _ => none

theorem doStore_ok (g : Good φ H K w) {t : TypeId} {a a' x x' : Value} {H' : Hp} (h : doStore P H t a x = some H') (ha : VRel φ a a') (hx : VRel φ x x') :
    ∃ w', (Instr.storeAt t a' x').run P w = .ok () w' ∧ Good φ H' K w' ∧ Went K w w' := by
  unfold doStore at h
  split at h
  · rename_i b o
    cases ha with
    | ptr _ _ L hL =>
      split at h
      · rename_i cs i hb hi
        split at h
        · rename_i hc
          simp only [Bool.and_eq_true, beq_iff_eq, decide_eq_true_eq] at hc
          obtain ⟨⟨⟨hf, hlen⟩, h1⟩, hfit⟩ := hc
          have hr := hx.cells' hf
          have hlen' : x'.cells.size = i.size := by have := hr.length; simp at this hlen; omega
          have hrun : ∀ (r : Result Unit) (w' : World), (storeCells ⟨L.blk, L.off + o, none⟩ x'.cells.toList).run P w = r → (Instr.storeAt t (.pointer (some ⟨L.blk, L.off + o, none⟩)) x').run P w = r := by
            intro r w' hr
            simp only [Instr.storeAt, Instr.sureAddr, storeVar]
            simp [run_sizeOf hi, hlen', hr]
          split at h
          · rename_i he
            cases h
            have hnil : x'.cells.toList = [] := by
              have := hr.length
              simp at he
              simp [he] at this
              simpa using this.symm
            refine ⟨w, hrun _ w (by rw [hnil]; rfl), g, Went.refl _ _⟩
          · rename_i he
            cases h
            obtain ⟨w', hw, hg, ht⟩ := g.write P hb hL o hfit h1 hr (by simpa using he)
            exact ⟨w', hrun _ w' hw, hg, ht⟩
        · cases h
      · cases h
  · cases h

/-- A new variable. -/
theorem newVar_ok (g : Good φ H K w) {n : Nat} (hn : φ n = none) {v v' : Value} (hv : VRel φ v v') (hf : flatV v = true) (t : TypeId) :
    ∃ φ', (newVar t v').run P w = .ok ⟨w.heap.size, 0, none⟩ (w.alloc (.cells v'.cells t)) ∧ Ext φ φ' n (n + 1) ∧ Good φ' ((n, .cells v.cells.toList false) :: H) K (w.alloc (.cells v'.cells t)) ∧
      VRel φ' (.pointer (some ⟨n, 0, none⟩)) (.pointer (some ⟨w.heap.size, 0, none⟩)) := by
  have hr := hv.cells' hf
  have hg := g.make hn hr t v'.cells.toList.length [] (by simp)
  simp only [List.append_nil, Array.toArray_toList] at hg
  refine ⟨_, by simp [newVar, newRow], Ext.put hn _, hg, ?_⟩
  have := VRel.ptr (φ := φ.put n ⟨w.heap.size, 0, v'.cells.toList.length⟩) n 0 _ (Ren.put_same _ _ _)
  simpa using this
end Go.En
