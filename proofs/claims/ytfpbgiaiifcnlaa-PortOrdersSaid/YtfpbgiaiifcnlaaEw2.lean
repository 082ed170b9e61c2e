/- Parts of a proof, joined: H, I, J, K, KB, KC, MR, FR, L, M. -/
import Derived.Carry
import Derived.ChangeSame
import Derived.KernelRfl
import Derived.LoopNIn
import Derived.OpenShut
import Derived.Orders
import Derived.RangeFuncCalls
import Derived.RangeFuncRecord
import Derived.Scope
import Derived.Test.YtfpbgiaiifcnlaaEw1
/- The engine, part H: what calls, code, rounds mean on abstract states; the rules. -/
noncomputable section
namespace Go.Fz
set_option linter.unusedVariables false
variable {P : Program} {φ : Ren} {H : Hp} {K : Nat → Prop} {w : World}

/-- The fence that lets all by, in a round or not. -/
def fw (r : Option Nat) : Fence := { Fence.wide with round := r }

structure Res where
  e : Exit
  tm : List Value
  ds : List Nat
  H : Hp
  nx : Nat

def DRel (φ : Ren) : List Nat → List Deferred → Prop
  | [], [] => True
  | d :: ds, x :: xs => (∃ L, φ d = some L ∧ x = { target := .collected L.blk, args := #[] }) ∧ DRel φ ds xs
  | _, _ => False
theorem DRel.mono {φ φ' : Ren} (hl : φ.le φ') : ∀ {ds : List Nat} {xs : List Deferred}, DRel φ ds xs → DRel φ' ds xs
  | [], [], _ => trivial
  | _ :: _, _ :: _, h => ⟨let ⟨L, h1, h2⟩ := h.1; ⟨L, hl _ _ h1, h2⟩, DRel.mono hl h.2⟩
  | [], _ :: _, h => h.elim
  | _ :: _, [], h => h.elim
def RRel (φ : Ren) : Option Nat → Option Nat → Prop
  | none, none => True
  | some l, some c => ∃ L, φ l = some L ∧ L.blk = c
  | _, _ => False
theorem RRel.mono {φ φ' : Ren} (hl : φ.le φ') {r rc : Option Nat} (h : RRel φ r rc) : RRel φ' r rc := by
  cases r <;> cases rc <;> simp only [RRel] at h ⊢
  obtain ⟨L, h1, h2⟩ := h
  exact ⟨L, hl _ _ h1, h2⟩

/-- What a frame's code comes to, in the world. -/
def Post (φ : Ren) (K : Nat → Prop) (w : World) (lo : Nat) (R : Res) (e : Exit) (a' : Act) (w' : World) : Prop :=
  e = R.e ∧ ∃ φ', Ext K φ φ' lo R.nx ∧ Good φ' R.H K w' ∧ TRel φ' R.tm a'.tmps ∧ DRel φ' R.ds a'.defers ∧ Went K w w'

def CallOk (P : Program) (f : FuncId) (args : List Value) (H : Hp) (nx : Nat) (v : Value) (H' : Hp) (nx' : Nat) : Prop :=
  nx ≤ nx' ∧ ∀ φ w K us, Good φ H K w → Fresh φ nx nx' → LRel φ args us →
    Calls P f us.toArray w fun e w' => ∃ v' φ', e = .returned v' ∧ VRel φ' v v' ∧ Ext K φ φ' nx nx' ∧ Good φ' H' K w' ∧ Went K w w'

def CodeOk (P : Program) (r : Option Nat) (c : Code) (tm : List Value) (ds : List Nat) (H : Hp) (nx : Nat) (R : Res) : Prop :=
  nx ≤ R.nx ∧ ∀ φ w K a rc, Good φ H K w → Fresh φ nx R.nx → TRel φ tm a.tmps → DRel φ ds a.defers → RRel φ r rc → c.wpIn (fw rc) 0 P (Post φ K w nx R) a w

def LoopOk (P : Program) (r : Option Nat) (c : Code) (tm : List Value) (ds : List Nat) (H : Hp) (nx : Nat) (R : Res) : Prop :=
  nx ≤ R.nx ∧ ∃ m, ∀ φ w K a rc, Good φ H K w → Fresh φ nx R.nx → TRel φ tm a.tmps → DRel φ ds a.defers → RRel φ r rc → Code.roundsIn (fw rc) 0 P c (Post φ K w nx R) m a w

theorem Post.after {φ φ' : Ren} {K : Nat → Prop} {w w' : World} {lo mi : Nat} {R : Res} {e : Exit} {a : Act} {w'' : World} (he : Ext K φ φ' lo mi) (hw : Went K w w') (h1 : lo ≤ mi) (h2 : mi ≤ R.nx) (h : Post φ' K w' mi R e a w'') : Post φ K w lo R e a w'' := by
  obtain ⟨rfl, φ2, k1, k2, k3, k4, k5⟩ := h
  exact ⟨rfl, φ2, he.trans k1 h1 h2, k2, k3, k4, hw.trans k5⟩

theorem codeOk_skip {r : Option Nat} {tm : List Value} {ds : List Nat} {nx : Nat} : CodeOk P r .skip tm ds H nx ⟨.normal, tm, ds, H, nx⟩ :=
  ⟨Nat.le_refl _, fun φ w K a rc g hf ht hd hr => wpIn_skip ⟨rfl, φ, Ext.refl _ _ _ _, g, ht, hd, Went.refl _ _⟩⟩
theorem codeOk_label {r : Option Nat} {l : Nat} {tm : List Value} {ds : List Nat} {nx : Nat} : CodeOk P r (.label l) tm ds H nx ⟨.normal, tm, ds, H, nx⟩ :=
  ⟨Nat.le_refl _, fun φ w K a rc g hf ht hd hr => wpIn_label ⟨rfl, φ, Ext.refl _ _ _ _, g, ht, hd, Went.refl _ _⟩⟩
theorem codeOk_exit {r : Option Nat} {i : Nat} {tm : List Value} {ds : List Nat} {nx : Nat} : CodeOk P r (.exit i) tm ds H nx ⟨.exit i, tm, ds, H, nx⟩ :=
  ⟨Nat.le_refl _, fun φ w K a rc g hf ht hd hr => wpIn_exit ⟨rfl, φ, Ext.refl _ _ _ _, g, ht, hd, Went.refl _ _⟩⟩
theorem codeOk_goto {r : Option Nat} {i : Nat} {tm : List Value} {ds : List Nat} {nx : Nat} : CodeOk P r (.goto i) tm ds H nx ⟨.goto i, tm, ds, H, nx⟩ :=
  ⟨Nat.le_refl _, fun φ w K a rc g hf ht hd hr => wpIn_goto ⟨rfl, φ, Ext.refl _ _ _ _, g, ht, hd, Went.refl _ _⟩⟩
theorem codeOk_ret {r : Option Nat} {tm : List Value} {ds : List Nat} {nx : Nat} : CodeOk P r .ret tm ds H nx ⟨.ret, tm, ds, H, nx⟩ :=
  ⟨Nat.le_refl _, fun φ w K a rc g hf ht hd hr => wpIn_ret ⟨rfl, φ, Ext.refl _ _ _ _, g, ht, hd, Went.refl _ _⟩⟩

theorem codeOk_seq {r : Option Nat} {x y : Code} {tm : List Value} {ds : List Nat} {nx : Nat} {R1 R : Res} (h1 : CodeOk P r x tm ds H nx R1) (he : R1.e = .normal) (h2 : CodeOk P r y R1.tm R1.ds R1.H R1.nx R) : CodeOk P r (.seq x y) tm ds H nx R := by
  refine ⟨Nat.le_trans h1.1 h2.1, fun φ w K a rc g hf ht hd hr => wpIn_seq (wpIn_mono (h1.2 φ w K a rc g (hf.left h2.1) ht hd hr) ?_)⟩
  rintro e a1 w1 ⟨rfl, φ1, k1, k2, k3, k4, k5⟩
  rw [he]
  exact wpIn_mono (h2.2 φ1 w1 K a1 rc k2 (hf.right k1 h1.1) k3 k4 (hr.mono k1.1)) fun e a2 w2 hp => hp.after k1 k5 h1.1 h2.1
theorem codeOk_seq_out {r : Option Nat} {x y : Code} {tm : List Value} {ds : List Nat} {nx : Nat} {R : Res} (h1 : CodeOk P r x tm ds H nx R) (he : R.e ≠ .normal) : CodeOk P r (.seq x y) tm ds H nx R := by
  refine ⟨h1.1, fun φ w K a rc g hf ht hd hr => wpIn_seq (wpIn_mono (h1.2 φ w K a rc g hf ht hd hr) ?_)⟩
  intro e a1 w1 hp
  obtain ⟨rfl, _⟩ := id hp
  cases hE : R.e with
  | normal => exact absurd hE he
  | _ => rw [hE] at hp; exact hp
theorem codeOk_cond {r : Option Nat} {c : Operand} {x y : Code} {tm : List Value} {ds : List Nat} {nx : Nat} {R : Res} {b : Bool} (hc : opv tm c = some (.bool b)) (h : CodeOk P r (if b then x else y) tm ds H nx R) : CodeOk P r (.cond c x y) tm ds H nx R := by
  refine ⟨h.1, fun φ w K a rc g hf ht hd hr => ?_⟩
  have hv := opv_rel ht hc
  have hb : a.eval c = .bool b := by generalize a.eval c = u at hv; cases hv; rfl
  exact wpIn_cond hb (h.2 φ w K a rc g hf ht hd hr)

def Res.inBlock (i : Nat) (R : Res) : Res := match R.e with
  | .exit j => if j = i then { R with e := .normal } else R
  | _ => R
theorem codeOk_block {r : Option Nat} {i : Nat} {c : Code} {tm : List Value} {ds : List Nat} {nx : Nat} {R : Res} (h : CodeOk P r c tm ds H nx R) : CodeOk P r (.block i c) tm ds H nx (R.inBlock i) := by
  have hnx : (R.inBlock i).nx = R.nx := by unfold Res.inBlock; split <;> (try split) <;> rfl
  refine ⟨by rw [hnx]; exact h.1, fun φ w K a rc g hf ht hd hr => wpIn_block (wpIn_mono (h.2 φ w K a rc g (by rw [hnx] at hf; exact hf) ht hd hr) ?_)⟩
  rintro e a1 w1 ⟨rfl, φ1, k1, k2, k3, k4, k5⟩
  unfold Exit.inBlock Res.inBlock
  cases hE : R.e with
  | exit j =>
    simp only
    by_cases hj : j = i
    · simp only [hj, if_true]; exact ⟨rfl, φ1, k1, k2, k3, k4, k5⟩
    · simp only [hj, if_false]; exact ⟨hE.symm, φ1, k1, k2, k3, k4, k5⟩
  | _ => exact ⟨hE.symm, φ1, k1, k2, k3, k4, k5⟩

theorem loopOk_more {r : Option Nat} {c : Code} {tm : List Value} {ds : List Nat} {nx : Nat} {R1 R : Res} (h1 : CodeOk P r c tm ds H nx R1) (he : R1.e = .normal) (h2 : LoopOk P r c R1.tm R1.ds R1.H R1.nx R) : LoopOk P r c tm ds H nx R := by
  obtain ⟨hle, m, h2⟩ := h2
  refine ⟨Nat.le_trans h1.1 hle, m + 1, fun φ w K a rc g hf ht hd hr => ?_⟩
  rw [roundsIn_succ]
  refine wpIn_mono (h1.2 φ w K a rc g (hf.left hle) ht hd hr) ?_
  rintro e a1 w1 ⟨rfl, φ1, k1, k2, k3, k4, k5⟩
  rw [he]
  have := h2 φ1 w1 K a1 rc k2 (hf.right k1 h1.1) k3 k4 (hr.mono k1.1)
  have mono : ∀ (m : Nat) (a : Act) (w2 : World), Code.roundsIn (fw rc) 0 P c (Post φ1 K w1 R1.nx R) m a w2 → Code.roundsIn (fw rc) 0 P c (Post φ K w nx R) m a w2 := by
    intro m
    induction m with
    | zero => intro a w2 h; exact h
    | succ m ih =>
      intro a w2 h
      rw [roundsIn_succ] at h ⊢
      refine wpIn_mono h ?_
      intro e a2 w3 hq
      cases e <;> first | exact ih _ _ hq | exact Post.after k1 k5 h1.1 hle hq
  exact mono m a1 w1 this
theorem loopOk_out {r : Option Nat} {c : Code} {tm : List Value} {ds : List Nat} {nx : Nat} {R : Res} (h1 : CodeOk P r c tm ds H nx R) (he : R.e ≠ .normal) : LoopOk P r c tm ds H nx R := by
  refine ⟨h1.1, 1, fun φ w K a rc g hf ht hd hr => ?_⟩
  rw [roundsIn_succ]
  refine wpIn_mono (h1.2 φ w K a rc g hf ht hd hr) ?_
  intro e a1 w1 hp
  obtain ⟨rfl, _⟩ := id hp
  cases hE : R.e with
  | normal => exact absurd hE he
  | _ => rw [hE] at hp; exact hp
theorem codeOk_loop {r : Option Nat} {c : Code} {tm : List Value} {ds : List Nat} {nx : Nat} {R : Res} (h : LoopOk P r c tm ds H nx R) : CodeOk P r (.loop c) tm ds H nx R := by
  obtain ⟨hle, m, h⟩ := h
  exact ⟨hle, fun φ w K a rc g hf ht hd hr => wpIn_loop_rounds m (h φ w K a rc g hf ht hd hr)⟩

/-- A scope, jump by jump. -/
def scopeIn (P : Program) (c : Code) (Q : Exit → Act → World → Prop) : Nat → Code → Act → World → Prop
  | 0, _, _, _ => False
  | m + 1, x, a, w => x.wp P (fun e a w => match e with
    | .goto l => match findLabel c l with
      | some rest => scopeIn P c Q m rest a w
      | none => Q (.goto l) a w
    | e => Q e a w) a w
theorem wp_scope_in {c : Code} {Q : Exit → Act → World → Prop} {a : Act} {w : World} (m : Nat) (h : scopeIn P c Q m c a w) : (Code.scope c).wp P Q a w := by
  intro b k cs
  have key : ∀ m x a w, scopeIn P c Q m x a w → ∃ e a' w', Q e a' w' ∧ Arrives P (lone (b.at a (.code x :: .inScope c :: k)) cs w) b k cs e a' w' := by
    intro m
    induction m with
    | zero => intro x a w h; exact h.elim
    | succ m ih =>
      intro x a w h
      obtain ⟨e, a1, w1, hq, harr⟩ := h b (.inScope c :: k) cs
      cases e with
      | normal => exact ⟨.normal, a1, w1, hq, Steps.trans harr (.one step_inScope)⟩
      | exit id => exact ⟨.exit id, a1, w1, hq, fun k' hk => harr k' (by simp [exitTo, hk])⟩
      | goto l =>
        simp only at hq
        cases hf : findLabel c l with
        | none =>
          rw [hf] at hq
          exact ⟨.goto l, a1, w1, hq, fun k' hk => harr k' (by simp [gotoIn, hf, hk])⟩
        | some rest =>
          rw [hf] at hq
          obtain ⟨e2, a2, w2, hq2, harr2⟩ := ih rest a1 w1 hq
          exact ⟨e2, a2, w2, hq2, .of_steps (harr _ (by simp [gotoIn, hf])) harr2⟩
      | ret => exact ⟨_, a1, w1, hq, harr⟩
      | panic ch => exact ⟨_, a1, w1, hq, harr⟩
      | outgrown => exact ⟨_, a1, w1, hq, harr⟩
  obtain ⟨e, a1, w1, hq, harr⟩ := key m c a w h
  exact ⟨e, a1, w1, hq, .of_steps (.one step_scope) harr⟩

def ScpOk (P : Program) (c x : Code) (tm : List Value) (ds : List Nat) (H : Hp) (nx : Nat) (R : Res) : Prop :=
  nx ≤ R.nx ∧ ∃ m, ∀ φ w K a, Good φ H K w → Fresh φ nx R.nx → TRel φ tm a.tmps → DRel φ ds a.defers → scopeIn P c (Post φ K w nx R) m x a w

theorem CodeOk.wp {c : Code} {tm : List Value} {ds : List Nat} {nx : Nat} {R : Res} (h : CodeOk P none c tm ds H nx R) {φ : Ren} {w : World} {K : Nat → Prop} {a : Act} (g : Good φ H K w) (hf : Fresh φ nx R.nx) (ht : TRel φ tm a.tmps) (hd : DRel φ ds a.defers) :
    c.wp P (Post φ K w nx R) a w := (wpIn_wide (n := 0)).1 (h.2 φ w K a none g hf ht hd trivial)

theorem scopeIn_mono {c : Code} {Q Q' : Exit → Act → World → Prop} (hq : ∀ e a w, Q e a w → Q' e a w) : ∀ (m : Nat) (x : Code) (a : Act) (w : World), scopeIn P c Q m x a w → scopeIn P c Q' m x a w
  | 0, _, _, _, h => h
  | m + 1, x, a, w, h => by
    refine Code.wp_mono (fun e a w he => ?_) h
    cases e with
    | goto l =>
      simp only at he ⊢
      cases hf : findLabel c l with
      | none => rw [hf] at he; exact hq _ _ _ he
      | some rest => rw [hf] at he; exact scopeIn_mono hq m rest a w he
    | _ => exact hq _ _ _ he

theorem scpOk_jump {c x rest : Code} {l : Nat} {tm : List Value} {ds : List Nat} {nx : Nat} {R1 R : Res} (h1 : CodeOk P none x tm ds H nx R1) (he : R1.e = .goto l) (hf : findLabel c l = some rest) (h2 : ScpOk P c rest R1.tm R1.ds R1.H R1.nx R) : ScpOk P c x tm ds H nx R := by
  obtain ⟨hle, m, h2⟩ := h2
  refine ⟨Nat.le_trans h1.1 hle, m + 1, fun φ w K a g hfr ht hd => ?_⟩
  refine Code.wp_mono ?_ (h1.wp g (hfr.left hle) ht hd)
  rintro e a1 w1 ⟨rfl, φ1, k1, k2, k3, k4, k5⟩
  rw [he]
  simp only [hf]
  exact scopeIn_mono (fun e a2 w2 hp => Post.after k1 k5 h1.1 hle hp) m rest a1 w1 (h2 φ1 w1 K a1 k2 (hfr.right k1 h1.1) k3 k4)
theorem scpOk_out {c x : Code} {tm : List Value} {ds : List Nat} {nx : Nat} {R : Res} (h1 : CodeOk P none x tm ds H nx R) (he : ∀ l, R.e ≠ .goto l) : ScpOk P c x tm ds H nx R := by
  refine ⟨h1.1, 1, fun φ w K a g hfr ht hd => ?_⟩
  refine Code.wp_mono ?_ (h1.wp g hfr ht hd)
  intro e a1 w1 hp
  obtain ⟨rfl, _⟩ := id hp
  cases hE : R.e with
  | goto l => exact absurd hE (he l)
  | _ => rw [hE] at hp; exact hp
theorem codeOk_scope {c : Code} {tm : List Value} {ds : List Nat} {nx : Nat} {R : Res} (h : ScpOk P c c tm ds H nx R) : CodeOk P none (.scope c) tm ds H nx R := by
  obtain ⟨hle, m, h⟩ := h
  refine ⟨hle, fun φ w K a rc g hf ht hd hr => ?_⟩
  cases rc with
  | some c => exact hr.elim
  | none => exact (wpIn_wide (n := 0)).2 (wp_scope_in m (h φ w K a g hf ht hd))

theorem CallOk.le {f : FuncId} {args : List Value} {nx : Nat} {v : Value} {H' : Hp} {nx' : Nat} (h : CallOk P f args H nx v H' nx') : nx ≤ nx' := h.1

/-- A sub-heap will do, behind. -/
theorem CodeOk.sub {r : Option Nat} {c : Code} {tm : List Value} {ds : List Nat} {nx : Nat} {R : Res} (h : CodeOk P r c tm ds H nx R) {H' : Hp} (hs : ∀ b k, H'.get b = some k → R.H.get b = some k) : CodeOk P r c tm ds H nx { R with H := H' } :=
  ⟨h.1, fun φ w K a rc g hf ht hd hr => wpIn_mono (h.2 φ w K a rc g hf ht hd hr) fun e a1 w1 ⟨k0, φ1, k1, k2, k3, k4, k5⟩ => ⟨k0, φ1, k1, k2.sub hs, k3, k4, k5⟩⟩
end Go.Fz
/- The engine, part I: an operation of a region: plain, a call, a round of a loop over a function. -/
noncomputable section
namespace Go.Fz
set_option linter.unusedVariables false
variable {P : Program} {φ : Ren} {H : Hp} {K : Nat → Prop} {w : World}

def OpOk (P : Program) (r : Option Nat) (o : Oper) (tm : List Value) (H : Hp) (nx : Nat) (v : Value) (H' : Hp) (nx' : Nat) : Prop :=
  nx ≤ nx' ∧ ∀ (φ : Ren) (w : World) (K : Nat → Prop) (a : Act) (rc : Option Nat) (next : Act → World → Prop) (Q : Exit → Act → World → Prop), Good φ H K w → Fresh φ nx nx' → TRel φ tm a.tmps → RRel φ r rc →
    (∀ v' φ' w', VRel φ' v v' → Ext K φ φ' nx nx' → Good φ' H' K w' → Went K w w' → next (a.put o.dst v') w') → o.wpIn (fw rc) 0 P a w next Q

theorem about_fw {rc : Option Nat} {o : Oper} {a : Act} {w : World} : ∀ f, o.about P w a.eval = some f → (fw rc).fn f := fun _ _ => trivial

theorem doOp_nodefer {tm : List Value} {nx : Nat} {o : Oper} {x : Value × Hp × Nat} (h : doOp P tm H nx o = some x) : ∀ c, o.op ≠ .defer c := by
  intro c hc
  unfold doOp at h
  simp [hc] at h

theorem doOp_le {tm : List Value} {nx : Nat} {o : Oper} {v : Value} {H' : Hp} {nx' : Nat} (h : doOp P tm H nx o = some (v, H', nx')) : nx ≤ nx' := by
  unfold doOp at h
  split at h
  case h_4 =>
    split at h
    case h_2 => cases h
    split at h
    case h_2 => cases h
    split at h
    case isFalse => cases h
    unfold doNew at h
    split at h
    · cases h; omega
    · cases h
  case h_5 =>
    simp only [Option.bind_eq_some_iff] at h
    obtain ⟨u, hu, h⟩ := h
    unfold doNew at h
    split at h
    · cases h; omega
    · cases h
  case h_7 =>
    simp only [Option.bind_eq_some_iff] at h
    obtain ⟨u, hu, h⟩ := h
    unfold doBuildSlice at h
    (repeat' split at h) <;> first | (cases h; done) | (cases h; omega)
  case h_15 =>
    simp only [Option.bind_eq_some_iff] at h
    obtain ⟨u, hu, u2, hu2, h⟩ := h
    unfold doMakeSlice at h
    (repeat' split at h) <;> first | (cases h; done) | (cases h; omega)
  case h_22 =>
    simp only [Option.bind_eq_some_iff] at h
    obtain ⟨u, hu, h⟩ := h
    have := doBuiltin_nx h
    omega
  case h_27 =>
    simp only [Option.bind_eq_some_iff] at h
    obtain ⟨u, hu, h⟩ := h
    unfold doRange at h
    (repeat' split at h) <;> first | (cases h; done) | (cases h; omega)
  all_goals first
    | (cases h; done)
    | (have := (un1_some h).2.2; omega)
    | (simp only [Option.bind_eq_some_iff, Option.map_eq_some_iff] at h; obtain ⟨u, hu, h⟩ := h; first | (have := (un1_some h).2.2; omega) | (obtain ⟨u2, hu2, h⟩ := h; first | (have := (un1_some h).2.2; omega) | (cases h; omega) | (obtain ⟨u3, hu3, h⟩ := h; first | (cases h; omega) | (obtain ⟨u4, hu4, h⟩ := h; first | (cases h; omega) | (have := (un1_some h).2.2; omega)))))
    | (cases h; omega)
    | (split at h <;> first | (cases h; done) | (have := (un1_some h).2.2; omega) | (cases h; omega))

theorem opOk_plain {r : Option Nat} {o : Oper} {tm : List Value} {nx : Nat} {v : Value} {H' : Hp} {nx' : Nat} (h : doOp P tm H nx o = some (v, H', nx')) : OpOk P r o tm H nx v H' nx' := by
  refine ⟨doOp_le h, fun φ w K a rc next Q g hf ht hr hk => ⟨about_fw, ?_⟩⟩
  obtain ⟨nxt, w', φ', v', h1, h2, h3, h4, h5, h6, h7⟩ := doOp_ok g ht hf h
  rw [Oper.semAt_eq _ _ _ (doOp_nodefer h), h1]
  rcases h2 with rfl | ⟨rfl, rfl⟩
  · exact hk v' φ' w' h3 h4 h5 h6
  · exact hk undef φ' w' h3 h4 h5 h6

/-- No function of the program is one that the machine takes by its name. -/
def NoSpecial (P : Program) : Prop := ∀ (f : FuncId) (fn : Func), P.funcs[f]? = some fn → (fn.name == "runtime.NumGoroutine") = false

theorem run_callFunc {f : FuncId} {fn : Func} (hs : NoSpecial P) (hf : P.funcs[f]? = some fn) (hb : fn.body.isSome = true) (args : Array Value) (w : World) : (callFunc f args).run P w = .ok (.enter f args) w := by
  have h1 := hs f fn hf
  have h2 : fn.body.isNone = false := by cases h : fn.body <;> simp_all
  unfold callFunc
  simp only [Sem.run_bind, run_program, Result.andThen_ok, hf, h1, h2, Bool.false_eq_true, if_false, Sem.run_pure]

theorem callsIn_fw {rc : Option Nat} {f : FuncId} {args : Array Value} {w : World} {R : Ending → World → Prop} (h : Calls P f args w R) : CallsIn (fw rc) 0 P f args w R := by
  have := callsIn_wide (n := 0).2 h
  cases rc with
  | none => exact this
  | some l => exact CallsIn.inRound l this

/-- Calling a function value. -/
theorem opOk_call {r : Option Nat} {o : Oper} {tm : List Value} {nx : Nat} {v : Value} {H' : Hp} {nx' : Nat} {cf : Operand} {args : Array Operand} {ats : Array TypeId} (ho : o.op = .call { callee := .value cf, args := args, argTypes := ats })
    {f : FuncId} {fn : Func} {fs cs : Array Value} {vs : List Value} (hs : NoSpecial P) (hfn : P.funcs[f]? = some fn) (hb : fn.body.isSome = true)
    (hcf : opv tm cf = some (.func (.func f) fs cs)) (hvs : opvs tm args.toList = some vs) (h : CallOk P f (fs.toList ++ vs ++ cs.toList) H nx v H' nx') : OpOk P r o tm H nx v H' nx' := by
  refine ⟨h.1, fun φ w K a rc next Q g hf ht hr hk => ⟨about_fw, ?_⟩⟩
  have hcv := opv_rel ht hcf
  obtain ⟨fn', ys, us, hev, hfr, h1, h2⟩ := hcv.func_inv
  cases hfr
  have hvr := opvs_rel ht hvs
  have hrun : (execOp a.eval o).run P w = .ok (.enter f (ys ++ args.map a.eval ++ us)) w := by
    unfold execOp
    simp only [ho, resolve, hev, Deferred.ofValue, Sem.run_bind, Sem.run_pure, Result.andThen_ok, invoke, run_callFunc hs hfn hb]
  rw [Oper.semAt_eq _ _ _ (fun c hc => by rw [ho] at hc; cases hc), hrun]
  refine ⟨fun h0 => by simp [fw, Fence.wide] at h0, ?_⟩
  have hc := h.2 φ w K (ys.toList ++ (args.map a.eval).toList ++ us.toList) g hf ((h1.append (by simpa using hvr)).append h2)
  have ea : (ys.toList ++ (args.map a.eval).toList ++ us.toList).toArray = ys ++ args.map a.eval ++ us := by apply Array.ext'; simp
  rw [ea] at hc
  refine (callsIn_fw hc).mono ?_
  rintro e w' ⟨v', φ', rfl, k1, k2, k3, k4⟩
  exact hk v' φ' w' k1 k2 k3 k4

/-- The record of a loop over a function, turned. -/
theorem loop_set (g : Good φ H K w) {l : Nat} {L : Loop} {Lc : Loc} (hl : H.get l = some (.loop L)) (hL : φ l = some Lc) :
    ∃ l' : Loop, w.heap[Lc.blk]? = some (.loop l') ∧ l'.state = L.state ∧ l'.pending = L.pending ∧ TRel φ L.tmps.toList l'.tmps ∧ l'.params = L.params ∧ l'.assign = L.assign ∧ l'.body = L.body ∧
      ∀ (s : LoopState) (p : Option Code), Good φ (H.set l (.loop { L with state := s, pending := p })) K { w with heap := w.heap.setIfInBounds Lc.blk (.loop { l' with state := s, pending := p }) } ∧
        Went K w { w with heap := w.heap.setIfInBounds Lc.blk (.loop { l' with state := s, pending := p }) } := by
  obtain ⟨l', h1, h2, h3, h4, h5, h6, h7, D, h8, h9⟩ := g.at hl hL
  have hlt : Lc.blk < w.heap.size := (Array.getElem?_eq_some_iff.1 h1).1
  refine ⟨l', h1, h2, h3, h4, h5, h6, h7, fun s p => ?_⟩
  have hoth : ∀ (o : Obj) c, c ≠ Lc.blk → ({ w with heap := w.heap.setIfInBounds Lc.blk o } : World).heap[c]? = w.heap[c]? := fun o c hc => by
    show (w.heap.setIfInBounds Lc.blk o)[c]? = _
    rw [Array.getElem?_setIfInBounds, if_neg (fun e => hc e.symm)]
  refine ⟨g.upd hl rfl hL (hoth _) (by simp) ⟨{ l' with state := s, pending := p }, ?_, rfl, rfl, h4, h5, h6, h7, D, h8, h9⟩, ⟨rfl, rfl, rfl, by simp, fun c hc => hoth _ c (fun e => g.prot l _ Lc hl rfl hL (e ▸ hc))⟩⟩
  show (w.heap.setIfInBounds Lc.blk _)[Lc.blk]? = _
  rw [Array.getElem?_setIfInBounds]; simp [hlt]

def setParams : List Tmp → List Value → List Value → List Value
  | t :: ts, v :: vs, tm => setParams ts vs (tm.set t v)
  | _, _, tm => tm
theorem setParams_rel : ∀ {ps : List Tmp} {vs us : List Value} {tm : List Value} {ts : Array Value}, LRel φ vs us → TRel φ tm ts →
    TRel φ (setParams ps vs tm) ((ps.zip us).foldl (fun (ts : Array Value) (x : Tmp × Value) => ts.setIfInBounds x.1 x.2) ts)
  | [], vs, us, tm, ts, _, h => by simpa [setParams] using h
  | p :: ps, [], [], tm, ts, _, h => by simpa [setParams] using h
  | p :: ps, v :: vs, u :: us, tm, ts, hr, h => by
    simp only [setParams, List.zip_cons_cons, List.foldl_cons]
    exact setParams_rel hr.2 (h.set p hr.1)
  | _ :: _, [], _ :: _, _, _, hr, _ => hr.elim
  | _ :: _, _ :: _, [], _, _, hr, _ => hr.elim

/-- How a round ends. -/
def roundEnd (e : Exit) : Option (Bool × LoopState × Option Code) :=
  match e with
  | .normal => some (true, .ready, none)
  | .ret => some (false, .done, some .ret)
  | .exit i => some (false, .done, some (.exit i))
  | .goto i => some (false, .done, some (.goto i))
  | _ => none

/-- Calling yield: a round. -/
theorem opOk_yield {r : Option Nat} {o : Oper} {tm : List Value} {nx : Nat} {cf : Operand} {args : Array Operand} {ats : Array TypeId} (ho : o.op = .call { callee := .value cf, args := args, argTypes := ats })
    {l : Nat} {vs : List Value} {L L1 L2 : Loop} {R1 R2 : Res} {b : Bool} {s : LoopState} {p : Option Code}
    (hcf : opv tm cf = some (.func (.yield l) #[] #[])) (hvs : opvs tm args.toList = some vs) (hl : H.get l = some (.loop L)) (hn : vs.length = L.params.size)
    (h1 : CodeOk P (some l) L.assign (setParams L.params.toList vs L.tmps.toList) [] H nx R1) (he1 : R1.e = .normal) (hd1 : R1.ds = [])
    (hl1 : R1.H.get l = some (.loop L1)) (hst : L1.state = .ready)
    (h2 : CodeOk P (some l) L.body R1.tm [] (R1.H.set l (.loop { L1 with state := .busy })) R1.nx R2)
    (hl2 : R2.H.get l = some (.loop L2)) (he2 : roundEnd R2.e = some (b, s, p)) :
    OpOk P r o tm H nx (.bool b) (R2.H.set l (.loop { L2 with state := s, pending := p })) R2.nx := by
  refine ⟨Nat.le_trans h1.1 h2.1, fun φ w K a rc next Q g hf ht hr hk => ⟨about_fw, ?_⟩⟩
  have hcv := opv_rel ht hcf
  obtain ⟨fn', ys, us0, hev, hfr, e1, e2⟩ := hcv.func_inv
  cases hfr with
  | yield _ Lc hLc =>
  have hys : ys = #[] := Array.eq_empty_of_size_eq_zero (by have := e1.length; simp at this; exact this.symm)
  have hvr := opvs_rel ht hvs
  obtain ⟨l', k1, k2, k3, k4, k5, k6, k7, k8⟩ := loop_set g hl hLc
  have hgl : ∀ (w : World) (lr : Loop), w.heap[Lc.blk]? = some (.loop lr) → (Instr.getLoop Lc.blk).run P w = .ok lr w := fun w lr h => by
    simp [Instr.getLoop, getObj, Sem.run, h]
  have hrun : (execOp a.eval o).run P w = .ok (.round Lc.blk l'.fn (((l'.params.zip (args.map a.eval)).foldl (fun tmps (x : Tmp × Value) => tmps.setIfInBounds x.1 x.2) l'.tmps)) l'.assign l'.body) w := by
    unfold execOp
    have hsz : (args.map a.eval).size = l'.params.size := by
      have := hvr.length
      simp at this
      rw [k5, ← hn, this]; simp
    simp only [ho, resolve, hev, Deferred.ofValue, Sem.run_bind, Sem.run_pure, Result.andThen_ok, invoke, Instr.yield, hgl w l' k1, hys, Array.empty_append, hsz, ne_eq, not_true_eq_false, if_false]
  rw [Oper.semAt_eq _ _ _ (fun c hc => by rw [ho] at hc; cases hc), hrun]
  refine ⟨fun h0 => by simp [fw, Fence.wide] at h0, ?_⟩
  refine roundIn_of_wpIn (F := fw rc) trivial ?_
  rw [k6, k7]
  have ht0 : TRel φ (setParams L.params.toList vs L.tmps.toList) ((l'.params.zip (args.map a.eval)).foldl (fun tmps (x : Tmp × Value) => tmps.setIfInBounds x.1 x.2) l'.tmps) := by
    rw [k5, ← Array.foldl_toList, Array.toList_zip]
    exact setParams_rel (by simpa using hvr) k4
  have hw1 := h1.2 φ w K { tmps := (l'.params.zip (args.map a.eval)).foldl (fun tmps (x : Tmp × Value) => tmps.setIfInBounds x.1 x.2) l'.tmps, defers := [] } (some Lc.blk) g (hf.left h2.1) ht0 trivial ⟨Lc, hLc, rfl⟩
  refine wpIn_mono hw1 ?_
  rintro e a1 w1 ⟨rfl, φ1, x1, x2, x3, x4, x5⟩
  rw [he1]
  have hLc1 := x1.1 _ _ hLc
  obtain ⟨l1', y1, y2, y3, y4, y5, y6, y7, y8⟩ := loop_set x2 hl1 hLc1
  obtain ⟨z1, z2⟩ := y8 .busy L1.pending
  have hsame : ({ l1' with state := .busy, pending := L1.pending } : Loop) = { l1' with state := .busy } := by rw [← y3]
  rw [hsame] at z1 z2
  refine ⟨_, by simp [Instr.beginRound, hgl w1 l1' y1, setObj, Sem.run, y1, y2, hst, Sem.run_bind]; rfl, ?_⟩
  have hd1' : a1.defers = [] := by rw [hd1] at x4; revert x4; cases a1.defers <;> simp [DRel]
  have hw2 := h2.2 φ1 _ K a1 (some Lc.blk) z1 (hf.right x1 h1.1) x3 (by rw [hd1']; trivial) ⟨Lc, hLc1, rfl⟩
  refine wpIn_mono hw2 ?_
  rintro e a2 w2 ⟨rfl, φ2, u1, u2, u3, u4, u5⟩
  have hLc2 := u1.1 _ _ hLc1
  obtain ⟨l2', v1, v2, v3, v4, v5, v6, v7, v8⟩ := loop_set u2 hl2 hLc2
  have fin : ∀ (jump : Option Code), p = jump → (s = if jump.isNone then .ready else .done) → b = jump.isNone → ∃ v w', (Instr.endRound Lc.blk jump).run P w2 = .ok v w' ∧ (fun e w'' => match e with
      | .returned v => next (a.put o.dst v) w''
      | .panicked chain => Q (.panic chain) a w''
      | .outgrown => LetsOut Q : Ending → World → Prop) (.returned v) w' := by
    rintro jump rfl rfl rfl
    obtain ⟨q1, q2⟩ := v8 (if p.isNone then .ready else .done) p
    refine ⟨.bool p.isNone, { w2 with heap := w2.heap.setIfInBounds Lc.blk (.loop { l2' with state := if p.isNone then .ready else .done, pending := p }) }, ?_, ?_⟩
    · simp only [Instr.endRound, Sem.run_bind, hgl w2 l2' v1, Result.andThen_ok, setObj, Sem.run, v1, Sem.run_pure]
    exact hk _ φ2 _ (.bool _) (x1.trans u1 h1.1 h2.1) q1 (((x5.trans z2).trans u5).trans q2)
  cases hE : R2.e with
  | normal => rw [hE] at he2; cases he2; exact fin none rfl rfl rfl
  | ret => rw [hE] at he2; cases he2; exact fin (some .ret) rfl rfl rfl
  | exit i => rw [hE] at he2; cases he2; exact fin (some (.exit i)) rfl rfl rfl
  | goto i => rw [hE] at he2; cases he2; exact fin (some (.goto i)) rfl rfl rfl
  | panic c => rw [hE] at he2; cases he2
  | outgrown => rw [hE] at he2; cases he2
end Go.Fz
/- The engine, part J: regions in their text's order; the statement that ranges over a function; a function's whole call. -/
noncomputable section
namespace Go.Fz
set_option linter.unusedVariables false
variable {P : Program} {φ : Ren} {H : Hp} {K : Nat → Prop} {w : World}

/-- The list with v at i. -/
def ls (l : List Value) (i : Nat) (v : Value) : List Value := List.rec (motive := fun _ => Nat → List Value) (fun _ => []) (fun x r ih i => Nat.rec (motive := fun _ => List Value) (v :: r) (fun m _ => x :: ih m) i) l i
theorem ls_eq (v : Value) : ∀ (l : List Value) (i : Nat), ls l i v = l.set i v
  | [], _ => by simp [ls]
  | x :: l, 0 => rfl
  | x :: l, i + 1 => by
    show x :: ls l i v = _
    rw [ls_eq v l i]; simp
def putT (tm : List Value) (dst : Option Tmp) (v : Value) : List Value :=
  match dst with
  | some d => ls tm d v
  | none => tm
theorem putT_some (tm : List Value) (d : Tmp) (v : Value) : putT tm (some d) v = tm.set d v := ls_eq v tm d
theorem putT_rel {tm : List Value} {a : Act} (ht : TRel φ tm a.tmps) (dst : Option Tmp) {v v' : Value} (hv : VRel φ v v') : TRel φ (putT tm dst v) (a.put dst v').tmps := by
  cases dst with
  | none => exact ht
  | some d => rw [putT_some]; exact ht.set d hv
theorem put_defers (a : Act) (dst : Option Tmp) (v : Value) : (a.put dst v).defers = a.defers := by cases dst <;> rfl

/-- Whether an operation's guard lets it run. -/
def wantedA (ops : Array Oper) (tm : List Value) (o : Oper) : Option Bool :=
  match o.guard with
  | none => some true
  | some (j, want) => match ((ops[j]?).bind (·.dst)).bind (lg tm ·) with
    | some (.bool b) => some (b == want)
    | some (.tuple _) => some false
    | _ => none
theorem wantedA_ok {ops : Array Oper} {tm : List Value} {a : Act} {o : Oper} {b : Bool} (ht : TRel φ tm a.tmps) (h : wantedA ops tm o = some b) : Region.wanted o (yielded ops a.tmps) = b := by
  unfold wantedA at h
  unfold Region.wanted
  cases hg : o.guard with
  | none => simp [hg] at h; subst h; rfl
  | some p =>
    obtain ⟨j, want⟩ := p
    simp only [hg] at h ⊢
    unfold yielded
    cases hd : (ops[j]?).bind (·.dst) with
    | none => simp [hd] at h
    | some d =>
      simp only [hd, Option.bind_some, lg_eq] at h ⊢
      cases hv : tm[d]? with
      | none => simp [hv] at h
      | some v =>
        rw [hv] at h
        rcases ht.2 d v hv with rfl | ⟨v', h1, h2⟩
        · simp [junk] at h
        · rw [h1]
          cases v with
          | bool c => cases h2; simp at h; subst h; cases c <;> cases want <;> rfl
          | tuple xs =>
            obtain ⟨ys, rfl, _⟩ := h2.tuple_inv
            simp at h; subst h; cases want <;> rfl
          | _ => simp at h

def OpsOk (P : Program) (r : Option Nat) (ops : Array Oper) (l : List Nat) (tm : List Value) (H : Hp) (nx : Nat) (tm' : List Value) (H' : Hp) (nx' : Nat) : Prop :=
  nx ≤ nx' ∧ ∀ (φ : Ren) (w : World) (K : Nat → Prop) (a : Act) (rc : Option Nat) (Q : Exit → Act → World → Prop), Good φ H K w → Fresh φ nx nx' → TRel φ tm a.tmps → RRel φ r rc →
    (∀ φ' a' w', Ext K φ φ' nx nx' → Good φ' H' K w' → TRel φ' tm' a'.tmps → a'.defers = a.defers → Went K w w' → Q .normal a' w') → wpOpsIn (fw rc) 0 P ops Q l a w

theorem opsOk_nil {r : Option Nat} {ops : Array Oper} {tm : List Value} {nx : Nat} : OpsOk P r ops [] tm H nx tm H nx :=
  ⟨Nat.le_refl _, fun φ w K a rc Q g hf ht hr hk => hk φ a w (Ext.refl _ _ _ _) g ht rfl (Went.refl _ _)⟩
theorem opsOk_cons {r : Option Nat} {ops : Array Oper} {i : Nat} {l : List Nat} {o : Oper} {tm tm' : List Value} {H1 H' : Hp} {nx nx1 nx' : Nat} {v : Value} (hi : ops[i]? = some o) (hw : wantedA ops tm o = some true)
    (h1 : OpOk P r o tm H nx v H1 nx1) (h2 : OpsOk P r ops l (putT tm o.dst v) H1 nx1 tm' H' nx') : OpsOk P r ops (i :: l) tm H nx tm' H' nx' := by
  refine ⟨Nat.le_trans h1.1 h2.1, fun φ w K a rc Q g hf ht hr hk => ?_⟩
  simp only [wpOpsIn, hi]
  rw [if_pos (wantedA_ok ht hw)]
  refine h1.2 φ w K a rc _ Q g (hf.left h2.1) ht hr fun v' φ1 w1 x1 x2 x3 x4 => ?_
  refine h2.2 φ1 w1 K (a.put o.dst v') rc Q x3 (hf.right x2 h1.1) (putT_rel (ht.mono x2.1) o.dst x1) (hr.mono x2.1) fun φ2 a2 w2 y1 y2 y3 y4 y5 => ?_
  exact hk φ2 a2 w2 (x2.trans y1 h1.1 h2.1) y2 y3 (by rw [y4, put_defers]) (x4.trans y5)
theorem opsOk_skip {r : Option Nat} {ops : Array Oper} {i : Nat} {l : List Nat} {o : Oper} {tm tm' : List Value} {H' : Hp} {nx nx' : Nat} (hi : ops[i]? = some o) (hw : wantedA ops tm o = some false)
    (h2 : OpsOk P r ops l (putT tm o.dst undef) H nx tm' H' nx') : OpsOk P r ops (i :: l) tm H nx tm' H' nx' := by
  refine ⟨h2.1, fun φ w K a rc Q g hf ht hr hk => ?_⟩
  simp only [wpOpsIn, hi]
  rw [if_neg (by rw [wantedA_ok ht hw]; simp)]
  refine ⟨about_fw, ?_⟩
  have hu : VRel φ undef undef := .tuple' (by simp [LRel])
  refine h2.2 φ w K (a.put o.dst undef) rc Q g hf (putT_rel ht o.dst hu) hr fun φ2 a2 w2 y1 y2 y3 y4 y5 => ?_
  exact hk φ2 a2 w2 y1 y2 y3 (by rw [y4, put_defers]) y5

theorem codeOk_region {r : Option Nat} {id : Nat} {ops : Array Oper} {tm tm' : List Value} {ds : List Nat} {H' : Hp} {nx nx' : Nat} (h : OpsOk P r ops (List.range ops.size) tm H nx tm' H' nx') :
    CodeOk P r (.region id ops false) tm ds H nx ⟨.normal, tm', ds, H', nx'⟩ := by
  refine ⟨h.1, fun φ w K a rc g hf ht hd hr => wpIn_region ?_⟩
  exact h.2 φ w K a rc _ g hf ht hr fun φ1 a1 w1 x1 x2 x3 x4 x5 => ⟨rfl, φ1, x1, x2, x3, by rw [x4]; exact hd.mono x1.1, x5⟩

/-- The mark for the deferred calls and the loop's record are laid; the function is called; the pending jump is taken up. -/
theorem good_obj (g : Good φ H K w) {n : Nat} (hn : φ n = none) (hz : n < FZ) (o : Obj) {k : Blk} (hk : BRel (φ.put n ⟨w.heap.size, 0, 0, #[]⟩) (w.alloc o) ⟨w.heap.size, 0, 0, #[]⟩ k) :
    Good (φ.put n ⟨w.heap.size, 0, 0, #[]⟩) ((n, k) :: H) K (w.alloc o) := g.new hn hz o rfl hk

theorem heap_alloc_last (w : World) (o : Obj) : (w.alloc o).heap[w.heap.size]? = some o := by
  show (w.heap.push o)[w.heap.size]? = _
  simp

def newLoop (tm : List Value) (ps : Array Tmp) (assign body : Code) (d : Nat) : Loop :=
  { state := .ready, pending := none, fn := 0, tmps := tm.toArray, params := ps, assign := assign, body := body, defers := d }

/-- What follows the call of a range-over-function statement. -/
def afterLoop (L : Loop) (tm : List Value) (ds : List Nat) (H : Hp) (nx : Nat) : Option Res :=
  match L.state, L.pending with
  | .busy, _ => none
  | _, none => some ⟨.normal, tm, ds, H, nx⟩
  | _, some .ret => some ⟨.ret, tm, ds, H, nx⟩
  | _, some (.exit i) => some ⟨.exit i, tm, ds, H, nx⟩
  | _, some (.goto i) => some ⟨.goto i, tm, ds, H, nx⟩
  | _, _ => none

theorem endLoop_ok {r : Option Nat} {tm : List Value} {ds : List Nat} {nx : Nat} {l : Nat} {L : Loop} {Lc : Loc} {R : Res} (g : Good φ H K w) (hl : H.get l = some (.loop L)) (hL : φ l = some Lc) (ha : afterLoop L tm ds (H.del l) nx = some R)
    {a : Act} {rc : Option Nat} (ht : TRel φ tm a.tmps) (hd : DRel φ ds a.defers) (hr : RRel φ r rc) :
    ∃ jump w4, (Instr.endLoop Lc.blk).run P w = .ok jump w4 ∧ (match jump with
       | none => Post φ K w nx R .normal a w4
       | some c => c.wpIn (fw rc) 0 P (Post φ K w nx R) a w4) := by
  obtain ⟨l', k1, k2, k3, k4, k5, k6, k7, k8⟩ := loop_set g hl hL
  obtain ⟨q1, q2⟩ := k8 .exhausted L.pending
  have hsame : ({ l' with state := .exhausted, pending := L.pending } : Loop) = { l' with state := .exhausted } := by rw [← k3]
  rw [hsame] at q1 q2
  have hgl : (Instr.getLoop Lc.blk).run P w = .ok l' w := by simp [Instr.getLoop, getObj, Sem.run, k1]
  have hnb : (l'.state == .busy) = false := by
    rw [k2]
    unfold afterLoop at ha
    cases hs : L.state <;> simp [hs] at ha ⊢
  have hg : Good φ (H.del l) K { w with heap := w.heap.setIfInBounds Lc.blk (.loop { l' with state := .exhausted }) } := q1.sub fun b k hb => by
    rw [Hp.get_del] at hb
    rw [Hp.get_set]
    split at hb
    · cases hb
    · rename_i hne; simp only [hne, if_false]; exact hb
  obtain ⟨w4, hw4⟩ : ∃ w4 : World, w4 = { w with heap := w.heap.setIfInBounds Lc.blk (.loop { l' with state := .exhausted }) } := ⟨_, rfl⟩
  rw [← hw4] at hg q2
  refine ⟨l'.pending, w4, by rw [hw4]; simp only [Instr.endLoop, Sem.run_bind, hgl, Result.andThen_ok, hnb, Bool.false_eq_true, if_false, Sem.run_pure, setObj, Sem.run, k1], ?_⟩
  rw [k3]
  unfold afterLoop at ha
  cases hp : L.pending with
  | none =>
    have : R = ⟨.normal, tm, ds, H.del l, nx⟩ := by cases hs : L.state <;> simp [hs, hp] at ha <;> exact ha.symm
    subst this
    exact ⟨rfl, φ, Ext.refl _ _ _ _, hg, ht, hd, q2⟩
  | some c =>
    cases c with
    | ret =>
      have : R = ⟨.ret, tm, ds, H.del l, nx⟩ := by cases hs : L.state <;> simp [hs, hp] at ha <;> exact ha.symm
      subst this
      exact wpIn_ret ⟨rfl, φ, Ext.refl _ _ _ _, hg, ht, hd, q2⟩
    | exit i =>
      have : R = ⟨.exit i, tm, ds, H.del l, nx⟩ := by cases hs : L.state <;> simp [hs, hp] at ha <;> exact ha.symm
      subst this
      exact wpIn_exit ⟨rfl, φ, Ext.refl _ _ _ _, hg, ht, hd, q2⟩
    | goto i =>
      have : R = ⟨.goto i, tm, ds, H.del l, nx⟩ := by cases hs : L.state <;> simp [hs, hp] at ha <;> exact ha.symm
      subst this
      exact wpIn_goto ⟨rfl, φ, Ext.refl _ _ _ _, hg, ht, hd, q2⟩
    | _ => cases hs : L.state <;> simp [hs, hp] at ha

theorem afterLoop_nx {L : Loop} {tm : List Value} {ds : List Nat} {nx : Nat} {R : Res} (h : afterLoop L tm ds H nx = some R) : R.nx = nx := by
  unfold afterLoop at h
  (repeat' split at h) <;> first | (cases h; done) | (cases h; rfl)

/-- In a frame of its own: no round. -/
theorem codeOk_rangeFunc {g : Operand} {ps : Array Tmp} {assign body : Code} {tm : List Value} {ds : List Nat} {nx : Nat} {f : FuncId} {fn : Func} {fs cs : Array Value} {v : Value} {H1 : Hp} {nx1 : Nat} {L : Loop} {R : Res}
    (hs : NoSpecial P) (hfn : P.funcs[f]? = some fn) (hb : fn.body.isSome = true) (hgv : opv tm g = some (.func (.func f) fs cs))
    (hc : CallOk P f (fs.toList ++ [.func (.yield (nx + 1)) #[] #[]] ++ cs.toList) ((nx + 1, .loop (newLoop tm ps assign body nx)) :: (nx, .defd) :: H) (nx + 2) v H1 nx1)
    (hl : H1.get (nx + 1) = some (.loop L)) (ha : afterLoop L tm (nx :: ds) (H1.del (nx + 1)) nx1 = some R) :
    CodeOk P none (.rangeFunc g ps assign body) tm ds H nx R := by
  have hRnx := afterLoop_nx ha
  have hle := hc.1
  refine ⟨by omega, fun φ w K a rc gd hf ht hd hr => ?_⟩
  have hrc : rc = none := by cases rc <;> simp [RRel] at hr ⊢
  subst hrc
  refine wpIn_rangeFunc fun fnid _ => ?_
  have hn0 : φ nx = none := hf.2 nx (by omega) (by omega)
  have hz0 : nx < FZ := (hf.at (b := nx) (by omega) (by omega)).2
  have hz1 : nx + 1 < FZ := (hf.at (b := nx + 1) (by omega) (by omega)).2
  have hn1 : φ (nx + 1) = none := hf.2 (nx + 1) (by omega) (by omega)
  have g1 := good_obj gd hn0 hz0 (.deferred (some [])) (k := .defd) (heap_alloc_last w _)
  have hp1 : (φ.put nx ⟨w.heap.size, 0, 0, #[]⟩) (nx + 1) = none := by rw [Ren.put_other _ _ (by omega)]; exact hn1
  have hgv' := opv_rel ht hgv
  obtain ⟨fn', ys, us, hev, hfr, e1, e2⟩ := hgv'.func_inv
  cases hfr
  have le1 := Ren.put_le hn0 ⟨w.heap.size, 0, 0, #[]⟩
  have le2 := Ren.put_le hp1 ⟨(w.alloc (.deferred (some []))).heap.size, 0, 0, #[]⟩
  have hlp : Loop.mk .ready none fnid a.tmps ps assign body w.heap.size = { state := .ready, pending := none, fn := fnid, tmps := a.tmps, params := ps, assign := assign, body := body, defers := w.heap.size } := rfl
  have g2 := good_obj g1 hp1 hz1 (.loop { state := .ready, pending := none, fn := fnid, tmps := a.tmps, params := ps, assign := assign, body := body, defers := w.heap.size }) (k := .loop (newLoop tm ps assign body nx))
    ⟨_, heap_alloc_last _ _, rfl, rfl, by simpa [newLoop] using (ht.mono le1).mono le2, rfl, rfl, rfl, ⟨w.heap.size, 0, 0, #[]⟩, le2 _ _ (Ren.put_same _ _ _), rfl⟩
  have ext1 : Ext K φ ((φ.put nx ⟨w.heap.size, 0, 0, #[]⟩).put (nx + 1) ⟨(w.alloc (.deferred (some []))).heap.size, 0, 0, #[]⟩) nx (nx + 2) := (Ext.put hn0 hz0 _).trans (Ext.put hp1 hz1 _) (by omega) (by omega)
  have w1 : Went K w ((w.alloc (.deferred (some []))).alloc (.loop { state := .ready, pending := none, fn := fnid, tmps := a.tmps, params := ps, assign := assign, body := body, defers := w.heap.size })) := (Went.alloc gd _).trans (Went.alloc g1 _)
  obtain ⟨w2, hw2⟩ : ∃ w2 : World, w2 = (w.alloc (.deferred (some []))).alloc (.loop { state := .ready, pending := none, fn := fnid, tmps := a.tmps, params := ps, assign := assign, body := body, defers := w.heap.size }) := ⟨_, rfl⟩
  rw [← hw2] at g2 w1
  have run1 : (Instr.enterLoop fnid a.tmps ps assign body none).run P w = .ok (w.heap.size + 1, [{ target := .collected w.heap.size, args := #[] }]) w2 := by
    rw [hw2]; simp [Instr.enterLoop]
  have run2 : (resolve a.eval (rangeCall g (w.heap.size + 1)) 0).run P w2 = .ok { target := .fn (.func f) us, args := ys ++ #[.func (.yield (w.heap.size + 1)) #[] #[]] } w2 := by
    show (Deferred.ofValue (a.eval g) _).run P w2 = _
    have em : (rangeCall g (w.heap.size + 1)).args.map a.eval = #[.func (.yield (w.heap.size + 1)) #[] #[]] := by simp [Act.eval]
    rw [hev, em]; rfl
  have run3 : (invoke (.fn (.func f) us) (ys ++ #[.func (.yield (w.heap.size + 1)) #[] #[]])).run P w2 = .ok (.enter f (ys ++ #[.func (.yield (w.heap.size + 1)) #[] #[]] ++ us)) w2 := by
    simp only [invoke, run_callFunc hs hfn hb]
  refine ⟨w.heap.size + 1, [{ target := .collected w.heap.size, args := #[] }], w2, _, w2, f, _, w2, run1, run2, fun _ _ => trivial, run3, (fun h0 => by simp [fw, Fence.wide] at h0), ?_⟩
  · have hy : LRel ((φ.put nx ⟨w.heap.size, 0, 0, #[]⟩).put (nx + 1) ⟨(w.alloc (.deferred (some []))).heap.size, 0, 0, #[]⟩) [Value.func (.yield (nx + 1)) #[] #[]] [Value.func (.yield (w.heap.size + 1)) #[] #[]] := by
      refine ⟨.func' ?_ (by simp [LRel]) (by simp [LRel]), trivial⟩
      have := FnRel.yield (φ := (φ.put nx ⟨w.heap.size, 0, 0, #[]⟩).put (nx + 1) ⟨(w.alloc (.deferred (some []))).heap.size, 0, 0, #[]⟩) (nx + 1) _ (Ren.put_same _ _ _)
      simpa using this
    have hcall := hc.2 _ _ K (ys.toList ++ [Value.func (.yield (w.heap.size + 1)) #[] #[]] ++ us.toList) g2 ⟨by have := hf.1; omega, fun b h1 h2 => by rw [ext1.2.1 b (by have := hf.1; omega) (.inr h1)]; exact hf.2 b (by omega) (by omega)⟩
      ((((e1.mono le1).mono le2).append hy).append ((e2.mono le1).mono le2))
    have ea : (ys.toList ++ [Value.func (.yield (w.heap.size + 1)) #[] #[]] ++ us.toList).toArray = ys ++ #[Value.func (.yield (w.heap.size + 1)) #[] #[]] ++ us := by apply Array.ext'; simp
    rw [ea] at hcall
    refine (callsIn_fw hcall).mono ?_
    rintro e w3 ⟨v', φ3, rfl, x1, x2, x3, x4⟩
    have hLl := x2.1 _ _ (Ren.put_same (φ.put nx ⟨w.heap.size, 0, 0, #[]⟩) (nx + 1) ⟨(w.alloc (.deferred (some []))).heap.size, 0, 0, #[]⟩)
    have hLd := x2.1 _ _ (le2 _ _ (Ren.put_same φ nx ⟨w.heap.size, 0, 0, #[]⟩))
    have le3 : φ.le φ3 := Ren.le_trans (Ren.le_trans le1 le2) x2.1
    obtain ⟨jump, w4, y1, y2⟩ := endLoop_ok (P := P) (r := none) (rc := none) (a := { a with defers := [{ target := .collected w.heap.size, args := #[] }] ++ a.defers }) x3 hl hLl ha (ht.mono le3) ⟨⟨_, hLd, rfl⟩, hd.mono le3⟩ trivial
    simp only [World.size_alloc] at y1
    refine ⟨jump, w4, y1, ?_⟩
    have fin : ∀ e a' w', Post φ3 K w3 nx1 R e a' w' → Post φ K w nx R e a' w' := fun e a' w' hp => Post.after ((ext1.trans x2 (by omega) hle)) (w1.trans x4) (by omega) (by omega) hp
    cases jump with
    | none => exact fin _ _ _ y2
    | some c => exact wpIn_mono y2 fin

/-- In a round of another loop. -/
theorem codeOk_rangeFunc_in {l0 : Nat} {g : Operand} {ps : Array Tmp} {assign body : Code} {tm : List Value} {ds : List Nat} {nx : Nat} {f : FuncId} {fn : Func} {fs cs : Array Value} {v : Value} {H1 : Hp} {nx1 : Nat} {L0 L : Loop} {R : Res}
    (hs : NoSpecial P) (hfn : P.funcs[f]? = some fn) (hb : fn.body.isSome = true) (hgv : opv tm g = some (.func (.func f) fs cs)) (hl0 : H.get l0 = some (.loop L0))
    (hc : CallOk P f (fs.toList ++ [.func (.yield nx) #[] #[]] ++ cs.toList) ((nx, .loop (newLoop tm ps assign body L0.defers)) :: H) (nx + 1) v H1 nx1)
    (hl : H1.get nx = some (.loop L)) (ha : afterLoop L tm ds (H1.del nx) nx1 = some R) :
    CodeOk P (some l0) (.rangeFunc g ps assign body) tm ds H nx R := by
  have hRnx := afterLoop_nx ha
  have hle := hc.1
  refine ⟨by omega, fun φ w K a rc gd hf ht hd hr => ?_⟩
  cases rc with
  | none => exact hr.elim
  | some c0 =>
  obtain ⟨Lc0, hLc0, hbc⟩ := hr
  refine wpIn_rangeFunc fun fnid _ => ?_
  have hn0 : φ nx = none := hf.2 nx (by omega) (by omega)
  have hz0 : nx < FZ := (hf.at (b := nx) (by omega) (by omega)).2
  obtain ⟨l0', q1, q2, q3, q4, q5, q6, q7, D, q8, q9⟩ := gd.at hl0 hLc0
  have hgv' := opv_rel ht hgv
  obtain ⟨fn', ys, us, hev, hfr, e1, e2⟩ := hgv'.func_inv
  cases hfr
  have le1 := Ren.put_le hn0 ⟨w.heap.size, 0, 0, #[]⟩
  have g2 := good_obj gd hn0 hz0 (.loop { state := .ready, pending := none, fn := fnid, tmps := a.tmps, params := ps, assign := assign, body := body, defers := l0'.defers }) (k := .loop (newLoop tm ps assign body L0.defers))
    ⟨_, heap_alloc_last _ _, rfl, rfl, by simpa [newLoop] using ht.mono le1, rfl, rfl, rfl, D, le1 _ _ q8, q9⟩
  have ext1 := Ext.put (K := K) hn0 hz0 ⟨w.heap.size, 0, 0, #[]⟩
  have w1 := Went.alloc gd (.loop { state := .ready, pending := none, fn := fnid, tmps := a.tmps, params := ps, assign := assign, body := body, defers := l0'.defers })
  obtain ⟨w2, hw2⟩ : ∃ w2 : World, w2 = w.alloc (.loop { state := .ready, pending := none, fn := fnid, tmps := a.tmps, params := ps, assign := assign, body := body, defers := l0'.defers }) := ⟨_, rfl⟩
  rw [← hw2] at g2 w1
  have run1 : (Instr.enterLoop fnid a.tmps ps assign body (some c0)).run P w = .ok (w.heap.size, []) w2 := by
    rw [hw2, ← hbc]
    have hgl : (Instr.getLoop Lc0.blk).run P w = .ok l0' w := by simp [Instr.getLoop, getObj, Sem.run, q1]
    simp [Instr.enterLoop, hgl]
  have run2 : (resolve a.eval (rangeCall g w.heap.size) 0).run P w2 = .ok { target := .fn (.func f) us, args := ys ++ #[.func (.yield w.heap.size) #[] #[]] } w2 := by
    show (Deferred.ofValue (a.eval g) _).run P w2 = _
    have em : (rangeCall g w.heap.size).args.map a.eval = #[.func (.yield w.heap.size) #[] #[]] := by simp [Act.eval]
    rw [hev, em]; rfl
  have run3 : (invoke (.fn (.func f) us) (ys ++ #[.func (.yield w.heap.size) #[] #[]])).run P w2 = .ok (.enter f (ys ++ #[.func (.yield w.heap.size) #[] #[]] ++ us)) w2 := by
    simp only [invoke, run_callFunc hs hfn hb]
  refine ⟨w.heap.size, [], w2, _, w2, f, _, w2, run1, run2, fun _ _ => trivial, run3, (fun h0 => by simp [fw, Fence.wide] at h0), ?_⟩
  have hy : LRel (φ.put nx ⟨w.heap.size, 0, 0, #[]⟩) [Value.func (.yield nx) #[] #[]] [Value.func (.yield w.heap.size) #[] #[]] :=
    ⟨.func' (FnRel.yield (φ := φ.put nx ⟨w.heap.size, 0, 0, #[]⟩) nx _ (Ren.put_same _ _ _)) (by simp [LRel]) (by simp [LRel]), trivial⟩
  have hcall := hc.2 _ _ K (ys.toList ++ [Value.func (.yield w.heap.size) #[] #[]] ++ us.toList) g2 ⟨by have := hf.1; omega, fun b h1 h2 => by rw [ext1.2.1 b (by have := hf.1; omega) (.inr h1)]; exact hf.2 b (by omega) (by omega)⟩
    (((e1.mono le1).append hy).append (e2.mono le1))
  have ea : (ys.toList ++ [Value.func (.yield w.heap.size) #[] #[]] ++ us.toList).toArray = ys ++ #[Value.func (.yield w.heap.size) #[] #[]] ++ us := by apply Array.ext'; simp
  rw [ea] at hcall
  refine (callsIn_fw hcall).mono ?_
  rintro e w3 ⟨v', φ3, rfl, x1, x2, x3, x4⟩
  have hLl := x2.1 _ _ (Ren.put_same φ nx ⟨w.heap.size, 0, 0, #[]⟩)
  have le3 : φ.le φ3 := Ren.le_trans le1 x2.1
  obtain ⟨jump, w4, y1, y2⟩ := endLoop_ok (P := P) (r := some l0) (rc := some c0) (a := { a with defers := [] ++ a.defers }) x3 hl hLl ha (ht.mono le3) (hd.mono le3) ⟨Lc0, le3 _ _ hLc0, hbc⟩
  refine ⟨jump, w4, y1, ?_⟩
  have fin : ∀ e a' w', Post φ3 K w3 nx1 R e a' w' → Post φ K w nx R e a' w' := fun e a' w' hp => Post.after ((ext1.trans x2 (by omega) hle)) (w1.trans x4) (by omega) (by omega) hp
  cases jump with
  | none => exact fin _ _ _ y2
  | some c => exact wpIn_mono y2 fin

/-- The results of a function, at its end. -/
def resA (P : Program) (H : Hp) (tm : List Value) : List ResultVar → Option (List Value)
  | [] => some []
  | .tmp t :: rs => match opv tm (.tmp t), resA P H tm rs with
    | some v, some vs => some (v :: vs)
    | _, _ => none
  | .cell a t :: rs => match (opv tm (.tmp a)).bind (doLoad P H t), resA P H tm rs with
    | some v, some vs => some (v :: vs)
    | _, _ => none
def retV : List Value → Value
  | [v] => v
  | vs => .tuple vs.toArray

theorem asAddr_of_load {H : Hp} {t : TypeId} {u u' v : Value} (h : doLoad P H t u = some v) (hr : VRel φ u u') (w : World) : ∃ a, (asAddr u').run P w = .ok a w ∧ Instr.sureAddr u' = pure a := by
  unfold doLoad at h
  split at h
  · cases hr; exact ⟨_, rfl, rfl⟩
  · cases h

theorem resA_ok (g : Good φ H K w) {tm : List Value} {a : Act} (ht : TRel φ tm a.tmps) : ∀ {rs : List ResultVar} {vs : List Value}, resA P H tm rs = some vs →
    ∃ us, (rs.mapM (fun | .tmp t => pure (a.tmps.getD t undef) | .cell b t => do loadVar t (← asAddr (a.tmps.getD b undef)) : ResultVar → Sem Value)).run P w = .ok us w ∧ LRel φ vs us
  | [], vs, h => by simp [resA] at h; subst h; exact ⟨[], by simp, trivial⟩
  | .tmp t :: rs, vs, h => by
    simp only [resA] at h
    split at h
    · rename_i v us h1 h2
      cases h
      obtain ⟨us', h3, h4⟩ := resA_ok g ht h2
      have hv := opv_rel ht h1
      refine ⟨a.eval (.tmp t) :: us', ?_, hv, h4⟩
      rw [List.mapM_cons]
      simp only [Sem.run_bind, Sem.run_pure, Result.andThen_ok, h3]
      rfl
    · cases h
  | .cell b t :: rs, vs, h => by
    simp only [resA] at h
    split at h
    · rename_i v us h1 h2
      cases h
      simp only [Option.bind_eq_some_iff] at h1
      obtain ⟨u, hu, h1⟩ := h1
      obtain ⟨us', h3, h4⟩ := resA_ok g ht h2
      have hv := opv_rel ht hu
      obtain ⟨v', h5, h6⟩ := doLoad_ok g h1 hv
      obtain ⟨ad, h7, h8⟩ := asAddr_of_load h1 hv w
      refine ⟨v' :: us', ?_, h6, h4⟩
      have h9 : (loadVar t ad).run P w = .ok v' w := by
        have := h5
        simp only [Instr.loadAt, h8] at this
        simpa using this
      have h10 : (asAddr (a.tmps.getD b undef)).run P w = .ok ad w := h7
      rw [List.mapM_cons]
      simp only [Sem.run_bind, Sem.run_pure, Result.andThen_ok, h3, h10, h9]
    · cases h

/-- The blocks for deferred calls are shut at the function's end. -/
def killDs : List Nat → Hp → Option Hp
  | [], H => some H
  | d :: ds, H => match H.get d with
    | some .defd => killDs ds (H.del d)
    | _ => none

theorem good_kill (g : Good φ H K w) {d : Nat} {k : Blk} {L : Loc} (hd : H.get d = some k) (hrw : k.rw = true) (hL : φ d = some L) (o : Obj) :
    Good φ (H.del d) K (w.putObj L.blk o) ∧ Went K w (w.putObj L.blk o) := by
  have hoth : ∀ c, c ≠ L.blk → (w.putObj L.blk o).heap[c]? = w.heap[c]? := fun c hc => by
    show (w.heap.setIfInBounds L.blk o)[c]? = _
    rw [Array.getElem?_setIfInBounds, if_neg (fun e => hc e.symm)]
  have hsz : (w.putObj L.blk o).heap.size = w.heap.size := by show (w.heap.setIfInBounds L.blk o).size = _; simp
  refine ⟨⟨fun b x hb => ?_, fun b c x y M N hb hc => ?_, fun b x M hb => ?_, fun c hc => by rw [hsz]; exact g.kin c hc, fun c M hM => (g.fz c M hM).congr (hoth c fun e => g.fsep d k L c M hd hrw hL hM e.symm), fun b x M c N hb => ?_⟩, ⟨rfl, rfl, rfl, Nat.le_of_eq hsz.symm, fun c hc => hoth c (fun e => g.prot d k L hd hrw hL (e ▸ hc))⟩⟩
  · rw [Hp.get_del] at hb
    split at hb
    · cases hb
    · rename_i hne
      obtain ⟨M, hM, hr⟩ := g.rel b x hb
      exact ⟨M, hM, hr.congr (hoth _ (fun e => g.sep d b k x L M hd hb (fun e => hne e.symm) hrw hL hM e.symm))⟩
  · rw [Hp.get_del] at hb hc
    split at hb
    · cases hb
    · split at hc
      · cases hc
      · exact g.sep b c x y M N hb hc
  · rw [Hp.get_del] at hb
    split at hb
    · cases hb
    · exact g.prot b x M hb
  · rw [Hp.get_del] at hb
    split at hb
    · cases hb
    · exact g.fsep b x M c N hb

theorem leaves_ok {fn : Func} {tmps : Array Value} {Rr : Ending → World → Prop} : ∀ {ds : List Nat} {xs : List Deferred} {H H' : Hp} {w : World}, DRel φ ds xs → Good φ H K w → killDs ds H = some H' →
    (∀ w', Good φ H' K w' → Went K w w' → ∃ v, (results fn tmps).run P w' = .ok v w' ∧ Rr (.returned v) w') → LeavesInM (fw none) 0 P fn tmps Rr xs .returning w
  | [], [], H, H', w, _, g, hk, h => by
    simp [killDs] at hk; subst hk
    exact h w g (Went.refl _ _)
  | d :: ds, x :: xs, H, H', w, hd, g, hk, h => by
    obtain ⟨⟨L, hL, rfl⟩, hd⟩ := hd
    simp only [killDs] at hk
    split at hk
    · rename_i hb
      have hbr : w.heap[L.blk]? = some (.deferred (some [])) := g.at hb hL
      obtain ⟨g', hw'⟩ := good_kill g hb rfl hL (.deferred none)
      refine ⟨by simp, .inl ⟨L.blk, _, rfl, run_takeDeferred hbr, ?_⟩⟩
      exact leaves_ok hd g' hk fun w' g2 h2 => h w' g2 (hw'.trans h2)
    · cases hk
  | [], _ :: _, _, _, _, h, _, _, _ => h.elim
  | _ :: _, [], _, _, _, h, _, _, _ => h.elim

theorem callOk_of {f : FuncId} {fn : Func} {c : Code} {args : List Value} {nx : Nat} {R : Res} {H1 H2 : Hp} {vs : List Value} (hfn : P.funcs[f]? = some fn) (hb : fn.body = some c)
    (h : CodeOk P none c (args ++ List.replicate (fn.ntmps - args.length) undef) [] H nx R) (he : R.e = .normal ∨ R.e = .ret) (hk : killDs R.ds R.H = some H1) (hr : resA P H1 R.tm fn.results.toList = some vs)
    (hs : ∀ b k, H2.get b = some k → H1.get b = some k) : CallOk P f args H nx (retV vs) H2 R.nx := by
  refine ⟨h.1, fun φ w K us g hf hl => ?_⟩
  have hcin : CallsIn (fw none) 0 P f us.toArray w fun e w' => ∃ v' φ', e = .returned v' ∧ VRel φ' (retV vs) v' ∧ Ext K φ φ' nx R.nx ∧ Good φ' H2 K w' ∧ Went K w w' := by
    refine callsIn_of_wp_marks hfn hb trivial ?_
    have hlen := hl.length
    have ht : TRel φ (args ++ List.replicate (fn.ntmps - args.length) undef) (us.toArray ++ Array.replicate (fn.ntmps - us.toArray.size) undef) := by
      have hu : VRel φ undef undef := .tuple' (by simp [LRel])
      have hrep : ∀ n, LRel φ (List.replicate n undef) (List.replicate n undef) := by
        intro n; induction n with
        | zero => trivial
        | succ n ih => exact ⟨hu, ih⟩
      have hall := hl.append (hrep (fn.ntmps - args.length))
      refine ⟨by simp [hlen], fun i v hv => .inr ?_⟩
      obtain ⟨v', h1, h2⟩ := hall.get hv
      refine ⟨v', ?_, h2⟩
      rw [← h1, ← Array.getElem?_toList]
      simp [hlen]
    refine wpIn_mono (h.2 φ w K { tmps := us.toArray ++ Array.replicate (fn.ntmps - us.toArray.size) undef, defers := [] } none g hf ht trivial trivial) ?_
    rintro e a1 w1 ⟨rfl, φ1, x1, x2, x3, x4, x5⟩
    have key : LeavesInM (fw none) 0 P fn a1.tmps (fun e w' => ∃ v' φ', e = .returned v' ∧ VRel φ' (retV vs) v' ∧ Ext K φ φ' nx R.nx ∧ Good φ' H2 K w' ∧ Went K w w') a1.defers .returning w1 := by
      refine leaves_ok x4 x2 hk fun w' g' hw' => ?_
      obtain ⟨us', h1, h2⟩ := resA_ok (P := P) g' x3 hr
      have h1' : (fn.results.mapM (fun | .tmp t => pure (a1.tmps.getD t undef) | .cell b t => do loadVar t (← asAddr (a1.tmps.getD b undef)) : ResultVar → Sem Value)).run P w' = .ok us'.toArray w' := by
        rw [← Array.toArray_toList (xs := fn.results), List.mapM_toArray]
        simp only [Sem.run_map, h1, Result.andThen_ok]
      have hlen2 := h2.length
      refine ⟨retV us', ?_, retV us', φ1, rfl, ?_, x1, g'.sub hs, x5.trans hw'⟩
      · unfold results
        simp only [Sem.run_bind]
        erw [h1']
        simp only [Result.andThen_ok, Sem.run_pure]
        congr 1
        match us' with
        | [] => rfl
        | [v] => rfl
        | _ :: _ :: _ => simp [retV]
      · match vs, us', h2 with
        | [], [], _ => exact .tuple' (by simp [LRel])
        | [v], [v'], h2 => exact h2.1
        | _ :: _ :: _, _ :: _ :: _, h2 => exact .tuple' (by simpa [retV] using h2)
    rcases he with he | he <;> (rw [he]; exact key)
  exact callsIn_wide.1 hcin
end Go.Fz
/- The engine, part K: regions that draw their order. -/
noncomputable section
namespace Go.Fz
set_option linter.unusedVariables false
variable {P : Program} {φ : Ren} {H : Hp} {K : Nat → Prop} {w : World}

structure Ev where
  call : FuncId → List Value → Hp → Nat → Option (Value × Hp × Nat)
  code : Option Nat → Code → List Value → List Nat → Hp → Nat → Option Res
  loop : Option Nat → Code → List Value → List Nat → Hp → Nat → Option Res
  scp : Code → Code → List Value → List Nat → Hp → Nat → Option Res

structure Ev.Ok (P : Program) (E : Ev) : Prop where
  call : ∀ {f args H nx v H' nx'}, E.call f args H nx = some (v, H', nx') → CallOk P f args H nx v H' nx'
  named : ∀ {f args H nx v H' nx'}, E.call f args H nx = some (v, H', nx') → ∃ fn, P.funcs[f]? = some fn ∧ fn.body.isSome = true
  code : ∀ {r c tm ds H nx R}, E.code r c tm ds H nx = some R → CodeOk P r c tm ds H nx R
  loop : ∀ {r c tm ds H nx R}, E.loop r c tm ds H nx = some R → LoopOk P r c tm ds H nx R
  scp : ∀ {c x tm ds H nx R}, E.scp c x tm ds H nx = some R → ScpOk P c x tm ds H nx R

/-! ### A part of a heap handed to an operation -/

def Hp.only (p : Nat → Bool) : Hp → Hp
  | [] => []
  | (b, k) :: r => if p b then (b, k) :: Hp.only p r else Hp.only p r
theorem Hp.get_only (p : Nat → Bool) (n : Nat) : ∀ H : Hp, (Hp.only p H).get n = if p n then H.get n else none
  | [] => by simp [Hp.only, Hp.get_nil]
  | (b, k) :: r => by
    have ih := Hp.get_only p n r
    by_cases hb : b = n
    · subst hb
      by_cases hp : p b = true
      · simp [Hp.only, Hp.get_cons, hp]
      · simp only [Bool.not_eq_true] at hp; simp [Hp.only, hp, ih]
    · by_cases hp : p b = true
      · simp [Hp.only, Hp.get_cons, hp, hb, ih]
      · simp only [Bool.not_eq_true] at hp; simp [Hp.only, Hp.get_cons, hp, hb, ih]
theorem Hp.get_append (n : Nat) : ∀ H G : Hp, Hp.get (H ++ G) n = (match H.get n with | some k => some k | none => G.get n)
  | [], G => by simp [Hp.get_nil]
  | (b, k) :: r, G => by
    have ih := Hp.get_append n r G
    by_cases hb : b = n
    · subst hb; simp [Hp.get_cons]
    · simp [Hp.get_cons, hb, ih]

/-- How an operation sees a block: a name of wr as it is; a masked one not at all; cells of others to read alone. -/
def seen1 (wr mask : Nat → Bool) (b : Nat) (k : Blk) : Blk :=
  if wr b then k else if mask b then .hid else match k with
    | .cells cs _ => .cells cs true
    | .fzc cs => .fzc cs
    | _ => .hid
def mkView (wr mask : Nat → Bool) : Hp → Hp
  | [] => []
  | (b, k) :: r => (b, seen1 wr mask b k) :: mkView wr mask r
theorem mkView_get (wr mask : Nat → Bool) (n : Nat) : ∀ H : Hp, (mkView wr mask H).get n = (H.get n).map (seen1 wr mask n)
  | [] => by simp [mkView, Hp.get_nil]
  | (b, k) :: r => by
    have ih := mkView_get wr mask n r
    by_cases hb : b = n
    · subst hb; simp [mkView, Hp.get_cons]
    · simp [mkView, Hp.get_cons, hb, ih]

theorem BRel.hid_of {φ : Ren} {w : World} {L : Loc} {k : Blk} (h : BRel φ w L k) : BRel φ w L .hid := by
  have := h.lt
  exact ⟨w.heap[L.blk], by simp [this]⟩

/-- The heap behind an operation that was handed a view of it. -/
def merge (touch : Nat → Bool) (H' G : Hp) : Hp := Hp.only touch H' ++ Hp.only (fun b => !touch b) G
theorem merge_get (touch : Nat → Bool) (H' G : Hp) (b : Nat) : (merge touch H' G).get b = if touch b then H'.get b else G.get b := by
  unfold merge
  rw [Hp.get_append, Hp.get_only, Hp.get_only]
  cases h : touch b
  · simp
  · simp; cases H'.get b <;> rfl

def allRw : Hp → Bool
  | [] => true
  | (_, k) :: r => k.rw && allRw r
theorem allRw_get {b : Nat} {k : Blk} : ∀ {H : Hp}, allRw H = true → H.get b = some k → k.rw = true
  | [], _, h => by simp [Hp.get_nil] at h
  | (c, x) :: r, ha, h => by
    simp only [allRw, Bool.and_eq_true] at ha
    by_cases hb : c = b
    · subst hb; simp [Hp.get_cons] at h; subst h; exact ha.1
    · simp [Hp.get_cons, hb] at h; exact allRw_get ha.2 h

/-- The names that an operation may turn, and those that it may take new. -/
def touchOf (wr : Nat → Bool) (lo hi : Nat) (b : Nat) : Bool := wr b || (decide (lo ≤ b) && decide (b < hi))

/-- An operation run on a view of the heap G: what it does to G. -/
theorem view_ok {r : Option Nat} {o : Oper} {tm : List Value} {V H' G : Hp} {wr mask : Nat → Bool} {lo hi : Nat} {v : Value} (h : OpOk P r o tm V lo v H' hi)
    (hV : ∀ b k, V.get b = some k → ∃ k0, G.get b = some k0 ∧ k = seen1 wr mask b k0) (hrw : allRw (Hp.only (touchOf wr lo hi) H') = true)
    (φ : Ren) (w : World) (K : Nat → Prop) (a : Act) (rc : Option Nat) (next : Act → World → Prop) (Q : Exit → Act → World → Prop) (g : Good φ G K w) (hf : Fresh φ lo hi) (ht : TRel φ tm a.tmps) (hr : RRel φ r rc)
    (hk : ∀ v' φ' w', VRel φ' v v' → Ext K φ φ' lo hi → Good φ' (merge (touchOf wr lo hi) H' G) K w' → Went K w w' → next (a.put o.dst v') w') : o.wpIn (fw rc) 0 P a w next Q := by
  let K2 : Nat → Prop := fun c => K c ∨ ∃ b k L, G.get b = some k ∧ wr b = false ∧ φ b = some L ∧ L.blk = c
  have hV' : ∀ b k, V.get b = some k → k.rw = true → wr b = true := by
    intro b k hb hk
    obtain ⟨k0, h0, rfl⟩ := hV b k hb
    cases hw : wr b with
    | true => rfl
    | false =>
      simp only [seen1, hw, Bool.false_eq_true, if_false] at hk
      split at hk
      · simp [Blk.rw] at hk
      · split at hk <;> simp [Blk.rw] at hk
  have hsame : ∀ b k, V.get b = some k → wr b = true → G.get b = some k := by
    intro b k hb hw
    obtain ⟨k0, h0, rfl⟩ := hV b k hb
    simp only [seen1, hw, if_true]; exact h0
  have g2 : Good φ V K2 w := by
    refine ⟨fun b k hb => ?_, fun b c k k' L L' hb hc hne hkr hL hL' => ?_, fun b k L hb hkr hL hK2 => ?_, fun c hc => ?_, g.fz, fun b k L c M hb hkr => g.fsep b k L c M (hsame b k hb (hV' b k hb hkr)) hkr⟩
    · obtain ⟨k0, h0, rfl⟩ := hV b k hb
      obtain ⟨L, hL, hbr⟩ := g.rel b k0 h0
      refine ⟨L, hL, ?_⟩
      unfold seen1
      split
      · exact hbr
      · split
        · exact hbr.hid_of
        · split
          · obtain ⟨arr, el, fr, h1, h2, h3⟩ := hbr
            exact ⟨arr, el, fr, h1, h2, fun h => by cases h⟩
          · exact hbr
          · exact hbr.hid_of
    · have hw := hV' b k hb hkr
      obtain ⟨k1, h1, _⟩ := hV c k' hc
      exact g.sep b c k k1 L L' (hsame b k hb hw) h1 hne hkr hL hL'
    · have hw := hV' b k hb hkr
      have hG := hsame b k hb hw
      rcases hK2 with hK | ⟨c, k', L', hc, hwc, hLc, he⟩
      · exact g.prot b k L hG hkr hL hK
      · have hne : b ≠ c := fun e => by subst e; rw [hw] at hwc; cases hwc
        exact g.sep b c k k' L L' hG hc hne hkr hL hLc he.symm
    · rcases hc with hK | ⟨b, k, L, hb, _, hL, he⟩
      · exact g.kin c hK
      · have := (g.at hb hL).lt; omega
  refine h.2 φ w K2 a rc next Q g2 hf ht hr fun v' φ' w' x1 x2 x3 x4 => ?_
  refine hk v' φ' w' x1 (x2.weak fun b hb => .inl hb) ?_ ⟨x4.os, x4.tape, x4.output, x4.size, fun c hc => x4.kept c (.inl hc)⟩
  have htr : ∀ b k, (merge (touchOf wr lo hi) H' G).get b = some k → touchOf wr lo hi b = true → H'.get b = some k ∧ k.rw = true := by
    intro b k hb ht
    rw [merge_get, ht] at hb
    refine ⟨hb, allRw_get (b := b) hrw ?_⟩
    rw [Hp.get_only, ht]; exact hb
  have hun : ∀ b k, (merge (touchOf wr lo hi) H' G).get b = some k → touchOf wr lo hi b = false → G.get b = some k ∧ wr b = false := by
    intro b k hb ht
    rw [merge_get, ht] at hb
    refine ⟨by simpa using hb, ?_⟩
    simp only [touchOf, Bool.or_eq_false_iff] at ht
    exact ht.1
  refine ⟨fun b k hb => ?_, fun b c k k' L L' hb hc hne hkr hL hL' => ?_, fun b k L hb hkr hL hK => ?_, fun c hc => Nat.lt_of_lt_of_le (g.kin c hc) x4.size, x3.fz, fun b k L c M hb hkr hL hM => ?_⟩
  · cases ht : touchOf wr lo hi b with
    | true => exact x3.rel b k (htr b k hb ht).1
    | false =>
      obtain ⟨hG, hw⟩ := hun b k hb ht
      obtain ⟨L, hL, hbr⟩ := g.rel b k hG
      exact ⟨L, x2.1 _ _ hL, (hbr.congr (x4.kept L.blk (.inr ⟨b, k, L, hG, hw, hL, rfl⟩))).mono x2.1⟩
  · cases htb : touchOf wr lo hi b with
    | true =>
      obtain ⟨hb', hbr⟩ := htr b k hb htb
      cases htc : touchOf wr lo hi c with
      | true => exact x3.sep b c k k' L L' hb' (htr c k' hc htc).1 hne hbr hL hL'
      | false =>
        obtain ⟨hG, hw⟩ := hun c k' hc htc
        obtain ⟨M, hM, _⟩ := g.rel c k' hG
        have := x2.1 _ _ hM
        rw [hL'] at this; cases this
        exact fun e => x3.prot b k L hb' hbr hL (.inr ⟨c, k', L', hG, hw, hM, e.symm⟩)
    | false =>
      obtain ⟨hG, hw⟩ := hun b k hb htb
      obtain ⟨M, hM, _⟩ := g.rel b k hG
      have hM' := x2.1 _ _ hM
      rw [hL] at hM'; cases hM'
      cases htc : touchOf wr lo hi c with
      | true =>
        obtain ⟨hc', hcr⟩ := htr c k' hc htc
        exact fun e => x3.prot c k' L' hc' hcr hL' (.inr ⟨b, k, L, hG, hw, hM, e⟩)
      | false =>
        obtain ⟨hGc, hwc⟩ := hun c k' hc htc
        obtain ⟨M2, hM2, _⟩ := g.rel c k' hGc
        have := x2.1 _ _ hM2
        rw [hL'] at this; cases this
        exact g.sep b c k k' L L' hG hGc hne hkr hM hM2
  · cases htb : touchOf wr lo hi b with
    | true =>
      obtain ⟨hb', hbr⟩ := htr b k hb htb
      exact x3.prot b k L hb' hbr hL (.inl hK)
    | false =>
      obtain ⟨hG, hw⟩ := hun b k hb htb
      obtain ⟨M, hM, _⟩ := g.rel b k hG
      have hM' := x2.1 _ _ hM
      rw [hL] at hM'; cases hM'
      exact g.prot b k L hG hkr hM hK
  · cases htb : touchOf wr lo hi b with
    | true =>
      obtain ⟨hb', hbr⟩ := htr b k hb htb
      exact x3.fsep b k L c M hb' hbr hL hM
    | false =>
      obtain ⟨hG, hw⟩ := hun b k hb htb
      obtain ⟨N, hN, _⟩ := g.rel b k hG
      have hN' := x2.1 _ _ hN
      rw [hL] at hN'; cases hN'
      rcases x2.2.2 c M hM with h3 | h3
      · exact g.fsep b k L c M hG hkr hN h3
      · exact fun e => h3 (.inr ⟨b, k, L, hG, hw, hN, e⟩)
end Go.Fz
/- The engine, part KB: whatever order a region draws, it comes to the same. -/
noncomputable section
namespace Go.Fz
set_option linter.unusedVariables false
variable {P : Program} {φ : Ren} {H : Hp} {K : Nat → Prop} {w : World}

/-- A step of a region's evaluation in its text's order. -/
structure Stp where
  o : Oper
  ran : Bool
  v : Value
  tmo : List Value
  V : Hp
  wr : Nat → Bool
  H' : Hp
  lo : Nat
  hi : Nat

def Stp.touch (s : Stp) (b : Nat) : Bool := touchOf s.wr s.lo s.hi b

section
variable (st : Nat → Stp) (H0 : Hp) (tm0 : List Value)

/-- The heap, name by name, when the steps of S (of the first m) are done. -/
def spec (S : Nat → Bool) : Nat → Nat → Option Blk
  | 0, b => H0.get b
  | m + 1, b => if S m && (st m).touch b then (st m).H'.get b else spec S m b
/-- The temporaries. -/
def tmS (S : Nat → Bool) : Nat → List Value
  | 0 => tm0
  | m + 1 => if S m then putT (tmS S m) (st m).o.dst (st m).v else tmS S m
end

variable {st : Nat → Stp} {H0 : Hp} {tm0 : List Value}

theorem spec_agree {S T : Nat → Bool} {b : Nat} : ∀ {m : Nat}, (∀ k, k < m → (st k).touch b = true → S k = T k) → spec st H0 S m b = spec st H0 T m b
  | 0, _ => rfl
  | m + 1, h => by
    have ih := spec_agree (S := S) (T := T) (b := b) (m := m) fun k hk => h k (by omega)
    simp only [spec]
    cases ht : (st m).touch b with
    | false => simpa using ih
    | true => rw [h m (by omega) ht, ih]

theorem putT_length (tm : List Value) (d : Option Tmp) (v : Value) : (putT tm d v).length = tm.length := by cases d <;> simp [putT, ls_eq]
theorem tmS_length (S : Nat → Bool) : ∀ m, (tmS st tm0 S m).length = tm0.length
  | 0 => rfl
  | m + 1 => by
    simp only [tmS]
    split
    · rw [putT_length]; exact tmS_length S m
    · exact tmS_length S m
theorem putT_get (tm : List Value) (d : Option Tmp) (v : Value) (s : Nat) : (putT tm d v)[s]? = if d = some s ∧ s < tm.length then some v else tm[s]? := by
  cases d with
  | none => simp [putT]
  | some d =>
    simp only [putT, ls_eq, List.getElem?_set, Option.some.injEq]
    by_cases h : d = s
    · subst h
      by_cases hl : d < tm.length
      · simp [hl]
      · simp [hl]
    · simp [h]
theorem tmS_agree {S T : Nat → Bool} {s : Nat} : ∀ {m : Nat}, (∀ k, k < m → (st k).o.dst = some s → S k = T k) → (tmS st tm0 S m)[s]? = (tmS st tm0 T m)[s]?
  | 0, _ => rfl
  | m + 1, h => by
    have ih := tmS_agree (S := S) (T := T) (s := s) (m := m) fun k hk => h k (by omega)
    simp only [tmS]
    by_cases hd : (st m).o.dst = some s
    · rw [h m (by omega) hd]
      split
      · rw [putT_get, putT_get, tmS_length, tmS_length, ih]
      · exact ih
    · have h1 : ∀ (T : Nat → Bool), (if T m then putT (tmS st tm0 T m) (st m).o.dst (st m).v else tmS st tm0 T m)[s]? = (tmS st tm0 T m)[s]? := by
        intro T
        split
        · rw [putT_get]; simp [hd]
        · rfl
      rw [h1, h1, ih]

/-- What the evaluation in the text's order must have shown. -/
structure DrawOk (P : Program) (r : Option Nat) (ops : Array Oper) (tm0 : List Value) (H0 : Hp) (nx nx' : Nat) (st : Nat → Stp) (A : Nat → Nat → Bool) : Prop where
  hops : ∀ i, i < ops.size → ops[i]? = some (st i).o
  rng : ∀ i, i < ops.size → (st i).lo ≤ (st i).hi
  rngs : ∀ i j, i < j → j < ops.size → (st i).hi ≤ (st j).lo
  rng0 : ∀ i, i < ops.size → nx ≤ (st i).lo ∧ (st i).hi ≤ nx'
  nxs : nx ≤ nx'
  a1 : ∀ i, i < ops.size → ∀ e ∈ (st i).o.after, Region.binds .any e = true → A i e.on = true ∧ e.on < i
  a2 : ∀ i, i < ops.size → ∀ j, A i j = true → ∃ e ∈ (st i).o.after, Region.binds .any e = true ∧ (j = e.on ∨ A e.on j = true)
  a3 : ∀ i j, i < ops.size → A i j = true → j < i
  tlen : ∀ i, i < ops.size → (st i).tmo.length = tm0.length
  tmo : ∀ i, i < ops.size → ∀ (s : Nat) v, (st i).tmo[s]? = some v → v = junk ∨ ((tmS st tm0 (fun k => decide (k < i)) ops.size)[s]? = some v ∧ ∀ k, k < ops.size → k ≠ i → (st k).o.dst = some s → A i k = true ∨ A k i = true)
  dst : ∀ i j (s : Nat), i < ops.size → j < ops.size → i ≠ j → (st i).o.dst = some s → (st j).o.dst ≠ some s
  want : ∀ i, i < ops.size → wantedA ops (st i).tmo (st i).o = some (st i).ran
  ok : ∀ i, i < ops.size → (st i).ran = true → OpOk P r (st i).o (st i).tmo (st i).V (st i).lo (st i).v (st i).H' (st i).hi ∧ allRw (Hp.only (st i).touch (st i).H') = true
  vw : ∀ i, i < ops.size → ∀ b k, (st i).V.get b = some k → ∃ k0, spec st H0 (fun k => decide (k < i)) ops.size b = some k0 ∧ k = seen1 (st i).wr (fun _ => false) b k0
  skip : ∀ i, i < ops.size → (st i).ran = false → (st i).v = undef ∧ ∀ b, (st i).touch b = false
  dis : ∀ i j, i < ops.size → j < ops.size → i ≠ j → A i j = false → A j i = false → ∀ b k, (st i).V.get b = some k → (st j).touch b = false
  wrin : ∀ i, i < ops.size → ∀ b, (st i).wr b = true → ∃ k, (st i).V.get b = some k

theorem getD_false {listed : Array Bool} {i : Nat} (h : listed.getD i true = false) : listed.getD i false = false ∧ i < listed.size := by
  by_cases hl : i < listed.size
  · simp [Array.getD, hl] at h ⊢; exact h
  · simp [Array.getD, hl] at h

theorem touch_disj {r : Option Nat} {ops : Array Oper} {nx nx' : Nat} {A : Nat → Nat → Bool} (D : DrawOk P r ops tm0 H0 nx nx' st A) {i j : Nat} (hi : i < ops.size) (hj : j < ops.size) (hne : i ≠ j) (h1 : A i j = false) (h2 : A j i = false) {b : Nat}
    (hb : (st i).touch b = true) : (st j).touch b = false := by
  cases hjb : (st j).touch b with
  | false => rfl
  | true =>
    exfalso
    have hb' := hb
    have hjb' := hjb
    simp only [Stp.touch, touchOf, Bool.or_eq_true, Bool.and_eq_true, decide_eq_true_eq] at hb' hjb'
    rcases hb' with hw | ⟨hl, hh⟩
    · obtain ⟨k, hk⟩ := D.wrin i hi b hw
      have := D.dis i j hi hj hne h1 h2 b k hk
      rw [hjb] at this; cases this
    · rcases hjb' with hw | ⟨hl2, hh2⟩
      · obtain ⟨k, hk⟩ := D.wrin j hj b hw
        have := D.dis j i hj hi (fun e => hne e.symm) h2 h1 b k hk
        rw [hb] at this; cases this
      · rcases Nat.lt_or_gt_of_ne hne with hlt | hgt
        · have := D.rngs i j hlt hj; omega
        · have := D.rngs j i hgt hi; omega

theorem spec_add {r : Option Nat} {ops : Array Oper} {nx nx' : Nat} {A : Nat → Nat → Bool} (D : DrawOk P r ops tm0 H0 nx nx' st A) {S : Nat → Bool} {i : Nat} (hi : i < ops.size) (hSi : S i = false)
    (hdown : ∀ k, k < ops.size → S k = true → ∀ j, A k j = true → S j = true) (b : Nat) :
    spec st H0 (fun k => S k || k == i) ops.size b = if (st i).touch b then (st i).H'.get b else spec st H0 S ops.size b := by
  have key : ∀ m, m ≤ ops.size → spec st H0 (fun k => S k || k == i) m b = if decide (i < m) && (st i).touch b then (st i).H'.get b else spec st H0 S m b := by
    intro m
    induction m with
    | zero => intro _; simp [spec]
    | succ m ih =>
      intro hm
      have ih := ih (by omega)
      simp only [spec]
      by_cases hmi : m = i
      · subst hmi
        simp only [beq_self_eq_true, Bool.or_true, Bool.true_and, hSi, Bool.false_and, Bool.false_eq_true, if_false, Nat.lt_succ_self, decide_true]
        split
        · rfl
        · rename_i ht; rw [ih]; simp
      · have hbe : (m == i) = false := by simp [hmi]
        simp only [hbe, Bool.or_false]
        by_cases hlt : i < m
        · have hlt' : i < m + 1 := by omega
          simp only [hlt', decide_true, Bool.true_and]
          simp only [hlt, decide_true, Bool.true_and] at ih
          cases hti : (st i).touch b with
          | false => rw [ih]; simp [hti]
          | true =>
            simp only [hti, if_true] at ih ⊢
            have : (S m && (st m).touch b) = false := by
              cases hSm : S m with
              | false => rfl
              | true =>
                have h1 : A i m = false := by
                  cases hA : A i m with
                  | false => rfl
                  | true => have := D.a3 i m hi hA; omega
                have h2 : A m i = false := by
                  cases hA : A m i with
                  | false => rfl
                  | true => have := hdown m (by omega) hSm i hA; rw [hSi] at this; cases this
                simp [touch_disj D hi (by omega) (fun e => hmi e.symm) h1 h2 hti]
            rw [this]; simpa using ih
        · have hlt' : ¬ i < m + 1 := by omega
          simp only [hlt', decide_false, Bool.false_and, Bool.false_eq_true, if_false]
          simp only [hlt, decide_false, Bool.false_and, Bool.false_eq_true, if_false] at ih
          rw [ih]
  have := key ops.size (Nat.le_refl _)
  simpa [hi] using this

theorem tmS_add {r : Option Nat} {ops : Array Oper} {nx nx' : Nat} {A : Nat → Nat → Bool} (D : DrawOk P r ops tm0 H0 nx nx' st A) {S : Nat → Bool} {i : Nat} (hi : i < ops.size) (hSi : S i = false) :
    tmS st tm0 (fun k => S k || k == i) ops.size = putT (tmS st tm0 S ops.size) (st i).o.dst (st i).v := by
  apply List.ext_getElem?
  intro s
  rw [putT_get, tmS_length]
  have key : ∀ m, m ≤ ops.size → (tmS st tm0 (fun k => S k || k == i) m)[s]? = if i < m ∧ (st i).o.dst = some s ∧ s < tm0.length then some (st i).v else (tmS st tm0 S m)[s]? := by
    intro m
    induction m with
    | zero => intro _; simp [tmS]
    | succ m ih =>
      intro hm
      have ih := ih (by omega)
      simp only [tmS]
      by_cases hmi : m = i
      · subst hmi
        simp only [beq_self_eq_true, Bool.or_true, if_true, hSi, Bool.false_eq_true, if_false, Nat.lt_succ_self, true_and]
        rw [putT_get, tmS_length, ih]
        simp
      · have hbe : (m == i) = false := by simp [hmi]
        simp only [hbe, Bool.or_false]
        have hlt : (i < m + 1) ↔ (i < m) := by omega
        simp only [hlt]
        by_cases hSm : S m = true
        · simp only [hSm, if_true]
          rw [putT_get, putT_get, tmS_length, tmS_length, ih]
          by_cases hd : (st m).o.dst = some s
          · have hd' : (st i).o.dst ≠ some s := D.dst m i s (by omega) hi hmi hd
            simp [hd, hd']
          · simp [hd]
        · simp only [hSm]
          exact ih
  have := key ops.size (Nat.le_refl _)
  simpa [hi] using this

theorem draw_main {r : Option Nat} {ops : Array Oper} {nx nx' : Nat} {A : Nat → Nat → Bool} (D : DrawOk P r ops tm0 H0 nx nx' st A) {tmF : List Value} {HF : Hp} (htF : tmF = tmS st tm0 (fun k => decide (k < ops.size)) ops.size)
    (hHF : ∀ b k, HF.get b = some k → spec st H0 (fun k => decide (k < ops.size)) ops.size b = some k) (rc : Option Nat) (φ0 : Ren) (w0 : World) (K : Nat → Prop) (a0 : Act) (Q : Exit → Act → World → Prop)
    (hk : ∀ φ' a' w', Ext K φ0 φ' nx nx' → Good φ' HF K w' → TRel φ' tmF a'.tmps → a'.defers = a0.defers → Went K w0 w' → Q .normal a' w') :
    ∀ (fuel t : Nat) (listed : Array Bool) (φ : Ren) (G : Hp) (a : Act) (w : World), listed.size = ops.size → ((List.range ops.size).filter fun k => !listed.getD k false).length ≤ fuel →
      (∀ i, i < ops.size → listed.getD i false = true → ∀ j, A i j = true → listed.getD j false = true) → (∀ b, G.get b = spec st H0 (fun k => listed.getD k false) ops.size b) → Good φ G K w →
      TRel φ (tmS st tm0 (fun k => listed.getD k false) ops.size) a.tmps → (∀ i, i < ops.size → listed.getD i false = false → Fresh φ (st i).lo (st i).hi) → Ext K φ0 φ nx nx' → Went K w0 w → a.defers = a0.defers → RRel φ r rc →
      wpOpsIn (fw rc) 0 P ops Q (Region.linearise.go .any ops fuel t listed []) a w := by
  intro fuel
  have final : ∀ (listed : Array Bool) (φ : Ren) (G : Hp) (a : Act) (w : World), (∀ k, k < ops.size → listed.getD k false = true) → (∀ b, G.get b = spec st H0 (fun k => listed.getD k false) ops.size b) → Good φ G K w →
      TRel φ (tmS st tm0 (fun k => listed.getD k false) ops.size) a.tmps → Ext K φ0 φ nx nx' → Went K w0 w → a.defers = a0.defers → Q .normal a w := by
    intro listed φ G a w hall hG g ht he hw hd
    refine hk φ a w he (g.sub fun b k hb => ?_) ?_ hd hw
    · rw [hG, spec_agree (T := fun k => decide (k < ops.size)) (fun k hk _ => by simp [hall k hk, hk])]
      exact hHF b k hb
    · have : tmS st tm0 (fun k => listed.getD k false) ops.size = tmF := by
        rw [htF]
        apply List.ext_getElem?
        intro s
        exact tmS_agree fun k hk _ => by simp [hall k hk, hk]
      rw [← this]; exact ht
  induction fuel with
  | zero =>
    intro t listed φ G a w hsz hcnt hdown hG g ht hfr he hw hd hr
    simp only [Region.linearise.go, List.reverse_nil, wpOpsIn]
    refine final listed φ G a w (fun k hk => ?_) hG g ht he hw hd
    have hnil := List.eq_nil_of_length_eq_zero (Nat.le_zero.1 hcnt)
    have := List.filter_eq_nil_iff.1 hnil k (List.mem_range.2 hk)
    simpa using this
  | succ fuel ih =>
    intro t listed φ G a w hsz hcnt hdown hG g ht hfr he hw hd hr
    simp only [Region.linearise.go]
    change wpOpsIn (fw rc) 0 P ops Q (match (Region.ready .any ops listed)[t % (Region.ready .any ops listed).length]? with
      | some i => Region.linearise.go .any ops fuel (t / (Region.ready .any ops listed).length) (listed.setIfInBounds i true) [i]
      | none => [].reverse) a w
    cases hi : (Region.ready .any ops listed)[t % (Region.ready .any ops listed).length]? with
    | none =>
      have hnil : Region.ready .any ops listed = [] := by
        cases hr : Region.ready .any ops listed with
        | nil => rfl
        | cons x xs =>
          rw [hr] at hi
          have hlt : t % (x :: xs).length < (x :: xs).length := Nat.mod_lt _ (by simp)
          simp at hi
          simp at hlt
          omega
      simp only [List.reverse_nil, wpOpsIn]
      refine final listed φ G a w ?_ hG g ht he hw hd
      intro k
      induction k using Nat.strongRecOn with
      | _ k ihk =>
        intro hk
        cases hl : listed.getD k false with
        | true => rfl
        | false =>
          exfalso
          have hmem : k ∈ Region.ready .any ops listed := by
            rw [mem_ready]
            refine ⟨?_, (st k).o, D.hops k hk, fun e he hb => ?_⟩
            · have : k < listed.size := by omega
              simp [Array.getD, this] at hl ⊢; exact hl
            · have := (D.a1 k hk e he hb).2
              exact ihk e.on this (by omega)
          rw [hnil] at hmem; cases hmem
    | some i =>
      simp only []
      rw [linearise_go_acc, List.reverse_singleton, List.singleton_append]
      have hmem := List.mem_of_getElem? hi
      rw [mem_ready] at hmem
      obtain ⟨hli, o, ho, hed⟩ := hmem
      obtain ⟨hSi, hil⟩ := getD_false hli
      have hin : i < ops.size := by omega
      have hoe : o = (st i).o := by have := D.hops i hin; rw [ho] at this; cases this; rfl
      subst hoe
      have hanc : ∀ j, A i j = true → listed.getD j false = true := by
        intro j hj
        obtain ⟨e, he, hb, hor⟩ := D.a2 i hin j hj
        have h1 := hed e he hb
        rcases hor with rfl | hA
        · exact h1
        · exact hdown e.on (by have := (D.a1 i hin e he hb).2; omega) h1 j hA
      have hagree : ∀ k, k < ops.size → (k = i ∨ A i k = true ∨ A k i = true) → listed.getD k false = decide (k < i) := by
        intro k hk hor
        rcases hor with rfl | hA | hA
        · rw [hSi]; simp
        · rw [hanc k hA]; have := D.a3 i k hin hA; simp [this]
        · have h1 := D.a3 k i hk hA
          have : listed.getD k false = false := by
            cases hl : listed.getD k false with
            | false => rfl
            | true => have := hdown k hk hl i hA; rw [hSi] at this; cases this
          rw [this]; simp; omega
      have htmo : TRel φ (st i).tmo a.tmps := by
        refine ⟨by rw [D.tlen i hin, ← ht.1, tmS_length], fun s v hv => ?_⟩
        rcases D.tmo i hin s v hv with hj | ⟨h1, h2⟩
        · exact .inl hj
        · refine ht.2 s v ?_
          rw [← h1]
          refine tmS_agree fun k hk hdk => hagree k hk ?_
          by_cases hki : k = i
          · exact .inl hki
          · exact .inr (h2 k hk hki hdk)
      have hset : ∀ k, (listed.setIfInBounds i true).getD k false = (listed.getD k false || k == i) := by
        intro k
        by_cases hki : k = i
        · subst hki; simp [Array.getD, hil]
        · rw [getD_set_ne false (fun e => hki e.symm)]
          simp [hki]
      have hfun : (fun k => (listed.setIfInBounds i true).getD k false) = (fun k => listed.getD k false || k == i) := funext hset
      have hcnt' : ((List.range ops.size).filter fun k => !(listed.setIfInBounds i true).getD k false).length ≤ fuel := by
        have e1 : ((List.range ops.size).filter fun k => !(listed.setIfInBounds i true).getD k false) = (((List.range ops.size).filter fun k => !listed.getD k false)).filter fun k => !(k == i) := by
          rw [List.filter_filter]
          congr 1
          funext k
          rw [hset]
          cases listed.getD k false <;> cases (k == i) <;> rfl
        have e2 := List.length_filter_lt_length_iff_exists (p := fun k => !(k == i)) (l := (List.range ops.size).filter fun k => !listed.getD k false) |>.2 ⟨i, by rw [List.mem_filter]; exact ⟨List.mem_range.2 hin, by rw [hSi]; rfl⟩, by simp⟩
        rw [e1]; omega
      have hdown' : ∀ k, k < ops.size → (listed.setIfInBounds i true).getD k false = true → ∀ j, A k j = true → (listed.setIfInBounds i true).getD j false = true := by
        intro k hk hl j hj
        rw [hset] at hl ⊢
        simp only [Bool.or_eq_true, beq_iff_eq] at hl ⊢
        rcases hl with hl | rfl
        · exact .inl (hdown k hk hl j hj)
        · exact .inl (hanc j hj)
      have hfresh' : ∀ φ', Ext K φ φ' (st i).lo (st i).hi → ∀ k, k < ops.size → (listed.setIfInBounds i true).getD k false = false → Fresh φ' (st k).lo (st k).hi := by
        intro φ' hx k hk hl
        rw [hset] at hl
        simp only [Bool.or_eq_false_iff, beq_eq_false_iff_ne] at hl
        refine ⟨(hfr k hk hl.1).1, fun b hb1 hb2 => ?_⟩
        have := (hfr k hk hl.1).2 b hb1 hb2
        rw [hx.2.1 b (Nat.lt_of_lt_of_le hb2 (hfr k hk hl.1).1) ?_]
        · exact this
        · rcases Nat.lt_or_gt_of_ne hl.2 with hlt | hgt
          · have := D.rngs k i hlt hin; omega
          · have := D.rngs i k hgt hk; omega
      have hsd : ∀ k, k < ops.size → (fun k => listed.getD k false) k = true → ∀ j, A k j = true → (fun k => listed.getD k false) j = true := hdown
      simp only [wpOpsIn, ho]
      have hwant := wantedA_ok htmo (D.want i hin)
      cases hran : (st i).ran with
      | true =>
        rw [if_pos (by rw [hwant, hran])]
        obtain ⟨hok, hrw⟩ := D.ok i hin hran
        have hV : ∀ b k, (st i).V.get b = some k → ∃ k0, G.get b = some k0 ∧ k = seen1 (st i).wr (fun _ => false) b k0 := by
          intro b k hb
          obtain ⟨k0, h1, h2⟩ := D.vw i hin b k hb
          refine ⟨k0, ?_, h2⟩
          rw [hG, ← h1]
          refine spec_agree fun k' hk' htk => hagree k' hk' ?_
          by_cases hki : k' = i
          · exact .inl hki
          · right
            cases h3 : A i k' with
            | true => exact .inl rfl
            | false =>
              cases h4 : A k' i with
              | true => exact .inr rfl
              | false =>
                have := D.dis i k' hin hk' (fun e => hki e.symm) h3 h4 b k hb
                rw [htk] at this; cases this
        refine view_ok hok hV hrw φ w K a rc _ Q g (hfr i hin hSi) htmo hr fun v' φ' w' x1 x2 x3 x4 => ?_
        refine ih _ _ φ' _ _ w' (by simpa using hsz) hcnt' hdown' (fun b => ?_) x3 ?_ (hfresh' φ' x2) ?_ (hw.trans x4) (by rw [put_defers]; exact hd) (hr.mono x2.1)
        · rw [merge_get, hfun, spec_add D hin hSi hsd]
          show (if (st i).touch b = true then _ else _) = _
          rw [hG]
        · rw [hfun, tmS_add D hin hSi]
          exact putT_rel (ht.mono x2.1) _ x1
        · have := D.rng0 i hin
          exact he.comp (x2.wide this.1 this.2)
      | false =>
        rw [if_neg (by rw [hwant, hran]; simp)]
        refine ⟨about_fw, ?_⟩
        obtain ⟨hv, htch⟩ := D.skip i hin hran
        refine ih _ _ φ G _ w (by simpa using hsz) hcnt' hdown' (fun b => ?_) g ?_ (hfresh' φ (Ext.refl _ _ _ _)) he hw (by rw [put_defers]; exact hd) hr
        · rw [hfun, spec_add D hin hSi hsd, htch b]
          simp only [Bool.false_eq_true, if_false]
          exact hG b
        · rw [hfun, tmS_add D hin hSi, hv]
          exact putT_rel ht _ (.tuple' (by simp [LRel]))

theorem codeOk_draw {r : Option Nat} {id : Nat} {ops : Array Oper} {nx nx' : Nat} {A : Nat → Nat → Bool} {ds : List Nat} (hm : P.follows .mixedOrders = true) (D : DrawOk P r ops tm0 H0 nx nx' st A) {HF : Hp}
    (hHF : ∀ b k, HF.get b = some k → spec st H0 (fun k => decide (k < ops.size)) ops.size b = some k) :
    CodeOk P r (.region id ops true) tm0 ds H0 nx ⟨.normal, tmS st tm0 (fun k => decide (k < ops.size)) ops.size, ds, HF, nx'⟩ := by
  refine ⟨D.nxs, fun φ w K a rc g hf ht hd hr => wpIn_region_draw fun t => ?_⟩
  rw [hm]
  simp only [Region.schedule, Bool.true_or, if_true, Region.linearise]
  have g0 : ∀ k, (Array.replicate ops.size false).getD k false = false := by intro k; simp [Array.getD]
  have e0 : (fun k => (Array.replicate ops.size false).getD k false) = fun _ => false := funext g0
  have es : ∀ m b, spec st H0 (fun _ => false) m b = H0.get b := by
    intro m b; induction m with
    | zero => rfl
    | succ m ih => simpa [spec] using ih
  have et : ∀ m, tmS st tm0 (fun _ => false) m = tm0 := by
    intro m; induction m with
    | zero => rfl
    | succ m ih => simpa [tmS] using ih
  refine draw_main D rfl hHF rc φ w K a _ (fun φ' a' w' x1 x2 x3 x4 x5 => ⟨rfl, φ', x1, x2, x3, by rw [x4]; exact hd.mono x1.1, x5⟩) ops.size t (Array.replicate ops.size false) φ H0 a w.drew (by simp) ?_ (fun i hi hl => by rw [g0] at hl; cases hl) (fun b => by rw [e0, es]) g.drew (by rw [e0, et]; exact ht) (fun i hi _ => ⟨by have := D.rng0 i hi; have h := hf.1; change nx' ≤ FZ at h; omega, fun b h1 h2 => hf.2 b (by have := D.rng0 i hi; omega) (by have := D.rng0 i hi; show b < nx'; omega)⟩) (Ext.refl _ _ _ _) (Went.drew K w) rfl hr
  exact Nat.le_trans (List.length_filter_le _ _) (by simp)
end Go.Fz
/- The engine, part KC: evaluating a region that draws its order, with the looks that make every order come to the same. -/
noncomputable section
namespace Go.Fz
set_option linter.unusedVariables false
variable {P : Program} {φ : Ren} {H : Hp} {K : Nat → Prop} {w : World}

/-! ### Which operations come before which -/
def edgeMask (ms : List Nat) : List Edge → Nat
  | [] => 0
  | e :: es => (if Region.binds .any e then (1 <<< e.on) ||| ms.getD e.on 0 else 0) ||| edgeMask ms es
theorem edgeMask_bit (ms : List Nat) (j : Nat) : ∀ es : List Edge, (edgeMask ms es).testBit j = true ↔ ∃ e ∈ es, Region.binds .any e = true ∧ (j = e.on ∨ (ms.getD e.on 0).testBit j = true)
  | [] => by simp [edgeMask]
  | e :: es => by
    have ih := edgeMask_bit ms j es
    simp only [edgeMask, Nat.testBit_or, Bool.or_eq_true, ih, List.mem_cons, exists_eq_or_imp]
    by_cases hb : Region.binds .any e = true
    · simp only [hb, if_true, Nat.testBit_or, Bool.or_eq_true, Nat.one_shiftLeft, Nat.testBit_two_pow, decide_eq_true_eq, true_and]
      constructor
      · rintro ((h | h) | h)
        · exact .inl (.inl h.symm)
        · exact .inl (.inr h)
        · exact .inr h
      · rintro ((h | h) | h)
        · exact .inl (.inl h.symm)
        · exact .inl (.inr h)
        · exact .inr h
    · simp only [hb, if_false, Nat.zero_testBit, Bool.false_eq_true, false_or, false_and]
def masksOf : List Oper → List Nat → List Nat
  | [], ms => ms
  | o :: os, ms => masksOf os (ms ++ [edgeMask ms o.after.toList])
/-- The masks fit the edges, and every edge goes back. -/
def masksFit (ms : List Nat) : Nat → List Oper → Bool
  | _, [] => true
  | i, o :: os => (ms.getD i 0 == edgeMask ms o.after.toList) && o.after.toList.all (fun e => !Region.binds .any e || decide (e.on < i)) && decide (ms.getD i 0 < 2 ^ i) && masksFit ms (i + 1) os
theorem masksFit_at {ms : List Nat} : ∀ {l : List Oper} {i j : Nat} {o : Oper}, masksFit ms i l = true → l[j]? = some o →
    ms.getD (i + j) 0 = edgeMask ms o.after.toList ∧ (∀ e ∈ o.after.toList, Region.binds .any e = true → e.on < i + j) ∧ ms.getD (i + j) 0 < 2 ^ (i + j)
  | [], i, j, o, _, h => by simp at h
  | x :: l, i, 0, o, hf, h => by
    simp at h; subst h
    simp only [masksFit, Bool.and_eq_true, beq_iff_eq, decide_eq_true_eq, List.all_eq_true, Bool.or_eq_true, Bool.not_eq_true'] at hf
    obtain ⟨⟨⟨h1, h2⟩, h3⟩, h4⟩ := hf
    refine ⟨h1, fun e he hb => ?_, h3⟩
    rcases h2 e he with h | h
    · rw [hb] at h; cases h
    · exact h
  | x :: l, i, j + 1, o, hf, h => by
    simp only [masksFit, Bool.and_eq_true] at hf
    have := masksFit_at (j := j) hf.2 (by simpa using h)
    rw [show i + 1 + j = i + (j + 1) by omega] at this
    exact this

/-! ### The temporaries that an operation reads -/
def slotOf : Operand → List Nat
  | .tmp t => [t]
  | _ => []
def slotsOf (ops : Array Oper) (o : Oper) : List Nat :=
  (o.op.operands.toList.flatMap slotOf) ++ (match o.guard with
    | some (j, _) => match (ops[j]?).bind (·.dst) with
      | some d => [d]
      | none => []
    | none => [])
def keepT (tm : List Value) (slots : List Nat) : List Value := slots.foldl (fun t s => t.set s (tm.getD s junk)) (List.replicate tm.length junk)
theorem keepT_get {tm : List Value} {slots : List Nat} : (keepT tm slots).length = tm.length ∧ ∀ (s : Nat) v, (keepT tm slots)[s]? = some v → v = junk ∨ (s ∈ slots ∧ tm[s]? = some v) := by
  unfold keepT
  have key : ∀ (sl : List Nat) (t : List Value), t.length = tm.length → (∀ (s : Nat) v, t[s]? = some v → v = junk ∨ (s ∈ slots ∧ tm[s]? = some v)) → (∀ s ∈ sl, s ∈ slots) →
      (sl.foldl (fun t s => t.set s (tm.getD s junk)) t).length = tm.length ∧ ∀ (s : Nat) v, (sl.foldl (fun t s => t.set s (tm.getD s junk)) t)[s]? = some v → v = junk ∨ (s ∈ slots ∧ tm[s]? = some v) := by
    intro sl
    induction sl with
    | nil => intro t h1 h2 _; exact ⟨h1, h2⟩
    | cons x sl ih =>
      intro t h1 h2 h3
      simp only [List.foldl_cons]
      refine ih _ (by simpa using h1) (fun s v hv => ?_) (fun s hs => h3 s (by simp [hs]))
      rw [List.getElem?_set] at hv
      by_cases hx : x = s
      · subst hx
        simp at hv
        obtain ⟨hl, rfl⟩ := hv
        right
        refine ⟨h3 x (by simp), ?_⟩
        rw [h1] at hl
        simp [hl]
      · simp [hx] at hv; exact h2 s v hv
  refine key slots _ (by simp) (fun s v hv => ?_) (fun s hs => hs)
  rw [List.getElem?_replicate] at hv
  split at hv
  · cases hv; exact .inl rfl
  · cases hv

theorem keepT_at {tm : List Value} {slots : List Nat} {s : Nat} (hs : s ∈ slots) : (keepT tm slots)[s]? = tm[s]? := by
  unfold keepT
  have key : ∀ (sl : List Nat) (t : List Value), t.length = tm.length → (s ∈ sl ∨ t[s]? = tm[s]?) → (sl.foldl (fun t s => t.set s (tm.getD s junk)) t)[s]? = tm[s]? := by
    intro sl
    induction sl with
    | nil => intro t _ h; simpa using h
    | cons x sl ih =>
      intro t hl h
      simp only [List.foldl_cons]
      refine ih _ (by simpa using hl) ?_
      by_cases hx : x = s
      · subst hx
        right
        rw [List.getElem?_set]
        by_cases hlt : x < tm.length
        · simp [hl, hlt]
        · simp [hl, hlt]
      · rcases h with h | h
        · rcases List.mem_cons.1 h with h | h
          · exact absurd h.symm hx
          · exact .inl h
        · right
          rw [List.getElem?_set]
          simp [hx, h]
  exact key slots _ (by simp) (.inl hs)
theorem keepT_opv {tm : List Value} {slots : List Nat} {x : Operand} (hs : ∀ s ∈ slotOf x, s ∈ slots) : opv tm x = opv (keepT tm slots) x := by
  cases x with
  | tmp t =>
    have := keepT_at (tm := tm) (hs t (by simp [slotOf]))
    simp only [opv, lg_eq, this]
  | _ => rfl
theorem opvs_congr {t t' : List Value} : ∀ {xs : List Operand}, (∀ x ∈ xs, opv t x = opv t' x) → opvs t xs = opvs t' xs
  | [], _ => rfl
  | x :: xs, h => by simp only [opvs]; rw [h x (by simp), opvs_congr fun y hy => h y (by simp [hy])]
theorem partsv_congr {t t' : List Value} : ∀ {xs : List (Nat × Operand)}, (∀ x ∈ xs, opv t x.2 = opv t' x.2) → partsv t xs = partsv t' xs
  | [], _ => rfl
  | x :: xs, h => by simp only [partsv]; rw [h x (by simp), partsv_congr fun y hy => h y (by simp [hy])]
theorem opvo_congr {t t' : List Value} {x : Option Operand} (h : ∀ y ∈ x, opv t y = opv t' y) : opvo t x = opvo t' x := by
  cases x with
  | none => rfl
  | some y => simp only [opvo]; rw [h y rfl]
theorem doOp_congr {t t' : List Value} {nx : Nat} {o : Oper} (h : ∀ x ∈ o.op.operands, opv t x = opv t' x) : doOp P t H nx o = doOp P t' H nx o := by
  unfold doOp
  cases ho : o.op with
  | move x => rw [ho] at h; simp only [h x (by simp [Op.operands])]
  | assign x => rw [ho] at h; simp only [h x (by simp [Op.operands])]
  | pick c a b => rw [ho] at h; simp only [h c (by simp [Op.operands]), h a (by simp [Op.operands]), h b (by simp [Op.operands])]
  | alloc t => rfl
  | box t x => rw [ho] at h; simp only [h x (by simp [Op.operands])]
  | build t ps => rw [ho] at h; simp only [partsv_congr (xs := ps.toList) fun x hx => h x.2 (by simp only [Op.operands, List.mem_toArray, List.mem_map]; exact ⟨x, hx, rfl⟩)]
  | buildSlice t n ps => rw [ho] at h; simp only [partsv_congr (xs := ps.toList) fun x hx => h x.2 (by simp only [Op.operands, List.mem_toArray, List.mem_map]; exact ⟨x, hx, rfl⟩)]
  | load t a => rw [ho] at h; simp only [h a (by simp [Op.operands])]
  | store t a x => rw [ho] at h; simp only [h a (by simp [Op.operands]), h x (by simp [Op.operands])]
  | nilCheck x => rw [ho] at h; simp only [h x (by simp [Op.operands])]
  | binOp op t x y w => rw [ho] at h; simp only [h x (by simp [Op.operands]), h y (by simp [Op.operands])]
  | unOp op t x => rw [ho] at h; simp only [h x (by simp [Op.operands])]
  | convert s d x => rw [ho] at h; simp only [h x (by simp [Op.operands])]
  | makeFunc f fs cs =>
    rw [ho] at h
    cases f <;> try rfl
    simp only [opvs_congr (xs := fs.toList) fun x hx => h x (by simp only [Op.operands, Array.mem_append]; left; simpa using hx), opvs_congr (xs := cs.toList) fun x hx => h x (by simp only [Op.operands, Array.mem_append]; right; simpa using hx)]
  | makeSlice t l c => rw [ho] at h; simp only [h l (by simp [Op.operands]), h c (by simp [Op.operands])]
  | slice t x lo hi mx =>
    rw [ho] at h
    simp only [h x (by simp [Op.operands]), opvo_congr (x := lo) fun y hy => h y (by cases hy; simp [Op.operands]), opvo_congr (x := hi) fun y hy => h y (by cases hy; simp [Op.operands]), opvo_congr (x := mx) fun y hy => h y (by cases hy; simp [Op.operands])]
  | fieldAddr s x f => rw [ho] at h; simp only [h x (by simp [Op.operands])]
  | field s x f => rw [ho] at h; simp only [h x (by simp [Op.operands])]
  | indexAddr t x i => rw [ho] at h; simp only [h x (by simp [Op.operands]), h i (by simp [Op.operands])]
  | index t x i => rw [ho] at h; simp only [h x (by simp [Op.operands]), h i (by simp [Op.operands])]
  | extract x n => rw [ho] at h; simp only [h x (by simp [Op.operands])]
  | call c =>
    rw [ho] at h
    obtain ⟨cal, args, ats⟩ := c
    cases cal <;> try rfl
    simp only [opvs_congr (xs := args.toList) fun x hx => h x (by simp only [Op.operands, Call.operands, Array.mem_append]; right; simpa using hx)]
  | makeMap t r => cases r <;> rfl
  | lookup t x i c => rw [ho] at h; simp only [h x (by simp [Op.operands]), h i (by simp [Op.operands])]
  | mapUpdate t m k x => rw [ho] at h; simp only [h m (by simp [Op.operands]), h k (by simp [Op.operands]), h x (by simp [Op.operands])]
  | insert t m k x => rw [ho] at h; simp only [h m (by simp [Op.operands]), h k (by simp [Op.operands]), h x (by simp [Op.operands])]
  | range t x => rw [ho] at h; simp only [h x (by simp [Op.operands])]
  | _ => rfl
theorem wantedA_keep {ops : Array Oper} {tm : List Value} {o : Oper} : wantedA ops tm o = wantedA ops (keepT tm (slotsOf ops o)) o := by
  unfold wantedA
  cases hg : o.guard with
  | none => rfl
  | some p =>
    obtain ⟨j, want⟩ := p
    dsimp only
    cases hd : (ops[j]?).bind (·.dst) with
    | none => rfl
    | some d =>
      have : (keepT tm (slotsOf ops o))[d]? = tm[d]? := keepT_at (by simp [slotsOf, hg, hd])
      simp only [Option.bind_some, lg_eq, this]
/-- The evaluation of an operation looks at its operands alone. -/
def Looks (op : List Value → Hp → Nat → Oper → Option (Value × Hp × Nat)) : Prop := ∀ (t t' : List Value) (H : Hp) (nx : Nat) (o : Oper), (∀ x ∈ o.op.operands, opv t x = opv t' x) → op t H nx o = op t' H nx o
theorem Looks.keep {op : List Value → Hp → Nat → Oper → Option (Value × Hp × Nat)} (h : Looks op) {ops : Array Oper} {tm : List Value} {H : Hp} {nx : Nat} {o : Oper} : op tm H nx o = op (keepT tm (slotsOf ops o)) H nx o :=
  h _ _ _ _ _ fun x hx => keepT_opv fun s hs => by
    simp only [slotsOf, List.mem_append, List.mem_flatMap]
    exact .inl ⟨x, by simpa using hx, hs⟩

/-! ### The evaluation -/
def names (H : Hp) : List Nat := H.map (·.1)
/-- The block that a store or an append may turn. -/
def mapBlk (tm : List Value) (x : Operand) : List Nat := match opv tm x with
  | some (.map (some r)) => [r]
  | _ => []
def targetOf (tm : List Value) (o : Oper) : List Nat :=
  match o.op with
  | .mapUpdate _ m _ _ => mapBlk tm m
  | .lookup _ x _ _ => mapBlk tm x
  | .store _ a _ => match opv tm a with
    | some (.pointer (some a)) => [a.block]
    | _ => []
  | .call { callee := .builtin .append, args := args, argTypes := _ } => match args.toList with
    | s :: _ => match opv tm s with
      | some (.slice (some a) _ c) => if openCap ≤ c then [a.block] else []
      | _ => []
    | _ => []
  | .call { callee := .builtin .copy, args := args, argTypes := _ } => match args.toList with
    | s :: _ => match opv tm s with
      | some (.slice (some a) _ _) => [a.block]
      | _ => []
    | _ => []
  | _ => []
def inRange (rs : List (Nat × Nat)) (b : Nat) : Bool := rs.any fun x => decide (x.1 ≤ b) && decide (b < x.2)

/-- What an operation is let see: a few blocks, or all of a kind. -/
inductive See where
  | few (bs : List Nat)
  | all (f : Nat → Bool)
def viewFew (wr : List Nat) (H : Hp) : List Nat → Hp
  | [] => []
  | b :: bs => match H.get b with
    | some k => (b, seen1 (fun b => wr.contains b) (fun _ => false) b k) :: viewFew wr H bs
    | none => viewFew wr H bs
def viewD (wr : List Nat) (H : Hp) : See → Hp
  | .few bs => viewFew wr H bs
  | .all f => Hp.only f (mkView (fun b => wr.contains b) (fun _ => false) H)
theorem viewFew_get {wr : List Nat} {b : Nat} {k : Blk} : ∀ {bs : List Nat}, (viewFew wr H bs).get b = some k → ∃ k0, H.get b = some k0 ∧ k = seen1 (fun b => wr.contains b) (fun _ => false) b k0
  | [], h => by simp [viewFew, Hp.get_nil] at h
  | c :: bs, h => by
    simp only [viewFew] at h
    split at h
    · rename_i k0 h0
      by_cases hc : c = b
      · subst hc
        rw [Hp.get_cons] at h
        simp only [beq_self_eq_true, if_true, Option.some.injEq] at h
        exact ⟨k0, h0, h.symm⟩
      · simp [Hp.get_cons, hc] at h
        exact viewFew_get h
    · exact viewFew_get h
theorem viewD_get {wr : List Nat} {b : Nat} {k : Blk} {s : See} (h : (viewD wr H s).get b = some k) : ∃ k0, H.get b = some k0 ∧ k = seen1 (fun b => wr.contains b) (fun _ => false) b k0 := by
  cases s with
  | few bs => exact viewFew_get h
  | all f =>
    simp only [viewD, Hp.get_only, mkView_get] at h
    split at h
    · simp only [Option.map_eq_some_iff] at h
      obtain ⟨k0, h0, rfl⟩ := h
      exact ⟨k0, h0, rfl⟩
    · cases h
/-- The heap behind an operation. -/
def mergeQ (wr : List Nat) (lo hi : Nat) (H1 H : Hp) : Hp := match wr with
  | [] => bif Nat.beq lo hi then H else merge (touchOf (fun b => ([] : List Nat).contains b) lo hi) H1 H
  | wr => merge (touchOf (fun b => wr.contains b) lo hi) H1 H
theorem only_none {p : Nat → Bool} (hp : ∀ b, p b = false) : ∀ G : Hp, Hp.only p G = []
  | [] => rfl
  | (b, k) :: r => by simp [Hp.only, hp b, only_none hp r]
theorem only_all {p : Nat → Bool} (hp : ∀ b, p b = true) : ∀ G : Hp, Hp.only p G = G
  | [] => rfl
  | (b, k) :: r => by simp [Hp.only, hp b, only_all hp r]
theorem mergeQ_eq (wr : List Nat) (lo hi : Nat) (H1 H : Hp) : mergeQ wr lo hi H1 H = merge (touchOf (fun b => wr.contains b) lo hi) H1 H := by
  unfold mergeQ
  split
  · cases h : Nat.beq lo hi with
    | false => rfl
    | true =>
      have he := Nat.eq_of_beq_eq_true h
      subst he
      have ht : ∀ b, touchOf (fun b => ([] : List Nat).contains b) lo lo b = false := fun b => by
        simp [touchOf]
      show H = merge _ H1 H
      unfold merge
      rw [only_none ht, only_all (fun b => by rw [ht b]; rfl)]
      rfl
  · rfl

/-- A region's operations, in their text's order. 'cut' says how an operation's view is cut: which names it may turn, which it may not see (of no weight for the soundness). -/
def drawGo (op : List Value → Hp → Nat → Oper → Option (Value × Hp × Nat)) (ops : Array Oper) (cut : Nat → List Value → Hp → List Stp → Option (List Nat × See)) : Nat → List Stp → List Oper → List Value → Hp → Nat → Option (List Stp)
  | _, _, [], _, _, _ => some []
  | i, done, o :: l, tm, H, nx =>
    match wantedA ops tm o with
    | some false => (drawGo op ops cut (i + 1) (⟨o, false, undef, keepT tm (slotsOf ops o), [], fun _ => false, [], nx, nx⟩ :: done) l (putT tm o.dst undef) H nx).map (⟨o, false, undef, keepT tm (slotsOf ops o), [], fun _ => false, [], nx, nx⟩ :: ·)
    | some true =>
      match cut i tm H done with
      | none => none
      | some (wr, see) =>
        match op tm (viewD wr H see) nx o with
        | some (v, H1, nx1) =>
          if allRw (Hp.only (touchOf (fun b => wr.contains b) nx nx1) H1) && wr.all (fun b => (Hp.get (viewD wr H see) b).isSome) then
            (drawGo op ops cut (i + 1) (⟨o, true, v, keepT tm (slotsOf ops o), viewD wr H see, fun b => wr.contains b, H1, nx, nx1⟩ :: done) l (putT tm o.dst v)
              (mergeQ wr nx nx1 H1 H) nx1).map (⟨o, true, v, keepT tm (slotsOf ops o), viewD wr H see, fun b => wr.contains b, H1, nx, nx1⟩ :: ·)
          else none
        | none => none
    | none => none

def tmR : List Stp → List Value → List Value
  | [], tm => tm
  | s :: ss, tm => tmR ss (putT tm s.o.dst s.v)
def hpR : List Stp → Hp → Hp
  | [], H => H
  | s :: ss, H => hpR ss (if s.ran then merge s.touch s.H' H else H)
def nxR : List Stp → Nat → Nat
  | [], nx => nx
  | s :: ss, nx => nxR ss s.hi

/-- What is known of a step, from the state before it. -/
structure StpOk (P : Program) (r : Option Nat) (ops : Array Oper) (o : Oper) (tm : List Value) (H : Hp) (nx : Nat) (s : Stp) : Prop where
  o_eq : s.o = o
  lo_eq : s.lo = nx
  le : s.lo ≤ s.hi
  tmo_eq : s.tmo = keepT tm (slotsOf ops o)
  want : wantedA ops s.tmo s.o = some s.ran
  ok : s.ran = true → OpOk P r s.o s.tmo s.V s.lo s.v s.H' s.hi ∧ allRw (Hp.only s.touch s.H') = true
  vw : ∀ b k, s.V.get b = some k → ∃ k0, H.get b = some k0 ∧ k = seen1 s.wr (fun _ => false) b k0
  skip : s.ran = false → s.v = undef ∧ ∀ b, s.touch b = false
  wrin : ∀ b, s.wr b = true → ∃ k, s.V.get b = some k

theorem drawGo_ok {op : List Value → Hp → Nat → Oper → Option (Value × Hp × Nat)} {r : Option Nat} (hlk : Looks op) (hop : ∀ {tm H nx o v H' nx'}, op tm H nx o = some (v, H', nx') → OpOk P r o tm H nx v H' nx') {ops : Array Oper} {cut : Nat → List Value → Hp → List Stp → Option (List Nat × See)} :
    ∀ {l : List Oper} {i : Nat} {done : List Stp} {tm : List Value} {H : Hp} {nx : Nat} {ss : List Stp}, drawGo op ops cut i done l tm H nx = some ss →
      ss.length = l.length ∧ ∀ (j : Nat) o s, l[j]? = some o → ss[j]? = some s → StpOk P r ops o (tmR (ss.take j) tm) (hpR (ss.take j) H) (nxR (ss.take j) nx) s
  | [], i, done, tm, H, nx, ss, h => by simp only [drawGo, Option.some.injEq] at h; subst h; exact ⟨rfl, fun j o s h => by simp at h⟩
  | o :: l, i, done, tm, H, nx, ss, h => by
    simp only [drawGo] at h
    split at h
    · rename_i hw
      rw [wantedA_keep] at hw
      simp only [Option.map_eq_some_iff] at h
      obtain ⟨ss', h', rfl⟩ := h
      obtain ⟨hl, hj⟩ := drawGo_ok hlk hop h'
      refine ⟨by simp [hl], fun j o' s ho hs => ?_⟩
      cases j with
      | zero =>
        simp only [List.getElem?_cons_zero, Option.some.injEq] at ho hs
        subst ho; subst hs
        exact ⟨rfl, rfl, Nat.le_refl _, rfl, hw, (fun h => by cases h), (fun b k hb => by simp [Hp.get_nil] at hb), fun _ => ⟨rfl, fun b => by simp [Stp.touch, touchOf]⟩, fun b hb => by cases hb⟩
      | succ j =>
        simp only [List.getElem?_cons_succ] at ho hs
        exact hj j o' s ho hs
    · rename_i hw
      rw [wantedA_keep] at hw
      split at h
      case h_1 => cases h
      rename_i wr see hcut
      split at h
      case h_2 => cases h
      rename_i v H1 nx1 hop1
      rw [hlk.keep (ops := ops)] at hop1
      split at h
      case isFalse => cases h
      rename_i hrw
      simp only [Bool.and_eq_true] at hrw
      obtain ⟨hrw, hwi⟩ := hrw
      simp only [Option.map_eq_some_iff] at h
      obtain ⟨ss', h', rfl⟩ := h
      rw [mergeQ_eq] at h'
      obtain ⟨hl, hj⟩ := drawGo_ok hlk hop h'
      have hok := hop hop1
      refine ⟨by simp [hl], fun j o' s ho hs => ?_⟩
      cases j with
      | zero =>
        simp only [List.getElem?_cons_zero, Option.some.injEq] at ho hs
        subst ho; subst hs
        refine ⟨rfl, rfl, hok.1, rfl, hw, fun _ => ⟨hok, hrw⟩, fun b k hb => ?_, (fun h => by cases h), fun b hb => ?_⟩
        · exact viewD_get hb
        · have := List.all_eq_true.1 hwi b (by simpa using hb)
          exact Option.isSome_iff_exists.1 this
      | succ j =>
        simp only [List.getElem?_cons_succ] at ho hs
        exact hj j o' s ho hs
    · cases h

/-! ### The looks -/
def ordered (ms : List Nat) (i j : Nat) : Bool := (ms.getD i 0).testBit j || (ms.getD j 0).testBit i
/-- No two write one temporary; what is read of the region's own is ordered. -/
def slotsFit (ms : List Nat) (ops : Array Oper) : Bool :=
  ops.toList.zipIdx.all fun s => ops.toList.zipIdx.all fun t => s.2 == t.2 || ((s.1.dst.isNone || s.1.dst != t.1.dst) && ((slotsOf ops s.1).all fun x => t.1.dst != some x || ordered ms s.2 t.2))
/-- What an operation sees, no operation that is not ordered with it turns. -/
def viewsFit (ms : List Nat) (ss : List Stp) : Bool :=
  ss.zipIdx.all fun t => !t.1.ran || (Nat.beq t.1.lo t.1.hi && t.1.V.all fun x => !t.1.wr x.1) || ss.zipIdx.all fun s => s.2 == t.2 || ordered ms s.2 t.2 || s.1.V.all fun x => !t.1.touch x.1

theorem zipIdx_all {α : Type} {p : α × Nat → Bool} {l : List α} (h : l.zipIdx.all p = true) {i : Nat} {x : α} (hx : l[i]? = some x) : p (x, i) = true := by
  refine List.all_eq_true.1 h (x, i) ?_
  rw [List.mem_zipIdx_iff_getElem?]
  exact hx

def dfltStp : Stp := ⟨default, false, undef, [], [], fun _ => false, [], 0, 0⟩

theorem tmR_snoc (ss : List Stp) (s : Stp) : ∀ tm, tmR (ss ++ [s]) tm = putT (tmR ss tm) s.o.dst s.v := by
  induction ss with
  | nil => intro tm; rfl
  | cons x ss ih => intro tm; exact ih _
theorem hpR_snoc (ss : List Stp) (s : Stp) : ∀ H, hpR (ss ++ [s]) H = if s.ran then merge s.touch s.H' (hpR ss H) else hpR ss H := by
  induction ss with
  | nil => intro H; rfl
  | cons x ss ih => intro H; exact ih _
theorem nxR_snoc (ss : List Stp) (s : Stp) : ∀ nx, nxR (ss ++ [s]) nx = s.hi := by
  induction ss with
  | nil => intro nx; rfl
  | cons x ss ih => intro nx; exact ih _

theorem hp_get_all {p : Nat × Blk → Bool} {b : Nat} {k : Blk} : ∀ {H : Hp}, H.all p = true → H.get b = some k → p (b, k) = true
  | [], _, h => by simp [Hp.get_nil] at h
  | (c, x) :: r, ha, h => by
    simp only [List.all_cons, Bool.and_eq_true] at ha
    by_cases hb : c = b
    · subst hb; simp [Hp.get_cons] at h; subst h; exact ha.1
    · simp [Hp.get_cons, hb] at h; exact hp_get_all ha.2 h

theorem drawOk_st {r : Option Nat} {ops : Array Oper}
    {tm : List Value} {H : Hp} {nx : Nat} {ss : List Stp} {ms : List Nat} (hgo : ss.length = ops.toList.length ∧ ∀ (j : Nat) o s, ops.toList[j]? = some o → ss[j]? = some s → StpOk P r ops o (tmR (ss.take j) tm) (hpR (ss.take j) H) (nxR (ss.take j) nx) s)
    (hm : masksFit ms 0 ops.toList = true) (hsl : slotsFit ms ops = true) (hvw : viewsFit ms ss = true) :
    DrawOk P r ops tm H nx (nxR ss nx) (fun i => ss.getD i dfltStp) (fun i j => (ms.getD i 0).testBit j) ∧
      (∀ b, spec (fun i => ss.getD i dfltStp) H (fun k => decide (k < ops.size)) ops.size b = (hpR ss H).get b) ∧ tmS (fun i => ss.getD i dfltStp) tm (fun k => decide (k < ops.size)) ops.size = tmR ss tm := by
  obtain ⟨hlen, hst⟩ := hgo
  simp only [Array.length_toList] at hlen
  have hss : ∀ i, i < ops.size → ss[i]? = some (ss.getD i dfltStp) := fun i hi => by
    have : i < ss.length := by omega
    simp [this]
  have hso : ∀ i, i < ops.size → ops.toList[i]? = some ops[i]! := fun i hi => by simp [hi]
  have hok : ∀ i (hi : i < ops.size), StpOk P r ops ops[i]! (tmR (ss.take i) tm) (hpR (ss.take i) H) (nxR (ss.take i) nx) (ss.getD i dfltStp) := fun i hi => hst i _ _ (hso i hi) (hss i hi)
  have htake : ∀ i, i < ops.size → ss.take (i + 1) = ss.take i ++ [ss.getD i dfltStp] := fun i hi => by
    have : i < ss.length := by omega
    rw [List.take_succ_eq_append_getElem this]
    simp [this]
  -- the running state is what tmS and spec say
  have ht : ∀ i, i ≤ ops.size → ∀ m, i ≤ m → m ≤ ops.size → tmS (fun i => ss.getD i dfltStp) tm (fun k => decide (k < i)) m = tmR (ss.take i) tm := by
    intro i hi m
    induction m generalizing i with
    | zero => intro h1 _; have : i = 0 := by omega
              subst this; rfl
    | succ m ih =>
      intro h1 h2
      simp only [tmS]
      by_cases hmi : m < i
      · have : i = m + 1 := by omega
        subst this
        simp only [Nat.lt_succ_self, decide_true, if_true]
        have e1 : tmS (fun i => ss.getD i dfltStp) tm (fun k => decide (k < m + 1)) m = tmS (fun i => ss.getD i dfltStp) tm (fun k => decide (k < m)) m := by
          apply List.ext_getElem?
          intro s
          exact tmS_agree fun k hk _ => by simp [hk]; omega
        rw [e1, ih m (by omega) (Nat.le_refl _) (by omega), htake m (by omega), tmR_snoc]
      · simp only [hmi, decide_false, Bool.false_eq_true, if_false]
        exact ih i hi (by omega) (by omega)
  have hh : ∀ i, i ≤ ops.size → ∀ m, i ≤ m → m ≤ ops.size → ∀ b, spec (fun i => ss.getD i dfltStp) H (fun k => decide (k < i)) m b = (hpR (ss.take i) H).get b := by
    intro i hi m
    induction m generalizing i with
    | zero => intro h1 _ b; have : i = 0 := by omega
              subst this; rfl
    | succ m ih =>
      intro h1 h2 b
      simp only [spec]
      by_cases hmi : m < i
      · have : i = m + 1 := by omega
        subst this
        simp only [Nat.lt_succ_self, decide_true, Bool.true_and]
        have e1 : spec (fun i => ss.getD i dfltStp) H (fun k => decide (k < m + 1)) m b = spec (fun i => ss.getD i dfltStp) H (fun k => decide (k < m)) m b := spec_agree fun k hk _ => by simp [hk]; omega
        rw [e1, ih m (by omega) (Nat.le_refl _) (by omega), htake m (by omega), hpR_snoc]
        have hk := hok m (by omega)
        cases hr : (ss.getD m dfltStp).ran with
        | true => simp only [if_true]; rw [merge_get]
        | false => rw [(hk.skip hr).2 b]; simp
      · simp only [hmi, decide_false, Bool.false_and, Bool.false_eq_true, if_false]
        exact ih i hi (by omega) (by omega) b
  have hnx : ∀ i, i ≤ ops.size → ∀ j, j < i → (ss.getD j dfltStp).hi ≤ nxR (ss.take i) nx := by
    intro i
    induction i with
    | zero => intro _ j hj; omega
    | succ i ih =>
      intro hi j hj
      rw [htake i (by omega), nxR_snoc]
      have hk := hok i (by omega)
      by_cases hji : j = i
      · subst hji; exact Nat.le_refl _
      · have := ih (by omega) j (by omega)
        rw [← hk.lo_eq] at this
        exact Nat.le_trans this hk.le
  have hnx0 : ∀ i, i ≤ ops.size → nx ≤ nxR (ss.take i) nx := by
    intro i
    induction i with
    | zero => intro _; exact Nat.le_refl _
    | succ i ih =>
      intro hi
      rw [htake i (by omega), nxR_snoc]
      have hk := hok i (by omega)
      have := ih (by omega)
      rw [← hk.lo_eq] at this
      exact Nat.le_trans this hk.le
  have hall : ss.take ops.size = ss := List.take_of_length_le (by omega)
  have hmf : ∀ i, i < ops.size → ms.getD i 0 = edgeMask ms (ss.getD i dfltStp).o.after.toList ∧ (∀ e ∈ (ss.getD i dfltStp).o.after.toList, Region.binds .any e = true → e.on < i) ∧ ms.getD i 0 < 2 ^ i := fun i hi => by
    have := masksFit_at hm (hso i hi)
    rw [← (hok i hi).o_eq] at this
    simpa using this
  have slt : ∀ i k, i < ops.size → k < ops.size → i ≠ k → ((ss.getD i dfltStp).o.dst.isNone || (ss.getD i dfltStp).o.dst != (ss.getD k dfltStp).o.dst) = true ∧ ((slotsOf ops (ss.getD i dfltStp).o).all fun x => (ss.getD k dfltStp).o.dst != some x || ordered ms i k) = true := by
    intro i k hi hk hne
    have h1 := zipIdx_all (zipIdx_all hsl (hso i hi)) (hso k hk)
    rw [← (hok i hi).o_eq, ← (hok k hk).o_eq] at h1
    have hb : (i == k) = false := by simp [hne]
    simpa [hb] using h1
  refine ⟨⟨fun i hi => ?_, fun i hi => (hok i hi).le, fun i j hij hj => ?_, fun i hi => ⟨by rw [(hok i hi).lo_eq]; exact hnx0 i (by omega), by have := hnx ops.size (Nat.le_refl _) i hi; rwa [hall] at this⟩, by have := hnx0 ops.size (Nat.le_refl _); rwa [hall] at this,
    fun i hi e he hb => ?_, fun i hi j hj => ?_, fun i j hi hj => ?_, fun i hi => ?_, fun i hi s v hv => ?_, fun i j s hi hj hne hd => ?_, fun i hi => (hok i hi).want, fun i hi => (hok i hi).ok, fun i hi b k hb => ?_, fun i hi => (hok i hi).skip,
    fun i j hi hj hne h1 h2 b k hb => ?_, fun i hi => (hok i hi).wrin⟩, fun b => ?_, ?_⟩
  · rw [(hok i hi).o_eq]; simp [hi]
  · rw [(hok j hj).lo_eq]; exact hnx j (by omega) i hij
  · refine ⟨?_, (hmf i hi).2.1 e (by simpa using he) hb⟩
    try dsimp only
    rw [(hmf i hi).1, edgeMask_bit]
    exact ⟨e, by simpa using he, hb, .inl rfl⟩
  · try dsimp only at hj
    rw [(hmf i hi).1, edgeMask_bit] at hj
    obtain ⟨e, he, hb, hor⟩ := hj
    exact ⟨e, by simpa using he, hb, hor⟩
  · have hlt := (hmf i hi).2.2
    try dsimp only at hj
    rcases Nat.lt_or_ge j i with h | h
    · exact h
    · rw [Nat.testBit_lt_two_pow (Nat.lt_of_lt_of_le hlt (Nat.pow_le_pow_right (by omega) h))] at hj
      cases hj
  · try dsimp only
    rw [(hok i hi).tmo_eq, keepT_get.1, ← ht i (by omega) i (Nat.le_refl _) (by omega), tmS_length]
  · try dsimp only at hv ⊢
    rw [(hok i hi).tmo_eq] at hv
    rcases keepT_get.2 s v hv with h0 | ⟨h1, h2⟩
    · exact .inl h0
    · refine .inr ⟨by rw [ht i (by omega) _ (by omega) (Nat.le_refl _)]; exact h2, fun k hk hne hd => ?_⟩
      have := (slt i k hi hk (fun e => hne e.symm)).2
      rw [(hok i hi).o_eq] at this
      have := List.all_eq_true.1 this s h1
      rw [hd] at this
      simpa [ordered] using this
  · have := (slt i j hi hj hne).1
    rw [hd] at this
    try dsimp only at this hd ⊢
    simp at this
    exact fun e => this e.symm
  · try dsimp only at hb ⊢
    obtain ⟨k0, h0, h1⟩ := (hok i hi).vw b k hb
    exact ⟨k0, by rw [hh i (by omega) _ (by omega) (Nat.le_refl _)]; exact h0, h1⟩
  · try dsimp only at hb ⊢
    cases hr : (ss.getD j dfltStp).ran with
    | false => exact ((hok j hj).skip hr).2 b
    | true =>
      have hv := zipIdx_all hvw (hss j hj)
      simp only [hr, Bool.not_true, Bool.false_or, Bool.or_eq_true] at hv
      rcases hv with hv | hv
      · simp only [Bool.and_eq_true] at hv
        have hlh := Nat.eq_of_beq_eq_true hv.1
        cases hw : (ss.getD j dfltStp).wr b with
        | true =>
          obtain ⟨k', hk'⟩ := (hok j hj).wrin b hw
          have := hp_get_all hv.2 hk'
          dsimp only at this
          rw [hw] at this
          cases this
        | false =>
          simp only [Stp.touch, touchOf, hw, Bool.false_or, hlh]
          simp only [Bool.and_eq_false_iff, decide_eq_false_iff_not]
          omega
      have hv := zipIdx_all hv (hss i hi)
      have hb1 : (i == j) = false := by simp [hne]
      have hb2 : ordered ms i j = false := by simp only [ordered, Bool.or_eq_false_iff]; exact ⟨h1, h2⟩
      simp only [hb1, hb2, Bool.false_or] at hv
      have := hp_get_all hv hb
      simpa using this
  · rw [hh ops.size (Nat.le_refl _) _ (Nat.le_refl _) (Nat.le_refl _), hall]
  · rw [ht ops.size (Nat.le_refl _) _ (Nat.le_refl _) (Nat.le_refl _), hall]

def blockOf (tm : List Value) (x : Operand) : List Nat :=
  match opv tm x with
  | some (.pointer (some a)) => [a.block]
  | some (.slice (some a) _ _) => [a.block]
  | _ => []
/-- The blocks that an operation looks at, where its operands tell. -/
def looksAtA (tm : List Value) (o : Oper) : Option (List Nat) :=
  match o.op with
  | .load _ a => some (blockOf tm a)
  | .store _ a _ => some (blockOf tm a)
  | .call { callee := .builtin _, args := args, argTypes := _ } => some (args.toList.flatMap (blockOf tm))
  | .call _ => none
  | .mapUpdate _ m _ _ => some (mapBlk tm m)
  | .lookup _ x _ _ => some (mapBlk tm x)
  | _ => some []
/-- Which names an operation may turn, which it may see: by its operands, or by what the others may turn. -/
def cutOf (ops : Array Oper) (ms : List Nat) (est : List (List Nat)) (i : Nat) (tm : List Value) (H : Hp) (done : List Stp) : Option (List Nat × See) :=
  match ops[i]? with
  | none => none
  | some o =>
    match looksAtA tm o with
    | some bs => some ((targetOf tm o).filter fun b => match H.get b with | some k => k.rw | none => false, .few bs)
    | none =>
      match (List.range ops.size).filter fun j => j != i && !ordered ms i j with
      | [] => some (names (H.filter fun x => x.2.rw), .all fun _ => true)
      | others =>
        match others.flatMap (fun j => est.getD j [] ++ (match ops[j]? with | some p => targetOf tm p | none => [])), others.filterMap fun j => if j < i then (match (done.reverse)[j]? with | some s => if s.lo < s.hi then some (s.lo, s.hi) else none | none => none) else none with
        | mask, rs => some ([], .all fun b => !(mask.contains b || inRange rs b))

/-- A first guess at what each operation may turn. -/
def guess (P : Program) (ops : Array Oper) (H : Hp) : List Oper → List Value → List (List Nat)
  | [], _ => []
  | o :: l, tm =>
    match o.op with
    | .store .. => targetOf tm o :: guess P ops H l tm
    | .load .. | .fieldAddr .. | .indexAddr .. | .move _ | .assign _ | .slice .. =>
      [] :: guess P ops H l (putT tm o.dst (match wantedA ops tm o with
        | some true => match doOp P tm H 0 o with
          | some (v, _, _) => v
          | none => junk
        | _ => junk))
    | _ => targetOf tm o :: guess P ops H l (putT tm o.dst junk)

def isWriter (o : Oper) : Bool := match o.op with
  | .store .. => true
  | .mapUpdate .. => true
  | .call { callee := .builtin .append, args := _, argTypes := _ } => true
  | .call { callee := .builtin .copy, args := _, argTypes := _ } => true
  | _ => false

def staticFit (ops : Array Oper) : Bool := masksFit (masksOf ops.toList []) 0 ops.toList && slotsFit (masksOf ops.toList []) ops

/-! ### The same looks, quicker -/
def lnat (l : List Nat) (i : Nat) : Nat := List.rec (motive := fun _ => Nat → Nat) (fun _ => 0) (fun x _ ih i => Nat.rec (motive := fun _ => Nat) x (fun m _ => ih m) i) l i
theorem lnat_eq : ∀ (l : List Nat) (i : Nat), lnat l i = l.getD i 0
  | [], _ => by simp [lnat]
  | x :: l, 0 => rfl
  | x :: l, i + 1 => by
    show lnat l i = _
    rw [lnat_eq l i]; simp
def edgeMaskQ (ms : List Nat) : List Edge → Nat
  | [] => 0
  | e :: es => Nat.lor (bif Region.binds .any e then Nat.lor (Nat.shiftLeft 1 e.on) (lnat ms e.on) else 0) (edgeMaskQ ms es)
theorem edgeMaskQ_eq (ms : List Nat) : ∀ es : List Edge, edgeMaskQ ms es = edgeMask ms es
  | [] => rfl
  | e :: es => by
    simp only [edgeMaskQ, edgeMask, edgeMaskQ_eq ms es, lnat_eq]
    cases Region.binds .any e <;> rfl
/-- The masks, found with the list turned round. -/
def edgeMaskR (rs : List Nat) (i : Nat) : List Edge → Nat
  | [] => 0
  | e :: es => Nat.lor (bif Region.binds .any e then Nat.lor (Nat.shiftLeft 1 e.on) (lnat rs (i - 1 - e.on)) else 0) (edgeMaskR rs i es)
def masksR : List Oper → Nat → List Nat → List Nat
  | [], _, rs => rs.reverse
  | o :: os, i, rs => masksR os (i + 1) (edgeMaskR rs i o.after.toList :: rs)
def edgesBack (i : Nat) : List Edge → Bool
  | [] => true
  | e :: es => (!Region.binds .any e || Nat.blt e.on i) && edgesBack i es
theorem blt_lt {a b : Nat} (h : Nat.blt a b = true) : a < b := by
  unfold Nat.blt at h
  rw [Nat.ble_eq] at h; exact h
theorem edgesBack_ok {i : Nat} : ∀ {es : List Edge}, edgesBack i es = true → es.all (fun e => !Region.binds .any e || decide (e.on < i)) = true
  | [], _ => rfl
  | e :: es, h => by
    simp only [edgesBack, Bool.and_eq_true, Bool.or_eq_true] at h
    simp only [List.all_cons, edgesBack_ok h.2, Bool.and_true, Bool.or_eq_true, decide_eq_true_eq]
    rcases h.1 with h | h
    · exact .inl h
    · exact .inr (blt_lt h)
def masksFitQ (ms : List Nat) : Nat → List Oper → Bool
  | _, [] => true
  | i, o :: os => (match lnat ms i with | m => Nat.beq m (edgeMaskQ ms o.after.toList) && Nat.blt m (Nat.pow 2 i)) && edgesBack i o.after.toList && masksFitQ ms (i + 1) os
theorem masksFitQ_ok {ms : List Nat} : ∀ {l : List Oper} {i : Nat}, masksFitQ ms i l = true → masksFit ms i l = true
  | [], _, _ => rfl
  | o :: os, i, h => by
    simp only [masksFitQ, Bool.and_eq_true, edgeMaskQ_eq, lnat_eq] at h
    obtain ⟨⟨⟨h1, h2⟩, h3⟩, h4⟩ := h
    have h1 := Nat.eq_of_beq_eq_true h1
    simp only [masksFit, masksFitQ_ok h4, edgesBack_ok h3, Bool.and_true, Bool.and_eq_true, beq_iff_eq, decide_eq_true_eq]
    exact ⟨h1, blt_lt h2⟩
def dstL : Nat → List Oper → List (Nat × Nat)
  | _, [] => []
  | i, o :: os => match o.dst with
    | some d => (d, i) :: dstL (i + 1) os
    | none => dstL (i + 1) os
theorem dstL_mem {d : Nat} {p : Oper} : ∀ {l : List Oper} {i j : Nat}, l[j]? = some p → p.dst = some d → (d, i + j) ∈ dstL i l
  | [], _, _, h, _ => by simp at h
  | o :: os, i, 0, h, hd => by
    simp at h
    subst h
    simp only [dstL, hd]
    simp
  | o :: os, i, j + 1, h, hd => by
    have ih := dstL_mem (l := os) (i := i + 1) (j := j) (by simpa using h) hd
    rw [show i + 1 + j = i + (j + 1) by omega] at ih
    simp only [dstL]
    split
    · exact List.mem_cons_of_mem _ ih
    · exact ih
def ordQ (ms : List Nat) (i j : Nat) : Bool := Nat.testBit (lnat ms i) j || Nat.testBit (lnat ms j) i
/-- Where x is put, it is op i itself, or an op ordered with it. -/
def slotQ (ms : List Nat) (i x : Nat) (dl : List (Nat × Nat)) : Bool := List.rec (motive := fun _ => Bool) true (fun p _ ih => (bif Nat.beq p.1 x then Nat.beq p.2 i || ordQ ms i p.2 else true) && ih) dl
theorem slotQ_mem {ms : List Nat} {i x d j : Nat} : ∀ {dl : List (Nat × Nat)}, slotQ ms i x dl = true → (d, j) ∈ dl → d = x → j ≠ i → ordQ ms i j = true
  | [], _, h, _, _ => by cases h
  | p :: dl, h, hm, hd, hj => by
    have h : ((bif Nat.beq p.1 x then Nat.beq p.2 i || ordQ ms i p.2 else true) && slotQ ms i x dl) = true := h
    simp only [Bool.and_eq_true] at h
    rcases List.mem_cons.1 hm with he | hm
    · subst he
      have hb : Nat.beq d x = true := by rw [hd]; exact Nat.beq_refl x
      have h1 := h.1
      rw [hb] at h1
      simp only [cond_true, Bool.or_eq_true] at h1
      rcases h1 with h1 | h1
      · exact absurd (Nat.eq_of_beq_eq_true h1) hj
      · exact h1
    · exact slotQ_mem h.2 hm hd hj
/-- No other op puts x. -/
def oneQ (i x : Nat) (dl : List (Nat × Nat)) : Bool := List.rec (motive := fun _ => Bool) true (fun p _ ih => (bif Nat.beq p.1 x then Nat.beq p.2 i else true) && ih) dl
theorem oneQ_mem {i x d j : Nat} : ∀ {dl : List (Nat × Nat)}, oneQ i x dl = true → (d, j) ∈ dl → d = x → j = i
  | [], _, h, _ => by cases h
  | p :: dl, h, hm, hd => by
    have h : ((bif Nat.beq p.1 x then Nat.beq p.2 i else true) && oneQ i x dl) = true := h
    simp only [Bool.and_eq_true] at h
    rcases List.mem_cons.1 hm with he | hm
    · subst he
      have hb : Nat.beq d x = true := by rw [hd]; exact Nat.beq_refl x
      have h1 := h.1
      rw [hb] at h1
      exact Nat.eq_of_beq_eq_true h1
    · exact oneQ_mem h.2 hm hd
def allQ (f : Nat → Bool) : List Nat → Bool
  | [] => true
  | x :: r => f x && allQ f r
theorem allQ_mem {f : Nat → Bool} : ∀ {l : List Nat} {x : Nat}, allQ f l = true → x ∈ l → f x = true
  | [], _, _, h => by cases h
  | y :: l, x, h, hx => by
    simp only [allQ, Bool.and_eq_true] at h
    rcases List.mem_cons.1 hx with rfl | hx
    · exact h.1
    · exact allQ_mem h.2 hx
def slotsQ (ms : List Nat) (ops : Array Oper) (dl : List (Nat × Nat)) : Nat → List Oper → Bool
  | _, [] => true
  | i, o :: os => (match o.dst with
    | some d => oneQ i d dl
    | none => true) && allQ (fun x => slotQ ms i x dl) (slotsOf ops o) && slotsQ ms ops dl (i + 1) os
theorem slotsQ_at {ms : List Nat} {ops : Array Oper} {dl : List (Nat × Nat)} : ∀ {l : List Oper} {i j : Nat} {o : Oper}, slotsQ ms ops dl i l = true → l[j]? = some o →
    (∀ d, o.dst = some d → oneQ (i + j) d dl = true) ∧ ∀ x ∈ slotsOf ops o, slotQ ms (i + j) x dl = true
  | [], _, _, _, _, h => by simp at h
  | p :: os, i, 0, o, h, ho => by
    simp at ho
    subst ho
    simp only [slotsQ, Bool.and_eq_true] at h
    refine ⟨fun d hd => ?_, fun x hx => allQ_mem h.1.2 hx⟩
    have h1 := h.1.1
    rw [hd] at h1
    exact h1
  | p :: os, i, j + 1, o, h, ho => by
    simp only [slotsQ, Bool.and_eq_true] at h
    have := slotsQ_at (j := j) h.2 (by simpa using ho)
    rwa [show i + 1 + j = i + (j + 1) by omega] at this
theorem slotsQ_ok {ms : List Nat} {ops : Array Oper} (h : slotsQ ms ops (dstL 0 ops.toList) 0 ops.toList = true) : slotsFit ms ops = true := by
  unfold slotsFit
  rw [List.all_eq_true]
  rintro ⟨o, i⟩ hs
  rw [List.all_eq_true]
  rintro ⟨p, j⟩ ht
  rw [List.mem_zipIdx_iff_getElem?] at hs ht
  dsimp only at hs ht ⊢
  by_cases hij : i = j
  · subst hij; simp
  · obtain ⟨h1, h2⟩ := slotsQ_at h hs
    rw [Nat.zero_add] at h1 h2
    have e0 : (i == j) = false := by simpa using hij
    rw [e0, Bool.false_or, Bool.and_eq_true]
    constructor
    · cases hd : o.dst with
      | none => rfl
      | some d =>
        simp only [Option.isNone_some, Bool.false_or, bne_iff_ne, ne_eq]
        intro he
        have hm := dstL_mem (i := 0) ht he.symm
        rw [Nat.zero_add] at hm
        exact hij (oneQ_mem (h1 d hd) hm rfl).symm
    · rw [List.all_eq_true]
      intro x hx
      by_cases hpx : p.dst = some x
      · have hm := dstL_mem (i := 0) ht hpx
        rw [Nat.zero_add] at hm
        have := slotQ_mem (h2 x hx) hm rfl (fun e => hij e.symm)
        unfold ordQ at this
        rw [lnat_eq, lnat_eq] at this
        simp only [Bool.or_eq_true, bne_iff_ne]
        right
        simpa [ordered] using this
      · simp only [Bool.or_eq_true, bne_iff_ne]
        exact .inl hpx
def staticQ (ms : List Nat) (ops : Array Oper) : Bool := masksFitQ ms 0 ops.toList && slotsQ ms ops (dstL 0 ops.toList) 0 ops.toList

/-- The heap behind all steps, quicker. -/
def hpF : List Stp → Hp → Hp
  | [], H => H
  | s :: ss, H => hpF ss (if s.ran then (bif Nat.beq s.lo s.hi && s.V.all (fun x => !s.wr x.1) then H else merge s.touch s.H' H) else H)
theorem hpF_get : ∀ {ss : List Stp} {H1 H2 : Hp}, (∀ s ∈ ss, ∀ b, s.wr b = true → ∃ k, s.V.get b = some k) → (∀ b, H1.get b = H2.get b) → ∀ b, (hpF ss H1).get b = (hpR ss H2).get b
  | [], _, _, _, h, b => h b
  | s :: ss, H1, H2, hw, h, b => by
    simp only [hpF, hpR]
    refine hpF_get (fun t ht => hw t (by simp [ht])) (fun c => ?_) b
    cases hr : s.ran with
    | false => exact h c
    | true =>
      simp only [if_true]
      cases hq : (Nat.beq s.lo s.hi && s.V.all (fun x => !s.wr x.1)) with
      | false =>
        simp only [cond_false, merge_get, h c]
      | true =>
        simp only [Bool.and_eq_true] at hq
        have hlh := Nat.eq_of_beq_eq_true hq.1
        have ht : s.touch c = false := by
          cases hwc : s.wr c with
          | true =>
            obtain ⟨k', hk'⟩ := hw s (by simp) c hwc
            have := hp_get_all hq.2 hk'
            dsimp only at this
            rw [hwc] at this
            cases this
          | false =>
            simp only [Stp.touch, touchOf, hwc, Bool.false_or, hlh]
            simp only [Bool.and_eq_false_iff, decide_eq_false_iff_not]
            omega
        simp only [cond_true, merge_get, ht, h c]
        rfl
def evalDraw (P : Program) (op : List Value → Hp → Nat → Oper → Option (Value × Hp × Nat)) (ops : Array Oper) (tm : List Value) (H : Hp) (nx : Nat) : Option (List Value × Hp × Nat) :=
  match masksR ops.toList 0 [] with
  | ms => match (if ops.toList.any isWriter then guess P ops H ops.toList tm else []) with
    | est => match drawGo op ops (cutOf ops ms est) 0 [] ops.toList tm H nx with
      | some ss => if staticQ ms ops && viewsFit ms ss && P.follows .mixedOrders then some (tmR ss tm, hpF ss H, nxR ss nx) else none
      | none => none

/-- With any cut. -/
theorem drawn_ok {op : List Value → Hp → Nat → Oper → Option (Value × Hp × Nat)} {r : Option Nat} (hlk : Looks op) (hop : ∀ {tm H nx o v H' nx'}, op tm H nx o = some (v, H', nx') → OpOk P r o tm H nx v H' nx')
    {id : Nat} {ops : Array Oper} {cut : Nat → List Value → Hp → List Stp → Option (List Nat × See)} {tm : List Value} {ds : List Nat} {nx : Nat} {ss : List Stp} (hss : drawGo op ops cut 0 [] ops.toList tm H nx = some ss)
    (hc : (staticFit ops && viewsFit (masksOf ops.toList []) ss && P.follows .mixedOrders) = true) : CodeOk P r (.region id ops true) tm ds H nx ⟨.normal, tmR ss tm, ds, hpR ss H, nxR ss nx⟩ := by
  simp only [Bool.and_eq_true, staticFit] at hc
  obtain ⟨⟨⟨h1, h2⟩, h3⟩, h4⟩ := hc
  obtain ⟨D, hs, ht⟩ := drawOk_st (drawGo_ok hlk hop hss) h1 h2 h3
  have := codeOk_draw (id := id) (ds := ds) h4 D (HF := hpR ss H) (fun b k hb => by rw [hs]; exact hb)
  rw [ht] at this
  exact this
theorem evalDraw_ok {op : List Value → Hp → Nat → Oper → Option (Value × Hp × Nat)} {r : Option Nat} (hlk : Looks op) (hop : ∀ {tm H nx o v H' nx'}, op tm H nx o = some (v, H', nx') → OpOk P r o tm H nx v H' nx')
    {id : Nat} {ops : Array Oper} {tm tm' : List Value} {ds : List Nat} {H' : Hp} {nx nx' : Nat} (h : evalDraw P op ops tm H nx = some (tm', H', nx')) : CodeOk P r (.region id ops true) tm ds H nx ⟨.normal, tm', ds, H', nx'⟩ := by
  unfold evalDraw at h
  dsimp only at h
  split at h
  case h_2 => cases h
  rename_i ss hss
  split at h
  case isFalse => cases h
  rename_i hc
  cases h
  simp only [Bool.and_eq_true, staticQ] at hc
  obtain ⟨⟨⟨h1, h2⟩, h3⟩, h4⟩ := hc
  have h1 := masksFitQ_ok h1
  have h2 := slotsQ_ok h2
  have hwr : ∀ s ∈ ss, ∀ b, s.wr b = true → ∃ k, s.V.get b = some k := fun s hsm b hb => by
    obtain ⟨j, hj, rfl⟩ := List.getElem_of_mem hsm
    obtain ⟨hl, hall⟩ := drawGo_ok (r := r) hlk hop hss
    have hj2 : j < ops.toList.length := by omega
    exact (hall j _ _ (List.getElem?_eq_getElem hj2) (List.getElem?_eq_getElem hj)).wrin b hb
  obtain ⟨D, hs, ht⟩ := drawOk_st (drawGo_ok hlk hop hss) h1 h2 h3
  have := codeOk_draw (id := id) (ds := ds) h4 D (HF := hpF ss H) (fun b k hb => by rw [hs, ← hpF_get (H1 := H) hwr (fun _ => rfl) b]; exact hb)
  rw [ht] at this
  exact this
end Go.Fz
/- The engine, part MR: values that name nothing new; equality of values. -/
noncomputable section
namespace Go.Fz
set_option linter.unusedVariables false
variable {P : Program} {φ : Ren} {H : Hp} {K : Nat → Prop} {w : World}

/-! ### Forgetting -/
def isJunk : Value → Bool
  | .complex .f32 0 0 => true
  | _ => false
theorem isJunk_eq {v : Value} (h : isJunk v = true) : v = junk := by
  unfold isJunk at h
  split at h
  · rfl
  · cases h
/-- The value names nothing from lo on. -/
def smallL (f : Value → Bool) : List Value → Bool
  | [] => true
  | v :: r => f v && smallL f r
def small (lo : Nat) : Nat → Value → Bool
  | _, .bool _ => true
  | _, .int _ _ => true
  | _, .float _ _ => true
  | _, .string _ => true
  | _, .pointer none => true
  | _, .pointer (some a) => decide (a.block < lo)
  | _, .slice none _ _ => true
  | _, .slice (some a) _ _ => decide (a.block < lo)
  | _, .map none => true
  | _, .map (some b) => decide (b < lo)
  | _, .nilFunc => true
  | _, .nilIface => true
  | n + 1, .func (.func _) a b => smallL (small lo n) a.toList && smallL (small lo n) b.toList
  | n + 1, .func (.yield l) a b => decide (l < lo) && smallL (small lo n) a.toList && smallL (small lo n) b.toList
  | n + 1, .iface _ v => small 0 n v
  | n + 1, .agg a => smallL (small lo n) a.toList
  | n + 1, .tuple a => smallL (small lo n) a.toList
  | _, _ => false

theorem smallL_rel {φ' : Ren} {f : Value → Bool} (hf : ∀ v v', f v = true → VRel φ' v v' → VRel φ v v') : ∀ {xs ys : List Value}, smallL f xs = true → LRel φ' xs ys → LRel φ xs ys
  | [], [], _, _ => trivial
  | x :: xs, y :: ys, h, hr => by
    simp only [smallL, Bool.and_eq_true] at h
    exact ⟨hf x y h.1 hr.1, smallL_rel hf h.2 hr.2⟩
  | [], _ :: _, _, h => h.elim
  | _ :: _, [], _, h => h.elim

theorem smallL_at {f : Value → Bool} {j : Nat} {v : Value} : ∀ {cs : List Value}, smallL f cs = true → cs[j]? = some v → f v = true
  | [], _, h => by simp at h
  | x :: cs, hs, h => by
    simp only [smallL, Bool.and_eq_true] at hs
    cases j with
    | zero => simp at h; subst h; exact hs.1
    | succ j => simp at h; exact smallL_at hs.2 h
/-- The frozen blocks of φ' are frozen for φ. -/
def Facts (φ' φ : Ren) : Prop := ∀ b L, φ' (FZ + b) = some L → φ (FZ + b) = some L
theorem cells_small {m k : Nat} {e u : Value} (h : small 0 m e = true) (hu : e.cells[k]? = some u) : ∃ m', m' ≤ m ∧ small 0 m' u = true := by
  have one : e.oneCell' = true → ∃ m', m' ≤ m ∧ small 0 m' u = true := fun h1 => by
    rw [cells_one h1] at hu
    cases k with
    | zero => simp at hu; subst hu; exact ⟨m, Nat.le_refl _, h⟩
    | succ k => simp at hu
  cases e with
  | agg a =>
    cases m with
    | zero => simp [small] at h
    | succ m => exact ⟨m, Nat.le_succ _, smallL_at (j := k) (v := u) h (by simpa [Value.cells] using hu)⟩
  | tuple a =>
    cases m with
    | zero => simp [small] at h
    | succ m =>
      simp only [Value.cells] at hu
      first
        | exact ⟨m, Nat.le_succ _, smallL_at (j := k) (v := u) h (by simpa using hu)⟩
        | exact one rfl
        | (cases k <;> simp at hu; subst hu; exact ⟨m + 1, Nat.le_refl _, h⟩)
  | _ => exact one rfl
theorem nf_rel {φ' : Ren} (hF : Facts φ' φ) : ∀ (n : Nat) (v v' : Value), small 0 n v = true → VRel φ' v v' → VRel φ v v' := by
  intro n
  induction n using Nat.strongRecOn with
  | _ n ih =>
    intro v v' hs hr
    have hL : ∀ {k : Nat} {xs ys : List Value}, k < n → smallL (small 0 k) xs = true → LRel φ' xs ys → LRel φ xs ys := fun hk h1 h2 => smallL_rel (fun v v' => ih _ hk v v') h1 h2
    cases v with
    | bool b => cases hr; exact .bool b
    | int k m => cases hr; exact .int k m
    | float k m => cases hr; exact .float k m
    | string s => cases hr; exact .str s
    | pointer a =>
      cases a with
      | none => cases hr; exact .ptrN
      | some a => simp [small] at hs
    | slice a m c =>
      cases a with
      | none => cases hr; exact .slN m c
      | some a => simp [small] at hs
    | map r =>
      cases r with
      | none => cases hr; exact .mapN
      | some r => simp [small] at hs
    | nilFunc => cases hr; exact .nilFunc
    | nilIface => cases hr; exact .nilIface
    | func f a b =>
      cases n with
      | zero => cases f <;> simp [small] at hs
      | succ n =>
        obtain ⟨fn', ys, us, rfl, hf, h1, h2⟩ := hr.func_inv
        cases hf with
        | func f =>
          simp only [small, Bool.and_eq_true] at hs
          exact .func' (.func f) (hL (Nat.lt_succ_self _) hs.1 h1) (hL (Nat.lt_succ_self _) hs.2 h2)
        | _ => simp [small] at hs
    | agg a =>
      cases n with
      | zero => simp [small] at hs
      | succ n =>
        obtain ⟨ys, rfl, hl⟩ := hr.agg_inv
        exact .agg' (hL (Nat.lt_succ_self _) hs hl)
    | tuple a =>
      cases n with
      | zero => simp [small] at hs
      | succ n =>
        obtain ⟨ys, rfl, hl⟩ := hr.tuple_inv
        exact .tuple' (hL (Nat.lt_succ_self _) hs hl)
    | iface t u =>
      cases n with
      | zero => simp [small] at hs
      | succ n =>
        have hs : small 0 n u = true := hs
        have hel : ∀ {es : Array Value}, (u = .tuple es ∨ u = .agg es) → ∀ (j k : Nat) e w w', es[j]? = some e → e.cells[k]? = some w → VRel φ' w w' → VRel φ w w' := by
          intro es hu j k e w w' he hk hw
          cases n with
          | zero => rcases hu with rfl | rfl <;> simp [small] at hs
          | succ n =>
            have h1 : smallL (small 0 n) es.toList = true := by rcases hu with rfl | rfl <;> exact hs
            have h2 := smallL_at (j := j) (v := e) h1 (by simpa using he)
            obtain ⟨m', hm, h3⟩ := cells_small h2 hk
            exact ih m' (by omega) w w' h3 hw
        cases hr with
        | fz _ es b o c L hL hn ho hc hsz h => exact .fz t es b o c L (hF _ _ hL) hn ho hc hsz fun j k e w w' he hk hw => hel (.inl rfl) j k e w w' he hk (h j k e w w' he hk hw)
        | fz0 _ a c => exact .fz0 t a c
        | fq _ es b o L hL hn ho hsz h => exact .fq t es b o L (hF _ _ hL) hn ho hsz fun j k e w w' he hk hw => hel (.inr rfl) j k e w w' he hk (h j k e w w' he hk hw)
        | fq0 _ a => exact .fq0 t a
        | fp _ e b o L hL ho h =>
          refine .fp t e b o L (hF _ _ hL) ho fun j w w' hw hw' => ?_
          cases n with
          | zero => simp [small] at hs
          | succ n =>
            have hs : small 0 n e = true := hs
            obtain ⟨m', hm, h3⟩ := cells_small hs hw
            exact ih m' (by omega) w w' h3 (h j w w' hw hw')
    | _ => cases n <;> simp [small] at hs
theorem small_rel {φ' : Ren} {lo : Nat} (hφ : ∀ b, b < lo → φ' b = φ b) (hF : Facts φ' φ) : ∀ (n : Nat) (v v' : Value), small lo n v = true → VRel φ' v v' → VRel φ v v' := by
  have base : ∀ (n : Nat) (v v' : Value), (match v with | .func .. => False | .iface .. => False | .agg _ => False | .tuple _ => False | _ => True) → small lo n v = true → VRel φ' v v' → VRel φ v v' := by
    intro n v v' hv hs hr
    cases hr with
    | bool b => exact .bool b
    | int k n => exact .int k n
    | float k n => exact .float k n
    | str s => exact .str s
    | ptrN => exact .ptrN
    | ptr b o L h => simp only [small, decide_eq_true_eq] at hs; exact .ptr b o L (by rw [← hφ b hs]; exact h)
    | slN n c => exact .slN n c
    | sl b o n c L h hc => simp only [small, decide_eq_true_eq] at hs; exact .sl b o n c L (by rw [← hφ b hs]; exact h) hc
    | slO b o n c c' L h hc hn hl => simp only [small, decide_eq_true_eq] at hs; exact .slO b o n c c' L (by rw [← hφ b hs]; exact h) hc hn hl
    | slE b o c a' L h hc => simp only [small, decide_eq_true_eq] at hs; exact .slE b o c a' L (by rw [← hφ b hs]; exact h) hc
    | mapN => exact .mapN
    | map r L h => simp only [small, decide_eq_true_eq] at hs; exact .map r L (by rw [← hφ r hs]; exact h)
    | nilFunc => exact .nilFunc
    | nilIface => exact .nilIface
    | _ => exact hv.elim
  intro n
  induction n with
  | zero =>
    intro v v' hs hr
    cases v with
    | func f a b => cases f <;> simp [small] at hs
    | iface t u => simp [small] at hs
    | agg a => simp [small] at hs
    | tuple a => simp [small] at hs
    | _ => exact base 0 _ v' trivial hs hr
  | succ n ih =>
    intro v v' hs hr
    cases v with
    | func f a b =>
      obtain ⟨fn', ys, us, rfl, hf, h1, h2⟩ := hr.func_inv
      cases hf with
      | func f =>
        simp only [small, Bool.and_eq_true] at hs
        exact .func' (.func f) (smallL_rel ih hs.1 h1) (smallL_rel ih hs.2 h2)
      | yield l L hl =>
        simp only [small, Bool.and_eq_true, decide_eq_true_eq] at hs
        exact .func' (.yield l L (by rw [← hφ l hs.1.1]; exact hl)) (smallL_rel ih hs.1.2 h1) (smallL_rel ih hs.2 h2)
      | _ => simp [small] at hs
    | iface t u => exact nf_rel hF (n + 1) _ _ (by exact hs) hr
    | agg a =>
      obtain ⟨ys, rfl, hl⟩ := hr.agg_inv
      exact .agg' (smallL_rel ih hs hl)
    | tuple a =>
      obtain ⟨ys, rfl, hl⟩ := hr.tuple_inv
      exact .tuple' (smallL_rel ih hs hl)
    | _ => exact base (n + 1) _ v' trivial hs hr

/-! ### Equality of values, as far as it is asked -/
def keq (a b : IntKind) : Bool := match a, b with
  | .i8, .i8 | .i16, .i16 | .i32, .i32 | .i64, .i64 | .u8, .u8 | .u16, .u16 | .u32, .u32 | .u64, .u64 => true
  | _, _ => false
theorem keq_eq {a b : IntKind} (h : keq a b = true) : a = b := by cases a <;> cases b <;> first | rfl | simp [keq] at h
def ieq : Int → Int → Bool
  | .ofNat a, .ofNat b => a == b
  | .negSucc a, .negSucc b => a == b
  | _, _ => false
theorem ieq_eq {a b : Int} (h : ieq a b = true) : a = b := by
  cases a <;> cases b <;> simp [ieq] at h <;> simp [h]
def adeq : Option Addr → Option Addr → Bool
  | none, none => true
  | some ⟨b, o, none⟩, some ⟨c, p, none⟩ => b == c && o == p
  | _, _ => false
theorem adeq_eq {a b : Option Addr} (h : adeq a b = true) : a = b := by
  unfold adeq at h
  split at h
  · rfl
  · simp at h; obtain ⟨rfl, rfl⟩ := h; rfl
  · cases h
def fneq : Fn → Fn → Bool
  | .func a, .func b => a == b
  | .yield a, .yield b => a == b
  | _, _ => false
theorem fneq_eq {a b : Fn} (h : fneq a b = true) : a = b := by
  unfold fneq at h
  split at h
  · simp at h; rw [h]
  · simp at h; rw [h]
  · cases h
def beqs : List UInt8 → List UInt8 → Bool
  | [], [] => true
  | a :: x, b :: y => a.toNat == b.toNat && beqs x y
  | _, _ => false
theorem beqs_eq : ∀ {a b : List UInt8}, beqs a b = true → a = b
  | [], [], _ => rfl
  | a :: x, b :: y, h => by
    simp [beqs] at h
    rw [beqs_eq h.2, UInt8.toNat_inj.1 h.1]
  | [], _ :: _, h => by simp [beqs] at h
  | _ :: _, [], h => by simp [beqs] at h
def leqBy (f : Value → Value → Bool) : List Value → List Value → Bool
  | [], [] => true
  | a :: x, b :: y => f a b && leqBy f x y
  | _, _ => false
theorem leqBy_eq {f : Value → Value → Bool} (hf : ∀ a b, f a b = true → a = b) : ∀ {x y : List Value}, leqBy f x y = true → x = y
  | [], [], _ => rfl
  | a :: x, b :: y, h => by
    simp [leqBy] at h
    rw [hf a b h.1, leqBy_eq hf h.2]
  | [], _ :: _, h => by simp [leqBy] at h
  | _ :: _, [], h => by simp [leqBy] at h
def veq : Nat → Value → Value → Bool
  | _, .bool a, .bool b => a == b
  | _, .int k a, .int l b => keq k l && ieq a b
  | _, .pointer a, .pointer b => adeq a b
  | _, .slice a n c, .slice b m d => adeq a b && n == m && c == d
  | _, .string a, .string b => beqs a.data.toList b.data.toList
  | _, .nilFunc, .nilFunc => true
  | _, .nilIface, .nilIface => true
  | _, .map none, .map none => true
  | _, .map (some a), .map (some b) => a == b
  | n + 1, .func f a b, .func g c d => fneq f g && leqBy (veq n) a.toList c.toList && leqBy (veq n) b.toList d.toList
  | n + 1, .iface t a, .iface u b => t == u && veq n a b
  | n + 1, .agg a, .agg b => leqBy (veq n) a.toList b.toList
  | n + 1, .tuple a, .tuple b => leqBy (veq n) a.toList b.toList
  | _, _, _ => false
theorem veq_eq : ∀ (n : Nat) (a b : Value), veq n a b = true → a = b := by
  intro n
  induction n with
  | zero =>
    intro a b h
    unfold veq at h
    split at h
    · simp at h; rw [h]
    · simp at h; rw [keq_eq h.1, ieq_eq h.2]
    · rw [adeq_eq h]
    · simp at h; rw [adeq_eq h.1.1, h.1.2, h.2]
    · rename_i x y
      have := beqs_eq h
      cases x; cases y
      simp only at this
      rw [Array.toList_inj.1 this]
    · rfl
    · rfl
    · rfl
    · simp at h; rw [h]
    all_goals first | omega | cases h
  | succ n ih =>
    intro a b h
    unfold veq at h
    split at h
    · simp at h; rw [h]
    · simp at h; rw [keq_eq h.1, ieq_eq h.2]
    · rw [adeq_eq h]
    · simp at h; rw [adeq_eq h.1.1, h.1.2, h.2]
    · rename_i x y
      have := beqs_eq h
      cases x; cases y
      simp only at this
      rw [Array.toList_inj.1 this]
    · rfl
    · rfl
    · rfl
    · simp at h; rw [h]
    · rename_i m f x y g c d hm
      cases hm
      simp only [Bool.and_eq_true] at h
      rw [fneq_eq h.1.1, Array.toList_inj.1 (leqBy_eq ih h.1.2), Array.toList_inj.1 (leqBy_eq ih h.2)]
    · rename_i m t x u y hm
      cases hm
      simp at h
      rw [h.1, ih _ _ h.2]
    · rename_i m x y hm
      cases hm
      rw [Array.toList_inj.1 (leqBy_eq ih h)]
    · rename_i m x y hm
      cases hm
      rw [Array.toList_inj.1 (leqBy_eq ih h)]
    · cases h


end Go.Fz
/- The engine, part FR: a block that nobody turns any more is frozen: what names it becomes a value. -/
noncomputable section
namespace Go.Fz
set_option linter.unusedVariables false
variable {P : Program} {φ : Ren} {H : Hp} {K : Nat → Prop} {w : World}

/-- n elements of s cells each. -/
def elemOf (s : Nat) (cs : List Value) : Value := bif Nat.beq s 1 then (match cs with | v :: _ => v | [] => junk) else .agg (cs.take s).toArray
def elemOk (s : Nat) (cs : List Value) : Bool := bif Nat.beq s 1 then (match cs with | v :: _ => v.oneCell' | [] => false) else Nat.ble s cs.length
theorem elem_ok {s : Nat} {cs : List Value} (h : elemOk s cs = true) : s ≤ cs.length ∧ (elemOf s cs).cells.size = s ∧ ∀ (k : Nat) u, (elemOf s cs).cells[k]? = some u → cs[k]? = some u := by
  unfold elemOk at h
  unfold elemOf
  cases hb : Nat.beq s 1 with
  | true =>
    have := Nat.eq_of_beq_eq_true hb
    subst this
    rw [hb] at h
    simp only [cond_true] at h ⊢
    cases cs with
    | nil => cases h
    | cons v r =>
      have h : v.oneCell' = true := h
      show _ ∧ v.cells.size = 1 ∧ ∀ (k : Nat) u, v.cells[k]? = some u → _
      rw [cells_one h]
      refine ⟨by simp, by simp, fun k u hu => ?_⟩
      cases k with
      | zero => simpa using hu
      | succ k => simp at hu
  | false =>
    rw [hb] at h
    simp only [cond_false] at h ⊢
    have h3 := Nat.le_of_ble_eq_true h
    refine ⟨h3, by simp [Value.cells]; omega, fun k u hu => ?_⟩
    simp only [Value.cells, List.getElem?_toArray, List.getElem?_take] at hu
    split at hu
    · exact hu
    · cases hu
def chunk (s : Nat) : Nat → List Value → List Value
  | 0, _ => []
  | n + 1, cs => elemOf s cs :: chunk s n (cs.drop s)
def chunkOk (s : Nat) : Nat → List Value → Bool
  | 0, _ => true
  | n + 1, cs => elemOk s cs && chunkOk s n (cs.drop s)
theorem chunk_len (s : Nat) : ∀ (n : Nat) (cs : List Value), (chunk s n cs).length = n
  | 0, _ => rfl
  | n + 1, cs => by simp [chunk, chunk_len s n]
theorem chunk_get (s : Nat) : ∀ (n : Nat) (cs : List Value), chunkOk s n cs = true → n * s ≤ cs.length ∧ ∀ (j : Nat) e, (chunk s n cs)[j]? = some e → e.cells.size = s ∧ ∀ (k : Nat) u, e.cells[k]? = some u → cs[j * s + k]? = some u
  | 0, cs, _ => ⟨by simp, fun j e h => by simp [chunk] at h⟩
  | n + 1, cs, h => by
    simp only [chunkOk, Bool.and_eq_true] at h
    obtain ⟨h1, h2⟩ := h
    obtain ⟨i1, i2⟩ := chunk_get s n (cs.drop s) h2
    obtain ⟨k1, k2, k3⟩ := elem_ok h1
    refine ⟨by rw [Nat.add_mul]; simp only [List.length_drop] at i1; omega, fun j e hj => ?_⟩
    cases j with
    | zero =>
      simp only [chunk, List.getElem?_cons_zero, Option.some.injEq] at hj
      subst hj
      refine ⟨k2, fun k u hu => ?_⟩
      rw [Nat.zero_mul, Nat.zero_add]
      exact k3 k u hu
    | succ j =>
      simp only [chunk, List.getElem?_cons_succ] at hj
      obtain ⟨m1, m2⟩ := i2 j e hj
      refine ⟨m1, fun k u hu => ?_⟩
      have := m2 k u hu
      rw [List.getElem?_drop] at this
      rw [← this]
      congr 1
      rw [Nat.add_mul]; omega

/-- What names block b becomes a frozen slice. -/
def frV (b s : Nat) (cs : List Value) : Nat → Value → Value
  | _, .slice (some ⟨c, o, none⟩) n cap => bif Nat.beq c b && (Nat.blt 0 s && (Nat.ble n cap && chunkOk s n (cs.drop o))) then .iface s (.tuple (chunk s n (cs.drop o)).toArray) else .slice (some ⟨c, o, none⟩) n cap
  | m + 1, .agg a => .agg (a.toList.map (frV b s cs m)).toArray
  | m + 1, .tuple a => .tuple (a.toList.map (frV b s cs m)).toArray
  | m + 1, .func f a c => .func f (a.toList.map (frV b s cs m)).toArray (c.toList.map (frV b s cs m)).toArray
  | _, v => v
def frB (b s : Nat) (cs : List Value) : Blk → Blk
  | .cells ds ro => .cells (ds.map (frV b s cs 16)) ro
  | k => k
def frH (q : Nat → Blk → Bool) (b s : Nat) (cs : List Value) : Hp → Hp
  | [] => []
  | (c, k) :: r => (c, bif q c k then frB b s cs k else k) :: frH q b s cs r
theorem frH_get (q : Nat → Blk → Bool) (b s : Nat) (cs : List Value) (c : Nat) : ∀ H : Hp, (frH q b s cs H).get c = (H.get c).map fun k => bif q c k then frB b s cs k else k
  | [] => by simp [frH, Hp.get_nil]
  | (d, k) :: r => by
    simp only [frH, Hp.get_cons]
    split
    · rename_i h
      have : d = c := by simpa using h
      subst this; rfl
    · exact frH_get q b s cs c r
theorem frB_rw (b s : Nat) (cs : List Value) (k : Blk) : (frB b s cs k).rw = k.rw := by cases k <;> rfl

theorem freeze_ok (g : Good φ H K w) {b : Nat} {cs : List Value} (hb : H.get b = some (.cells cs false)) :
    ∃ φ', (∀ n, Ext K φ φ' n n) ∧ Good φ' (H.del b) K w ∧ ∀ (s m : Nat) (v v' : Value), VRel φ v v' → VRel φ' (frV b s cs m v) v' := by
  obtain ⟨L, hL, a, el, fr, e1, e2, e3⟩ := g.rel b _ hb
  have hnone : φ (FZ + L.blk) = none := by
    cases h : φ (FZ + L.blk) with
    | none => rfl
    | some M => exact absurd rfl (g.fsep b _ L L.blk M hb rfl hL h)
  let N : Loc := ⟨L.blk, 0, 0, a⟩
  have hle := Ren.put_le hnone N
  have hoth : ∀ c, c ≠ FZ + L.blk → (φ.put (FZ + L.blk) N) c = φ c := fun c hc => Ren.put_other φ N hc
  have hname : ∀ c k, H.get c = some k → c ≠ FZ + L.blk := fun c k hc e => by
    obtain ⟨M, hM, _⟩ := g.rel c k hc
    rw [e, hnone] at hM; cases hM
  refine ⟨φ.put (FZ + L.blk) N, fun n => ⟨hle, fun c hc _ => hoth c (by omega), fun c M hM => ?_⟩, ⟨fun c k hc => ?_, fun c d k k' M M' hc hd hne hk hM hM' => ?_, fun c k M hc hk hM => ?_, g.kin, fun c M hM => ?_, fun c k M d M' hc hk hM hM' => ?_⟩, ?_⟩
  · by_cases h : c = L.blk
    · subst h; exact .inr (g.prot b _ L hb rfl hL)
    · rw [hoth _ (by omega)] at hM; exact .inl hM
  · rw [Hp.get_del] at hc
    split at hc
    · cases hc
    · obtain ⟨M, hM, hr⟩ := g.rel c k hc
      exact ⟨M, hle _ _ hM, hr.mono hle⟩
  · rw [Hp.get_del] at hc hd
    split at hc
    · cases hc
    · split at hd
      · cases hd
      · rw [hoth c (hname c k hc)] at hM
        rw [hoth d (hname d k' hd)] at hM'
        exact g.sep c d k k' M M' hc hd hne hk hM hM'
  · rw [Hp.get_del] at hc
    split at hc
    · cases hc
    · rw [hoth c (hname c k hc)] at hM
      exact g.prot c k M hc hk hM
  · by_cases h : c = L.blk
    · subst h
      rw [Ren.put_same] at hM
      cases hM
      exact ⟨rfl, rfl, a, el, fr, e1, fun j u hu => hu⟩
    · rw [hoth _ (by omega)] at hM; exact g.fz c M hM
  · rw [Hp.get_del] at hc
    split at hc
    · cases hc
    · rename_i hcb
      rw [hoth c (hname c k hc)] at hM
      by_cases h : d = L.blk
      · subst h
        exact g.sep c b k _ M L hc hb hcb hk hM hL
      · rw [hoth _ (by omega)] at hM'
        exact g.fsep c k M d M' hc hk hM hM'
  · intro s m
    have hfact : (φ.put (FZ + L.blk) N) (FZ + L.blk) = some N := Ren.put_same _ _ _
    -- one slice
    have one : ∀ (o n : Nat) (x : Addr) (c' : Nat), 0 < s → chunkOk s n (cs.drop o) = true → (0 < n → x = ⟨L.blk, L.off + o, none⟩) → n ≤ c' → VRel (φ.put (FZ + L.blk) N) (.iface s (.tuple (chunk s n (cs.drop o)).toArray)) (.slice (some x) n c') := by
      intro o n x c' hs0 hk hx hc
      obtain ⟨k1, k2⟩ := chunk_get s n (cs.drop o) hk
      by_cases h0 : n = 0
      · subst h0; exact .fz0 s (some x) c'
      · rw [hx (by omega)]
        have hsz : (chunk s n (cs.drop o)).toArray.size = n := by simp [chunk_len]
        simp only [List.length_drop] at k1
        have hpos : 0 < n * s := Nat.mul_pos (by omega) hs0
        have hfit : L.off + o + n * s ≤ a.size := by
          have h1 : o + (n * s - 1) < cs.length := by omega
          obtain ⟨v', hv', _⟩ := e2 (o + (n * s - 1)) (cs[o + (n * s - 1)]) (by simp)
          have := (Array.getElem?_eq_some_iff.1 hv').1
          omega
        have := VRel.fz (φ := φ.put (FZ + L.blk) N) s (chunk s n (cs.drop o)).toArray L.blk (L.off + o) c' N hfact (by omega) (by rw [hsz]; exact hfit) (by omega)
          (fun j e he => (k2 j e (by simpa using he)).1) (fun j k e u u' he hu hu' => by
            have h1 := (k2 j e (by simpa using he)).2 k u hu
            rw [List.getElem?_drop] at h1
            obtain ⟨v', hv', hr⟩ := e2 _ _ h1
            have h2 : L.off + o + j * s + k = L.off + (o + (j * s + k)) := by omega
            rw [h2] at hu'
            change a[L.off + (o + (j * s + k))]? = some u' at hu'
            rw [hv'] at hu'
            cases hu'
            exact hr.mono hle)
        rwa [hsz] at this
    have slc : ∀ (m : Nat) (x : Option Addr) (n c : Nat) (v' : Value), VRel φ (.slice x n c) v' → VRel (φ.put (FZ + L.blk) N) (frV b s cs m (.slice x n c)) v' := by
      intro m x n c v' hr
      cases x with
      | none => cases m <;> exact hr.mono hle
      | some x =>
        obtain ⟨d, o, y⟩ := x
        cases y with
        | some y => cases hr
        | none =>
          have e0 : frV b s cs m (.slice (some ⟨d, o, none⟩) n c) = bif Nat.beq d b && (Nat.blt 0 s && (Nat.ble n c && chunkOk s n (cs.drop o))) then .iface s (.tuple (chunk s n (cs.drop o)).toArray) else .slice (some ⟨d, o, none⟩) n c := by
            cases m <;> rfl
          rw [e0]
          cases hcond : (Nat.beq d b && (Nat.blt 0 s && (Nat.ble n c && chunkOk s n (cs.drop o)))) with
          | false => exact hr.mono hle
          | true =>
            simp only [Bool.and_eq_true] at hcond
            obtain ⟨c1, c2, c3, c4⟩ := hcond
            have := Nat.eq_of_beq_eq_true c1
            subst this
            have c2 : 0 < s := by rw [blt_dec, decide_eq_true_eq] at c2; exact c2
            have c3 := Nat.le_of_ble_eq_true c3
            simp only [cond_true]
            cases hr with
            | sl _ _ _ _ M hM hc => rw [hL] at hM; cases hM; exact one o n _ c c2 c4 (fun _ => rfl) c3
            | slO _ _ _ _ c' M hM hc hn hl => rw [hL] at hM; cases hM; exact one o n _ c' c2 c4 (fun _ => rfl) hn
            | slE _ _ _ a' M hM hc => exact one o 0 a' 0 c2 c4 (fun h => absurd h (by omega)) (Nat.le_refl _)
    have lst : ∀ {f : Value → Value}, (∀ v v', VRel φ v v' → VRel (φ.put (FZ + L.blk) N) (f v) v') → ∀ {xs ys : List Value}, LRel φ xs ys → LRel (φ.put (FZ + L.blk) N) (xs.map f) ys := by
      intro f hf xs
      induction xs with
      | nil => intro ys h; cases ys with
        | nil => trivial
        | cons y ys => exact h.elim
      | cons x xs ih => intro ys h; cases ys with
        | nil => exact h.elim
        | cons y ys => exact ⟨hf x y h.1, ih h.2⟩
    induction m with
    | zero =>
      intro v v' hr
      cases v with
      | slice x n c => exact slc 0 x n c v' hr
      | _ => exact hr.mono hle
    | succ m ih =>
      intro v v' hr
      cases v with
      | slice x n c => exact slc (m + 1) x n c v' hr
      | agg c =>
        obtain ⟨ys, rfl, hl⟩ := hr.agg_inv
        exact .agg' (by simpa [frV] using lst ih hl)
      | tuple c =>
        obtain ⟨ys, rfl, hl⟩ := hr.tuple_inv
        exact .tuple' (by simpa [frV] using lst ih hl)
      | func f x y =>
        obtain ⟨fn', ys, us, rfl, hf, h1, h2⟩ := hr.func_inv
        exact .func' (hf.mono hle) (by simpa [frV] using lst ih h1) (by simpa [frV] using lst ih h2)
      | _ => exact hr.mono hle
/-- The heap behind. -/
theorem frH_good {q : Nat → Blk → Bool} {φ' : Ren} {b s : Nat} {cs : List Value} (hv : ∀ (m : Nat) (v v' : Value), VRel φ v v' → VRel φ' (frV b s cs m v) v') (hle : φ.le φ') (g0 : Good φ H K w) (g : Good φ' (H.del b) K w) : Good φ' (frH q b s cs (H.del b)) K w := by
  have hget : ∀ c k, (frH q b s cs (H.del b)).get c = some k → ∃ k0, (H.del b).get c = some k0 ∧ (k = frB b s cs k0 ∨ k = k0) := fun c k hc => by
    rw [frH_get] at hc
    simp only [Option.map_eq_some_iff] at hc
    obtain ⟨k0, h0, rfl⟩ := hc
    refine ⟨k0, h0, ?_⟩
    cases q c k0
    · exact .inr rfl
    · exact .inl rfl
  have hrw : ∀ {k k0 : Blk}, (k = frB b s cs k0 ∨ k = k0) → k.rw = true → k0.rw = true := fun h hk => by
    rcases h with rfl | rfl
    · rwa [frB_rw] at hk
    · exact hk
  refine ⟨fun c k hc => ?_, fun c d k k' M M' hc hd hne hk hM hM' => ?_, fun c k M hc hk hM => ?_, g.kin, g.fz, fun c k M d M' hc hk hM hM' => ?_⟩
  · obtain ⟨k0, h0, hor⟩ := hget c k hc
    have h1 : H.get c = some k0 := by
      rw [Hp.get_del] at h0
      split at h0
      · cases h0
      · exact h0
    obtain ⟨M, hM, hr⟩ := g0.rel c k0 h1
    refine ⟨M, hle _ _ hM, ?_⟩
    rcases hor with rfl | rfl
    case inr => exact hr.mono hle
    cases k0 with
    | cells ds ro =>
      obtain ⟨arr, el, fr, e1, e2, e3⟩ := hr
      refine ⟨arr, el, fr, e1, fun j v hj => ?_, e3⟩
      rw [List.getElem?_map] at hj
      simp only [Option.map_eq_some_iff] at hj
      obtain ⟨u, hu, rfl⟩ := hj
      obtain ⟨v', f1, f2⟩ := e2 j u hu
      exact ⟨v', f1, hv 16 u v' f2⟩
    | _ => exact hr.mono hle
  · obtain ⟨k0, h0, hor⟩ := hget c k hc
    obtain ⟨k1, h1, _⟩ := hget d k' hd
    exact g.sep c d k0 k1 M M' h0 h1 hne (hrw hor hk) hM hM'
  · obtain ⟨k0, h0, hor⟩ := hget c k hc
    exact g.prot c k0 M h0 (hrw hor hk) hM
  · obtain ⟨k0, h0, hor⟩ := hget c k hc
    exact g.fsep c k0 M d M' h0 (hrw hor hk) hM hM'
/-- One block is frozen, in what a call leaves. -/
def frz1 (q : Nat → Blk → Bool) (b s : Nat) (v : Value) (H : Hp) : Value × Hp := match H.get b with
  | some (.cells cs false) => (frV b s cs 16 v, frH q b s cs (H.del b))
  | _ => (v, H)
theorem frz1_ok (g : Good φ H K w) {v v' : Value} (hv : VRel φ v v') (q : Nat → Blk → Bool) (b s : Nat) : ∃ φ', (∀ n, Ext K φ φ' n n) ∧ Good φ' (frz1 q b s v H).2 K w ∧ VRel φ' (frz1 q b s v H).1 v' := by
  unfold frz1
  split
  · rename_i cs hb
    obtain ⟨φ', h1, h2, h3⟩ := freeze_ok g hb
    exact ⟨φ', h1, frH_good (h3 s) (h1 0).1 g h2, h3 s 16 v v' hv⟩
  · exact ⟨φ, fun n => Ext.refl _ _ _ _, g, hv⟩
def frzL (q : Nat → Blk → Bool) : List (Nat × Nat) → Value → Hp → Value × Hp
  | [], v, H => (v, H)
  | (b, s) :: r, v, H => match frz1 q b s v H with
    | (v1, H1) => frzL q r v1 H1
theorem frzL_ok (q : Nat → Blk → Bool) : ∀ (l : List (Nat × Nat)) {φ : Ren} {H : Hp} {v v' : Value}, Good φ H K w → VRel φ v v' → ∃ φ', (∀ n, Ext K φ φ' n n) ∧ Good φ' (frzL q l v H).2 K w ∧ VRel φ' (frzL q l v H).1 v'
  | [], φ, H, v, v', g, hv => ⟨φ, fun n => Ext.refl _ _ _ _, g, hv⟩
  | (b, s) :: r, φ, H, v, v', g, hv => by
    obtain ⟨φ1, h1, h2, h3⟩ := frz1_ok g hv q b s
    obtain ⟨φ2, k1, k2, k3⟩ := frzL_ok q r h2 h3
    exact ⟨φ2, fun n => (h1 n).comp (k1 n), k2, k3⟩
theorem callOk_frz {f : FuncId} {args : List Value} {nx : Nat} {v : Value} {H' : Hp} {nx' : Nat} (h : CallOk P f args H nx v H' nx') (q : Nat → Blk → Bool) (l : List (Nat × Nat)) : CallOk P f args H nx (frzL q l v H').1 (frzL q l v H').2 nx' := by
  refine ⟨h.1, fun φ w K us g hf hl => Calls.mono (h.2 φ w K us g hf hl) ?_⟩
  rintro e w' ⟨v', φ', rfl, x1, x2, x3, x4⟩
  obtain ⟨φ2, k1, k2, k3⟩ := frzL_ok q l x3 x1
  exact ⟨v', φ2, rfl, k3, x2.comp ((k1 nx').wide h.1 (Nat.le_refl _)), k2, x4⟩
/-! ### What is frozen at a call's end -/
def szOf (len o c : Nat) : Nat := bif Nat.ble openCap c then c - openCap else bif Nat.beq c 0 then 1 else (len - o) / c
/-- The new blocks that slices name, children first, with the size of an element. -/
def frzVisit (H : Hp) (lo : Nat) : Nat → List Value → List Nat × List (Nat × Nat) → List Nat × List (Nat × Nat)
  | 0, _, a => a
  | _ + 1, [], a => a
  | n + 1, v :: vs, a => match v with
    | .slice (some ⟨b, o, none⟩) _ c => bif Nat.blt b lo || a.1.any (Nat.beq b) then frzVisit H lo n vs a else match H.get b with
      | some (.cells cs false) => match frzVisit H lo n cs (b :: a.1, a.2) with
        | (s1, p1) => frzVisit H lo n vs (s1, p1 ++ [(b, szOf cs.length o c)])
      | _ => frzVisit H lo n vs a
    | .pointer (some ⟨b, _, none⟩) => bif Nat.blt b lo || a.1.any (Nat.beq b) then frzVisit H lo n vs a else match H.get b with
      | some (.cells cs false) => match frzVisit H lo n cs (b :: a.1, a.2) with
        | a1 => frzVisit H lo n vs a1
      | _ => frzVisit H lo n vs a
    | .agg c => match frzVisit H lo n c.toList a with
      | a1 => frzVisit H lo n vs a1
    | .tuple c => match frzVisit H lo n c.toList a with
      | a1 => frzVisit H lo n vs a1
    | .func _ x y => match frzVisit H lo n (x.toList ++ y.toList) a with
      | a1 => frzVisit H lo n vs a1
    | _ => frzVisit H lo n vs a
def hasSl (b : Nat) : List Value → Bool
  | [] => false
  | v :: r => (match v with | .slice (some ⟨c, _, none⟩) _ _ => Nat.beq c b | _ => false) || hasSl b r
def oldCells (lo : Nat) : Hp → List Value
  | [] => []
  | (b, k) :: r => bif Nat.blt b lo then (match k with | .cells cs false => cs ++ oldCells lo r | _ => oldCells lo r) else oldCells lo r
def anyNew (lo : Nat) : Hp → Bool
  | [] => false
  | (b, _) :: r => Nat.ble lo b || anyNew lo r
/-- mode 0: what the result names; 1: what the blocks from before name, too; 2: nothing. -/
def frzEnd (mode lo : Nat) (v : Value) (H : Hp) : Value × Hp := match mode with
  | 0 => bif anyNew lo H then frzL (fun c _ => Nat.ble lo c) (frzVisit H lo 100000 [v] ([], [])).2 v H else (v, H)
  | 1 => bif anyNew lo H then frzL (fun c k => match k with | .cells _ _ => true | _ => false) (frzVisit H lo 100000 (v :: oldCells lo H) ([], [])).2 v H else (v, H)
  | _ => (v, H)
theorem frzEnd_is (mode lo : Nat) (v : Value) (H : Hp) : ∃ q l, frzEnd mode lo v H = frzL q l v H := by
  unfold frzEnd
  split
  · cases anyNew lo H
    · exact ⟨fun _ _ => true, [], rfl⟩
    · exact ⟨_, _, rfl⟩
  · cases anyNew lo H
    · exact ⟨fun _ _ => true, [], rfl⟩
    · exact ⟨_, _, rfl⟩
  · exact ⟨fun _ _ => true, [], rfl⟩
theorem callOk_end {f : FuncId} {args : List Value} {nx : Nat} {v v2 : Value} {H' H2 : Hp} {nx' : Nat} (h : CallOk P f args H nx v H' nx') (mode : Nat) (he : frzEnd mode nx v H' = (v2, H2)) : CallOk P f args H nx v2 H2 nx' := by
  obtain ⟨q, l, hq⟩ := frzEnd_is mode nx v H'
  have := callOk_frz h q l
  rw [← hq, he] at this
  exact this
end Go.Fz
/- The engine, part L: the evaluator, with fuel, and that it is sound. -/
noncomputable section
namespace Go.Fz
set_option linter.unusedVariables false
variable {P : Program} {φ : Ren} {H : Hp} {K : Nat → Prop} {w : World}

/-- A round of a loop over a function. -/
def yieldE (E : Ev) (l : Nat) (vs : List Value) (H : Hp) (nx : Nat) : Option (Value × Hp × Nat) :=
  match H.get l with
  | some (.loop L) =>
    if vs.length = L.params.size then
      match E.code (some l) L.assign (setParams L.params.toList vs L.tmps.toList) [] H nx with
      | some R1 => match R1.e, R1.ds, R1.H.get l with
        | .normal, [], some (.loop L1) => match L1.state with
          | .ready => match E.code (some l) L.body R1.tm [] (R1.H.set l (.loop { L1 with state := .busy })) R1.nx with
            | some R2 => match R2.H.get l, roundEnd R2.e with
              | some (.loop L2), some (b, s, p) => some (.bool b, R2.H.set l (.loop { L2 with state := s, pending := p }), R2.nx)
              | _, _ => none
            | none => none
          | _ => none
        | _, _, _ => none
      | none => none
    else none
  | _ => none

theorem yieldE_ok {E : Ev} (hE : E.Ok P) {r : Option Nat} {o : Oper} {tm : List Value} {nx : Nat} {cf : Operand} {args : Array Operand} {ats : Array TypeId} (ho : o.op = .call { callee := .value cf, args := args, argTypes := ats })
    {l : Nat} {vs : List Value} (hcf : opv tm cf = some (.func (.yield l) #[] #[])) (hvs : opvs tm args.toList = some vs) {v : Value} {H' : Hp} {nx' : Nat} (h : yieldE E l vs H nx = some (v, H', nx')) : OpOk P r o tm H nx v H' nx' := by
  unfold yieldE at h
  split at h
  case h_2 => cases h
  rename_i L hl
  split at h
  case isFalse => cases h
  rename_i hn
  split at h
  case h_2 => cases h
  rename_i R1 hR1
  split at h
  case h_2 => cases h
  rename_i L1 he1 hd1 hl1
  split at h
  case h_2 => cases h
  rename_i hst
  split at h
  case h_2 => cases h
  rename_i R2 hR2
  split at h
  case h_2 => cases h
  rename_i L2 b s p hl2 he2
  cases h
  exact opOk_yield ho hcf hvs hl hn (hE.code hR1) he1 hd1 hl1 hst (hE.code hR2) hl2 he2

/-- One operation. -/
def evalOp (P : Program) (E : Ev) (tm : List Value) (H : Hp) (nx : Nat) (o : Oper) : Option (Value × Hp × Nat) :=
  match o.op with
  | .call { callee := .value cf, args := args, argTypes := _ } => match opv tm cf, opvs tm args.toList with
    | some (.func (.func f) fs cs), some vs => E.call f (fs.toList ++ vs ++ cs.toList) H nx
    | some (.func (.yield l) ⟨[]⟩ ⟨[]⟩), some vs => yieldE E l vs H nx
    | _, _ => none
  | _ => doOp P tm H nx o

theorem evalOp_ok {E : Ev} (hE : E.Ok P) (hs : NoSpecial P) {r : Option Nat} {o : Oper} {tm : List Value} {nx : Nat} {v : Value} {H' : Hp} {nx' : Nat} (h : evalOp P E tm H nx o = some (v, H', nx')) : OpOk P r o tm H nx v H' nx' := by
  unfold evalOp at h
  split at h
  · rename_i cf args ats ho
    split at h
    · rename_i f fs cs vs hcf hvs
      obtain ⟨fn, hfn, hb⟩ := hE.named h
      exact opOk_call ho hs hfn hb hcf hvs (hE.call h)
    · rename_i l vs hcf hvs
      exact yieldE_ok hE ho hcf hvs h
    · cases h
  · exact opOk_plain h

theorem evalOp_looks {E : Ev} : Looks (evalOp P E) := by
  intro t t' H nx o h
  unfold evalOp
  cases ho : o.op with
  | call c =>
    obtain ⟨cal, args, ats⟩ := c
    cases cal with
    | value cf =>
      rw [ho] at h
      simp only [h cf (by simp [Op.operands, Call.operands]), opvs_congr (xs := args.toList) fun x hx => h x (by simp only [Op.operands, Call.operands, Array.mem_append]; right; simpa using hx)]
    | _ => exact doOp_congr h
  | _ => exact doOp_congr h

/-- Operations in their order. -/
def evalList (P : Program) (E : Ev) (ops : Array Oper) : List Oper → List Value → Hp → Nat → Option (List Value × Hp × Nat)
  | [], tm, H, nx => some (tm, H, nx)
  | o :: l, tm, H, nx => match wantedA ops tm o with
    | some true => match evalOp P E tm H nx o with
      | some (v, H1, nx1) => evalList P E ops l (putT tm o.dst v) H1 nx1
      | none => none
    | some false => evalList P E ops l (putT tm o.dst undef) H nx
    | none => none

theorem evalList_ok {E : Ev} (hE : E.Ok P) (hs : NoSpecial P) {r : Option Nat} {ops : Array Oper} : ∀ {l : List Oper} {k : Nat} {tm : List Value} {H : Hp} {nx : Nat} {tm' : List Value} {H' : Hp} {nx' : Nat},
    (∀ j : Nat, l[j]? = ops[k + j]?) → evalList P E ops l tm H nx = some (tm', H', nx') → OpsOk P r ops (List.range' k l.length) tm H nx tm' H' nx'
  | [], k, tm, H, nx, tm', H', nx', _, h => by simp only [evalList, Option.some.injEq, Prod.mk.injEq] at h; obtain ⟨rfl, rfl, rfl⟩ := h; exact opsOk_nil
  | o :: l, k, tm, H, nx, tm', H', nx', hl, h => by
    have h0 : ops[k]? = some o := by simpa using (hl 0).symm
    have hl' : ∀ j : Nat, l[j]? = ops[k + 1 + j]? := fun j => by have := hl (j + 1); simpa [Nat.add_assoc, Nat.add_comm 1 j] using this
    simp only [evalList] at h
    rw [List.length_cons, List.range'_succ]
    split at h
    · rename_i hw
      split at h
      · rename_i v H1 nx1 h1
        exact opsOk_cons h0 hw (evalOp_ok hE hs h1) (evalList_ok hE hs hl' h)
      · cases h
    · rename_i hw
      exact opsOk_skip h0 hw (evalList_ok hE hs hl' h)
    · cases h

/-- The statement that ranges over a function. -/
def evalRange (E : Ev) (r : Option Nat) (g : Operand) (ps : Array Tmp) (assign body : Code) (tm : List Value) (ds : List Nat) (H : Hp) (nx : Nat) : Option Res :=
  match opv tm g with
  | some (.func (.func f) fs cs) =>
    match r with
    | none =>
      match E.call f (fs.toList ++ [.func (.yield (nx + 1)) #[] #[]] ++ cs.toList) ((nx + 1, .loop (newLoop tm ps assign body nx)) :: (nx, .defd) :: H) (nx + 2) with
      | some (_, H1, nx1) => match H1.get (nx + 1) with
        | some (.loop L) => afterLoop L tm (nx :: ds) (H1.del (nx + 1)) nx1
        | _ => none
      | none => none
    | some l0 => match H.get l0 with
      | some (.loop L0) =>
        match E.call f (fs.toList ++ [.func (.yield nx) #[] #[]] ++ cs.toList) ((nx, .loop (newLoop tm ps assign body L0.defers)) :: H) (nx + 1) with
        | some (_, H1, nx1) => match H1.get nx with
          | some (.loop L) => afterLoop L tm ds (H1.del nx) nx1
          | _ => none
        | none => none
      | _ => none
  | _ => none

theorem evalRange_ok {E : Ev} (hE : E.Ok P) (hs : NoSpecial P) {r : Option Nat} {g : Operand} {ps : Array Tmp} {assign body : Code} {tm : List Value} {ds : List Nat} {nx : Nat} {R : Res} (h : evalRange E r g ps assign body tm ds H nx = some R) :
    CodeOk P r (.rangeFunc g ps assign body) tm ds H nx R := by
  unfold evalRange at h
  split at h
  case h_2 => cases h
  rename_i f fs cs hg
  split at h
  · split at h
    case h_2 => cases h
    rename_i v H1 nx1 hc
    split at h
    case h_2 => cases h
    rename_i L hl
    obtain ⟨fn, hfn, hb⟩ := hE.named hc
    exact codeOk_rangeFunc hs hfn hb hg (hE.call hc) hl h
  · rename_i l0
    split at h
    case h_2 => cases h
    rename_i L0 hl0
    split at h
    case h_2 => cases h
    rename_i v H1 nx1 hc
    split at h
    case h_2 => cases h
    rename_i L hl
    obtain ⟨fn, hfn, hb⟩ := hE.named hc
    exact codeOk_rangeFunc_in hs hfn hb hg hl0 (hE.call hc) hl h

/-- Code. -/
def evalCode (P : Program) (E : Ev) (r : Option Nat) : Code → List Value → List Nat → Hp → Nat → Option Res
  | .skip, tm, ds, H, nx => some ⟨.normal, tm, ds, H, nx⟩
  | .label _, tm, ds, H, nx => some ⟨.normal, tm, ds, H, nx⟩
  | .exit i, tm, ds, H, nx => some ⟨.exit i, tm, ds, H, nx⟩
  | .goto i, tm, ds, H, nx => some ⟨.goto i, tm, ds, H, nx⟩
  | .ret, tm, ds, H, nx => some ⟨.ret, tm, ds, H, nx⟩
  | .seq x y, tm, ds, H, nx => match evalCode P E r x tm ds H nx with
    | some R => match R.e with
      | .normal => evalCode P E r y R.tm R.ds R.H R.nx
      | _ => some R
    | none => none
  | .cond c x y, tm, ds, H, nx => match opv tm c with
    | some (.bool true) => evalCode P E r x tm ds H nx
    | some (.bool false) => evalCode P E r y tm ds H nx
    | _ => none
  | .block i c, tm, ds, H, nx => (evalCode P E r c tm ds H nx).map (Res.inBlock i)
  | .loop c, tm, ds, H, nx => match evalCode P E r c tm ds H nx with
    | some R => match R.e with
      | .normal => E.loop r c R.tm R.ds R.H R.nx
      | _ => some R
    | none => none
  | .region _ ops false, tm, ds, H, nx => match evalList P E ops ops.toList tm H nx with
    | some (tm', H', nx') => some ⟨.normal, tm', ds, H', nx'⟩
    | none => none
  | .region _ ops true, tm, ds, H, nx => match evalDraw P (evalOp P E) ops tm H nx with
    | some (tm', H', nx') => some ⟨.normal, tm', ds, H', nx'⟩
    | none => none
  | .rangeFunc g ps assign body, tm, ds, H, nx => evalRange E r g ps assign body tm ds H nx
  | .scope c, tm, ds, H, nx => match r with
    | some _ => none
    | none => match evalCode P E none c tm ds H nx with
      | some R => match R.e with
        | .goto l => match findLabel c l with
          | some rest => E.scp c rest R.tm R.ds R.H R.nx
          | none => none
        | _ => some R
      | none => none
  | _, _, _, _, _ => none

theorem evalCode_ok {E : Ev} (hE : E.Ok P) (hs : NoSpecial P) {r : Option Nat} : ∀ (c : Code) {tm : List Value} {ds : List Nat} {H : Hp} {nx : Nat} {R : Res}, evalCode P E r c tm ds H nx = some R → CodeOk P r c tm ds H nx R := by
  intro c
  induction c with
  | skip => intro tm ds H nx R h; simp only [evalCode, Option.some.injEq] at h; subst h; exact codeOk_skip
  | label l => intro tm ds H nx R h; simp only [evalCode, Option.some.injEq] at h; subst h; exact codeOk_label
  | exit l => intro tm ds H nx R h; simp only [evalCode, Option.some.injEq] at h; subst h; exact codeOk_exit
  | goto l => intro tm ds H nx R h; simp only [evalCode, Option.some.injEq] at h; subst h; exact codeOk_goto
  | ret => intro tm ds H nx R h; simp only [evalCode, Option.some.injEq] at h; subst h; exact codeOk_ret
  | seq x y ihx ihy =>
    intro tm ds H nx R h
    simp only [evalCode] at h
    split at h
    case h_2 => cases h
    rename_i R1 h1
    split at h
    · rename_i he; exact codeOk_seq (ihx h1) he (ihy h)
    · rename_i he; cases h; exact codeOk_seq_out (ihx h1) he
  | cond c x y ihx ihy =>
    intro tm ds H nx R h
    simp only [evalCode] at h
    split at h
    · rename_i hc; exact codeOk_cond hc (by simpa using ihx h)
    · rename_i hc; exact codeOk_cond hc (by simpa using ihy h)
    · cases h
  | block i c ih =>
    intro tm ds H nx R h
    simp only [evalCode, Option.map_eq_some_iff] at h
    obtain ⟨R1, h1, rfl⟩ := h
    exact codeOk_block (ih h1)
  | loop c ih =>
    intro tm ds H nx R h
    simp only [evalCode] at h
    split at h
    case h_2 => cases h
    rename_i R1 h1
    split at h
    · rename_i he; exact codeOk_loop (loopOk_more (ih h1) he (hE.loop h))
    · rename_i he; cases h; exact codeOk_loop (loopOk_out (ih h1) he)
  | region id ops draw =>
    intro tm ds H nx R h
    cases draw with
    | false =>
      simp only [evalCode] at h
      split at h
      case h_2 => cases h
      rename_i tm' H' nx' h1
      cases h
      refine codeOk_region ?_
      have := evalList_ok (r := r) hE hs (k := 0) (ops := ops) (fun j => by simp) h1
      rw [List.range_eq_range']
      simpa using this
    | true =>
      simp only [evalCode] at h
      split at h
      case h_2 => cases h
      rename_i tm' H' nx' h1
      cases h
      exact evalDraw_ok evalOp_looks (fun h => evalOp_ok hE hs h) h1
  | rangeFunc g ps assign body iha ihb =>
    intro tm ds H nx R h
    simp only [evalCode] at h
    exact evalRange_ok hE hs h
  | scope c ih =>
    intro tm ds H nx R h
    cases r with
    | some l => simp [evalCode] at h
    | none =>
      simp only [evalCode] at h
      split at h
      case h_2 => cases h
      rename_i R1 h1
      split at h
      · rename_i l he
        split at h
        · rename_i rest hf; exact codeOk_scope (scpOk_jump (ih h1) he hf (hE.scp h))
        · cases h
      · rename_i he; cases h; exact codeOk_scope (scpOk_out (ih h1) he)
  | refuse s => intro tm ds H nx R h; simp [evalCode] at h

/-! ### What a call has made and nobody can reach any more is dropped -/
def refs : Nat → Value → List Nat
  | 0, _ => []
  | _, .pointer (some a) => [a.block]
  | _, .slice (some a) _ _ => [a.block]
  | _, .map (some r) => [r]
  | n + 1, .func (.yield l) a b => l :: (a.toList.flatMap (refs n) ++ b.toList.flatMap (refs n))
  | n + 1, .func _ a b => a.toList.flatMap (refs n) ++ b.toList.flatMap (refs n)
  | n + 1, .agg cs => cs.toList.flatMap (refs n)
  | n + 1, .tuple cs => cs.toList.flatMap (refs n)
  | _, _ => []
def refsB : Blk → List Nat
  | .cells cs _ => cs.flatMap (refs 4)
  | .loop l => l.defers :: l.tmps.toList.flatMap (refs 4)
  | .mp es _ => es.flatMap fun e => refs 4 e.2.1
  | .iter m _ => [m]
  | _ => []
/-- The names from lo on that are reached, by rounds. -/
def reach (lo : Nat) (H : Hp) : Nat → List Nat → List Nat → List Nat
  | 0, done, todo => done ++ todo
  | _ + 1, done, [] => done
  | n + 1, done, b :: todo => if done.contains b then reach lo H n done todo else match H.get b with
    | some k => reach lo H n (b :: done) (((refsB k).filter fun x => decide (lo ≤ x)) ++ todo)
    | none => reach lo H n (b :: done) todo
def oldRefs (lo : Nat) : Hp → List Nat
  | [] => []
  | (b, k) :: r => if b < lo then ((refsB k).filter fun x => decide (lo ≤ x)) ++ oldRefs lo r else oldRefs lo r
def hasNew (lo : Nat) : Hp → Bool
  | [] => false
  | (b, _) :: r => decide (lo ≤ b) || hasNew lo r
def gc (lo : Nat) (v : Value) (H : Hp) : Hp :=
  if hasNew lo H then
    match ((refs 4 v).filter fun x => decide (lo ≤ x)) ++ oldRefs lo H with
    | [] => Hp.only (fun b => decide (b < lo)) H
    | rs => match reach lo H 1000 [] rs with
      | ks => Hp.only (fun b => decide (b < lo) || ks.contains b) H
  else H
theorem callOk_sub {f : FuncId} {args : List Value} {nx : Nat} {v : Value} {H' H2 : Hp} {nx' : Nat} (h : CallOk P f args H nx v H' nx') (hs : ∀ b k, H2.get b = some k → H'.get b = some k) : CallOk P f args H nx v H2 nx' := by
  refine ⟨h.1, fun φ w K us g hf hl => Calls.mono (h.2 φ w K us g hf hl) ?_⟩
  rintro e w' ⟨v', φ', rfl, x1, x2, x3, x4⟩
  exact ⟨v', φ', rfl, x1, x2, x3.sub hs, x4⟩
theorem gc_sub (lo : Nat) (v : Value) (H : Hp) (b : Nat) (k : Blk) (h : (gc lo v H).get b = some k) : H.get b = some k := by
  unfold gc at h
  split at h
  · split at h
    · rw [Hp.get_only] at h
      split at h
      · exact h
      · cases h
    · dsimp only at h
      rw [Hp.get_only] at h
      split at h
      · exact h
      · cases h
  · exact h

/-- A function's call. -/
def evalCall (P : Program) (cfg : FuncId → Nat) (E : Ev) (f : FuncId) (args : List Value) (H : Hp) (nx : Nat) : Option (Value × Hp × Nat) :=
  match P.funcs[f]? with
  | some fn => match fn.body with
    | some c => match evalCode P E none c (args ++ List.replicate (fn.ntmps - args.length) undef) [] H nx with
      | some R => match (match R.e with | .normal => true | .ret => true | _ => false) with
        | true => match killDs R.ds R.H with
          | some H1 => match resA P H1 R.tm fn.results.toList with
            | some vs => match frzEnd (cfg f) nx (retV vs) H1 with
              | (v2, H2) => some (v2, gc nx v2 H2, R.nx)
            | none => none
          | none => none
        | false => none
      | none => none
    | none => none
  | none => none
theorem evalCall_ok {cfg : FuncId → Nat} {E : Ev} (hE : E.Ok P) (hs : NoSpecial P) {f : FuncId} {args : List Value} {nx : Nat} {v : Value} {H' : Hp} {nx' : Nat} (h : evalCall P cfg E f args H nx = some (v, H', nx')) :
    (∃ fn, P.funcs[f]? = some fn ∧ fn.body.isSome = true) ∧ CallOk P f args H nx v H' nx' := by
  unfold evalCall at h
  split at h
  case h_2 => cases h
  rename_i fn hfn
  split at h
  case h_2 => cases h
  rename_i c hc
  split at h
  case h_2 => cases h
  rename_i R hR
  split at h
  case h_2 => cases h
  rename_i he
  split at h
  case h_2 => cases h
  rename_i H1 hk
  split at h
  case h_2 => cases h
  rename_i vs hv
  cases he2 : frzEnd (cfg f) nx (retV vs) H1 with
  | mk v2 H2 =>
  rw [he2] at h
  cases h
  refine ⟨⟨fn, hfn, by rw [hc]; rfl⟩, callOk_sub (callOk_end (callOk_of hfn hc (evalCode_ok hE hs c hR) ?_ hk hv (fun _ _ h => h)) _ he2) (gc_sub nx _ _)⟩
  cases hE2 : R.e <;> simp [hE2] at he ⊢

def evStep (P : Program) (cfg : FuncId → Nat) (E : Ev) : Ev where
  call := evalCall P cfg E
  code := evalCode P E
  loop := fun r c tm ds H nx => match evalCode P E r c tm ds H nx with
    | some R => match R.e with
      | .normal => E.loop r c R.tm R.ds R.H R.nx
      | _ => some R
    | none => none
  scp := fun c x tm ds H nx => match evalCode P E none x tm ds H nx with
    | some R => match R.e with
      | .goto l => match findLabel c l with
        | some rest => E.scp c rest R.tm R.ds R.H R.nx
        | none => none
      | _ => some R
    | none => none

theorem evStep_ok {cfg : FuncId → Nat} {E : Ev} (hE : E.Ok P) (hs : NoSpecial P) : (evStep P cfg E).Ok P := by
  refine ⟨fun h => (evalCall_ok hE hs h).2, fun h => (evalCall_ok hE hs h).1, fun h => evalCode_ok hE hs _ h, fun {r c tm ds H nx R} h => ?_, fun {c x tm ds H nx R} h => ?_⟩
  · simp only [evStep] at h
    split at h
    case h_2 => cases h
    rename_i R1 h1
    split at h
    · rename_i he; exact loopOk_more (evalCode_ok hE hs c h1) he (hE.loop h)
    · rename_i he; cases h; exact loopOk_out (evalCode_ok hE hs c h1) he
  · simp only [evStep] at h
    split at h
    case h_2 => cases h
    rename_i R1 h1
    split at h
    · rename_i l he
      split at h
      · rename_i rest hf; exact scpOk_jump (evalCode_ok hE hs x h1) he hf (hE.scp h)
      · cases h
    · rename_i he; cases h; exact scpOk_out (evalCode_ok hE hs x h1) he

def ev (P : Program) (cfg : FuncId → Nat) : Nat → Ev
  | 0 => ⟨fun _ _ _ _ => none, fun _ _ _ _ _ _ => none, fun _ _ _ _ _ _ => none, fun _ _ _ _ _ _ => none⟩
  | n + 1 => evStep P cfg (ev P cfg n)
theorem ev_ok {cfg : FuncId → Nat} (hs : NoSpecial P) : ∀ n, (ev P cfg n).Ok P
  | 0 => ⟨(fun h => by cases h), (fun h => by cases h), (fun h => by cases h), (fun h => by cases h), (fun h => by cases h)⟩
  | n + 1 => evStep_ok (ev_ok hs n) hs
end Go.Fz
/- The engine, part M: from the evaluator's answer to a law's row. -/
noncomputable section
namespace Go.Fz
set_option linter.unusedVariables false
variable {P : Program} {φ : Ren} {H : Hp} {K : Nat → Prop} {w : World}
open Go.RowKit Go.ChangeShapes Go.WideShapes

def noSpecialB (P : Program) : Bool := P.funcs.toList.all fun fn => !(fn.name == "runtime.NumGoroutine")
theorem noSpecial_of (h : noSpecialB P = true) : NoSpecial P := by
  intro f fn hf
  have := List.all_eq_true.1 h fn (by
    rw [← Array.getElem?_toList] at hf
    exact List.mem_of_getElem? hf)
  simpa using this

def noneRen : Ren := fun _ => none
theorem good_nil (w : World) (K : Nat → Prop) (hK : ∀ c, K c → c < w.heap.size) : Good noneRen [] K w :=
  ⟨fun b k h => by simp [Hp.get_nil] at h, fun b c k k' L L' h => by simp [Hp.get_nil] at h, fun b k L h => by simp [Hp.get_nil] at h, hK, (fun b L h => by cases h), (fun b k L c M h => by simp [Hp.get_nil] at h)⟩

theorem below_of_went {w w' : World} (h : Went (fun c => c < w.heap.size) w w') : Below w.heap.size w w' :=
  ⟨h.os, h.tape, h.output, h.size, fun k hk => h.kept k hk⟩

theorem calls_closed {f : FuncId} {H' : Hp} {nx' : Nat} (hz : nx' ≤ FZ) (h : CallOk P f [] [] 0 (.bool true) H' nx') (w : World) : Calls P f #[] w fun e w' => e = .returned (.bool true) ∧ Below w.heap.size w w' := by
  have := h.2 noneRen w (fun c => c < w.heap.size) [] (good_nil w _ (fun _ h => h)) ⟨hz, fun b _ _ => rfl⟩ trivial
  refine Calls.mono this ?_
  rintro e w' ⟨v', φ', rfl, x1, x2, x3, x4⟩
  cases x1
  exact ⟨rfl, below_of_went x4⟩

/-- Every argument reads as it did, where nothing below the old size has turned. -/
theorem trodAll_below {T : Type} {enc : TypeId × Value → T} (hl : laidOutB P = true) {W W' : World} (hb : Below W.heap.size W W') : ∀ {ts : List TypeId} {vs : List Value} {ds : List (DataW T)} {ps : List MemPlace},
    (∀ t ∈ ts, P.readableRec t = true ∧ t < P.types.size) → (∀ x ∈ ps, x.block < W.heap.size) → DataW.TrodAll enc P W 0 (fun _ => true) true ts vs ds ps → DataW.TrodAll enc P W' 0 (fun b => decide (b < W.heap.size)) true ts vs ds ps
  | [], _, _, _, _, _, h => by
    obtain ⟨rfl, rfl, rfl⟩ := trodAll_nil h
    exact trodAll_mk0
  | t :: ts, _, _, _, ht, hp, h => by
    obtain ⟨v, vs1, d, ds1, a, b, rfl, rfl, rfl, h1, h2⟩ := trodAll_cons h
    have h3 := ht t (by simp)
    exact ⟨a, b, Below.trod hl h3.1 h3.2 h1 hb (fun x hx => hp x (by simp [hx])), trodAll_below hl hb (fun t' h' => ht t' (by simp [h'])) (fun x hx => hp x (by simp [hx])) h2, rfl⟩

def readsB (P : Program) (ts : List TypeId) : Bool := ts.all fun t => P.readableRec t && decide (t < P.types.size)

/-- What a law's row asks behind the call. -/
theorem law_post {T : Type} {enc : TypeId × Value → T} {f : Func} {s : ChangeSpec} (hv : s.vars = []) (hl : laidOutB P = true) (hr : readsB P f.params.toList = true) {t : TypeId} (ht : f.resultTypes = #[t]) (hu : P.underlying t = some .bool)
    {W W' : World} {args : Array Value} {ds gs : List (DataW T)} {before : List MemPlace} (hW : DataW.Whole enc P f.params.toList s.vars false W args.toList ds gs before)
    (hres : (s.fn T (ds ++ gs)).results = [.lit (.bool true)]) (hargs : (s.fn T (ds ++ gs)).args = ds) (hvars : (s.fn T (ds ++ gs)).vars = []) (hb : Below W.heap.size W W') :
    s.post enc P f false true false false W args (.bool true) W' := by
  have hlt : ∀ p ∈ before, p.block < W.heap.size := fun p hp => hW.lt p hp
  have hW0 := hW
  obtain ⟨p, q, hA, hV, rfl, hz, hn⟩ := hW
  rw [hv] at hV
  obtain ⟨rfl, rfl⟩ := trodVars_none hV
  refine ⟨ds, [], p ++ [], [], p, [], hW0, ?_, ?_, ?_, ?_, fun h => by cases h⟩
  · rw [hres, ht]
    exact trodAll_cons_mk (shut_bool hu _) trodAll_mk0
  · rw [hargs]
    refine trodAll_below hl hb (fun t h => ?_) (fun x hx => hlt x (by simp [hx])) hA
    have := List.all_eq_true.1 hr t h
    simpa using this
  · rw [hvars, hv]; rfl
  · exact World.keptBut_mono (fun p hp => hp.elim) (hb.frame (fun _ => False))
end Go.Fz
