/- The engine, part H: what calls, code, rounds mean on abstract states; the rules. -/
import Derived.Test.YtecplekkoikmmaaGreatEnG
import Derived.LoopNIn
import Derived.RangeFuncCalls
import Derived.RangeFuncRecord
import Derived.Scope
noncomputable section
namespace Go.En
set_option linter.unusedVariables false
variable {P : Program} {φ : Ren} {H : Hp} {K : Nat → Prop} {w : World}

/-- The fence that lets all by, in a round or not. -/
def fw (r : Option Nat) : Fence := { Fence.wide with round := r }

structure Res where
  e : Exit
  tm : List Value
  ds : List Nat
  H : Hp
  nx : Nat

def DRel (φ : Ren) : List Nat → List Deferred → Prop
  | [], [] => True
  | d :: ds, x :: xs => (∃ L, φ d = some L ∧ x = { target := .collected L.blk, args := #[] }) ∧ DRel φ ds xs
  | _, _ => False
theorem DRel.mono {φ φ' : Ren} (hl : φ.le φ') : ∀ {ds : List Nat} {xs : List Deferred}, DRel φ ds xs → DRel φ' ds xs
  | [], [], _ => trivial
  | _ :: _, _ :: _, h => ⟨let ⟨L, h1, h2⟩ := h.1; ⟨L, hl _ _ h1, h2⟩, DRel.mono hl h.2⟩
  | [], _ :: _, h => h.elim
  | _ :: _, [], h => h.elim
def RRel (φ : Ren) : Option Nat → Option Nat → Prop
  | none, none => True
  | some l, some c => ∃ L, φ l = some L ∧ L.blk = c
  | _, _ => False
theorem RRel.mono {φ φ' : Ren} (hl : φ.le φ') {r rc : Option Nat} (h : RRel φ r rc) : RRel φ' r rc := by
  cases r <;> cases rc <;> simp only [RRel] at h ⊢
  obtain ⟨L, h1, h2⟩ := h
  exact ⟨L, hl _ _ h1, h2⟩

/-- What a frame's code comes to, in the world. -/
def Post (φ : Ren) (K : Nat → Prop) (w : World) (lo : Nat) (R : Res) (e : Exit) (a' : Act) (w' : World) : Prop :=
  e = R.e ∧ ∃ φ', Ext φ φ' lo R.nx ∧ Good φ' R.H K w' ∧ TRel φ' R.tm a'.tmps ∧ DRel φ' R.ds a'.defers ∧ Went K w w'

def CallOk (P : Program) (f : FuncId) (args : List Value) (H : Hp) (nx : Nat) (v : Value) (H' : Hp) (nx' : Nat) : Prop :=
  nx ≤ nx' ∧ ∀ φ w K us, Good φ H K w → Fresh φ nx nx' → LRel φ args us →
    Calls P f us.toArray w fun e w' => ∃ v' φ', e = .returned v' ∧ VRel φ' v v' ∧ Ext φ φ' nx nx' ∧ Good φ' H' K w' ∧ Went K w w'

def CodeOk (P : Program) (r : Option Nat) (c : Code) (tm : List Value) (ds : List Nat) (H : Hp) (nx : Nat) (R : Res) : Prop :=
  nx ≤ R.nx ∧ ∀ φ w K a rc, Good φ H K w → Fresh φ nx R.nx → TRel φ tm a.tmps → DRel φ ds a.defers → RRel φ r rc → c.wpIn (fw rc) 0 P (Post φ K w nx R) a w

def LoopOk (P : Program) (r : Option Nat) (c : Code) (tm : List Value) (ds : List Nat) (H : Hp) (nx : Nat) (R : Res) : Prop :=
  nx ≤ R.nx ∧ ∃ m, ∀ φ w K a rc, Good φ H K w → Fresh φ nx R.nx → TRel φ tm a.tmps → DRel φ ds a.defers → RRel φ r rc → Code.roundsIn (fw rc) 0 P c (Post φ K w nx R) m a w

theorem Post.after {φ φ' : Ren} {K : Nat → Prop} {w w' : World} {lo mi : Nat} {R : Res} {e : Exit} {a : Act} {w'' : World} (he : Ext φ φ' lo mi) (hw : Went K w w') (h1 : lo ≤ mi) (h2 : mi ≤ R.nx) (h : Post φ' K w' mi R e a w'') : Post φ K w lo R e a w'' := by
  obtain ⟨rfl, φ2, k1, k2, k3, k4, k5⟩ := h
  exact ⟨rfl, φ2, he.trans k1 h1 h2, k2, k3, k4, hw.trans k5⟩

theorem codeOk_skip {r : Option Nat} {tm : List Value} {ds : List Nat} {nx : Nat} : CodeOk P r .skip tm ds H nx ⟨.normal, tm, ds, H, nx⟩ :=
  ⟨Nat.le_refl _, fun φ w K a rc g hf ht hd hr => wpIn_skip ⟨rfl, φ, Ext.refl _ _ _, g, ht, hd, Went.refl _ _⟩⟩
theorem codeOk_label {r : Option Nat} {l : Nat} {tm : List Value} {ds : List Nat} {nx : Nat} : CodeOk P r (.label l) tm ds H nx ⟨.normal, tm, ds, H, nx⟩ :=
  ⟨Nat.le_refl _, fun φ w K a rc g hf ht hd hr => wpIn_label ⟨rfl, φ, Ext.refl _ _ _, g, ht, hd, Went.refl _ _⟩⟩
theorem codeOk_exit {r : Option Nat} {i : Nat} {tm : List Value} {ds : List Nat} {nx : Nat} : CodeOk P r (.exit i) tm ds H nx ⟨.exit i, tm, ds, H, nx⟩ :=
  ⟨Nat.le_refl _, fun φ w K a rc g hf ht hd hr => wpIn_exit ⟨rfl, φ, Ext.refl _ _ _, g, ht, hd, Went.refl _ _⟩⟩
theorem codeOk_goto {r : Option Nat} {i : Nat} {tm : List Value} {ds : List Nat} {nx : Nat} : CodeOk P r (.goto i) tm ds H nx ⟨.goto i, tm, ds, H, nx⟩ :=
  ⟨Nat.le_refl _, fun φ w K a rc g hf ht hd hr => wpIn_goto ⟨rfl, φ, Ext.refl _ _ _, g, ht, hd, Went.refl _ _⟩⟩
theorem codeOk_ret {r : Option Nat} {tm : List Value} {ds : List Nat} {nx : Nat} : CodeOk P r .ret tm ds H nx ⟨.ret, tm, ds, H, nx⟩ :=
  ⟨Nat.le_refl _, fun φ w K a rc g hf ht hd hr => wpIn_ret ⟨rfl, φ, Ext.refl _ _ _, g, ht, hd, Went.refl _ _⟩⟩

theorem codeOk_seq {r : Option Nat} {x y : Code} {tm : List Value} {ds : List Nat} {nx : Nat} {R1 R : Res} (h1 : CodeOk P r x tm ds H nx R1) (he : R1.e = .normal) (h2 : CodeOk P r y R1.tm R1.ds R1.H R1.nx R) : CodeOk P r (.seq x y) tm ds H nx R := by
  refine ⟨Nat.le_trans h1.1 h2.1, fun φ w K a rc g hf ht hd hr => wpIn_seq (wpIn_mono (h1.2 φ w K a rc g (hf.left h2.1) ht hd hr) ?_)⟩
  rintro e a1 w1 ⟨rfl, φ1, k1, k2, k3, k4, k5⟩
  rw [he]
  exact wpIn_mono (h2.2 φ1 w1 K a1 rc k2 (hf.right k1 h1.1) k3 k4 (hr.mono k1.1)) fun e a2 w2 hp => hp.after k1 k5 h1.1 h2.1
theorem codeOk_seq_out {r : Option Nat} {x y : Code} {tm : List Value} {ds : List Nat} {nx : Nat} {R : Res} (h1 : CodeOk P r x tm ds H nx R) (he : R.e ≠ .normal) : CodeOk P r (.seq x y) tm ds H nx R := by
  refine ⟨h1.1, fun φ w K a rc g hf ht hd hr => wpIn_seq (wpIn_mono (h1.2 φ w K a rc g hf ht hd hr) ?_)⟩
  intro e a1 w1 hp
  obtain ⟨rfl, _⟩ := id hp
  cases hE : R.e with
  | normal => exact absurd hE he
  | _ => rw [hE] at hp; exact hp
theorem codeOk_cond {r : Option Nat} {c : Operand} {x y : Code} {tm : List Value} {ds : List Nat} {nx : Nat} {R : Res} {b : Bool} (hc : opv tm c = some (.bool b)) (h : CodeOk P r (if b then x else y) tm ds H nx R) : CodeOk P r (.cond c x y) tm ds H nx R := by
  refine ⟨h.1, fun φ w K a rc g hf ht hd hr => ?_⟩
  have hv := opv_rel ht hc
  have hb : a.eval c = .bool b := by generalize a.eval c = u at hv; cases hv; rfl
  exact wpIn_cond hb (h.2 φ w K a rc g hf ht hd hr)

def Res.inBlock (i : Nat) (R : Res) : Res := match R.e with
  | .exit j => if j = i then { R with e := .normal } else R
  | _ => R
theorem codeOk_block {r : Option Nat} {i : Nat} {c : Code} {tm : List Value} {ds : List Nat} {nx : Nat} {R : Res} (h : CodeOk P r c tm ds H nx R) : CodeOk P r (.block i c) tm ds H nx (R.inBlock i) := by
  have hnx : (R.inBlock i).nx = R.nx := by unfold Res.inBlock; split <;> (try split) <;> rfl
  refine ⟨by rw [hnx]; exact h.1, fun φ w K a rc g hf ht hd hr => wpIn_block (wpIn_mono (h.2 φ w K a rc g (by rw [hnx] at hf; exact hf) ht hd hr) ?_)⟩
  rintro e a1 w1 ⟨rfl, φ1, k1, k2, k3, k4, k5⟩
  unfold Exit.inBlock Res.inBlock
  cases hE : R.e with
  | exit j =>
    simp only
    by_cases hj : j = i
    · simp only [hj, if_true]; exact ⟨rfl, φ1, k1, k2, k3, k4, k5⟩
    · simp only [hj, if_false]; exact ⟨hE.symm, φ1, k1, k2, k3, k4, k5⟩
  | _ => exact ⟨hE.symm, φ1, k1, k2, k3, k4, k5⟩

theorem loopOk_more {r : Option Nat} {c : Code} {tm : List Value} {ds : List Nat} {nx : Nat} {R1 R : Res} (h1 : CodeOk P r c tm ds H nx R1) (he : R1.e = .normal) (h2 : LoopOk P r c R1.tm R1.ds R1.H R1.nx R) : LoopOk P r c tm ds H nx R := by
  obtain ⟨hle, m, h2⟩ := h2
  refine ⟨Nat.le_trans h1.1 hle, m + 1, fun φ w K a rc g hf ht hd hr => ?_⟩
  rw [roundsIn_succ]
  refine wpIn_mono (h1.2 φ w K a rc g (hf.left hle) ht hd hr) ?_
  rintro e a1 w1 ⟨rfl, φ1, k1, k2, k3, k4, k5⟩
  rw [he]
  have := h2 φ1 w1 K a1 rc k2 (hf.right k1 h1.1) k3 k4 (hr.mono k1.1)
  have mono : ∀ (m : Nat) (a : Act) (w2 : World), Code.roundsIn (fw rc) 0 P c (Post φ1 K w1 R1.nx R) m a w2 → Code.roundsIn (fw rc) 0 P c (Post φ K w nx R) m a w2 := by
    intro m
    induction m with
    | zero => intro a w2 h; exact h
    | succ m ih =>
      intro a w2 h
      rw [roundsIn_succ] at h ⊢
      refine wpIn_mono h ?_
      intro e a2 w3 hq
      cases e <;> first | exact ih _ _ hq | exact Post.after k1 k5 h1.1 hle hq
  exact mono m a1 w1 this
theorem loopOk_out {r : Option Nat} {c : Code} {tm : List Value} {ds : List Nat} {nx : Nat} {R : Res} (h1 : CodeOk P r c tm ds H nx R) (he : R.e ≠ .normal) : LoopOk P r c tm ds H nx R := by
  refine ⟨h1.1, 1, fun φ w K a rc g hf ht hd hr => ?_⟩
  rw [roundsIn_succ]
  refine wpIn_mono (h1.2 φ w K a rc g hf ht hd hr) ?_
  intro e a1 w1 hp
  obtain ⟨rfl, _⟩ := id hp
  cases hE : R.e with
  | normal => exact absurd hE he
  | _ => rw [hE] at hp; exact hp
theorem codeOk_loop {r : Option Nat} {c : Code} {tm : List Value} {ds : List Nat} {nx : Nat} {R : Res} (h : LoopOk P r c tm ds H nx R) : CodeOk P r (.loop c) tm ds H nx R := by
  obtain ⟨hle, m, h⟩ := h
  exact ⟨hle, fun φ w K a rc g hf ht hd hr => wpIn_loop_rounds m (h φ w K a rc g hf ht hd hr)⟩

/-- A scope, jump by jump. -/
def scopeIn (P : Program) (c : Code) (Q : Exit → Act → World → Prop) : Nat → Code → Act → World → Prop
  | 0, _, _, _ => False
  | m + 1, x, a, w => x.wp P (fun e a w => match e with
    | .goto l => match findLabel c l with
      | some rest => scopeIn P c Q m rest a w
      | none => Q (.goto l) a w
    | e => Q e a w) a w
theorem wp_scope_in {c : Code} {Q : Exit → Act → World → Prop} {a : Act} {w : World} (m : Nat) (h : scopeIn P c Q m c a w) : (Code.scope c).wp P Q a w := by
  intro b k cs
  have key : ∀ m x a w, scopeIn P c Q m x a w → ∃ e a' w', Q e a' w' ∧ Arrives P (lone (b.at a (.code x :: .inScope c :: k)) cs w) b k cs e a' w' := by
    intro m
    induction m with
    | zero => intro x a w h; exact h.elim
    | succ m ih =>
      intro x a w h
      obtain ⟨e, a1, w1, hq, harr⟩ := h b (.inScope c :: k) cs
      cases e with
      | normal => exact ⟨.normal, a1, w1, hq, Steps.trans harr (.one step_inScope)⟩
      | exit id => exact ⟨.exit id, a1, w1, hq, fun k' hk => harr k' (by simp [exitTo, hk])⟩
      | goto l =>
        simp only at hq
        cases hf : findLabel c l with
        | none =>
          rw [hf] at hq
          exact ⟨.goto l, a1, w1, hq, fun k' hk => harr k' (by simp [gotoIn, hf, hk])⟩
        | some rest =>
          rw [hf] at hq
          obtain ⟨e2, a2, w2, hq2, harr2⟩ := ih rest a1 w1 hq
          exact ⟨e2, a2, w2, hq2, .of_steps (harr _ (by simp [gotoIn, hf])) harr2⟩
      | ret => exact ⟨_, a1, w1, hq, harr⟩
      | panic ch => exact ⟨_, a1, w1, hq, harr⟩
      | outgrown => exact ⟨_, a1, w1, hq, harr⟩
  obtain ⟨e, a1, w1, hq, harr⟩ := key m c a w h
  exact ⟨e, a1, w1, hq, .of_steps (.one step_scope) harr⟩

def ScpOk (P : Program) (c x : Code) (tm : List Value) (ds : List Nat) (H : Hp) (nx : Nat) (R : Res) : Prop :=
  nx ≤ R.nx ∧ ∃ m, ∀ φ w K a, Good φ H K w → Fresh φ nx R.nx → TRel φ tm a.tmps → DRel φ ds a.defers → scopeIn P c (Post φ K w nx R) m x a w

theorem CodeOk.wp {c : Code} {tm : List Value} {ds : List Nat} {nx : Nat} {R : Res} (h : CodeOk P none c tm ds H nx R) {φ : Ren} {w : World} {K : Nat → Prop} {a : Act} (g : Good φ H K w) (hf : Fresh φ nx R.nx) (ht : TRel φ tm a.tmps) (hd : DRel φ ds a.defers) :
    c.wp P (Post φ K w nx R) a w := (wpIn_wide (n := 0)).1 (h.2 φ w K a none g hf ht hd trivial)

theorem scopeIn_mono {c : Code} {Q Q' : Exit → Act → World → Prop} (hq : ∀ e a w, Q e a w → Q' e a w) : ∀ (m : Nat) (x : Code) (a : Act) (w : World), scopeIn P c Q m x a w → scopeIn P c Q' m x a w
  | 0, _, _, _, h => h
  | m + 1, x, a, w, h => by
    refine Code.wp_mono (fun e a w he => ?_) h
    cases e with
    | goto l =>
      simp only at he ⊢
      cases hf : findLabel c l with
      | none => rw [hf] at he; exact hq _ _ _ he
      | some rest => rw [hf] at he; exact scopeIn_mono hq m rest a w he
    | _ => exact hq _ _ _ he

theorem scpOk_jump {c x rest : Code} {l : Nat} {tm : List Value} {ds : List Nat} {nx : Nat} {R1 R : Res} (h1 : CodeOk P none x tm ds H nx R1) (he : R1.e = .goto l) (hf : findLabel c l = some rest) (h2 : ScpOk P c rest R1.tm R1.ds R1.H R1.nx R) : ScpOk P c x tm ds H nx R := by
  obtain ⟨hle, m, h2⟩ := h2
  refine ⟨Nat.le_trans h1.1 hle, m + 1, fun φ w K a g hfr ht hd => ?_⟩
  refine Code.wp_mono ?_ (h1.wp g (hfr.left hle) ht hd)
  rintro e a1 w1 ⟨rfl, φ1, k1, k2, k3, k4, k5⟩
  rw [he]
  simp only [hf]
  exact scopeIn_mono (fun e a2 w2 hp => Post.after k1 k5 h1.1 hle hp) m rest a1 w1 (h2 φ1 w1 K a1 k2 (hfr.right k1 h1.1) k3 k4)
theorem scpOk_out {c x : Code} {tm : List Value} {ds : List Nat} {nx : Nat} {R : Res} (h1 : CodeOk P none x tm ds H nx R) (he : ∀ l, R.e ≠ .goto l) : ScpOk P c x tm ds H nx R := by
  refine ⟨h1.1, 1, fun φ w K a g hfr ht hd => ?_⟩
  refine Code.wp_mono ?_ (h1.wp g hfr ht hd)
  intro e a1 w1 hp
  obtain ⟨rfl, _⟩ := id hp
  cases hE : R.e with
  | goto l => exact absurd hE (he l)
  | _ => rw [hE] at hp; exact hp
theorem codeOk_scope {c : Code} {tm : List Value} {ds : List Nat} {nx : Nat} {R : Res} (h : ScpOk P c c tm ds H nx R) : CodeOk P none (.scope c) tm ds H nx R := by
  obtain ⟨hle, m, h⟩ := h
  refine ⟨hle, fun φ w K a rc g hf ht hd hr => ?_⟩
  cases rc with
  | some c => exact hr.elim
  | none => exact (wpIn_wide (n := 0)).2 (wp_scope_in m (h φ w K a g hf ht hd))

theorem CallOk.le {f : FuncId} {args : List Value} {nx : Nat} {v : Value} {H' : Hp} {nx' : Nat} (h : CallOk P f args H nx v H' nx') : nx ≤ nx' := h.1

/-- A sub-heap will do, behind. -/
theorem CodeOk.sub {r : Option Nat} {c : Code} {tm : List Value} {ds : List Nat} {nx : Nat} {R : Res} (h : CodeOk P r c tm ds H nx R) {H' : Hp} (hs : ∀ b k, H'.get b = some k → R.H.get b = some k) : CodeOk P r c tm ds H nx { R with H := H' } :=
  ⟨h.1, fun φ w K a rc g hf ht hd hr => wpIn_mono (h.2 φ w K a rc g hf ht hd hr) fun e a1 w1 ⟨k0, φ1, k1, k2, k3, k4, k5⟩ => ⟨k0, φ1, k1, k2.sub hs, k3, k4, k5⟩⟩
end Go.En
