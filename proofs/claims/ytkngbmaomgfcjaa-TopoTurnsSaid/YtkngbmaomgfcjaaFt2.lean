/- Parts of a proof, joined: TpS, TpT, TpU, TpV, TpX, OP, OQ, TqA, TqB, TqC, TqD, TqE. -/
import Derived.Test.YtkngbmaomgfcjaaFt1
/- Contracts: the reference's Find and Ports. -/
namespace Go.Proofs.Ytkngbmaomgfcjaa.topo
open Go Go.En
set_option linter.unusedVariables false

theorem portOk_of {X : Cx} {p : Nat} (h : p < 2 * X.ls.length) : portOk X.ls.length p = true := by
  have hw : IntKind.i64.wrap (2 * (X.ls.length : Int)) = 2 * X.ls.length := by
    have := wrap_nat (n := 2 * X.ls.length) (by have := X.hL; omega)
    push_cast at this
    exact this
  simp only [portOk, hw, Bool.not_eq_true', Bool.or_eq_false_iff, decide_eq_false_iff_not]
  omega
theorem wrap2 (X : Cx) : IntKind.i64.wrap (2 * (X.ls.length : Int)) = ((2 * X.ls.length : Nat) : Int) := by
  have := wrap_nat (n := 2 * X.ls.length) (by have := X.hL; omega)
  push_cast at this ⊢
  exact this
def srch (f : Nat → Bool) : Nat → Nat → Option Nat
  | 0, _ => none
  | k + 1, i => bif f i then some i else srch f k (i + 1)
def pmS (X : Cx) (a b : Int) (p : Nat) : Bool := (ansAt X 42 p == a) && (ansAt X 44 p == b)
def T17 (a b : Int) (r p : Int) : List Value := [J, .int .i64 a, .int .i64 b, pt 2, J, J, .int .i64 r, .int .i64 p] ++ List.replicate 21 J
def TR17 (r : Int) : List Value := [J, J, J, J, J, J, .int .i64 r, J] ++ List.replicate 21 J
def HB (X : Cx) : Hp := [(2, .cells X.cells true), (0, .cells X.st true), (1, .cells X.lk true)]
theorem HB_below (X : Cx) {n : Nat} (hn : 3 ≤ n) : hpBelow n (HB X) = true := by
  have a1 : tidyB n (.cells X.cells true) = true := X.smallL (by omega) 5
  have a2 : tidyB n (.cells X.st true) = true := small_avL X.avs
  have a3 : tidyB n (.cells X.lk true) = true := small_avL X.avk
  simp only [HB, hpBelow, a1, a2, a3, Bool.and_true]
  simp; omega
theorem fr_go (X : Cx) {a b : Int} {p : Nat} (hp : p < 2 * X.ls.length) {q : Bool} (hq : pmS X a b p = q) :
    CodeOk Try.prog none (lp Try.prog 17 2) (T17 a b 0 p) [] (HB X) 3 (bif q then ⟨.ret, TR17 p, [], HB X, 3⟩ else ⟨.normal, T17 a b 0 (IntKind.i64.wrap (p + 1)), [], HB X, 3⟩) := by
  have ok := portOk_of hp
  have m1 := ansR_0 X (f := 30) (g := 42) (by omega) ok 4
  have m2 := ansR_0 X (f := 31) (g := 44) (by omega) ok 4
  have hlt : decide ((p : Int) < IntKind.i64.wrap (2 * X.ls.length)) = true := decide_eq_true (by rw [wrap2]; omega)
  have key : ∀ p1 p2, (ansAt X 42 p == a) = p1 → (ansAt X 44 p == b) = p2 → (p1 && p2) = q → CodeOk Try.prog none (lp Try.prog 17 2) (T17 a b 0 p) [] (HB X) 3 (bif q then ⟨.ret, TR17 p, [], HB X, 3⟩ else ⟨.normal, T17 a b 0 (IntKind.i64.wrap (p + 1)), [], HB X, 3⟩) := by
    intro p1 p2 h1 h2 h3
    subst h3
    cases p1 <;> cases p2 <;>
      exact code_at (hs := [(13, .val (.bool (decide ((p : Int) < IntKind.i64.wrap (2 * X.ls.length)))) (.bool true)), (18, .call _), (20, .val (.bool (ansAt X 42 p == a)) (.bool _)), (24, .call _), (26, .val (.bool (ansAt X 44 p == b)) (.bool _))]) (ch := []) (evk 50) special
        ⟨congrArg Value.bool hlt, m1, congrArg Value.bool h1, m2, congrArg Value.bool h2, trivial⟩ trivial (by kernel_rfl) (HB_below X (by omega)) (HB_below X (by omega)) (by kernel_rfl)
  exact key _ _ rfl rfl hq
theorem fr_out (X : Cx) (a b : Int) : CodeOk Try.prog none (lp Try.prog 17 2) (T17 a b 0 (2 * X.ls.length : Nat)) [] (HB X) 3 ⟨.exit 0, TR17 0, [], HB X, 3⟩ := by
  have hlt : decide (((2 * X.ls.length : Nat) : Int) < IntKind.i64.wrap (2 * X.ls.length)) = false := decide_eq_false (by rw [wrap2]; omega)
  exact code_at (hs := [(13, .val (.bool (decide (((2 * X.ls.length : Nat) : Int) < IntKind.i64.wrap (2 * X.ls.length)))) (.bool false))]) (ch := []) (evk 50) special ⟨congrArg Value.bool hlt, trivial⟩ trivial (by kernel_rfl) (HB_below X (by omega)) (HB_below X (by omega)) (by kernel_rfl)
def F17 (X : Cx) : Option Nat → Res
  | some p => ⟨.ret, TR17 p, [], HB X, 3⟩
  | none => ⟨.exit 0, TR17 0, [], HB X, 3⟩
theorem fr_loop (X : Cx) {a b : Int} : ∀ (k p : Nat), p + k = 2 * X.ls.length → LoopOk Try.prog none (lp Try.prog 17 2) (T17 a b 0 p) [] (HB X) 3 (F17 X (srch (pmS X a b) k p))
  | 0, p, h => by
    have : p = 2 * X.ls.length := by omega
    subst this
    exact loopOk_out (fr_out X a b) (by show Exit.exit 0 ≠ Exit.normal; simp)
  | k + 1, p, h => by
    simp only [srch]
    cases hb : pmS X a b p with
    | true => exact loopOk_out (fr_go X (by omega) hb) (by show Exit.ret ≠ Exit.normal; simp)
    | false =>
      have h1 := fr_go X (a := a) (b := b) (by omega) hb
      simp only [cond_false] at h1
      rw [show (p : Int) + 1 = ((p + 1 : Nat) : Int) by push_cast; rfl, wrap_nat (by have := X.hL; omega)] at h1
      exact loop_step h1 (fr_loop X k (p + 1) (by omega))
termination_by k => k
def findS (X : Cx) (a b : Int) : Option Nat := srch (pmS X a b) (2 * X.ls.length) 0
theorem findR_0 (X : Cx) (a b : Int) : Memo.Ok Try.prog ⟨17, 2, [X.v, .int .i64 a, .int .i64 b], X.V, .int .i64 (optI (findS X a b)), [], 2⟩ := by
  have hlo := fr_loop X (a := a) (b := b) (2 * X.ls.length) 0 (by omega)
  unfold findS
  generalize srch (pmS X a b) (2 * X.ls.length) 0 = g at hlo ⊢
  cases g <;>
    exact memo_pure (hs := [(3, .frz)]) (ch := [⟨2, none, .loop (lp Try.prog 17 2), T17 a b 0 0, [], HB X, 3, _, true⟩]) 3 (evk 50) special ⟨trivial, trivial⟩ ⟨codeOk_loop hlo, trivial⟩ (X.hV rfl) (X.smallH 2) (by kernel_rfl)

/-! ### The reference's Ports: a loop that appends -/
def slL (b : Nat) : List Int → Value
  | [] => .slice none 0 0
  | x :: r => .slice (some ⟨b, 0, none⟩) (x :: r).length oc1
def hpL (b : Nat) (L : List Int) (H : Hp) : Hp := match L with
  | [] => H
  | x :: r => (b, .cells (ic (x :: r)) false) :: H
def T16 (a : Int) (sv : Value) (p : Int) : List Value := [J, .int .i64 a, pt 2, J, .slice none 0 0, sv, .int .i64 p] ++ List.replicate 18 J
theorem src_f {H : Hp} {b e : Nat} {K0 : List Int} {ro : Bool} (hb : H.get b = some (.cells (ic K0) ro)) : srcCells H 1 (.slice (some ⟨b, 0, none⟩) K0.length e) = some (K0.length, ic K0) := by
  have := src_i (e := e) hb (Nat.le_refl K0.length)
  rwa [List.take_length] at this
theorem oneL_ic : ∀ l : List Int, oneL (ic l) = true
  | [] => rfl
  | p :: l => by
    have := oneL_ic l
    simp only [ic, List.map_cons, oneL] at this ⊢
    rw [this]; rfl
/-- append(s, x) where the capacity of s is not known. -/
theorem app_io {a b : Nat} {L : List Int} {x : Int} (hlen : L.length ≤ 900) :
    Hint.Ok Try.prog (.app [28, 28] 28 [.slice (some ⟨a, 0, none⟩) L.length oc1, .slice (some ⟨b, 0, none⟩) 1 1] [(a, ic L), (b, ic [x])] (some a) (L ++ [x]).length oc1 (ic (L ++ [x]))) := by
  intro H nx hV hrw
  obtain ⟨inf, z, h1, h2, h3, h4, h5⟩ := i3
  obtain ⟨r1, g1⟩ := hV a (ic L) (by simp)
  obtain ⟨r2, g2⟩ := hV b (ic [x]) (by simp)
  have hr1 : r1 = false := by simp only [rwO, g1] at hrw; cases r1 <;> simp at hrw ⊢
  subst hr1
  have e1 := src_f (e := openCap + 1) g1
  have e2 : srcCells H 1 (.slice (some ⟨b, 0, none⟩) 1 1) = some (1, ic [x]) := src_f (e := 1) g2
  have hnc : openCap ≤ openCap + 1 := by omega
  have hml : L.length + 1 ≤ maxLen := by unfold maxLen; omega
  have hby : (L.length + 1) * 8 ≤ 140737488355328 := by omega
  have hlt : ¬ (openCap + 1 < L.length + 1) := by unfold openCap; omega
  have hap : ic L ++ ic [x] = ic (L ++ [x]) := by simp [ic]
  have hln : L.length + 1 = (L ++ [x]).length := by simp
  have h10 : ¬ ((1 : Nat) = 0) := by omega
  simp only [doBuiltin, if_true, doAppend, oc1, u28, h1, h2, h3, h4, e2, h5, e1, h10, hlt, hml, hby, hnc, if_false, and_self, Nat.zero_lt_one, delO, Nat.add_sub_cancel_left, imp_self, g1, oneL_ic, hap, ← hln]
def σ36 : Nat → Nat
  | 3 => 6
  | b => b
theorem ic_ren (ρ : Nat → Nat) (L : List Int) : (ic L).map (renV ρ 5) = ic L := renV_avL (ic_av L)
theorem renHB (X : Cx) {σ : Nat → Nat} (h0 : σ 0 = 0) (h1 : σ 1 = 1) (h2 : σ 2 = 2) : renHp σ (HB X) = HB X := by
  simp only [HB, renHp, renBlk, h0, h1, h2, X.renC σ h0 h1 5, renV_avL X.avs, renV_avL X.avk]
theorem pr_no (X : Cx) {a : Int} {p : Nat} {L : List Int} (hp : p < 2 * X.ls.length) (hq : (ansAt X 42 p == a) = false) :
    CodeOk Try.prog none (lp Try.prog 16 3) (T16 a (slL 3 L) p) [] (hpL 3 L (HB X)) 4 ⟨.normal, T16 a (slL 3 L) (IntKind.i64.wrap (p + 1)), [], hpL 3 L (HB X), 5⟩ := by
  have m1 := ansR_0 X (f := 30) (g := 42) (by omega) (portOk_of hp) 5
  have hlt : decide ((p : Int) < IntKind.i64.wrap (2 * X.ls.length)) = true := decide_eq_true (by rw [wrap2]; omega)
  cases L with
  | nil => exact code_k [2, 0, 1] (hs := [(12, .val (.bool (decide ((p : Int) < IntKind.i64.wrap (2 * X.ls.length)))) (.bool true)), (17, .call _), (19, .val (.bool (ansAt X 42 p == a)) (.bool _))]) (ch := []) (evk 50) special ⟨congrArg Value.bool hlt, m1, congrArg Value.bool hq, trivial⟩ trivial (by kernel_rfl)
  | cons x r => exact code_k [3, 2, 0, 1] (hs := [(12, .val (.bool (decide ((p : Int) < IntKind.i64.wrap (2 * X.ls.length)))) (.bool true)), (17, .call _), (19, .val (.bool (ansAt X 42 p == a)) (.bool _))]) (ch := []) (evk 50) special ⟨congrArg Value.bool hlt, m1, congrArg Value.bool hq, trivial⟩ trivial (by kernel_rfl)
theorem pr_yes (X : Cx) {a : Int} {p : Nat} {L : List Int} (hL : L.length ≤ 900) (hp : p < 2 * X.ls.length) (hq : (ansAt X 42 p == a) = true) :
    CodeOk Try.prog none (lp Try.prog 16 3) (T16 a (slL 3 L) p) [] (hpL 3 L (HB X)) 4 ⟨.normal, T16 a (slL 6 (L ++ [(p : Int)])) (IntKind.i64.wrap (p + 1)), [], hpL 6 (L ++ [(p : Int)]) (HB X), 7⟩ := by
  have m1 := ansR_0 X (f := 30) (g := 42) (by omega) (portOk_of hp) 5
  have hlt : decide ((p : Int) < IntKind.i64.wrap (2 * X.ls.length)) = true := decide_eq_true (by rw [wrap2]; omega)
  cases L with
  | nil => exact code_k [6, 2, 0, 1] (hs := [(12, .val (.bool (decide ((p : Int) < IntKind.i64.wrap (2 * X.ls.length)))) (.bool true)), (17, .call _), (19, .val (.bool (ansAt X 42 p == a)) (.bool _))]) (ch := []) (evk 50) special ⟨congrArg Value.bool hlt, m1, congrArg Value.bool hq, trivial⟩ trivial (by kernel_rfl)
  | cons x r =>
    have ap := app_io (a := 3) (b := 5) (L := x :: r) (x := p) hL
    exact code_k [6, 2, 0, 1] (hs := [(12, .val (.bool (decide ((p : Int) < IntKind.i64.wrap (2 * X.ls.length)))) (.bool true)), (17, .call _), (19, .val (.bool (ansAt X 42 p == a)) (.bool _)), (23, .app _ _ _ _ _ _ _ _)]) (ch := []) (evk 50) special ⟨congrArg Value.bool hlt, m1, congrArg Value.bool hq, ap, trivial⟩ trivial (by kernel_rfl)
theorem pr_out (X : Cx) {a : Int} {L : List Int} :
    CodeOk Try.prog none (lp Try.prog 16 3) (T16 a (slL 3 L) (2 * X.ls.length : Nat)) [] (hpL 3 L (HB X)) 4 ⟨.exit 0, T16 a (slL 3 L) (2 * X.ls.length : Nat), [], hpL 3 L (HB X), 5⟩ := by
  have hlt : decide (((2 * X.ls.length : Nat) : Int) < IntKind.i64.wrap (2 * X.ls.length)) = false := decide_eq_false (by rw [wrap2]; omega)
  cases L with
  | nil => exact code_k [2, 0, 1] (hs := [(12, .val (.bool (decide (((2 * X.ls.length : Nat) : Int) < IntKind.i64.wrap (2 * X.ls.length)))) (.bool false))]) (ch := []) (evk 50) special ⟨congrArg Value.bool hlt, trivial⟩ trivial (by kernel_rfl)
  | cons x r => exact code_k [3, 2, 0, 1] (hs := [(12, .val (.bool (decide (((2 * X.ls.length : Nat) : Int) < IntKind.i64.wrap (2 * X.ls.length)))) (.bool false))]) (ch := []) (evk 50) special ⟨congrArg Value.bool hlt, trivial⟩ trivial (by kernel_rfl)
def colS (X : Cx) (a : Int) : Nat → Nat → List Int → List Int
  | 0, _, L => L
  | k + 1, p, L => colS X a k (p + 1) (bif ansAt X 42 p == a then L ++ [(p : Int)] else L)
theorem hpL_ren (X : Cx) {σ : Nat → Nat} (h0 : σ 0 = 0) (h1 : σ 1 = 1) (h2 : σ 2 = 2) {b c : Nat} (hb : σ b = c) (L : List Int) : renHp σ (hpL b L (HB X)) = hpL c L (HB X) := by
  cases L with
  | nil => exact renHB X h0 h1 h2
  | cons x r => simp only [hpL, renHp, renBlk, hb, ic_ren, renHB X h0 h1 h2]
theorem hpL_below (X : Cx) (L : List Int) {b n : Nat} (hb : b < n) (hn : 3 ≤ n) : hpBelow n (hpL b L (HB X)) = true := by
  cases L with
  | nil => exact HB_below X hn
  | cons x r =>
    have a1 : tidyB n (.cells (ic (x :: r)) false) = true := small_avL (ic_av _)
    simp only [hpL, hpBelow, a1, HB_below X hn, hb, decide_true, Bool.and_self]
theorem pr_loop (X : Cx) {a : Int} (h24 : X.ls.length ≤ 24) : ∀ (k p : Nat) (L : List Int), p + k = 2 * X.ls.length → L.length ≤ p →
    LoopL Try.prog 3 none (lp Try.prog 16 3) (T16 a (slL 3 L) p) [] (hpL 3 L (HB X)) 4 ⟨.exit 0, T16 a (slL 3 (colS X a k p L)) (2 * X.ls.length : Nat), [], hpL 3 (colS X a k p L) (HB X), 7⟩
  | 0, p, L, h, hL => by
    have : p = 2 * X.ls.length := by omega
    subst this
    exact loopL_out (pr_out X) (by show Exit.exit 0 ≠ Exit.normal; simp) (by omega) (M := 7) (by show 5 ≤ 7; omega)
  | k + 1, p, L, h, hL => by
    have hw : IntKind.i64.wrap ((p : Int) + 1) = ((p + 1 : Nat) : Int) := by
      rw [show (p : Int) + 1 = ((p + 1 : Nat) : Int) by push_cast; rfl, wrap_nat (by omega)]
    simp only [colS]
    cases hb : (ansAt X 42 p == a) with
    | false =>
      have ih := pr_loop X (a := a) h24 k (p + 1) L (by omega) (by omega)
      have h1 := pr_no X (L := L) (by omega) hb
      rw [hw] at h1
      refine loopL_step (fun b => b) (n1 := 5) ?_ ih (by show 5 ≤ 7; omega) (fun _ _ => rfl) (by rw [hpL_ren X rfl rfl rfl (c := 3) rfl]; cases L <;> kernel_rfl) (hpL_below X L (by omega) (by omega))
      rw [hpL_ren X rfl rfl rfl (c := 3) rfl]
      have e : (T16 a (slL 3 L) ((p + 1 : Nat) : Int)).map (renV (fun b => b) 5) = T16 a (slL 3 L) ((p + 1 : Nat) : Int) := by cases L <;> rfl
      rw [e]
      exact h1
    | true =>
      have ih := pr_loop X (a := a) h24 k (p + 1) (L ++ [(p : Int)]) (by omega) (by simp; omega)
      have h1 := pr_yes X (L := L) (by omega) (by omega) hb
      rw [hw] at h1
      have hne : ∃ y r, L ++ [(p : Int)] = y :: r := by cases L <;> simp
      obtain ⟨y, r, hyr⟩ := hne
      simp only [cond_true]
      rw [hyr] at ih h1 ⊢
      refine loopL_step σ36 (n1 := 7) ?_ ih (by show 7 ≤ 7; omega) (fun b hb => by
        match b, hb with
        | 0, _ => rfl
        | 1, _ => rfl
        | 2, _ => rfl) (by rw [hpL_ren X rfl rfl rfl (c := 6) rfl]; kernel_rfl) (hpL_below X _ (by omega) (by omega))
      rw [hpL_ren X rfl rfl rfl (c := 6) rfl]
      exact h1
termination_by k => k
def portsS (X : Cx) (a : Int) : List Int := colS X a (2 * X.ls.length) 0 []
def newL (b : Nat) : List Int → List (Nat × List Value)
  | [] => []
  | x :: r => [(b, ic (x :: r))]
theorem portsR_0 (X : Cx) (a : Int) (h24 : X.ls.length ≤ 24) : Memo.Ok Try.prog ⟨16, 2, [X.v, .int .i64 a], X.V, slL 3 (portsS X a), newL 3 (portsS X a), 7⟩ := by
  have hlo := loopOk_of_L (pr_loop X (a := a) h24 (2 * X.ls.length) 0 [] (by omega) (by simp))
  unfold portsS
  generalize colS X a (2 * X.ls.length) 0 [] = g at hlo ⊢
  cases g <;>
    exact memo_new (hs := [(2, .frz)]) (ch := [⟨3, none, .loop (lp Try.prog 16 3), T16 a (.slice none 0 0) 0, [], HB X, 3, _, true⟩]) (evk 50) special ⟨trivial, trivial⟩ ⟨codeOk_loop hlo, trivial⟩ (by kernel_rfl)
end Go.Proofs.Ytkngbmaomgfcjaa.topo
/- Contract: Find. -/
namespace Go.Proofs.Ytkngbmaomgfcjaa.topo
open Go Go.En
set_option linter.unusedVariables false

theorem ends_7 (X : Cx) : Memo.Ok Try.prog ⟨41, 7, [X.v], [], .func (.func 60) #[] #[pt 7], [(7, X.cells)], 8⟩ :=
  memo_new (hs := []) (ch := []) (evk 50) special trivial trivial (by kernel_rfl)
def T13 (X : Cx) (a b : Int) : List Value := [X.v, .int .i64 a, .int .i64 b, pt 2, pt 3, pt 4, .int .i64 0, .int .i64 0, .int .i64 0, pt 5, pt 6, undef, X.v, .int .i64 0, .int .i64 0, .bool false, undef, X.v, .int .i64 a, .bool true, .bool false, .bool false, X.v, .int .i64 b, .bool true, .bool false, .bool false, X.v, .func (.func 60) #[] #[pt 7]] ++ List.replicate 15 undef
theorem T13_small (X : Cx) (a b : Int) {n : Nat} (hn : 8 ≤ n) : En.smallL (En.small n 5) (T13 X a b) = true := by
  have h : ∀ k, k ≤ 7 → En.small n 5 (pt k) = true := fun k hk => by simp [pt, En.small]; omega
  have h7 : En.small n 5 (.func (.func 60) #[] #[pt 7]) = true := by simp [En.small, En.smallL, pt]; omega
  simp only [T13, List.cons_append, List.nil_append, En.smallL, X.small (by omega : 2 ≤ n), h 2 (by omega), h 3 (by omega), h 4 (by omega), h 5 (by omega), h 6 (by omega), h7, Bool.true_and]
  rfl
def L13 (P : Program) (X : Cx) (a b : Int) (s : LoopState) (p : Option Code) : Loop := { newLoop (T13 X a b) (rfP (rf P 13 9)) (rfA (rf P 13 9)) (rfB (rf P 13 9)) 8 with state := s, pending := p }
def H13 (X : Cx) (a b : Int) (g : Option Nat) : Hp := [(7, .cells X.cells false), (6, .cells [.int .i64 (bif g.isSome then 0 else 4)] false), (5, .cells [.int .i64 (bif g.isSome then optI g else 0)] false), (4, .cells [.int .i64 b] true), (3, .cells [.int .i64 a] true), (2, .cells X.cells true), (0, .cells X.st true), (1, .cells X.lk true)]
def G13 (P : Program) (X : Cx) (a b : Int) (g : Option Nat) : Hp := (9, .loop (L13 P X a b (bif g.isSome then .done else .ready) (bif g.isSome then some (.exit 0) else none))) :: (8, .defd) :: H13 X a b g
theorem G13_below (X : Cx) (a b : Int) (g : Option Nat) : hpBelow 11 (G13 Try.prog X a b g) = true := by
  have a0 : tidyB 11 (.cells X.cells false) = true := X.smallL (by omega) 5
  have a1 : tidyB 11 (.cells X.cells true) = true := X.smallL (by omega) 5
  have a2 : tidyB 11 (.cells X.st true) = true := small_avL X.avs
  have a3 : tidyB 11 (.cells X.lk true) = true := small_avL X.avk
  have a4 : tidyB 11 (.loop (L13 Try.prog X a b (bif g.isSome then .done else .ready) (bif g.isSome then some (.exit 0) else none))) = true := by
    show (En.smallL (En.small 11 5) (T13 X a b).toArray.toList && decide (8 < 11)) = true
    have := T13_small X a b (n := 11) (by omega)
    simpa using this
  simp only [G13, H13, hpBelow, a0, a1, a2, a3, a4, Bool.and_true]
  rfl
def Y9 : Value := .func (.yield 9) #[] #[]
def evc (l : Lk) (p : Int) : List Value := l.cells ++ [.int .i64 p]
def pmL (a b : Int) (l : Lk) (p : Int) : Bool := (fromS l p == a) && (toS l p == b)
theorem y1_13 (X : Cx) {a b : Int} {l : Lk} {p : Nat} {q : Bool} (hq : pmL a b l p = q) :
    Hint.Ok Try.prog (.any (opAt Try.prog 60 3 5) [Y9, ev5 l p] ((11, .cells l.cells false) :: G13 Try.prog X a b none) 12 (.bool !q) ((12, .cells (evc l p) false) :: (11, .cells l.cells false) :: G13 Try.prog X a b (bif q then some p else none)) 13) := by
  have m1 := memo_any (ans_0 (g := 42) (by omega) l p) 13 (by kernel_rfl) rfl rfl
  have m2 := memo_any (ans_0 (g := 44) (by omega) l p) 13 (by kernel_rfl) rfl rfl
  have key : ∀ p1 p2, (fromS l p == a) = p1 → (toS l p == b) = p2 → (p1 && p2) = q → Hint.Ok Try.prog (.any (opAt Try.prog 60 3 5) [Y9, ev5 l p] ((11, .cells l.cells false) :: G13 Try.prog X a b none) 12 (.bool !q) ((12, .cells (evc l p) false) :: (11, .cells l.cells false) :: G13 Try.prog X a b (bif q then some p else none)) 13) := by
    intro p1 p2 h1 h2 h3
    subst h3
    obtain ⟨x, y, u, v⟩ := l
    cases p1 <;> cases p2 <;>
      exact yield_by (hs := [(31, .call _), (33, .val (.bool (fromS ⟨x, y, u, v⟩ p == a)) (.bool _)), (36, .call _), (38, .val (.bool (toS ⟨x, y, u, v⟩ p == b)) (.bool _))]) (ch := []) (cf := .tmp 13) (args := #[.tmp 17]) (ats := #[67]) (l := 9) (evk 50) special ⟨m1, congrArg Value.bool h1, m2, congrArg Value.bool h2, trivial⟩ trivial (by kernel_rfl) (by kernel_rfl)
  exact key _ _ rfl rfl hq
theorem y2_13 (X : Cx) {a b : Int} {l : Lk} {p p0 : Nat} {q : Bool} (hq : pmL a b l p = q) :
    Hint.Ok Try.prog (.any (opAt Try.prog 60 3 14) [Y9, ev5 l p] ((12, .cells (evc l p0) false) :: (11, .cells l.cells false) :: G13 Try.prog X a b none) 13 (.bool !q) ((13, .cells (evc l p) false) :: (12, .cells (evc l p0) false) :: (11, .cells l.cells false) :: G13 Try.prog X a b (bif q then some p else none)) 14) := by
  have m1 := memo_any (ans_0 (g := 42) (by omega) l p) 14 (by kernel_rfl) rfl rfl
  have m2 := memo_any (ans_0 (g := 44) (by omega) l p) 14 (by kernel_rfl) rfl rfl
  have key : ∀ p1 p2, (fromS l p == a) = p1 → (toS l p == b) = p2 → (p1 && p2) = q → Hint.Ok Try.prog (.any (opAt Try.prog 60 3 14) [Y9, ev5 l p] ((12, .cells (evc l p0) false) :: (11, .cells l.cells false) :: G13 Try.prog X a b none) 13 (.bool !q) ((13, .cells (evc l p) false) :: (12, .cells (evc l p0) false) :: (11, .cells l.cells false) :: G13 Try.prog X a b (bif q then some p else none)) 14) := by
    intro p1 p2 h1 h2 h3
    subst h3
    obtain ⟨x, y, u, v⟩ := l
    cases p1 <;> cases p2 <;>
      exact yield_by (hs := [(31, .call _), (33, .val (.bool (fromS ⟨x, y, u, v⟩ p == a)) (.bool _)), (36, .call _), (38, .val (.bool (toS ⟨x, y, u, v⟩ p == b)) (.bool _))]) (ch := []) (cf := .tmp 21) (args := #[.tmp 26]) (ats := #[67]) (l := 9) (evk 50) special ⟨m1, congrArg Value.bool h1, m2, congrArg Value.bool h2, trivial⟩ trivial (by kernel_rfl) (by kernel_rfl)
  exact key _ _ rfl rfl hq
def T60 (X : Cx) (i : Int) : List Value := [Y9, pt 7, J, J, J, J, .slice X.sb X.ls.length X.d, .int .i64 X.ls.length, .int .i64 i] ++ List.replicate 22 J
def TJ60 : List Value := [Y9, pt 7] ++ List.replicate 29 J
theorem pre60 (X : Cx) (a b : Int) (g : Option Nat) (i : Int) : (nodupN (G13 Try.prog X a b g) && tmBelow 11 (T60 X i) && dsBelow 11 [] && rBelow 11 none) = true := by
  rcases X.hsb with ⟨h, _⟩ | h
  · simp only [T60, h]
    show _ = true
    kernel_rfl
  · simp only [T60, h]
    show _ = true
    kernel_rfl
def Q60 (X : Cx) (a b : Int) (j : Int) (P : Program) : Option Nat → Res
  | none => ⟨.normal, T60 X j, [], G13 P X a b none, 11⟩
  | some p => ⟨.ret, TJ60, [], G13 P X a b (some p), 11⟩
def two (a b : Int) (l : Lk) (i : Nat) : Option Nat := bif pmL a b l (2 * i : Nat) then some (2 * i) else bif pmL a b l (2 * i + 1 : Nat) then some (2 * i + 1) else none
theorem e_go60 (X : Cx) {a b : Int} {i : Nat} {l : Lk} (hi : X.ls[i]? = some l) :
    CodeOk Try.prog none (lp Try.prog 60 1) (T60 X i) [] (G13 Try.prog X a b none) 11 (Q60 X a b (IntKind.i64.wrap (i + 1)) Try.prog (two a b l i)) := by
  have l0 := X.ldL hi
  have hlt := lt_of hi
  have hL := X.hL
  have w1 : IntKind.i64.wrap (2 * (i : Int)) = ((2 * i : Nat) : Int) := by
    have := wrap_nat (n := 2 * i) (by omega)
    push_cast at this ⊢
    exact this
  have w2 : IntKind.i64.wrap (((2 * i : Nat) : Int) + 1) = ((2 * i + 1 : Nat) : Int) := by
    have := wrap_nat (n := 2 * i + 1) (by omega)
    push_cast at this ⊢
    exact this
  unfold two
  have key : ∀ q1 q2, pmL a b l (2 * i : Nat) = q1 → pmL a b l (2 * i + 1 : Nat) = q2 → CodeOk Try.prog none (lp Try.prog 60 1) (T60 X i) [] (G13 Try.prog X a b none) 11 (Q60 X a b (IntKind.i64.wrap (i + 1)) Try.prog (bif q1 then some (2 * i) else bif q2 then some (2 * i + 1) else none)) := by
    intro q1 q2 h1 h2
    have y1 := y1_13 X (a := a) (b := b) (l := l) (p := 2 * i) h1
    have y2 := y2_13 X (a := a) (b := b) (l := l) (p := 2 * i + 1) (p0 := 2 * i) h2
    have pre := pre60 X a b none i
    have hsb := X.hsb
    rcases hsb with ⟨hsb, h0⟩ | hsb
    · omega
    cases q1
    · cases q2 <;>
        (refine code_at (hs := [(9, .val (.bool (decide ((i : Int) < X.ls.length))) (.bool true)), (11, .ix 23 (.slice X.sb X.ls.length X.d) (.int .i64 i) _), (12, .ld 50 _ 1 X.lk true _), (16, .val (.int .i64 (IntKind.i64.wrap (2 * i))) (.int .i64 (2 * i : Nat))), (18, .any _ _ _ _ _ _ _), (24, .val (.int .i64 (IntKind.i64.wrap (2 * i))) (.int .i64 (2 * i : Nat))), (25, .val (.int .i64 (IntKind.i64.wrap ((2 * i : Nat) + 1))) (.int .i64 (2 * i + 1 : Nat))), (27, .any _ _ _ _ _ _ _)]) (ch := []) (evk 50) special
          ⟨congrArg Value.bool (decide_eq_true (by omega)), X.ixL hlt, ⟨l0, _, rfl⟩, congrArg (Value.int .i64) w1, y1, congrArg (Value.int .i64) w1, congrArg (Value.int .i64) w2, y2, trivial⟩ trivial pre (G13_below X a b _) (G13_below X a b _) ?_
         simp only [Q60, T60, hsb, cond_true, cond_false]; kernel_rfl)
    · refine code_at (hs := [(9, .val (.bool (decide ((i : Int) < X.ls.length))) (.bool true)), (11, .ix 23 (.slice X.sb X.ls.length X.d) (.int .i64 i) _), (12, .ld 50 _ 1 X.lk true _), (16, .val (.int .i64 (IntKind.i64.wrap (2 * i))) (.int .i64 (2 * i : Nat))), (18, .any _ _ _ _ _ _ _)]) (ch := []) (evk 50) special
          ⟨congrArg Value.bool (decide_eq_true (by omega)), X.ixL hlt, ⟨l0, _, rfl⟩, congrArg (Value.int .i64) w1, y1, trivial⟩ trivial pre (G13_below X a b _) (G13_below X a b _) ?_
      simp only [Q60, T60, hsb, cond_true]; kernel_rfl
  exact key _ _ rfl rfl
theorem e_out60 (X : Cx) (a b : Int) : CodeOk Try.prog none (lp Try.prog 60 1) (T60 X X.ls.length) [] (G13 Try.prog X a b none) 11 ⟨.exit 0, TJ60, [], G13 Try.prog X a b none, 11⟩ := by
  have pre := pre60 X a b none X.ls.length
  have hsb := X.hsb
  rcases hsb with ⟨hsb, _⟩ | hsb <;>
    (refine code_at (hs := [(9, .val (.bool (decide ((X.ls.length : Int) < X.ls.length))) (.bool false))]) (ch := []) (evk 50) special ⟨congrArg Value.bool (decide_eq_false (by omega)), trivial⟩ trivial pre (G13_below X a b _) (G13_below X a b _) ?_
     simp only [T60, hsb]; kernel_rfl)
def goT (a b : Int) : List Lk → Nat → Option Nat
  | [], _ => none
  | l :: r, i => match two a b l i with
    | some p => some p
    | none => goT a b r (i + 1)
def F60 (P : Program) (X : Cx) (a b : Int) : Option Nat → Res
  | some p => ⟨.ret, TJ60, [], G13 P X a b (some p), 11⟩
  | none => ⟨.exit 0, TJ60, [], G13 P X a b none, 11⟩
theorem e_loop60 (X : Cx) {a b : Int} : ∀ (k i : Nat), i + k = X.ls.length → LoopOk Try.prog none (lp Try.prog 60 1) (T60 X i) [] (G13 Try.prog X a b none) 11 (F60 Try.prog X a b (goT a b (X.ls.drop i) i))
  | 0, i, h => by
    have : i = X.ls.length := by omega
    subst this
    rw [List.drop_length]
    exact loopOk_out (e_out60 X a b) (by show Exit.exit 0 ≠ Exit.normal; simp)
  | k + 1, i, h => by
    have hlt : i < X.ls.length := by omega
    have hi : X.ls[i]? = some X.ls[i] := List.getElem?_eq_getElem hlt
    have h1 := e_go60 X (a := a) (b := b) hi
    rw [List.drop_eq_getElem_cons hlt]
    simp only [goT]
    cases ht : two a b X.ls[i] i with
    | some p => rw [ht] at h1; exact loopOk_out h1 (by show Exit.ret ≠ Exit.normal; simp)
    | none =>
      rw [ht] at h1
      rw [show (i : Int) + 1 = ((i + 1 : Nat) : Int) by push_cast; rfl, wrap_nat (by have := X.hL; omega)] at h1
      exact loop_step h1 (e_loop60 X k (i + 1) (by omega))
termination_by k => k
theorem call_60 (X : Cx) {a b : Int} {g : Option Nat} (hg : goT a b X.ls 0 = g) :
    (∃ fn, Try.prog.funcs[60]? = some fn ∧ fn.body.isSome = true) ∧ CallOk Try.prog 60 ([] ++ [Y9] ++ [pt 7]) (G13 Try.prog X a b none) 10 (.tuple #[]) (G13 Try.prog X a b g) 11 := by
  have hlo := e_loop60 X (a := a) (b := b) X.ls.length 0 (by omega)
  rw [List.drop_zero, hg] at hlo
  cases g <;>
    exact call_by (hs := []) (ch := [⟨1, none, .loop (lp Try.prog 60 1), T60 X 0, [], G13 Try.prog X a b none, 11, _, true⟩]) (evk 50) special trivial ⟨codeOk_loop hlo, trivial⟩ (by kernel_rfl)
def R13 (X : Cx) (a b : Int) (g : Option Nat) : Res := ⟨bif g.isSome then .exit 0 else .normal, T13 X a b, [8], (8, .defd) :: H13 X a b g, 11⟩
theorem range_13 (X : Cx) {a b : Int} {g : Option Nat} (hg : goT a b X.ls 0 = g) : CodeOk Try.prog none (rf Try.prog 13 9) (T13 X a b) [] (H13 X a b none) 8 (R13 X a b g) := by
  have h := call_60 X hg
  have hL : (G13 Try.prog X a b g).get 9 = some (.loop (L13 Try.prog X a b (bif g.isSome then .done else .ready) (bif g.isSome then some (.exit 0) else none))) := rfl
  cases g <;> exact range_by special (by kernel_rfl) (by kernel_rfl) h hL (by kernel_rfl)
/-- The search of the program is the reference's. -/
theorem ls_getD {X : Cx} {i : Nat} (h : i < X.ls.length) : X.ls.getD i ⟨0, 0, 0, 0⟩ = X.ls[i] := by
  simp [List.getD_eq_getElem?_getD, h]
theorem pm_eq (X : Cx) {a b : Int} {i p : Nat} (hp : p / 2 = i) (hi : i < X.ls.length) : pmS X a b p = pmL a b X.ls[i] p := by
  unfold pmS pmL ansAt
  have : ((p : Int)).toNat / 2 = i := by simpa using hp
  rw [this, ls_getD hi]
  rfl
theorem go_srch (X : Cx) (a b : Int) : ∀ (k i : Nat), i + k = X.ls.length → goT a b (X.ls.drop i) i = srch (pmS X a b) (2 * k) (2 * i)
  | 0, i, h => by
    rw [List.drop_eq_nil_of_le (by omega)]
    rfl
  | k + 1, i, h => by
    have hlt : i < X.ls.length := by omega
    have ih := go_srch X a b k (i + 1) (by omega)
    rw [List.drop_eq_getElem_cons hlt]
    simp only [goT, two]
    rw [show 2 * (k + 1) = 2 * k + 1 + 1 by omega]
    simp only [srch]
    rw [pm_eq X (p := 2 * i) (by omega) hlt, pm_eq X (p := 2 * i + 1) (by omega) hlt, ih]
    cases pmL a b X.ls[i] ((2 * i : Nat) : Int) with
    | true => rfl
    | false =>
      cases pmL a b X.ls[i] ((2 * i + 1 : Nat) : Int) with
      | true => rfl
      | false => rfl
theorem goT_eq (X : Cx) (a b : Int) : goT a b X.ls 0 = findS X a b := by
  have := go_srch X a b X.ls.length 0 (by omega)
  rwa [List.drop_zero] at this
def findV (c n1 n2 : Bool) (g : Option Nat) : Value := bif c then (bif n1 && n2 then .tuple #[.int .i64 (bif g.isSome then optI g else 0), .int .i64 (bif g.isSome then 0 else 4)] else .tuple #[.int .i64 0, .int .i64 2]) else .tuple #[.int .i64 0, .int .i64 260]
theorem find_0 (X : Cx) (hd : X.ls.length ≤ X.d) (hd2 : capD X.d) (a b : Int) {c n1 n2 : Bool} {g : Option Nat} (hc : checkS X = c) (h1 : nodeS X.N a = n1) (h2 : nodeS X.N b = n2) (hg : findS X a b = g) :
    Memo.Ok Try.prog ⟨13, 2, [X.v, .int .i64 a, .int .i64 b], X.V, findV c n1 n2 g, [], 2⟩ := by
  have mc := check_m X hd hd2 hc 5
  have m1 := node_m X a h1 5
  have m2 := node_m X b h2 5
  have hr := range_13 X ((goT_eq X a b).trans hg)
  cases c
  · cases n1 <;> cases n2 <;> cases g <;> exact memo_pure (hs := [(3, .frz), (4, .frz), (5, .frz), (13, .call _)]) (ch := []) 5 (evk 50) special ⟨trivial, trivial, trivial, mc, trivial⟩ trivial (X.hV (by kernel_rfl)) (X.smallH 2) (by kernel_rfl)
  · cases n1
    · cases n2 <;> cases g <;> exact memo_pure (hs := [(3, .frz), (4, .frz), (5, .frz), (13, .call _), (19, .call _)]) (ch := []) 5 (evk 50) special ⟨trivial, trivial, trivial, mc, m1, trivial⟩ trivial (X.hV (by kernel_rfl)) (X.smallH 2) (by kernel_rfl)
    · cases n2
      · cases g <;> exact memo_pure (hs := [(3, .frz), (4, .frz), (5, .frz), (13, .call _), (19, .call _), (24, .call _)]) (ch := []) 5 (evk 50) special ⟨trivial, trivial, trivial, mc, m1, m2, trivial⟩ trivial (X.hV (by kernel_rfl)) (X.smallH 2) (by kernel_rfl)
      · cases g <;> exact memo_pure (hs := [(3, .frz), (4, .frz), (5, .frz), (13, .call _), (19, .call _), (24, .call _), (28, .call _)]) (ch := [⟨9, none, rf Try.prog 13 9, T13 X a b, [], H13 X a b none, 8, _, true⟩]) 11 (evk 50) special ⟨trivial, trivial, trivial, mc, m1, m2, ends_7 X, trivial⟩ ⟨hr, trivial⟩ (X.hV (by kernel_rfl)) (X.smallH 2) (by kernel_rfl)
end Go.Proofs.Ytkngbmaomgfcjaa.topo
/- Contract: Ports. -/
namespace Go.Proofs.Ytkngbmaomgfcjaa.topo
open Go Go.En
set_option linter.unusedVariables false

theorem ends_5 (X : Cx) : Memo.Ok Try.prog ⟨41, 5, [X.v], [], .func (.func 60) #[] #[pt 5], [(5, X.cells)], 6⟩ :=
  memo_new (hs := []) (ch := []) (evk 50) special trivial trivial (by kernel_rfl)
def T12 (X : Cx) (a : Int) : List Value := [X.v, .int .i64 a, pt 2, pt 3, .slice none 0 0, .int .i64 0, .int .i64 0, pt 4, undef, X.v, .int .i64 0, .int .i64 0, .bool false, undef, .int .i64 a, .bool false, .bool false, .int .i64 a, pt 2, .int .i64 X.N, .bool false, .bool false, X.v, .func (.func 60) #[] #[pt 5]] ++ List.replicate 11 undef
theorem T12_small (X : Cx) (a : Int) {n : Nat} (hn : 6 ≤ n) : En.smallL (En.small n 5) (T12 X a) = true := by
  have h : ∀ k, k ≤ 5 → En.small n 5 (pt k) = true := fun k hk => by simp [pt, En.small]; omega
  have h7 : En.small n 5 (.func (.func 60) #[] #[pt 5]) = true := by simp [En.small, En.smallL, pt]; omega
  simp only [T12, List.cons_append, List.nil_append, En.smallL, X.small (by omega : 2 ≤ n), h 2 (by omega), h 3 (by omega), h 4 (by omega), h7, Bool.true_and]
  rfl
def L12 (P : Program) (X : Cx) (a : Int) : Loop := newLoop (T12 X a) (rfP (rf P 12 9)) (rfA (rf P 12 9)) (rfB (rf P 12 9)) 6
def H12 (X : Cx) (a : Int) (sv : Value) : Hp := [(5, .cells X.cells false), (4, .cells [sv] false), (3, .cells [.int .i64 a] true), (2, .cells X.cells true), (0, .cells X.st true), (1, .cells X.lk true)]
def K12 (P : Program) (X : Cx) (a : Int) (sv : Value) : Hp := (7, .loop (L12 P X a)) :: (6, .defd) :: H12 X a sv
def G12 (P : Program) (X : Cx) (a : Int) (c : Nat) (L : List Int) : Hp := hpL c L (K12 P X a (slL c L))
def Y7 : Value := .func (.yield 7) #[] #[]
theorem K12_below (X : Cx) (a : Int) (L : List Int) : hpBelow 10 (K12 Try.prog X a (slL 9 L)) = true := by
  have a0 : tidyB 10 (.cells X.cells false) = true := X.smallL (by omega) 5
  have a1 : tidyB 10 (.cells X.cells true) = true := X.smallL (by omega) 5
  have a2 : tidyB 10 (.cells X.st true) = true := small_avL X.avs
  have a3 : tidyB 10 (.cells X.lk true) = true := small_avL X.avk
  have a4 : tidyB 10 (.loop (L12 Try.prog X a)) = true := by
    show (En.smallL (En.small 10 5) (T12 X a).toArray.toList && decide (6 < 10)) = true
    have := T12_small X a (n := 10) (by omega)
    simpa using this
  cases L <;> (simp only [K12, H12, hpBelow, a0, a1, a2, a3, a4, Bool.and_true]; rfl)
theorem G12_below (X : Cx) (a : Int) (L : List Int) : hpBelow 10 (G12 Try.prog X a 9 L) = true := by
  cases L with
  | nil => exact K12_below X a []
  | cons x r =>
    have a1 : tidyB 10 (.cells (ic (x :: r)) false) = true := small_avL (ic_av _)
    show ((decide (9 < 10) && tidyB 10 (.cells (ic (x :: r)) false)) && hpBelow 10 (K12 Try.prog X a (slL 9 (x :: r)))) = true
    rw [a1, K12_below]; rfl
theorem G12_ren (X : Cx) (a : Int) {σ : Nat → Nat} (hσ : ∀ b, b < 9 → σ b = b) {c : Nat} (hc : σ 9 = c) (L : List Int) : renHp σ (G12 Try.prog X a 9 L) = G12 Try.prog X a c L := by
  have h0 := hσ 0 (by omega)
  have h1 := hσ 1 (by omega)
  have hk : ∀ sv sv', renV σ 5 sv = sv' → renHp σ (K12 Try.prog X a sv) = K12 Try.prog X a sv' := by
    intro sv sv' hs
    simp only [K12, H12, renHp, renBlk, h0, h1, hσ 2 (by omega), hσ 3 (by omega), hσ 4 (by omega), hσ 5 (by omega), hσ 6 (by omega), hσ 7 (by omega), X.renC σ h0 h1 5, renV_avL X.avs, renV_avL X.avk, List.map_cons, List.map_nil, hs]
    rfl
  cases L with
  | nil => exact hk _ _ rfl
  | cons x r =>
    have := hk (slL 9 (x :: r)) (slL c (x :: r)) (by simp only [slL, renV, hc])
    simp only [G12, hpL, renHp, renBlk, hc, ic_ren, this]

theorem z1_nil_false (X : Cx) {a : Int} {l : Lk} {p : Nat} (hq : (fromS l p == a) = false) :
    Hint.Ok Try.prog (.any (opAt Try.prog 60 3 5) [Y7, ev5 l p] ((10, .cells l.cells false) :: G12 Try.prog X a 9 []) 11 (.bool true) ((11, .cells (evc l p) false) :: (10, .cells l.cells false) :: G12 Try.prog X a 9 []) 12) := by
  have m1 := memo_any (ans_0 (g := 42) (by omega) l p) 12 (by kernel_rfl) rfl rfl
  obtain ⟨x, y, u, v⟩ := l
  exact yield_by (hs := [(26, .call _), (28, .val (.bool (fromS ⟨x, y, u, v⟩ p == a)) (.bool _))]) (ch := []) (cf := .tmp 13) (args := #[.tmp 17]) (ats := #[67]) (l := 7) (evk 50) special ⟨m1, congrArg Value.bool hq, trivial⟩ trivial (by kernel_rfl) (by kernel_rfl)
theorem z1_nil_true (X : Cx) {a : Int} {l : Lk} {p : Nat} (hq : (fromS l p == a) = true) :
    Hint.Ok Try.prog (.any (opAt Try.prog 60 3 5) [Y7, ev5 l p] ((10, .cells l.cells false) :: G12 Try.prog X a 9 []) 11 (.bool true) ((13, .cells (ic ([] ++ [(p : Int)])) false) :: (12, .cells (ic [(p : Int)]) false) :: (11, .cells (evc l p) false) :: (10, .cells l.cells false) :: K12 Try.prog X a (slL 13 ([] ++ [(p : Int)]))) 14) := by
  have m1 := memo_any (ans_0 (g := 42) (by omega) l p) 12 (by kernel_rfl) rfl rfl
  obtain ⟨x, y, u, v⟩ := l
  exact yield_by (hs := [(26, .call _), (28, .val (.bool (fromS ⟨x, y, u, v⟩ p == a)) (.bool _))]) (ch := []) (cf := .tmp 13) (args := #[.tmp 17]) (ats := #[67]) (l := 7) (evk 50) special ⟨m1, congrArg Value.bool hq, trivial⟩ trivial (by kernel_rfl) (by kernel_rfl)
theorem z1_cons_false (X : Cx) {a : Int} {l : Lk} {p : Nat} {x0 : Int} {r0 : List Int} (hlen : (x0 :: r0).length ≤ 900) (hq : (fromS l p == a) = false) :
    Hint.Ok Try.prog (.any (opAt Try.prog 60 3 5) [Y7, ev5 l p] ((10, .cells l.cells false) :: G12 Try.prog X a 9 (x0 :: r0)) 11 (.bool true) ((11, .cells (evc l p) false) :: (10, .cells l.cells false) :: G12 Try.prog X a 9 (x0 :: r0)) 12) := by
  have m1 := memo_any (ans_0 (g := 42) (by omega) l p) 12 (by kernel_rfl) rfl rfl
  obtain ⟨x, y, u, v⟩ := l
  exact yield_by (hs := [(26, .call _), (28, .val (.bool (fromS ⟨x, y, u, v⟩ p == a)) (.bool _))]) (ch := []) (cf := .tmp 13) (args := #[.tmp 17]) (ats := #[67]) (l := 7) (evk 50) special ⟨m1, congrArg Value.bool hq, trivial⟩ trivial (by kernel_rfl) (by kernel_rfl)
theorem z1_cons_true (X : Cx) {a : Int} {l : Lk} {p : Nat} {x0 : Int} {r0 : List Int} (hlen : (x0 :: r0).length ≤ 900) (hq : (fromS l p == a) = true) :
    Hint.Ok Try.prog (.any (opAt Try.prog 60 3 5) [Y7, ev5 l p] ((10, .cells l.cells false) :: G12 Try.prog X a 9 (x0 :: r0)) 11 (.bool true) ((13, .cells (ic ((x0 :: r0) ++ [(p : Int)])) false) :: (12, .cells (ic [(p : Int)]) false) :: (11, .cells (evc l p) false) :: (10, .cells l.cells false) :: K12 Try.prog X a (slL 13 ((x0 :: r0) ++ [(p : Int)]))) 14) := by
  have m1 := memo_any (ans_0 (g := 42) (by omega) l p) 12 (by kernel_rfl) rfl rfl
  have ap := app_io (a := 9) (b := 12) (L := x0 :: r0) (x := p) hlen
  obtain ⟨x, y, u, v⟩ := l
  exact yield_by (hs := [(26, .call _), (28, .val (.bool (fromS ⟨x, y, u, v⟩ p == a)) (.bool _)), (33, .app _ _ _ _ _ _ _ _)]) (ch := []) (cf := .tmp 13) (args := #[.tmp 17]) (ats := #[67]) (l := 7) (evk 50) special ⟨m1, congrArg Value.bool hq, ap, trivial⟩ trivial (by kernel_rfl) (by kernel_rfl)
theorem z2a_nil_false (X : Cx) {a : Int} {l : Lk} {p : Nat} {p0 : Nat} (hq : (fromS l p == a) = false) :
    Hint.Ok Try.prog (.any (opAt Try.prog 60 3 14) [Y7, ev5 l p] ((11, .cells (evc l p0) false) :: (10, .cells l.cells false) :: G12 Try.prog X a 9 []) 12 (.bool true) ((12, .cells (evc l p) false) :: (11, .cells (evc l p0) false) :: (10, .cells l.cells false) :: G12 Try.prog X a 9 []) 13) := by
  have m1 := memo_any (ans_0 (g := 42) (by omega) l p) 13 (by kernel_rfl) rfl rfl
  obtain ⟨x, y, u, v⟩ := l
  exact yield_by (hs := [(26, .call _), (28, .val (.bool (fromS ⟨x, y, u, v⟩ p == a)) (.bool _))]) (ch := []) (cf := .tmp 21) (args := #[.tmp 26]) (ats := #[67]) (l := 7) (evk 50) special ⟨m1, congrArg Value.bool hq, trivial⟩ trivial (by kernel_rfl) (by kernel_rfl)
theorem z2a_nil_true (X : Cx) {a : Int} {l : Lk} {p : Nat} {p0 : Nat} (hq : (fromS l p == a) = true) :
    Hint.Ok Try.prog (.any (opAt Try.prog 60 3 14) [Y7, ev5 l p] ((11, .cells (evc l p0) false) :: (10, .cells l.cells false) :: G12 Try.prog X a 9 []) 12 (.bool true) ((14, .cells (ic ([] ++ [(p : Int)])) false) :: (13, .cells (ic [(p : Int)]) false) :: (12, .cells (evc l p) false) :: (11, .cells (evc l p0) false) :: (10, .cells l.cells false) :: K12 Try.prog X a (slL 14 ([] ++ [(p : Int)]))) 15) := by
  have m1 := memo_any (ans_0 (g := 42) (by omega) l p) 13 (by kernel_rfl) rfl rfl
  obtain ⟨x, y, u, v⟩ := l
  exact yield_by (hs := [(26, .call _), (28, .val (.bool (fromS ⟨x, y, u, v⟩ p == a)) (.bool _))]) (ch := []) (cf := .tmp 21) (args := #[.tmp 26]) (ats := #[67]) (l := 7) (evk 50) special ⟨m1, congrArg Value.bool hq, trivial⟩ trivial (by kernel_rfl) (by kernel_rfl)
theorem z2a_cons_false (X : Cx) {a : Int} {l : Lk} {p : Nat} {p0 : Nat} {x0 : Int} {r0 : List Int} (hlen : (x0 :: r0).length ≤ 900) (hq : (fromS l p == a) = false) :
    Hint.Ok Try.prog (.any (opAt Try.prog 60 3 14) [Y7, ev5 l p] ((11, .cells (evc l p0) false) :: (10, .cells l.cells false) :: G12 Try.prog X a 9 (x0 :: r0)) 12 (.bool true) ((12, .cells (evc l p) false) :: (11, .cells (evc l p0) false) :: (10, .cells l.cells false) :: G12 Try.prog X a 9 (x0 :: r0)) 13) := by
  have m1 := memo_any (ans_0 (g := 42) (by omega) l p) 13 (by kernel_rfl) rfl rfl
  obtain ⟨x, y, u, v⟩ := l
  exact yield_by (hs := [(26, .call _), (28, .val (.bool (fromS ⟨x, y, u, v⟩ p == a)) (.bool _))]) (ch := []) (cf := .tmp 21) (args := #[.tmp 26]) (ats := #[67]) (l := 7) (evk 50) special ⟨m1, congrArg Value.bool hq, trivial⟩ trivial (by kernel_rfl) (by kernel_rfl)
theorem z2a_cons_true (X : Cx) {a : Int} {l : Lk} {p : Nat} {p0 : Nat} {x0 : Int} {r0 : List Int} (hlen : (x0 :: r0).length ≤ 900) (hq : (fromS l p == a) = true) :
    Hint.Ok Try.prog (.any (opAt Try.prog 60 3 14) [Y7, ev5 l p] ((11, .cells (evc l p0) false) :: (10, .cells l.cells false) :: G12 Try.prog X a 9 (x0 :: r0)) 12 (.bool true) ((14, .cells (ic ((x0 :: r0) ++ [(p : Int)])) false) :: (13, .cells (ic [(p : Int)]) false) :: (12, .cells (evc l p) false) :: (11, .cells (evc l p0) false) :: (10, .cells l.cells false) :: K12 Try.prog X a (slL 14 ((x0 :: r0) ++ [(p : Int)]))) 15) := by
  have m1 := memo_any (ans_0 (g := 42) (by omega) l p) 13 (by kernel_rfl) rfl rfl
  have ap := app_io (a := 9) (b := 13) (L := x0 :: r0) (x := p) hlen
  obtain ⟨x, y, u, v⟩ := l
  exact yield_by (hs := [(26, .call _), (28, .val (.bool (fromS ⟨x, y, u, v⟩ p == a)) (.bool _)), (33, .app _ _ _ _ _ _ _ _)]) (ch := []) (cf := .tmp 21) (args := #[.tmp 26]) (ats := #[67]) (l := 7) (evk 50) special ⟨m1, congrArg Value.bool hq, ap, trivial⟩ trivial (by kernel_rfl) (by kernel_rfl)
theorem z2b_cons_false (X : Cx) {a : Int} {l : Lk} {p : Nat} {z0 : Int} {p0 : Nat} {x0 : Int} {r0 : List Int} (hlen : (x0 :: r0).length ≤ 900) (hq : (fromS l p == a) = false) :
    Hint.Ok Try.prog (.any (opAt Try.prog 60 3 14) [Y7, ev5 l p] ((13, .cells (ic (x0 :: r0)) false) :: (12, .cells (ic [z0]) false) :: (11, .cells (evc l p0) false) :: (10, .cells l.cells false) :: K12 Try.prog X a (slL 13 (x0 :: r0))) 14 (.bool true) ((14, .cells (evc l p) false) :: (13, .cells (ic (x0 :: r0)) false) :: (12, .cells (ic [z0]) false) :: (11, .cells (evc l p0) false) :: (10, .cells l.cells false) :: K12 Try.prog X a (slL 13 (x0 :: r0))) 15) := by
  have m1 := memo_any (ans_0 (g := 42) (by omega) l p) 15 (by kernel_rfl) rfl rfl
  obtain ⟨x, y, u, v⟩ := l
  exact yield_by (hs := [(26, .call _), (28, .val (.bool (fromS ⟨x, y, u, v⟩ p == a)) (.bool _))]) (ch := []) (cf := .tmp 21) (args := #[.tmp 26]) (ats := #[67]) (l := 7) (evk 50) special ⟨m1, congrArg Value.bool hq, trivial⟩ trivial (by kernel_rfl) (by kernel_rfl)
theorem z2b_cons_true (X : Cx) {a : Int} {l : Lk} {p : Nat} {z0 : Int} {p0 : Nat} {x0 : Int} {r0 : List Int} (hlen : (x0 :: r0).length ≤ 900) (hq : (fromS l p == a) = true) :
    Hint.Ok Try.prog (.any (opAt Try.prog 60 3 14) [Y7, ev5 l p] ((13, .cells (ic (x0 :: r0)) false) :: (12, .cells (ic [z0]) false) :: (11, .cells (evc l p0) false) :: (10, .cells l.cells false) :: K12 Try.prog X a (slL 13 (x0 :: r0))) 14 (.bool true) ((16, .cells (ic ((x0 :: r0) ++ [(p : Int)])) false) :: (15, .cells (ic [(p : Int)]) false) :: (14, .cells (evc l p) false) :: (12, .cells (ic [z0]) false) :: (11, .cells (evc l p0) false) :: (10, .cells l.cells false) :: K12 Try.prog X a (slL 16 ((x0 :: r0) ++ [(p : Int)]))) 17) := by
  have m1 := memo_any (ans_0 (g := 42) (by omega) l p) 15 (by kernel_rfl) rfl rfl
  have ap := app_io (a := 13) (b := 15) (L := x0 :: r0) (x := p) hlen
  obtain ⟨x, y, u, v⟩ := l
  exact yield_by (hs := [(26, .call _), (28, .val (.bool (fromS ⟨x, y, u, v⟩ p == a)) (.bool _)), (33, .app _ _ _ _ _ _ _ _)]) (ch := []) (cf := .tmp 21) (args := #[.tmp 26]) (ats := #[67]) (l := 7) (evk 50) special ⟨m1, congrArg Value.bool hq, ap, trivial⟩ trivial (by kernel_rfl) (by kernel_rfl)
def T61 (X : Cx) (i : Int) : List Value := [Y7, pt 5, J, J, J, J, .slice X.sb X.ls.length X.d, .int .i64 X.ls.length, .int .i64 i] ++ List.replicate 22 J
def two1 (a : Int) (l : Lk) (i : Nat) (L : List Int) : List Int := bif fromS l (2 * i : Nat) == a then L ++ [((2 * i : Nat) : Int)] else L
def two2 (a : Int) (l : Lk) (i : Nat) (L : List Int) : List Int := bif fromS l (2 * i + 1 : Nat) == a then L ++ [((2 * i + 1 : Nat) : Int)] else L

theorem pg_nil_false_false (X : Cx) {a : Int} {i : Nat} {l : Lk} (hi : X.ls[i]? = some l) (h1 : (fromS l (2 * i : Nat) == a) = false) (h2 : (fromS l (2 * i + 1 : Nat) == a) = false) :
    CodeOk Try.prog none (lp Try.prog 60 1) (T61 X i) [] (G12 Try.prog X a 9 []) 10 ⟨.normal, T61 X (IntKind.i64.wrap (i + 1)), [], G12 Try.prog X a 9 [], 13⟩ := by
  have l0 := X.ldL hi
  have hlt := lt_of hi
  have hL := X.hL
  have w1 : IntKind.i64.wrap (2 * (i : Int)) = ((2 * i : Nat) : Int) := by
    have := wrap_nat (n := 2 * i) (by omega)
    push_cast at this ⊢
    exact this
  have w2 : IntKind.i64.wrap (((2 * i : Nat) : Int) + 1) = ((2 * i + 1 : Nat) : Int) := by
    have := wrap_nat (n := 2 * i + 1) (by omega)
    push_cast at this ⊢
    exact this
  have y1 := z1_nil_false X (p := 2 * i) h1
  have y2 := z2a_nil_false X (p := 2 * i + 1) (p0 := 2 * i) h2
  exact code_k [7, 6, 5, 4, 3, 2, 0, 1] (hs := [(9, .val (.bool (decide ((i : Int) < X.ls.length))) (.bool true)), (11, .ix 23 (.slice X.sb X.ls.length X.d) (.int .i64 i) _), (12, .ld 50 _ 1 X.lk true _), (16, .val (.int .i64 (IntKind.i64.wrap (2 * i))) (.int .i64 (2 * i : Nat))), (18, .any _ _ _ _ _ _ _), (24, .val (.int .i64 (IntKind.i64.wrap (2 * i))) (.int .i64 (2 * i : Nat))), (25, .val (.int .i64 (IntKind.i64.wrap ((2 * i : Nat) + 1))) (.int .i64 (2 * i + 1 : Nat))), (27, .any _ _ _ _ _ _ _)]) (ch := []) (evk 50) special
    ⟨congrArg Value.bool (decide_eq_true (by omega)), X.ixL hlt, ⟨l0, _, rfl⟩, congrArg (Value.int .i64) w1, y1, congrArg (Value.int .i64) w1, congrArg (Value.int .i64) w2, y2, trivial⟩ trivial (by kernel_rfl)
theorem pg_cons_false_false (X : Cx) {a : Int} {i : Nat} {l : Lk} {x0 : Int} {r0 : List Int} (hlen : (x0 :: r0).length ≤ 800) (hi : X.ls[i]? = some l) (h1 : (fromS l (2 * i : Nat) == a) = false) (h2 : (fromS l (2 * i + 1 : Nat) == a) = false) :
    CodeOk Try.prog none (lp Try.prog 60 1) (T61 X i) [] (G12 Try.prog X a 9 (x0 :: r0)) 10 ⟨.normal, T61 X (IntKind.i64.wrap (i + 1)), [], G12 Try.prog X a 9 (x0 :: r0), 13⟩ := by
  have l0 := X.ldL hi
  have hlt := lt_of hi
  have hL := X.hL
  have w1 : IntKind.i64.wrap (2 * (i : Int)) = ((2 * i : Nat) : Int) := by
    have := wrap_nat (n := 2 * i) (by omega)
    push_cast at this ⊢
    exact this
  have w2 : IntKind.i64.wrap (((2 * i : Nat) : Int) + 1) = ((2 * i + 1 : Nat) : Int) := by
    have := wrap_nat (n := 2 * i + 1) (by omega)
    push_cast at this ⊢
    exact this
  have y1 := z1_cons_false X (x0 := x0) (r0 := r0) (by simp at hlen ⊢; omega) (p := 2 * i) h1
  have y2 := z2a_cons_false X (x0 := x0) (r0 := r0) (by simp at hlen ⊢; omega) (p := 2 * i + 1) (p0 := 2 * i) h2
  exact code_k [9, 7, 6, 5, 4, 3, 2, 0, 1] (hs := [(9, .val (.bool (decide ((i : Int) < X.ls.length))) (.bool true)), (11, .ix 23 (.slice X.sb X.ls.length X.d) (.int .i64 i) _), (12, .ld 50 _ 1 X.lk true _), (16, .val (.int .i64 (IntKind.i64.wrap (2 * i))) (.int .i64 (2 * i : Nat))), (18, .any _ _ _ _ _ _ _), (24, .val (.int .i64 (IntKind.i64.wrap (2 * i))) (.int .i64 (2 * i : Nat))), (25, .val (.int .i64 (IntKind.i64.wrap ((2 * i : Nat) + 1))) (.int .i64 (2 * i + 1 : Nat))), (27, .any _ _ _ _ _ _ _)]) (ch := []) (evk 50) special
    ⟨congrArg Value.bool (decide_eq_true (by omega)), X.ixL hlt, ⟨l0, _, rfl⟩, congrArg (Value.int .i64) w1, y1, congrArg (Value.int .i64) w1, congrArg (Value.int .i64) w2, y2, trivial⟩ trivial (by kernel_rfl)
theorem pg_nil_false_true (X : Cx) {a : Int} {i : Nat} {l : Lk} (hi : X.ls[i]? = some l) (h1 : (fromS l (2 * i : Nat) == a) = false) (h2 : (fromS l (2 * i + 1 : Nat) == a) = true) :
    CodeOk Try.prog none (lp Try.prog 60 1) (T61 X i) [] (G12 Try.prog X a 9 []) 10 ⟨.normal, T61 X (IntKind.i64.wrap (i + 1)), [], G12 Try.prog X a 14 ([] ++ [((2 * i + 1 : Nat) : Int)]), 15⟩ := by
  have l0 := X.ldL hi
  have hlt := lt_of hi
  have hL := X.hL
  have w1 : IntKind.i64.wrap (2 * (i : Int)) = ((2 * i : Nat) : Int) := by
    have := wrap_nat (n := 2 * i) (by omega)
    push_cast at this ⊢
    exact this
  have w2 : IntKind.i64.wrap (((2 * i : Nat) : Int) + 1) = ((2 * i + 1 : Nat) : Int) := by
    have := wrap_nat (n := 2 * i + 1) (by omega)
    push_cast at this ⊢
    exact this
  have y1 := z1_nil_false X (p := 2 * i) h1
  have y2 := z2a_nil_true X (p := 2 * i + 1) (p0 := 2 * i) h2
  exact code_k [14, 7, 6, 5, 4, 3, 2, 0, 1] (hs := [(9, .val (.bool (decide ((i : Int) < X.ls.length))) (.bool true)), (11, .ix 23 (.slice X.sb X.ls.length X.d) (.int .i64 i) _), (12, .ld 50 _ 1 X.lk true _), (16, .val (.int .i64 (IntKind.i64.wrap (2 * i))) (.int .i64 (2 * i : Nat))), (18, .any _ _ _ _ _ _ _), (24, .val (.int .i64 (IntKind.i64.wrap (2 * i))) (.int .i64 (2 * i : Nat))), (25, .val (.int .i64 (IntKind.i64.wrap ((2 * i : Nat) + 1))) (.int .i64 (2 * i + 1 : Nat))), (27, .any _ _ _ _ _ _ _)]) (ch := []) (evk 50) special
    ⟨congrArg Value.bool (decide_eq_true (by omega)), X.ixL hlt, ⟨l0, _, rfl⟩, congrArg (Value.int .i64) w1, y1, congrArg (Value.int .i64) w1, congrArg (Value.int .i64) w2, y2, trivial⟩ trivial (by kernel_rfl)
theorem pg_cons_false_true (X : Cx) {a : Int} {i : Nat} {l : Lk} {x0 : Int} {r0 : List Int} (hlen : (x0 :: r0).length ≤ 800) (hi : X.ls[i]? = some l) (h1 : (fromS l (2 * i : Nat) == a) = false) (h2 : (fromS l (2 * i + 1 : Nat) == a) = true) :
    CodeOk Try.prog none (lp Try.prog 60 1) (T61 X i) [] (G12 Try.prog X a 9 (x0 :: r0)) 10 ⟨.normal, T61 X (IntKind.i64.wrap (i + 1)), [], G12 Try.prog X a 14 ((x0 :: r0) ++ [((2 * i + 1 : Nat) : Int)]), 15⟩ := by
  have l0 := X.ldL hi
  have hlt := lt_of hi
  have hL := X.hL
  have w1 : IntKind.i64.wrap (2 * (i : Int)) = ((2 * i : Nat) : Int) := by
    have := wrap_nat (n := 2 * i) (by omega)
    push_cast at this ⊢
    exact this
  have w2 : IntKind.i64.wrap (((2 * i : Nat) : Int) + 1) = ((2 * i + 1 : Nat) : Int) := by
    have := wrap_nat (n := 2 * i + 1) (by omega)
    push_cast at this ⊢
    exact this
  have y1 := z1_cons_false X (x0 := x0) (r0 := r0) (by simp at hlen ⊢; omega) (p := 2 * i) h1
  have y2 := z2a_cons_true X (x0 := x0) (r0 := r0) (by simp at hlen ⊢; omega) (p := 2 * i + 1) (p0 := 2 * i) h2
  exact code_k [14, 7, 6, 5, 4, 3, 2, 0, 1] (hs := [(9, .val (.bool (decide ((i : Int) < X.ls.length))) (.bool true)), (11, .ix 23 (.slice X.sb X.ls.length X.d) (.int .i64 i) _), (12, .ld 50 _ 1 X.lk true _), (16, .val (.int .i64 (IntKind.i64.wrap (2 * i))) (.int .i64 (2 * i : Nat))), (18, .any _ _ _ _ _ _ _), (24, .val (.int .i64 (IntKind.i64.wrap (2 * i))) (.int .i64 (2 * i : Nat))), (25, .val (.int .i64 (IntKind.i64.wrap ((2 * i : Nat) + 1))) (.int .i64 (2 * i + 1 : Nat))), (27, .any _ _ _ _ _ _ _)]) (ch := []) (evk 50) special
    ⟨congrArg Value.bool (decide_eq_true (by omega)), X.ixL hlt, ⟨l0, _, rfl⟩, congrArg (Value.int .i64) w1, y1, congrArg (Value.int .i64) w1, congrArg (Value.int .i64) w2, y2, trivial⟩ trivial (by kernel_rfl)
theorem pg_nil_true_false (X : Cx) {a : Int} {i : Nat} {l : Lk} (hi : X.ls[i]? = some l) (h1 : (fromS l (2 * i : Nat) == a) = true) (h2 : (fromS l (2 * i + 1 : Nat) == a) = false) :
    CodeOk Try.prog none (lp Try.prog 60 1) (T61 X i) [] (G12 Try.prog X a 9 []) 10 ⟨.normal, T61 X (IntKind.i64.wrap (i + 1)), [], G12 Try.prog X a 13 ([] ++ [((2 * i : Nat) : Int)]), 15⟩ := by
  have l0 := X.ldL hi
  have hlt := lt_of hi
  have hL := X.hL
  have w1 : IntKind.i64.wrap (2 * (i : Int)) = ((2 * i : Nat) : Int) := by
    have := wrap_nat (n := 2 * i) (by omega)
    push_cast at this ⊢
    exact this
  have w2 : IntKind.i64.wrap (((2 * i : Nat) : Int) + 1) = ((2 * i + 1 : Nat) : Int) := by
    have := wrap_nat (n := 2 * i + 1) (by omega)
    push_cast at this ⊢
    exact this
  have y1 := z1_nil_true X (p := 2 * i) h1
  have y2 := z2b_cons_false X (x0 := ((2 * i : Nat) : Int)) (r0 := []) (by simp) (p := 2 * i + 1) (p0 := 2 * i) (z0 := ((2 * i : Nat) : Int)) h2
  exact code_k [13, 7, 6, 5, 4, 3, 2, 0, 1] (hs := [(9, .val (.bool (decide ((i : Int) < X.ls.length))) (.bool true)), (11, .ix 23 (.slice X.sb X.ls.length X.d) (.int .i64 i) _), (12, .ld 50 _ 1 X.lk true _), (16, .val (.int .i64 (IntKind.i64.wrap (2 * i))) (.int .i64 (2 * i : Nat))), (18, .any _ _ _ _ _ _ _), (24, .val (.int .i64 (IntKind.i64.wrap (2 * i))) (.int .i64 (2 * i : Nat))), (25, .val (.int .i64 (IntKind.i64.wrap ((2 * i : Nat) + 1))) (.int .i64 (2 * i + 1 : Nat))), (27, .any _ _ _ _ _ _ _)]) (ch := []) (evk 50) special
    ⟨congrArg Value.bool (decide_eq_true (by omega)), X.ixL hlt, ⟨l0, _, rfl⟩, congrArg (Value.int .i64) w1, y1, congrArg (Value.int .i64) w1, congrArg (Value.int .i64) w2, y2, trivial⟩ trivial (by kernel_rfl)
theorem pg_cons_true_false (X : Cx) {a : Int} {i : Nat} {l : Lk} {x0 : Int} {r0 : List Int} (hlen : (x0 :: r0).length ≤ 800) (hi : X.ls[i]? = some l) (h1 : (fromS l (2 * i : Nat) == a) = true) (h2 : (fromS l (2 * i + 1 : Nat) == a) = false) :
    CodeOk Try.prog none (lp Try.prog 60 1) (T61 X i) [] (G12 Try.prog X a 9 (x0 :: r0)) 10 ⟨.normal, T61 X (IntKind.i64.wrap (i + 1)), [], G12 Try.prog X a 13 ((x0 :: r0) ++ [((2 * i : Nat) : Int)]), 15⟩ := by
  have l0 := X.ldL hi
  have hlt := lt_of hi
  have hL := X.hL
  have w1 : IntKind.i64.wrap (2 * (i : Int)) = ((2 * i : Nat) : Int) := by
    have := wrap_nat (n := 2 * i) (by omega)
    push_cast at this ⊢
    exact this
  have w2 : IntKind.i64.wrap (((2 * i : Nat) : Int) + 1) = ((2 * i + 1 : Nat) : Int) := by
    have := wrap_nat (n := 2 * i + 1) (by omega)
    push_cast at this ⊢
    exact this
  have y1 := z1_cons_true X (x0 := x0) (r0 := r0) (by simp at hlen ⊢; omega) (p := 2 * i) h1
  have y2 := z2b_cons_false X (x0 := x0) (r0 := r0 ++ [((2 * i : Nat) : Int)]) (by simp at hlen ⊢; omega) (p := 2 * i + 1) (p0 := 2 * i) (z0 := ((2 * i : Nat) : Int)) h2
  exact code_k [13, 7, 6, 5, 4, 3, 2, 0, 1] (hs := [(9, .val (.bool (decide ((i : Int) < X.ls.length))) (.bool true)), (11, .ix 23 (.slice X.sb X.ls.length X.d) (.int .i64 i) _), (12, .ld 50 _ 1 X.lk true _), (16, .val (.int .i64 (IntKind.i64.wrap (2 * i))) (.int .i64 (2 * i : Nat))), (18, .any _ _ _ _ _ _ _), (24, .val (.int .i64 (IntKind.i64.wrap (2 * i))) (.int .i64 (2 * i : Nat))), (25, .val (.int .i64 (IntKind.i64.wrap ((2 * i : Nat) + 1))) (.int .i64 (2 * i + 1 : Nat))), (27, .any _ _ _ _ _ _ _)]) (ch := []) (evk 50) special
    ⟨congrArg Value.bool (decide_eq_true (by omega)), X.ixL hlt, ⟨l0, _, rfl⟩, congrArg (Value.int .i64) w1, y1, congrArg (Value.int .i64) w1, congrArg (Value.int .i64) w2, y2, trivial⟩ trivial (by kernel_rfl)
theorem pg_nil_true_true (X : Cx) {a : Int} {i : Nat} {l : Lk} (hi : X.ls[i]? = some l) (h1 : (fromS l (2 * i : Nat) == a) = true) (h2 : (fromS l (2 * i + 1 : Nat) == a) = true) :
    CodeOk Try.prog none (lp Try.prog 60 1) (T61 X i) [] (G12 Try.prog X a 9 []) 10 ⟨.normal, T61 X (IntKind.i64.wrap (i + 1)), [], G12 Try.prog X a 16 (([] ++ [((2 * i : Nat) : Int)]) ++ [((2 * i + 1 : Nat) : Int)]), 17⟩ := by
  have l0 := X.ldL hi
  have hlt := lt_of hi
  have hL := X.hL
  have w1 : IntKind.i64.wrap (2 * (i : Int)) = ((2 * i : Nat) : Int) := by
    have := wrap_nat (n := 2 * i) (by omega)
    push_cast at this ⊢
    exact this
  have w2 : IntKind.i64.wrap (((2 * i : Nat) : Int) + 1) = ((2 * i + 1 : Nat) : Int) := by
    have := wrap_nat (n := 2 * i + 1) (by omega)
    push_cast at this ⊢
    exact this
  have y1 := z1_nil_true X (p := 2 * i) h1
  have y2 := z2b_cons_true X (x0 := ((2 * i : Nat) : Int)) (r0 := []) (by simp) (p := 2 * i + 1) (p0 := 2 * i) (z0 := ((2 * i : Nat) : Int)) h2
  exact code_k [16, 7, 6, 5, 4, 3, 2, 0, 1] (hs := [(9, .val (.bool (decide ((i : Int) < X.ls.length))) (.bool true)), (11, .ix 23 (.slice X.sb X.ls.length X.d) (.int .i64 i) _), (12, .ld 50 _ 1 X.lk true _), (16, .val (.int .i64 (IntKind.i64.wrap (2 * i))) (.int .i64 (2 * i : Nat))), (18, .any _ _ _ _ _ _ _), (24, .val (.int .i64 (IntKind.i64.wrap (2 * i))) (.int .i64 (2 * i : Nat))), (25, .val (.int .i64 (IntKind.i64.wrap ((2 * i : Nat) + 1))) (.int .i64 (2 * i + 1 : Nat))), (27, .any _ _ _ _ _ _ _)]) (ch := []) (evk 50) special
    ⟨congrArg Value.bool (decide_eq_true (by omega)), X.ixL hlt, ⟨l0, _, rfl⟩, congrArg (Value.int .i64) w1, y1, congrArg (Value.int .i64) w1, congrArg (Value.int .i64) w2, y2, trivial⟩ trivial (by kernel_rfl)
theorem pg_cons_true_true (X : Cx) {a : Int} {i : Nat} {l : Lk} {x0 : Int} {r0 : List Int} (hlen : (x0 :: r0).length ≤ 800) (hi : X.ls[i]? = some l) (h1 : (fromS l (2 * i : Nat) == a) = true) (h2 : (fromS l (2 * i + 1 : Nat) == a) = true) :
    CodeOk Try.prog none (lp Try.prog 60 1) (T61 X i) [] (G12 Try.prog X a 9 (x0 :: r0)) 10 ⟨.normal, T61 X (IntKind.i64.wrap (i + 1)), [], G12 Try.prog X a 16 (((x0 :: r0) ++ [((2 * i : Nat) : Int)]) ++ [((2 * i + 1 : Nat) : Int)]), 17⟩ := by
  have l0 := X.ldL hi
  have hlt := lt_of hi
  have hL := X.hL
  have w1 : IntKind.i64.wrap (2 * (i : Int)) = ((2 * i : Nat) : Int) := by
    have := wrap_nat (n := 2 * i) (by omega)
    push_cast at this ⊢
    exact this
  have w2 : IntKind.i64.wrap (((2 * i : Nat) : Int) + 1) = ((2 * i + 1 : Nat) : Int) := by
    have := wrap_nat (n := 2 * i + 1) (by omega)
    push_cast at this ⊢
    exact this
  have y1 := z1_cons_true X (x0 := x0) (r0 := r0) (by simp at hlen ⊢; omega) (p := 2 * i) h1
  have y2 := z2b_cons_true X (x0 := x0) (r0 := r0 ++ [((2 * i : Nat) : Int)]) (by simp at hlen ⊢; omega) (p := 2 * i + 1) (p0 := 2 * i) (z0 := ((2 * i : Nat) : Int)) h2
  exact code_k [16, 7, 6, 5, 4, 3, 2, 0, 1] (hs := [(9, .val (.bool (decide ((i : Int) < X.ls.length))) (.bool true)), (11, .ix 23 (.slice X.sb X.ls.length X.d) (.int .i64 i) _), (12, .ld 50 _ 1 X.lk true _), (16, .val (.int .i64 (IntKind.i64.wrap (2 * i))) (.int .i64 (2 * i : Nat))), (18, .any _ _ _ _ _ _ _), (24, .val (.int .i64 (IntKind.i64.wrap (2 * i))) (.int .i64 (2 * i : Nat))), (25, .val (.int .i64 (IntKind.i64.wrap ((2 * i : Nat) + 1))) (.int .i64 (2 * i + 1 : Nat))), (27, .any _ _ _ _ _ _ _)]) (ch := []) (evk 50) special
    ⟨congrArg Value.bool (decide_eq_true (by omega)), X.ixL hlt, ⟨l0, _, rfl⟩, congrArg (Value.int .i64) w1, y1, congrArg (Value.int .i64) w1, congrArg (Value.int .i64) w2, y2, trivial⟩ trivial (by kernel_rfl)
end Go.Proofs.Ytkngbmaomgfcjaa.topo
/- Contract: Ports, the loop and the call. -/
namespace Go.Proofs.Ytkngbmaomgfcjaa.topo
open Go Go.En
set_option linter.unusedVariables false

def σc (c : Nat) : Nat → Nat := fun b => if b = 9 then c else b
theorem σc_lt {c : Nat} : ∀ b, b < 9 → σc c b = b := fun b hb => by simp only [σc]; rw [if_neg (by omega)]
theorem T61_ren (X : Cx) (c : Nat) (i : Int) : (T61 X i).map (renV (σc c) 5) = T61 X i := by
  have h5 : renV (σc c) 5 (pt 5) = pt 5 := by simp [renV, pt, σc]
  have h7 : renV (σc c) 5 Y7 = Y7 := by simp [renV, Y7, σc]
  rcases X.hsb with ⟨h, _⟩ | h
  · simp only [T61, h, List.cons_append, List.nil_append, List.map_cons, h5, h7]
    rfl
  · simp only [T61, h, List.cons_append, List.nil_append, List.map_cons, h5, h7, renV, σc_lt 1 (by omega)]
    rfl
theorem T61_below (X : Cx) (i : Int) : tmBelow 10 (T61 X i) = true := by
  rcases X.hsb with ⟨h, _⟩ | h
  · simp only [T61, h]
    show _ = true
    kernel_rfl
  · simp only [T61, h]
    show _ = true
    kernel_rfl
theorem G12_fix (X : Cx) (a : Int) (L : List Int) : fixB 9 (G12 Try.prog X a 9 L) = true := by
  have a4 : (En.smallL (En.small 9 5) (L12 Try.prog X a).tmps.toList) = true := by
    have := T12_small X a (n := 9) (by omega)
    show En.smallL (En.small 9 5) (T12 X a).toArray.toList = true
    simpa using this
  have hk : ∀ sv, fixB 9 (K12 Try.prog X a sv) = true := fun sv => by
    show (decide (7 < 9) && En.smallL (En.small 9 5) (L12 Try.prog X a).tmps.toList && decide (6 < 9) && _) = true
    rw [a4]; rfl
  cases L with
  | nil => exact hk _
  | cons x r => exact hk _
theorem G12_nodup (X : Cx) (a : Int) {c : Nat} (hc : c = 9 ∨ c = 13 ∨ c = 14 ∨ c = 16) (L : List Int) : nodupN (G12 Try.prog X a c L) = true := by
  rcases hc with rfl | rfl | rfl | rfl <;> cases L <;> (show _ = true; kernel_rfl)
theorem pg_step (X : Cx) {a : Int} {i j : Int} {L L2 : List Int} {c n2 : Nat} {R : Res} (hc : c = 9 ∨ c = 13 ∨ c = 14 ∨ c = 16) (hn : n2 ≤ 17) (hR : R.nx = 17)
    (h1 : CodeOk Try.prog none (lp Try.prog 60 1) (T61 X i) [] (G12 Try.prog X a 9 L) 10 ⟨.normal, T61 X j, [], G12 Try.prog X a c L2, n2⟩)
    (h2 : LoopL Try.prog 9 none (lp Try.prog 60 1) (T61 X j) [] (G12 Try.prog X a 9 L2) 10 R) : LoopL Try.prog 9 none (lp Try.prog 60 1) (T61 X i) [] (G12 Try.prog X a 9 L) 10 R := by
  have e := G12_ren X a (σ := σc c) σc_lt (c := c) (by simp [σc]) L2
  refine loopL_step (σc c) (n1 := n2) ?_ h2 (by omega) σc_lt ?_ (G12_below X a L2)
  · rw [e, T61_ren]; exact h1
  · rw [e, T61_below, G12_nodup X a hc, G12_fix]; rfl
def twoS (a : Int) (l : Lk) (i : Nat) (L : List Int) : List Int := two2 a l i (two1 a l i L)
theorem pg_go (X : Cx) {a : Int} {i : Nat} {l : Lk} {L : List Int} (hlen : L.length ≤ 800) (hi : X.ls[i]? = some l) :
    ∃ c n2, (c = 9 ∨ c = 13 ∨ c = 14 ∨ c = 16) ∧ n2 ≤ 17 ∧ CodeOk Try.prog none (lp Try.prog 60 1) (T61 X i) [] (G12 Try.prog X a 9 L) 10 ⟨.normal, T61 X (IntKind.i64.wrap (i + 1)), [], G12 Try.prog X a c (twoS a l i L), n2⟩ := by
  unfold twoS two2 two1
  cases h1 : (fromS l (2 * i : Nat) == a) <;> cases h2 : (fromS l (2 * i + 1 : Nat) == a) <;> cases L with
  | nil => first
    | exact ⟨_, _, .inl rfl, by omega, pg_nil_false_false X hi h1 h2⟩
    | exact ⟨_, _, .inr (.inr (.inl rfl)), by omega, pg_nil_false_true X hi h1 h2⟩
    | exact ⟨_, _, .inr (.inl rfl), by omega, pg_nil_true_false X hi h1 h2⟩
    | exact ⟨_, _, .inr (.inr (.inr rfl)), by omega, pg_nil_true_true X hi h1 h2⟩
  | cons x r => first
    | exact ⟨_, _, .inl rfl, by omega, pg_cons_false_false X hlen hi h1 h2⟩
    | exact ⟨_, _, .inr (.inr (.inl rfl)), by omega, pg_cons_false_true X hlen hi h1 h2⟩
    | exact ⟨_, _, .inr (.inl rfl), by omega, pg_cons_true_false X hlen hi h1 h2⟩
    | exact ⟨_, _, .inr (.inr (.inr rfl)), by omega, pg_cons_true_true X hlen hi h1 h2⟩
def TJ61 : List Value := [Y7, pt 5] ++ List.replicate 29 J
theorem pg_out (X : Cx) (a : Int) (L : List Int) : CodeOk Try.prog none (lp Try.prog 60 1) (T61 X X.ls.length) [] (G12 Try.prog X a 9 L) 10 ⟨.exit 0, TJ61, [], G12 Try.prog X a 9 L, 10⟩ := by
  cases L with
  | nil => exact code_k [7, 6, 5, 4, 3, 2, 0, 1] (hs := [(9, .val (.bool (decide ((X.ls.length : Int) < X.ls.length))) (.bool false))]) (ch := []) (evk 50) special ⟨congrArg Value.bool (decide_eq_false (by omega)), trivial⟩ trivial (by kernel_rfl)
  | cons x r => exact code_k [9, 7, 6, 5, 4, 3, 2, 0, 1] (hs := [(9, .val (.bool (decide ((X.ls.length : Int) < X.ls.length))) (.bool false))]) (ch := []) (evk 50) special ⟨congrArg Value.bool (decide_eq_false (by omega)), trivial⟩ trivial (by kernel_rfl)
theorem two_len {a : Int} {l : Lk} {i : Nat} {L : List Int} : (twoS a l i L).length ≤ L.length + 2 := by
  unfold twoS two2 two1
  cases (fromS l (2 * i : Nat) == a) <;> cases (fromS l (2 * i + 1 : Nat) == a) <;> simp <;> omega
def goL (a : Int) : List Lk → Nat → List Int → List Int
  | [], _, L => L
  | l :: r, i, L => goL a r (i + 1) (twoS a l i L)
theorem pg_loop (X : Cx) {a : Int} (h24 : X.ls.length ≤ 24) : ∀ (k i : Nat) (L : List Int), i + k = X.ls.length → L.length ≤ 2 * i →
    LoopL Try.prog 9 none (lp Try.prog 60 1) (T61 X i) [] (G12 Try.prog X a 9 L) 10 ⟨.exit 0, TJ61, [], G12 Try.prog X a 9 (goL a (X.ls.drop i) i L), 17⟩
  | 0, i, L, h, hL => by
    have : i = X.ls.length := by omega
    subst this
    rw [List.drop_length]
    exact loopL_out (pg_out X a L) (by show Exit.exit 0 ≠ Exit.normal; simp) (by omega) (M := 17) (by show 10 ≤ 17; omega)
  | k + 1, i, L, h, hL => by
    have hlt : i < X.ls.length := by omega
    have hi : X.ls[i]? = some X.ls[i] := List.getElem?_eq_getElem hlt
    obtain ⟨c, n2, hc, hn, h1⟩ := pg_go X (a := a) (L := L) (by omega) hi
    rw [List.drop_eq_getElem_cons hlt]
    simp only [goL]
    rw [show (i : Int) + 1 = ((i + 1 : Nat) : Int) by push_cast; rfl, wrap_nat (by omega)] at h1
    have hl := two_len (a := a) (l := X.ls[i]) (i := i) (L := L)
    exact pg_step X hc hn rfl h1 (pg_loop X h24 k (i + 1) _ (by omega) (by omega))
termination_by k => k
theorem ans_eq (X : Cx) {i p : Nat} (hp : p / 2 = i) (hi : i < X.ls.length) : ansAt X 42 p = fromS X.ls[i] p := by
  unfold ansAt
  have : ((p : Int)).toNat / 2 = i := by simpa using hp
  rw [this, ls_getD hi]
  rfl
theorem go_col (X : Cx) (a : Int) : ∀ (k i : Nat) (L : List Int), i + k = X.ls.length → goL a (X.ls.drop i) i L = colS X a (2 * k) (2 * i) L
  | 0, i, L, h => by
    rw [List.drop_eq_nil_of_le (by omega)]
    rfl
  | k + 1, i, L, h => by
    have hlt : i < X.ls.length := by omega
    rw [List.drop_eq_getElem_cons hlt]
    simp only [goL]
    rw [go_col X a k (i + 1) _ (by omega), show 2 * (k + 1) = 2 * k + 1 + 1 by omega]
    simp only [colS]
    rw [ans_eq X (p := 2 * i) (by omega) hlt, ans_eq X (p := 2 * i + 1) (by omega) hlt]
    rfl
theorem goL_eq (X : Cx) (a : Int) : goL a X.ls 0 [] = portsS X a := by
  have := go_col X a X.ls.length 0 [] (by omega)
  rwa [List.drop_zero] at this
theorem call_61 (X : Cx) {a : Int} (h24 : X.ls.length ≤ 24) {L : List Int} (hL : portsS X a = L) :
    (∃ fn, Try.prog.funcs[60]? = some fn ∧ fn.body.isSome = true) ∧ CallOk Try.prog 60 ([] ++ [Y7] ++ [pt 5]) (K12 Try.prog X a (slL 9 [])) 8 (.tuple #[]) (G12 Try.prog X a 9 L) 17 := by
  have hlo := loopOk_of_L (pg_loop X (a := a) h24 X.ls.length 0 [] (by omega) (by simp))
  rw [List.drop_zero, goL_eq, hL] at hlo
  cases L <;>
    exact call_k [9] (hs := []) (ch := [⟨1, none, .loop (lp Try.prog 60 1), T61 X 0, [], G12 Try.prog X a 9 [], 9, _, true⟩]) (evk 50) special trivial ⟨codeOk_loop hlo, trivial⟩ (by kernel_rfl)
def R12 (X : Cx) (a : Int) (L : List Int) : Res := ⟨.normal, T12 X a, [6], hpL 9 L ((6, .defd) :: H12 X a (slL 9 L)), 17⟩
theorem range_12 (X : Cx) {a : Int} (h24 : X.ls.length ≤ 24) {L : List Int} (hL : portsS X a = L) : CodeOk Try.prog none (rf Try.prog 12 9) (T12 X a) [] (H12 X a (.slice none 0 0)) 6 (R12 X a L) := by
  have h := call_61 X h24 hL
  cases L with
  | nil => exact range_by special (by kernel_rfl) (by kernel_rfl) h (show (G12 Try.prog X a 9 []).get 7 = some (.loop (L12 Try.prog X a)) from rfl) (by kernel_rfl)
  | cons x r => exact range_by special (by kernel_rfl) (by kernel_rfl) h (show (G12 Try.prog X a 9 (x :: r)).get 7 = some (.loop (L12 Try.prog X a)) from rfl) (by kernel_rfl)
def portsV (b : Nat) (c n1 : Bool) (L : List Int) : Value := bif c then (bif n1 then .tuple #[slL b L, .int .i64 0] else .tuple #[.slice none 0 0, .int .i64 2]) else .tuple #[.slice none 0 0, .int .i64 260]
theorem node_two {N a : Int} {n1 : Bool} (h1 : nodeS N a = n1) : n1 = (!decide (a < 0) && !decide (a ≥ N)) := by
  subst h1
  unfold nodeS
  by_cases h : a < 0 <;> by_cases h' : a ≥ N <;> simp [h, h'] <;> omega
theorem ports_0 (X : Cx) (hd : X.ls.length ≤ X.d) (hd2 : capD X.d) (a : Int) {c n1 : Bool} {L : List Int} (h24 : c = true → X.ls.length ≤ 24) (hc : checkS X = c) (h1 : nodeS X.N a = n1) (hL : portsS X a = L) :
    Memo.Ok Try.prog ⟨12, 2, [X.v, .int .i64 a], X.V, portsV 9 c n1 L, (bif c && n1 then newL 9 L else []), (bif c && n1 then 17 else 4)⟩ := by
  have mc := check_m X hd hd2 hc 4
  have key : ∀ p1 p2, decide (a < 0) = p1 → decide (a ≥ X.N) = p2 → n1 = (!p1 && !p2) → Memo.Ok Try.prog ⟨12, 2, [X.v, .int .i64 a], X.V, portsV 9 c n1 L, (bif c && n1 then newL 9 L else []), (bif c && n1 then 17 else 4)⟩ := by
    intro p1 p2 e1 e2 e
    subst e
    cases c
    · cases p1 <;> cases p2 <;> cases L <;> exact memo_new (hs := [(2, .frz), (3, .frz), (10, .call _)]) (ch := []) (evk 50) special ⟨trivial, trivial, mc, trivial⟩ trivial (by kernel_rfl)
    · have hr := range_12 X (h24 rfl) hL
      cases p1
      · cases p2
        · cases L <;> exact memo_new (hs := [(2, .frz), (3, .frz), (10, .call _), (15, .val (.bool (decide (a < 0))) (.bool false)), (20, .val (.bool (decide (a ≥ X.N))) (.bool false)), (23, .call _)]) (ch := [⟨9, none, rf Try.prog 12 9, T12 X a, [], H12 X a (.slice none 0 0), 6, _, true⟩]) (evk 50) special ⟨trivial, trivial, mc, congrArg Value.bool e1, congrArg Value.bool e2, ends_5 X, trivial⟩ ⟨hr, trivial⟩ (by kernel_rfl)
        · cases L <;> exact memo_new (hs := [(2, .frz), (3, .frz), (10, .call _), (15, .val (.bool (decide (a < 0))) (.bool false)), (20, .val (.bool (decide (a ≥ X.N))) (.bool true))]) (ch := []) (evk 50) special ⟨trivial, trivial, mc, congrArg Value.bool e1, congrArg Value.bool e2, trivial⟩ trivial (by kernel_rfl)
      · cases p2 <;> cases L <;> exact memo_new (hs := [(2, .frz), (3, .frz), (10, .call _), (15, .val (.bool (decide (a < 0))) (.bool true))]) (ch := []) (evk 50) special ⟨trivial, trivial, mc, congrArg Value.bool e1, trivial⟩ trivial (by kernel_rfl)
  exact key _ _ rfl rfl (node_two h1)
end Go.Proofs.Ytkngbmaomgfcjaa.topo
/- Contracts: slices.Equal of two equal lists of ints; Ports, Find and the reference's at other names. -/
namespace Go.Proofs.Ytkngbmaomgfcjaa.topo
open Go Go.En
set_option linter.unusedVariables false

def TE15 (n c e : Nat) (i : Int) : List Value := [.slice (some ⟨0, 0, none⟩) n c, .slice (some ⟨1, 0, none⟩) n e, J, J, .bool false, J, J, J, J, J, J, J, .int .i64 n, .int .i64 i] ++ List.replicate 12 J
def TRE15 : List Value := [J, J, J, J, .bool false, J, J, J, J, J, J, J, J, J] ++ List.replicate 12 J
def HE15 (L : List Int) : Hp := [(0, .cells (ic L) true), (1, .cells (ic L) true)]
theorem HE15_below (L : List Int) : hpBelow 5 (HE15 L) = true := by
  have a1 : tidyB 5 (.cells (ic L) true) = true := small_avL (ic_av L)
  simp [HE15, hpBelow, a1]
theorem qe_go {L : List Int} {c e i : Nat} (h : i < L.length) :
    CodeOk Try.prog none (lp Try.prog 15 4) (TE15 L.length c e i) [] (HE15 L) 5 ⟨.normal, TE15 L.length c e (IntKind.i64.wrap (i + 1)), [], HE15 L, 5⟩ := by
  have i1 : doIndexAddr Try.prog 28 (.slice (some ⟨0, 0, none⟩) L.length c) (.int .i64 i) = _ := ix_i h
  have i2 : doIndexAddr Try.prog 28 (.slice (some ⟨1, 0, none⟩) L.length e) (.int .i64 i) = _ := ix_i h
  have l1 := ld_i (b := 0) (ro := true) h
  have l2 := ld_i (b := 1) (ro := true) h
  have hne : (L.getD i 0 != L.getD i 0) = false := by simp
  exact code_at (hs := [(14, .val (.bool (decide ((i : Int) < L.length))) (.bool true)), (18, .ix 28 (.slice (some ⟨0, 0, none⟩) L.length c) (.int .i64 i) _), (19, .ld 3 _ 0 (ic L) true _), (22, .ix 28 (.slice (some ⟨1, 0, none⟩) L.length e) (.int .i64 i) _), (23, .ld 3 _ 1 (ic L) true _), (24, .val (.bool (L.getD i 0 != L.getD i 0)) (.bool false))]) (ch := []) (evk 50) special
    ⟨congrArg Value.bool (decide_eq_true (by omega)), i1, ⟨l1, _, rfl⟩, i2, ⟨l2, _, rfl⟩, congrArg Value.bool hne, trivial⟩ trivial (by kernel_rfl) (HE15_below L) (HE15_below L) (by kernel_rfl)
theorem qe_out {L : List Int} {c e : Nat} : CodeOk Try.prog none (lp Try.prog 15 4) (TE15 L.length c e L.length) [] (HE15 L) 5 ⟨.exit 0, TRE15, [], HE15 L, 5⟩ :=
  code_at (hs := [(14, .val (.bool (decide ((L.length : Int) < L.length))) (.bool false))]) (ch := []) (evk 50) special ⟨congrArg Value.bool (decide_eq_false (by omega)), trivial⟩ trivial (by kernel_rfl) (HE15_below L) (HE15_below L) (by kernel_rfl)
theorem qe_loop {L : List Int} {c e : Nat} (hL : L.length ≤ 1000) : ∀ (k i : Nat), i + k = L.length → LoopOk Try.prog none (lp Try.prog 15 4) (TE15 L.length c e i) [] (HE15 L) 5 ⟨.exit 0, TRE15, [], HE15 L, 5⟩
  | 0, i, h => by
    have : i = L.length := by omega
    subst this
    exact loopOk_out qe_out (by show Exit.exit 0 ≠ Exit.normal; simp)
  | k + 1, i, h => by
    have h1 := qe_go (L := L) (c := c) (e := e) (i := i) (by omega)
    rw [show (i : Int) + 1 = ((i + 1 : Nat) : Int) by push_cast; rfl, wrap_nat (by omega)] at h1
    exact loop_step h1 (qe_loop hL k (i + 1) (by omega))
termination_by k => k
theorem eqi_0 {L : List Int} {c e : Nat} (hL : L.length ≤ 1000) : Memo.Ok Try.prog ⟨15, 2, [.slice (some ⟨0, 0, none⟩) L.length c, .slice (some ⟨1, 0, none⟩) L.length e], [(0, ic L), (1, ic L)], .bool true, [], 2⟩ := by
  have hS : En.smallH 2 [(0, ic L), (1, ic L)] = true := by simp [En.smallH, small_avL (ic_av L)]
  have hlo := qe_loop (c := c) (e := e) hL L.length 0 (by omega)
  have hne : ((L.length : Int) != (L.length : Int)) = false := by simp
  exact memo_pure (hs := [(10, .val (.bool ((L.length : Int) != (L.length : Int))) (.bool false))]) (ch := [⟨4, none, .loop (lp Try.prog 15 4), TE15 L.length c e 0, [], HE15 L, 5, _, true⟩]) 5 (evk 50) special ⟨congrArg Value.bool hne, trivial⟩ ⟨codeOk_loop hlo, trivial⟩ (by kernel_rfl) hS (by kernel_rfl)
theorem eqi_nil : Memo.Ok Try.prog ⟨15, 0, [.slice none 0 0, .slice none 0 0], [], .bool true, [], 0⟩ :=
  memo_pure (hs := []) (ch := []) 3 (evk 50) special trivial trivial (by kernel_rfl) (by kernel_rfl) (by kernel_rfl)
def VL (a : Nat) : List Int → List (Nat × List Value)
  | [] => []
  | x :: r => [(a, ic (x :: r))]
theorem eqi_m (L : List Int) (hL : L.length ≤ 1000) (a b nx : Nat) (hab : a ≠ b) : Memo.Ok Try.prog ⟨15, nx, [slL a L, slL b L], VL a L ++ VL b L, .bool true, [], nx⟩ := by
  cases L with
  | nil => exact memo_any eqi_nil nx (by kernel_rfl) rfl rfl
  | cons x r =>
    have := memo_ren (eqi_0 (L := x :: r) (c := oc1) (e := oc1) hL) (ρab a b) nx [(a, ic (x :: r)), (b, ic (x :: r))] (by kernel_rfl) (by simp [En.smallH, small_avL (ic_av _)]) rfl (fun y es hc => by
      by_cases h0 : 0 = y
      · subst h0
        simp [roHp, Hp.get, ρab] at hc ⊢
        subst hc
        exact (ic_ren _ _).symm
      · by_cases h1 : 1 = y
        · subst h1
          simp [roHp, Hp.get, ρab, hab] at hc ⊢
          subst hc
          exact (ic_ren _ _).symm
        · simp [roHp, Hp.get, h0, h1] at hc)
    exact this
theorem Cx.atG {X : Cx} {f : FuncId} {rest : List Value} {v v' : Value} {n' nx' : Nat} {new new' : List (Nat × List Value)} (h : Memo.Ok Try.prog ⟨f, 2, X.v :: rest, X.V, v, new, n'⟩) (nx : Nat) (hc : (En.smallL (En.small 2 5) rest && En.small n' 5 v && inNew 2 n' new) = true) (hn : En.smallH n' new = true)
    (h1 : rest.map (renV (shift (fun b => b) 2 nx) 5) = rest) (h2 : renV (shift (fun b => b) 2 nx) 5 v = v') (h3 : renH (shift (fun b => b) 2 nx) new = new') (h4 : nx + (n' - 2) = nx') : Memo.Ok Try.prog ⟨f, nx, X.v :: rest, X.V, v', new', nx'⟩ := by
  simp only [Bool.and_eq_true] at hc
  have hb : below 2 X.V = true := by kernel_rfl
  have := memo_ren h (fun b => b) nx X.V (by simp only [En.smallL, X.small (Nat.le_refl 2), hc.1.1, hc.1.2, hc.2, hb, Bool.and_self]) (X.smallH 2) hn (fun b cs hb => by
    by_cases h0 : 0 = b
    · subst h0
      simp [Cx.V, roHp, Hp.get] at hb ⊢
      subst hb
      exact (renV_avL X.avs).symm
    · by_cases h1 : 1 = b
      · subst h1
        simp [Cx.V, roHp, Hp.get] at hb ⊢
        subst hb
        exact (renV_avL X.avk).symm
      · simp [Cx.V, roHp, Hp.get, h0, h1] at hb)
  simpa [X.ren, h1, h2, h3, h4] using this
theorem newL_small (n k : Nat) (L : List Int) : En.smallH n (newL k L) = true := by
  cases L with
  | nil => rfl
  | cons x r => simp [newL, En.smallH, small_avL (ic_av _)]
theorem newL_ren {σ : Nat → Nat} {k k' : Nat} (h : σ k = k') (L : List Int) : renH σ (newL k L) = newL k' L := by
  cases L with
  | nil => rfl
  | cons x r =>
    have := ic_ren σ (x :: r)
    simp only [newL, renH, h, this]
theorem portsR_m (X : Cx) (a : Int) (h24 : X.ls.length ≤ 24) {L : List Int} (hL : portsS X a = L) : Memo.Ok Try.prog ⟨16, 18, [X.v, .int .i64 a], X.V, slL 19 L, newL 19 L, 23⟩ := by
  have h := portsR_0 X a h24
  rw [hL] at h
  refine Cx.atG h 18 ?_ (newL_small _ _ _) rfl ?_ (newL_ren rfl L) rfl <;> cases L <;> first | kernel_rfl | rfl
theorem ports_m (X : Cx) (hd : X.ls.length ≤ X.d) (hd2 : capD X.d) (a : Int) {c n1 : Bool} {L : List Int} (h24 : c = true → X.ls.length ≤ 24) (hc : checkS X = c) (h1 : nodeS X.N a = n1) (hL : portsS X a = L) :
    Memo.Ok Try.prog ⟨12, 3, [X.v, .int .i64 a], X.V, portsV 10 c n1 L, (bif c && n1 then newL 10 L else []), (bif c && n1 then 18 else 5)⟩ := by
  have h := ports_0 X hd hd2 a h24 hc h1 hL
  cases c
  · cases n1 <;> exact Cx.atG h 3 (by kernel_rfl) rfl rfl rfl rfl rfl
  · cases n1
    · exact Cx.atG h 3 (by kernel_rfl) rfl rfl rfl rfl rfl
    · refine Cx.atG h 3 ?_ (newL_small _ _ _) rfl ?_ (newL_ren rfl L) rfl <;> cases L <;> first | kernel_rfl | rfl
theorem find_m (X : Cx) (hd : X.ls.length ≤ X.d) (hd2 : capD X.d) (a b : Int) {c n1 n2 : Bool} {g : Option Nat} (hc : checkS X = c) (h1 : nodeS X.N a = n1) (h2 : nodeS X.N b = n2) (hg : findS X a b = g) (nx : Nat) :
    Memo.Ok Try.prog ⟨13, nx, [X.v, .int .i64 a, .int .i64 b], X.V, findV c n1 n2 g, [], nx⟩ := by
  have h := find_0 X hd hd2 a b hc h1 h2 hg
  cases c <;> cases n1 <;> cases n2 <;> cases g <;> exact Cx.at h nx (by kernel_rfl) rfl rfl
theorem findR_m (X : Cx) (a b : Int) {g : Option Nat} (hg : findS X a b = g) (nx : Nat) : Memo.Ok Try.prog ⟨17, nx, [X.v, .int .i64 a, .int .i64 b], X.V, .int .i64 (optI g), [], nx⟩ :=
  Cx.at (hg ▸ findR_0 X a b) nx rfl rfl rfl
theorem portsS_len (X : Cx) (a : Int) : ∀ (k p : Nat) (L : List Int), (colS X a k p L).length ≤ L.length + k
  | 0, p, L => by simp [colS]
  | k + 1, p, L => by
    have := portsS_len X a k (p + 1) (bif ansAt X 42 p == a then L ++ [(p : Int)] else L)
    simp only [colS]
    cases h : (ansAt X 42 p == a) <;> simp [h] at this ⊢ <;> omega
end Go.Proofs.Ytkngbmaomgfcjaa.topo
/- The engine, part OP: a loop whose rounds give new blocks, begun with a block that has another name. -/
namespace Go.En
set_option linter.unusedVariables false
variable {P : Program} {H : Hp}

theorem loopOk_ren {lo : Nat} {r : Option Nat} {c : Code} {tm' : List Value} {ds : List Nat} {H' : Hp} {nx : Nat} {R : Res} (σ : Nat → Nat) (h2 : LoopL P lo r c tm' ds H' nx R)
    (hσ : ∀ b, b < lo → σ b = b) (hc : (tmBelow nx tm' && nodupN (renHp σ H') && fixB lo H' && dsBelow lo ds && rBelow lo r) = true) (hb : hpBelow nx H' = true) : LoopOk P r c (tm'.map (renV σ 5)) ds (renHp σ H') lo R := by
  obtain ⟨l1, l2, m, h2⟩ := h2
  simp only [Bool.and_eq_true] at hc
  obtain ⟨⟨⟨⟨c1, c2⟩, c3⟩, c4⟩, c5⟩ := hc
  refine ⟨Nat.le_trans l1 l2, m, fun φ w K a rc g hf ht hd hr => ?_⟩
  let φ2 : Ren := fun b => if b < nx then φ (σ b) else if b < R.nx then none else φ b
  have e2 : ∀ b L, b < nx → φ (σ b) = some L → φ2 b = some L := fun b L hb hL => by simp [φ2, hb, hL]
  have e3 : ∀ b, b < lo → φ2 b = φ b := fun b hb => by
    have : b < nx := by omega
    simp only [φ2, this, if_true, hσ b hb]
  have e4 : ∀ b, b < lo → φ b = φ2 b := fun b hb => (e3 b hb).symm
  have g2 : Good φ2 H' K w := by
    refine ⟨fun b k hbk => ?_, fun b d k k' L L' hbk hdk hne hkr hL hL' => ?_, fun b k L hbk hkr hL => ?_, g.kin⟩
    · obtain ⟨hlt, htd⟩ := hpBelow_get hb hbk
      obtain ⟨L, hL, hB⟩ := g.rel _ _ (renHp_get c2 hbk)
      refine ⟨L, e2 b L hlt hL, ?_⟩
      have hfx := fixB_get c3 hbk
      cases k with
      | cells cs ro =>
        obtain ⟨arr, el, fr, f1, f2, f3⟩ := hB
        refine ⟨arr, el, fr, f1, fun j v hv => ?_, f3⟩
        obtain ⟨v', q1, q2⟩ := f2 j (renV σ 5 v) (by simp [hv])
        exact ⟨v', q1, ren_bwd e2 5 v v' (smallL_get htd hv) q2⟩
      | loop l =>
        obtain ⟨x1, x2, x3⟩ := hfx
        obtain ⟨l', f1, f2, f3, f4, f5, f6, f7, D, f8, f9⟩ := hB
        refine ⟨l', f1, f2, f3, ⟨f4.1, fun i v hv => ?_⟩, f5, f6, f7, D, by rw [← e4 _ x3]; exact f8, f9⟩
        rcases f4.2 i v hv with h | ⟨v', q1, q2⟩
        · exact .inl h
        · exact .inr ⟨v', q1, small_rel e4 5 v v' (smallL_get x2 hv) q2⟩
      | defd => exact hB
      | hid => exact hfx.elim
    · obtain ⟨hlt, _⟩ := hpBelow_get hb hbk
      obtain ⟨hlt', _⟩ := hpBelow_get hb hdk
      simp only [φ2, hlt, hlt', if_true] at hL hL'
      exact g.sep _ _ _ _ L L' (renHp_get c2 hbk) (renHp_get c2 hdk) (renHp_inj c2 hbk hdk hne) (by cases k <;> exact hkr) hL hL'
    · obtain ⟨hlt, _⟩ := hpBelow_get hb hbk
      simp only [φ2, hlt, if_true] at hL
      exact g.prot _ _ L (renHp_get c2 hbk) (by cases k <;> exact hkr) hL
  have t2 : TRel φ2 tm' a.tmps := by
    refine ⟨by have := ht.1; simpa using this, fun i v hv => ?_⟩
    rcases tmBelow_get c1 hv with hj | hs
    · exact .inl (isJunk_eq hj)
    · rcases ht.2 i (renV σ 5 v) (by simp [hv]) with h | ⟨v', q1, q2⟩
      · exact absurd h (renV_junk hs)
      · exact .inr ⟨v', q1, ren_bwd e2 5 v v' hs q2⟩
  have d2 : DRel φ2 ds a.defers := by
    have : ∀ (ds : List Nat) (xs : List Deferred), dsBelow lo ds = true → DRel φ ds xs → DRel φ2 ds xs := by
      intro ds
      induction ds with
      | nil => intro xs _ h; cases xs <;> exact h
      | cons d ds ih =>
        intro xs hb h
        simp only [dsBelow, List.all_cons, Bool.and_eq_true, decide_eq_true_eq] at hb
        cases xs with
        | nil => exact h
        | cons x xs =>
          obtain ⟨⟨L, q1, q2⟩, q3⟩ := h
          exact ⟨⟨L, by rw [← e4 d hb.1]; exact q1, q2⟩, ih xs hb.2 q3⟩
    exact this ds _ c4 hd
  have r2 : RRel φ2 r rc := by
    cases r with
    | none => cases rc <;> exact hr
    | some l =>
      cases rc with
      | none => exact hr
      | some cc =>
        obtain ⟨L, q1, q2⟩ := hr
        simp only [rBelow, decide_eq_true_eq] at c5
        exact ⟨L, by rw [e3 l c5]; exact q1, q2⟩
  have := h2 φ2 w K a rc g2 (fun b h3 h4 => by simp only [φ2, show ¬ b < nx by omega, h4, if_true, if_false]) t2 d2 r2
  have mono : ∀ (m : Nat) (a : Act) (w2 : World), Code.roundsIn (fw rc) 0 P c (PostL lo φ2 K w R) m a w2 → Code.roundsIn (fw rc) 0 P c (Post φ K w lo R) m a w2 := by
    intro m
    induction m with
    | zero => intro a w2 h; exact h
    | succ m ih =>
      intro a w2 h
      rw [roundsIn_succ] at h ⊢
      refine wpIn_mono h ?_
      intro e a2 w3 hq
      have key : ∀ e, PostL lo φ2 K w R e a2 w3 → Post φ K w lo R e a2 w3 := by
        rintro e ⟨rfl, φ', q1, q2, q3, q4, q5⟩
        have ag : ∀ b, b < lo ∨ R.nx ≤ b → φ' b = φ b := fun b hb => by
          rw [q1 b hb]
          rcases hb with hb | hb
          · exact e3 b hb
          · simp only [φ2, show ¬ b < nx by omega, show ¬ b < R.nx by omega, if_false]
        refine ⟨rfl, φ', ⟨fun b L hbL => ?_, ag⟩, q2, q3, q4, q5⟩
        by_cases hlt : b < lo ∨ R.nx ≤ b
        · rw [ag b hlt]; exact hbL
        · have := hf b (by omega) (by omega)
          rw [hbL] at this; cases this
      cases e <;> first | exact ih _ _ hq | exact key _ hq
  exact mono m a w this
end Go.En
/- The engine, part OQ: what comes out, under other names. -/
namespace Go.En
set_option linter.unusedVariables false
variable {P : Program} {H : Hp}

theorem codeOk_name {r : Option Nat} {c : Code} {tm tm' : List Value} {ds : List Nat} {H' : Hp} {nx n1 n2 : Nat} {e : Exit} (σ : Nat → Nat) (h : CodeOk P r c tm ds H nx ⟨e, tm'.map (renV σ 5), [], renHp σ H', n1⟩) (hn : n1 ≤ n2)
    (hσ : ∀ b, b < nx → σ b = b) (hc : (tmBelow n2 tm' && nodupN (renHp σ H') && fixB nx H') = true) (hb : hpBelow n2 H' = true) : CodeOk P r c tm ds H nx ⟨e, tm', [], H', n2⟩ := by
  simp only [Bool.and_eq_true] at hc
  obtain ⟨⟨c1, c2⟩, c3⟩ := hc
  refine ⟨Nat.le_trans h.1 hn, fun φ w K a rc g hf ht hd hr => ?_⟩
  refine wpIn_mono (h.2 φ w K a rc g (hf.left hn) ht hd hr) ?_
  rintro e a1 w1 ⟨rfl, φ1, k1, k2, k3, k4, k5⟩
  let φ2 : Ren := fun b => if b < n2 then φ1 (σ b) else φ b
  have e2 : ∀ b L, b < n2 → φ1 (σ b) = some L → φ2 b = some L := fun b L hb hL => by simp [φ2, hb, hL]
  have hnx : nx ≤ n2 := Nat.le_trans h.1 hn
  have e3 : ∀ b, b < nx → φ2 b = φ b := fun b hb => by
    have : b < n2 := by omega
    simp only [φ2, this, if_true, hσ b hb]
    exact k1.2 b (.inl hb)
  have e4 : ∀ b, b < nx → φ1 b = φ2 b := fun b hb => by rw [e3 b hb]; exact k1.2 b (.inl hb)
  have g2 : Good φ2 H' K w1 := by
    refine ⟨fun b k hbk => ?_, fun b d k k' L L' hbk hdk hne hkr hL hL' => ?_, fun b k L hbk hkr hL => ?_, k2.kin⟩
    · obtain ⟨hlt, htd⟩ := hpBelow_get hb hbk
      obtain ⟨L, hL, hB⟩ := k2.rel _ _ (renHp_get c2 hbk)
      refine ⟨L, e2 b L hlt hL, ?_⟩
      have hfx := fixB_get c3 hbk
      cases k with
      | cells cs ro =>
        obtain ⟨arr, el, fr, f1, f2, f3⟩ := hB
        refine ⟨arr, el, fr, f1, fun j v hv => ?_, f3⟩
        obtain ⟨v', q1, q2⟩ := f2 j (renV σ 5 v) (by simp [hv])
        exact ⟨v', q1, ren_bwd e2 5 v v' (smallL_get htd hv) q2⟩
      | loop l =>
        obtain ⟨x1, x2, x3⟩ := hfx
        obtain ⟨l', f1, f2, f3, f4, f5, f6, f7, D, f8, f9⟩ := hB
        refine ⟨l', f1, f2, f3, ⟨f4.1, fun i v hv => ?_⟩, f5, f6, f7, D, by rw [← e4 _ x3]; exact f8, f9⟩
        rcases f4.2 i v hv with h | ⟨v', q1, q2⟩
        · exact .inl h
        · exact .inr ⟨v', q1, small_rel e4 5 v v' (smallL_get x2 hv) q2⟩
      | defd => exact hB
      | hid => exact hfx.elim
    · obtain ⟨hlt, _⟩ := hpBelow_get hb hbk
      obtain ⟨hlt', _⟩ := hpBelow_get hb hdk
      simp only [φ2, hlt, hlt', if_true] at hL hL'
      exact k2.sep _ _ _ _ L L' (renHp_get c2 hbk) (renHp_get c2 hdk) (renHp_inj c2 hbk hdk hne) (by cases k <;> exact hkr) hL hL'
    · obtain ⟨hlt, _⟩ := hpBelow_get hb hbk
      simp only [φ2, hlt, if_true] at hL
      exact k2.prot _ _ L (renHp_get c2 hbk) (by cases k <;> exact hkr) hL
  have t2 : TRel φ2 tm' a1.tmps := by
    refine ⟨by have := k3.1; simpa using this, fun i v hv => ?_⟩
    rcases tmBelow_get c1 hv with hj | hs
    · exact .inl (isJunk_eq hj)
    · rcases k3.2 i (renV σ 5 v) (by simp [hv]) with h | ⟨v', q1, q2⟩
      · exact absurd h (renV_junk hs)
      · exact .inr ⟨v', q1, ren_bwd e2 5 v v' hs q2⟩
  have d2 : DRel φ2 [] a1.defers := by
    cases hx : a1.defers with
    | nil => exact trivial
    | cons x xs => rw [hx] at k4; exact k4.elim
  have ag : ∀ b, b < nx ∨ n2 ≤ b → φ2 b = φ b := fun b hb => by
    rcases hb with hb | hb
    · exact e3 b hb
    · simp only [φ2, show ¬ b < n2 by omega, if_false]
  refine ⟨rfl, φ2, ⟨fun b L hbL => ?_, ag⟩, g2, t2, d2, k5⟩
  by_cases hlt : b < nx ∨ n2 ≤ b
  · rw [ag b hlt]; exact hbL
  · have := hf b (by omega) (by show b < n2; omega)
    rw [hbL] at this; cases this
/-- Names that are not needed may be left out. -/
theorem loopOk_low {r : Option Nat} {c : Code} {tm : List Value} {ds : List Nat} {n m : Nat} {R : Res} (h : LoopOk P r c tm ds H n R) (hm : m ≤ n) : LoopOk P r c tm ds H m R := by
  obtain ⟨l, k, h⟩ := h
  refine ⟨Nat.le_trans hm l, k, fun φ w K a rc g hf ht hd hr => ?_⟩
  have h0 := h φ w K a rc g (fun b h1 h2 => hf b (by omega) h2) ht hd hr
  have mono : ∀ (k : Nat) (a : Act) (w2 : World), Code.roundsIn (fw rc) 0 P c (Post φ K w n R) k a w2 → Code.roundsIn (fw rc) 0 P c (Post φ K w m R) k a w2 := by
    intro k
    induction k with
    | zero => intro a w2 h; exact h
    | succ k ih =>
      intro a w2 h
      rw [roundsIn_succ] at h ⊢
      refine wpIn_mono h ?_
      intro e a2 w3 hq
      have key : ∀ e, Post φ K w n R e a2 w3 → Post φ K w m R e a2 w3 := by
        rintro e ⟨rfl, φ', k1, k2, k3, k4, k5⟩
        exact ⟨rfl, φ', ⟨k1.1, fun b hb => k1.2 b (by omega)⟩, k2, k3, k4, k5⟩
      cases e <;> first | exact ih _ _ hq | exact key _ hq
  exact mono k a w h0
end Go.En
/- Contracts: the reference's pick, link (at any names). -/
namespace Go.Proofs.Ytkngbmaomgfcjaa.topo
open Go Go.En
set_option linter.unusedVariables false

structure U8 where
  x : Int
  h : 0 ≤ x ∧ x < 256
def U8.cells (a : U8) : List Value := [.int .u8 a.x]
abbrev ucs (l : List U8) : List Value := cellsOfL U8.cells l
theorem avL_app {a b : List Value} (ha : avL a = true) (hb : avL b = true) : avL (a ++ b) = true := by
  induction a with
  | nil => exact hb
  | cons x a ih =>
    simp only [List.cons_append, avL, Bool.and_eq_true] at ha ⊢
    exact ⟨ha.1, ih ha.2⟩
theorem avL_cellsOfL {α : Type} {f : α → List Value} (hf : ∀ a, avL (f a) = true) : ∀ l : List α, avL (cellsOfL f l) = true
  | [] => rfl
  | a :: l => avL_app (hf a) (avL_cellsOfL hf l)
theorem ucs_av (l : List U8) : avL (ucs l) = true := avL_cellsOfL (fun _ => rfl) l
theorem cellsOfL_get {α : Type} {f : α → List Value} {s : Nat} (hf : ∀ a, (f a).length = s) : ∀ {l : List α} {i : Nat} {a : α}, l[i]? = some a → ∀ (j : Nat) v, (f a)[j]? = some v → (cellsOfL f l)[0 + i * s + j]? = some v
  | [], i, a, h, j, v, hv => by simp at h
  | b :: l, 0, a, h, j, v, hv => by
    simp only [List.getElem?_cons_zero, Option.some.injEq] at h
    subst h
    have := (List.getElem?_eq_some_iff.1 hv).1
    simp only [cellsOfL]
    rw [List.getElem?_append_left (by omega)]
    simpa using hv
  | b :: l, i + 1, a, h, j, v, hv => by
    simp only [List.getElem?_cons_succ] at h
    have := cellsOfL_get hf h j v hv
    simp only [cellsOfL]
    rw [List.getElem?_append_right (by rw [hf, Nat.add_mul]; omega), ← this]
    congr 1
    rw [hf, Nat.add_mul]; omega
theorem u44 : Try.prog.underlying 44 = some (.slice 5) := by kernel_rfl
theorem z5 : szIs Try.prog 5 1 false = true := by kernel_rfl
abbrev W (a : Int) : Int := IntKind.i64.wrap a
theorem W_spec (a : Int) : -9223372036854775808 ≤ W a ∧ W a < 9223372036854775808 ∧ (W a - a) % 18446744073709551616 = 0 := by
  simp only [W, IntKind.wrap, IntKind.signed, IntKind.bits]
  simp
  split <;> omega
theorem W_id {a : Int} (h : -9223372036854775808 ≤ a ∧ a < 9223372036854775808) : W a = a := by
  have := W_spec a
  omega
/-- Element i, or 0. -/
def pickS (L : List U8) (i : Nat) : Int := match L[i]? with
  | some u => u.x
  | none => 0
theorem pickS_ok (L : List U8) (i : Nat) : 0 ≤ pickS L i ∧ pickS L i < 256 := by
  unfold pickS
  split
  · rename_i u _; exact u.h
  · omega
theorem pick_0 {L : List U8} {c i : Nat} {s : Option Addr} (h : Sl 0 L.length s) : Memo.Ok Try.prog ⟨50, 1, [.slice s L.length c, .int .i64 i], [(0, ucs L)], .int .i64 (pickS L i), [], 1⟩ := by
  have hS : En.smallH 1 [(0, ucs L)] = true := by simp [En.smallH, small_avL (ucs_av L)]
  by_cases hi : i < L.length
  · have hd : decide ((i : Int) < L.length) = true := decide_eq_true (by omega)
    have hat : L[i]? = some L[i] := List.getElem?_eq_getElem hi
    have hs : s = some ⟨0, 0, none⟩ := by
      rcases h with ⟨_, h0⟩ | h0
      · omega
      · exact h0
    subst hs
    have l1 : doLoad Try.prog [(0, .cells (ucs L) true)] 5 (.pointer (some ⟨0, 0 + i * 1, none⟩)) = some (.int .u8 L[i].x) := ld1 z5 (cellsOfL_get (f := U8.cells) (s := 1) (fun _ => rfl) hat 0 _ rfl)
    have i1 : doIndexAddr Try.prog 44 (.slice (some ⟨0, 0, none⟩) L.length c) (.int .i64 i) = some (.pointer (some ⟨0, 0 + i * 1, none⟩)) := Sl.ix' (.inr rfl) u44 z5 hi
    have hx := L[i].h
    have w1 : W L[i].x = L[i].x := W_id (by omega)
    unfold pickS
    rw [hat]
    simp only
    generalize L[i].x = x at l1 w1
    exact memo_pure (hs := [(8, .val (.bool (decide ((i : Int) < L.length))) (.bool true)), (11, .ix 44 (.slice (some ⟨0, 0, none⟩) L.length c) (.int .i64 i) _), (12, .ld 5 _ 0 (ucs L) true _), (13, .val (.int .i64 (W x)) (.int .i64 x))]) (ch := []) 2 (evk 50) special
      ⟨congrArg Value.bool hd, i1, ⟨l1, _, rfl⟩, congrArg (Value.int .i64) w1, trivial⟩ trivial (by kernel_rfl) hS (by kernel_rfl)
  · have hd : decide ((i : Int) < L.length) = false := decide_eq_false (by omega)
    unfold pickS
    rw [List.getElem?_eq_none (by omega)]
    simp only
    rcases h with ⟨rfl, _⟩ | rfl <;>
      exact memo_pure (hs := [(8, .val (.bool (decide ((i : Int) < L.length))) (.bool false))]) (ch := []) 2 (evk 50) special ⟨congrArg Value.bool hd, trivial⟩ trivial (by kernel_rfl) hS (by kernel_rfl)
theorem pick_m {L : List U8} {c i b : Nat} {s : Option Addr} (h : Sl b L.length s) {v : Int} (hv : pickS L i = v) (nx : Nat) : Memo.Ok Try.prog ⟨50, nx, [.slice s L.length c, .int .i64 i], [(b, ucs L)], .int .i64 v, [], nx⟩ := by
  subst hv
  rcases h with ⟨rfl, h0⟩ | rfl
  · have hm := pick_0 (L := L) (c := c) (i := i) (s := none) (.inl ⟨rfl, h0⟩)
    exact memo_blk hm (ucs_av L) b nx (by kernel_rfl) rfl rfl
  · have hm := pick_0 (L := L) (c := c) (i := i) (s := some ⟨0, 0, none⟩) (.inr rfl)
    exact memo_blk hm (ucs_av L) b nx (by kernel_rfl) rfl rfl
/-! ### link, where the stations lie at block s -/
def oc1b : Nat := openCap + 1
def tvS (N : Int) (s n c : Nat) (q : Value) : Value := .agg #[.int .i64 N, .slice (some ⟨s, 0, none⟩) n c, q]
def linkS (S : List Bool) (N : Int) (l : Lk) : Bool := k1 N l && (k2 (S.getD l.a.toNat false) (S.getD l.b.toNat false) && k4 l)
theorem link_all {S : List Bool} {N : Int} {c d : Nat} {sb : Option Addr} {m : Nat} (hsb : Sl 1 m sb) (hN : N = S.length) (hS : S.length ≤ 1000) (l : Lk) {p : Bool} (hp : linkS S N l = p) :
    Memo.Ok Try.prog ⟨45, 2, [tvS N 0 S.length c (.slice sb m d), l.v], [(0, bc S)], .bool p, [], 2⟩ := by
  have hSm : En.smallH 2 [(0, bc S)] = true := by simp [En.smallH, small_avL (bc_av S)]
  have mn : ∀ n p, nodeS N n = p → Memo.Ok Try.prog ⟨61, 4, [tvS N 0 S.length c (.slice sb m d), .int .i64 n], [], .bool p, [], 4⟩ := by
    intro n p hp
    have h0 : Memo.Ok Try.prog ⟨61, 2, [tvS N 0 S.length c (.slice sb m d), .int .i64 n], [], .bool p, [], 2⟩ := by
      unfold nodeS at hp
      have key : ∀ q, decide (n ≥ 0) = q → (q && decide (n < N)) = p → Memo.Ok Try.prog ⟨61, 2, [tvS N 0 S.length c (.slice sb m d), .int .i64 n], [], .bool p, [], 2⟩ := by
        intro q hq h
        subst h
        rcases hsb with ⟨rfl, _⟩ | rfl <;> cases q <;> exact memo_pure (hs := [(6, .val (.bool (decide (n ≥ 0))) (.bool _))]) (ch := []) 3 (evk 50) special ⟨congrArg Value.bool hq, trivial⟩ trivial (by kernel_rfl) rfl (by kernel_rfl)
      exact key _ rfl hp
    rcases hsb with ⟨rfl, _⟩ | rfl <;> exact memo_ren h0 (fun b => b) 4 [] (by kernel_rfl) rfl rfl (fun x cs hx => by simp [roHp, Hp.get] at hx)
  cases hk : k1 N l with
  | false =>
    have hpf : p = false := by rw [← hp]; unfold linkS; rw [hk]; rfl
    subst hpf
    have key : ∀ p1 p2 p3, nodeS N l.a = p1 → nodeS N l.b = p2 → (l.a == l.b) = p3 → (p1 && p2 && !p3) = false → Memo.Ok Try.prog ⟨45, 2, [tvS N 0 S.length c (.slice sb m d), l.v], [(0, bc S)], .bool false, [], 2⟩ := by
      intro p1 p2 p3 h1 h2 h3 h4
      have m1 := mn l.a _ h1
      have m2 := mn l.b _ h2
      obtain ⟨a, b, pp, q⟩ := l
      rcases hsb with ⟨rfl, _⟩ | rfl <;> cases p1 <;> cases p2 <;> cases p3 <;> first
        | (exfalso; revert h4; decide)
        | exact memo_pure (hs := [(8, .call _), (14, .call _), (22, .val (.bool (a == b)) (.bool _))]) (ch := []) 4 (evk 50) special ⟨m1, m2, congrArg Value.bool h3, trivial⟩ trivial (by kernel_rfl) hSm (by kernel_rfl)
    exact key _ _ _ rfl rfl rfl (by unfold k1 at hk; simpa using hk)
  | true =>
    have he := ends_of hk
    obtain ⟨e1, e2, e3, e4⟩ := he
    obtain ⟨a, ha⟩ : ∃ a : Nat, l.a = a := ⟨l.a.toNat, by omega⟩
    obtain ⟨b, hb⟩ : ∃ b : Nat, l.b = b := ⟨l.b.toNat, by omega⟩
    have hla : a < S.length := by omega
    have hlb : b < S.length := by omega
    have ix1 := ix_b (b := 0) (c := c) hla
    have ix2 := ix_b (b := 0) (c := c) hlb
    have l1 := ld_b (b := 0) (ro := true) hla
    have l2 := ld_b (b := 0) (ro := true) hlb
    unfold linkS at hp
    rw [hk, ha, hb] at hp
    simp only [Bool.true_and, Int.toNat_natCast] at hp
    simp only [k1, Bool.and_eq_true] at hk
    have m1 := mn l.a _ hk.1.1
    have m2 := mn l.b _ hk.1.2
    have h0 : (l.a == l.b) = false := by simpa using hk.2
    unfold k4 at hp
    generalize S.getD a false = x at l1 hp
    generalize S.getD b false = y at l2 hp
    have key : ∀ p1 p2 p3, decide (l.per ≥ 1) = p1 → decide (l.per ≤ 1000) = p2 → decide (l.dl ≥ 0) = p3 → (k2 x y && (((p1 && p2) && p3) && decide (l.dl ≤ 10000))) = p → Memo.Ok Try.prog ⟨45, 2, [tvS N 0 S.length c (.slice sb m d), l.v], [(0, bc S)], .bool p, [], 2⟩ := by
      intro p1 p2 p3 h1 h2 h3 h4
      subst h4
      obtain ⟨a', b', pp, q⟩ := l
      dsimp only at ha hb
      subst ha
      subst hb
      rcases hsb with ⟨rfl, _⟩ | rfl <;> cases x <;> cases y <;> cases p1 <;> cases p2 <;> cases p3 <;>
        exact memo_pure (hs := [(8, .call _), (14, .call _), (22, .val (.bool ((a : Int) == (b : Int))) (.bool false)), (29, .ix 22 (.slice (some ⟨0, 0, none⟩) S.length c) (.int .i64 a) _), (30, .ld 4 _ 0 (bc S) true _), (36, .ix 22 (.slice (some ⟨0, 0, none⟩) S.length c) (.int .i64 b) _), (37, .ld 4 _ 0 (bc S) true _), (42, .val (.bool (decide (pp ≥ 1))) (.bool _)), (46, .val (.bool (decide (pp ≤ 1000))) (.bool _)), (51, .val (.bool (decide (q ≥ 0))) (.bool _))]) (ch := []) 4 (evk 50) special
          ⟨m1, m2, congrArg Value.bool h0, ix1, ⟨l1, _, rfl⟩, ix2, ⟨l2, _, rfl⟩, congrArg Value.bool h1, congrArg Value.bool h2, congrArg Value.bool h3, trivial⟩ trivial (by kernel_rfl) hSm (by kernel_rfl)
    exact key _ _ _ rfl rfl rfl hp
end Go.Proofs.Ytkngbmaomgfcjaa.topo
/- The draft; a list of links with open capacity; link at the names of a draft's topology. -/
namespace Go.Proofs.Ytkngbmaomgfcjaa.topo
open Go Go.En
set_option linter.unusedVariables false

structure Dr where
  br : U8
  st : U8
  s0 : Option Addr
  s1 : Option Addr
  s2 : Option Addr
  s3 : Option Addr
  c0 : Nat
  c1 : Nat
  c2 : Nat
  c3 : Nat
  ch : List U8
  ho : List U8
  pe : List U8
  de : List U8
  h0 : Sl 0 ch.length s0
  h1 : Sl 1 ho.length s1
  h2 : Sl 2 pe.length s2
  h3 : Sl 3 de.length s3
def Dr.cells (D : Dr) : List Value := [.int .u8 D.br.x, .int .u8 D.st.x, .slice D.s0 D.ch.length D.c0, .slice D.s1 D.ho.length D.c1, .slice D.s2 D.pe.length D.c2, .slice D.s3 D.de.length D.c3]
def Dr.v (D : Dr) : Value := .agg ⟨D.cells⟩
def Dr.V (D : Dr) : List (Nat × List Value) := [(0, ucs D.ch), (1, ucs D.ho), (2, ucs D.pe), (3, ucs D.de)]
def oc4 : Nat := openCap + 4
def slK (b : Nat) : List Lk → Value
  | [] => .slice none 0 0
  | x :: r => .slice (some ⟨b, 0, none⟩) (x :: r).length oc4
def hpK (b : Nat) (L : List Lk) (H : Hp) : Hp := match L with
  | [] => H
  | x :: r => (b, .cells (lcs (x :: r)) false) :: H
theorem lcs_len : ∀ l : List Lk, (lcs l).length = l.length * 4
  | [] => rfl
  | a :: r => by simp [lcs, Lk.cells, lcs_len r, Nat.add_mul]
theorem lcs_app : ∀ (L : List Lk) (x : Lk), lcs L ++ lcs [x] = lcs (L ++ [x])
  | [], x => rfl
  | a :: r, x => by
    have ih := lcs_app r x
    simp only [lcs, List.cons_append, List.append_assoc] at ih ⊢
    rw [ih]
theorem info_of {t : TypeId} {s by_ : Nat} (hi : (Try.prog.info? t).map (fun i => (i.size, i.bytes, i.zero.map (·.cells.size))) = some (s, by_, some s)) : ∃ inf z, Try.prog.info? t = some inf ∧ inf.size = s ∧ inf.bytes = by_ ∧ inf.zero = some z ∧ z.cells.size = s := by
  cases he : Try.prog.info? t with
  | none => rw [he] at hi; cases hi
  | some inf =>
    rw [he] at hi
    simp only [Option.map_some, Option.some.injEq, Prod.mk.injEq] at hi
    obtain ⟨h1, h2, h3⟩ := hi
    cases hz : inf.zero with
    | none => rw [hz] at h3; cases h3
    | some z => rw [hz] at h3; exact ⟨inf, z, rfl, h1, h2, hz, by simpa using h3⟩
theorem src_k {H : Hp} {b e : Nat} {l : List Lk} {ro : Bool} (hb : H.get b = some (.cells (lcs l) ro)) : srcCells H 4 (.slice (some ⟨b, 0, none⟩) l.length e) = some (l.length, lcs l) := by
  by_cases h0 : l.length = 0
  · have : l = [] := List.length_eq_zero_iff.1 h0
    subst this; rfl
  · have hl : 0 + l.length * 4 ≤ (lcs l).length := by rw [lcs_len]; omega
    simp only [srcCells, h0, if_false, hb, hl, if_true, List.drop_zero]
    rw [List.take_of_length_le (by rw [lcs_len]; omega)]
/-- append(links, l) where the capacity is not known. -/
theorem app_k {a b : Nat} {L : List Lk} {x : Lk} (hlen : L.length ≤ 900) :
    Hint.Ok Try.prog (.app [23, 23] 23 [.slice (some ⟨a, 0, none⟩) L.length oc4, .slice (some ⟨b, 0, none⟩) 1 1] [(a, lcs L), (b, lcs [x])] (some a) (L ++ [x]).length oc4 (lcs (L ++ [x]))) := by
  intro H nx hV hrw
  obtain ⟨inf, z, h1, h2, h3, h4, h5⟩ := info_of (t := 50) (s := 4) (by_ := 32) (by kernel_rfl)
  obtain ⟨r1, g1⟩ := hV a (lcs L) (by simp)
  obtain ⟨r2, g2⟩ := hV b (lcs [x]) (by simp)
  have hr1 : r1 = false := by simp only [rwO, g1] at hrw; cases r1 <;> simp at hrw ⊢
  subst hr1
  have e1 := src_k (e := openCap + 4) g1
  have e2 : srcCells H 4 (.slice (some ⟨b, 0, none⟩) 1 1) = some (1, lcs [x]) := src_k (e := 1) g2
  have hnc : openCap ≤ openCap + 4 := by omega
  have hml : L.length + 1 ≤ maxLen := by unfold maxLen; omega
  have hby : (L.length + 1) * 32 ≤ 140737488355328 := by omega
  have hlt : ¬ (openCap + 4 < L.length + 1) := by unfold openCap; omega
  have hap : lcs L ++ lcs [x] = lcs (L ++ [x]) := lcs_app L x
  have hln : L.length + 1 = (L ++ [x]).length := by simp
  have h10 : ¬ ((1 : Nat) = 0) := by omega
  have hone : oneL (lcs [x]) = true := rfl
  have h02 : (0 : Nat) < 4 := by omega
  simp only [doBuiltin, if_true, doAppend, oc4, u23, h1, h2, h3, h4, e2, h5, e1, h10, hlt, hml, hby, hnc, if_false, and_self, h02, delO, Nat.add_sub_cancel_left, imp_self, g1, hone, hap, ← hln]
/-- The link that a draft's with makes. -/
def mkL (D : Dr) (n : Nat) (a b : Int) : Lk := ⟨a, b, 1 + pickS D.pe n % 20, pickS D.de n % 50⟩
def withS (S : List Bool) (N : Int) (D : Dr) (L : List Lk) (a b : Int) : List Lk :=
  bif ((L.length : Int) == 24) then L else bif linkS S N (mkL D L.length a b) then (bif L.any (fun o => joinsS o a b) then L else L ++ [mkL D L.length a b]) else L
def ρ2 (s k : Nat) : Nat → Nat
  | 0 => s
  | _ => k
theorem link_m {S : List Bool} {N : Int} {c : Nat} (hN : N = S.length) (hS : S.length ≤ 1000) (l : Lk) {p : Bool} (hp : linkS S N l = p) (L : List Lk) (s k nx : Nat) :
    Memo.Ok Try.prog ⟨45, nx, [tvS N s S.length c (slK k L), l.v], [(s, bc S)], .bool p, [], nx⟩ := by
  have hSm : En.smallH 2 [(0, bc S)] = true := by simp [En.smallH, small_avL (bc_av S)]
  have hV : ∀ (x : Nat) (us : List Value), (roHp [(0, bc S)]).get x = some (.cells us true) → (roHp [(s, bc S)]).get (ρ2 s k x) = some (.cells (us.map (renV (shift (ρ2 s k) 2 nx) 5)) true) := fun x us hx => by
    by_cases h0 : 0 = x
    · subst h0
      simp [roHp, Hp.get, ρ2] at hx ⊢
      subst hx
      exact (renV_avL (bc_av S)).symm
    · simp [roHp, Hp.get, h0] at hx
  cases L with
  | nil =>
    have h := link_all (c := c) (d := 0) (sb := none) (m := 0) (.inl ⟨rfl, rfl⟩) hN hS l hp
    exact memo_ren h (ρ2 s k) nx [(s, bc S)] (by kernel_rfl) hSm rfl hV
  | cons x r =>
    have h := link_all (c := c) (d := oc4) (sb := some ⟨1, 0, none⟩) (m := (x :: r).length) (.inr rfl) hN hS l hp
    exact memo_ren h (ρ2 s k) nx [(s, bc S)] (by kernel_rfl) hSm rfl hV
theorem lcs_at {L : List Lk} {i : Nat} {l : Lk} (h : L[i]? = some l) {b : Nat} {ro : Bool} : doLoad Try.prog [(b, .cells (lcs L) ro)] 50 (.pointer (some ⟨b, 0 + i * 4, none⟩)) = some l.v := by
  rw [← lcs_cells]
  exact ldN z50 rfl (cellsOfL_get (f := Lk.cells) (s := 4) (fun _ => rfl) h)
theorem ixK {b n c i : Nat} (h : i < n) : doIndexAddr Try.prog 23 (.slice (some ⟨b, 0, none⟩) n c) (.int .i64 i) = some (.pointer (some ⟨b, 0 + i * 4, none⟩)) := Sl.ix' (.inr rfl) u23 z50 h
end Go.Proofs.Ytkngbmaomgfcjaa.topo
/- Contract: the reference's with, where Topo calls it. -/
namespace Go.Proofs.Ytkngbmaomgfcjaa.topo
open Go Go.En
set_option linter.unusedVariables false

/-- Temporaries, by number. -/
def mkT : Nat → Nat → List (Nat × Value) → List Value
  | 0, _, _ => []
  | n + 1, i, [] => J :: mkT n (i + 1) []
  | n + 1, i, (j, v) :: r => match Nat.beq i j with
    | true => v :: mkT n (i + 1) r
    | false => J :: mkT n (i + 1) ((j, v) :: r)
def tcs (N : Int) (n : Nat) (q : Value) : List Value := [.int .i64 N, .slice (some ⟨7, 0, none⟩) n oc1, q]
def tzs : List Value := [.int .i64 0, .slice none 0 0, .slice none 0 0]
/-- The heap of Topo: the links at k. -/
def HT (D : Dr) (N : Int) (S : List Bool) (k : Nat) (L : List Lk) : Hp := hpK k L ([(7, .cells (bc S) false), (6, .cells (tcs N S.length (slK k L)) false), (5, .cells tzs false), (4, .cells D.cells true)] ++ roHp D.V)
def tvT (N : Int) (n k : Nat) (L : List Lk) : Value := .agg ⟨tcs N n (slK k L)⟩
theorem tmod_lit {x m : Int} (h : 0 ≤ x) (hm : 0 < m) : Int.tmod x m = x % m := Int.tmod_eq_emod_of_nonneg h
/-! ### a -/
def Tja (a b : Int) (n : Nat) (i : Int) : List Value := mkT 59 0 [(2, .int .i64 a), (3, .int .i64 b), (5, pt 12), (8, pt 13), (9, .int .i64 n), (10, pt 15), (11, .int .i64 i)]
def Txja : List Value := mkT 59 0 [(5, pt 12), (8, pt 13), (10, pt 15)]
def Trja : List Value := mkT 59 0 [(8, pt 13)]
def Hja (N : Int) (n : Nat) (L : List Lk) (z : List Value) : Hp := [(12, .cells (tcs N n (slK 10 L)) false), (13, .cells z false), (10, .cells (lcs L) false)]
theorem Hja_below (N : Int) (n : Nat) (y : Lk) (r : List Lk) {z : List Value} (hz : En.smallL (En.small 16 5) z = true) : hpBelow 16 (Hja N n (y :: r) z) = true := by
  have a0 : tidyB 16 (.cells (lcs (y :: r)) false) = true := small_avL (lcs_av _)
  have a1 : tidyB 16 (.cells (tcs N n (slK 10 (y :: r))) false) = true := by simp [tidyB, tcs, slK, En.smallL, En.small]
  have a2 : tidyB 16 (.cells z false) = true := hz
  simp only [Hja, hpBelow, a0, a1, a2]
  rfl
theorem ja_go {N : Int} {n : Nat} {y : Lk} {r : List Lk} {a b : Int} {i : Nat} {l : Lk} (hi : (y :: r)[i]? = some l) {q : Bool} (hq : joinsS l a b = q) :
    CodeOk Try.prog none (lp Try.prog 49 6) (Tja a b (y :: r).length i) [] (Hja N n (y :: r) tzs) 16 (bif q then ⟨.ret, Trja, [], Hja N n (y :: r) (tcs N n (slK 10 (y :: r))), 16⟩ else ⟨.normal, Tja a b (y :: r).length (W (i + 1)), [], Hja N n (y :: r) tzs, 16⟩) := by
  have hlt := lt_of hi
  have hd : decide ((i : Int) < (y :: r).length) = true := decide_eq_true (by omega)
  have l1 := lcs_at (b := 10) (ro := false) hi
  have mj := joins_m l a b hq 16
  obtain ⟨l1a, l1b, l1c, l1d⟩ := l
  cases q <;> exact code_at (hs := [(40, .val (.bool (decide ((i : Int) < (y :: r).length))) (.bool true)), (46, .ix 23 (.slice (some ⟨10, 0, none⟩) (y :: r).length oc4) (.int .i64 i) _), (47, .ld 50 _ 10 (lcs (y :: r)) false _), (50, .call _)]) (ch := []) (evk 50) special
    ⟨congrArg Value.bool hd, ixK hlt, ⟨l1, _, rfl⟩, mj, trivial⟩ trivial (by kernel_rfl) (Hja_below N n y r rfl) (Hja_below N n y r (by first | rfl | simp [tcs, slK, En.smallL, En.small])) (by kernel_rfl)
theorem ja_out {N : Int} {n : Nat} {y : Lk} {r : List Lk} {a b : Int} :
    CodeOk Try.prog none (lp Try.prog 49 6) (Tja a b (y :: r).length (y :: r).length) [] (Hja N n (y :: r) tzs) 16 ⟨.exit 0, Txja, [], Hja N n (y :: r) tzs, 16⟩ := by
  have hd : decide (((y :: r).length : Int) < (y :: r).length) = false := decide_eq_false (by omega)
  exact code_at (hs := [(40, .val (.bool (decide (((y :: r).length : Int) < (y :: r).length))) (.bool false))]) (ch := []) (evk 50) special
    ⟨congrArg Value.bool hd, trivial⟩ trivial (by kernel_rfl) (Hja_below N n y r rfl) (Hja_below N n y r rfl) (by kernel_rfl)
def Fja (N : Int) (n : Nat) (L : List Lk) : Bool → Res
  | true => ⟨.ret, Trja, [], Hja N n L (tcs N n (slK 10 L)), 16⟩
  | false => ⟨.exit 0, Txja, [], Hja N n L tzs, 16⟩
theorem ja_loop {N : Int} {n : Nat} {y : Lk} {r : List Lk} {a b : Int} (hL : (y :: r).length ≤ 900) : ∀ (k i : Nat), i + k = (y :: r).length →
    LoopOk Try.prog none (lp Try.prog 49 6) (Tja a b (y :: r).length i) [] (Hja N n (y :: r) tzs) 16 (Fja N n (y :: r) (((y :: r).drop i).any (fun o => joinsS o a b)))
  | 0, i, h => by
    have : i = (y :: r).length := by omega
    subst this
    rw [List.drop_length]
    exact loopOk_out ja_out (by show Exit.exit 0 ≠ Exit.normal; simp)
  | k + 1, i, h => by
    have hlt : i < (y :: r).length := by omega
    rw [List.drop_eq_getElem_cons hlt, List.any_cons]
    cases hq : joinsS (y :: r)[i] a b with
    | true => exact loopOk_out (ja_go (List.getElem?_eq_getElem hlt) hq) (by show Exit.ret ≠ Exit.normal; simp)
    | false =>
      have h1 := ja_go (N := N) (n := n) (List.getElem?_eq_getElem hlt) hq
      simp only [cond_false] at h1
      rw [show (i : Int) + 1 = ((i + 1 : Nat) : Int) by push_cast; rfl, show W ((i + 1 : Nat) : Int) = ((i + 1 : Nat) : Int) from wrap_nat (by omega)] at h1
      exact loop_step h1 (ja_loop hL k (i + 1) (by omega))
termination_by k => k
/-- What with hands back: the links where they were, or at 17. -/
def wka (L L' : List Lk) : Nat := bif L'.length == L.length then 10 else 17
def wna (L L' : List Lk) : Nat := bif L'.length == L.length then 16 else 18
theorem wa_call (D : Dr) {N : Int} {S : List Bool} (hN : N = S.length) (hS : S.length ≤ 1000) {L : List Lk} (hL : L.length ≤ 900) (a b : Int) {L' : List Lk} (hL' : withS S N D L a b = L') :
    (∃ fn, Try.prog.funcs[49]? = some fn ∧ fn.body.isSome = true) ∧ CallOk Try.prog 49 [D.v, tvT N S.length 10 L, .int .i64 a, .int .i64 b] (HT D N S 10 L) 11 (tvT N S.length (wka L L') L')
      (hpK (wka L L') L' ([(7, .cells (bc S) false), (6, .cells (tcs N S.length (slK 10 L)) false), (5, .cells tzs false), (4, .cells D.cells true)] ++ roHp D.V)) (wna L L') := by
  have m1 := pick_m (c := D.c2) (i := L.length) (b := 2) D.h2 rfl 15
  have m2 := pick_m (c := D.c3) (i := L.length) (b := 3) D.h3 rfl 15
  have ok1 := pickS_ok D.pe L.length
  have ok2 := pickS_ok D.de L.length
  have e1 : W (1 + Int.tmod (pickS D.pe L.length) 20) = 1 + pickS D.pe L.length % 20 := by
    rw [tmod_lit ok1.1 (by omega)]; exact W_id (by omega)
  have e2 : Int.tmod (pickS D.de L.length) 50 = pickS D.de L.length % 50 := tmod_lit ok2.1 (by omega)
  have ml := fun p (hp : linkS S N (mkL D L.length a b) = p) => link_m (c := oc1) hN hS (mkL D L.length a b) hp L 7 10 16
  unfold withS at hL'
  unfold mkL at hL' ml
  generalize hP : 1 + pickS D.pe L.length % 20 = p at *
  generalize hQ : pickS D.de L.length % 50 = q at *
  generalize pickS D.pe L.length = p0 at *
  generalize pickS D.de L.length = q0 at *
  have base : wka L L = 10 ∧ wna L L = 16 := by simp [wka, wna]
  have base2 : ∀ l, wka L (L ++ [l]) = 17 ∧ wna L (L ++ [l]) = 18 := fun l => by
    have h : (L.length + 1 == L.length) = false := beq_eq_false_iff_ne.2 (by omega)
    simp [wka, wna, h]
  cases d24 : ((L.length : Int) == 24) with
  | true =>
    rw [d24] at hL'
    simp only [cond_true] at hL'
    subst hL'
    rw [base.1, base.2]
    cases L with
    | nil => cases d24
    | cons y r =>
      exact call_k [] (hs := [(4, .frz), (20, .call _), (22, .val (.int .i64 (W (1 + Int.tmod p0 20))) (.int .i64 p)), (26, .call _), (27, .val (.int .i64 (Int.tmod q0 50)) (.int .i64 q)), (30, .val (.bool (((y :: r).length : Int) == 24)) (.bool true))]) (ch := []) (evk 50) special
        ⟨trivial, m1, congrArg (Value.int .i64) e1, m2, congrArg (Value.int .i64) e2, congrArg Value.bool d24, trivial⟩ trivial (by kernel_rfl)
  | false =>
    rw [d24] at hL'
    simp only [cond_false] at hL'
    cases hk : linkS S N ⟨a, b, p, q⟩ with
    | false =>
      rw [hk] at hL'
      simp only [cond_false] at hL'
      subst hL'
      rw [base.1, base.2]
      have ml := ml _ hk
      cases L <;> exact call_k [] (hs := [(4, .frz), (20, .call _), (22, .val (.int .i64 (W (1 + Int.tmod p0 20))) (.int .i64 p)), (26, .call _), (27, .val (.int .i64 (Int.tmod q0 50)) (.int .i64 q)), (30, .val (.bool ((List.length _ : Int) == 24)) (.bool false)), (34, .call _)]) (ch := []) (evk 50) special
        ⟨trivial, m1, congrArg (Value.int .i64) e1, m2, congrArg (Value.int .i64) e2, congrArg Value.bool d24, ml, trivial⟩ trivial (by kernel_rfl)
    | true =>
      rw [hk] at hL'
      simp only [cond_true] at hL'
      have ml := ml _ hk
      cases L with
      | nil =>
        have hL' : [(⟨a, b, p, q⟩ : Lk)] = L' := hL'
        subst hL'
        exact call_k [] (hs := [(4, .frz), (20, .call _), (22, .val (.int .i64 (W (1 + Int.tmod p0 20))) (.int .i64 p)), (26, .call _), (27, .val (.int .i64 (Int.tmod q0 50)) (.int .i64 q)), (34, .call _)]) (ch := []) (evk 50) special
          ⟨trivial, m1, congrArg (Value.int .i64) e1, m2, congrArg (Value.int .i64) e2, ml, trivial⟩ trivial (by kernel_rfl)
      | cons y r =>
        have hlo := ja_loop (N := N) (n := S.length) (a := a) (b := b) hL (y :: r).length 0 (by omega)
        rw [List.drop_zero] at hlo
        cases hj : (y :: r).any (fun o => joinsS o a b) with
        | true =>
          rw [hj] at hL' hlo
          simp only [cond_true] at hL'
          subst hL'
          rw [base.1, base.2]
          exact call_k [] (hs := [(4, .frz), (20, .call _), (22, .val (.int .i64 (W (1 + Int.tmod p0 20))) (.int .i64 p)), (26, .call _), (27, .val (.int .i64 (Int.tmod q0 50)) (.int .i64 q)), (30, .val (.bool (((y :: r).length : Int) == 24)) (.bool false)), (34, .call _)]) (ch := [⟨6, none, .loop (lp Try.prog 49 6), Tja a b (y :: r).length 0, [], Hja N S.length (y :: r) tzs, 16, _, false⟩]) (evk 50) special
            ⟨trivial, m1, congrArg (Value.int .i64) e1, m2, congrArg (Value.int .i64) e2, congrArg Value.bool d24, ml, trivial⟩ ⟨codeOk_loop hlo, trivial⟩ (by kernel_rfl)
        | false =>
          rw [hj] at hL' hlo
          simp only [cond_false] at hL'
          subst hL'
          rw [(base2 _).1, (base2 _).2]
          have ap := app_k (a := 10) (b := 16) (L := y :: r) (x := ⟨a, b, p, q⟩) hL
          exact call_k [] (hs := [(4, .frz), (20, .call _), (22, .val (.int .i64 (W (1 + Int.tmod p0 20))) (.int .i64 p)), (26, .call _), (27, .val (.int .i64 (Int.tmod q0 50)) (.int .i64 q)), (30, .val (.bool (((y :: r).length : Int) == 24)) (.bool false)), (34, .call _), (56, .app _ _ _ _ _ _ _ _)]) (ch := [⟨6, none, .loop (lp Try.prog 49 6), Tja a b (y :: r).length 0, [], Hja N S.length (y :: r) tzs, 16, _, false⟩]) (evk 50) special
            ⟨trivial, m1, congrArg (Value.int .i64) e1, m2, congrArg (Value.int .i64) e2, congrArg Value.bool d24, ml, ap, trivial⟩ ⟨codeOk_loop hlo, trivial⟩ (by kernel_rfl)
/-! ### b -/
def Tjb (a b : Int) (n : Nat) (i : Int) : List Value := mkT 59 0 [(2, .int .i64 a), (3, .int .i64 b), (5, pt 20), (8, pt 21), (9, .int .i64 n), (10, pt 23), (11, .int .i64 i)]
def Txjb : List Value := mkT 59 0 [(5, pt 20), (8, pt 21), (10, pt 23)]
def Trjb : List Value := mkT 59 0 [(8, pt 21)]
def Hjb (N : Int) (n : Nat) (L : List Lk) (z : List Value) : Hp := [(20, .cells (tcs N n (slK 18 L)) false), (21, .cells z false), (18, .cells (lcs L) false)]
theorem Hjb_below (N : Int) (n : Nat) (y : Lk) (r : List Lk) {z : List Value} (hz : En.smallL (En.small 24 5) z = true) : hpBelow 24 (Hjb N n (y :: r) z) = true := by
  have a0 : tidyB 24 (.cells (lcs (y :: r)) false) = true := small_avL (lcs_av _)
  have a1 : tidyB 24 (.cells (tcs N n (slK 18 (y :: r))) false) = true := by simp [tidyB, tcs, slK, En.smallL, En.small]
  have a2 : tidyB 24 (.cells z false) = true := hz
  simp only [Hjb, hpBelow, a0, a1, a2]
  rfl
theorem jb_go {N : Int} {n : Nat} {y : Lk} {r : List Lk} {a b : Int} {i : Nat} {l : Lk} (hi : (y :: r)[i]? = some l) {q : Bool} (hq : joinsS l a b = q) :
    CodeOk Try.prog none (lp Try.prog 49 6) (Tjb a b (y :: r).length i) [] (Hjb N n (y :: r) tzs) 24 (bif q then ⟨.ret, Trjb, [], Hjb N n (y :: r) (tcs N n (slK 18 (y :: r))), 24⟩ else ⟨.normal, Tjb a b (y :: r).length (W (i + 1)), [], Hjb N n (y :: r) tzs, 24⟩) := by
  have hlt := lt_of hi
  have hd : decide ((i : Int) < (y :: r).length) = true := decide_eq_true (by omega)
  have l1 := lcs_at (b := 18) (ro := false) hi
  have mj := joins_m l a b hq 24
  obtain ⟨l1a, l1b, l1c, l1d⟩ := l
  cases q <;> exact code_at (hs := [(40, .val (.bool (decide ((i : Int) < (y :: r).length))) (.bool true)), (46, .ix 23 (.slice (some ⟨18, 0, none⟩) (y :: r).length oc4) (.int .i64 i) _), (47, .ld 50 _ 18 (lcs (y :: r)) false _), (50, .call _)]) (ch := []) (evk 50) special
    ⟨congrArg Value.bool hd, ixK hlt, ⟨l1, _, rfl⟩, mj, trivial⟩ trivial (by kernel_rfl) (Hjb_below N n y r rfl) (Hjb_below N n y r (by first | rfl | simp [tcs, slK, En.smallL, En.small])) (by kernel_rfl)
theorem jb_out {N : Int} {n : Nat} {y : Lk} {r : List Lk} {a b : Int} :
    CodeOk Try.prog none (lp Try.prog 49 6) (Tjb a b (y :: r).length (y :: r).length) [] (Hjb N n (y :: r) tzs) 24 ⟨.exit 0, Txjb, [], Hjb N n (y :: r) tzs, 24⟩ := by
  have hd : decide (((y :: r).length : Int) < (y :: r).length) = false := decide_eq_false (by omega)
  exact code_at (hs := [(40, .val (.bool (decide (((y :: r).length : Int) < (y :: r).length))) (.bool false))]) (ch := []) (evk 50) special
    ⟨congrArg Value.bool hd, trivial⟩ trivial (by kernel_rfl) (Hjb_below N n y r rfl) (Hjb_below N n y r rfl) (by kernel_rfl)
def Fjb (N : Int) (n : Nat) (L : List Lk) : Bool → Res
  | true => ⟨.ret, Trjb, [], Hjb N n L (tcs N n (slK 18 L)), 24⟩
  | false => ⟨.exit 0, Txjb, [], Hjb N n L tzs, 24⟩
theorem jb_loop {N : Int} {n : Nat} {y : Lk} {r : List Lk} {a b : Int} (hL : (y :: r).length ≤ 900) : ∀ (k i : Nat), i + k = (y :: r).length →
    LoopOk Try.prog none (lp Try.prog 49 6) (Tjb a b (y :: r).length i) [] (Hjb N n (y :: r) tzs) 24 (Fjb N n (y :: r) (((y :: r).drop i).any (fun o => joinsS o a b)))
  | 0, i, h => by
    have : i = (y :: r).length := by omega
    subst this
    rw [List.drop_length]
    exact loopOk_out jb_out (by show Exit.exit 0 ≠ Exit.normal; simp)
  | k + 1, i, h => by
    have hlt : i < (y :: r).length := by omega
    rw [List.drop_eq_getElem_cons hlt, List.any_cons]
    cases hq : joinsS (y :: r)[i] a b with
    | true => exact loopOk_out (jb_go (List.getElem?_eq_getElem hlt) hq) (by show Exit.ret ≠ Exit.normal; simp)
    | false =>
      have h1 := jb_go (N := N) (n := n) (List.getElem?_eq_getElem hlt) hq
      simp only [cond_false] at h1
      rw [show (i : Int) + 1 = ((i + 1 : Nat) : Int) by push_cast; rfl, show W ((i + 1 : Nat) : Int) = ((i + 1 : Nat) : Int) from wrap_nat (by omega)] at h1
      exact loop_step h1 (jb_loop hL k (i + 1) (by omega))
termination_by k => k
/-- What with hands back: the links where they were, or at 25. -/
def wkb (L L' : List Lk) : Nat := bif L'.length == L.length then 18 else 25
def wnb (L L' : List Lk) : Nat := bif L'.length == L.length then 24 else 26
theorem wb_call (D : Dr) {N : Int} {S : List Bool} (hN : N = S.length) (hS : S.length ≤ 1000) {L : List Lk} (hL : L.length ≤ 900) (a b : Int) {L' : List Lk} (hL' : withS S N D L a b = L') :
    (∃ fn, Try.prog.funcs[49]? = some fn ∧ fn.body.isSome = true) ∧ CallOk Try.prog 49 [D.v, tvT N S.length 18 L, .int .i64 a, .int .i64 b] (HT D N S 18 L) 19 (tvT N S.length (wkb L L') L')
      (hpK (wkb L L') L' ([(7, .cells (bc S) false), (6, .cells (tcs N S.length (slK 18 L)) false), (5, .cells tzs false), (4, .cells D.cells true)] ++ roHp D.V)) (wnb L L') := by
  have m1 := pick_m (c := D.c2) (i := L.length) (b := 2) D.h2 rfl 23
  have m2 := pick_m (c := D.c3) (i := L.length) (b := 3) D.h3 rfl 23
  have ok1 := pickS_ok D.pe L.length
  have ok2 := pickS_ok D.de L.length
  have e1 : W (1 + Int.tmod (pickS D.pe L.length) 20) = 1 + pickS D.pe L.length % 20 := by
    rw [tmod_lit ok1.1 (by omega)]; exact W_id (by omega)
  have e2 : Int.tmod (pickS D.de L.length) 50 = pickS D.de L.length % 50 := tmod_lit ok2.1 (by omega)
  have ml := fun p (hp : linkS S N (mkL D L.length a b) = p) => link_m (c := oc1) hN hS (mkL D L.length a b) hp L 7 18 24
  unfold withS at hL'
  unfold mkL at hL' ml
  generalize hP : 1 + pickS D.pe L.length % 20 = p at *
  generalize hQ : pickS D.de L.length % 50 = q at *
  generalize pickS D.pe L.length = p0 at *
  generalize pickS D.de L.length = q0 at *
  have base : wkb L L = 18 ∧ wnb L L = 24 := by simp [wkb, wnb]
  have base2 : ∀ l, wkb L (L ++ [l]) = 25 ∧ wnb L (L ++ [l]) = 26 := fun l => by
    have h : (L.length + 1 == L.length) = false := beq_eq_false_iff_ne.2 (by omega)
    simp [wkb, wnb, h]
  cases d24 : ((L.length : Int) == 24) with
  | true =>
    rw [d24] at hL'
    simp only [cond_true] at hL'
    subst hL'
    rw [base.1, base.2]
    cases L with
    | nil => cases d24
    | cons y r =>
      exact call_k [] (hs := [(4, .frz), (20, .call _), (22, .val (.int .i64 (W (1 + Int.tmod p0 20))) (.int .i64 p)), (26, .call _), (27, .val (.int .i64 (Int.tmod q0 50)) (.int .i64 q)), (30, .val (.bool (((y :: r).length : Int) == 24)) (.bool true))]) (ch := []) (evk 50) special
        ⟨trivial, m1, congrArg (Value.int .i64) e1, m2, congrArg (Value.int .i64) e2, congrArg Value.bool d24, trivial⟩ trivial (by kernel_rfl)
  | false =>
    rw [d24] at hL'
    simp only [cond_false] at hL'
    cases hk : linkS S N ⟨a, b, p, q⟩ with
    | false =>
      rw [hk] at hL'
      simp only [cond_false] at hL'
      subst hL'
      rw [base.1, base.2]
      have ml := ml _ hk
      cases L <;> exact call_k [] (hs := [(4, .frz), (20, .call _), (22, .val (.int .i64 (W (1 + Int.tmod p0 20))) (.int .i64 p)), (26, .call _), (27, .val (.int .i64 (Int.tmod q0 50)) (.int .i64 q)), (30, .val (.bool ((List.length _ : Int) == 24)) (.bool false)), (34, .call _)]) (ch := []) (evk 50) special
        ⟨trivial, m1, congrArg (Value.int .i64) e1, m2, congrArg (Value.int .i64) e2, congrArg Value.bool d24, ml, trivial⟩ trivial (by kernel_rfl)
    | true =>
      rw [hk] at hL'
      simp only [cond_true] at hL'
      have ml := ml _ hk
      cases L with
      | nil =>
        have hL' : [(⟨a, b, p, q⟩ : Lk)] = L' := hL'
        subst hL'
        exact call_k [] (hs := [(4, .frz), (20, .call _), (22, .val (.int .i64 (W (1 + Int.tmod p0 20))) (.int .i64 p)), (26, .call _), (27, .val (.int .i64 (Int.tmod q0 50)) (.int .i64 q)), (34, .call _)]) (ch := []) (evk 50) special
          ⟨trivial, m1, congrArg (Value.int .i64) e1, m2, congrArg (Value.int .i64) e2, ml, trivial⟩ trivial (by kernel_rfl)
      | cons y r =>
        have hlo := jb_loop (N := N) (n := S.length) (a := a) (b := b) hL (y :: r).length 0 (by omega)
        rw [List.drop_zero] at hlo
        cases hj : (y :: r).any (fun o => joinsS o a b) with
        | true =>
          rw [hj] at hL' hlo
          simp only [cond_true] at hL'
          subst hL'
          rw [base.1, base.2]
          exact call_k [] (hs := [(4, .frz), (20, .call _), (22, .val (.int .i64 (W (1 + Int.tmod p0 20))) (.int .i64 p)), (26, .call _), (27, .val (.int .i64 (Int.tmod q0 50)) (.int .i64 q)), (30, .val (.bool (((y :: r).length : Int) == 24)) (.bool false)), (34, .call _)]) (ch := [⟨6, none, .loop (lp Try.prog 49 6), Tjb a b (y :: r).length 0, [], Hjb N S.length (y :: r) tzs, 24, _, false⟩]) (evk 50) special
            ⟨trivial, m1, congrArg (Value.int .i64) e1, m2, congrArg (Value.int .i64) e2, congrArg Value.bool d24, ml, trivial⟩ ⟨codeOk_loop hlo, trivial⟩ (by kernel_rfl)
        | false =>
          rw [hj] at hL' hlo
          simp only [cond_false] at hL'
          subst hL'
          rw [(base2 _).1, (base2 _).2]
          have ap := app_k (a := 18) (b := 24) (L := y :: r) (x := ⟨a, b, p, q⟩) hL
          exact call_k [] (hs := [(4, .frz), (20, .call _), (22, .val (.int .i64 (W (1 + Int.tmod p0 20))) (.int .i64 p)), (26, .call _), (27, .val (.int .i64 (Int.tmod q0 50)) (.int .i64 q)), (30, .val (.bool (((y :: r).length : Int) == 24)) (.bool false)), (34, .call _), (56, .app _ _ _ _ _ _ _ _)]) (ch := [⟨6, none, .loop (lp Try.prog 49 6), Tjb a b (y :: r).length 0, [], Hjb N S.length (y :: r) tzs, 24, _, false⟩]) (evk 50) special
            ⟨trivial, m1, congrArg (Value.int .i64) e1, m2, congrArg (Value.int .i64) e2, congrArg Value.bool d24, ml, ap, trivial⟩ ⟨codeOk_loop hlo, trivial⟩ (by kernel_rfl)
/-! ### c -/
def Tjc (a b : Int) (n : Nat) (i : Int) : List Value := mkT 59 0 [(2, .int .i64 a), (3, .int .i64 b), (5, pt 27), (8, pt 28), (9, .int .i64 n), (10, pt 30), (11, .int .i64 i)]
def Txjc : List Value := mkT 59 0 [(5, pt 27), (8, pt 28), (10, pt 30)]
def Trjc : List Value := mkT 59 0 [(8, pt 28)]
def Hjc (N : Int) (n : Nat) (L : List Lk) (z : List Value) : Hp := [(27, .cells (tcs N n (slK 18 L)) false), (28, .cells z false), (18, .cells (lcs L) false)]
theorem Hjc_below (N : Int) (n : Nat) (y : Lk) (r : List Lk) {z : List Value} (hz : En.smallL (En.small 31 5) z = true) : hpBelow 31 (Hjc N n (y :: r) z) = true := by
  have a0 : tidyB 31 (.cells (lcs (y :: r)) false) = true := small_avL (lcs_av _)
  have a1 : tidyB 31 (.cells (tcs N n (slK 18 (y :: r))) false) = true := by simp [tidyB, tcs, slK, En.smallL, En.small]
  have a2 : tidyB 31 (.cells z false) = true := hz
  simp only [Hjc, hpBelow, a0, a1, a2]
  rfl
theorem jc_go {N : Int} {n : Nat} {y : Lk} {r : List Lk} {a b : Int} {i : Nat} {l : Lk} (hi : (y :: r)[i]? = some l) {q : Bool} (hq : joinsS l a b = q) :
    CodeOk Try.prog none (lp Try.prog 49 6) (Tjc a b (y :: r).length i) [] (Hjc N n (y :: r) tzs) 31 (bif q then ⟨.ret, Trjc, [], Hjc N n (y :: r) (tcs N n (slK 18 (y :: r))), 31⟩ else ⟨.normal, Tjc a b (y :: r).length (W (i + 1)), [], Hjc N n (y :: r) tzs, 31⟩) := by
  have hlt := lt_of hi
  have hd : decide ((i : Int) < (y :: r).length) = true := decide_eq_true (by omega)
  have l1 := lcs_at (b := 18) (ro := false) hi
  have mj := joins_m l a b hq 31
  obtain ⟨l1a, l1b, l1c, l1d⟩ := l
  cases q <;> exact code_at (hs := [(40, .val (.bool (decide ((i : Int) < (y :: r).length))) (.bool true)), (46, .ix 23 (.slice (some ⟨18, 0, none⟩) (y :: r).length oc4) (.int .i64 i) _), (47, .ld 50 _ 18 (lcs (y :: r)) false _), (50, .call _)]) (ch := []) (evk 50) special
    ⟨congrArg Value.bool hd, ixK hlt, ⟨l1, _, rfl⟩, mj, trivial⟩ trivial (by kernel_rfl) (Hjc_below N n y r rfl) (Hjc_below N n y r (by first | rfl | simp [tcs, slK, En.smallL, En.small])) (by kernel_rfl)
theorem jc_out {N : Int} {n : Nat} {y : Lk} {r : List Lk} {a b : Int} :
    CodeOk Try.prog none (lp Try.prog 49 6) (Tjc a b (y :: r).length (y :: r).length) [] (Hjc N n (y :: r) tzs) 31 ⟨.exit 0, Txjc, [], Hjc N n (y :: r) tzs, 31⟩ := by
  have hd : decide (((y :: r).length : Int) < (y :: r).length) = false := decide_eq_false (by omega)
  exact code_at (hs := [(40, .val (.bool (decide (((y :: r).length : Int) < (y :: r).length))) (.bool false))]) (ch := []) (evk 50) special
    ⟨congrArg Value.bool hd, trivial⟩ trivial (by kernel_rfl) (Hjc_below N n y r rfl) (Hjc_below N n y r rfl) (by kernel_rfl)
def Fjc (N : Int) (n : Nat) (L : List Lk) : Bool → Res
  | true => ⟨.ret, Trjc, [], Hjc N n L (tcs N n (slK 18 L)), 31⟩
  | false => ⟨.exit 0, Txjc, [], Hjc N n L tzs, 31⟩
theorem jc_loop {N : Int} {n : Nat} {y : Lk} {r : List Lk} {a b : Int} (hL : (y :: r).length ≤ 900) : ∀ (k i : Nat), i + k = (y :: r).length →
    LoopOk Try.prog none (lp Try.prog 49 6) (Tjc a b (y :: r).length i) [] (Hjc N n (y :: r) tzs) 31 (Fjc N n (y :: r) (((y :: r).drop i).any (fun o => joinsS o a b)))
  | 0, i, h => by
    have : i = (y :: r).length := by omega
    subst this
    rw [List.drop_length]
    exact loopOk_out jc_out (by show Exit.exit 0 ≠ Exit.normal; simp)
  | k + 1, i, h => by
    have hlt : i < (y :: r).length := by omega
    rw [List.drop_eq_getElem_cons hlt, List.any_cons]
    cases hq : joinsS (y :: r)[i] a b with
    | true => exact loopOk_out (jc_go (List.getElem?_eq_getElem hlt) hq) (by show Exit.ret ≠ Exit.normal; simp)
    | false =>
      have h1 := jc_go (N := N) (n := n) (List.getElem?_eq_getElem hlt) hq
      simp only [cond_false] at h1
      rw [show (i : Int) + 1 = ((i + 1 : Nat) : Int) by push_cast; rfl, show W ((i + 1 : Nat) : Int) = ((i + 1 : Nat) : Int) from wrap_nat (by omega)] at h1
      exact loop_step h1 (jc_loop hL k (i + 1) (by omega))
termination_by k => k
/-- What with hands back: the links where they were, or at 32. -/
def wkc (L L' : List Lk) : Nat := bif L'.length == L.length then 18 else 32
def wnc (L L' : List Lk) : Nat := bif L'.length == L.length then 31 else 33
theorem wc_call (D : Dr) {N : Int} {S : List Bool} (hN : N = S.length) (hS : S.length ≤ 1000) {L : List Lk} (hL : L.length ≤ 900) (a b : Int) {L' : List Lk} (hL' : withS S N D L a b = L') :
    (∃ fn, Try.prog.funcs[49]? = some fn ∧ fn.body.isSome = true) ∧ CallOk Try.prog 49 [D.v, tvT N S.length 18 L, .int .i64 a, .int .i64 b] (HT D N S 18 L) 26 (tvT N S.length (wkc L L') L')
      (hpK (wkc L L') L' ([(7, .cells (bc S) false), (6, .cells (tcs N S.length (slK 18 L)) false), (5, .cells tzs false), (4, .cells D.cells true)] ++ roHp D.V)) (wnc L L') := by
  have m1 := pick_m (c := D.c2) (i := L.length) (b := 2) D.h2 rfl 30
  have m2 := pick_m (c := D.c3) (i := L.length) (b := 3) D.h3 rfl 30
  have ok1 := pickS_ok D.pe L.length
  have ok2 := pickS_ok D.de L.length
  have e1 : W (1 + Int.tmod (pickS D.pe L.length) 20) = 1 + pickS D.pe L.length % 20 := by
    rw [tmod_lit ok1.1 (by omega)]; exact W_id (by omega)
  have e2 : Int.tmod (pickS D.de L.length) 50 = pickS D.de L.length % 50 := tmod_lit ok2.1 (by omega)
  have ml := fun p (hp : linkS S N (mkL D L.length a b) = p) => link_m (c := oc1) hN hS (mkL D L.length a b) hp L 7 18 31
  unfold withS at hL'
  unfold mkL at hL' ml
  generalize hP : 1 + pickS D.pe L.length % 20 = p at *
  generalize hQ : pickS D.de L.length % 50 = q at *
  generalize pickS D.pe L.length = p0 at *
  generalize pickS D.de L.length = q0 at *
  have base : wkc L L = 18 ∧ wnc L L = 31 := by simp [wkc, wnc]
  have base2 : ∀ l, wkc L (L ++ [l]) = 32 ∧ wnc L (L ++ [l]) = 33 := fun l => by
    have h : (L.length + 1 == L.length) = false := beq_eq_false_iff_ne.2 (by omega)
    simp [wkc, wnc, h]
  cases d24 : ((L.length : Int) == 24) with
  | true =>
    rw [d24] at hL'
    simp only [cond_true] at hL'
    subst hL'
    rw [base.1, base.2]
    cases L with
    | nil => cases d24
    | cons y r =>
      exact call_k [] (hs := [(4, .frz), (20, .call _), (22, .val (.int .i64 (W (1 + Int.tmod p0 20))) (.int .i64 p)), (26, .call _), (27, .val (.int .i64 (Int.tmod q0 50)) (.int .i64 q)), (30, .val (.bool (((y :: r).length : Int) == 24)) (.bool true))]) (ch := []) (evk 50) special
        ⟨trivial, m1, congrArg (Value.int .i64) e1, m2, congrArg (Value.int .i64) e2, congrArg Value.bool d24, trivial⟩ trivial (by kernel_rfl)
  | false =>
    rw [d24] at hL'
    simp only [cond_false] at hL'
    cases hk : linkS S N ⟨a, b, p, q⟩ with
    | false =>
      rw [hk] at hL'
      simp only [cond_false] at hL'
      subst hL'
      rw [base.1, base.2]
      have ml := ml _ hk
      cases L <;> exact call_k [] (hs := [(4, .frz), (20, .call _), (22, .val (.int .i64 (W (1 + Int.tmod p0 20))) (.int .i64 p)), (26, .call _), (27, .val (.int .i64 (Int.tmod q0 50)) (.int .i64 q)), (30, .val (.bool ((List.length _ : Int) == 24)) (.bool false)), (34, .call _)]) (ch := []) (evk 50) special
        ⟨trivial, m1, congrArg (Value.int .i64) e1, m2, congrArg (Value.int .i64) e2, congrArg Value.bool d24, ml, trivial⟩ trivial (by kernel_rfl)
    | true =>
      rw [hk] at hL'
      simp only [cond_true] at hL'
      have ml := ml _ hk
      cases L with
      | nil =>
        have hL' : [(⟨a, b, p, q⟩ : Lk)] = L' := hL'
        subst hL'
        exact call_k [] (hs := [(4, .frz), (20, .call _), (22, .val (.int .i64 (W (1 + Int.tmod p0 20))) (.int .i64 p)), (26, .call _), (27, .val (.int .i64 (Int.tmod q0 50)) (.int .i64 q)), (34, .call _)]) (ch := []) (evk 50) special
          ⟨trivial, m1, congrArg (Value.int .i64) e1, m2, congrArg (Value.int .i64) e2, ml, trivial⟩ trivial (by kernel_rfl)
      | cons y r =>
        have hlo := jc_loop (N := N) (n := S.length) (a := a) (b := b) hL (y :: r).length 0 (by omega)
        rw [List.drop_zero] at hlo
        cases hj : (y :: r).any (fun o => joinsS o a b) with
        | true =>
          rw [hj] at hL' hlo
          simp only [cond_true] at hL'
          subst hL'
          rw [base.1, base.2]
          exact call_k [] (hs := [(4, .frz), (20, .call _), (22, .val (.int .i64 (W (1 + Int.tmod p0 20))) (.int .i64 p)), (26, .call _), (27, .val (.int .i64 (Int.tmod q0 50)) (.int .i64 q)), (30, .val (.bool (((y :: r).length : Int) == 24)) (.bool false)), (34, .call _)]) (ch := [⟨6, none, .loop (lp Try.prog 49 6), Tjc a b (y :: r).length 0, [], Hjc N S.length (y :: r) tzs, 31, _, false⟩]) (evk 50) special
            ⟨trivial, m1, congrArg (Value.int .i64) e1, m2, congrArg (Value.int .i64) e2, congrArg Value.bool d24, ml, trivial⟩ ⟨codeOk_loop hlo, trivial⟩ (by kernel_rfl)
        | false =>
          rw [hj] at hL' hlo
          simp only [cond_false] at hL'
          subst hL'
          rw [(base2 _).1, (base2 _).2]
          have ap := app_k (a := 18) (b := 31) (L := y :: r) (x := ⟨a, b, p, q⟩) hL
          exact call_k [] (hs := [(4, .frz), (20, .call _), (22, .val (.int .i64 (W (1 + Int.tmod p0 20))) (.int .i64 p)), (26, .call _), (27, .val (.int .i64 (Int.tmod q0 50)) (.int .i64 q)), (30, .val (.bool (((y :: r).length : Int) == 24)) (.bool false)), (34, .call _), (56, .app _ _ _ _ _ _ _ _)]) (ch := [⟨6, none, .loop (lp Try.prog 49 6), Tjc a b (y :: r).length 0, [], Hjc N S.length (y :: r) tzs, 31, _, false⟩]) (evk 50) special
            ⟨trivial, m1, congrArg (Value.int .i64) e1, m2, congrArg (Value.int .i64) e2, congrArg Value.bool d24, ml, ap, trivial⟩ ⟨codeOk_loop hlo, trivial⟩ (by kernel_rfl)
/-! ### d -/
def Tjd (a b : Int) (n : Nat) (i : Int) : List Value := mkT 59 0 [(2, .int .i64 a), (3, .int .i64 b), (5, pt 35), (8, pt 36), (9, .int .i64 n), (10, pt 38), (11, .int .i64 i)]
def Txjd : List Value := mkT 59 0 [(5, pt 35), (8, pt 36), (10, pt 38)]
def Trjd : List Value := mkT 59 0 [(8, pt 36)]
def Hjd (N : Int) (n : Nat) (L : List Lk) (z : List Value) : Hp := [(35, .cells (tcs N n (slK 33 L)) false), (36, .cells z false), (33, .cells (lcs L) false)]
theorem Hjd_below (N : Int) (n : Nat) (y : Lk) (r : List Lk) {z : List Value} (hz : En.smallL (En.small 39 5) z = true) : hpBelow 39 (Hjd N n (y :: r) z) = true := by
  have a0 : tidyB 39 (.cells (lcs (y :: r)) false) = true := small_avL (lcs_av _)
  have a1 : tidyB 39 (.cells (tcs N n (slK 33 (y :: r))) false) = true := by simp [tidyB, tcs, slK, En.smallL, En.small]
  have a2 : tidyB 39 (.cells z false) = true := hz
  simp only [Hjd, hpBelow, a0, a1, a2]
  rfl
theorem jd_go {N : Int} {n : Nat} {y : Lk} {r : List Lk} {a b : Int} {i : Nat} {l : Lk} (hi : (y :: r)[i]? = some l) {q : Bool} (hq : joinsS l a b = q) :
    CodeOk Try.prog none (lp Try.prog 49 6) (Tjd a b (y :: r).length i) [] (Hjd N n (y :: r) tzs) 39 (bif q then ⟨.ret, Trjd, [], Hjd N n (y :: r) (tcs N n (slK 33 (y :: r))), 39⟩ else ⟨.normal, Tjd a b (y :: r).length (W (i + 1)), [], Hjd N n (y :: r) tzs, 39⟩) := by
  have hlt := lt_of hi
  have hd : decide ((i : Int) < (y :: r).length) = true := decide_eq_true (by omega)
  have l1 := lcs_at (b := 33) (ro := false) hi
  have mj := joins_m l a b hq 39
  obtain ⟨l1a, l1b, l1c, l1d⟩ := l
  cases q <;> exact code_at (hs := [(40, .val (.bool (decide ((i : Int) < (y :: r).length))) (.bool true)), (46, .ix 23 (.slice (some ⟨33, 0, none⟩) (y :: r).length oc4) (.int .i64 i) _), (47, .ld 50 _ 33 (lcs (y :: r)) false _), (50, .call _)]) (ch := []) (evk 50) special
    ⟨congrArg Value.bool hd, ixK hlt, ⟨l1, _, rfl⟩, mj, trivial⟩ trivial (by kernel_rfl) (Hjd_below N n y r rfl) (Hjd_below N n y r (by first | rfl | simp [tcs, slK, En.smallL, En.small])) (by kernel_rfl)
theorem jd_out {N : Int} {n : Nat} {y : Lk} {r : List Lk} {a b : Int} :
    CodeOk Try.prog none (lp Try.prog 49 6) (Tjd a b (y :: r).length (y :: r).length) [] (Hjd N n (y :: r) tzs) 39 ⟨.exit 0, Txjd, [], Hjd N n (y :: r) tzs, 39⟩ := by
  have hd : decide (((y :: r).length : Int) < (y :: r).length) = false := decide_eq_false (by omega)
  exact code_at (hs := [(40, .val (.bool (decide (((y :: r).length : Int) < (y :: r).length))) (.bool false))]) (ch := []) (evk 50) special
    ⟨congrArg Value.bool hd, trivial⟩ trivial (by kernel_rfl) (Hjd_below N n y r rfl) (Hjd_below N n y r rfl) (by kernel_rfl)
def Fjd (N : Int) (n : Nat) (L : List Lk) : Bool → Res
  | true => ⟨.ret, Trjd, [], Hjd N n L (tcs N n (slK 33 L)), 39⟩
  | false => ⟨.exit 0, Txjd, [], Hjd N n L tzs, 39⟩
theorem jd_loop {N : Int} {n : Nat} {y : Lk} {r : List Lk} {a b : Int} (hL : (y :: r).length ≤ 900) : ∀ (k i : Nat), i + k = (y :: r).length →
    LoopOk Try.prog none (lp Try.prog 49 6) (Tjd a b (y :: r).length i) [] (Hjd N n (y :: r) tzs) 39 (Fjd N n (y :: r) (((y :: r).drop i).any (fun o => joinsS o a b)))
  | 0, i, h => by
    have : i = (y :: r).length := by omega
    subst this
    rw [List.drop_length]
    exact loopOk_out jd_out (by show Exit.exit 0 ≠ Exit.normal; simp)
  | k + 1, i, h => by
    have hlt : i < (y :: r).length := by omega
    rw [List.drop_eq_getElem_cons hlt, List.any_cons]
    cases hq : joinsS (y :: r)[i] a b with
    | true => exact loopOk_out (jd_go (List.getElem?_eq_getElem hlt) hq) (by show Exit.ret ≠ Exit.normal; simp)
    | false =>
      have h1 := jd_go (N := N) (n := n) (List.getElem?_eq_getElem hlt) hq
      simp only [cond_false] at h1
      rw [show (i : Int) + 1 = ((i + 1 : Nat) : Int) by push_cast; rfl, show W ((i + 1 : Nat) : Int) = ((i + 1 : Nat) : Int) from wrap_nat (by omega)] at h1
      exact loop_step h1 (jd_loop hL k (i + 1) (by omega))
termination_by k => k
/-- What with hands back: the links where they were, or at 40. -/
def wkd (L L' : List Lk) : Nat := bif L'.length == L.length then 33 else 40
def wnd (L L' : List Lk) : Nat := bif L'.length == L.length then 39 else 41
theorem wd_call (D : Dr) {N : Int} {S : List Bool} (hN : N = S.length) (hS : S.length ≤ 1000) {L : List Lk} (hL : L.length ≤ 900) (a b : Int) {L' : List Lk} (hL' : withS S N D L a b = L') :
    (∃ fn, Try.prog.funcs[49]? = some fn ∧ fn.body.isSome = true) ∧ CallOk Try.prog 49 [D.v, tvT N S.length 33 L, .int .i64 a, .int .i64 b] (HT D N S 33 L) 34 (tvT N S.length (wkd L L') L')
      (hpK (wkd L L') L' ([(7, .cells (bc S) false), (6, .cells (tcs N S.length (slK 33 L)) false), (5, .cells tzs false), (4, .cells D.cells true)] ++ roHp D.V)) (wnd L L') := by
  have m1 := pick_m (c := D.c2) (i := L.length) (b := 2) D.h2 rfl 38
  have m2 := pick_m (c := D.c3) (i := L.length) (b := 3) D.h3 rfl 38
  have ok1 := pickS_ok D.pe L.length
  have ok2 := pickS_ok D.de L.length
  have e1 : W (1 + Int.tmod (pickS D.pe L.length) 20) = 1 + pickS D.pe L.length % 20 := by
    rw [tmod_lit ok1.1 (by omega)]; exact W_id (by omega)
  have e2 : Int.tmod (pickS D.de L.length) 50 = pickS D.de L.length % 50 := tmod_lit ok2.1 (by omega)
  have ml := fun p (hp : linkS S N (mkL D L.length a b) = p) => link_m (c := oc1) hN hS (mkL D L.length a b) hp L 7 33 39
  unfold withS at hL'
  unfold mkL at hL' ml
  generalize hP : 1 + pickS D.pe L.length % 20 = p at *
  generalize hQ : pickS D.de L.length % 50 = q at *
  generalize pickS D.pe L.length = p0 at *
  generalize pickS D.de L.length = q0 at *
  have base : wkd L L = 33 ∧ wnd L L = 39 := by simp [wkd, wnd]
  have base2 : ∀ l, wkd L (L ++ [l]) = 40 ∧ wnd L (L ++ [l]) = 41 := fun l => by
    have h : (L.length + 1 == L.length) = false := beq_eq_false_iff_ne.2 (by omega)
    simp [wkd, wnd, h]
  cases d24 : ((L.length : Int) == 24) with
  | true =>
    rw [d24] at hL'
    simp only [cond_true] at hL'
    subst hL'
    rw [base.1, base.2]
    cases L with
    | nil => cases d24
    | cons y r =>
      exact call_k [] (hs := [(4, .frz), (20, .call _), (22, .val (.int .i64 (W (1 + Int.tmod p0 20))) (.int .i64 p)), (26, .call _), (27, .val (.int .i64 (Int.tmod q0 50)) (.int .i64 q)), (30, .val (.bool (((y :: r).length : Int) == 24)) (.bool true))]) (ch := []) (evk 50) special
        ⟨trivial, m1, congrArg (Value.int .i64) e1, m2, congrArg (Value.int .i64) e2, congrArg Value.bool d24, trivial⟩ trivial (by kernel_rfl)
  | false =>
    rw [d24] at hL'
    simp only [cond_false] at hL'
    cases hk : linkS S N ⟨a, b, p, q⟩ with
    | false =>
      rw [hk] at hL'
      simp only [cond_false] at hL'
      subst hL'
      rw [base.1, base.2]
      have ml := ml _ hk
      cases L <;> exact call_k [] (hs := [(4, .frz), (20, .call _), (22, .val (.int .i64 (W (1 + Int.tmod p0 20))) (.int .i64 p)), (26, .call _), (27, .val (.int .i64 (Int.tmod q0 50)) (.int .i64 q)), (30, .val (.bool ((List.length _ : Int) == 24)) (.bool false)), (34, .call _)]) (ch := []) (evk 50) special
        ⟨trivial, m1, congrArg (Value.int .i64) e1, m2, congrArg (Value.int .i64) e2, congrArg Value.bool d24, ml, trivial⟩ trivial (by kernel_rfl)
    | true =>
      rw [hk] at hL'
      simp only [cond_true] at hL'
      have ml := ml _ hk
      cases L with
      | nil =>
        have hL' : [(⟨a, b, p, q⟩ : Lk)] = L' := hL'
        subst hL'
        exact call_k [] (hs := [(4, .frz), (20, .call _), (22, .val (.int .i64 (W (1 + Int.tmod p0 20))) (.int .i64 p)), (26, .call _), (27, .val (.int .i64 (Int.tmod q0 50)) (.int .i64 q)), (34, .call _)]) (ch := []) (evk 50) special
          ⟨trivial, m1, congrArg (Value.int .i64) e1, m2, congrArg (Value.int .i64) e2, ml, trivial⟩ trivial (by kernel_rfl)
      | cons y r =>
        have hlo := jd_loop (N := N) (n := S.length) (a := a) (b := b) hL (y :: r).length 0 (by omega)
        rw [List.drop_zero] at hlo
        cases hj : (y :: r).any (fun o => joinsS o a b) with
        | true =>
          rw [hj] at hL' hlo
          simp only [cond_true] at hL'
          subst hL'
          rw [base.1, base.2]
          exact call_k [] (hs := [(4, .frz), (20, .call _), (22, .val (.int .i64 (W (1 + Int.tmod p0 20))) (.int .i64 p)), (26, .call _), (27, .val (.int .i64 (Int.tmod q0 50)) (.int .i64 q)), (30, .val (.bool (((y :: r).length : Int) == 24)) (.bool false)), (34, .call _)]) (ch := [⟨6, none, .loop (lp Try.prog 49 6), Tjd a b (y :: r).length 0, [], Hjd N S.length (y :: r) tzs, 39, _, false⟩]) (evk 50) special
            ⟨trivial, m1, congrArg (Value.int .i64) e1, m2, congrArg (Value.int .i64) e2, congrArg Value.bool d24, ml, trivial⟩ ⟨codeOk_loop hlo, trivial⟩ (by kernel_rfl)
        | false =>
          rw [hj] at hL' hlo
          simp only [cond_false] at hL'
          subst hL'
          rw [(base2 _).1, (base2 _).2]
          have ap := app_k (a := 33) (b := 39) (L := y :: r) (x := ⟨a, b, p, q⟩) hL
          exact call_k [] (hs := [(4, .frz), (20, .call _), (22, .val (.int .i64 (W (1 + Int.tmod p0 20))) (.int .i64 p)), (26, .call _), (27, .val (.int .i64 (Int.tmod q0 50)) (.int .i64 q)), (30, .val (.bool (((y :: r).length : Int) == 24)) (.bool false)), (34, .call _), (56, .app _ _ _ _ _ _ _ _)]) (ch := [⟨6, none, .loop (lp Try.prog 49 6), Tjd a b (y :: r).length 0, [], Hjd N S.length (y :: r) tzs, 39, _, false⟩]) (evk 50) special
            ⟨trivial, m1, congrArg (Value.int .i64) e1, m2, congrArg (Value.int .i64) e2, congrArg Value.bool d24, ml, ap, trivial⟩ ⟨codeOk_loop hlo, trivial⟩ (by kernel_rfl)
/-! ### e -/
def Tje (a b : Int) (n : Nat) (i : Int) : List Value := mkT 59 0 [(2, .int .i64 a), (3, .int .i64 b), (5, pt 44), (8, pt 45), (9, .int .i64 n), (10, pt 47), (11, .int .i64 i)]
def Txje : List Value := mkT 59 0 [(5, pt 44), (8, pt 45), (10, pt 47)]
def Trje : List Value := mkT 59 0 [(8, pt 45)]
def Hje (N : Int) (n : Nat) (L : List Lk) (z : List Value) : Hp := [(44, .cells (tcs N n (slK 41 L)) false), (45, .cells z false), (41, .cells (lcs L) false)]
theorem Hje_below (N : Int) (n : Nat) (y : Lk) (r : List Lk) {z : List Value} (hz : En.smallL (En.small 48 5) z = true) : hpBelow 48 (Hje N n (y :: r) z) = true := by
  have a0 : tidyB 48 (.cells (lcs (y :: r)) false) = true := small_avL (lcs_av _)
  have a1 : tidyB 48 (.cells (tcs N n (slK 41 (y :: r))) false) = true := by simp [tidyB, tcs, slK, En.smallL, En.small]
  have a2 : tidyB 48 (.cells z false) = true := hz
  simp only [Hje, hpBelow, a0, a1, a2]
  rfl
theorem je_go {N : Int} {n : Nat} {y : Lk} {r : List Lk} {a b : Int} {i : Nat} {l : Lk} (hi : (y :: r)[i]? = some l) {q : Bool} (hq : joinsS l a b = q) :
    CodeOk Try.prog none (lp Try.prog 49 6) (Tje a b (y :: r).length i) [] (Hje N n (y :: r) tzs) 48 (bif q then ⟨.ret, Trje, [], Hje N n (y :: r) (tcs N n (slK 41 (y :: r))), 48⟩ else ⟨.normal, Tje a b (y :: r).length (W (i + 1)), [], Hje N n (y :: r) tzs, 48⟩) := by
  have hlt := lt_of hi
  have hd : decide ((i : Int) < (y :: r).length) = true := decide_eq_true (by omega)
  have l1 := lcs_at (b := 41) (ro := false) hi
  have mj := joins_m l a b hq 48
  obtain ⟨l1a, l1b, l1c, l1d⟩ := l
  cases q <;> exact code_at (hs := [(40, .val (.bool (decide ((i : Int) < (y :: r).length))) (.bool true)), (46, .ix 23 (.slice (some ⟨41, 0, none⟩) (y :: r).length oc4) (.int .i64 i) _), (47, .ld 50 _ 41 (lcs (y :: r)) false _), (50, .call _)]) (ch := []) (evk 50) special
    ⟨congrArg Value.bool hd, ixK hlt, ⟨l1, _, rfl⟩, mj, trivial⟩ trivial (by kernel_rfl) (Hje_below N n y r rfl) (Hje_below N n y r (by first | rfl | simp [tcs, slK, En.smallL, En.small])) (by kernel_rfl)
theorem je_out {N : Int} {n : Nat} {y : Lk} {r : List Lk} {a b : Int} :
    CodeOk Try.prog none (lp Try.prog 49 6) (Tje a b (y :: r).length (y :: r).length) [] (Hje N n (y :: r) tzs) 48 ⟨.exit 0, Txje, [], Hje N n (y :: r) tzs, 48⟩ := by
  have hd : decide (((y :: r).length : Int) < (y :: r).length) = false := decide_eq_false (by omega)
  exact code_at (hs := [(40, .val (.bool (decide (((y :: r).length : Int) < (y :: r).length))) (.bool false))]) (ch := []) (evk 50) special
    ⟨congrArg Value.bool hd, trivial⟩ trivial (by kernel_rfl) (Hje_below N n y r rfl) (Hje_below N n y r rfl) (by kernel_rfl)
def Fje (N : Int) (n : Nat) (L : List Lk) : Bool → Res
  | true => ⟨.ret, Trje, [], Hje N n L (tcs N n (slK 41 L)), 48⟩
  | false => ⟨.exit 0, Txje, [], Hje N n L tzs, 48⟩
theorem je_loop {N : Int} {n : Nat} {y : Lk} {r : List Lk} {a b : Int} (hL : (y :: r).length ≤ 900) : ∀ (k i : Nat), i + k = (y :: r).length →
    LoopOk Try.prog none (lp Try.prog 49 6) (Tje a b (y :: r).length i) [] (Hje N n (y :: r) tzs) 48 (Fje N n (y :: r) (((y :: r).drop i).any (fun o => joinsS o a b)))
  | 0, i, h => by
    have : i = (y :: r).length := by omega
    subst this
    rw [List.drop_length]
    exact loopOk_out je_out (by show Exit.exit 0 ≠ Exit.normal; simp)
  | k + 1, i, h => by
    have hlt : i < (y :: r).length := by omega
    rw [List.drop_eq_getElem_cons hlt, List.any_cons]
    cases hq : joinsS (y :: r)[i] a b with
    | true => exact loopOk_out (je_go (List.getElem?_eq_getElem hlt) hq) (by show Exit.ret ≠ Exit.normal; simp)
    | false =>
      have h1 := je_go (N := N) (n := n) (List.getElem?_eq_getElem hlt) hq
      simp only [cond_false] at h1
      rw [show (i : Int) + 1 = ((i + 1 : Nat) : Int) by push_cast; rfl, show W ((i + 1 : Nat) : Int) = ((i + 1 : Nat) : Int) from wrap_nat (by omega)] at h1
      exact loop_step h1 (je_loop hL k (i + 1) (by omega))
termination_by k => k
/-- What with hands back: the links where they were, or at 49. -/
def wke (L L' : List Lk) : Nat := bif L'.length == L.length then 41 else 49
def wne (L L' : List Lk) : Nat := bif L'.length == L.length then 48 else 50
theorem we_call (D : Dr) {N : Int} {S : List Bool} (hN : N = S.length) (hS : S.length ≤ 1000) {L : List Lk} (hL : L.length ≤ 900) (a b : Int) {L' : List Lk} (hL' : withS S N D L a b = L') :
    (∃ fn, Try.prog.funcs[49]? = some fn ∧ fn.body.isSome = true) ∧ CallOk Try.prog 49 [D.v, tvT N S.length 41 L, .int .i64 a, .int .i64 b] (HT D N S 41 L) 43 (tvT N S.length (wke L L') L')
      (hpK (wke L L') L' ([(7, .cells (bc S) false), (6, .cells (tcs N S.length (slK 41 L)) false), (5, .cells tzs false), (4, .cells D.cells true)] ++ roHp D.V)) (wne L L') := by
  have m1 := pick_m (c := D.c2) (i := L.length) (b := 2) D.h2 rfl 47
  have m2 := pick_m (c := D.c3) (i := L.length) (b := 3) D.h3 rfl 47
  have ok1 := pickS_ok D.pe L.length
  have ok2 := pickS_ok D.de L.length
  have e1 : W (1 + Int.tmod (pickS D.pe L.length) 20) = 1 + pickS D.pe L.length % 20 := by
    rw [tmod_lit ok1.1 (by omega)]; exact W_id (by omega)
  have e2 : Int.tmod (pickS D.de L.length) 50 = pickS D.de L.length % 50 := tmod_lit ok2.1 (by omega)
  have ml := fun p (hp : linkS S N (mkL D L.length a b) = p) => link_m (c := oc1) hN hS (mkL D L.length a b) hp L 7 41 48
  unfold withS at hL'
  unfold mkL at hL' ml
  generalize hP : 1 + pickS D.pe L.length % 20 = p at *
  generalize hQ : pickS D.de L.length % 50 = q at *
  generalize pickS D.pe L.length = p0 at *
  generalize pickS D.de L.length = q0 at *
  have base : wke L L = 41 ∧ wne L L = 48 := by simp [wke, wne]
  have base2 : ∀ l, wke L (L ++ [l]) = 49 ∧ wne L (L ++ [l]) = 50 := fun l => by
    have h : (L.length + 1 == L.length) = false := beq_eq_false_iff_ne.2 (by omega)
    simp [wke, wne, h]
  cases d24 : ((L.length : Int) == 24) with
  | true =>
    rw [d24] at hL'
    simp only [cond_true] at hL'
    subst hL'
    rw [base.1, base.2]
    cases L with
    | nil => cases d24
    | cons y r =>
      exact call_k [] (hs := [(4, .frz), (20, .call _), (22, .val (.int .i64 (W (1 + Int.tmod p0 20))) (.int .i64 p)), (26, .call _), (27, .val (.int .i64 (Int.tmod q0 50)) (.int .i64 q)), (30, .val (.bool (((y :: r).length : Int) == 24)) (.bool true))]) (ch := []) (evk 50) special
        ⟨trivial, m1, congrArg (Value.int .i64) e1, m2, congrArg (Value.int .i64) e2, congrArg Value.bool d24, trivial⟩ trivial (by kernel_rfl)
  | false =>
    rw [d24] at hL'
    simp only [cond_false] at hL'
    cases hk : linkS S N ⟨a, b, p, q⟩ with
    | false =>
      rw [hk] at hL'
      simp only [cond_false] at hL'
      subst hL'
      rw [base.1, base.2]
      have ml := ml _ hk
      cases L <;> exact call_k [] (hs := [(4, .frz), (20, .call _), (22, .val (.int .i64 (W (1 + Int.tmod p0 20))) (.int .i64 p)), (26, .call _), (27, .val (.int .i64 (Int.tmod q0 50)) (.int .i64 q)), (30, .val (.bool ((List.length _ : Int) == 24)) (.bool false)), (34, .call _)]) (ch := []) (evk 50) special
        ⟨trivial, m1, congrArg (Value.int .i64) e1, m2, congrArg (Value.int .i64) e2, congrArg Value.bool d24, ml, trivial⟩ trivial (by kernel_rfl)
    | true =>
      rw [hk] at hL'
      simp only [cond_true] at hL'
      have ml := ml _ hk
      cases L with
      | nil =>
        have hL' : [(⟨a, b, p, q⟩ : Lk)] = L' := hL'
        subst hL'
        exact call_k [] (hs := [(4, .frz), (20, .call _), (22, .val (.int .i64 (W (1 + Int.tmod p0 20))) (.int .i64 p)), (26, .call _), (27, .val (.int .i64 (Int.tmod q0 50)) (.int .i64 q)), (34, .call _)]) (ch := []) (evk 50) special
          ⟨trivial, m1, congrArg (Value.int .i64) e1, m2, congrArg (Value.int .i64) e2, ml, trivial⟩ trivial (by kernel_rfl)
      | cons y r =>
        have hlo := je_loop (N := N) (n := S.length) (a := a) (b := b) hL (y :: r).length 0 (by omega)
        rw [List.drop_zero] at hlo
        cases hj : (y :: r).any (fun o => joinsS o a b) with
        | true =>
          rw [hj] at hL' hlo
          simp only [cond_true] at hL'
          subst hL'
          rw [base.1, base.2]
          exact call_k [] (hs := [(4, .frz), (20, .call _), (22, .val (.int .i64 (W (1 + Int.tmod p0 20))) (.int .i64 p)), (26, .call _), (27, .val (.int .i64 (Int.tmod q0 50)) (.int .i64 q)), (30, .val (.bool (((y :: r).length : Int) == 24)) (.bool false)), (34, .call _)]) (ch := [⟨6, none, .loop (lp Try.prog 49 6), Tje a b (y :: r).length 0, [], Hje N S.length (y :: r) tzs, 48, _, false⟩]) (evk 50) special
            ⟨trivial, m1, congrArg (Value.int .i64) e1, m2, congrArg (Value.int .i64) e2, congrArg Value.bool d24, ml, trivial⟩ ⟨codeOk_loop hlo, trivial⟩ (by kernel_rfl)
        | false =>
          rw [hj] at hL' hlo
          simp only [cond_false] at hL'
          subst hL'
          rw [(base2 _).1, (base2 _).2]
          have ap := app_k (a := 41) (b := 48) (L := y :: r) (x := ⟨a, b, p, q⟩) hL
          exact call_k [] (hs := [(4, .frz), (20, .call _), (22, .val (.int .i64 (W (1 + Int.tmod p0 20))) (.int .i64 p)), (26, .call _), (27, .val (.int .i64 (Int.tmod q0 50)) (.int .i64 q)), (30, .val (.bool (((y :: r).length : Int) == 24)) (.bool false)), (34, .call _), (56, .app _ _ _ _ _ _ _ _)]) (ch := [⟨6, none, .loop (lp Try.prog 49 6), Tje a b (y :: r).length 0, [], Hje N S.length (y :: r) tzs, 48, _, false⟩]) (evk 50) special
            ⟨trivial, m1, congrArg (Value.int .i64) e1, m2, congrArg (Value.int .i64) e2, congrArg Value.bool d24, ml, ap, trivial⟩ ⟨codeOk_loop hlo, trivial⟩ (by kernel_rfl)
end Go.Proofs.Ytkngbmaomgfcjaa.topo
/- Contract: the loops of the reference's Topo. -/
namespace Go.Proofs.Ytkngbmaomgfcjaa.topo
open Go Go.En
set_option linter.unusedVariables false

theorem Dr.renC (D : Dr) {σ : Nat → Nat} (h0 : σ 0 = 0) (h1 : σ 1 = 1) (h2 : σ 2 = 2) (h3 : σ 3 = 3) (m : Nat) : D.cells.map (renV σ m) = D.cells := by
  simp only [Dr.cells, List.map_cons, List.map_nil, sl_ren D.h0 h0, sl_ren D.h1 h1, sl_ren D.h2 h2, sl_ren D.h3 h3]
  cases m <;> rfl
theorem Dr.small (D : Dr) {k : Nat} (hk : 4 ≤ k) (m : Nat) : En.smallL (En.small k m) D.cells = true := by
  simp only [Dr.cells, En.smallL, sl_small D.h0 (show 0 < k by omega), sl_small D.h1 (show 1 < k by omega), sl_small D.h2 (show 2 < k by omega), sl_small D.h3 (show 3 < k by omega)]
  cases m <;> rfl
theorem DV_ren (D : Dr) {σ : Nat → Nat} (h0 : σ 0 = 0) (h1 : σ 1 = 1) (h2 : σ 2 = 2) (h3 : σ 3 = 3) : renHp σ (roHp D.V) = roHp D.V := by
  simp only [Dr.V, roHp, renHp, renBlk, h0, h1, h2, h3, renV_avL (ucs_av _)]
theorem DV_below (D : Dr) {n : Nat} (hn : 4 ≤ n) : hpBelow n (roHp D.V) = true := by
  have a0 : tidyB n (.cells (ucs D.ch) true) = true := small_avL (ucs_av _)
  have a1 : tidyB n (.cells (ucs D.ho) true) = true := small_avL (ucs_av _)
  have a2 : tidyB n (.cells (ucs D.pe) true) = true := small_avL (ucs_av _)
  have a3 : tidyB n (.cells (ucs D.de) true) = true := small_avL (ucs_av _)
  simp only [Dr.V, roHp, hpBelow, a0, a1, a2, a3]
  simp; omega
theorem slK_ren {σ : Nat → Nat} {k k' : Nat} (h : σ k = k') (L : List Lk) : renV σ 5 (slK k L) = slK k' L := by
  cases L with
  | nil => rfl
  | cons x r => simp only [slK, renV, h]
theorem HT_ren (D : Dr) (N : Int) (S : List Bool) {σ : Nat → Nat} (hσ : ∀ b, b < 8 → σ b = b) {k k' : Nat} (hk : σ k = k') (L : List Lk) : renHp σ (HT D N S k L) = HT D N S k' L := by
  have e0 := DV_ren D (hσ 0 (by omega)) (hσ 1 (by omega)) (hσ 2 (by omega)) (hσ 3 (by omega))
  have e1 := D.renC (hσ 0 (by omega)) (hσ 1 (by omega)) (hσ 2 (by omega)) (hσ 3 (by omega)) 5
  have e2 : (tcs N S.length (slK k L)).map (renV σ 5) = tcs N S.length (slK k' L) := by
    simp only [tcs, List.map_cons, List.map_nil, slK_ren hk, renV, hσ 7 (by omega)]
  have e3 : tzs.map (renV σ 5) = tzs := rfl
  have e4 : (bc S).map (renV σ 5) = bc S := renV_avL (bc_av S)
  cases L with
  | nil => simp only [HT, hpK, List.cons_append, List.nil_append, renHp, renBlk, e0, e1, e2, e3, e4, hσ 7 (by omega), hσ 6 (by omega), hσ 5 (by omega), hσ 4 (by omega)]
  | cons x r => simp only [HT, hpK, List.cons_append, List.nil_append, renHp, renBlk, e0, e1, e2, e3, e4, hk, renV_avL (lcs_av _), hσ 7 (by omega), hσ 6 (by omega), hσ 5 (by omega), hσ 4 (by omega)]
theorem HT_below (D : Dr) (N : Int) (S : List Bool) {k n : Nat} (L : List Lk) (hk : k < n) (hn : 8 ≤ n) : hpBelow n (HT D N S k L) = true := by
  have a0 := DV_below D (show 4 ≤ n by omega)
  have a1 : tidyB n (.cells D.cells true) = true := D.small (by omega) 5
  have a2 : tidyB n (.cells (bc S) false) = true := small_avL (bc_av S)
  have a3 : tidyB n (.cells tzs false) = true := by simp [tidyB, tzs, En.smallL, En.small]
  have a4 : tidyB n (.cells (tcs N S.length (slK k L)) false) = true := by
    cases L with
    | nil => simp [tidyB, tcs, slK, En.smallL, En.small]; omega
    | cons x r => simp [tidyB, tcs, slK, En.smallL, En.small]; omega
  cases L with
  | nil => simp only [HT, hpK, List.cons_append, List.nil_append, hpBelow, a0, a1, a2, a3, a4]; simp; omega
  | cons x r =>
    have a5 : tidyB n (.cells (lcs (x :: r)) false) = true := small_avL (lcs_av _)
    simp only [HT, hpK, List.cons_append, List.nil_append, hpBelow, a0, a1, a2, a3, a4, a5]; simp; omega
theorem withS_cases (S : List Bool) (N : Int) (D : Dr) (L : List Lk) (a b : Int) : withS S N D L a b = L ∨ withS S N D L a b = L ++ [mkL D L.length a b] := by
  unfold withS
  cases ((L.length : Int) == 24) <;> cases linkS S N (mkL D L.length a b) <;> cases (L.any fun o => joinsS o a b) <;> simp
theorem withS_len {S : List Bool} {N : Int} {D : Dr} {L : List Lk} {a b : Int} (h : L.length ≤ 24) : (withS S N D L a b).length ≤ 24 := by
  unfold withS
  cases h24 : ((L.length : Int) == 24) with
  | true => simpa using h
  | false =>
    have : L.length ≠ 24 := by intro e; rw [e] at h24; cases h24
    cases linkS S N (mkL D L.length a b) <;> cases (L.any fun o => joinsS o a b) <;> simp <;> omega
def itr (f : Nat → List Lk → List Lk) : Nat → Nat → List Lk → List Lk
  | 0, _, L => L
  | k + 1, i, L => itr f k (i + 1) (f i L)
def TT (B T : Int) (s : Nat) (i : Int) : List Value := mkT 141 0 [(1, pt 4), (2, pt 5), (3, .int .i64 B), (4, .int .i64 T), (5, pt 6), (s, .int .i64 i)]
def TTX (B T : Int) : List Value := mkT 141 0 [(1, pt 4), (2, pt 5), (3, .int .i64 B), (4, .int .i64 T), (5, pt 6)]
def fA (S : List Bool) (N : Int) (D : Dr) (i : Nat) (L : List Lk) : List Lk := withS S N D L (W ((i : Int) - 1)) i
def fB (S : List Bool) (N : Int) (D : Dr) (B : Int) (i : Nat) (L : List Lk) : List Lk := withS S N D L (W (B + i)) (Int.tmod (pickS D.ho (2 * i)) B)
def fD (S : List Bool) (N : Int) (D : Dr) (B : Int) (i : Nat) (L : List Lk) : List Lk := bif decide (Int.tmod (pickS D.ho (2 * i + 1)) 3 > 0) then withS S N D L (W (B + i)) (Int.tmod (pickS D.ho (2 * i + 1)) B) else L
def fE (S : List Bool) (N : Int) (D : Dr) (B : Int) (j : Nat) (L : List Lk) : List Lk := withS S N D L (Int.tmod (pickS D.ch (2 * j)) B) (Int.tmod (pickS D.ch (2 * j + 1)) B)
section
variable {D : Dr} {N B T : Int} {S : List Bool}
theorem ga_same (hN : N = S.length) (hS : S.length ≤ 1000) {L : List Lk} (hL : L.length ≤ 900) {i : Nat} (hi : (i : Int) < B) (hF : withS S N D L (W ((i : Int) - 1)) (i) = L) :
    CodeOk Try.prog none (lp Try.prog 21 9) (TT B T 7 i) [] (HT D N S 10 L) 11 ⟨.normal, TT B T 7 (W (i + 1)), [], HT D N S 10 L, 16⟩ := by
  have hd : decide ((i : Int) < B) = true := decide_eq_true hi
  have hc := any_call (o := opAt Try.prog 21 11 5) (cf := .func 49) (args := #[.tmp 44, .tmp 45, .tmp 47, .tmp 48]) (ats := #[46, 25, 3, 3]) special (by kernel_rfl) (wa_call D hN hS hL (W ((i : Int) - 1)) (i) hF)
  rw [show wka L L = 10 by simp [wka], show wna L L = 16 by simp [wna]] at hc

  cases L with
  | nil => exact code_k [7, 6, 5, 4, 0, 1, 2, 3] (hs := [(41, .val (.bool (decide ((i : Int) < B))) (.bool true)), (49, (.any (opAt Try.prog 21 11 5) _ _ _ _ _ _))]) (ch := []) (evk 50) special ⟨congrArg Value.bool hd, hc, trivial⟩ trivial (by kernel_rfl)
  | cons y r => exact code_k [10, 7, 6, 5, 4, 0, 1, 2, 3] (hs := [(41, .val (.bool (decide ((i : Int) < B))) (.bool true)), (49, (.any (opAt Try.prog 21 11 5) _ _ _ _ _ _))]) (ch := []) (evk 50) special ⟨congrArg Value.bool hd, hc, trivial⟩ trivial (by kernel_rfl)
theorem ga_more (hN : N = S.length) (hS : S.length ≤ 1000) {L : List Lk} (hL : L.length ≤ 900) {i : Nat} {l : Lk} (hi : (i : Int) < B) (hF : withS S N D L (W ((i : Int) - 1)) (i) = (L ++ [l])) :
    CodeOk Try.prog none (lp Try.prog 21 9) (TT B T 7 i) [] (HT D N S 10 L) 11 ⟨.normal, TT B T 7 (W (i + 1)), [], HT D N S 17 (L ++ [l]), 18⟩ := by
  have hd : decide ((i : Int) < B) = true := decide_eq_true hi
  have hc := any_call (o := opAt Try.prog 21 11 5) (cf := .func 49) (args := #[.tmp 44, .tmp 45, .tmp 47, .tmp 48]) (ats := #[46, 25, 3, 3]) special (by kernel_rfl) (wa_call D hN hS hL (W ((i : Int) - 1)) (i) hF)
  have hne : (L.length + 1 == L.length) = false := beq_eq_false_iff_ne.2 (by omega)
  rw [show wka L (L ++ [l]) = 17 by simp [wka, hne], show wna L (L ++ [l]) = 18 by simp [wna, hne]] at hc

  cases L with
  | nil => exact code_k [17, 7, 6, 5, 4, 0, 1, 2, 3] (hs := [(41, .val (.bool (decide ((i : Int) < B))) (.bool true)), (49, (.any (opAt Try.prog 21 11 5) _ _ _ _ _ _))]) (ch := []) (evk 50) special ⟨congrArg Value.bool hd, hc, trivial⟩ trivial (by kernel_rfl)
  | cons y r => exact code_k [17, 7, 6, 5, 4, 0, 1, 2, 3] (hs := [(41, .val (.bool (decide ((i : Int) < B))) (.bool true)), (49, (.any (opAt Try.prog 21 11 5) _ _ _ _ _ _))]) (ch := []) (evk 50) special ⟨congrArg Value.bool hd, hc, trivial⟩ trivial (by kernel_rfl)
theorem gb_same (hN : N = S.length) (hS : S.length ≤ 1000) {L : List Lk} (hL : L.length ≤ 900) {i : Nat} (hi : (i : Int) < T) (hi2 : i ≤ 1000) (hB : B ≠ 0) (hF : withS S N D L (W (B + i)) (Int.tmod (pickS D.ho (2 * i)) B) = L) :
    CodeOk Try.prog none (lp Try.prog 21 13) (TT B T 8 i) [] (HT D N S 18 L) 19 ⟨.normal, TT B T 8 (W (i + 1)), [], HT D N S 18 L, 24⟩ := by
  have hd : decide ((i : Int) < T) = true := decide_eq_true hi
  have e1 : W (2 * (i : Int)) = ((2 * i : Nat) : Int) := by rw [show 2 * (i : Int) = ((2 * i : Nat) : Int) by push_cast; rfl]; exact wrap_nat (by omega)
  have mp := pick_m (c := D.c1) (i := 2 * i) (b := 1) D.h1 rfl 19
  have b1 := fun xo yo => rem_bin (P := Try.prog) (t := 3) (k := .i64) (a := pickS D.ho (2 * i)) hB xo yo
  have hc := any_call (o := opAt Try.prog 21 15 12) (cf := .func 49) (args := #[.tmp 55, .tmp 56, .tmp 59, .tmp 66]) (ats := #[46, 25, 3, 3]) special (by kernel_rfl) (wb_call D hN hS hL (W (B + i)) (Int.tmod (pickS D.ho (2 * i)) B) hF)
  rw [show wkb L L = 18 by simp [wkb], show wnb L L = 24 by simp [wnb]] at hc
  generalize pickS D.ho (2 * i) = p0 at mp b1 hc
  cases L with
  | nil => exact code_k [7, 6, 5, 4, 0, 1, 2, 3] (hs := [(52, .val (.bool (decide ((i : Int) < T))) (.bool true)), (63, .val (.int .i64 (W (2 * (i : Int)))) (.int .i64 (2 * i : Nat))), (64, .call _), (66, .bin .rem 3 _ _ _), (67, (.any (opAt Try.prog 21 15 12) _ _ _ _ _ _))]) (ch := []) (evk 50) special ⟨congrArg Value.bool hd, congrArg (Value.int .i64) e1, mp, b1, hc, trivial⟩ trivial (by kernel_rfl)
  | cons y r => exact code_k [18, 7, 6, 5, 4, 0, 1, 2, 3] (hs := [(52, .val (.bool (decide ((i : Int) < T))) (.bool true)), (63, .val (.int .i64 (W (2 * (i : Int)))) (.int .i64 (2 * i : Nat))), (64, .call _), (66, .bin .rem 3 _ _ _), (67, (.any (opAt Try.prog 21 15 12) _ _ _ _ _ _))]) (ch := []) (evk 50) special ⟨congrArg Value.bool hd, congrArg (Value.int .i64) e1, mp, b1, hc, trivial⟩ trivial (by kernel_rfl)
theorem gb_more (hN : N = S.length) (hS : S.length ≤ 1000) {L : List Lk} (hL : L.length ≤ 900) {i : Nat} {l : Lk} (hi : (i : Int) < T) (hi2 : i ≤ 1000) (hB : B ≠ 0) (hF : withS S N D L (W (B + i)) (Int.tmod (pickS D.ho (2 * i)) B) = (L ++ [l])) :
    CodeOk Try.prog none (lp Try.prog 21 13) (TT B T 8 i) [] (HT D N S 18 L) 19 ⟨.normal, TT B T 8 (W (i + 1)), [], HT D N S 25 (L ++ [l]), 26⟩ := by
  have hd : decide ((i : Int) < T) = true := decide_eq_true hi
  have e1 : W (2 * (i : Int)) = ((2 * i : Nat) : Int) := by rw [show 2 * (i : Int) = ((2 * i : Nat) : Int) by push_cast; rfl]; exact wrap_nat (by omega)
  have mp := pick_m (c := D.c1) (i := 2 * i) (b := 1) D.h1 rfl 19
  have b1 := fun xo yo => rem_bin (P := Try.prog) (t := 3) (k := .i64) (a := pickS D.ho (2 * i)) hB xo yo
  have hc := any_call (o := opAt Try.prog 21 15 12) (cf := .func 49) (args := #[.tmp 55, .tmp 56, .tmp 59, .tmp 66]) (ats := #[46, 25, 3, 3]) special (by kernel_rfl) (wb_call D hN hS hL (W (B + i)) (Int.tmod (pickS D.ho (2 * i)) B) hF)
  have hne : (L.length + 1 == L.length) = false := beq_eq_false_iff_ne.2 (by omega)
  rw [show wkb L (L ++ [l]) = 25 by simp [wkb, hne], show wnb L (L ++ [l]) = 26 by simp [wnb, hne]] at hc
  generalize pickS D.ho (2 * i) = p0 at mp b1 hc
  cases L with
  | nil => exact code_k [25, 7, 6, 5, 4, 0, 1, 2, 3] (hs := [(52, .val (.bool (decide ((i : Int) < T))) (.bool true)), (63, .val (.int .i64 (W (2 * (i : Int)))) (.int .i64 (2 * i : Nat))), (64, .call _), (66, .bin .rem 3 _ _ _), (67, (.any (opAt Try.prog 21 15 12) _ _ _ _ _ _))]) (ch := []) (evk 50) special ⟨congrArg Value.bool hd, congrArg (Value.int .i64) e1, mp, b1, hc, trivial⟩ trivial (by kernel_rfl)
  | cons y r => exact code_k [25, 7, 6, 5, 4, 0, 1, 2, 3] (hs := [(52, .val (.bool (decide ((i : Int) < T))) (.bool true)), (63, .val (.int .i64 (W (2 * (i : Int)))) (.int .i64 (2 * i : Nat))), (64, .call _), (66, .bin .rem 3 _ _ _), (67, (.any (opAt Try.prog 21 15 12) _ _ _ _ _ _))]) (ch := []) (evk 50) special ⟨congrArg Value.bool hd, congrArg (Value.int .i64) e1, mp, b1, hc, trivial⟩ trivial (by kernel_rfl)
theorem gd_same (hN : N = S.length) (hS : S.length ≤ 1000) {L : List Lk} (hL : L.length ≤ 900) {i : Nat} (hi : (i : Int) < T) (hi2 : i ≤ 1000) (hB : B ≠ 0) (hg : decide (Int.tmod (pickS D.ho (2 * i + 1)) 3 > 0) = true) (hF : withS S N D L (W (B + i)) (Int.tmod (pickS D.ho (2 * i + 1)) B) = L) :
    CodeOk Try.prog none (lp Try.prog 21 19) (TT B T 9 i) [] (HT D N S 33 L) 34 ⟨.normal, TT B T 9 (W (i + 1)), [], HT D N S 33 L, 39⟩ := by
  have hd : decide ((i : Int) < T) = true := decide_eq_true hi
  have e1 : W (2 * (i : Int)) = ((2 * i : Nat) : Int) := by rw [show 2 * (i : Int) = ((2 * i : Nat) : Int) by push_cast; rfl]; exact wrap_nat (by omega)
  have e2 : W (((2 * i : Nat) : Int) + 1) = ((2 * i + 1 : Nat) : Int) := by rw [show ((2 * i : Nat) : Int) + 1 = ((2 * i + 1 : Nat) : Int) by push_cast; rfl]; exact wrap_nat (by omega)
  have mp := pick_m (c := D.c1) (i := 2 * i + 1) (b := 1) D.h1 rfl 34
  have b1 := fun xo yo => rem_bin (P := Try.prog) (t := 3) (k := .i64) (a := pickS D.ho (2 * i + 1)) hB xo yo
  have hc := any_call (o := opAt Try.prog 21 22 13) (cf := .func 49) (args := #[.tmp 94, .tmp 95, .tmp 98, .tmp 106]) (ats := #[46, 25, 3, 3]) special (by kernel_rfl) (wd_call D hN hS hL (W (B + i)) (Int.tmod (pickS D.ho (2 * i + 1)) B) hF)
  rw [show wkd L L = 33 by simp [wkd], show wnd L L = 39 by simp [wnd]] at hc
  generalize pickS D.ho (2 * i + 1) = p0 at mp b1 hc hg
  cases L with
  | nil => exact code_k [7, 6, 5, 4, 0, 1, 2, 3] (hs := [(83, .val (.bool (decide ((i : Int) < T))) (.bool true)), (89, .val (.int .i64 (W (2 * (i : Int)))) (.int .i64 (2 * i : Nat))), (90, .val (.int .i64 (W (((2 * i : Nat) : Int) + 1))) (.int .i64 (2 * i + 1 : Nat))), (91, .call _), (93, .val (.bool (decide (Int.tmod p0 3 > 0))) (.bool true)), (102, .val (.int .i64 (W (2 * (i : Int)))) (.int .i64 (2 * i : Nat))), (103, .val (.int .i64 (W (((2 * i : Nat) : Int) + 1))) (.int .i64 (2 * i + 1 : Nat))), (104, .call _), (106, .bin .rem 3 _ _ _), (107, (.any (opAt Try.prog 21 22 13) _ _ _ _ _ _))]) (ch := []) (evk 50) special ⟨congrArg Value.bool hd, congrArg (Value.int .i64) e1, congrArg (Value.int .i64) e2, mp, congrArg Value.bool hg, congrArg (Value.int .i64) e1, congrArg (Value.int .i64) e2, mp, b1, hc, trivial⟩ trivial (by kernel_rfl)
  | cons y r => exact code_k [33, 7, 6, 5, 4, 0, 1, 2, 3] (hs := [(83, .val (.bool (decide ((i : Int) < T))) (.bool true)), (89, .val (.int .i64 (W (2 * (i : Int)))) (.int .i64 (2 * i : Nat))), (90, .val (.int .i64 (W (((2 * i : Nat) : Int) + 1))) (.int .i64 (2 * i + 1 : Nat))), (91, .call _), (93, .val (.bool (decide (Int.tmod p0 3 > 0))) (.bool true)), (102, .val (.int .i64 (W (2 * (i : Int)))) (.int .i64 (2 * i : Nat))), (103, .val (.int .i64 (W (((2 * i : Nat) : Int) + 1))) (.int .i64 (2 * i + 1 : Nat))), (104, .call _), (106, .bin .rem 3 _ _ _), (107, (.any (opAt Try.prog 21 22 13) _ _ _ _ _ _))]) (ch := []) (evk 50) special ⟨congrArg Value.bool hd, congrArg (Value.int .i64) e1, congrArg (Value.int .i64) e2, mp, congrArg Value.bool hg, congrArg (Value.int .i64) e1, congrArg (Value.int .i64) e2, mp, b1, hc, trivial⟩ trivial (by kernel_rfl)
theorem gd_more (hN : N = S.length) (hS : S.length ≤ 1000) {L : List Lk} (hL : L.length ≤ 900) {i : Nat} {l : Lk} (hi : (i : Int) < T) (hi2 : i ≤ 1000) (hB : B ≠ 0) (hg : decide (Int.tmod (pickS D.ho (2 * i + 1)) 3 > 0) = true) (hF : withS S N D L (W (B + i)) (Int.tmod (pickS D.ho (2 * i + 1)) B) = (L ++ [l])) :
    CodeOk Try.prog none (lp Try.prog 21 19) (TT B T 9 i) [] (HT D N S 33 L) 34 ⟨.normal, TT B T 9 (W (i + 1)), [], HT D N S 40 (L ++ [l]), 41⟩ := by
  have hd : decide ((i : Int) < T) = true := decide_eq_true hi
  have e1 : W (2 * (i : Int)) = ((2 * i : Nat) : Int) := by rw [show 2 * (i : Int) = ((2 * i : Nat) : Int) by push_cast; rfl]; exact wrap_nat (by omega)
  have e2 : W (((2 * i : Nat) : Int) + 1) = ((2 * i + 1 : Nat) : Int) := by rw [show ((2 * i : Nat) : Int) + 1 = ((2 * i + 1 : Nat) : Int) by push_cast; rfl]; exact wrap_nat (by omega)
  have mp := pick_m (c := D.c1) (i := 2 * i + 1) (b := 1) D.h1 rfl 34
  have b1 := fun xo yo => rem_bin (P := Try.prog) (t := 3) (k := .i64) (a := pickS D.ho (2 * i + 1)) hB xo yo
  have hc := any_call (o := opAt Try.prog 21 22 13) (cf := .func 49) (args := #[.tmp 94, .tmp 95, .tmp 98, .tmp 106]) (ats := #[46, 25, 3, 3]) special (by kernel_rfl) (wd_call D hN hS hL (W (B + i)) (Int.tmod (pickS D.ho (2 * i + 1)) B) hF)
  have hne : (L.length + 1 == L.length) = false := beq_eq_false_iff_ne.2 (by omega)
  rw [show wkd L (L ++ [l]) = 40 by simp [wkd, hne], show wnd L (L ++ [l]) = 41 by simp [wnd, hne]] at hc
  generalize pickS D.ho (2 * i + 1) = p0 at mp b1 hc hg
  cases L with
  | nil => exact code_k [40, 7, 6, 5, 4, 0, 1, 2, 3] (hs := [(83, .val (.bool (decide ((i : Int) < T))) (.bool true)), (89, .val (.int .i64 (W (2 * (i : Int)))) (.int .i64 (2 * i : Nat))), (90, .val (.int .i64 (W (((2 * i : Nat) : Int) + 1))) (.int .i64 (2 * i + 1 : Nat))), (91, .call _), (93, .val (.bool (decide (Int.tmod p0 3 > 0))) (.bool true)), (102, .val (.int .i64 (W (2 * (i : Int)))) (.int .i64 (2 * i : Nat))), (103, .val (.int .i64 (W (((2 * i : Nat) : Int) + 1))) (.int .i64 (2 * i + 1 : Nat))), (104, .call _), (106, .bin .rem 3 _ _ _), (107, (.any (opAt Try.prog 21 22 13) _ _ _ _ _ _))]) (ch := []) (evk 50) special ⟨congrArg Value.bool hd, congrArg (Value.int .i64) e1, congrArg (Value.int .i64) e2, mp, congrArg Value.bool hg, congrArg (Value.int .i64) e1, congrArg (Value.int .i64) e2, mp, b1, hc, trivial⟩ trivial (by kernel_rfl)
  | cons y r => exact code_k [40, 7, 6, 5, 4, 0, 1, 2, 3] (hs := [(83, .val (.bool (decide ((i : Int) < T))) (.bool true)), (89, .val (.int .i64 (W (2 * (i : Int)))) (.int .i64 (2 * i : Nat))), (90, .val (.int .i64 (W (((2 * i : Nat) : Int) + 1))) (.int .i64 (2 * i + 1 : Nat))), (91, .call _), (93, .val (.bool (decide (Int.tmod p0 3 > 0))) (.bool true)), (102, .val (.int .i64 (W (2 * (i : Int)))) (.int .i64 (2 * i : Nat))), (103, .val (.int .i64 (W (((2 * i : Nat) : Int) + 1))) (.int .i64 (2 * i + 1 : Nat))), (104, .call _), (106, .bin .rem 3 _ _ _), (107, (.any (opAt Try.prog 21 22 13) _ _ _ _ _ _))]) (ch := []) (evk 50) special ⟨congrArg Value.bool hd, congrArg (Value.int .i64) e1, congrArg (Value.int .i64) e2, mp, congrArg Value.bool hg, congrArg (Value.int .i64) e1, congrArg (Value.int .i64) e2, mp, b1, hc, trivial⟩ trivial (by kernel_rfl)
end
end Go.Proofs.Ytkngbmaomgfcjaa.topo
/- Contract: the loops of the reference's Topo, whole. -/
namespace Go.Proofs.Ytkngbmaomgfcjaa.topo
open Go Go.En
set_option linter.unusedVariables false

section
variable {D : Dr} {N B T : Int} {S : List Bool}
theorem gd_skip {L : List Lk} {i : Nat} (hi : (i : Int) < T) (hi2 : i ≤ 1000) (hg : decide (Int.tmod (pickS D.ho (2 * i + 1)) 3 > 0) = false) :
    CodeOk Try.prog none (lp Try.prog 21 19) (TT B T 9 i) [] (HT D N S 33 L) 34 ⟨.normal, TT B T 9 (W (i + 1)), [], HT D N S 33 L, 34⟩ := by
  have hd : decide ((i : Int) < T) = true := decide_eq_true hi
  have e1 : W (2 * (i : Int)) = ((2 * i : Nat) : Int) := by rw [show 2 * (i : Int) = ((2 * i : Nat) : Int) by push_cast; rfl]; exact wrap_nat (by omega)
  have e2 : W (((2 * i : Nat) : Int) + 1) = ((2 * i + 1 : Nat) : Int) := by rw [show ((2 * i : Nat) : Int) + 1 = ((2 * i + 1 : Nat) : Int) by push_cast; rfl]; exact wrap_nat (by omega)
  have mp := pick_m (c := D.c1) (i := 2 * i + 1) (b := 1) D.h1 rfl 34
  generalize pickS D.ho (2 * i + 1) = p0 at mp hg
  cases L with
  | nil => exact code_k [7, 6, 5, 4, 0, 1, 2, 3] (hs := [(83, .val (.bool (decide ((i : Int) < T))) (.bool true)), (89, .val (.int .i64 (W (2 * (i : Int)))) (.int .i64 (2 * i : Nat))), (90, .val (.int .i64 (W (((2 * i : Nat) : Int) + 1))) (.int .i64 (2 * i + 1 : Nat))), (91, .call _), (93, .val (.bool (decide (Int.tmod p0 3 > 0))) (.bool false))]) (ch := []) (evk 50) special ⟨congrArg Value.bool hd, congrArg (Value.int .i64) e1, congrArg (Value.int .i64) e2, mp, congrArg Value.bool hg, trivial⟩ trivial (by kernel_rfl)
  | cons y r => exact code_k [33, 7, 6, 5, 4, 0, 1, 2, 3] (hs := [(83, .val (.bool (decide ((i : Int) < T))) (.bool true)), (89, .val (.int .i64 (W (2 * (i : Int)))) (.int .i64 (2 * i : Nat))), (90, .val (.int .i64 (W (((2 * i : Nat) : Int) + 1))) (.int .i64 (2 * i + 1 : Nat))), (91, .call _), (93, .val (.bool (decide (Int.tmod p0 3 > 0))) (.bool false))]) (ch := []) (evk 50) special ⟨congrArg Value.bool hd, congrArg (Value.int .i64) e1, congrArg (Value.int .i64) e2, mp, congrArg Value.bool hg, trivial⟩ trivial (by kernel_rfl)
theorem chord {D : Dr} {i : Nat} (hi : i < D.ch.length) : doIndexAddr Try.prog 44 (.slice D.s0 D.ch.length D.c0) (.int .i64 i) = some (.pointer (some ⟨0, 0 + i * 1, none⟩)) ∧ doLoad Try.prog [(0, .cells (ucs D.ch) true)] 5 (.pointer (some ⟨0, 0 + i * 1, none⟩)) = some (.int .u8 (pickS D.ch i)) ∧ W (pickS D.ch i) = pickS D.ch i := by
  have hat : D.ch[i]? = some D.ch[i] := List.getElem?_eq_getElem hi
  have hx := D.ch[i].h
  have hp : pickS D.ch i = D.ch[i].x := by unfold pickS; rw [hat]
  rw [hp]
  exact ⟨D.h0.ix' u44 z5 hi, ld1 z5 (cellsOfL_get (f := U8.cells) (s := 1) (fun _ => rfl) hat 0 _ rfl), W_id (by omega)⟩
theorem ge_same (hN : N = S.length) (hS : S.length ≤ 1000) {L : List Lk} (hL : L.length ≤ 900) {i : Nat} (hi : i + 1 < D.ch.length) (h12 : i < 12) (hB : B ≠ 0) (hF : withS S N D L (Int.tmod (pickS D.ch i) B) (Int.tmod (pickS D.ch (i + 1)) B) = L) :
    CodeOk Try.prog none (lp Try.prog 21 24) (TT B T 10 i) [] (HT D N S 41 L) 42 ⟨.normal, TT B T 10 (W (i + 2)), [], HT D N S 41 L, 48⟩ := by
  have e1 : W ((i : Int) + 1) = ((i + 1 : Nat) : Int) := by rw [show (i : Int) + 1 = ((i + 1 : Nat) : Int) by push_cast; rfl]; exact wrap_nat (by omega)
  have d1 : decide (((i + 1 : Nat) : Int) < D.ch.length) = true := decide_eq_true (by omega)
  have d2 : decide ((i : Int) < 12) = true := decide_eq_true (by omega)
  obtain ⟨x1, x2, x3⟩ := chord (D := D) (i := i) (by omega)
  obtain ⟨y1, y2, y3⟩ := chord (D := D) (i := i + 1) hi
  have b1 := fun xo yo => rem_bin (P := Try.prog) (t := 3) (k := .i64) (a := pickS D.ch i) hB xo yo
  have b2 := fun xo yo => rem_bin (P := Try.prog) (t := 3) (k := .i64) (a := pickS D.ch (i + 1)) hB xo yo
  have hc := any_call (o := opAt Try.prog 21 26 19) (cf := .func 49) (args := #[.tmp 120, .tmp 121, .tmp 129, .tmp 138]) (ats := #[46, 25, 3, 3]) special (by kernel_rfl) (we_call D hN hS hL (Int.tmod (pickS D.ch i) B) (Int.tmod (pickS D.ch (i + 1)) B) hF)
  rw [show wke L L = 41 by simp [wke], show wne L L = 48 by simp [wne]] at hc
  generalize pickS D.ch i = p0 at x2 x3 b1 hc
  generalize pickS D.ch (i + 1) = q0 at y2 y3 b2 hc
  cases L with
  | nil => exact code_k [7, 6, 5, 4, 0, 1, 2, 3] (hs := [(109, .val (.int .i64 (W ((i : Int) + 1))) (.int .i64 (i + 1 : Nat))), (113, .val (.bool (decide (((i + 1 : Nat) : Int) < D.ch.length))) (.bool true)), (116, .val (.bool (decide ((i : Int) < 12))) (.bool true)), (125, .ix 44 (.slice D.s0 D.ch.length D.c0) (.int .i64 i) _), (126, .ld 5 _ 0 (ucs D.ch) true _), (127, .val (.int .i64 (W p0)) (.int .i64 p0)), (129, .bin .rem 3 _ _ _), (133, .val (.int .i64 (W ((i : Int) + 1))) (.int .i64 (i + 1 : Nat))), (134, .ix 44 (.slice D.s0 D.ch.length D.c0) (.int .i64 (i + 1 : Nat)) _), (135, .ld 5 _ 0 (ucs D.ch) true _), (136, .val (.int .i64 (W q0)) (.int .i64 q0)), (138, .bin .rem 3 _ _ _), (139, (.any (opAt Try.prog 21 26 19) _ _ _ _ _ _))]) (ch := []) (evk 50) special ⟨congrArg (Value.int .i64) e1, congrArg Value.bool d1, congrArg Value.bool d2, x1, ⟨x2, _, rfl⟩, congrArg (Value.int .i64) x3, b1, congrArg (Value.int .i64) e1, y1, ⟨y2, _, rfl⟩, congrArg (Value.int .i64) y3, b2, hc, trivial⟩ trivial (by kernel_rfl)
  | cons y r => exact code_k [41, 7, 6, 5, 4, 0, 1, 2, 3] (hs := [(109, .val (.int .i64 (W ((i : Int) + 1))) (.int .i64 (i + 1 : Nat))), (113, .val (.bool (decide (((i + 1 : Nat) : Int) < D.ch.length))) (.bool true)), (116, .val (.bool (decide ((i : Int) < 12))) (.bool true)), (125, .ix 44 (.slice D.s0 D.ch.length D.c0) (.int .i64 i) _), (126, .ld 5 _ 0 (ucs D.ch) true _), (127, .val (.int .i64 (W p0)) (.int .i64 p0)), (129, .bin .rem 3 _ _ _), (133, .val (.int .i64 (W ((i : Int) + 1))) (.int .i64 (i + 1 : Nat))), (134, .ix 44 (.slice D.s0 D.ch.length D.c0) (.int .i64 (i + 1 : Nat)) _), (135, .ld 5 _ 0 (ucs D.ch) true _), (136, .val (.int .i64 (W q0)) (.int .i64 q0)), (138, .bin .rem 3 _ _ _), (139, (.any (opAt Try.prog 21 26 19) _ _ _ _ _ _))]) (ch := []) (evk 50) special ⟨congrArg (Value.int .i64) e1, congrArg Value.bool d1, congrArg Value.bool d2, x1, ⟨x2, _, rfl⟩, congrArg (Value.int .i64) x3, b1, congrArg (Value.int .i64) e1, y1, ⟨y2, _, rfl⟩, congrArg (Value.int .i64) y3, b2, hc, trivial⟩ trivial (by kernel_rfl)
theorem ge_more (hN : N = S.length) (hS : S.length ≤ 1000) {L : List Lk} (hL : L.length ≤ 900) {i : Nat} {l : Lk} (hi : i + 1 < D.ch.length) (h12 : i < 12) (hB : B ≠ 0) (hF : withS S N D L (Int.tmod (pickS D.ch i) B) (Int.tmod (pickS D.ch (i + 1)) B) = (L ++ [l])) :
    CodeOk Try.prog none (lp Try.prog 21 24) (TT B T 10 i) [] (HT D N S 41 L) 42 ⟨.normal, TT B T 10 (W (i + 2)), [], HT D N S 49 (L ++ [l]), 50⟩ := by
  have e1 : W ((i : Int) + 1) = ((i + 1 : Nat) : Int) := by rw [show (i : Int) + 1 = ((i + 1 : Nat) : Int) by push_cast; rfl]; exact wrap_nat (by omega)
  have d1 : decide (((i + 1 : Nat) : Int) < D.ch.length) = true := decide_eq_true (by omega)
  have d2 : decide ((i : Int) < 12) = true := decide_eq_true (by omega)
  obtain ⟨x1, x2, x3⟩ := chord (D := D) (i := i) (by omega)
  obtain ⟨y1, y2, y3⟩ := chord (D := D) (i := i + 1) hi
  have b1 := fun xo yo => rem_bin (P := Try.prog) (t := 3) (k := .i64) (a := pickS D.ch i) hB xo yo
  have b2 := fun xo yo => rem_bin (P := Try.prog) (t := 3) (k := .i64) (a := pickS D.ch (i + 1)) hB xo yo
  have hc := any_call (o := opAt Try.prog 21 26 19) (cf := .func 49) (args := #[.tmp 120, .tmp 121, .tmp 129, .tmp 138]) (ats := #[46, 25, 3, 3]) special (by kernel_rfl) (we_call D hN hS hL (Int.tmod (pickS D.ch i) B) (Int.tmod (pickS D.ch (i + 1)) B) hF)
  have hne : (L.length + 1 == L.length) = false := beq_eq_false_iff_ne.2 (by omega)
  rw [show wke L (L ++ [l]) = 49 by simp [wke, hne], show wne L (L ++ [l]) = 50 by simp [wne, hne]] at hc
  generalize pickS D.ch i = p0 at x2 x3 b1 hc
  generalize pickS D.ch (i + 1) = q0 at y2 y3 b2 hc
  cases L with
  | nil => exact code_k [49, 7, 6, 5, 4, 0, 1, 2, 3] (hs := [(109, .val (.int .i64 (W ((i : Int) + 1))) (.int .i64 (i + 1 : Nat))), (113, .val (.bool (decide (((i + 1 : Nat) : Int) < D.ch.length))) (.bool true)), (116, .val (.bool (decide ((i : Int) < 12))) (.bool true)), (125, .ix 44 (.slice D.s0 D.ch.length D.c0) (.int .i64 i) _), (126, .ld 5 _ 0 (ucs D.ch) true _), (127, .val (.int .i64 (W p0)) (.int .i64 p0)), (129, .bin .rem 3 _ _ _), (133, .val (.int .i64 (W ((i : Int) + 1))) (.int .i64 (i + 1 : Nat))), (134, .ix 44 (.slice D.s0 D.ch.length D.c0) (.int .i64 (i + 1 : Nat)) _), (135, .ld 5 _ 0 (ucs D.ch) true _), (136, .val (.int .i64 (W q0)) (.int .i64 q0)), (138, .bin .rem 3 _ _ _), (139, (.any (opAt Try.prog 21 26 19) _ _ _ _ _ _))]) (ch := []) (evk 50) special ⟨congrArg (Value.int .i64) e1, congrArg Value.bool d1, congrArg Value.bool d2, x1, ⟨x2, _, rfl⟩, congrArg (Value.int .i64) x3, b1, congrArg (Value.int .i64) e1, y1, ⟨y2, _, rfl⟩, congrArg (Value.int .i64) y3, b2, hc, trivial⟩ trivial (by kernel_rfl)
  | cons y r => exact code_k [49, 7, 6, 5, 4, 0, 1, 2, 3] (hs := [(109, .val (.int .i64 (W ((i : Int) + 1))) (.int .i64 (i + 1 : Nat))), (113, .val (.bool (decide (((i + 1 : Nat) : Int) < D.ch.length))) (.bool true)), (116, .val (.bool (decide ((i : Int) < 12))) (.bool true)), (125, .ix 44 (.slice D.s0 D.ch.length D.c0) (.int .i64 i) _), (126, .ld 5 _ 0 (ucs D.ch) true _), (127, .val (.int .i64 (W p0)) (.int .i64 p0)), (129, .bin .rem 3 _ _ _), (133, .val (.int .i64 (W ((i : Int) + 1))) (.int .i64 (i + 1 : Nat))), (134, .ix 44 (.slice D.s0 D.ch.length D.c0) (.int .i64 (i + 1 : Nat)) _), (135, .ld 5 _ 0 (ucs D.ch) true _), (136, .val (.int .i64 (W q0)) (.int .i64 q0)), (138, .bin .rem 3 _ _ _), (139, (.any (opAt Try.prog 21 26 19) _ _ _ _ _ _))]) (ch := []) (evk 50) special ⟨congrArg (Value.int .i64) e1, congrArg Value.bool d1, congrArg Value.bool d2, x1, ⟨x2, _, rfl⟩, congrArg (Value.int .i64) x3, b1, congrArg (Value.int .i64) e1, y1, ⟨y2, _, rfl⟩, congrArg (Value.int .i64) y3, b2, hc, trivial⟩ trivial (by kernel_rfl)
theorem ga_out {L : List Lk} : CodeOk Try.prog none (lp Try.prog 21 9) (TT B T 7 B) [] (HT D N S 10 L) 11 ⟨.exit 2, TTX B T, [], HT D N S 10 L, 11⟩ := by
  have hd : decide (B < B) = false := decide_eq_false (by omega)
  cases L with
  | nil => exact code_k [7, 6, 5, 4, 0, 1, 2, 3] (hs := [(41, .val (.bool (decide (B < B))) (.bool false))]) (ch := []) (evk 50) special ⟨congrArg Value.bool hd, trivial⟩ trivial (by kernel_rfl)
  | cons y r => exact code_k [10, 7, 6, 5, 4, 0, 1, 2, 3] (hs := [(41, .val (.bool (decide (B < B))) (.bool false))]) (ch := []) (evk 50) special ⟨congrArg Value.bool hd, trivial⟩ trivial (by kernel_rfl)
theorem gb_out {L : List Lk} : CodeOk Try.prog none (lp Try.prog 21 13) (TT B T 8 T) [] (HT D N S 18 L) 19 ⟨.exit 4, TTX B T, [], HT D N S 18 L, 19⟩ := by
  have hd : decide (T < T) = false := decide_eq_false (by omega)
  cases L with
  | nil => exact code_k [7, 6, 5, 4, 0, 1, 2, 3] (hs := [(52, .val (.bool (decide (T < T))) (.bool false))]) (ch := []) (evk 50) special ⟨congrArg Value.bool hd, trivial⟩ trivial (by kernel_rfl)
  | cons y r => exact code_k [18, 7, 6, 5, 4, 0, 1, 2, 3] (hs := [(52, .val (.bool (decide (T < T))) (.bool false))]) (ch := []) (evk 50) special ⟨congrArg Value.bool hd, trivial⟩ trivial (by kernel_rfl)
theorem gd_out {L : List Lk} : CodeOk Try.prog none (lp Try.prog 21 19) (TT B T 9 T) [] (HT D N S 33 L) 34 ⟨.exit 6, TTX B T, [], HT D N S 33 L, 34⟩ := by
  have hd : decide (T < T) = false := decide_eq_false (by omega)
  cases L with
  | nil => exact code_k [7, 6, 5, 4, 0, 1, 2, 3] (hs := [(83, .val (.bool (decide (T < T))) (.bool false))]) (ch := []) (evk 50) special ⟨congrArg Value.bool hd, trivial⟩ trivial (by kernel_rfl)
  | cons y r => exact code_k [33, 7, 6, 5, 4, 0, 1, 2, 3] (hs := [(83, .val (.bool (decide (T < T))) (.bool false))]) (ch := []) (evk 50) special ⟨congrArg Value.bool hd, trivial⟩ trivial (by kernel_rfl)
theorem ge_out {L : List Lk} {i : Nat} (hi2 : i ≤ 1000) (h : ¬ (i + 1 < D.ch.length ∧ i < 12)) : CodeOk Try.prog none (lp Try.prog 21 24) (TT B T 10 i) [] (HT D N S 41 L) 42 ⟨.exit 8, TTX B T, [], HT D N S 41 L, 43⟩ := by
  have e1 : W ((i : Int) + 1) = ((i + 1 : Nat) : Int) := by rw [show (i : Int) + 1 = ((i + 1 : Nat) : Int) by push_cast; rfl]; exact wrap_nat (by omega)
  have key : ∀ p q, decide (((i + 1 : Nat) : Int) < D.ch.length) = p → decide ((i : Int) < 12) = q → (p && q) = false → CodeOk Try.prog none (lp Try.prog 21 24) (TT B T 10 i) [] (HT D N S 41 L) 42 ⟨.exit 8, TTX B T, [], HT D N S 41 L, 43⟩ := by
    intro p q d1 d2 h3
    cases p
    · cases L with
      | nil => exact code_k [7, 6, 5, 4, 0, 1, 2, 3] (hs := [(109, .val (.int .i64 (W ((i : Int) + 1))) (.int .i64 (i + 1 : Nat))), (113, .val (.bool (decide (((i + 1 : Nat) : Int) < D.ch.length))) (.bool false))]) (ch := []) (evk 50) special ⟨congrArg (Value.int .i64) e1, congrArg Value.bool d1, trivial⟩ trivial (by kernel_rfl)
      | cons y r => exact code_k [41, 7, 6, 5, 4, 0, 1, 2, 3] (hs := [(109, .val (.int .i64 (W ((i : Int) + 1))) (.int .i64 (i + 1 : Nat))), (113, .val (.bool (decide (((i + 1 : Nat) : Int) < D.ch.length))) (.bool false))]) (ch := []) (evk 50) special ⟨congrArg (Value.int .i64) e1, congrArg Value.bool d1, trivial⟩ trivial (by kernel_rfl)
    · cases q
      · cases L with
        | nil => exact code_k [7, 6, 5, 4, 0, 1, 2, 3] (hs := [(109, .val (.int .i64 (W ((i : Int) + 1))) (.int .i64 (i + 1 : Nat))), (113, .val (.bool (decide (((i + 1 : Nat) : Int) < D.ch.length))) (.bool true)), (116, .val (.bool (decide ((i : Int) < 12))) (.bool false))]) (ch := []) (evk 50) special ⟨congrArg (Value.int .i64) e1, congrArg Value.bool d1, congrArg Value.bool d2, trivial⟩ trivial (by kernel_rfl)
        | cons y r => exact code_k [41, 7, 6, 5, 4, 0, 1, 2, 3] (hs := [(109, .val (.int .i64 (W ((i : Int) + 1))) (.int .i64 (i + 1 : Nat))), (113, .val (.bool (decide (((i + 1 : Nat) : Int) < D.ch.length))) (.bool true)), (116, .val (.bool (decide ((i : Int) < 12))) (.bool false))]) (ch := []) (evk 50) special ⟨congrArg (Value.int .i64) e1, congrArg Value.bool d1, congrArg Value.bool d2, trivial⟩ trivial (by kernel_rfl)
      · cases h3
  refine key _ _ rfl rfl ?_
  rw [Bool.and_eq_false_iff, decide_eq_false_iff_not, decide_eq_false_iff_not]
  omega
end
theorem pushL (L : List Lk) (l : Lk) : ∃ y r, L ++ [l] = y :: r := by cases L <;> simp
def σa : Nat → Nat := fun b => if b = 10 then 17 else b
theorem la_loop {D : Dr} {N : Int} {bn tn : Nat} {S : List Bool} (hN : N = S.length) (hS : S.length ≤ 1000) (hb : 0 < bn) (hbn : bn ≤ 100) (htn : tn ≤ 100) : ∀ (k i : Nat) (L : List Lk), i + k = bn → L.length ≤ 24 →
    LoopL Try.prog 10 none (lp Try.prog 21 9) (TT bn tn 7 i) [] (HT D N S 10 L) 11 ⟨.exit 2, TTX bn tn, [], HT D N S 10 (itr (fA S N D) k i L), 18⟩
  | 0, i, L, h, hL => by
    have : i = bn := by omega
    subst this
    exact loopL_out ga_out (by show Exit.exit 2 ≠ Exit.normal; simp) (by omega) (M := 18) (by show 11 ≤ 18; omega)
  | k + 1, i, L, h, hL => by
    have hw : W ((i : Int) + 1) = ((i + 1 : Nat) : Int) := by
      rw [show (i : Int) + 1 = ((i + 1 : Nat) : Int) by push_cast; rfl]; exact wrap_nat (by omega)
    simp only [itr]
    unfold fA
    rcases withS_cases S N D L (W ((i : Int) - 1)) (i) with hF | hF
    · rw [hF]
      have h1 := ga_same (B := bn) (T := tn) hN hS (L := L) (i := i) (by omega) (by omega) hF
      rw [hw] at h1
      have ih := la_loop (D := D) hN hS hb hbn htn k (i + 1) L (by omega) hL
      refine loopL_step (fun b => b) (n1 := 16) ?_ ih (by show 16 ≤ 18; omega) (fun _ _ => rfl) (by rw [HT_ren D N S (fun _ _ => rfl) (k' := 10) rfl]; cases L <;> kernel_rfl) (HT_below D N S L (by omega) (by omega))
      rw [HT_ren D N S (fun _ _ => rfl) (k' := 10) rfl]
      exact h1
    · rw [hF]
      have h1 := ga_more (B := bn) (T := tn) hN hS (L := L) (i := i) (by omega) (by omega) hF
      rw [hw] at h1
      have hl := withS_len (S := S) (N := N) (D := D) (L := L) (a := W ((i : Int) - 1)) (b := i) hL
      rw [hF] at hl
      obtain ⟨y, r, hyr⟩ := pushL L _
      rw [hyr] at h1 hl ⊢
      have ih := la_loop (D := D) hN hS hb hbn htn k (i + 1) (y :: r) (by omega) hl
      refine loopL_step σa (n1 := 18) ?_ ih (by show 18 ≤ 18; omega) (fun b hb => by simp only [σa]; rw [if_neg (by omega)]) (by rw [HT_ren D N S (fun b hb => by simp only [σa]; rw [if_neg (by omega)]) (k' := 17) rfl]; kernel_rfl) (HT_below D N S _ (by omega) (by omega))
      rw [HT_ren D N S (fun b hb => by simp only [σa]; rw [if_neg (by omega)]) (k' := 17) rfl]
      exact h1
termination_by k => k
def σb : Nat → Nat := fun b => if b = 18 then 25 else b
theorem lb_loop {D : Dr} {N : Int} {bn tn : Nat} {S : List Bool} (hN : N = S.length) (hS : S.length ≤ 1000) (hb : 0 < bn) (hbn : bn ≤ 100) (htn : tn ≤ 100) : ∀ (k i : Nat) (L : List Lk), i + k = tn → L.length ≤ 24 →
    LoopL Try.prog 18 none (lp Try.prog 21 13) (TT bn tn 8 i) [] (HT D N S 18 L) 19 ⟨.exit 4, TTX bn tn, [], HT D N S 18 (itr (fB S N D bn) k i L), 26⟩
  | 0, i, L, h, hL => by
    have : i = tn := by omega
    subst this
    exact loopL_out gb_out (by show Exit.exit 4 ≠ Exit.normal; simp) (by omega) (M := 26) (by show 19 ≤ 26; omega)
  | k + 1, i, L, h, hL => by
    have hw : W ((i : Int) + 1) = ((i + 1 : Nat) : Int) := by
      rw [show (i : Int) + 1 = ((i + 1 : Nat) : Int) by push_cast; rfl]; exact wrap_nat (by omega)
    simp only [itr]
    unfold fB
    rcases withS_cases S N D L (W ((bn : Int) + i)) (Int.tmod (pickS D.ho (2 * i)) bn) with hF | hF
    · rw [hF]
      have h1 := gb_same (B := bn) (T := tn) hN hS (L := L) (i := i) (by omega) (by omega) (by omega) (by omega) hF
      rw [hw] at h1
      have ih := lb_loop (D := D) hN hS hb hbn htn k (i + 1) L (by omega) hL
      refine loopL_step (fun b => b) (n1 := 24) ?_ ih (by show 24 ≤ 26; omega) (fun _ _ => rfl) (by rw [HT_ren D N S (fun _ _ => rfl) (k' := 18) rfl]; cases L <;> kernel_rfl) (HT_below D N S L (by omega) (by omega))
      rw [HT_ren D N S (fun _ _ => rfl) (k' := 18) rfl]
      exact h1
    · rw [hF]
      have h1 := gb_more (B := bn) (T := tn) hN hS (L := L) (i := i) (by omega) (by omega) (by omega) (by omega) hF
      rw [hw] at h1
      have hl := withS_len (S := S) (N := N) (D := D) (L := L) (a := W ((bn : Int) + i)) (b := Int.tmod (pickS D.ho (2 * i)) bn) hL
      rw [hF] at hl
      obtain ⟨y, r, hyr⟩ := pushL L _
      rw [hyr] at h1 hl ⊢
      have ih := lb_loop (D := D) hN hS hb hbn htn k (i + 1) (y :: r) (by omega) hl
      refine loopL_step σb (n1 := 26) ?_ ih (by show 26 ≤ 26; omega) (fun b hb => by simp only [σb]; rw [if_neg (by omega)]) (by rw [HT_ren D N S (fun b hb => by simp only [σb]; rw [if_neg (by omega)]) (k' := 25) rfl]; kernel_rfl) (HT_below D N S _ (by omega) (by omega))
      rw [HT_ren D N S (fun b hb => by simp only [σb]; rw [if_neg (by omega)]) (k' := 25) rfl]
      exact h1
termination_by k => k
def σd : Nat → Nat := fun b => if b = 33 then 40 else b
theorem ld_loop {D : Dr} {N : Int} {bn tn : Nat} {S : List Bool} (hN : N = S.length) (hS : S.length ≤ 1000) (hb : 0 < bn) (hbn : bn ≤ 100) (htn : tn ≤ 100) : ∀ (k i : Nat) (L : List Lk), i + k = tn → L.length ≤ 24 →
    LoopL Try.prog 33 none (lp Try.prog 21 19) (TT bn tn 9 i) [] (HT D N S 33 L) 34 ⟨.exit 6, TTX bn tn, [], HT D N S 33 (itr (fD S N D bn) k i L), 41⟩
  | 0, i, L, h, hL => by
    have : i = tn := by omega
    subst this
    exact loopL_out gd_out (by show Exit.exit 6 ≠ Exit.normal; simp) (by omega) (M := 41) (by show 34 ≤ 41; omega)
  | k + 1, i, L, h, hL => by
    have hw : W ((i : Int) + 1) = ((i + 1 : Nat) : Int) := by
      rw [show (i : Int) + 1 = ((i + 1 : Nat) : Int) by push_cast; rfl]; exact wrap_nat (by omega)
    simp only [itr]
    unfold fD
    cases hg : decide (Int.tmod (pickS D.ho (2 * i + 1)) 3 > 0) with
    | false =>
      simp only [cond_false]
      have h1 := gd_skip (D := D) (N := N) (B := bn) (T := tn) (S := S) (L := L) (i := i) (by omega) (by omega) hg
      rw [hw] at h1
      have ih := ld_loop (D := D) hN hS hb hbn htn k (i + 1) L (by omega) hL
      refine loopL_step (fun b => b) (n1 := 34) ?_ ih (by show 34 ≤ 41; omega) (fun _ _ => rfl) (by rw [HT_ren D N S (fun _ _ => rfl) (k' := 33) rfl]; cases L <;> kernel_rfl) (HT_below D N S L (by omega) (by omega))
      rw [HT_ren D N S (fun _ _ => rfl) (k' := 33) rfl]
      exact h1
    | true =>
    simp only [cond_true]
    rcases withS_cases S N D L (W ((bn : Int) + i)) (Int.tmod (pickS D.ho (2 * i + 1)) bn) with hF | hF
    · rw [hF]
      have h1 := gd_same (B := bn) (T := tn) hN hS (L := L) (i := i) (by omega) (by omega) (by omega) (by omega) hg hF
      rw [hw] at h1
      have ih := ld_loop (D := D) hN hS hb hbn htn k (i + 1) L (by omega) hL
      refine loopL_step (fun b => b) (n1 := 39) ?_ ih (by show 39 ≤ 41; omega) (fun _ _ => rfl) (by rw [HT_ren D N S (fun _ _ => rfl) (k' := 33) rfl]; cases L <;> kernel_rfl) (HT_below D N S L (by omega) (by omega))
      rw [HT_ren D N S (fun _ _ => rfl) (k' := 33) rfl]
      exact h1
    · rw [hF]
      have h1 := gd_more (B := bn) (T := tn) hN hS (L := L) (i := i) (by omega) (by omega) (by omega) (by omega) hg hF
      rw [hw] at h1
      have hl := withS_len (S := S) (N := N) (D := D) (L := L) (a := W ((bn : Int) + i)) (b := Int.tmod (pickS D.ho (2 * i + 1)) bn) hL
      rw [hF] at hl
      obtain ⟨y, r, hyr⟩ := pushL L _
      rw [hyr] at h1 hl ⊢
      have ih := ld_loop (D := D) hN hS hb hbn htn k (i + 1) (y :: r) (by omega) hl
      refine loopL_step σd (n1 := 41) ?_ ih (by show 41 ≤ 41; omega) (fun b hb => by simp only [σd]; rw [if_neg (by omega)]) (by rw [HT_ren D N S (fun b hb => by simp only [σd]; rw [if_neg (by omega)]) (k' := 40) rfl]; kernel_rfl) (HT_below D N S _ (by omega) (by omega))
      rw [HT_ren D N S (fun b hb => by simp only [σd]; rw [if_neg (by omega)]) (k' := 40) rfl]
      exact h1
termination_by k => k
def σe : Nat → Nat := fun b => if b = 41 then 49 else b
/-- How many chords there are. -/
def nch (D : Dr) : Nat := min (D.ch.length / 2) 6
theorem le_loop {D : Dr} {N : Int} {bn tn : Nat} {S : List Bool} (hN : N = S.length) (hS : S.length ≤ 1000) (hb : 0 < bn) (hbn : bn ≤ 100) (htn : tn ≤ 100) : ∀ (k j : Nat) (L : List Lk), j + k = nch D → L.length ≤ 24 →
    LoopL Try.prog 41 none (lp Try.prog 21 24) (TT bn tn 10 (2 * j : Nat)) [] (HT D N S 41 L) 42 ⟨.exit 8, TTX bn tn, [], HT D N S 41 (itr (fE S N D bn) k j L), 50⟩
  | 0, j, L, h, hL => by
    have hj : j = nch D := by omega
    exact loopL_out (ge_out (by unfold nch at hj; omega) (by unfold nch at hj; omega)) (by show Exit.exit 8 ≠ Exit.normal; simp) (by omega) (M := 50) (by show 43 ≤ 50; omega)
  | k + 1, j, L, h, hL => by
    have hlt : 2 * j + 1 < D.ch.length ∧ 2 * j < 12 := by unfold nch at h; omega
    have hw : W (((2 * j : Nat) : Int) + 2) = ((2 * (j + 1) : Nat) : Int) := by
      rw [show ((2 * j : Nat) : Int) + 2 = ((2 * (j + 1) : Nat) : Int) by push_cast; omega]; exact wrap_nat (by omega)
    simp only [itr]
    unfold fE
    rcases withS_cases S N D L (Int.tmod (pickS D.ch (2 * j)) bn) (Int.tmod (pickS D.ch (2 * j + 1)) bn) with hF | hF
    · rw [hF]
      have h1 := ge_same (B := bn) (T := tn) hN hS (L := L) (i := 2 * j) (by omega) hlt.1 hlt.2 (by omega) hF
      rw [hw] at h1
      have ih := le_loop (D := D) hN hS hb hbn htn k (j + 1) L (by omega) hL
      refine loopL_step (fun b => b) (n1 := 48) ?_ ih (by show 48 ≤ 50; omega) (fun _ _ => rfl) (by rw [HT_ren D N S (fun _ _ => rfl) (k' := 41) rfl]; cases L <;> kernel_rfl) (HT_below D N S L (by omega) (by omega))
      rw [HT_ren D N S (fun _ _ => rfl) (k' := 41) rfl]
      exact h1
    · rw [hF]
      have h1 := ge_more (B := bn) (T := tn) hN hS (L := L) (i := 2 * j) (by omega) hlt.1 hlt.2 (by omega) hF
      rw [hw] at h1
      have hl := withS_len (S := S) (N := N) (D := D) (L := L) (a := Int.tmod (pickS D.ch (2 * j)) bn) (b := Int.tmod (pickS D.ch (2 * j + 1)) bn) hL
      rw [hF] at hl
      obtain ⟨y, r, hyr⟩ := pushL L _
      rw [hyr] at h1 hl ⊢
      have ih := le_loop (D := D) hN hS hb hbn htn k (j + 1) (y :: r) (by omega) hl
      refine loopL_step σe (n1 := 50) ?_ ih (by show 50 ≤ 50; omega) (fun b hb => by simp only [σe]; rw [if_neg (by omega)]) (by rw [HT_ren D N S (fun b hb => by simp only [σe]; rw [if_neg (by omega)]) (k' := 49) rfl]; kernel_rfl) (HT_below D N S _ (by omega) (by omega))
      rw [HT_ren D N S (fun b hb => by simp only [σe]; rw [if_neg (by omega)]) (k' := 49) rfl]
      exact h1
termination_by k => k
end Go.Proofs.Ytkngbmaomgfcjaa.topo
