/- Contracts: the reference's Find and Ports. -/
import Derived.Test.YtkngbmaomgfcjaaTpN
import Derived.Test.YtkngbmaomgfcjaaEnOM
namespace Go.Proofs.Ytkngbmaomgfcjaa.topo
open Go Go.En
set_option linter.unusedVariables false

theorem portOk_of {X : Cx} {p : Nat} (h : p < 2 * X.ls.length) : portOk X.ls.length p = true := by
  have hw : IntKind.i64.wrap (2 * (X.ls.length : Int)) = 2 * X.ls.length := by
    have := wrap_nat (n := 2 * X.ls.length) (by have := X.hL; omega)
    push_cast at this
    exact this
  simp only [portOk, hw, Bool.not_eq_true', Bool.or_eq_false_iff, decide_eq_false_iff_not]
  omega
theorem wrap2 (X : Cx) : IntKind.i64.wrap (2 * (X.ls.length : Int)) = ((2 * X.ls.length : Nat) : Int) := by
  have := wrap_nat (n := 2 * X.ls.length) (by have := X.hL; omega)
  push_cast at this ⊢
  exact this
def srch (f : Nat → Bool) : Nat → Nat → Option Nat
  | 0, _ => none
  | k + 1, i => bif f i then some i else srch f k (i + 1)
def pmS (X : Cx) (a b : Int) (p : Nat) : Bool := (ansAt X 42 p == a) && (ansAt X 44 p == b)
def T17 (a b : Int) (r p : Int) : List Value := [J, .int .i64 a, .int .i64 b, pt 2, J, J, .int .i64 r, .int .i64 p] ++ List.replicate 21 J
def TR17 (r : Int) : List Value := [J, J, J, J, J, J, .int .i64 r, J] ++ List.replicate 21 J
def HB (X : Cx) : Hp := [(2, .cells X.cells true), (0, .cells X.st true), (1, .cells X.lk true)]
theorem HB_below (X : Cx) {n : Nat} (hn : 3 ≤ n) : hpBelow n (HB X) = true := by
  have a1 : tidyB n (.cells X.cells true) = true := X.smallL (by omega) 5
  have a2 : tidyB n (.cells X.st true) = true := small_avL X.avs
  have a3 : tidyB n (.cells X.lk true) = true := small_avL X.avk
  simp only [HB, hpBelow, a1, a2, a3, Bool.and_true]
  simp; omega
theorem fr_go (X : Cx) {a b : Int} {p : Nat} (hp : p < 2 * X.ls.length) {q : Bool} (hq : pmS X a b p = q) :
    CodeOk Try.prog none (lp Try.prog 17 2) (T17 a b 0 p) [] (HB X) 3 (bif q then ⟨.ret, TR17 p, [], HB X, 3⟩ else ⟨.normal, T17 a b 0 (IntKind.i64.wrap (p + 1)), [], HB X, 3⟩) := by
  have ok := portOk_of hp
  have m1 := ansR_0 X (f := 30) (g := 42) (by omega) ok 4
  have m2 := ansR_0 X (f := 31) (g := 44) (by omega) ok 4
  have hlt : decide ((p : Int) < IntKind.i64.wrap (2 * X.ls.length)) = true := decide_eq_true (by rw [wrap2]; omega)
  have key : ∀ p1 p2, (ansAt X 42 p == a) = p1 → (ansAt X 44 p == b) = p2 → (p1 && p2) = q → CodeOk Try.prog none (lp Try.prog 17 2) (T17 a b 0 p) [] (HB X) 3 (bif q then ⟨.ret, TR17 p, [], HB X, 3⟩ else ⟨.normal, T17 a b 0 (IntKind.i64.wrap (p + 1)), [], HB X, 3⟩) := by
    intro p1 p2 h1 h2 h3
    subst h3
    cases p1 <;> cases p2 <;>
      exact code_at (hs := [(13, .val (.bool (decide ((p : Int) < IntKind.i64.wrap (2 * X.ls.length)))) (.bool true)), (18, .call _), (20, .val (.bool (ansAt X 42 p == a)) (.bool _)), (24, .call _), (26, .val (.bool (ansAt X 44 p == b)) (.bool _))]) (ch := []) (evk 50) special
        ⟨congrArg Value.bool hlt, m1, congrArg Value.bool h1, m2, congrArg Value.bool h2, trivial⟩ trivial (by kernel_rfl) (HB_below X (by omega)) (HB_below X (by omega)) (by kernel_rfl)
  exact key _ _ rfl rfl hq
theorem fr_out (X : Cx) (a b : Int) : CodeOk Try.prog none (lp Try.prog 17 2) (T17 a b 0 (2 * X.ls.length : Nat)) [] (HB X) 3 ⟨.exit 0, TR17 0, [], HB X, 3⟩ := by
  have hlt : decide (((2 * X.ls.length : Nat) : Int) < IntKind.i64.wrap (2 * X.ls.length)) = false := decide_eq_false (by rw [wrap2]; omega)
  exact code_at (hs := [(13, .val (.bool (decide (((2 * X.ls.length : Nat) : Int) < IntKind.i64.wrap (2 * X.ls.length)))) (.bool false))]) (ch := []) (evk 50) special ⟨congrArg Value.bool hlt, trivial⟩ trivial (by kernel_rfl) (HB_below X (by omega)) (HB_below X (by omega)) (by kernel_rfl)
def F17 (X : Cx) : Option Nat → Res
  | some p => ⟨.ret, TR17 p, [], HB X, 3⟩
  | none => ⟨.exit 0, TR17 0, [], HB X, 3⟩
theorem fr_loop (X : Cx) {a b : Int} : ∀ (k p : Nat), p + k = 2 * X.ls.length → LoopOk Try.prog none (lp Try.prog 17 2) (T17 a b 0 p) [] (HB X) 3 (F17 X (srch (pmS X a b) k p))
  | 0, p, h => by
    have : p = 2 * X.ls.length := by omega
    subst this
    exact loopOk_out (fr_out X a b) (by show Exit.exit 0 ≠ Exit.normal; simp)
  | k + 1, p, h => by
    simp only [srch]
    cases hb : pmS X a b p with
    | true => exact loopOk_out (fr_go X (by omega) hb) (by show Exit.ret ≠ Exit.normal; simp)
    | false =>
      have h1 := fr_go X (a := a) (b := b) (by omega) hb
      simp only [cond_false] at h1
      rw [show (p : Int) + 1 = ((p + 1 : Nat) : Int) by push_cast; rfl, wrap_nat (by have := X.hL; omega)] at h1
      exact loop_step h1 (fr_loop X k (p + 1) (by omega))
termination_by k => k
def findS (X : Cx) (a b : Int) : Option Nat := srch (pmS X a b) (2 * X.ls.length) 0
theorem findR_0 (X : Cx) (a b : Int) : Memo.Ok Try.prog ⟨17, 2, [X.v, .int .i64 a, .int .i64 b], X.V, .int .i64 (optI (findS X a b)), [], 2⟩ := by
  have hlo := fr_loop X (a := a) (b := b) (2 * X.ls.length) 0 (by omega)
  unfold findS
  generalize srch (pmS X a b) (2 * X.ls.length) 0 = g at hlo ⊢
  cases g <;>
    exact memo_pure (hs := [(3, .frz)]) (ch := [⟨2, none, .loop (lp Try.prog 17 2), T17 a b 0 0, [], HB X, 3, _, true⟩]) 3 (evk 50) special ⟨trivial, trivial⟩ ⟨codeOk_loop hlo, trivial⟩ (X.hV rfl) (X.smallH 2) (by kernel_rfl)

/-! ### The reference's Ports: a loop that appends -/
def slL (b : Nat) : List Int → Value
  | [] => .slice none 0 0
  | x :: r => .slice (some ⟨b, 0, none⟩) (x :: r).length oc1
def hpL (b : Nat) (L : List Int) (H : Hp) : Hp := match L with
  | [] => H
  | x :: r => (b, .cells (ic (x :: r)) false) :: H
def T16 (a : Int) (sv : Value) (p : Int) : List Value := [J, .int .i64 a, pt 2, J, .slice none 0 0, sv, .int .i64 p] ++ List.replicate 18 J
theorem src_f {H : Hp} {b e : Nat} {K0 : List Int} {ro : Bool} (hb : H.get b = some (.cells (ic K0) ro)) : srcCells H 1 (.slice (some ⟨b, 0, none⟩) K0.length e) = some (K0.length, ic K0) := by
  have := src_i (e := e) hb (Nat.le_refl K0.length)
  rwa [List.take_length] at this
theorem oneL_ic : ∀ l : List Int, oneL (ic l) = true
  | [] => rfl
  | p :: l => by
    have := oneL_ic l
    simp only [ic, List.map_cons, oneL] at this ⊢
    rw [this]; rfl
/-- append(s, x) where the capacity of s is not known. -/
theorem app_io {a b : Nat} {L : List Int} {x : Int} (hlen : L.length ≤ 900) :
    Hint.Ok Try.prog (.app [28, 28] 28 [.slice (some ⟨a, 0, none⟩) L.length oc1, .slice (some ⟨b, 0, none⟩) 1 1] [(a, ic L), (b, ic [x])] (some a) (L ++ [x]).length oc1 (ic (L ++ [x]))) := by
  intro H nx hV hrw
  obtain ⟨inf, z, h1, h2, h3, h4, h5⟩ := i3
  obtain ⟨r1, g1⟩ := hV a (ic L) (by simp)
  obtain ⟨r2, g2⟩ := hV b (ic [x]) (by simp)
  have hr1 : r1 = false := by simp only [rwO, g1] at hrw; cases r1 <;> simp at hrw ⊢
  subst hr1
  have e1 := src_f (e := openCap + 1) g1
  have e2 : srcCells H 1 (.slice (some ⟨b, 0, none⟩) 1 1) = some (1, ic [x]) := src_f (e := 1) g2
  have hnc : openCap ≤ openCap + 1 := by omega
  have hml : L.length + 1 ≤ maxLen := by unfold maxLen; omega
  have hby : (L.length + 1) * 8 ≤ 140737488355328 := by omega
  have hlt : ¬ (openCap + 1 < L.length + 1) := by unfold openCap; omega
  have hap : ic L ++ ic [x] = ic (L ++ [x]) := by simp [ic]
  have hln : L.length + 1 = (L ++ [x]).length := by simp
  have h10 : ¬ ((1 : Nat) = 0) := by omega
  simp only [doBuiltin, if_true, doAppend, oc1, u28, h1, h2, h3, h4, e2, h5, e1, h10, hlt, hml, hby, hnc, if_false, and_self, Nat.zero_lt_one, delO, Nat.add_sub_cancel_left, imp_self, g1, oneL_ic, hap, ← hln]
def σ36 : Nat → Nat
  | 3 => 6
  | b => b
theorem ic_ren (ρ : Nat → Nat) (L : List Int) : (ic L).map (renV ρ 5) = ic L := renV_avL (ic_av L)
theorem renHB (X : Cx) {σ : Nat → Nat} (h0 : σ 0 = 0) (h1 : σ 1 = 1) (h2 : σ 2 = 2) : renHp σ (HB X) = HB X := by
  simp only [HB, renHp, renBlk, h0, h1, h2, X.renC σ h0 h1 5, renV_avL X.avs, renV_avL X.avk]
theorem pr_no (X : Cx) {a : Int} {p : Nat} {L : List Int} (hp : p < 2 * X.ls.length) (hq : (ansAt X 42 p == a) = false) :
    CodeOk Try.prog none (lp Try.prog 16 3) (T16 a (slL 3 L) p) [] (hpL 3 L (HB X)) 4 ⟨.normal, T16 a (slL 3 L) (IntKind.i64.wrap (p + 1)), [], hpL 3 L (HB X), 5⟩ := by
  have m1 := ansR_0 X (f := 30) (g := 42) (by omega) (portOk_of hp) 5
  have hlt : decide ((p : Int) < IntKind.i64.wrap (2 * X.ls.length)) = true := decide_eq_true (by rw [wrap2]; omega)
  cases L with
  | nil => exact code_k [2, 0, 1] (hs := [(12, .val (.bool (decide ((p : Int) < IntKind.i64.wrap (2 * X.ls.length)))) (.bool true)), (17, .call _), (19, .val (.bool (ansAt X 42 p == a)) (.bool _))]) (ch := []) (evk 50) special ⟨congrArg Value.bool hlt, m1, congrArg Value.bool hq, trivial⟩ trivial (by kernel_rfl)
  | cons x r => exact code_k [3, 2, 0, 1] (hs := [(12, .val (.bool (decide ((p : Int) < IntKind.i64.wrap (2 * X.ls.length)))) (.bool true)), (17, .call _), (19, .val (.bool (ansAt X 42 p == a)) (.bool _))]) (ch := []) (evk 50) special ⟨congrArg Value.bool hlt, m1, congrArg Value.bool hq, trivial⟩ trivial (by kernel_rfl)
theorem pr_yes (X : Cx) {a : Int} {p : Nat} {L : List Int} (hL : L.length ≤ 900) (hp : p < 2 * X.ls.length) (hq : (ansAt X 42 p == a) = true) :
    CodeOk Try.prog none (lp Try.prog 16 3) (T16 a (slL 3 L) p) [] (hpL 3 L (HB X)) 4 ⟨.normal, T16 a (slL 6 (L ++ [(p : Int)])) (IntKind.i64.wrap (p + 1)), [], hpL 6 (L ++ [(p : Int)]) (HB X), 7⟩ := by
  have m1 := ansR_0 X (f := 30) (g := 42) (by omega) (portOk_of hp) 5
  have hlt : decide ((p : Int) < IntKind.i64.wrap (2 * X.ls.length)) = true := decide_eq_true (by rw [wrap2]; omega)
  cases L with
  | nil => exact code_k [6, 2, 0, 1] (hs := [(12, .val (.bool (decide ((p : Int) < IntKind.i64.wrap (2 * X.ls.length)))) (.bool true)), (17, .call _), (19, .val (.bool (ansAt X 42 p == a)) (.bool _))]) (ch := []) (evk 50) special ⟨congrArg Value.bool hlt, m1, congrArg Value.bool hq, trivial⟩ trivial (by kernel_rfl)
  | cons x r =>
    have ap := app_io (a := 3) (b := 5) (L := x :: r) (x := p) hL
    exact code_k [6, 2, 0, 1] (hs := [(12, .val (.bool (decide ((p : Int) < IntKind.i64.wrap (2 * X.ls.length)))) (.bool true)), (17, .call _), (19, .val (.bool (ansAt X 42 p == a)) (.bool _)), (23, .app _ _ _ _ _ _ _ _)]) (ch := []) (evk 50) special ⟨congrArg Value.bool hlt, m1, congrArg Value.bool hq, ap, trivial⟩ trivial (by kernel_rfl)
theorem pr_out (X : Cx) {a : Int} {L : List Int} :
    CodeOk Try.prog none (lp Try.prog 16 3) (T16 a (slL 3 L) (2 * X.ls.length : Nat)) [] (hpL 3 L (HB X)) 4 ⟨.exit 0, T16 a (slL 3 L) (2 * X.ls.length : Nat), [], hpL 3 L (HB X), 5⟩ := by
  have hlt : decide (((2 * X.ls.length : Nat) : Int) < IntKind.i64.wrap (2 * X.ls.length)) = false := decide_eq_false (by rw [wrap2]; omega)
  cases L with
  | nil => exact code_k [2, 0, 1] (hs := [(12, .val (.bool (decide (((2 * X.ls.length : Nat) : Int) < IntKind.i64.wrap (2 * X.ls.length)))) (.bool false))]) (ch := []) (evk 50) special ⟨congrArg Value.bool hlt, trivial⟩ trivial (by kernel_rfl)
  | cons x r => exact code_k [3, 2, 0, 1] (hs := [(12, .val (.bool (decide (((2 * X.ls.length : Nat) : Int) < IntKind.i64.wrap (2 * X.ls.length)))) (.bool false))]) (ch := []) (evk 50) special ⟨congrArg Value.bool hlt, trivial⟩ trivial (by kernel_rfl)
def colS (X : Cx) (a : Int) : Nat → Nat → List Int → List Int
  | 0, _, L => L
  | k + 1, p, L => colS X a k (p + 1) (bif ansAt X 42 p == a then L ++ [(p : Int)] else L)
theorem hpL_ren (X : Cx) {σ : Nat → Nat} (h0 : σ 0 = 0) (h1 : σ 1 = 1) (h2 : σ 2 = 2) {b c : Nat} (hb : σ b = c) (L : List Int) : renHp σ (hpL b L (HB X)) = hpL c L (HB X) := by
  cases L with
  | nil => exact renHB X h0 h1 h2
  | cons x r => simp only [hpL, renHp, renBlk, hb, ic_ren, renHB X h0 h1 h2]
theorem hpL_below (X : Cx) (L : List Int) {b n : Nat} (hb : b < n) (hn : 3 ≤ n) : hpBelow n (hpL b L (HB X)) = true := by
  cases L with
  | nil => exact HB_below X hn
  | cons x r =>
    have a1 : tidyB n (.cells (ic (x :: r)) false) = true := small_avL (ic_av _)
    simp only [hpL, hpBelow, a1, HB_below X hn, hb, decide_true, Bool.and_self]
theorem pr_loop (X : Cx) {a : Int} (h24 : X.ls.length ≤ 24) : ∀ (k p : Nat) (L : List Int), p + k = 2 * X.ls.length → L.length ≤ p →
    LoopL Try.prog 3 none (lp Try.prog 16 3) (T16 a (slL 3 L) p) [] (hpL 3 L (HB X)) 4 ⟨.exit 0, T16 a (slL 3 (colS X a k p L)) (2 * X.ls.length : Nat), [], hpL 3 (colS X a k p L) (HB X), 7⟩
  | 0, p, L, h, hL => by
    have : p = 2 * X.ls.length := by omega
    subst this
    exact loopL_out (pr_out X) (by show Exit.exit 0 ≠ Exit.normal; simp) (by omega) (M := 7) (by show 5 ≤ 7; omega)
  | k + 1, p, L, h, hL => by
    have hw : IntKind.i64.wrap ((p : Int) + 1) = ((p + 1 : Nat) : Int) := by
      rw [show (p : Int) + 1 = ((p + 1 : Nat) : Int) by push_cast; rfl, wrap_nat (by omega)]
    simp only [colS]
    cases hb : (ansAt X 42 p == a) with
    | false =>
      have ih := pr_loop X (a := a) h24 k (p + 1) L (by omega) (by omega)
      have h1 := pr_no X (L := L) (by omega) hb
      rw [hw] at h1
      refine loopL_step (fun b => b) (n1 := 5) ?_ ih (by show 5 ≤ 7; omega) (fun _ _ => rfl) (by rw [hpL_ren X rfl rfl rfl (c := 3) rfl]; cases L <;> kernel_rfl) (hpL_below X L (by omega) (by omega))
      rw [hpL_ren X rfl rfl rfl (c := 3) rfl]
      have e : (T16 a (slL 3 L) ((p + 1 : Nat) : Int)).map (renV (fun b => b) 5) = T16 a (slL 3 L) ((p + 1 : Nat) : Int) := by cases L <;> rfl
      rw [e]
      exact h1
    | true =>
      have ih := pr_loop X (a := a) h24 k (p + 1) (L ++ [(p : Int)]) (by omega) (by simp; omega)
      have h1 := pr_yes X (L := L) (by omega) (by omega) hb
      rw [hw] at h1
      have hne : ∃ y r, L ++ [(p : Int)] = y :: r := by cases L <;> simp
      obtain ⟨y, r, hyr⟩ := hne
      simp only [cond_true]
      rw [hyr] at ih h1 ⊢
      refine loopL_step σ36 (n1 := 7) ?_ ih (by show 7 ≤ 7; omega) (fun b hb => by
        match b, hb with
        | 0, _ => rfl
        | 1, _ => rfl
        | 2, _ => rfl) (by rw [hpL_ren X rfl rfl rfl (c := 6) rfl]; kernel_rfl) (hpL_below X _ (by omega) (by omega))
      rw [hpL_ren X rfl rfl rfl (c := 6) rfl]
      exact h1
termination_by k => k
def portsS (X : Cx) (a : Int) : List Int := colS X a (2 * X.ls.length) 0 []
def newL (b : Nat) : List Int → List (Nat × List Value)
  | [] => []
  | x :: r => [(b, ic (x :: r))]
theorem portsR_0 (X : Cx) (a : Int) (h24 : X.ls.length ≤ 24) : Memo.Ok Try.prog ⟨16, 2, [X.v, .int .i64 a], X.V, slL 3 (portsS X a), newL 3 (portsS X a), 7⟩ := by
  have hlo := loopOk_of_L (pr_loop X (a := a) h24 (2 * X.ls.length) 0 [] (by omega) (by simp))
  unfold portsS
  generalize colS X a (2 * X.ls.length) 0 [] = g at hlo ⊢
  cases g <;>
    exact memo_new (hs := [(2, .frz)]) (ch := [⟨3, none, .loop (lp Try.prog 16 3), T16 a (.slice none 0 0) 0, [], HB X, 3, _, true⟩]) (evk 50) special ⟨trivial, trivial⟩ ⟨codeOk_loop hlo, trivial⟩ (by kernel_rfl)
end Go.Proofs.Ytkngbmaomgfcjaa.topo
