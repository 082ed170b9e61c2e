/- Contracts: choose (layer 37): classes, first, Start. -/
import Derived.Test.YtjconcfkpgkbkaaChH
namespace Go.Proofs.Ytjconcfkpgkbkaa.choose
open Go Go.En
set_option linter.unusedVariables false

theorem classes_8 (l : Int) : Memo.Ok Try.prog ⟨41, 8, [.int .i64 l], [], .func (.func 58) #[] #[pt 8], [(8, [.int .i64 l])], 9⟩ :=
  memo_new (hs := []) (ch := []) (evk 50) special trivial trivial (by kernel_rfl)
def f35v (X : Cx) : Value := .func (.func 35) #[X.vv 1] #[]
def f37v : Value := .func (.func 37) #[] #[pt 4, pt 3]
def V36 (X : Cx) (t : Int) : List (Nat × List Value) := [(4, [f35v X]), (3, [.int .i64 t]), (0, ecs X.es), (1, pcs X.hs)]
theorem V36_small (X : Cx) (t : Int) {n : Nat} (hn : 2 ≤ n) : En.smallH n (V36 X t) = true := by
  have a : En.small n 5 (f35v X) = true := by
    simp [f35v, Cx.vv, Cx.vc, Cx.lc, lc, esl, Cx.hv, hv, En.small, En.smallL]
    omega
  simp [V36, En.smallH, small_avL (ecs_av _), small_avL (pcs_av _), En.smallL, a]
  rfl
theorem s1_11 (X : Cx) (hk : chkG X.es X.cyc = true) (h8 : X.hs.length = 8) {i : Nat} (hi : i < 8) {t : Int} {p : Bool} (hp : mayS X i t = p) :
    Memo.Ok Try.prog ⟨37, 11, [.int .i64 i, pt 4, pt 3], V36 X t, .tuple #[.int .i64 (bif p then i else 0), .int .i64 (bif p then 0 else 4)], [], 11⟩ := by
  have m := may_m X hk (by omega) hp 0 11
  cases p <;> exact memo_pure (hs := [(9, .call _)]) (ch := []) 11 (evk 50) special ⟨m, trivial⟩ trivial (by kernel_rfl) (V36_small X t (by omega)) (by kernel_rfl)
def T36 : List Value := [.int .i64 0, f37v, undef, pt 5, .int .i64 0, .int .i64 0, pt 6, pt 7, undef, undef, undef, .int .i64 0, .func (.func 58) #[] #[pt 8]] ++ List.replicate 12 undef
def L36 (P : Program) (s : LoopState) (p : Option Code) : Loop := { newLoop T36 (rfP (rf P 36 5)) (rfA (rf P 36 5)) (rfB (rf P 36 5)) 9 with state := s, pending := p }
def optC (g : Option Nat) : Int := match g with | some i => i | none => 0
def H36 (X : Cx) (t : Int) (g : Option Nat) : Hp := [(8, .cells [.int .i64 0] false), (7, .cells [.int .i64 (bif g.isSome then 0 else 4)] false), (6, .cells [.int .i64 (optC g)] false), (5, .cells [f37v] true)] ++ roHp (V36 X t)
def G36 (P : Program) (X : Cx) (t : Int) (g : Option Nat) : Hp := (10, .loop (L36 P (bif g.isSome then .done else .ready) (bif g.isSome then some (.exit 0) else none))) :: (9, .defd) :: H36 X t g
theorem G36_below (X : Cx) (t : Int) (g : Option Nat) : hpBelow 11 (G36 Try.prog X t g) = true := by
  have a0 : hpBelow 11 (roHp (V36 X t)) = true := roHp_below (by kernel_rfl) (V36_small X t (by omega))
  have a4 : tidyB 11 (.loop (L36 Try.prog (bif g.isSome then .done else .ready) (bif g.isSome then some (.exit 0) else none))) = true := by
    show (En.smallL (En.small 11 5) T36.toArray.toList && decide (9 < 11)) = true
    kernel_rfl
  simp only [G36, H36, hpBelow, a4, List.cons_append, List.nil_append, a0]
  rfl
def Y10 : Value := .func (.yield 10) #[] #[]
section
variable (X : Cx) (hk : chkG X.es X.cyc = true) (h8 : X.hs.length = 8) {t : Int}
include hk h8 in
theorem y36 {i : Nat} (hi : i < 8) {q : Bool} (hq : mayS X i t = q) :
    Hint.Ok Try.prog (.any (opAt Try.prog 58 3 2) [Y10, .int .i64 i] (G36 Try.prog X t none) 11 (.bool !q) (G36 Try.prog X t (bif q then some i else none)) 11) := by
  have m := s1_11 X hk h8 hi hq
  cases q <;> exact yield_by (hs := [(17, .call _)]) (ch := []) (cf := .tmp 9) (args := #[.tmp 10]) (ats := #[3]) (l := 10) (evk 50) special ⟨m, trivial⟩ trivial (by kernel_rfl) (by kernel_rfl)
def T58 (c : Int) : List Value := [Y10, pt 8, J, .int .i64 c] ++ List.replicate 9 J
def TJ58 : List Value := [Y10, pt 8] ++ List.replicate 11 J
def Q58 (X : Cx) (t j : Int) (P : Program) : Option Nat → Res
  | none => ⟨.normal, T58 j, [], G36 P X t none, 11⟩
  | some i => ⟨.ret, TJ58, [], G36 P X t (some i), 11⟩
include hk h8 in
theorem e58 {i : Nat} (hi : i < 8) {q : Bool} (hq : mayS X i t = q) :
    CodeOk Try.prog none (lp Try.prog 58 1) (T58 i) [] (G36 Try.prog X t none) 11 (Q58 X t (W (i - 1)) Try.prog (bif q then some i else none)) := by
  have y := y36 X hk h8 (t := t) hi hq
  have hd : decide ((i : Int) ≥ 0) = true := decide_eq_true (by omega)
  cases q <;> exact code_at (hs := [(6, .val (.bool (decide ((i : Int) ≥ 0))) (.bool true)), (11, .any _ _ _ _ _ _ _)]) (ch := []) (evk 50) special ⟨congrArg Value.bool hd, y, trivial⟩ trivial (by kernel_rfl) (G36_below X t _) (G36_below X t _) (by kernel_rfl)
theorem e58_out : CodeOk Try.prog none (lp Try.prog 58 1) (T58 (-1)) [] (G36 Try.prog X t none) 11 ⟨.exit 0, TJ58, [], G36 Try.prog X t none, 11⟩ :=
  code_at (hs := []) (ch := []) (evk 50) special trivial trivial (by kernel_rfl) (G36_below X t _) (G36_below X t _) (by kernel_rfl)
def down (f : Nat → Bool) : Nat → Option Nat
  | 0 => none
  | n + 1 => bif f n then some n else down f n
def F58 (P : Program) (X : Cx) (t : Int) : Option Nat → Res
  | some i => ⟨.ret, TJ58, [], G36 P X t (some i), 11⟩
  | none => ⟨.exit 0, TJ58, [], G36 P X t none, 11⟩
include hk h8 in
theorem l58 : ∀ (n : Nat), n ≤ 8 → LoopOk Try.prog none (lp Try.prog 58 1) (T58 ((n : Int) - 1)) [] (G36 Try.prog X t none) 11 (F58 Try.prog X t (down (fun i => mayS X i t) n))
  | 0, _ => loopOk_out (e58_out X) (by show Exit.exit 0 ≠ Exit.normal; simp)
  | n + 1, hn => by
    have hw : W ((n : Int) - 1) = (n : Int) - 1 := W_id (by omega)
    have h1 := e58 X hk h8 (t := t) (i := n) (by omega) rfl
    rw [show ((n + 1 : Nat) : Int) - 1 = (n : Int) by push_cast; omega]
    simp only [down]
    cases hq : mayS X n t with
    | true => rw [hq] at h1; exact loopOk_out h1 (by show Exit.ret ≠ Exit.normal; simp)
    | false =>
      rw [hq] at h1
      simp only [cond_false, Q58, hw] at h1
      exact loop_step h1 (l58 n (by omega))
include hk h8 in
theorem call58 {g : Option Nat} (hg : down (fun i => mayS X i t) 8 = g) :
    (∃ fn, Try.prog.funcs[58]? = some fn ∧ fn.body.isSome = true) ∧ CallOk Try.prog 58 ([] ++ [Y10] ++ [pt 8]) (G36 Try.prog X t none) 11 (.tuple #[]) (G36 Try.prog X t g) 11 := by
  have hlo := l58 X hk h8 (t := t) 8 (by omega)
  rw [hg] at hlo
  cases g <;>
    exact call_by (hs := []) (ch := [⟨1, none, .loop (lp Try.prog 58 1), T58 7, [], G36 Try.prog X t none, 11, _, true⟩]) (evk 50) special trivial ⟨codeOk_loop hlo, trivial⟩ (by kernel_rfl)
def R36 (X : Cx) (t : Int) (g : Option Nat) : Res := ⟨bif g.isSome then .exit 0 else .normal, T36, [9], (9, .defd) :: H36 X t g, 11⟩
include hk h8 in
theorem range36 {g : Option Nat} (hg : down (fun i => mayS X i t) 8 = g) : CodeOk Try.prog none (rf Try.prog 36 5) T36 [] (H36 X t none) 9 (R36 X t g) := by
  have h := call58 X hk h8 hg
  have hL : (G36 Try.prog X t g).get 10 = some (.loop (L36 Try.prog (bif g.isSome then .done else .ready) (bif g.isSome then some (.exit 0) else none))) := rfl
  cases g <;> exact range_by special (by kernel_rfl) (by kernel_rfl) h hL (by kernel_rfl)
def startV (g : Option Nat) : Value := .tuple #[.int .i64 (optC g), .int .i64 (bif g.isSome then 0 else 4)]
include hk h8 in
theorem first_5 {g : Option Nat} (hg : down (fun i => mayS X i t) 8 = g) : Memo.Ok Try.prog ⟨36, 5, [.int .i64 0, f37v], V36 X t, startV g, [], 5⟩ := by
  have hr := range36 X hk h8 hg
  cases g <;> exact memo_pure (hs := [(3, .frz), (12, .call _)]) (ch := [⟨5, none, rf Try.prog 36 5, T36, [], H36 X t none, 9, _, true⟩]) 11 (evk 50) special ⟨trivial, classes_8 0, trivial⟩ ⟨hr, trivial⟩ (by kernel_rfl) (V36_small X t (by omega)) (by kernel_rfl)
end
/-! ### Start -/
def startS (X : Cx) (t : Int) : Option Nat := down (fun i => mayS X i t) 8
theorem StartE (X : Cx) (t : Int) {e : Int} (he : errC X t = e) (hne : (e != 0) = true) : Memo.Ok Try.prog ⟨18, 2, [X.lv, X.hv 1, .int .i64 t], X.V 1, .tuple #[.int .i64 0, .int .i64 e], [], 2⟩ := by
  have m1 := check_m X t he 0 4
  exact memo_pure (hs := [(3, .frz), (5, .frz), (13, .call _), (15, .val (.bool (e != 0)) (.bool true))]) (ch := []) 4 (evk 50) special ⟨trivial, trivial, m1, congrArg Value.bool hne, trivial⟩ trivial (by kernel_rfl) (X.smallH 2 1) (by kernel_rfl)
theorem StartY (X : Cx) {t : Int} (he : errC X t = 0) {g : Option Nat} (hg : startS X t = g) : Memo.Ok Try.prog ⟨18, 2, [X.lv, X.hv 1, .int .i64 t], X.V 1, startV g, [], 2⟩ := by
  obtain ⟨h1, h2, _, _⟩ := errC_ok he
  have m1 := check_m X t he 0 4
  have m2 := first_5 X h1 h2 hg
  cases g <;> exact memo_pure (hs := [(3, .frz), (5, .frz), (13, .call _), (22, .call _)]) (ch := []) 5 (evk 50) special ⟨trivial, trivial, m1, m2, trivial⟩ trivial (by kernel_rfl) (X.smallH 2 1) (by kernel_rfl)
end Go.Proofs.Ytjconcfkpgkbkaa.choose
