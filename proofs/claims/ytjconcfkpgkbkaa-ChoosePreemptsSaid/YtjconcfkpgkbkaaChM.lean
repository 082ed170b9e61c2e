/- Contracts: choose (layer 37): first of the cuts, Preempt. -/
import Derived.Test.YtjconcfkpgkbkaaChL
namespace Go.Proofs.Ytjconcfkpgkbkaa.choose
open Go Go.En
set_option linter.unusedVariables false

theorem classes_12 (l : Int) : Memo.Ok Try.prog ⟨41, 12, [.int .i64 l], [], .func (.func 58) #[] #[pt 12], [(12, [.int .i64 l])], 13⟩ :=
  memo_new (hs := []) (ch := []) (evk 50) special trivial trivial (by kernel_rfl)
def f44v : Value := .func (.func 44) #[] #[pt 5, pt 4, pt 3, pt 7]
def V43 (X : Cx) (e o k : Int) : List (Nat × List Value) := [(7, [.int .i64 k]), (5, X.vc 1), (4, [.int .i64 e]), (3, [.int .i64 o]), (0, ecs X.es), (1, pcs X.hs)]
theorem V43_small (X : Cx) (e o k : Int) {n : Nat} (hn : 2 ≤ n) : En.smallH n (V43 X e o k) = true := by
  have a : En.smallL (En.small n 5) (X.vc 1) = true := by
    simp [Cx.vc, Cx.lc, lc, esl, Cx.hv, hv, En.small, En.smallL]
    omega
  simp [V43, En.smallH, small_avL (ecs_av _), small_avL (pcs_av _), a]
  exact ⟨rfl, rfl, rfl⟩
/-- Whether an express head fits at the end of the fragment. -/
def cutP (X : Cx) (e : Int) (i : Nat) : Bool := fullS X i && fitsX X i e
def cutC (p : Bool) (e r : Int) : List Value := [.int .i64 (bif p then e else 0), .int .i64 (bif p then r else 0)]
def restW (o k : Int) : Int := W (W (o - k) + 24)
theorem s44_15 (X : Cx) (hk : chkG X.es X.cyc = true) {i : Nat} (hi : i < X.hs.length) {e o k : Int} {p : Bool} (hp : cutP X e i = p) :
    Memo.Ok Try.prog ⟨44, 15, [.int .i64 i, pt 5, pt 4, pt 3, pt 7], V43 X e o k, .tuple #[.agg ⟨cutC p e (restW o k)⟩, .int .i64 (bif p then 0 else 4)], [], 15⟩ := by
  have key : ∀ q1 q2, fullS X i = q1 → fitsX X i e = q2 → (q1 && q2) = p → Memo.Ok Try.prog ⟨44, 15, [.int .i64 i, pt 5, pt 4, pt 3, pt 7], V43 X e o k, .tuple #[.agg ⟨cutC p e (restW o k)⟩, .int .i64 (bif p then 0 else 4)], [], 15⟩ := by
    intro q1 q2 h1 h2 h
    subst h
    have m1 := full_m X hi h1 0 16
    have m2 := fits_m X hk hi h2 0 16
    cases q1 <;> cases q2 <;> exact memo_pure (hs := [(10, .call _), (16, .call _)]) (ch := []) 16 (evk 50) special ⟨m1, m2, trivial⟩ trivial (by kernel_rfl) (V43_small X e o k (by omega)) (by kernel_rfl)
  exact key _ _ rfl rfl hp
def T43 : List Value := [.int .i64 6, f44v, undef, pt 8, pt 9, .int .i64 0, pt 10, pt 11, undef, undef, undef, .int .i64 6, .func (.func 58) #[] #[pt 12]] ++ List.replicate 12 undef
def L43 (P : Program) (s : LoopState) (p : Option Code) : Loop := { newLoop T43 (rfP (rf P 43 5)) (rfA (rf P 43 5)) (rfB (rf P 43 5)) 13 with state := s, pending := p }
def H43 (X : Cx) (e o k : Int) (g : Bool) : Hp := [(12, .cells [.int .i64 6] false), (11, .cells [.int .i64 (bif g then 0 else 4)] false), (10, .cells (cutC g e (restW o k)) false), (9, .cells [.int .i64 0, .int .i64 0] false), (8, .cells [f44v] true)] ++ roHp (V43 X e o k)
def G43 (P : Program) (X : Cx) (e o k : Int) (g : Bool) : Hp := (14, .loop (L43 P (bif g then .done else .ready) (bif g then some (.exit 0) else none))) :: (13, .defd) :: H43 X e o k g
theorem G43_below (X : Cx) (e o k : Int) (g : Bool) : hpBelow 15 (G43 Try.prog X e o k g) = true := by
  have a0 : hpBelow 15 (roHp (V43 X e o k)) = true := roHp_below (by kernel_rfl) (V43_small X e o k (by omega))
  have a4 : tidyB 15 (.loop (L43 Try.prog (bif g then .done else .ready) (bif g then some (.exit 0) else none))) = true := by
    show (En.smallL (En.small 15 5) T43.toArray.toList && decide (13 < 15)) = true
    kernel_rfl
  simp only [G43, H43, hpBelow, a4, List.cons_append, List.nil_append, a0]
  rfl
def Y14 : Value := .func (.yield 14) #[] #[]
section
variable (X : Cx) (hk : chkG X.es X.cyc = true) (h8 : X.hs.length = 8) {e o k : Int}
include hk h8 in
theorem y43 {i : Nat} (hi : i < 8) {q : Bool} (hq : cutP X e i = q) :
    Hint.Ok Try.prog (.any (opAt Try.prog 58 3 2) [Y14, .int .i64 i] (G43 Try.prog X e o k false) 15 (.bool !q) ((15, .cells (cutC q e (restW o k)) false) :: G43 Try.prog X e o k q) 16) := by
  have m := s44_15 X hk (o := o) (k := k) (show i < X.hs.length by omega) hq
  cases q <;> exact yield_by (hs := [(17, .call _)]) (ch := []) (cf := .tmp 9) (args := #[.tmp 10]) (ats := #[3]) (l := 14) (evk 50) special ⟨m, trivial⟩ trivial (by kernel_rfl) (by kernel_rfl)
def T58c (c : Int) : List Value := [Y14, pt 12, J, .int .i64 c] ++ List.replicate 9 J
def TJ58c : List Value := [Y14, pt 12] ++ List.replicate 11 J
def Q58c (X : Cx) (e o k j : Int) (P : Program) : Bool → Res
  | false => ⟨.normal, T58c j, [], G43 P X e o k false, 15⟩
  | true => ⟨.ret, TJ58c, [], G43 P X e o k true, 15⟩
include hk h8 in
theorem e58c {i : Nat} (hi : i < 8) (h6 : 6 ≤ i) {q : Bool} (hq : cutP X e i = q) :
    CodeOk Try.prog none (lp Try.prog 58 1) (T58c i) [] (G43 Try.prog X e o k false) 15 (Q58c X e o k (W (i - 1)) Try.prog q) := by
  have y := y43 X hk h8 (e := e) (o := o) (k := k) hi hq
  have hd : decide ((i : Int) ≥ 6) = true := decide_eq_true (by omega)
  cases q <;> exact code_at (hs := [(6, .val (.bool (decide ((i : Int) ≥ 6))) (.bool true)), (11, .any _ _ _ _ _ _ _)]) (ch := []) (evk 50) special ⟨congrArg Value.bool hd, y, trivial⟩ trivial (by kernel_rfl) (G43_below X e o k _) (G43_below X e o k _) (by kernel_rfl)
theorem e58c_out : CodeOk Try.prog none (lp Try.prog 58 1) (T58c 5) [] (G43 Try.prog X e o k false) 15 ⟨.exit 0, TJ58c, [], G43 Try.prog X e o k false, 15⟩ :=
  code_at (hs := []) (ch := []) (evk 50) special trivial trivial (by kernel_rfl) (G43_below X e o k _) (G43_below X e o k _) (by kernel_rfl)
def F58c (P : Program) (X : Cx) (e o k : Int) : Bool → Res
  | true => ⟨.ret, TJ58c, [], G43 P X e o k true, 15⟩
  | false => ⟨.exit 0, TJ58c, [], G43 P X e o k false, 15⟩
def cutS (X : Cx) (e : Int) : Bool := cutP X e 7 || cutP X e 6
include hk h8 in
theorem l58c : LoopOk Try.prog none (lp Try.prog 58 1) (T58c 7) [] (G43 Try.prog X e o k false) 15 (F58c Try.prog X e o k (cutS X e)) := by
  have h7 := e58c X hk h8 (e := e) (o := o) (k := k) (i := 7) (by omega) (by omega) rfl
  have h6 := e58c X hk h8 (e := e) (o := o) (k := k) (i := 6) (by omega) (by omega) rfl
  have h5 := e58c_out X (e := e) (o := o) (k := k)
  unfold cutS
  have ne : Exit.ret ≠ Exit.normal := by simp
  cases hq : cutP X e 7 with
  | true => rw [hq] at h7; exact loopOk_out h7 ne
  | false =>
    rw [hq] at h7
    refine loop_step h7 ?_
    cases hq6 : cutP X e 6 with
    | true => rw [hq6] at h6; exact loopOk_out h6 ne
    | false =>
      rw [hq6] at h6
      refine loop_step h6 ?_
      exact loopOk_out h5 (by show Exit.exit 0 ≠ Exit.normal; simp)
include hk h8 in
theorem call58c {g : Bool} (hg : cutS X e = g) :
    (∃ fn, Try.prog.funcs[58]? = some fn ∧ fn.body.isSome = true) ∧ CallOk Try.prog 58 ([] ++ [Y14] ++ [pt 12]) (G43 Try.prog X e o k false) 15 (.tuple #[]) (G43 Try.prog X e o k g) 15 := by
  have hlo := l58c X hk h8 (e := e) (o := o) (k := k)
  rw [hg] at hlo
  cases g <;>
    exact call_by (hs := []) (ch := [⟨1, none, .loop (lp Try.prog 58 1), T58c 7, [], G43 Try.prog X e o k false, 15, _, true⟩]) (evk 50) special trivial ⟨codeOk_loop hlo, trivial⟩ (by kernel_rfl)
def R43 (X : Cx) (e o k : Int) (g : Bool) : Res := ⟨bif g then .exit 0 else .normal, T43, [13], (13, .defd) :: H43 X e o k g, 15⟩
include hk h8 in
theorem range43 {g : Bool} (hg : cutS X e = g) : CodeOk Try.prog none (rf Try.prog 43 5) T43 [] (H43 X e o k false) 13 (R43 X e o k g) := by
  have h := call58c X hk h8 (o := o) (k := k) hg
  have hL : (G43 Try.prog X e o k g).get 14 = some (.loop (L43 Try.prog (bif g then .done else .ready) (bif g then some (.exit 0) else none))) := rfl
  cases g <;> exact range_by special (by kernel_rfl) (by kernel_rfl) h hL (by kernel_rfl)
include hk h8 in
theorem first_8 {g : Bool} (hg : cutS X e = g) : Memo.Ok Try.prog ⟨43, 8, [.int .i64 6, f44v], V43 X e o k, .tuple #[.agg ⟨cutC g e (restW o k)⟩, .int .i64 (bif g then 0 else 4)], [], 8⟩ := by
  have hr := range43 X hk h8 (o := o) (k := k) hg
  cases g <;> exact memo_pure (hs := [(3, .frz), (12, .call _)]) (ch := [⟨5, none, rf Try.prog 43 5, T43, [], H43 X e o k false, 13, _, true⟩]) 15 (evk 50) special ⟨trivial, classes_12 6, trivial⟩ ⟨hr, trivial⟩ (by kernel_rfl) (V43_small X e o k (by omega)) (by kernel_rfl)
end
end Go.Proofs.Ytjconcfkpgkbkaa.choose
