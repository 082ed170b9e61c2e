/- Contracts: choose (layer 37): When. -/
import Derived.Test.YtjconcfkpgkbkaaChU
namespace Go.Proofs.Ytjconcfkpgkbkaa.choose
open Go Go.En
set_option linter.unusedVariables false

theorem classes_7 (l : Int) : Memo.Ok Try.prog ⟨41, 7, [.int .i64 l], [], .func (.func 58) #[] #[pt 7], [(7, [.int .i64 l])], 8⟩ :=
  memo_new (hs := []) (ch := []) (evk 50) special trivial trivial (by kernel_rfl)
def f40v (X : Cx) : Value := .func (.func 40) #[X.vv 1] #[]
def T22 (X : Cx) (t : Int) : List Value := [X.lv, X.hv 1, .int .i64 t, pt 2, undef, pt 3, .int .i64 0, .int .i64 0, .int .i64 0, pt 4, pt 5, pt 6, undef, undef, undef, X.lv, X.hv 1, .int .i64 t, .int .i64 0, .int .i64 0, .bool false, undef, X.lv, X.hv 1, X.vv 1, f40v X, .func (.func 58) #[] #[pt 7]] ++ List.replicate 22 undef
def L22 (P : Program) (X : Cx) (t : Int) : Loop := { newLoop (T22 X t) (rfP (rf P 22 8)) (rfA (rf P 22 8)) (rfB (rf P 22 8)) 8 with state := .ready, pending := none }
def accV : Option Int → Int
  | none => 0
  | some a => a
def H22 (X : Cx) (t : Int) (g : Option Int) : Hp := [(7, .cells [.int .i64 0] false), (6, .cells [.int .i64 (bif g.isSome then 0 else 4)] false), (5, .cells [.int .i64 (accV g)] false), (4, .cells [f40v X] false), (3, .cells [.int .i64 t] true), (2, .cells X.lc true), (0, .cells (ecs X.es) true), (1, .cells (pcs X.hs) true)]
def G22 (P : Program) (X : Cx) (t : Int) (g : Option Int) : Hp := (9, .loop (L22 P X t)) :: (8, .defd) :: H22 X t g
theorem vv_small (X : Cx) {n : Nat} (hn : 2 ≤ n) : En.small n 5 (f40v X) = true := by
  simp [f40v, Cx.vv, Cx.vc, Cx.lc, lc, esl, Cx.hv, hv, En.small, En.smallL]
  omega
theorem G22_below (X : Cx) (t : Int) (g : Option Int) : hpBelow 10 (G22 Try.prog X t g) = true := by
  have a0 : tidyB 10 (.cells (ecs X.es) true) = true := small_avL (ecs_av _)
  have a1 : tidyB 10 (.cells (pcs X.hs) true) = true := small_avL (pcs_av _)
  have a2 : tidyB 10 (.cells [f40v X] false) = true := by simp only [tidyB, En.smallL, vv_small X (show 2 ≤ 10 by omega)]; rfl
  have a4 : tidyB 10 (.loop (L22 Try.prog X t)) = true := by
    show (En.smallL (En.small 10 5) (T22 X t).toArray.toList && decide (8 < 10)) = true
    kernel_rfl
  simp only [G22, H22, hpBelow, a0, a1, a2, a4]
  rfl
/-- The lesser of two times. -/
def mrg : Option Int → Option Int → Option Int
  | none, g => g
  | some a, none => some a
  | some a, some b => bif decide (a < b) then some a else some b
def Y9 : Value := .func (.yield 9) #[] #[]
section
variable (X : Cx) (hk : chkG X.es X.cyc = true) (h8 : X.hs.length = 8) {t : Int} (ha : ∀ i, i < 8 → fullS X i = true → argG i (W (t + X.sh)) (W ((X.at_ i).left * X.per)) = false)
include hk h8 ha in
theorem y22 {i : Nat} (hi : i < 8) {q : Option Int} (hq : whenC X i t = q) (g : Option Int) :
    Hint.Ok Try.prog (.any (opAt Try.prog 58 3 2) [Y9, .int .i64 i] (G22 Try.prog X t g) 10 (.bool true) (G22 Try.prog X t (mrg q g)) 10) := by
  have m := when_m X hk (by omega) (ha i hi) hq 0 10
  cases q with
  | none => cases g <;> exact yield_by (hs := [(32, .call _)]) (ch := []) (cf := .tmp 9) (args := #[.tmp 10]) (ats := #[3]) (l := 9) (evk 50) special ⟨m, trivial⟩ trivial (by kernel_rfl) (by kernel_rfl)
  | some a =>
    cases g with
    | none => exact yield_by (hs := [(32, .call _)]) (ch := []) (cf := .tmp 9) (args := #[.tmp 10]) (ats := #[3]) (l := 9) (evk 50) special ⟨m, trivial⟩ trivial (by kernel_rfl) (by kernel_rfl)
    | some b =>
      simp only [mrg]
      cases hd : decide (a < b) <;> exact yield_by (hs := [(32, .call _), (43, .val (.bool (decide (a < b))) (.bool _))]) (ch := []) (cf := .tmp 9) (args := #[.tmp 10]) (ats := #[3]) (l := 9) (evk 50) special ⟨m, congrArg Value.bool hd, trivial⟩ trivial (by kernel_rfl) (by kernel_rfl)
def T58w (c : Int) : List Value := [Y9, pt 7, J, .int .i64 c] ++ List.replicate 9 J
def TJ58w : List Value := [Y9, pt 7] ++ List.replicate 11 J
include hk h8 ha in
theorem e58w {i : Nat} (hi : i < 8) {q : Option Int} (hq : whenC X i t = q) (g : Option Int) :
    CodeOk Try.prog none (lp Try.prog 58 1) (T58w i) [] (G22 Try.prog X t g) 10 ⟨.normal, T58w (W (i - 1)), [], G22 Try.prog X t (mrg q g), 10⟩ := by
  have y := y22 X hk h8 ha hi hq g
  have hd : decide ((i : Int) ≥ 0) = true := decide_eq_true (by omega)
  generalize mrg q g = g' at y ⊢
  exact code_at (hs := [(6, .val (.bool (decide ((i : Int) ≥ 0))) (.bool true)), (11, .any _ _ _ _ _ _ _)]) (ch := []) (evk 50) special ⟨congrArg Value.bool hd, y, trivial⟩ trivial (by kernel_rfl) (G22_below X t _) (G22_below X t _) (by kernel_rfl)
theorem e58w_out (g : Option Int) : CodeOk Try.prog none (lp Try.prog 58 1) (T58w (-1)) [] (G22 Try.prog X t g) 10 ⟨.exit 0, TJ58w, [], G22 Try.prog X t g, 10⟩ :=
  code_at (hs := []) (ch := []) (evk 50) special trivial trivial (by kernel_rfl) (G22_below X t _) (G22_below X t _) (by kernel_rfl)
def foldW (f : Nat → Option Int) : Nat → Option Int → Option Int
  | 0, g => g
  | n + 1, g => foldW f n (mrg (f n) g)
include hk h8 ha in
theorem l58w : ∀ (n : Nat) (g : Option Int), n ≤ 8 → LoopOk Try.prog none (lp Try.prog 58 1) (T58w ((n : Int) - 1)) [] (G22 Try.prog X t g) 10 ⟨.exit 0, TJ58w, [], G22 Try.prog X t (foldW (fun i => whenC X i t) n g), 10⟩
  | 0, g, _ => loopOk_out (e58w_out X g) (by show Exit.exit 0 ≠ Exit.normal; simp)
  | n + 1, g, hn => by
    have hw : W ((n : Int) - 1) = (n : Int) - 1 := W_id (by omega)
    have h1 := e58w X hk h8 ha (t := t) (i := n) (by omega) rfl g
    rw [show ((n + 1 : Nat) : Int) - 1 = (n : Int) by push_cast; omega]
    rw [hw] at h1
    exact loop_step h1 (l58w n _ (by omega))
noncomputable def whenS (X : Cx) (t : Int) : Option Int := foldW (fun i => whenC X i t) 8 none
include hk h8 ha in
theorem call58w {g : Option Int} (hg : whenS X t = g) :
    (∃ fn, Try.prog.funcs[58]? = some fn ∧ fn.body.isSome = true) ∧ CallOk Try.prog 58 ([] ++ [Y9] ++ [pt 7]) (G22 Try.prog X t none) 10 (.tuple #[]) (G22 Try.prog X t g) 10 := by
  have hlo := l58w X hk h8 ha 8 none (by omega)
  change LoopOk _ _ _ _ _ _ _ ⟨.exit 0, TJ58w, [], G22 Try.prog X t (whenS X t), 10⟩ at hlo
  rw [hg] at hlo
  exact call_by (hs := []) (ch := [⟨1, none, .loop (lp Try.prog 58 1), T58w 7, [], G22 Try.prog X t none, 10, _, true⟩]) (evk 50) special trivial ⟨codeOk_loop hlo, trivial⟩ (by kernel_rfl)
include hk h8 ha in
theorem range22 {g : Option Int} (hg : whenS X t = g) : CodeOk Try.prog none (rf Try.prog 22 8) (T22 X t) [] (H22 X t none) 8 ⟨.normal, T22 X t, [8], (8, .defd) :: H22 X t g, 10⟩ := by
  have h := call58w X hk h8 ha hg
  have hL : (G22 Try.prog X t g).get 9 = some (.loop (L22 Try.prog X t)) := rfl
  exact range_by special (by kernel_rfl) (by kernel_rfl) h hL (by kernel_rfl)
end
/-- The arguments of Fit are in its range. -/
theorem whenV (g : Option Int) : fitV g = .tuple #[.int .i64 (accV g), .int .i64 (bif g.isSome then 0 else 4)] := by cases g <;> rfl
theorem arg_ok {X : Cx} {t : Int} (he : errC X t = 0) {i : Nat} (hi : i < 8) (hf : fullS X i = true) : argG i (W (t + X.sh)) (W ((X.at_ i).left * X.per)) = false ∧ W (t + X.sh) = t + X.sh ∧ W ((X.at_ i).left * X.per) = (X.at_ i).left * X.per ∧ -1000 ≤ X.sh ∧ X.sh ≤ 1000 ∧ 84 ≤ (X.at_ i).left * X.per ∧ (X.at_ i).left * X.per ≤ 1542000 := by
  obtain ⟨h1, h2, h3, h4⟩ := errC_ok he
  obtain ⟨hh, hl⟩ := errC_heads he
  obtain ⟨_, hp⟩ := heads_cls hh hi hf
  unfold lineX lineS at hl
  simp only [Bool.and_eq_true, Bool.not_eq_true', Bool.or_eq_false_iff, decide_eq_false_iff_not] at hl
  rw [part_eq] at hp
  have hleft : 84 ≤ (X.at_ i).left ∧ (X.at_ i).left ≤ 1542 := by
    unfold partR itemR at hp
    simp only [Bool.and_eq_true, decide_eq_true_eq] at hp
    obtain ⟨⟨⟨_, hsz⟩, hsz2⟩, hp⟩ := hp
    cases hr : (X.at_ i).rest with
    | false => rw [hr] at hp; simp only [cond_false, beq_iff_eq] at hp; omega
    | true =>
      rw [hr] at hp
      simp only [cond_true, Bool.and_eq_true, decide_eq_true_eq] at hp
      have := W_id (a := (X.at_ i).it.size - 40) (by omega)
      unfold W at this
      omega
  have m1 : 84 ≤ (X.at_ i).left * X.per := by
    have := Int.mul_le_mul hleft.1 (show 1 ≤ X.per by omega) (by omega) (by omega)
    omega
  have m2 : (X.at_ i).left * X.per ≤ 1542000 := by
    have := Int.mul_le_mul hleft.2 (show X.per ≤ 1000 by omega) (by omega) (by omega)
    omega
  have e1 : W (t + X.sh) = t + X.sh := W_id (by omega)
  have e2 : W ((X.at_ i).left * X.per) = (X.at_ i).left * X.per := W_id (by omega)
  refine ⟨?_, e1, e2, by omega, by omega, m1, m2⟩
  rw [e1, e2]
  unfold argG
  simp only [Bool.or_eq_false_iff, decide_eq_false_iff_not]
  omega
/-! ### When -/
theorem WhenE (X : Cx) (t : Int) {e : Int} (he : errC X t = e) (hne : (e != 0) = true) : Memo.Ok Try.prog ⟨22, 2, [X.lv, X.hv 1, .int .i64 t], X.V 1, .tuple #[.int .i64 0, .int .i64 e], [], 2⟩ := by
  have m1 := check_m X t he 0 4
  exact memo_pure (hs := [(3, .frz), (5, .frz), (18, .call _), (20, .val (.bool (e != 0)) (.bool true))]) (ch := []) 4 (evk 50) special ⟨trivial, trivial, m1, congrArg Value.bool hne, trivial⟩ trivial (by kernel_rfl) (X.smallH 2 1) (by kernel_rfl)
theorem WhenY (X : Cx) {t : Int} (he : errC X t = 0) {g : Option Int} (hg : whenS X t = g) : Memo.Ok Try.prog ⟨22, 2, [X.lv, X.hv 1, .int .i64 t], X.V 1, fitV g, [], 2⟩ := by
  obtain ⟨h1, h2, _, _⟩ := errC_ok he
  have m1 := check_m X t he 0 4
  have hr := range22 X h1 h2 (fun i hi hf => (arg_ok he hi hf).1) hg
  cases g <;> exact memo_pure (hs := [(3, .frz), (5, .frz), (18, .call _), (26, .call _)]) (ch := [⟨8, none, rf Try.prog 22 8, T22 X t, [], H22 X t none, 8, _, true⟩]) 10 (evk 50) special ⟨trivial, trivial, m1, classes_7 0, trivial⟩ ⟨hr, trivial⟩ (by kernel_rfl) (X.smallH 2 1) (by kernel_rfl)
theorem WhenE_m (X : Cx) (t : Int) {e : Int} (he : errC X t = e) (hne : (e != 0) = true) (b nx : Nat) : Memo.Ok Try.prog ⟨22, nx, [X.lv, X.hv (b + 1), .int .i64 t], X.V (b + 1), .tuple #[.int .i64 0, .int .i64 e], [], nx⟩ :=
  X.mv (WhenE X t he hne) b nx (by kernel_rfl) rfl rfl
theorem WhenY_m (X : Cx) {t : Int} (he : errC X t = 0) {g : Option Int} (hg : whenS X t = g) (b nx : Nat) : Memo.Ok Try.prog ⟨22, nx, [X.lv, X.hv (b + 1), .int .i64 t], X.V (b + 1), fitV g, [], nx⟩ := by
  have h := WhenY X he hg
  cases g <;> exact X.mv h b nx (by kernel_rfl) rfl rfl
theorem WhenN (c n k : Nat) (cyc per sh t : Int) (b nx : Nat) : Memo.Ok Try.prog ⟨22, nx, [lvN c cyc per sh, hv b n k, .int .i64 t], [], .tuple #[.int .i64 0, .int .i64 471], [], nx⟩ := by
  have m := checkN_m c n k cyc per sh t 0 3
  have h : Memo.Ok Try.prog ⟨22, 1, [lvN c cyc per sh, hv 0 n k, .int .i64 t], [], .tuple #[.int .i64 0, .int .i64 471], [], 1⟩ :=
    memo_pure (hs := [(3, .frz), (5, .frz), (18, .call _)]) (ch := []) 3 (evk 50) special ⟨trivial, trivial, m, trivial⟩ trivial (by kernel_rfl) rfl (by kernel_rfl)
  exact memo_no h b nx (by kernel_rfl) rfl rfl
end Go.Proofs.Ytjconcfkpgkbkaa.choose
