/- Contracts: choose (layer 37): check, full, free, fits. -/
import Derived.Test.YtjconcfkpgkbkaaChF
namespace Go.Proofs.Ytjconcfkpgkbkaa.choose
open Go Go.En
set_option linter.unusedVariables false

/-- A line and heads. -/
structure Cx where
  es : List Ent
  c : Nat
  cyc : Int
  per : Int
  sh : Int
  hs : List Pt
  k : Nat
  hE : es.length ≤ 1000
  hH : hs.length ≤ 1000
namespace Cx
variable (X : Cx)
def lc : List Value := choose.lc X.es.length X.c X.cyc X.per X.sh
def lv : Value := .agg ⟨X.lc⟩
def gv : Value := choose.gv X.es.length X.c X.cyc
def hv (b : Nat) : Value := choose.hv b X.hs.length X.k
def vc (b : Nat) : List Value := X.lc ++ [X.hv b]
def vv (b : Nat) : Value := .agg ⟨X.vc b⟩
def V (b : Nat) : List (Nat × List Value) := [(0, ecs X.es), (b, pcs X.hs)]
def at_ (i : Nat) : Pt := X.hs.getD i zp
theorem smallH (n b : Nat) : En.smallH n (X.V b) = true := by simp [V, En.smallH, small_avL (ecs_av _), small_avL (pcs_av _)]
theorem mv {f : FuncId} {args args' : List Value} {v : Value} (h : Memo.Ok Try.prog ⟨f, 2, args, X.V 1, v, [], 2⟩) (b nx : Nat) (hc : (En.smallL (En.small 2 5) args && En.small 2 5 v) = true)
    (h1 : args.map (renV (shift (ρ1 (b + 1)) 2 nx) 5) = args') (h2 : renV (shift (ρ1 (b + 1)) 2 nx) 5 v = v) : Memo.Ok Try.prog ⟨f, nx, args', X.V (b + 1), v, [], nx⟩ := by
  simp only [Bool.and_eq_true] at hc
  have hb : below 2 (X.V 1) = true := by kernel_rfl
  have := memo_ren h (ρ1 (b + 1)) nx (X.V (b + 1)) (by simp only [hc.1, hc.2, hb, inNew, Bool.and_self]) (X.smallH 2 1) rfl (fun x cs hx => by
    by_cases h0 : 0 = x
    · subst h0
      simp [V, roHp, Hp.get, ρ1] at hx ⊢
      subst hx
      exact (renV_avL (ecs_av X.es)).symm
    · by_cases h1 : 1 = x
      · subst h1
        simp [V, roHp, Hp.get, ρ1] at hx ⊢
        subst hx
        exact (renV_avL (pcs_av X.hs)).symm
      · simp [V, roHp, Hp.get, h0, h1] at hx)
  simpa [h1, h2, renH] using this
end Cx
def lateS (t : Int) : Bool := decide (t < 0) || decide (t > 549755813888)
def lineX (X : Cx) : Bool := lineS (chkG X.es X.cyc) X.per X.sh
def errC (X : Cx) (t : Int) : Int := bif lineX X then (bif headsS X.hs then (bif lateS t then 2 else 0) else 470) else 471
theorem check_0 (X : Cx) (t : Int) : Memo.Ok Try.prog ⟨34, 2, [X.lv, X.hv 1, .int .i64 t], X.V 1, .int .i64 (errC X t), [], 2⟩ := by
  unfold errC lateS
  have key : ∀ p1 p2 p3 p4, lineX X = p1 → headsS X.hs = p2 → decide (t < 0) = p3 → decide (t > 549755813888) = p4 → Memo.Ok Try.prog ⟨34, 2, [X.lv, X.hv 1, .int .i64 t], X.V 1, .int .i64 (bif p1 then (bif p2 then (bif p3 || p4 then 2 else 0) else 470) else 471), [], 2⟩ := by
    intro p1 p2 p3 p4 h1 h2 h3 h4
    have m1 := line_m (c := X.c) X.hE h1 3
    have m2 := heads_m (c := X.k) X.hH h2 1 3
    cases p1
    · exact memo_pure (hs := [(3, .frz), (10, .call _)]) (ch := []) 3 (evk 50) special ⟨trivial, m1, trivial⟩ trivial (by kernel_rfl) (X.smallH 2 1) (by kernel_rfl)
    · cases p2
      · exact memo_pure (hs := [(3, .frz), (10, .call _), (15, .call _)]) (ch := []) 3 (evk 50) special ⟨trivial, m1, m2, trivial⟩ trivial (by kernel_rfl) (X.smallH 2 1) (by kernel_rfl)
      · cases p3 <;> cases p4 <;>
          exact memo_pure (hs := [(3, .frz), (10, .call _), (15, .call _), (20, .val (.bool (decide (t < 0))) (.bool _)), (23, .val (.bool (decide (t > 549755813888))) (.bool _))]) (ch := []) 3 (evk 50) special ⟨trivial, m1, m2, congrArg Value.bool h3, congrArg Value.bool h4, trivial⟩ trivial (by kernel_rfl) (X.smallH 2 1) (by kernel_rfl)
  exact key _ _ _ _ rfl rfl rfl rfl
theorem check_m (X : Cx) (t : Int) {e : Int} (h : errC X t = e) (b nx : Nat) : Memo.Ok Try.prog ⟨34, nx, [X.lv, X.hv (b + 1), .int .i64 t], X.V (b + 1), .int .i64 e, [], nx⟩ :=
  X.mv (h ▸ check_0 X t) b nx (by kernel_rfl) rfl rfl
/-! ### full, free, fits -/
def fullS (X : Cx) (i : Nat) : Bool := !eqPt (X.at_ i) zp
theorem full_0 (X : Cx) {i : Nat} (hi : i < X.hs.length) : Memo.Ok Try.prog ⟨45, 2, [X.vv 1, .int .i64 i], X.V 1, .bool (fullS X i), [], 2⟩ := by
  have l1 := ld57 (b := 1) (ro := true) (pt_at hi)
  have e1 := fun xo yo => (eql_pt (X.at_ i) zp xo yo).2
  unfold fullS
  generalize eqPt (X.at_ i) zp = q at e1 ⊢
  exact memo_pure (hs := [(2, .frz), (8, .ix 27 (X.hv 1) (.int .i64 i) _), (9, .ld 57 _ 1 (pcs X.hs) true _), (11, .bin .neq 57 _ _ _)]) (ch := []) 3 (evk 50) special ⟨trivial, ix27 hi, ⟨l1, _, rfl⟩, e1, trivial⟩ trivial (by kernel_rfl) (X.smallH 2 1) (by kernel_rfl)
def T54 (X : Cx) (i k : Int) : List Value := [J, .int .i64 i, J, J, .bool false] ++ List.replicate 5 J ++ [X.hv 1, .int .i64 X.hs.length, .int .i64 k] ++ List.replicate 12 J
def TJ54 : List Value := [J, J, J, J, .bool false] ++ List.replicate 20 J
def H54 (X : Cx) : Hp := [(0, .cells (ecs X.es) true), (1, .cells (pcs X.hs) true)]
theorem H54_below (X : Cx) {n : Nat} (hn : 2 ≤ n) : hpBelow n (H54 X) = true := by
  have a0 : tidyB n (.cells (ecs X.es) true) = true := small_avL (ecs_av _)
  have a1 : tidyB n (.cells (pcs X.hs) true) = true := small_avL (pcs_av _)
  simp only [H54, hpBelow, a0, a1]
  simp; omega
def heldP (p : Pt) (i k : Nat) : Bool := ((k : Int) != (i : Int)) && p.rest
theorem fr_go (X : Cx) {i k : Nat} (hk : k < X.hs.length) {q : Bool} (hq : heldP (X.at_ k) i k = q) :
    CodeOk Try.prog none (lp Try.prog 54 4) (T54 X i k) [] (H54 X) 4 (bif q then ⟨.ret, TJ54, [], H54 X, 4⟩ else ⟨.normal, T54 X i (W (k + 1)), [], H54 X, 4⟩) := by
  have hd : decide ((k : Int) < X.hs.length) = true := decide_eq_true (by omega)
  have l1 := ld57 (b := 1) (ro := true) (pt_at hk)
  have key : ∀ q1 p, ((k : Int) != (i : Int)) = q1 → X.hs.getD k zp = p → (q1 && p.rest) = q → CodeOk Try.prog none (lp Try.prog 54 4) (T54 X i k) [] (H54 X) 4 (bif q then ⟨.ret, TJ54, [], H54 X, 4⟩ else ⟨.normal, T54 X i (W (k + 1)), [], H54 X, 4⟩) := by
    intro q1 p h1 hp h
    rw [hp] at l1
    obtain ⟨⟨a, b, c, d, e⟩, l, r⟩ := p
    simp only at h
    subst h
    cases q1 <;> cases r <;>
      exact code_at (hs := [(13, .val (.bool (decide ((k : Int) < X.hs.length))) (.bool true)), (15, .ix 27 (X.hv 1) (.int .i64 k) _), (16, .ld 57 _ 1 (pcs X.hs) true _), (19, .val (.bool ((k : Int) != (i : Int))) (.bool _))]) (ch := []) (evk 50) special
        ⟨congrArg Value.bool hd, ix27 hk, ⟨l1, _, rfl⟩, congrArg Value.bool h1, trivial⟩ trivial (by kernel_rfl) (H54_below X (by omega)) (H54_below X (by omega)) (by kernel_rfl)
  exact key _ _ rfl rfl hq
theorem fr_out (X : Cx) {i : Int} : CodeOk Try.prog none (lp Try.prog 54 4) (T54 X i X.hs.length) [] (H54 X) 4 ⟨.exit 0, TJ54, [], H54 X, 4⟩ := by
  have hd : decide ((X.hs.length : Int) < X.hs.length) = false := decide_eq_false (by omega)
  exact code_at (hs := [(13, .val (.bool (decide ((X.hs.length : Int) < X.hs.length))) (.bool false))]) (ch := []) (evk 50) special ⟨congrArg Value.bool hd, trivial⟩ trivial (by kernel_rfl) (H54_below X (by omega)) (H54_below X (by omega)) (by kernel_rfl)
def heldGo (X : Cx) (i : Nat) : Nat → Nat → Bool
  | 0, _ => false
  | n + 1, k => heldP (X.at_ k) i k || heldGo X i n (k + 1)
def F54 (X : Cx) : Bool → Res
  | true => ⟨.ret, TJ54, [], H54 X, 4⟩
  | false => ⟨.exit 0, TJ54, [], H54 X, 4⟩
theorem fr_loop (X : Cx) {i : Nat} : ∀ (n k : Nat), k + n = X.hs.length → LoopOk Try.prog none (lp Try.prog 54 4) (T54 X i k) [] (H54 X) 4 (F54 X (heldGo X i n k))
  | 0, k, h => by
    have : k = X.hs.length := by omega
    subst this
    exact loopOk_out (fr_out X) (by show Exit.exit 0 ≠ Exit.normal; simp)
  | n + 1, k, h => by
    have hH := X.hH
    simp only [heldGo]
    cases hq : heldP (X.at_ k) i k with
    | true => exact loopOk_out (fr_go X (by omega) hq) (by show Exit.ret ≠ Exit.normal; simp)
    | false =>
      have h1 := fr_go X (i := i) (by omega) hq
      simp only [cond_false] at h1
      rw [show (k : Int) + 1 = ((k + 1 : Nat) : Int) by push_cast; rfl, show W ((k + 1 : Nat) : Int) = ((k + 1 : Nat) : Int) from wrap_nat (by omega)] at h1
      exact loop_step h1 (fr_loop X n (k + 1) (by omega))
termination_by n => n
def heldS (X : Cx) (i : Nat) : Bool := heldGo X i X.hs.length 0
def freeS (X : Cx) (i : Nat) : Bool := decide ((i : Int) ≥ 6) || !heldS X i
theorem free_0 (X : Cx) (i : Nat) : Memo.Ok Try.prog ⟨54, 2, [X.vv 1, .int .i64 i], X.V 1, .bool (freeS X i), [], 2⟩ := by
  have hlo := fr_loop X (i := i) X.hs.length 0 (by omega)
  unfold freeS
  have key : ∀ p g, decide ((i : Int) ≥ 6) = p → heldS X i = g → Memo.Ok Try.prog ⟨54, 2, [X.vv 1, .int .i64 i], X.V 1, .bool (p || !g), [], 2⟩ := by
    intro p g hp hg
    unfold heldS at hg
    rw [hg] at hlo
    cases p
    · cases g <;>
        exact memo_pure (hs := [(2, .frz), (8, .val (.bool (decide ((i : Int) ≥ 6))) (.bool false))]) (ch := [⟨4, none, .loop (lp Try.prog 54 4), T54 X i 0, [], H54 X, 4, _, false⟩]) 4 (evk 50) special ⟨trivial, congrArg Value.bool hp, trivial⟩ ⟨codeOk_loop hlo, trivial⟩ (by kernel_rfl) (X.smallH 2 1) (by kernel_rfl)
    · cases g <;> exact memo_pure (hs := [(2, .frz), (8, .val (.bool (decide ((i : Int) ≥ 6))) (.bool true))]) (ch := []) 3 (evk 50) special ⟨trivial, congrArg Value.bool hp, trivial⟩ trivial (by kernel_rfl) (X.smallH 2 1) (by kernel_rfl)
  exact key _ _ rfl rfl
def fitsX (X : Cx) (i : Nat) (t : Int) : Bool := fitsG X.es X.cyc i (W (t + X.sh)) (W ((X.at_ i).left * X.per))
theorem gfits_m {es : List Ent} {c : Nat} {cyc : Int} (hG : Good es cyc) (hk : chkG es cyc = true) (cls t long : Int) (nx : Nat) : Memo.Ok Try.prog ⟨61, nx, [gv es.length c cyc, .int .i64 cls, .int .i64 t, .int .i64 long], [(0, ecs es)], fitsV es cyc cls t long, [], nx⟩ :=
  memo_blk (gfits_0 hG hk cls t long) (ecs_av es) 0 nx (by kernel_rfl) rfl rfl
theorem fits_0 (X : Cx) (hk : chkG X.es X.cyc = true) {i : Nat} (hi : i < X.hs.length) (t : Int) : Memo.Ok Try.prog ⟨46, 2, [X.vv 1, .int .i64 i, .int .i64 t], X.V 1, .bool (fitsX X i t), [], 2⟩ := by
  have l1 := ldL (b := 1) (ro := true) (pt_at hi)
  have m1 := gfits_m (c := X.c) (good_of hk) hk i (W (t + X.sh)) (W ((X.at_ i).left * X.per)) 3
  unfold fitsV fitsG at m1
  unfold fitsX fitsG
  generalize decide (openN X.es i (W (t + X.sh)) X.cyc ≥ W ((X.at_ i).left * X.per)) = d at m1 ⊢
  generalize argG i (W (t + X.sh)) (W ((X.at_ i).left * X.per)) = a at m1 ⊢
  cases a <;> cases d <;>
    exact memo_pure (hs := [(3, .frz), (22, .ix 27 (X.hv 1) (.int .i64 i) _), (24, .ld 3 _ 1 (pcs X.hs) true _), (29, .call _)]) (ch := []) 3 (evk 50) special ⟨trivial, ix27 hi, ⟨l1, _, rfl⟩, m1, trivial⟩ trivial (by kernel_rfl) (X.smallH 2 1) (by kernel_rfl)
end Go.Proofs.Ytjconcfkpgkbkaa.choose
