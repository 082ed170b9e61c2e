/- Contracts: the references' times, Fits, held, fits, May, Start. -/
import Derived.Test.YtjconcfkpgkbkaaChQ
namespace Go.Proofs.Ytjconcfkpgkbkaa.choose
open Go Go.En
set_option linter.unusedVariables false

section
variable {es : List Ent} {c : Nat} {cyc : Int}
theorem times_0 (hn : es.length ≤ 1000) (cls t long : Int) : Memo.Ok Try.prog ⟨59, 1, [gv es.length c cyc, .int .i64 cls, .int .i64 t, .int .i64 long], [(0, ecs es)], .int .i64 (errG es cyc cls t long), [], 1⟩ := by
  have hS : En.smallH 1 [(0, ecs es)] = true := by simp [En.smallH, small_avL (ecs_av es)]
  have e7 : decide (cls ≥ 8) = decide (cls > 7) := by rw [Bool.eq_iff_iff]; simp only [decide_eq_true_eq]; omega
  unfold errG argG
  rw [e7]
  have key : ∀ p p1 p2 p3 p4 p5 p6, chkG es cyc = p → decide (cls < 0) = p1 → decide (cls > 7) = p2 → decide (t < -1099511627776) = p3 → decide (t > 1099511627776) = p4 → decide (long < 0) = p5 → decide (long > 1099511627776) = p6 →
      Memo.Ok Try.prog ⟨59, 1, [gv es.length c cyc, .int .i64 cls, .int .i64 t, .int .i64 long], [(0, ecs es)], .int .i64 (bif p then (bif p1 || (p2 || (p3 || (p4 || (p5 || p6)))) then 2 else 0) else 370), [], 1⟩ := by
    intro p p1 p2 p3 p4 p5 p6 h h1 h2 h3 h4 h5 h6
    have mc := right_m (c := c) hn h 2
    cases p
    · exact memo_pure (hs := [(4, .frz), (10, .call _)]) (ch := []) 2 (evk 50) special ⟨trivial, mc, trivial⟩ trivial (by kernel_rfl) hS (by kernel_rfl)
    · cases p1 <;> cases p2 <;> cases p3 <;> cases p4 <;> cases p5 <;> cases p6 <;>
        exact memo_pure (hs := [(4, .frz), (10, .call _), (13, .val (.bool (decide (cls < 0))) (.bool _)), (16, .val (.bool (decide (cls > 7))) (.bool _)), (20, .val (.bool (decide (t < -1099511627776))) (.bool _)), (24, .val (.bool (decide (t > 1099511627776))) (.bool _)), (28, .val (.bool (decide (long < 0))) (.bool _)), (32, .val (.bool (decide (long > 1099511627776))) (.bool _))]) (ch := []) 2 (evk 50) special
          ⟨trivial, mc, congrArg Value.bool h1, congrArg Value.bool h2, congrArg Value.bool h3, congrArg Value.bool h4, congrArg Value.bool h5, congrArg Value.bool h6, trivial⟩ trivial (by kernel_rfl) hS (by kernel_rfl)
  exact key _ _ _ _ _ _ _ rfl rfl rfl rfl rfl rfl rfl
theorem times_m (hn : es.length ≤ 1000) {cls t long e : Int} (h : errG es cyc cls t long = e) (nx : Nat) : Memo.Ok Try.prog ⟨59, nx, [gv es.length c cyc, .int .i64 cls, .int .i64 t, .int .i64 long], [(0, ecs es)], .int .i64 e, [], nx⟩ :=
  memo_blk (h ▸ times_0 hn cls t long) (ecs_av es) 0 nx (by kernel_rfl) rfl rfl
theorem argG_no {cls t long : Int} (h : argG cls t long = false) : 0 ≤ cls ∧ cls ≤ 7 ∧ 0 ≤ long ∧ -1099511627776 ≤ t ∧ t ≤ 1099511627776 ∧ long ≤ 1099511627776 := by
  simp only [argG, Bool.or_eq_false_iff, decide_eq_false_iff_not] at h
  omega
theorem rfits_0 (hk : chkG es cyc = true) (cls t long : Int) : Memo.Ok Try.prog ⟨56, 1, [gv es.length c cyc, .int .i64 cls, .int .i64 t, .int .i64 long], [(0, ecs es)], fitsV es cyc cls t long, [], 1⟩ := by
  have hS : En.smallH 1 [(0, ecs es)] = true := by simp [En.smallH, small_avL (ecs_av es)]
  have hG := good_of hk
  have h128 := hG.n128
  unfold fitsV fitsG
  cases ha : argG cls t long with
  | true =>
    have ma := times_m (c := c) (by omega) (show errG es cyc cls t long = 2 by unfold errG; rw [hk, ha]; rfl) 2
    exact memo_pure (hs := [(4, .frz), (15, .call _)]) (ch := []) 2 (evk 50) special ⟨trivial, ma, trivial⟩ trivial (by kernel_rfl) hS (by kernel_rfl)
  | false =>
    have ma := times_m (c := c) (by omega) (show errG es cyc cls t long = 0 by unfold errG; rw [hk, ha]; rfl) 2
    obtain ⟨q1, q2, q3, _⟩ := argG_no ha
    have mo := span_m (c := c) q1 q2 hG t rfl 2
    have h0 := (span_open q1 hG t).2
    generalize openN es cls t cyc = v at mo h0 ⊢
    have key : ∀ p1 p2, (long == 0) = p1 → decide (v ≥ long) = p2 → (p1 = true → p2 = true) → Memo.Ok Try.prog ⟨56, 1, [gv es.length c cyc, .int .i64 cls, .int .i64 t, .int .i64 long], [(0, ecs es)], .tuple #[.bool p2, .int .i64 0], [], 1⟩ := by
      intro p1 p2 h1 h2 h3
      cases p1
      · cases p2 <;> exact memo_pure (hs := [(4, .frz), (15, .call _), (20, .val (.bool (long == 0)) (.bool false)), (25, .call _), (27, .val (.bool (decide (v ≥ long))) (.bool _))]) (ch := []) 2 (evk 50) special ⟨trivial, ma, congrArg Value.bool h1, mo, congrArg Value.bool h2, trivial⟩ trivial (by kernel_rfl) hS (by kernel_rfl)
      · have := h3 rfl
        subst this
        exact memo_pure (hs := [(4, .frz), (15, .call _), (20, .val (.bool (long == 0)) (.bool true))]) (ch := []) 2 (evk 50) special ⟨trivial, ma, congrArg Value.bool h1, trivial⟩ trivial (by kernel_rfl) hS (by kernel_rfl)
    exact key _ _ rfl rfl (fun h => by
      simp only [beq_iff_eq] at h
      exact decide_eq_true (by omega))
theorem rfits_m (hk : chkG es cyc = true) (cls t long : Int) (nx : Nat) : Memo.Ok Try.prog ⟨56, nx, [gv es.length c cyc, .int .i64 cls, .int .i64 t, .int .i64 long], [(0, ecs es)], fitsV es cyc cls t long, [], nx⟩ :=
  memo_blk (rfits_0 hk cls t long) (ecs_av es) 0 nx (by kernel_rfl) rfl rfl
end
/-! ### held -/
def T38 (X : Cx) (i k : Int) : List Value := mkT 24 0 [(0, hv 0 X.hs.length X.k), (1, .int .i64 i), (5, .int .i64 k)]
def TT38 : List Value := mkT 24 0 [(4, .bool true)]
def TX38 : List Value := mkT 24 0 []
theorem hd_go (X : Cx) {i k : Nat} (hk : k < X.hs.length) (h8 : k < 8) {q : Bool} (hq : (decide ((i : Int) ≤ 5) && heldP (X.at_ k) i k) = q) :
    CodeOk Try.prog none (lp Try.prog 38 2) (T38 X i k) [] (H1 (pcs X.hs)) 1 (bif q then ⟨.ret, TT38, [], H1 (pcs X.hs), 1⟩ else ⟨.normal, T38 X i (W (k + 1)), [], H1 (pcs X.hs), 1⟩) := by
  have hd : decide ((k : Int) < 8) = true := decide_eq_true (by omega)
  have l1 := ldR (b := 0) (ro := true) (pt_at hk)
  have key : ∀ q1 q2 p, decide ((i : Int) ≤ 5) = q1 → ((k : Int) != (i : Int)) = q2 → X.hs.getD k zp = p → (q1 && (q2 && p.rest)) = q → CodeOk Try.prog none (lp Try.prog 38 2) (T38 X i k) [] (H1 (pcs X.hs)) 1 (bif q then ⟨.ret, TT38, [], H1 (pcs X.hs), 1⟩ else ⟨.normal, T38 X i (W (k + 1)), [], H1 (pcs X.hs), 1⟩) := by
    intro q1 q2 p h1 h2 hp h
    rw [hp] at l1
    obtain ⟨⟨a, b, c, d, e⟩, l, r⟩ := p
    simp only at h
    subst h
    cases q1 <;> cases q2 <;> cases r <;>
      exact code_at (hs := [(7, .val (.bool (decide ((k : Int) < 8))) (.bool true)), (11, .val (.bool (decide ((i : Int) ≤ 5))) (.bool _)), (15, .val (.bool ((k : Int) != (i : Int))) (.bool _)), (20, .ix 27 (hv 0 X.hs.length X.k) (.int .i64 k) _), (22, .ld 4 _ 0 (pcs X.hs) true _)]) (ch := []) (evk 50) special
        ⟨congrArg Value.bool hd, congrArg Value.bool h1, congrArg Value.bool h2, ix27 hk, ⟨l1, _, rfl⟩, trivial⟩ trivial (by kernel_rfl) (H1_below (pcs_av _) (by omega)) (H1_below (pcs_av _) (by omega)) (by kernel_rfl)
  exact key _ _ _ rfl rfl rfl hq
theorem hd_out (X : Cx) {i : Int} : CodeOk Try.prog none (lp Try.prog 38 2) (T38 X i 8) [] (H1 (pcs X.hs)) 1 ⟨.exit 0, TX38, [], H1 (pcs X.hs), 1⟩ :=
  code_at (hs := []) (ch := []) (evk 50) special trivial trivial (by kernel_rfl) (H1_below (pcs_av _) (by omega)) (H1_below (pcs_av _) (by omega)) (by kernel_rfl)
def F38 (X : Cx) : Bool → Res
  | true => ⟨.ret, TT38, [], H1 (pcs X.hs), 1⟩
  | false => ⟨.exit 0, TX38, [], H1 (pcs X.hs), 1⟩
theorem hd_loop (X : Cx) (h8 : X.hs.length = 8) {i : Nat} : ∀ (n k : Nat), k + n = 8 → LoopOk Try.prog none (lp Try.prog 38 2) (T38 X i k) [] (H1 (pcs X.hs)) 1 (F38 X (decide ((i : Int) ≤ 5) && heldGo X i n k))
  | 0, k, h => by
    have : k = 8 := by omega
    subst this
    rw [show (decide ((i : Int) ≤ 5) && heldGo X i 0 8) = false by simp [heldGo]]
    exact loopOk_out (hd_out X) (by show Exit.exit 0 ≠ Exit.normal; simp)
  | n + 1, k, h => by
    simp only [heldGo]
    rw [Bool.and_or_distrib_left]
    cases hq : (decide ((i : Int) ≤ 5) && heldP (X.at_ k) i k) with
    | true => exact loopOk_out (hd_go X (by omega) (by omega) hq) (by show Exit.ret ≠ Exit.normal; simp)
    | false =>
      have h1 := hd_go X (i := i) (by omega) (by omega) hq
      simp only [cond_false] at h1
      rw [show (k : Int) + 1 = ((k + 1 : Nat) : Int) by push_cast; rfl, show W ((k + 1 : Nat) : Int) = ((k + 1 : Nat) : Int) from wrap_nat (by omega)] at h1
      exact loop_step h1 (hd_loop X h8 n (k + 1) (by omega))
termination_by n => n
theorem held_0 (X : Cx) (h8 : X.hs.length = 8) (i : Nat) : Memo.Ok Try.prog ⟨38, 1, [hv 0 X.hs.length X.k, .int .i64 i], [(0, pcs X.hs)], .bool (!freeS X i), [], 1⟩ := by
  have hS : En.smallH 1 [(0, pcs X.hs)] = true := by simp [En.smallH, small_avL (pcs_av _)]
  have hlo := hd_loop X h8 (i := i) 8 0 (by omega)
  have e : (!freeS X i) = (decide ((i : Int) ≤ 5) && heldGo X i 8 0) := by
    unfold freeS heldS
    rw [h8, Bool.not_or, Bool.not_not]
    congr 1
    rw [Bool.eq_iff_iff]
    simp only [Bool.not_eq_true', decide_eq_false_iff_not, decide_eq_true_eq]
    omega
  rw [e]
  generalize (decide ((i : Int) ≤ 5) && heldGo X i 8 0) = g at hlo ⊢
  cases g <;> exact memo_pure (hs := []) (ch := [⟨2, none, .loop (lp Try.prog 38 2), T38 X i 0, [], H1 (pcs X.hs), 1, _, true⟩]) 1 (evk 50) special trivial ⟨codeOk_loop hlo, trivial⟩ (by kernel_rfl) hS (by kernel_rfl)
theorem held_m (X : Cx) (h8 : X.hs.length = 8) {i : Nat} {p : Bool} (h : freeS X i = p) (b nx : Nat) : Memo.Ok Try.prog ⟨38, nx, [X.hv b, .int .i64 i], [(b, pcs X.hs)], .bool !p, [], nx⟩ :=
  memo_blk (h ▸ held_0 X h8 i) (pcs_av _) b nx (by kernel_rfl) rfl rfl
/-! ### fits, May, Start -/
theorem rfitsX_0 (X : Cx) (hk : chkG X.es X.cyc = true) (i : Nat) (t : Int) : Memo.Ok Try.prog ⟨39, 1, [X.lv, (X.at_ i).v, .int .i64 i, .int .i64 t], [(0, ecs X.es)], .bool (fitsX X i t), [], 1⟩ := by
  have hS : En.smallH 1 [(0, ecs X.es)] = true := by simp [En.smallH, small_avL (ecs_av _)]
  have m1 := rfits_m (c := X.c) hk i (W (t + X.sh)) (W ((X.at_ i).left * X.per)) 3
  unfold fitsV fitsG at m1
  unfold fitsX fitsG
  generalize decide (openN X.es i (W (t + X.sh)) X.cyc ≥ W ((X.at_ i).left * X.per)) = d at m1 ⊢
  generalize argG i (W (t + X.sh)) (W ((X.at_ i).left * X.per)) = a at m1 ⊢
  generalize X.at_ i = x at m1 ⊢
  obtain ⟨⟨x1, x2, x3, x4, x5⟩, x6, x7⟩ := x
  cases a <;> cases d <;>
    exact memo_pure (hs := [(24, .call _)]) (ch := []) 3 (evk 50) special ⟨m1, trivial⟩ trivial (by kernel_rfl) hS (by kernel_rfl)
theorem rfitsX_m (X : Cx) (hk : chkG X.es X.cyc = true) {i : Nat} {t : Int} {p : Bool} (h : fitsX X i t = p) (nx : Nat) : Memo.Ok Try.prog ⟨39, nx, [X.lv, (X.at_ i).v, .int .i64 i, .int .i64 t], [(0, ecs X.es)], .bool p, [], nx⟩ :=
  memo_blk (h ▸ rfitsX_0 X hk i t) (ecs_av _) 0 nx (by kernel_rfl) rfl rfl
theorem rmay_0 (X : Cx) (hk : chkG X.es X.cyc = true) (h8 : X.hs.length = 8) {i : Nat} (hi : i < 8) (t : Int) : Memo.Ok Try.prog ⟨20, 2, [X.lv, X.hv 1, .int .i64 i, .int .i64 t], X.V 1, .bool (mayS X i t), [], 2⟩ := by
  have hlt : i < X.hs.length := by omega
  have l1 := ld57 (b := 1) (ro := true) (pt_at hlt)
  unfold mayS fullS
  have key : ∀ q1 q2 q3, eqPt (X.at_ i) zp = q1 → freeS X i = q2 → fitsX X i t = q3 → Memo.Ok Try.prog ⟨20, 2, [X.lv, X.hv 1, .int .i64 i, .int .i64 t], X.V 1, .bool (!q1 && (q2 && q3)), [], 2⟩ := by
    intro q1 q2 q3 h1 h2 h3
    have m1 := none_m (X.at_ i) h1 3
    have m2 := held_m X h8 h2 1 3
    have m3 := rfitsX_m X hk h3 3
    have l1 : doLoad Try.prog [(1, .cells (pcs X.hs) true)] 57 (.pointer (some ⟨1, 0 + i * 7, none⟩)) = some (X.at_ i).v := l1
    generalize X.at_ i = x at m1 m3 l1
    obtain ⟨⟨x1, x2, x3, x4, x5⟩, x6, x7⟩ := x
    cases q1 <;> cases q2 <;> cases q3 <;>
      exact memo_pure (hs := [(4, .frz), (11, .ix 27 (X.hv 1) (.int .i64 i) _), (12, .ld 57 _ 1 (pcs X.hs) true _), (13, .call _), (18, .call _), (25, .ix 27 (X.hv 1) (.int .i64 i) _), (26, .ld 57 _ 1 (pcs X.hs) true _), (29, .call _)]) (ch := []) 3 (evk 50) special
        ⟨trivial, ix27 hlt, ⟨l1, _, rfl⟩, m1, m2, ix27 hlt, ⟨l1, _, rfl⟩, m3, trivial⟩ trivial (by kernel_rfl) (X.smallH 2 1) (by kernel_rfl)
  exact key _ _ _ rfl rfl rfl
theorem rmay_m (X : Cx) (hk : chkG X.es X.cyc = true) (h8 : X.hs.length = 8) {i : Nat} (hi : i < 8) {t : Int} {p : Bool} (h : mayS X i t = p) (b nx : Nat) : Memo.Ok Try.prog ⟨20, nx, [X.lv, X.hv (b + 1), .int .i64 i, .int .i64 t], X.V (b + 1), .bool p, [], nx⟩ :=
  X.mv (h ▸ rmay_0 X hk h8 hi t) b nx (by kernel_rfl) rfl rfl
def T21 (X : Cx) (t i : Int) : List Value := mkT 18 0 [(1, X.hv 1), (2, .int .i64 t), (3, pt 2), (7, .int .i64 i)]
def TR21 (i : Int) : List Value := mkT 18 0 [(6, .int .i64 i)]
def TX21 : List Value := mkT 18 0 []
def H21 (X : Cx) : Hp := [(2, .cells X.lc true), (0, .cells (ecs X.es) true), (1, .cells (pcs X.hs) true)]
theorem H21_below (X : Cx) {n : Nat} (hn : 3 ≤ n) : hpBelow n (H21 X) = true := by
  have a0 : tidyB n (.cells (ecs X.es) true) = true := small_avL (ecs_av _)
  have a1 : tidyB n (.cells (pcs X.hs) true) = true := small_avL (pcs_av _)
  have a2 : tidyB n (.cells X.lc true) = true := by simp [tidyB, Cx.lc, lc, esl, En.smallL, En.small]; omega
  simp only [H21, hpBelow, a0, a1, a2]
  simp; omega
section
variable (X : Cx) (hk : chkG X.es X.cyc = true) (h8 : X.hs.length = 8) (t : Int)
include hk h8 in
theorem st_go {i : Nat} (hi : i < 8) {q : Bool} (hq : mayS X i t = q) : CodeOk Try.prog none (lp Try.prog 21 2) (T21 X t i) [] (H21 X) 3 (bif q then ⟨.ret, TR21 i, [], H21 X, 3⟩ else ⟨.normal, T21 X t (W (i - 1)), [], H21 X, 3⟩) := by
  have hd : decide ((i : Int) ≥ 0) = true := decide_eq_true (by omega)
  have m := rmay_m X hk h8 hi hq 0 3
  cases q <;> exact code_at (hs := [(9, .val (.bool (decide ((i : Int) ≥ 0))) (.bool true)), (16, .call _)]) (ch := []) (evk 50) special ⟨congrArg Value.bool hd, m, trivial⟩ trivial (by kernel_rfl) (H21_below X (by omega)) (H21_below X (by omega)) (by kernel_rfl)
theorem st_out : CodeOk Try.prog none (lp Try.prog 21 2) (T21 X t (-1)) [] (H21 X) 3 ⟨.exit 0, TX21, [], H21 X, 3⟩ :=
  code_at (hs := []) (ch := []) (evk 50) special trivial trivial (by kernel_rfl) (H21_below X (by omega)) (H21_below X (by omega)) (by kernel_rfl)
def F21 (X : Cx) : Option Nat → Res
  | some i => ⟨.ret, TR21 i, [], H21 X, 3⟩
  | none => ⟨.exit 0, TX21, [], H21 X, 3⟩
include hk h8 in
theorem st_loop : ∀ (n : Nat), n ≤ 8 → LoopOk Try.prog none (lp Try.prog 21 2) (T21 X t ((n : Int) - 1)) [] (H21 X) 3 (F21 X (down (fun i => mayS X i t) n))
  | 0, _ => loopOk_out (st_out X t) (by show Exit.exit 0 ≠ Exit.normal; simp)
  | n + 1, hn => by
    have hw : W ((n : Int) - 1) = (n : Int) - 1 := W_id (by omega)
    have h1 := st_go X hk h8 t (i := n) (by omega) rfl
    rw [show ((n + 1 : Nat) : Int) - 1 = (n : Int) by push_cast; omega]
    simp only [down]
    cases hq : mayS X n t with
    | true => rw [hq] at h1; exact loopOk_out h1 (by show Exit.ret ≠ Exit.normal; simp)
    | false =>
      rw [hq] at h1
      simp only [cond_false, hw] at h1
      exact loop_step h1 (st_loop n (by omega))
def optM (g : Option Nat) : Int := match g with | some i => i | none => -1
include hk h8 in
theorem rstart_0 {g : Option Nat} (hg : startS X t = g) : Memo.Ok Try.prog ⟨21, 2, [X.lv, X.hv 1, .int .i64 t], X.V 1, .int .i64 (optM g), [], 2⟩ := by
  have hlo := st_loop X hk h8 t 8 (by omega)
  rw [show down (fun i => mayS X i t) 8 = g from hg] at hlo
  cases g <;> exact memo_pure (hs := [(3, .frz)]) (ch := [⟨2, none, .loop (lp Try.prog 21 2), T21 X t 7, [], H21 X, 3, _, true⟩]) 3 (evk 50) special ⟨trivial, trivial⟩ ⟨codeOk_loop hlo, trivial⟩ (by kernel_rfl) (X.smallH 2 1) (by kernel_rfl)
include hk h8 in
theorem rstart_m {g : Option Nat} (hg : startS X t = g) (b nx : Nat) : Memo.Ok Try.prog ⟨21, nx, [X.lv, X.hv (b + 1), .int .i64 t], X.V (b + 1), .int .i64 (optM g), [], nx⟩ :=
  X.mv (rstart_0 X hk h8 t hg) b nx (by kernel_rfl) rfl rfl
end
end Go.Proofs.Ytjconcfkpgkbkaa.choose
