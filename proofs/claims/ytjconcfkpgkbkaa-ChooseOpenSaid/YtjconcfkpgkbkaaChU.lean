/- Contracts: gates (layer 27): Fit; choose (layer 37): when. -/
import Derived.Test.YtjconcfkpgkbkaaChT
import Derived.Test.YtjconcfkpgkbkaaChR
namespace Go.Proofs.Ytjconcfkpgkbkaa.choose
open Go Go.En
set_option linter.unusedVariables false

def T57 (t long at_ : Int) : List Value := mkT 46 0 [(2, .int .i64 t), (3, .int .i64 long), (4, pt 1), (5, pt 2), (11, .int .i64 at_)]
def TR57 (a : Int) : List Value := mkT 46 0 [(8, .int .i64 a), (9, .int .i64 0)]
def TX57 : List Value := mkT 46 0 []
def H57 (es : List Ent) (c : Nat) (cyc cls : Int) : Hp := [(2, .cells [.int .i64 cls] true), (1, .cells (gc es.length c cyc) true), (0, .cells (ecs es) true)]
theorem H57_below (es : List Ent) (c : Nat) (cyc cls : Int) {n : Nat} (hn : 3 ≤ n) : hpBelow n (H57 es c cyc cls) = true := by
  have a0 : tidyB n (.cells (ecs es) true) = true := small_avL (ecs_av es)
  have a1 : tidyB n (.cells (gc es.length c cyc) true) = true := by simp [tidyB, gc, esl, En.smallL, En.small]; omega
  have a2 : tidyB n (.cells [.int .i64 cls] true) = true := rfl
  simp only [H57, hpBelow, a0, a1, a2, Bool.and_true]
  simp; omega
section
variable {es : List Ent} {c : Nat} {cyc cls : Int}
theorem gf_yes (hcls : 0 ≤ cls) (hG : Good es cyc) {t long a n : Int} (hk : decide (a < W (t + W (2 * cyc))) = true) (hn : openN es cls a cyc = n) (hq : decide (n ≥ long) = true) :
    CodeOk Try.prog none (lp Try.prog 57 5) (T57 t long a) [] (H57 es c cyc cls) 3 ⟨.ret, TR57 a, [], H57 es c cyc cls, 3⟩ := by
  have mo := open_m (c := c) hcls hG a hn 3
  exact code_at (hs := [(28, .val (.bool (decide (a < W (t + W (2 * cyc))))) (.bool true)), (32, .call _), (35, .val (.bool (decide (n ≥ long))) (.bool true))]) (ch := []) (evk 50) special
    ⟨congrArg Value.bool hk, mo, congrArg Value.bool hq, trivial⟩ trivial (by kernel_rfl) (H57_below es c cyc cls (by omega)) (H57_below es c cyc cls (by omega)) (by kernel_rfl)
theorem gf_no (hcls : 0 ≤ cls) (hG : Good es cyc) {t long a n m : Int} (hk : decide (a < W (t + W (2 * cyc))) = true) (hn : openN es cls a cyc = n) (hq : decide (n ≥ long) = false) (hm : strS es (hasG 67 cls) (W (a + n)) cyc = m) :
    CodeOk Try.prog none (lp Try.prog 57 5) (T57 t long a) [] (H57 es c cyc cls) 3 ⟨.normal, T57 t long (W (W (a + n) + m)), [], H57 es c cyc cls, 3⟩ := by
  have mo := open_m (c := c) hcls hG a hn 3
  have ms := stretch_m (c := c) (g := 67) (.inr rfl) hcls hG (W (a + n)) 1 3
  rw [hm] at ms
  exact code_at (hs := [(28, .val (.bool (decide (a < W (t + W (2 * cyc))))) (.bool true)), (32, .call _), (35, .val (.bool (decide (n ≥ long))) (.bool false)), (44, .call _)]) (ch := []) (evk 50) special
    ⟨congrArg Value.bool hk, mo, congrArg Value.bool hq, ms, trivial⟩ trivial (by kernel_rfl) (H57_below es c cyc cls (by omega)) (H57_below es c cyc cls (by omega)) (by kernel_rfl)
theorem gf_out {t long a : Int} (hk : decide (a < W (t + W (2 * cyc))) = false) :
    CodeOk Try.prog none (lp Try.prog 57 5) (T57 t long a) [] (H57 es c cyc cls) 3 ⟨.exit 0, TX57, [], H57 es c cyc cls, 3⟩ :=
  code_at (hs := [(28, .val (.bool (decide (a < W (t + W (2 * cyc))))) (.bool false))]) (ch := []) (evk 50) special
    ⟨congrArg Value.bool hk, trivial⟩ trivial (by kernel_rfl) (H57_below es c cyc cls (by omega)) (H57_below es c cyc cls (by omega)) (by kernel_rfl)
def F57 (es : List Ent) (c : Nat) (cyc cls : Int) : Option Int → Res
  | none => ⟨.exit 0, TX57, [], H57 es c cyc cls, 3⟩
  | some a => ⟨.ret, TR57 a, [], H57 es c cyc cls, 3⟩
theorem bit01 {cls m : Int} (h : shutS cls m = false) (hm : 0 ≤ m) (h255 : m ≤ 255) : openS cls m = true := by
  unfold shutS openS bitS andS at *
  generalize m.fdiv (2 ^ (min cls.toNat IntKind.i64.bits)) = x at *
  have key : (BitVec.ofInt IntKind.i64.bits x &&& BitVec.ofInt IntKind.i64.bits 1).toNat = 0 ∨ (BitVec.ofInt IntKind.i64.bits x &&& BitVec.ofInt IntKind.i64.bits 1).toNat = 1 := by
    rw [BitVec.toNat_and, show (BitVec.ofInt IntKind.i64.bits 1).toNat = 1 from rfl, Nat.and_one_is_mod]
    omega
  rcases key with h0 | h0
  · rw [h0] at h; exact absurd h (by decide)
  · rw [h0]; decide
theorem mk_ok (hG : Good es cyc) (u : Int) : 0 ≤ mk es cyc u ∧ mk es cyc u ≤ 255 := by
  have := hG.at (at_some (findS_ok hG u).1)
  exact ⟨this.1, this.2.1⟩
theorem shut_open {cls m : Int} (h : openS cls m = true) : shutS cls m = false := by
  unfold shutS openS at *
  simp only [beq_iff_eq] at h
  rw [h]; rfl
theorem gf_loop (hcls : 0 ≤ cls) (hG : Good es cyc) {t long : Int} (ht : -1099511627776 ≤ t ∧ t ≤ 1099511627776) (hl : long ≤ 1099511627776) {g : Option Int} (hg : Fit es cyc cls t long g) :
    ∀ (k : Nat) (a : Int), (t + 2 * cyc - a).toNat ≤ k → t ≤ a → a ≤ t + 4 * cyc → (∀ b, t ≤ b → b < a → openN es cls b cyc < long) →
    LoopOk Try.prog none (lp Try.prog 57 5) (T57 t long a) [] (H57 es c cyc cls) 3 (F57 es c cyc cls g) := by
  have hp := hG.pos
  have hle := hG.le
  have w1 : W (t + W (2 * cyc)) = t + 2 * cyc := by rw [W_id (a := 2 * cyc) (by omega), W_id (by omega)]
  intro k
  induction k with
  | zero =>
    intro a h1 h2 h3 h4
    have : g = none := Fit.uniq hg (Fit.none_of hG fun b g1 g2 => h4 b g1 (by omega))
    subst this
    exact loopOk_out (gf_out (decide_eq_false (by rw [w1]; omega))) (by show Exit.exit 0 ≠ Exit.normal; simp)
  | succ k ih =>
    intro a h1 h2 h3 h4
    by_cases hlt : a < t + 2 * cyc
    · have hk : decide (a < W (t + W (2 * cyc))) = true := decide_eq_true (by rw [w1]; omega)
      by_cases hq : openN es cls a cyc ≥ long
      · have : g = some a := Fit.uniq hg ⟨h2, hq, h4⟩
        subst this
        exact loopOk_out (gf_yes hcls hG hk rfl (decide_eq_true hq)) (by show Exit.ret ≠ Exit.normal; simp)
      · have hop := open_spec hG cls a
        rcases hop with ⟨_, h5⟩ | ⟨o1, o2, o3, o4⟩
        · omega
        · generalize hn : openN es cls a cyc = n at *
          have e1 : W (a + n) = a + n := W_id (by omega)
          have hs := str_spec hG (hasG 67 cls) (a + n)
          have hh : ∀ m, hasG 67 cls m = shutS cls m := fun m => by simp [hasG]
          simp only [hh] at hs
          have hshut : ∀ u, shutS cls (mk es cyc u) = true → opn es cyc cls u = false := fun u hu => by
            unfold opn
            cases ho : openS cls (mk es cyc u) with
            | false => rfl
            | true => rw [shut_open ho] at hu; cases hu
          have hsh0 : shutS cls (mk es cyc (a + n)) = true := by
            cases hs0 : shutS cls (mk es cyc (a + n)) with
            | true => rfl
            | false =>
              have hm := mk_ok hG (a + n)
              have := bit01 hs0 hm.1 hm.2
              unfold opn at o4; rw [this] at o4; cases o4
          generalize hm : strS es (hasG 67 cls) (a + n) cyc = m at *
          have hb : 1 ≤ m ∧ m ≤ cyc ∧ ∀ b, a ≤ b → b < a + n + m → openN es cls b cyc < long := by
            have hin : ∀ b, a ≤ b → b ≤ a + n → openN es cls b cyc < long := fun b g1 g2 => by
              have := openN_le hG (cls := cls) (t := b) (d := a + n - b) (by omega) (by rw [show b + (a + n - b) = a + n by omega]; exact o4)
              omega
            rcases hs with ⟨s1, s2⟩ | ⟨s1, s2, s3, s4⟩
            · refine ⟨by omega, by omega, fun b g1 g2 => ?_⟩
              have := openN_le hG (cls := cls) (t := b) (d := 0) (by omega) (by rw [show b + 0 = b by omega]; exact hshut b (s1 b))
              omega
            · refine ⟨?_, by omega, fun b g1 g2 => ?_⟩
              · by_cases hm0 : m = 0
                · rw [hm0, show a + n + 0 = a + n by omega, hsh0] at s4; cases s4
                · omega
              · by_cases hbn : b ≤ a + n
                · exact hin b g1 hbn
                · have h6 := s3 (b - (a + n)) (by omega) (by omega)
                  rw [show a + n + (b - (a + n)) = b by omega] at h6
                  have := openN_le hG (cls := cls) (t := b) (d := 0) (by omega) (by rw [show b + 0 = b by omega]; exact hshut b h6)
                  omega
          have hgo := gf_no (c := c) (m := m) hcls hG hk hn (decide_eq_false hq) (by rw [e1]; exact hm)
          rw [e1, W_id (a := a + n + m) (by omega)] at hgo
          refine loop_step hgo (ih (a + n + m) (by omega) (by omega) (by omega) fun b g1 g2 => ?_)
          by_cases hba : b < a
          · exact h4 b g1 hba
          · exact hb.2.2 b (by omega) g2
    · have : g = none := Fit.uniq hg (Fit.none_of hG fun b g1 g2 => h4 b g1 (by omega))
      subst this
      exact loopOk_out (gf_out (decide_eq_false (by rw [w1]; omega))) (by show Exit.exit 0 ≠ Exit.normal; simp)
def fitV : Option Int → Value
  | none => .tuple #[.int .i64 0, .int .i64 4]
  | some a => .tuple #[.int .i64 a, .int .i64 0]
theorem gfit_0 (hk : chkG es cyc = true) {t long : Int} (ha : argG cls t long = false) {g : Option Int} (hg : Fit es cyc cls t long g) : Memo.Ok Try.prog ⟨57, 1, [gv es.length c cyc, .int .i64 cls, .int .i64 t, .int .i64 long], [(0, ecs es)], fitV g, [], 1⟩ := by
  have hS : En.smallH 1 [(0, ecs es)] = true := by simp [En.smallH, small_avL (ecs_av es)]
  have hG := good_of hk
  have hn := hG.n128
  have hx := argG_no ha
  have hp := hG.pos
  have ma := gargs_m (c := c) (by omega) (show errG es cyc cls t long = 0 by unfold errG; rw [hk, ha]; rfl) 3
  have hlo := gf_loop (c := c) hx.1 hG ⟨hx.2.2.2.1, hx.2.2.2.2.1⟩ hx.2.2.2.2.2 hg _ t (Nat.le_refl _) (by omega) (by omega) (fun b _ _ => by omega)
  cases g <;> exact memo_pure (hs := [(4, .frz), (5, .frz), (17, .call _)]) (ch := [⟨5, none, .loop (lp Try.prog 57 5), T57 t long t, [], H57 es c cyc cls, 3, _, true⟩]) 3 (evk 50) special ⟨trivial, trivial, ma, trivial⟩ ⟨codeOk_loop hlo, trivial⟩ (by kernel_rfl) hS (by kernel_rfl)
theorem gfit_m (hk : chkG es cyc = true) {t long : Int} (ha : argG cls t long = false) {g : Option Int} (hg : Fit es cyc cls t long g) (nx : Nat) : Memo.Ok Try.prog ⟨57, nx, [gv es.length c cyc, .int .i64 cls, .int .i64 t, .int .i64 long], [(0, ecs es)], fitV g, [], nx⟩ := by
  have h := gfit_0 (c := c) hk ha hg
  cases g <;> exact memo_blk h (ecs_av es) 0 nx (by kernel_rfl) rfl rfl
end
noncomputable def fitO (es : List Ent) (cyc cls t long : Int) : Option Int := Classical.choose (Fit.ex es cyc cls t long)
theorem fitO_spec (es : List Ent) (cyc cls t long : Int) : Fit es cyc cls t long (fitO es cyc cls t long) := Classical.choose_spec (Fit.ex es cyc cls t long)
/-- The least time at which a class may start. -/
noncomputable def whenC (X : Cx) (i : Nat) (t : Int) : Option Int := bif fullS X i && freeS X i then (fitO X.es X.cyc i (W (t + X.sh)) (W ((X.at_ i).left * X.per))).map (fun a => W (a - X.sh)) else none
theorem when_0 (X : Cx) (hk : chkG X.es X.cyc = true) {i : Nat} (hi : i < X.hs.length) {t : Int} (ha : fullS X i = true → argG i (W (t + X.sh)) (W ((X.at_ i).left * X.per)) = false) {g : Option Int} (hg : whenC X i t = g) :
    Memo.Ok Try.prog ⟨40, 2, [X.vv 1, .int .i64 i, .int .i64 t], X.V 1, fitV g, [], 2⟩ := by
  subst hg
  unfold whenC
  cases h1 : fullS X i with
  | false =>
    have m1 := full_m X hi h1 0 3
    exact memo_pure (hs := [(3, .frz), (12, .call _)]) (ch := []) 3 (evk 50) special ⟨trivial, m1, trivial⟩ trivial (by kernel_rfl) (X.smallH 2 1) (by kernel_rfl)
  | true =>
    have m1 := full_m X hi h1 0 3
    cases h2 : freeS X i with
    | false =>
      have m2 := free_m X h2 0 3
      exact memo_pure (hs := [(3, .frz), (12, .call _), (17, .call _)]) (ch := []) 3 (evk 50) special ⟨trivial, m1, m2, trivial⟩ trivial (by kernel_rfl) (X.smallH 2 1) (by kernel_rfl)
    | true =>
      have m2 := free_m X h2 0 3
      have l1 := ldL (b := 1) (ro := true) (pt_at hi)
      have m3 := gfit_m (c := X.c) hk (ha h1) (fitO_spec X.es X.cyc i (W (t + X.sh)) (W ((X.at_ i).left * X.per))) 3
      generalize fitO X.es X.cyc i (W (t + X.sh)) (W ((X.at_ i).left * X.per)) = g at m3 ⊢
      cases g <;> exact memo_pure (hs := [(3, .frz), (12, .call _), (17, .call _), (33, .ix 27 (X.hv 1) (.int .i64 i) _), (35, .ld 3 _ 1 (pcs X.hs) true _), (40, .call _)]) (ch := []) 3 (evk 50) special ⟨trivial, m1, m2, ix27 hi, ⟨l1, _, rfl⟩, m3, trivial⟩ trivial (by kernel_rfl) (X.smallH 2 1) (by kernel_rfl)
theorem when_m (X : Cx) (hk : chkG X.es X.cyc = true) {i : Nat} (hi : i < X.hs.length) {t : Int} (ha : fullS X i = true → argG i (W (t + X.sh)) (W ((X.at_ i).left * X.per)) = false) {g : Option Int} (hg : whenC X i t = g) (b nx : Nat) :
    Memo.Ok Try.prog ⟨40, nx, [X.vv (b + 1), .int .i64 i, .int .i64 t], X.V (b + 1), fitV g, [], nx⟩ := by
  have h := when_0 X hk hi ha hg
  cases g <;> exact X.mv h b nx (by kernel_rfl) rfl rfl
end Go.Proofs.Ytjconcfkpgkbkaa.choose
