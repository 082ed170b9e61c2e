/- Contracts: the references' Earliest, Fit, When. -/
import Derived.Test.YtjconcfkpgkbkaaChV
namespace Go.Proofs.Ytjconcfkpgkbkaa.choose
open Go Go.En
set_option linter.unusedVariables false

section
variable {es : List Ent} {c : Nat} {cyc cls : Int}
/-- A class that fits within an entry fits earlier in it. -/
theorem fit_back (hG : Good es cyc) {e b0 b long : Int} (h1 : e ≤ b0) (h2 : b0 ≤ b) (h3 : b < e + (findS es e cyc).2) (hl : 1 ≤ long) (hm : long ≤ 1099511627776) (h : openN es cls b cyc ≥ long) : openN es cls b0 cyc ≥ long := by
  have hob : opn es cyc cls b = true := by
    cases ho : opn es cyc cls b with
    | true => rfl
    | false =>
      have := openN_le hG (cls := cls) (t := b) (d := 0) (by omega) (by rw [show b + 0 = b by omega]; exact ho)
      omega
  have hsame : ∀ u, e ≤ u → u < e + (findS es e cyc).2 → mk es cyc u = mk es cyc e := fun u g1 g2 => by
    have := find_in hG (t := e) (d := u - e) (by omega) (by omega)
    rw [show e + (u - e) = u by omega] at this
    unfold mk; rw [this]
  refine openN_ge hG hm fun x g1 g2 => ?_
  by_cases hx : b0 + x < b
  · unfold opn
    rw [hsame _ (by omega) (by omega), ← hsame b (by omega) h3]
    exact hob
  · rcases open_spec hG cls b with ⟨o1, _⟩ | ⟨_, _, o3, _⟩
    · exact o1 _
    · have := o3 (b0 + x - b) (by omega) (by omega)
      rw [show b + (b0 + x - b) = b0 + x by omega] at this
      exact this
def T60 (cls long i a k : Int) : List Value := mkT 62 0 [(1, .int .i64 cls), (3, .int .i64 long), (4, pt 1), (10, .int .i64 i), (12, .int .i64 a), (13, .int .i64 k)]
def TR60 (a : Int) : List Value := mkT 62 0 [(8, .int .i64 a), (9, .bool true)]
def TX60 : List Value := mkT 62 0 []
theorem ea_go (hcls : 0 ≤ cls) (h7 : cls ≤ 7) (hG : Good es cyc) {i k : Nat} (hi : i < es.length) (hk : k < es.length) {a a' n long : Int} (hw : W (a + longAt es ((i + k) % es.length)) = a') (hn : openN es cls a' cyc = n) {q : Bool} (hq : decide (n ≥ long) = q) :
    CodeOk Try.prog none (lp Try.prog 60 6) (T60 cls long i a k) [] (H29 es c cyc) 2 (bif q then ⟨.ret, TR60 a', [], H29 es c cyc, 2⟩ else ⟨.normal, T60 cls long i a' (W (k + 1)), [], H29 es c cyc, 2⟩) := by
  have h128 := hG.n128
  have hj : (i + k) % es.length < es.length := Nat.mod_lt _ (by omega)
  have l1 := ldG (ro := true) (at_some hj)
  have hd : decide ((k : Int) < es.length) = true := decide_eq_true (by omega)
  have w1 : W ((i : Int) + k) = ((i + k : Nat) : Int) := by rw [show (i : Int) + k = ((i + k : Nat) : Int) by push_cast; rfl]; exact wrap_nat (by omega)
  have b := fun xo yo => rem_bin (P := Try.prog) (t := 3) (k := .i64) (a := ((i + k : Nat) : Int)) (b := (es.length : Int)) (by omega) xo yo
  rw [← Int.ofNat_tmod] at b
  have ms := span_m (c := c) hcls h7 hG a' hn 4
  unfold longAt at hw
  generalize es.getD ((i + k) % es.length) ⟨0, 0⟩ = x at l1 hw ⊢
  obtain ⟨m, g⟩ := x
  cases q <;> exact code_at (hs := [(38, .val (.bool (decide ((k : Int) < es.length))) (.bool true)), (46, .val (.int .i64 (W ((i : Int) + k))) (.int .i64 (i + k : Nat))), (50, .bin .rem 3 _ _ _), (51, .ix 22 (esl es.length c) (.int .i64 ((i + k) % es.length : Nat)) _), (53, .ld 3 _ 0 (ecs es) true _), (54, .val (.int .i64 (W (a + g))) (.int .i64 a')), (58, .call _), (60, .val (.bool (decide (n ≥ long))) (.bool _))]) (ch := []) (evk 50) special
      ⟨congrArg Value.bool hd, congrArg (Value.int .i64) w1, b, ix22 hj, ⟨l1, _, rfl⟩, congrArg (Value.int .i64) hw, ms, congrArg Value.bool hq, trivial⟩ trivial (by kernel_rfl) (H29_below es c cyc (by omega)) (H29_below es c cyc (by omega)) (by kernel_rfl)
theorem ea_out {i a long : Int} : CodeOk Try.prog none (lp Try.prog 60 6) (T60 cls long i a es.length) [] (H29 es c cyc) 2 ⟨.exit 0, TX60, [], H29 es c cyc, 2⟩ := by
  have hd : decide ((es.length : Int) < es.length) = false := decide_eq_false (by omega)
  exact code_at (hs := [(38, .val (.bool (decide ((es.length : Int) < es.length))) (.bool false))]) (ch := []) (evk 50) special ⟨congrArg Value.bool hd, trivial⟩ trivial (by kernel_rfl) (H29_below es c cyc (by omega)) (H29_below es c cyc (by omega)) (by kernel_rfl)
def F60 (es : List Ent) (c : Nat) (cyc : Int) : Option Int → Res
  | none => ⟨.exit 0, TX60, [], H29 es c cyc, 2⟩
  | some a => ⟨.ret, TR60 a, [], H29 es c cyc, 2⟩
theorem psum_le (hG : Good es cyc) {i : Nat} (hi : i < es.length) {k : Nat} (hk : k ≤ es.length) : 0 ≤ psum es i k ∧ psum es i k ≤ cyc := by
  have h1 := psum_mono hG (i := i) (j := 0) (k := k) (by omega)
  have h2 := psum_mono hG (i := i) hk
  rw [psum_full hG hi] at h2
  exact ⟨h1, h2⟩
theorem ea_loop (hcls : 0 ≤ cls) (h7 : cls ≤ 7) (hG : Good es cyc) {t long since : Int} (ht : -1099511627776 ≤ t ∧ t ≤ 1099511627776) (hl : 1 ≤ long) (hm : long ≤ 1099511627776) {g : Option Int} (hg : Fit es cyc cls t long g) {i : Nat} (hi : i < es.length) (hs : 0 ≤ since) (hs2 : since < longAt es i) :
    ∀ (r k : Nat) (a : Int), k + r = es.length → a = t - since + psum es i k → (∀ b, t ≤ b → b < a + longAt es ((i + k) % es.length) → openN es cls b cyc < long) → findS es (a + longAt es ((i + k) % es.length)) cyc = ((i + k + 1) % es.length, longAt es ((i + k + 1) % es.length)) → t ≤ a + longAt es ((i + k) % es.length) →
    LoopOk Try.prog none (lp Try.prog 60 6) (T60 cls long i a k) [] (H29 es c cyc) 2 (F60 es c cyc g)
  | 0, k, a, h, ha, hb, _, _ => by
    have : k = es.length := by omega
    subst this
    rw [psum_full hG hi] at ha
    rw [Nat.add_mod_right, Nat.mod_eq_of_lt hi] at hb
    have : g = none := Fit.uniq hg (Fit.none_of hG fun b g1 g2 => hb b g1 (by omega))
    subst this
    exact loopOk_out ea_out (by show Exit.exit 0 ≠ Exit.normal; simp)
  | r + 1, k, a, h, ha, hb, hf, hta => by
    have hle := hG.le
    have h128 := hG.n128
    have hli := long_ok hG hi
    have hj : (i + k) % es.length < es.length := Nat.mod_lt _ (by omega)
    have hlj := long_ok hG hj
    have hps := psum_le hG hi (show k ≤ es.length by omega)
    have e1 : W (a + longAt es ((i + k) % es.length)) = a + longAt es ((i + k) % es.length) := W_id (by omega)
    by_cases hq : openN es cls (a + longAt es ((i + k) % es.length)) cyc ≥ long
    · have : g = some (a + longAt es ((i + k) % es.length)) := Fit.uniq hg ⟨hta, hq, hb⟩
      subst this
      exact loopOk_out (ea_go hcls h7 hG hi (by omega) e1 rfl (decide_eq_true hq)) (by show Exit.ret ≠ Exit.normal; simp)
    · have h5 := ea_go (c := c) hcls h7 hG hi (show k < es.length by omega) e1 rfl (decide_eq_false hq)
      simp only [cond_false] at h5
      rw [show (k : Int) + 1 = ((k + 1 : Nat) : Int) by push_cast; rfl, show W ((k + 1 : Nat) : Int) = ((k + 1 : Nat) : Int) from wrap_nat (by omega)] at h5
      have hj2 : (i + k + 1) % es.length < es.length := Nat.mod_lt _ (by omega)
      have hlj2 := long_ok hG hj2
      have hnx := find_next hG (a + longAt es ((i + k) % es.length))
      rw [hf] at hnx
      simp only [Nat.mod_add_mod] at hnx
      refine loop_step h5 (ea_loop hcls h7 hG ht hl hm hg hi hs hs2 r (k + 1) _ (by omega) (by rw [ha]; simp only [psum]; omega) (fun b g1 g2 => ?_) hnx (by rw [show i + (k + 1) = i + k + 1 by omega]; omega))
      rw [show i + (k + 1) = i + k + 1 by omega] at g2
      by_cases hba : b < a + longAt es ((i + k) % es.length)
      · exact hb b g1 hba
      · apply Classical.byContradiction
        intro hn
        exact hq (fit_back hG (e := a + longAt es ((i + k) % es.length)) (b0 := a + longAt es ((i + k) % es.length)) (b := b) (Int.le_refl _) (by omega) (by rw [hf]; show b < a + longAt es ((i + k) % es.length) + longAt es ((i + k + 1) % es.length); omega) hl hm (by omega))
termination_by r => r
theorem earl_0 (hk : chkG es cyc = true) {t long : Int} (ha : argG cls t long = false) {g : Option Int} (hg : Fit es cyc cls t long g) : Memo.Ok Try.prog ⟨60, 1, [gv es.length c cyc, .int .i64 cls, .int .i64 t, .int .i64 long], [(0, ecs es)], .tuple #[.int .i64 (accV g), .bool g.isSome], [], 1⟩ := by
  have hS : En.smallH 1 [(0, ecs es)] = true := by simp [En.smallH, small_avL (ecs_av es)]
  have hG := good_of hk
  have hx := argG_no ha
  have hp := hG.pos
  have hle := hG.le
  have hop : 0 ≤ openN es cls t cyc := (span_open hx.1 hG t).2
  cases h0 : long == 0 with
  | true =>
    have e0 : long = 0 := by simpa using h0
    have : g = some t := Fit.uniq hg ⟨Int.le_refl _, by omega, fun b _ _ => by omega⟩
    subst this
    exact memo_pure (hs := [(4, .frz), (15, .val (.bool (long == 0)) (.bool true))]) (ch := []) 2 (evk 50) special ⟨trivial, congrArg Value.bool h0, trivial⟩ trivial (by kernel_rfl) hS (by kernel_rfl)
  | false =>
    have e0 : long ≠ 0 := by simpa using h0
    have ms := span_m (c := c) hx.1 hx.2.1 hG t rfl 2
    by_cases hq : openN es cls t cyc ≥ long
    · have : g = some t := Fit.uniq hg ⟨Int.le_refl _, hq, fun b _ _ => by omega⟩
      subst this
      have hd := decide_eq_true hq
      generalize openN es cls t cyc = n at ms hd
      exact memo_pure (hs := [(4, .frz), (15, .val (.bool (long == 0)) (.bool false)), (20, .call _), (22, .val (.bool (decide (n ≥ long))) (.bool true))]) (ch := []) 2 (evk 50) special ⟨trivial, congrArg Value.bool h0, ms, congrArg Value.bool hd, trivial⟩ trivial (by kernel_rfl) hS (by kernel_rfl)
    · obtain ⟨a1, a2, a3, a4, a5⟩ := atS_ok hG t
      have a6 := atS_le hG t
      have hd := decide_eq_false hq
      have mt := at_m (c := c) hG t 2
      have e1 : W (t - (atS es t cyc).2) = t - (atS es t cyc).2 := W_id (by omega)
      have em : ((atS es t cyc).1 + 0) % es.length = (atS es t cyc).1 := by rw [Nat.add_zero, Nat.mod_eq_of_lt a2]
      have hlo := ea_loop (c := c) hx.1 hx.2.1 hG ⟨hx.2.2.2.1, hx.2.2.2.2.1⟩ (by omega) hx.2.2.2.2.2 hg a2 a3 (by omega) es.length 0 (t - (atS es t cyc).2) (by omega) (by simp only [psum]; omega) (fun b g1 g2 => by
          rw [em] at g2
          apply Classical.byContradiction
          intro hn
          exact hq (fit_back hG (e := t) (Int.le_refl _) g1 (by omega) (by omega) hx.2.2.2.2.2 (by omega)))
        (by
          have := find_next hG t
          rw [a1, a4] at this
          rw [em, show t - (atS es t cyc).2 + longAt es (atS es t cyc).1 = t + (longAt es (atS es t cyc).1 - (atS es t cyc).2) by omega, this]) (by rw [em]; omega)
      generalize openN es cls t cyc = n at ms hd
      generalize atS es t cyc = p at mt e1 hlo
      obtain ⟨a0, e2⟩ : ∃ a0, t - p.2 = a0 := ⟨_, rfl⟩
      rw [e2] at hlo
      rw [show t - p.2 = a0 from e2] at e1
      rw [← e2] at e1
      have e1 : W (t - p.2) = a0 := e1.trans e2
      cases g <;> exact memo_pure (hs := [(4, .frz), (15, .val (.bool (long == 0)) (.bool false)), (20, .call _), (22, .val (.bool (decide (n ≥ long))) (.bool false)), (28, .call _), (33, .val (.int .i64 (W (t - p.2))) (.int .i64 a0))]) (ch := [⟨6, none, .loop (lp Try.prog 60 6), T60 cls long p.1 a0 0, [], H29 es c cyc, 2, _, true⟩]) 2 (evk 50) special ⟨trivial, congrArg Value.bool h0, ms, congrArg Value.bool hd, mt, congrArg (Value.int .i64) e1, trivial⟩ ⟨codeOk_loop hlo, trivial⟩ (by kernel_rfl) hS (by kernel_rfl)
theorem earl_m (hk : chkG es cyc = true) {t long : Int} (ha : argG cls t long = false) {g : Option Int} (hg : Fit es cyc cls t long g) (nx : Nat) : Memo.Ok Try.prog ⟨60, nx, [gv es.length c cyc, .int .i64 cls, .int .i64 t, .int .i64 long], [(0, ecs es)], .tuple #[.int .i64 (accV g), .bool g.isSome], [], nx⟩ :=
  memo_blk (earl_0 hk ha hg) (ecs_av es) 0 nx (by kernel_rfl) rfl rfl
theorem rfit_0 (hk : chkG es cyc = true) {t long : Int} (ha : argG cls t long = false) {g : Option Int} (hg : Fit es cyc cls t long g) : Memo.Ok Try.prog ⟨42, 1, [gv es.length c cyc, .int .i64 cls, .int .i64 t, .int .i64 long], [(0, ecs es)], fitV g, [], 1⟩ := by
  have hS : En.smallH 1 [(0, ecs es)] = true := by simp [En.smallH, small_avL (ecs_av es)]
  have hn := (good_of hk).n128
  have ma := times_m (c := c) (by omega) (show errG es cyc cls t long = 0 by unfold errG; rw [hk, ha]; rfl) 2
  have me := earl_m (c := c) hk ha hg 2
  cases g <;> exact memo_pure (hs := [(4, .frz), (17, .call _), (26, .call _)]) (ch := []) 2 (evk 50) special ⟨trivial, ma, me, trivial⟩ trivial (by kernel_rfl) hS (by kernel_rfl)
theorem rfit_m (hk : chkG es cyc = true) {t long : Int} (ha : argG cls t long = false) {g : Option Int} (hg : Fit es cyc cls t long g) (nx : Nat) : Memo.Ok Try.prog ⟨42, nx, [gv es.length c cyc, .int .i64 cls, .int .i64 t, .int .i64 long], [(0, ecs es)], fitV g, [], nx⟩ := by
  have h := rfit_0 (c := c) hk ha hg
  cases g <;> exact memo_blk h (ecs_av es) 0 nx (by kernel_rfl) rfl rfl
end
/-! ### When -/
def T23 (X : Cx) (t : Int) (g : Option Int) (i : Int) : List Value := mkT 66 0 [(1, X.hv 1), (2, .int .i64 t), (3, pt 2), (8, .int .i64 (accV g)), (9, .bool g.isSome), (10, .int .i64 i)]
def TX23 (g : Option Int) : List Value := mkT 66 0 [(8, .int .i64 (accV g)), (9, .bool g.isSome)]
section
variable (X : Cx) (hk : chkG X.es X.cyc = true) (h8 : X.hs.length = 8) {t : Int} (ha : ∀ i, i < 8 → fullS X i = true → argG i (W (t + X.sh)) (W ((X.at_ i).left * X.per)) = false)
include hk h8 ha in
theorem w_go {i : Nat} (hi : i < 8) {q : Option Int} (hq : whenC X i t = q) (g : Option Int) :
    CodeOk Try.prog none (lp Try.prog 23 3) (T23 X t g i) [] (H21 X) 3 ⟨.normal, T23 X t (mrg q g) (W (i + 1)), [], H21 X, 3⟩ := by
  have hlt : i < X.hs.length := by omega
  have hd : decide ((i : Int) < 8) = true := decide_eq_true (by omega)
  have l1 : doLoad Try.prog [(1, .cells (pcs X.hs) true)] 57 (.pointer (some ⟨1, 0 + i * 7, none⟩)) = some (X.at_ i).v := ld57 (b := 1) (ro := true) (pt_at hlt)
  have l2 : doLoad Try.prog [(1, .cells (pcs X.hs) true)] 3 (.pointer (some ⟨1, 0 + i * 7 + 5, none⟩)) = some (.int .i64 (X.at_ i).left) := ldL (b := 1) (ro := true) (pt_at hlt)
  subst hq
  unfold whenC
  cases h1 : fullS X i with
  | false =>
    have h1' : eqPt (X.at_ i) zp = true := by unfold fullS at h1; simpa using h1
    have m1 := none_m (X.at_ i) h1' 3
    generalize X.at_ i = x at m1 l1 l2
    obtain ⟨⟨x1, x2, x3, x4, x5⟩, x6, x7⟩ := x
    exact code_at (hs := [(14, .val (.bool (decide ((i : Int) < 8))) (.bool true)), (19, .ix 27 (X.hv 1) (.int .i64 i) _), (20, .ld 57 _ 1 (pcs X.hs) true _), (21, .call _)]) (ch := []) (evk 50) special
      ⟨congrArg Value.bool hd, ix27 hlt, ⟨l1, _, rfl⟩, m1, trivial⟩ trivial (by kernel_rfl) (H21_below X (by omega)) (H21_below X (by omega)) (by kernel_rfl)
  | true =>
    have h1' : eqPt (X.at_ i) zp = false := by unfold fullS at h1; simpa using h1
    have m1 := none_m (X.at_ i) h1' 3
    have m3 := rfit_m (c := X.c) hk (ha i hi h1) (fitO_spec X.es X.cyc i (W (t + X.sh)) (W ((X.at_ i).left * X.per))) 3
    cases h2 : freeS X i with
    | false =>
      have m2 := held_m X h8 h2 1 3
      generalize X.at_ i = x at m1 l1 l2
      obtain ⟨⟨x1, x2, x3, x4, x5⟩, x6, x7⟩ := x
      exact code_at (hs := [(14, .val (.bool (decide ((i : Int) < 8))) (.bool true)), (19, .ix 27 (X.hv 1) (.int .i64 i) _), (20, .ld 57 _ 1 (pcs X.hs) true _), (21, .call _), (25, .call _)]) (ch := []) (evk 50) special
        ⟨congrArg Value.bool hd, ix27 hlt, ⟨l1, _, rfl⟩, m1, m2, trivial⟩ trivial (by kernel_rfl) (H21_below X (by omega)) (H21_below X (by omega)) (by kernel_rfl)
    | true =>
      have m2 := held_m X h8 h2 1 3
      generalize fitO X.es X.cyc i (W (t + X.sh)) (W ((X.at_ i).left * X.per)) = f at m3 ⊢
      generalize X.at_ i = x at m1 l1 l2 m3
      obtain ⟨⟨x1, x2, x3, x4, x5⟩, x6, x7⟩ := x
      cases f with
      | none =>
        cases g <;> exact code_at (hs := [(14, .val (.bool (decide ((i : Int) < 8))) (.bool true)), (19, .ix 27 (X.hv 1) (.int .i64 i) _), (20, .ld 57 _ 1 (pcs X.hs) true _), (21, .call _), (25, .call _), (37, .ix 27 (X.hv 1) (.int .i64 i) _), (39, .ld 3 _ 1 (pcs X.hs) true _), (43, .call _)]) (ch := []) (evk 50) special
          ⟨congrArg Value.bool hd, ix27 hlt, ⟨l1, _, rfl⟩, m1, m2, ix27 hlt, ⟨l2, _, rfl⟩, m3, trivial⟩ trivial (by kernel_rfl) (H21_below X (by omega)) (H21_below X (by omega)) (by kernel_rfl)
      | some a =>
        cases g with
        | none =>
          exact code_at (hs := [(14, .val (.bool (decide ((i : Int) < 8))) (.bool true)), (19, .ix 27 (X.hv 1) (.int .i64 i) _), (20, .ld 57 _ 1 (pcs X.hs) true _), (21, .call _), (25, .call _), (37, .ix 27 (X.hv 1) (.int .i64 i) _), (39, .ld 3 _ 1 (pcs X.hs) true _), (43, .call _)]) (ch := []) (evk 50) special
            ⟨congrArg Value.bool hd, ix27 hlt, ⟨l1, _, rfl⟩, m1, m2, ix27 hlt, ⟨l2, _, rfl⟩, m3, trivial⟩ trivial (by kernel_rfl) (H21_below X (by omega)) (H21_below X (by omega)) (by kernel_rfl)
        | some b =>
          simp only [Option.map_some, Bool.and_self, cond_true, mrg]
          cases hl : decide (W (a - X.sh) < b) <;> exact code_at (hs := [(14, .val (.bool (decide ((i : Int) < 8))) (.bool true)), (19, .ix 27 (X.hv 1) (.int .i64 i) _), (20, .ld 57 _ 1 (pcs X.hs) true _), (21, .call _), (25, .call _), (37, .ix 27 (X.hv 1) (.int .i64 i) _), (39, .ld 3 _ 1 (pcs X.hs) true _), (43, .call _), (57, .val (.bool (decide (W (a - X.sh) < b))) (.bool _))]) (ch := []) (evk 50) special
            ⟨congrArg Value.bool hd, ix27 hlt, ⟨l1, _, rfl⟩, m1, m2, ix27 hlt, ⟨l2, _, rfl⟩, m3, congrArg Value.bool hl, trivial⟩ trivial (by kernel_rfl) (H21_below X (by omega)) (H21_below X (by omega)) (by kernel_rfl)
theorem w_out (g : Option Int) : CodeOk Try.prog none (lp Try.prog 23 3) (T23 X t g 8) [] (H21 X) 3 ⟨.exit 0, TX23 g, [], H21 X, 3⟩ :=
  code_at (hs := []) (ch := []) (evk 50) special trivial trivial (by kernel_rfl) (H21_below X (by omega)) (H21_below X (by omega)) (by kernel_rfl)
def foldU (f : Nat → Option Int) : Nat → Nat → Option Int → Option Int
  | 0, _, g => g
  | n + 1, i, g => foldU f n (i + 1) (mrg (f i) g)
include hk h8 ha in
theorem w_loop : ∀ (n i : Nat) (g : Option Int), i + n = 8 → LoopOk Try.prog none (lp Try.prog 23 3) (T23 X t g i) [] (H21 X) 3 ⟨.exit 0, TX23 (foldU (fun i => whenC X i t) n i g), [], H21 X, 3⟩
  | 0, i, g, h => by
    have : i = 8 := by omega
    subst this
    exact loopOk_out (w_out X g) (by show Exit.exit 0 ≠ Exit.normal; simp)
  | n + 1, i, g, h => by
    have h1 := w_go X hk h8 ha (t := t) (i := i) (by omega) rfl g
    rw [show (i : Int) + 1 = ((i + 1 : Nat) : Int) by push_cast; rfl, show W ((i + 1 : Nat) : Int) = ((i + 1 : Nat) : Int) from wrap_nat (by omega)] at h1
    exact loop_step h1 (w_loop n (i + 1) _ (by omega))
end
/-! ### The least of the times, whichever way one goes -/
def Least (f : Nat → Option Int) (p : Nat → Prop) : Option Int → Prop
  | none => ∀ i, p i → f i = none
  | some m => (∃ i, p i ∧ f i = some m) ∧ ∀ i a, p i → f i = some a → m ≤ a
theorem Least.step {f : Nat → Option Int} {p p' : Nat → Prop} {n : Nat} {g : Option Int} (h : Least f p g) (hp : ∀ i, p' i ↔ (p i ∨ i = n)) : Least f p' (mrg (f n) g) := by
  cases hf : f n with
  | none =>
    cases g with
    | none =>
      intro i hi
      rcases (hp i).1 hi with h1 | rfl
      · exact h i h1
      · exact hf
    | some m =>
      obtain ⟨⟨j, j1, j2⟩, h2⟩ := h
      refine ⟨⟨j, (hp j).2 (.inl j1), j2⟩, fun i a hi he => ?_⟩
      rcases (hp i).1 hi with h1 | rfl
      · exact h2 i a h1 he
      · rw [hf] at he; cases he
  | some b =>
    cases g with
    | none =>
      refine ⟨⟨n, (hp n).2 (.inr rfl), hf⟩, fun i a hi he => ?_⟩
      rcases (hp i).1 hi with h1 | rfl
      · rw [h i h1] at he; cases he
      · rw [hf] at he; simp only [Option.some.injEq] at he; omega
    | some m =>
      obtain ⟨⟨j, j1, j2⟩, h2⟩ := h
      simp only [mrg]
      cases hd : decide (b < m) with
      | true =>
        simp only [decide_eq_true_eq] at hd
        refine ⟨⟨n, (hp n).2 (.inr rfl), hf⟩, fun i a hi he => ?_⟩
        rcases (hp i).1 hi with h1 | rfl
        · have := h2 i a h1 he; omega
        · rw [hf] at he; simp only [Option.some.injEq] at he; omega
      | false =>
        simp only [decide_eq_false_iff_not] at hd
        refine ⟨⟨j, (hp j).2 (.inl j1), j2⟩, fun i a hi he => ?_⟩
        rcases (hp i).1 hi with h1 | rfl
        · exact h2 i a h1 he
        · rw [hf] at he; simp only [Option.some.injEq] at he; omega
theorem Least.uniq {f : Nat → Option Int} {p : Nat → Prop} {g g' : Option Int} (h : Least f p g) (h' : Least f p g') : g = g' := by
  cases g with
  | none =>
    cases g' with
    | none => rfl
    | some m => obtain ⟨⟨j, j1, j2⟩, _⟩ := h'; rw [h j j1] at j2; cases j2
  | some m =>
    obtain ⟨⟨j, j1, j2⟩, h2⟩ := h
    cases g' with
    | none => rw [h' j j1] at j2; cases j2
    | some m' =>
      obtain ⟨⟨j', j1', j2'⟩, h2'⟩ := h'
      have a1 := h2 j' m' j1' j2'
      have a2 := h2' j m j1 j2
      congr 1; omega
theorem foldW_least {f : Nat → Option Int} : ∀ (n : Nat) {g : Option Int}, n ≤ 8 → Least f (fun i => n ≤ i ∧ i < 8) g → Least f (fun i => i < 8) (foldW f n g)
  | 0, g, _, h => by simpa [foldW] using h
  | n + 1, g, hn, h => foldW_least n (by omega) (h.step (n := n) fun i => by omega)
theorem foldU_least {f : Nat → Option Int} : ∀ (n i : Nat) {g : Option Int}, i + n = 8 → Least f (fun j => j < i) g → Least f (fun i => i < 8) (foldU f n i g)
  | 0, i, g, hn, h => by
    have : i = 8 := by omega
    subst this
    exact h
  | n + 1, i, g, hn, h => foldU_least n (i + 1) (by omega) (h.step (n := i) fun j => by omega)
theorem whenS_least (X : Cx) (t : Int) : Least (fun i => whenC X i t) (fun i => i < 8) (whenS X t) :=
  foldW_least 8 (by omega) (fun i hi => by omega)
theorem fold_eq (f : Nat → Option Int) : foldU f 8 0 none = foldW f 8 none :=
  Least.uniq (foldU_least 8 0 (by omega) (fun i hi => by omega)) (foldW_least 8 (by omega) (fun i hi => by omega))
theorem rwhen_0 (X : Cx) {t : Int} (he : errC X t = 0) {g : Option Int} (hg : whenS X t = g) : Memo.Ok Try.prog ⟨23, 2, [X.lv, X.hv 1, .int .i64 t], X.V 1, .tuple #[.int .i64 (accV g), .bool g.isSome], [], 2⟩ := by
  obtain ⟨h1, h2, _, _⟩ := errC_ok he
  have hlo := w_loop X h1 h2 (fun i hi hf => (arg_ok he hi hf).1) 8 0 none (by omega)
  rw [fold_eq] at hlo
  change LoopOk _ _ _ _ _ _ _ ⟨.exit 0, TX23 (whenS X t), [], H21 X, 3⟩ at hlo
  rw [hg] at hlo
  exact memo_pure (hs := [(3, .frz)]) (ch := [⟨3, none, .loop (lp Try.prog 23 3), T23 X t none 0, [], H21 X, 3, _, true⟩]) 3 (evk 50) special ⟨trivial, trivial⟩ ⟨codeOk_loop hlo, trivial⟩ (by kernel_rfl) (X.smallH 2 1) (by kernel_rfl)
theorem rwhen_m (X : Cx) {t : Int} (he : errC X t = 0) {g : Option Int} (hg : whenS X t = g) (b nx : Nat) : Memo.Ok Try.prog ⟨23, nx, [X.lv, X.hv (b + 1), .int .i64 t], X.V (b + 1), .tuple #[.int .i64 (accV g), .bool g.isSome], [], nx⟩ :=
  X.mv (rwhen_0 X he hg) b nx (by kernel_rfl) rfl rfl
end Go.Proofs.Ytjconcfkpgkbkaa.choose
