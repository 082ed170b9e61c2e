/- ChooseWaits returns true for every line, heads, time and numbers, and its arguments read as before. No condition. -/
import Derived.Test.YtjconcfkpgkbkaaChY
namespace Go.Proofs.Ytjconcfkpgkbkaa.choose
open Go Go.En
set_option linter.unusedVariables false

theorem errC_is4 {X : Cx} {t : Int} {a b d : Bool} (h1 : lineX X = a) (h2 : headsS X.hs = b) (h3 : lateS t = d) : errC X t = bif a then (bif b then (bif d then 2 else 0) else 470) else 471 := by
  unfold errC; rw [h1, h2, h3]
def T6 (X : Cx) (t n : Int) (sc : Option Addr) (l k : Nat) (i : Int) : List Value := mkT 137 0 [(1, X.hv 11), (2, .int .i64 t), (4, pt 3), (9, .int .i64 n), (84, .slice sc l k), (85, .int .i64 l), (86, .int .i64 i)]
def TX6 (X : Cx) (n : Int) : List Value := mkT 137 0 [(1, X.hv 11), (4, pt 3), (9, .int .i64 n)]
def H6 (X : Cx) (us : List U16) : Hp := [(3, .cells X.lc false), (11, .cells (pcs X.hs) false), (0, .cells (ecs X.es) true), (1, .cells (pcs X.hs) true), (2, .cells (ucs us) true)]
theorem H6_below (X : Cx) (us : List U16) {n : Nat} (hn : 12 ≤ n) : hpBelow n (H6 X us) = true := by
  have a0 : tidyB n (.cells (ecs X.es) true) = true := small_avL (ecs_av _)
  have a1 : tidyB n (.cells (pcs X.hs) false) = true := small_avL (pcs_av _)
  have a2 : tidyB n (.cells X.lc false) = true := by simp [tidyB, Cx.lc, lc, esl, En.smallL, En.small]; omega
  have a3 : tidyB n (.cells (ucs us) true) = true := small_avL (ucs_av _)
  have a4 : tidyB n (.cells (pcs X.hs) true) = true := small_avL (pcs_av _)
  simp only [H6, hpBelow, a0, a1, a2, a3, a4]
  simp; omega
theorem ix51 {n c i : Nat} (h : i < n) : doIndexAddr Try.prog 51 (.slice (some ⟨2, 0, none⟩) n c) (.int .i64 i) = some (.pointer (some ⟨2, 0 + i * 1, none⟩)) := Sl.ix' (.inr rfl) u51 z52 h
theorem ld52 {i : Nat} {us : List U16} {x : U16} (h : us[i]? = some x) : doLoad Try.prog [(2, .cells (ucs us) true)] 52 (.pointer (some ⟨2, 0 + i * 1, none⟩)) = some (.int .u16 x.x) := ld1 z52 (cellsOfL_get (f := U16.cells) (s := 1) (fun _ => rfl) h 0 _ rfl)
section
variable {X : Cx} {t n : Int} {us : List U16} {k : Nat}
theorem wt_go (he : errC X t = 0) (hno : ∀ m, t ≤ m → m < n → m ≤ 549755813888 → startS X m = none) {i : Nat} (hi : i < us.length) :
    CodeOk Try.prog none (lp Try.prog 6 11) (T6 X t n (some ⟨2, 0, none⟩) us.length k i) [] (H6 X us) 15 ⟨.normal, T6 X t n (some ⟨2, 0, none⟩) us.length k (W (i + 1)), [], H6 X us, 15⟩ := by
  obtain ⟨_, _, t0, t1⟩ := errC_ok he
  have hd : decide ((i : Int) < us.length) = true := decide_eq_true (by omega)
  have hat : us[i]? = some us[i] := List.getElem?_eq_getElem hi
  have l1 := ld52 hat
  have hx := us[i].h
  have w1 : W us[i].x = us[i].x := W_id (by omega)
  have w2 : W (t + us[i].x) = t + us[i].x := W_id (by omega)
  generalize us[i].x = x at l1 hx w1 w2
  obtain ⟨m, hm⟩ : ∃ m, t + x = m := ⟨_, rfl⟩
  rw [hm] at w2
  rw [← hm] at w2
  have w2 : W (t + x) = m := w2.trans hm
  cases h1 : decide (m < n) with
  | false =>
    exact code_at (hs := [(87, .val (.bool (decide ((i : Int) < us.length))) (.bool true)), (88, .ix 51 (.slice (some ⟨2, 0, none⟩) us.length k) (.int .i64 i) _), (89, .ld 52 _ 2 (ucs us) true _), (92, .val (.int .i64 (W x)) (.int .i64 x)), (93, .val (.int .i64 (W (t + x))) (.int .i64 m)), (96, .val (.bool (decide (m < n))) (.bool false))]) (ch := []) (evk 50) special
      ⟨congrArg Value.bool hd, ix51 hi, ⟨l1, _, rfl⟩, congrArg (Value.int .i64) w1, congrArg (Value.int .i64) w2, congrArg Value.bool h1, trivial⟩ trivial (by kernel_rfl) (H6_below X us (by omega)) (H6_below X us (by omega)) (by kernel_rfl)
  | true =>
    cases h2 : decide (m ≤ 549755813888) with
    | false =>
      exact code_at (hs := [(87, .val (.bool (decide ((i : Int) < us.length))) (.bool true)), (88, .ix 51 (.slice (some ⟨2, 0, none⟩) us.length k) (.int .i64 i) _), (89, .ld 52 _ 2 (ucs us) true _), (92, .val (.int .i64 (W x)) (.int .i64 x)), (93, .val (.int .i64 (W (t + x))) (.int .i64 m)), (96, .val (.bool (decide (m < n))) (.bool true)), (99, .val (.bool (decide (m ≤ 549755813888))) (.bool false))]) (ch := []) (evk 50) special
        ⟨congrArg Value.bool hd, ix51 hi, ⟨l1, _, rfl⟩, congrArg (Value.int .i64) w1, congrArg (Value.int .i64) w2, congrArg Value.bool h1, congrArg Value.bool h2, trivial⟩ trivial (by kernel_rfl) (H6_below X us (by omega)) (H6_below X us (by omega)) (by kernel_rfl)
    | true =>
      have g1 := of_decide_eq_true h1
      have g2 := of_decide_eq_true h2
      have ms := StartY_m X (errC_at he (by omega) g2) (hno m (by omega) g1 g2) 10 15
      exact code_at (hs := [(87, .val (.bool (decide ((i : Int) < us.length))) (.bool true)), (88, .ix 51 (.slice (some ⟨2, 0, none⟩) us.length k) (.int .i64 i) _), (89, .ld 52 _ 2 (ucs us) true _), (92, .val (.int .i64 (W x)) (.int .i64 x)), (93, .val (.int .i64 (W (t + x))) (.int .i64 m)), (96, .val (.bool (decide (m < n))) (.bool true)), (99, .val (.bool (decide (m ≤ 549755813888))) (.bool true)), (105, .call _)]) (ch := []) (evk 50) special
        ⟨congrArg Value.bool hd, ix51 hi, ⟨l1, _, rfl⟩, congrArg (Value.int .i64) w1, congrArg (Value.int .i64) w2, congrArg Value.bool h1, congrArg Value.bool h2, ms, trivial⟩ trivial (by kernel_rfl) (H6_below X us (by omega)) (H6_below X us (by omega)) (by kernel_rfl)
theorem wt_out {sc : Option Addr} (hs : Sl 2 us.length sc) : CodeOk Try.prog none (lp Try.prog 6 11) (T6 X t n sc us.length k us.length) [] (H6 X us) 15 ⟨.exit 0, TX6 X n, [], H6 X us, 15⟩ := by
  have hd : decide ((us.length : Int) < us.length) = false := decide_eq_false (by omega)
  rcases hs with ⟨rfl, _⟩ | rfl <;>
    exact code_at (hs := [(87, .val (.bool (decide ((us.length : Int) < us.length))) (.bool false))]) (ch := []) (evk 50) special ⟨congrArg Value.bool hd, trivial⟩ trivial (by kernel_rfl) (H6_below X us (by omega)) (H6_below X us (by omega)) (by kernel_rfl)
theorem wt_loop (he : errC X t = 0) (hno : ∀ m, t ≤ m → m < n → m ≤ 549755813888 → startS X m = none) (h8 : us.length ≤ 8) : ∀ (r i : Nat), i + r = us.length →
    LoopOk Try.prog none (lp Try.prog 6 11) (T6 X t n (some ⟨2, 0, none⟩) us.length k i) [] (H6 X us) 15 ⟨.exit 0, TX6 X n, [], H6 X us, 15⟩
  | 0, i, h => by
    have : i = us.length := by omega
    subst this
    exact loopOk_out (wt_out (.inr rfl)) (by show Exit.exit 0 ≠ Exit.normal; simp)
  | r + 1, i, h => by
    have h1 := wt_go (X := X) (t := t) (n := n) (us := us) (k := k) he hno (i := i) (by omega)
    rw [show (i : Int) + 1 = ((i + 1 : Nat) : Int) by push_cast; rfl, show W ((i + 1 : Nat) : Int) = ((i + 1 : Nat) : Int) from wrap_nat (by omega)] at h1
    exact loop_step h1 (wt_loop he hno h8 r (i + 1) (by omega))
termination_by r => r
theorem wt_all (he : errC X t = 0) (hno : ∀ m, t ≤ m → m < n → m ≤ 549755813888 → startS X m = none) (h8 : us.length ≤ 8) {sc : Option Addr} (hs : Sl 2 us.length sc) :
    LoopOk Try.prog none (lp Try.prog 6 11) (T6 X t n sc us.length k 0) [] (H6 X us) 15 ⟨.exit 0, TX6 X n, [], H6 X us, 15⟩ := by
  rcases hs with ⟨rfl, h0⟩ | rfl
  · have : us = [] := List.length_eq_zero_iff.1 h0
    subst this
    exact loopOk_out (wt_out (us := []) (.inl ⟨rfl, rfl⟩)) (by show Exit.exit 0 ≠ Exit.normal; simp)
  · exact wt_loop he hno h8 us.length 0 (by omega)
end
theorem waits_Y (Y : Raw) (t : Int) (us : List U16) (sc : Option Addr) (l q : Nat) (hsc : Sl 2 l sc) (hlq : l ≤ q) (hq : q < openCap) (hus : us.length = min l 8) :
    Memo.Ok Try.prog ⟨6, 3, [Y.lv, Y.hv, .int .i64 t, .slice sc l q], VB Y us, .bool true, [], 3⟩ := by
  have hS := VB_small Y us 3
  have hsl := slc_hi (t := 51) (m := us.length) u51 (by kernel_rfl) hsc (show us.length ≤ q by omega) hq
  have emin : (if (8 : Int) < l then 8 else (l : Int)) = (us.length : Nat) := by split <;> omega
  have hsu : Sl 2 us.length sc := by
    rcases hsc with ⟨rfl, h⟩ | h
    · exact .inl ⟨rfl, by omega⟩
    · exact .inr h
  by_cases h0 : Y.m = 0
  · have mf := Y.few0 h0 4
    have hnil := Y.hs_nil h0
    obtain ⟨sa, n, c, cyc, per, sh, es, sb, m, k, hs, ha, hn, hc, hE, hb, hm, hk, hh⟩ := Y
    simp only at h0 hnil
    subst h0
    subst hnil
    have hb2 : ([] : List Pt).length ≤ 1000 := by simp
    rcases ha with ⟨rfl, rfl⟩ | rfl
    · obtain rfl : es = [] := List.length_eq_zero_iff.1 (by simpa using hE)
      have mw := WhenN c ([] : List Pt).length 0 cyc per sh t 8 12
      have ms := StartN c ([] : List Pt).length 0 cyc per sh t 8 12
      rcases hb with ⟨rfl, _⟩ | rfl <;> rcases hsc with ⟨rfl, _⟩ | rfl
      all_goals
        exact memo_pure (hs := [(22, .call _), (27, .call _), (34, .call _), (41, .call _)]) (ch := []) 12 (evk 50) special ⟨wakes_m 4, mf, mw, ms, trivial⟩ trivial (by kernel_rfl) hS (by kernel_rfl)
    · have hb1 : es.length ≤ 1000 := by omega
      cases pL : lineX ⟨es, c, cyc, per, sh, [], 0, hb1, hb2⟩
      · have he : errC ⟨es, c, cyc, per, sh, [], 0, hb1, hb2⟩ t = 471 := by unfold errC; rw [pL]; rfl
        have mw := WhenE_m ⟨es, c, cyc, per, sh, [], 0, hb1, hb2⟩ t he rfl 7 12
        have ms := StartE_m ⟨es, c, cyc, per, sh, [], 0, hb1, hb2⟩ t he rfl 7 12
        rcases hb with ⟨rfl, _⟩ | rfl <;> rcases hsc with ⟨rfl, _⟩ | rfl
        all_goals
          exact memo_pure (hs := [(22, .call _), (27, .call _), (34, .call _), (41, .call _)]) (ch := []) 12 (evk 50) special ⟨wakes_m 4, mf, mw, ms, trivial⟩ trivial (by kernel_rfl) hS (by kernel_rfl)
      · cases pH : headsS ([] : List Pt)
        · have he : errC ⟨es, c, cyc, per, sh, [], 0, hb1, hb2⟩ t = 470 := errC_is4 (d := lateS t) pL pH rfl
          have mw := WhenE_m ⟨es, c, cyc, per, sh, [], 0, hb1, hb2⟩ t he rfl 7 12
          have ms := StartE_m ⟨es, c, cyc, per, sh, [], 0, hb1, hb2⟩ t he rfl 7 12
          rcases hb with ⟨rfl, _⟩ | rfl <;> rcases hsc with ⟨rfl, _⟩ | rfl
          all_goals
            exact memo_pure (hs := [(22, .call _), (27, .call _), (34, .call _), (41, .call _)]) (ch := []) 12 (evk 50) special ⟨wakes_m 4, mf, mw, ms, trivial⟩ trivial (by kernel_rfl) hS (by kernel_rfl)
        · cases pH
  · have mf := Y.few (by omega) 4
    have hsb := Y.pos_sb (by omega)
    obtain ⟨sa, n, c, cyc, per, sh, es, sb, m, k, hs, ha, hn, hc, hE, hb, hm, hk, hh⟩ := Y
    simp only at h0 hsb
    subst hsb
    have hb2 : hs.length ≤ 1000 := by omega
    rcases ha with ⟨rfl, rfl⟩ | rfl
    · obtain rfl : es = [] := List.length_eq_zero_iff.1 (by simpa using hE)
      have mw := WhenN c (hs : List Pt).length oc7 cyc per sh t 11 12
      have ms := StartN c (hs : List Pt).length oc7 cyc per sh t 11 12
      rcases hsc with ⟨rfl, _⟩ | rfl
      all_goals
        exact memo_pure (hs := [(22, .call _), (27, .call _), (34, .call _), (41, .call _)]) (ch := []) 12 (evk 50) special ⟨wakes_m 4, mf, mw, ms, trivial⟩ trivial (by kernel_rfl) hS (by kernel_rfl)
    · have hb1 : es.length ≤ 1000 := by omega
      cases pL : lineX ⟨es, c, cyc, per, sh, hs, oc7, hb1, hb2⟩
      · have he : errC ⟨es, c, cyc, per, sh, hs, oc7, hb1, hb2⟩ t = 471 := by unfold errC; rw [pL]; rfl
        have mw := WhenE_m ⟨es, c, cyc, per, sh, hs, oc7, hb1, hb2⟩ t he rfl 10 12
        have ms := StartE_m ⟨es, c, cyc, per, sh, hs, oc7, hb1, hb2⟩ t he rfl 10 12
        rcases hsc with ⟨rfl, _⟩ | rfl
        all_goals
          exact memo_pure (hs := [(22, .call _), (27, .call _), (34, .call _), (41, .call _)]) (ch := []) 12 (evk 50) special ⟨wakes_m 4, mf, mw, ms, trivial⟩ trivial (by kernel_rfl) hS (by kernel_rfl)
      · cases pH : headsS (hs : List Pt)
        · have he : errC ⟨es, c, cyc, per, sh, hs, oc7, hb1, hb2⟩ t = 470 := errC_is4 (d := lateS t) pL pH rfl
          have mw := WhenE_m ⟨es, c, cyc, per, sh, hs, oc7, hb1, hb2⟩ t he rfl 10 12
          have ms := StartE_m ⟨es, c, cyc, per, sh, hs, oc7, hb1, hb2⟩ t he rfl 10 12
          rcases hsc with ⟨rfl, _⟩ | rfl
          all_goals
            exact memo_pure (hs := [(22, .call _), (27, .call _), (34, .call _), (41, .call _)]) (ch := []) 12 (evk 50) special ⟨wakes_m 4, mf, mw, ms, trivial⟩ trivial (by kernel_rfl) hS (by kernel_rfl)
        · cases pT : lateS t
          · have he : errC ⟨es, c, cyc, per, sh, hs, oc7, hb1, hb2⟩ t = 0 := errC_is4 pL pH pT
            obtain ⟨_, _, t0, t1⟩ := errC_ok he
            have hws := when_start he
            cases hg : whenS ⟨es, c, cyc, per, sh, hs, oc7, hb1, hb2⟩ t with
            | none =>
              rw [hg] at hws
              have mw := WhenY_m ⟨es, c, cyc, per, sh, hs, oc7, hb1, hb2⟩ he hg 10 12
              have ms := StartY_m ⟨es, c, cyc, per, sh, hs, oc7, hb1, hb2⟩ he hws 10 12
              rcases hsc with ⟨rfl, _⟩ | rfl
              all_goals
                exact memo_pure (hs := [(22, .call _), (27, .call _), (34, .call _), (41, .call _)]) (ch := []) 12 (evk 50) special ⟨wakes_m 4, mf, mw, ms, trivial⟩ trivial (by kernel_rfl) hS (by kernel_rfl)
            | some a =>
              rw [hg] at hws
              obtain ⟨hta, hno, hyes⟩ := hws
              have mw := WhenY_m ⟨es, c, cyc, per, sh, hs, oc7, hb1, hb2⟩ he hg 10 12
              have hlo := wt_all (k := q) he hno (by omega) hsu
              have d1 : decide (a < t) = false := decide_eq_false (by omega)
              have key : ∀ (g : Option Nat) (p : Bool), startS ⟨es, c, cyc, per, sh, hs, oc7, hb1, hb2⟩ t = g → (a == t) = p → g.isSome = p → Memo.Ok Try.prog ⟨6, 3, [lvS (some ⟨0, 0, none⟩) n c cyc per sh, .slice (some ⟨1, 0, none⟩) m k, .int .i64 t, .slice sc l q], [(0, ecs es), (1, pcs hs), (2, ucs us)], .bool true, [], 3⟩ := by
                intro g p hg2 hp hgp
                have ms := StartY_m ⟨es, c, cyc, per, sh, hs, oc7, hb1, hb2⟩ he hg2 10 12
                cases d2 : decide (a > 549755813888) with
                | true =>
                  rcases hsc with ⟨rfl, _⟩ | rfl
                  all_goals
                    cases g with
                    | none =>
                      subst hgp
                      exact memo_pure (hs := [(22, .call _), (27, .call _), (34, .call _), (41, .call _), (63, .val (.bool (decide (a < t))) (.bool false)), (67, .val (.bool (a == t)) (.bool _)), (83, .val (.int .i64 (if (8 : Int) < l then 8 else (l : Int))) (.int .i64 (us.length : Nat))), (84, .slc 51 _ none _ none _), (112, .val (.bool (decide (a > 549755813888))) (.bool _))]) (ch := [⟨11, none, .loop (lp Try.prog 6 11), T6 ⟨es, c, cyc, per, sh, hs, oc7, hb1, hb2⟩ t a _ us.length q 0, [], H6 ⟨es, c, cyc, per, sh, hs, oc7, hb1, hb2⟩ us, 15, _, false⟩]) 15 (evk 50) special ⟨wakes_m 4, mf, mw, ms, congrArg Value.bool d1, congrArg Value.bool hp, congrArg (Value.int .i64) emin, hsl, congrArg Value.bool d2, trivial⟩ ⟨codeOk_loop hlo, trivial⟩ (by kernel_rfl) hS (by kernel_rfl)
                    | some g =>
                      subst hgp
                      exact memo_pure (hs := [(22, .call _), (27, .call _), (34, .call _), (41, .call _), (63, .val (.bool (decide (a < t))) (.bool false)), (67, .val (.bool (a == t)) (.bool _)), (83, .val (.int .i64 (if (8 : Int) < l then 8 else (l : Int))) (.int .i64 (us.length : Nat))), (84, .slc 51 _ none _ none _), (112, .val (.bool (decide (a > 549755813888))) (.bool _))]) (ch := [⟨11, none, .loop (lp Try.prog 6 11), T6 ⟨es, c, cyc, per, sh, hs, oc7, hb1, hb2⟩ t a _ us.length q 0, [], H6 ⟨es, c, cyc, per, sh, hs, oc7, hb1, hb2⟩ us, 15, _, false⟩]) 15 (evk 50) special ⟨wakes_m 4, mf, mw, ms, congrArg Value.bool d1, congrArg Value.bool hp, congrArg (Value.int .i64) emin, hsl, congrArg Value.bool d2, trivial⟩ ⟨codeOk_loop hlo, trivial⟩ (by kernel_rfl) hS (by kernel_rfl)
                | false =>
                  have ha3 : a ≤ 549755813888 := by have := of_decide_eq_false d2; omega
                  obtain ⟨s, hs2⟩ := hyes ha3
                  have he2 := errC_at he (show 0 ≤ a by omega) ha3
                  obtain ⟨s8, hms, _⟩ := down_some hs2
                  have ms2 := StartY_m ⟨es, c, cyc, per, sh, hs, oc7, hb1, hb2⟩ he2 hs2 10 15
                  have mm := MayY_m ⟨es, c, cyc, per, sh, hs, oc7, hb1, hb2⟩ he2 s8 hms 10 15
                  rcases hsc with ⟨rfl, _⟩ | rfl
                  all_goals
                    cases g with
                    | none =>
                      subst hgp
                      exact memo_pure (hs := [(22, .call _), (27, .call _), (34, .call _), (41, .call _), (63, .val (.bool (decide (a < t))) (.bool false)), (67, .val (.bool (a == t)) (.bool _)), (83, .val (.int .i64 (if (8 : Int) < l then 8 else (l : Int))) (.int .i64 (us.length : Nat))), (84, .slc 51 _ none _ none _), (112, .val (.bool (decide (a > 549755813888))) (.bool _)), (117, .call _), (125, .call _)]) (ch := [⟨11, none, .loop (lp Try.prog 6 11), T6 ⟨es, c, cyc, per, sh, hs, oc7, hb1, hb2⟩ t a _ us.length q 0, [], H6 ⟨es, c, cyc, per, sh, hs, oc7, hb1, hb2⟩ us, 15, _, false⟩]) 15 (evk 50) special ⟨wakes_m 4, mf, mw, ms, congrArg Value.bool d1, congrArg Value.bool hp, congrArg (Value.int .i64) emin, hsl, congrArg Value.bool d2, ms2, mm, trivial⟩ ⟨codeOk_loop hlo, trivial⟩ (by kernel_rfl) hS (by kernel_rfl)
                    | some g =>
                      subst hgp
                      exact memo_pure (hs := [(22, .call _), (27, .call _), (34, .call _), (41, .call _), (63, .val (.bool (decide (a < t))) (.bool false)), (67, .val (.bool (a == t)) (.bool _)), (83, .val (.int .i64 (if (8 : Int) < l then 8 else (l : Int))) (.int .i64 (us.length : Nat))), (84, .slc 51 _ none _ none _), (112, .val (.bool (decide (a > 549755813888))) (.bool _)), (117, .call _), (125, .call _)]) (ch := [⟨11, none, .loop (lp Try.prog 6 11), T6 ⟨es, c, cyc, per, sh, hs, oc7, hb1, hb2⟩ t a _ us.length q 0, [], H6 ⟨es, c, cyc, per, sh, hs, oc7, hb1, hb2⟩ us, 15, _, false⟩]) 15 (evk 50) special ⟨wakes_m 4, mf, mw, ms, congrArg Value.bool d1, congrArg Value.bool hp, congrArg (Value.int .i64) emin, hsl, congrArg Value.bool d2, ms2, mm, trivial⟩ ⟨codeOk_loop hlo, trivial⟩ (by kernel_rfl) hS (by kernel_rfl)
              refine key _ _ rfl rfl ?_
              by_cases hat : a = t
              · obtain ⟨s, hs2⟩ := hyes (by omega)
                rw [hat] at hs2
                rw [hs2, hat]; simp
              · rw [hno t (Int.le_refl _) (by omega) t1]
                simp [hat]
          · have he : errC ⟨es, c, cyc, per, sh, hs, oc7, hb1, hb2⟩ t = 2 := errC_is4 pL pH pT
            have mw := WhenE_m ⟨es, c, cyc, per, sh, hs, oc7, hb1, hb2⟩ t he rfl 10 12
            have ms := StartE_m ⟨es, c, cyc, per, sh, hs, oc7, hb1, hb2⟩ t he rfl 10 12
            rcases hsc with ⟨rfl, _⟩ | rfl
            all_goals
              exact memo_pure (hs := [(22, .call _), (27, .call _), (34, .call _), (41, .call _)]) (ch := []) 12 (evk 50) special ⟨wakes_m 4, mf, mw, ms, trivial⟩ trivial (by kernel_rfl) hS (by kernel_rfl)
end Go.Proofs.Ytjconcfkpgkbkaa.choose
namespace Go.Proofs.Ytjconcfkpgkbkaa.chooseWaits
open Go Go.En Go.ChangeShapes Go.WideShapes Go.ChangeAt Go.RowKit
set_option linter.unusedVariables false
theorem own : ownKnob Try.prog.godebug = none := by kernel_rfl
set_option maxRecDepth 100000 in
theorem lifted (os : Os) (started : os.Started) (H : Type) (enc : TypeId × Value → H) :
    ReturnsInHanded {} Try.checked os 6 .any (Rows.chooseWaitsSpec.pre6 enc Try.prog Try.f6 Rows.chooseWaitsRow.domain false) (Rows.chooseWaitsSpec.post enc Try.prog Try.f6 false true false false) := by
  refine returnsInHanded_of_change_shaped (C := Try.checked) own started (by kernel_rfl) Try.func6
    (ChangeSpec.witness6 (enc := enc) (C := Try.checked) false ⟨#[], #[choose.lvS none 0 0 0 0 0, .slice none 0 0, .int .i64 0, .slice none 0 0], []⟩ 8 (by kernel_rfl) (by kernel_rfl) (by kernel_rfl) (by kernel_rfl)) ?_
  intro W base args ds gs before hval0 hW hcnd _ hsh _
  have hval : ∀ (j : Nat) t v, Try.f6.params[j]? = some t → args[j]? = some v → Value.okWide Try.prog W .any base t v := hval0
  have hW2 := hW
  obtain ⟨p, q, hA0, hV, rfl, hfz, hnd⟩ := hW2
  have hA : DataW.TrodAll enc Try.prog W 0 (fun _ => true) true Try.f6.params.toList args.toList ds p := hA0
  rw [Try.params6] at hA hval
  obtain ⟨v0, v1, v2, v3, d0, d1, d2, d3, p0, p1, p2, p3, rfl, rfl, rfl, h0, h1, h2, h3⟩ := trodAll_four hA
  obtain ⟨x, rfl, _, _, _⟩ := open_int Try.underlying3 (hval 2 3 v2 rfl rfl) h2
  obtain ⟨rfl, rfl⟩ := trodVars_none hV
  have hwalk := choose.calls_lhb (f := 6) (x := .int .i64 x) (choose.first_block hsh) (hval 0 26 v0 rfl rfl) h0 (hval 1 27 v1 rfl rfl) h1 (hval 3 51 v3 rfl rfl) h3 (fun φ => .int _ _) (fun Y us sc n c h1 h2 h3 h4 => choose.waits_Y Y x us sc n c h1 h2 h3 h4)
  refine hwalk.mono fun e W' ⟨he, hb⟩ => ?_
  subst he
  exact ⟨_, rfl, law_post rfl (by kernel_rfl) (by kernel_rfl) rfl Try.underlying4 hW rfl rfl rfl hb⟩
theorem over : Rows.chooseWaitsRow.holds Try.pinned (OpenSpec.ofChange Rows.chooseWaitsSpec) :=
  OpenClaim.holds_of_wide 6 Try.f6 rfl rfl rfl rfl rfl rfl rfl ⟨rfl, rfl, rfl, rfl, rfl⟩ rfl rfl rfl rfl rfl (by kernel_rfl) Try.func6 (by kernel_rfl)
    (of_decide_eq_true (by kernel_rfl)) (by unfold Func.isWrapper; first | (rw [if_pos (by decide +kernel)]; kernel_rfl) | (rw [if_neg (by decide +kernel)]; exact ⟨rfl, rfl⟩))
    (fun os started H enc _ => lifted os started H enc)
theorem proved : Rows.ChooseWaitsSaid := over
#print axioms proved
end Go.Proofs.Ytjconcfkpgkbkaa.chooseWaits
