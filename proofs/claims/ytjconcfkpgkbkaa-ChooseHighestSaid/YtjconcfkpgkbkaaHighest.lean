/- ChooseHighest returns true for every line, heads and time, and its arguments read as before. No condition. -/
import Derived.Test.YtjconcfkpgkbkaaChL
namespace Go.Proofs.Ytjconcfkpgkbkaa.choose
open Go Go.En
set_option linter.unusedVariables false

theorem ldC {b i : Nat} {hs : List Pt} {x : Pt} {ro : Bool} (h : hs[i]? = some x) : doLoad Try.prog [(b, .cells (pcs hs) ro)] 3 (.pointer (some ⟨b, 0 + i * 7 + 0 + 2, none⟩)) = some (.int .i64 x.it.cls) := ld1 z3 (cellsOfL_get (f := Pt.cells) (s := 7) (fun _ => rfl) h 2 _ rfl)
def T7 (X : Cx) (t c k : Int) : List Value := mkT 108 0 [(1, X.hv 10), (2, .int .i64 t), (3, pt 2), (7, .int .i64 c), (36, .int .i64 k)]
def TX7 : List Value := mkT 108 0 []
def H7 (X : Cx) : Hp := [(2, .cells X.lc false), (10, .cells (pcs X.hs) false), (0, .cells (ecs X.es) true)]
theorem H7_below (X : Cx) {n : Nat} (hn : 11 ≤ n) : hpBelow n (H7 X) = true := by
  have a0 : tidyB n (.cells (ecs X.es) true) = true := small_avL (ecs_av _)
  have a1 : tidyB n (.cells (pcs X.hs) false) = true := small_avL (pcs_av _)
  have a2 : tidyB n (.cells X.lc false) = true := by simp [tidyB, Cx.lc, lc, esl, En.smallL, En.small]; omega
  simp only [H7, hpBelow, a0, a1, a2]
  simp; omega
def T7i (X : Cx) (t c k : Int) (p : Bool) (j : Int) : List Value := mkT 108 0 [(1, X.hv 10), (2, .int .i64 t), (3, pt 2), (7, .int .i64 c), (9, .int .i64 k), (10, .bool p), (36, .int .i64 k), (85, X.hv 10), (86, .int .i64 X.hs.length), (87, .int .i64 j)]
section
variable {X : Cx} {t : Int} {c k : Nat}
theorem hi_in {p : Bool} {j : Nat} (hj : j < X.hs.length) (hx : p = true → k < 6 → heldP (X.at_ j) k j = false) :
    CodeOk Try.prog none (lp Try.prog 7 18) (T7i X t c k p j) [] (H7 X) 13 ⟨.normal, T7i X t c k p (W (j + 1)), [], H7 X, 13⟩ := by
  have hd : decide ((j : Int) < X.hs.length) = true := decide_eq_true (by omega)
  have l1 := ld57 (b := 10) (ro := false) (pt_at hj)
  have key : ∀ x q6 qn, X.hs.getD j zp = x → decide ((k : Int) < 6) = q6 → ((j : Int) != (k : Int)) = qn → (p && q6 && x.rest && qn) = false →
      CodeOk Try.prog none (lp Try.prog 7 18) (T7i X t c k p j) [] (H7 X) 13 ⟨.normal, T7i X t c k p (W (j + 1)), [], H7 X, 13⟩ := by
    intro x q6 qn e1 e2 e3 e4
    rw [e1] at l1
    obtain ⟨⟨a, b, cl, d, e⟩, l, r⟩ := x
    simp only at e4
    cases p
    · exact code_at (hs := [(88, .val (.bool (decide ((j : Int) < X.hs.length))) (.bool true)), (90, .ix 27 (X.hv 10) (.int .i64 j) _), (91, .ld 57 _ 10 (pcs X.hs) false _)]) (ch := []) (evk 50) special
        ⟨congrArg Value.bool hd, ix27 hj, ⟨l1, _, rfl⟩, trivial⟩ trivial (by kernel_rfl) (H7_below X (by omega)) (H7_below X (by omega)) (by kernel_rfl)
    · cases q6
      · exact code_at (hs := [(88, .val (.bool (decide ((j : Int) < X.hs.length))) (.bool true)), (90, .ix 27 (X.hv 10) (.int .i64 j) _), (91, .ld 57 _ 10 (pcs X.hs) false _), (95, .val (.bool (decide ((k : Int) < 6))) (.bool false))]) (ch := []) (evk 50) special
          ⟨congrArg Value.bool hd, ix27 hj, ⟨l1, _, rfl⟩, congrArg Value.bool e2, trivial⟩ trivial (by kernel_rfl) (H7_below X (by omega)) (H7_below X (by omega)) (by kernel_rfl)
      · cases r
        · exact code_at (hs := [(88, .val (.bool (decide ((j : Int) < X.hs.length))) (.bool true)), (90, .ix 27 (X.hv 10) (.int .i64 j) _), (91, .ld 57 _ 10 (pcs X.hs) false _), (95, .val (.bool (decide ((k : Int) < 6))) (.bool true))]) (ch := []) (evk 50) special
            ⟨congrArg Value.bool hd, ix27 hj, ⟨l1, _, rfl⟩, congrArg Value.bool e2, trivial⟩ trivial (by kernel_rfl) (H7_below X (by omega)) (H7_below X (by omega)) (by kernel_rfl)
        · cases qn
          · exact code_at (hs := [(88, .val (.bool (decide ((j : Int) < X.hs.length))) (.bool true)), (90, .ix 27 (X.hv 10) (.int .i64 j) _), (91, .ld 57 _ 10 (pcs X.hs) false _), (95, .val (.bool (decide ((k : Int) < 6))) (.bool true)), (104, .val (.bool ((j : Int) != (k : Int))) (.bool false))]) (ch := []) (evk 50) special
              ⟨congrArg Value.bool hd, ix27 hj, ⟨l1, _, rfl⟩, congrArg Value.bool e2, congrArg Value.bool e3, trivial⟩ trivial (by kernel_rfl) (H7_below X (by omega)) (H7_below X (by omega)) (by kernel_rfl)
          · cases e4
  refine key _ _ _ rfl rfl rfl ?_
  cases p with
  | false => rfl
  | true =>
    by_cases h6 : k < 6
    · have := hx rfl h6
      unfold heldP at this
      rw [show decide ((k : Int) < 6) = true from decide_eq_true (by omega)]
      simp only [Bool.true_and]
      rw [Bool.and_comm]
      exact this
    · rw [show decide ((k : Int) < 6) = false from decide_eq_false (by omega)]; rfl
theorem hi_out {p : Bool} : CodeOk Try.prog none (lp Try.prog 7 18) (T7i X t c k p X.hs.length) [] (H7 X) 13 ⟨.exit 2, T7 X t c k, [], H7 X, 13⟩ := by
  have hd : decide ((X.hs.length : Int) < X.hs.length) = false := decide_eq_false (by omega)
  exact code_at (hs := [(88, .val (.bool (decide ((X.hs.length : Int) < X.hs.length))) (.bool false))]) (ch := []) (evk 50) special ⟨congrArg Value.bool hd, trivial⟩ trivial (by kernel_rfl) (H7_below X (by omega)) (H7_below X (by omega)) (by kernel_rfl)
theorem hi_loop {p : Bool} (hx : p = true → k < 6 → ∀ j, j < X.hs.length → heldP (X.at_ j) k j = false) : ∀ (n j : Nat), j + n = X.hs.length → LoopOk Try.prog none (lp Try.prog 7 18) (T7i X t c k p j) [] (H7 X) 13 ⟨.exit 2, T7 X t c k, [], H7 X, 13⟩
  | 0, j, h => by
    have : j = X.hs.length := by omega
    subst this
    exact loopOk_out hi_out (by show Exit.exit 2 ≠ Exit.normal; simp)
  | n + 1, j, h => by
    have hH := X.hH
    have h1 := hi_in (X := X) (t := t) (c := c) (k := k) (p := p) (j := j) (by omega) (fun h1 h2 => hx h1 h2 j (by omega))
    rw [show (j : Int) + 1 = ((j + 1 : Nat) : Int) by push_cast; rfl, show W ((j + 1 : Nat) : Int) = ((j + 1 : Nat) : Int) from wrap_nat (by omega)] at h1
    exact loop_step h1 (hi_loop hx n (j + 1) (by omega))
termination_by n => n
theorem ho_go (he : errC X t = 0) (hg : startS X t = some c) (hk : k < 8) : CodeOk Try.prog none (lp Try.prog 7 10) (T7 X t c k) [] (H7 X) 12 ⟨.normal, T7 X t c (W (k + 1)), [], H7 X, 12⟩ := by
  obtain ⟨_, h8, _, _⟩ := errC_ok he
  obtain ⟨hh, _⟩ := errC_heads he
  obtain ⟨c8, hc, hmax⟩ := down_some hg
  have hd : decide ((k : Int) < 8) = true := decide_eq_true (by omega)
  have hkl : k < X.hs.length := by omega
  have l1 := ld57 (b := 10) (ro := false) (pt_at hkl)
  have l2 := ldC (b := 10) (ro := false) (pt_at hkl)
  cases hp : mayS X k t with
  | false =>
    have hne : ((k : Int) == (c : Int)) = false := by
      rw [beq_eq_false_iff_ne]
      intro h
      have : k = c := by omega
      subst this
      rw [show mayS X k t = true from hc] at hp
      cases hp
    have m := MayY_m X he hk hp 9 12
    have hlo := hi_loop (X := X) (t := t) (c := c) (k := k) (p := false) (fun h => by cases h) X.hs.length 0 (by omega)
    have key : ∀ q, decide ((k : Int) > c) = q → CodeOk Try.prog none (lp Try.prog 7 10) (T7 X t c k) [] (H7 X) 12 ⟨.normal, T7 X t c (W (k + 1)), [], H7 X, 12⟩ := by
      intro q hq
      cases q <;> exact code_at (hs := [(37, .val (.bool (decide ((k : Int) < 8))) (.bool true)), (44, .call _), (52, .val (.bool ((k : Int) == (c : Int))) (.bool false)), (61, .val (.bool (decide ((k : Int) > c))) (.bool _))]) (ch := [⟨18, none, .loop (lp Try.prog 7 18), T7i X t c k false 0, [], H7 X, 13, _, true⟩]) (evk 50) special
        ⟨congrArg Value.bool hd, m, congrArg Value.bool hne, congrArg Value.bool hq, trivial⟩ ⟨codeOk_loop hlo, trivial⟩ (by kernel_rfl) (H7_below X (by omega)) (H7_below X (by omega)) (by kernel_rfl)
    exact key _ rfl
  | true =>
    have m := MayY_m X he hk hp 9 12
    have hgt : decide ((k : Int) > c) = false := by
      refine decide_eq_false fun h => ?_
      have h3 : mayS X k t = false := hmax k (by omega) hk
      rw [hp] at h3
      cases h3
    unfold mayS at hp
    simp only [Bool.and_eq_true] at hp
    obtain ⟨hfull, hfree, _⟩ := hp
    obtain ⟨hcls, _⟩ := heads_cls hh hk hfull
    have e1 : eqPt (X.hs.getD k zp) zp = false := by
      have h : (!eqPt (X.at_ k) zp) = true := hfull
      rw [Bool.not_eq_true'] at h
      exact h
    have e2 : ((X.hs.getD k zp).it.cls != (k : Int)) = false := by
      have : (X.hs.getD k zp).it.cls = k := hcls
      rw [this]; simp
    have hlo := hi_loop (X := X) (t := t) (c := c) (k := k) (p := true) (fun _ h6 j hj => by
      unfold freeS at hfree
      rw [show decide ((k : Int) ≥ 6) = false from decide_eq_false (by omega)] at hfree
      simp only [Bool.false_or, Bool.not_eq_true'] at hfree
      exact heldGo_no hfree j (by omega) (by omega)) X.hs.length 0 (by omega)
    have key : ∀ q x, ((k : Int) == (c : Int)) = q → X.hs.getD k zp = x → CodeOk Try.prog none (lp Try.prog 7 10) (T7 X t c k) [] (H7 X) 12 ⟨.normal, T7 X t c (W (k + 1)), [], H7 X, 12⟩ := by
      intro q x hq hx
      rw [hx] at l1 l2 e1 e2
      have b1 := fun xo yo => e1 ▸ (eql_pt x zp xo yo).1
      obtain ⟨⟨a, b, cl, d, e⟩, l, r⟩ := x
      cases q <;> exact code_at (hs := [(37, .val (.bool (decide ((k : Int) < 8))) (.bool true)), (44, .call _), (52, .val (.bool ((k : Int) == (c : Int))) (.bool _)), (61, .val (.bool (decide ((k : Int) > c))) (.bool _)), (70, .ix 27 (X.hv 10) (.int .i64 k) _), (71, .ld 57 _ 10 (pcs X.hs) false _), (73, .bin .eql 57 _ _ _), (77, .ix 27 (X.hv 10) (.int .i64 k) _), (80, .ld 3 _ 10 (pcs X.hs) false _), (82, .val (.bool (cl != (k : Int))) (.bool false))]) (ch := [⟨18, none, .loop (lp Try.prog 7 18), T7i X t c k true 0, [], H7 X, 13, _, true⟩]) (evk 50) special
        ⟨congrArg Value.bool hd, m, congrArg Value.bool hq, congrArg Value.bool hgt, ix27 hkl, ⟨l1, _, rfl⟩, b1, ix27 hkl, ⟨l2, _, rfl⟩, congrArg Value.bool e2, trivial⟩ ⟨codeOk_loop hlo, trivial⟩ (by kernel_rfl) (H7_below X (by omega)) (H7_below X (by omega)) (by kernel_rfl)
    exact key _ _ rfl rfl
theorem ho_out : CodeOk Try.prog none (lp Try.prog 7 10) (T7 X t c 8) [] (H7 X) 12 ⟨.exit 0, TX7, [], H7 X, 12⟩ :=
  code_at (hs := []) (ch := []) (evk 50) special trivial trivial (by kernel_rfl) (H7_below X (by omega)) (H7_below X (by omega)) (by kernel_rfl)
theorem ho_loop (he : errC X t = 0) (hg : startS X t = some c) : ∀ (n k : Nat), k + n = 8 → LoopOk Try.prog none (lp Try.prog 7 10) (T7 X t c k) [] (H7 X) 12 ⟨.exit 0, TX7, [], H7 X, 12⟩
  | 0, k, h => by
    have : k = 8 := by omega
    subst this
    exact loopOk_out ho_out (by show Exit.exit 0 ≠ Exit.normal; simp)
  | n + 1, k, h => by
    have h1 := ho_go he hg (k := k) (by omega)
    rw [show (k : Int) + 1 = ((k + 1 : Nat) : Int) by push_cast; rfl, show W ((k + 1 : Nat) : Int) = ((k + 1 : Nat) : Int) from wrap_nat (by omega)] at h1
    exact loop_step h1 (ho_loop he hg n (k + 1) (by omega))
termination_by n => n
end
theorem highest_Y (Y : Raw) (t : Int) : Memo.Ok Try.prog ⟨7, 2, [Y.lv, Y.hv, .int .i64 t], Y.V, .bool true, [], 2⟩ := by
  have hS := Y.smallH 2
  by_cases h0 : Y.m = 0
  · have mf := Y.few0 h0 3
    have hnil := Y.hs_nil h0
    obtain ⟨sa, n, c, cyc, per, sh, es, sb, m, k, hs, ha, hn, hc, hE, hb, hm, hk, hh⟩ := Y
    simp only at h0 hnil
    subst h0
    subst hnil
    rcases ha with ⟨rfl, rfl⟩ | rfl
    · obtain rfl : es = [] := List.length_eq_zero_iff.1 (by simpa using hE)
      have ms := StartN c 0 0 cyc per sh t 7 11
      rcases hb with ⟨rfl, _⟩ | rfl <;>
        exact memo_pure (hs := [(14, .call _), (19, .call _), (26, .call _)]) (ch := []) 11 (evk 50) special ⟨wakes_m 3, mf, ms, trivial⟩ trivial (by kernel_rfl) hS (by kernel_rfl)
    · have hne := errC_none (X := ⟨es, c, cyc, per, sh, [], 0, by omega, by simp⟩) rfl t
      have ms := StartE_m ⟨es, c, cyc, per, sh, [], 0, by omega, by simp⟩ t rfl hne 6 11
      generalize errC ⟨es, c, cyc, per, sh, [], 0, by omega, by simp⟩ t = e at hne ms
      rcases hb with ⟨rfl, _⟩ | rfl <;>
        exact memo_pure (hs := [(14, .call _), (19, .call _), (26, .call _), (30, .val (.bool (e != 0)) (.bool true))]) (ch := []) 11 (evk 50) special ⟨wakes_m 3, mf, ms, congrArg Value.bool hne, trivial⟩ trivial (by kernel_rfl) hS (by kernel_rfl)
  · have mf := Y.few (by omega) 3
    have hsb := Y.pos_sb (by omega)
    obtain ⟨sa, n, c, cyc, per, sh, es, sb, m, k, hs, ha, hn, hc, hE, hb, hm, hk, hh⟩ := Y
    simp only at h0 hsb
    subst hsb
    rcases ha with ⟨rfl, rfl⟩ | rfl
    · obtain rfl : es = [] := List.length_eq_zero_iff.1 (by simpa using hE)
      have ms := StartN c hs.length oc7 cyc per sh t 10 11
      exact memo_pure (hs := [(14, .call _), (19, .call _), (26, .call _)]) (ch := []) 11 (evk 50) special ⟨wakes_m 3, mf, ms, trivial⟩ trivial (by kernel_rfl) hS (by kernel_rfl)
    · have hb1 : es.length ≤ 1000 := by omega
      have hb2 : hs.length ≤ 1000 := by omega
      cases he0 : (errC ⟨es, c, cyc, per, sh, hs, oc7, hb1, hb2⟩ t != 0) with
      | true =>
        have ms := StartE_m ⟨es, c, cyc, per, sh, hs, oc7, hb1, hb2⟩ t rfl he0 9 11
        generalize errC ⟨es, c, cyc, per, sh, hs, oc7, hb1, hb2⟩ t = e at he0 ms
        exact memo_pure (hs := [(14, .call _), (19, .call _), (26, .call _), (30, .val (.bool (e != 0)) (.bool true))]) (ch := []) 11 (evk 50) special ⟨wakes_m 3, mf, ms, congrArg Value.bool he0, trivial⟩ trivial (by kernel_rfl) hS (by kernel_rfl)
      | false =>
        have he : errC ⟨es, c, cyc, per, sh, hs, oc7, hb1, hb2⟩ t = 0 := by simpa using he0
        obtain ⟨_, h8, _, _⟩ := errC_ok he
        simp only at h8
        cases hg : startS ⟨es, c, cyc, per, sh, hs, oc7, hb1, hb2⟩ t with
        | none =>
          have ms := StartY_m _ he hg 9 11
          exact memo_pure (hs := [(14, .call _), (19, .call _), (26, .call _)]) (ch := []) 11 (evk 50) special ⟨wakes_m 3, mf, ms, trivial⟩ trivial (by kernel_rfl) hS (by kernel_rfl)
        | some g =>
          have ms := StartY_m _ he hg 9 11
          have hlo := ho_loop he hg 8 0 (by omega)
          have hd : decide ((hs.length : Int) < 8) = false := decide_eq_false (by omega)
          exact memo_pure (hs := [(14, .call _), (19, .call _), (26, .call _), (35, .val (.bool (decide ((hs.length : Int) < 8))) (.bool false))]) (ch := [⟨10, none, .loop (lp Try.prog 7 10), T7 ⟨es, c, cyc, per, sh, hs, oc7, hb1, hb2⟩ t g 0, [], H7 ⟨es, c, cyc, per, sh, hs, oc7, hb1, hb2⟩, 12, _, false⟩]) 12 (evk 50) special ⟨wakes_m 3, mf, ms, congrArg Value.bool hd, trivial⟩ ⟨codeOk_loop hlo, trivial⟩ (by kernel_rfl) hS (by kernel_rfl)
end Go.Proofs.Ytjconcfkpgkbkaa.choose
namespace Go.Proofs.Ytjconcfkpgkbkaa.chooseHighest
open Go Go.En Go.ChangeShapes Go.WideShapes Go.ChangeAt Go.RowKit
set_option linter.unusedVariables false
theorem own : ownKnob Try.prog.godebug = none := by kernel_rfl
set_option maxRecDepth 100000 in
theorem lifted (os : Os) (started : os.Started) (H : Type) (enc : TypeId × Value → H) :
    ReturnsInHanded {} Try.checked os 7 .any (Rows.chooseHighestSpec.pre6 enc Try.prog Try.f7 Rows.chooseHighestRow.domain false) (Rows.chooseHighestSpec.post enc Try.prog Try.f7 false true false false) := by
  refine returnsInHanded_of_change_shaped (C := Try.checked) own started (by kernel_rfl) Try.func7
    (ChangeSpec.witness6 (enc := enc) (C := Try.checked) false ⟨#[], #[choose.lvS none 0 0 0 0 0, .slice none 0 0, .int .i64 0], []⟩ 8 (by kernel_rfl) (by kernel_rfl) (by kernel_rfl) (by kernel_rfl)) ?_
  intro W base args ds gs before hval0 hW hcnd _ hsh _
  have hval : ∀ (j : Nat) t v, Try.f7.params[j]? = some t → args[j]? = some v → Value.okWide Try.prog W .any base t v := hval0
  have hW2 := hW
  obtain ⟨p, q, hA0, hV, rfl, hfz, hnd⟩ := hW2
  have hA : DataW.TrodAll enc Try.prog W 0 (fun _ => true) true Try.f7.params.toList args.toList ds p := hA0
  rw [Try.params7] at hA hval
  obtain ⟨v0, v1, v2, d0, d1, d2, p0, p1, p2, rfl, rfl, rfl, h0, h1, h2⟩ := trodAll_three hA
  obtain ⟨x, rfl, _, _, _⟩ := open_int Try.underlying3 (hval 2 3 v2 rfl rfl) h2
  obtain ⟨rfl, rfl⟩ := trodVars_none hV
  have hwalk := choose.calls_lh (f := 7) (rest := [.int .i64 x]) (choose.first_block hsh) (hval 0 26 v0 rfl rfl) h0 (hval 1 27 v1 rfl rfl) h1 (fun φ => ⟨.int _ _, trivial⟩) (fun Y => choose.highest_Y Y x)
  refine hwalk.mono fun e W' ⟨he, hb⟩ => ?_
  subst he
  exact ⟨_, rfl, law_post rfl (by kernel_rfl) (by kernel_rfl) rfl Try.underlying4 hW rfl rfl rfl hb⟩
theorem over : Rows.chooseHighestRow.holds Try.pinned (OpenSpec.ofChange Rows.chooseHighestSpec) :=
  OpenClaim.holds_of_wide 7 Try.f7 rfl rfl rfl rfl rfl rfl rfl ⟨rfl, rfl, rfl, rfl, rfl⟩ rfl rfl rfl rfl rfl (by kernel_rfl) Try.func7 (by kernel_rfl)
    (of_decide_eq_true (by kernel_rfl)) (by unfold Func.isWrapper; first | (rw [if_pos (by decide +kernel)]; kernel_rfl) | (rw [if_neg (by decide +kernel)]; exact ⟨rfl, rfl⟩))
    (fun os started H enc _ => lifted os started H enc)
theorem proved : Rows.ChooseHighestSaid := over
#print axioms proved
end Go.Proofs.Ytjconcfkpgkbkaa.chooseHighest
