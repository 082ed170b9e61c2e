/- ChooseOpen returns true for every period, heads and time, and its arguments read as before. No condition. -/
import Derived.Test.YtjconcfkpgkbkaaChZ
namespace Go.Proofs.Ytjconcfkpgkbkaa.choose
open Go Go.En
set_option linter.unusedVariables false

abbrev uW (a : Int) : Int := IntKind.u64.wrap a
def perE (a : Int) : Int := W (1 + W (Int.tmod (uW a) 1000))
def timE (a : Int) : Int := W (Int.tmod (uW a) 549755813889)
theorem uW_nn (a : Int) : 0 ≤ uW a := by
  simp only [uW, IntKind.wrap, IntKind.signed, IntKind.bits]
  simp
  omega
theorem perE_ok (a : Int) : 1 ≤ perE a ∧ perE a ≤ 1000 := by
  have h1 := Int.tmod_nonneg 1000 (uW_nn a)
  have h2 := Int.tmod_lt_of_pos (uW a) (show (0 : Int) < 1000 by omega)
  unfold perE
  rw [W_id (a := Int.tmod (uW a) 1000) (by omega), W_id (by omega)]
  omega
theorem timE_ok (a : Int) : 0 ≤ timE a ∧ timE a ≤ 549755813888 := by
  have h1 := Int.tmod_nonneg 549755813889 (uW_nn a)
  have h2 := Int.tmod_lt_of_pos (uW a) (show (0 : Int) < 549755813889 by omega)
  unfold timE
  rw [W_id (by omega)]
  omega
def T9 (X : Cx) (t c e b r k : Int) : List Value := mkT 114 0 [(1, X.hv 10), (2, .int .i64 t), (7, pt 2), (11, .int .i64 c), (12, .int .i64 e), (13, .int .i64 b), (14, .int .i64 r), (65, X.hv 10), (66, .int .i64 X.hs.length), (67, .int .i64 k)]
def TX9 (X : Cx) (t c e b r : Int) : List Value := mkT 114 0 [(1, X.hv 10), (2, .int .i64 t), (7, pt 2), (11, .int .i64 c), (12, .int .i64 e), (13, .int .i64 b), (14, .int .i64 r)]
def H9 (X : Cx) : Hp := [(2, .cells X.lcS false), (10, .cells (pcs X.hs) false), (1, .cells (ecs X.es) false)]
theorem H9_below (X : Cx) {n : Nat} (hn : 11 ≤ n) : hpBelow n (H9 X) = true := by
  have a0 : tidyB n (.cells (ecs X.es) false) = true := small_avL (ecs_av _)
  have a1 : tidyB n (.cells (pcs X.hs) false) = true := small_avL (pcs_av _)
  have a2 : tidyB n (.cells X.lcS false) = true := by simp [tidyB, Cx.lcS, En.smallL, En.small]; omega
  simp only [H9, hpBelow, a0, a1, a2]
  simp; omega
section
variable {X : Cx} {t c e : Int}
theorem o_go {j : Nat} (hj : j < X.hs.length) (b r : Int) {q1 q2 : Bool} (h1 : fullS X j = q1) (h2 : restS X j = q2) :
    CodeOk Try.prog none (lp Try.prog 9 13) (T9 X t c e b r j) [] (H9 X) 12 ⟨.normal, T9 X t c e (bif q1 then j else b) (bif q2 then j else r) (W (j + 1)), [], H9 X, 12⟩ := by
  have hd : decide ((j : Int) < X.hs.length) = true := decide_eq_true (by omega)
  have l1 : doLoad Try.prog [(10, .cells (pcs X.hs) false)] 57 (.pointer (some ⟨10, 0 + j * 7, none⟩)) = some (X.at_ j).v := ld57 (b := 10) (ro := false) (pt_at hj)
  unfold fullS at h1
  unfold restS at h2
  have b1 := fun xo yo => h1 ▸ (eql_pt (X.at_ j) zp xo yo).2
  generalize X.at_ j = x at l1 h2 b1
  obtain ⟨⟨x1, x2, x3, x4, x5⟩, x6, x7⟩ := x
  simp only at h2
  subst h2
  cases q1 <;> cases x7 <;> exact code_at (hs := [(68, .val (.bool (decide ((j : Int) < X.hs.length))) (.bool true)), (70, .ix 27 (X.hv 10) (.int .i64 j) _), (71, .ld 57 _ 10 (pcs X.hs) false _), (74, .bin .neq 57 _ _ _)]) (ch := []) (evk 50) special
    ⟨congrArg Value.bool hd, ix27 hj, ⟨l1, _, rfl⟩, b1, trivial⟩ trivial (by kernel_rfl) (H9_below X (by omega)) (H9_below X (by omega)) (by kernel_rfl)
theorem o_out (b r : Int) : CodeOk Try.prog none (lp Try.prog 9 13) (T9 X t c e b r X.hs.length) [] (H9 X) 12 ⟨.exit 0, TX9 X t c e b r, [], H9 X, 12⟩ := by
  have hd : decide ((X.hs.length : Int) < X.hs.length) = false := decide_eq_false (by omega)
  exact code_at (hs := [(68, .val (.bool (decide ((X.hs.length : Int) < X.hs.length))) (.bool false))]) (ch := []) (evk 50) special ⟨congrArg Value.bool hd, trivial⟩ trivial (by kernel_rfl) (H9_below X (by omega)) (H9_below X (by omega)) (by kernel_rfl)
theorem o_loop (h8 : X.hs.length = 8) : ∀ (n j : Nat), j + n = 8 → LoopOk Try.prog none (lp Try.prog 9 13) (T9 X t c e (optM (down (fullS X) j)) (optM (down (restS X) j)) j) [] (H9 X) 12 ⟨.exit 0, TX9 X t c e (optM (bestS X)) (optM (rstS X)), [], H9 X, 12⟩
  | 0, j, h => by
    have : j = 8 := by omega
    subst this
    have ho := o_out (X := X) (t := t) (c := c) (e := e) (optM (bestS X)) (optM (rstS X))
    rw [h8] at ho
    exact loopOk_out ho (by show Exit.exit 0 ≠ Exit.normal; simp)
  | n + 1, j, h => by
    have h1 := o_go (X := X) (t := t) (c := c) (e := e) (j := j) (by omega) (optM (down (fullS X) j)) (optM (down (restS X) j)) rfl rfl
    rw [show (j : Int) + 1 = ((j + 1 : Nat) : Int) by push_cast; rfl, show W ((j + 1 : Nat) : Int) = ((j + 1 : Nat) : Int) from wrap_nat (by omega)] at h1
    have e1 : ∀ f : Nat → Bool, (bif f j then (j : Int) else optM (down f j)) = optM (down f (j + 1)) := fun f => by
      simp only [down]
      cases f j <;> rfl
    rw [e1, e1] at h1
    exact loop_step h1 (o_loop h8 n (j + 1) (by omega))
termination_by n => n
end
theorem err_bad {per t : Int} {hs : List Pt} {k : Nat} {hH : hs.length ≤ 1000} (hp : 1 ≤ per ∧ per ≤ 1000) {p : Bool} (hh : headsS hs = p) (ht : 0 ≤ t ∧ t ≤ 549755813888) : errC (XO per hs k hH) t = bif p then 0 else 470 := by
  unfold errC lineX lineS lateS
  rw [show chkG (XO per hs k hH).es (XO per hs k hH).cyc = true from chk1, show headsS (XO per hs k hH).hs = p from hh]
  rw [decide_eq_false (show ¬ (XO per hs k hH).per < 1 by show ¬ per < 1; omega), decide_eq_false (show ¬ (XO per hs k hH).per > 1000 by show ¬ per > 1000; omega), decide_eq_false (show ¬ t < 0 by omega), decide_eq_false (show ¬ t > 549755813888 by omega)]
  cases p <;> rfl
theorem open_Y (per t : Int) (hs : List Pt) (sb : Option Addr) (m k : Nat) (hsb : Sl 0 m sb) (hmk : m ≤ k) (hk : k < openCap) (hh : hs.length = min m 12) :
    Memo.Ok Try.prog ⟨9, 1, [.int .i64 per, .slice sb m k, .int .i64 t], [(0, pcs hs)], .bool true, [], 1⟩ := by
  have hS : En.smallH 1 [(0, pcs hs)] = true := by simp [En.smallH, small_avL (pcs_av hs)]
  have hp := perE_ok per
  have ht := timE_ok t
  obtain ⟨p, ep⟩ : ∃ p, perE per = p := ⟨_, rfl⟩
  obtain ⟨u, eu⟩ : ∃ u, timE t = u := ⟨_, rfl⟩
  rw [ep] at hp
  rw [eu] at ht
  unfold perE at ep
  unfold timE at eu
  have hb2 : hs.length ≤ 1000 := by omega
  by_cases h0 : m = 0
  · subst h0
    obtain rfl : hs = [] := List.length_eq_zero_iff.1 (by simpa using hh)
    have hb3 : ([] : List Pt).length ≤ 1000 := by simp
    have he : errC (XO p [] 0 hb3) u = 470 := err_bad hp (show headsS [] = false from rfl) ht
    have mh := heads_m (hs := []) (c := 0) (by simp) (show headsS [] = false from rfl) 7 11
    have ms := StartE_s (XO p [] 0 hb3) u he rfl 7 11 (by omega)
    rcases hsb with ⟨rfl, _⟩ | rfl
    · have mf := few_s0 (per := p) (k := k) (sb := none) (.inl ⟨rfl, rfl⟩) (sb' := none) (.inl ⟨rfl, rfl⟩) rfl hk
      exact memo_pure (hs := [(19, .call _), (28, .val (.int .i64 (W (1 + W (Int.tmod (uW per) 1000)))) (.int .i64 p)), (33, .call _), (39, .val (.int .i64 (W (Int.tmod (uW t) 549755813889))) (.int .i64 u)), (41, .call _), (48, .call _)]) (ch := []) 11 (evk 50) special ⟨wakes_m 1, congrArg (Value.int .i64) ep, mf, congrArg (Value.int .i64) eu, mh, ms, trivial⟩ trivial (by kernel_rfl) hS (by kernel_rfl)
    · have mf := few_s0 (per := p) (k := k) (sb := some ⟨1, 0, none⟩) (.inr rfl) (sb' := some ⟨0, 0, none⟩) (.inr rfl) rfl hk
      exact memo_pure (hs := [(19, .call _), (28, .val (.int .i64 (W (1 + W (Int.tmod (uW per) 1000)))) (.int .i64 p)), (33, .call _), (39, .val (.int .i64 (W (Int.tmod (uW t) 549755813889))) (.int .i64 u)), (41, .call _), (48, .call _)]) (ch := []) 11 (evk 50) special ⟨wakes_m 1, congrArg (Value.int .i64) ep, mf, congrArg (Value.int .i64) eu, mh, ms, trivial⟩ trivial (by kernel_rfl) hS (by kernel_rfl)
  · have hsome : sb = some ⟨0, 0, none⟩ := by
      rcases hsb with ⟨_, h⟩ | h
      · omega
      · exact h
    subst hsome
    have mf := few_s (per := p) hmk hk hh (by omega)
    cases hH : headsS hs with
    | false =>
      have he : errC (XO p hs oc7 hb2) u = 470 := err_bad hp hH ht
      have mh := heads_m (c := oc7) hb2 hH 10 11
      have ms := StartE_s (XO p hs oc7 hb2) u he rfl 10 11 (by omega)
      exact memo_pure (hs := [(19, .call _), (28, .val (.int .i64 (W (1 + W (Int.tmod (uW per) 1000)))) (.int .i64 p)), (33, .call _), (39, .val (.int .i64 (W (Int.tmod (uW t) 549755813889))) (.int .i64 u)), (41, .call _), (48, .call _)]) (ch := []) 11 (evk 50) special ⟨wakes_m 1, congrArg (Value.int .i64) ep, mf, congrArg (Value.int .i64) eu, mh, ms, trivial⟩ trivial (by kernel_rfl) hS (by kernel_rfl)
    | true =>
      have he : errC (XO p hs oc7 hb2) u = 0 := err_bad hp hH ht
      obtain ⟨_, h8, _, _⟩ := errC_ok he
      have mh := heads_m (c := oc7) hb2 hH 10 11
      have hst := start1 he
      have hlo := fun c e => o_loop (X := XO p hs oc7 hb2) (t := u) (c := c) (e := e) h8 8 0 (by omega)
      have d5 : (u == u) = true := beq_self_eq_true _
      cases hb : bestS (XO p hs oc7 hb2) with
      | none =>
        rw [hb] at hst hlo
        have ms := StartY_s (XO p hs oc7 hb2) he hst 10 11 (by omega)
        have hlo := hlo 0 4
        generalize optM (rstS (XO p hs oc7 hb2)) = r at hlo
        exact memo_pure (hs := [(19, .call _), (28, .val (.int .i64 (W (1 + W (Int.tmod (uW per) 1000)))) (.int .i64 p)), (33, .call _), (39, .val (.int .i64 (W (Int.tmod (uW t) 549755813889))) (.int .i64 u)), (41, .call _), (62, .call _)]) (ch := [⟨13, none, .loop (lp Try.prog 9 13), T9 (XO p hs oc7 hb2) u 0 4 (-1) (-1) 0, [], H9 (XO p hs oc7 hb2), 12, _, false⟩]) 12 (evk 50) special ⟨wakes_m 1, congrArg (Value.int .i64) ep, mf, congrArg (Value.int .i64) eu, mh, ms, trivial⟩ ⟨codeOk_loop hlo, trivial⟩ (by kernel_rfl) hS (by kernel_rfl)
      | some b =>
        rw [hb] at hst hlo
        have d1 : decide ((b : Int) < 0) = false := decide_eq_false (by omega)
        have d4 : ∀ s : Nat, ((s : Int) == (s : Int)) = true := fun s => beq_self_eq_true _
        cases hr : rstS (XO p hs oc7 hb2) with
        | none =>
          rw [hr] at hst hlo
          have hst : startS (XO p hs oc7 hb2) u = some b := hst
          have ms := StartY_s (XO p hs oc7 hb2) he hst 10 11 (by omega)
          have mw := WhenY_s (XO p hs oc7 hb2) he (when1 he hst) 10 12 (by omega)
          have hlo := hlo b 0
          cases d2 : decide ((b : Int) < 6) <;> exact memo_pure (hs := [(19, .call _), (28, .val (.int .i64 (W (1 + W (Int.tmod (uW per) 1000)))) (.int .i64 p)), (33, .call _), (39, .val (.int .i64 (W (Int.tmod (uW t) 549755813889))) (.int .i64 u)), (41, .call _), (62, .call _), (81, .val (.bool (decide ((b : Int) < 0))) (.bool false)), (85, .val (.bool (decide ((b : Int) < 6))) (.bool _)), (95, .call _), (103, .val (.bool ((b : Int) == (b : Int))) (.bool true)), (112, .val (.bool (u == u)) (.bool true))]) (ch := [⟨13, none, .loop (lp Try.prog 9 13), T9 (XO p hs oc7 hb2) u b 0 (-1) (-1) 0, [], H9 (XO p hs oc7 hb2), 12, _, false⟩]) 12 (evk 50) special ⟨wakes_m 1, congrArg (Value.int .i64) ep, mf, congrArg (Value.int .i64) eu, mh, ms, congrArg Value.bool d1, congrArg Value.bool d2, mw, congrArg Value.bool (d4 b), congrArg Value.bool d5, trivial⟩ ⟨codeOk_loop hlo, trivial⟩ (by kernel_rfl) hS (by kernel_rfl)
        | some r =>
          rw [hr] at hst hlo
          have d3 : decide ((r : Int) ≥ 0) = true := decide_eq_true (by omega)
          cases d2 : decide ((b : Int) < 6) with
          | false =>
            have hst : startS (XO p hs oc7 hb2) u = some b := by rw [hst]; simp only [wantS, d2]; rfl
            have ms := StartY_s (XO p hs oc7 hb2) he hst 10 11 (by omega)
            have mw := WhenY_s (XO p hs oc7 hb2) he (when1 he hst) 10 12 (by omega)
            have hlo := hlo b 0
            exact memo_pure (hs := [(19, .call _), (28, .val (.int .i64 (W (1 + W (Int.tmod (uW per) 1000)))) (.int .i64 p)), (33, .call _), (39, .val (.int .i64 (W (Int.tmod (uW t) 549755813889))) (.int .i64 u)), (41, .call _), (62, .call _), (81, .val (.bool (decide ((b : Int) < 0))) (.bool false)), (85, .val (.bool (decide ((b : Int) < 6))) (.bool _)), (95, .call _), (103, .val (.bool ((b : Int) == (b : Int))) (.bool true)), (112, .val (.bool (u == u)) (.bool true))]) (ch := [⟨13, none, .loop (lp Try.prog 9 13), T9 (XO p hs oc7 hb2) u b 0 (-1) (-1) 0, [], H9 (XO p hs oc7 hb2), 12, _, false⟩]) 12 (evk 50) special ⟨wakes_m 1, congrArg (Value.int .i64) ep, mf, congrArg (Value.int .i64) eu, mh, ms, congrArg Value.bool d1, congrArg Value.bool d2, mw, congrArg Value.bool (d4 b), congrArg Value.bool d5, trivial⟩ ⟨codeOk_loop hlo, trivial⟩ (by kernel_rfl) hS (by kernel_rfl)
          | true =>
            have hst : startS (XO p hs oc7 hb2) u = some r := by rw [hst]; simp only [wantS, d2]; rfl
            have ms := StartY_s (XO p hs oc7 hb2) he hst 10 11 (by omega)
            have mw := WhenY_s (XO p hs oc7 hb2) he (when1 he hst) 10 12 (by omega)
            have hlo := hlo r 0
            exact memo_pure (hs := [(19, .call _), (28, .val (.int .i64 (W (1 + W (Int.tmod (uW per) 1000)))) (.int .i64 p)), (33, .call _), (39, .val (.int .i64 (W (Int.tmod (uW t) 549755813889))) (.int .i64 u)), (41, .call _), (62, .call _), (81, .val (.bool (decide ((b : Int) < 0))) (.bool false)), (85, .val (.bool (decide ((b : Int) < 6))) (.bool _)), (88, .val (.bool (decide ((r : Int) ≥ 0))) (.bool true)), (95, .call _), (103, .val (.bool ((r : Int) == (r : Int))) (.bool true)), (112, .val (.bool (u == u)) (.bool true))]) (ch := [⟨13, none, .loop (lp Try.prog 9 13), T9 (XO p hs oc7 hb2) u r 0 (-1) (-1) 0, [], H9 (XO p hs oc7 hb2), 12, _, false⟩]) 12 (evk 50) special ⟨wakes_m 1, congrArg (Value.int .i64) ep, mf, congrArg (Value.int .i64) eu, mh, ms, congrArg Value.bool d1, congrArg Value.bool d2, congrArg Value.bool d3, mw, congrArg Value.bool (d4 r), congrArg Value.bool d5, trivial⟩ ⟨codeOk_loop hlo, trivial⟩ (by kernel_rfl) hS (by kernel_rfl)
section
open Go.ChangeShapes Go.WideShapes Go.RowKit
variable {T : Type} {enc : TypeId × Value → T} {w : World} {base : Nat} {spare : Nat → Bool} {held : Bool} {r : Reach} {b0 : Nat}
theorem calls_h {f : FuncId} {u x y : Value} {d2 : DataW T} {ps2 : List MemPlace} (h0 : CellsAt w 0) (hv2 : Value.okWide Try.prog w r b0 27 u) (hd2 : DataW.Trod enc Try.prog w base spare held 27 u d2 ps2) (hx : ∀ φ : Ren, VRel φ x x) (hy : ∀ φ : Ren, VRel φ y y)
    (h : ∀ (hs : List Pt) (sb : Option Addr) (n c : Nat), Sl 0 n sb → n ≤ c → c < openCap → hs.length = min n 12 → Memo.Ok Try.prog ⟨f, 1, [x, .slice sb n c, y], [(0, pcs hs)], .bool true, [], 1⟩) :
    Calls Try.prog f [x, u, y].toArray w fun e w' => e = .returned (.bool true) ∧ Below w.heap.size w w' := by
  obtain ⟨hs, sb, k, L2, hL⟩ := open_heads (w := w) (r := r) (b0 := b0) (u := u) (enc := enc) (base := base) (spare := spare) (held := held) (d2 := d2) (ps2 := ps2) hv2 hd2 h0 0
  refine calls_open (φ := renL [L2]) (h (hs.take 12) sb hs.length k hL.sl hL.le hL.lt (by simp; omega)) (good_V fun b cs hb => ?_) ⟨hx _, hL.rel rfl, hy _, trivial⟩
  by_cases h0 : 0 = b
  · subst h0
    simp [roHp, Hp.get] at hb
    subst hb
    exact ⟨L2, rfl, brel_take hL 12 (pcs_av _)⟩
  · simp [roHp, Hp.get, h0] at hb
end
end Go.Proofs.Ytjconcfkpgkbkaa.choose
namespace Go.Proofs.Ytjconcfkpgkbkaa.chooseOpen
open Go Go.En Go.ChangeShapes Go.WideShapes Go.ChangeAt Go.RowKit
set_option linter.unusedVariables false
theorem own : ownKnob Try.prog.godebug = none := by kernel_rfl
set_option maxRecDepth 100000 in
theorem lifted (os : Os) (started : os.Started) (H : Type) (enc : TypeId × Value → H) :
    ReturnsInHanded {} Try.checked os 9 .any (Rows.chooseOpenSpec.pre6 enc Try.prog Try.f9 Rows.chooseOpenRow.domain false) (Rows.chooseOpenSpec.post enc Try.prog Try.f9 false true false false) := by
  refine returnsInHanded_of_change_shaped (C := Try.checked) own started (by kernel_rfl) Try.func9
    (ChangeSpec.witness6 (enc := enc) (C := Try.checked) false ⟨#[], #[.int .i64 0, .slice none 0 0, .int .i64 0], []⟩ 8 (by kernel_rfl) (by kernel_rfl) (by kernel_rfl) (by kernel_rfl)) ?_
  intro W base args ds gs before hval0 hW hcnd _ hsh _
  have hval : ∀ (j : Nat) t v, Try.f9.params[j]? = some t → args[j]? = some v → Value.okWide Try.prog W .any base t v := hval0
  have hW2 := hW
  obtain ⟨p, q, hA0, hV, rfl, hfz, hnd⟩ := hW2
  have hA : DataW.TrodAll enc Try.prog W 0 (fun _ => true) true Try.f9.params.toList args.toList ds p := hA0
  rw [Try.params9] at hA hval
  obtain ⟨v0, v1, v2, d0, d1, d2, p0, p1, p2, rfl, rfl, rfl, h0, h1, h2⟩ := trodAll_three hA
  obtain ⟨x, rfl, _, _, _⟩ := open_int Try.underlying3 (hval 0 3 v0 rfl rfl) h0
  obtain ⟨y, rfl, _, _, _⟩ := open_int Try.underlying3 (hval 2 3 v2 rfl rfl) h2
  obtain ⟨rfl, rfl⟩ := trodVars_none hV
  have hwalk := choose.calls_h (f := 9) (x := .int .i64 x) (y := .int .i64 y) (choose.first_block hsh) (hval 1 27 v1 rfl rfl) h1 (fun φ => .int _ _) (fun φ => .int _ _) (fun hs sb n c h1 h2 h3 h4 => choose.open_Y x y hs sb n c h1 h2 h3 h4)
  refine hwalk.mono fun e W' ⟨he, hb⟩ => ?_
  subst he
  exact ⟨_, rfl, law_post rfl (by kernel_rfl) (by kernel_rfl) rfl Try.underlying4 hW rfl rfl rfl hb⟩
theorem over : Rows.chooseOpenRow.holds Try.pinned (OpenSpec.ofChange Rows.chooseOpenSpec) :=
  OpenClaim.holds_of_wide 9 Try.f9 rfl rfl rfl rfl rfl rfl rfl ⟨rfl, rfl, rfl, rfl, rfl⟩ rfl rfl rfl rfl rfl (by kernel_rfl) Try.func9 (by kernel_rfl)
    (of_decide_eq_true (by kernel_rfl)) (by unfold Func.isWrapper; first | (rw [if_pos (by decide +kernel)]; kernel_rfl) | (rw [if_neg (by decide +kernel)]; exact ⟨rfl, rfl⟩))
    (fun os started H enc _ => lifted os started H enc)
theorem proved : Rows.ChooseOpenSaid := over
#print axioms proved
end Go.Proofs.Ytjconcfkpgkbkaa.chooseOpen
