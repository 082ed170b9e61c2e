/- ChoosePreempts returns true for every line, heads and numbers, and its arguments read as before. No condition. -/
import Derived.Test.YtjconcfkpgkbkaaChS
namespace Go.Proofs.Ytjconcfkpgkbkaa.choose
open Go Go.En
set_option linter.unusedVariables false

theorem errC_is2 {X : Cx} {t : Int} {a b d : Bool} (h1 : lineX X = a) (h2 : headsS X.hs = b) (h3 : lateS t = d) : errC X t = bif a then (bif b then (bif d then 2 else 0) else 470) else 471 := by
  unfold errC; rw [h1, h2, h3]
theorem preempts_Y (Y : Raw) (o b t : Int) : Memo.Ok Try.prog ⟨5, 2, [Y.lv, Y.hv, .int .i64 o, .int .i64 b, .int .i64 t], Y.V, .bool true, [], 2⟩ := by
  have hS := Y.smallH 2
  by_cases h0 : Y.m = 0
  · have mf := Y.few0 h0 3
    have hnil := Y.hs_nil h0
    obtain ⟨sa, n, c, cyc, per, sh, es, sb, m, k, hs, ha, hn, hc, hE, hb, hm, hk, hh⟩ := Y
    simp only at h0 hnil
    subst h0
    subst hnil
    have hb2 : ([] : List Pt).length ≤ 1000 := by simp
    rcases ha with ⟨rfl, rfl⟩ | rfl
    · obtain rfl : es = [] := List.length_eq_zero_iff.1 (by simpa using hE)
      have mp := PreN c ([] : List Pt).length 0 cyc per sh o b t 7 11
      have mw := wantN c ([] : List Pt).length 0 cyc per sh t 7 11
      rcases hb with ⟨rfl, _⟩ | rfl
      all_goals
        exact memo_pure (hs := [(18, .call _), (23, .call _), (32, .call _), (39, .call _)]) (ch := []) 11 (evk 50) special ⟨wakes_m 3, mf, mp, mw, trivial⟩ trivial (by kernel_rfl) hS (by kernel_rfl)
    · have hb1 : es.length ≤ 1000 := by omega
      cases pL : lineX ⟨es, c, cyc, per, sh, [], 0, hb1, hb2⟩
      · have he : errC ⟨es, c, cyc, per, sh, [], 0, hb1, hb2⟩ t = 471 := by unfold errC; rw [pL]; rfl
        have mw := want_m ⟨es, c, cyc, per, sh, [], 0, hb1, hb2⟩ t he 6 11
        have mp := PreE_m ⟨es, c, cyc, per, sh, [], 0, hb1, hb2⟩ o b t he rfl 6 11
        rcases hb with ⟨rfl, _⟩ | rfl
        all_goals
          exact memo_pure (hs := [(18, .call _), (23, .call _), (32, .call _), (39, .call _)]) (ch := []) 11 (evk 50) special ⟨wakes_m 3, mf, mp, mw, trivial⟩ trivial (by kernel_rfl) hS (by kernel_rfl)
      · cases pH : headsS ([] : List Pt)
        · have he : errC ⟨es, c, cyc, per, sh, [], 0, hb1, hb2⟩ t = 470 := errC_is2 (d := lateS t) pL pH rfl
          have mw := want_m ⟨es, c, cyc, per, sh, [], 0, hb1, hb2⟩ t he 6 11
          have mp := PreE_m ⟨es, c, cyc, per, sh, [], 0, hb1, hb2⟩ o b t he rfl 6 11
          rcases hb with ⟨rfl, _⟩ | rfl
          all_goals
            exact memo_pure (hs := [(18, .call _), (23, .call _), (32, .call _), (39, .call _)]) (ch := []) 11 (evk 50) special ⟨wakes_m 3, mf, mp, mw, trivial⟩ trivial (by kernel_rfl) hS (by kernel_rfl)
        · cases pH
  · have mf := Y.few (by omega) 3
    have hsb := Y.pos_sb (by omega)
    obtain ⟨sa, n, c, cyc, per, sh, es, sb, m, k, hs, ha, hn, hc, hE, hb, hm, hk, hh⟩ := Y
    simp only at h0 hsb
    subst hsb
    have hb2 : hs.length ≤ 1000 := by omega
    rcases ha with ⟨rfl, rfl⟩ | rfl
    · obtain rfl : es = [] := List.length_eq_zero_iff.1 (by simpa using hE)
      have mp := PreN c (hs : List Pt).length oc7 cyc per sh o b t 10 11
      have mw := wantN c (hs : List Pt).length oc7 cyc per sh t 10 11
      exact memo_pure (hs := [(18, .call _), (23, .call _), (32, .call _), (39, .call _)]) (ch := []) 11 (evk 50) special ⟨wakes_m 3, mf, mp, mw, trivial⟩ trivial (by kernel_rfl) hS (by kernel_rfl)
    · have hb1 : es.length ≤ 1000 := by omega
      cases pL : lineX ⟨es, c, cyc, per, sh, hs, oc7, hb1, hb2⟩
      · have he : errC ⟨es, c, cyc, per, sh, hs, oc7, hb1, hb2⟩ t = 471 := by unfold errC; rw [pL]; rfl
        have mw := want_m ⟨es, c, cyc, per, sh, hs, oc7, hb1, hb2⟩ t he 9 11
        have mp := PreE_m ⟨es, c, cyc, per, sh, hs, oc7, hb1, hb2⟩ o b t he rfl 9 11
        exact memo_pure (hs := [(18, .call _), (23, .call _), (32, .call _), (39, .call _)]) (ch := []) 11 (evk 50) special ⟨wakes_m 3, mf, mp, mw, trivial⟩ trivial (by kernel_rfl) hS (by kernel_rfl)
      · cases pH : headsS (hs : List Pt)
        · have he : errC ⟨es, c, cyc, per, sh, hs, oc7, hb1, hb2⟩ t = 470 := errC_is2 (d := lateS t) pL pH rfl
          have mw := want_m ⟨es, c, cyc, per, sh, hs, oc7, hb1, hb2⟩ t he 9 11
          have mp := PreE_m ⟨es, c, cyc, per, sh, hs, oc7, hb1, hb2⟩ o b t he rfl 9 11
          exact memo_pure (hs := [(18, .call _), (23, .call _), (32, .call _), (39, .call _)]) (ch := []) 11 (evk 50) special ⟨wakes_m 3, mf, mp, mw, trivial⟩ trivial (by kernel_rfl) hS (by kernel_rfl)
        · cases pT : lateS t
          · have he : errC ⟨es, c, cyc, per, sh, hs, oc7, hb1, hb2⟩ t = 0 := errC_is2 pL pH pT
            have mw := want_m ⟨es, c, cyc, per, sh, hs, oc7, hb1, hb2⟩ t he 9 11
            obtain ⟨hk2, h8, _, _⟩ := errC_ok he
            have hp0 : 1 ≤ per ∧ per ≤ 1000 := by
              unfold lineX lineS at pL
              simp only [Bool.and_eq_true, Bool.not_eq_true', Bool.or_eq_false_iff, decide_eq_false_iff_not] at pL
              omega
            have hper : (⟨es, c, cyc, per, sh, hs, oc7, hb1, hb2⟩ : Cx).per ≠ 0 := by show per ≠ 0; omega
            have key : ∀ p1 p2 p3 p4 p5, decide (o < 84) = p1 → decide (o > 1542) = p2 → decide (b < 0) = p3 → decide (b > t) = p4 → decide (t > W (b + W (o * per))) = p5 → Memo.Ok Try.prog ⟨5, 2, [lvS (some ⟨0, 0, none⟩) n c cyc per sh, .slice (some ⟨1, 0, none⟩) m k, .int .i64 o, .int .i64 b, .int .i64 t], [(0, ecs es), (1, pcs hs)], .bool true, [], 2⟩ := by
              intro p1 p2 p3 p4 p5 h1 h2 h3 h4 h5
              cases hbad : badP ⟨es, c, cyc, per, sh, hs, oc7, hb1, hb2⟩ o b t with
              | true =>
                have mp := PreA_m ⟨es, c, cyc, per, sh, hs, oc7, hb1, hb2⟩ he hbad 9 11
                have hor : (p1 || (p2 || (p3 || (p4 || p5)))) = true := by
                  unfold badP at hbad
                  simp only [h1, h2, h3, h4, h5] at hbad
                  exact hbad
                cases p1 <;> cases p2 <;> cases p3 <;> cases p4 <;> cases p5 <;> first
                  | (cases hor; done)
                  | exact memo_pure (hs := [(18, .call _), (23, .call _), (32, .call _), (39, .call _), (44, .val (.bool (decide (o < 84))) (.bool _)), (47, .val (.bool (decide (o > 1542))) (.bool _)), (51, .val (.bool (decide (b < 0))) (.bool _)), (56, .val (.bool (decide (b > t))) (.bool _)), (66, .val (.bool (decide (t > W (b + W (o * per))))) (.bool _))]) (ch := []) 11 (evk 50) special ⟨wakes_m 3, mf, mp, mw, congrArg Value.bool h1, congrArg Value.bool h2, congrArg Value.bool h3, congrArg Value.bool h4, congrArg Value.bool h5, trivial⟩ trivial (by kernel_rfl) hS (by kernel_rfl)
              | false =>
                have hor : (p1 || (p2 || (p3 || (p4 || p5)))) = false := by
                  unfold badP at hbad
                  simp only [h1, h2, h3, h4, h5] at hbad
                  exact hbad
                simp only [Bool.or_eq_false_iff] at hor
                obtain ⟨rfl, rfl, rfl, rfl, rfl⟩ := hor
                have hkk := k_eq he pL hbad
                cases hg : preS ⟨es, c, cyc, per, sh, hs, oc7, hb1, hb2⟩ o (kW ⟨es, c, cyc, per, sh, hs, oc7, hb1, hb2⟩ b t) (endW ⟨es, c, cyc, per, sh, hs, oc7, hb1, hb2⟩ b (kW ⟨es, c, cyc, per, sh, hs, oc7, hb1, hb2⟩ b t))
                all_goals
                  have mp := PreY_m ⟨es, c, cyc, per, sh, hs, oc7, hb1, hb2⟩ he hper hbad hg 9 11
                  have mr := rpre_m ⟨es, c, cyc, per, sh, hs, oc7, hb1, hb2⟩ hk2 h8 hper hkk hg 9 11
                  generalize restW o (kW ⟨es, c, cyc, per, sh, hs, oc7, hb1, hb2⟩ b t) = R at mp mr
                  generalize endW ⟨es, c, cyc, per, sh, hs, oc7, hb1, hb2⟩ b (kW ⟨es, c, cyc, per, sh, hs, oc7, hb1, hb2⟩ b t) = E at mp mr
                  have d1 : (E == E) = true := beq_self_eq_true _
                  have d2 : (R == R) = true := beq_self_eq_true _
                  exact memo_pure (hs := [(18, .call _), (23, .call _), (32, .call _), (39, .call _), (44, .val (.bool (decide (o < 84))) (.bool _)), (47, .val (.bool (decide (o > 1542))) (.bool _)), (51, .val (.bool (decide (b < 0))) (.bool _)), (56, .val (.bool (decide (b > t))) (.bool _)), (66, .val (.bool (decide (t > W (b + W (o * per))))) (.bool _)), (88, .call _), (106, .val (.bool (E == E)) (.bool true)), (110, .val (.bool (R == R)) (.bool true))]) (ch := []) 11 (evk 50) special ⟨wakes_m 3, mf, mp, mw, congrArg Value.bool h1, congrArg Value.bool h2, congrArg Value.bool h3, congrArg Value.bool h4, congrArg Value.bool h5, mr, congrArg Value.bool d1, congrArg Value.bool d2, trivial⟩ trivial (by kernel_rfl) hS (by kernel_rfl)
            exact key _ _ _ _ _ rfl rfl rfl rfl rfl
          · have he : errC ⟨es, c, cyc, per, sh, hs, oc7, hb1, hb2⟩ t = 2 := errC_is2 pL pH pT
            have mw := want_m ⟨es, c, cyc, per, sh, hs, oc7, hb1, hb2⟩ t he 9 11
            have mp := PreE_m ⟨es, c, cyc, per, sh, hs, oc7, hb1, hb2⟩ o b t he rfl 9 11
            exact memo_pure (hs := [(18, .call _), (23, .call _), (32, .call _), (39, .call _)]) (ch := []) 11 (evk 50) special ⟨wakes_m 3, mf, mp, mw, trivial⟩ trivial (by kernel_rfl) hS (by kernel_rfl)
end Go.Proofs.Ytjconcfkpgkbkaa.choose
namespace Go.Proofs.Ytjconcfkpgkbkaa.choosePreempts
open Go Go.En Go.ChangeShapes Go.WideShapes Go.ChangeAt Go.RowKit
set_option linter.unusedVariables false
theorem own : ownKnob Try.prog.godebug = none := by kernel_rfl
set_option maxRecDepth 100000 in
theorem lifted (os : Os) (started : os.Started) (H : Type) (enc : TypeId × Value → H) :
    ReturnsInHanded {} Try.checked os 5 .any (Rows.choosePreemptsSpec.pre6 enc Try.prog Try.f5 Rows.choosePreemptsRow.domain false) (Rows.choosePreemptsSpec.post enc Try.prog Try.f5 false true false false) := by
  refine returnsInHanded_of_change_shaped (C := Try.checked) own started (by kernel_rfl) Try.func5
    (ChangeSpec.witness6 (enc := enc) (C := Try.checked) false ⟨#[], #[choose.lvS none 0 0 0 0 0, .slice none 0 0, .int .i64 0, .int .i64 0, .int .i64 0], []⟩ 8 (by kernel_rfl) (by kernel_rfl) (by kernel_rfl) (by kernel_rfl)) ?_
  intro W base args ds gs before hval0 hW hcnd _ hsh _
  have hval : ∀ (j : Nat) t v, Try.f5.params[j]? = some t → args[j]? = some v → Value.okWide Try.prog W .any base t v := hval0
  have hW2 := hW
  obtain ⟨p, q, hA0, hV, rfl, hfz, hnd⟩ := hW2
  have hA : DataW.TrodAll enc Try.prog W 0 (fun _ => true) true Try.f5.params.toList args.toList ds p := hA0
  rw [Try.params5] at hA hval
  obtain ⟨v0, v1, v2, v3, v4, d0, d1, d2, d3, d4, p0, p1, p2, p3, p4, rfl, rfl, rfl, h0, h1, h2, h3, h4⟩ := choose.trod5 hA
  obtain ⟨x, rfl, _, _, _⟩ := open_int Try.underlying3 (hval 2 3 v2 rfl rfl) h2
  obtain ⟨y, rfl, _, _, _⟩ := open_int Try.underlying3 (hval 3 3 v3 rfl rfl) h3
  obtain ⟨z, rfl, _, _, _⟩ := open_int Try.underlying3 (hval 4 3 v4 rfl rfl) h4
  obtain ⟨rfl, rfl⟩ := trodVars_none hV
  have hwalk := choose.calls_lh (f := 5) (rest := [.int .i64 x, .int .i64 y, .int .i64 z]) (choose.first_block hsh) (hval 0 26 v0 rfl rfl) h0 (hval 1 27 v1 rfl rfl) h1 (fun φ => ⟨.int _ _, .int _ _, .int _ _, trivial⟩) (fun Y => choose.preempts_Y Y x y z)
  refine hwalk.mono fun e W' ⟨he, hb⟩ => ?_
  subst he
  exact ⟨_, rfl, law_post rfl (by kernel_rfl) (by kernel_rfl) rfl Try.underlying4 hW rfl rfl rfl hb⟩
theorem over : Rows.choosePreemptsRow.holds Try.pinned (OpenSpec.ofChange Rows.choosePreemptsSpec) :=
  OpenClaim.holds_of_wide 5 Try.f5 rfl rfl rfl rfl rfl rfl rfl ⟨rfl, rfl, rfl, rfl, rfl⟩ rfl rfl rfl rfl rfl (by kernel_rfl) Try.func5 (by kernel_rfl)
    (of_decide_eq_true (by kernel_rfl)) (by unfold Func.isWrapper; first | (rw [if_pos (by decide +kernel)]; kernel_rfl) | (rw [if_neg (by decide +kernel)]; exact ⟨rfl, rfl⟩))
    (fun os started H enc _ => lifted os started H enc)
theorem proved : Rows.ChoosePreemptsSaid := over
#print axioms proved
end Go.Proofs.Ytjconcfkpgkbkaa.choosePreempts
