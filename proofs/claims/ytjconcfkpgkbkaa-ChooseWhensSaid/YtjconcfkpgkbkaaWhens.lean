/- ChooseWhens returns true for every line, heads and time, and its arguments read as before. No condition. -/
import Derived.Test.YtjconcfkpgkbkaaChX
namespace Go.Proofs.Ytjconcfkpgkbkaa.choose
open Go Go.En
set_option linter.unusedVariables false

theorem errC_is3 {X : Cx} {t : Int} {a b d : Bool} (h1 : lineX X = a) (h2 : headsS X.hs = b) (h3 : lateS t = d) : errC X t = bif a then (bif b then (bif d then 2 else 0) else 470) else 471 := by
  unfold errC; rw [h1, h2, h3]
theorem whens_Y (Y : Raw) (t : Int) : Memo.Ok Try.prog ⟨4, 2, [Y.lv, Y.hv, .int .i64 t], Y.V, .bool true, [], 2⟩ := by
  have hS := Y.smallH 2
  by_cases h0 : Y.m = 0
  · have mf := Y.few0 h0 3
    have hnil := Y.hs_nil h0
    obtain ⟨sa, n, c, cyc, per, sh, es, sb, m, k, hs, ha, hn, hc, hE, hb, hm, hk, hh⟩ := Y
    simp only at h0 hnil
    subst h0
    subst hnil
    have hb2 : ([] : List Pt).length ≤ 1000 := by simp
    rcases ha with ⟨rfl, rfl⟩ | rfl
    · obtain rfl : es = [] := List.length_eq_zero_iff.1 (by simpa using hE)
      have mp := WhenN c ([] : List Pt).length 0 cyc per sh t 7 11
      have mw := wantN c ([] : List Pt).length 0 cyc per sh t 7 11
      rcases hb with ⟨rfl, _⟩ | rfl
      all_goals
        exact memo_pure (hs := [(12, .call _), (17, .call _), (24, .call _), (30, .call _)]) (ch := []) 11 (evk 50) special ⟨wakes_m 3, mf, mp, mw, trivial⟩ trivial (by kernel_rfl) hS (by kernel_rfl)
    · have hb1 : es.length ≤ 1000 := by omega
      cases pL : lineX ⟨es, c, cyc, per, sh, [], 0, hb1, hb2⟩
      · have he : errC ⟨es, c, cyc, per, sh, [], 0, hb1, hb2⟩ t = 471 := by unfold errC; rw [pL]; rfl
        have mw := want_m ⟨es, c, cyc, per, sh, [], 0, hb1, hb2⟩ t he 6 11
        have mp := WhenE_m ⟨es, c, cyc, per, sh, [], 0, hb1, hb2⟩ t he rfl 6 11
        rcases hb with ⟨rfl, _⟩ | rfl
        all_goals
          exact memo_pure (hs := [(12, .call _), (17, .call _), (24, .call _), (30, .call _)]) (ch := []) 11 (evk 50) special ⟨wakes_m 3, mf, mp, mw, trivial⟩ trivial (by kernel_rfl) hS (by kernel_rfl)
      · cases pH : headsS ([] : List Pt)
        · have he : errC ⟨es, c, cyc, per, sh, [], 0, hb1, hb2⟩ t = 470 := errC_is3 (d := lateS t) pL pH rfl
          have mw := want_m ⟨es, c, cyc, per, sh, [], 0, hb1, hb2⟩ t he 6 11
          have mp := WhenE_m ⟨es, c, cyc, per, sh, [], 0, hb1, hb2⟩ t he rfl 6 11
          rcases hb with ⟨rfl, _⟩ | rfl
          all_goals
            exact memo_pure (hs := [(12, .call _), (17, .call _), (24, .call _), (30, .call _)]) (ch := []) 11 (evk 50) special ⟨wakes_m 3, mf, mp, mw, trivial⟩ trivial (by kernel_rfl) hS (by kernel_rfl)
        · cases pH
  · have mf := Y.few (by omega) 3
    have hsb := Y.pos_sb (by omega)
    obtain ⟨sa, n, c, cyc, per, sh, es, sb, m, k, hs, ha, hn, hc, hE, hb, hm, hk, hh⟩ := Y
    simp only at h0 hsb
    subst hsb
    have hb2 : hs.length ≤ 1000 := by omega
    rcases ha with ⟨rfl, rfl⟩ | rfl
    · obtain rfl : es = [] := List.length_eq_zero_iff.1 (by simpa using hE)
      have mp := WhenN c (hs : List Pt).length oc7 cyc per sh t 10 11
      have mw := wantN c (hs : List Pt).length oc7 cyc per sh t 10 11
      exact memo_pure (hs := [(12, .call _), (17, .call _), (24, .call _), (30, .call _)]) (ch := []) 11 (evk 50) special ⟨wakes_m 3, mf, mp, mw, trivial⟩ trivial (by kernel_rfl) hS (by kernel_rfl)
    · have hb1 : es.length ≤ 1000 := by omega
      cases pL : lineX ⟨es, c, cyc, per, sh, hs, oc7, hb1, hb2⟩
      · have he : errC ⟨es, c, cyc, per, sh, hs, oc7, hb1, hb2⟩ t = 471 := by unfold errC; rw [pL]; rfl
        have mw := want_m ⟨es, c, cyc, per, sh, hs, oc7, hb1, hb2⟩ t he 9 11
        have mp := WhenE_m ⟨es, c, cyc, per, sh, hs, oc7, hb1, hb2⟩ t he rfl 9 11
        exact memo_pure (hs := [(12, .call _), (17, .call _), (24, .call _), (30, .call _)]) (ch := []) 11 (evk 50) special ⟨wakes_m 3, mf, mp, mw, trivial⟩ trivial (by kernel_rfl) hS (by kernel_rfl)
      · cases pH : headsS (hs : List Pt)
        · have he : errC ⟨es, c, cyc, per, sh, hs, oc7, hb1, hb2⟩ t = 470 := errC_is3 (d := lateS t) pL pH rfl
          have mw := want_m ⟨es, c, cyc, per, sh, hs, oc7, hb1, hb2⟩ t he 9 11
          have mp := WhenE_m ⟨es, c, cyc, per, sh, hs, oc7, hb1, hb2⟩ t he rfl 9 11
          exact memo_pure (hs := [(12, .call _), (17, .call _), (24, .call _), (30, .call _)]) (ch := []) 11 (evk 50) special ⟨wakes_m 3, mf, mp, mw, trivial⟩ trivial (by kernel_rfl) hS (by kernel_rfl)
        · cases pT : lateS t
          · have he : errC ⟨es, c, cyc, per, sh, hs, oc7, hb1, hb2⟩ t = 0 := errC_is3 pL pH pT
            have mw := want_m ⟨es, c, cyc, per, sh, hs, oc7, hb1, hb2⟩ t he 9 11
            cases hg : whenS ⟨es, c, cyc, per, sh, hs, oc7, hb1, hb2⟩ t with
            | none =>
              have mp := WhenY_m ⟨es, c, cyc, per, sh, hs, oc7, hb1, hb2⟩ he hg 9 11
              have mr := rwhen_m ⟨es, c, cyc, per, sh, hs, oc7, hb1, hb2⟩ he hg 9 11
              exact memo_pure (hs := [(12, .call _), (17, .call _), (24, .call _), (30, .call _), (44, .call _)]) (ch := []) 11 (evk 50) special ⟨wakes_m 3, mf, mp, mw, mr, trivial⟩ trivial (by kernel_rfl) hS (by kernel_rfl)
            | some a =>
              have mp := WhenY_m ⟨es, c, cyc, per, sh, hs, oc7, hb1, hb2⟩ he hg 9 11
              have mr := rwhen_m ⟨es, c, cyc, per, sh, hs, oc7, hb1, hb2⟩ he hg 9 11
              have d1 : (a == a) = true := beq_self_eq_true _
              exact memo_pure (hs := [(12, .call _), (17, .call _), (24, .call _), (30, .call _), (44, .call _), (57, .val (.bool (a == a)) (.bool true))]) (ch := []) 11 (evk 50) special ⟨wakes_m 3, mf, mp, mw, mr, congrArg Value.bool d1, trivial⟩ trivial (by kernel_rfl) hS (by kernel_rfl)
          · have he : errC ⟨es, c, cyc, per, sh, hs, oc7, hb1, hb2⟩ t = 2 := errC_is3 pL pH pT
            have mw := want_m ⟨es, c, cyc, per, sh, hs, oc7, hb1, hb2⟩ t he 9 11
            have mp := WhenE_m ⟨es, c, cyc, per, sh, hs, oc7, hb1, hb2⟩ t he rfl 9 11
            exact memo_pure (hs := [(12, .call _), (17, .call _), (24, .call _), (30, .call _)]) (ch := []) 11 (evk 50) special ⟨wakes_m 3, mf, mp, mw, trivial⟩ trivial (by kernel_rfl) hS (by kernel_rfl)
end Go.Proofs.Ytjconcfkpgkbkaa.choose
namespace Go.Proofs.Ytjconcfkpgkbkaa.chooseWhens
open Go Go.En Go.ChangeShapes Go.WideShapes Go.ChangeAt Go.RowKit
set_option linter.unusedVariables false
theorem own : ownKnob Try.prog.godebug = none := by kernel_rfl
set_option maxRecDepth 100000 in
theorem lifted (os : Os) (started : os.Started) (H : Type) (enc : TypeId × Value → H) :
    ReturnsInHanded {} Try.checked os 4 .any (Rows.chooseWhensSpec.pre6 enc Try.prog Try.f4 Rows.chooseWhensRow.domain false) (Rows.chooseWhensSpec.post enc Try.prog Try.f4 false true false false) := by
  refine returnsInHanded_of_change_shaped (C := Try.checked) own started (by kernel_rfl) Try.func4
    (ChangeSpec.witness6 (enc := enc) (C := Try.checked) false ⟨#[], #[choose.lvS none 0 0 0 0 0, .slice none 0 0, .int .i64 0], []⟩ 8 (by kernel_rfl) (by kernel_rfl) (by kernel_rfl) (by kernel_rfl)) ?_
  intro W base args ds gs before hval0 hW hcnd _ hsh _
  have hval : ∀ (j : Nat) t v, Try.f4.params[j]? = some t → args[j]? = some v → Value.okWide Try.prog W .any base t v := hval0
  have hW2 := hW
  obtain ⟨p, q, hA0, hV, rfl, hfz, hnd⟩ := hW2
  have hA : DataW.TrodAll enc Try.prog W 0 (fun _ => true) true Try.f4.params.toList args.toList ds p := hA0
  rw [Try.params4] at hA hval
  obtain ⟨v0, v1, v2, d0, d1, d2, p0, p1, p2, rfl, rfl, rfl, h0, h1, h2⟩ := trodAll_three hA
  obtain ⟨x, rfl, _, _, _⟩ := open_int Try.underlying3 (hval 2 3 v2 rfl rfl) h2
  obtain ⟨rfl, rfl⟩ := trodVars_none hV
  have hwalk := choose.calls_lh (f := 4) (rest := [.int .i64 x]) (choose.first_block hsh) (hval 0 26 v0 rfl rfl) h0 (hval 1 27 v1 rfl rfl) h1 (fun φ => ⟨.int _ _, trivial⟩) (fun Y => choose.whens_Y Y x)
  refine hwalk.mono fun e W' ⟨he, hb⟩ => ?_
  subst he
  exact ⟨_, rfl, law_post rfl (by kernel_rfl) (by kernel_rfl) rfl Try.underlying4 hW rfl rfl rfl hb⟩
theorem over : Rows.chooseWhensRow.holds Try.pinned (OpenSpec.ofChange Rows.chooseWhensSpec) :=
  OpenClaim.holds_of_wide 4 Try.f4 rfl rfl rfl rfl rfl rfl rfl ⟨rfl, rfl, rfl, rfl, rfl⟩ rfl rfl rfl rfl rfl (by kernel_rfl) Try.func4 (by kernel_rfl)
    (of_decide_eq_true (by kernel_rfl)) (by unfold Func.isWrapper; first | (rw [if_pos (by decide +kernel)]; kernel_rfl) | (rw [if_neg (by decide +kernel)]; exact ⟨rfl, rfl⟩))
    (fun os started H enc _ => lifted os started H enc)
theorem proved : Rows.ChooseWhensSaid := over
#print axioms proved
end Go.Proofs.Ytjconcfkpgkbkaa.chooseWhens
