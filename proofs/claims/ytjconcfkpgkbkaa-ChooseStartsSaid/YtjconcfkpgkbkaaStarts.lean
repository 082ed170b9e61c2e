/- ChooseStarts returns true for every line, heads, class and time, and its arguments read as before. No condition. -/
import Derived.Test.YtjconcfkpgkbkaaChR
namespace Go.Proofs.Ytjconcfkpgkbkaa.choose
open Go Go.En
set_option linter.unusedVariables false

theorem errC_is {X : Cx} {t : Int} {a b d : Bool} (h1 : lineX X = a) (h2 : headsS X.hs = b) (h3 : lateS t = d) : errC X t = bif a then (bif b then (bif d then 2 else 0) else 470) else 471 := by
  unfold errC; rw [h1, h2, h3]
theorem starts_Y (Y : Raw) (cls t : Int) : Memo.Ok Try.prog ⟨3, 2, [Y.lv, Y.hv, .int .i64 cls, .int .i64 t], Y.V, .bool true, [], 2⟩ := by
  have hS := Y.smallH 2
  by_cases h0 : Y.m = 0
  · have mf := Y.few0 h0 3
    have hnil := Y.hs_nil h0
    obtain ⟨sa, n, c, cyc, per, sh, es, sb, m, k, hs, ha, hn, hc, hE, hb, hm, hk, hh⟩ := Y
    simp only at h0 hnil
    subst h0
    subst hnil
    have hb2 : ([] : List Pt).length ≤ 1000 := by simp
    rcases ha with ⟨rfl, rfl⟩ | rfl
    · obtain rfl : es = [] := List.length_eq_zero_iff.1 (by simpa using hE)
      have ml := lineN_m c cyc per sh 11
      have mrl := rlineN c cyc per sh 11
      have mm := MayN c ([] : List Pt).length 0 cyc per sh cls t 7 11
      have ms := StartN c ([] : List Pt).length 0 cyc per sh t 7 11
      have mw := wantN c ([] : List Pt).length 0 cyc per sh t 7 11
      cases pH : headsS ([] : List Pt)
      all_goals
        have mh := heads_m (c := 0) hb2 pH 7 11
        have mrh := rheads_m (c := 0) pH 7 11
        rcases hb with ⟨rfl, _⟩ | rfl
        all_goals
          exact memo_pure (hs := [(17, .call _), (22, .call _), (26, .call _), (28, .call _), (41, .call _), (43, .call _), (60, .call _), (67, .call _), (73, .call _)]) (ch := []) 11 (evk 50) special ⟨wakes_m 3, mf, ml, mrl, mh, mrh, mm, ms, mw, trivial⟩ trivial (by kernel_rfl) hS (by kernel_rfl)
    · have hb1 : es.length ≤ 1000 := by omega
      cases pL : lineX ⟨es, c, cyc, per, sh, [], 0, hb1, hb2⟩
      · cases pH : headsS ([] : List Pt)
        all_goals
          have he : errC ⟨es, c, cyc, per, sh, [], 0, hb1, hb2⟩ t = 471 := by unfold errC; rw [pL]; rfl
          have ml := line_m (c := c) hb1 (show lineS (chkG es cyc) per sh = false from pL) 11
          have mrl := rline_m (c := c) hb1 (show lineS (chkG es cyc) per sh = false from pL) 11
          have mh := heads_m (c := 0) hb2 pH 7 11
          have mrh := rheads_m (c := 0) pH 7 11
          have mw := want_m ⟨es, c, cyc, per, sh, [], 0, hb1, hb2⟩ t he 6 11
          have mm := MayE_m ⟨es, c, cyc, per, sh, [], 0, hb1, hb2⟩ cls t he rfl 6 11
          have ms := StartE_m ⟨es, c, cyc, per, sh, [], 0, hb1, hb2⟩ t he rfl 6 11
          rcases hb with ⟨rfl, _⟩ | rfl
          all_goals
            exact memo_pure (hs := [(17, .call _), (22, .call _), (26, .call _), (28, .call _), (41, .call _), (43, .call _), (60, .call _), (67, .call _), (73, .call _)]) (ch := []) 11 (evk 50) special ⟨wakes_m 3, mf, ml, mrl, mh, mrh, mm, ms, mw, trivial⟩ trivial (by kernel_rfl) hS (by kernel_rfl)
      · cases pH : headsS ([] : List Pt)
        · have he : errC ⟨es, c, cyc, per, sh, [], 0, hb1, hb2⟩ t = 470 := errC_is (d := lateS t) pL pH rfl
          have ml := line_m (c := c) hb1 (show lineS (chkG es cyc) per sh = true from pL) 11
          have mrl := rline_m (c := c) hb1 (show lineS (chkG es cyc) per sh = true from pL) 11
          have mh := heads_m (c := 0) hb2 pH 7 11
          have mrh := rheads_m (c := 0) pH 7 11
          have mw := want_m ⟨es, c, cyc, per, sh, [], 0, hb1, hb2⟩ t he 6 11
          have mm := MayE_m ⟨es, c, cyc, per, sh, [], 0, hb1, hb2⟩ cls t he rfl 6 11
          have ms := StartE_m ⟨es, c, cyc, per, sh, [], 0, hb1, hb2⟩ t he rfl 6 11
          rcases hb with ⟨rfl, _⟩ | rfl
          all_goals
            exact memo_pure (hs := [(17, .call _), (22, .call _), (26, .call _), (28, .call _), (41, .call _), (43, .call _), (60, .call _), (67, .call _), (73, .call _)]) (ch := []) 11 (evk 50) special ⟨wakes_m 3, mf, ml, mrl, mh, mrh, mm, ms, mw, trivial⟩ trivial (by kernel_rfl) hS (by kernel_rfl)
        · cases pH
  · have mf := Y.few (by omega) 3
    have hsb := Y.pos_sb (by omega)
    obtain ⟨sa, n, c, cyc, per, sh, es, sb, m, k, hs, ha, hn, hc, hE, hb, hm, hk, hh⟩ := Y
    simp only at h0 hsb
    subst hsb
    have hb2 : hs.length ≤ 1000 := by omega
    rcases ha with ⟨rfl, rfl⟩ | rfl
    · obtain rfl : es = [] := List.length_eq_zero_iff.1 (by simpa using hE)
      have ml := lineN_m c cyc per sh 11
      have mrl := rlineN c cyc per sh 11
      have mm := MayN c (hs : List Pt).length oc7 cyc per sh cls t 10 11
      have ms := StartN c (hs : List Pt).length oc7 cyc per sh t 10 11
      have mw := wantN c (hs : List Pt).length oc7 cyc per sh t 10 11
      cases pH : headsS (hs : List Pt)
      all_goals
        have mh := heads_m (c := oc7) hb2 pH 10 11
        have mrh := rheads_m (c := oc7) pH 10 11
        exact memo_pure (hs := [(17, .call _), (22, .call _), (26, .call _), (28, .call _), (41, .call _), (43, .call _), (60, .call _), (67, .call _), (73, .call _)]) (ch := []) 11 (evk 50) special ⟨wakes_m 3, mf, ml, mrl, mh, mrh, mm, ms, mw, trivial⟩ trivial (by kernel_rfl) hS (by kernel_rfl)
    · have hb1 : es.length ≤ 1000 := by omega
      cases pL : lineX ⟨es, c, cyc, per, sh, hs, oc7, hb1, hb2⟩
      · cases pH : headsS (hs : List Pt)
        all_goals
          have he : errC ⟨es, c, cyc, per, sh, hs, oc7, hb1, hb2⟩ t = 471 := by unfold errC; rw [pL]; rfl
          have ml := line_m (c := c) hb1 (show lineS (chkG es cyc) per sh = false from pL) 11
          have mrl := rline_m (c := c) hb1 (show lineS (chkG es cyc) per sh = false from pL) 11
          have mh := heads_m (c := oc7) hb2 pH 10 11
          have mrh := rheads_m (c := oc7) pH 10 11
          have mw := want_m ⟨es, c, cyc, per, sh, hs, oc7, hb1, hb2⟩ t he 9 11
          have mm := MayE_m ⟨es, c, cyc, per, sh, hs, oc7, hb1, hb2⟩ cls t he rfl 9 11
          have ms := StartE_m ⟨es, c, cyc, per, sh, hs, oc7, hb1, hb2⟩ t he rfl 9 11
          exact memo_pure (hs := [(17, .call _), (22, .call _), (26, .call _), (28, .call _), (41, .call _), (43, .call _), (60, .call _), (67, .call _), (73, .call _)]) (ch := []) 11 (evk 50) special ⟨wakes_m 3, mf, ml, mrl, mh, mrh, mm, ms, mw, trivial⟩ trivial (by kernel_rfl) hS (by kernel_rfl)
      · cases pH : headsS (hs : List Pt)
        · have he : errC ⟨es, c, cyc, per, sh, hs, oc7, hb1, hb2⟩ t = 470 := errC_is (d := lateS t) pL pH rfl
          have ml := line_m (c := c) hb1 (show lineS (chkG es cyc) per sh = true from pL) 11
          have mrl := rline_m (c := c) hb1 (show lineS (chkG es cyc) per sh = true from pL) 11
          have mh := heads_m (c := oc7) hb2 pH 10 11
          have mrh := rheads_m (c := oc7) pH 10 11
          have mw := want_m ⟨es, c, cyc, per, sh, hs, oc7, hb1, hb2⟩ t he 9 11
          have mm := MayE_m ⟨es, c, cyc, per, sh, hs, oc7, hb1, hb2⟩ cls t he rfl 9 11
          have ms := StartE_m ⟨es, c, cyc, per, sh, hs, oc7, hb1, hb2⟩ t he rfl 9 11
          exact memo_pure (hs := [(17, .call _), (22, .call _), (26, .call _), (28, .call _), (41, .call _), (43, .call _), (60, .call _), (67, .call _), (73, .call _)]) (ch := []) 11 (evk 50) special ⟨wakes_m 3, mf, ml, mrl, mh, mrh, mm, ms, mw, trivial⟩ trivial (by kernel_rfl) hS (by kernel_rfl)
        · cases pT : lateS t
          · have he : errC ⟨es, c, cyc, per, sh, hs, oc7, hb1, hb2⟩ t = 0 := errC_is pL pH pT
            have ml := line_m (c := c) hb1 (show lineS (chkG es cyc) per sh = true from pL) 11
            have mrl := rline_m (c := c) hb1 (show lineS (chkG es cyc) per sh = true from pL) 11
            have mh := heads_m (c := oc7) hb2 pH 10 11
            have mrh := rheads_m (c := oc7) pH 10 11
            have mw := want_m ⟨es, c, cyc, per, sh, hs, oc7, hb1, hb2⟩ t he 9 11
            obtain ⟨hk2, h8, _, _⟩ := errC_ok he
            have ms := fun g (hg : startS ⟨es, c, cyc, per, sh, hs, oc7, hb1, hb2⟩ t = g) => StartY_m _ he hg 9 11
            have mt := fun g (hg : startS ⟨es, c, cyc, per, sh, hs, oc7, hb1, hb2⟩ t = g) => rstart_m _ hk2 h8 t hg 9 11
            by_cases hcls : cls < 0 ∨ cls ≥ 8
            · have mm := MayA_m ⟨es, c, cyc, per, sh, hs, oc7, hb1, hb2⟩ he hcls 9 11
              have key : ∀ p1 p2, decide (cls < 0) = p1 → decide (cls > 7) = p2 → (p1 || p2) = true → Memo.Ok Try.prog ⟨3, 2, [lvS (some ⟨0, 0, none⟩) n c cyc per sh, .slice (some ⟨1, 0, none⟩) m k, .int .i64 cls, .int .i64 t], [(0, ecs es), (1, pcs hs)], .bool true, [], 2⟩ := by
                intro p1 p2 h1 h2 h3
                cases hg : startS ⟨es, c, cyc, per, sh, hs, oc7, hb1, hb2⟩ t with
                | none =>
                  have ms := ms _ hg
                  have mt := mt _ hg
                  cases p1 <;> cases p2 <;> first
                    | (cases h3; done)
                    | exact memo_pure (hs := [(17, .call _), (22, .call _), (26, .call _), (28, .call _), (41, .call _), (43, .call _), (60, .call _), (67, .call _), (73, .call _), (93, .val (.bool (decide (cls < 0))) (.bool _)), (96, .val (.bool (decide (cls > 7))) (.bool _)), (117, .call _)]) (ch := []) 11 (evk 50) special ⟨wakes_m 3, mf, ml, mrl, mh, mrh, mm, ms, mw, congrArg Value.bool h1, congrArg Value.bool h2, mt, trivial⟩ trivial (by kernel_rfl) hS (by kernel_rfl)
                | some g =>
                  have ms := ms _ hg
                  have mt := mt _ hg
                  have d1 : decide ((g : Int) ≥ 0) = true := decide_eq_true (by omega)
                  have d2 : ((g : Int) == (g : Int)) = true := beq_self_eq_true _
                  cases p1 <;> cases p2 <;> first
                    | (cases h3; done)
                    | exact memo_pure (hs := [(17, .call _), (22, .call _), (26, .call _), (28, .call _), (41, .call _), (43, .call _), (60, .call _), (67, .call _), (73, .call _), (93, .val (.bool (decide (cls < 0))) (.bool _)), (96, .val (.bool (decide (cls > 7))) (.bool _)), (117, .call _), (119, .val (.bool (decide ((g : Int) ≥ 0))) (.bool true)), (122, .val (.bool ((g : Int) == (g : Int))) (.bool true))]) (ch := []) 11 (evk 50) special ⟨wakes_m 3, mf, ml, mrl, mh, mrh, mm, ms, mw, congrArg Value.bool h1, congrArg Value.bool h2, mt, congrArg Value.bool d1, congrArg Value.bool d2, trivial⟩ trivial (by kernel_rfl) hS (by kernel_rfl)
              exact key _ _ rfl rfl (by simp only [Bool.or_eq_true, decide_eq_true_eq]; omega)
            · obtain ⟨i, rfl⟩ : ∃ i : Nat, cls = i := ⟨cls.toNat, by omega⟩
              have hi : i < 8 := by omega
              have c1 : decide ((i : Int) < 0) = false := decide_eq_false (by omega)
              have c2 : decide ((i : Int) > 7) = false := decide_eq_false (by omega)
              cases hp : mayS ⟨es, c, cyc, per, sh, hs, oc7, hb1, hb2⟩ i t
              all_goals
                have mm := MayY_m ⟨es, c, cyc, per, sh, hs, oc7, hb1, hb2⟩ he hi hp 9 11
                have mr := rmay_m ⟨es, c, cyc, per, sh, hs, oc7, hb1, hb2⟩ hk2 h8 hi hp 9 11
                cases hg : startS ⟨es, c, cyc, per, sh, hs, oc7, hb1, hb2⟩ t with
                | none =>
                  have ms := ms _ hg
                  have mt := mt _ hg
                  exact memo_pure (hs := [(17, .call _), (22, .call _), (26, .call _), (28, .call _), (41, .call _), (43, .call _), (60, .call _), (67, .call _), (73, .call _), (93, .val (.bool (decide ((i : Int) < 0))) (.bool false)), (96, .val (.bool (decide ((i : Int) > 7))) (.bool false)), (108, .call _), (117, .call _)]) (ch := []) 11 (evk 50) special ⟨wakes_m 3, mf, ml, mrl, mh, mrh, mm, ms, mw, congrArg Value.bool c1, congrArg Value.bool c2, mr, mt, trivial⟩ trivial (by kernel_rfl) hS (by kernel_rfl)
                | some g =>
                  have ms := ms _ hg
                  have mt := mt _ hg
                  have d1 : decide ((g : Int) ≥ 0) = true := decide_eq_true (by omega)
                  have d2 : ((g : Int) == (g : Int)) = true := beq_self_eq_true _
                  exact memo_pure (hs := [(17, .call _), (22, .call _), (26, .call _), (28, .call _), (41, .call _), (43, .call _), (60, .call _), (67, .call _), (73, .call _), (93, .val (.bool (decide ((i : Int) < 0))) (.bool false)), (96, .val (.bool (decide ((i : Int) > 7))) (.bool false)), (108, .call _), (117, .call _), (119, .val (.bool (decide ((g : Int) ≥ 0))) (.bool true)), (122, .val (.bool ((g : Int) == (g : Int))) (.bool true))]) (ch := []) 11 (evk 50) special ⟨wakes_m 3, mf, ml, mrl, mh, mrh, mm, ms, mw, congrArg Value.bool c1, congrArg Value.bool c2, mr, mt, congrArg Value.bool d1, congrArg Value.bool d2, trivial⟩ trivial (by kernel_rfl) hS (by kernel_rfl)
          · have he : errC ⟨es, c, cyc, per, sh, hs, oc7, hb1, hb2⟩ t = 2 := errC_is pL pH pT
            have ml := line_m (c := c) hb1 (show lineS (chkG es cyc) per sh = true from pL) 11
            have mrl := rline_m (c := c) hb1 (show lineS (chkG es cyc) per sh = true from pL) 11
            have mh := heads_m (c := oc7) hb2 pH 10 11
            have mrh := rheads_m (c := oc7) pH 10 11
            have mw := want_m ⟨es, c, cyc, per, sh, hs, oc7, hb1, hb2⟩ t he 9 11
            have mm := MayE_m ⟨es, c, cyc, per, sh, hs, oc7, hb1, hb2⟩ cls t he rfl 9 11
            have ms := StartE_m ⟨es, c, cyc, per, sh, hs, oc7, hb1, hb2⟩ t he rfl 9 11
            exact memo_pure (hs := [(17, .call _), (22, .call _), (26, .call _), (28, .call _), (41, .call _), (43, .call _), (60, .call _), (67, .call _), (73, .call _)]) (ch := []) 11 (evk 50) special ⟨wakes_m 3, mf, ml, mrl, mh, mrh, mm, ms, mw, trivial⟩ trivial (by kernel_rfl) hS (by kernel_rfl)
end Go.Proofs.Ytjconcfkpgkbkaa.choose
namespace Go.Proofs.Ytjconcfkpgkbkaa.chooseStarts
open Go Go.En Go.ChangeShapes Go.WideShapes Go.ChangeAt Go.RowKit
set_option linter.unusedVariables false
theorem own : ownKnob Try.prog.godebug = none := by kernel_rfl
set_option maxRecDepth 100000 in
theorem lifted (os : Os) (started : os.Started) (H : Type) (enc : TypeId × Value → H) :
    ReturnsInHanded {} Try.checked os 3 .any (Rows.chooseStartsSpec.pre6 enc Try.prog Try.f3 Rows.chooseStartsRow.domain false) (Rows.chooseStartsSpec.post enc Try.prog Try.f3 false true false false) := by
  refine returnsInHanded_of_change_shaped (C := Try.checked) own started (by kernel_rfl) Try.func3
    (ChangeSpec.witness6 (enc := enc) (C := Try.checked) false ⟨#[], #[choose.lvS none 0 0 0 0 0, .slice none 0 0, .int .i64 0, .int .i64 0], []⟩ 8 (by kernel_rfl) (by kernel_rfl) (by kernel_rfl) (by kernel_rfl)) ?_
  intro W base args ds gs before hval0 hW hcnd _ hsh _
  have hval : ∀ (j : Nat) t v, Try.f3.params[j]? = some t → args[j]? = some v → Value.okWide Try.prog W .any base t v := hval0
  have hW2 := hW
  obtain ⟨p, q, hA0, hV, rfl, hfz, hnd⟩ := hW2
  have hA : DataW.TrodAll enc Try.prog W 0 (fun _ => true) true Try.f3.params.toList args.toList ds p := hA0
  rw [Try.params3] at hA hval
  obtain ⟨v0, v1, v2, v3, d0, d1, d2, d3, p0, p1, p2, p3, rfl, rfl, rfl, h0, h1, h2, h3⟩ := trodAll_four hA
  obtain ⟨x, rfl, _, _, _⟩ := open_int Try.underlying3 (hval 2 3 v2 rfl rfl) h2
  obtain ⟨y, rfl, _, _, _⟩ := open_int Try.underlying3 (hval 3 3 v3 rfl rfl) h3
  obtain ⟨rfl, rfl⟩ := trodVars_none hV
  have hwalk := choose.calls_lh (f := 3) (rest := [.int .i64 x, .int .i64 y]) (choose.first_block hsh) (hval 0 26 v0 rfl rfl) h0 (hval 1 27 v1 rfl rfl) h1 (fun φ => ⟨.int _ _, .int _ _, trivial⟩) (fun Y => choose.starts_Y Y x y)
  refine hwalk.mono fun e W' ⟨he, hb⟩ => ?_
  subst he
  exact ⟨_, rfl, law_post rfl (by kernel_rfl) (by kernel_rfl) rfl Try.underlying4 hW rfl rfl rfl hb⟩
theorem over : Rows.chooseStartsRow.holds Try.pinned (OpenSpec.ofChange Rows.chooseStartsSpec) :=
  OpenClaim.holds_of_wide 3 Try.f3 rfl rfl rfl rfl rfl rfl rfl ⟨rfl, rfl, rfl, rfl, rfl⟩ rfl rfl rfl rfl rfl (by kernel_rfl) Try.func3 (by kernel_rfl)
    (of_decide_eq_true (by kernel_rfl)) (by unfold Func.isWrapper; first | (rw [if_pos (by decide +kernel)]; kernel_rfl) | (rw [if_neg (by decide +kernel)]; exact ⟨rfl, rfl⟩))
    (fun os started H enc _ => lifted os started H enc)
theorem proved : Rows.ChooseStartsSaid := over
#print axioms proved
end Go.Proofs.Ytjconcfkpgkbkaa.chooseStarts
