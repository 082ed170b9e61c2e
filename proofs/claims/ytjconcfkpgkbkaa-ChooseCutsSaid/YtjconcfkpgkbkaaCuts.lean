/- ChooseCuts returns true for every line, heads and numbers, and its arguments read as before. No condition. -/
import Derived.Test.YtjconcfkpgkbkaaChN
namespace Go.Proofs.Ytjconcfkpgkbkaa.choose
open Go Go.En
set_option linter.unusedVariables false

theorem line_bounds {X : Cx} (h : lineX X = true) : 1 ≤ X.per ∧ X.per ≤ 1000 ∧ -1000 ≤ X.sh ∧ X.sh ≤ 1000 := by
  unfold lineX lineS at h
  simp only [Bool.and_eq_true, Bool.not_eq_true', Bool.or_eq_false_iff, decide_eq_false_iff_not] at h
  omega
/-- The numbers of a preemption. -/
structure Num (X : Cx) (o b t k E R : Int) : Prop where
  k64 : 64 ≤ k
  ko : k + 64 ≤ o
  E_ : E = b + (k + 24) * X.per
  R_ : R = o - k + 24
  lo : t - b ≤ k * X.per
  hi : k = 64 ∨ k * X.per ≤ t - b + X.per - 1
  kt : k ≤ 1542
theorem num_of {X : Cx} {o b t : Int} (he : errC X t = 0) (hb : badP X o b t = false) (h6 : decide (W (o - kW X b t) < 64) = false) : Num X o b t (kW X b t) (endW X b (kW X b t)) (restW o (kW X b t)) := by
  obtain ⟨_, _, t0, t1⟩ := errC_ok he
  obtain ⟨p1, p2, _, _⟩ := line_bounds (errC_heads he).2
  unfold badP at hb
  simp only [Bool.or_eq_false_iff, decide_eq_false_iff_not] at hb
  obtain ⟨h1, h2, h3, h4, h5⟩ := hb
  have hq : quoW X b t = (t - b + X.per - 1).tdiv X.per := by
    unfold quoW
    rw [W_id (a := t - b) (by omega), W_id (a := t - b + X.per) (by omega), W_id (a := t - b + X.per - 1) (by omega)]
    have a1 := Int.tdiv_le_self X.per (show 0 ≤ t - b + X.per - 1 by omega)
    have a2 : 0 ≤ (t - b + X.per - 1).tdiv X.per := Int.tdiv_nonneg (by omega) (by omega)
    exact W_id (by omega)
  have a1 : (t - b + X.per - 1).tdiv X.per * X.per ≤ t - b + X.per - 1 := by
    have := Int.mul_tdiv_add_tmod (t - b + X.per - 1) X.per
    have h := Int.tmod_nonneg X.per (show 0 ≤ t - b + X.per - 1 by omega)
    rw [Int.mul_comm] at this
    omega
  have a2 : t - b ≤ (t - b + X.per - 1).tdiv X.per * X.per := by
    have := Int.mul_tdiv_add_tmod (t - b + X.per - 1) X.per
    have h := Int.tmod_lt_of_pos (t - b + X.per - 1) (show 0 < X.per by omega)
    rw [Int.mul_comm] at this
    omega
  have a3 : 0 ≤ (t - b + X.per - 1).tdiv X.per := Int.tdiv_nonneg (by omega) (by omega)
  have a4 := Int.tdiv_le_self X.per (show 0 ≤ t - b + X.per - 1 by omega)
  have hkk : kW X b t = max 64 ((t - b + X.per - 1).tdiv X.per) := by
    unfold kW
    rw [hq]
    split <;> omega
  generalize (t - b + X.per - 1).tdiv X.per = q at a1 a2 a3 a4 hkk
  have k64 : 64 ≤ kW X b t := by omega
  have kle : kW X b t ≤ 549755815000 := by omega
  simp only [decide_eq_false_iff_not] at h6
  rw [W_id (a := o - kW X b t) (by omega)] at h6
  have ko : kW X b t + 64 ≤ o := by omega
  have m0 : 64 * X.per ≤ kW X b t * X.per := Int.mul_le_mul_of_nonneg_right k64 (by omega)
  refine ⟨k64, ko, ?_, ?_, ?_, ?_, by omega⟩
  · unfold endW
    have e1 : W (kW X b t + 24) = kW X b t + 24 := W_id (by omega)
    have b1 : (kW X b t + 24) * X.per ≤ 1600 * 1000 := by
      have := Int.mul_le_mul_of_nonneg_right (show kW X b t + 24 ≤ 1600 by omega) (show 0 ≤ X.per by omega)
      omega
    have b2 : 0 ≤ (kW X b t + 24) * X.per := Int.mul_nonneg (by omega) (by omega)
    rw [e1, W_id (a := (kW X b t + 24) * X.per) (by omega), W_id (by omega)]
  · unfold restW
    rw [W_id (a := o - kW X b t) (by omega), W_id (by omega)]
  · have : q * X.per ≤ kW X b t * X.per := Int.mul_le_mul_of_nonneg_right (by omega) (by omega)
    omega
  · by_cases h : kW X b t = 64
    · exact .inl h
    · right
      have : kW X b t = q := by omega
      rw [this]; exact a1
theorem cuts_Y (Y : Raw) (o b t : Int) : Memo.Ok Try.prog ⟨8, 2, [Y.lv, Y.hv, .int .i64 o, .int .i64 b, .int .i64 t], Y.V, .bool true, [], 2⟩ := by
  have hS := Y.smallH 2
  by_cases h0 : Y.m = 0
  · have mf := Y.few0 h0 3
    have hnil := Y.hs_nil h0
    obtain ⟨sa, n, c, cyc, per, sh, es, sb, m, k, hs, ha, hn, hc, hE, hb, hm, hk, hh⟩ := Y
    simp only at h0 hnil
    subst h0
    subst hnil
    rcases ha with ⟨rfl, rfl⟩ | rfl
    · obtain rfl : es = [] := List.length_eq_zero_iff.1 (by simpa using hE)
      have ms := PreN c 0 0 cyc per sh o b t 7 11
      rcases hb with ⟨rfl, _⟩ | rfl <;>
        exact memo_pure (hs := [(19, .call _), (24, .call _), (33, .call _)]) (ch := []) 11 (evk 50) special ⟨wakes_m 3, mf, ms, trivial⟩ trivial (by kernel_rfl) hS (by kernel_rfl)
    · have hne := errC_none (X := ⟨es, c, cyc, per, sh, [], 0, by omega, by simp⟩) rfl t
      have ms := PreE_m ⟨es, c, cyc, per, sh, [], 0, by omega, by simp⟩ o b t rfl hne 6 11
      generalize errC ⟨es, c, cyc, per, sh, [], 0, by omega, by simp⟩ t = e at hne ms
      rcases hb with ⟨rfl, _⟩ | rfl <;>
        exact memo_pure (hs := [(19, .call _), (24, .call _), (33, .call _), (38, .val (.bool (e != 0)) (.bool true))]) (ch := []) 11 (evk 50) special ⟨wakes_m 3, mf, ms, congrArg Value.bool hne, trivial⟩ trivial (by kernel_rfl) hS (by kernel_rfl)
  · have mf := Y.few (by omega) 3
    have hsb := Y.pos_sb (by omega)
    obtain ⟨sa, n, c, cyc, per, sh, es, sb, m, k, hs, ha, hn, hc, hE, hb, hm, hk, hh⟩ := Y
    simp only at h0 hsb
    subst hsb
    rcases ha with ⟨rfl, rfl⟩ | rfl
    · obtain rfl : es = [] := List.length_eq_zero_iff.1 (by simpa using hE)
      have ms := PreN c hs.length oc7 cyc per sh o b t 10 11
      exact memo_pure (hs := [(19, .call _), (24, .call _), (33, .call _)]) (ch := []) 11 (evk 50) special ⟨wakes_m 3, mf, ms, trivial⟩ trivial (by kernel_rfl) hS (by kernel_rfl)
    · have hb1 : es.length ≤ 1000 := by omega
      have hb2 : hs.length ≤ 1000 := by omega
      cases he0 : (errC ⟨es, c, cyc, per, sh, hs, oc7, hb1, hb2⟩ t != 0) with
      | true =>
        have ms := PreE_m ⟨es, c, cyc, per, sh, hs, oc7, hb1, hb2⟩ o b t rfl he0 9 11
        generalize errC ⟨es, c, cyc, per, sh, hs, oc7, hb1, hb2⟩ t = e at he0 ms
        exact memo_pure (hs := [(19, .call _), (24, .call _), (33, .call _), (38, .val (.bool (e != 0)) (.bool true))]) (ch := []) 11 (evk 50) special ⟨wakes_m 3, mf, ms, congrArg Value.bool he0, trivial⟩ trivial (by kernel_rfl) hS (by kernel_rfl)
      | false =>
        have he : errC ⟨es, c, cyc, per, sh, hs, oc7, hb1, hb2⟩ t = 0 := by simpa using he0
        cases hbad : badP ⟨es, c, cyc, per, sh, hs, oc7, hb1, hb2⟩ o b t with
        | true =>
          have ms := PreA_m _ he hbad 9 11
          exact memo_pure (hs := [(19, .call _), (24, .call _), (33, .call _)]) (ch := []) 11 (evk 50) special ⟨wakes_m 3, mf, ms, trivial⟩ trivial (by kernel_rfl) hS (by kernel_rfl)
        | false =>
          obtain ⟨p1, p2, _, _⟩ := line_bounds (errC_heads he).2
          obtain ⟨_, _, t0, t1⟩ := errC_ok he
          simp only at p1 p2
          have hper : (⟨es, c, cyc, per, sh, hs, oc7, hb1, hb2⟩ : Cx).per ≠ 0 := by show per ≠ 0; omega
          cases hg : preS ⟨es, c, cyc, per, sh, hs, oc7, hb1, hb2⟩ o (kW ⟨es, c, cyc, per, sh, hs, oc7, hb1, hb2⟩ b t) (endW ⟨es, c, cyc, per, sh, hs, oc7, hb1, hb2⟩ b (kW ⟨es, c, cyc, per, sh, hs, oc7, hb1, hb2⟩ b t)) with
          | false =>
            have ms := PreY_m _ he hper hbad hg 9 11
            exact memo_pure (hs := [(19, .call _), (24, .call _), (33, .call _)]) (ch := []) 11 (evk 50) special ⟨wakes_m 3, mf, ms, trivial⟩ trivial (by kernel_rfl) hS (by kernel_rfl)
          | true =>
            have ms := PreY_m _ he hper hbad hg 9 11
            unfold preS at hg
            simp only [Bool.and_eq_true, Bool.not_eq_true'] at hg
            have hN := num_of he hbad hg.1
            have hcut := hg.2
            clear hg
            generalize restW o (kW ⟨es, c, cyc, per, sh, hs, oc7, hb1, hb2⟩ b t) = R at hN ms
            generalize endW ⟨es, c, cyc, per, sh, hs, oc7, hb1, hb2⟩ b (kW ⟨es, c, cyc, per, sh, hs, oc7, hb1, hb2⟩ b t) = E at hN ms hcut
            generalize kW ⟨es, c, cyc, per, sh, hs, oc7, hb1, hb2⟩ b t = q at hN
            obtain ⟨k64, ko, eE, eR, lo, hi, kt⟩ := hN
            simp only at eE lo hi
            unfold badP at hbad
            simp only [Bool.or_eq_false_iff, decide_eq_false_iff_not] at hbad
            obtain ⟨o1, o2, o3, o4, o5⟩ := hbad
            have hex : (q + 24) * per = q * per + 24 * per := Int.add_mul q 24 per
            have hA : q * per + 64 * per ≤ o * per := by
              have := Int.mul_le_mul_of_nonneg_right (show q + 64 ≤ o from ko) (show 0 ≤ per by omega)
              rw [Int.add_mul] at this
              exact this
            have hB : o * per ≤ 1542 * 1000 := by
              have := Int.mul_le_mul_of_nonneg_right (show o ≤ 1542 by omega) (show 0 ≤ per by omega)
              omega
            have hC : 64 * per ≤ q * per := Int.mul_le_mul_of_nonneg_right k64 (by omega)
            have wq : W (W (o + 24) - R) = q := by
              rw [W_id (a := o + 24) (by omega), W_id (by omega)]; omega
            have d1 : decide (W (W (o + 24) - R) < 64) = false := by rw [wq]; exact decide_eq_false (by omega)
            have d2 : decide (o < 128) = false := decide_eq_false (by omega)
            have d3 : decide (R < 88) = false := decide_eq_false (by omega)
            have d4 : decide (R > W (W (o - 64) + 24)) = false := by
              rw [W_id (a := o - 64) (by omega), W_id (by omega)]; exact decide_eq_false (by omega)
            have d5 : (E != W (b + W (W (W (W (o + 24) - R) + 24) * per))) = false := by
              rw [wq, W_id (a := q + 24) (by omega), W_id (a := (q + 24) * per) (by omega), W_id (by omega), eE]
              simp
            have d6 : decide (E ≥ W (b + W (o * per))) = false := by
              rw [W_id (a := o * per) (by omega), W_id (by omega)]; exact decide_eq_false (by omega)
            have d7 : decide (E < t) = false := decide_eq_false (by omega)
            have w25 : W (t + W (25 * per)) = t + 25 * per := by rw [W_id (a := 25 * per) (by omega), W_id (by omega)]
            have w88 : W (b + W (88 * per)) = b + 88 * per := by rw [W_id (a := 88 * per) (by omega), W_id (by omega)]
            have e8 : (if (549755813888 : Int) < E then 549755813888 else E) = min E 549755813888 := by split <;> omega
            have he2 : errC ⟨es, c, cyc, per, sh, hs, oc7, hb1, hb2⟩ (min E 549755813888) = 0 := by
              unfold errC
              rw [(errC_heads he).2, (errC_heads he).1, show lateS (min E 549755813888) = false by unfold lateS; simp only [Bool.or_eq_false_iff, decide_eq_false_iff_not]; omega]
              rfl
            have key : ∀ q1 q2 p6 p7, decide (E > W (b + W (88 * per))) = q1 → decide (E > 549755813888) = q2 → mayS ⟨es, c, cyc, per, sh, hs, oc7, hb1, hb2⟩ 6 (min E 549755813888) = p6 → mayS ⟨es, c, cyc, per, sh, hs, oc7, hb1, hb2⟩ 7 (min E 549755813888) = p7 → (q2 || (p6 || p7)) = true →
                Memo.Ok Try.prog ⟨8, 2, [lvS (some ⟨0, 0, none⟩) n c cyc per sh, .slice (some ⟨1, 0, none⟩) m k, .int .i64 o, .int .i64 b, .int .i64 t], [(0, ecs es), (1, pcs hs)], .bool true, [], 2⟩ := by
              intro q1 q2 p6 p7 g1 g2 g3 g4 g5
              have m6 := MayY_m _ he2 (i := 6) (by omega) g3 9 12
              have m7 := MayY_m _ he2 (i := 7) (by omega) g4 9 13
              cases q1
              · cases q2 <;> cases p6 <;> cases p7 <;> first
                  | (cases g5; done)
                  | exact memo_pure (hs := [(19, .call _), (24, .call _), (33, .call _), (50, .val (.bool (decide (W (W (o + 24) - R) < 64))) (.bool false)), (53, .val (.bool (decide (o < 128))) (.bool false)), (57, .val (.bool (decide (R < 88))) (.bool false)), (64, .val (.bool (decide (R > W (W (o - 64) + 24)))) (.bool false)), (74, .val (.bool (E != W (b + W (W (W (W (o + 24) - R) + 24) * per)))) (.bool false)), (83, .val (.bool (decide (E ≥ W (b + W (o * per))))) (.bool false)), (88, .val (.bool (decide (E < t))) (.bool false)), (97, .val (.bool (decide (E > W (b + W (88 * per))))) (.bool false)), (112, .val (.int .i64 (if (549755813888 : Int) < E then 549755813888 else E)) (.int .i64 (min E 549755813888))), (113, .call _), (120, .val (.int .i64 (if (549755813888 : Int) < E then 549755813888 else E)) (.int .i64 (min E 549755813888))), (121, .call _), (125, .val (.bool (decide (E > 549755813888))) (.bool _))]) (ch := []) 13 (evk 50) special
                      ⟨wakes_m 3, mf, ms, congrArg Value.bool d1, congrArg Value.bool d2, congrArg Value.bool d3, congrArg Value.bool d4, congrArg Value.bool d5, congrArg Value.bool d6, congrArg Value.bool d7, congrArg Value.bool g1, congrArg (Value.int .i64) e8, m6, congrArg (Value.int .i64) e8, m7, congrArg Value.bool g2, trivial⟩ trivial (by kernel_rfl) hS (by kernel_rfl)
              · have d9 : decide (E ≥ W (t + W (25 * per))) = false := by
                  rw [w25]
                  rw [w88] at g1
                  simp only [decide_eq_true_eq] at g1
                  refine decide_eq_false ?_
                  rcases hi with rfl | hi <;> omega
                cases q2 <;> cases p6 <;> cases p7 <;> first
                  | (cases g5; done)
                  | exact memo_pure (hs := [(19, .call _), (24, .call _), (33, .call _), (50, .val (.bool (decide (W (W (o + 24) - R) < 64))) (.bool false)), (53, .val (.bool (decide (o < 128))) (.bool false)), (57, .val (.bool (decide (R < 88))) (.bool false)), (64, .val (.bool (decide (R > W (W (o - 64) + 24)))) (.bool false)), (74, .val (.bool (E != W (b + W (W (W (W (o + 24) - R) + 24) * per)))) (.bool false)), (83, .val (.bool (decide (E ≥ W (b + W (o * per))))) (.bool false)), (88, .val (.bool (decide (E < t))) (.bool false)), (97, .val (.bool (decide (E > W (b + W (88 * per))))) (.bool true)), (105, .val (.bool (decide (E ≥ W (t + W (25 * per))))) (.bool false)), (112, .val (.int .i64 (if (549755813888 : Int) < E then 549755813888 else E)) (.int .i64 (min E 549755813888))), (113, .call _), (120, .val (.int .i64 (if (549755813888 : Int) < E then 549755813888 else E)) (.int .i64 (min E 549755813888))), (121, .call _), (125, .val (.bool (decide (E > 549755813888))) (.bool _))]) (ch := []) 13 (evk 50) special
                      ⟨wakes_m 3, mf, ms, congrArg Value.bool d1, congrArg Value.bool d2, congrArg Value.bool d3, congrArg Value.bool d4, congrArg Value.bool d5, congrArg Value.bool d6, congrArg Value.bool d7, congrArg Value.bool g1, congrArg Value.bool d9, congrArg (Value.int .i64) e8, m6, congrArg (Value.int .i64) e8, m7, congrArg Value.bool g2, trivial⟩ trivial (by kernel_rfl) hS (by kernel_rfl)
            refine key _ _ _ _ rfl rfl rfl rfl ?_
            by_cases hE2 : E > 549755813888
            · rw [decide_eq_true hE2]; rfl
            · have hm : min E 549755813888 = E := by omega
              rw [hm]
              unfold cutS cutP at hcut
              have f6 : ∀ Z : Cx, freeS Z 6 = true := fun Z => rfl
              have f7 : ∀ Z : Cx, freeS Z 7 = true := fun Z => rfl
              unfold mayS
              rw [f6, f7]
              simp only [Bool.true_and]
              rw [Bool.or_comm (fullS _ 6 && _)]
              rw [hcut]
              simp
end Go.Proofs.Ytjconcfkpgkbkaa.choose
namespace Go.Proofs.Ytjconcfkpgkbkaa.chooseCuts
open Go Go.En Go.ChangeShapes Go.WideShapes Go.ChangeAt Go.RowKit
set_option linter.unusedVariables false
theorem own : ownKnob Try.prog.godebug = none := by kernel_rfl
set_option maxRecDepth 100000 in
theorem lifted (os : Os) (started : os.Started) (H : Type) (enc : TypeId × Value → H) :
    ReturnsInHanded {} Try.checked os 8 .any (Rows.chooseCutsSpec.pre6 enc Try.prog Try.f8 Rows.chooseCutsRow.domain false) (Rows.chooseCutsSpec.post enc Try.prog Try.f8 false true false false) := by
  refine returnsInHanded_of_change_shaped (C := Try.checked) own started (by kernel_rfl) Try.func8
    (ChangeSpec.witness6 (enc := enc) (C := Try.checked) false ⟨#[], #[choose.lvS none 0 0 0 0 0, .slice none 0 0, .int .i64 0, .int .i64 0, .int .i64 0], []⟩ 8 (by kernel_rfl) (by kernel_rfl) (by kernel_rfl) (by kernel_rfl)) ?_
  intro W base args ds gs before hval0 hW hcnd _ hsh _
  have hval : ∀ (j : Nat) t v, Try.f8.params[j]? = some t → args[j]? = some v → Value.okWide Try.prog W .any base t v := hval0
  have hW2 := hW
  obtain ⟨p, q, hA0, hV, rfl, hfz, hnd⟩ := hW2
  have hA : DataW.TrodAll enc Try.prog W 0 (fun _ => true) true Try.f8.params.toList args.toList ds p := hA0
  rw [Try.params8] at hA hval
  obtain ⟨v0, v1, v2, v3, v4, d0, d1, d2, d3, d4, p0, p1, p2, p3, p4, rfl, rfl, rfl, h0, h1, h2, h3, h4⟩ := choose.trod5 hA
  obtain ⟨x, rfl, _, _, _⟩ := open_int Try.underlying3 (hval 2 3 v2 rfl rfl) h2
  obtain ⟨y, rfl, _, _, _⟩ := open_int Try.underlying3 (hval 3 3 v3 rfl rfl) h3
  obtain ⟨z, rfl, _, _, _⟩ := open_int Try.underlying3 (hval 4 3 v4 rfl rfl) h4
  obtain ⟨rfl, rfl⟩ := trodVars_none hV
  have hwalk := choose.calls_lh (f := 8) (rest := [.int .i64 x, .int .i64 y, .int .i64 z]) (choose.first_block hsh) (hval 0 26 v0 rfl rfl) h0 (hval 1 27 v1 rfl rfl) h1 (fun φ => ⟨.int _ _, .int _ _, .int _ _, trivial⟩) (fun Y => choose.cuts_Y Y x y z)
  refine hwalk.mono fun e W' ⟨he, hb⟩ => ?_
  subst he
  exact ⟨_, rfl, law_post rfl (by kernel_rfl) (by kernel_rfl) rfl Try.underlying4 hW rfl rfl rfl hb⟩
theorem over : Rows.chooseCutsRow.holds Try.pinned (OpenSpec.ofChange Rows.chooseCutsSpec) :=
  OpenClaim.holds_of_wide 8 Try.f8 rfl rfl rfl rfl rfl rfl rfl ⟨rfl, rfl, rfl, rfl, rfl⟩ rfl rfl rfl rfl rfl (by kernel_rfl) Try.func8 (by kernel_rfl)
    (of_decide_eq_true (by kernel_rfl)) (by unfold Func.isWrapper; first | (rw [if_pos (by decide +kernel)]; kernel_rfl) | (rw [if_neg (by decide +kernel)]; exact ⟨rfl, rfl⟩))
    (fun os started H enc _ => lifted os started H enc)
theorem proved : Rows.ChooseCutsSaid := over
#print axioms proved
end Go.Proofs.Ytjconcfkpgkbkaa.chooseCuts
