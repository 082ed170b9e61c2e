/- QueuePops returns true for every queue and part, and its arguments read as before. No condition. -/
import Derived.Test.YtddhglcmfoopnaaFnS
import Derived.WalkKit
import Derived.ProofKit
namespace Go.Proofs.Ytddhglcmfoopnaa.queue
open Go Go.En
set_option linter.unusedVariables false

theorem pops_0 {cs : List Value} {off c : Nat} {cap : Int} {x : Pt} (hs : avL cs = true) {l : List Pt} (hn : l.length ≤ c) (hc : c < openCap) (hh : Holds cs off l) :
    Memo.Ok Try.prog ⟨5, 1, [qv cap 0 off l.length c, x.v], [(0, cs)], .bool true, [], 1⟩ := by
  have hS : smallH 1 [(0, cs)] = true := by simp [smallH, small_avL hs]
  have m1 := few_l (cap := cap) (off := off) hn hc hs 0 3
  have hh' := holds_take hh 60
  have hm : (l.take 60).length ≤ 60 := by simp; omega
  have hm2 : (l.take 60).length ≤ c := by simp; omega
  generalize l.take 60 = m at m1 hh' hm hm2
  have hm' : m.length < 9223372036854775807 := by omega
  have z1 := fun xo yo => (eqPt_refl zp) ▸ (eql_pt zp zp xo yo).1
  have z2 := fun xo yo => (eqPt_refl zp) ▸ (eql_pt zp zp xo yo).2
  have key : ∀ p1 p2, checkS cap m = p1 → partC x = p2 → Memo.Ok Try.prog ⟨5, 1, [qv cap 0 off l.length c, x.v], [(0, cs)], .bool true, [], 1⟩ := by
    intro p1 p2 h1 h2
    have m2 := head_m (c := c) hs hm' hh' h1 0 4
    have m3 := pop_m (c := c) hs hm' hh' h1 (fun h => slc_1 h hm2 hc) 0 5
    cases p1 with
    | false =>
      have m4 := return_noM (c := c) hs hm' hh' h1 h2 rfl rfl 7
      have m5 := right_m (c := c) hs hm' hh' h1 0 8
      have m6 := same_nm (a := 0) (b := 0) rfl 8
      obtain ⟨⟨x1, x2, x3, x4, x5⟩, x6, x7⟩ := x
      cases m <;>
        exact memo_pure (hs := [(14, .call _), (17, .call _), (20, .call _), (25, .call _), (32, .call _), (36, .call _), (40, .bin .eql 28 _ _ _), (48, .call _), (53, .bin .eql 28 _ _ _), (62, .call _)]) (ch := []) 8 (evk 50) special ⟨wakes_m 3, m1, m2, m3, m4, m5, z1, m6, z1, m6, trivial⟩ trivial (by kernel_rfl) hS (by kernel_rfl)
    | true =>
      cases m with
      | nil =>
        cases p2 with
        | false =>
          have m4 := return_noM (c := c) hs hm' hh' h1 h2 rfl rfl 7
          have m5 := right_m (c := c) hs hm' hh' h1 0 8
          have m6 := same_nm (a := 0) (b := 0) rfl 8
          have m7 := partR_m x (part_eq x ▸ h2) 9
          have m8 := same_nm (a := 0) (b := 0) rfl 9
          obtain ⟨⟨x1, x2, x3, x4, x5⟩, x6, x7⟩ := x
          exact memo_pure (hs := [(14, .call _), (17, .call _), (20, .call _), (25, .call _), (32, .call _), (36, .call _), (74, .bin .neq 28 _ _ _), (81, .call _), (87, .bin .neq 28 _ _ _), (124, .call _), (137, .call _)]) (ch := []) 9 (evk 50) special ⟨wakes_m 3, m1, m2, m3, m4, m5, z2, m8, z2, m7, m8, trivial⟩ trivial (by kernel_rfl) hS (by kernel_rfl)
        | true =>
          cases hr : x.rest with
          | false =>
            have m4 := return_noM (c := c) hs hm' hh' h1 h2 (show (!x.rest || restS []) = true by rw [hr]; rfl) rfl 7
            have m5 := right_m (c := c) hs hm' hh' h1 0 8
            have m7 := partR_m x (part_eq x ▸ h2) 9
            have m8 := same_nm (a := 0) (b := 0) rfl 9
            obtain ⟨⟨x1, x2, x3, x4, x5⟩, x6, x7⟩ := x
            cases hr
            exact memo_pure (hs := [(14, .call _), (17, .call _), (20, .call _), (25, .call _), (32, .call _), (36, .call _), (74, .bin .neq 28 _ _ _), (81, .call _), (87, .bin .neq 28 _ _ _), (124, .call _), (137, .call _)]) (ch := []) 9 (evk 50) special ⟨wakes_m 3, m1, m2, m3, m4, m5, z2, m8, z2, m7, m8, trivial⟩ trivial (by kernel_rfl) hS (by kernel_rfl)
          | true =>
            have m4 := return_oneM (c := c) (off := off) hs h1 h2 hr 7
            have m5 := right_m (c := c) hs hm' hh' h1 0 14
            have m8 := same_nm (a := 0) (b := 0) rfl 15
            have m7 := partR_m x (part_eq x ▸ h2) 15
            have m9 := rest_m (c := c) (cap := cap) hs hm' hh' 0 15
            have m10 := returnR_oneM (cs := cs) (off := off) (c := c) (cap := cap) (p := x) hs 15
            have m11 := same_m (cap := cap) (ka := 1) (kb := 1) (avL_pcs [x]) (avL_pcs [x]) (l := [x]) (by simp) (holds_0 _) (holds_0 _) (na := 1) (nb := 1) (by simp) (by simp) 11 18 20 (by omega)
            obtain ⟨⟨x1, x2, x3, x4, x5⟩, x6, x7⟩ := x
            cases hr
            exact memo_pure (hs := [(14, .call _), (17, .call _), (20, .call _), (25, .call _), (32, .call _), (36, .call _), (74, .bin .neq 28 _ _ _), (81, .call _), (87, .bin .neq 28 _ _ _), (124, .call _), (131, .call _), (146, .call _), (147, .call _)]) (ch := []) 20 (evk 50) special ⟨wakes_m 3, m1, m2, m3, m4, m5, z2, m8, z2, m7, m9, m10, m11, trivial⟩ trivial (by kernel_rfl) hS (by kernel_rfl)
      | cons q m =>
        have e2 := fun xo yo => (eqPt_refl q) ▸ (eql_pt q q xo yo).2
        have t := holds_pop hh' hm2
        have hc9 := slc_1 (off := off) (n := (q :: m).length) (c := c) (by simp) hm2 hc
        have hne : ((((q :: m).length : Nat) : Int) == 0) = false := by simp; omega
        cases p2 with
        | false =>
          have m4 := return_noM (c := c) hs hm' hh' h1 h2 rfl rfl 7
          have m5 := right_m (c := c) hs hm' hh' h1 0 8
          have m7 := partR_m x (part_eq x ▸ h2) 9
          have m8 := same_nm (a := 0) (b := 0) rfl 9
          have m9 := same_m1 (cap := cap) (ka := c - 1) (kb := c - 1) hs (l := m) (by simp at hm; omega) t rfl rfl 0 9
          have l0 := ld28 (ro := true) (b := 0) (holds_hd hh')
          obtain ⟨⟨x1, x2, x3, x4, x5⟩, x6, x7⟩ := x
          obtain ⟨⟨y1, y2, y3, y4, y5⟩, y6, y7⟩ := q
          exact memo_pure (hs := [(14, .call _), (17, .call _), (20, .call _), (25, .call _), (32, .call _), (36, .call _), (71, .val (.bool ((((Pt.mk ⟨y1, y2, y3, y4, y5⟩ y6 y7 :: m).length : Nat) : Int) == 0)) (.bool false)), (96, .ix 22 (.slice (some ⟨0, off, none⟩) (Pt.mk ⟨y1, y2, y3, y4, y5⟩ y6 y7 :: m).length c) (.int .i64 (0 : Nat)) _), (97, .ld 28 _ 0 cs true _), (98, .bin .neq 28 _ _ _), (109, .slc 22 _ (some (.int .i64 1)) none none _), (111, .call _), (117, .bin .neq 28 _ _ _), (124, .call _), (137, .call _)]) (ch := []) 9 (evk 50) special
            ⟨wakes_m 3, m1, m2, m3, m4, m5, congrArg Value.bool hne, ix22 (by simp), ⟨l0, _, rfl⟩, e2, hc9, m9, e2, m7, m8, trivial⟩ trivial (by kernel_rfl) hS (by kernel_rfl)
        | true =>
          cases hr : (!x.rest || q.rest) with
          | true =>
            have m4 := return_noM (c := c) hs hm' hh' h1 h2 (show (!x.rest || restS (q :: m)) = true from hr) rfl 7
            have m5 := right_m (c := c) hs hm' hh' h1 0 8
            have m7 := partR_m x (part_eq x ▸ h2) 9
            have m8 := same_nm (a := 0) (b := 0) rfl 9
            have m9 := same_m1 (cap := cap) (ka := c - 1) (kb := c - 1) hs (l := m) (by simp at hm; omega) t rfl rfl 0 9
            have m12 := rest_m (c := c) (cap := cap) hs hm' hh' 0 9
            have l0 := ld28 (ro := true) (b := 0) (holds_hd hh')
            obtain ⟨⟨x1, x2, x3, x4, x5⟩, x6, x7⟩ := x
            obtain ⟨⟨y1, y2, y3, y4, y5⟩, y6, y7⟩ := q
            cases x7
            · exact memo_pure (hs := [(14, .call _), (17, .call _), (20, .call _), (25, .call _), (32, .call _), (36, .call _), (71, .val (.bool ((((Pt.mk ⟨y1, y2, y3, y4, y5⟩ y6 y7 :: m).length : Nat) : Int) == 0)) (.bool false)), (96, .ix 22 (.slice (some ⟨0, off, none⟩) (Pt.mk ⟨y1, y2, y3, y4, y5⟩ y6 y7 :: m).length c) (.int .i64 (0 : Nat)) _), (97, .ld 28 _ 0 cs true _), (98, .bin .neq 28 _ _ _), (109, .slc 22 _ (some (.int .i64 1)) none none _), (111, .call _), (117, .bin .neq 28 _ _ _), (124, .call _), (131, .call _), (137, .call _)]) (ch := []) 9 (evk 50) special
                  ⟨wakes_m 3, m1, m2, m3, m4, m5, congrArg Value.bool hne, ix22 (by simp), ⟨l0, _, rfl⟩, e2, hc9, m9, e2, m7, m12, m8, trivial⟩ trivial (by kernel_rfl) hS (by kernel_rfl)
            · obtain rfl : y7 = true := by simpa using hr
              exact memo_pure (hs := [(14, .call _), (17, .call _), (20, .call _), (25, .call _), (32, .call _), (36, .call _), (71, .val (.bool ((((Pt.mk ⟨y1, y2, y3, y4, y5⟩ y6 true :: m).length : Nat) : Int) == 0)) (.bool false)), (96, .ix 22 (.slice (some ⟨0, off, none⟩) (Pt.mk ⟨y1, y2, y3, y4, y5⟩ y6 true :: m).length c) (.int .i64 (0 : Nat)) _), (97, .ld 28 _ 0 cs true _), (98, .bin .neq 28 _ _ _), (109, .slc 22 _ (some (.int .i64 1)) none none _), (111, .call _), (117, .bin .neq 28 _ _ _), (124, .call _), (131, .call _), (137, .call _)]) (ch := []) 9 (evk 50) special
                  ⟨wakes_m 3, m1, m2, m3, m4, m5, congrArg Value.bool hne, ix22 (by simp), ⟨l0, _, rfl⟩, e2, hc9, m9, e2, m7, m12, m8, trivial⟩ trivial (by kernel_rfl) hS (by kernel_rfl)
          | false =>
            simp only [Bool.or_eq_false_iff, Bool.not_eq_false'] at hr
            obtain ⟨r1, r2⟩ := hr
            have m4 := return_yesM (c := c) hs (by omega) hh' h1 h2 r1 r2 7
            have m5 := right_m (c := c) hs hm' hh' h1 0 15
            have m7 := partR_m x (part_eq x ▸ h2) 16
            have m9 := same_m1 (cap := cap) (ka := c - 1) (kb := c - 1) hs (l := m) (by simp at hm; omega) t rfl rfl 0 16
            have m12 := rest_m (c := c) (cap := cap) hs hm' hh' 0 16
            have m10 := returnR_yesM (c := c) (cap := cap) (p := x) hs (by simp) (by omega) hh' 16
            have ha : avL (pcs [x] ++ pcs (q :: m)) = true := avL_app (avL_pcs _) (avL_pcs _)
            have m11 := same_m (cap := cap) (ka := oc7) (kb := oc7) ha ha (l := x :: q :: m) (by simp at hm ⊢; omega) (holds_cons _ _) (holds_cons _ _) (na := 1 + (q :: m).length) (nb := 1 + (q :: m).length) (by simp; omega) (by simp; omega) 13 20 21 (by omega)
            have l0 := ld28 (ro := true) (b := 0) (holds_hd hh')
            obtain ⟨⟨x1, x2, x3, x4, x5⟩, x6, x7⟩ := x
            obtain ⟨⟨y1, y2, y3, y4, y5⟩, y6, y7⟩ := q
            cases r1
            cases r2
            exact memo_pure (hs := [(14, .call _), (17, .call _), (20, .call _), (25, .call _), (32, .call _), (36, .call _), (71, .val (.bool ((((Pt.mk ⟨y1, y2, y3, y4, y5⟩ y6 false :: m).length : Nat) : Int) == 0)) (.bool false)), (96, .ix 22 (.slice (some ⟨0, off, none⟩) (Pt.mk ⟨y1, y2, y3, y4, y5⟩ y6 false :: m).length c) (.int .i64 (0 : Nat)) _), (97, .ld 28 _ 0 cs true _), (98, .bin .neq 28 _ _ _), (109, .slc 22 _ (some (.int .i64 1)) none none _), (111, .call _), (117, .bin .neq 28 _ _ _), (124, .call _), (131, .call _), (146, .call _), (147, .call _)]) (ch := []) 21 (evk 50) special
                  ⟨wakes_m 3, m1, m2, m3, m4, m5, congrArg Value.bool hne, ix22 (by simp), ⟨l0, _, rfl⟩, e2, hc9, m9, e2, m7, m12, m10, m11, trivial⟩ trivial (by kernel_rfl) hS (by kernel_rfl)
  exact key _ _ rfl rfl
theorem pops_nil {cap : Int} {x : Pt} : Memo.Ok Try.prog ⟨5, 0, [q0 cap, x.v], [], .bool true, [], 0⟩ := by
  have m1 := few_nm cap 2
  have z1 := fun xo yo => (eqPt_refl zp) ▸ (eql_pt zp zp xo yo).1
  have z2 := fun xo yo => (eqPt_refl zp) ▸ (eql_pt zp zp xo yo).2
  have key : ∀ p1 p2, checkS cap [] = p1 → partC x = p2 → Memo.Ok Try.prog ⟨5, 0, [q0 cap, x.v], [], .bool true, [], 0⟩ := by
    intro p1 p2 h1 h2
    have m2 : Memo.Ok Try.prog ⟨23, 3, [q0 cap], [], headV p1 [], [], 3⟩ := memo_any (head_nil h1) 3 (by kernel_rfl) rfl rfl
    have m3 : Memo.Ok Try.prog ⟨24, 4, [q0 cap], [], popV p1 cap 0 0 [], [], 4⟩ := memo_any (pop_nil h1) 4 (by kernel_rfl) rfl rfl
    cases hno : (p1 && p2 && x.rest) with
    | false =>
      have m4 : Memo.Ok Try.prog ⟨25, 6, [q0 cap, x.v], [], retNo p1 p2, [], 6⟩ := memo_any (returnN_no h1 h2 hno) 6 (by kernel_rfl) rfl rfl
      have m5 := right_nm h1 7
      have m6 := same_nm (a := 0) (b := 0) rfl 7
      have m7 := partR_m x (part_eq x ▸ h2) 8
      have m8 := same_nm (a := 0) (b := 0) rfl 8
      obtain ⟨⟨x1, x2, x3, x4, x5⟩, x6, x7⟩ := x
      cases p1
      · exact memo_pure (hs := [(14, .call _), (17, .call _), (20, .call _), (25, .call _), (32, .call _), (36, .call _), (40, .bin .eql 28 _ _ _), (48, .call _), (53, .bin .eql 28 _ _ _), (62, .call _)]) (ch := []) 7 (evk 50) special ⟨wakes_m 2, m1, m2, m3, m4, m5, z1, m6, z1, m6, trivial⟩ trivial (by kernel_rfl) rfl (by kernel_rfl)
      · cases p2
        · exact memo_pure (hs := [(14, .call _), (17, .call _), (20, .call _), (25, .call _), (32, .call _), (36, .call _), (74, .bin .neq 28 _ _ _), (81, .call _), (87, .bin .neq 28 _ _ _), (124, .call _), (137, .call _)]) (ch := []) 8 (evk 50) special ⟨wakes_m 2, m1, m2, m3, m4, m5, z2, m8, z2, m7, m8, trivial⟩ trivial (by kernel_rfl) rfl (by kernel_rfl)
        · obtain rfl : x7 = false := by simpa using hno
          exact memo_pure (hs := [(14, .call _), (17, .call _), (20, .call _), (25, .call _), (32, .call _), (36, .call _), (74, .bin .neq 28 _ _ _), (81, .call _), (87, .bin .neq 28 _ _ _), (124, .call _), (137, .call _)]) (ch := []) 8 (evk 50) special ⟨wakes_m 2, m1, m2, m3, m4, m5, z2, m8, z2, m7, m8, trivial⟩ trivial (by kernel_rfl) rfl (by kernel_rfl)
    | true =>
      simp only [Bool.and_eq_true] at hno
      obtain ⟨⟨rfl, rfl⟩, hr⟩ := hno
      have m4 := memo_0N (returnN_yes h1 h2 hr) (avL_pcs _) 6 (by kernel_rfl) rfl rfl rfl rfl
      have m5 := right_nm h1 13
      have m8 := same_nm (a := 0) (b := 0) rfl 14
      have m7 := partR_m x (part_eq x ▸ h2) 14
      have m9 : Memo.Ok Try.prog ⟨26, 14, [q0 cap], [], .bool false, [], 14⟩ := memo_any (rest_nil cap) 14 (by kernel_rfl) rfl rfl
      have m10 := memo_0N (returnNR (cap := cap) (p := x)) (avL_pcs _) 14 (by kernel_rfl) rfl rfl rfl rfl
      have m11 := same_m (cap := cap) (ka := 1) (kb := 1) (avL_pcs [x]) (avL_pcs [x]) (l := [x]) (by simp) (holds_0 _) (holds_0 _) (na := 1) (nb := 1) (by simp) (by simp) 10 17 19 (by omega)
      obtain ⟨⟨x1, x2, x3, x4, x5⟩, x6, x7⟩ := x
      cases hr
      exact memo_pure (hs := [(14, .call _), (17, .call _), (20, .call _), (25, .call _), (32, .call _), (36, .call _), (74, .bin .neq 28 _ _ _), (81, .call _), (87, .bin .neq 28 _ _ _), (124, .call _), (131, .call _), (146, .call _), (147, .call _)]) (ch := []) 19 (evk 50) special ⟨wakes_m 2, m1, m2, m3, m4, m5, z2, m8, z2, m7, m9, m10, m11, trivial⟩ trivial (by kernel_rfl) rfl (by kernel_rfl)
  exact key _ _ rfl rfl
end Go.Proofs.Ytddhglcmfoopnaa.queue
namespace Go.Proofs.Ytddhglcmfoopnaa.queuePops
open Go Go.En Go.ChangeShapes Go.WideShapes Go.ChangeAt Go.RowKit
set_option linter.unusedVariables false
theorem own : ownKnob Try.prog.godebug = none := by kernel_rfl
set_option maxRecDepth 100000 in
theorem lifted (os : Os) (started : os.Started) (H : Type) (enc : TypeId × Value → H) :
    ReturnsInHanded {} Try.checked os 5 .any (Rows.queuePopsSpec.pre6 enc Try.prog Try.f5 Rows.queuePopsRow.domain false) (Rows.queuePopsSpec.post enc Try.prog Try.f5 false true false false) := by
  refine returnsInHanded_of_change (C := Try.checked) own started (by kernel_rfl) Try.func5
    (ChangeSpec.witness6 (enc := enc) (C := Try.checked) false ⟨#[], #[queue.q0 0, queue.zp.v], []⟩ 8 (by kernel_rfl) (by kernel_rfl) (by kernel_rfl) (by kernel_rfl)) ?_
  intro W base args ds gs before hval0 hW hcnd _
  have hval : ∀ (j : Nat) t v, Try.f5.params[j]? = some t → args[j]? = some v → Value.okWide Try.prog W .any base t v := hval0
  have hW2 := hW
  obtain ⟨p, q, hA0, hV, rfl, hfz, hnd⟩ := hW2
  have hA : DataW.TrodAll enc Try.prog W 0 (fun _ => true) true Try.f5.params.toList args.toList ds p := hA0
  rw [Try.params5] at hA hval
  obtain ⟨v0, v1, d0, d1, p0, p1, rfl, rfl, rfl, h0, h1⟩ := trodAll_two hA
  obtain ⟨x, rfl⟩ := queue.open_part (hval 1 28 v1 rfl rfl) h1
  obtain ⟨rfl, rfl⟩ := trodVars_none hV
  have hwalk := queue.calls_q (f := 5) (rest := [x.v]) (hval 0 24 v0 rfl rfl) h0 (fun φ => ⟨queue.rel_part φ x, trivial⟩) (fun cap => queue.pops_nil) (fun cap c l e1 e2 => queue.pops_0 (queue.avL_pcs l) e1 e2 (queue.holds_0 l))
  refine hwalk.mono fun e W' ⟨he, hb⟩ => ?_
  subst he
  exact ⟨_, rfl, law_post rfl (by kernel_rfl) (by kernel_rfl) rfl Try.underlying4 hW rfl rfl rfl hb⟩
theorem over : Rows.queuePopsRow.holds Try.pinned (OpenSpec.ofChange Rows.queuePopsSpec) :=
  OpenClaim.holds_of_wide 5 Try.f5 rfl rfl rfl rfl rfl rfl rfl ⟨rfl, rfl, rfl, rfl, rfl⟩ rfl rfl rfl rfl rfl (by kernel_rfl) Try.func5 (by kernel_rfl)
    (of_decide_eq_true (by kernel_rfl)) (by unfold Func.isWrapper; first | (rw [if_pos (by decide +kernel)]; kernel_rfl) | (rw [if_neg (by decide +kernel)]; exact ⟨rfl, rfl⟩))
    (fun os started H enc _ => lifted os started H enc)
theorem proved : Rows.QueuePopsSaid := over
#print axioms proved
end Go.Proofs.Ytddhglcmfoopnaa.queuePops
