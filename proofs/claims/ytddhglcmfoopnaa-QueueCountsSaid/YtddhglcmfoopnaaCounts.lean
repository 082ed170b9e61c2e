/- QueueCounts returns true for every queue, item and part, and its arguments read as before. No condition. -/
import Derived.Test.YtddhglcmfoopnaaFnT
import Derived.WalkKit
import Derived.ProofKit
namespace Go.Proofs.Ytddhglcmfoopnaa.queue
open Go Go.En
set_option linter.unusedVariables false

theorem same_mix {o k : Nat} {cap : Int} {cs : List Value} (hs : avL cs = true) : Memo.Ok Try.prog ⟨20, 1, [qv cap 0 o 0 k, q0 cap], [(0, cs)], .bool true, [], 1⟩ :=
  memo_pure (hs := [(10, .val (.bool (cap != cap)) (.bool false))]) (ch := []) 6 (evk 50) special ⟨congrArg Value.bool (bne_self_eq_false cap), trivial⟩ trivial (by kernel_rfl) (by simp [smallH, small_avL hs]) (by kernel_rfl)
theorem same_mixM {o k : Nat} {cap : Int} {cs : List Value} (hs : avL cs = true) (b nx : Nat) : Memo.Ok Try.prog ⟨20, nx, [qv cap b o 0 k, q0 cap], [(b, cs)], .bool true, [], nx⟩ :=
  memo_blk (same_mix hs) hs b nx (by kernel_rfl) rfl rfl
theorem ne_of {a b : Int} (h : a = b) : (a != b) = false := by simp [h]
theorem eq_of {a b : Int} (h : a = b) : (a == b) = true := by simp [h]

theorem counts_nil {cs : List Value} {off c : Nat} {cap : Int} {i : It} {x : Pt} (hs : avL cs = true) {n0 : Nat} {m : List Pt} {q : Pt} (mf : Memo.Ok Try.prog ⟨10, 4, [qv cap 0 off n0 c], [(0, cs)], qv cap 0 off ([] : List Pt).length c, [], 4⟩) (hh' : Holds cs off ([] : List Pt)) (hm : ([] : List Pt).length ≤ 60) (hm2 : ([] : List Pt).length ≤ c) (hc : c < openCap) (h1 : checkS cap ([] : List Pt) = true) :
    Memo.Ok Try.prog ⟨7, 1, [qv cap 0 off n0 c, i.v, x.v], [(0, cs)], .bool true, [], 1⟩ := by
  have hS : smallH 1 [(0, cs)] = true := by simp [smallH, small_avL hs]
  have hm' : ([] : List Pt).length < 9223372036854775807 := by omega
  have key : ∀ p2 p3 p4 p5, itemOk i = p2 → overS cap ([] : List Pt) i = p3 → partC x = p4 → (!x.rest || restS ([] : List Pt)) = p5 → Memo.Ok Try.prog ⟨7, 1, [qv cap 0 off n0 c, i.v, x.v], [(0, cs)], .bool true, [], 1⟩ := by
    intro p2 p3 p4 p5 h2 h3 h4 h5
    cases hno : (true && p4 && !p5) with
    | false =>
      cases p2 with
      | false =>
        have mo := octets_m (c := c) hs hm' hh' h1 0 5
        have mp := push_noM (c := c) hs hm' hh' h1 h2 h3 rfl 5
        have mq := pop_m (c := c) hs hm' hh' h1 (fun h => slc_1 h hm2 hc) 0 6
        have mr := return_noM (c := c) hs hm' hh' h1 h4 h5 hno 8
        obtain ⟨z1, z2, z3, z4, z5⟩ := i
        obtain ⟨⟨x1, x2, x3, x4, x5⟩, x6, x7⟩ := x
        cases p4 <;> exact memo_pure (hs := [(27, .call _), (30, .call _), (33, .call _), (43, .call _), (78, .call _), (102, .call _)]) (ch := []) 9 (evk 50) special ⟨wakes_m 4, mf, mo, mp, mq, mr, trivial⟩ trivial (by kernel_rfl) hS (by kernel_rfl)
      | true =>
        cases p3 with
        | true =>
          have mo := octets_m (c := c) hs hm' hh' h1 0 5
          have mp := push_noM (c := c) hs hm' hh' h1 h2 h3 rfl 5
          have mo1 := octets_m (c := c) hs hm' hh' h1 0 6
          have mq := pop_m (c := c) hs hm' hh' h1 (fun h => slc_1 h hm2 hc) 0 6
          have mr := return_noM (c := c) hs hm' hh' h1 h4 h5 hno 8
          obtain ⟨z1, z2, z3, z4, z5⟩ := i
          obtain ⟨⟨x1, x2, x3, x4, x5⟩, x6, x7⟩ := x
          cases p4 <;> exact memo_pure (hs := [(27, .call _), (30, .call _), (33, .call _), (43, .call _), (51, .call _), (73, .val (.bool (leftW [] != leftW [])) (.bool false)), (78, .call _), (102, .call _)]) (ch := []) 9 (evk 50) special ⟨wakes_m 4, mf, mo, mp, mo1, congrArg Value.bool (ne_of rfl), mq, mr, trivial⟩ trivial (by kernel_rfl) hS (by kernel_rfl)
        | false =>
          have mo := octets_m (c := c) hs hm' hh' h1 0 5
          have mp := push_yesM hs (by omega) hm2 hc hh' h1 h2 h3 5
          have ck := check_push hm h1 h2 h3
          have mo1 := octets_m (c := oc7) (avL_app (avL_pcs []) (avL_pcs [wholeP i])) (by first | (simp; done) | (simp at hm ⊢; omega)) (holds_snoc [] (wholeP i)) ck 12 14
          have e1 := left_push [] i
          have mq := pop_m (c := c) hs hm' hh' h1 (fun h => slc_1 h hm2 hc) 0 14
          have mr := return_noM (c := c) hs hm' hh' h1 h4 h5 hno 16
          obtain ⟨z1, z2, z3, z4, z5⟩ := i
          obtain ⟨⟨x1, x2, x3, x4, x5⟩, x6, x7⟩ := x
          cases p4 <;> exact memo_pure (hs := [(27, .call _), (30, .call _), (33, .call _), (43, .call _), (51, .call _), (64, .val (.bool (leftW ([] ++ [wholeP ⟨z1, z2, z3, z4, z5⟩]) != IntKind.i64.wrap (leftW [] + z4))) (.bool false)), (78, .call _), (102, .call _)]) (ch := []) 17 (evk 50) special ⟨wakes_m 4, mf, mo, mp, mo1, congrArg Value.bool (ne_of e1), mq, mr, trivial⟩ trivial (by kernel_rfl) hS (by kernel_rfl)
    | true =>
      simp only [Bool.true_and, Bool.and_eq_true, Bool.not_eq_true'] at hno
      obtain ⟨rfl, rfl⟩ := hno
      simp only [Bool.or_eq_false_iff, Bool.not_eq_false', restS] at h5
      obtain ⟨r1, r2⟩ := h5
      cases p2 with
      | false =>
        have mo := octets_m (c := c) hs hm' hh' h1 0 5
        have mp := push_noM (c := c) hs hm' hh' h1 h2 h3 rfl 5
        have mq := pop_m (c := c) hs hm' hh' h1 (fun h => slc_1 h hm2 hc) 0 6
        have mr := return_oneM (c := c) (off := off) hs h1 h4 r1 8
        have ck2 := check_ret (m := []) (by simp) h1 h4 r1 rfl
        have mo3 := octets_m (c := 1) (avL_pcs [x]) (by simp) (holds_0 [x]) ck2 12 15
        have mq3 := pop_m (c := 1) (cap := cap) (avL_pcs [x]) (by simp) (holds_0 [x]) ck2 (fun h => slc_1 h (by simp) (by unfold openCap; omega)) 12 15
        have ms := same_m (cap := cap) (ka := 0) (kb := c) (oa := 0) (avL_pcs [x]) hs (l := []) (by simp) (fun i p h => by simp at h) hh' rfl rfl 12 0 17 (by omega)
        have e3 := left_ret [] x
        have e4 := fun xo yo => (eqPt_refl x) ▸ (eql_pt x x xo yo).1
        obtain ⟨z1, z2, z3, z4, z5⟩ := i
        obtain ⟨⟨x1, x2, x3, x4, x5⟩, x6, x7⟩ := x
        cases r1
        exact memo_pure (hs := [(27, .call _), (30, .call _), (33, .call _), (43, .call _), (78, .call _), (102, .call _), (109, .call _), (114, .call _), (126, .val (.bool (leftW (Pt.mk ⟨x1, x2, x3, x4, x5⟩ x6 true :: []) == IntKind.i64.wrap (leftW [] + x6))) (.bool true)), (135, .bin .eql 28 _ _ _), (140, .call _)]) (ch := []) 17 (evk 50) special ⟨wakes_m 4, mf, mo, mp, mq, mr, mo3, mq3, congrArg Value.bool (eq_of e3), e4, ms, trivial⟩ trivial (by kernel_rfl) hS (by kernel_rfl)
      | true =>
        cases p3 with
        | true =>
          have mo := octets_m (c := c) hs hm' hh' h1 0 5
          have mp := push_noM (c := c) hs hm' hh' h1 h2 h3 rfl 5
          have mo1 := octets_m (c := c) hs hm' hh' h1 0 6
          have mq := pop_m (c := c) hs hm' hh' h1 (fun h => slc_1 h hm2 hc) 0 6
          have mr := return_oneM (c := c) (off := off) hs h1 h4 r1 8
          have ck2 := check_ret (m := []) (by simp) h1 h4 r1 rfl
          have mo3 := octets_m (c := 1) (avL_pcs [x]) (by simp) (holds_0 [x]) ck2 12 15
          have mq3 := pop_m (c := 1) (cap := cap) (avL_pcs [x]) (by simp) (holds_0 [x]) ck2 (fun h => slc_1 h (by simp) (by unfold openCap; omega)) 12 15
          have ms := same_m (cap := cap) (ka := 0) (kb := c) (oa := 0) (avL_pcs [x]) hs (l := []) (by simp) (fun i p h => by simp at h) hh' rfl rfl 12 0 17 (by omega)
          have e3 := left_ret [] x
          have e4 := fun xo yo => (eqPt_refl x) ▸ (eql_pt x x xo yo).1
          obtain ⟨z1, z2, z3, z4, z5⟩ := i
          obtain ⟨⟨x1, x2, x3, x4, x5⟩, x6, x7⟩ := x
          cases r1
          exact memo_pure (hs := [(27, .call _), (30, .call _), (33, .call _), (43, .call _), (51, .call _), (73, .val (.bool (leftW [] != leftW [])) (.bool false)), (78, .call _), (102, .call _), (109, .call _), (114, .call _), (126, .val (.bool (leftW (Pt.mk ⟨x1, x2, x3, x4, x5⟩ x6 true :: []) == IntKind.i64.wrap (leftW [] + x6))) (.bool true)), (135, .bin .eql 28 _ _ _), (140, .call _)]) (ch := []) 17 (evk 50) special ⟨wakes_m 4, mf, mo, mp, mo1, congrArg Value.bool (ne_of rfl), mq, mr, mo3, mq3, congrArg Value.bool (eq_of e3), e4, ms, trivial⟩ trivial (by kernel_rfl) hS (by kernel_rfl)
        | false =>
          have mo := octets_m (c := c) hs hm' hh' h1 0 5
          have mp := push_yesM hs (by omega) hm2 hc hh' h1 h2 h3 5
          have ck := check_push hm h1 h2 h3
          have mo1 := octets_m (c := oc7) (avL_app (avL_pcs []) (avL_pcs [wholeP i])) (by first | (simp; done) | (simp at hm ⊢; omega)) (holds_snoc [] (wholeP i)) ck 12 14
          have e1 := left_push [] i
          have mq := pop_m (c := c) hs hm' hh' h1 (fun h => slc_1 h hm2 hc) 0 14
          have mr := return_oneM (c := c) (off := off) hs h1 h4 r1 16
          have ck2 := check_ret (m := []) (by simp) h1 h4 r1 rfl
          have mo3 := octets_m (c := 1) (avL_pcs [x]) (by simp) (holds_0 [x]) ck2 20 23
          have mq3 := pop_m (c := 1) (cap := cap) (avL_pcs [x]) (by simp) (holds_0 [x]) ck2 (fun h => slc_1 h (by simp) (by unfold openCap; omega)) 20 23
          have ms := same_m (cap := cap) (ka := 0) (kb := c) (oa := 0) (avL_pcs [x]) hs (l := []) (by simp) (fun i p h => by simp at h) hh' rfl rfl 20 0 25 (by omega)
          have e3 := left_ret [] x
          have e4 := fun xo yo => (eqPt_refl x) ▸ (eql_pt x x xo yo).1
          obtain ⟨z1, z2, z3, z4, z5⟩ := i
          obtain ⟨⟨x1, x2, x3, x4, x5⟩, x6, x7⟩ := x
          cases r1
          exact memo_pure (hs := [(27, .call _), (30, .call _), (33, .call _), (43, .call _), (51, .call _), (64, .val (.bool (leftW ([] ++ [wholeP ⟨z1, z2, z3, z4, z5⟩]) != IntKind.i64.wrap (leftW [] + z4))) (.bool false)), (78, .call _), (102, .call _), (109, .call _), (114, .call _), (126, .val (.bool (leftW (Pt.mk ⟨x1, x2, x3, x4, x5⟩ x6 true :: []) == IntKind.i64.wrap (leftW [] + x6))) (.bool true)), (135, .bin .eql 28 _ _ _), (140, .call _)]) (ch := []) 25 (evk 50) special ⟨wakes_m 4, mf, mo, mp, mo1, congrArg Value.bool (ne_of e1), mq, mr, mo3, mq3, congrArg Value.bool (eq_of e3), e4, ms, trivial⟩ trivial (by kernel_rfl) hS (by kernel_rfl)
  exact key _ _ _ _ rfl rfl rfl rfl
theorem counts_cons {cs : List Value} {off c : Nat} {cap : Int} {i : It} {x : Pt} (hs : avL cs = true) {n0 : Nat} {m : List Pt} {q : Pt} (mf : Memo.Ok Try.prog ⟨10, 4, [qv cap 0 off n0 c], [(0, cs)], qv cap 0 off (q :: m).length c, [], 4⟩) (hh' : Holds cs off (q :: m)) (hm : (q :: m).length ≤ 60) (hm2 : (q :: m).length ≤ c) (hc : c < openCap) (h1 : checkS cap (q :: m) = true) :
    Memo.Ok Try.prog ⟨7, 1, [qv cap 0 off n0 c, i.v, x.v], [(0, cs)], .bool true, [], 1⟩ := by
  have hS : smallH 1 [(0, cs)] = true := by simp [smallH, small_avL hs]
  have hm' : (q :: m).length < 9223372036854775807 := by omega
  have key : ∀ p2 p3 p4 p5, itemOk i = p2 → overS cap (q :: m) i = p3 → partC x = p4 → (!x.rest || restS (q :: m)) = p5 → Memo.Ok Try.prog ⟨7, 1, [qv cap 0 off n0 c, i.v, x.v], [(0, cs)], .bool true, [], 1⟩ := by
    intro p2 p3 p4 p5 h2 h3 h4 h5
    cases hno : (true && p4 && !p5) with
    | false =>
      cases p2 with
      | false =>
        have mo := octets_m (c := c) hs hm' hh' h1 0 5
        have mp := push_noM (c := c) hs hm' hh' h1 h2 h3 rfl 5
        have mq := pop_m (c := c) hs hm' hh' h1 (fun h => slc_1 h hm2 hc) 0 6
        have mo2 := octets_m (c := c - 1) hs (by simp at hm; omega) (holds_pop hh' hm2) (check_pop (by omega) h1) 0 8
        have e2 := left_pop m q
        have mr := return_noM (c := c) hs hm' hh' h1 h4 h5 hno 8
        obtain ⟨z1, z2, z3, z4, z5⟩ := i
        obtain ⟨⟨x1, x2, x3, x4, x5⟩, x6, x7⟩ := x
        obtain ⟨⟨y1, y2, y3, y4, y5⟩, y6, y7⟩ := q
        cases p4 <;> exact memo_pure (hs := [(27, .call _), (30, .call _), (33, .call _), (43, .call _), (78, .call _), (86, .call _), (97, .val (.bool (leftW m != IntKind.i64.wrap (leftW (Pt.mk ⟨y1, y2, y3, y4, y5⟩ y6 y7 :: m) - y6))) (.bool false)), (102, .call _)]) (ch := []) 9 (evk 50) special ⟨wakes_m 4, mf, mo, mp, mq, mo2, congrArg Value.bool (ne_of e2), mr, trivial⟩ trivial (by kernel_rfl) hS (by kernel_rfl)
      | true =>
        cases p3 with
        | true =>
          have mo := octets_m (c := c) hs hm' hh' h1 0 5
          have mp := push_noM (c := c) hs hm' hh' h1 h2 h3 rfl 5
          have mo1 := octets_m (c := c) hs hm' hh' h1 0 6
          have mq := pop_m (c := c) hs hm' hh' h1 (fun h => slc_1 h hm2 hc) 0 6
          have mo2 := octets_m (c := c - 1) hs (by simp at hm; omega) (holds_pop hh' hm2) (check_pop (by omega) h1) 0 8
          have e2 := left_pop m q
          have mr := return_noM (c := c) hs hm' hh' h1 h4 h5 hno 8
          obtain ⟨z1, z2, z3, z4, z5⟩ := i
          obtain ⟨⟨x1, x2, x3, x4, x5⟩, x6, x7⟩ := x
          obtain ⟨⟨y1, y2, y3, y4, y5⟩, y6, y7⟩ := q
          cases p4 <;> exact memo_pure (hs := [(27, .call _), (30, .call _), (33, .call _), (43, .call _), (51, .call _), (73, .val (.bool (leftW (Pt.mk ⟨y1, y2, y3, y4, y5⟩ y6 y7 :: m) != leftW (Pt.mk ⟨y1, y2, y3, y4, y5⟩ y6 y7 :: m))) (.bool false)), (78, .call _), (86, .call _), (97, .val (.bool (leftW m != IntKind.i64.wrap (leftW (Pt.mk ⟨y1, y2, y3, y4, y5⟩ y6 y7 :: m) - y6))) (.bool false)), (102, .call _)]) (ch := []) 9 (evk 50) special ⟨wakes_m 4, mf, mo, mp, mo1, congrArg Value.bool (ne_of rfl), mq, mo2, congrArg Value.bool (ne_of e2), mr, trivial⟩ trivial (by kernel_rfl) hS (by kernel_rfl)
        | false =>
          have mo := octets_m (c := c) hs hm' hh' h1 0 5
          have mp := push_yesM hs (by omega) hm2 hc hh' h1 h2 h3 5
          have ck := check_push hm h1 h2 h3
          have mo1 := octets_m (c := oc7) (avL_app (avL_pcs (q :: m)) (avL_pcs [wholeP i])) (by first | (simp; done) | (simp at hm ⊢; omega)) (holds_snoc (q :: m) (wholeP i)) ck 12 14
          rw [show ((q :: m) ++ [wholeP i]).length = (q :: m).length + 1 by simp] at mo1
          have e1 := left_push (q :: m) i
          have mq := pop_m (c := c) hs hm' hh' h1 (fun h => slc_1 h hm2 hc) 0 14
          have mo2 := octets_m (c := c - 1) hs (by simp at hm; omega) (holds_pop hh' hm2) (check_pop (by omega) h1) 0 16
          have e2 := left_pop m q
          have mr := return_noM (c := c) hs hm' hh' h1 h4 h5 hno 16
          obtain ⟨z1, z2, z3, z4, z5⟩ := i
          obtain ⟨⟨x1, x2, x3, x4, x5⟩, x6, x7⟩ := x
          obtain ⟨⟨y1, y2, y3, y4, y5⟩, y6, y7⟩ := q
          cases p4 <;> exact memo_pure (hs := [(27, .call _), (30, .call _), (33, .call _), (43, .call _), (51, .call _), (64, .val (.bool (leftW ((Pt.mk ⟨y1, y2, y3, y4, y5⟩ y6 y7 :: m) ++ [wholeP ⟨z1, z2, z3, z4, z5⟩]) != IntKind.i64.wrap (leftW (Pt.mk ⟨y1, y2, y3, y4, y5⟩ y6 y7 :: m) + z4))) (.bool false)), (78, .call _), (86, .call _), (97, .val (.bool (leftW m != IntKind.i64.wrap (leftW (Pt.mk ⟨y1, y2, y3, y4, y5⟩ y6 y7 :: m) - y6))) (.bool false)), (102, .call _)]) (ch := []) 17 (evk 50) special ⟨wakes_m 4, mf, mo, mp, mo1, congrArg Value.bool (ne_of e1), mq, mo2, congrArg Value.bool (ne_of e2), mr, trivial⟩ trivial (by kernel_rfl) hS (by kernel_rfl)
    | true =>
      simp only [Bool.true_and, Bool.and_eq_true, Bool.not_eq_true'] at hno
      obtain ⟨rfl, rfl⟩ := hno
      simp only [Bool.or_eq_false_iff, Bool.not_eq_false', restS] at h5
      obtain ⟨r1, r2⟩ := h5
      cases p2 with
      | false =>
        have mo := octets_m (c := c) hs hm' hh' h1 0 5
        have mp := push_noM (c := c) hs hm' hh' h1 h2 h3 rfl 5
        have mq := pop_m (c := c) hs hm' hh' h1 (fun h => slc_1 h hm2 hc) 0 6
        have mo2 := octets_m (c := c - 1) hs (by simp at hm; omega) (holds_pop hh' hm2) (check_pop (by omega) h1) 0 8
        have e2 := left_pop m q
        have mr := return_yesM (c := c) hs (by omega) hh' h1 h4 r1 r2 8
        have ck2 := check_ret hm h1 h4 r1 r2
        have ha : avL (pcs [x] ++ pcs (q :: m)) = true := avL_app (avL_pcs _) (avL_pcs _)
        have mo3 := octets_m (c := oc7) ha (by simp at hm ⊢; omega) (holds_cons (q :: m) x) ck2 14 16
        have mq3 := pop_m (c := oc7) (cap := cap) ha (by simp at hm ⊢; omega) (holds_cons (q :: m) x) ck2 (fun h => slc_1o h (by simp at hm ⊢; omega)) 14 16
        have el : (x :: q :: m).length = 1 + (q :: m).length := by simp; omega
        rw [el] at mo3 mq3
        have ms := same_m (cap := cap) (ka := oc7) (kb := c) (oa := 7) ha hs (l := q :: m) (by simp at hm ⊢; omega) (holds_after (q :: m) x) hh' rfl rfl 14 0 18 (by omega)
        have e3 := left_ret (q :: m) x
        have e4 := fun xo yo => (eqPt_refl x) ▸ (eql_pt x x xo yo).1
        obtain ⟨z1, z2, z3, z4, z5⟩ := i
        obtain ⟨⟨x1, x2, x3, x4, x5⟩, x6, x7⟩ := x
        obtain ⟨⟨y1, y2, y3, y4, y5⟩, y6, y7⟩ := q
        cases r1
        cases r2
        exact memo_pure (hs := [(27, .call _), (30, .call _), (33, .call _), (43, .call _), (78, .call _), (86, .call _), (97, .val (.bool (leftW m != IntKind.i64.wrap (leftW (Pt.mk ⟨y1, y2, y3, y4, y5⟩ y6 false :: m) - y6))) (.bool false)), (102, .call _), (109, .call _), (114, .call _), (126, .val (.bool (leftW (Pt.mk ⟨x1, x2, x3, x4, x5⟩ x6 true :: (Pt.mk ⟨y1, y2, y3, y4, y5⟩ y6 false :: m)) == IntKind.i64.wrap (leftW (Pt.mk ⟨y1, y2, y3, y4, y5⟩ y6 false :: m) + x6))) (.bool true)), (135, .bin .eql 28 _ _ _), (140, .call _)]) (ch := []) 18 (evk 50) special ⟨wakes_m 4, mf, mo, mp, mq, mo2, congrArg Value.bool (ne_of e2), mr, mo3, mq3, congrArg Value.bool (eq_of e3), e4, ms, trivial⟩ trivial (by kernel_rfl) hS (by kernel_rfl)
      | true =>
        cases p3 with
        | true =>
          have mo := octets_m (c := c) hs hm' hh' h1 0 5
          have mp := push_noM (c := c) hs hm' hh' h1 h2 h3 rfl 5
          have mo1 := octets_m (c := c) hs hm' hh' h1 0 6
          have mq := pop_m (c := c) hs hm' hh' h1 (fun h => slc_1 h hm2 hc) 0 6
          have mo2 := octets_m (c := c - 1) hs (by simp at hm; omega) (holds_pop hh' hm2) (check_pop (by omega) h1) 0 8
          have e2 := left_pop m q
          have mr := return_yesM (c := c) hs (by omega) hh' h1 h4 r1 r2 8
          have ck2 := check_ret hm h1 h4 r1 r2
          have ha : avL (pcs [x] ++ pcs (q :: m)) = true := avL_app (avL_pcs _) (avL_pcs _)
          have mo3 := octets_m (c := oc7) ha (by simp at hm ⊢; omega) (holds_cons (q :: m) x) ck2 14 16
          have mq3 := pop_m (c := oc7) (cap := cap) ha (by simp at hm ⊢; omega) (holds_cons (q :: m) x) ck2 (fun h => slc_1o h (by simp at hm ⊢; omega)) 14 16
          have el : (x :: q :: m).length = 1 + (q :: m).length := by simp; omega
          rw [el] at mo3 mq3
          have ms := same_m (cap := cap) (ka := oc7) (kb := c) (oa := 7) ha hs (l := q :: m) (by simp at hm ⊢; omega) (holds_after (q :: m) x) hh' rfl rfl 14 0 18 (by omega)
          have e3 := left_ret (q :: m) x
          have e4 := fun xo yo => (eqPt_refl x) ▸ (eql_pt x x xo yo).1
          obtain ⟨z1, z2, z3, z4, z5⟩ := i
          obtain ⟨⟨x1, x2, x3, x4, x5⟩, x6, x7⟩ := x
          obtain ⟨⟨y1, y2, y3, y4, y5⟩, y6, y7⟩ := q
          cases r1
          cases r2
          exact memo_pure (hs := [(27, .call _), (30, .call _), (33, .call _), (43, .call _), (51, .call _), (73, .val (.bool (leftW (Pt.mk ⟨y1, y2, y3, y4, y5⟩ y6 false :: m) != leftW (Pt.mk ⟨y1, y2, y3, y4, y5⟩ y6 false :: m))) (.bool false)), (78, .call _), (86, .call _), (97, .val (.bool (leftW m != IntKind.i64.wrap (leftW (Pt.mk ⟨y1, y2, y3, y4, y5⟩ y6 false :: m) - y6))) (.bool false)), (102, .call _), (109, .call _), (114, .call _), (126, .val (.bool (leftW (Pt.mk ⟨x1, x2, x3, x4, x5⟩ x6 true :: (Pt.mk ⟨y1, y2, y3, y4, y5⟩ y6 false :: m)) == IntKind.i64.wrap (leftW (Pt.mk ⟨y1, y2, y3, y4, y5⟩ y6 false :: m) + x6))) (.bool true)), (135, .bin .eql 28 _ _ _), (140, .call _)]) (ch := []) 18 (evk 50) special ⟨wakes_m 4, mf, mo, mp, mo1, congrArg Value.bool (ne_of rfl), mq, mo2, congrArg Value.bool (ne_of e2), mr, mo3, mq3, congrArg Value.bool (eq_of e3), e4, ms, trivial⟩ trivial (by kernel_rfl) hS (by kernel_rfl)
        | false =>
          have mo := octets_m (c := c) hs hm' hh' h1 0 5
          have mp := push_yesM hs (by omega) hm2 hc hh' h1 h2 h3 5
          have ck := check_push hm h1 h2 h3
          have mo1 := octets_m (c := oc7) (avL_app (avL_pcs (q :: m)) (avL_pcs [wholeP i])) (by first | (simp; done) | (simp at hm ⊢; omega)) (holds_snoc (q :: m) (wholeP i)) ck 12 14
          rw [show ((q :: m) ++ [wholeP i]).length = (q :: m).length + 1 by simp] at mo1
          have e1 := left_push (q :: m) i
          have mq := pop_m (c := c) hs hm' hh' h1 (fun h => slc_1 h hm2 hc) 0 14
          have mo2 := octets_m (c := c - 1) hs (by simp at hm; omega) (holds_pop hh' hm2) (check_pop (by omega) h1) 0 16
          have e2 := left_pop m q
          have mr := return_yesM (c := c) hs (by omega) hh' h1 h4 r1 r2 16
          have ck2 := check_ret hm h1 h4 r1 r2
          have ha : avL (pcs [x] ++ pcs (q :: m)) = true := avL_app (avL_pcs _) (avL_pcs _)
          have mo3 := octets_m (c := oc7) ha (by simp at hm ⊢; omega) (holds_cons (q :: m) x) ck2 22 24
          have mq3 := pop_m (c := oc7) (cap := cap) ha (by simp at hm ⊢; omega) (holds_cons (q :: m) x) ck2 (fun h => slc_1o h (by simp at hm ⊢; omega)) 22 24
          have el : (x :: q :: m).length = 1 + (q :: m).length := by simp; omega
          rw [el] at mo3 mq3
          have ms := same_m (cap := cap) (ka := oc7) (kb := c) (oa := 7) ha hs (l := q :: m) (by simp at hm ⊢; omega) (holds_after (q :: m) x) hh' rfl rfl 22 0 26 (by omega)
          have e3 := left_ret (q :: m) x
          have e4 := fun xo yo => (eqPt_refl x) ▸ (eql_pt x x xo yo).1
          obtain ⟨z1, z2, z3, z4, z5⟩ := i
          obtain ⟨⟨x1, x2, x3, x4, x5⟩, x6, x7⟩ := x
          obtain ⟨⟨y1, y2, y3, y4, y5⟩, y6, y7⟩ := q
          cases r1
          cases r2
          exact memo_pure (hs := [(27, .call _), (30, .call _), (33, .call _), (43, .call _), (51, .call _), (64, .val (.bool (leftW ((Pt.mk ⟨y1, y2, y3, y4, y5⟩ y6 false :: m) ++ [wholeP ⟨z1, z2, z3, z4, z5⟩]) != IntKind.i64.wrap (leftW (Pt.mk ⟨y1, y2, y3, y4, y5⟩ y6 false :: m) + z4))) (.bool false)), (78, .call _), (86, .call _), (97, .val (.bool (leftW m != IntKind.i64.wrap (leftW (Pt.mk ⟨y1, y2, y3, y4, y5⟩ y6 false :: m) - y6))) (.bool false)), (102, .call _), (109, .call _), (114, .call _), (126, .val (.bool (leftW (Pt.mk ⟨x1, x2, x3, x4, x5⟩ x6 true :: (Pt.mk ⟨y1, y2, y3, y4, y5⟩ y6 false :: m)) == IntKind.i64.wrap (leftW (Pt.mk ⟨y1, y2, y3, y4, y5⟩ y6 false :: m) + x6))) (.bool true)), (135, .bin .eql 28 _ _ _), (140, .call _)]) (ch := []) 26 (evk 50) special ⟨wakes_m 4, mf, mo, mp, mo1, congrArg Value.bool (ne_of e1), mq, mo2, congrArg Value.bool (ne_of e2), mr, mo3, mq3, congrArg Value.bool (eq_of e3), e4, ms, trivial⟩ trivial (by kernel_rfl) hS (by kernel_rfl)
  exact key _ _ _ _ rfl rfl rfl rfl
theorem counts_0 {cs : List Value} {off c : Nat} {cap : Int} {i : It} {x : Pt} (hs : avL cs = true) {l : List Pt} (hn : l.length ≤ c) (hc : c < openCap) (hh : Holds cs off l) :
    Memo.Ok Try.prog ⟨7, 1, [qv cap 0 off l.length c, i.v, x.v], [(0, cs)], .bool true, [], 1⟩ := by
  have hS : smallH 1 [(0, cs)] = true := by simp [smallH, small_avL hs]
  have m1 := few_l (cap := cap) (off := off) hn hc hs 0 4
  have hh' := holds_take hh 60
  have hm : (l.take 60).length ≤ 60 := by simp; omega
  have hm2 : (l.take 60).length ≤ c := by simp; omega
  generalize l.take 60 = m at m1 hh' hm hm2
  cases h1 : checkS cap m with
  | false =>
    have mo := octets_m (c := c) hs (by omega) hh' h1 0 5
    obtain ⟨z1, z2, z3, z4, z5⟩ := i
    obtain ⟨⟨x1, x2, x3, x4, x5⟩, x6, x7⟩ := x
    exact memo_pure (hs := [(27, .call _), (30, .call _), (33, .call _)]) (ch := []) 5 (evk 50) special ⟨wakes_m 4, m1, mo, trivial⟩ trivial (by kernel_rfl) hS (by kernel_rfl)
  | true =>
    cases m with
    | nil => exact counts_nil (m := []) (q := zp) hs m1 hh' hm hm2 hc h1
    | cons q m => exact counts_cons hs m1 hh' hm hm2 hc h1
theorem countsN {cap : Int} {i : It} {x : Pt} : Memo.Ok Try.prog ⟨7, 0, [q0 cap, i.v, x.v], [], .bool true, [], 0⟩ := by
  have mf := few_nm cap 3
  cases h1 : checkS cap [] with
  | false =>
    have mo := octets_nm h1 4
    obtain ⟨z1, z2, z3, z4, z5⟩ := i
    obtain ⟨⟨x1, x2, x3, x4, x5⟩, x6, x7⟩ := x
    exact memo_pure (hs := [(27, .call _), (30, .call _), (33, .call _)]) (ch := []) 4 (evk 50) special ⟨wakes_m 3, mf, mo, trivial⟩ trivial (by kernel_rfl) rfl (by kernel_rfl)
  | true =>
  have key : ∀ p2 p3 p4, itemOk i = p2 → overS cap [] i = p3 → partC x = p4 → Memo.Ok Try.prog ⟨7, 0, [q0 cap, i.v, x.v], [], .bool true, [], 0⟩ := by
    intro p2 p3 p4 h2 h3 h4
    cases hno : (true && p4 && x.rest) with
    | false =>
      cases p2 with
      | false =>
        have mo := octets_nm h1 4
        have mp : Memo.Ok Try.prog ⟨21, 4, [q0 cap, i.v], [], pushV true false p3 (q0 cap) (.bool true), [], 4⟩ := memo_any (pushN_no h1 h2 h3 rfl (.bool true)) 4 (by first | kernel_rfl | (cases p3 <;> kernel_rfl)) rfl (by first | rfl | (cases p3 <;> rfl))
        have mq : Memo.Ok Try.prog ⟨24, 5, [q0 cap], [], popV true cap 0 0 [], [], 5⟩ := memo_any (pop_nil h1) 5 (by kernel_rfl) rfl rfl
        have mr : Memo.Ok Try.prog ⟨25, 7, [q0 cap, x.v], [], retNo true p4, [], 7⟩ := memo_any (returnN_no h1 h4 hno) 7 (by kernel_rfl) rfl rfl
        obtain ⟨z1, z2, z3, z4, z5⟩ := i
        obtain ⟨⟨x1, x2, x3, x4, x5⟩, x6, x7⟩ := x
        cases p4 <;> exact memo_pure (hs := [(27, .call _), (30, .call _), (33, .call _), (43, .call _), (78, .call _), (102, .call _)]) (ch := []) 8 (evk 50) special ⟨wakes_m 3, mf, mo, mp, mq, mr, trivial⟩ trivial (by kernel_rfl) rfl (by kernel_rfl)
      | true =>
        cases p3 with
        | true =>
          have mo := octets_nm h1 4
          have mp : Memo.Ok Try.prog ⟨21, 4, [q0 cap, i.v], [], pushV true true true (q0 cap) (.bool true), [], 4⟩ := memo_any (pushN_no h1 h2 h3 rfl (.bool true)) 4 (by first | kernel_rfl | (cases p3 <;> kernel_rfl)) rfl (by first | rfl | (cases p3 <;> rfl))
          have mo1 := octets_nm h1 5
          have mq : Memo.Ok Try.prog ⟨24, 5, [q0 cap], [], popV true cap 0 0 [], [], 5⟩ := memo_any (pop_nil h1) 5 (by kernel_rfl) rfl rfl
          have mr : Memo.Ok Try.prog ⟨25, 7, [q0 cap, x.v], [], retNo true p4, [], 7⟩ := memo_any (returnN_no h1 h4 hno) 7 (by kernel_rfl) rfl rfl
          obtain ⟨z1, z2, z3, z4, z5⟩ := i
          obtain ⟨⟨x1, x2, x3, x4, x5⟩, x6, x7⟩ := x
          cases p4 <;> exact memo_pure (hs := [(27, .call _), (30, .call _), (33, .call _), (43, .call _), (51, .call _), (78, .call _), (102, .call _)]) (ch := []) 8 (evk 50) special ⟨wakes_m 3, mf, mo, mp, mo1, mq, mr, trivial⟩ trivial (by kernel_rfl) rfl (by kernel_rfl)
        | false =>
          have mo := octets_nm h1 4
          have mp := memo_0N (pushN_yes h1 h2 h3) (avL_pcs _) 4 (by kernel_rfl) rfl rfl rfl rfl
          have ck := check_push (by simp) h1 h2 h3
          have mo1 := octets_m (c := oc7) (avL_pcs [wholeP i]) (by simp) (holds_0 [wholeP i]) ck 11 13
          have e1 := left_push [] i
          have mq : Memo.Ok Try.prog ⟨24, 13, [q0 cap], [], popV true cap 0 0 [], [], 13⟩ := memo_any (pop_nil h1) 13 (by kernel_rfl) rfl rfl
          have mr : Memo.Ok Try.prog ⟨25, 15, [q0 cap, x.v], [], retNo true p4, [], 15⟩ := memo_any (returnN_no h1 h4 hno) 15 (by kernel_rfl) rfl rfl
          obtain ⟨z1, z2, z3, z4, z5⟩ := i
          obtain ⟨⟨x1, x2, x3, x4, x5⟩, x6, x7⟩ := x
          cases p4 <;> exact memo_pure (hs := [(27, .call _), (30, .call _), (33, .call _), (43, .call _), (51, .call _), (64, .val (.bool (leftW ([] ++ [wholeP ⟨z1, z2, z3, z4, z5⟩]) != IntKind.i64.wrap (leftW [] + z4))) (.bool false)), (78, .call _), (102, .call _)]) (ch := []) 16 (evk 50) special ⟨wakes_m 3, mf, mo, mp, mo1, congrArg Value.bool (ne_of e1), mq, mr, trivial⟩ trivial (by kernel_rfl) rfl (by kernel_rfl)
    | true =>
      simp only [Bool.true_and, Bool.and_eq_true] at hno
      obtain ⟨rfl, r1⟩ := hno
      cases p2 with
      | false =>
        have mo := octets_nm h1 4
        have mp : Memo.Ok Try.prog ⟨21, 4, [q0 cap, i.v], [], pushV true false p3 (q0 cap) (.bool true), [], 4⟩ := memo_any (pushN_no h1 h2 h3 rfl (.bool true)) 4 (by first | kernel_rfl | (cases p3 <;> kernel_rfl)) rfl (by first | rfl | (cases p3 <;> rfl))
        have mq : Memo.Ok Try.prog ⟨24, 5, [q0 cap], [], popV true cap 0 0 [], [], 5⟩ := memo_any (pop_nil h1) 5 (by kernel_rfl) rfl rfl
        have mr := memo_0N (returnN_yes h1 h4 r1) (avL_pcs _) 7 (by kernel_rfl) rfl rfl rfl rfl
        have ck2 := check_ret (m := []) (by simp) h1 h4 r1 rfl
        have mo3 := octets_m (c := 1) (avL_pcs [x]) (by simp) (holds_0 [x]) ck2 11 14
        have mq3 := pop_m (c := 1) (cap := cap) (avL_pcs [x]) (by simp) (holds_0 [x]) ck2 (fun h => slc_1 h (by simp) (by unfold openCap; omega)) 11 14
        have ms := same_mixM (cap := cap) (o := 0) (k := 0) (avL_pcs [x]) 11 16
        have e3 := left_ret [] x
        have e4 := fun xo yo => (eqPt_refl x) ▸ (eql_pt x x xo yo).1
        obtain ⟨z1, z2, z3, z4, z5⟩ := i
        obtain ⟨⟨x1, x2, x3, x4, x5⟩, x6, x7⟩ := x
        cases r1
        exact memo_pure (hs := [(27, .call _), (30, .call _), (33, .call _), (43, .call _), (78, .call _), (102, .call _), (109, .call _), (114, .call _), (126, .val (.bool (leftW (Pt.mk ⟨x1, x2, x3, x4, x5⟩ x6 true :: []) == IntKind.i64.wrap (leftW [] + x6))) (.bool true)), (135, .bin .eql 28 _ _ _), (140, .call _)]) (ch := []) 16 (evk 50) special ⟨wakes_m 3, mf, mo, mp, mq, mr, mo3, mq3, congrArg Value.bool (eq_of e3), e4, ms, trivial⟩ trivial (by kernel_rfl) rfl (by kernel_rfl)
      | true =>
        cases p3 with
        | true =>
          have mo := octets_nm h1 4
          have mp : Memo.Ok Try.prog ⟨21, 4, [q0 cap, i.v], [], pushV true true true (q0 cap) (.bool true), [], 4⟩ := memo_any (pushN_no h1 h2 h3 rfl (.bool true)) 4 (by first | kernel_rfl | (cases p3 <;> kernel_rfl)) rfl (by first | rfl | (cases p3 <;> rfl))
          have mo1 := octets_nm h1 5
          have mq : Memo.Ok Try.prog ⟨24, 5, [q0 cap], [], popV true cap 0 0 [], [], 5⟩ := memo_any (pop_nil h1) 5 (by kernel_rfl) rfl rfl
          have mr := memo_0N (returnN_yes h1 h4 r1) (avL_pcs _) 7 (by kernel_rfl) rfl rfl rfl rfl
          have ck2 := check_ret (m := []) (by simp) h1 h4 r1 rfl
          have mo3 := octets_m (c := 1) (avL_pcs [x]) (by simp) (holds_0 [x]) ck2 11 14
          have mq3 := pop_m (c := 1) (cap := cap) (avL_pcs [x]) (by simp) (holds_0 [x]) ck2 (fun h => slc_1 h (by simp) (by unfold openCap; omega)) 11 14
          have ms := same_mixM (cap := cap) (o := 0) (k := 0) (avL_pcs [x]) 11 16
          have e3 := left_ret [] x
          have e4 := fun xo yo => (eqPt_refl x) ▸ (eql_pt x x xo yo).1
          obtain ⟨z1, z2, z3, z4, z5⟩ := i
          obtain ⟨⟨x1, x2, x3, x4, x5⟩, x6, x7⟩ := x
          cases r1
          exact memo_pure (hs := [(27, .call _), (30, .call _), (33, .call _), (43, .call _), (51, .call _), (78, .call _), (102, .call _), (109, .call _), (114, .call _), (126, .val (.bool (leftW (Pt.mk ⟨x1, x2, x3, x4, x5⟩ x6 true :: []) == IntKind.i64.wrap (leftW [] + x6))) (.bool true)), (135, .bin .eql 28 _ _ _), (140, .call _)]) (ch := []) 16 (evk 50) special ⟨wakes_m 3, mf, mo, mp, mo1, mq, mr, mo3, mq3, congrArg Value.bool (eq_of e3), e4, ms, trivial⟩ trivial (by kernel_rfl) rfl (by kernel_rfl)
        | false =>
          have mo := octets_nm h1 4
          have mp := memo_0N (pushN_yes h1 h2 h3) (avL_pcs _) 4 (by kernel_rfl) rfl rfl rfl rfl
          have ck := check_push (by simp) h1 h2 h3
          have mo1 := octets_m (c := oc7) (avL_pcs [wholeP i]) (by simp) (holds_0 [wholeP i]) ck 11 13
          have e1 := left_push [] i
          have mq : Memo.Ok Try.prog ⟨24, 13, [q0 cap], [], popV true cap 0 0 [], [], 13⟩ := memo_any (pop_nil h1) 13 (by kernel_rfl) rfl rfl
          have mr := memo_0N (returnN_yes h1 h4 r1) (avL_pcs _) 15 (by kernel_rfl) rfl rfl rfl rfl
          have ck2 := check_ret (m := []) (by simp) h1 h4 r1 rfl
          have mo3 := octets_m (c := 1) (avL_pcs [x]) (by simp) (holds_0 [x]) ck2 19 22
          have mq3 := pop_m (c := 1) (cap := cap) (avL_pcs [x]) (by simp) (holds_0 [x]) ck2 (fun h => slc_1 h (by simp) (by unfold openCap; omega)) 19 22
          have ms := same_mixM (cap := cap) (o := 0) (k := 0) (avL_pcs [x]) 19 24
          have e3 := left_ret [] x
          have e4 := fun xo yo => (eqPt_refl x) ▸ (eql_pt x x xo yo).1
          obtain ⟨z1, z2, z3, z4, z5⟩ := i
          obtain ⟨⟨x1, x2, x3, x4, x5⟩, x6, x7⟩ := x
          cases r1
          exact memo_pure (hs := [(27, .call _), (30, .call _), (33, .call _), (43, .call _), (51, .call _), (64, .val (.bool (leftW ([] ++ [wholeP ⟨z1, z2, z3, z4, z5⟩]) != IntKind.i64.wrap (leftW [] + z4))) (.bool false)), (78, .call _), (102, .call _), (109, .call _), (114, .call _), (126, .val (.bool (leftW (Pt.mk ⟨x1, x2, x3, x4, x5⟩ x6 true :: []) == IntKind.i64.wrap (leftW [] + x6))) (.bool true)), (135, .bin .eql 28 _ _ _), (140, .call _)]) (ch := []) 24 (evk 50) special ⟨wakes_m 3, mf, mo, mp, mo1, congrArg Value.bool (ne_of e1), mq, mr, mo3, mq3, congrArg Value.bool (eq_of e3), e4, ms, trivial⟩ trivial (by kernel_rfl) rfl (by kernel_rfl)
  exact key _ _ _ rfl rfl rfl
end Go.Proofs.Ytddhglcmfoopnaa.queue
namespace Go.Proofs.Ytddhglcmfoopnaa.queueCounts
open Go Go.En Go.ChangeShapes Go.WideShapes Go.ChangeAt Go.RowKit
set_option linter.unusedVariables false
theorem own : ownKnob Try.prog.godebug = none := by kernel_rfl
set_option maxRecDepth 100000 in
theorem lifted (os : Os) (started : os.Started) (H : Type) (enc : TypeId × Value → H) :
    ReturnsInHanded {} Try.checked os 7 .any (Rows.queueCountsSpec.pre6 enc Try.prog Try.f7 Rows.queueCountsRow.domain false) (Rows.queueCountsSpec.post enc Try.prog Try.f7 false true false false) := by
  refine returnsInHanded_of_change (C := Try.checked) own started (by kernel_rfl) Try.func7
    (ChangeSpec.witness6 (enc := enc) (C := Try.checked) false ⟨#[], #[queue.q0 0, queue.zp.it.v, queue.zp.v], []⟩ 8 (by kernel_rfl) (by kernel_rfl) (by kernel_rfl) (by kernel_rfl)) ?_
  intro W base args ds gs before hval0 hW hcnd _
  have hval : ∀ (j : Nat) t v, Try.f7.params[j]? = some t → args[j]? = some v → Value.okWide Try.prog W .any base t v := hval0
  have hW2 := hW
  obtain ⟨p, q, hA0, hV, rfl, hfz, hnd⟩ := hW2
  have hA : DataW.TrodAll enc Try.prog W 0 (fun _ => true) true Try.f7.params.toList args.toList ds p := hA0
  rw [Try.params7] at hA hval
  obtain ⟨v0, v1, v2, d0, d1, d2, p0, p1, p2, rfl, rfl, rfl, h0, h1, h2⟩ := trodAll_three hA
  obtain ⟨i, rfl⟩ := queue.open_item (hval 1 26 v1 rfl rfl) h1
  obtain ⟨x, rfl⟩ := queue.open_part (hval 2 28 v2 rfl rfl) h2
  obtain ⟨rfl, rfl⟩ := trodVars_none hV
  have hwalk := queue.calls_q (f := 7) (rest := [i.v, x.v]) (hval 0 24 v0 rfl rfl) h0 (fun φ => ⟨queue.rel_item φ i, queue.rel_part φ x, trivial⟩) (fun cap => queue.countsN) (fun cap c l e1 e2 => queue.counts_0 (queue.avL_pcs l) e1 e2 (queue.holds_0 l))
  refine hwalk.mono fun e W' ⟨he, hb⟩ => ?_
  subst he
  exact ⟨_, rfl, law_post rfl (by kernel_rfl) (by kernel_rfl) rfl Try.underlying4 hW rfl rfl rfl hb⟩
theorem over : Rows.queueCountsRow.holds Try.pinned (OpenSpec.ofChange Rows.queueCountsSpec) :=
  OpenClaim.holds_of_wide 7 Try.f7 rfl rfl rfl rfl rfl rfl rfl ⟨rfl, rfl, rfl, rfl, rfl⟩ rfl rfl rfl rfl rfl (by kernel_rfl) Try.func7 (by kernel_rfl)
    (of_decide_eq_true (by kernel_rfl)) (by unfold Func.isWrapper; first | (rw [if_pos (by decide +kernel)]; kernel_rfl) | (rw [if_neg (by decide +kernel)]; exact ⟨rfl, rfl⟩))
    (fun os started H enc _ => lifted os started H enc)
theorem proved : Rows.QueueCountsSaid := over
#print axioms proved
end Go.Proofs.Ytddhglcmfoopnaa.queueCounts
