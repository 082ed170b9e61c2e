/- QueuePushes returns true for every queue and item, and its arguments read as before. No condition. -/
import Derived.Test.YtddhglcmfoopnaaFnS
import Derived.WalkKit
import Derived.ProofKit
namespace Go.Proofs.Ytddhglcmfoopnaa.queue
open Go Go.En
set_option linter.unusedVariables false

theorem pushes_0 {cs : List Value} {off c : Nat} {cap : Int} {i : It} (hs : avL cs = true) {l : List Pt} (hn : l.length ≤ c) (hc : c < openCap) (hh : Holds cs off l) :
    Memo.Ok Try.prog ⟨4, 1, [qv cap 0 off l.length c, i.v], [(0, cs)], .bool true, [], 1⟩ := by
  have hS : smallH 1 [(0, cs)] = true := by simp [smallH, small_avL hs]
  have m1 := few_l (cap := cap) (off := off) hn hc hs 0 3
  have hh' := holds_take hh 60
  have hm : (l.take 60).length ≤ 60 := by simp; omega
  have hm2 : (l.take 60).length ≤ c := by simp; omega
  generalize l.take 60 = m at m1 hh' hm hm2
  have hm' : m.length < 9223372036854775807 := by omega
  have key : ∀ p1 p2 p3, checkS cap m = p1 → itemOk i = p2 → overS cap m i = p3 → Memo.Ok Try.prog ⟨4, 1, [qv cap 0 off l.length c, i.v], [(0, cs)], .bool true, [], 1⟩ := by
    intro p1 p2 p3 h1 h2 h3
    cases hno : (p1 && p2 && !p3) with
    | false =>
      have m2 := push_noM (c := c) hs hm' hh' h1 h2 h3 hno 4
      have m3 := right_m (c := c) hs hm' hh' h1 0 5
      have m4 := itemR_m i (item_eq i ▸ h2) 5
      have m5 := same_nm (a := 0) (b := 0) rfl 5
      cases p3 with
      | false =>
        obtain ⟨x1, x2, x3, x4, x5⟩ := i
        cases p1 <;> cases p2 <;> first
          | (exfalso; revert hno; decide)
          | exact memo_pure (hs := [(12, .call _), (15, .call _), (19, .call _), (24, .call _), (27, .call _), (33, .call _)]) (ch := []) 5 (evk 50) special ⟨wakes_m 3, m1, m2, m3, m4, m5, trivial⟩ trivial (by kernel_rfl) hS (by kernel_rfl)
      | true =>
        have m6 := pushR_noM (c := c) hs hm' hh' h3 5
        have m7 := same_m1 (cap := cap) (ka := c) (kb := c) hs hm' hh' rfl rfl 0 6
        obtain ⟨x1, x2, x3, x4, x5⟩ := i
        cases p1
        · cases p2 <;> exact memo_pure (hs := [(12, .call _), (15, .call _), (19, .call _), (24, .call _), (27, .call _), (33, .call _)]) (ch := []) 5 (evk 50) special ⟨wakes_m 3, m1, m2, m3, m4, m5, trivial⟩ trivial (by kernel_rfl) hS (by kernel_rfl)
        · cases p2
          · exact memo_pure (hs := [(12, .call _), (15, .call _), (19, .call _), (24, .call _), (27, .call _), (33, .call _)]) (ch := []) 5 (evk 50) special ⟨wakes_m 3, m1, m2, m3, m4, m5, trivial⟩ trivial (by kernel_rfl) hS (by kernel_rfl)
          · exact memo_pure (hs := [(12, .call _), (15, .call _), (19, .call _), (24, .call _), (27, .call _), (46, .call _), (51, .call _)]) (ch := []) 6 (evk 50) special ⟨wakes_m 3, m1, m2, m3, m4, m6, m7, trivial⟩ trivial (by kernel_rfl) hS (by kernel_rfl)
    | true =>
      simp only [Bool.and_eq_true, Bool.not_eq_true'] at hno
      obtain ⟨⟨rfl, rfl⟩, rfl⟩ := hno
      have m2 := push_yesM hs (by omega) hm2 hc hh' h1 h2 h3 4
      have m3 := right_m (c := c) hs hm' hh' h1 0 13
      have m4 := itemR_m i (item_eq i ▸ h2) 13
      have m6 := pushR_yesM (c := c) hs (by omega) hh' h3 13
      have ha : avL (pcs m ++ pcs [wholeP i]) = true := avL_app (avL_pcs _) (avL_pcs _)
      have m7 := same_m (cap := cap) (ka := oc7) (kb := oc7) ha ha (l := m ++ [wholeP i]) (by simp; omega) (holds_snoc _ _) (holds_snoc _ _) (na := m.length + 1) (nb := m.length + 1) (by simp) (by simp) 11 18 20 (by omega)
      obtain ⟨x1, x2, x3, x4, x5⟩ := i
      exact memo_pure (hs := [(12, .call _), (15, .call _), (19, .call _), (24, .call _), (27, .call _), (46, .call _), (51, .call _)]) (ch := []) 20 (evk 50) special ⟨wakes_m 3, m1, m2, m3, m4, m6, m7, trivial⟩ trivial (by kernel_rfl) hS (by kernel_rfl)
  exact key _ _ _ rfl rfl rfl
theorem pushes_nil {cap : Int} {i : It} : Memo.Ok Try.prog ⟨4, 0, [q0 cap, i.v], [], .bool true, [], 0⟩ := by
  have m1 := few_nm cap 2
  have key : ∀ p1 p2 p3, checkS cap [] = p1 → itemOk i = p2 → overS cap [] i = p3 → Memo.Ok Try.prog ⟨4, 0, [q0 cap, i.v], [], .bool true, [], 0⟩ := by
    intro p1 p2 p3 h1 h2 h3
    cases hno : (p1 && p2 && !p3) with
    | false =>
      have m2 : Memo.Ok Try.prog ⟨21, 3, [q0 cap, i.v], [], pushV p1 p2 p3 (q0 cap) (.bool true), [], 3⟩ := memo_any (pushN_no h1 h2 h3 hno (.bool true)) 3 (by cases p1 <;> cases p2 <;> cases p3 <;> kernel_rfl) rfl (by cases p1 <;> cases p2 <;> cases p3 <;> rfl)
      have m3 := right_nm h1 4
      have m4 := itemR_m i (item_eq i ▸ h2) 4
      have m5 := same_nm (a := 0) (b := 0) rfl 4
      cases p3 with
      | false =>
        obtain ⟨x1, x2, x3, x4, x5⟩ := i
        cases p1 <;> cases p2 <;> first
          | (exfalso; revert hno; decide)
          | exact memo_pure (hs := [(12, .call _), (15, .call _), (19, .call _), (24, .call _), (27, .call _), (33, .call _)]) (ch := []) 4 (evk 50) special ⟨wakes_m 2, m1, m2, m3, m4, m5, trivial⟩ trivial (by kernel_rfl) rfl (by kernel_rfl)
      | true =>
        have m6 := memo_any (pushNR_no h3) 4 (by kernel_rfl) rfl rfl
        have m7 := same_nm (a := cap) (b := cap) rfl 5
        obtain ⟨x1, x2, x3, x4, x5⟩ := i
        cases p1
        · cases p2 <;> exact memo_pure (hs := [(12, .call _), (15, .call _), (19, .call _), (24, .call _), (27, .call _), (33, .call _)]) (ch := []) 4 (evk 50) special ⟨wakes_m 2, m1, m2, m3, m4, m5, trivial⟩ trivial (by kernel_rfl) rfl (by kernel_rfl)
        · cases p2
          · exact memo_pure (hs := [(12, .call _), (15, .call _), (19, .call _), (24, .call _), (27, .call _), (33, .call _)]) (ch := []) 4 (evk 50) special ⟨wakes_m 2, m1, m2, m3, m4, m5, trivial⟩ trivial (by kernel_rfl) rfl (by kernel_rfl)
          · exact memo_pure (hs := [(12, .call _), (15, .call _), (19, .call _), (24, .call _), (27, .call _), (46, .call _), (51, .call _)]) (ch := []) 5 (evk 50) special ⟨wakes_m 2, m1, m2, m3, m4, m6, m7, trivial⟩ trivial (by kernel_rfl) rfl (by kernel_rfl)
    | true =>
      simp only [Bool.and_eq_true, Bool.not_eq_true'] at hno
      obtain ⟨⟨rfl, rfl⟩, rfl⟩ := hno
      have m2 := memo_0N (pushN_yes h1 h2 h3) (avL_pcs _) 3 (by kernel_rfl) rfl rfl rfl rfl
      have m3 := right_nm h1 12
      have m4 := itemR_m i (item_eq i ▸ h2) 12
      have m6 := memo_0N (pushNR_yes h3) (avL_pcs _) 12 (by kernel_rfl) rfl rfl rfl rfl
      have m7 := same_m (cap := cap) (ka := oc7) (kb := oc7) (avL_pcs _) (avL_pcs _) (l := [wholeP i]) (by simp) (holds_0 _) (holds_0 _) (na := 1) (nb := 1) (by simp) (by simp) 10 17 19 (by omega)
      obtain ⟨x1, x2, x3, x4, x5⟩ := i
      exact memo_pure (hs := [(12, .call _), (15, .call _), (19, .call _), (24, .call _), (27, .call _), (46, .call _), (51, .call _)]) (ch := []) 19 (evk 50) special ⟨wakes_m 2, m1, m2, m3, m4, m6, m7, trivial⟩ trivial (by kernel_rfl) rfl (by kernel_rfl)
  exact key _ _ _ rfl rfl rfl
end Go.Proofs.Ytddhglcmfoopnaa.queue
namespace Go.Proofs.Ytddhglcmfoopnaa.queuePushes
open Go Go.En Go.ChangeShapes Go.WideShapes Go.ChangeAt Go.RowKit
set_option linter.unusedVariables false
theorem own : ownKnob Try.prog.godebug = none := by kernel_rfl
set_option maxRecDepth 100000 in
theorem lifted (os : Os) (started : os.Started) (H : Type) (enc : TypeId × Value → H) :
    ReturnsInHanded {} Try.checked os 4 .any (Rows.queuePushesSpec.pre6 enc Try.prog Try.f4 Rows.queuePushesRow.domain false) (Rows.queuePushesSpec.post enc Try.prog Try.f4 false true false false) := by
  refine returnsInHanded_of_change (C := Try.checked) own started (by kernel_rfl) Try.func4
    (ChangeSpec.witness6 (enc := enc) (C := Try.checked) false ⟨#[], #[queue.q0 0, queue.zp.it.v], []⟩ 8 (by kernel_rfl) (by kernel_rfl) (by kernel_rfl) (by kernel_rfl)) ?_
  intro W base args ds gs before hval0 hW hcnd _
  have hval : ∀ (j : Nat) t v, Try.f4.params[j]? = some t → args[j]? = some v → Value.okWide Try.prog W .any base t v := hval0
  have hW2 := hW
  obtain ⟨p, q, hA0, hV, rfl, hfz, hnd⟩ := hW2
  have hA : DataW.TrodAll enc Try.prog W 0 (fun _ => true) true Try.f4.params.toList args.toList ds p := hA0
  rw [Try.params4] at hA hval
  obtain ⟨v0, v1, d0, d1, p0, p1, rfl, rfl, rfl, h0, h1⟩ := trodAll_two hA
  obtain ⟨x, rfl⟩ := queue.open_item (hval 1 26 v1 rfl rfl) h1
  obtain ⟨rfl, rfl⟩ := trodVars_none hV
  have hwalk := queue.calls_q (f := 4) (rest := [x.v]) (hval 0 24 v0 rfl rfl) h0 (fun φ => ⟨queue.rel_item φ x, trivial⟩) (fun cap => queue.pushes_nil) (fun cap c l e1 e2 => queue.pushes_0 (queue.avL_pcs l) e1 e2 (queue.holds_0 l))
  refine hwalk.mono fun e W' ⟨he, hb⟩ => ?_
  subst he
  exact ⟨_, rfl, law_post rfl (by kernel_rfl) (by kernel_rfl) rfl Try.underlying4 hW rfl rfl rfl hb⟩
theorem over : Rows.queuePushesRow.holds Try.pinned (OpenSpec.ofChange Rows.queuePushesSpec) :=
  OpenClaim.holds_of_wide 4 Try.f4 rfl rfl rfl rfl rfl rfl rfl ⟨rfl, rfl, rfl, rfl, rfl⟩ rfl rfl rfl rfl rfl (by kernel_rfl) Try.func4 (by kernel_rfl)
    (of_decide_eq_true (by kernel_rfl)) (by unfold Func.isWrapper; first | (rw [if_pos (by decide +kernel)]; kernel_rfl) | (rw [if_neg (by decide +kernel)]; exact ⟨rfl, rfl⟩))
    (fun os started H enc _ => lifted os started H enc)
theorem proved : Rows.QueuePushesSaid := over
#print axioms proved
end Go.Proofs.Ytddhglcmfoopnaa.queuePushes
