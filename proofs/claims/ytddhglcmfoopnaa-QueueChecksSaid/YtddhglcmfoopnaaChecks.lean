/- QueueChecks returns true for every queue, part and number, and its arguments read as before. No condition. -/
import Derived.Test.YtddhglcmfoopnaaFnR
import Derived.WalkKit
import Derived.ProofKit
namespace Go.Proofs.Ytddhglcmfoopnaa.queue
open Go Go.En
set_option linter.unusedVariables false

theorem cap_within (d : Int) : within d 0 65536 = !(decide (d < 0) || decide (d > 65536)) := by
  rw [Bool.eq_iff_iff]
  simp only [within, Bool.and_eq_true, Bool.not_eq_true', Bool.or_eq_false_iff, decide_eq_false_iff_not, decide_eq_true_eq]
  omega
theorem checks_0 {cs : List Value} {off c : Nat} {cap d : Int} {x : Pt} (hs : avL cs = true) {l : List Pt} (hn : l.length ≤ c) (hc : c < openCap) (hh : Holds cs off l) :
    Memo.Ok Try.prog ⟨3, 1, [qv cap 0 off l.length c, x.v, .int .i64 d], [(0, cs)], .bool true, [], 1⟩ := by
  have hS : smallH 1 [(0, cs)] = true := by simp [smallH, small_avL hs]
  have hm : (l.take 60).length < 9223372036854775807 := by rw [take_len]; unfold minI; omega
  have hh' := holds_take hh 60
  have key : ∀ p1 p2 p3 p5 p6, checkS cap (l.take 60) = p1 → partC x = p2 → itemOk x.it = p3 → decide (d < 0) = p5 → decide (d > 65536) = p6 →
      Memo.Ok Try.prog ⟨3, 1, [qv cap 0 off l.length c, x.v, .int .i64 d], [(0, cs)], .bool true, [], 1⟩ := by
    intro p1 p2 p3 p5 p6 h1 h2 h3 h5 h6
    have m1 := few_m (cap := cap) (off := off) hn hc hs 0 3
    have m2 := right_m (c := c) hs hm hh' h1 0 4
    have m3 := check_m (c := c) hs hm hh' h1 0 4
    have m4 := checkPart_m x h2 4
    have m5 := partR_m x (part_eq x ▸ h2) 4
    have m6 := checkItem_m x.it h3 4
    have m7 := itemR_m x.it (item_eq x.it ▸ h3) 4
    have m8 := octets_m (c := c) hs hm hh' h1 0 4
    have m9 := octR_m (c := c) (cap := cap) hs hm hh' 0 4
    rw [take_len] at m2 m3 m8 m9
    have hw : within d 0 65536 = !(p5 || p6) := by rw [cap_within, h5, h6]
    have m10 := new_m hw 4
    generalize sumW (·.left) (l.take 60) 0 = s at m8 m9
    obtain ⟨it, x6, x7⟩ := x
    obtain ⟨x1, x2, x3, x4, x5⟩ := it
    have m11 := same_nm (a := 0) (b := 0) rfl 5
    have m12 := same_nm (a := d) (b := d) rfl 5
    cases p1 <;> cases p2 <;> cases p3 <;> cases p5 <;> cases p6 <;>
      exact memo_pure (hs := [(15, .call _), (18, .call _), (20, .call _), (22, .call _), (36, .call _), (38, .call _), (52, .call _), (55, .call _), (69, .call _), (87, .call _), (88, .val (.bool (s != s)) (.bool false)), (97, .call _), (101, .val (.bool (decide (d < 0))) (.bool _)), (104, .val (.bool (decide (d > 65536))) (.bool _)), (108, .call _), (116, .call _)]) (ch := []) 5 (evk 50) special
        ⟨wakes_m 3, m1, m2, m3, m4, m5, m6, m7, m8, m9, congrArg Value.bool (bne_self_eq_false s), m10, congrArg Value.bool h5, congrArg Value.bool h6, m11, m12, trivial⟩ trivial (by kernel_rfl) hS (by kernel_rfl)
  exact key _ _ _ _ _ rfl rfl rfl rfl rfl
theorem checks_nil {cap d : Int} {x : Pt} : Memo.Ok Try.prog ⟨3, 0, [q0 cap, x.v, .int .i64 d], [], .bool true, [], 0⟩ := by
  have key : ∀ p1 p2 p3 p5 p6, checkS cap [] = p1 → partC x = p2 → itemOk x.it = p3 → decide (d < 0) = p5 → decide (d > 65536) = p6 →
      Memo.Ok Try.prog ⟨3, 0, [q0 cap, x.v, .int .i64 d], [], .bool true, [], 0⟩ := by
    intro p1 p2 p3 p5 p6 h1 h2 h3 h5 h6
    have m1 := few_nm cap 2
    have m2 := right_nm h1 3
    have m3 := check_nm h1 3
    have m4 := checkPart_m x h2 3
    have m5 := partR_m x (part_eq x ▸ h2) 3
    have m6 := checkItem_m x.it h3 3
    have m7 := itemR_m x.it (item_eq x.it ▸ h3) 3
    have m8 := octets_nm h1 3
    have m9 := octR_nm cap 3
    have hw : within d 0 65536 = !(p5 || p6) := by rw [cap_within, h5, h6]
    have m10 := new_m hw 3
    obtain ⟨it, x6, x7⟩ := x
    obtain ⟨x1, x2, x3, x4, x5⟩ := it
    have m11 := same_nm (a := 0) (b := 0) rfl 4
    have m12 := same_nm (a := d) (b := d) rfl 4
    cases p1 <;> cases p2 <;> cases p3 <;> cases p5 <;> cases p6 <;>
      exact memo_pure (hs := [(15, .call _), (18, .call _), (20, .call _), (22, .call _), (36, .call _), (38, .call _), (52, .call _), (55, .call _), (69, .call _), (87, .call _), (97, .call _), (101, .val (.bool (decide (d < 0))) (.bool _)), (104, .val (.bool (decide (d > 65536))) (.bool _)), (108, .call _), (116, .call _)]) (ch := []) 4 (evk 50) special
        ⟨wakes_m 2, m1, m2, m3, m4, m5, m6, m7, m8, m9, m10, congrArg Value.bool h5, congrArg Value.bool h6, m11, m12, trivial⟩ trivial (by kernel_rfl) rfl (by kernel_rfl)
  exact key _ _ _ _ _ rfl rfl rfl rfl rfl
end Go.Proofs.Ytddhglcmfoopnaa.queue
namespace Go.Proofs.Ytddhglcmfoopnaa.queueChecks
open Go Go.En Go.ChangeShapes Go.WideShapes Go.ChangeAt Go.RowKit
set_option linter.unusedVariables false
theorem own : ownKnob Try.prog.godebug = none := by kernel_rfl
set_option maxRecDepth 100000 in
theorem lifted (os : Os) (started : os.Started) (H : Type) (enc : TypeId × Value → H) :
    ReturnsInHanded {} Try.checked os 3 .any (Rows.queueChecksSpec.pre6 enc Try.prog Try.f3 Rows.queueChecksRow.domain false) (Rows.queueChecksSpec.post enc Try.prog Try.f3 false true false false) := by
  refine returnsInHanded_of_change (C := Try.checked) own started (by kernel_rfl) Try.func3
    (ChangeSpec.witness6 (enc := enc) (C := Try.checked) false ⟨#[], #[queue.q0 0, queue.zp.v, .int .i64 0], []⟩ 8 (by kernel_rfl) (by kernel_rfl) (by kernel_rfl) (by kernel_rfl)) ?_
  intro W base args ds gs before hval0 hW hcnd _
  have hval : ∀ (j : Nat) t v, Try.f3.params[j]? = some t → args[j]? = some v → Value.okWide Try.prog W .any base t v := hval0
  have hW2 := hW
  obtain ⟨p, q, hA0, hV, rfl, hfz, hnd⟩ := hW2
  have hA : DataW.TrodAll enc Try.prog W 0 (fun _ => true) true Try.f3.params.toList args.toList ds p := hA0
  rw [Try.params3] at hA hval
  obtain ⟨v0, v1, v2, d0, d1, d2, p0, p1, p2, rfl, rfl, rfl, h0, h1, h2⟩ := trodAll_three hA
  obtain ⟨x, rfl⟩ := queue.open_part (hval 1 28 v1 rfl rfl) h1
  obtain ⟨d, rfl, _, _, _⟩ := open_int Try.underlying3 (hval 2 3 v2 rfl rfl) h2
  obtain ⟨rfl, rfl⟩ := trodVars_none hV
  have hwalk := queue.calls_q (f := 3) (rest := [x.v, .int .i64 d]) (hval 0 24 v0 rfl rfl) h0 (fun φ => ⟨queue.rel_part φ x, .int _ _, trivial⟩) (fun cap => queue.checks_nil) (fun cap c l e1 e2 => queue.checks_0 (queue.avL_pcs l) e1 e2 (queue.holds_0 l))
  refine hwalk.mono fun e W' ⟨he, hb⟩ => ?_
  subst he
  exact ⟨_, rfl, law_post rfl (by kernel_rfl) (by kernel_rfl) rfl Try.underlying4 hW rfl rfl rfl hb⟩
theorem over : Rows.queueChecksRow.holds Try.pinned (OpenSpec.ofChange Rows.queueChecksSpec) :=
  OpenClaim.holds_of_wide 3 Try.f3 rfl rfl rfl rfl rfl rfl rfl ⟨rfl, rfl, rfl, rfl, rfl⟩ rfl rfl rfl rfl rfl (by kernel_rfl) Try.func3 (by kernel_rfl)
    (of_decide_eq_true (by kernel_rfl)) (by unfold Func.isWrapper; first | (rw [if_pos (by decide +kernel)]; kernel_rfl) | (rw [if_neg (by decide +kernel)]; exact ⟨rfl, rfl⟩))
    (fun os started H enc _ => lifted os started H enc)
theorem proved : Rows.QueueChecksSaid := over
#print axioms proved
end Go.Proofs.Ytddhglcmfoopnaa.queueChecks
