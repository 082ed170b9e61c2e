/- TopoPorts returns true for every topology and port, and its arguments read as before. No condition. -/
import Derived.Test.YtkngbmaomgfcjaaTpO
import Derived.WalkKit
import Derived.ProofKit
namespace Go.Proofs.Ytkngbmaomgfcjaa.topo
open Go Go.En
set_option linter.unusedVariables false

theorem ports_0 (Y : Raw) (p : Int) : Memo.Ok Try.prog ⟨6, 2, [Y.v, .int .i64 p], Y.V, .bool true, [], 2⟩ := by
  have mf := few_m Y 3
  have key : ∀ b q, checkS Y.few = b → portOk Y.few.ls.length p = q → Memo.Ok Try.prog ⟨6, 2, [Y.v, .int .i64 p], Y.V, .bool true, [], 2⟩ := by
    intro b q hb hq
    have m1 := port_0 Y.few Y.few_d Y.few_d2 (f := 24) (g := 42) (by omega) p hb hq 3
    have m2 := port_0 Y.few Y.few_d Y.few_d2 (f := 25) (g := 44) (by omega) p hb hq 3
    have m3 := port_0 Y.few Y.few_d Y.few_d2 (f := 26) (g := 54) (by omega) p hb hq 3
    have m4 := port_0 Y.few Y.few_d Y.few_d2 (f := 27) (g := 55) (by omega) p hb hq 3
    have m5 := port_0 Y.few Y.few_d Y.few_d2 (f := 28) (g := 56) (by omega) p hb hq 3
    have m6 := right_m Y.few hb 3
    have m7 := portR_0 Y.few p hq 3
    cases b with
    | false => cases q <;> exact memo_pure (hs := [(16, .call _), (19, .call _), (23, .call _), (29, .call _), (35, .call _), (41, .call _), (47, .call _), (51, .call _)]) (ch := []) 3 (evk 50) special ⟨wakes_m 3, mf, m1, m2, m3, m4, m5, m6, trivial⟩ trivial (Y.hV rfl) (Y.smallH 2) (by kernel_rfl)
    | true =>
      cases q with
      | false => exact memo_pure (hs := [(16, .call _), (19, .call _), (23, .call _), (29, .call _), (35, .call _), (41, .call _), (47, .call _), (51, .call _), (55, .call _)]) (ch := []) 3 (evk 50) special ⟨wakes_m 3, mf, m1, m2, m3, m4, m5, m6, m7, trivial⟩ trivial (Y.hV rfl) (Y.smallH 2) (by kernel_rfl)
      | true =>
        have r1 := ansR_0 Y.few (f := 30) (g := 42) (by omega) hq 3
        have r2 := ansR_0 Y.few (f := 31) (g := 44) (by omega) hq 3
        have r3 := perR_0 Y.few (f := 32) (g := 54) (by omega) hq 3
        have r4 := perR_0 Y.few (f := 33) (g := 55) (by omega) hq 3
        have r5 := backR_0 Y.few.hL hq 3
        exact memo_pure (hs := [(16, .call _), (19, .call _), (23, .call _), (29, .call _), (35, .call _), (41, .call _), (47, .call _), (51, .call _), (55, .call _), (103, .call _), (104, .val (.bool (ansAt Y.few 42 p == ansAt Y.few 42 p)) (.bool true)), (109, .call _), (110, .val (.bool (ansAt Y.few 44 p == ansAt Y.few 44 p)) (.bool true)), (116, .call _), (117, .val (.bool (ansAt Y.few 54 p == ansAt Y.few 54 p)) (.bool true)), (123, .call _), (124, .val (.bool (ansAt Y.few 55 p == ansAt Y.few 55 p)) (.bool true)), (129, .call _), (130, .val (.bool (ansAt Y.few 56 p == ansAt Y.few 56 p)) (.bool true))]) (ch := []) 3 (evk 50) special
          ⟨wakes_m 3, mf, m1, m2, m3, m4, m5, m6, m7, r1, congrArg Value.bool (beq_self_eq_true _), r2, congrArg Value.bool (beq_self_eq_true _), r3, congrArg Value.bool (beq_self_eq_true _), r4, congrArg Value.bool (beq_self_eq_true _), r5, congrArg Value.bool (beq_self_eq_true _), trivial⟩ trivial (Y.hV rfl) (Y.smallH 2) (by kernel_rfl)
  exact key _ _ rfl rfl
end Go.Proofs.Ytkngbmaomgfcjaa.topo
namespace Go.Proofs.Ytkngbmaomgfcjaa.topoPorts
open Go Go.En Go.ChangeShapes Go.WideShapes Go.ChangeAt Go.RowKit
set_option linter.unusedVariables false
theorem own : ownKnob Try.prog.godebug = none := by kernel_rfl
set_option maxRecDepth 100000 in
theorem lifted (os : Os) (started : os.Started) (H : Type) (enc : TypeId × Value → H) :
    ReturnsInHanded {} Try.checked os 6 .any (Rows.topoPortsSpec.pre6 enc Try.prog Try.f6 Rows.topoPortsRow.domain false) (Rows.topoPortsSpec.post enc Try.prog Try.f6 false true false false) := by
  refine returnsInHanded_of_change_shaped (C := Try.checked) own started (by kernel_rfl) Try.func6
    (ChangeSpec.witness6 (enc := enc) (C := Try.checked) false ⟨#[], #[topo.tv 0 none 0 0 none 0 0, .int .i64 0], []⟩ 8 (by kernel_rfl) (by kernel_rfl) (by kernel_rfl) (by kernel_rfl)) ?_
  intro W base args ds gs before hval0 hW hcnd _ hsh _
  have hval : ∀ (j : Nat) t v, Try.f6.params[j]? = some t → args[j]? = some v → Value.okWide Try.prog W .any base t v := hval0
  have hW2 := hW
  obtain ⟨p, q, hA0, hV, rfl, hfz, hnd⟩ := hW2
  have hA : DataW.TrodAll enc Try.prog W 0 (fun _ => true) true Try.f6.params.toList args.toList ds p := hA0
  rw [Try.params6] at hA hval
  obtain ⟨v0, v1, d0, d1, p0, p1, rfl, rfl, rfl, h0, h1⟩ := trodAll_two hA
  obtain ⟨x, rfl, _, _, _⟩ := open_int Try.underlying3 (hval 1 3 v1 rfl rfl) h1
  obtain ⟨rfl, rfl⟩ := trodVars_none hV
  have hwalk := topo.calls_t (f := 6) (rest := [.int .i64 x]) (topo.first_block hsh) (hval 0 25 v0 rfl rfl) h0 (fun φ => ⟨.int _ _, trivial⟩) (fun Y => topo.ports_0 Y x)
  refine hwalk.mono fun e W' ⟨he, hb⟩ => ?_
  subst he
  exact ⟨_, rfl, law_post rfl (by kernel_rfl) (by kernel_rfl) rfl Try.underlying4 hW rfl rfl rfl hb⟩
theorem over : Rows.topoPortsRow.holds Try.pinned (OpenSpec.ofChange Rows.topoPortsSpec) :=
  OpenClaim.holds_of_wide 6 Try.f6 rfl rfl rfl rfl rfl rfl rfl ⟨rfl, rfl, rfl, rfl, rfl⟩ rfl rfl rfl rfl rfl (by kernel_rfl) Try.func6 (by kernel_rfl)
    (of_decide_eq_true (by kernel_rfl)) (by unfold Func.isWrapper; first | (rw [if_pos (by decide +kernel)]; kernel_rfl) | (rw [if_neg (by decide +kernel)]; exact ⟨rfl, rfl⟩))
    (fun os started H enc _ => lifted os started H enc)
theorem proved : Rows.TopoPortsSaid := over
#print axioms proved
end Go.Proofs.Ytkngbmaomgfcjaa.topoPorts
