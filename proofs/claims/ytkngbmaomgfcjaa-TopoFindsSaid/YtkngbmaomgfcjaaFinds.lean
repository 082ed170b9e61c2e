/- TopoFinds returns true for every topology and two nodes, and its arguments read as before. No condition. -/
import Derived.Test.YtkngbmaomgfcjaaTpX
import Derived.Test.YtkngbmaomgfcjaaTpO
import Derived.WalkKit
import Derived.ProofKit
namespace Go.Proofs.Ytkngbmaomgfcjaa.topo
open Go Go.En
set_option linter.unusedVariables false

theorem finds_0 (Y : Raw) (a b : Int) : Memo.Ok Try.prog ⟨3, 2, [Y.v, .int .i64 a, .int .i64 b], Y.V, .bool true, [], 2⟩ := by
  have mf := few_m Y 3
  have hd := Y.few_d
  have hd2 := Y.few_d2
  cases hc : checkS Y.few with
  | false =>
    have mp := ports_m Y.few hd hd2 a (L := portsS Y.few a) (n1 := nodeS Y.few.N a) (fun h => by cases h) hc rfl rfl
    have mi := find_m Y.few hd hd2 a b hc rfl rfl rfl 5
    have mg := right_m Y.few hc 5
    exact memo_pure (hs := [(12, .call _), (15, .call _), (19, .call _), (26, .call _), (30, .call _)]) (ch := []) 6 (evk 50) special ⟨wakes_m 3, mf, mp, mi, mg, trivial⟩ trivial (Y.hV rfl) (Y.smallH 2) (by kernel_rfl)
  | true =>
    have hc2 := hc
    unfold checkS lateS at hc2
    simp only [Bool.and_eq_true] at hc2
    obtain ⟨hN, hn2, hn12, h24⟩ := first_true hc2.1
    have hlen : (portsS Y.few a).length ≤ 1000 := by
      have := portsS_len Y.few a (2 * Y.few.ls.length) 0 []
      unfold portsS
      simp at this
      omega
    have key : ∀ p1 p2 p3 p4 g L, decide (a < 0) = p1 → decide (a ≥ Y.few.N) = p2 → decide (b < 0) = p3 → decide (b ≥ Y.few.N) = p4 → findS Y.few a b = g → portsS Y.few a = L → Memo.Ok Try.prog ⟨3, 2, [Y.v, .int .i64 a, .int .i64 b], Y.V, .bool true, [], 2⟩ := by
      intro p1 p2 p3 p4 g L e1 e2 e3 e4 hg hL
      have ha : nodeS Y.few.N a = (!p1 && !p2) := by rw [← e1, ← e2]; exact node_two rfl
      have hb : nodeS Y.few.N b = (!p3 && !p4) := by rw [← e3, ← e4]; exact node_two rfl
      have mp := ports_m Y.few hd hd2 a (fun _ => h24) hc ha hL
      have mi := find_m Y.few hd hd2 a b hc ha hb hg
      have mg := right_m Y.few hc
      cases p1
      · cases p2
        · have mr := portsR_m Y.few a h24 hL
          rw [hL] at hlen
          have me := eqi_m L hlen 10 19 23 (by omega)
          have mh := findR_m Y.few a b hg 23
          cases p3
          · cases p4
            · cases g with
              | none =>
                cases L <;> exact memo_pure (hs := [(12, .call _), (15, .call _), (19, .call _), (26, .call _), (30, .call _), (48, .val (.bool (decide (a < 0))) (.bool false)), (53, .val (.bool (decide (a ≥ Y.few.N))) (.bool false)), (76, .call _), (77, .call _), (81, .val (.bool (decide (b < 0))) (.bool false)), (86, .val (.bool (decide (b ≥ Y.few.N))) (.bool false)), (97, .call _)]) (ch := []) 23 (evk 50) special
                  ⟨wakes_m 3, mf, mp, mi 18, mg 18, congrArg Value.bool e1, congrArg Value.bool e2, mr, me, congrArg Value.bool e3, congrArg Value.bool e4, mh, trivial⟩ trivial (Y.hV rfl) (Y.smallH 2) (by kernel_rfl)
              | some k =>
                have h0 : decide ((k : Int) < 0) = false := decide_eq_false (by omega)
                have h1 : ((k : Int) == (k : Int)) = true := beq_self_eq_true _
                cases L <;> exact memo_pure (hs := [(12, .call _), (15, .call _), (19, .call _), (26, .call _), (30, .call _), (48, .val (.bool (decide (a < 0))) (.bool false)), (53, .val (.bool (decide (a ≥ Y.few.N))) (.bool false)), (76, .call _), (77, .call _), (81, .val (.bool (decide (b < 0))) (.bool false)), (86, .val (.bool (decide (b ≥ Y.few.N))) (.bool false)), (97, .call _), (99, .val (.bool (decide ((k : Int) < 0))) (.bool false)), (111, .val (.bool ((k : Int) == (k : Int))) (.bool true))]) (ch := []) 23 (evk 50) special
                  ⟨wakes_m 3, mf, mp, mi 18, mg 18, congrArg Value.bool e1, congrArg Value.bool e2, mr, me, congrArg Value.bool e3, congrArg Value.bool e4, mh, congrArg Value.bool h0, congrArg Value.bool h1, trivial⟩ trivial (Y.hV rfl) (Y.smallH 2) (by kernel_rfl)
            · cases L <;> exact memo_pure (hs := [(12, .call _), (15, .call _), (19, .call _), (26, .call _), (30, .call _), (48, .val (.bool (decide (a < 0))) (.bool false)), (53, .val (.bool (decide (a ≥ Y.few.N))) (.bool false)), (76, .call _), (77, .call _), (81, .val (.bool (decide (b < 0))) (.bool false)), (86, .val (.bool (decide (b ≥ Y.few.N))) (.bool true))]) (ch := []) 23 (evk 50) special
                  ⟨wakes_m 3, mf, mp, mi 18, mg 18, congrArg Value.bool e1, congrArg Value.bool e2, mr, me, congrArg Value.bool e3, congrArg Value.bool e4, trivial⟩ trivial (Y.hV rfl) (Y.smallH 2) (by kernel_rfl)
          · cases L <;> exact memo_pure (hs := [(12, .call _), (15, .call _), (19, .call _), (26, .call _), (30, .call _), (48, .val (.bool (decide (a < 0))) (.bool false)), (53, .val (.bool (decide (a ≥ Y.few.N))) (.bool false)), (76, .call _), (77, .call _), (81, .val (.bool (decide (b < 0))) (.bool true))]) (ch := []) 23 (evk 50) special
                  ⟨wakes_m 3, mf, mp, mi 18, mg 18, congrArg Value.bool e1, congrArg Value.bool e2, mr, me, congrArg Value.bool e3, trivial⟩ trivial (Y.hV rfl) (Y.smallH 2) (by kernel_rfl)
        · exact memo_pure (hs := [(12, .call _), (15, .call _), (19, .call _), (26, .call _), (30, .call _), (48, .val (.bool (decide (a < 0))) (.bool false)), (53, .val (.bool (decide (a ≥ Y.few.N))) (.bool true))]) (ch := []) 6 (evk 50) special
                  ⟨wakes_m 3, mf, mp, mi 5, mg 5, congrArg Value.bool e1, congrArg Value.bool e2, trivial⟩ trivial (Y.hV rfl) (Y.smallH 2) (by kernel_rfl)
      · exact memo_pure (hs := [(12, .call _), (15, .call _), (19, .call _), (26, .call _), (30, .call _), (48, .val (.bool (decide (a < 0))) (.bool true))]) (ch := []) 6 (evk 50) special
                  ⟨wakes_m 3, mf, mp, mi 5, mg 5, congrArg Value.bool e1, trivial⟩ trivial (Y.hV rfl) (Y.smallH 2) (by kernel_rfl)
    exact key _ _ _ _ _ _ rfl rfl rfl rfl rfl rfl
end Go.Proofs.Ytkngbmaomgfcjaa.topo
namespace Go.Proofs.Ytkngbmaomgfcjaa.topoFinds
open Go Go.En Go.ChangeShapes Go.WideShapes Go.ChangeAt Go.RowKit
set_option linter.unusedVariables false
theorem own : ownKnob Try.prog.godebug = none := by kernel_rfl
set_option maxRecDepth 100000 in
theorem lifted (os : Os) (started : os.Started) (H : Type) (enc : TypeId × Value → H) :
    ReturnsInHanded {} Try.checked os 3 .any (Rows.topoFindsSpec.pre6 enc Try.prog Try.f3 Rows.topoFindsRow.domain false) (Rows.topoFindsSpec.post enc Try.prog Try.f3 false true false false) := by
  refine returnsInHanded_of_change_shaped (C := Try.checked) own started (by kernel_rfl) Try.func3
    (ChangeSpec.witness6 (enc := enc) (C := Try.checked) false ⟨#[], #[topo.tv 0 none 0 0 none 0 0, .int .i64 0, .int .i64 0], []⟩ 8 (by kernel_rfl) (by kernel_rfl) (by kernel_rfl) (by kernel_rfl)) ?_
  intro W base args ds gs before hval0 hW hcnd _ hsh _
  have hval : ∀ (j : Nat) t v, Try.f3.params[j]? = some t → args[j]? = some v → Value.okWide Try.prog W .any base t v := hval0
  have hW2 := hW
  obtain ⟨p, q, hA0, hV, rfl, hfz, hnd⟩ := hW2
  have hA : DataW.TrodAll enc Try.prog W 0 (fun _ => true) true Try.f3.params.toList args.toList ds p := hA0
  rw [Try.params3] at hA hval
  obtain ⟨v0, v1, v2, d0, d1, d2, p0, p1, p2, rfl, rfl, rfl, h0, h1, h2⟩ := trodAll_three hA
  obtain ⟨x, rfl, _, _, _⟩ := open_int Try.underlying3 (hval 1 3 v1 rfl rfl) h1
  obtain ⟨y, rfl, _, _, _⟩ := open_int Try.underlying3 (hval 2 3 v2 rfl rfl) h2
  obtain ⟨rfl, rfl⟩ := trodVars_none hV
  have hwalk := topo.calls_t (f := 3) (rest := [.int .i64 x, .int .i64 y]) (topo.first_block hsh) (hval 0 25 v0 rfl rfl) h0 (fun φ => ⟨.int _ _, .int _ _, trivial⟩) (fun Y => topo.finds_0 Y x y)
  refine hwalk.mono fun e W' ⟨he, hb⟩ => ?_
  subst he
  exact ⟨_, rfl, law_post rfl (by kernel_rfl) (by kernel_rfl) rfl Try.underlying4 hW rfl rfl rfl hb⟩
theorem over : Rows.topoFindsRow.holds Try.pinned (OpenSpec.ofChange Rows.topoFindsSpec) :=
  OpenClaim.holds_of_wide 3 Try.f3 rfl rfl rfl rfl rfl rfl rfl ⟨rfl, rfl, rfl, rfl, rfl⟩ rfl rfl rfl rfl rfl (by kernel_rfl) Try.func3 (by kernel_rfl)
    (of_decide_eq_true (by kernel_rfl)) (by unfold Func.isWrapper; first | (rw [if_pos (by decide +kernel)]; kernel_rfl) | (rw [if_neg (by decide +kernel)]; exact ⟨rfl, rfl⟩))
    (fun os started H enc _ => lifted os started H enc)
theorem proved : Rows.TopoFindsSaid := over
#print axioms proved
end Go.Proofs.Ytkngbmaomgfcjaa.topoFinds
