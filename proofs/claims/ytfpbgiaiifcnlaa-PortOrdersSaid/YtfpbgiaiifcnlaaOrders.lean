/- PortOrders returns true for every frames and per, and its arguments read as before. No condition. -/
import Derived.Test.YtfpbgiaiifcnlaaRows
import Derived.Test.YtfpbgiaiifcnlaaChecked
import Derived.Test.YtfpbgiaiifcnlaaPw2
import Derived.WalkKit
import Derived.ProofKit
namespace Go.Proofs.Ytfpbgiaiifcnlaa.pg
open Go Go.Fz Go.Fz.Sy
theorem good : ∀ x : T (prodTy A4), wfT (prodTy A4) x → K4 x = some (true, ()) := by
  rintro ⟨a0, a1, u⟩ ⟨⟨_, h0⟩, h1, _⟩
  refine law4 (fun x hx => ?_) h1.1 h1.2
  obtain ⟨h3, h4, h5⟩ := h0 x hx
  exact ⟨h3.1, h3.2, h4.1, h4.2, h5.1, h5.2⟩
end Go.Proofs.Ytfpbgiaiifcnlaa.pg
namespace Go.Proofs.Ytfpbgiaiifcnlaa.portOrders
open Go Go.Fz Go.Fz.Sy Go.ChangeShapes Go.WideShapes Go.ChangeAt Go.RowKit
set_option linter.unusedVariables false
theorem own : ownKnob Try.prog.godebug = none := by kernel_rfl
theorem fits : fitArgs Try.prog 30 Try.f4.params.toList pg.A4 = true := by kernel_rfl
set_option maxRecDepth 100000 in
theorem lifted (os : Os) (started : os.Started) (H : Type) (enc : TypeId × Value → H) :
    ReturnsInHanded {} Try.checked os 4 .any (Rows.portOrdersSpec.pre6 enc Try.prog Try.f4 Rows.portOrdersRow.domain false) (Rows.portOrdersSpec.post enc Try.prog Try.f4 false true false false) := by
  refine returnsInHanded_of_change (C := Try.checked) own started (by kernel_rfl) Try.func4
    (ChangeSpec.witness6 (enc := enc) (C := Try.checked) false ⟨#[], zargs pg.A4, []⟩ 8 (by kernel_rfl) (by kernel_rfl) (by kernel_rfl) (by kernel_rfl)) ?_
  intro W base args ds gs before hval0 hW hcnd _
  have hval : ∀ (j : Nat) t v, Try.f4.params[j]? = some t → args[j]? = some v → Value.okWide Try.prog W .any base t v := hval0
  have hW2 := hW
  obtain ⟨p, q, hA0, hV, rfl, hfz, hnd⟩ := hW2
  have hA : DataW.TrodAll enc Try.prog W 0 (fun _ => true) true Try.f4.params.toList args.toList ds p := hA0
  have hwalk0 := calls_law (w := W) pg.K4_ok pg.good fits (fun j t v ht hv => hval j t v (by rwa [Array.getElem?_toList] at ht) (by rwa [Array.getElem?_toList] at hv)) hA
  have hwalk : Calls Try.prog 4 args W fun e w' => e = .returned (.bool true) ∧ Below W.heap.size W w' := by
    rwa [Array.toArray_toList] at hwalk0
  obtain ⟨rfl, rfl⟩ := trodVars_none hV
  have hlen : ds.length = 2 := (trodAll_len hA).trans (by kernel_rfl)
  obtain ⟨d0, d1, rfl⟩ : ∃ d0 d1, ds = [d0, d1] := by
    match ds, hlen with
    | [d0, d1], _ => exact ⟨d0, d1, rfl⟩
  refine hwalk.mono fun e W' ⟨he, hb⟩ => ?_
  subst he
  exact ⟨_, rfl, law_post rfl (by kernel_rfl) (by kernel_rfl) rfl Try.underlying4 hW rfl rfl rfl hb⟩
theorem over : Rows.portOrdersRow.holds Try.pinned (OpenSpec.ofChange Rows.portOrdersSpec) :=
  OpenClaim.holds_of_wide 4 Try.f4 rfl rfl rfl rfl rfl rfl rfl ⟨rfl, rfl, rfl, rfl, rfl⟩ rfl rfl rfl rfl rfl (by kernel_rfl) Try.func4 (by kernel_rfl)
    (of_decide_eq_true (by kernel_rfl)) (by unfold Func.isWrapper; first | (rw [if_pos (by decide +kernel)]; kernel_rfl) | (rw [if_neg (by decide +kernel)]; exact ⟨rfl, rfl⟩))
    (fun os started H enc _ => lifted os started H enc)
theorem proved : Rows.PortOrdersSaid := over
#print axioms proved
end Go.Proofs.Ytfpbgiaiifcnlaa.portOrders
