/- NodeKnown returns true in every world: the closed call is evaluated by the engine, in the kernel, part by part. No condition. -/
import Derived.Test.YtjokhjbknigocaaGreatRows
import Derived.Test.YtjokhjbknigocaaGreatEnNR
import Derived.Test.YtjokhjbknigocaaGreatNk2
import Derived.WalkKit
import Derived.ProofKit
namespace Go.Proofs.YtjokhjbknigocaaGreat.nodeKnown
open Go.En
theorem runs : saysTrueR Tryz.prog [m17, m18, m20, m21, m25, m28, m29, m30, m31, m33, m34, m37, m45, m50, m51, m52, m53, m54, m55, m56, m57, m59, m60, m46, m67, m68, m69] 400 3 = true := by kernel_rfl
set_option maxRecDepth 100000 in
theorem closed : ∃ H' nx', CallOk Tryz.prog 3 [] [] 0 (.bool true) H' nx' := closed_ofR special (memsR_cons ok17 (memsR_cons ok18 (memsR_cons ok20 (memsR_cons ok21 (memsR_cons ok25 (memsR_cons ok28 (memsR_cons ok29 (memsR_cons ok30 (memsR_cons ok31 (memsR_cons ok33 (memsR_cons ok34 (memsR_cons ok37 (memsR_cons ok45 (memsR_cons ok50 (memsR_cons ok51 (memsR_cons ok52 (memsR_cons ok53 (memsR_cons ok54 (memsR_cons ok55 (memsR_cons ok56 (memsR_cons ok57 (memsR_cons ok59 (memsR_cons ok60 (memsR_cons ok46 (memsR_cons ok67 (memsR_cons ok68 (memsR_cons ok69 memsR_nil))))))))))))))))))))))))))) runs

open Go.ChangeShapes Go.WideShapes Go.ChangeAt Go.RowKit
theorem own : ownKnob Tryz.prog.godebug = none := by kernel_rfl
theorem walk (w : World) : Calls Tryz.prog 3 #[] w fun e w' => e = .returned (.bool true) ∧ Below w.heap.size w w' := by
  obtain ⟨H', nx', h⟩ := closed
  exact calls_closed h w

set_option maxRecDepth 100000 in
theorem lifted (os : Os) (started : os.Started) (H : Type) (enc : TypeId × Value → H) :
    ReturnsInHanded {} Tryz.checked os 3 .any (Rows.nodeKnownSpec.pre6 enc Tryz.prog Tryz.f3 Rows.nodeKnownRow.domain false) (Rows.nodeKnownSpec.post enc Tryz.prog Tryz.f3 false true false false) := by
  refine returnsInHanded_of_change (C := Tryz.checked) own started (by kernel_rfl) Tryz.func3
    (ChangeSpec.witness6 (enc := enc) (C := Tryz.checked) false ⟨#[], #[], []⟩ 8 (by kernel_rfl) (by kernel_rfl) (by kernel_rfl) (by kernel_rfl)) ?_
  intro W base args ds gs before hval0 hW hcnd _
  have hA : Tryz.f3.params.toList = [] := by rw [Tryz.params3]
  have hW2 := hW
  obtain ⟨p, q, hA0, hV, rfl, hfz, hnd⟩ := hW2
  have hA0 : DataW.TrodAll enc Tryz.prog W 0 (fun _ => true) true Tryz.f3.params.toList args.toList ds p := hA0
  rw [hA] at hA0
  obtain ⟨rfl, rfl, rfl⟩ := trodAll_none hA0
  obtain ⟨rfl, rfl⟩ := trodVars_none hV
  refine (walk W).mono fun e W' ⟨he, hb⟩ => ?_
  subst he
  exact ⟨_, rfl, law_post rfl (by kernel_rfl) (by kernel_rfl) rfl Tryz.underlying4 hW rfl rfl rfl hb⟩

theorem over : Rows.nodeKnownRow.holds Tryz.pinned (OpenSpec.ofChange Rows.nodeKnownSpec) :=
  OpenClaim.holds_of_wide 3 Tryz.f3 rfl rfl rfl rfl rfl rfl rfl ⟨rfl, rfl, rfl, rfl, rfl⟩ rfl rfl rfl rfl rfl (by kernel_rfl) Tryz.func3 (by kernel_rfl)
    (of_decide_eq_true (by kernel_rfl)) (by unfold Func.isWrapper; first | (rw [if_pos (by decide +kernel)]; kernel_rfl) | (rw [if_neg (by decide +kernel)]; exact ⟨rfl, rfl⟩))
    (fun os started H enc _ => lifted os started H enc)

theorem proved : Rows.NodeKnownSaid := over
#print axioms proved
end Go.Proofs.YtjokhjbknigocaaGreat.nodeKnown
