/- AdmitKnown returns true in every world: the closed call is evaluated by the engine, in the kernel, part by part. No condition. -/
import Derived.Test.YtplhphmbkmpocaaGreatRows
import Derived.Test.YtplhphmbkmpocaaGreatEnN
import Derived.Test.YtplhphmbkmpocaaGreatAk0
import Derived.Test.YtplhphmbkmpocaaGreatAk1
import Derived.Test.YtplhphmbkmpocaaGreatAk2
import Derived.Test.YtplhphmbkmpocaaGreatAk3
import Derived.Test.YtplhphmbkmpocaaGreatAk4
import Derived.Test.YtplhphmbkmpocaaGreatAk5
import Derived.Test.YtplhphmbkmpocaaGreatAk6
import Derived.Test.YtplhphmbkmpocaaGreatAk7
import Derived.Test.YtplhphmbkmpocaaGreatAk8
import Derived.WalkKit
import Derived.ProofKit
namespace Go.Proofs.YtplhphmbkmpocaaGreat.admitKnown
open Go.En

theorem runs : saysTrueM Tryz.prog [m136, m137, m138, m139, m140, m141, m142, m143, m144, m145, m146, m147, m148, m149, m150, m151, m152, m153, m154, m155, m156, m157, m158, m159, m160, m161, m162, m163, m164, m165, m166, m167, m168, m169, m170, m171, m172, m173, m174, m175, m176, m177, m178, m179, m180, m181, m182, m183, m184, m185] 400 8 = true := by kernel_rfl
set_option maxRecDepth 100000 in
theorem closed : ∃ H' nx', CallOk Tryz.prog 8 [] [] 0 (.bool true) H' nx' := closed_ofM special (ms := [m136, m137, m138, m139, m140, m141, m142, m143, m144, m145, m146, m147, m148, m149, m150, m151, m152, m153, m154, m155, m156, m157, m158, m159, m160, m161, m162, m163, m164, m165, m166, m167, m168, m169, m170, m171, m172, m173, m174, m175, m176, m177, m178, m179, m180, m181, m182, m183, m184, m185]) (by intro x hx; simp only [List.mem_cons, List.not_mem_nil, or_false] at hx; rcases hx with rfl | rfl | rfl | rfl | rfl | rfl | rfl | rfl | rfl | rfl | rfl | rfl | rfl | rfl | rfl | rfl | rfl | rfl | rfl | rfl | rfl | rfl | rfl | rfl | rfl | rfl | rfl | rfl | rfl | rfl | rfl | rfl | rfl | rfl | rfl | rfl | rfl | rfl | rfl | rfl | rfl | rfl | rfl | rfl | rfl | rfl | rfl | rfl | rfl | rfl <;> first | exact ok136 | exact ok137 | exact ok138 | exact ok139 | exact ok140 | exact ok141 | exact ok142 | exact ok143 | exact ok144 | exact ok145 | exact ok146 | exact ok147 | exact ok148 | exact ok149 | exact ok150 | exact ok151 | exact ok152 | exact ok153 | exact ok154 | exact ok155 | exact ok156 | exact ok157 | exact ok158 | exact ok159 | exact ok160 | exact ok161 | exact ok162 | exact ok163 | exact ok164 | exact ok165 | exact ok166 | exact ok167 | exact ok168 | exact ok169 | exact ok170 | exact ok171 | exact ok172 | exact ok173 | exact ok174 | exact ok175 | exact ok176 | exact ok177 | exact ok178 | exact ok179 | exact ok180 | exact ok181 | exact ok182 | exact ok183 | exact ok184 | exact ok185) runs

open Go.ChangeShapes Go.WideShapes Go.ChangeAt Go.RowKit
theorem own : ownKnob Tryz.prog.godebug = none := by kernel_rfl
theorem walk (w : World) : Calls Tryz.prog 8 #[] w fun e w' => e = .returned (.bool true) ∧ Below w.heap.size w w' := by
  obtain ⟨H', nx', h⟩ := closed
  exact calls_closed h w

set_option maxRecDepth 100000 in
theorem lifted (os : Os) (started : os.Started) (H : Type) (enc : TypeId × Value → H) :
    ReturnsInHanded {} Tryz.checked os 8 .any (Rows.admitKnownSpec.pre6 enc Tryz.prog Tryz.f8 Rows.admitKnownRow.domain false) (Rows.admitKnownSpec.post enc Tryz.prog Tryz.f8 false true false false) := by
  refine returnsInHanded_of_change (C := Tryz.checked) own started (by kernel_rfl) Tryz.func8
    (ChangeSpec.witness6 (enc := enc) (C := Tryz.checked) false ⟨#[], #[], []⟩ 8 (by kernel_rfl) (by kernel_rfl) (by kernel_rfl) (by kernel_rfl)) ?_
  intro W base args ds gs before hval0 hW hcnd _
  have hA : Tryz.f8.params.toList = [] := by rw [Tryz.params8]
  have hW2 := hW
  obtain ⟨p, q, hA0, hV, rfl, hfz, hnd⟩ := hW2
  have hA0 : DataW.TrodAll enc Tryz.prog W 0 (fun _ => true) true Tryz.f8.params.toList args.toList ds p := hA0
  rw [hA] at hA0
  obtain ⟨rfl, rfl, rfl⟩ := trodAll_none hA0
  obtain ⟨rfl, rfl⟩ := trodVars_none hV
  refine (walk W).mono fun e W' ⟨he, hb⟩ => ?_
  subst he
  exact ⟨_, rfl, law_post rfl (by kernel_rfl) (by kernel_rfl) rfl Tryz.underlying4 hW rfl rfl rfl hb⟩

theorem over : Rows.admitKnownRow.holds Tryz.pinned (OpenSpec.ofChange Rows.admitKnownSpec) :=
  OpenClaim.holds_of_wide 8 Tryz.f8 rfl rfl rfl rfl rfl rfl rfl ⟨rfl, rfl, rfl, rfl, rfl⟩ rfl rfl rfl rfl rfl (by kernel_rfl) Tryz.func8 (by kernel_rfl)
    (of_decide_eq_true (by kernel_rfl)) (by unfold Func.isWrapper; first | (rw [if_pos (by decide +kernel)]; kernel_rfl) | (rw [if_neg (by decide +kernel)]; exact ⟨rfl, rfl⟩))
    (fun os started H enc _ => lifted os started H enc)

theorem proved : Rows.AdmitKnownSaid := over
#print axioms proved
end Go.Proofs.YtplhphmbkmpocaaGreat.admitKnown

