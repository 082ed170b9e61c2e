/- NodeSpoiled: the law holds for every argument. No condition. -/
import Derived.Test.YtlfkgkedfciccaaGreatH28
import Derived.Test.YtlfkgkedfciccaaGreatJf40
import Derived.Test.YtlfkgkedfciccaaGreatJf41
import Derived.Test.YtlfkgkedfciccaaGreatJf42
import Derived.Test.YtlfkgkedfciccaaGreatJf43
import Derived.Test.YtlfkgkedfciccaaGreatRows
import Derived.WalkKit
import Derived.ProofKit
import Derived.SizedLaws
namespace Go.Proofs.YtlfkgkedfciccaaGreat.nodeSpoiled
open Go Go.Fz Go.Fz.Sy Go.ChangeShapes Go.WideShapes Go.ChangeAt Go.RowKit
set_option linter.unusedVariables false
theorem own:ownKnob Tryz.prog.godebug=none:=by kernel_rfl
theorem fits:GJ Tryz.prog 30 Tryz.f4.params.toList Go.Proofs.YtlfkgkedfciccaaGreat.dd.A4=true:=by kernel_rfl
set_option maxRecDepth 100000 in
theorem lifted (os:Os) (started:os.Started) (H:Type) (enc:TypeId×Value→H) :
  ReturnsInHanded {} Tryz.checked os 4 .any (Rows.nodeSpoiledSpec.pre6 enc Tryz.prog Tryz.f4 Rows.nodeSpoiledRow.domain false) (Rows.nodeSpoiledSpec.post enc Tryz.prog Tryz.f4 false true false false):=by
 refine returnsInHanded_of_change_sized (C:=Tryz.checked) own started (by kernel_rfl) Tryz.func4
  (ChangeSpec.witness6 (enc:=enc) (C:=Tryz.checked) false ⟨#[],zpR Go.Proofs.YtlfkgkedfciccaaGreat.dd.A4,[]⟩ 8 (by kernel_rfl) (by kernel_rfl) (by kernel_rfl) (by kernel_rfl)) ?_
 intro W base args ds gs before hval0 hW hcnd hwt0 _
 have hval:∀(j:Nat) t v,Tryz.f4.params[j]?=some t→args[j]?=some v→Value.okWide Tryz.prog W .any base t v:=hval0
 have hW2:=hW
 obtain ⟨p,q,hA0,hV,rfl,hfz,hnd⟩:=hW2
 have hA:DataW.TrodAll enc Tryz.prog W 0 (fun _=>true) true Tryz.f4.params.toList args.toList ds p:=hA0
 obtain ⟨rfl,rfl⟩:=trodVars_none hV
 have hwt:(DataW.weightsEach Tryz.prog Tryz.f4.params.toList ds).all (·≤reachBytes)=true:=by
  have h9:(DataW.weightsEach Tryz.prog (Tryz.f4.params.toList++[]) (ds++[])).all (·≤reachBytes)=true:=hwt0
  rwa [List.append_nil,List.append_nil] at h9
 have hwalk0:=zkF (w:=W) Go.Proofs.YtlfkgkedfciccaaGreat.dd.K4_ok Go.Proofs.YtlfkgkedfciccaaGreat.dd.good4 fits (fun j t v ht hv=>hval j t v (by rwa [Array.getElem?_toList] at ht) (by rwa [Array.getElem?_toList] at hv)) hA hwt
 have hwalk:Calls Tryz.prog 4 args W fun e w'=>e=.returned (.bool true)∧Below W.heap.size W w':=by
  rwa [Array.toArray_toList] at hwalk0
 have hlen:ds.length=7:=(IU hA).trans (by kernel_rfl)
 obtain ⟨d0,d1,d2,d3,d4,d5,d6,rfl⟩:∃d0 d1 d2 d3 d4 d5 d6,ds=[d0,d1,d2,d3,d4,d5,d6]:=by
  match ds,hlen with
  |[d0,d1,d2,d3,d4,d5,d6],_=>exact ⟨d0,d1,d2,d3,d4,d5,d6,rfl⟩
 refine hwalk.mono fun e W' ⟨he,hb⟩=>?_
 subst he
 exact ⟨_,rfl,zlD rfl (by kernel_rfl) (by kernel_rfl) rfl Tryz.underlying4 hW rfl rfl rfl hb⟩
set_option maxRecDepth 100000 in
theorem zpK:joinedFacts Tryz.pinned.checked.prog 4 Tryz.f4 Rows.nodeSpoiledSpec Rows.nodeSpoiledRow=true:=by
 unfold joinedFacts
 simp only [Bool.and_eq_true]
 and_intros
 ·kernel_rfl
 ·kernel_rfl
 ·kernel_rfl
 ·kernel_rfl
 ·kernel_rfl
 ·kernel_rfl
 ·kernel_rfl
 ·kernel_rfl
 ·kernel_rfl
 ·exact jf0
 ·exact jf1
 ·exact jf2
 ·exact jf3
 ·kernel_rfl
 ·kernel_rfl
 ·kernel_rfl
 ·kernel_rfl
 ·kernel_rfl
 ·kernel_rfl
 ·kernel_rfl
 ·kernel_rfl
 ·kernel_rfl
 ·kernel_rfl
 ·kernel_rfl
 ·kernel_rfl
 ·kernel_rfl
 ·kernel_rfl
 ·kernel_rfl
 ·kernel_rfl
 ·kernel_rfl
 ·kernel_rfl
 ·kernel_rfl
theorem over:Rows.nodeSpoiledRow.holds Tryz.pinned (OpenSpec.ofChange Rows.nodeSpoiledSpec):=
 OpenClaim.holds_of_wide 4 Tryz.f4 rfl rfl rfl rfl rfl rfl rfl ⟨rfl,rfl,rfl,rfl,rfl⟩ rfl rfl rfl rfl rfl (by kernel_rfl) Tryz.func4 zpK
  (of_decide_eq_true (by kernel_rfl)) (by unfold Func.isWrapper;first | (rw [if_pos (by decide +kernel)];kernel_rfl) | (rw [if_neg (by decide +kernel)];exact ⟨rfl,rfl⟩))
  (fun os started H enc _=>lifted os started H enc)
theorem proved:Rows.NodeSpoiledSaid:=over
#print axioms proved
end Go.Proofs.YtlfkgkedfciccaaGreat.nodeSpoiled
