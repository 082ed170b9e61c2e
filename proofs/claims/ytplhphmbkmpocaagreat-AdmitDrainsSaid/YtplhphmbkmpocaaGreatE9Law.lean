/- AdmitDrains. -/
import Derived.Test.YtplhphmbkmpocaaGreatE97
import Derived.Test.YtplhphmbkmpocaaGreatRows
import Derived.WalkKit
import Derived.ProofKit
import Derived.SizedLaws
namespace Go.Proofs.YtplhphmbkmpocaaGreat.admitDrains
open Go Go.Fz Go.Fz.Sy Go.ChangeShapes Go.WideShapes Go.ChangeAt Go.RowKit
set_option linter.unusedVariables false
theorem own:ownKnob Tryz.prog.godebug=none:=by kernel_rfl
theorem fits:zbG Tryz.prog 30 Tryz.f9.params.toList Go.Proofs.YtplhphmbkmpocaaGreat.ad.A9=true:=by kernel_rfl
set_option maxRecDepth 100000 in
theorem lifted (os:Os) (started:os.Started) (H:Type) (enc:TypeId×Value→H) :
  ReturnsInHanded {} Tryz.checked os 9 .any (Rows.admitDrainsSpec.pre6 enc Tryz.prog Tryz.f9 Rows.admitDrainsRow.domain false) (Rows.admitDrainsSpec.post enc Tryz.prog Tryz.f9 false true false false):=by
 refine returnsInHanded_of_change_sized (C:=Tryz.checked) own started (by kernel_rfl) Tryz.func9
  (ChangeSpec.witness6 (enc:=enc) (C:=Tryz.checked) false ⟨#[],zFw Go.Proofs.YtplhphmbkmpocaaGreat.ad.A9,[]⟩ 8 (by kernel_rfl) (by kernel_rfl) (by kernel_rfl) (by kernel_rfl)) ?_
 intro W base args ds gs before hval0 hW hcnd hwt0 _
 have hval:∀(j:Nat) t v,Tryz.f9.params[j]?=some t→args[j]?=some v→Value.okWide Tryz.prog W .any base t v:=hval0
 have hW2:=hW
 obtain ⟨p,q,hA0,hV,rfl,hfz,hnd⟩:=hW2
 have hA:DataW.TrodAll enc Tryz.prog W 0 (fun _=>true) true Tryz.f9.params.toList args.toList ds p:=hA0
 obtain ⟨rfl,rfl⟩:=trodVars_none hV
 have hwt:(DataW.weightsEach Tryz.prog Tryz.f9.params.toList ds).all (·≤reachBytes)=true:=by
  have h9:(DataW.weightsEach Tryz.prog (Tryz.f9.params.toList++[]) (ds++[])).all (·≤reachBytes)=true:=hwt0
  rwa [List.append_nil,List.append_nil] at h9
 have hwalk0:=zBH (w:=W) Go.Proofs.YtplhphmbkmpocaaGreat.ad.K9_ok Go.Proofs.YtplhphmbkmpocaaGreat.ad.good9 fits (fun j t v ht hv=>hval j t v (by rwa [Array.getElem?_toList] at ht) (by rwa [Array.getElem?_toList] at hv)) hA hwt
 have hwalk:Calls Tryz.prog 9 args W fun e w'=>e=.returned (.bool true)∧Below W.heap.size W w':=by
  rwa [Array.toArray_toList] at hwalk0
 have hlen:ds.length=5:=(znR hA).trans (by kernel_rfl)
 obtain ⟨d0,d1,d2,d3,d4,rfl⟩:∃d0 d1 d2 d3 d4,ds=[d0,d1,d2,d3,d4]:=by
  match ds,hlen with
  |[d0,d1,d2,d3,d4],_=>exact ⟨d0,d1,d2,d3,d4,rfl⟩
 refine hwalk.mono fun e W' ⟨he,hb⟩=>?_
 subst he
 exact ⟨_,rfl,zCh rfl (by kernel_rfl) (by kernel_rfl) rfl Tryz.underlying4 hW rfl rfl rfl hb⟩
theorem over:Rows.admitDrainsRow.holds Tryz.pinned (OpenSpec.ofChange Rows.admitDrainsSpec):=
 OpenClaim.holds_of_wide 9 Tryz.f9 rfl rfl rfl rfl rfl rfl rfl ⟨rfl,rfl,rfl,rfl,rfl⟩ rfl rfl rfl rfl rfl (by kernel_rfl) Tryz.func9 (by kernel_rfl)
  (of_decide_eq_true (by kernel_rfl)) (by unfold Func.isWrapper;first | (rw [if_pos (by decide +kernel)];kernel_rfl) | (rw [if_neg (by decide +kernel)];exact ⟨rfl,rfl⟩))
  (fun os started H enc _=>lifted os started H enc)
theorem proved:Rows.AdmitDrainsSaid:=over
#print axioms proved
end Go.Proofs.YtplhphmbkmpocaaGreat.admitDrains
