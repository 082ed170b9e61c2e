/- AdmitKeeps. -/
import Derived.Test.YtplhphmbkmpocaaGreatE78
import Derived.Test.YtplhphmbkmpocaaGreatRows
import Derived.WalkKit
import Derived.ProofKit
import Derived.SizedLaws
namespace Go.Proofs.YtplhphmbkmpocaaGreat.admitKeeps
open Go Go.Fz Go.Fz.Sy Go.ChangeShapes Go.WideShapes Go.ChangeAt Go.RowKit
set_option linter.unusedVariables false
theorem own:ownKnob Tryz.prog.godebug=none:=by kernel_rfl
theorem fits:zcA Tryz.prog 30 Tryz.f7.params.toList Go.Proofs.YtplhphmbkmpocaaGreat.ad.A7=true:=by kernel_rfl
set_option maxRecDepth 100000 in
theorem lifted (os:Os) (started:os.Started) (H:Type) (enc:TypeId×Value→H) :
  ReturnsInHanded {} Tryz.checked os 7 .any (Rows.admitKeepsSpec.pre6 enc Tryz.prog Tryz.f7 Rows.admitKeepsRow.domain false) (Rows.admitKeepsSpec.post enc Tryz.prog Tryz.f7 false true false false):=by
 refine returnsInHanded_of_change_sized (C:=Tryz.checked) own started (by kernel_rfl) Tryz.func7
  (ChangeSpec.witness6 (enc:=enc) (C:=Tryz.checked) false ⟨#[],zHR Go.Proofs.YtplhphmbkmpocaaGreat.ad.A7,[]⟩ 8 (by kernel_rfl) (by kernel_rfl) (by kernel_rfl) (by kernel_rfl)) ?_
 intro W base args ds gs before hval0 hW hcnd hwt0 _
 have hval:∀(j:Nat) t v,Tryz.f7.params[j]?=some t→args[j]?=some v→Value.okWide Tryz.prog W .any base t v:=hval0
 have hW2:=hW
 obtain ⟨p,q,hA0,hV,rfl,hfz,hnd⟩:=hW2
 have hA:DataW.TrodAll enc Tryz.prog W 0 (fun _=>true) true Tryz.f7.params.toList args.toList ds p:=hA0
 obtain ⟨rfl,rfl⟩:=trodVars_none hV
 have hwt:(DataW.weightsEach Tryz.prog Tryz.f7.params.toList ds).all (·≤reachBytes)=true:=by
  have h9:(DataW.weightsEach Tryz.prog (Tryz.f7.params.toList++[]) (ds++[])).all (·≤reachBytes)=true:=hwt0
  rwa [List.append_nil,List.append_nil] at h9
 have hwalk0:=zDY (w:=W) Go.Proofs.YtplhphmbkmpocaaGreat.ad.K7_ok Go.Proofs.YtplhphmbkmpocaaGreat.ad.good7 fits (fun j t v ht hv=>hval j t v (by rwa [Array.getElem?_toList] at ht) (by rwa [Array.getElem?_toList] at hv)) hA hwt
 have hwalk:Calls Tryz.prog 7 args W fun e w'=>e=.returned (.bool true)∧Below W.heap.size W w':=by
  rwa [Array.toArray_toList] at hwalk0
 have hlen:ds.length=2:=(zpH hA).trans (by kernel_rfl)
 obtain ⟨d0,d1,rfl⟩:∃d0 d1,ds=[d0,d1]:=by
  match ds,hlen with
  |[d0,d1],_=>exact ⟨d0,d1,rfl⟩
 refine hwalk.mono fun e W' ⟨he,hb⟩=>?_
 subst he
 exact ⟨_,rfl,zEH rfl (by kernel_rfl) (by kernel_rfl) rfl Tryz.underlying4 hW rfl rfl rfl hb⟩
theorem over:Rows.admitKeepsRow.holds Tryz.pinned (OpenSpec.ofChange Rows.admitKeepsSpec):=
 OpenClaim.holds_of_wide 7 Tryz.f7 rfl rfl rfl rfl rfl rfl rfl ⟨rfl,rfl,rfl,rfl,rfl⟩ rfl rfl rfl rfl rfl (by kernel_rfl) Tryz.func7 (by kernel_rfl)
  (of_decide_eq_true (by kernel_rfl)) (by unfold Func.isWrapper;first | (rw [if_pos (by decide +kernel)];kernel_rfl) | (rw [if_neg (by decide +kernel)];exact ⟨rfl,rfl⟩))
  (fun os started H enc _=>lifted os started H enc)
theorem proved:Rows.AdmitKeepsSaid:=over
#print axioms proved
end Go.Proofs.YtplhphmbkmpocaaGreat.admitKeeps
