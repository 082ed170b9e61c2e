/- SignalKnown: the chapter's examples, old letters and the limits; no condition. -/
import Derived.Test.YtleloebnggepoaaGreatS38
import Derived.Test.YtleloebnggepoaaGreatRows
import Derived.WalkKit
import Derived.ProofKit
import Derived.SizedLaws
namespace Go.Proofs.YtleloebnggepoaaGreat.signalKnown
open Go Go.Fz Go.Fz.Sy Go.ChangeShapes Go.WideShapes Go.ChangeAt Go.RowKit
set_option linter.unusedVariables false
theorem own:ownKnob Tryz.prog.godebug=none:=by kernel_rfl
theorem fits:zdl Tryz.prog 30 Tryz.f5.params.toList Go.Proofs.YtleloebnggepoaaGreat.sg.A5=true:=by kernel_rfl
set_option maxRecDepth 100000 in
theorem lifted (os:Os) (started:os.Started) (H:Type) (enc:TypeId×Value→H) :
  ReturnsInHanded {} Tryz.checked os 5 .any (Rows.signalKnownSpec.pre6 enc Tryz.prog Tryz.f5 Rows.signalKnownRow.domain false) (Rows.signalKnownSpec.post enc Tryz.prog Tryz.f5 false true false false):=by
 refine returnsInHanded_of_change_sized (C:=Tryz.checked) own started (by kernel_rfl) Tryz.func5
  (ChangeSpec.witness6 (enc:=enc) (C:=Tryz.checked) false ⟨#[],zHR Go.Proofs.YtleloebnggepoaaGreat.sg.A5,[]⟩ 8 (by kernel_rfl) (by kernel_rfl) (by kernel_rfl) (by kernel_rfl)) ?_
 intro W base args ds gs before hval0 hW hcnd hwt0 _
 have hval:∀(j:Nat) t v,Tryz.f5.params[j]?=some t→args[j]?=some v→Value.okWide Tryz.prog W .any base t v:=hval0
 have hW2:=hW
 obtain ⟨p,q,hA0,hV,rfl,hfz,hnd⟩:=hW2
 have hA:DataW.TrodAll enc Tryz.prog W 0 (fun _=>true) true Tryz.f5.params.toList args.toList ds p:=hA0
 obtain ⟨rfl,rfl⟩:=trodVars_none hV
 have hwt:(DataW.weightsEach Tryz.prog Tryz.f5.params.toList ds).all (·≤reachBytes)=true:=by
  have h9:(DataW.weightsEach Tryz.prog (Tryz.f5.params.toList++[]) (ds++[])).all (·≤reachBytes)=true:=hwt0
  rwa [List.append_nil,List.append_nil] at h9
 have hwalk0:=zCD (w:=W) Go.Proofs.YtleloebnggepoaaGreat.sg.K5_ok Go.Proofs.YtleloebnggepoaaGreat.sg.good5 fits (fun j t v ht hv=>hval j t v (by rwa [Array.getElem?_toList] at ht) (by rwa [Array.getElem?_toList] at hv)) hA hwt
 have hwalk:Calls Tryz.prog 5 args W fun e w'=>e=.returned (.bool true)∧Below W.heap.size W w':=by
  rwa [Array.toArray_toList] at hwalk0
 have hlen:ds.length=0:=(zpz hA).trans (by kernel_rfl)
 obtain rfl:ds=[]:=List.length_eq_zero_iff.1 hlen
 refine hwalk.mono fun e W' ⟨he,hb⟩=>?_
 subst he
 exact ⟨_,rfl,zDt rfl (by kernel_rfl) (by kernel_rfl) rfl Tryz.underlying4 hW rfl rfl rfl hb⟩
theorem over:Rows.signalKnownRow.holds Tryz.pinned (OpenSpec.ofChange Rows.signalKnownSpec):=
 OpenClaim.holds_of_wide 5 Tryz.f5 rfl rfl rfl rfl rfl rfl rfl ⟨rfl,rfl,rfl,rfl,rfl⟩ rfl rfl rfl rfl rfl (by kernel_rfl) Tryz.func5 (by kernel_rfl)
  (of_decide_eq_true (by kernel_rfl)) (by unfold Func.isWrapper;first | (rw [if_pos (by decide +kernel)];kernel_rfl) | (rw [if_neg (by decide +kernel)];exact ⟨rfl,rfl⟩))
  (fun os started H enc _=>lifted os started H enc)
theorem proved:Rows.SignalKnownSaid:=over
#print axioms proved
end Go.Proofs.YtleloebnggepoaaGreat.signalKnown
