/- Parts of a proof, joined. -/
import Derived.Carry
import Derived.ChangeSame
import Derived.KernelRfl
import Derived.Maps.RangeRun
import Derived.OpenShut
import Derived.Test.YtlfkgkedfciccaaGreatH21
set_option linter.unusedSectionVars false
set_option linter.unusedVariables false
set_option linter.unusedSimpArgs false
set_option maxHeartbeats 0
set_option maxRecDepth 100000
noncomputable section
namespace Go.Fz
variable {P:Program} {φ:Ren} {H:Hp} {K:Nat→Prop} {w:World}
structure Stp where
 o:Oper
 ran:Bool
 v:Value
 tmo:List Value
 V:Hp
 wr:Nat->Bool
 H':Hp
 lo:Nat
 hi:Nat
def Stp.touch(s:Stp)(b:Nat):Bool:=jK s.wr s.lo s.hi b
section
variable (st:Nat→Stp) (H0:Hp) (tm0:List Value)
def Zn(S:Nat->Bool):Nat->Nat->Option Blk
 |0,b=>H0.get b
 |m+1,b=>if S m&&(st m).touch b then(st m).H'.get b else Zn S m b
def tmS(S:Nat->Bool):Nat->List Value
 |0=>tm0
 |m+1=>if S m then xJ (tmS S m) (st m).o.dst (st m).v else tmS S m
end
variable {st:Nat→Stp} {H0:Hp} {tm0:List Value}
theorem cP{S T:Nat->Bool}{b:Nat}:∀{m:Nat},(∀k,k < m->(st k).touch b=true->S k=T k)->Zn st H0 S m b=Zn st H0 T m b
 |0,_=>rfl
 |m+1,h=>by have ih:=cP (S:=S) (T:=T) (b:=b) (m:=m) fun k hk=>h k (by omega);grind[Zn]
theorem zgn(tm:List Value)(d:Option Tmp)(v:Value):(xJ tm d v).length=tm.length:=by cases d<;>simp[xJ,zdo]
theorem kU(S:Nat->Bool):∀m,(tmS st tm0 S m).length=tm0.length
 |0=>rfl
 |m+1=>by
  simp only[tmS];split
  ·rw[zgn];exact kU S m
  ·exact kU S m
theorem dI(tm:List Value)(d:Option Tmp)(v:Value)(s:Nat):(xJ tm d v)[s]?=if d=some s∧s < tm.length then some v else tm[s]?:=by cases d<;>grind[xJ,zdo,Option.some.injEq]
theorem iS{S T:Nat->Bool}{s:Nat}:∀{m:Nat},(∀k,k < m->(st k).o.dst=some s->S k=T k)->(tmS st tm0 S m)[s]?=(tmS st tm0 T m)[s]?
 |0,_=>rfl
 |m+1,h=>by have ih:=iS (S:=S) (T:=T) (s:=s) (m:=m) fun k hk=>h k (by omega);grind[tmS,dI,kU,xJ]
structure nP(P:Program)(r:Option Nat)(ops:Array Oper)(tm0:List Value)(H0:Hp)(nx nx':Nat)(st:Nat->Stp)(A:Nat->Nat->Bool):Prop where
 hops:∀i,i < ops.size->ops[i]?=some (st i).o
 rng:∀i,i < ops.size->(st i).lo<=(st i).hi
 rngs:∀i j,i < j->j < ops.size->(st i).hi<=(st j).lo
 rng0:∀i,i < ops.size->nx<=(st i).lo∧(st i).hi<=nx'
 nxs:nx<=nx'
 a1:∀i,i < ops.size->∀e∈(st i).o.after,Region.binds .any e=true->A i e.on=true∧e.on < i
 a2:∀i,i < ops.size->∀j,A i j=true->∃e∈(st i).o.after,Region.binds .any e=true∧(j=e.on∨A e.on j=true)
 a3:∀i j,i < ops.size->A i j=true->j < i
 tlen:∀i,i < ops.size->(st i).tmo.length=tm0.length
 tmo:∀i,i < ops.size->∀(s:Nat) v,(st i).tmo[s]?=some v->v=junk∨((tmS st tm0 (fun k=>decide (k < i)) ops.size)[s]?=some v∧∀k,k < ops.size->k≠i->(st k).o.dst=some s->A i k=true∨A k i=true)
 dst:∀i j (s:Nat),i < ops.size->j < ops.size->i≠j->(st i).o.dst=some s->(st j).o.dst≠some s
 want:∀i,i < ops.size->yD ops (st i).tmo (st i).o=some (st i).ran
 ok:∀i,i < ops.size->(st i).ran=true->Qv P r (st i).o (st i).tmo (st i).V (st i).lo (st i).v (st i).H' (st i).hi∧cO (Hp.only (st i).touch (st i).H')=true
 vw:∀i,i < ops.size->∀b k,(st i).V.get b=some k->∃k0,Zn st H0 (fun k=>decide (k < i)) ops.size b=some k0∧k=uA (st i).wr (fun _=>false) b k0
 skip:∀i,i < ops.size->(st i).ran=false->(st i).v=undef∧∀b,(st i).touch b=false
 dis:∀i j,i < ops.size->j < ops.size->i≠j->A i j=false->A j i=false->∀b k,(st i).V.get b=some k->(st j).touch b=false
 wrin:∀i,i < ops.size->∀b,(st i).wr b=true->∃k,(st i).V.get b=some k
theorem zhT{listed:Array Bool}{i:Nat}(h:listed.getD i true=false):listed.getD i false=false∧i < listed.size:=by grind
theorem zhU{r:Option Nat}{ops:Array Oper}{nx nx':Nat}{A:Nat->Nat->Bool}(D:nP P r ops tm0 H0 nx nx' st A){i j:Nat}(hi:i < ops.size)(hj:j < ops.size)(hne:i≠j)(h1:A i j=false)(h2:A j i=false){b:Nat}(hb:(st i).touch b=true):(st j).touch b=false:=by
 cases hjb:(st j).touch b with
 |false=>rfl
 |true=>
  exfalso;have hb':=hb;have hjb':=hjb;simp only[Stp.touch,jK,zrm,FT,zra]at hb' hjb';rcases hb' with hw | ⟨hl,hh⟩
  ·obtain⟨k,hk⟩:=D.wrin i hi b hw;have:=D.dis i j hi hj hne h1 h2 b k hk;grind
  ·rcases hjb' with hw | ⟨hl2,hh2⟩
   ·obtain⟨k,hk⟩:=D.wrin j hj b hw;have:=D.dis j i hj hi (fun e=>hne e.symm) h2 h1 b k hk;grind
   ·rcases Nat.lt_or_gt_of_ne hne with hlt | hgt
    ·have:=D.rngs i j hlt hj;omega
    ·have:=D.rngs j i hgt hi;omega
theorem zdX{r:Option Nat}{ops:Array Oper}{nx nx':Nat}{A:Nat->Nat->Bool}(D:nP P r ops tm0 H0 nx nx' st A){S:Nat->Bool}{i:Nat}(hi:i < ops.size)(hSi:S i=false)(hdown:∀k,k < ops.size->S k=true->∀j,A k j=true->S j=true)(b:Nat) :
  Zn st H0 (fun k=>S k||k == i) ops.size b=if(st i).touch b then(st i).H'.get b else Zn st H0 S ops.size b:=by
 have key:∀m,m<=ops.size->Zn st H0 (fun k=>S k||k == i) m b=if decide (i < m)&&(st i).touch b then(st i).H'.get b else Zn st H0 S m b:=by
  intro m;induction m with
  |zero=>intro _;simp[Zn]
  |succ m ih=>
   intro hm;have ih:=ih (by omega);simp only[Zn];by_cases hmi:m=i
   ·subst hmi;simp only[ztq,Bool.or_true,zrS,hSi,zsL,zqB,zqZ,zqL,zte];split
    ·rfl
    ·rename_i ht;rw[ih];simp
   ·have hbe:(m == i)=false:=by simp[hmi]
    simp only[hbe,zsB];by_cases hlt:i < m
    ·have hlt':i < m+1:=by omega
     simp only[hlt',zte,zrS];simp only[hlt,zte,zrS]at ih;cases hti:(st i).touch b with
     |false=>rw[ih];simp[hti]
     |true=>
      simp only[hti,zqF]at ih ⊢;have:(S m&&(st m).touch b)=false:=by
       cases hSm:S m with
       |false=>rfl
       |true=>
        have h1:A i m=false:=by
         cases hA:A i m with
         |false=>rfl
         |true=>have:=D.a3 i m hi hA;omega
        have h2:A m i=false:=by
         cases hA:A m i with
         |false=>rfl
         |true=>have:=hdown m (by omega) hSm i hA;rw[hSi]at this;cases this
        simp[zhU D hi (by omega) (fun e=>hmi e.symm) h1 h2 hti]
      rw[this];simpa using ih
    ·have hlt':¬i < m+1:=by omega
     simp only[hlt',zsg,zsL,zqB,zqZ];simp only[hlt,zsg,zsL,zqB,zqZ]at ih;rw[ih]
 grind
theorem zg0{r:Option Nat}{ops:Array Oper}{nx nx':Nat}{A:Nat->Nat->Bool}(D:nP P r ops tm0 H0 nx nx' st A){S:Nat->Bool}{i:Nat}(hi:i < ops.size)(hSi:S i=false) : tmS st tm0 (fun k=>S k||k == i) ops.size=xJ (tmS st tm0 S ops.size) (st i).o.dst (st i).v:=by
 apply zrj;intro s;rw[dI,kU];have key:∀m,m<=ops.size->(tmS st tm0 (fun k=>S k||k == i) m)[s]?=if i < m∧(st i).o.dst=some s∧s < tm0.length then some (st i).v else(tmS st tm0 S m)[s]?:=by
  intro m;induction m with
  |zero=>intro _;simp[tmS]
  |succ m ih=>
   intro hm;have ih:=ih (by omega);simp only[tmS];by_cases hmi:m=i
   ·subst hmi;simp only[ztq,Bool.or_true,zqF,hSi,zqB,zqZ,zqL,true_and];rw[dI,kU,ih];simp
   ·have hbe:(m == i)=false:=by simp[hmi]
    simp only[hbe,zsB];have hlt:(i < m+1)↔(i < m):=by omega
    simp only[hlt];by_cases hSm:S m=true
    ·simp only[hSm,zqF];rw[dI,dI,kU,kU,ih];by_cases hd:(st m).o.dst=some s
     ·have hd':(st i).o.dst≠some s:=D.dst m i s (by omega) hi hmi hd;simp[hd,hd']
     ·simp[hd]
    ·simp only[hSm];exact ih
 grind
theorem zjF{r:Option Nat}{ops:Array Oper}{nx nx':Nat}{A:Nat->Nat->Bool}(D:nP P r ops tm0 H0 nx nx' st A){tmF:List Value}{HF:Hp}(htF:tmF=tmS st tm0 (fun k=>decide (k < ops.size)) ops.size)(hHF:∀b k,HF.get b=some k->Zn st H0 (fun k=>decide (k < ops.size)) ops.size b=some k)(rc:Option Nat)(φ0:Ren)(w0:World)(K:Nat->Prop)(a0:Act)(Q:Exit->Act->World->Prop)(hk:∀φ' a' w',Ext K φ0 φ' nx nx'->zF φ' HF K w'->qS φ' tmF a'.tmps->a'.defers=a0.defers->qJ K w0 w'->Q .normal a' w') : ∀ (fuel t:Nat) (listed:Array Bool) (φ:Ren) (G:Hp) (a:Act) (w:World),listed.size=ops.size->((List.range ops.size).filter fun k=>!listed.getD k false).length<=fuel->(∀i,i < ops.size->listed.getD i false=true->∀j,A i j=true->listed.getD j false=true)->(∀b,G.get b=Zn st H0 (fun k=>listed.getD k false) ops.size b)->zF φ G K w->qS φ (tmS st tm0 (fun k=>listed.getD k false) ops.size) a.tmps->(∀i,i < ops.size->listed.getD i false=false->wV φ (st i).lo (st i).hi)->Ext K φ0 φ nx nx'->qJ K w0 w->a.defers=a0.defers->Wh φ r rc->wpOpsIn (fw rc) 0 P ops Q (Region.linearise.go .any ops fuel t listed []) a w:=by
 intro fuel;have final:∀(listed:Array Bool) (φ:Ren) (G:Hp) (a:Act) (w:World),(∀k,k < ops.size->listed.getD k false=true)->(∀b,G.get b=Zn st H0 (fun k=>listed.getD k false) ops.size b)->zF φ G K w->
   qS φ (tmS st tm0 (fun k=>listed.getD k false) ops.size) a.tmps->Ext K φ0 φ nx nx'->qJ K w0 w->a.defers=a0.defers->Q .normal a w:=by
  intro listed φ G a w hall hG g ht he hw hd
  refine hk φ a w he (g.sub fun b k hb=>?_) ?_ hd hw
  ·grind[cP,decide]
  ·have:tmS st tm0 (fun k=>listed.getD k false) ops.size=tmF:=by rw[htF];apply zrj;intro s;exact iS fun k hk _=>by simp[hall k hk,hk]
   grind
 induction fuel with
 |zero=>
  intro t listed φ G a w hsz hcnt hdown hG g ht hfr he hw hd hr;simp only[Region.linearise.go,List.reverse_nil,wpOpsIn];refine final listed φ G a w (fun k hk=>?_) hG g ht he hw hd;grind[List.eq_nil_of_length_eq_zero,List.filter_eq_nil_iff]
 |succ fuel ih=>
  intro t listed φ G a w hsz hcnt hdown hG g ht hfr he hw hd hr;simp only[Region.linearise.go];change wpOpsIn (fw rc) 0 P ops Q (match (Region.ready .any ops listed)[t % (Region.ready .any ops listed).length]? with
   |some i=>Region.linearise.go .any ops fuel (t / (Region.ready .any ops listed).length) (listed.setIfInBounds i true) [i]
   |none=>[].reverse) a w
  cases hi:(Region.ready .any ops listed)[t % (Region.ready .any ops listed).length]? with
  |none=>
   have hnil:Region.ready .any ops listed=[]:=by cases hr:Region.ready .any ops listed<;>grind[Region.ready,Nat.mod_lt]
   simp only[List.reverse_nil,wpOpsIn];refine final listed φ G a w ?_ hG g ht he hw hd;intro k;induction k using Nat.strongRecOn with
   |_ k ihk=>
    intro hk;cases hl:listed.getD k false with
    |true=>rfl
    |false=>
     exfalso;have hmem:k∈Region.ready .any ops listed:=by
      rw[mem_ready];refine⟨?_,(st k).o,D.hops k hk,fun e he hb=>?_⟩
      ·have:k < listed.size:=by omega
       simp[Array.getD,this]at hl ⊢;exact hl
      ·have:=(D.a1 k hk e he hb).2;exact ihk e.on this (by omega)
     grind
  |some i=>
   simp only[];rw[linearise_go_acc,List.reverse_singleton,zrz];have hmem:=zqy hi;rw[mem_ready]at hmem;obtain⟨hli,o,ho,hed⟩:=hmem;obtain⟨hSi,hil⟩:=zhT hli;have hin:i < ops.size:=by omega
   have hoe:o=(st i).o:=by have:=D.hops i hin;grind
   subst hoe;have hanc:∀j,A i j=true->listed.getD j false=true:=by intro j hj;obtain⟨e,he,hb,hor⟩:=D.a2 i hin j hj;grind
   have hagree:∀k,k < ops.size->(k=i∨A i k=true∨A k i=true)->listed.getD k false=decide (k < i):=by
    intro k hk hor;rcases hor with rfl | hA | hA
    ·rw[hSi];simp
    ·rw[hanc k hA];have:=D.a3 i k hin hA;simp[this]
    ·have h1:=D.a3 k i hk hA;grind
   have htmo:qS φ (st i).tmo a.tmps:=by
    refine⟨by rw[D.tlen i hin,<-ht.1,kU],fun s v hv=>?_⟩;rcases D.tmo i hin s v hv with hj | ⟨h1,h2⟩
    ·exact .inl hj
    ·refine ht.2 s v ?_;grind[iS]
   have hset:∀k,(listed.setIfInBounds i true).getD k false=(listed.getD k false||k == i):=by
    intro k;by_cases hki:k=i
    ·subst hki;simp[Array.getD,hil]
    ·rw[getD_set_ne false (fun e=>hki e.symm)];simp[hki]
   have hfun:(fun k=>(listed.setIfInBounds i true).getD k false)=(fun k=>listed.getD k false||k == i):=funext hset;have hcnt':((List.range ops.size).filter fun k=>!(listed.setIfInBounds i true).getD k false).length<=fuel:=by
    have e1:((List.range ops.size).filter fun k=>!(listed.setIfInBounds i true).getD k false)=(((List.range ops.size).filter fun k=>!listed.getD k false)).filter fun k=>!(k == i):=by rw[List.filter_filter];grind
    have e2:=List.length_filter_lt_length_iff_exists (p:=fun k=>!(k == i)) (l:=(List.range ops.size).filter fun k=>!listed.getD k false) |>.2 ⟨i,by grind,by simp⟩;rw[e1];omega
   have hdown':∀k,k < ops.size->(listed.setIfInBounds i true).getD k false=true->∀j,A k j=true->(listed.setIfInBounds i true).getD j false=true:=by grind
   have hfresh':∀φ',Ext K φ φ' (st i).lo (st i).hi->∀k,k < ops.size->(listed.setIfInBounds i true).getD k false=false->wV φ' (st k).lo (st k).hi:=by
    intro φ' hx k hk hl;rw[hset]at hl;simp only[zrI,beq_eq_false_iff_ne]at hl;refine⟨(hfr k hk hl.1).1,fun b hb1 hb2=>?_⟩;have:=(hfr k hk hl.1).2 b hb1 hb2;rw[hx.2.1 b (zqC hb2 (hfr k hk hl.1).1) ?_]
    ·exact this
    ·rcases Nat.lt_or_gt_of_ne hl.2 with hlt | hgt
     ·have:=D.rngs k i hlt hin;omega
     ·have:=D.rngs i k hgt hk;omega
   have hsd:∀k,k < ops.size->(fun k=>listed.getD k false) k=true->∀j,A k j=true->(fun k=>listed.getD k false) j=true:=hdown;simp only[wpOpsIn,ho];have hwant:=Ks htmo (D.want i hin);cases hran:(st i).ran with
   |true=>
    rw[zqI (by rw[hwant,hran])];obtain⟨hok,hrw⟩:=D.ok i hin hran;have hV:∀b k,(st i).V.get b=some k->∃k0,G.get b=some k0∧k=uA (st i).wr (fun _=>false) b k0:=by
     intro b k hb;obtain⟨k0,h1,h2⟩:=D.vw i hin b k hb;refine⟨k0,?_,h2⟩;rw[hG,<-h1];refine cP fun k' hk' htk=>hagree k' hk' ?_;by_cases hki:k'=i
     ·exact .inl hki
     ·right;cases h3:A i k' with
      |true=>exact .inl rfl
      |false=>
       cases h4:A k' i with
       |true=>exact .inr rfl
       |false=>
        have:=D.dis i k' hin hk' (fun e=>hki e.symm) h3 h4 b k hb;grind
    refine znT hok hV hrw φ w K a rc _ Q g (hfr i hin hSi) htmo hr fun v' φ' w' x1 x2 x3 x4=>?_;refine ih _ _ φ' _ _ w' (by simpa using hsz) hcnt' hdown' (fun b=>?_) x3 ?_ (hfresh' φ' x2) ?_ (hw.trans x4) (by rw[QR];exact hd) (hr.mono x2.1)
    ·rw[WW,hfun,zdX D hin hSi hsd];show(if(st i).touch b=true then _ else _)=_;rw[hG]
    ·rw[hfun,zg0 D hin hSi];exact VA (ht.mono x2.1) _ x1
    ·have:=D.rng0 i hin;exact he.comp (x2.wide this.1 this.2)
   |false=>
    rw[zqu (by grind)];refine⟨WV,?_⟩;obtain⟨hv,htch⟩:=D.skip i hin hran;refine ih _ _ φ G _ w (by simpa using hsz) hcnt' hdown' (fun b=>?_) g ?_ (hfresh' φ (Ext.refl _ _ _ _)) he hw (by rw[QR];exact hd) hr
    ·rw[hfun,zdX D hin hSi hsd,htch b];grind
    ·rw[hfun,zg0 D hin hSi,hv];exact VA ht _ (.tuple' (by simp[zD]))
theorem IB{r:Option Nat}{id:Nat}{ops:Array Oper}{nx nx':Nat}{A:Nat->Nat->Bool}{ds:List Nat}(hm:P.follows .mixedOrders=true)(D:nP P r ops tm0 H0 nx nx' st A){HF:Hp}(hHF:∀b k,HF.get b=some k->Zn st H0 (fun k=>decide (k < ops.size)) ops.size b=some k) : qY P r (.region id ops true) tm0 ds H0 nx ⟨.normal,tmS st tm0 (fun k=>decide (k < ops.size)) ops.size,ds,HF,nx'⟩:=by
 refine⟨D.nxs,fun φ w K a rc g hf ht hd hr=>wpIn_region_draw fun t=>?_⟩;rw[hm];simp only[Region.schedule,Bool.true_or,zqF,Region.linearise];have g0:∀k,(Array.replicate ops.size false).getD k false=false:=by intro k;simp[Array.getD]
 have e0:(fun k=>(Array.replicate ops.size false).getD k false)=fun _=>false:=funext g0;have es:∀m b,Zn st H0 (fun _=>false) m b=H0.get b:=by
  intro m b;induction m with
  |zero=>rfl
  |succ m ih=>simpa[Zn]using ih
 have et:∀m,tmS st tm0 (fun _=>false) m=tm0:=by
  intro m;induction m with
  |zero=>rfl
  |succ m ih=>simpa[tmS]using ih
 refine zjF D rfl hHF rc φ w K a _ (fun φ' a' w' x1 x2 x3 x4 x5=>⟨rfl,φ',x1,x2,x3,by rw[x4];exact hd.mono x1.1,x5⟩) ops.size t (Array.replicate ops.size false) φ H0 a w.drew (by simp) ?_ (fun i hi hl=>by rw[g0]at hl;cases hl) (fun b=>by rw[e0,es]) g.drew (by rw[e0,et];exact ht) (fun i hi _=>⟨by have:=D.rng0 i hi;have h:=hf.1;change nx'<=FZ at h;omega,fun b h1 h2=>hf.2 b (by have:=D.rng0 i hi;omega) (by have:=D.rng0 i hi;show b < nx';omega)⟩) (Ext.refl _ _ _ _) (qJ.drew K w) rfl hr;grind
end Go.Fz
namespace Go.Fz
variable {P:Program} {φ:Ren} {H:Hp} {K:Nat→Prop} {w:World}
def QT(ms:List Nat):List Edge->Nat
 |[]=>0
 |e::es=>(if Region.binds .any e then(1 <<< e.on)||| ms.getD e.on 0 else 0)||| QT ms es
theorem dJ(ms:List Nat)(j:Nat):∀es:List Edge,(QT ms es).testBit j=true↔∃e∈es,Region.binds .any e=true∧(j=e.on∨(ms.getD e.on 0).testBit j=true)
 |[]=>by simp[QT]
 |e::es=>by have ih:=dJ ms j es;grind[QT,Region.binds,Nat.one_shiftLeft,Bool.false_eq_true]
def VB(ms:List Nat):Nat->List Oper->Bool
 |_,[]=>true
 |i,o::os=>(ms.getD i 0 == QT ms o.after.toList)&&o.after.toList.all (fun e=>!Region.binds .any e||decide (e.on < i))&&decide (ms.getD i 0 < 2 ^ i)&&VB ms (i+1) os
theorem IC{ms:List Nat}:∀{l:List Oper} {i j:Nat} {o:Oper},VB ms i l=true->l[j]?=some o->ms.getD (i+j) 0=QT ms o.after.toList∧(∀e∈o.after.toList,Region.binds .any e=true->e.on < i+j)∧ms.getD (i+j) 0 < 2 ^ (i+j)
 |[],i,j,o,_,h=>by simp at h
 |x::l,i,0,o,hf,h=>by grind[VB,List.all_eq_true,Bool.not_eq_true']
 |x::l,i,j+1,o,hf,h=>by simp only[VB,FT]at hf;have:=IC (j:=j) hf.2 (by simpa using h);grind
def zdY:Operand->List Nat
 |.tmp t=>[t]
 |_=>[]
def yL(ops:Array Oper)(o:Oper):List Nat:=
 (o.op.operands.toList.flatMap zdY)++(match o.guard with
  |some (j,_)=>match (ops[j]?).bind (·.dst)with
   |some d=>[d]
   |none=>[]
  |none=>[])
def uB(tm:List Value)(slots:List Nat):List Value:=slots.foldl (fun t s=>t.set s (tm.getD s junk)) (List.replicate tm.length junk)
theorem iT{tm:List Value}{slots:List Nat}:(uB tm slots).length=tm.length∧∀(s:Nat) v,(uB tm slots)[s]?=some v->v=junk∨(s∈slots∧tm[s]?=some v):=by
 unfold uB;have key:∀(sl:List Nat) (t:List Value),t.length=tm.length->(∀(s:Nat) v,t[s]?=some v->v=junk∨(s∈slots∧tm[s]?=some v))->(∀s∈sl,s∈slots)->
   (sl.foldl (fun t s=>t.set s (tm.getD s junk)) t).length=tm.length∧∀(s:Nat) v,(sl.foldl (fun t s=>t.set s (tm.getD s junk)) t)[s]?=some v->v=junk∨(s∈slots∧tm[s]?=some v):=by
  intro sl
  induction sl with
  |nil=>intro t h1 h2 _;exact⟨h1,h2⟩
  |cons x sl ih=>
   intro t h1 h2 h3;simp only[zsH];refine ih _ (by simpa using h1) (fun s v hv=>?_) (fun s hs=>h3 s (by simp[hs]));rw[zrl]at hv;by_cases hx:x=s
   ·subst hx;simp at hv;obtain⟨hl,rfl⟩:=hv;right;refine⟨h3 x (by simp),?_⟩;rw[h1]at hl;simp[hl]
   ·simp[hx]at hv;exact h2 s v hv
 grind
theorem MA{tm:List Value}{slots:List Nat}{s:Nat}(hs:s∈slots):(uB tm slots)[s]?=tm[s]?:=by
 unfold uB;have key:∀(sl:List Nat) (t:List Value),t.length=tm.length->(s∈sl∨t[s]?=tm[s]?)->(sl.foldl (fun t s=>t.set s (tm.getD s junk)) t)[s]?=tm[s]?:=by
  intro sl;induction sl with
  |nil=>intro t _ h;simpa using h
  |cons x sl ih=>
   intro t hl h;simp only[zsH];refine ih _ (by simpa using hl) ?_;by_cases hx:x=s
   ·subst hx;right;rw[zrl];by_cases hlt:x < tm.length
    ·simp[hl,hlt]
    ·simp[hl,hlt]
   ·rcases h with h | h
    ·rcases zqA.1 h with h | h
     ·exact absurd h.symm hx
     ·exact .inl h
    ·right;rw[zrl];simp[hx,h]
 grind
theorem zjG{tm:List Value}{slots:List Nat}{x:Operand}(hs:∀s∈zdY x,s∈slots):opv tm x=opv (uB tm slots) x:=by cases x<;>grind[MA,zdY,opv,pG]
theorem cQ{t t':List Value}:∀{xs:List Operand},(∀x∈xs,opv t x=opv t' x)->Wg t xs=Wg t' xs
 |[],_=>rfl
 |x::xs,h=>by simp only[Wg];rw[h x (by simp),cQ fun y hy=>h y (by simp[hy])]
theorem dK{t t':List Value}:∀{xs:List (Nat×Operand)},(∀x∈xs,opv t x.2=opv t' x.2)->Jy t xs=Jy t' xs
 |[],_=>rfl
 |x::xs,h=>by simp only[Jy];rw[h x (by simp),dK fun y hy=>h y (by simp[hy])]
theorem pT{t t':List Value}{x:Option Operand}(h:∀y∈x,opv t y=opv t' y):dE t x=dE t' x:=by cases x<;>grind[dE]
theorem zhV{t t':List Value}{nx:Nat}{o:Oper}(h:∀x∈o.op.operands,opv t x=opv t' x):jU P t H nx o=jU P t' H nx o:=by
 unfold jU;cases ho:o.op with
 |move x=>grind[Op.operands]
 |assign x=>grind[Op.operands]
 |pick c a b=>grind[Op.operands]
 |alloc t=>rfl
 |box t x=>grind[Op.operands]
 |build t ps=>grind[dK,Op.operands]
 |buildSlice t n ps=>grind[dK,Op.operands]
 |load t a=>grind[Op.operands]
 |store t a x=>grind[Op.operands]
 |nilCheck x=>grind[Op.operands]
 |binOp op t x y w=>grind[Op.operands]
 |unOp op t x=>grind[Op.operands]
 |convert s d x=>grind[Op.operands]
 |makeFunc f fs cs=>
  rw[ho]at h;cases f<;>try rfl
  grind[cQ,Op.operands]
 |makeSlice t l c=>grind[Op.operands]
 |slice t x lo hi mx=>
  rw[ho]at h;simp only[h x (by simp[Op.operands]),pT (x:=lo) fun y hy=>h y (by cases hy;simp[Op.operands]),pT (x:=hi) fun y hy=>h y (by cases hy;simp[Op.operands]),pT (x:=mx) fun y hy=>h y (by cases hy;simp[Op.operands])]
 |fieldAddr s x f=>grind[Op.operands]
 |field s x f=>grind[Op.operands]
 |indexAddr t x i=>grind[Op.operands]
 |index t x i=>grind[Op.operands]
 |extract x n=>grind[Op.operands]
 |call c=>
  rw[ho]at h;obtain⟨cal,args,ats⟩:=c;cases cal<;>try rfl
  grind[cQ,Op.operands,Call.operands]
 |makeMap t r=>cases r<;>rfl
 |lookup t x i c=>grind[Op.operands]
 |mapUpdate t m k x=>grind[Op.operands]
 |insert t m k x=>grind[Op.operands]
 |range t x=>grind[Op.operands]
 |_=>rfl
theorem Kx{ops:Array Oper}{tm:List Value}{o:Oper}:yD ops tm o=yD ops (uB tm (yL ops o)) o:=by
 unfold yD;cases hg:o.guard with
 |none=>rfl
 |some p=>
  obtain⟨j,want⟩:=p;dsimp only;cases hd:(ops[j]?).bind (·.dst)<;>grind[bind,uB,yL,MA,pG]
def Pr(op:List Value->Hp->Nat->Oper->Option (Value×Hp×Nat)):Prop:=∀(t t':List Value) (H:Hp) (nx:Nat) (o:Oper),(∀x∈o.op.operands,opv t x=opv t' x)->op t H nx o=op t' H nx o
theorem Pr.keep{op:List Value->Hp->Nat->Oper->Option (Value×Hp×Nat)}(h:Pr op){ops:Array Oper}{tm:List Value}{H:Hp}{nx:Nat}{o:Oper}:op tm H nx o=op (uB tm (yL ops o)) H nx o:=
 h
  _ _ _ _ _ fun x hx=>zjG fun s hs=>by
  grind[yL]
def names(H:Hp):List Nat:=H.map (·.1)
def Ps(tm:List Value)(x:Operand):List Nat:=match opv tm x with
 |some (.map (some r))=>[r]
 |_=>[]
def pU(tm:List Value)(o:Oper):List Nat:=
 match o.op with
 |.mapUpdate _ m _ _=>Ps tm m
 |.lookup _ x _ _=>Ps tm x
 |.store _ a _=>match opv tm a with
  |some (.pointer (some a))=>[a.block]
  |_=>[]
 |.call {callee:=.builtin .append,args:=args,argTypes:=_}=>match args.toList with
  |s::_=>match opv tm s with
   |some (.slice (some a) _ c)=>if qw<=c then[a.block]else[]
   |_=>[]
  |_=>[]
 |.call {callee:=.builtin .copy,args:=args,argTypes:=_}=>match args.toList with
  |s::_=>match opv tm s with
   |some (.slice (some a) _ _)=>[a.block]
   |_=>[]
  |_=>[]
 |_=>[]
def TF(rs:List (Nat×Nat))(b:Nat):Bool:=rs.any fun x=>decide (x.1<=b)&&decide (b < x.2)
inductive See where
 |few (bs:List Nat)
 |all (f:Nat->Bool)
def dv(wr:List Nat)(H:Hp):List Nat->Hp
 |[]=>[]
 |b::bs=>match H.get b with
  |some k=>(b,uA (fun b=>wr.contains b) (fun _=>false) b k)::dv wr H bs
  |none=>dv wr H bs
def FX(wr:List Nat)(H:Hp):See->Hp
 |.few bs=>dv wr H bs
 |.all f=>Hp.only f (Kv (fun b=>wr.contains b) (fun _=>false) H)
theorem mO{wr:List Nat}{b:Nat}{k:Blk}:∀{bs:List Nat},(dv wr H bs).get b=some k->∃k0,H.get b=some k0∧k=uA (fun b=>wr.contains b) (fun _=>false) b k0
 |[],h=>by simp[dv,Hp.get_nil]at h
 |c::bs,h=>by
  simp only[dv]at h;split at h
  ·rename_i k0 h0;by_cases hc:c=b
   ·grind[Hp.get_cons,Option.some.injEq]
   ·simp[Hp.get_cons,hc]at h;exact mO h
  ·exact mO h
theorem zjH{wr:List Nat}{b:Nat}{k:Blk}{s:See}(h:(FX wr H s).get b=some k):∃k0,H.get b=some k0∧k=uA (fun b=>wr.contains b) (fun _=>false) b k0:=by cases s<;>grind[mO,FX,Hp.get_only,Kw,Option.map_eq_some_iff]
def zdZ(wr:List Nat)(lo hi:Nat)(H1 H:Hp):Hp:=match wr with
 |[]=>bif Nat.beq lo hi then H else YC (jK (fun b=>([]:List Nat).contains b) lo hi) H1 H
 |wr=>YC (jK (fun b=>wr.contains b) lo hi) H1 H
theorem zbm{p:Nat->Bool}(hp:∀b,p b=false):∀G:Hp,Hp.only p G=[]
 |[]=>rfl
 |(b,k)::r=>by simp[Hp.only,hp b,zbm hp r]
theorem zd0{p:Nat->Bool}(hp:∀b,p b=true):∀G:Hp,Hp.only p G=G
 |[]=>rfl
 |(b,k)::r=>by simp[Hp.only,hp b,zd0 hp r]
theorem zjI(wr:List Nat)(lo hi:Nat)(H1 H:Hp):zdZ wr lo hi H1 H=YC (jK (fun b=>wr.contains b) lo hi) H1 H:=by grind[zdZ,Nat.beq,Nat.eq_of_beq_eq_true,jK,YC,zbm,zd0]
def nQ(op:List Value->Hp->Nat->Oper->Option (Value×Hp×Nat))(ops:Array Oper)(cut:Nat->List Value->Hp->List Stp->Option (List Nat×See)):Nat->List Stp->List Oper->List Value->Hp->Nat->Option (List Stp)
 |_,_,[],_,_,_=>some []
 |i,done,o::l,tm,H,nx=>
  match yD ops tm o with
  |some false=>(nQ op ops cut (i+1) (⟨o,false,undef,uB tm (yL ops o),[],fun _=>false,[],nx,nx⟩::done) l (xJ tm o.dst undef) H nx).map (⟨o,false,undef,uB tm (yL ops o),[],fun _=>false,[],nx,nx⟩::·)
  |some true=>
   match cut i tm H done with
   |none=>none
   |some (wr,see)=>
    match op tm (FX wr H see) nx o with
    |some (v,H1,nx1)=>
     if cO (Hp.only (jK (fun b=>wr.contains b) nx nx1) H1)&&wr.all (fun b=>(Hp.get (FX wr H see) b).isSome)then
      (nQ op ops cut (i+1) (⟨o,true,v,uB tm (yL ops o),FX wr H see,fun b=>wr.contains b,H1,nx,nx1⟩::done) l (xJ tm o.dst v)
       (zdZ wr nx nx1 H1 H) nx1).map (⟨o,true,v,uB tm (yL ops o),FX wr H see,fun b=>wr.contains b,H1,nx,nx1⟩::·)
     else none
    |none=>none
  |none=>none
def tmR:List Stp->List Value->List Value
 |[],tm=>tm
 |s::ss,tm=>tmR ss (xJ tm s.o.dst s.v)
def hpR:List Stp->Hp->Hp
 |[],H=>H
 |s::ss,H=>hpR ss (if s.ran then YC s.touch s.H' H else H)
def nxR:List Stp->Nat->Nat
 |[],nx=>nx
 |s::ss,nx=>nxR ss s.hi
structure Pt(P:Program)(r:Option Nat)(ops:Array Oper)(o:Oper)(tm:List Value)(H:Hp)(nx:Nat)(s:Stp):Prop where
 o_eq:s.o=o
 lo_eq:s.lo=nx
 le:s.lo<=s.hi
 tmo_eq:s.tmo=uB tm (yL ops o)
 want:yD ops s.tmo s.o=some s.ran
 ok:s.ran=true->Qv P r s.o s.tmo s.V s.lo s.v s.H' s.hi∧cO (Hp.only s.touch s.H')=true
 vw:∀b k,s.V.get b=some k->∃k0,H.get b=some k0∧k=uA s.wr (fun _=>false) b k0
 skip:s.ran=false->s.v=undef∧∀b,s.touch b=false
 wrin:∀b,s.wr b=true->∃k,s.V.get b=some k
theorem iU{op:List Value->Hp->Nat->Oper->Option (Value×Hp×Nat)}{r:Option Nat}(hlk:Pr op)(hop:∀{tm H nx o v H' nx'},op tm H nx o=some (v,H',nx')->Qv P r o tm H nx v H' nx'){ops:Array Oper}{cut:Nat->List Value->Hp->List Stp->Option (List Nat×See)} : ∀ {l:List Oper} {i:Nat} {done:List Stp} {tm:List Value} {H:Hp} {nx:Nat} {ss:List Stp},nQ op ops cut i done l tm H nx=some ss->ss.length=l.length∧∀(j:Nat) o s,l[j]?=some o->ss[j]?=some s->Pt P r ops o (tmR (ss.take j) tm) (hpR (ss.take j) H) (nxR (ss.take j) nx) s
 |[],i,done,tm,H,nx,ss,h=>by grind[nQ,Option.some.injEq]
 |o::l,i,done,tm,H,nx,ss,h=>by
  simp only[nQ]at h;split at h
  ·rename_i hw;rw[Kx]at hw;simp only[zqp]at h;obtain⟨ss',h',rfl⟩:=h;obtain⟨hl,hj⟩:=iU hlk hop h';refine⟨by simp[hl],fun j o' s ho hs=>?_⟩;cases j with
   |zero=>
    simp only[zrb,PL]at ho hs;subst ho;subst hs;exact⟨rfl,rfl,FW _,rfl,hw,(fun h=>by cases h),(fun b k hb=>by simp[Hp.get_nil]at hb),fun _=>⟨rfl,fun b=>by simp[Stp.touch,jK]⟩,fun b hb=>by cases hb⟩
   |succ j=>
    simp only[zrg]at ho hs;exact hj j o' s ho hs
  ·rename_i hw;rw[Kx]at hw;split at h;case h_1=>cases h
   rename_i wr see hcut;split at h;case h_2=>cases h
   rename_i v H1 nx1 hop1;rw[hlk.keep (ops:=ops)]at hop1;split at h;case isFalse=>cases h
   rename_i hrw;simp only[FT]at hrw;obtain⟨hrw,hwi⟩:=hrw;simp only[zqp]at h;obtain⟨ss',h',rfl⟩:=h;rw[zjI]at h';obtain⟨hl,hj⟩:=iU hlk hop h';have hok:=hop hop1;refine⟨by simp[hl],fun j o' s ho hs=>?_⟩;cases j with
   |zero=>
    simp only[zrb,PL]at ho hs;subst ho;subst hs;refine⟨rfl,rfl,hok.1,rfl,hw,fun _=>⟨hok,hrw⟩,fun b k hb=>?_,(fun h=>by cases h),fun b hb=>?_⟩
    ·exact zjH hb
    grind[List.all_eq_true,Option.isSome_iff_exists]
   |succ j=>
    simp only[zrg]at ho hs;exact hj j o' s ho hs
  ·cases h
def YD(ms:List Nat)(i j:Nat):Bool:=(ms.getD i 0).testBit j||(ms.getD j 0).testBit i
def MB(ms:List Nat)(ops:Array Oper):Bool:=ops.toList.zipIdx.all fun s=>ops.toList.zipIdx.all fun t=>s.2 == t.2||((s.1.dst.isNone||s.1.dst != t.1.dst)&&((yL ops s.1).all fun x=>t.1.dst != some x||YD ms s.2 t.2))
def pV(ms:List Nat)(ss:List Stp):Bool:=ss.zipIdx.all fun t=>!t.1.ran||(Nat.beq t.1.lo t.1.hi&&t.1.V.all fun x=>!t.1.wr x.1)||ss.zipIdx.all fun s=>s.2 == t.2||YD ms s.2 t.2||s.1.V.all fun x=>!t.1.touch x.1
theorem cR{α:Type}{p:α×Nat->Bool}{l:List α}(h:l.zipIdx.all p=true){i:Nat}{x:α}(hx:l[i]?=some x):p (x,i)=true:=by grind
def yc:Stp:=⟨default,false,undef,[],[],fun _=>false,[],0,0⟩
theorem zly(ss:List Stp)(s:Stp):∀tm,tmR (ss++[s]) tm=xJ (tmR ss tm) s.o.dst s.v:=by
 induction ss with
 |nil=>intro tm;rfl
 |cons x ss ih=>intro tm;exact ih _
theorem zlz(ss:List Stp)(s:Stp):∀H,hpR (ss++[s]) H=if s.ran then YC s.touch s.H' (hpR ss H)else hpR ss H:=by
 induction ss with
 |nil=>intro H;rfl
 |cons x ss ih=>intro H;exact ih _
theorem zd1(ss:List Stp)(s:Stp):∀nx,nxR (ss++[s]) nx=s.hi:=by
 induction ss with
 |nil=>intro nx;rfl
 |cons x ss ih=>intro nx;exact ih _
theorem cS{p:Nat×Blk->Bool}{b:Nat}{k:Blk}:∀{H:Hp},H.all p=true->H.get b=some k->p (b,k)=true
 |[],_,h=>by simp[Hp.get_nil]at h
 |(c,x)::r,ha,h=>by
  simp only[List.all_cons,FT]at ha;by_cases hb:c=b
  ·grind[Hp.get_cons]
  ·simp[Hp.get_cons,hb]at h;exact cS ha.2 h
theorem zbn{r:Option Nat}{ops:Array Oper}{tm:List Value}{H:Hp}{nx:Nat}{ss:List Stp}{ms:List Nat}(hgo:ss.length=ops.toList.length∧∀(j:Nat) o s,ops.toList[j]?=some o->ss[j]?=some s->Pt P r ops o (tmR (ss.take j) tm) (hpR (ss.take j) H) (nxR (ss.take j) nx) s)(hm:VB ms 0 ops.toList=true)(hsl:MB ms ops=true)(hvw:pV ms ss=true) : nP P r ops tm H nx (nxR ss nx) (fun i=>ss.getD i yc) (fun i j=>(ms.getD i 0).testBit j)∧(∀b,Zn (fun i=>ss.getD i yc) H (fun k=>decide (k < ops.size)) ops.size b=(hpR ss H).get b)∧tmS (fun i=>ss.getD i yc) tm (fun k=>decide (k < ops.size)) ops.size=tmR ss tm:=by
 obtain⟨hlen,hst⟩:=hgo;simp only[zrv]at hlen;have hss:∀i,i < ops.size->ss[i]?=some (ss.getD i yc):=fun i hi=>by
  have:i < ss.length:=by omega
  simp[this]
 have hso:∀i,i < ops.size->ops.toList[i]?=some ops[i]!:=fun i hi=>by simp[hi]
 have hok:∀i (hi:i < ops.size),Pt P r ops ops[i]! (tmR (ss.take i) tm) (hpR (ss.take i) H) (nxR (ss.take i) nx) (ss.getD i yc):=fun i hi=>hst i _ _ (hso i hi) (hss i hi);have htake:∀i,i < ops.size->ss.take (i+1)=ss.take i++[ss.getD i yc]:=fun i hi=>by
  have:i < ss.length:=by omega
  rw[List.take_succ_eq_append_getElem this];simp[this]
 have ht:∀i,i<=ops.size->∀m,i<=m->m<=ops.size->tmS (fun i=>ss.getD i yc) tm (fun k=>decide (k < i)) m=tmR (ss.take i) tm:=by
  intro i hi m;induction m generalizing i with
  |zero=>
       intro h1 _;have:i=0:=by omega
       subst this;rfl
  |succ m ih=>
   intro h1 h2;simp only[tmS];by_cases hmi:m < i
   ·have:i=m+1:=by omega
    subst this;simp only[zqL,zte,zqF];have e1:tmS (fun i=>ss.getD i yc) tm (fun k=>decide (k < m+1)) m=tmS (fun i=>ss.getD i yc) tm (fun k=>decide (k < m)) m:=by apply zrj;intro s;exact iS fun k hk _=>by simp[hk];omega
    rw[e1,ih m (by omega) (FW _) (by omega),htake m (by omega),zly]
   ·simp only[hmi,zsg,zqB,zqZ];exact ih i hi (by omega) (by omega)
 have hh:∀i,i<=ops.size->∀m,i<=m->m<=ops.size->∀b,Zn (fun i=>ss.getD i yc) H (fun k=>decide (k < i)) m b=(hpR (ss.take i) H).get b:=by
  intro i hi m;induction m generalizing i with
  |zero=>
       intro h1 _ b;have:i=0:=by omega
       subst this;rfl
  |succ m ih=>
   intro h1 h2 b;simp only[Zn];by_cases hmi:m < i
   ·have:i=m+1:=by omega
    subst this;simp only[zqL,zte,zrS];have e1:Zn (fun i=>ss.getD i yc) H (fun k=>decide (k < m+1)) m b=Zn (fun i=>ss.getD i yc) H (fun k=>decide (k < m)) m b:=cP fun k hk _=>by simp[hk];omega
    rw[e1,ih m (by omega) (FW _) (by omega),htake m (by omega),zlz];have hk:=hok m (by omega);cases hr:(ss.getD m yc).ran with
    |true=>simp only[zqF];rw[WW]
    |false=>rw[(hk.skip hr).2 b];simp
   ·simp only[hmi,zsg,zsL,zqB,zqZ];exact ih i hi (by omega) (by omega) b
 have hnx:∀i,i<=ops.size->∀j,j < i->(ss.getD j yc).hi<=nxR (ss.take i) nx:=by
  intro i;induction i with
  |zero=>intro _ j hj;omega
  |succ i ih=>
   intro hi j hj;rw[htake i (by omega),zd1];have hk:=hok i (by omega);by_cases hji:j=i
   ·subst hji;exact FW _
   ·have:=ih (by omega) j (by omega);rw[<-hk.lo_eq]at this;exact zqw this hk.le
 have hnx0:∀i,i<=ops.size->nx<=nxR (ss.take i) nx:=by
  intro i;induction i with
  |zero=>intro _;exact FW _
  |succ i ih=>
   intro hi;rw[htake i (by omega),zd1];have hk:=hok i (by omega);have:=ih (by omega);rw[<-hk.lo_eq]at this;exact zqw this hk.le
 have hall:ss.take ops.size=ss:=zqW (by omega);have hmf:∀i,i < ops.size->ms.getD i 0=QT ms (ss.getD i yc).o.after.toList∧(∀e∈(ss.getD i yc).o.after.toList,Region.binds .any e=true->e.on < i)∧ms.getD i 0 < 2 ^ i:=fun i hi=>by have:=IC hm (hso i hi);rw[<-(hok i hi).o_eq]at this;simpa using this
 have slt:∀i k,i < ops.size->k < ops.size->i≠k->((ss.getD i yc).o.dst.isNone||(ss.getD i yc).o.dst != (ss.getD k yc).o.dst)=true∧((yL ops (ss.getD i yc).o).all fun x=>(ss.getD k yc).o.dst != some x||YD ms i k)=true:=by
  intro i k hi hk hne;have h1:=cR (cR hsl (hso i hi)) (hso k hk);rw[<-(hok i hi).o_eq,<-(hok k hk).o_eq]at h1;have hb:(i == k)=false:=by simp[hne]
  simpa[hb]using h1
 refine⟨⟨fun i hi=>?_,fun i hi=>(hok i hi).le,fun i j hij hj=>?_,fun i hi=>⟨by rw[(hok i hi).lo_eq];exact hnx0 i (by omega),by have:=hnx ops.size (FW _) i hi;rwa [hall]at this⟩,by have:=hnx0 ops.size (FW _);rwa [hall]at this,
  fun i hi e he hb=>?_,fun i hi j hj=>?_,fun i j hi hj=>?_,fun i hi=>?_,fun i hi s v hv=>?_,fun i j s hi hj hne hd=>?_,fun i hi=>(hok i hi).want,fun i hi=>(hok i hi).ok,fun i hi b k hb=>?_,fun i hi=>(hok i hi).skip,
  fun i j hi hj hne h1 h2 b k hb=>?_,fun i hi=>(hok i hi).wrin⟩,fun b=>?_,?_⟩
 ·rw[(hok i hi).o_eq];simp[hi]
 ·rw[(hok j hj).lo_eq];exact hnx j (by omega) i hij
 ·refine⟨?_,(hmf i hi).2.1 e (by simpa using he) hb⟩;try dsimp only
  rw[(hmf i hi).1,dJ];exact⟨e,by simpa using he,hb,.inl rfl⟩
 ·try dsimp only at hj
  rw[(hmf i hi).1,dJ]at hj;obtain⟨e,he,hb,hor⟩:=hj;exact⟨e,by simpa using he,hb,hor⟩
 ·have hlt:=(hmf i hi).2.2;try dsimp only at hj
  rcases zry j i with h | h
  ·exact h
  ·rw[zrL (zqC hlt (zqY (by omega) h))]at hj;cases hj
 ·try dsimp only
  rw[(hok i hi).tmo_eq,iT.1,<-ht i (by omega) i (FW _) (by omega),kU]
 ·try dsimp only at hv ⊢
  rw[(hok i hi).tmo_eq]at hv;rcases iT.2 s v hv with h0 | ⟨h1,h2⟩
  ·exact .inl h0
  ·refine .inr ⟨by rw[ht i (by omega) _ (by omega) (FW _)];exact h2,fun k hk hne hd=>?_⟩;have:=(slt i k hi hk (fun e=>hne e.symm)).2;rw[(hok i hi).o_eq]at this;have:=zqK.1 this s h1;rw[hd]at this;simpa[YD]using this
 ·have:=(slt i j hi hj hne).1;rw[hd]at this;try dsimp only at this hd ⊢
  simp at this;exact fun e=>this e.symm
 ·try dsimp only at hb ⊢
  obtain⟨k0,h0,h1⟩:=(hok i hi).vw b k hb;exact⟨k0,by rw[hh i (by omega) _ (by omega) (FW _)];exact h0,h1⟩
 ·try dsimp only at hb ⊢
  cases hr:(ss.getD j yc).ran with
  |false=>exact((hok j hj).skip hr).2 b
  |true=>
   have hv:=cR hvw (hss j hj);simp only[hr,zsC,zrR,zrm]at hv;rcases hv with hv | hv
   ·simp only[FT]at hv;have hlh:=zpK hv.1;cases hw:(ss.getD j yc).wr b with
    |true=>
     obtain⟨k',hk'⟩:=(hok j hj).wrin b hw;have:=cS hv.2 hk';dsimp only at this;rw[hw]at this;cases this
    |false=>
     simp only[Stp.touch,jK,hw,zrR,hlh];simp only[zsb,zrC];omega
   have hv:=cR hv (hss i hi);have hb1:(i == j)=false:=by simp[hne]
   have hb2:YD ms i j=false:=by simp only[YD,zrI];exact⟨h1,h2⟩
   simp only[hb1,hb2,zrR]at hv;have:=cS hv hb;simpa using this
 all_goals grind
def TG(tm:List Value)(x:Operand):List Nat:=
 match opv tm x with
 |some (.pointer (some a))=>[a.block]
 |some (.slice (some a) _ _)=>[a.block]
 |_=>[]
def zlA(tm:List Value)(o:Oper):Option (List Nat):=
 match o.op with
 |.load _ a=>some (TG tm a)
 |.store _ a _=>some (TG tm a)
 |.call {callee:=.builtin _,args:=args,argTypes:=_}=>some (args.toList.flatMap (TG tm))
 |.call _=>none
 |.mapUpdate _ m _ _=>some (Ps tm m)
 |.lookup _ x _ _=>some (Ps tm x)
 |_=>some []
def zpL(ops:Array Oper)(ms:List Nat)(est:List (List Nat))(i:Nat)(tm:List Value)(H:Hp)(done:List Stp):Option (List Nat×See):=
 match ops[i]? with
 |none=>none
 |some o=>
  match zlA tm o with
  |some bs=>some ((pU tm o).filter fun b=>match H.get b with | some k=>k.rw | none=>false,.few bs)
  |none=>
   match (List.range ops.size).filter fun j=>j != i&&!YD ms i j with
   |[]=>some (names (H.filter fun x=>x.2.rw),.all fun _=>true)
   |others=>
    match others.flatMap (fun j=>est.getD j []++(match ops[j]? with | some p=>pU tm p | none=>[])),others.filterMap fun j=>if j < i then(match (done.reverse)[j]? with | some s=>if s.lo < s.hi then some (s.lo,s.hi)else none | none=>none)else none with
    |mask,rs=>some ([],.all fun b=>!(mask.contains b||TF rs b))
def zdp(P:Program)(ops:Array Oper)(H:Hp):List Oper->List Value->List (List Nat)
 |[],_=>[]
 |o::l,tm=>
  match o.op with
  |.store ..=>pU tm o::zdp P ops H l tm
  |.load .. | .fieldAddr .. | .indexAddr .. | .move _ | .assign _ | .slice ..=>
   []::zdp P ops H l (xJ tm o.dst (match yD ops tm o with
    |some true=>match jU P tm H 0 o with
     |some (v,_,_)=>v
     |none=>junk
    |_=>junk))
  |_=>pU tm o::zdp P ops H l (xJ tm o.dst junk)
def zd2(o:Oper):Bool:=match o.op with
 |.store ..=>true
 |.mapUpdate ..=>true
 |.call {callee:=.builtin .append,args:=_,argTypes:=_}=>true
 |.call {callee:=.builtin .copy,args:=_,argTypes:=_}=>true
 |_=>false
def CC(l:List Nat)(i:Nat):Nat:=List.rec (motive:=fun _=>Nat->Nat) (fun _=>0) (fun x _ ih i=>Nat.rec (motive:=fun _=>Nat) x (fun m _=>ih m) i) l i
theorem dw:∀(l:List Nat) (i:Nat),CC l i=l.getD i 0
 |[],_=>by simp[CC]
 |x::l,0=>rfl
 |x::l,i+1=>by show CC l i=_;rw[dw l i];simp
def iV(ms:List Nat):List Edge->Nat
 |[]=>0
 |e::es=>Nat.lor (bif Region.binds .any e then Nat.lor (Nat.shiftLeft 1 e.on) (CC ms e.on)else 0) (iV ms es)
theorem CD(ms:List Nat):∀es:List Edge,iV ms es=QT ms es
 |[]=>rfl
 |e::es=>by simp only[iV,QT,CD ms es,dw];cases Region.binds .any e<;>rfl
def zbo(rs:List Nat)(i:Nat):List Edge->Nat
 |[]=>0
 |e::es=>Nat.lor (bif Region.binds .any e then Nat.lor (Nat.shiftLeft 1 e.on) (CC rs (i - 1 - e.on))else 0) (zbo rs i es)
def CE:List Oper->Nat->List Nat->List Nat
 |[],_,rs=>rs.reverse
 |o::os,i,rs=>CE os (i+1) (zbo rs i o.after.toList::rs)
def iW(i:Nat):List Edge->Bool
 |[]=>true
 |e::es=>(!Region.binds .any e||Nat.blt e.on i)&&iW i es
theorem nR{a b:Nat}(h:Nat.blt a b=true):a < b:=by simp_all
theorem CF{i:Nat}:∀{es:List Edge},iW i es=true->es.all (fun e=>!Region.binds .any e||decide (e.on < i))=true
 |[],_=>rfl
 |e::es,h=>by simp only[iW,FT,zrm]at h;simp only[List.all_cons,CF h.2,Bool.and_true,zrm,zra];simp_all
def iX(ms:List Nat):Nat->List Oper->Bool
 |_,[]=>true
 |i,o::os=>(match CC ms i with | m=>Nat.beq m (iV ms o.after.toList)&&Nat.blt m (Nat.pow 2 i))&&iW i o.after.toList&&iX ms (i+1) os
theorem dL{ms:List Nat}:∀{l:List Oper} {i:Nat},iX ms i l=true->VB ms i l=true
 |[],_,_=>rfl
 |o::os,i,h=>by simp only[iX,FT,CD,dw]at h;obtain⟨⟨⟨h1,h2⟩,h3⟩,h4⟩:=h;have h1:=zpK h1;simp only[VB,dL h4,CF h3,Bool.and_true,FT,beq_iff_eq,zra];simp_all
def MC:Nat->List Oper->List (Nat×Nat)
 |_,[]=>[]
 |i,o::os=>match o.dst with
  |some d=>(d,i)::MC (i+1) os
  |none=>MC (i+1) os
theorem MD{d:Nat}{p:Oper}:∀{l:List Oper} {i j:Nat},l[j]?=some p->p.dst=some d->(d,i+j)∈MC i l
 |[],_,_,h,_=>by simp at h
 |o::os,i,0,h,hd=>by grind[MC]
 |o::os,i,j+1,h,hd=>by have ih:=MD (l:=os) (i:=i+1) (j:=j) (by simpa using h) hd;grind[MC,List.mem_cons_of_mem]
def CG(ms:List Nat)(i j:Nat):Bool:=Nat.testBit (CC ms i) j||Nat.testBit (CC ms j) i
def zdq(ms:List Nat)(i x:Nat)(dl:List (Nat×Nat)):Bool:=List.rec (motive:=fun _=>Bool) true (fun p _ ih=>(bif Nat.beq p.1 x then Nat.beq p.2 i||CG ms i p.2 else true)&&ih) dl
theorem zbp{ms:List Nat}{i x d j:Nat}:∀{dl:List (Nat×Nat)},zdq ms i x dl=true->(d,j)∈dl->d=x->j≠i->CG ms i j=true
 |[],_,h,_,_=>by cases h
 |p::dl,h,hm,hd,hj=>by
  have h:((bif Nat.beq p.1 x then Nat.beq p.2 i||CG ms i p.2 else true)&&zdq ms i x dl)=true:=h;simp only[FT]at h;rcases zqA.1 hm with he | hm
  ·grind[Nat.beq,Nat.beq_refl,Nat.eq_of_beq_eq_true]
  ·exact zbp h.2 hm hd hj
def zhW(i x:Nat)(dl:List (Nat×Nat)):Bool:=List.rec (motive:=fun _=>Bool) true (fun p _ ih=>(bif Nat.beq p.1 x then Nat.beq p.2 i else true)&&ih) dl
theorem zd3{i x d j:Nat}:∀{dl:List (Nat×Nat)},zhW i x dl=true->(d,j)∈dl->d=x->j=i
 |[],_,h,_=>by cases h
 |p::dl,h,hm,hd=>by
  have h:((bif Nat.beq p.1 x then Nat.beq p.2 i else true)&&zhW i x dl)=true:=h;simp only[FT]at h;rcases zqA.1 hm with he | hm
  ·grind[Nat.beq,Nat.beq_refl,Nat.eq_of_beq_eq_true]
  ·exact zd3 h.2 hm hd
def zhX(f:Nat->Bool):List Nat->Bool
 |[]=>true
 |x::r=>f x&&zhX f r
theorem zd4{f:Nat->Bool}:∀{l:List Nat} {x:Nat},zhX f l=true->x∈l->f x=true
 |[],_,_,h=>by cases h
 |y::l,x,h,hx=>by
  simp only[zhX,FT]at h;rcases zqA.1 hx with rfl | hx
  ·exact h.1
  ·exact zd4 h.2 hx
def nS(ms:List Nat)(ops:Array Oper)(dl:List (Nat×Nat)):Nat->List Oper->Bool
 |_,[]=>true
 |i,o::os=>(match o.dst with
  |some d=>zhW i d dl
  |none=>true)&&zhX (fun x=>zdq ms i x dl) (yL ops o)&&nS ms ops dl (i+1) os
theorem zbq{ms:List Nat}{ops:Array Oper}{dl:List (Nat×Nat)}:∀{l:List Oper} {i j:Nat} {o:Oper},nS ms ops dl i l=true->l[j]?=some o->(∀d,o.dst=some d->zhW (i+j) d dl=true)∧∀x∈yL ops o,zdq ms (i+j) x dl=true
 |[],_,_,_,_,h=>by simp at h
 |p::os,i,0,o,h,ho=>by grind[nS,zd4]
 |p::os,i,j+1,o,h,ho=>by simp only[nS,FT]at h;have:=zbq (j:=j) h.2 (by simpa using ho);grind
theorem zbr{ms:List Nat}{ops:Array Oper}(h:nS ms ops (MC 0 ops.toList) 0 ops.toList=true):MB ms ops=true:=by
 unfold MB;rw[zqK];rintro⟨o,i⟩ hs;rw[zqK];rintro⟨p,j⟩ ht;rw[zsv]at hs ht;dsimp only at hs ht ⊢;by_cases hij:i=j
 ·subst hij;simp
 ·obtain⟨h1,h2⟩:=zbq h hs;rw[zrr]at h1 h2;have e0:(i == j)=false:=by simpa using hij
  rw[e0,zrR,FT];constructor
  ·cases hd:o.dst with
   |none=>rfl
   |some d=>
    simp only[Option.isNone_some,zrR,bne_iff_ne,ne_eq];intro he;have hm:=MD (i:=0) ht he.symm;grind[zd3]
  ·rw[zqK];intro x hx;by_cases hpx:p.dst=some x
   ·have hm:=MD (i:=0) ht hpx;rw[zrr]at hm;have:=zbp (h2 x hx) hm rfl (fun e=>hij e.symm);unfold CG at this;rw[dw,dw]at this;simp only[zrm,bne_iff_ne];right;simpa[YD]using this
   grind
def FY(ms:List Nat)(ops:Array Oper):Bool:=iX ms 0 ops.toList&&nS ms ops (MC 0 ops.toList) 0 ops.toList
def hpF:List Stp->Hp->Hp
 |[],H=>H
 |s::ss,H=>hpF ss (if s.ran then(bif Nat.beq s.lo s.hi&&s.V.all (fun x=>!s.wr x.1)then H else YC s.touch s.H' H)else H)
theorem zg1:∀{ss:List Stp} {H1 H2:Hp},(∀s∈ss,∀b,s.wr b=true->∃k,s.V.get b=some k)->(∀b,H1.get b=H2.get b)->∀b,(hpF ss H1).get b=(hpR ss H2).get b
 |[],_,_,_,h,b=>h b
 |s::ss,H1,H2,hw,h,b=>by
  simp only[hpF,hpR];refine zg1 (fun t ht=>hw t (by simp[ht])) (fun c=>?_) b;cases hr:s.ran with
  |false=>exact h c
  |true=>
   simp only[zqF];cases hq:(Nat.beq s.lo s.hi&&s.V.all (fun x=>!s.wr x.1))with
   |false=>
    grind[WW]
   |true=>
    simp only[FT]at hq;have hlh:=zpK hq.1;have ht:s.touch c=false:=by
     cases hwc:s.wr c with
     |true=>
      obtain⟨k',hk'⟩:=hw s (by simp) c hwc;have:=cS hq.2 hk';dsimp only at this;rw[hwc]at this;cases this
     |false=>
      simp only[Stp.touch,jK,hwc,zrR,hlh];simp only[zsb,zrC];omega
    grind[WW]
def ME(P:Program)(op:List Value->Hp->Nat->Oper->Option (Value×Hp×Nat))(ops:Array Oper)(tm:List Value)(H:Hp)(nx:Nat):Option (List Value×Hp×Nat):=
 match CE ops.toList 0 []with
 |ms=>match (if ops.toList.any zd2 then zdp P ops H ops.toList tm else[])with
  |est=>match nQ op ops (zpL ops ms est) 0 [] ops.toList tm H nx with
   |some ss=>if FY ms ops&&pV ms ss&&P.follows .mixedOrders then some (tmR ss tm,hpF ss H,nxR ss nx)else none
   |none=>none
theorem zgo{op:List Value->Hp->Nat->Oper->Option (Value×Hp×Nat)}{r:Option Nat}(hlk:Pr op)(hop:∀{tm H nx o v H' nx'},op tm H nx o=some (v,H',nx')->Qv P r o tm H nx v H' nx'){id:Nat}{ops:Array Oper}{tm tm':List Value}{ds:List Nat}{H':Hp}{nx nx':Nat}(h:ME P op ops tm H nx=some (tm',H',nx')):qY P r (.region id ops true) tm ds H nx ⟨.normal,tm',ds,H',nx'⟩:=by
 unfold ME at h;dsimp only at h;split at h;case h_2=>cases h
 rename_i ss hss;split at h;case isFalse=>cases h
 rename_i hc;cases h;simp only[FT,FY]at hc;obtain⟨⟨⟨h1,h2⟩,h3⟩,h4⟩:=hc;have h1:=dL h1;have h2:=zbr h2;have hwr:∀s∈ss,∀b,s.wr b=true->∃k,s.V.get b=some k:=fun s hsm b hb=>by
  obtain⟨j,hj,rfl⟩:=List.getElem_of_mem hsm;obtain⟨hl,hall⟩:=iU (r:=r) hlk hop hss;have hj2:j < ops.toList.length:=by omega
  exact(hall j _ _ (FL hj2) (FL hj)).wrin b hb
 obtain⟨D,hs,ht⟩:=zbn (iU hlk hop hss) h1 h2 h3;grind[IB,hpF,zg1]
def zd5:Value->Bool
 |.complex .f32 0 0=>true
 |_=>false
theorem zjJ{v:Value}(h:zd5 v=true):v=junk:=by
 unfold zd5 at h;split at h
 ·rfl
 ·cases h
def vT(f:Value->Bool):List Value->Bool
 |[]=>true
 |v::r=>f v&&vT f r
def jz(lo:Nat):Nat->Value->Bool
 |_,.bool _=>true
 |_,.int _ _=>true
 |_,.float _ _=>true
 |_,.string _=>true
 |_,.pointer none=>true
 |_,.pointer (some a)=>decide (a.block < lo)
 |_,.slice none _ _=>true
 |_,.slice (some a) _ _=>decide (a.block < lo)
 |_,.map none=>true
 |_,.map (some b)=>decide (b < lo)
 |_,.nilFunc=>true
 |_,.nilIface=>true
 |n+1,.func (.func _) a b=>vT (jz lo n) a.toList&&vT (jz lo n) b.toList
 |n+1,.func (.yield l) a b=>decide (l < lo)&&vT (jz lo n) a.toList&&vT (jz lo n) b.toList
 |n+1,.iface _ v=>jz 0 n v
 |n+1,.agg a=>vT (jz lo n) a.toList
 |n+1,.tuple a=>vT (jz lo n) a.toList
 |_,_=>false
theorem kV{φ':Ren}{f:Value->Bool}(hf:∀v v',f v=true->zp φ' v v'->zp φ v v'):∀{xs ys:List Value},vT f xs=true->zD φ' xs ys->zD φ xs ys
 |[],[],_,_=>trivial
 |x::xs,y::ys,h,hr=>by simp only[vT,FT]at h;exact⟨hf x y h.1 hr.1,kV hf h.2 hr.2⟩
 |[],_::_,_,h=>h.elim
 |_::_,[],_,h=>h.elim
theorem iY{f:Value->Bool}{j:Nat}{v:Value}:∀{cs:List Value},vT f cs=true->cs[j]?=some v->f v=true
 |[],_,h=>by simp at h
 |x::cs,hs,h=>by
  simp only[vT,FT]at hs;cases j with
  |zero=>grind
  |succ j=>simp at h;exact iY hs.2 h
def pW(φ' φ:Ren):Prop:=∀b L,φ' (FZ+b)=some L->φ (FZ+b)=some L
theorem ID{m k:Nat}{e u:Value}(h:jz 0 m e=true)(hu:e.cells[k]?=some u):∃m',m'<=m∧jz 0 m' u=true:=by
 have one:e.oneCell'=true->∃m',m'<=m∧jz 0 m' u=true:=fun h1=>by grind[aH]
 cases e with
 |agg a=>
  cases m with
  |zero=>simp[jz]at h
  |succ m=>exact⟨m,zqv _,iY (j:=k) (v:=u) h (by simpa[Value.cells]using hu)⟩
 |tuple a=>
  grind[jz,Value.cells,iY]
 |_=>exact one rfl
theorem zd6{φ':Ren}(hF:pW φ' φ):∀(n:Nat) (v v':Value),jz 0 n v=true->zp φ' v v'->zp φ v v':=by
 intro n;induction n using Nat.strongRecOn with
 |_ n ih=>
  intro v v' hs hr;have hL:∀{k:Nat} {xs ys:List Value},k < n->vT (jz 0 k) xs=true->zD φ' xs ys->zD φ xs ys:=fun hk h1 h2=>kV (fun v v'=>ih _ hk v v') h1 h2;cases v with
  |bool b=>cases hr;exact .bool b
  |int k m=>cases hr;exact .int k m
  |float k m=>cases hr;exact .float k m
  |string s=>cases hr;exact .str s
  |pointer a=>
   cases a with
   |none=>cases hr;exact .ptrN
   |some a=>simp[jz]at hs
  |slice a m c=>
   cases a with
   |none=>cases hr;exact .slN m c
   |some a=>simp[jz]at hs
  |map r=>
   cases r with
   |none=>cases hr;exact .mapN
   |some r=>simp[jz]at hs
  |nilFunc=>cases hr;exact .nilFunc
  |nilIface=>cases hr;exact .nilIface
  |func f a b=>
   cases n with
   |zero=>cases f<;>simp[jz]at hs
   |succ n=>
    obtain⟨fn',ys,us,rfl,hf,h1,h2⟩:=hr.func_inv;cases hf with
    |func f=>
     simp only[jz,FT]at hs;exact .func' (.func f) (hL (zqL _) hs.1 h1) (hL (zqL _) hs.2 h2)
    |_=>simp[jz]at hs
  |agg a=>
   cases n with
   |zero=>simp[jz]at hs
   |succ n=>
    obtain⟨ys,rfl,hl⟩:=hr.agg_inv;exact .agg' (hL (zqL _) hs hl)
  |tuple a=>
   cases n with
   |zero=>simp[jz]at hs
   |succ n=>
    obtain⟨ys,rfl,hl⟩:=hr.tuple_inv;exact .tuple' (hL (zqL _) hs hl)
  |iface t u=>
   cases n with
   |zero=>simp[jz]at hs
   |succ n=>
    have hs:jz 0 n u=true:=hs;have hel:∀{es:Array Value},(u=.tuple es∨u=.agg es)->∀(j k:Nat) e w w',es[j]?=some e->e.cells[k]?=some w->zp φ' w w'->zp φ w w':=by
     intro es hu j k e w w' he hk hw;cases n with
     |zero=>rcases hu with rfl | rfl<;>simp[jz]at hs
     |succ n=>
      have h1:vT (jz 0 n) es.toList=true:=by rcases hu with rfl | rfl<;>exact hs
      have h2:=iY (j:=j) (v:=e) h1 (by simpa using he);grind[ID]
    cases hr with
    |fz _ es b o c L hL hn ho hc hsz h=>exact .fz t es b o c L (hF _ _ hL) hn ho hc hsz fun j k e w w' he hk hw=>hel (.inl rfl) j k e w w' he hk (h j k e w w' he hk hw)
    |fz0 _ a c=>exact .fz0 t a c
    |fq _ es b o L hL hn ho hsz h=>exact .fq t es b o L (hF _ _ hL) hn ho hsz fun j k e w w' he hk hw=>hel (.inr rfl) j k e w w' he hk (h j k e w w' he hk hw)
    |fq0 _ a=>exact .fq0 t a
    |fp _ e b o L hL ho h=>
     refine .fp t e b o L (hF _ _ hL) ho fun j w w' hw hw'=>?_;cases n with
     |zero=>simp[jz]at hs
     |succ n=>
      grind[jz,ID]
  |_=>grind[jz]
theorem zbs{φ':Ren}{lo:Nat}(hφ:∀b,b < lo->φ' b=φ b)(hF:pW φ' φ):∀(n:Nat) (v v':Value),jz lo n v=true->zp φ' v v'->zp φ v v':=by
 have base:∀(n:Nat) (v v':Value),(match v with | .func ..=>False | .iface ..=>False | .agg _=>False | .tuple _=>False | _=>True)->jz lo n v=true->zp φ' v v'->zp φ v v':=by
  intro n v v' hv hs hr;cases hr with
  |bool b=>exact .bool b
  |int k n=>exact .int k n
  |float k n=>exact .float k n
  |str s=>exact .str s
  |ptrN=>exact .ptrN
  |ptr b o L h=>simp only[jz,zra]at hs;exact .ptr b o L (by grind)
  |slN n c=>exact .slN n c
  |sl b o n c L h hc=>simp only[jz,zra]at hs;exact .sl b o n c L (by grind) hc
  |slO b o n c c' L h hc hn hl=>simp only[jz,zra]at hs;exact .slO b o n c c' L (by grind) hc hn hl
  |slE b o c a' L h hc=>simp only[jz,zra]at hs;exact .slE b o c a' L (by grind) hc
  |mapN=>exact .mapN
  |map r L h=>simp only[jz,zra]at hs;exact .map r L (by grind)
  |nilFunc=>exact .nilFunc
  |nilIface=>exact .nilIface
  |_=>exact hv.elim
 intro n;induction n with
 |zero=>
  intro v v' hs hr;cases v with
  |func f a b=>cases f<;>simp[jz]at hs
  |iface t u=>simp[jz]at hs
  |agg a=>simp[jz]at hs
  |tuple a=>simp[jz]at hs
  |_=>grind
 |succ n ih=>
  intro v v' hs hr;cases v with
  |func f a b=>
   obtain⟨fn',ys,us,rfl,hf,h1,h2⟩:=hr.func_inv;cases hf with
   |func f=>
    simp only[jz,FT]at hs;exact .func' (.func f) (kV ih hs.1 h1) (kV ih hs.2 h2)
   |yield l L hl=>
    simp only[jz,FT,zra]at hs;exact .func' (.yield l L (by grind)) (kV ih hs.1.2 h1) (kV ih hs.2 h2)
   |_=>simp[jz]at hs
  |iface t u=>exact zd6 hF (n+1) _ _ (by exact hs) hr
  |agg a=>
   obtain⟨ys,rfl,hl⟩:=hr.agg_inv;exact .agg' (kV ih hs hl)
  |tuple a=>
   obtain⟨ys,rfl,hl⟩:=hr.tuple_inv;exact .tuple' (kV ih hs hl)
  |_=>grind
def keq(a b:IntKind):Bool:=match a,b with
 |.i8,.i8 | .i16,.i16 | .i32,.i32 | .i64,.i64 | .u8,.u8 | .u16,.u16 | .u32,.u32 | .u64,.u64=>true
 |_,_=>false
theorem zjK{a b:IntKind}(h:keq a b=true):a=b:=by cases a<;>cases b<;>first | rfl | simp[keq]at h
def ieq:Int->Int->Bool
 |.ofNat a,.ofNat b=>a == b
 |.negSucc a,.negSucc b=>a == b
 |_,_=>false
theorem zjL{a b:Int}(h:ieq a b=true):a=b:=by cases a<;>cases b<;>simp[ieq]at h<;>simp[h]
def zhY:Option Addr->Option Addr->Bool
 |none,none=>true
 |some ⟨b,o,none⟩,some ⟨c,p,none⟩=>b == c&&o == p
 |_,_=>false
theorem Ha{a b:Option Addr}(h:zhY a b=true):a=b:=by unfold zhY at h;grind
def zlB:Fn->Fn->Bool
 |.func a,.func b=>a == b
 |.yield a,.yield b=>a == b
 |_,_=>false
theorem znU{a b:Fn}(h:zlB a b=true):a=b:=by unfold zlB at h;grind
def TH:List UInt8->List UInt8->Bool
 |[],[]=>true
 |a::x,b::y=>a.toNat == b.toNat&&TH x y
 |_,_=>false
theorem TI:∀{a b:List UInt8},TH a b=true->a=b
 |[],[],_=>rfl
 |a::x,b::y,h=>by simp[TH]at h;rw[TI h.2,UInt8.toNat_inj.1 h.1]
 |[],_::_,h=>by simp[TH]at h
 |_::_,[],h=>by simp[TH]at h
def XZ(f:Value->Value->Bool):List Value->List Value->Bool
 |[],[]=>true
 |a::x,b::y=>f a b&&XZ f x y
 |_,_=>false
theorem pX{f:Value->Value->Bool}(hf:∀a b,f a b=true->a=b):∀{x y:List Value},XZ f x y=true->x=y
 |[],[],_=>rfl
 |a::x,b::y,h=>by simp[XZ]at h;rw[hf a b h.1,pX hf h.2]
 |[],_::_,h=>by simp[XZ]at h
 |_::_,[],h=>by simp[XZ]at h
def veq:Nat->Value->Value->Bool
 |_,.bool a,.bool b=>a == b
 |_,.int k a,.int l b=>keq k l&&ieq a b
 |_,.pointer a,.pointer b=>zhY a b
 |_,.slice a n c,.slice b m d=>zhY a b&&n == m&&c == d
 |_,.string a,.string b=>TH a.data.toList b.data.toList
 |_,.nilFunc,.nilFunc=>true
 |_,.nilIface,.nilIface=>true
 |_,.map none,.map none=>true
 |_,.map (some a),.map (some b)=>a == b
 |n+1,.func f a b,.func g c d=>zlB f g&&XZ (veq n) a.toList c.toList&&XZ (veq n) b.toList d.toList
 |n+1,.iface t a,.iface u b=>t == u&&veq n a b
 |n+1,.agg a,.agg b=>XZ (veq n) a.toList b.toList
 |n+1,.tuple a,.tuple b=>XZ (veq n) a.toList b.toList
 |_,_,_=>false
theorem Pu:∀(n:Nat) (a b:Value),veq n a b=true->a=b:=by
 intro n;induction n with
 |zero=>
  intro a b h;unfold veq at h;split at h
  ·simp at h;rw[h]
  ·simp at h;rw[zjK h.1,zjL h.2]
  ·rw[Ha h]
  ·simp at h;rw[Ha h.1.1,h.1.2,h.2]
  ·rename_i x y;have:=TI h;cases x;cases y;simp only at this;rw[ztr.1 this]
  all_goals grind
 |succ n ih=>
  intro a b h;unfold veq at h;split at h
  ·simp at h;rw[h]
  ·simp at h;rw[zjK h.1,zjL h.2]
  ·rw[Ha h]
  ·simp at h;rw[Ha h.1.1,h.1.2,h.2]
  ·rename_i x y;have:=TI h;cases x;cases y;simp only at this;rw[ztr.1 this]
  all_goals grind[znU,Array.toList_inj,pX]
def jT(J:List Nat):Nat->List Value->List Value
 |_,[]=>[]
 |i,v::r=>(bif J.any (Nat.beq i)then junk else v)::jT J (i+1) r
theorem zjM(J:List Nat):∀(l:List Value) (i:Nat),(jT J i l).length=l.length
 |[],_=>rfl
 |_::r,i=>by simp[jT,zjM J r]
theorem zjN(J:List Nat):∀{l:List Value} {i j:Nat} {u:Value},(jT J i l)[j]?=some u->u=junk∨l[j]?=some u
 |[],_,_,_,h=>by simp[jT]at h
 |v::r,i,0,u,h=>by grind[jT,List.getElem?_cons_zero,Option.some.injEq,Nat.beq]
 |v::r,i,j+1,u,h=>by simp only[jT,zrg]at h ⊢;exact zjN J h
theorem zoW{J:List Nat}{tm:List Value}{ts:Array Value}(h:qS φ tm ts):qS φ (jT J 0 tm) ts:=
 ⟨by rw[zjM];exact h.1,fun i v hv=>(zjN J hv).elim .inl (h.2 i v)⟩
def Gp:Code->List Nat
 |.seq a b=>Gp a++Gp b
 |.cond _ a b=>Gp a++Gp b
 |.block _ c=>Gp c
 |.loop c=>Gp c
 |.scope c=>Gp c
 |.region _ ops _=>ops.toList.filterMap (·.dst)
 |.rangeFunc _ ps a b=>ps.toList++(Gp a++Gp b)
 |_=>[]
def bn(lo:Nat):List Value->List Value->Bool
 |[],[]=>true
 |p::ps,v::vs=>(zd5 p||(jz lo 16 p&&veq 17 p v))&&bn lo ps vs
 |_,_=>false
theorem zd7{lo:Nat}:∀{ps vs:List Value},bn lo ps vs=true->ps.length=vs.length
 |[],[],_=>rfl
 |_::_,_::_,h=>by simp only[bn,FT]at h;simp[zd7 h.2]
 |[],_::_,h=>by simp[bn]at h
 |_::_,[],h=>by simp[bn]at h
theorem zd8{lo j:Nat}{p:Value}:∀{ps vs:List Value},bn lo ps vs=true->ps[j]?=some p->p=junk∨(jz lo 16 p=true∧vs[j]?=some p)
 |[],[],_,hp=>by simp at hp
 |q::ps,v::vs,h,hp=>by
  simp only[bn,FT,zrm]at h;cases j with
  |zero=>
   grind[List.getElem?_cons_zero,Option.some.injEq,zjJ,Pu]
  |succ j=>simpa using zd8 (j:=j) h.2 (by simpa using hp)
 |[],_::_,h,_=>by simp[bn]at h
 |_::_,[],h,_=>by simp[bn]at h
def eqB:Blk->Blk->Bool
 |.cells a x,.cells b y=>XZ (veq 17) a b&&(x == y)
 |.defd,.defd=>true
 |.hid,.hid=>true
 |_,_=>false
theorem zoX{a b:Blk}(h:eqB a b=true):a=b:=by unfold eqB at h;grind[pX,Pu]
def zd9(lo:Nat):Blk->Bool
 |.cells cs _=>vT (jz lo 16) cs
 |.defd | .hid=>true
 |_=>false
def TJ(lo:Nat)(H':Hp):Hp->Bool
 |[]=>true
 |(b,k)::r=>(Nat.blt b lo&&zd9 lo k&&(match H'.get b with | some k'=>eqB k k' | none=>false))&&TJ lo H' r
theorem Gq{lo b:Nat}{k:Blk}{H':Hp}:∀{H:Hp},TJ lo H' H=true->H.get b=some k->b < lo∧zd9 lo k=true∧H'.get b=some k
 |[],_,h=>by simp[Hp.get_nil]at h
 |(c,x)::r,hc,h=>by
  simp only[TJ,FT]at hc;by_cases hb:c=b
  ·subst hb;simp only[Hp.get_cons,ztq,zqF,PL]at h;subst h;obtain⟨⟨⟨h1,h2⟩,h3⟩,_⟩:=hc;split at h3
   ·rename_i k' hk';exact⟨by simp_all,h2,by rw[hk',zoX h3]⟩
   ·cases h3
  ·simp[Hp.get_cons,hb]at h;exact Gq hc.2 h
theorem Pv{f:Value->Bool}{j:Nat}{v:Value}:∀{cs:List Value},vT f cs=true->cs[j]?=some v->f v=true
 |[],_,h=>by simp at h
 |x::cs,hs,h=>by
  simp only[vT,FT]at hs;cases j with
  |zero=>grind
  |succ j=>simp at h;exact Pv hs.2 h
theorem zjO{φ':Ren}{lo:Nat}{Hb H':Hp}(hφ:∀b,b < lo->φ' b=φ b)(hF:pW φ' φ)(hF2:pW φ φ')(hc:TJ lo H' Hb=true)(g:zF φ' H' K w):zF φ Hb K w:=by
 refine⟨fun b k hb=>?_,fun b c k k' L L' hb hc' hne hkr h1 h2=>?_,fun b k L hb hkr h1=>?_,g.kin,fun b L hL=>g.fz b L (hF2 _ _ hL),fun b k L c M hb hkr h1 hM=>?_⟩
 ·obtain⟨h1,h2,h3⟩:=Gq hc hb;obtain⟨L,hL,hbr⟩:=g.rel b k h3;refine⟨L,by grind,?_⟩;cases k with
  |cells cs ro=>
   obtain⟨arr,el,fr,e1,e2,e3⟩:=hbr;refine⟨arr,el,fr,e1,fun j v hv=>?_,e3⟩;obtain⟨v',f1,f2⟩:=e2 j v hv;exact⟨v',f1,zbs hφ hF 16 v v' (Pv h2 hv) f2⟩
  |defd=>exact hbr
  |hid=>exact hbr
  |_=>simp[zd9]at h2
 ·obtain⟨a1,a2,a3⟩:=Gq hc hb;obtain⟨b1,b2,b3⟩:=Gq hc hc';exact g.sep b c k k' L L' a3 b3 hne hkr (by grind) (by grind)
 ·obtain⟨a1,a2,a3⟩:=Gq hc hb;exact g.prot b k L a3 hkr (by grind)
 ·obtain⟨a1,a2,a3⟩:=Gq hc hb;exact g.fsep b k L c M a3 hkr (by grind) (hF2 _ _ hM)
theorem zjP{φ':Ren}{lo:Nat}{tb tm:List Value}{ts:Array Value}(hφ:∀b,b < lo->φ' b=φ b)(hF:pW φ' φ)(hc:bn lo tb tm=true)(h:qS φ' tm ts):qS φ tb ts:=by
 refine⟨by rw[zd7 hc];exact h.1,fun i v hv=>?_⟩;rcases zd8 hc hv with h0 | ⟨h1,h2⟩
 ·exact .inl h0
 ·rcases h.2 i v h2 with h0 | ⟨v',f1,f2⟩;all_goals grind[zbs]
structure iZ where
 i1:Nat
 ops1:Array Oper
 o1:Oper
 tail1:List Oper
 it:Nat
 sN:Nat
 ok:Operand
 bx:Nat
 bb:Nat
 i2:Nat
 ops2:Array Oper
 o2:Oper
 tail2:List Oper
 sE:Nat
 rest:Code
structure iZ.Of(S:iZ)(c:Code):Prop where
 code:c=.seq (.region S.i1 S.ops1 false) (.seq (.cond S.ok .skip (.exit S.bx)) (.block S.bb (.seq (.region S.i2 S.ops2 false) S.rest)))
 l1:S.ops1.toList=S.o1::S.tail1
 l2:S.ops2.toList=S.o2::S.tail2
 op1:S.o1.op=.next (.tmp S.it) false
 op2:S.o2.op=.entry (.tmp S.it)
 d1:S.o1.dst=some S.sN
 d2:S.o2.dst=some S.sE
 g1:S.o1.guard=none
 g2:S.o2.guard=none
def MF(c:Code):Option iZ:=match c with
 |.seq (.region i1 ops1 false) (.seq (.cond ok .skip (.exit bx)) (.block bb (.seq (.region i2 ops2 false) rest)))=>match ops1.toList,ops2.toList with
  |o1::tail1,o2::tail2=>match o1.op,o2.op with
   |.next (.tmp it) false,.entry (.tmp it2)=>match o1.dst,o2.dst with
    |some sN,some sE=>if Nat.beq it it2&&o1.guard.isNone&&o2.guard.isNone then some ⟨i1,ops1,o1,tail1,it,sN,ok,bx,bb,i2,ops2,o2,tail2,sE,rest⟩else none
    |_,_=>none
   |_,_=>none
  |_,_=>none
 |_=>none
theorem zgp{c:Code}{S:iZ}(h:MF c=some S):S.Of c:=by
 unfold MF at h;split at h;case h_2=>cases h
 split at h;case h_2=>cases h
 rename_i e1 e2;split at h;case h_2=>cases h
 rename_i e3 e4;split at h;case h_2=>cases h
 rename_i e5 e6;split at h;case isFalse=>cases h
 rename_i e7;simp only[FT,Option.isNone_iff_eq_none]at e7;have:=zpK e7.1.1;subst this;cases h;exact⟨rfl,e1,e2,e3,e4,e5,e6,e7.1.2,e7.2⟩
structure Round(P:Program)(r:Option Nat)(S:iZ)(tb:List Value)(Hb:Hp)(nx top:Nat)(ib:Nat)(k v:Value):Prop where
 round:∃t1 H1 n1 t2 H2 n2 R,QS P r S.ops1 (List.range' 1 S.tail1.length) (xJ tb (some S.sN) (.tuple #[.bool true,k,v])) Hb nx t1 H1 n1∧opv t1 S.ok=some (.bool true)∧opv t1 (.tmp S.it)=some (.pointer (some ⟨ib,0,none⟩))∧
  QS P r S.ops2 (List.range' 1 S.tail2.length) (xJ t1 (some S.sE) (.tuple #[k,v])) H1 n1 t2 H2 n2∧qY P r S.rest t2 [] H2 n2 R∧(R.inBlock S.bb).e=.normal∧R.nx<=top∧bn nx tb R.tm=true∧TJ nx R.H Hb=true∧R.ds=[]
theorem zck{Hb:Hp}{K2:Nat->Prop}(g:zF φ Hb K2 w){r:Nat}(o:Obj)(hne:∀b k L,Hb.get b=some k->φ b=some L->L.blk≠r)(hnf:∀c M,φ (FZ+c)=some M->c≠r):zF φ Hb K2 (ChangeMaps.setBlock w r o):=by
 have hget:∀c,c≠r->(ChangeMaps.setBlock w r o).heap[c]?=w.heap[c]?:=fun c hc=>by show(w.heap.setIfInBounds r o)[c]?=_;grind
 refine⟨fun b k hb=>?_,g.sep,g.prot,fun c hc=>?_,fun b L hL=>(g.fz b L hL).congr (hget b (hnf b L hL)),g.fsep⟩
 ·obtain⟨L,hL,hbr⟩:=g.rel b k hb;exact⟨L,hL,hbr.congr (hget _ (hne b k L hb hL))⟩
 ·show c < (w.heap.setIfInBounds r o).size;simpa using g.kin c hc
theorem IE(n:Nat):List.range (n+1)=0::List.range' 1 n:=by rw[zsW,ztv]
theorem zlC{r:Option Nat}{c:Code}{S:iZ}(hS:S.Of c){tm tb:List Value}{H Hb:Hp}{nx top ib mb cl:Nat}{es:List (Value×Value×Nat)}(hib:H.get ib=some (.iter mb cl))(hmb:H.get mb=some (.mp es cl))(hb:∀b k,Hb.get b=some k->H.get b=some k∧b≠ib∧b≠mb)(htb:∀φ ts,qS φ tm ts->qS φ tb ts)(hit:opv tb (.tmp S.it)=some (.pointer (some ⟨ib,0,none⟩)))(hle:nx<=top)(hround:∀k v b,(k,v,b)∈es->Round P r S tb Hb nx top ib k v){tF:List Value}{HF:Hp}{nF:Nat}(hF:QS P r S.ops1 (List.range' 1 S.tail1.length) (xJ tb (some S.sN) (.tuple #[.bool false])) Hb nx tF HF nF)(hnF:nF<=top)(hok:opv tF S.ok=some (.bool false)) : WU P r c tm [] H nx ⟨.exit S.bx,tF,[],HF,top⟩:=by
 refine⟨hle,es.length+1,fun φ w K a rc g hf ht hd hr=>?_⟩;have hne:ib≠mb:=by rintro rfl;rw[hib]at hmb;cases hmb
 obtain⟨LI,hLI,hbI⟩:=g.rel ib _ hib;obtain⟨LM,hLM,hbM⟩:=g.rel mb _ hmb;obtain⟨M,hM,hoff,hiter⟩:=hbI;rw[hLM]at hM;cases hM;obtain⟨xs,hmap,hmr,hborn⟩:=hbM;obtain⟨⟨ys,hperm,herel⟩,_,_⟩:=hmr;have hlen:xs.size=es.length:=by
  have h1:∀{es:List (Value×Value×Nat)} {ys:List MapEntry},vS φ es ys->es.length=ys.length:=by
   intro es;induction es with
   |nil=>intro ys h;cases ys with
    |nil=>rfl
    |cons y ys=>exact h.elim
   |cons e es ih=>intro ys h;obtain⟨k,v,b⟩:=e;cases ys with
    |nil=>exact h.elim
    |cons y ys=>simp[ih h.2.2]
  rw[h1 herel,hperm.length_eq];simp
 have hent:∀e∈xs.toList,∃k v b,(k,v,b)∈es∧e.key=k∧zp φ v e.val:=by
  intro e he;have he2:e∈ys:=hperm.mem_iff.2 he;have h1:∀{es:List (Value×Value×Nat)} {ys:List MapEntry},vS φ es ys->∀e∈ys,∃k v b,(k,v,b)∈es∧e.key=k∧zp φ v e.val:=by
   intro es;induction es with
   |nil=>intro ys h e he;cases ys with
    |nil=>cases he
    |cons y ys=>exact h.elim
   |cons x es ih=>intro ys h e he;obtain⟨k,v,b⟩:=x;cases ys with
    |nil=>exact h.elim
    |cons y ys=>
     rcases zqA.1 he with rfl | he
     ·exact⟨k,v,b,List.mem_cons_self,h.1,h.2.1⟩
     ·obtain⟨k',v',b',h1,h2,h3⟩:=ih h.2.2 e he;exact⟨k',v',b',zqP _ h1,h2,h3⟩
  exact h1 herel e he2
 have hkey:∀k v b,(k,v,b)∈es->∀φ',φ.le φ'->zp φ' k k:=by
  intro k v b hk φ' _;have h1:∀{es:List (Value×Value×Nat)} {ys:List MapEntry},vS φ es ys->(k,v,b)∈es->∃e∈ys,e.key=k:=by
   intro es;induction es with
   |nil=>intro ys h hk;cases hk
   |cons x es ih=>intro ys h hk;obtain⟨k0,v0,b0⟩:=x;cases ys with
    |nil=>exact h.elim
    |cons y ys=>
     rcases zqA.1 hk with hk | hk
     ·cases hk;exact⟨y,List.mem_cons_self,h.1⟩
     ·obtain⟨e,he,hk⟩:=ih h.2.2 hk;exact⟨e,zqP _ he,hk⟩
  obtain⟨e,he,rfl⟩:=h1 herel hk;obtain⟨kk,hkk⟩:=‹∃k,Yy k xs.toList›;obtain⟨n,hn⟩:=hkk e (hperm.mem_iff.1 he);rw[hn];exact .int _ _
 let K2:Nat->Prop:=fun c=>K c∨c=LI.blk∨c=LM.blk;have hsepI:∀b k L,Hb.get b=some k->φ b=some L->L.blk≠LI.blk:=by intro b k L hb1 hL e;obtain⟨h1,h2,h3⟩:=hb b k hb1;exact g.sep ib b _ k LI L hib h1 (fun e=>h2 e.symm) rfl hLI hL e.symm
 have hsepM:∀b k L,Hb.get b=some k->φ b=some L->L.blk≠LM.blk:=by intro b k L hb1 hL e;obtain⟨h1,h2,h3⟩:=hb b k hb1;exact g.sep mb b _ k LM L hmb h1 (fun e=>h3 e.symm) rfl hLM hL e.symm
 have hIM:LI.blk≠LM.blk:=g.sep ib mb _ _ LI LM hib hmb hne rfl hLI hLM;have hIK:¬K LI.blk:=g.prot ib _ LI hib rfl hLI;have g2:zF φ Hb K2 w:=by
  refine⟨fun b k h1=>g.rel b k (hb b k h1).1,fun b c k k' L L' h1 h2=>g.sep b c k k' L L' (hb b k h1).1 (hb c k' h2).1,fun b k L h1 hk hL hK=>?_,fun c hc=>?_,g.fz,fun b k L c M h1=>g.fsep b k L c M (hb b k h1).1⟩
  ·rcases hK with hK | hK | hK
   ·exact g.prot b k L (hb b k h1).1 hk hL hK
   ·exact hsepI b k L h1 hL hK
   ·exact hsepM b k L h1 hL hK
  ·rcases hc with hK | rfl | rfl
   ·exact g.kin c hK
   ·exact(zqM.1 hiter).1
   ·exact(zqM.1 hmap).1
 have hhold:∀x∈xs.toList,x.born < cl:=hborn.1;have hnf0:∀c M,φ (FZ+c)=some M->c≠LI.blk:=fun c M hM e=>g.fsep ib _ LI c M hib rfl hLI hM e.symm;have hnf:∀φ',Ext K2 φ φ' nx nx->∀c M,φ' (FZ+c)=some M->c≠LI.blk:=fun φ' he c M hM=>(he.2.2 c M hM).elim (hnf0 c M) fun h e=>h (.inr (.inl e));have hsepI':∀φ',φ.le φ'->∀b k L,Hb.get b=some k->φ' b=some L->L.blk≠LI.blk:=by intro φ' hle b k L h1 hL;obtain⟨L0,hL0,_⟩:=g.rel b k (hb b k h1).1;have:=hle _ _ hL0;rw[hL]at this;cases this;exact hsepI b k L h1 hL0
 have hfrs:∀φ',Ext K2 φ φ' nx nx->wV φ' nx top:=fun φ' he=>⟨hf.1,fun b h1 h2=>by
  rw[he.2.1 b (zqC h2 hf.1) (.inr h1)];exact hf.2 b h1 h2⟩
 have hLI0:∀φ' ts,φ.le φ'->qS φ' tb ts->True:=fun _ _ _ _=>trivial;have hptr:∀φ' (t:List Value) (a:Act),φ.le φ'->qS φ' t a.tmps->opv t (.tmp S.it)=some (.pointer (some ⟨ib,0,none⟩))->a.eval (.tmp S.it)=.pointer (some ⟨LI.blk,0,none⟩):=by
  intro φ' t a hle ht ho;have hv:=qx ht ho;generalize a.eval (.tmp S.it)=u at hv;cases hv with
  |ptr _ _ L hL=>
   have:=hle _ _ hLI;rw[hL]at this;cases this;rw[hoff]
 have hbool:∀φ' (t:List Value) (a:Act) (x:Operand) (b:Bool),qS φ' t a.tmps->opv t x=some (.bool b)->a.eval x=.bool b:=by intro φ' t a x b ht ho;have hv:=qx ht ho;generalize a.eval x=u at hv;cases hv;rfl
 obtain⟨hcode,l1,l2,op1,op2,d1,d2,q1,q2⟩:=hS;have hz1:S.ops1.size=S.tail1.length+1:=by rw[<-zrv,l1];rfl
 have hz2:S.ops2.size=S.tail2.length+1:=by rw[<-zrv,l2];rfl
 have h01:S.ops1[0]?=some S.o1:=by rw[<-zrN,l1];rfl
 have h02:S.ops2[0]?=some S.o2:=by rw[<-zrN,l2];rfl
 have step:∀(j:Nat),(∀(φ':Ren) (a:Act) (w':World) (seen:Array Nat),(leftOf xs seen).size < j->Ext K2 φ φ' nx nx->zF φ' Hb K2 w'->w'.heap[LI.blk]?=some (.mapIter (some LM.blk) cl seen cl)->w'.heap[LM.blk]?=some (.map xs cl)->
   qS φ' tb a.tmps->a.defers=[]->qJ K w w'->Code.roundsIn (fw rc) 0 P c (uK φ K w nx ⟨.exit S.bx,tF,[],HF,top⟩) j a w')->
   ∀(φ':Ren) (a:Act) (w':World) (seen:Array Nat),(leftOf xs seen).size<=j->Ext K2 φ φ' nx nx->zF φ' Hb K2 w'->w'.heap[LI.blk]?=some (.mapIter (some LM.blk) cl seen cl)->w'.heap[LM.blk]?=some (.map xs cl)->
   qS φ' tb a.tmps->a.defers=[]->qJ K w w'->Code.roundsIn (fw rc) 0 P c (uK φ K w nx ⟨.exit S.bx,tF,[],HF,top⟩) (j+1) a w':=by
  intro j IH φp a w' seen hj hep g' hI hMp ht' hd' hw'
  rw[zsf]
  rw[show c.wpIn (fw rc) 0 P (Exit.then (Code.roundsIn (fw rc) 0 P c (uK φ K w nx ⟨.exit S.bx,tF,[],HF,top⟩) j) (uK φ K w nx ⟨.exit S.bx,tF,[],HF,top⟩)) a w'=(Code.seq (.region S.i1 S.ops1 false) (.seq (.cond S.ok .skip (.exit S.bx)) (.block S.bb (.seq (.region S.i2 S.ops2 false) S.rest)))).wpIn (fw rc) 0 P (Exit.then (Code.roundsIn (fw rc) 0 P c (uK φ K w nx ⟨.exit S.bx,tF,[],HF,top⟩) j) (uK φ K w nx ⟨.exit S.bx,tF,[],HF,top⟩)) a w' by rw[<-hcode]]
  refine wpIn_seq (wpIn_region ?_)
  rw[hz1,IE]
  simp only[wpOpsIn,h01]
  rw[zqI (Ks (b:=true) ht' (by unfold yD;rw[q1]))]
  refine⟨WV,?_⟩
  rw[zsE _ _ _ (fun c hc=>by rw[op1]at hc;cases hc)]
  have hev:=hptr φp tb a hep.1 ht' hit
  have hr':Wh φp r rc:=hr.mono hep.1
  have hx:∀v w2,(Instr.next (.pointer (some ⟨LI.blk,0,none⟩)) false S.o1.type).run P w'=.ok v w2->(execOp a.eval S.o1).run P w'=.ok (.value v) w2:=fun v w2 h=>by unfold execOp;simp only[op1,hev,zqG,h,Result.andThen,zqN]
  have hK:∀{φ':Ren} {H':Hp} {w':World},zF φ' H' K2 w'->zF φ' H' K w':=fun g=>⟨g.rel,g.sep,fun b k L h1 h2 h3 h4=>g.prot b k L h1 h2 h3 (.inl h4),fun c hc=>g.kin c (.inl hc),g.fz,g.fsep⟩
  have hW:∀{w1 w2:World},qJ K2 w1 w2->qJ K w1 w2:=fun h=>⟨h.os,h.tape,h.output,h.size,fun c hc=>h.kept c (.inl hc)⟩
  rcases run_next_at (P:=P) w' S.o1.type LI.blk LM.blk cl cl seen xs cl hI hMp hhold (FW _)with⟨_,hrun⟩ | ⟨e,he,w1,hw1,hrun⟩
  ·rw[hx _ _ hrun]
   refine hF.2 φp w' K2 (a.put S.o1.dst (.tuple #[.bool false])) rc _ g' ((hfrs φp hep).left hnF) (by rw[d1];exact VA ht' _ (.tuple' ⟨.bool _,trivial⟩)) hr' fun φ1 a1 w2 x1 x2 x3 x4 x5=>?_
   refine wpIn_seq (wpIn_cond (hbool _ _ _ _ _ x3 hok) (wpIn_exit ?_))
   refine⟨rfl,φ1,((hep.trans x1 (FW _) hF.1).wide (FW _) hnF).weak fun c hc=>.inl hc,hK x2,x3,?_,hw'.trans (hW x5)⟩
   rw[x4,QR,hd'];trivial
  ·rw[hx _ _ hrun]
   obtain⟨hemem,hnseen⟩:=mem_left he
   obtain⟨k,v,b,hkv,hek,hvr⟩:=hent e hemem
   obtain⟨t1,H1,n1,t2,H2,n2,R,r1,r2,r3,r4,r5,r6,r7,r8,r9,r10⟩:=(hround k v b hkv).round
   have hkr:∀φ',φ.le φ'->zp φ' k e.key:=fun φ' h=>by rw[hek];exact hkey k v b hkv φ' h
   have gw1:zF φp Hb K2 w1:=by rcases hw1 with rfl | rfl<;>first | exact g' | exact g'.drew
   have hw1w:qJ K w' w1:=by rcases hw1 with rfl | rfl<;>first | exact qJ.refl _ _ | exact qJ.drew _ _
   have hh1:w1.heap=w'.heap:=by rcases hw1 with rfl | rfl<;>rfl
   have hIlt:LI.blk < w1.heap.size:=by rw[hh1];exact(zqM.1 hI).1
   have g2':=zck gw1 (.mapIter (some LM.blk) cl (seen.push e.born) cl) (hsepI' φp hep.1) (hnf φp hep)
   have hw2:qJ K w1 (ChangeMaps.setBlock w1 LI.blk (.mapIter (some LM.blk) cl (seen.push e.born) cl)):=by
    refine⟨rfl,rfl,rfl,?_,fun c hc=>?_⟩
    ·show _<=(w1.heap.setIfInBounds _ _).size;simp
    ·show(w1.heap.setIfInBounds _ _)[c]?=_;rw[zrA,zqu (fun(h:LI.blk=c)=>hIK (by rw[h];exact hc))]
   have hI2:(ChangeMaps.setBlock w1 LI.blk (.mapIter (some LM.blk) cl (seen.push e.born) cl)).heap[LI.blk]?=some (.mapIter (some LM.blk) cl (seen.push e.born) cl):=by show(w1.heap.setIfInBounds _ _)[LI.blk]?=_;rw[zrA];simp[hIlt]
   have hM2:(ChangeMaps.setBlock w1 LI.blk (.mapIter (some LM.blk) cl (seen.push e.born) cl)).heap[LM.blk]?=some (.map xs cl):=by show(w1.heap.setIfInBounds _ _)[LM.blk]?=_;rw[zrA,zqu hIM,hh1];exact hMp
   generalize ChangeMaps.setBlock w1 LI.blk (.mapIter (some LM.blk) cl (seen.push e.born) cl)=w2 at g2' hw2 hI2 hM2
   have n12:n1<=n2:=r4.1
   have n2R:n2<=R.nx:=r5.1
   have hfr1:wV φp nx n1:=(hfrs φp hep).left (by show n1<=top;omega)
   refine r1.2 φp w2 K2 (a.put S.o1.dst (.tuple #[.bool true,e.key,e.val])) rc _ g2' hfr1 (by rw[d1];exact VA ht' _ (.tuple' ⟨.bool _,hkr φp hep.1,hvr.mono hep.1,trivial⟩)) hr' fun φ1 a1 w3 x1 x2 x3 x4 x5=>?_
   refine wpIn_seq (wpIn_cond (hbool _ _ _ _ _ x3 r2) (wpIn_skip ?_))
   refine wpIn_block (wpIn_seq (wpIn_region ?_))
   rw[hz2,IE]
   simp only[wpOpsIn,h02]
   rw[zqI (Ks (b:=true) x3 (by unfold yD;rw[q2]))]
   refine⟨WV,?_⟩
   rw[zsE _ _ _ (fun c hc=>by rw[op2]at hc;cases hc)]
   have hle1:φ.le φ1:=Ren.le_trans hep.1 x1.1
   have hev2:=hptr φ1 t1 a1 hle1 x3 r3
   have hI3:w3.heap[LI.blk]?=some (.mapIter (some LM.blk) cl (seen.push e.born) cl):=by rw[x5.kept _ (.inr (.inl rfl))];exact hI2
   have hM3:w3.heap[LM.blk]?=some (.map xs cl):=by rw[x5.kept _ (.inr (.inr rfl))];exact hM2
   have hrun2:=run_entry_at (P:=P) w3 LI.blk LM.blk cl seen xs cl e hI3 hM3 hemem hborn.2
   have hx2:(execOp a1.eval S.o2).run P w3=.ok (.value (.tuple #[e.key,e.val])) w3:=by unfold execOp;simp only[op2,hev2,zqG,hrun2,Result.andThen,zqN]
   rw[hx2]
   refine r4.2 φ1 w3 K2 (a1.put S.o2.dst (.tuple #[e.key,e.val])) rc _ x2 (((hfrs φp hep).left (show n2<=top by omega)).right x1 r1.1) (by rw[d2];exact VA x3 _ (.tuple' ⟨hkr φ1 hle1,hvr.mono hle1,trivial⟩)) (hr.mono hle1) fun φ2 a2 w4 y1 y2 y3 y4 y5=>?_
   have hd2:a2.defers=[]:=by rw[y4,QR,x4,QR,hd']
   have e12:Ext K2 φp φ2 nx n2:=x1.trans y1 r1.1 n12
   refine zqX (r5.2 φ2 w4 K2 a2 rc y2 (((hfrs φp hep).left (show R.nx<=top from r7)).right e12 (zqw r1.1 n12)) y3 (by rw[hd2];trivial) ((hr.mono hle1).mono y1.1)) ?_
   rintro ex a3 w5 ⟨rfl,φ3,z1,z2,z3,z4,z5⟩
   have e13:Ext K2 φp φ3 nx R.nx:=e12.trans z1 (zqw r1.1 n12) n2R
   let φm:Ren:=fun b=>if FZ<=b then φ3 b else φp b
   have hmF:∀b,φm (FZ+b)=φ3 (FZ+b):=fun b=>by
    have:FZ<=FZ+b:=by omega
    simp only[φm,this,zqF]
   have hmL:∀b,b < FZ->φm b=φp b:=fun b hb=>by
    have:¬FZ<=b:=by omega
    simp only[φm,this,zqZ]
   have hem:Ext K2 φp φm nx nx:=by
    refine⟨fun b L hL=>?_,fun b hz _=>hmL b hz,fun b L hL=>e13.2.2 b L (by rw[<-hmF];exact hL)⟩;by_cases hb:b < FZ
    ·rw[hmL b hb];exact hL
    ·have:φm b=φ3 b:=by
      have:FZ<=b:=by omega
      simp only[φm,this,zqF]
     rw[this];exact e13.1 _ _ hL
   have hnz:nx<=FZ:=zqw hle hf.1
   have hφ:∀b,b < nx->φ3 b=φm b:=fun b hb=>by rw[hmL b (by omega)];exact e13.2.1 b (by omega) (.inl hb)
   have hF1:pW φ3 φm:=fun b L hL=>by rw[hmF];exact hL
   have hF2:pW φm φ3:=fun b L hL=>by rw[<-hmF];exact hL
   have fin:Code.roundsIn (fw rc) 0 P c (uK φ K w nx ⟨.exit S.bx,tF,[],HF,top⟩) j a3 w5:=by
    refine IH φm a3 w5 (seen.push e.born) (zqC (left_shrinks xs seen e he) hj) (hep.comp hem) (zjO hφ hF1 hF2 r9 z2) ?_ ?_ (zjP hφ hF1 r8 z3) ?_ ?_
    ·rw[z5.kept _ (.inr (.inl rfl)),y5.kept _ (.inr (.inl rfl))];exact hI3
    ·rw[z5.kept _ (.inr (.inr rfl)),y5.kept _ (.inr (.inr rfl))];exact hM3
    ·rw[r10]at z4;revert z4;cases a3.defers<;>simp[vj]
    ·exact((hw'.trans hw1w).trans hw2).trans (((hW x5).trans (hW y5)).trans (hW z5))
   revert r6
   unfold Res.inBlock
   unfold Exit.inBlock
   cases hE:R.e with
   |exit i=>
    dsimp only;split
    ·intro _;exact fin
    ·intro h;rw[hE]at h;cases h
   |normal=>intro _;exact fin
   |_=>intro h;dsimp only at h;rw[hE]at h;cases h
 have main:∀(j:Nat) (φ':Ren) (a:Act) (w':World) (seen:Array Nat),(leftOf xs seen).size<=j->Ext K2 φ φ' nx nx->zF φ' Hb K2 w'->w'.heap[LI.blk]?=some (.mapIter (some LM.blk) cl seen cl)->w'.heap[LM.blk]?=some (.map xs cl)->
   qS φ' tb a.tmps->a.defers=[]->qJ K w w'->Code.roundsIn (fw rc) 0 P c (uK φ K w nx ⟨.exit S.bx,tF,[],HF,top⟩) (j+1) a w':=by
  intro j
  induction j with
  |zero=>exact step 0 (fun _ _ _ _ h=>absurd h (Nat.not_lt_zero _))
  |succ j ih=>exact step (j+1) (fun φ' a w' seen h=>ih φ' a w' seen (Nat.lt_succ_iff.1 h))
 grind[Ext.refl,qJ.refl,leftOf,Array.size_filter_le,vj]
def Pw(H0:Hp):Hp->Bool
 |[]=>true
 |(b,k)::r=>(k.rw||(H0.get b).isSome)&&Pw H0 r
theorem zbt{H0:Hp}{b:Nat}{k:Blk}:∀{H:Hp},Pw H0 H=true->H.get b=some k->k.rw=false->∃k0,H0.get b=some k0
 |[],_,h,_=>by simp[Hp.get_nil]at h
 |(c,x)::r,hr,h,hk=>by
  simp only[Pw,FT,zrm]at hr;by_cases hc:c=b
  ·grind[Hp.get_cons,Option.isSome_iff_exists]
  ·simp[Hp.get_cons,hc]at h;exact zbt hr.2 h hk
theorem sL{F:Fence}{n:Nat}{c:Code}{Q Q':Exit->Act->World->Prop}(hq:∀e a w,Q e a w->Q' e a w):∀(m:Nat) (a:Act) (w:World),Code.roundsIn F n P c Q m a w->Code.roundsIn F n P c Q' m a w
 |0,_,_,h=>h
 |m+1,a,w,h=>by rw[zsf]at h ⊢;refine zqX h fun e a w hx=>?_;cases e<;>first | exact sL hq m _ _ hx | exact hq _ _ _ hx
theorem zea{r:Option Nat}{c:Code}{tm:List Value}{ds:List Nat}{H1 F:Hp}{nx:Nat}{R:Res}(h:WU P r c tm ds H1 nx R)(hro:Pw H1 R.H=true)(hF:∀b k,F.get b=some k->H1.get b=none)(hG:∀b k,H1.get b=some k->H.get b=some k)(hG2:∀b k,F.get b=some k->H.get b=some k):WU P r c tm ds H nx {R with H:=R.H++F}:=by
 obtain⟨hle,m,h2⟩:=h;refine⟨hle,m,fun φ w K a rc g hf ht hd hr=>?_⟩;let K2:Nat->Prop:=fun c=>K c∨∃b k L,F.get b=some k∧φ b=some L∧L.blk=c;have g1:zF φ H1 K2 w:=by
  refine⟨fun b k hb=>g.rel b k (hG b k hb),fun b c k k' L L' hb hc=>g.sep b c k k' L L' (hG b k hb) (hG c k' hc),fun b k L hb hkr hL hK=>?_,fun c hc=>?_,g.fz,fun b k L c M hb=>g.fsep b k L c M (hG b k hb)⟩
  ·rcases hK with hK | ⟨d,k',L',hd',hL',he⟩
   ·exact g.prot b k L (hG b k hb) hkr hL hK
   ·have hne:b≠d:=by grind
    exact g.sep b d k k' L L' (hG b k hb) (hG2 d k' hd') hne hkr hL hL' he.symm
  ·rcases hc with hK | ⟨b,k,L,hb,hL,he⟩
   ·exact g.kin c hK
   ·have:=(g.at (hG2 b k hb) hL).lt;omega
 refine sL ?_ m a w (h2 φ w K2 a rc g1 hf ht hd hr);rintro e a1 w1 ⟨rfl,φ',k1,k2,k3,k4,k5⟩;refine⟨rfl,φ',k1.weak fun c hc=>.inl hc,?_,k3,k4,⟨k5.os,k5.tape,k5.output,k5.size,fun c hc=>k5.kept c (.inl hc)⟩⟩;have hget:∀b k,Hp.get (R.H++F) b=some k->R.H.get b=some k∨(R.H.get b=none∧F.get b=some k):=by grind[Hp.get_append]
 have hFL:∀b k L,F.get b=some k->φ' b=some L->φ b=some L:=by intro b k L hb hL;obtain⟨M,hM,_⟩:=g.rel b k (hG2 b k hb);have:=k1.1 _ _ hM;grind
 refine⟨fun b k hb=>?_,fun b c k k' L L' hb hc hne hkr hL hL'=>?_,fun b k L hb hkr hL hK=>?_,fun c hc=>zqC (g.kin c hc) k5.size,k2.fz,fun b k L c M hb hkr hL hM=>?_⟩
 ·rcases hget b k hb with hb | ⟨_,hb⟩
  ·exact k2.rel b k hb
  ·obtain⟨L,hL,hbr⟩:=g.rel b k (hG2 b k hb);exact⟨L,k1.1 _ _ hL,(hbr.congr (k5.kept L.blk (.inr ⟨b,k,L,hb,hL,rfl⟩))).mono k1.1⟩
 ·rcases hget b k hb with hb | ⟨_,hb⟩
  ·rcases hget c k' hc with hc | ⟨_,hc⟩
   ·exact k2.sep b c k k' L L' hb hc hne hkr hL hL'
   ·exact fun e=>k2.prot b k L hb hkr hL (.inr ⟨c,k',L',hc,hFL c k' L' hc hL',e.symm⟩)
  ·have hLb:=hFL b k L hb hL;rcases hget c k' hc with hc | ⟨_,hc⟩
   ·cases hkc:k'.rw with
    |true=>exact fun e=>k2.prot c k' L' hc hkc hL' (.inr ⟨b,k,L,hb,hLb,e⟩)
    |false=>
     obtain⟨k0,h0⟩:=zbt hro hc hkc;obtain⟨M,hM,_⟩:=g.rel c k0 (hG c k0 h0);have:=k1.1 _ _ hM;rw[hL']at this;cases this;exact g.sep b c k k0 L L' (hG2 b k hb) (hG c k0 h0) hne hkr hLb hM
   ·exact g.sep b c k k' L L' (hG2 b k hb) (hG2 c k' hc) hne hkr hLb (hFL c k' L' hc hL')
 ·rcases hget b k hb with hb | ⟨_,hb⟩
  ·exact k2.prot b k L hb hkr hL ∘ .inl <| hK
  ·exact g.prot b k L (hG2 b k hb) hkr (hFL b k L hb hL) hK
 ·rcases hget b k hb with hb | ⟨_,hb⟩
  ·exact k2.fsep b k L c M hb hkr hL hM
  ·have hLb:=hFL b k L hb hL;rcases k1.2.2 c M hM with h | h
   ·exact g.fsep b k L c M (hG2 b k hb) hkr hLb h
   grind
def zns:Exit->Bool
 |.normal=>true
 |_=>false
def aL(lst:Array Oper->List Oper->List Value->Hp->Nat->Option (List Value×Hp×Nat))(code:Code->List Value->List Nat->Hp->Nat->Option Res)(S:iZ)(tb:List Value)(Hb:Hp)(nx ib:Nat):List (Value×Value×Nat)->Option Nat
 |[]=>some nx
 |(k,v,_)::es=>match aL lst code S tb Hb nx ib es with
  |some top=>match lst S.ops1 S.tail1 (xJ tb (some S.sN) (.tuple #[.bool true,k,v])) Hb nx with
   |some (t1,H1,n1)=>match opv t1 S.ok,opv t1 (.tmp S.it)with
    |some (.bool true),some (.pointer (some ⟨ib2,0,none⟩))=>match lst S.ops2 S.tail2 (xJ t1 (some S.sE) (.tuple #[k,v])) H1 n1 with
     |some (t2,H2,n2)=>match code S.rest t2 [] H2 n2 with
      |some R=>if Nat.beq ib ib2&&zns (R.inBlock S.bb).e&&bn nx tb R.tm&&TJ nx R.H Hb&&R.ds.isEmpty then some (max top R.nx)else none
      |none=>none
     |none=>none
    |_,_=>none
   |none=>none
  |none=>none
def isC(H:Hp)(b:Nat):Bool:=match H.get b with
 |some (.cells _ _)=>true
 |_=>false
def hpC(H:Hp):Hp:=Hp.only (isC H) H
def hpO(ib mb:Nat)(H:Hp):Hp:=Hp.only (fun c=>!(isC H c||Nat.beq c ib||Nat.beq c mb)) H
def TK(lst:Array Oper->List Oper->List Value->Hp->Nat->Option (List Value×Hp×Nat))(code:Code->List Value->List Nat->Hp->Nat->Option Res)(c:Code)(tm:List Value)(ds:List Nat)(H:Hp)(nx:Nat):Option Res:=
 match MF c with
 |some S=>match ds,opv (jT (Gp c) 0 tm) (.tmp S.it)with
  |[],some (.pointer (some ⟨ib,0,none⟩))=>match H.get ib with
   |some (.iter mb cl)=>match H.get mb with
    |some (.mp es cl2)=>match aL lst code S (jT (Gp c) 0 tm) (hpC H) nx ib es with
     |some top=>match lst S.ops1 S.tail1 (xJ (jT (Gp c) 0 tm) (some S.sN) (.tuple #[.bool false])) (hpC H) nx with
      |some (tF,HF,nF)=>match opv tF S.ok with
       |some (.bool false)=>if Nat.beq cl cl2&&Pw (Hp.only (fun c=>isC H c||Nat.beq c ib||Nat.beq c mb) H) HF then some ⟨.exit S.bx,tF,[],HF++hpO ib mb H,max top nF⟩else none
       |_=>none
      |none=>none
     |none=>none
    |_=>none
   |_=>none
  |_,_=>none
 |none=>none
theorem CH{lst:Array Oper->List Oper->List Value->Hp->Nat->Option (List Value×Hp×Nat)}{code:Code->List Value->List Nat->Hp->Nat->Option Res}{r:Option Nat}(hl:∀{ops:Array Oper} {l:List Oper} {k:Nat} {tm:List Value} {H:Hp} {nx:Nat} {tm':List Value} {H':Hp} {nx':Nat},(∀j:Nat,l[j]?=ops[k+j]?)->lst ops l tm H nx=some (tm',H',nx')->QS P r ops (List.range' k l.length) tm H nx tm' H' nx')(hc:∀{c:Code} {tm:List Value} {ds:List Nat} {H:Hp} {nx:Nat} {R:Res},code c tm ds H nx=some R->qY P r c tm ds H nx R){c:Code}{S:iZ}(hS:S.Of c){tb:List Value}{Hb:Hp}{nx ib:Nat}:∀{es:List (Value×Value×Nat)} {top:Nat},aL lst code S tb Hb nx ib es=some top->nx<=top∧∀top',top<=top'->∀k v b,(k,v,b)∈es->Round P r S tb Hb nx top' ib k v
 |[],top,h=>by grind[aL,Option.some.injEq]
 |(k,v,b)::es,top,h=>by
  have s1:∀j:Nat,S.tail1[j]?=S.ops1[1+j]?:=fun j=>by rw[<-zrN,hS.l1,zsI];rfl
  have s2:∀j:Nat,S.tail2[j]?=S.ops2[1+j]?:=fun j=>by rw[<-zrN,hS.l2,zsI];rfl
  simp only[aL]at h;split at h;case h_2=>cases h
  rename_i top0 h0;obtain⟨i1,i2⟩:=CH hl hc hS h0;split at h;case h_2=>cases h
  rename_i t1 H1 n1 h1;split at h;case h_2=>cases h
  rename_i ib2 o1 o2;split at h;case h_2=>cases h
  rename_i t2 H2 n2 h2;split at h;case h_2=>cases h
  rename_i R h3;split at h;case isFalse=>cases h
  rename_i h4;simp only[FT,List.isEmpty_iff]at h4;cases h;obtain⟨⟨⟨⟨q1,q2⟩,q3⟩,q4⟩,q5⟩:=h4;have:=zpK q1;subst this;refine⟨zqw i1 (ztA _ _),fun top' ht k' v' b' hm=>?_⟩;rcases zqA.1 hm with hm | hm
  ·cases hm;refine⟨t1,H1,n1,t2,H2,n2,R,hl s1 h1,o1,o2,hl s2 h2,hc h3,?_,zqw (Nat.le_max_right _ _) ht,q3,q4,q5⟩;cases hE:(R.inBlock S.bb).e<;>simp[hE,zns]at q2 ⊢
  grind
theorem zhZ{lst:Array Oper->List Oper->List Value->Hp->Nat->Option (List Value×Hp×Nat)}{code:Code->List Value->List Nat->Hp->Nat->Option Res}{r:Option Nat}(hl:∀{ops:Array Oper} {l:List Oper} {k:Nat} {tm:List Value} {H:Hp} {nx:Nat} {tm':List Value} {H':Hp} {nx':Nat},(∀j:Nat,l[j]?=ops[k+j]?)->lst ops l tm H nx=some (tm',H',nx')->QS P r ops (List.range' k l.length) tm H nx tm' H' nx')(hc:∀{c:Code} {tm:List Value} {ds:List Nat} {H:Hp} {nx:Nat} {R:Res},code c tm ds H nx=some R->qY P r c tm ds H nx R){c:Code}{tm:List Value}{ds:List Nat}{nx:Nat}{R:Res}(h:TK lst code c tm ds H nx=some R):WU P r c tm ds H nx R:=by
 unfold TK at h;split at h;case h_2=>cases h
 rename_i S hS;have hS:=zgp hS;split at h;case h_2=>cases h
 rename_i ib hit;split at h;case h_2=>cases h
 rename_i mb cl hib;split at h;case h_2=>cases h
 rename_i es cl2 hmb;split at h;case h_2=>cases h
 rename_i top h0;split at h;case h_2=>cases h
 rename_i tF HF nF h1;split at h;case h_2=>cases h
 rename_i h2;split at h;case isFalse=>cases h
 rename_i h3;simp only[FT]at h3;obtain⟨h3,h4⟩:=h3;have:=zpK h3;subst this;cases h;have s1:∀j:Nat,S.tail1[j]?=S.ops1[1+j]?:=fun j=>by rw[<-zrN,hS.l1,zsI];rfl
 obtain⟨i1,i2⟩:=CH hl hc hS h0;have hnI:isC H ib=false:=by simp only[isC,hib]
 have hnM:isC H mb=false:=by simp only[isC,hmb]
 have hloop:WU P r c tm [] (Hp.only (fun c=>isC H c||Nat.beq c ib||Nat.beq c mb) H) nx ⟨.exit S.bx,tF,[],HF,max top nF⟩:=by
  refine zlC hS (ib:=ib) (mb:=mb) (cl:=cl) (es:=es) ?_ ?_ (Hb:=hpC H) (tb:=jT (Gp c) 0 tm) (fun b k hb=>?_) (fun φ ts h=>zoW h) hit (zqw i1 (ztA _ _)) (i2 _ (ztA _ _)) (hl s1 h1) (Nat.le_max_right _ _) h2
  ·rw[Hp.get_only];simp[hib]
  ·rw[Hp.get_only];simp[hmb]
  ·unfold hpC at hb;rw[Hp.get_only]at hb;cases hx:isC H b with
   |false=>rw[hx]at hb;simp at hb
   |true=>
    rw[hx]at hb;refine⟨by rw[Hp.get_only];simp only[hx,Bool.true_or,zqF];simpa using hb,?_,?_⟩
    ·rintro rfl;rw[hnI]at hx;cases hx
    ·rintro rfl;rw[hnM]at hx;cases hx
 refine zea hloop h4 (fun b k hb=>?_) (fun b k hb=>?_) (fun b k hb=>?_);all_goals grind[hpO,Hp.get_only,Bool.not_eq_true']
def Px(s:Nat)(cs:List Value):Value:=bif Nat.beq s 1 then(match cs with | v::_=>v | []=>junk)else .agg (cs.take s).toArray
def zeb(s:Nat)(cs:List Value):Bool:=bif Nat.beq s 1 then(match cs with | v::_=>v.oneCell' | []=>false)else Nat.ble s cs.length
theorem znV{s:Nat}{cs:List Value}(h:zeb s cs=true):s<=cs.length∧(Px s cs).cells.size=s∧∀(k:Nat) u,(Px s cs).cells[k]?=some u->cs[k]?=some u:=by unfold zeb at h;unfold Px;grind[Nat.beq,Nat.eq_of_beq_eq_true,aH,Nat.le_of_ble_eq_true,Value.cells]
def Ky(s:Nat):Nat->List Value->List Value
 |0,_=>[]
 |n+1,cs=>Px s cs::Ky s n (cs.drop s)
def Gr(s:Nat):Nat->List Value->Bool
 |0,_=>true
 |n+1,cs=>zeb s cs&&Gr s n (cs.drop s)
theorem zbu(s:Nat):∀(n:Nat) (cs:List Value),(Ky s n cs).length=n
 |0,_=>rfl
 |n+1,cs=>by simp[Ky,zbu s n]
theorem zbv(s:Nat):∀(n:Nat) (cs:List Value),Gr s n cs=true->n*s<=cs.length∧∀(j:Nat) e,(Ky s n cs)[j]?=some e->e.cells.size=s∧∀(k:Nat) u,e.cells[k]?=some u->cs[j*s+k]?=some u
 |0,cs,_=>⟨by simp,fun j e h=>by simp[Ky]at h⟩
 |n+1,cs,h=>by simp only[Gr,FT]at h;obtain⟨h1,h2⟩:=h;obtain⟨i1,i2⟩:=zbv s n (cs.drop s) h2;obtain⟨k1,k2,k3⟩:=znV h1;refine⟨by rw[zrE];simp only[zsT]at i1;omega,fun j e hj=>?_⟩;cases j<;>grind[Ky,List.getElem?_cons_zero,Option.some.injEq,List.getElem?_cons_succ,Nat.add_mul]
def frV(b s:Nat)(cs:List Value):Nat->Value->Value
 |_,.slice (some ⟨c,o,none⟩) n cap=>bif Nat.beq c b&&(Nat.blt 0 s&&(Nat.ble n cap&&Gr s n (cs.drop o)))then .iface s (.tuple (Ky s n (cs.drop o)).toArray)else .slice (some ⟨c,o,none⟩) n cap
 |m+1,.agg a=>.agg (a.toList.map (frV b s cs m)).toArray
 |m+1,.tuple a=>.tuple (a.toList.map (frV b s cs m)).toArray
 |m+1,.func f a c=>.func f (a.toList.map (frV b s cs m)).toArray (c.toList.map (frV b s cs m)).toArray
 |_,v=>v
def frB(b s:Nat)(cs:List Value):Blk->Blk
 |.cells ds ro=>.cells (ds.map (frV b s cs 16)) ro
 |k=>k
def frH(q:Nat->Blk->Bool)(b s:Nat)(cs:List Value):Hp->Hp
 |[]=>[]
 |(c,k)::r=>(c,bif q c k then frB b s cs k else k)::frH q b s cs r
theorem zg2(q:Nat->Blk->Bool)(b s:Nat)(cs:List Value)(c:Nat):∀H:Hp,(frH q b s cs H).get c=(H.get c).map fun k=>bif q c k then frB b s cs k else k
 |[]=>by simp[frH,Hp.get_nil]
 |(d,k)::r=>by
  simp only[frH,Hp.get_cons];split
  ·grind
  ·exact zg2 q b s cs c r
theorem zoY(b s:Nat)(cs:List Value)(k:Blk):(frB b s cs k).rw=k.rw:=by cases k<;>rfl
theorem zbw(g:zF φ H K w){b:Nat}{cs:List Value}(hb:H.get b=some (.cells cs false)) : ∃φ',(∀n,Ext K φ φ' n n)∧zF φ' (H.del b) K w∧∀(s m:Nat) (v v':Value),zp φ v v'->zp φ' (frV b s cs m v) v':=by
 obtain⟨L,hL,a,el,fr,e1,e2,e3⟩:=g.rel b _ hb;have hnone:φ (FZ+L.blk)=none:=by
  cases h:φ (FZ+L.blk)with
  |none=>rfl
  |some M=>exact absurd rfl (g.fsep b _ L L.blk M hb rfl hL h)
 let N:Loc:=⟨L.blk,0,0,a⟩;have hle:=Ren.put_le hnone N;have hoth:∀c,c≠FZ+L.blk->(φ.put (FZ+L.blk) N) c=φ c:=fun c hc=>Ren.put_other φ N hc;have hname:∀c k,H.get c=some k->c≠FZ+L.blk:=fun c k hc e=>by obtain⟨M,hM,_⟩:=g.rel c k hc;grind
 refine⟨φ.put (FZ+L.blk) N,fun n=>⟨hle,fun c hc _=>hoth c (by omega),fun c M hM=>?_⟩,⟨fun c k hc=>?_,fun c d k k' M M' hc hd hne hk hM hM'=>?_,fun c k M hc hk hM=>?_,g.kin,fun c M hM=>?_,fun c k M d M' hc hk hM hM'=>?_⟩,?_⟩
 ·by_cases h:c=L.blk
  ·subst h;exact .inr (g.prot b _ L hb rfl hL)
  grind
 ·rw[Hp.get_del]at hc;split at hc
  ·cases hc
  ·obtain⟨M,hM,hr⟩:=g.rel c k hc;exact⟨M,hle _ _ hM,hr.mono hle⟩
 ·rw[Hp.get_del]at hc hd;split at hc
  ·cases hc
  ·split at hd
   ·cases hd
   ·rw[hoth c (hname c k hc)]at hM;rw[hoth d (hname d k' hd)]at hM';exact g.sep c d k k' M M' hc hd hne hk hM hM'
 ·rw[Hp.get_del]at hc;split at hc
  ·cases hc
  ·rw[hoth c (hname c k hc)]at hM;exact g.prot c k M hc hk hM
 ·by_cases h:c=L.blk
  ·subst h;rw[Ren.put_same]at hM;cases hM;exact⟨rfl,rfl,a,el,fr,e1,fun j u hu=>hu⟩
  ·rw[hoth _ (by omega)]at hM;exact g.fz c M hM
 ·rw[Hp.get_del]at hc;split at hc
  ·cases hc
  ·rename_i hcb;rw[hoth c (hname c k hc)]at hM;by_cases h:d=L.blk
   ·subst h;exact g.sep c b k _ M L hc hb hcb hk hM hL
   ·rw[hoth _ (by omega)]at hM';exact g.fsep c k M d M' hc hk hM hM'
 ·intro s m;have hfact:(φ.put (FZ+L.blk) N) (FZ+L.blk)=some N:=Ren.put_same _ _ _;have one:∀(o n:Nat) (x:Addr) (c':Nat),0 < s->Gr s n (cs.drop o)=true->(0 < n->x=⟨L.blk,L.off+o,none⟩)->n<=c'->zp (φ.put (FZ+L.blk) N) (.iface s (.tuple (Ky s n (cs.drop o)).toArray)) (.slice (some x) n c'):=by
   intro o n x c' hs0 hk hx hc;obtain⟨k1,k2⟩:=zbv s n (cs.drop o) hk;by_cases h0:n=0
   ·subst h0;exact .fz0 s (some x) c'
   ·rw[hx (by omega)];have hsz:(Ky s n (cs.drop o)).toArray.size=n:=by simp[zbu]
    simp only[zsT]at k1;have hpos:0 < n*s:=ztB (by omega) hs0;have hfit:L.off+o+n*s<=a.size:=by
     have h1:o+(n*s - 1) < cs.length:=by omega
     obtain⟨v',hv',_⟩:=e2 (o+(n*s - 1)) (cs[o+(n*s - 1)]) (by simp);grind
    have:=zp.fz (φ:=φ.put (FZ+L.blk) N) s (Ky s n (cs.drop o)).toArray L.blk (L.off+o) c' N hfact (by omega) (by rw[hsz];exact hfit) (by omega)
     (fun j e he=>(k2 j e (by simpa using he)).1) (fun j k e u u' he hu hu'=>by
      have h1:=(k2 j e (by simpa using he)).2 k u hu;rw[ztl]at h1;obtain⟨v',hv',hr⟩:=e2 _ _ h1;have h2:L.off+o+j*s+k=L.off+(o+(j*s+k)):=by omega
      rw[h2]at hu';change a[L.off+(o+(j*s+k))]?=some u' at hu';rw[hv']at hu';cases hu';exact hr.mono hle)
    rwa [hsz]at this
  have slc:∀(m:Nat) (x:Option Addr) (n c:Nat) (v':Value),zp φ (.slice x n c) v'->zp (φ.put (FZ+L.blk) N) (frV b s cs m (.slice x n c)) v':=by
   intro m x n c v' hr;cases x with
   |none=>cases m<;>exact hr.mono hle
   |some x=>
    obtain⟨d,o,y⟩:=x;cases y with
    |some y=>cases hr
    |none=>
     have e0:frV b s cs m (.slice (some ⟨d,o,none⟩) n c)=bif Nat.beq d b&&(Nat.blt 0 s&&(Nat.ble n c&&Gr s n (cs.drop o)))then .iface s (.tuple (Ky s n (cs.drop o)).toArray)else .slice (some ⟨d,o,none⟩) n c:=by cases m<;>rfl
     rw[e0];cases hcond:(Nat.beq d b&&(Nat.blt 0 s&&(Nat.ble n c&&Gr s n (cs.drop o))))with
     |false=>exact hr.mono hle
     |true=>
      simp only[FT]at hcond;obtain⟨c1,c2,c3,c4⟩:=hcond;have:=zpK c1;subst this;have c2:0 < s:=by rw[Gj,zra]at c2;exact c2
      have c3:=zqH c3;simp only[zqJ];cases hr<;>grind
  have lst:∀{f:Value->Value},(∀v v',zp φ v v'->zp (φ.put (FZ+L.blk) N) (f v) v')->∀{xs ys:List Value},zD φ xs ys->zD (φ.put (FZ+L.blk) N) (xs.map f) ys:=by
   intro f hf xs;induction xs with
   |nil=>intro ys h;cases ys with
    |nil=>trivial
    |cons y ys=>exact h.elim
   |cons x xs ih=>intro ys h;cases ys with
    |nil=>exact h.elim
    |cons y ys=>exact⟨hf x y h.1,ih h.2⟩
  induction m with
  |zero=>
   intro v v' hr;cases v with
   |slice x n c=>grind
   |_=>exact hr.mono hle
  |succ m ih=>
   intro v v' hr;cases v with
   |slice x n c=>grind
   |agg c=>
    obtain⟨ys,rfl,hl⟩:=hr.agg_inv;exact .agg' (by grind)
   |tuple c=>
    obtain⟨ys,rfl,hl⟩:=hr.tuple_inv;exact .tuple' (by grind)
   |func f x y=>
    obtain⟨fn',ys,us,rfl,hf,h1,h2⟩:=hr.func_inv;exact .func' (hf.mono hle) (by grind) (by grind)
   |_=>exact hr.mono hle
theorem zec{q:Nat->Blk->Bool}{φ':Ren}{b s:Nat}{cs:List Value}(hv:∀(m:Nat) (v v':Value),zp φ v v'->zp φ' (frV b s cs m v) v')(hle:φ.le φ')(g0:zF φ H K w)(g:zF φ' (H.del b) K w):zF φ' (frH q b s cs (H.del b)) K w:=by
 have hget:∀c k,(frH q b s cs (H.del b)).get c=some k->∃k0,(H.del b).get c=some k0∧(k=frB b s cs k0∨k=k0):=fun c k hc=>by grind[zg2,Option.map_eq_some_iff]
 have hrw:∀{k k0:Blk},(k=frB b s cs k0∨k=k0)->k.rw=true->k0.rw=true:=fun h hk=>by grind[zoY]
 refine⟨fun c k hc=>?_,fun c d k k' M M' hc hd hne hk hM hM'=>?_,fun c k M hc hk hM=>?_,g.kin,g.fz,fun c k M d M' hc hk hM hM'=>?_⟩
 ·obtain⟨k0,h0,hor⟩:=hget c k hc;have h1:H.get c=some k0:=by grind[Hp.get_del]
  obtain⟨M,hM,hr⟩:=g0.rel c k0 h1;refine⟨M,hle _ _ hM,?_⟩;rcases hor with rfl | rfl;case inr=>exact hr.mono hle
  cases k0 with
  |cells ds ro=>
   obtain⟨arr,el,fr,e1,e2,e3⟩:=hr;refine⟨arr,el,fr,e1,fun j v hj=>?_,e3⟩;grind
  |_=>exact hr.mono hle
 ·obtain⟨k0,h0,hor⟩:=hget c k hc;obtain⟨k1,h1,_⟩:=hget d k' hd;exact g.sep c d k0 k1 M M' h0 h1 hne (hrw hor hk) hM hM'
 ·obtain⟨k0,h0,hor⟩:=hget c k hc;exact g.prot c k0 M h0 (hrw hor hk) hM
 ·obtain⟨k0,h0,hor⟩:=hget c k hc;exact g.fsep c k0 M d M' h0 (hrw hor hk) hM hM'
def zh0(q:Nat->Blk->Bool)(b s:Nat)(v:Value)(H:Hp):Value×Hp:=match H.get b with
 |some (.cells cs false)=>(frV b s cs 16 v,frH q b s cs (H.del b))
 |_=>(v,H)
theorem znW(g:zF φ H K w){v v':Value}(hv:zp φ v v')(q:Nat->Blk->Bool)(b s:Nat):∃φ',(∀n,Ext K φ φ' n n)∧zF φ' (zh0 q b s v H).2 K w∧zp φ' (zh0 q b s v H).1 v':=by
 unfold zh0;split
 ·rename_i cs hb;obtain⟨φ',h1,h2,h3⟩:=zbw g hb;exact⟨φ',h1,zec (h3 s) (h1 0).1 g h2,h3 s 16 v v' hv⟩
 grind[Ext.refl]
def CI(q:Nat->Blk->Bool):List (Nat×Nat)->Value->Hp->Value×Hp
 |[],v,H=>(v,H)
 |(b,s)::r,v,H=>match zh0 q b s v H with
  |(v1,H1)=>CI q r v1 H1
theorem zg3(q:Nat->Blk->Bool):∀(l:List (Nat×Nat)) {φ:Ren} {H:Hp} {v v':Value},zF φ H K w->zp φ v v'->∃φ',(∀n,Ext K φ φ' n n)∧zF φ' (CI q l v H).2 K w∧zp φ' (CI q l v H).1 v'
 |[],φ,H,v,v',g,hv=>⟨φ,fun n=>Ext.refl _ _ _ _,g,hv⟩
 |(b,s)::r,φ,H,v,v',g,hv=>by obtain⟨φ1,h1,h2,h3⟩:=znW g hv q b s;obtain⟨φ2,k1,k2,k3⟩:=zg3 q r h2 h3;exact⟨φ2,fun n=>(h1 n).comp (k1 n),k2,k3⟩
theorem zh1{f:FuncId}{args:List Value}{nx:Nat}{v:Value}{H':Hp}{nx':Nat}(h:wM P f args H nx v H' nx')(q:Nat->Blk->Bool)(l:List (Nat×Nat)):wM P f args H nx (CI q l v H').1 (CI q l v H').2 nx':=by refine⟨h.1,fun φ w K us g hf hl=>zrs (h.2 φ w K us g hf hl) ?_⟩;rintro e w' ⟨v',φ',rfl,x1,x2,x3,x4⟩;obtain⟨φ2,k1,k2,k3⟩:=zg3 q l x3 x1;exact⟨v',φ2,rfl,k3,x2.comp ((k1 nx').wide h.1 (FW _)),k2,x4⟩
def zqc(len o c:Nat):Nat:=bif Nat.ble qw c then c - qw else bif Nat.beq c 0 then 1 else(len - o) / c
def yn(H:Hp)(lo:Nat):Nat->List Value->List Nat×List (Nat×Nat)->List Nat×List (Nat×Nat)
 |0,_,a=>a
 |_+1,[],a=>a
 |n+1,v::vs,a=>match v with
  |.slice (some ⟨b,o,none⟩) _ c=>bif Nat.blt b lo||a.1.any (Nat.beq b)then yn H lo n vs a else match H.get b with
   |some (.cells cs false)=>match yn H lo n cs (b::a.1,a.2)with
    |(s1,p1)=>yn H lo n vs (s1,p1++[(b,zqc cs.length o c)])
   |_=>yn H lo n vs a
  |.pointer (some ⟨b,_,none⟩)=>bif Nat.blt b lo||a.1.any (Nat.beq b)then yn H lo n vs a else match H.get b with
   |some (.cells cs false)=>match yn H lo n cs (b::a.1,a.2)with
    |a1=>yn H lo n vs a1
   |_=>yn H lo n vs a
  |.agg c=>match yn H lo n c.toList a with
   |a1=>yn H lo n vs a1
  |.tuple c=>match yn H lo n c.toList a with
   |a1=>yn H lo n vs a1
  |.func _ x y=>match yn H lo n (x.toList++y.toList) a with
   |a1=>yn H lo n vs a1
  |_=>yn H lo n vs a
def pY(lo:Nat):Hp->List Value
 |[]=>[]
 |(b,k)::r=>bif Nat.blt b lo then(match k with | .cells cs false=>cs++pY lo r | _=>pY lo r)else pY lo r
def CJ(lo:Nat):Hp->Bool
 |[]=>false
 |(b,_)::r=>Nat.ble lo b||CJ lo r
def dM(mode lo:Nat)(v:Value)(H:Hp):Value×Hp:=match mode with
 |0=>bif CJ lo H then CI (fun c _=>Nat.ble lo c) (yn H lo 100000 [v] ([],[])).2 v H else(v,H)
 |1=>bif CJ lo H then CI (fun c k=>match k with | .cells _ _=>true | _=>false) (yn H lo 100000 (v::pY lo H) ([],[])).2 v H else(v,H)
 |_=>(v,H)
theorem zjQ(mode lo:Nat)(v:Value)(H:Hp):∃q l,dM mode lo v H=CI q l v H:=by
 unfold dM;split
 ·cases CJ lo H
  ·exact⟨fun _ _=>true,[],rfl⟩
  grind
 ·cases CJ lo H
  ·exact⟨fun _ _=>true,[],rfl⟩
  grind
 ·exact⟨fun _ _=>true,[],rfl⟩
theorem Py{f:FuncId}{args:List Value}{nx:Nat}{v v2:Value}{H' H2:Hp}{nx':Nat}(h:wM P f args H nx v H' nx')(mode:Nat)(he:dM mode nx v H'=(v2,H2)):wM P f args H nx v2 H2 nx':=by obtain⟨q,l,hq⟩:=zjQ mode nx v H';grind[zh1]
def zed(E:Ev)(l:Nat)(vs:List Value)(H:Hp)(nx:Nat):Option (Value×Hp×Nat):=
 match H.get l with
 |some (.loop L)=>
  if vs.length=L.params.size then
   match E.code (some l) L.assign (vM L.params.toList vs L.tmps.toList) [] H nx with
   |some R1=>match R1.e,R1.ds,R1.H.get l with
    |.normal,[],some (.loop L1)=>match L1.state with
     |.ready=>match E.code (some l) L.body R1.tm [] (R1.H.set l (.loop {L1 with state:=.busy})) R1.nx with
      |some R2=>match R2.H.get l,pS R2.e with
       |some (.loop L2),some (b,s,p)=>some (.bool b,R2.H.set l (.loop {L2 with state:=s,pending:=p}),R2.nx)
       |_,_=>none
      |none=>none
     |_=>none
    |_,_,_=>none
   |none=>none
  else none
 |_=>none
theorem zjR{E:Ev}(hE:E.Ok P){r:Option Nat}{o:Oper}{tm:List Value}{nx:Nat}{cf:Operand}{args:Array Operand}{ats:Array TypeId}(ho:o.op=.call {callee:=.value cf,args:=args,argTypes:=ats}){l:Nat}{vs:List Value}(hcf:opv tm cf=some (.func (.yield l) #[] #[]))(hvs:Wg tm args.toList=some vs){v:Value}{H':Hp}{nx':Nat}(h:zed E l vs H nx=some (v,H',nx')):Qv P r o tm H nx v H' nx':=by
 unfold zed at h;split at h;case h_2=>cases h
 rename_i L hl;split at h;case isFalse=>cases h
 rename_i hn;split at h;case h_2=>cases h
 rename_i R1 hR1;split at h;case h_2=>cases h
 rename_i L1 he1 hd1 hl1;split at h;case h_2=>cases h
 rename_i hst;split at h;case h_2=>cases h
 rename_i R2 hR2;split at h;case h_2=>cases h
 rename_i L2 b s p hl2 he2;cases h;exact Pn ho hcf hvs hl hn (hE.code hR1) he1 hd1 hl1 hst (hE.code hR2) hl2 he2
def nT(P:Program)(E:Ev)(tm:List Value)(H:Hp)(nx:Nat)(o:Oper):Option (Value×Hp×Nat):=
 match o.op with
 |.call {callee:=.value cf,args:=args,argTypes:=_}=>match opv tm cf,Wg tm args.toList with
  |some (.func (.func f) fs cs),some vs=>E.call f (fs.toList++vs++cs.toList) H nx
  |some (.func (.yield l) ⟨[]⟩ ⟨[]⟩),some vs=>zed E l vs H nx
  |_,_=>none
 |_=>jU P tm H nx o
theorem zbx{E:Ev}(hE:E.Ok P)(hs:jA P){r:Option Nat}{o:Oper}{tm:List Value}{nx:Nat}{v:Value}{H':Hp}{nx':Nat}(h:nT P E tm H nx o=some (v,H',nx')):Qv P r o tm H nx v H' nx':=by
 unfold nT at h;split at h
 ·rename_i cf args ats ho;split at h
  ·rename_i f fs cs vs hcf hvs;obtain⟨fn,hfn,hb⟩:=hE.named h;exact zbi ho hs hfn hb hcf hvs (hE.call h)
  all_goals grind[zjR]
 ·exact ym h
theorem zee{E:Ev}:Pr (nT P E):=by intro t t' H nx o h;grind[nT,Op.operands,Call.operands,cQ,zhV]
def VC(P:Program)(E:Ev)(ops:Array Oper):List Oper->List Value->Hp->Nat->Option (List Value×Hp×Nat)
 |[],tm,H,nx=>some (tm,H,nx)
 |o::l,tm,H,nx=>match yD ops tm o with
  |some true=>match nT P E tm H nx o with
   |some (v,H1,nx1)=>VC P E ops l (xJ tm o.dst v) H1 nx1
   |none=>none
  |some false=>VC P E ops l (xJ tm o.dst undef) H nx
  |none=>none
theorem af{E:Ev}(hE:E.Ok P)(hs:jA P){r:Option Nat}{ops:Array Oper}:∀{l:List Oper} {k:Nat} {tm:List Value} {H:Hp} {nx:Nat} {tm':List Value} {H':Hp} {nx':Nat},(∀j:Nat,l[j]?=ops[k+j]?)->VC P E ops l tm H nx=some (tm',H',nx')->QS P r ops (List.range' k l.length) tm H nx tm' H' nx'
 |[],k,tm,H,nx,tm',H',nx',_,h=>by grind[VC,Option.some.injEq,Prod.mk.injEq,zbj]
 |o::l,k,tm,H,nx,tm',H',nx',hl,h=>by
  have h0:ops[k]?=some o:=by simpa using(hl 0).symm
  have hl':∀j:Nat,l[j]?=ops[k+1+j]?:=fun j=>by have:=hl (j+1);grind
  simp only[VC]at h;rw[zru,ztv];split at h
  ·rename_i hw;split at h
   ·rename_i v H1 nx1 h1;exact Po h0 hw (zbx hE hs h1) (af hE hs hl' h)
   ·cases h
  ·rename_i hw;exact Pp h0 hw (af hE hs hl' h)
  ·cases h
def CL(E:Ev)(r:Option Nat)(g:Operand)(ps:Array Tmp)(assign body:Code)(tm:List Value)(ds:List Nat)(H:Hp)(nx:Nat):Option Res:=
 match opv tm g with
 |some (.func (.func f) fs cs)=>
  match r with
  |none=>
   match E.call f (fs.toList++[.func (.yield (nx+1)) #[] #[]]++cs.toList) ((nx+1,.loop (JY tm ps assign body nx))::(nx,.defd)::H) (nx+2)with
   |some (_,H1,nx1)=>match H1.get (nx+1)with
    |some (.loop L)=>uL L tm (nx::ds) (H1.del (nx+1)) nx1
    |_=>none
   |none=>none
  |some l0=>match H.get l0 with
   |some (.loop L0)=>
    match E.call f (fs.toList++[.func (.yield nx) #[] #[]]++cs.toList) ((nx,.loop (JY tm ps assign body L0.defers))::H) (nx+1)with
    |some (_,H1,nx1)=>match H1.get nx with
     |some (.loop L)=>uL L tm ds (H1.del nx) nx1
     |_=>none
    |none=>none
   |_=>none
 |_=>none
theorem zef{E:Ev}(hE:E.Ok P)(hs:jA P){r:Option Nat}{g:Operand}{ps:Array Tmp}{assign body:Code}{tm:List Value}{ds:List Nat}{nx:Nat}{R:Res}(h:CL E r g ps assign body tm ds H nx=some R) : qY P r (.rangeFunc g ps assign body) tm ds H nx R:=by
 unfold CL at h;split at h;case h_2=>cases h
 rename_i f fs cs hg;split at h
 ·split at h;case h_2=>cases h
  rename_i v H1 nx1 hc;split at h;case h_2=>cases h
  rename_i L hl;obtain⟨fn,hfn,hb⟩:=hE.named hc;exact dH hs hfn hb hg (hE.call hc) hl h
 ·rename_i l0;split at h;case h_2=>cases h
  rename_i L0 hl0;split at h;case h_2=>cases h
  rename_i v H1 nx1 hc;split at h;case h_2=>cases h
  rename_i L hl;obtain⟨fn,hfn,hb⟩:=hE.named hc;exact UU hs hfn hb hg hl0 (hE.call hc) hl h
def jH(P:Program)(E:Ev)(r:Option Nat):Code->List Value->List Nat->Hp->Nat->Option Res
 |.skip,tm,ds,H,nx=>some ⟨.normal,tm,ds,H,nx⟩
 |.label _,tm,ds,H,nx=>some ⟨.normal,tm,ds,H,nx⟩
 |.exit i,tm,ds,H,nx=>some ⟨.exit i,tm,ds,H,nx⟩
 |.goto i,tm,ds,H,nx=>some ⟨.goto i,tm,ds,H,nx⟩
 |.ret,tm,ds,H,nx=>some ⟨.ret,tm,ds,H,nx⟩
 |.seq x y,tm,ds,H,nx=>match jH P E r x tm ds H nx with
  |some R=>match R.e with
   |.normal=>jH P E r y R.tm R.ds R.H R.nx
   |_=>some R
  |none=>none
 |.cond c x y,tm,ds,H,nx=>match opv tm c with
  |some (.bool true)=>jH P E r x tm ds H nx
  |some (.bool false)=>jH P E r y tm ds H nx
  |_=>none
 |.block i c,tm,ds,H,nx=>(jH P E r c tm ds H nx).map (Res.inBlock i)
 |.loop c,tm,ds,H,nx=>match TK (VC P E) (E.code r) c tm ds H nx with
  |some R=>some R
  |none=>match jH P E r c tm ds H nx with
   |some R=>match R.e with
    |.normal=>E.loop r c R.tm R.ds R.H R.nx
    |_=>some R
   |none=>none
 |.region _ ops false,tm,ds,H,nx=>match VC P E ops ops.toList tm H nx with
  |some (tm',H',nx')=>some ⟨.normal,tm',ds,H',nx'⟩
  |none=>none
 |.region _ ops true,tm,ds,H,nx=>match ME P (nT P E) ops tm H nx with
  |some (tm',H',nx')=>some ⟨.normal,tm',ds,H',nx'⟩
  |none=>none
 |.rangeFunc g ps assign body,tm,ds,H,nx=>CL E r g ps assign body tm ds H nx
 |.scope c,tm,ds,H,nx=>match r with
  |some _=>none
  |none=>match jH P E none c tm ds H nx with
   |some R=>match R.e with
    |.goto l=>match findLabel c l with
     |some rest=>E.scp c rest R.tm R.ds R.H R.nx
     |none=>none
    |_=>some R
   |none=>none
 |_,_,_,_,_=>none
theorem gv{E:Ev}(hE:E.Ok P)(hs:jA P){r:Option Nat}:∀(c:Code) {tm:List Value} {ds:List Nat} {H:Hp} {nx:Nat} {R:Res},jH P E r c tm ds H nx=some R->qY P r c tm ds H nx R:=by
 intro c;induction c with
 |skip=>grind[jH,Option.some.injEq,Iy]
 |label l=>grind[jH,Option.some.injEq,Cy]
 |exit l=>grind[jH,Option.some.injEq,Iz]
 |goto l=>grind[jH,Option.some.injEq,IA]
 |ret=>grind[jH,Option.some.injEq,Pm]
 |seq x y ihx ihy=>
  grind[jH,pO,YB]
 |cond c x y ihx ihy=>
  grind[jH,mM]
 |block i c ih=>
  grind[jH,Option.map_eq_some_iff,Cz]
 |loop c ih=>
  intro tm ds H nx R h;simp only[jH]at h;split at h
  ·rename_i R1 h1;cases h;exact ae (zhZ (r:=r) (fun hj hx=>af (r:=r) hE hs hj hx) (fun hx=>hE.code hx) h1)
  split at h;case h_2=>cases h
  rename_i R1 h1;split at h
  ·rename_i he;exact ae (mN (ih h1) he (hE.loop h))
  grind[ae,pP]
 |region id ops draw=>
  intro tm ds H nx R h;cases draw with
  |false=>
   simp only[jH]at h;split at h;case h_2=>cases h
   rename_i tm' H' nx' h1;cases h;refine sK ?_;have:=af (r:=r) hE hs (k:=0) (ops:=ops) (fun j=>by simp) h1;grind[List.range_eq_range']
  |true=>
   grind[jH,zgo,zee,zbx]
 |rangeFunc g ps assign body iha ihb=>
  grind[jH,zef]
 |scope c ih=>
  intro tm ds H nx R h;cases r with
  |some l=>simp[jH]at h
  |none=>
   simp only[jH]at h;split at h;case h_2=>cases h
   rename_i R1 h1;split at h
   ·rename_i l he;split at h
    ·rename_i rest hf;exact Kr (cN (ih h1) he hf (hE.scp h))
    ·cases h
   grind[Kr,iR]
 |refuse s=>grind[jH]
def mP:Nat->Value->List Nat
 |0,_=>[]
 |_,.pointer (some a)=>[a.block]
 |_,.slice (some a) _ _=>[a.block]
 |_,.map (some r)=>[r]
 |n+1,.func (.yield l) a b=>l::(a.toList.flatMap (mP n)++b.toList.flatMap (mP n))
 |n+1,.func _ a b=>a.toList.flatMap (mP n)++b.toList.flatMap (mP n)
 |n+1,.agg cs=>cs.toList.flatMap (mP n)
 |n+1,.tuple cs=>cs.toList.flatMap (mP n)
 |_,_=>[]
def znt:Blk->List Nat
 |.cells cs _=>cs.flatMap (mP 4)
 |.loop l=>l.defers::l.tmps.toList.flatMap (mP 4)
 |.mp es _=>es.flatMap fun e=>mP 4 e.2.1
 |.iter m _=>[m]
 |_=>[]
def zdr(lo:Nat)(H:Hp):Nat->List Nat->List Nat->List Nat
 |0,done,todo=>done++todo
 |_+1,done,[]=>done
 |n+1,done,b::todo=>if done.contains b then zdr lo H n done todo else match H.get b with
  |some k=>zdr lo H n (b::done) (((znt k).filter fun x=>decide (lo<=x))++todo)
  |none=>zdr lo H n (b::done) todo
def TL(lo:Nat):Hp->List Nat
 |[]=>[]
 |(b,k)::r=>if b < lo then((znt k).filter fun x=>decide (lo<=x))++TL lo r else TL lo r
def zjS(lo:Nat):Hp->Bool
 |[]=>false
 |(b,_)::r=>decide (lo<=b)||zjS lo r
def gc(lo:Nat)(v:Value)(H:Hp):Hp:=
 if zjS lo H then
  match ((mP 4 v).filter fun x=>decide (lo<=x))++TL lo H with
  |[]=>Hp.only (fun b=>decide (b < lo)) H
  |rs=>match zdr lo H 1000 [] rs with
   |ks=>Hp.only (fun b=>decide (b < lo)||ks.contains b) H
 else H
theorem pZ{f:FuncId}{args:List Value}{nx:Nat}{v:Value}{H' H2:Hp}{nx':Nat}(h:wM P f args H nx v H' nx')(hs:∀b k,H2.get b=some k->H'.get b=some k):wM P f args H nx v H2 nx':=by refine⟨h.1,fun φ w K us g hf hl=>zrs (h.2 φ w K us g hf hl) ?_⟩;rintro e w' ⟨v',φ',rfl,x1,x2,x3,x4⟩;exact⟨v',φ',rfl,x1,x2,x3.sub hs,x4⟩
theorem zjT(lo:Nat)(v:Value)(H:Hp)(b:Nat)(k:Blk)(h:(gc lo v H).get b=some k):H.get b=some k:=by grind[gc,Hp.get_only]
def MG(P:Program)(cfg:FuncId->Nat)(E:Ev)(f:FuncId)(args:List Value)(H:Hp)(nx:Nat):Option (Value×Hp×Nat):=
 match P.funcs[f]? with
 |some fn=>match fn.body with
  |some c=>match jH P E none c (args++List.replicate (fn.ntmps - args.length) undef) [] H nx with
   |some R=>match (match R.e with | .normal=>true | .ret=>true | _=>false)with
    |true=>match Ku R.ds R.H with
     |some H1=>match Gn P H1 R.tm fn.results.toList with
      |some vs=>match dM (cfg f) nx (gI vs) H1 with
       |(v2,H2)=>some (v2,gc nx v2 H2,R.nx)
      |none=>none
     |none=>none
    |false=>none
   |none=>none
  |none=>none
 |none=>none
theorem IF{cfg:FuncId->Nat}{E:Ev}(hE:E.Ok P)(hs:jA P){f:FuncId}{args:List Value}{nx:Nat}{v:Value}{H':Hp}{nx':Nat}(h:MG P cfg E f args H nx=some (v,H',nx')) : (∃fn,P.funcs[f]?=some fn∧fn.body.isSome=true)∧wM P f args H nx v H' nx':=by
 unfold MG at h;split at h;case h_2=>cases h
 rename_i fn hfn;split at h;case h_2=>cases h
 rename_i c hc;split at h;case h_2=>cases h
 rename_i R hR;split at h;case h_2=>cases h
 rename_i he;split at h;case h_2=>cases h
 rename_i H1 hk;split at h;case h_2=>cases h
 rename_i vs hv;cases he2:dM (cfg f) nx (gI vs) H1 with
 |mk v2 H2=>
 rw[he2]at h;cases h;refine⟨⟨fn,hfn,by rw[hc];rfl⟩,pZ (Py (CB hfn hc (gv hE hs c hR) ?_ hk hv (fun _ _ h=>h)) _ he2) (zjT nx _ _)⟩;grind
def CM(P:Program)(cfg:FuncId->Nat)(E:Ev):Ev where
 call:=MG P cfg E
 code:=jH P E
 loop:=fun r c tm ds H nx=>match jH P E r c tm ds H nx with
  |some R=>match R.e with
   |.normal=>E.loop r c R.tm R.ds R.H R.nx
   |_=>some R
  |none=>none
 scp:=fun c x tm ds H nx=>match jH P E none x tm ds H nx with
  |some R=>match R.e with
   |.goto l=>match findLabel c l with
    |some rest=>E.scp c rest R.tm R.ds R.H R.nx
    |none=>none
   |_=>some R
  |none=>none
theorem zjU{cfg:FuncId->Nat}{E:Ev}(hE:E.Ok P)(hs:jA P):(CM P cfg E).Ok P:=by
 refine⟨fun h=>(IF hE hs h).2,fun h=>(IF hE hs h).1,fun h=>gv hE hs _ h,fun{r c tm ds H nx R} h=>?_,fun{c x tm ds H nx R} h=>?_⟩
 ·simp only[CM]at h;split at h;case h_2=>cases h
  rename_i R1 h1;split at h
  ·rename_i he;exact mN (gv hE hs c h1) he (hE.loop h)
  grind[pP,gv]
 ·simp only[CM]at h;split at h;case h_2=>cases h
  rename_i R1 h1;split at h
  ·rename_i l he;split at h
   ·rename_i rest hf;exact cN (gv hE hs x h1) he hf (hE.scp h)
   ·cases h
  grind[iR,gv]
def ev(P:Program)(cfg:FuncId->Nat):Nat->Ev
 |0=>⟨fun _ _ _ _=>none,fun _ _ _ _ _ _=>none,fun _ _ _ _ _ _=>none,fun _ _ _ _ _ _=>none⟩
 |n+1=>CM P cfg (ev P cfg n)
end Go.Fz
namespace Go.Fz
variable {P:Program} {φ:Ren} {H:Hp} {K:Nat→Prop} {w:World}
open Go.RowKit Go.ChangeShapes Go.WideShapes
def zh2 (P : Program) : Bool := P.funcs.toList.all fun fn => !(fn.name == "runtime.NumGoroutine")
theorem zeg(h:zh2 P=true):jA P:=by
 intro f fn hf;have:=zqK.1 h fn (by
  grind)
 simpa using this
theorem zcl{w w':World}(h:qJ (fun c=>c < w.heap.size) w w'):Below w.heap.size w w':=
 ⟨h.os,h.tape,h.output,h.size,fun k hk=>h.kept k hk⟩
theorem sM{T:Type}{enc:TypeId×Value->T}(hl:laidOutB P=true){W W':World}(hb:Below W.heap.size W W'):∀{ts:List TypeId} {vs:List Value} {ds:List (DataW T)} {ps:List MemPlace},(∀t∈ts,P.readableRec t=true∧t < P.types.size)->(∀x∈ps,x.block < W.heap.size)->DataW.TrodAll enc P W 0 (fun _=>true) true ts vs ds ps->DataW.TrodAll enc P W' 0 (fun b=>decide (b < W.heap.size)) true ts vs ds ps
 |[],_,_,_,_,_,h=>by obtain⟨rfl,rfl,rfl⟩:=trodAll_nil h;exact trodAll_mk0
 |t::ts,_,_,_,ht,hp,h=>by obtain⟨v,vs1,d,ds1,a,b,rfl,rfl,rfl,h1,h2⟩:=trodAll_cons h;have h3:=ht t (by simp);exact⟨a,b,Below.trod hl h3.1 h3.2 h1 hb (fun x hx=>hp x (by simp[hx])),sM hl hb (fun t' h'=>ht t' (by simp[h'])) (fun x hx=>hp x (by simp[hx])) h2,rfl⟩
def zoZ(P:Program)(ts:List TypeId):Bool:=ts.all fun t=>P.readableRec t&&decide (t < P.types.size)
theorem zlD{T:Type}{enc:TypeId×Value->T}{f:Func}{s:ChangeSpec}(hv:s.vars=[])(hl:laidOutB P=true)(hr:zoZ P f.params.toList=true){t:TypeId}(ht:f.resultTypes=#[t])(hu:P.underlying t=some .bool){W W':World}{args:Array Value}{ds gs:List (DataW T)}{before:List MemPlace}(hW:DataW.Whole enc P f.params.toList s.vars false W args.toList ds gs before)(hres:(s.fn T (ds++gs)).results=[.lit (.bool true)])(hargs:(s.fn T (ds++gs)).args=ds)(hvars:(s.fn T (ds++gs)).vars=[])(hb:Below W.heap.size W W') : s.post enc P f false true false false W args (.bool true) W':=by
 have hlt:∀p∈before,p.block < W.heap.size:=fun p hp=>hW.lt p hp;have hW0:=hW;obtain⟨p,q,hA,hV,rfl,hz,hn⟩:=hW;rw[hv]at hV;obtain⟨rfl,rfl⟩:=trodVars_none hV;refine⟨ds,[],p++[],[],p,[],hW0,?_,?_,?_,?_,fun h=>by cases h⟩
 ·rw[hres,ht];exact trodAll_cons_mk (shut_bool hu _) trodAll_mk0
 ·rw[hargs];refine sM hl hb (fun t h=>?_) (fun x hx=>hlt x (by simp[hx])) hA;have:=zqK.1 hr t h;simpa using this
 ·rw[hvars,hv];rfl
 ·exact World.keptBut_mono (fun p hp=>hp.elim) (hb.frame (fun _=>False))
end Go.Fz
namespace Go.Fz.Sy
inductive Ty where
 |unit
 |bool
 |int (k:IntKind)
 |str
 |list (t:Ty)
 |pair (a b:Ty)
 deriving DecidableEq
@[reducible] def T (t:Ty):Type:=Ty.rec (motive:=fun _=>Type) Unit Bool (fun _=>Int) ByteArray (fun _ ih=>List ih) (fun _ _ a b=>a×b) t
@[reducible] def p1 {α β:Type} (x:α×β):α:=Prod.rec (motive:=fun _=>α) (fun a _=>a) x
@[reducible] def p2 {α β:Type} (x:α×β):β:=Prod.rec (motive:=fun _=>β) (fun _ b=>b) x
def kW{a b:Ty}(h:a=b)(x:List (T a)):List (T b):=Eq.rec (motive:=fun b _=>List (T b)) x h
def sz:Ty->Nat
 |.unit=>0
 |.bool=>1
 |.int _=>1
 |.str=>1
 |.list _=>1
 |.pair a b=>sz a+sz b
def fzV(s:Nat)(full:Bool)(es:List Value):Value:=.iface s (bif full then .agg es.toArray else .tuple es.toArray)
def qA:(t:Ty)->T t->List Value
 |.unit,_=>[]
 |.bool,b=>[.bool b]
 |.int k,n=>[.int k n]
 |.str,s=>[.string s]
 |.list t,l=>[fzV (sz t) false (List.map (fun x=>Value.agg (qA t x).toArray) l)]
 |.pair a b,x=>qA a (p1 x)++qA b (p2 x)
theorem wQ:∀(t:Ty) (x:T t),(qA t x).length=sz t
 |.unit,_=>rfl
 |.bool,_=>rfl
 |.int _,_=>rfl
 |.str,_=>rfl
 |.list _,_=>rfl
 |.pair a b,x=>by simp[qA,sz,wQ a,wQ b]
def wv(t:Ty)(x:T t):Value:=.agg (qA t x).toArray
inductive SV where
 |bool (b:Bool)
 |int (k:IntKind) (n:Int)
 |str (s:ByteArray)
 |agg (cs:List SV)
 |tup (vs:List SV)
 |ptr (b o:Nat)
 |nilp
 |lst (t:Ty) (l:List (T t)) (full:Bool)
 |own (b:Nat)
 |nils
 |elp (b s i k:Nat)
 |fel (t:Ty) (x:T t) (k:Nat)
 |fn (f:Nat) (fs cs:List SV)
 |yld (l:Nat)
 |nilf
 |nilm
 |mp (b:Nat)
 |slv (b n:Nat)
 |junk
def bad:Value:=.complex .f64 1 0
theorem IG{φ:Ren}{v':Value}(h:zp φ bad v'):False:=by cases h
mutual
def den(ρ:Nat->Value):SV->Value
 |.bool b=>.bool b
 |.int k n=>.int k n
 |.str s=>.string s
 |.agg cs=>.agg (zu ρ cs).toArray
 |.tup vs=>.tuple (zu ρ vs).toArray
 |.ptr b o=>.pointer (some ⟨b,o,none⟩)
 |.nilp=>.pointer none
 |.lst t l full=>fzV (sz t) full (l.map (wv t))
 |.own b=>ρ b
 |.nils=>.slice none 0 0
 |.elp b s i k=>.pointer (some ⟨b,i*s+k,none⟩)
 |.fel t x k=>.iface k (.iface 0 (wv t x))
 |.fn f fs cs=>.func (.func f) (zu ρ fs).toArray (zu ρ cs).toArray
 |.yld l=>.func (.yield l) #[] #[]
 |.nilf=>.nilFunc
 |.nilm=>.map none
 |.mp b=>.map (some b)
 |.slv b n=>.slice (some ⟨b,0,none⟩) n n
 |.junk=>Fz.junk
def zu(ρ:Nat->Value):List SV->List Value
 |[]=>[]
 |v::r=>den ρ v::zu ρ r
end
theorem qO(ρ:Nat->Value):∀l:List SV,zu ρ l=l.map (den ρ)
 |[]=>by simp[zu]
 |v::r=>by simp[zu,qO ρ r]
def jN:(t:Ty)->T t->List SV
 |.unit,_=>[]
 |.bool,b=>[.bool b]
 |.int k,n=>[.int k n]
 |.str,s=>[.str s]
 |.list t,l=>[.lst t l false]
 |.pair a b,x=>jN a (p1 x)++jN b (p2 x)
theorem wt(ρ:Nat->Value):∀(t:Ty) (x:T t),(jN t x).map (den ρ)=qA t x
 |.unit,_=>rfl
 |.bool,_=>by simp[jN,den,qA]
 |.int _,_=>by simp[jN,den,qA]
 |.str,_=>by simp[jN,den,qA]
 |.list t,l=>by simp only[jN,zrG,den,ztu,qA];rfl
 |.pair a b,x=>by simp[jN,qA,wt ρ a,wt ρ b]
theorem VD(t:Ty)(x:T t):(jN t x).length=sz t:=by have:=zqR List.length (wt (fun _=>.nilFunc) t x);simpa[wQ]using this
structure SL where
 tm:List SV
 params:Array Tmp
 assign:Code
 body:Code
 st:LoopState
 pend:Option Code
 dfr:Nat
inductive SB where
 |vars (cs:List SV)
 |ro (cs:List SV)
 |arr (nn:Bool) (t:Ty) (l:List (T t))
 |roa (nn:Bool) (t:Ty) (l:List (T t))
 |fro (nn:Bool) (t:Ty) (l:List (T t))
 |gone (s n:Nat)
 |loop (L:SL)
 |defd
 |hid
 |mpb (k:IntKind) (ag:Bool) (t:Ty) (l:List (Int×T t))
 |mpf (k:IntKind) (l:List (Int×Nat))
 |abs
abbrev SH:=List (Nat×SB)
def zo(H:SH)(n:Nat):Option SB:=List.rec (motive:=fun _=>Option SB) none (fun x _ ih=>bif Nat.beq x.1 n then some x.2 else ih) H
theorem WX(n:Nat):zo [] n=none:=rfl
theorem qd(b:Nat)(k:SB)(r:SH)(n:Nat):zo ((b,k)::r) n=if b=n then some k else zo r n:=by grind[Nat.beq,zo,Nat.eq_of_beq_eq_true,Nat.ne_of_beq_eq_false]
def jB:SH->Nat->SB->SH
 |[],_,_=>[]
 |(b,k)::r,n,x=>bif Nat.beq b n then(b,x)::r else(b,k)::jB r n x
theorem CN{α:Type}(a b:Nat)(x y:α):(bif Nat.beq a b then x else y)=if a=b then x else y:=by simp_all
theorem qU(n:Nat)(x:SB)(m:Nat):∀H:SH,zo (jB H n x) m=if m=n then(zo H n).map (fun _=>x)else zo H m
 |[]=>by simp[jB,WX]
 |(b,k)::r=>by have ih:=qU n x m r;simp only[jB,CN];grind[qd]
def jE{α:Type}(nn:Bool)(l:List α):Bool:=bif nn then false else match l with
 |[]=>true
 |_::_=>false
theorem VX{α:Type}{nn:Bool}{l:List α}(h:jE nn l=true):nn=false∧l=[]:=by
 cases nn with
 |true=>cases h
 |false=>cases l with
  |nil=>exact⟨rfl,rfl⟩
  |cons x l=>cases h
theorem nU{α:Type}{nn:Bool}{l:List α}(h:l≠[]):jE nn l=false:=by grind[jE,VX]
theorem zeh{α:Type}(nn:Bool)(l:List α)(i:Nat)(y:α):jE nn (l.set i y)=jE nn l:=by
 cases nn with
 |true=>rfl
 |false=>cases l with
  |nil=>rfl
  |cons x l=>cases i<;>rfl
def rsz(nn:Bool)(t:Ty)(l:List (T t)):Nat:=bif jE nn l then 0 else sz t+1
def reg:Option SB->Option (Nat×Nat)
 |some (.arr nn t l)=>some (l.length,rsz nn t l)
 |some (.roa nn t l)=>some (l.length,rsz nn t l)
 |some (.fro nn t l)=>some (l.length,rsz nn t l)
 |some (.gone s n)=>some (match s with | 0=>0 | _+1=>n,s)
 |_=>none
def rho(ν:Nat->Bool)(H:SH)(b:Nat):Value:=match reg (zo H b)with
 |some (_,0)=>.slice none 0 0
 |some (n,s+1)=>.slice (some ⟨b,0,none⟩) n (qw+s)
 |none=>bad
theorem xX{H:SH}{b:Nat}{t:Ty}{l:List (T t)}{nn:Bool}(ν:Nat->Bool)(hr:reg (zo H b)=some (l.length,rsz nn t l)):rho ν H b=bif jE nn l then .slice none 0 0 else .slice (some ⟨b,0,none⟩) l.length (qw+sz t):=by grind[rho,rsz,jE]
def qm(t:Ty)(l:List (T t)):List Value:=l.flatMap (qA t)
theorem QH(t:Ty)(l:List (T t)):(qm t l).length=l.length*sz t:=by induction l<;>grind[qm,qA,List.length_append,wQ,List.length_cons,Nat.add_mul,Nat.add_comm]
theorem rf(t:Ty):∀(l:List (T t)) (i:Nat),(qm t l).drop (i*sz t)=qm t (l.drop i)
 |l,0=>by simp
 |[],i+1=>by simp[qm]
 |x::l,i+1=>by have:qm t (x::l)=qA t x++qm t l:=rfl;rw[this,zrE,ztf,zsI,zts,wQ];have h1:(qA t x).drop (sz t+i*sz t)=[]:=zso (by rw[wQ];omega);rw[h1,List.nil_append,zsO,rf t l i];rfl
theorem Pz(t:Ty):∀(l:List (T t)) (i:Nat),(qm t l).take (i*sz t)=qm t (l.take i)
 |l,0=>by simp[qm]
 |[],i+1=>by simp[qm]
 |x::l,i+1=>by have:qm t (x::l)=qA t x++qm t l:=rfl;rw[this,zrE,ztf,zsI,ztt,wQ];have h1:(qA t x).take (sz t+i*sz t)=qA t x:=zqW (by rw[wQ];omega);rw[h1,zsO,Pz t l i];rfl
theorem dN(t:Ty)(a b:List (T t)):qm t (a++b)=qm t a++qm t b:=by simp[qm]
theorem rh(t:Ty)(l:List (T t)){i k n:Nat}{x:T t}(hx:l[i]?=some x)(hk:k+n<=sz t) : i*sz t+k+n<=(qm t l).length∧((qm t l).drop (i*sz t+k)).take n=((qA t x).drop k).take n:=by
 have hlt:i < l.length:=(zqr.1 hx).1;constructor
 ·rw[QH];have:(i+1)*sz t<=l.length*sz t:=zrD _ hlt;grind
 ·rw[<-List.drop_drop,rf];grind[List.drop_eq_getElem_cons,List.getElem?_eq_some_iff,qm,qA,List.drop_append,List.take_append,List.length_drop,wQ,sz]
theorem zby(t:Ty)(l:List (T t)){i k:Nat}{x:T t}(hx:l[i]?=some x)(hk:k < sz t):(qm t l)[i*sz t+k]?=(qA t x)[k]?:=by have:=(rh t l (n:=1) hx (k:=k) (by omega)).2;have h2:=zqR (·[0]?) this;grind
theorem zjV(t:Ty)(l:List (T t)){i k:Nat}{x y:T t}{vs:List Value}(hx:l[i]?=some x)(hk:k+vs.length<=sz t)(hy:qA t y=spl (qA t x) k vs) : spl (qm t l) (i*sz t+k) vs=qm t (l.set i y):=by
 have hlt:i < l.length:=(zqr.1 hx).1;obtain⟨_,hxe⟩:=zqr.1 hx;have h1:l=l.take i++x::l.drop (i+1):=by rw[<-hxe];simp
 have h2:l.set i y=l.take i++y::l.drop (i+1):=by
  apply zrj;intro j;rw[zrl];by_cases h:i=j
  ·subst h;simp[hlt,zsd (Nat.le_of_lt hlt)]
  ·simp only[h,zqZ]
   conv=>lhs;rw[h1]
   by_cases hji:j < i
   ·rw[zqT (by simp;omega),zqT (by simp;omega)]
   ·have hm:(l.take i).length=i:=by simp;omega
    rw[zrd (by omega),zrd (by omega),hm];have:j - i=(j - i - 1)+1:=by omega
    rw[this];simp
 rw[h2]
 conv=>lhs;rw[h1]
 have ha:∀z,qm t (l.take i++z::l.drop (i+1))=qm t (l.take i)++(qA t z++qm t (l.drop (i+1))):=fun z=>by simp[qm]
 rw[ha,ha,hy];have hl:(qm t (l.take i)).length=i*sz t:=by rw[QH,zsh,zsd (Nat.le_of_lt hlt)]
 have hle:=wQ t x;unfold spl;rw[<-hl];simp only[ztt,zts];have e1:(qm t (l.take i)).take ((qm t (l.take i)).length+k)=qm t (l.take i):=zqW (by omega);have e2:(qm t (l.take i)).drop ((qm t (l.take i)).length+k+vs.length)=[]:=zso (by omega);have e3:(qm t (l.take i)).length+k - (qm t (l.take i)).length=k:=by omega
 have e4:(qm t (l.take i)).length+k+vs.length - (qm t (l.take i)).length=k+vs.length:=by omega
 rw[e1,e2,e3,e4];have e5:k - (qA t x).length=0:=by omega
 have e6:k+vs.length - (qA t x).length=0:=by omega
 grind
def wW(ρ:Nat->Value)(L:SL):Loop:={state:=L.st,pending:=L.pend,fn:=0,tmps:=(zu ρ L.tm).toArray,params:=L.params,assign:=L.assign,body:=L.body,defers:=L.dfr}
def mvV(ag:Bool)(t:Ty)(x:T t):Value:=bif ag then wv t x else(qA t x).headD Fz.junk
def uC(k:IntKind)(ag:Bool)(t:Ty):List (Int×T t)->Nat->List (Value×Value×Nat)
 |[],_=>[]
 |p::r,i=>(.int k p.1,mvV ag t p.2,i)::uC k ag t r (i+1)
def Qi(k:IntKind):List (Int×Nat)->Nat->List (Value×Value×Nat)
 |[],_=>[]
 |p::r,i=>(.int k p.1,.func (.func p.2) #[] #[],i)::Qi k r (i+1)
def qB(ρ:Nat->Value)(nil:Bool):SB->Option Blk
 |.vars cs=>some (.cells (zu ρ cs) false)
 |.ro cs=>some (.cells (zu ρ cs) true)
 |.arr nn t l=>bif jE nn l then none else some (.cells (qm t l) false)
 |.roa nn t l=>bif jE nn l then none else some (.cells (qm t l) true)
 |.fro nn t l=>bif jE nn l then none else some (.fzc (qm t l))
 |.gone _ _=>none
 |.loop L=>some (.loop (wW ρ L))
 |.defd=>some .defd
 |.hid=>some .hid
 |.mpb k ag t l=>some (.mp (uC k ag t l 0) l.length)
 |.mpf k l=>some (.mp (Qi k l 0) l.length)
 |.abs=>none
def xO(ν:Nat->Bool)(ρ:Nat->Value):SH->Hp
 |[]=>[]
 |(b,k)::r=>match qB ρ (ν b) k with
  |some x=>(b,x)::xO ν ρ r
  |none=>(xO ν ρ r).del b
theorem yP(ν:Nat->Bool)(ρ:Nat->Value)(n:Nat):∀H:SH,(xO ν ρ H).get n=(zo H n).bind (qB ρ (ν n))
 |[]=>rfl
 |(b,k)::r=>by have ih:=yP ν ρ n r;grind[xO,qd,qB,Hp.get_del,Hp.get_cons,Bool.false_eq_true]
def zK(ν:Nat->Bool)(H:SH):Hp:=xO ν (rho ν H) H
theorem qe(ν:Nat->Bool)(H:SH)(n:Nat):(zK ν H).get n=(zo H n).bind (qB (rho ν H) (ν n)):=yP ν _ n H
theorem dO(nn:Bool)(t:Ty)(l:List (T t)):reg (some (.gone (rsz nn t l) l.length))=some (l.length,rsz nn t l):=by
 unfold rsz;cases hn:jE nn l with
 |true=>
  obtain⟨_,rfl⟩:=VX hn;rfl
 |false=>rfl
theorem WY{k:Option SB}{n:Nat}(h:reg k=some (n,0)):n=0:=by
 have key:∀(nn:Bool) (t:Ty) (l:List (T t)),some (l.length,rsz nn t l)=some (n,0)->n=0:=fun nn t l h=>by
  unfold rsz at h;cases hn:jE nn l with
  |true=>
   obtain⟨_,rfl⟩:=VX hn;grind
  |false=>grind
 cases k with
 |none=>cases h
 |some k=>
  cases k with
  |arr nn t l=>exact key nn t l h
  |roa nn t l=>exact key nn t l h
  |fro nn t l=>exact key nn t l h
  |gone s m=>
   cases s<;>grind[reg]
  |_=>simp[reg]at h
def ji:Option SB->Bool
 |some (.arr nn _ _)=>nn
 |some (.roa nn _ _)=>nn
 |_=>false
structure VN(ν:Nat->Bool)(nx:Nat)(H:SH):Prop where
 empty:∀b n,reg (zo H b)=some (n,0)->n=0
 old:∀b,nx<=b->ν b=false
 nn:∀b,ji (zo H b)=true->ν b=false
def jV(H H':SH):Prop:=∀b x,reg (zo H b)=some x->reg (zo H' b)=some x
theorem jV.refl(H:SH):jV H H:=fun _ _ h=>h
theorem jV.trans{H H' H'':SH}(h:jV H H')(k:jV H' H''):jV H H'':=fun b x hx=>k b x (h b x hx)
def wc(H H':SH):Prop:=∀l L,zo H l=some (.loop L)->∃s p,zo H' l=some (.loop {L with st:=s,pend:=p})
theorem wc.refl(H:SH):wc H H:=fun l L h=>⟨L.st,L.pend,h⟩
theorem wc.trans{H H' H'':SH}(h:wc H H')(k:wc H' H''):wc H H'':=fun l L hl=>by obtain⟨s,p,h1⟩:=h l L hl;obtain⟨s',p',h2⟩:=k l _ h1;grind
def RLe(ρ ρ':Nat->Value):Prop:=∀b,ρ b=bad∨ρ' b=ρ b
theorem RLe.refl(ρ:Nat->Value):RLe ρ ρ:=fun _=>.inr rfl
theorem dP(ν:Nat->Bool){H H':SH}(h:jV H H'):RLe (rho ν H) (rho ν H'):=by
 intro b;unfold rho;cases hr:reg (zo H b)with
 |none=>exact .inl rfl
 |some x=>right;rw[h b x hr]
mutual
theorem Gs{ρ ρ':Nat->Value}(h:RLe ρ ρ'){φ:Ren}:∀(v:SV) (v':Value),zp φ (den ρ v) v'->zp φ (den ρ' v) v'
 |.bool _,_,hv=>by simpa only[den]using hv
 |.int _ _,_,hv=>by simpa only[den]using hv
 |.str _,_,hv=>by simpa only[den]using hv
 |.agg cs,v',hv=>by simp only[den]at hv ⊢;obtain⟨ys,rfl,hl⟩:=hv.agg_inv;exact .agg' (by simpa using aM h cs ys.toList (by simpa using hl))
 |.tup vs,v',hv=>by simp only[den]at hv ⊢;obtain⟨ys,rfl,hl⟩:=hv.tuple_inv;exact .tuple' (by simpa using aM h vs ys.toList (by simpa using hl))
 |.ptr _ _,_,hv=>by simpa only[den]using hv
 |.nilp,_,hv=>by simpa only[den]using hv
 |.lst _ _ _,_,hv=>by simpa only[den]using hv
 |.own b,v',hv=>by
  simp only[den]at hv ⊢;rcases h b with hb | hb
  ·rw[hb]at hv;exact(IG hv).elim
  ·rw[hb];exact hv
 |.nils,_,hv=>by simpa only[den]using hv
 |.elp _ _ _ _,_,hv=>by simpa only[den]using hv
 |.fel _ _ _,_,hv=>by simpa only[den]using hv
 |.fn f fs cs,v',hv=>by simp only[den]at hv ⊢;obtain⟨fn',ys,us,rfl,hf,h1,h2⟩:=hv.func_inv;exact .func' hf (by simpa using aM h fs ys.toList (by simpa using h1)) (by simpa using aM h cs us.toList (by simpa using h2))
 |.yld _,_,hv=>by simpa only[den]using hv
 |.nilf,_,hv=>by simpa only[den]using hv
 |.nilm,_,hv=>by simpa only[den]using hv
 |.mp _,_,hv=>by simpa only[den]using hv
 |.slv _ _,_,hv=>by simpa only[den]using hv
 |.junk,_,hv=>by simpa only[den]using hv
theorem aM{ρ ρ':Nat->Value}(h:RLe ρ ρ'){φ:Ren}:∀(vs:List SV) (us:List Value),zD φ (zu ρ vs) us->zD φ (zu ρ' vs) us
 |[],us,hr=>by simpa only[zu]using hr
 |v::vs,[],hr=>by simp[zu,zD]at hr
 |v::vs,u::us,hr=>by simp only[zu,zD]at hr ⊢;exact⟨Gs h v u hr.1,aM h vs us hr.2⟩
end
theorem ri{ρ ρ':Nat->Value}(hρ:∀b,ρ b≠Fz.junk){v:SV}(h:den ρ v=Fz.junk):den ρ' v=Fz.junk:=by
 cases v<;>simp only[den,Fz.junk,reduceCtorEq]at h ⊢
 ·simp[fzV]at h
 ·exact absurd h (hρ _)
theorem vv(ν:Nat->Bool)(H:SH)(b:Nat):rho ν H b≠Fz.junk:=by grind[rho,Fz.junk,bad]
theorem CO{ρ ρ':Nat->Value}(hρ:∀b,ρ b≠Fz.junk)(h:RLe ρ ρ'){φ:Ren}{tm:List SV}{ts:Array Value}(ht:qS φ (zu ρ tm) ts):qS φ (zu ρ' tm) ts:=by
 refine⟨by simpa[qO]using ht.1,fun i v hv=>?_⟩;rw[qO,zrF,zqp]at hv;obtain⟨u,hu,rfl⟩:=hv;rcases ht.2 i (den ρ u) (by rw[qO,zrF,hu];rfl)with h0 | ⟨v',h1,h2⟩
 all_goals grind[ri,Gs]
theorem MH(ν:Nat->Bool){H H':SH}(h:jV H H'){φ:Ren}{tm:List SV}{ts:Array Value}(ht:qS φ (zu (rho ν H) tm) ts):qS φ (zu (rho ν H') tm) ts:=CO (vv ν H) (dP ν h) ht
end Go.Fz.Sy
namespace Go.Fz.Sy
variable {P:Program} {φ:Ren} {K:Nat→Prop} {w:World}
theorem zei{H:Hp}(g:zF φ H K w){b:Nat}{cs:List Value}(hb:H.get b=some (.cells cs false)) :
  ∃φ',(∀n,Ext K φ φ' n n)∧∀H':Hp,(∀c k,H'.get c=some k->if c=b then k=.fzc cs else H.get c=some k)->zF φ' H' K w:=by
 obtain⟨L,hL,a,el,fr,e1,e2,e3⟩:=g.rel b _ hb
 have hnone:φ (FZ+L.blk)=none:=by
  cases h:φ (FZ+L.blk)with
  |none=>rfl
  |some M=>exact absurd rfl (g.fsep b _ L L.blk M hb rfl hL h)
 let N:Loc:=⟨L.blk,0,0,a⟩
 have hle:=Ren.put_le hnone N
 have hoth:∀c,c≠FZ+L.blk->(φ.put (FZ+L.blk) N) c=φ c:=fun c hc=>Ren.put_other φ N hc
 have hname:∀c k,H.get c=some k->c≠FZ+L.blk:=fun c k hc e=>by obtain⟨M,hM,_⟩:=g.rel c k hc;grind
 refine⟨φ.put (FZ+L.blk) N,fun n=>⟨hle,fun c hc _=>hoth c (by omega),fun c M hM=>?_⟩,fun H' hH'=>?_⟩
 ·by_cases h:c=L.blk
  ·subst h;exact .inr (g.prot b _ L hb rfl hL)
  grind
 have old:∀c k,H'.get c=some k->c≠b->H.get c=some k:=fun c k hc hne=>by grind
 have nrw:∀k,H'.get b=some k->k=.fzc cs:=fun k hk=>by grind
 have hrwne:∀c k,H'.get c=some k->k.rw=true->c≠b:=fun c k hc hr e=>by subst e;rw[nrw k hc]at hr;cases hr
 refine⟨fun c k hc=>?_,fun c d k k' M M' hc hd hne hk hM hM'=>?_,fun c k M hc hk hM=>?_,g.kin,fun c M hM=>?_,fun c k M d M' hc hk hM hM'=>?_⟩
 ·by_cases hcb:c=b
  ·subst hcb
   rw[nrw k hc]
   exact⟨L,hle _ _ hL,⟨_,e1⟩,N,Ren.put_same _ _ _,fun j v hv=>let ⟨v',h1,h2⟩:=e2 j v hv;⟨v',h1,h2.mono hle⟩⟩
  ·obtain⟨M,hM,hr⟩:=g.rel c k (old c k hc hcb)
   exact⟨M,hle _ _ hM,hr.mono hle⟩
 ·have hcb:=hrwne c k hc hk
  have hcH:=old c k hc hcb
  rw[hoth c (hname c k hcH)]at hM
  by_cases hdb:d=b
  ·subst hdb
   rw[hoth d (hname d _ hb)]at hM'
   exact g.sep c d k _ M M' hcH hb hne hk hM hM'
  ·have hdH:=old d k' hd hdb
   rw[hoth d (hname d k' hdH)]at hM'
   exact g.sep c d k k' M M' hcH hdH hne hk hM hM'
 ·have hcH:=old c k hc (hrwne c k hc hk)
  rw[hoth c (hname c k hcH)]at hM
  exact g.prot c k M hcH hk hM
 ·by_cases h:c=L.blk
  ·subst h
   rw[Ren.put_same]at hM;cases hM
   exact⟨rfl,rfl,a,el,fr,e1,fun j u hu=>hu⟩
  ·rw[hoth _ (by omega)]at hM;exact g.fz c M hM
 ·have hcb:=hrwne c k hc hk
  have hcH:=old c k hc hcb
  rw[hoth c (hname c k hcH)]at hM
  by_cases h:d=L.blk
  ·subst h
   exact g.sep c b k _ M L hcH hb hcb hk hM hL
  ·rw[hoth _ (by omega)]at hM'
   exact g.fsep c k M d M' hcH hk hM hM'
def GLe(H H':SH):Prop:=∀b,zo H' b=zo H b∨∃nn t l,zo H b=some (.arr nn t l)∧zo H' b=some (.fro nn t l)
theorem GLe.refl(H:SH):GLe H H:=fun _=>.inl rfl
theorem GLe.trans{H H' H'':SH}(h:GLe H H')(k:GLe H' H''):GLe H H'':=fun b=>by
 rcases h b with h1 | ⟨nn,t,l,h1,h2⟩
 ·rcases k b with k1 | ⟨nn,t,l,k1,k2⟩;all_goals grind
 ·rcases k b with k1 | ⟨nn',t',l',k1,k2⟩;all_goals grind
theorem GLe.reg{H H':SH}(h:GLe H H')(b:Nat):Sy.reg (zo H' b)=Sy.reg (zo H b):=by
 rcases h b with h1 | ⟨nn,t,l,h1,h2⟩
 ·rw[h1]
 ·rw[h1,h2];rfl
theorem GLe.regLe{H H':SH}(h:GLe H H'):jV H H':=fun b x hx=>by rw[h.reg b];exact hx
theorem GLe.lkeep{H H':SH}(h:GLe H H'):wc H H':=fun l L hl=>by
 rcases h l with h1 | ⟨nn,t,a,h1,h2⟩
 ·exact⟨L.st,L.pend,by rw[h1];exact hl⟩
 grind
theorem GLe.rho{H H':SH}(h:GLe H H')(ν:Nat->Bool):Sy.rho ν H'=Sy.rho ν H:=by funext b;unfold Sy.rho;rw[h.reg b]
theorem GLe.vn{H H':SH}(h:GLe H H'){ν:Nat->Bool}{nx:Nat}(v:VN ν nx H):VN ν nx H':=⟨fun b n hr=>v.empty b n (by rw[<-h.reg b];exact hr),v.old,fun b hb=>v.nn b (by
 rcases h b with h1 | ⟨nn,t,l,h1,h2⟩
 ·rw[<-h1];exact hb
 ·rw[h2]at hb;cases hb)⟩
theorem GLe.fro{H H':SH}(h:GLe H H'){b:Nat}{nn:Bool}{t:Ty}{l:List (T t)}(hb:zo H b=some (.fro nn t l)):zo H' b=some (.fro nn t l):=by rcases h b with h1 | ⟨nn,t,a,h1,h2⟩;all_goals grind
def yl(H H':SH):Prop:=GLe H H'∧∀(ν:Nat->Bool) (φ:Ren) (K:Nat->Prop) (w:World),zF φ (zK ν H) K w->∃φ',(∀n,Ext K φ φ' n n)∧zF φ' (zK ν H') K w
theorem yl.refl(H:SH):yl H H:=⟨GLe.refl H,fun ν φ K w g=>⟨φ,fun n=>Ext.refl _ _ _ _,g⟩⟩
theorem yl.trans{H H' H'':SH}(h:yl H H')(k:yl H' H''):yl H H'':=⟨h.1.trans k.1,fun ν φ K w g=>by
 obtain⟨φ1,e1,g1⟩:=h.2 ν φ K w g;obtain⟨φ2,e2,g2⟩:=k.2 ν φ1 K w g1;exact⟨φ2,fun n=>(e1 n).comp (e2 n),g2⟩⟩
theorem Kz{H:SH}{b:Nat}{nn:Bool}{t:Ty}{l:List (T t)}(hb:zo H b=some (.arr nn t l)):yl H (jB H b (.fro nn t l)):=by
 have hg:GLe H (jB H b (.fro nn t l)):=fun c=>by grind[qU]
 refine⟨hg,fun ν φ K w g=>?_⟩;have hoth:∀c k,(zK ν (jB H b (.fro nn t l))).get c=some k->c≠b->(zK ν H).get c=some k:=fun c k hc hne=>by rw[qe,qU,zqu hne,hg.rho ν]at hc;rw[qe];exact hc
 cases hn:jE nn l with
 |true=>
  refine⟨φ,fun n=>Ext.refl _ _ _ _,g.sub fun c k hc=>?_⟩;grind[qe,qU,qB]
 |false=>
  have hd:(zK ν H).get b=some (.cells (qm t l) false):=by rw[qe,hb];simp[qB,hn]
  obtain⟨φ',e1,e2⟩:=zei g hd;refine⟨φ',e1,e2 _ fun c k hc=>?_⟩;grind[qe,qU,qB]
theorem nV{H:SH}{ν:Nat->Bool}{nx:Nat}(g:zF φ (zK ν H) K w)(hv:VN ν nx H){b:Nat}{nn:Bool}{t:Ty}{l:List (T t)}(hb:zo H b=some (.fro nn t l))(hs:0 < sz t){v':Value}(h:zp φ (rho ν H b) v') : zp φ (fzV (sz t) false (l.map (wv t))) v':=by
 have hr:reg (zo H b)=some (l.length,rsz nn t l):=by rw[hb];rfl
 have hnil:∀a c,l=[]->zp φ (fzV (sz t) false (l.map (wv t))) (.slice a 0 c):=fun a c e=>by subst e;exact .fz0 _ _ _
 rw[xX ν hr]at h;cases hn:jE nn l with
 |true=>
  have hl:l=[]:=(VX hn).2;simp only[hn,zqJ]at h;cases h;exact hnil _ _ hl
 |false=>
  simp only[hn,zqD]at h;generalize hc0:qw+sz t=c0 at h;generalize hn0:l.length=n0 at h;cases h with
  |sl _ _ _ _ L hL hc=>omega
  |slO _ _ _ _ c' L hL hc hnc hl=>
   by_cases hl0:l=[]
   ·grind
   ·have hd:(zK ν H).get b=some (.fzc (qm t l)):=by rw[qe,hb];simp[qB,hn]
    obtain⟨L',hL',hB⟩:=g.rel b _ hd;rw[hL]at hL';cases hL';obtain⟨_,M,hM,hcs⟩:=hB;have hpos:0 < l.length:=zrT.2 hl0;have hfl:=QH t l;have hmul:0 < l.length*sz t:=ztB hpos hs;have hes:((l.map (wv t)).toArray).size=n0:=by simp[hn0]
    have hget:∀(j:Nat) e,((l.map (wv t)).toArray)[j]?=some e->∃x,l[j]?=some x∧e=wv t x:=fun j e he=>by grind
    have key:=zp.fz (φ:=φ) (sz t) (l.map (wv t)).toArray L.blk (L.off+0) c' M hM (by rw[hes];omega) (by
     rw[hes];obtain⟨v',h1,_⟩:=hcs (l.length*sz t - 1) ((qm t l)[l.length*sz t - 1]'(by omega)) (by simp);grind) (by rw[hes];exact hnc) (fun j e he=>by
      grind[wv,Value.cells,wQ]) (fun j k e u u' he hu hu'=>by
      obtain⟨x,hx,rfl⟩:=hget j e he;simp only[wv,Value.cells,zrB]at hu;have hk:k < sz t:=by have:=(zqr.1 hu).1;rwa [wQ]at this
      have h1:=zby t l hx hk;grind)
    rw[hes]at key;exact key
  |slE _ _ _ a' L hL hc=>
   grind
def cvC:(t:Ty)->List SV->SH->Option (T t×List SV×SH)
 |.unit,l,H=>some ((),l,H)
 |.bool,l,H=>match l with
  |.bool b::r=>some (b,r,H)
  |_=>none
 |.int k,l,H=>match l with
  |.int k' n::r=>bif gH k k' then some (n,r,H)else none
  |_=>none
 |.str,l,H=>match l with
  |.str s::r=>some (s,r,H)
  |_=>none
 |.list t,l,H=>match l with
  |.lst t' x _::r=>if h:t'=t then some (kW h x,r,H)else none
  |.nils::r=>some (([]:List (T t)),r,H)
  |.own b::r=>match zo H b with
   |some (.arr nn t' x)=>if h:t'=t then bif Nat.blt 0 (sz t)then some (kW h x,r,jB H b (.fro nn t' x))else none else none
   |some (.fro _ t' x)=>if h:t'=t then bif Nat.blt 0 (sz t)then some (kW h x,r,H)else none else none
   |_=>none
  |_=>none
 |.pair a b,l,H=>match cvC a l H with
  |some (x,l1,H1)=>match cvC b l1 H1 with
   |some (y,l2,H2)=>some ((x,y),l2,H2)
   |none=>none
  |none=>none
def zo0(ν:Nat->Bool)(H H':SH)(cs:List SV)(xs:List Value):Prop:=∀(G:SH),GLe H' G->∀(φ:Ren) (K:Nat->Prop) (w:World) (nx:Nat) (us:List Value),zF φ (zK ν G) K w->VN ν nx G->zD φ (zu (rho ν H) cs) us->zD φ xs us
theorem zT{α:Type}{b:Bool}{x:Option α}{y:α}(h:(bif b then x else none)=some y):b=true∧x=some y:=by grind
theorem TM{n:Nat}(h:Nat.blt 0 n=true):0 < n:=nR h
theorem Xz:∀(t:Ty) {l:List SV} {H:SH} {x:T t} {r:List SV} {H':SH},cvC t l H=some (x,r,H')->∃cs,l=cs++r∧yl H H'∧∀ν,zo0 ν H H' cs (qA t x)
 |.unit,l,H,x,r,H',h=>by simp only[cvC]at h;cases h;exact⟨[],rfl,yl.refl _,fun ν G hG φ K w nx us g hn hr=>by simpa[zu,qA]using hr⟩
 |.bool,l,H,x,r,H',h=>by
  simp only[cvC]at h;split at h
  ·cases h;refine⟨_,(zrz).symm,yl.refl _,fun ν G hG φ K w nx us g hn hr=>by simpa[zu,den,qA]using hr⟩
  ·cases h
 |.int k,l,H,x,r,H',h=>by
  simp only[cvC]at h;split at h
  ·rename_i k' n r';obtain⟨hk,h2⟩:=zT (x:=some (n,r',H)) h;have:=gy hk;subst this;clear h;cases h2;refine⟨_,(zrz).symm,yl.refl _,fun ν G hG φ K w nx us g hn hr=>by simpa[zu,den,qA]using hr⟩
  ·cases h
 |.str,l,H,x,r,H',h=>by
  simp only[cvC]at h;split at h
  ·cases h;refine⟨_,(zrz).symm,yl.refl _,fun ν G hG φ K w nx us g hn hr=>by simpa[zu,den,qA]using hr⟩
  ·cases h
 |.list t,l,H,x,r,H',h=>by
  simp only[cvC]at h;split at h
  ·rename_i t' y full r';split at h
   ·rename_i ht;subst ht;cases h;refine⟨_,(zrz).symm,yl.refl _,fun ν G hG φ K w nx us g hn hr=>?_⟩
    match us,hr with
    |[],hr=>simp[zu,zD]at hr
    |u::us,hr=>
     simp only[zu,zD,den]at hr
     refine⟨?_,hr.2⟩
     cases full with
     |false=>exact hr.1
     |true=>
      have h1:=hr.1;unfold fzV at h1 ⊢;simp only[zqJ,zqD]at h1 ⊢;generalize hs:sz t'=s at h1 ⊢;generalize he:(List.map (wv t') y).toArray=es at h1;show zp φ (.iface s (.tuple (List.map (wv t') (kW rfl y)).toArray)) u;have:kW rfl y=y:=rfl;rw[this,he];cases h1 with
      |fq _ _ b o L hL hn ho hs h=>exact .fz _ _ b o _ L hL hn ho (FW _) hs h
      |fq0 _ a=>exact .fz0 _ _ _
   ·cases h
  ·cases h;refine⟨_,(zrz).symm,yl.refl _,fun ν G hG φ K w nx us g hn hr=>?_⟩
   match us,hr with
   |[],hr=>simp[zu,zD]at hr
   |u::us,hr=>
    simp only[zu,zD,den]at hr
    refine⟨?_,hr.2⟩
    have h1:=hr.1
    cases h1
    exact .fz0 _ _ _
  ·rename_i b r';split at h
   ·rename_i nn t' y hb;split at h
    ·rename_i ht;subst ht;obtain⟨hp,h⟩:=zT h;cases h;refine⟨_,(zrz).symm,Kz hb,fun ν G hG φ K w nx us g hn hr=>?_⟩
     match us,hr with
     |[],hr=>simp[zu,zD]at hr
     |u::us,hr=>
      simp only[zu,zD,den]at hr
      refine⟨?_,hr.2⟩
      have hb2:zo (jB H b (.fro nn t' y)) b=some (.fro nn t' y):=by grind[qU]
      rw[<-(Kz hb).1.rho ν,<-hG.rho ν]at hr
      exact nV g hn (hG.fro hb2) (TM hp) hr.1
    ·cases h
   ·rename_i t' y hb;split at h
    ·rename_i ht;subst ht;obtain⟨hp,h⟩:=zT h;cases h;refine⟨_,(zrz).symm,yl.refl _,fun ν G hG φ K w nx us g hn hr=>?_⟩
     match us,hr with
     |[],hr=>simp[zu,zD]at hr
     |u::us,hr=>
      simp only[zu,zD,den]at hr
      rw[<-hG.rho ν]at hr
      exact⟨nV g hn (hG.fro hb) (TM hp) hr.1,hr.2⟩
    ·cases h
   ·cases h
  ·cases h
 |.pair a b,l,H,x,r,H',h=>by
  simp only[cvC]at h;split at h;case h_2=>cases h
  rename_i x1 l1 H1 h1;split at h;case h_2=>cases h
  rename_i y l2 H2 h2;cases h;obtain⟨c1,rfl,g1,r1⟩:=Xz a h1;obtain⟨c2,rfl,g2,r2⟩:=Xz b h2;refine⟨c1++c2,by simp,g1.trans g2,fun ν G hG φ K w nx us g hn hr=>?_⟩;rw[qO,zrJ]at hr;have hlen:=hr.length;obtain⟨u1,u2,rfl,hl1⟩:∃u1 u2,us=u1++u2∧u1.length=c1.length:=⟨us.take c1.length,us.drop c1.length,by simp,by grind⟩;have hsplit:zD φ (c1.map (den (rho ν H))) u1∧zD φ (c2.map (den (rho ν H))) u2:=by have h3:=hr.take (c1.length);have h4:=hr.drop (c1.length);grind
  refine zD.append ?_ ?_
  ·exact r1 ν G (g2.1.trans hG) φ K w nx u1 g hn (by rw[qO];exact hsplit.1)
  ·have:=r2 ν G hG φ K w nx u2 g hn;rw[qO,g1.1.rho ν]at this;exact this hsplit.2
structure VT where
 agg:Bool
 ty:Ty
def cvE(t:Ty)(x:Option (T t×List SV×SH)):Option (T t×SH):=match x with
 |some (x,[],H)=>some (x,H)
 |_=>none
theorem rj{t:Ty}{y:Option (T t×List SV×SH)}{x:T t}{H:SH}(h:cvE t y=some (x,H)):y=some (x,[],H):=by unfold cvE at h;grind
def cvV(t:VT)(v:SV)(H:SH):Option (T t.ty×SH):=match t with
 |⟨true,t⟩=>match v with
  |.agg cs=>cvE t (cvC t cs H)
  |_=>none
 |⟨false,t⟩=>match v with
  |.agg _=>none
  |v=>cvE t (cvC t [v] H)
def mk1:List SV->SV
 |[v]=>v
 |_=>.junk
def mkV(t:VT)(x:T t.ty):SV:=bif t.agg then .agg (jN t.ty x)else mk1 (jN t.ty x)
theorem PA{t:VT}{v:SV}{H H':SH}{x:T t.ty}(h:cvV t v H=some (x,H')) : yl H H'∧∀ν G,GLe H' G->∀(φ:Ren) (K:Nat->Prop) (w:World) (nx:Nat) (v':Value),zF φ (zK ν G) K w->VN ν nx G->zp φ (den (rho ν H) v) v'->∀ρ,zp φ (den ρ (mkV t x)) v':=by
 obtain⟨ag,t⟩:=t;cases ag with
 |true=>
  simp only[cvV]at h;split at h
  ·rename_i cs;obtain⟨cs1,he,g1,r1⟩:=Xz _ (rj h);simp only[zri]at he;subst he;refine⟨g1,fun ν G hG φ K w nx v' g hn hv ρ=>?_⟩;simp only[mkV,zqJ,den]at hv ⊢;obtain⟨ys,rfl,hl⟩:=hv.agg_inv;refine .agg' ?_;rw[qO,wt];simpa using r1 ν G hG φ K w nx ys.toList g hn (by simpa using hl)
  ·cases h
 |false=>
  have key:∀v:SV,cvE t (cvC t [v] H)=some (x,H')->yl H H'∧∀ν G,GLe H' G->∀(φ:Ren) (K:Nat->Prop) (w:World) (nx:Nat) (v':Value),zF φ (zK ν G) K w->VN ν nx G->zp φ (den (rho ν H) v) v'->∀ρ,zp φ (den ρ (mkV ⟨false,t⟩ x)) v':=by
   intro v h;obtain⟨cs1,he,g1,r1⟩:=Xz _ (rj h);simp only[zri]at he;subst he;refine⟨g1,fun ν G hG φ K w nx v' g hn hv ρ=>?_⟩;have hr:=r1 ν G hG φ K w nx [v'] g hn ⟨hv,trivial⟩;rw[<-wt ρ]at hr;simp only[mkV,zqD];generalize jN t x=e at hr
   match e,hr with
   |[u],hr=>exact hr.1
  simp only[cvV]at h;grind
end Go.Fz.Sy
namespace Go.Fz.Sy
variable {P:Program}
def eqF(P:Program)(eq:TypeId->Value->Value->Option Bool)(xs ys:Array Value):List Field->Option Bool
 |[]=>some true
 | f :: fs => if f.name = "_" then eqF P eq xs ys fs else
  match qH P (part f.type xs f.offset),qH P (part f.type ys f.offset)with
  |some x,some y=>match eq f.type x y with
   |some b=>match eqF P eq xs ys fs with
    |some c=>some (b&&c)
    |none=>none
   |none=>none
  |_,_=>none
def eqS(P:Program):Nat->TypeId->Value->Value->Option Bool
 |0,_,_,_=>none
 |d+1,t,x,y=>match P.underlying t with
  |some .bool=>match x,y with
   |.bool a,.bool b=>some (a == b)
   |_,_=>none
  |some (.int _)=>match x,y with
   |.int k a,.int k' b=>if k=k' then some (a == b)else none
   |_,_=>none
  |some (.struct fields)=>match x,y with
   |.agg xs,.agg ys=>if P.stoodInHeld t then none else eqF P (eqS P d) xs ys fields.toList
   |_,_=>none
  |_=>none
theorem xS{t:TypeId}{d:TypeDesc}(h:P.underlying t=some d):qH P (underlying t)=some d:=by show qH P (Sem.program fun p=>_)=_;simp only[qH];show qH P (Sem.bind (.pure P) _)=_;simp only[Sem.bind,h];rfl
theorem zej{d:Nat}{xs ys:Array Value}(ih:∀(t:TypeId) (x y:Value) (b:Bool),eqS P d t x y=some b->qH P (Op.equalIn d t x y)=some b):∀(fs:List Field) (b:Bool),eqF P (eqS P d) xs ys fs=some b->qH P (forIn fs ((none,()):Option Bool×Unit) fun f __s=>
      if f.name ≠ "_" then do
       let x <-part f.type xs f.offset
       let y <-part f.type ys f.offset
       let e <-Op.equalIn d f.type x y
       if(!e)=true then pure (ForInStep.done (some false,()))else pure (ForInStep.yield (none,()))
      else pure (ForInStep.yield (none,())))=some (if b then(none,())else(some false,()))
 |[],b,h=>by simp only[eqF,PL]at h;subst h;rfl
 |f::fs,b,h=>by
  rw[List.forIn_cons];show qH P (Sem.bind _ _)=_;rw[jv];simp only[eqF]at h;split at h
  ·rename_i hn;rw[zqu (by simp[hn])];show(Option.bind (qH P (Sem.pure _)) _)=_;simp only[qH,zqt];exact zej ih fs b h
  ·rename_i hn;rw[zqI hn];split at h;case h_2=>cases h
   rename_i x y hx hy;split at h;case h_2=>cases h
   rename_i e he;split at h;case h_2=>cases h
   rename_i c hc;cases h;show(Option.bind (qH P (Sem.bind _ _)) _)=_;rw[jv,hx,zqt];show(Option.bind (qH P (Sem.bind _ _)) _)=_;rw[jv,hy,zqt];show(Option.bind (qH P (Sem.bind _ _)) _)=_;rw[jv,ih _ _ _ _ he,zqt];cases e with
   |false=>
    simp only[Bool.not_false,zqF,zsL];rfl
   |true=>
    simp only[zsC,zqB,zqZ,zrS];show(Option.bind (qH P (Sem.pure _)) _)=_;simp only[qH,zqt];exact zej ih fs c hc
theorem zjW:∀(d:Nat) (t:TypeId) (x y:Value) (b:Bool),eqS P d t x y=some b->qH P (Op.equalIn d t x y)=some b:=by
 intro d;induction d with
 |zero=>intro t x y b h;cases h
 |succ d ih=>
  intro t x y b h;simp only[eqS]at h;unfold Op.equalIn;split at h
  ·rename_i hu;split at h
   ·cases h;show qH P ((underlying t).bind _)=_;rw[jv,xS hu,zqt];rfl
   ·cases h
  ·rename_i hu;split at h
   ·split at h
    ·rename_i hk;cases h;show qH P ((underlying t).bind _)=_;rw[jv,xS hu,zqt];simp only[hk,zqF];rfl
    ·cases h
   ·cases h
  ·rename_i fields hu;split at h
   ·rename_i xs ys;split at h
    ·cases h
    ·rename_i hst;show qH P ((underlying t).bind _)=_;rw[jv,xS hu,zqt];dsimp only;show qH P (Sem.bind program _)=_;rw[jv];show qH P (if P.stoodInHeld t=true then _ else _)=_;rw[zqu hst];show qH P (Sem.bind (forIn fields (none,()) _) _)=_;rw[jv,<-Array.forIn_toList,zej ih fields.toList b h];cases b<;>rfl
   ·cases h
  ·cases h
theorem II{op:BinOp}{t:TypeId}{xo yo:Operand}{xs ys:Array Value}(hg:P.eqGuardType P.depth t=false)(ho:op=.eql∨op=.neq):qH P (eqGuard op t xo yo (.agg xs) (.agg ys))=some ():=by
 rcases ho with rfl | rfl<;>
 ·unfold eqGuard;show qH P (Sem.bind program _)=_;rw[jv];show qH P (Sem.bind program _)=_;rw[jv];show qH P (if(!P.eqGuardType P.depth t)=true then _ else _)=_;rw[hg];rfl
theorem znX{t:TypeId}{xs ys:Array Value}{b:Bool}(hg:P.eqGuardType P.depth t=false)(ha:av (.agg xs)=true)(hb:av (.agg ys)=true)(h:eqS P 10000 t (.agg xs) (.agg ys)=some b)(xo yo:Operand) : yF P .eql t xo yo (.agg xs) (.agg ys)=some (.bool b)∧yF P .neq t xo yo (.agg xs) (.agg ys)=some (.bool (!b)):=by
 have he:=zjW 10000 t _ _ b h;constructor
 ·unfold yF sc;simp only[ha,hb,zrH,zqF];have:qH P (do eqGuard .eql t xo yo (.agg xs) (.agg ys);binOp .eql t (.agg xs) (.agg ys))=some (.bool b):=by show qH P (Sem.bind _ _)=_;rw[jv,II hg (.inl rfl),zqt];show qH P (Sem.bind (Op.equalIn 10000 t _ _) _)=_;rw[jv,he];rfl
  rw[this];rfl
 ·unfold yF sc;simp only[ha,hb,zrH,zqF];have:qH P (do eqGuard .neq t xo yo (.agg xs) (.agg ys);binOp .neq t (.agg xs) (.agg ys))=some (.bool (!b)):=by show qH P (Sem.bind _ _)=_;rw[jv,II hg (.inr rfl),zqt];show qH P (Sem.bind (Op.equalIn 10000 t _ _) _)=_;rw[jv,he];rfl
  rw[this];rfl
def MI:Value->Option SV
 |.bool b=>some (.bool b)
 |.int k n=>some (.int k n)
 |.string s=>some (.str s)
 |.pointer none=>some .nilp
 |.slice none 0 0=>some .nils
 |.nilFunc=>some .nilf
 |.map none=>some .nilm
 |_=>none
def TN:List Value->Option (List SV)
 |[]=>some []
 |v::r=>match MI v,TN r with
  |some x,some xs=>some (x::xs)
  |_,_=>none
def ofC:Value->Option SV
 |.agg cs=>(TN cs.toList).map .agg
 |.tuple vs=>(TN vs.toList).map .tup
 |.func (.func f) ⟨[]⟩ ⟨[]⟩=>some (.fn f [] [])
 |v=>MI v
theorem MJ{ρ:Nat->Value}{v:Value}{x:SV}(h:MI v=some x):den ρ x=v∧av1 v=true:=by unfold MI at h;split at h<;>first | (cases h;exact⟨by simp[den],rfl⟩) | cases h
theorem MK{ρ:Nat->Value}:∀{vs:List Value} {xs:List SV},TN vs=some xs->zu ρ xs=vs∧avL vs=true
 |[],xs,h=>by simp only[TN,PL]at h;subst h;exact⟨by simp[zu],rfl⟩
 |v::r,xs,h=>by
  simp only[TN]at h;split at h
  ·rename_i x ys h1 h2;cases h;obtain⟨e1,e2⟩:=MJ (ρ:=ρ) h1;obtain⟨e3,e4⟩:=MK (ρ:=ρ) h2;grind[zu,avL]
  ·cases h
theorem VY{ρ:Nat->Value}{v:Value}{x:SV}(h:ofC v=some x):den ρ x=v∧av v=true:=by
 unfold ofC at h;split at h
 ·simp only[zqp]at h;obtain⟨xs,h1,rfl⟩:=h;obtain⟨e1,e2⟩:=MK (ρ:=ρ) h1;exact⟨by simp[den,e1],by simpa[av]using e2⟩
 ·simp only[zqp]at h;obtain⟨xs,h1,rfl⟩:=h;obtain⟨e1,e2⟩:=MK (ρ:=ρ) h1;exact⟨by simp[den,e1],by simpa[av]using e2⟩
 ·cases h;exact⟨by simp[den,zu],rfl⟩
 ·obtain⟨e1,e2⟩:=MJ (ρ:=ρ) h;refine⟨e1,?_⟩;cases v<;>first | exact e2 | (simp[av1]at e2;done) | (simp[MI]at h)
def okV(H:SH):SV->Bool
 |.junk=>false
 |.own b=>(reg (zo H b)).isSome
 |_=>true
def jF(tm:List SV)(H:SH):Operand->Option SV
 |.tmp t=>match gl tm t with
  |some v=>bif okV H v then some v else none
  |none=>none
 |.const c=>ofC c
 |.func f=>some (.fn f [] [])
 |.global _=>none
theorem qq{tm:List SV}{H:SH}{x:Operand}{v:SV}(h:jF tm H x=some v)(ν:Nat->Bool):opv (zu (rho ν H) tm) x=some (den (rho ν H) v):=by
 unfold jF at h;split at h
 ·rename_i t;split at h;case h_2=>cases h
  rename_i u hu;cases hk:okV H u with
  |false=>rw[hk]at h;cases h
  |true=>
   rw[hk]at h;cases h;rw[xk]at hu;have h1:(zu (rho ν H) tm)[t]?=some (den (rho ν H) v):=by rw[qO,zrF,hu];rfl
   simp only[opv,pG,h1];cases v<;>simp only[den,fzV,okV,zqB]at hk ⊢;rename_i b;unfold rho;cases hr:reg (zo H b)with
   |none=>rw[hr]at hk;cases hk
   |some x=>obtain⟨n,s⟩:=x;cases s<;>rfl
 all_goals grind[VY,rho,opv,den,zu]
def cT(tm:List SV)(H:SH):List Operand->Option (List SV)
 |[]=>some []
 |x::xs=>match jF tm H x,cT tm H xs with
  |some v,some vs=>some (v::vs)
  |_,_=>none
theorem aN{tm:List SV}{H:SH}(ν:Nat->Bool):∀{xs:List Operand} {vs:List SV},cT tm H xs=some vs->Wg (zu (rho ν H) tm) xs=some (zu (rho ν H) vs)
 |[],vs,h=>by grind[cT,Option.some.injEq,Wg,zu]
 |x::xs,vs,h=>by
  simp only[cT]at h;split at h
  ·rename_i v us h1 h2;cases h;simp only[Wg,qq h1 ν,aN ν h2,zu]
  ·cases h
def aO(tm:List SV)(H:SH):List (Nat×Operand)->Option (List (Nat×SV))
 |[]=>some []
 |x::xs=>match jF tm H x.2,aO tm H xs with
  |some v,some vs=>some ((x.1,v)::vs)
  |_,_=>none
theorem cU{tm:List SV}{H:SH}(ν:Nat->Bool):∀{xs:List (Nat×Operand)} {vs:List (Nat×SV)},aO tm H xs=some vs->Jy (zu (rho ν H) tm) xs=some (vs.map fun p=>(p.1,den (rho ν H) p.2))
 |[],vs,h=>by grind[aO,Option.some.injEq,Jy]
 |x::xs,vs,h=>by
  simp only[aO]at h;split at h
  ·rename_i v us h1 h2;cases h;simp only[Jy,qq h1 ν,cU ν h2,zrG]
  ·cases h
def PB(tm:List SV)(H:SH):Option Operand->Option (Option SV)
 |none=>some none
 |some x=>(jF tm H x).map some
theorem VZ{tm:List SV}{H:SH}{x:Option Operand}{v:Option SV}(h:PB tm H x=some v)(ν:Nat->Bool):dE (zu (rho ν H) tm) x=some (v.map (den (rho ν H))):=by cases x<;>grind[PB,Option.some.injEq,Option.map_eq_some_iff,dE,qq]
def Hc(P:Program)(t:TypeId)(cs:List SV)(off:Nat):Option SV:=
 match jh P t,jr P t with
 |some d,some i=>bif Zm d then some (.agg ((cs.drop off).take i.size))else gl cs off
 |_,_=>none
theorem ld(ρ:Nat->Value)(cs:List SV)(n:Nat):zu ρ (cs.drop n)=(zu ρ cs).drop n:=by simp[qO]
theorem lf(ρ:Nat->Value)(cs:List SV)(n:Nat):zu ρ (cs.take n)=(zu ρ cs).take n:=by simp[qO]
theorem wq(ρ:Nat->Value)(cs:List SV):(zu ρ cs).length=cs.length:=by simp[qO]
theorem wF(ρ:Nat->Value)(cs:List SV)(n:Nat):(zu ρ cs)[n]?=(cs[n]?).map (den ρ):=by simp[qO]
theorem lh{ρ:Nat->Value}{t:TypeId}{cs:List SV}{off:Nat}{v:SV}(h:Hc P t cs off=some v):aI P t (zu ρ cs) off=some (den ρ v):=by grind[Hc,aI,Zm,den,lf,ld,xk,wF]
def zek(P:Program)(t:TypeId)(f:Nat):SV->Option SV
 |.agg cs=>match jh P t with
  |some (.struct fields)=>match gl fields.toList f with
   |some fl=>Hc P fl.type cs fl.offset
   |none=>none
  |_=>none
 |_=>none
theorem zh3{ρ:Nat->Value}{t:TypeId}{f:Nat}{x v:SV}(h:zek P t f x=some v):nM P t f (den ρ x)=some (den ρ v):=by unfold zek at h;grind[xk,den,nM,lh]
def ML(P:Program)(s:TypeId)(f:Nat):Option Nat:=match jh P s with
 |some (.struct fields)=>match gl fields.toList f with
  |some fl=>match jr P fl.type with
   |some i=>bif Nat.beq i.size 0 then none else some fl.offset
   |none=>none
  |none=>none
 |_=>none
theorem zcm{s:TypeId}{f n:Nat}(h:ML P s f=some n):∃fields fl i,jh P s=some (.struct fields)∧fields[f]?=some fl∧jr P fl.type=some i∧i.size≠0∧n=fl.offset:=by unfold ML at h;grind[xk,Nat.beq,Nat.ne_of_beq_eq_false]
def rk(P:Program)(s:TypeId)(f:Nat)(x:SV):Option SV:=match ML P s f with
 |some n=>match x with
  |.ptr b o=>some (.ptr b (o+n))
  |.elp b z i k=>some (.elp b z i (k+n))
  |.fel t y k=>some (.fel t y (k+n))
  |_=>none
 |none=>none
theorem TO{ρ:Nat->Value}{s:TypeId}{f:Nat}{x v:SV}(h:rk P s f x=some v) :
  (match Xw P s f (den ρ x)with | some u=>some u | none=>nI P s f (den ρ x))=some (den ρ v):=by
 unfold rk at h
 grind[zcm,den,Xw,Nat.add_assoc,nI,Mx]
def Jz(P:Program)(t:TypeId)(cs:List SV)(o:Nat):Option SV:=match jh P t,jr P t with
 |some d,some i=>bif Zm d then(bif Nat.ble (o+i.size) cs.length then some (.agg ((cs.drop o).take i.size))else none)else gl cs o
 |_,_=>none
def zds(P:Program)(H:SH)(t:TypeId):SV->Option SV
 |.ptr b o=>match zo H b with
  |some (.vars cs)=>Jz P t cs o
  |some (.ro cs)=>Jz P t cs o
  |_=>none
 |.fel ty x k=>Jz P t (jN ty x) k
 |_=>none
theorem CP{ρ:Nat->Value}{t:TypeId}{cs:List SV}{o:Nat}{v:SV}(h:Jz P t cs o=some v){Hd:Hp}{b:Nat}{ro:Bool}(hb:Hd.get b=some (.cells (zu ρ cs) ro)) : uJ P Hd t (.pointer (some ⟨b,o,none⟩))=some (den ρ v):=by grind[Jz,uJ,Zm,Nat.le_of_ble_eq_true,den,lf,ld,wq,xk,wF]
theorem zjX{ρ:Nat->Value}{t:TypeId}{ty:Ty}{x:T ty}{k:Nat}{v:SV}(h:Jz P t (jN ty x) k=some v):dB P t (den ρ (.fel ty x k))=some (den ρ v):=by
 unfold Jz at h;split at h;case h_2=>cases h
 rename_i d i hd hi;have he:qA ty x=zu ρ (jN ty x):=by rw[qO,wt]
 simp only[den,dB,Mx,hd,hi,wv,Value.cells];grind[Zm,Nat.le_of_ble_eq_true,VD,den,lf,ld,wQ,xk,wF]
theorem zbz{ν:Nat->Bool}{H:SH}{t:TypeId}{a v:SV}(h:zds P H t a=some v) :
  (match uJ P (zK ν H) t (den (rho ν H) a)with | some u=>some u | none=>dB P t (den (rho ν H) a))=some (den (rho ν H) v):=by
 unfold zds at h
 split at h
 ·rename_i b o
  split at h
  ·rename_i cs hb
   have hd:(zK ν H).get b=some (.cells (zu (rho ν H) cs) false):=by rw[qe,hb];rfl
   simp only[den,CP h hd]
  ·rename_i cs hb
   have hd:(zK ν H).get b=some (.cells (zu (rho ν H) cs) true):=by rw[qe,hb];rfl
   simp only[den,CP h hd]
  ·cases h
 all_goals grind[uJ,zK,den,rho,zjX]
def wR(op:BinOp)(k:IntKind)(x y:Int):Int:=match op with
 |.and=>k.wrap ((BitVec.ofInt k.bits x&&& BitVec.ofInt k.bits y).toNat)
 |.or=>k.wrap ((BitVec.ofInt k.bits x||| BitVec.ofInt k.bits y).toNat)
 |.xor=>k.wrap ((BitVec.ofInt k.bits x ^^^ BitVec.ofInt k.bits y).toNat)
 |_=>k.wrap ((BitVec.ofInt k.bits x&&& ~~~BitVec.ofInt k.bits y).toNat)
def zlE(op:BinOp)(k:IntKind)(x y:Int):Option SV:=match op with
 |.add=>some (.int k (wrF k (x+y)))
 |.sub=>some (.int k (wrF k (x - y)))
 |.mul=>some (.int k (wrF k (x*y)))
 |.eql=>some (.bool (zj x y))
 |.neq=>some (.bool (!zj x y))
 |.lss=>some (.bool (zg x y))
 |.leq=>some (.bool (!zg y x))
 |.gtr=>some (.bool (zg y x))
 |.geq=>some (.bool (!zg x y))
 |.and=>some (.int k (wR .and k x y))
 |.or=>some (.int k (wR .or k x y))
 |.xor=>some (.int k (wR .xor k x y))
 |.andNot=>some (.int k (wR .andNot k x y))
 |_=>none
theorem lj(k:IntKind):gH k k=true:=by cases k<;>rfl
theorem zlF{t:TypeId}{op:BinOp}{k:IntKind}{a b r:Int}(h:qH P (Op.intBits op k a b)=some (.int k r))(ho:op=.and∨op=.or∨op=.xor∨op=.andNot)(xo yo:Operand):yF P op t xo yo (.int k a) (.int k b)=some (.int k r):=by
 have h1:Vy op (.int k a) (.int k b)=none:=by grind[Vy,lj]
 have:qH P (do eqGuard op t xo yo (.int k a) (.int k b);binOp op t (.int k a) (.int k b))=some (.int k r):=by
  rcases ho with rfl | rfl | rfl | rfl<;>
  ·show qH P (if k≠k then stuck _ else _)=_;grind
 unfold yF sc;rw[h1,this];rfl
theorem zlG{ρ:Nat->Value}{t:TypeId}{op:BinOp}{k:IntKind}{a b:Int}{v:SV}(h:zlE op k a b=some v)(xo yo:Operand):yF P op t xo yo (.int k a) (.int k b)=some (den ρ v):=by
 unfold zlE at h;split at h<;>first | (cases h;done) | skip
 all_goals first
  |(cases h;unfold yF Vy;simp only[lj,zqJ,den];done)
  |(cases h;exact zlF (P:=P) (t:=t) rfl (by simp) xo yo)
def zh4(op:BinOp)(a b:Bool):Option SV:=match op with
 |.eql=>some (.bool (a == b))
 |.neq=>some (.bool (!(a == b)))
 |_=>none
theorem zjY{ρ:Nat->Value}{t:TypeId}{d:TypeDesc}(hu:jh P t=some d)(hd:d=.bool){op:BinOp}{a b:Bool}{v:SV}(h:zh4 op a b=some v)(xo yo:Operand):yF P op t xo yo (.bool a) (.bool b)=some (den ρ v):=by
 subst hd;rw[jx]at hu;have he:qH P (Op.equalIn 10000 t (.bool a) (.bool b))=some (a == b):=zjW 10000 t _ _ _ (by simp[eqS,hu]);unfold zh4 at h;split at h
 ·cases h;have:qH P (do eqGuard .eql t xo yo (.bool a) (.bool b);binOp .eql t (.bool a) (.bool b))=some (.bool (a == b)):=by show qH P (Sem.bind (Op.equalIn 10000 t _ _) _)=_;rw[jv,he];rfl
  grind[Vy,bool,yF,sc,den,av,av1]
 ·cases h;have:qH P (do eqGuard .neq t xo yo (.bool a) (.bool b);binOp .neq t (.bool a) (.bool b))=some (.bool (!(a == b))):=by show qH P (Sem.bind (Op.equalIn 10000 t _ _) _)=_;rw[jv,he];rfl
  grind[Vy,bool,yF,sc,den,av,av1]
 ·cases h
def TP(P:Program)(eq:TypeId->SV->SV->Option Bool)(xs ys:List SV):List Field->Option Bool
 |[]=>some true
 | f :: fs => if f.name = "_" then TP P eq xs ys fs else
  match Hc P f.type xs f.offset,Hc P f.type ys f.offset with
  |some x,some y=>match eq f.type x y with
   |some b=>match TP P eq xs ys fs with
    |some c=>some (b&&c)
    |none=>none
   |none=>none
  |_,_=>none
def zh5(P:Program):Nat->TypeId->SV->SV->Option Bool
 |0,_,_,_=>none
 |d+1,t,x,y=>match jh P t with
  |some .bool=>match x,y with
   |.bool a,.bool b=>some (a == b)
   |_,_=>none
  |some (.int _)=>match x,y with
   |.int k a,.int k' b=>bif gH k k' then some (zj a b)else none
   |_,_=>none
  |some (.struct fields)=>match x,y with
   |.agg xs,.agg ys=>bif P.stoodInHeld t then none else TP P (zh5 P d) xs ys fields.toList
   |_,_=>none
  |_=>none
theorem PC{t:TypeId}{cs:Array Value}{off:Nat}{v:Value}(h:aI P t cs.toList off=some v):qH P (part t cs off)=some v:=by
 unfold aI at h;split at h;case h_2=>cases h
 rename_i d i hu hi;rw[jx]at hu;rw[jt]at hi;have h1:qH P (isAgg t)=some (Zm d):=by unfold isAgg;show qH P ((underlying t).bind _)=_;rw[jv,xS hu,zqt];cases d<;>rfl
 have h2:qH P (sizeOf t)=some i.size:=by unfold sizeOf typeInfo;show qH P (Sem.bind (Sem.bind program _) _)=_;rw[jv,jv];show Option.bind (Option.bind (some P) _) _=_;simp only[zqt];rw[hi];rfl
 unfold part;show qH P (Sem.bind (isAgg t) _)=_;rw[jv,h1,zqt];cases ha:Zm d with
 |true=>
  rw[ha]at h;simp only[zqF,PL]at h;subst h;simp only[zqF];show qH P (Sem.bind (sizeOf t) _)=_;rw[jv,h2,zqt];show some _=some _;congr 2;grind
 |false=>
  rw[ha]at h;simp only[zqB,zqZ]at h ⊢;have:cs[off]?=some v:=by grind
  rw[this];rfl
theorem MM{ρ:Nat->Value}{eq:TypeId->SV->SV->Option Bool}{eqV:TypeId->Value->Value->Option Bool}(ih:∀t x y b,eq t x y=some b->eqV t (den ρ x) (den ρ y)=some b){xs ys:List SV}:∀{fs:List Field} {b:Bool},TP P eq xs ys fs=some b->eqF P eqV (zu ρ xs).toArray (zu ρ ys).toArray fs=some b
 |[],b,h=>by simpa[TP,eqF]using h
 |f::fs,b,h=>by
  simp only[TP]at h;simp only[eqF];split at h
  ·rename_i hn;rw[zqI hn];exact MM ih h
  ·rename_i hn;rw[zqu hn];split at h;case h_2=>cases h
   rename_i x y hx hy;split at h;case h_2=>cases h
   rename_i e he;split at h;case h_2=>cases h
   rename_i c hc;cases h;have h1:=PC (cs:=(zu ρ xs).toArray) (lh (ρ:=ρ) hx);have h2:=PC (cs:=(zu ρ ys).toArray) (lh (ρ:=ρ) hy);simp only[h1,h2,ih _ _ _ _ he,MM ih hc]
theorem zel{ρ:Nat->Value}:∀(d:Nat) (t:TypeId) (x y:SV) (b:Bool),zh5 P d t x y=some b->eqS P d t (den ρ x) (den ρ y)=some b
 |0,_,_,_,_,h=>by cases h
 |d+1,t,x,y,b,h=>by
  simp only[zh5,jx]at h;simp only[eqS];split at h
  ·grind[den]
  ·grind[gy,den,yB]
  ·rename_i fields hu;split at h
   ·cases hst:P.stoodInHeld t with
    |true=>grind
    |false=>
     rw[hst]at h;simp only[hu,den,zqB,zqZ];exact MM (fun t x y b=>zel d t x y b) h
   ·cases h
  ·cases h
def CQ:List SV->Bool
 |[]=>true
 |v::r=>(match v with | .bool _=>true | .int _ _=>true | .str _=>true | _=>false)&&CQ r
theorem rl{ρ:Nat->Value}:∀{cs:List SV},CQ cs=true->avL (zu ρ cs)=true
 |[],_=>rfl
 |v::r,h=>by simp only[CQ,FT]at h;simp only[zu,avL,FT];refine⟨?_,rl h.2⟩;grind[den,av1]
def eqB(P:Program)(op:BinOp)(t:TypeId)(xs ys:List SV):Option SV:=
 bif CQ xs&&(CQ ys&&!P.eqGuardType P.depth t)then
  match zh5 P 10000 t (.agg xs) (.agg ys)with
  |some b=>match op with
   |.eql=>some (.bool b)
   |.neq=>some (.bool (!b))
   |_=>none
  |none=>none
 else none
theorem znY{ρ:Nat->Value}{op:BinOp}{t:TypeId}{xs ys:List SV}{v:SV}(h:eqB P op t xs ys=some v)(xo yo:Operand):yF P op t xo yo (den ρ (.agg xs)) (den ρ (.agg ys))=some (den ρ v):=by
 unfold eqB at h;obtain⟨h1,h⟩:=zT h;simp only[FT,zrq]at h1;obtain⟨h1,h2,h3⟩:=h1;split at h;case h_2=>cases h
 rename_i b hb;have h4:=zel (ρ:=ρ) _ _ _ _ _ hb;simp only[den]at h4 ⊢;have h5:=znX h3 (by simpa[av]using rl h1) (by simpa[av]using rl h2) h4 xo yo;grind[den]
def toV:SV->Option Value
 |.bool b=>some (.bool b)
 |.int k n=>some (.int k n)
 |.str s=>some (.string s)
 |.nilp=>some (.pointer none)
 |.nils=>some (.slice none 0 0)
 |.nilf=>some .nilFunc
 |.nilm=>some (.map none)
 |_=>none
theorem He{ρ:Nat->Value}{v:SV}{u:Value}(h:toV v=some u):den ρ v=u:=by unfold toV at h;grind[den]
def zlH(op:BinOp)(r:Bool):Option SV:=match op with
 |.eql=>some (.bool r)
 |.neq=>some (.bool (!r))
 |_=>none
def zlI(P:Program)(op:BinOp)(t:TypeId)(a b:SV):Option SV:=match jh P t with
 |some d=>
  let r:Option Bool:=match d,a,b with
   |.pointer _,.ptr _ _,.nilp=>some false
   |.pointer _,.nilp,.ptr _ _=>some false
   |_,_,_=>none
  match r with
  |some r=>zlH op r
  |none=>none
 |none=>none
theorem zlJ{ρ:Nat->Value}{op:BinOp}{t:TypeId}{a b v:SV}(h:zlI P op t a b=some v)(xo yo:Operand):yF P op t xo yo (den ρ a) (den ρ b)=some (den ρ v):=by
 unfold zlI at h;split at h;case h_2=>cases h
 rename_i d hd;dsimp only at h;have key:∀(r:Bool),nD P t (den ρ a) (den ρ b)=some r->(av (den ρ a)&&av (den ρ b))=false->Vy op (den ρ a) (den ρ b)=none->zlH op r=some v->yF P op t xo yo (den ρ a) (den ρ b)=some (den ρ v):=by
  intro r h1 h2 h3 h4;unfold zlH at h4;unfold yF;rw[h3];simp only[h2,zqB,zqZ];split at h4
  ·cases h4;simp[h1,den]
  ·cases h4;simp[h1,den]
  ·cases h4
 grind[nD,iQ,den,pH,av,av1,Vy]
def zg4:Option TypeDesc->Bool
 |some .bool=>true
 |_=>false
def zlK(P:Program)(op:BinOp)(t:TypeId)(xo yo:Operand)(a b:SV):Option SV:=match a,b with
 |.int k x,.int k' y=>bif gH k k' then zlE op k x y else none
 |.bool x,.bool y=>bif zg4 (jh P t)then zh4 op x y else none
 |.agg xs,.agg ys=>eqB P op t xs ys
 |.str x,.str y=>match yF P op t xo yo (.string x) (.string y)with
  |some u=>ofC u
  |none=>none
 |a,b=>match toV a,toV b with
  |some x,some y=>match yF P op t xo yo x y with
   |some u=>ofC u
   |none=>none
  |_,_=>zlI P op t a b
theorem zlL{ρ:Nat->Value}{op:BinOp}{t:TypeId}{xo yo:Operand}{a b v:SV}(h:zlK P op t xo yo a b=some v):yF P op t xo yo (den ρ a) (den ρ b)=some (den ρ v):=by
 unfold zlK at h;split at h
 ·grind[gy,den,zlG]
 ·grind[zg4,den,zjY]
 ·exact znY h xo yo
 ·split at h
  ·rename_i u hu;simp only[den,hu,(VY (ρ:=ρ) h).1]
  ·cases h
 ·split at h
  ·rename_i x y hx hy;split at h
   ·rename_i u hu;rw[He (ρ:=ρ) hx,He (ρ:=ρ) hy,hu,(VY (ρ:=ρ) h).1]
   ·cases h
  ·exact zlJ h xo yo
def unS(P:Program)(op:UnOp)(a:SV):Option SV:=match op,a with
 |.not,.bool b=>some (.bool (!b))
 |.neg,.int k n=>some (.int k (wrF k (0 - n)))
 |op,a=>match toV a with
  |some x=>match Mw P op x with
   |some u=>ofC u
   |none=>none
  |none=>none
theorem znZ{ρ:Nat->Value}{op:UnOp}{a v:SV}(h:unS P op a=some v):Mw P op (den ρ a)=some (den ρ v):=by
 unfold unS at h;split at h
 ·cases h;simp[den,Mw]
 ·rename_i k n;cases h;have:qH P (Op.unary .neg (.int k n))=some (.int k (k.wrap (0 - n))):=rfl;simp[den,Mw,av,av1,sc,this,ZB]
 ·split at h
  ·rename_i x hx;split at h
   ·rename_i u hu;rw[He (ρ:=ρ) hx,hu,(VY (ρ:=ρ) h).1]
   ·cases h
  ·cases h
def zh6(P:Program)(s d:TypeId)(a:SV):Option SV:=match a with
 |.int k n=>match jh P s,jh P d with
  |some _,some (.int k')=>some (.int k' (wrF k' n))
  |_,_=>none
 |a=>match toV a with
  |some x=>match nE P s d x with
   |some u=>ofC u
   |none=>none
  |none=>none
theorem zjZ{ρ:Nat->Value}{s d:TypeId}{a v:SV}(h:zh6 P s d a=some v):nE P s d (den ρ a)=some (den ρ v):=by
 unfold zh6 at h;split at h
 ·rename_i k n;split at h
  ·rename_i ds k' h1 h2;cases h;rw[jx]at h1 h2;have:qH P (convert s d (.int k n))=some (.int k' (k'.wrap n)):=by unfold convert;show qH P ((underlying s).bind _)=_;rw[jv,xS h1,zqt];show qH P ((underlying d).bind _)=_;rw[jv,xS h2,zqt];cases ds<;>rfl
   simp[den,nE,av,av1,sc,this,ZB]
  ·cases h
 ·split at h
  ·rename_i x hx;split at h
   ·rename_i u hu;rw[He (ρ:=ρ) hx,hu,(VY (ρ:=ρ) h).1]
   ·cases h
  ·cases h
end Go.Fz.Sy
namespace Go.Fz.Sy
variable {P:Program} {φ:Ren} {K:Nat→Prop} {w:World}
theorem zgq{ρ ρ':Nat->Value}(hρ:∀b,ρ b≠Fz.junk)(h:RLe ρ ρ'){L:SL}{Lc:Loc}(hb:ju φ w Lc (.loop (wW ρ L))):ju φ w Lc (.loop (wW ρ' L)):=by obtain⟨l',h1,h2,h3,h4,h5,h6,h7,D,h8,h9⟩:=hb;exact⟨l',h1,h2,h3,by grind[wW,CO],h5,h6,h7,D,h8,h9⟩
theorem zem{ρ ρ':Nat->Value}(hρ:∀b,ρ b≠Fz.junk)(h:RLe ρ ρ'){nil:Bool}{k:SB}{x:Blk}(hx:qB ρ nil k=some x):∃x',qB ρ' nil k=some x'∧x'.rw=x.rw∧∀φ w L,ju φ w L x->ju φ w L x':=by
 have key:∀(cs:List SV) (ro:Bool) (φ:Ren) (w:World) (L:Loc),ju φ w L (.cells (zu ρ cs) ro)->ju φ w L (.cells (zu ρ' cs) ro):=by rintro cs ro φ w L ⟨arr,el,fr,h1,h2,h3⟩;refine⟨arr,el,fr,h1,fun j v hv=>?_,h3⟩;rw[wF,zqp]at hv;obtain⟨u,hu,rfl⟩:=hv;obtain⟨v',e1,e2⟩:=h2 j (den ρ u) (by rw[wF,hu];rfl);grind[Gs]
 cases k with
 |vars cs=>simp only[qB,PL]at hx;subst hx;exact⟨_,rfl,rfl,key cs false⟩
 |ro cs=>simp only[qB,PL]at hx;subst hx;exact⟨_,rfl,rfl,key cs true⟩
 |loop L=>simp only[qB,PL]at hx;subst hx;exact⟨_,rfl,rfl,fun φ w Lc hb=>zgq hρ h hb⟩
 |arr nn t l=>exact⟨x,hx,rfl,fun _ _ _ hb=>hb⟩
 |roa nn t l=>exact⟨x,hx,rfl,fun _ _ _ hb=>hb⟩
 |fro nn t l=>exact⟨x,hx,rfl,fun _ _ _ hb=>hb⟩
 |gone s n=>exact⟨x,hx,rfl,fun _ _ _ hb=>hb⟩
 |defd=>exact⟨x,hx,rfl,fun _ _ _ hb=>hb⟩
 |hid=>exact⟨x,hx,rfl,fun _ _ _ hb=>hb⟩
 |mpb k ag t l=>exact⟨x,hx,rfl,fun _ _ _ hb=>hb⟩
 |mpf k l=>exact⟨x,hx,rfl,fun _ _ _ hb=>hb⟩
 |abs=>exact⟨x,hx,rfl,fun _ _ _ hb=>hb⟩
theorem zen{ν:Nat->Bool}{ρ ρ':Nat->Value}(hρ:∀b,ρ b≠Fz.junk)(h:RLe ρ ρ'){H:SH}(g:zF φ (xO ν ρ H) K w):zF φ (xO ν ρ' H) K w:=by
 have back:∀b k,(xO ν ρ' H).get b=some k->∃k0,(xO ν ρ H).get b=some k0∧k.rw=k0.rw∧∀φ w L,ju φ w L k0->ju φ w L k:=by
  intro b k hk;rw[yP,zqs]at hk;obtain⟨s,hs,hk⟩:=hk;have:∃k0,qB ρ (ν b) s=some k0:=by
   cases s with
   |vars=>exact⟨_,rfl⟩
   |ro=>exact⟨_,rfl⟩
   |loop=>exact⟨_,rfl⟩
   |_=>exact⟨k,hk⟩
  grind[zem,yP]
 refine⟨fun b k hb=>?_,fun b c k k' L L' hb hc hne hkr hL hL'=>?_,fun b k L hb hkr hL=>?_,g.kin,g.fz,fun b k L c M hb hkr hL hM=>?_⟩
 ·obtain⟨k0,h1,h2,h3⟩:=back b k hb;obtain⟨L,hL,hB⟩:=g.rel b k0 h1;grind
 ·obtain⟨k0,h1,h2,_⟩:=back b k hb;obtain⟨k1,h3,_⟩:=back c k' hc;exact g.sep b c k0 k1 L L' h1 h3 hne (by grind) hL hL'
 ·obtain⟨k0,h1,h2,_⟩:=back b k hb;exact g.prot b k0 L h1 (by grind) hL
 ·obtain⟨k0,h1,h2,_⟩:=back b k hb;exact g.fsep b k0 L c M h1 (by grind) hL hM
theorem vN{r:Option Nat}{o:Oper}{tm:List Value}{H H' H2:Hp}{nx nx':Nat}{v v2:Value}(h:Qv P r o tm H nx v H' nx')(hv:∀φ v',zp φ v v'->zp φ v2 v')(hH:∀φ K w,zF φ H' K w->zF φ H2 K w):Qv P r o tm H nx v2 H2 nx':=
 ⟨h.1,fun φ w K a rc next Q g hf ht hr hk=>h.2 φ w K a rc next Q g hf ht hr fun v' φ' w' x1 x2 x3 x4=>hk v' φ' w' (hv _ _ x1) x2 (hH _ _ _ x3) x4⟩
theorem aP{φ φ1:Ren}{lo mid hi:Nat}(hf:wV φ lo hi)(he:∀n,Ext K φ φ1 n n):wV φ1 lo hi:=⟨hf.1,fun b h3 h4=>by rw[(he b).2.1 b (zqC h4 hf.1) (.inr (FW _))];exact hf.2 b h3 h4⟩
theorem rm{r:Option Nat}{o:Oper}{tm:List Value}{H H1:SH}{H':Hp}{nx nx':Nat}{v:Value}{ν:Nat->Bool}(hg:yl H H1)(h:Qv P r o tm (zK ν H1) nx v H' nx'):Qv P r o tm (zK ν H) nx v H' nx':=
 ⟨h.1,fun φ w K a rc next Q g hf ht hr hk=>by
  obtain⟨φ1,e1,g1⟩:=hg.2 ν φ K w g;have hle:=(e1 0).1;refine h.2 φ1 w K a rc next Q g1 (aP (mid:=0) hf e1) (ht.mono hle) (hr.mono hle) fun v' φ' w' x1 x2 x3 x4=>hk v' φ' w' x1 ?_ x3 x4
  exact((e1 nx).trans x2 (FW _) h.1)⟩
def SOp(P:Program)(rd:Option Nat)(o:Oper)(tm:List SV)(H:SH)(nx:Nat)(v:SV)(H':SH)(nx':Nat):Prop:=jV H H'∧wc H H'∧nx<=nx'∧∀ν,VN ν nx H->VN ν nx' H'∧Qv P rd o (zu (rho ν H) tm) (zK ν H) nx (den (rho ν H') v) (zK ν H') nx'
theorem VN.later{ν:Nat->Bool}{nx nx':Nat}{H:SH}(h:VN ν nx H)(hn:nx<=nx'):VN ν nx' H:=⟨h.empty,fun b hb=>h.old b (by omega),h.nn⟩
theorem uf{rd:Option Nat}{o:Oper}{tm:List SV}{H:SH}{nx nx':Nat}{v:SV}(hn:nx<=nx')(h:∀ν,jU P (zu (rho ν H) tm) (zK ν H) nx o=some (den (rho ν H) v,zK ν H,nx')):SOp P rd o tm H nx v H nx':=
 ⟨jV.refl H,wc.refl H,hn,fun ν hv=>⟨hv.later hn,ym (h ν)⟩⟩
theorem Va{H:SH}{b:Nat}{cs ds:List SV}(hb:zo H b=some (.vars cs))(c:Nat):reg (zo (jB H b (.vars ds)) c)=reg (zo H c):=by grind[qU,reg]
theorem wu{H H':SH}(h:∀c,reg (zo H' c)=reg (zo H c))(ν:Nat->Bool):rho ν H'=rho ν H:=by grind[rho]
theorem vy{H H':SH}(h:∀c,reg (zo H' c)=reg (zo H c))(h2:∀c,ji (zo H' c)=true->ji (zo H c)=true){ν:Nat->Bool}{nx:Nat}(v:VN ν nx H):VN ν nx H':=⟨fun b n hr=>v.empty b n (by grind),v.old,fun b hb=>v.nn b (h2 b hb)⟩
theorem CR{H:SH}{b:Nat}{cs ds:List SV}(hb:zo H b=some (.vars cs))(c:Nat)(h:ji (zo (jB H b (.vars ds)) c)=true):ji (zo H c)=true:=by grind[qU,ji]
theorem ZF{H:SH}{b:Nat}{k k':SB}(hb:zo H b=some k)(hk:∀L,k≠.loop L):wc H (jB H b k'):=fun l L hl=>by
 refine⟨L.st,L.pend,?_⟩;rw[qU,zqu]
 ·exact hl
 grind
theorem zlM{ν:Nat->Bool}{H:SH}{b:Nat}{cs ds:List SV}(hb:zo H b=some (.vars cs)){Hd:Hp}(hd:Hd=(zK ν H).set b (.cells (zu (rho ν H) ds) false))(g:zF φ Hd K w):zF φ (zK ν (jB H b (.vars ds))) K w:=by refine g.sub fun c k hc=>?_;grind[qe,qU,wu,Va,Hp.get_set,qB]
def WZ:SV->List SV
 |.agg cs=>cs
 |v=>[v]
def lk:SV->Bool
 |.tup _=>false
 |_=>true
theorem zg5(ν:Nat->Bool)(H:SH)(b:Nat):(rho ν H b).cells=#[rho ν H b]∧(rho ν H b).oneCell'=true∧ab (rho ν H b)=true:=by
 unfold rho;split
 ·exact⟨rfl,rfl,rfl⟩
 ·exact⟨rfl,rfl,rfl⟩
 ·exact⟨rfl,rfl,rfl⟩
theorem QU{ν:Nat->Bool}{H:SH}{v:SV}(h:lk v=true):(den (rho ν H) v).cells.toList=zu (rho ν H) (WZ v)∧ab (den (rho ν H) v)=true:=by cases v<;>simp[den,WZ,zu,Value.cells,ab,lk,fzV,Fz.junk]at h ⊢;obtain⟨h1,_,h3⟩:=zg5 ν H ‹Nat›;refine⟨?_,h3⟩;grind[Value.cells]
def zeo:List SV->Bool
 |[]=>true
 |v::r=>(match v with | .agg _=>false | .tup _=>false | .junk=>false | _=>true)&&zeo r
theorem zep{ν:Nat->Bool}{H:SH}:∀{cs:List SV},zeo cs=true->Qd (zu (rho ν H) cs)=true
 |[],_=>rfl
 |v::r,h=>by simp only[zeo,FT]at h;simp only[zu,Qd,FT];refine⟨?_,zep h.2⟩;cases v<;>simp[den,Value.oneCell',fzV]at h ⊢;exact(zg5 ν H _).2.1
def CT(cs:List SV)(o:Nat)(vs:List SV):List SV:=cs.take o++vs++cs.drop (o+vs.length)
theorem MN(ρ:Nat->Value)(cs:List SV)(o:Nat)(vs:List SV):zu ρ (CT cs o vs)=spl (zu ρ cs) o (zu ρ vs):=by simp[CT,spl,qO]
def MO{α:Type}:List α->Nat->Bool
 |[],n=>Nat.beq n 0
 |_::r,n=>match n with
  |0=>false
  |m+1=>MO r m
theorem dx{α:Type}:∀{l:List α} {n:Nat},MO l n=true->l.length=n
 |[],n,h=>(zpK h).symm
 |_::r,0,h=>by cases h
 |_::r,m+1,h=>by simp[dx (l:=r) h]
def zeq(P:Program)(H:SH)(t:TypeId)(a x:SV):Option SH:=match a with
 |.ptr b o=>match zo H b,jr P t with
  |some (.vars cs),some i=>match WZ x with
   |xs=>bif lk x&&(MO xs i.size&&(zeo xs&&Nat.ble (o+i.size) cs.length))then some (match xs with | []=>H | xs=>jB H b (.vars (CT cs o xs)))else none
  |_,_=>none
 |_=>none
theorem zj0{rd:Option Nat}{o:Oper}{tm:List SV}{H H':SH}{nx:Nat}{t:TypeId}{ao xo:Operand}{a x:SV}(ho:o.op=.store t ao xo)(ha:jF tm H ao=some a)(hx:jF tm H xo=some x)(h:zeq P H t a x=some H'):SOp P rd o tm H nx (.tup []) H' nx:=by
 unfold zeq at h;split at h;case h_2=>cases h
 rename_i b off;split at h;case h_2=>cases h
 rename_i cs i hb hi;dsimp only at h;obtain⟨hc,h⟩:=zT h;simp only[FT]at hc;obtain⟨h1,h2,h3,h4⟩:=hc;have h2:=dx h2;have h4:=zqH h4;have hd:∀ν,(zK ν H).get b=some (.cells (zu (rho ν H) cs) false):=fun ν=>by rw[qe,hb];rfl
 have hcond:∀ν,(ab (den (rho ν H) x)&&(den (rho ν H) x).cells.toList.length == i.size&&Qd (den (rho ν H) x).cells.toList&&decide (off+(den (rho ν H) x).cells.toList.length<=(zu (rho ν H) cs).length))=true:=fun ν=>by grind[QU,wq,zep]
 cases hxs:WZ x with
 |nil=>
  rw[hxs]at h;cases h;refine uf (FW _) fun ν=>?_;unfold jU;have e0:=hcond ν;have e1:=(QU (ν:=ν) (H:=H) h1).1;rw[hxs]at e1;simp only[ho,qq ha ν,qq hx ν,zqt];grind[den,nG,zu,undef]
 |cons y ys=>
  rw[hxs]at h;cases h;refine⟨fun c z hz=>by rw[Va hb];exact hz,ZF hb (fun L=>by simp),FW _,fun ν hv=>⟨vy (Va hb) (CR hb) hv,?_⟩⟩;have e0:=hcond ν;have e1:=(QU (ν:=ν) (H:=H) h1).1;have hop:jU P (zu (rho ν H) tm) (zK ν H) nx o=some (undef,(zK ν H).set b (.cells (zu (rho ν H) (CT cs off (y::ys))) false),nx):=by unfold jU;simp only[ho,qq ha ν,qq hx ν,zqt];grind[den,nG,MN,zu,rho]
  exact vN (ym hop) (fun φ v' hv=>by simpa[den,zu,undef]using hv) (fun φ K w g=>zlM hb rfl g)
def kX(H:SH)(nx:Nat)(k:SB):Option SH:=match zo H nx with
 |none=>some ((nx,k)::H)
 |some _=>none
theorem yQ{H H':SH}{nx:Nat}{k:SB}(h:kX H nx k=some H'):zo H nx=none∧H'=(nx,k)::H:=by grind[kX]
theorem xI{H:SH}{nx:Nat}{k:SB}(h:zo H nx=none):jV H ((nx,k)::H):=fun b x hx=>by
 rw[qd];by_cases hb:nx=b
 ·subst hb;rw[h]at hx;cases hx
 grind
theorem xY{H:SH}{nx:Nat}{k:SB}(h:zo H nx=none):wc H ((nx,k)::H):=fun l L hl=>by refine⟨L.st,L.pend,?_⟩;rw[qd];by_cases hb:nx=l;all_goals simp_all
theorem ZG{H:SH}{nx:Nat}{k:SB}{ν:Nat->Bool}(h:VN ν nx H):VN ν (nx+1) ((nx,k)::H):=⟨fun b n hr=>WY hr,fun b hb=>h.old b (by omega),fun b hb=>by
 rw[qd]at hb;by_cases hbn:nx=b
 ·subst hbn;exact h.old nx (FW _)
 ·rw[zqu hbn]at hb;exact h.nn b hb⟩
theorem Ya{ν:Nat->Bool}{H:SH}{nx:Nat}{k:SB}{x:Blk}(hn:zo H nx=none)(hx:qB (rho ν ((nx,k)::H)) (ν nx) k=some x)(g:zF φ ((nx,x)::zK ν H) K w):zF φ (zK ν ((nx,k)::H)) K w:=by
 have h1:RLe (rho ν H) (rho ν ((nx,k)::H)):=dP ν (xI hn);have hget:∀b,(zK ν ((nx,k)::H)).get b=if b=nx then some x else(xO ν (rho ν ((nx,k)::H)) H).get b:=by grind[qe,qd,yP]
 have back:∀b k',(zK ν ((nx,k)::H)).get b=some k'->b≠nx->∃k0,(zK ν H).get b=some k0∧k'.rw=k0.rw∧∀φ w L,ju φ w L k0->ju φ w L k':=by
  intro b k' hb hne;rw[hget,zqu hne,yP,zqs]at hb;obtain⟨s,hs,hk⟩:=hb;have:∃k0,qB (rho ν H) (ν b) s=some k0:=by
   cases s with
   |vars=>exact⟨_,rfl⟩
   |ro=>exact⟨_,rfl⟩
   |loop=>exact⟨_,rfl⟩
   |_=>exact⟨k',hk⟩
  grind[zem,vv,qe]
 have at_nx:∀k',(zK ν ((nx,k)::H)).get nx=some k'->k'=x:=fun k' hk=>by grind
 have gnx:Hp.get ((nx,x)::zK ν H) nx=some x:=by simp[Hp.get_cons]
 have goth:∀b k0,b≠nx->(zK ν H).get b=some k0->Hp.get ((nx,x)::zK ν H) b=some k0:=fun b k0 hb h0=>by grind[Hp.get_cons]
 have all:∀b k',(zK ν ((nx,k)::H)).get b=some k'->∃k0,Hp.get ((nx,x)::zK ν H) b=some k0∧k'.rw=k0.rw∧∀φ w L,ju φ w L k0->ju φ w L k':=by grind
 refine⟨fun b k' hb=>?_,fun b c k1 k2 L L' hb hc hne hkr hL hL'=>?_,fun b k1 L hb hkr hL=>?_,g.kin,g.fz,fun b k1 L c M hb hkr hL hM=>?_⟩
 ·obtain⟨k0,e1,_,e3⟩:=all b k' hb;obtain⟨L,hL,hB⟩:=g.rel b k0 e1;grind
 ·obtain⟨k0,e1,e2,_⟩:=all b k1 hb;obtain⟨k3,e4,_⟩:=all c k2 hc;exact g.sep b c k0 k3 L L' e1 e4 hne (by grind) hL hL'
 ·obtain⟨k0,e1,e2,_⟩:=all b k1 hb;exact g.prot b k0 L e1 (by grind) hL
 ·obtain⟨k0,e1,e2,_⟩:=all b k1 hb;exact g.fsep b k0 L c M e1 (by grind) hL hM
theorem zgr{rd:Option Nat}{o:Oper}{tm:List SV}{H:SH}{nx:Nat}{cs:List SV}(hn:zo H nx=none)(h:∀ν,jU P (zu (rho ν H) tm) (zK ν H) nx o=some (.pointer (some ⟨nx,0,none⟩),(nx,.cells (zu (rho ν H) cs) false)::zK ν H,nx+1)):SOp P rd o tm H nx (.ptr nx 0) ((nx,.vars cs)::H) (nx+1):=by
 refine⟨xI hn,xY hn,zqv _,fun ν hv=>⟨ZG hv,vN (ym (h ν)) (fun φ v' hv=>by simpa[den]using hv) (fun φ K w g=>?_)⟩⟩;have hr:rho ν ((nx,.vars cs)::H)=rho ν H:=wu (fun c=>by
  grind[qd,reg]) ν
 refine Ya hn (x:=.cells (zu (rho ν H) cs) false) ?_ g;simp[qB,hr]
theorem PD{rd:Option Nat}{o:Oper}{tm:List SV}{H:SH}{nx:Nat}{ty:Ty}{l:List (T ty)}(hn:zo H nx=none)(h:∀ν,jU P (zu (rho ν H) tm) (zK ν H) nx o=some (.pointer (some ⟨nx,0,none⟩),(nx,.cells (qm ty l) false)::zK ν H,nx+1)):SOp P rd o tm H nx (.ptr nx 0) ((nx,.arr true ty l)::H) (nx+1):=by refine⟨xI hn,xY hn,zqv _,fun ν hv=>⟨ZG hv,vN (ym (h ν)) (fun φ v' hv=>by simpa[den]using hv) (fun φ K w g=>?_)⟩⟩;refine Ya hn (x:=.cells (qm ty l) false) ?_ g;simp[qB,jE]
def zj1(P:Program)(t:TypeId):Bool:=match jh P t with
 |some (.array n e)=>Nat.ble 8 n&&(match jh P e with
  |some .bool=>true
  |some (.int _)=>true
  |_=>false)
 |_=>false
def CU:List SV->Bool
 |[]=>true
 |.bool false::r=>CU r
 |_=>false
def zdt(k:IntKind):List SV->Bool
 |[]=>true
 |.int k' 0::r=>gH k k'&&zdt k r
 |_=>false
def znu:List SV->IntKind
 |.int k _::_=>k
 |_=>.i64
theorem PE{ρ:Nat->Value}:∀{cs:List SV},CU cs=true->zu ρ cs=qm .bool (List.replicate cs.length false)
 |[],_=>by simp[zu,qm]
 |v::r,h=>by
  unfold CU at h;split at h
  ·grind
  ·rename_i r' heq;cases heq;simp only[zu,den,zru,zrK];rw[PE h];rfl
  ·cases h
theorem zbA{ρ:Nat->Value}{k:IntKind}:∀{cs:List SV},zdt k cs=true->zu ρ cs=qm (.int k) (List.replicate cs.length (0:Int))
 |[],_=>by simp[zu,qm]
 |v::r,h=>by
  unfold zdt at h;split at h
  ·grind
  ·rename_i k' r' heq;cases heq;simp only[FT]at h;have:=gy h.1;subst this;simp only[zu,den,zru,zrK];rw[zbA h.2];rfl
  ·cases h
def zer(P:Program)(H:SH)(nx:Nat)(t:TypeId):Option SH:=match jr P t with
 |some i=>match i.zero with
  |some z=>match ofC z with
   |some (.agg cs)=>match jh P t with
    |some (.array n _)=>bif lk (.agg cs)&&MO cs n then(bif CU cs then kX H nx (.arr true .bool (List.replicate n false))else bif zdt (znu cs) cs then kX H nx (.arr true (.int (znu cs)) (List.replicate n (0:Int)))else none)else none
    |_=>none
   |_=>none
  |none=>none
 |none=>none
theorem zj2{rd:Option Nat}{o:Oper}{tm:List SV}{H H':SH}{nx:Nat}{t:TypeId}(ho:o.op=.alloc t)(h:zer P H nx t=some H'):SOp P rd o tm H nx (.ptr nx 0) H' (nx+1):=by
 unfold zer at h;split at h;case h_2=>cases h
 rename_i i hi;split at h;case h_2=>cases h
 rename_i z hz;split at h;case h_2=>cases h
 rename_i cs hc;split at h;case h_2=>cases h
 rename_i n _ hu;obtain⟨hf0,h⟩:=zT h;simp only[FT]at hf0;obtain⟨hf,hln⟩:=hf0;have:=dx hln;subst this;have key:∀ν,jU P (zu (rho ν H) tm) (zK ν H) nx o=some (.pointer (some ⟨nx,0,none⟩),(nx,.cells (zu (rho ν H) cs) false)::zK ν H,nx+1):=fun ν=>by obtain⟨e1,e2⟩:=VY (ρ:=rho ν H) hc;obtain⟨e3,e4⟩:=QU (ν:=ν) (H:=H) hf;rw[e1]at e3 e4;unfold jU;simp only[ho,hi,hz,e2,zqF,Kq,e4];rw[e3];rfl
 cases hq:CU cs with
 |true=>
  rw[hq]at h;obtain⟨e1,rfl⟩:=yQ h;grind[PD,PE]
 |false=>
  rw[hq]at h;simp only[zqD]at h;obtain⟨hz2,h⟩:=zT h;obtain⟨e1,rfl⟩:=yQ h;grind[PD,zbA]
end Go.Fz.Sy
namespace Go.Fz.Sy
variable {P:Program}
theorem CV:∀(xs:List Value) (k off:Nat) (cs:Array Value),off+k+xs.length<=cs.size->((xs.zipIdx k).foldl (fun(cs:Array Value) (p:Value×Nat)=>cs.setIfInBounds (off+p.2) p.1) cs).toList=spl cs.toList (off+k) xs
 |[],k,off,cs,h=>by simp[spl]
 |x::xs,k,off,cs,h=>by simp only[zru]at h;simp only[ztw,zsH];rw[CV xs (k+1) off _ (by simp;omega)];apply zrj;grind[nC,Array.toList_setIfInBounds,List.length_cons,Array.length_toList,List.getElem?_cons_zero,List.getElem?_cons_succ]
def rp(place:Nat->Option (Nat×Nat))(cs:List SV):List (Nat×SV)->Option (List SV)
 |[]=>some cs
 |(i,v)::r=>match place i with
  |some (off,size)=>match WZ v with
   |xs=>bif lk v&&(MO xs size&&Nat.ble (off+size) cs.length)then rp place (CT cs off xs) r else none
  |none=>none
theorem ln{ν:Nat->Bool}{H:SH}(place:Nat->Option (Nat×Nat)):∀{ps:List (Nat×SV)} {cs out:List SV},rp place cs ps=some out->Instr.fill place (zu (rho ν H) cs).toArray (ps.map fun p=>(p.1,den (rho ν H) p.2))=some (zu (rho ν H) out).toArray∧pL (ps.map fun p=>(p.1,den (rho ν H) p.2))=true
 |[],cs,out,h=>by simp only[rp,PL]at h;subst h;exact⟨rfl,rfl⟩
 |(i,v)::r,cs,out,h=>by
  simp only[rp]at h;split at h;case h_2=>cases h
  rename_i off size hp;obtain⟨hc,h2⟩:=zT h;simp only[FT]at hc;obtain⟨h3,h4,h5⟩:=hc;have h4:=dx h4;have h5:=zqH h5;obtain⟨e1,e2⟩:=QU (ν:=ν) (H:=H) h3;obtain⟨f1,f2⟩:=ln (ν:=ν) (H:=H) place h2;have hsz:(den (rho ν H) v).cells.size=size:=by grind[List.length,wq]
  refine⟨?_,by simp only[zrG,pL,e2,f2,zrH]⟩;simp only[zrG,Instr.fill,hp];rw[zqu]
  ·rw[<-f1];congr 1;apply zrM;rw[<-ztj,ztd];have:=CV (den (rho ν H) v).cells.toList 0 off (zu (rho ν H) cs).toArray (by simp[hsz,wq];omega);grind[MN]
  ·simp[hsz,wq];omega
def zes(P:Program)(t:TypeId)(ps:List (Nat×SV)):Option SV:=match jr P t with
 |some i=>match i.zero with
  |some z=>match ofC z with
   |some (.agg zs)=>match jh P t with
    |some (.struct fields)=>match zgY P fields with
     |some places=>(rp (fun i=>places[i]?) zs ps).map .agg
     |none=>none
    |some (.array _ e)=>match jr P e with
     |some ie=>(rp (fun i=>some (i*ie.size,ie.size)) zs ps).map .agg
     |none=>none
    |_=>none
   |_=>none
  |none=>none
 |none=>none
theorem zh7{ν:Nat->Bool}{H:SH}{t:TypeId}{ps:List (Nat×SV)}{v:SV}(h:zes P t ps=some v):nK P t (ps.map fun p=>(p.1,den (rho ν H) p.2))=some (den (rho ν H) v):=by
 unfold zes at h;split at h;case h_2=>cases h
 rename_i i hi;split at h;case h_2=>cases h
 rename_i z hz;split at h;case h_2=>cases h
 rename_i zs hzs;obtain⟨e1,e2⟩:=VY (ρ:=rho ν H) hzs;simp only[den]at e1;have e3:z.cells=(zu (rho ν H) zs).toArray:=by rw[<-e1];rfl
 have e4:avL (zu (rho ν H) zs)=true:=by grind[av]
 unfold nK;split at h
 ·rename_i fields hu;split at h;case h_2=>cases h
  rename_i places hp;simp only[zqp]at h;obtain⟨out,ho,rfl⟩:=h;obtain⟨f1,f2⟩:=ln (ν:=ν) (H:=H) _ ho;grind[Bool.and_self,den]
 ·rename_i n e hu;split at h;case h_2=>cases h
  rename_i ie hie;simp only[zqp]at h;obtain⟨out,ho,rfl⟩:=h;obtain⟨f1,f2⟩:=ln (ν:=ν) (H:=H) _ ho;grind[Bool.and_self,den]
 ·cases h
def zlN(P:Program)(H:SH)(t:TypeId)(v:SV):Option SV:=match jh P t with
 |some (.slice _)=>match v with
  |.lst ty l _=>some (.int .i64 l.length)
  |.nils=>some (.int .i64 0)
  |.slv _ n=>some (.int .i64 n)
  |_=>none
 |some .string=>match v with
  |.str s=>some (.int .i64 s.size)
  |_=>none
 |_=>none
theorem zlO{ν:Nat->Bool}{H:SH}{t:TypeId}{x v:SV}(h:zlN P H t x=some v):cL P t (den (rho ν H) x)=some (den (rho ν H) v):=by
 unfold zlN at h;split at h
 ·grind[den,cL,fzV,vr,goInt]
 ·rename_i hu;split at h
  ·rename_i s;cases h;rw[jx]at hu;have:qH P (Builtin.len_ #[t] 0 #[.string s])=some (goInt s.size):=by unfold Builtin.len_;show qH P ((underlying t).bind _)=_;rw[jv,xS hu,zqt];rfl
   simp[den,cL,vr,av,av1,sc,this,goInt]
  ·cases h
 ·cases h
def wN(x y:Int):Int:=bif zg y x then y else x
def jY(x y:Int):Int:=bif zg x y then y else x
def gJ(k:IntKind)(x:Int):List SV->Option Int
 |[]=>some x
 |.int k' y::r=>bif gH k k' then gJ k (wN x y) r else none
 |_=>none
def gK(k:IntKind)(x:Int):List SV->Option Int
 |[]=>some x
 |.int k' y::r=>bif gH k k' then gK k (jY x y) r else none
 |_=>none
theorem zlP(k k':IntKind)(x y:Int):Builtin.min2 (.int k x) (.int k' y)=pure (.int k (wN x y)):=by grind[Builtin.min2,wN,wO]
theorem zlQ(k k':IntKind)(x y:Int):Builtin.max2 (.int k x) (.int k' y)=pure (.int k (jY x y)):=by grind[Builtin.max2,jY,wO]
theorem zet{ρ:Nat->Value}{k:IntKind}:∀{r:List SV} {x z:Int},gJ k x r=some z->qH P ((zu ρ r).foldlM Builtin.min2 (.int k x))=some (.int k z)∧avL (zu ρ r)=true
 |[],x,z,h=>by simp only[gJ,PL]at h;subst h;exact⟨rfl,rfl⟩
 |.int k' y::r,x,z,h=>by simp only[gJ]at h;obtain⟨h1,h2⟩:=zT h;obtain⟨e1,e2⟩:=zet (ρ:=ρ) h2;grind[zu,den,avL,av1,zlP]
 |.bool _::_,_,_,h=>by simp[gJ]at h
 |.str _::_,_,_,h=>by simp[gJ]at h
 |.agg _::_,_,_,h=>by simp[gJ]at h
 |.tup _::_,_,_,h=>by simp[gJ]at h
 |.ptr _ _::_,_,_,h=>by simp[gJ]at h
 |.nilp::_,_,_,h=>by simp[gJ]at h
 |.lst _ _ _::_,_,_,h=>by simp[gJ]at h
 |.own _::_,_,_,h=>by simp[gJ]at h
 |.nils::_,_,_,h=>by simp[gJ]at h
 |.elp _ _ _ _::_,_,_,h=>by simp[gJ]at h
 |.fel _ _ _::_,_,_,h=>by simp[gJ]at h
 |.fn _ _ _::_,_,_,h=>by simp[gJ]at h
 |.yld _::_,_,_,h=>by simp[gJ]at h
 |.nilf::_,_,_,h=>by simp[gJ]at h
 |.nilm::_,_,_,h=>by simp[gJ]at h
 |.mp _::_,_,_,h=>by simp[gJ]at h
 |.slv _ _::_,_,_,h=>by simp[gJ]at h
 |.junk::_,_,_,h=>by simp[gJ]at h
theorem zeu{ρ:Nat->Value}{k:IntKind}:∀{r:List SV} {x z:Int},gK k x r=some z->qH P ((zu ρ r).foldlM Builtin.max2 (.int k x))=some (.int k z)∧avL (zu ρ r)=true
 |[],x,z,h=>by simp only[gK,PL]at h;subst h;exact⟨rfl,rfl⟩
 |.int k' y::r,x,z,h=>by simp only[gK]at h;obtain⟨h1,h2⟩:=zT h;obtain⟨e1,e2⟩:=zeu (ρ:=ρ) h2;grind[zu,den,avL,av1,zlQ]
 |.bool _::_,_,_,h=>by simp[gK]at h
 |.str _::_,_,_,h=>by simp[gK]at h
 |.agg _::_,_,_,h=>by simp[gK]at h
 |.tup _::_,_,_,h=>by simp[gK]at h
 |.ptr _ _::_,_,_,h=>by simp[gK]at h
 |.nilp::_,_,_,h=>by simp[gK]at h
 |.lst _ _ _::_,_,_,h=>by simp[gK]at h
 |.own _::_,_,_,h=>by simp[gK]at h
 |.nils::_,_,_,h=>by simp[gK]at h
 |.elp _ _ _ _::_,_,_,h=>by simp[gK]at h
 |.fel _ _ _::_,_,_,h=>by simp[gK]at h
 |.fn _ _ _::_,_,_,h=>by simp[gK]at h
 |.yld _::_,_,_,h=>by simp[gK]at h
 |.nilf::_,_,_,h=>by simp[gK]at h
 |.nilm::_,_,_,h=>by simp[gK]at h
 |.mp _::_,_,_,h=>by simp[gK]at h
 |.slv _ _::_,_,_,h=>by simp[gK]at h
 |.junk::_,_,_,h=>by simp[gK]at h
def zev(P:Program)(H:SH)(b:Builtin)(ts:List TypeId)(vs:List SV):Option SV:=match b,ts,vs with
 |.len,[t],[x]=>zlN P H t x
 |.min,_,.int k x::r=>(gJ k x r).map (.int k)
 |.max,_,.int k x::r=>(gK k x r).map (.int k)
 |_,_,_=>none
theorem znv{s:Sem Value}{v:Value}(h:qH P s=some v)(hv:av v=true):sc P s=some v:=by grind[sc]
def zo1(n:Nat):SV->Option SV
 |.tup vs=>gl vs n
 |_=>none
def zh8(P:Program)(tm:List SV)(H:SH)(nx:Nat)(o:Oper):Option (SV×SH×Nat):=
 let un (v:Option SV):Option (SV×SH×Nat):=match v with
  |some v=>some (v,H,nx)
  |none=>none
 let new (v:SV):Option (SV×SH×Nat):=bif lk v then match kX H nx (.vars (WZ v))with
  |some H'=>some (.ptr nx 0,H',nx+1)
  |none=>none
  else none
 match o.op with
 |.move x=>un (jF tm H x)
 |.assign x=>un (jF tm H x)
 |.alloc t=>bif zj1 P t then(match zer P H nx t with
   |some H'=>some (.ptr nx 0,H',nx+1)
   |none=>none)
  else match jr P t with
  |some i=>match i.zero with
   |some z=>match ofC z with
    |some v=>new v
    |none=>none
   |none=>none
  |none=>none
 |.box t x=>match jF tm H x with
  |some v=>new v
  |none=>none
 |.build t ps=>match aO tm H ps.toList with
  |some vs=>un (zes P t vs)
  |none=>none
 |.load t a=>match jF tm H a with
  |some v=>un (zds P H t v)
  |none=>none
 |.store t a x=>match jF tm H a,jF tm H x with
  |some va,some vx=>match zeq P H t va vx with
   |some H'=>some (.tup [],H',nx)
   |none=>none
  |_,_=>none
 |.nilCheck x=>match jF tm H x with
  |some (.ptr b o)=>some (.ptr b o,H,nx)
  |some (.fn f a b)=>some (.fn f a b,H,nx)
  |some (.yld l)=>some (.yld l,H,nx)
  |_=>none
 |.binOp op t x y _=>match jF tm H x,jF tm H y with
  |some a,some b=>un (zlK P op t x y a b)
  |_,_=>none
 |.unOp op _ x=>match jF tm H x with
  |some a=>un (unS P op a)
  |none=>none
 |.convert s d x=>match jF tm H x with
  |some a=>un (zh6 P s d a)
  |none=>none
 |.makeFunc (.func f) fs cs=>match cT tm H fs.toList,cT tm H cs.toList with
  |some a,some b=>some (.fn f a b,H,nx)
  |_,_=>none
 |.fieldAddr s x f=>match jF tm H x with
  |some v=>un (rk P s f v)
  |none=>none
 |.field t x f=>match jF tm H x with
  |some v=>un (zek P t f v)
  |none=>none
 |.extract x n=>match jF tm H x with
  |some v=>un (zo1 n v)
  |none=>none
 |.call {callee:=.builtin b,args,argTypes}=>match cT tm H args.toList with
  |some vs=>match zev P H b argTypes.toList vs with
   |some v=>some (v,H,nx+1)
   |none=>none
  |none=>none
 |_=>none
theorem zj3{rd:Option Nat}{o:Oper}{tm:List SV}{H H':SH}{nx nx':Nat}{x v:SV}(h:(bif lk x then match kX H nx (.vars (WZ x))with
  |some H'=>some (SV.ptr nx 0,H',nx+1)
  |none=>none
  else none)=some (v,H',nx')) (hop:∀ν,jU P (zu (rho ν H) tm) (zK ν H) nx o=Kq (zK ν H) nx (den (rho ν H) x)):SOp P rd o tm H nx v H' nx':=by
 obtain⟨h1,h2⟩:=zT h
 split at h2
 case h_2=>cases h2
 rename_i H2 hn
 cases h2
 obtain⟨e1,rfl⟩:=yQ hn
 grind[zgr,QU,Kq]
theorem ah{rd:Option Nat}{o:Oper}{tm:List SV}{H H':SH}{nx nx':Nat}{x:Option SV}{v:SV}(h:(match x with
  |some v=>some (v,H,nx)
  |none=>none)=some (v,H',nx')) (hop:∀y,x=some y->∀ν,jU P (zu (rho ν H) tm) (zK ν H) nx o=some (den (rho ν H) y,zK ν H,nx)):SOp P rd o tm H nx v H' nx':=by
 grind[uf]
theorem QV{r:Option Nat}{o:Oper}{tm:List Value}{H H':Hp}{nx nx':Nat}{v:Value}(hle:nx<=nx')(hnd:∀c,o.op≠.defer c)(h:∀(φ:Ren) (w:World) (K:Nat->Prop) (a:Act),zF φ H K w->wV φ nx nx'->qS φ tm a.tmps->FU P φ K w nx (execOp a.eval o) v H' nx'):Qv P r o tm H nx v H' nx':=by
 refine⟨hle,fun φ w K a rc next Q g hf ht hr hk=>⟨WV,?_⟩⟩;obtain⟨nxt,w',φ',v',h1,h2,h3,h4,h5,h6,h7⟩:=h φ w K a g hf ht;rw[zsE _ _ _ hnd,h1];rcases h2 with rfl | ⟨rfl,rfl⟩
 ·exact hk v' φ' w' h3 h4 h5 h6
 ·exact hk undef φ' w' h3 h4 h5 h6
theorem zn0{rd:Option Nat}{o:Oper}{tm:List SV}{H H':SH}{nx nx':Nat}{v:SV}(h:zh8 P tm H nx o=some (v,H',nx')):SOp P rd o tm H nx v H' nx':=by
 unfold zh8 at h;dsimp only at h;split at h
 ·rename_i x ho;refine ah h fun y hy ν=>?_;unfold jU;simp only[ho,qq hy ν];rfl
 ·rename_i x ho;refine ah h fun y hy ν=>?_;unfold jU;simp only[ho,qq hy ν];rfl
 ·rename_i t ho;cases hq:zj1 P t with
  |true=>
   grind[zj2]
  |false=>
  rw[hq]at h;simp only[zqD]at h;split at h;case h_2=>cases h
  rename_i i hi;split at h;all_goals grind[zj3,VY,rho,jU]
 ·grind[zj3,jU,qq]
 ·rename_i t ps ho;split at h;case h_2=>cases h
  rename_i vs hvs;refine ah h fun y hy ν=>?_;unfold jU;simp only[ho,cU ν hvs,zqt,zh7 (ν:=ν) (H:=H) hy];rfl
 ·grind[ah,jU,qq,un1,zK,zbz]
 ·grind[zj0]
 ·grind[uf,jU,qq,den]
 ·rename_i op t x y u ho;split at h;case h_2=>cases h
  rename_i a b ha hb;refine ah h fun z hz ν=>?_;unfold jU;simp only[ho,qq ha ν,qq hb ν,zqt,zbe (zlL (ρ:=rho ν H) hz)];rfl
 ·rename_i op t x ho;split at h;case h_2=>cases h
  rename_i a ha;refine ah h fun z hz ν=>?_;unfold jU;simp only[ho,qq ha ν,zqt,znZ (ρ:=rho ν H) hz];rfl
 ·rename_i s d x ho;split at h;case h_2=>cases h
  rename_i a ha;refine ah h fun z hz ν=>?_;unfold jU;simp only[ho,qq ha ν,zqt,zjZ (ρ:=rho ν H) hz];rfl
 ·grind[uf,jU,aN,den]
 ·grind[ah,jU,qq,un1,zK,TO,rho]
 ·rename_i t x f ho;split at h;case h_2=>cases h
  rename_i a ha;refine ah h fun z hz ν=>?_;unfold jU;simp only[ho,qq ha ν,zqt,zh3 (ρ:=rho ν H) hz];rfl
 ·rename_i x n ho;split at h;case h_2=>cases h
  rename_i a ha;refine ah h fun z hz ν=>?_;have:aJ n (den (rho ν H) a)=some (den (rho ν H) z):=by unfold zo1 at hz;grind[xk,den,aJ,wF]
  unfold jU;simp only[ho,qq ha ν,zqt,this];rfl
 ·rename_i b args ats ho;split at h;case h_2=>cases h
  rename_i vs hvs;split at h;case h_2=>cases h
  rename_i y hb;cases h;have plainc:(∀ν,gu P (zK ν H) nx b ats.toList o.type (zu (rho ν H) vs)=some (den (rho ν H) v,zK ν H,nx+1))->SOp P rd o tm H nx v H (nx+1):=fun hd=>
   uf (zqv _) fun ν=>by grind[jU,aN]
  unfold zev at hb;split at hb
  ·rename_i t x hats;refine plainc fun ν=>?_;simp only[hats,gu,zu,zlO (ν:=ν) hb];rfl
  ·rename_i k x r;simp only[zqp]at hb;obtain⟨z,hz,rfl⟩:=hb;refine plainc fun ν=>?_;obtain⟨e1,e2⟩:=zet (P:=P) (ρ:=rho ν H) hz;have h3:qH P (Builtin.min_ ats.toList.toArray o.type (zu (rho ν H) (.int k x::r)).toArray)=some (.int k z):=by grind[Builtin.min_,zu,den]
   have h4:avL (zu (rho ν H) (.int k x::r))=true:=by simp[zu,den,avL,av1,e2]
   simp only[gu,h4,zqF,znv h3 rfl,den];rfl
  ·rename_i k x r;simp only[zqp]at hb;obtain⟨z,hz,rfl⟩:=hb;refine plainc fun ν=>?_;obtain⟨e1,e2⟩:=zeu (P:=P) (ρ:=rho ν H) hz;have h3:qH P (Builtin.max_ ats.toList.toArray o.type (zu (rho ν H) (.int k x::r)).toArray)=some (.int k z):=by grind[Builtin.max_,zu,den]
   have h4:avL (zu (rho ν H) (.int k x::r))=true:=by simp[zu,den,avL,av1,e2]
   simp only[gu,h4,zqF,znv h3 rfl,den];rfl
  ·cases hb
 ·cases h
end Go.Fz.Sy
end
