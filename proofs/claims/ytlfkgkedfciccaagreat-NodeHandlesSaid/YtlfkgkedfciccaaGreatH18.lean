/- Parts of a proof, joined. -/
import Derived.Test.YtlfkgkedfciccaaGreatH17
set_option linter.unusedSectionVars false
set_option linter.unusedVariables false
set_option linter.unusedSimpArgs false
set_option maxHeartbeats 0
set_option maxRecDepth 100000
noncomputable section
namespace Go.Fz.Sy
def WJ{α:Type}(l:List α)(P:α->Prop):Prop:=∀(j:Nat) y,l[j]?=some y->¬P y
def vI{α:Type}(l:List α)(P:α->Prop)(i:Nat):Prop:=(∃x,l[i]?=some x∧P x)∧∀(j:Nat) y,j < i->l[j]?=some y->¬P y
theorem iz{α:Type}(P:α->Prop):∀l:List α,WJ l P∨∃i,vI l P i
 |[]=>.inl fun j y h=>by simp at h
 |x::l=>by
  by_cases hx:P x
  ·exact .inr ⟨0,⟨x,rfl,hx⟩,fun j y hj=>by omega⟩
  ·rcases iz P l with h | ⟨i,⟨y,h1,h2⟩,h3⟩
   ·refine .inl fun j y hj=>?_;cases j with
    |zero=>grind
    |succ j=>exact h j y (by simpa using hj)
   ·refine .inr ⟨i+1,⟨y,by simpa using h1,h2⟩,fun j z hj hz=>?_⟩;grind
theorem Wd{S X α:Type}{B:S->Option (X ⊕ S)}(l:List α)(mk:Nat->S)(P:α->Prop)(J:X->Prop)(hn:l.length<=1000000000000000000)(h:∀(i:Nat) x,i < l.length->l[i]?=some x->zt (B (mk i)) fun r=>(¬P x∧r=.inr (mk (i+1)))∨(P x∧∃y,r=.inl y∧(vI l P i->J y)))(he:zt (B (mk l.length)) fun r=>∃y,r=.inl y∧(WJ l P->J y)){s:S}(hs:s=mk 0):zt (yA B xm s) J:=by
 refine zX l.length (fun i s=>s=mk i∧∀(j:Nat) y,j < i->l[j]?=some y->¬P y) (zfY hn) ⟨hs,fun j y hj=>by omega⟩ ?_ ?_
 ·rintro i _ hi ⟨rfl,hp⟩;have hx:l[i]?=some l[i]:=FL hi;generalize l[i]=x at hx;obtain⟨r,e,h1⟩:=h i x hi hx;refine⟨r,e,?_⟩;rcases h1 with⟨h1,rfl⟩ | ⟨h1,y,rfl,h2⟩
  ·grind[qj,zrD]
  ·exact zw (h2 ⟨⟨x,hx,h1⟩,hp⟩)
 ·rintro _ ⟨rfl,hp⟩;obtain⟨r,e,y,rfl,h2⟩:=he;refine⟨_,e,zw (h2 fun j y hj=>?_)⟩;grind
theorem zci{α:Type}(l:List α)(d:α):Wn (List.replicate (Int.toNat ((l.length:Nat):Int)) d) l=l:=by unfold Wn;simp_all
end Go.Fz.Sy
namespace Go.Proofs.YtlfkgkedfciccaaGreat.nd
open Go Go.Fz Go.Fz.Sy
def kO(port:Int)(x:zQ)(a:qu):Prop:=a.1=port∧a.2.1=x.1∧a.2.2.1=x.2.2.1
def zgd{α:Type}(l:List α)(P:α->Prop)(z:Int):Prop:=(WJ l P∧z = -1)∨∃i:Nat,vI l P i∧z=i
theorem zpE{α:Type}(l:List α)(P:α->Prop):∃z,zgd l P z:=by
 rcases iz P l with h | ⟨i,h⟩
 ·exact⟨-1,.inl ⟨h,rfl⟩⟩
 ·exact⟨i,.inr ⟨i,h,rfl⟩⟩
theorem iA{α:Type}{l:List α}{P:α->Prop}{y z:Int}(h:zgd l P y)(h2:zgd l P z):y=z:=by
 rcases h with⟨h,rfl⟩ | ⟨i,⟨⟨a,ha,hp⟩,hq⟩,rfl⟩
 ·rcases h2 with⟨_,rfl⟩ | ⟨i,⟨⟨a,ha,hp⟩,_⟩,rfl⟩
  ·rfl
  ·exact absurd hp (h i a ha)
 ·rcases h2 with⟨h,rfl⟩ | ⟨j,⟨⟨b,hb,hp2⟩,hq2⟩,rfl⟩
  ·exact absurd hp (h i a ha)
  grind
theorem zjr{f:zK}{port:Int}{x:zQ}{z:Int}(hl:f.1.length<=1000000000000000000)(hz:zgd f.1 (kO port x) z):we (f,port,x,())=some (z,()):=by
 rw[Uv];unfold QL;delta lnC w6C upC aTC nxC exC lpC jzC;refine qF (zk (J:=fun r=>(r.1=0∧WJ f.1 (kO port x))∨(r.1=1∧∃i:Nat,r.2.1.2.2.1=(i:Int)∧vI f.1 (kO port x) i)) (Wd f.1 (fun i=>((port,(x,(0,((i:Int),())))),())) (kO port x) _ hl ?_ ?_ rfl) ?_)
 ·intro i a hi ha;refine zf (zI (show(i:Int) < (f.1.length:Int) by omega)) (zb (zm ha (zd (fun h1=>zd (fun h2=>zd (fun h3=>za (.inr ⟨⟨qg h1,qg h2,qg h3⟩,_,rfl,fun h=>.inr ⟨rfl,i,rfl,h⟩⟩)) fun h3=>za (.inl ⟨fun h=>qn h3 h.2.2,?_⟩)) fun h2=>za (.inl ⟨fun h=>qn h2 h.2.1,?_⟩)) fun h1=>za (.inl ⟨fun h=>qn h1 h.1,?_⟩))));all_goals rw[zO (by omega)]
 ·grind[zD,za]
 ·rintro⟨c,⟨y1,y2,y3,y4,⟨⟩⟩,⟨⟩⟩ (⟨rfl,h⟩ | ⟨rfl,i,hi,h⟩)
  ·refine zx (za ?_);rw[iA hz (.inl ⟨h,rfl⟩)]
  ·simp only at hi;subst hi;refine zu (za ?_);rw[iA hz (.inr ⟨i,h,rfl⟩)]
theorem iB{f:zK}{port:Int}{x:zQ}{z:Int}(hl:f.1.length<=1000000000000000000)(hz:zgd f.1 (kO port x) z):uO (f,port,x,())=some (z,()):=by
 rw[Tc];unfold Ft;delta lnC w6C upC aTC nxC exC lpC jzC;refine qF (zk (J:=fun r=>(r.1=0∧WJ f.1 (kO port x))∨(r.1=1∧∃i:Nat,r.2.1.1=(i:Int)∧vI f.1 (kO port x) i)) (Wd f.1 (fun i=>((0,((i:Int),())),())) (kO port x) _ hl ?_ ?_ rfl) ?_)
 ·intro i a hi ha;refine zf (zI (show(i:Int) < (f.1.length:Int) by omega)) (zb (zm ha (zb (zd (fun h1=>zd (fun h2=>zd (fun h3=>za (zu (za (.inr ⟨⟨qg h1,qg h2,qg h3⟩,_,rfl,fun h=>.inr ⟨rfl,i,rfl,h⟩⟩)))) fun h3=>za (zx (za (.inl ⟨fun h=>qn h3 h.2.2,?_⟩)))) fun h2=>za (zx (za (.inl ⟨fun h=>qn h2 h.2.1,?_⟩)))) fun h1=>za (zx (za (.inl ⟨fun h=>qn h1 h.1,?_⟩)))))));all_goals rw[zO (by omega)]
 ·grind[zD,za]
 ·rintro⟨c,⟨y1,y2,⟨⟩⟩,⟨⟩⟩ (⟨rfl,h⟩ | ⟨rfl,i,hi,h⟩)
  ·refine zx (za ?_);rw[iA hz (.inl ⟨h,rfl⟩)]
  ·simp only at hi;subst hi;refine zu (za ?_);rw[iA hz (.inr ⟨i,h,rfl⟩)]
theorem znd{l:List Int}{i:Nat}{z:Int}(hi:i < l.length)(hl:l.length<=1000000):yc (l,(i:Int),z,())=some (l.set i z,()):=by rw[fR];unfold Kk;delta lnC w6C upC aTC nxC exC lpC jzC;rw[zci];have hx:l[i]?=some l[i]:=FL hi;refine qF (zf (zaZ (by omega) (by omega) (by omega)) (zb (zm hx (zb (jI (by omega) fun _ _=>za ?_)))));grind
theorem zne{l:List qI}{i:Nat}{z:qI}(hi:i < l.length)(hl:l.length<=1000000):wc (l,(i:Int),z,())=some (l.set i z,()):=by rw[Uu];unfold QJ;delta lnC w6C upC aTC nxC exC lpC jzC;rw[zci];have hx:l[i]?=some l[i]:=FL hi;refine qF (zf (zaZ (by omega) (by omega) (by omega)) (zb (zm hx (zb (jI (by omega) fun _ _=>za ?_)))));grind
theorem znf{z P:Int}(hP:0 < P)(hz:z < 0):z % P=(P - (-z) % P) % P:=by
 have h:=zsa (-z) P;have e:z=(P - (-z) % P)+P*(-(-z / P) - 1):=by grind
 conv=>lhs;rw[e]
 rw[Int.add_mul_emod_self_left]
theorem zp4{z P:Int}(h1 : -10000000000000<=z)(h2:z<=10000000000000)(hP:0 < P)(hP2:P<=2400000):Qy (z,P,())=some (z % P,()):=by
 have hr:=zrc z (show P≠0 by omega);have hr2:=zqS z hP;rw[SW];unfold Fc;delta lnC w6C upC aTC nxC exC lpC jzC;refine qF (zi (jc (show P≠0 by omega)) (zi (jc (show P≠0 by omega)) (za ?_)));rcases zte z 0 with h | h
 ·have e1:Int.tmod z P = -((-z) % P):=by
   have:z = -(-z):=by omega
   rw[this,Int.neg_tmod,Int.neg_neg,zqv (by omega)]
  grind[zrc,zqS,zR,zqv,znf]
 ·rw[zqv h,zR (by omega) (by omega),zqv (by omega),Int.add_emod_right,Int.emod_emod]
def JS(a:qu)(last size t:Int):Int×Int:=bif !zj size a.2.2.2.1 then(0,2)else bif zg t a.2.2.2.2.2.1||zg (a.2.2.2.2.2.2 - a.2.2.2.2.2.1) ((t - a.2.2.2.2.2.1) % a.2.2.2.2.1)then(0,3)else bif !zg last ((t - a.2.2.2.2.2.1) / a.2.2.2.2.1)then(0,4)else((t - a.2.2.2.2.2.1) / a.2.2.2.2.1,0)
theorem zlh{a:qu}{last:Int}{x:zQ}{t:Int}(ha:GU a)(hc:a.2.2.1=7)(ht:inP t (-1000) 549755813888):Qo (a,last,x,t,())=some ((JS a last x.2.2.2.1 t).1,(JS a last x.2.2.2.1 t).2,()):=by
 obtain⟨_,_,_,h⟩:=ha;rcases h with h | ⟨_,⟨p0,p1⟩,⟨e0,e1⟩,⟨l0,l1⟩,h5,h6⟩
 ·omega
 obtain⟨t0,t1⟩:=ht;generalize hP:a.2.2.2.2.1=P at p0 p1 h6;generalize hE:a.2.2.2.2.2.1=E at e0 e1 h5 h6;generalize hT:a.2.2.2.2.2.2=Lt at l0 l1 h5 h6;rw[sq];unfold cF;delta lnC w6C upC aTC nxC exC lpC jzC JS;simp only[hP,hE,hT];refine qF ?_;cases hs:(!zj x.2.2.2.1 a.2.2.2.1)with
 |true=>exact za rfl
 |false=>
  refine zi rfl (zi (jc (by omega)) (zb ?_));rw[zR (z:=t - E) (by omega) (by omega)];cases h1:zg t E with
  |true=>exact za (zu (za rfl))
  |false=>
   have h1':=zN h1;have hq:=zrR (show 0<=t - E by omega) (show 0<=P by omega);have hq2:=zsj P (show 0<=t - E by omega);have hde:=zsa (t - E) P;have hr:=zrc (t - E) (show P≠0 by omega);have hm:(t - E) / P*P=(t - E) - (t - E) % P:=by grind
   have hr2:=zqS (t - E) (show 0 < P by omega);have hr3:0<=P*((t - E) / P):=Int.mul_nonneg (by omega) hq;rw[zrf (by omega),zR (z:=(t - E) / P) (by omega) (by omega),hm,zR (z:=t - E - (t - E) % P) (by omega) (by omega),zR (z:=Lt+(t - E - (t - E) % P)) (by omega) (by omega)];rw[zrS];have e:zg (Lt+(t - E - (t - E) % P)) t=zg (Lt - E) ((t - E) % P):=by grind[wL]
   rw[e];cases h2:zg (Lt - E) ((t - E) % P)with
   |true=>exact za (zu (za rfl))
   |false=>
    refine za (zx ?_);grind[zg,za]
end Go.Proofs.YtlfkgkedfciccaaGreat.nd
namespace Go.Proofs.YtlfkgkedfciccaaGreat.nd
open Go Go.Fz Go.Fz.Sy
variable {f:zK} {x:zQ} {a:qu} {port:Int} {i:Nat}
abbrev atT(f:zK)(t:Int):zK:=(f.1,(f.2.1,(t,f.2.2.2)))
abbrev zpF(f:zK)(i:Nat)(z:Int):zK:=(f.1,(f.2.1,(f.2.2.1,(f.2.2.2.1.set i z,f.2.2.2.2))))
abbrev zpG(f:zK)(i:Nat)(z:qI):zK:=(f.1,(f.2.1,(f.2.2.1,(f.2.2.2.1,f.2.2.2.2.set i z))))
theorem zng{t:Int}(hf:Za f)(h1:f.2.2.1<=t)(h2:t<=549755813888):Za (atT f t):=by obtain⟨a,⟨b0,b1⟩,c,d,e,g⟩:=hf;refine⟨a,⟨by grind,h2⟩,c,d,e,fun k p hk=>?_⟩;obtain⟨m,h3,h4,h5⟩:=g k p hk;exact⟨m,h3,h4,by grind⟩
theorem zli{z:Int}(hf:Za f)(ha:f.1[i]?=some a)(hc:a.2.2.1≠6)(hz:0<=z):Za (zpF f i z):=by obtain⟨h1,h2,c,d,e,g⟩:=hf;refine⟨h1,h2,by show(f.2.2.2.1.set i z).length=_;rw[zrZ];exact c,d,fun k b hk=>?_,g⟩;grind[zba,set,zqK,zqr]
structure zqm(f:zK):Prop where
 la:f.1.length<=64
 lp:f.2.1.length<=64
 ll:f.2.2.2.1.length=f.1.length
 lm:f.2.2.2.2.length=f.2.1.length
theorem VV(h:Za f):zqm f:=⟨h.1.1,h.1.2.1,h.2.2.1,h.2.2.2.1⟩
def UN(f:zK)(i:Nat)(a:qu)(last size t:Int):zK×Int:=bif zj a.2.2.1 6 then(f,bif zg a.2.2.2.1 size then 2 else 0)else(bif zj (JS a last size t).2 0 then zpF f i (JS a last size t).1 else f,(JS a last size t).2)
theorem zge(h:GU a):a.2.2.1=6∨a.2.2.1=7:=by obtain⟨_,_,_,h⟩:=h;omega
theorem zgf{last:Int}(hf:Za f)(hi:vI f.1 (kO port x) i)(ha:f.1[i]?=some a)(hl:f.2.2.2.1[i]?=some last) : je f (port,x,f.2.2.1,())=some ((UN f i a last x.2.2.2.1 f.2.2.1).1,(UN f i a last x.2.2.2.1 f.2.2.1).2,()):=by
 have B:=VV hf;obtain⟨t0,t1⟩:=hf.2.1;have hacc:=(hf.1.2.2.1 i a ha).1;rw[Qz];unfold vg;delta lnC w6C upC aTC nxC exC lpC jzC;rw[zjr (by have:=B.la;omega) (.inr ⟨i,hi,rfl⟩),zq];refine qF (zi (zD (show ¬(i:Int) < 0 by omega)) (zb (zm ha ?_)));unfold UN;cases hc:zj a.2.2.1 6 with
 |true=>
  grind[zg,za]
 |false=>
  refine zi rfl ?_;obtain⟨_,_,_,h⟩:=hacc;rcases h with h | ⟨h7,⟨p0,p1⟩,⟨e0,e1⟩,⟨l0,l1⟩,h5,h6⟩
  ·exact absurd h.1 (qn hc)
  unfold JS;generalize hP:a.2.2.2.2.1=P at p0 p1 h6;generalize hE:a.2.2.2.2.2.1=E at e0 e1 h5 h6;generalize hT:a.2.2.2.2.2.2=Lt at l0 l1 h5 h6;generalize ht:f.2.2.1=t at t0 t1;rw[zR (z:=t - E) (by omega) (by omega),zp4 (by omega) (by omega) p0 p1,zq];have hr:=zrc (t - E) (show P≠0 by omega);have hr2:=zqS (t - E) (show 0 < P by omega);have hde:=zsa (t - E) P;have e1:t - E - (t - E) % P=P*((t - E) / P):=by omega
  have hqb : -2000000000000<=(t - E) / P∧(t - E) / P<=2000000000000:=by
   constructor
   ·exact Int.le_ediv_of_mul_le (by omega) (by omega)
   ·have h8:(t - E) / P < 2000000000001:=Int.ediv_lt_of_lt_mul (by omega) (by omega);omega
  rw[zR (z:=t - E - (t - E) % P) (by omega) (by omega)];show zt (bif zj P 0 then none else _) _;rw[e1,Int.mul_tdiv_cancel_left _ (show P≠0 by omega),zR (z:=(t - E) / P) (by omega) (by omega),zR (z:=Lt - E) (by omega) (by omega)];have hneg:(t - E) / P < 0↔t < E:=by rw[Int.ediv_lt_iff_lt_mul (by omega)];omega
  have hsp:∀b:Bool,zg ((t - E) / P) 0=zg t E:=fun _=>by grind[wL]
  generalize hq:(t - E) / P=q at hqb hneg hsp;generalize (t - E) % P=r at hr hr2;refine zi (jc (by omega)) (zk (J:=fun z=>z.2.1.1=(bif !zj x.2.2.2.1 a.2.2.2.1 then(0,2)else bif zg t E||zg (Lt - E) r then(0,3)else bif !zg last q then(0,4)else(q,(0:Int))).2) ?_ ?_)
  ·rw[hsp true];refine zX 3 (fun k st=>st=((0,((k:Int),())),())∧(1<=k->(!zj x.2.2.2.1 a.2.2.2.1)=false)∧(2<=k->(zg t E||zg (Lt - E) r)=false)∧(3<=k->(!zg last q)=false)) (by omega) ⟨rfl,by omega,by omega,by omega⟩ ?_ ?_
   ·rintro k _ hk ⟨rfl,q1,q2,q3⟩;refine zf (zI (show(k:Int) < 3 by omega)) ?_
    match k,hk with
    |0,_=>
     refine zf (wM rfl) ?_;cases hb:(!zj x.2.2.2.1 a.2.2.2.1)with
     |true=>exact za (zw rfl)
     |false=>exact za (qj ⟨rfl,fun _=>rfl,by omega,by omega⟩)
    |1,_=>
     refine zi (jc (by simp)) (zf (wM rfl) ?_);rw[q1 (by omega)];cases hb:zg t E with
     |true=>exact za (zw rfl)
     |false=>
      cases hb2:zg (Lt - E) r with
      |true=>exact zi rfl (za (zw rfl))
      |false=>exact zi rfl (za (qj ⟨rfl,fun _=>rfl,fun _=>rfl,by omega⟩))
    |2,_=>
     refine zi (jc (by simp)) (zi (jc (by simp)) (zf (wM rfl) (zb (zm hl ?_))));rw[q1 (by omega),q2 (by omega)];cases hb:(!zg last q)with
     |true=>exact za (zw rfl)
     |false=>exact za (qj ⟨rfl,fun _=>rfl,fun _=>rfl,fun _=>rfl⟩)
   grind[zD,za,zw]
  ·rintro⟨c,⟨y1,y2,⟨⟩⟩,⟨⟩⟩ hy;simp only at hy;subst hy;have hset:yc (f.2.2.2.1,(i:Int),q,())=some (f.2.2.2.1.set i q,()):=znd (zqr.1 hl).1 (by have:=B.ll;have:=B.la;omega);grind[zj,zb,jc,za,zg,wM,zq]
def sB(f:zK)(i:Nat)(p:jL)(m:qI)(size:Int):zK×Int:=(zpG f i (ZY p.2.1 p.2.2 m (f.2.2.1+1000) size).2,bif zj (ZY p.2.1 p.2.2 m (f.2.2.1+1000) size).1 2 then 5 else 0)
def dq(port:Int)(p:jL):Prop:=p.1=port
theorem FQ(hl:f.2.1.length<=64):zt (yA (fun s0:((Int×(Int×(Int×Unit)))×Unit)=>bif(zg (s0.1.2.2.1) ((((f.2.1).length:Nat):Int)))then opt (atI (f.2.1) (s0.1.2.2.1)) fun x1=>bif(zj (x1.1) (s0.1.1))then some (.inl (1,((s0.1.1,(s0.1.2.2.1,(s0.1.2.2.1,()))),())))else some (.inr ((s0.1.1,(s0.1.2.1,((wrF .i64 ((s0.1.2.2.1+1))),()))),()))else some (.inl (0,((s0.1.1,(s0.1.2.1,(s0.1.2.2.1,()))),())))) xm ((port,(0,(0,()))),())) fun r=>((r.1:Nat)=0∧WJ f.2.1 (dq port))∨(r.1=1∧∃i:Nat,r.2.1.2.1=(i:Int)∧vI f.2.1 (dq port) i):=by
 refine Wd f.2.1 (fun i=>((port,(0,((i:Int),()))),())) (dq port) _ (by omega) ?_ ?_ rfl
 ·intro i a hi ha;refine zf (zI (show(i:Int) < (f.2.1.length:Int) by omega)) (zb (zm ha (zd (fun h1=>za (.inr ⟨qg h1,_,rfl,fun h=>.inr ⟨rfl,i,rfl,h⟩⟩)) fun h1=>za (.inl ⟨fun h=>qn h1 h,?_⟩))));rw[zO (by omega)]
 grind[zD,za]
theorem sC{α:Type}{l:List α}{P:α->Prop}{j:Nat}(h:vI l P i)(h2:vI l P j):i=j:=by obtain⟨⟨a,ha,hp⟩,hq⟩:=h;obtain⟨⟨b,hb,hp2⟩,hq2⟩:=h2;grind
theorem zlj{p:jL}{m:qI}(hf:Za f)(hx:Xd x)(hi:vI f.2.1 (dq port) i)(hp:f.2.1[i]?=some p)(hm:f.2.2.2.2[i]?=some m) : jD f (port,x,f.2.2.1,())=some ((sB f i p m x.2.2.2.1).1,(sB f i p m x.2.2.2.1).2,()):=by
 have B:=VV hf;obtain⟨t0,t1⟩:=hf.2.1;obtain⟨m',h1,h2,h3⟩:=hf.2.2.2.2.2 i p hp;rw[hm]at h1;cases h1;obtain⟨z0,z1⟩:=hx.2.2.2.1;rw[WB];unfold uE;delta lnC w6C upC aTC nxC exC lpC jzC;refine qF (zk (FQ B.lp) ?_);rintro⟨c,⟨y1,y2,y3,⟨⟩⟩,⟨⟩⟩ (⟨rfl,h⟩ | ⟨rfl,j,hj,h⟩)
 ·obtain⟨⟨q,hq,hq2⟩,_⟩:=hi;exact absurd hq2 (h i q hq)
 simp only at hj;subst hj;have:=sC h hi;subst this;refine zu (zi (zD (show ¬(j:Int) < 0 by omega)) (zb (zm hp (zb (zm hm ?_)))));rw[zR (z:=f.2.2.1+1000) (by omega) (by omega),zpC h2 (by omega) (by omega) ⟨by omega,by omega⟩,zq];refine zi rfl ?_;show zt (opt (wc (f.2.2.2.2,(j:Int),(ZY p.2.1 p.2.2 m (f.2.2.1+1000) x.2.2.2.1).2,())) _) _;rw[zne (zqr.1 hm).1 (by have:=B.lm;have:=B.lp;omega),zq];grind[sB,zt,zj,ZY,za]
theorem zlk(hf:Za f)(hi:WJ f.2.1 (dq port)):jD f (port,x,f.2.2.1,())=some (f,0,()):=by
 have B:=VV hf;rw[WB];unfold uE;delta lnC w6C upC aTC nxC exC lpC jzC;refine qF (zk (FQ B.lp) ?_);rintro⟨c,⟨y1,y2,y3,⟨⟩⟩,⟨⟩⟩ (⟨rfl,h⟩ | ⟨rfl,j,hj,⟨q,hq,hq2⟩,h⟩)
 ·exact zx (za rfl)
 ·exact absurd hq2 (hi j q hq)
theorem zgg(hf:Za f)(hi:WJ f.1 (kO port x)):je f (port,x,f.2.2.1,())=some (f,1,()):=by have B:=VV hf;rw[Qz];unfold vg;delta lnC w6C upC aTC nxC exC lpC jzC;rw[zjr (by have:=B.la;omega) (.inl ⟨hi,rfl⟩),zq];grind[qF,zI,za]
end Go.Proofs.YtlfkgkedfciccaaGreat.nd
namespace Go.Proofs.YtlfkgkedfciccaaGreat.nd
open Go Go.Fz Go.Fz.Sy
variable {f:zK} {x:zQ} {port:Int} {t:Int}
theorem znh(hf:Za f)(hc:x.2.2.1<=5)(hi:WJ f.2.1 (dq port)):yV (f,port,x,t,())=some (atT f t,0,()):=by
 have B:=VV hf;have hlp:=B.lp;rw[WC];unfold Ys;delta lnC w6C upC aTC nxC exC lpC jzC;refine qF (zf (by rw[zD (by omega)];rfl) (zk (J:=fun r=>r.1=0∧r.2.1.1=atT f t) (Wd f.2.1 (fun i=>((atT f t,(([],([],(0,([],[])))),(0,((i:Int),())))),())) (dq port) _ (by omega) ?_ ?_ rfl) ?_))
 ·intro i a hi' ha;refine zf (zI (show(i:Int) < (f.2.1.length:Int) by omega)) (zb (zm ha ?_));have hna:¬a.1=port:=hi i a ha;refine zf (by grind[jc]) (za (.inl ⟨hna,?_⟩));rw[zO (by omega)]
 ·grind[zD,za]
 ·rintro⟨c,⟨y1,y2,y3,y4,⟨⟩⟩,⟨⟩⟩ ⟨h1,h2⟩;simp only at h1 h2;subst h1 h2;exact zx (za rfl)
theorem zni{i:Nat}{p:jL}{m:qI}(hf:Za (atT f t))(hx:Xd x)(hc:x.2.2.1<=5)(hi:vI f.2.1 (dq port) i)(hp:f.2.1[i]?=some p)(hm:f.2.2.2.2[i]?=some m) : yV (f,port,x,t,())=some ((sB (atT f t) i p m x.2.2.2.1).1,(sB (atT f t) i p m x.2.2.2.1).2,()):=by
 have B:=VV hf;have hlp:f.2.1.length<=64:=B.lp;have hlm:f.2.2.2.2.length=f.2.1.length:=B.lm;obtain⟨t0,t1⟩:=hf.2.1;have t0 : -1000<=t:=t0;have t1:t<=549755813888:=t1;obtain⟨m',h1,h2,h3⟩:=hf.2.2.2.2.2 i p hp;have h1:f.2.2.2.2[i]?=some m':=h1;rw[hm]at h1;cases h1;have h3:m.1<=t+1000:=h3;obtain⟨z0,z1⟩:=hx.2.2.2.1;obtain⟨⟨p',hp',hpp⟩,hq⟩:=hi;rw[hp]at hp';cases hp';have hil:i < f.2.1.length:=(zqr.1 hp).1;have hdis:∀(k:Nat) q,i < k->f.2.1[k]?=some q->¬q.1=port:=fun k q hk hkq e=>(hf.1.2.2.2 k q hkq).2 i p hk hp (by show p.1=q.1;rw[e];exact hpp);rw[WC];unfold Ys;delta lnC w6C upC aTC nxC exC lpC jzC;generalize hG:zpG (atT f t) i (ZY p.2.1 p.2.2 m (t+1000) x.2.2.2.1).2=G;have hG1:G.2.1=f.2.1:=by rw[<-hG]
 refine qF (zf (by rw[zD (by omega)];rfl) (zk (J:=fun r=>(r.1=0∧r.2.1.1=G∧zj (ZY p.2.1 p.2.2 m (t+1000) x.2.2.2.1).1 2=false)∨(r.1=1∧r.2.1.2.1=G∧r.2.1.2.2.1=5∧zj (ZY p.2.1 p.2.2 m (t+1000) x.2.2.2.1).1 2=true))
  (zX f.2.1.length (fun k st=>st=(((if k<=i then atT f t else G),(([],([],(0,([],[])))),(0,((k:Int),())))),())∧(i < k->zj (ZY p.2.1 p.2.2 m (t+1000) x.2.2.2.1).1 2=false)) (by omega) ⟨by grind,by omega⟩ ?_ ?_) ?_))
 ·rintro k _ hk ⟨rfl,hred⟩;have hy:f.2.1[k]?=some f.2.1[k]:=FL hk;generalize f.2.1[k]=q at hy;by_cases hki:k=i
  ·subst hki;rw[hp]at hy;cases hy;rw[zqJ (FW k)];refine zf (zI (show(k:Int) < (f.2.1.length:Int) by omega)) (zb (zm hp (zi (by rw[wM (show p.1=port from hpp)];rfl) (zb (zm hm ?_)))));show zt (opt (Yr (p.2.1,p.2.2,m,wrF .i64 (t+1000),x.2.2.2.1,())) _) _;rw[zR (z:=t+1000) (by omega) (by omega),znb h2 h3 (by omega) ⟨by omega,by omega⟩,zq];grind[qM,zb,zm,jI,set,ZY,zqQ,za,zw,qj,wrF,zO]
  ·have hne:¬q.1=port:=by
    rcases zrD k i with h4 | h4
    ·exact hq k q h4 hy
    ·exact hdis k q (by omega) hy
   have e1:∀F:zK,F.2.1=f.2.1->(k < i∨i < k)->F=(if k<=i then atT f t else G)->zt (bif(zg (k:Int) ((F.2.1.length:Nat):Int))then opt (atI F.2.1 (k:Int)) fun x1=>
      bif(!(zj x1.1 port))then(some (.inr ((F,(([],([],(0,([],[])))),(0,(wrF .i64 ((k:Int)+1),())))),())):Option ((Nat×((zK×(zK×(Int×(Int×Unit))))×Unit)) ⊕ ((zK×(zK×(Int×(Int×Unit))))×Unit)))
      else none else none) fun r=>∃s,r=.inr s∧s=(((if k+1<=i then atT f t else G),(([],([],(0,([],[])))),(0,(((k+1:Nat):Int),())))),()):=fun F e h5 h6=>by
    rw[e]
    refine zf (zI (by omega)) (zb (zm hy (zf (by rw[jc hne];rfl) (za ⟨_,rfl,?_⟩))))
    rw[zO (by omega),h6]
    rcases h5 with h5 | h5
    ·rw[zqJ (by omega),zqJ (by omega)]
    ·rw[zqt (by omega),zqt (by omega)]
   grind[zI,zb,zm,jc,za,qj,wrF,zO,zrD]
 ·grind[zD,za,zw]
 ·rintro⟨c,⟨y1,y2,y3,y4,⟨⟩⟩,⟨⟩⟩ (⟨h4,h5,h6⟩ | ⟨h4,h5,h6,h7⟩)
  ·simp only at h4 h5;subst h4 h5;refine zx (za ?_);grind[sB,ZY,zj]
  ·simp only at h4 h5 h6;subst h4 h5 h6;refine zu (za ?_);grind[sB,ZY,zj]
theorem zll(hf:Za f)(hc:5 < x.2.2.1)(hi:WJ f.1 (kO port x)):yV (f,port,x,t,())=some (atT f t,1,()):=by have B:=VV hf;rw[WC];unfold Ys;delta lnC w6C upC aTC nxC exC lpC jzC;refine qF (zi (by rw[zI hc];rfl) ?_);rw[iB (f:=(f.1,(f.2.1,(t,f.2.2.2)))) (by have:=B.la;show f.1.length<=_;omega) (.inl ⟨hi,rfl⟩),zq];grind[zI,za]
theorem znj{i:Nat}{a:qu}{last:Int}(hf:Za (atT f t))(hc:5 < x.2.2.1)(hi:vI f.1 (kO port x) i)(ha:f.1[i]?=some a)(hl:f.2.2.2.1[i]?=some last) : yV (f,port,x,t,())=some ((UN (atT f t) i a last x.2.2.2.1 t).1,(UN (atT f t) i a last x.2.2.2.1 t).2,()):=by
 have B:=VV hf;have hla:f.1.length<=64:=B.la;have hll:f.2.2.2.1.length=f.1.length:=B.ll;have hil:i < f.2.2.2.1.length:=(zqr.1 hl).1;have hacc:=(hf.1.2.2.1 i a ha).1;rw[WC];unfold Ys;delta lnC w6C upC aTC nxC exC lpC jzC;refine qF (zi (by rw[zI hc];rfl) ?_);rw[iB (f:=(f.1,(f.2.1,(t,f.2.2.2)))) (by grind) (.inr ⟨i,hi,rfl⟩),zq];refine zi (zD (show ¬(i:Int) < 0 by omega)) (zb (zm ha ?_));unfold UN;cases h6:zj a.2.2.1 6 with
 |true=>
  grind[zg,za]
 |false=>
  refine zi rfl (zb (zm hl ?_));have h7:a.2.2.1=7:=by
   rcases zge hacc with h | h
   ·exact absurd h (qn h6)
   ·exact h
  rw[zlh hacc h7 ⟨hf.2.1.1,hf.2.1.2⟩,zq];grind[zt,opt,zj,JS,zb,qM,zm,jI,za,set,zqQ]
theorem zlm{a:qu}{last size:Int}(ha:GU a)(h7:a.2.2.1=7)(h:(JS a last size t).2=0):0<=(JS a last size t).1:=by
 obtain⟨_,_,_,h8⟩:=ha;rcases h8 with h8 | ⟨_,⟨p0,p1⟩,_⟩
 ·omega
 unfold JS at h ⊢;cases h1:(!zj size a.2.2.2.1)with
 |true=>rw[h1]at h;cases h
 |false=>
  rw[h1]at h;cases h2:(zg t a.2.2.2.2.2.1||zg (a.2.2.2.2.2.2 - a.2.2.2.2.2.1) ((t - a.2.2.2.2.2.1) % a.2.2.2.2.1))with
  |true=>rw[h2]at h;cases h
  |false=>
   rw[h2]at h;simp only[zrM]at h2;have:=zN h2.1;cases h3:(!zg last ((t - a.2.2.2.2.2.1) / a.2.2.2.2.1))with
   |true=>rw[h3]at h;cases h
   |false=>exact zrR (by omega) (by omega)
theorem zpH(hf:Za f)(hp:inP port 0 47)(hx:Xd x)(ht1:f.2.2.1<=t)(ht2:t<=549755813888) : ∃g v,vQ (f,port,x,t,())=some (g,v,0,())∧yV (f,port,x,t,())=some (g,v,())∧g.1=f.1∧g.2.1=f.2.1∧g.2.2.2.1.length=f.2.2.2.1.length∧g.2.2.2.2.length=f.2.2.2.2.length∧(5 < x.2.2.1->Za g∧(v=0->∃i a,vI f.1 (kO port x) i∧f.1[i]?=some a)):=by
 have hT:=zng hf ht1 ht2;have B:=VV hf;have hPass:∀g v,(bif zj x.2.2.1 7 then je (atT f t) (port,x,t,())else bif zj x.2.2.1 6 then je (atT f t) (port,x,t,())else jD (atT f t) (port,x,t,()))=some (g,v,())->vQ (f,port,x,t,())=some (g,v,0,()):=by intro g v hy;rw[Oj];unfold bN;delta lnC w6C upC aTC nxC exC lpC jzC;rw[Pa f (by have:=B.la;omega) (by have:=B.lp;omega),qU hf,zq,GS,qU hp,zq,zhB,qU hx,zq,GS,qU (show inP t f.2.2.1 549755813888 from⟨ht1,ht2⟩),zq];refine qF (zi rfl (zi rfl (zi rfl (zi rfl ?_))));grind[zj,zq,za]
 obtain⟨c0,c1⟩:=hx.2.2.1;rcases zte 5 x.2.2.1 with hc | hc
 ·have hsel:∀A B:Option (zK×(Int×Unit)),(bif zj x.2.2.1 7 then A else bif zj x.2.2.1 6 then A else B)=A:=fun A B=>by grind[wM,jc]
  rcases iz (kO port x) f.1 with hn | ⟨i,hi⟩
  ·have e0:je (atT f t) (port,x,t,())=some (atT f t,1,()):=zgg hT hn;exact⟨atT f t,1,hPass _ _ (by rw[hsel];exact e0),zll hf hc hn,rfl,rfl,rfl,rfl,fun _=>⟨hT,fun h=>absurd h (by decide)⟩⟩
  ·obtain⟨⟨a,ha,hma⟩,hq⟩:=id hi;obtain⟨last,hl,_⟩:=hf.2.2.2.2.1 i a ha;have e1:je (atT f t) (port,x,t,())=some ((UN (atT f t) i a last x.2.2.2.1 t).1,(UN (atT f t) i a last x.2.2.2.1 t).2,()):=zgf hT hi ha hl;have hacc:=(hf.1.2.2.1 i a ha).1;refine⟨_,_,hPass _ _ (by rw[hsel];exact e1),znj hT hc hi ha hl,?_⟩;show(UN (atT f t) i a last x.2.2.2.1 t).1.1=f.1∧(UN (atT f t) i a last x.2.2.2.1 t).1.2.1=f.2.1∧(UN (atT f t) i a last x.2.2.2.1 t).1.2.2.2.1.length=f.2.2.2.1.length∧(UN (atT f t) i a last x.2.2.2.1 t).1.2.2.2.2.length=f.2.2.2.2.length∧(5 < x.2.2.1->Za (UN (atT f t) i a last x.2.2.2.1 t).1∧_);unfold UN;cases h6:zj a.2.2.1 6 with
   |true=>grind
   |false=>
    have h7:a.2.2.1=7:=by grind[zge,qn]
    cases h8:zj (JS a last x.2.2.2.1 t).2 0 with
    |false=>grind
    |true=>exact⟨rfl,rfl,by grind,rfl,fun _=>⟨zli hT ha (qn h6) (zlm hacc h7 (qg h8)),fun _=>⟨i,a,hi,ha⟩⟩⟩
 ·have hsel:∀A B:Option (zK×(Int×Unit)),(bif zj x.2.2.1 7 then A else bif zj x.2.2.1 6 then A else B)=B:=fun A B=>by grind[jc]
  rcases iz (dq port) f.2.1 with hn | ⟨i,hi⟩
  ·have e0:jD (atT f t) (port,x,t,())=some (atT f t,0,()):=zlk hT hn;exact⟨atT f t,0,hPass _ _ (by rw[hsel];exact e0),znh hf hc hn,rfl,rfl,rfl,rfl,fun h=>absurd h (by omega)⟩
  ·obtain⟨⟨p,hp2,hpp⟩,hq⟩:=id hi;obtain⟨m,hm,_⟩:=hf.2.2.2.2.2 i p hp2;have e1:jD (atT f t) (port,x,t,())=some ((sB (atT f t) i p m x.2.2.2.1).1,(sB (atT f t) i p m x.2.2.2.1).2,()):=zlj hT hx hi hp2 hm;refine⟨_,_,hPass _ _ (by rw[hsel];exact e1),zni hT hx hc hi hp2 hm,rfl,rfl,rfl,?_,fun h=>absurd h (by omega)⟩;show(f.2.2.2.2.set i _).length=_;rw[zrZ]
end Go.Proofs.YtlfkgkedfciccaaGreat.nd
namespace Go.Proofs.YtlfkgkedfciccaaGreat.nd
open Go Go.Fz Go.Fz.Sy
variable {r:qy}
def Vq(r:qy):Prop:=0<=r.2.2.2.2.2∧r.2.2.2.2.2 < 18446744073709551616
def zbc(r:qy):Prop:=GX r.1 r.2.1 r.2.2.1 r.2.2.2.1 r.2.2.2.2.1 r.2.2.2.2.2.toNat
theorem pF(h:Vq r):r=mkR r.1 r.2.1 r.2.2.1 r.2.2.2.1 r.2.2.2.2.1 r.2.2.2.2.2.toNat∧r.2.2.2.2.2.toNat < 2 ^ 64:=by obtain⟨h1,h2⟩:=h;grind
theorem zoQ(h:Vq r):uX (r,())=some (bif tv (zbc r)then 0 else 500,()):=by obtain⟨e,h2⟩:=pF h;rw[e];exact zgb _ _ _ _ _ h2
theorem znk(h:Vq r):kB (r,())=some (tv (zbc r),()):=by obtain⟨e,h2⟩:=pF h;rw[e];exact zce _ _ _ _ _ h2
structure Vr(s:zL):Prop where
 la:s.2.1.1.length<=1000000000000000000
 lp:s.2.1.2.1.length<=1000000000000000000
 lr:s.2.2.2.2.length<=1000000000000
 wr:∀(k:Nat) r,s.2.2.2.2[k]?=some r->Vq r
def zp5(s:zL):Prop:=∀(k:Nat) o,s.2.2.1[k]?=some o->∃a,s.2.1.1[k]?=some a∧FO a o
def zp6(s:zL):Prop:=∀(k:Nat) x,s.2.2.2.1[k]?=some x->OX x s.2.2.2.2.length
def zp7(s:zL):Prop:=∀(k:Nat) r,s.2.2.2.2[k]?=some r->zbc r
def dt(s:zL):Prop:=inP s.1 (-1000) 1000∧Za s.2.1∧s.2.2.1.length=s.2.1.1.length∧s.2.2.2.1.length<=24∧zp5 s∧zp6 s∧zp7 s
theorem zoR{s:zL}(W:Vr s):uq (s,())=some (bif tv (dt s)then 0 else 521,()):=by
 have hlr:=W.lr;rw[BQ];unfold fE;delta lnC w6C upC aTC nxC exC lpC jzC;simp only[Pa _ W.la W.lp,zla,zq,pD (e:=430) (by decide)];refine Qh (by decide) (zb (zd (fun h1=>za (zu (za (.inr ⟨fun h=>?_,rfl⟩)))) fun h1=>zd (fun h2=>za (zu (za (.inr ⟨fun h=>?_,rfl⟩)))) fun h2=>zd (fun h3=>za (zu (za (.inr ⟨fun h=>jX h3 h.2.1,rfl⟩)))) fun h3=>zd (fun h4=>za (zu (za (.inr ⟨fun h=>qn (qK.1 h4) (by have:=h.2.2.1;omega),rfl⟩)))) fun h4=>zd (fun h5=>za (zu (za (.inr ⟨fun h=>?_,rfl⟩)))) fun h5=>za (zx ?_)))
 ·have:=zT h1;have:=h.1.1;omega
 ·have:=zT h2;have:=h.1.2;omega
 ·have:=zT h5;have:=h.2.2.2.1;omega
 have h1:=zN h1;have h2:=zN h2;have h3:=wC h3;have h4:=qg (qC.1 h4);have h5:=zN h5;have hla:=(VV h3).la;refine zk (jQ (521:Int) s.2.2.1.length (fun k=>∃o,s.2.2.1[k]?=some o∧∃a,s.2.1.1[k]?=some a∧FO a o) (by omega) ?_ ?_) ?_
 ·intro i hi;have hx:s.2.2.1[i]?=some s.2.2.1[i]:=FL hi;generalize s.2.2.1[i]=o at hx;have hj:i < s.2.1.1.length:=by omega
  have hy:s.2.1.1[i]?=some s.2.1.1[i]:=FL hj;grind[zI,zb,zm,za,wC,jX,zO]
 ·grind[zD,za]
 rintro⟨c,⟨y1,y2,⟨⟩⟩,⟨⟩⟩ (⟨rfl,rfl,hA⟩ | ⟨rfl,rfl,hA⟩);rotate_left
 ·exact zu (za (.inr ⟨fun h=>hA (yd.2 h.2.2.2.2.1),rfl⟩))
 refine zx (zk (jQ (521:Int) s.2.2.2.1.length (fun k=>∃x,s.2.2.2.1[k]?=some x∧OX x s.2.2.2.2.length) (by omega) ?_ ?_) ?_)
 ·intro i hi;have hx:s.2.2.2.1[i]?=some s.2.2.2.1[i]:=FL hi;grind[zI,zb,zm,zpy,zq,za,wC,jX,zO]
 ·grind[zD,za]
 rintro⟨c,⟨y1,y2,⟨⟩⟩,⟨⟩⟩ (⟨rfl,rfl,hB⟩ | ⟨rfl,rfl,hB⟩);rotate_left
 ·exact zu (za (.inr ⟨fun h=>hB (yd.2 h.2.2.2.2.2.1),rfl⟩))
 refine zx (zk (jQ (521:Int) s.2.2.2.2.length (fun k=>∃r,s.2.2.2.2[k]?=some r∧zbc r) (by omega) ?_ ?_) ?_)
 ·intro i hi;have hx:s.2.2.2.2[i]?=some s.2.2.2.2[i]:=FL hi;generalize s.2.2.2.2[i]=o at hx;refine zf (zI (show(i:Int) < (s.2.2.2.2.length:Int) by omega)) (zb (zm hx ?_));rw[zoQ (W.wr i o hx),zq,pD (by decide)];grind[za,wC,jX,zO]
 ·grind[zD,za]
 rintro⟨c,⟨y1,y2,⟨⟩⟩,⟨⟩⟩ (⟨rfl,rfl,hC⟩ | ⟨rfl,rfl,hC⟩)
 ·exact zx (za (.inl ⟨⟨⟨by omega,by omega⟩,h3,by omega,by omega,yd.1 hA,yd.1 hB,yd.1 hC⟩,rfl⟩))
 ·exact zu (za (.inr ⟨fun h=>hC (yd.2 h.2.2.2.2.2.2),rfl⟩))
theorem zln{s:zL}(W:Vr s):Vm (s,())=some (tv (dt s),()):=by
 have hlr:=W.lr;rw[Od];unfold AU;delta lnC w6C upC aTC nxC exC lpC jzC;simp only[zcd,zjl,GW,zq];refine ji (zb (zd (fun h1=>za (zu (za ⟨fun h=>(by cases h),fun h=>?_⟩))) fun h1=>zd (fun h2=>za (zu (za ⟨fun h=>(by cases h),fun h=>?_⟩))) fun h2=>zd (fun h3=>za (zu (za ⟨fun h=>(by cases h),fun h=>absurd h.2.1 (jX h3)⟩))) fun h3=>zd (fun h4=>za (zu (za ⟨fun h=>(by cases h),fun h=>absurd (by have:=h.2.2.1;omega) (qn (qK.1 h4))⟩))) fun h4=>zd (fun h5=>za (zu (za ⟨fun h=>(by cases h),fun h=>?_⟩))) fun h5=>za (zx ?_)))
 ·have:=zT h1;have:=h.1.1;omega
 ·have:=zT h2;have:=h.1.2;omega
 ·have:=zT h5;have:=h.2.2.2.1;omega
 have h1:=zN h1;have h2:=zN h2;have h3:=wC h3;have h4:=qg (qC.1 h4);have h5:=zN h5;have hla:=(VV h3).la;refine zk (jQ false s.2.2.1.length (fun k=>∃o,s.2.2.1[k]?=some o∧∃a,s.2.1.1[k]?=some a∧FO a o) (by omega) ?_ ?_) ?_
 ·intro i hi;have hx:s.2.2.1[i]?=some s.2.2.1[i]:=FL hi;generalize s.2.2.1[i]=o at hx;have hj:i < s.2.1.1.length:=by omega
  have hy:s.2.1.1[i]?=some s.2.1.1[i]:=FL hj;grind[zI,zb,zm,za,wC,jX,zO]
 ·grind[zD,za]
 rintro⟨c,⟨y1,y2,⟨⟩⟩,⟨⟩⟩ (⟨rfl,rfl,hA⟩ | ⟨rfl,rfl,hA⟩);rotate_left
 ·exact zu (za ⟨fun h=>(by cases h),fun h=>absurd (yd.2 h.2.2.2.2.1) hA⟩)
 refine zx (zk (jQ false s.2.2.2.1.length (fun k=>∃x,s.2.2.2.1[k]?=some x∧OX x s.2.2.2.2.length) (by omega) ?_ ?_) ?_)
 ·intro i hi;have hx:s.2.2.2.1[i]?=some s.2.2.2.1[i]:=FL hi;generalize s.2.2.2.1[i]=o at hx;refine zf (zI (show(i:Int) < (s.2.2.2.1.length:Int) by omega)) (zb (zm hx (zb ?_)));have no:¬OX o s.2.2.2.2.length->¬∃x,s.2.2.2.1[i]?=some x∧OX x s.2.2.2.2.length:=by grind
  refine zd (fun h6=>za (zu (za (.inr ⟨no fun h=>jX h6 h.1,_,rfl⟩)))) fun h6=>zd (fun h7=>za (zu (za (.inr ⟨no fun h=>?_,_,rfl⟩)))) fun h7=>zd (fun h8=>za (zu (za (.inr ⟨no fun h=>?_,_,rfl⟩)))) fun h8=>?_
  ·have:=zT h7;have:=h.2.1.1;omega
  ·have:=zT h8;have:=h.2.1.2;omega
  have h6:=wC h6;have h7:=zN h7;have h8:=zN h8;refine zd (fun h9=>zd (fun h10=>za (zu (za (.inr ⟨no fun h=>?_,_,rfl⟩)))) fun h10=>zd (fun h11=>za (zu (za (.inr ⟨no fun h=>?_,_,rfl⟩)))) fun h11=>zd (fun h12=>za (zu (za (.inr ⟨no fun h=>?_,_,rfl⟩)))) fun h12=>za (zx (za (.inl ⟨⟨o,hx,h6,⟨h7,h8⟩,?_⟩,?_⟩)))) fun h9=>zd (fun h11=>za (zu (za (.inr ⟨no fun h=>?_,_,rfl⟩)))) fun h11=>zd (fun h12=>za (zu (za (.inr ⟨no fun h=>?_,_,rfl⟩)))) fun h12=>za (zx (za (.inl ⟨⟨o,hx,h6,⟨h7,h8⟩,?_⟩,?_⟩)))
  ·have:=qn (qK.1 h9);have:=qn (qK.1 h10);have:=h.2.2.1;omega
  ·have:=zT h11;have:=h.2.2.2.1;omega
  ·have:=zN (qK.1 h12);have:=h.2.2.2.2;omega
  ·have:=qg (qC.1 h10);have:=zN h11;have:=zT (qC.1 h12);omega
  ·rw[zO (by omega)]
  ·have:=zT h11;have:=h.2.2.2.1;omega
  ·have:=zN (qK.1 h12);have:=h.2.2.2.2;omega
  ·have:=qg (qC.1 h9);have:=zN h11;have:=zT (qC.1 h12);omega
  ·rw[zO (by omega)]
 ·grind[zD,za]
 rintro⟨c,⟨y1,y2,⟨⟩⟩,⟨⟩⟩ (⟨rfl,rfl,hB⟩ | ⟨rfl,rfl,hB⟩);rotate_left
 ·exact zu (za ⟨fun h=>(by cases h),fun h=>absurd (yd.2 h.2.2.2.2.2.1) hB⟩)
 refine zx (zk (jQ false s.2.2.2.2.length (fun k=>∃r,s.2.2.2.2[k]?=some r∧zbc r) (by omega) ?_ ?_) ?_)
 ·intro i hi;have hx:s.2.2.2.2[i]?=some s.2.2.2.2[i]:=FL hi;generalize s.2.2.2.2[i]=o at hx;refine zf (zI (show(i:Int) < (s.2.2.2.2.length:Int) by omega)) (zb (zm hx ?_));rw[znk (W.wr i o hx),zq];grind[za,wC,jX,zO]
 ·grind[zD,za]
 rintro⟨c,⟨y1,y2,⟨⟩⟩,⟨⟩⟩ (⟨rfl,rfl,hC⟩ | ⟨rfl,rfl,hC⟩)
 ·exact zx (za ⟨fun _=>⟨⟨by omega,by omega⟩,h3,by omega,by omega,yd.1 hA,yd.1 hB,yd.1 hC⟩,fun _=>rfl⟩)
 ·exact zu (za ⟨fun h=>(by cases h),fun h=>absurd (yd.2 h.2.2.2.2.2.2) hC⟩)
end Go.Proofs.YtlfkgkedfciccaaGreat.nd
namespace Go.Proofs.YtlfkgkedfciccaaGreat.nd
open Go Go.Fz Go.Fz.Sy
variable {s:zL} {t:Int}
def mG(s:zL)(t:Int):Prop:=s.2.1.2.2.1<=t+s.1∧∀(k:Nat) r,s.2.2.2.2[k]?=some r->r.2.2.2.2.1<=t
theorem zoS(hs:inP s.1 (-1000) 1000)(hl:s.2.2.2.2.length<=1000000000000):ur (s,t,())=some (bif tv (inP t 0 274877906944∧mG s t)then 0 else 2,()):=by
 obtain⟨s0,s1⟩:=hs;rw[BS];unfold fH;delta lnC w6C upC aTC nxC exC lpC jzC;refine Qh (by decide) (zb (zd (fun h1=>za (zu (za (.inr ⟨fun h=>?_,rfl⟩)))) fun h1=>zd (fun h2=>za (zu (za (.inr ⟨fun h=>?_,rfl⟩)))) fun h2=>?_))
 ·have:=zT h1;have:=h.1.1;omega
 ·have:=zT h2;have:=h.1.2;omega
 have h1:=zN h1;have h2:=zN h2;rw[zR (z:=t+s.1) (by omega) (by omega)];refine zd (fun h3=>za (zu (za (.inr ⟨fun h=>?_,rfl⟩)))) fun h3=>za (zx ?_)
 ·have:=zT h3;have:=h.2.1;omega
 have h3:=zN h3;refine zk (jQ (2:Int) s.2.2.2.2.length (fun k=>∃r,s.2.2.2.2[k]?=some r∧r.2.2.2.2.1<=t) (by omega) ?_ ?_) ?_
 ·intro i hi;have hx:s.2.2.2.2[i]?=some s.2.2.2.2[i]:=FL hi;grind[zI,zb,zm,za,zN,zT,zO]
 ·grind[zD,za]
 rintro⟨c,⟨y1,y2,⟨⟩⟩,⟨⟩⟩ (⟨rfl,rfl,hC⟩ | ⟨rfl,rfl,hC⟩)
 ·exact zx (za (.inl ⟨⟨⟨h1,h2⟩,h3,yd.1 hC⟩,rfl⟩))
 ·exact zu (za (.inr ⟨fun h=>hC (yd.2 h.2.2),rfl⟩))
theorem zcj(hs:inP s.1 (-1000) 1000)(ht:inP t 0 274877906944)(hl:s.2.2.2.2.length<=1000000000000):Vp (s,t,())=some (!tv (mG s t),()):=by
 obtain⟨s0,s1⟩:=hs;obtain⟨t0,t1⟩:=ht;rw[OE];unfold Bq;delta lnC w6C upC aTC nxC exC lpC jzC;rw[zR (z:=t+s.1) (by omega) (by omega)];refine qF (zd (fun h3=>za ?_) fun h3=>?_)
 ·have:=zT h3;grind[wg,mG]
 have h3:=zN h3;refine zk (jQ true s.2.2.2.2.length (fun k=>∃r,s.2.2.2.2[k]?=some r∧r.2.2.2.2.1<=t) (by omega) ?_ ?_) ?_
 ·intro i hi;have hx:s.2.2.2.2[i]?=some s.2.2.2.2[i]:=FL hi;grind[zI,zb,zm,za,zN,zT,zO]
 ·grind[zD,za]
 rintro⟨c,⟨y1,y2,⟨⟩⟩,⟨⟩⟩ (⟨rfl,rfl,hC⟩ | ⟨rfl,rfl,hC⟩)
 ·grind[za,qU,mG]
 ·refine zu (za ?_);rw[wg fun h:mG s t=>hC (yd.2 h.2)];rfl
def QD(port:Int)(x:zQ)(e:xP):Prop:=e.1=port∧e.2.1=x.1∧e.2.2.1=x.2.2.1
abbrev znl(s:zL)(k:Nat)(r:qy):zL:=(s.1,(s.2.1,(s.2.2.1,(s.2.2.2.1,s.2.2.2.2.set k r))))
theorem zgh{port:Int}{x:zQ}{a:yQ}(hl:s.2.2.2.1.length<=24):zt (yA (fun s0:((zM×(Int×(Int×Unit)))×Unit)=>bif(zg (s0.1.2.2.1) ((((s.2.2.2.1).length:Nat):Int)))then opt (atI (s.2.2.2.1) (s0.1.2.2.1)) fun x1=>bif(zj (x1.1) (s0.1.1.2.1))then bif(zj (x1.2.1) (s0.1.1.2.2.1.1))then bif(zj (x1.2.2.1) (s0.1.1.2.2.1.2.2.1))then some (.inl (1,((s0.1.1,(s0.1.2.2.1,(s0.1.2.2.1,()))),())))else some (.inr ((s0.1.1,(s0.1.2.1,((wrF .i64 ((s0.1.2.2.1+1))),()))),()))else some (.inr ((s0.1.1,(s0.1.2.1,((wrF .i64 ((s0.1.2.2.1+1))),()))),()))else some (.inr ((s0.1.1,(s0.1.2.1,((wrF .i64 ((s0.1.2.2.1+1))),()))),()))else some (.inl (0,((s0.1.1,(s0.1.2.1,(s0.1.2.2.1,()))),())))) xm (((s,port,x,t,a),(0,(0,()))),())) fun r=>r.2.1.1=(s,port,x,t,a)∧(((r.1:Nat)=0∧WJ s.2.2.2.1 (QD port x))∨(r.1=1∧∃i:Nat,r.2.1.2.1=(i:Int)∧vI s.2.2.2.1 (QD port x) i)):=by
 refine Wd s.2.2.2.1 (fun i=>(((s,port,x,t,a),(0,((i:Int),()))),())) (QD port x) _ (by omega) ?_ ?_ rfl
 ·intro i e hi he;refine zf (zI (show(i:Int) < (s.2.2.2.1.length:Int) by omega)) (zb (zm he (zd (fun h1=>zd (fun h2=>zd (fun h3=>za (.inr ⟨⟨qg h1,qg h2,qg h3⟩,_,rfl,fun h=>⟨rfl,.inr ⟨rfl,i,rfl,h⟩⟩⟩)) fun h3=>za (.inl ⟨fun h=>qn h3 h.2.2,?_⟩)) fun h2=>za (.inl ⟨fun h=>qn h2 h.2.1,?_⟩)) fun h1=>za (.inl ⟨fun h=>qn h1 h.1,?_⟩))));all_goals rw[zO (by omega)]
 grind[zD,za]
def Jo(s:zL)(k:Nat)(r:qy)(n t:Int):zL×yQ:=bif !zg n 65536 then(s,(1,(0,(0,20))))else bif(yX r.1 r.2.1 r.2.2.1 r.2.2.2.1 r.2.2.2.2.1 r.2.2.2.2.2.toNat n t).2 then(znl s k (yX r.1 r.2.1 r.2.2.1 r.2.2.2.1 r.2.2.2.2.1 r.2.2.2.2.2.toNat n t).1,(3,(0,(0,0))))else(s,(4,(0,(0,0))))
theorem zpI{r:qy}{n:Int}(hr:Vq r)(h:(yX r.1 r.2.1 r.2.2.1 r.2.2.2.1 r.2.2.2.2.1 r.2.2.2.2.2.toNat n t).2=false):(yX r.1 r.2.1 r.2.2.1 r.2.2.2.1 r.2.2.2.2.1 r.2.2.2.2.2.toNat n t).1=r:=by grind[pF,yX]
theorem zp8{r:qy}{n:Int}(hr:Vq r)(hq:zbc r)(hn:inP n 0 65535):Vq (yX r.1 r.2.1 r.2.2.1 r.2.2.2.1 r.2.2.2.2.1 r.2.2.2.2.2.toNat n t).1:=by
 obtain⟨e,hs⟩:=pF hr;obtain⟨⟨l0,l1⟩,_⟩:=id hq;have hw:∀{L R:Int} {any:Bool} {last at':Int} {z:Nat},z < 2 ^ 64->Vq (mkR L R any last at' z):=fun h=>by rw[p64]at h;exact⟨by grind,by grind⟩
 have hp:2 ^ r.1.toNat - 1 < 2 ^ 64:=zqB (Nat.sub_lt (zrQ _) (by decide)) (zra (by decide) (by omega));unfold yX;split
 ·grind
 ·split
  ·exact hw hs
  ·rename_i h2;split
   ·split
    ·exact hw hs
    ·refine hw (ztq hs (zti (by decide) ?_));omega
   ·exact hw (zsM Nat.and_le_right hp)
end Go.Proofs.YtlfkgkedfciccaaGreat.nd
namespace Go.Proofs.YtlfkgkedfciccaaGreat.nd
open Go Go.Fz Go.Fz.Sy
variable {s:zL} {x:zQ} {port:Int} {k:Nat} {t:Int}
theorem znm{l:List qy}{r:qy}(h:l[k]?=some r):l.set k r=l:=by apply zrl;grind
theorem zck{α:Type}{l:List α}{r:α}(h:l[k]?=some r):dP l=true:=by
 cases l with
 |nil=>simp at h
 |cons x l=>rfl
theorem Ko{α:Type}{l:List α}{z:Int}{x:α}{Q:α->Prop}(hz:z=(k:Int))(h:l[k]?=some x)(hq:Q x):zt (atI l z) Q:=by rw[hz];exact zm h hq
theorem zp9{i:Nat}{e:xP}{r:qy}(W:Vr s)(hs:dt s)(hx:Xd x)(ht:inP t 0 274877906944)(hT:mG s t)(hi:vI s.2.2.2.1 (QD port x) i)(he:s.2.2.2.1[i]?=some e)(hk:e.2.2.2=(k:Int))(hr:s.2.2.2.2[k]?=some r) : xx (s,port,x,t,(0,(0,(0,0)))) ()=some (((Jo s k r x.2.1 t).1,port,x,t,(Jo s k r x.2.1 t).2),true,()):=by
 have hle:=hs.2.2.2.1;have hlr:=W.lr;have hsw:=W.wr k r hr;have hq:=hs.2.2.2.2.2.2 k r hr;obtain⟨em,hsz⟩:=pF hsw;obtain⟨t0,t1⟩:=id ht;obtain⟨q0,q1⟩:=hx.2.1;have hkl:k < s.2.2.2.2.length:=(zqr.1 hr).1;rw[aX];unfold WA;delta lnC w6C upC aTC nxC exC lpC jzC;refine qF (zk (zgh hle) ?_);rintro⟨c,⟨y1,y2,y3,⟨⟩⟩,⟨⟩⟩ ⟨rfl,⟨rfl,h⟩ | ⟨rfl,j,hj,h⟩⟩
 ·obtain⟨⟨q,hq1,hq2⟩,_⟩:=hi;exact absurd hq2 (h i q hq1)
 simp only at hj;subst hj;have:=sC h hi;subst this;refine zu (zi (zD (show ¬(j:Int) < 0 by omega)) ?_);unfold Jo;show zt (bif(!zg x.2.1 65536)then _ else _) _;cases hn:(!zg x.2.1 65536)with
 |true=>
  refine zf rfl ?_;rw[Ze];exact za rfl
 |false=>
  have hn2:x.2.1 < 65536:=zT (qC.1 hn);refine zi rfl (zb (zm he (zb (Ko hk hr ?_))));have hacc:yS (r,x.2.1,t,())=some ((yX r.1 r.2.1 r.2.2.1 r.2.2.2.1 r.2.2.2.2.1 r.2.2.2.2.2.toNat x.2.1 t).1,(yX r.1 r.2.1 r.2.2.1 r.2.2.2.1 r.2.2.2.2.1 r.2.2.2.2.2.toNat x.2.1 t).2,0,()):=by
   conv=>lhs;rw[em]
   exact zle hsz hq ⟨q0,by omega⟩ ⟨t0,by omega⟩ (hT.2 k r hr)
  show zt (opt (yS (r,x.2.1,t,())) _) _;rw[hacc,zq];grind[zt,yX,za,zck,qM,zb,Ko,zqQ,jI]
theorem znL{a:yQ}(hs:dt s)(hi:WJ s.2.2.2.1 (QD port x)):xx (s,port,x,t,a) ()=some ((s,port,x,t,a),false,()):=by
 rw[aX];unfold WA;delta lnC w6C upC aTC nxC exC lpC jzC;refine qF (zk (zgh hs.2.2.2.1) ?_);rintro⟨c,⟨y1,y2,y3,⟨⟩⟩,⟨⟩⟩ ⟨rfl,⟨rfl,h⟩ | ⟨rfl,j,hj,⟨q,hq1,hq2⟩,h⟩⟩
 ·exact zx (za rfl)
 ·exact absurd hq2 (hi j q hq1)
abbrev mH:zL:=(0,(([],([],(0,([],[])))),([],([],[]))))
def onV(s:zL)(g:zK)(i:Nat)(o:jM)(x:zQ)(t:Int):zL×yQ:=bif zj x.2.2.1 7 then((s.1,(g,s.2.2)),(2,(o.1,(t,0))))else bif !zj (gk o.2.1 o.2.2.2 t x.2.2.2.1).2.2 0 then((s.1,(g,s.2.2)),(1,(0,(0,21))))else bif zg o.2.2.1 ((gk o.2.1 o.2.2.2 t x.2.2.2.1).1 - t)then((s.1,(g,s.2.2)),(1,(0,(0,21))))else((s.1,(g,(s.2.2.1.set i (o.1,(o.2.1,(o.2.2.1,(gk o.2.1 o.2.2.2 t x.2.2.2.1).2.1))),s.2.2.2))),(2,(o.1,((gk o.2.1 o.2.2.2 t x.2.2.2.1).1,0))))
theorem zhF{o:jM}{size:Int}(hb:yF o.2.1)(hs:iy o.2.1 o.2.2.2)(h1:inP t 0 1099511627776)(h2:inP size 84 1542):0<=(gk o.2.1 o.2.2.2 t size).1∧(gk o.2.1 o.2.2.2 t size).1<=1101128531969:=by have B:=elB hb hs h1 h2;have:=B.t0;have:=B.t1;have:=B.c0;have:=B.c1;grind[gk,zg,elT]
theorem zlo{g:zK}{i:Nat}{a:qu}{o:jM}(hg:Za g)(hx:Xd x)(hc:5 < x.2.2.1)(ht:inP t 0 274877906944)(hi:vI g.1 (kO port x) i)(ha:g.1[i]?=some a)(ho:s.2.2.1[i]?=some o)(hao:FO a o)(hl:s.2.2.1.length<=64) : ∃d,yn ((s.1,(g,s.2.2)),port,x,t,(0,(0,(0,0)))) ()=some (d,true,())∧d.1=(onV s g i o x t).1∧d.2.2.2.2=(onV s g i o x t).2:=by
 have B:=VV hg;have hil:i < s.2.2.1.length:=(zqr.1 ho).1;obtain⟨c0,c1⟩:=hx.2.2.1;obtain⟨t0,t1⟩:=id ht;have hfind:kD (g,port,x,())=some ((i:Int),0,()):=by rw[Oo];unfold AX;delta lnC w6C upC aTC nxC exC lpC jzC;rw[Pa g (by have:=B.la;omega) (by have:=B.lp;omega),qU hg,zq,zhB,qU hx,zq,zjr (by have:=B.la;omega) (.inr ⟨i,hi,rfl⟩),zq];rfl
 obtain⟨⟨a',ha',hm⟩,_⟩:=hi;rw[ha]at ha';cases ha';have key:zt (yn ((s.1,(g,s.2.2)),port,x,t,(0,(0,(0,0)))) ()) fun r=>r.2.1=true∧r.1.1=(onV s g i o x t).1∧r.1.2.2.2.2=(onV s g i o x t).2:=by
  rw[Cg];unfold VU;delta lnC w6C upC aTC nxC exC lpC jzC;show zt (opt (kD (g,port,x,())) _) _;rw[hfind,zq];refine zb (zi rfl (zi (zD (show ¬(i:Int) < 0 by omega)) (zi (by rw[zI (show(i:Int) < (s.2.2.1.length:Int) by omega)];rfl) (za (zx (zb (zm ho ?_)))))));unfold onV;show zt (bif zj x.2.2.1 7 then _ else _) _;cases h7:zj x.2.2.1 7 with
  |true=>
   refine zf rfl ?_;rw[XS];exact za ⟨rfl,rfl,rfl⟩
  |false=>
   have h6:a.2.2.1=6:=by have:=qn h7;have:=hm.2.2;omega
   obtain⟨_,ho2⟩:=hao;rcases ho2 with ho2 | ⟨_,hb,_,⟨o0,o1⟩,hsh⟩
   ·exact absurd h6 ho2.1
   have hbd:=zhF (t:=t) (size:=x.2.2.2.1) hb hsh ⟨t0,by omega⟩ hx.2.2.2.1;refine zi rfl ?_;show zt (opt (xS (o.2.1,o.2.2.2,t,x.2.2.2.1,())) _) _;rw[zpD hb hsh ⟨t0,by omega⟩ hx.2.2.2.1,zq];generalize hv:gk o.2.1 o.2.2.2 t x.2.2.2.1=v at hbd;refine zb ?_;show zt (bif !zj v.2.2 0 then _ else bif zg o.2.2.1 (wrF .i64 (v.1 - t))then _ else _) _;rw[zR (z:=v.1 - t) (by omega) (by omega)];cases h1:(!zj v.2.2 0)with
   |true=>
    refine zf rfl ?_;rw[Ze];exact za (zu (za ⟨rfl,rfl,rfl⟩))
   |false=>
    cases h2:zg o.2.2.1 (v.1 - t)with
    |true=>
     refine zi rfl (zf rfl ?_);rw[Ze];exact za (zu (za ⟨rfl,rfl,rfl⟩))
    |false=>
     refine zi rfl (zi rfl (za (zx (zf (zck ho) (zf (qM (by show(0+s.2.2.1.length)*48<=_;omega) (by show 0+s.2.2.1.length<=_;omega)) (zb (zm ho (zb ?_))))))));show zt (gl s.2.2.1 (Int.toNat (i:Int))) _;rw[zqQ];refine jI hil fun _ _=>?_;rw[XS];exact za ⟨rfl,rfl,rfl⟩
 obtain⟨⟨d,b,⟨⟩⟩,e,h1,h2,h3⟩:=key;grind
end Go.Proofs.YtlfkgkedfciccaaGreat.nd
namespace Go.Proofs.YtlfkgkedfciccaaGreat.nd
open Go Go.Fz Go.Fz.Sy
variable {s:zL} {r:qy} {x:zQ} {t:Int} {k:Nat} {n:Int}
theorem zgi(h:(!zg n 65536)=true):Jo s k r n t=(s,(1,(0,(0,20)))):=by unfold Jo;rw[h];rfl
theorem zgj(h:(!zg n 65536)=false)(h2:(yX r.1 r.2.1 r.2.2.1 r.2.2.2.1 r.2.2.2.2.1 r.2.2.2.2.2.toNat n t).2=true):Jo s k r n t=(znl s k (yX r.1 r.2.1 r.2.2.1 r.2.2.2.1 r.2.2.2.2.1 r.2.2.2.2.2.toNat n t).1,(3,(0,(0,0)))):=by grind[Jo]
theorem zhG(h:(!zg n 65536)=false)(h2:(yX r.1 r.2.1 r.2.2.1 r.2.2.2.1 r.2.2.2.2.1 r.2.2.2.2.2.toNat n t).2=false):Jo s k r n t=(s,(4,(0,(0,0)))):=by grind[Jo]
theorem zlp{port:Int}(W:Vr s)(hs:dt s)(hx:Xd x)(ht:inP t 0 274877906944)(hT:mG s t):zt (yA (fun s0:((zL×(zL×(yQ×(Int×Unit))))×Unit)=>bif(zg (s0.1.2.2.2.1) ((((s0.1.1.2.2.2.1).length:Nat):Int)))then opt (atI (s0.1.1.2.2.2.1) (s0.1.2.2.2.1)) fun x1=>bif(!(zj (x1.1) (port)))then some (.inr ((s0.1.1,(s0.1.2.1,(s0.1.2.2.1,((wrF .i64 ((s0.1.2.2.2.1+1))),())))),()))else opt (atI (s0.1.1.2.2.2.1) (s0.1.2.2.2.1)) fun x2=>bif(!(zj (x2.2.1) (x.1)))then some (.inr ((s0.1.1,(s0.1.2.1,(s0.1.2.2.1,((wrF .i64 ((s0.1.2.2.2.1+1))),())))),()))else opt (atI (s0.1.1.2.2.2.1) (s0.1.2.2.2.1)) fun x3=>bif(!(zj (x3.2.2.1) (x.2.2.1)))then some (.inr ((s0.1.1,(s0.1.2.1,(s0.1.2.2.1,((wrF .i64 ((s0.1.2.2.2.1+1))),())))),()))else bif(!(zg (x.2.1) (65536)))then some (.inl (1,((s0.1.1,(s0.1.1,((1,(0,(0,20))),(s0.1.2.2.2.1,())))),())))else opt (atI (s0.1.1.2.2.2.1) (s0.1.2.2.2.1)) fun x4=>opt (atI (s0.1.1.2.2.2.2) (x4.2.2.2)) fun x5=>opt (gz ((x5,(x.2.1,(t,()))))) fun x6=>bif(qb (0) ((s0.1.1.2.2.2.2).length) (48))then opt (atI (s0.1.1.2.2.2.2) (x4.2.2.2)) fun x7=>opt (gl (s0.1.1.2.2.2.2) ((Int.toNat x4.2.2.2))) fun x8=>bif x6.2.1 then some (.inl (1,(((s0.1.1.1,(s0.1.1.2.1,(s0.1.1.2.2.1,(s0.1.1.2.2.2.1,((s0.1.1.2.2.2.2).set ((Int.toNat x4.2.2.2)) (x6.1)))))),((s0.1.1.1,(s0.1.1.2.1,(s0.1.1.2.2.1,(s0.1.1.2.2.2.1,((s0.1.1.2.2.2.2).set ((Int.toNat x4.2.2.2)) (x6.1)))))),((3,(0,(0,0))),(s0.1.2.2.2.1,())))),())))else some (.inl (1,(((s0.1.1.1,(s0.1.1.2.1,(s0.1.1.2.2.1,(s0.1.1.2.2.2.1,((s0.1.1.2.2.2.2).set ((Int.toNat x4.2.2.2)) (x6.1)))))),((s0.1.1.1,(s0.1.1.2.1,(s0.1.1.2.2.1,(s0.1.1.2.2.2.1,((s0.1.1.2.2.2.2).set ((Int.toNat x4.2.2.2)) (x6.1)))))),((4,(0,(0,0))),(s0.1.2.2.2.1,())))),())))else none else some (.inl (0,((s0.1.1,(s0.1.2.1,(s0.1.2.2.1,(s0.1.2.2.2.1,())))),())))) xm ((s,(mH,((0,(0,(0,0))),(0,())))),())) fun r=>((r.1:Nat)=0∧r.2.1.1=s∧WJ s.2.2.2.1 (QD port x))∨(r.1=1∧∃(i k:Nat) (e:xP) (q:qy),vI s.2.2.2.1 (QD port x) i∧s.2.2.2.1[i]?=some e∧e.2.2.2=(k:Int)∧s.2.2.2.2[k]?=some q∧r.2.1.2.1=(Jo s k q x.2.1 t).1∧r.2.1.2.2.1=(Jo s k q x.2.1 t).2):=by
 have hle:=hs.2.2.2.1;have hlr:=W.lr;obtain⟨t0,t1⟩:=id ht;obtain⟨q0,q1⟩:=hx.2.1;refine Wd s.2.2.2.1 (fun i=>((s,(mH,((0,(0,(0,0))),((i:Int),())))),())) (QD port x) _ (by omega) ?_ ?_ rfl
 ·intro i e hi he;refine zf (zI (show(i:Int) < (s.2.2.2.1.length:Int) by omega)) (zb (zm he (zd (fun h1=>za (.inl ⟨fun h=>qn (qK.1 h1) h.1,?_⟩)) fun h1=>zb (zm he (zd (fun h2=>za (.inl ⟨fun h=>qn (qK.1 h2) h.2.1,?_⟩)) fun h2=>zb (zm he (zd (fun h3=>za (.inl ⟨fun h=>qn (qK.1 h3) h.2.2,?_⟩)) fun h3=>?_)))))))
  ·rw[zO (by omega)]
  ·rw[zO (by omega)]
  ·rw[zO (by omega)]
  have hm:QD port x e:=⟨qg (qC.1 h1),qg (qC.1 h2),qg (qC.1 h3)⟩;obtain⟨_,_,_,k0,k1⟩:=hs.2.2.2.2.2.1 i e he;obtain⟨k,hk⟩:∃k:Nat,e.2.2.2=(k:Int):=⟨e.2.2.2.toNat,by omega⟩;have hkl:k < s.2.2.2.2.length:=by omega
  have hr:s.2.2.2.2[k]?=some s.2.2.2.2[k]:=FL hkl;generalize s.2.2.2.2[k]=r at hr;have hsw:=W.wr k r hr;have hq:=hs.2.2.2.2.2.2 k r hr;obtain⟨em,hsz⟩:=pF hsw;have fin:∀(y1 y2:zL) (y3:yQ) (y4:Int),y2=(Jo s k r x.2.1 t).1->y3=(Jo s k r x.2.1 t).2->(vI s.2.2.2.1 (QD port x) i->(((1:Nat)=0∧y1=s∧WJ s.2.2.2.1 (QD port x))∨((1:Nat)=1∧∃(i k:Nat) (e:xP) (q:qy),vI s.2.2.2.1 (QD port x) i∧s.2.2.2.1[i]?=some e∧e.2.2.2=(k:Int)∧s.2.2.2.2[k]?=some q∧y2=(Jo s k q x.2.1 t).1∧y3=(Jo s k q x.2.1 t).2))):=
   fun y1 y2 y3 y4 e1 e2 h=>.inr ⟨rfl,i,k,e,r,h,he,hk,hr,e1,e2⟩
  cases hn:(!zg x.2.1 65536)with
  |true=>
   exact zf rfl (za (.inr ⟨hm,_,rfl,fin _ _ _ 0 (by rw[zgi hn]) (by rw[zgi hn])⟩))
  |false=>
   have hn2:x.2.1 < 65536:=zT (qC.1 hn);have hacc:gz (r,x.2.1,t,())=some ((yX r.1 r.2.1 r.2.2.1 r.2.2.2.1 r.2.2.2.2.1 r.2.2.2.2.2.toNat x.2.1 t).1,(yX r.1 r.2.1 r.2.2.1 r.2.2.2.1 r.2.2.2.2.1 r.2.2.2.2.2.toNat x.2.1 t).2,()):=by
    conv=>lhs;rw[em]
    exact zjp hq ⟨q0,by omega⟩ ⟨t0,by omega⟩
   refine zi rfl (zb (zm he (zb (Ko hk hr ?_))));rw[hacc,zq];refine zf (qM (by show(0+s.2.2.2.2.length)*48<=_;omega) (by show 0+s.2.2.2.2.length<=_;omega)) (zb (Ko hk hr (zb ?_)));rw[hk,zqQ];refine jI hkl fun _ _=>?_;have hno:=zpI (n:=x.2.1) (t:=t) hsw;show zt (bif(yX r.1 r.2.1 r.2.2.1 r.2.2.2.1 r.2.2.2.2.1 r.2.2.2.2.2.toNat x.2.1 t).2 then _ else _) _;cases h2:(yX r.1 r.2.1 r.2.2.1 r.2.2.2.1 r.2.2.2.2.1 r.2.2.2.2.2.toNat x.2.1 t).2 with
   |true=>
    exact zf rfl (za (.inr ⟨hm,_,rfl,fin _ _ _ 0 (by rw[zgj hn h2]) (by rw[zgj hn h2])⟩))
   |false=>
    refine zi rfl (za (.inr ⟨hm,_,rfl,fin _ _ _ 0 ?_ (by rw[zhG hn h2])⟩));rw[zhG hn h2];show znl s k (yX r.1 r.2.1 r.2.2.1 r.2.2.2.1 r.2.2.2.2.1 r.2.2.2.2.2.toNat x.2.1 t).1=s;rw[hno h2];show(s.1,(s.2.1,(s.2.2.1,(s.2.2.2.1,s.2.2.2.2.set k r))))=s;rw[znm hr]
 grind[zD,za]
structure Pe(s q:zL):Prop where
 w:Vr q
 sh:q.1=s.1
 acc:q.2.1.1=s.2.1.1
 pol:q.2.1.2.1=s.2.1.2.1
 ll:q.2.1.2.2.2.1.length=s.2.1.2.2.2.1.length
 lm:q.2.1.2.2.2.2.length=s.2.1.2.2.2.2.length
 lo:q.2.2.1.length=s.2.2.1.length
 le:q.2.2.2.1=s.2.2.2.1
 lr:q.2.2.2.2.length=s.2.2.2.2.length
theorem znn(W:Vr s)(hs:dt s)(hr:s.2.2.2.2[k]?=some r)(hn:0<=n):Pe s (Jo s k r n t).1:=by
 have h0:Pe s s:=⟨W,rfl,rfl,rfl,rfl,rfl,rfl,rfl,rfl⟩;unfold Jo;cases h1:(!zg n 65536)with
 |true=>exact h0
 |false=>
  have hn2:=zT (qC.1 h1);cases h2:(yX r.1 r.2.1 r.2.2.1 r.2.2.2.1 r.2.2.2.2.1 r.2.2.2.2.2.toNat n t).2 with
  |false=>exact h0
  |true=>
   refine⟨⟨W.la,W.lp,by show(s.2.2.2.2.set k _).length<=_;rw[zrZ];exact W.lr,fun j q hj=>?_⟩,rfl,rfl,rfl,rfl,rfl,rfl,rfl,by grind⟩;have hj:(s.2.2.2.2.set k (yX r.1 r.2.1 r.2.2.1 r.2.2.2.1 r.2.2.2.2.1 r.2.2.2.2.2.toNat n t).1)[j]?=some q:=hj;rw[zqK]at hj;by_cases hkj:k=j
   ·subst hkj;rw[zqJ rfl]at hj;split at hj
    ·cases hj;exact zp8 (W.wr k r hr) (hs.2.2.2.2.2.2 k r hr) ⟨hn,by omega⟩
    ·cases hj
   ·rw[zqt hkj]at hj;exact W.wr j q hj
theorem zbd{g:zK}{i:Nat}{o:jM}(W:Vr s)(h1:g.1=s.2.1.1)(h2:g.2.1=s.2.1.2.1)(h3:g.2.2.2.1.length=s.2.1.2.2.2.1.length)(h4:g.2.2.2.2.length=s.2.1.2.2.2.2.length):Pe s (s.1,(g,s.2.2))∧Pe s (onV s g i o x t).1:=by
 have W2:∀l:List jM,Vr (s.1,(g,(l,s.2.2.2))):=fun l=>⟨by show g.1.length<=_;rw[h1];exact W.la,by show g.2.1.length<=_;rw[h2];exact W.lp,W.lr,W.wr⟩;have h0:Pe s (s.1,(g,s.2.2)):=⟨W2 s.2.2.1,rfl,h1,h2,h3,h4,rfl,rfl,rfl⟩;refine⟨h0,?_⟩;unfold onV;cases zj x.2.2.1 7 with
 |true=>exact h0
 |false=>
  cases(!zj (gk o.2.1 o.2.2.2 t x.2.2.2.1).2.2 0)with
  |true=>exact h0
  |false=>
   cases zg o.2.2.1 ((gk o.2.1 o.2.2.2 t x.2.2.2.1).1 - t)with
   |true=>exact h0
   |false=>exact⟨W2 _,rfl,h1,h2,h3,h4,by grind,rfl,rfl⟩
theorem zno{port:Int}(W:Vr s):∃q a e,xN (s,port,x,t,())=some (q,a,e,())∧ve (s,port,x,t,())=some (q,a,e,())∧((e=0∧dt s∧Pe s q)∨(e≠0∧q=mH)):=by
 have hch:=zoR W;have hri:=zln W;by_cases hs:dt s;rotate_left
 ·refine⟨mH,(0,(0,(0,0))),521,?_,?_,.inr ⟨by decide,rfl⟩⟩
  ·rw[gW];unfold kJ;delta lnC w6C upC aTC nxC exC lpC jzC;rw[hch,wg hs,zq];rfl
  grind[kL,gC,wg,zq]
 rw[qU hs]at hch hri;by_cases hp:inP port 0 47;rotate_left
 ·refine⟨mH,(0,(0,(0,0))),2,?_,?_,.inr ⟨by decide,rfl⟩⟩
  ·rw[gW];unfold kJ;delta lnC w6C upC aTC nxC exC lpC jzC;rw[hch,zq];refine qF (zi rfl (zb (zd (fun h=>za (zu (za rfl))) fun h=>zd (fun h2=>za (zu (za rfl))) fun h2=>?_)));exact absurd ⟨zN h,by have:=zT (qC.1 h2);omega⟩ hp
  grind[kL,gC,zq,GW,wg]
 obtain⟨p0,p1⟩:=id hp;by_cases hx:Xd x;rotate_left
 ·refine⟨mH,(0,(0,(0,0))),460,?_,?_,.inr ⟨by decide,rfl⟩⟩
  ·rw[gW];unfold kJ;delta lnC w6C upC aTC nxC exC lpC jzC;rw[hch,zq,za9,wg hx];exact qF (zi rfl (zb (zi (zD (by omega)) (zi (by rw[zI (by omega)];rfl) (za (zx (zb (za (zf rfl (za rfl))))))))))
  grind[kL,gC,zq,GW,qU,OY,wg]
 have hT1:=zoS (s:=s) (t:=t) hs.1 W.lr;by_cases ht:inP t 0 274877906944∧mG s t;rotate_left
 ·refine⟨mH,(0,(0,(0,0))),2,?_,?_,.inr ⟨by decide,rfl⟩⟩
  ·rw[gW];unfold kJ;delta lnC w6C upC aTC nxC exC lpC jzC;rw[hch,zq,za9,qU hx,hT1,wg ht];exact qF (zi rfl (zb (zi (zD (by omega)) (zi (by rw[zI (by omega)];rfl) (za (zx (zb (za (zi rfl (zb (za (zf rfl (za rfl)))))))))))))
  ·rw[kL];unfold gC;delta lnC w6C upC aTC nxC exC lpC jzC;rw[hri,zq,GW,qU hp,zq,OY,qU hx,zq];refine qF (zi rfl (zi rfl (zi rfl (zb (zd (fun h=>za (zu (za rfl))) fun h=>zd (fun h2=>za (zu (za rfl))) fun h2=>?_)))));have ht1:inP t 0 274877906944:=⟨zN h,zN h2⟩;rw[zcj hs.1 ht1 W.lr,wg fun h=>ht ⟨ht1,h⟩,zq];exact zf rfl (za (zu (za rfl)))
 obtain⟨htP,hT⟩:=ht;obtain⟨t0,t1⟩:=id htP;obtain⟨s0,s1⟩:=id hs.1;have prog:∀Q,zt (opt (xx (s,port,x,t,(0,(0,(0,0)))) ()) fun x4=>
     bif x4.2.1 then some (x4.1.1,(x4.1.2.2.2.2,((0:Int),())))
     else opt (xR (x4.1) (())) fun x5=>
      bif x5.2.1 then some (x5.1.1,(x5.1.2.2.2.2,(0,())))
      else opt (yU (x5.1) (())) fun x6=>
       bif x6.2.1 then some (x6.1.1,(x6.1.2.2.2.2,(0,())))
       else opt (yn (x6.1) (())) fun x7=>
        bif x7.2.1 then some (x7.1.1,(x7.1.2.2.2.2,(0,())))
        else some (x7.1.1,(x7.1.2.2.2.2,(0,())))) Q->zt (xN (s,port,x,t,())) Q:=fun Q h=>by
  rw[gW];unfold kJ;delta lnC w6C upC aTC nxC exC lpC jzC;rw[hch,zq,za9,qU hx,hT1,qU ⟨htP,hT⟩]
  exact zi rfl (zb (zi (zD (by omega)) (zi (by rw[zI (by omega)];rfl) (za (zx (zb (za (zi rfl (zb (za (zi rfl h)))))))))))
 have refe:∀q a,UC (s,port,x,t,())=some (q,a,())->ve (s,port,x,t,())=some (q,a,0,()):=fun q a h=>by rw[kL];unfold gC;delta lnC w6C upC aTC nxC exC lpC jzC;rw[hri,zq,GW,qU hp,zq,OY,qU hx,zq];refine qF (zi rfl (zi rfl (zi rfl (zb (zi (zD (by omega)) (zi (zD (by omega)) ?_))))));rw[zcj hs.1 htP W.lr,qU hT,zq];refine zi rfl (za (zx ?_));rw[h];exact za rfl
 have hdl:=zlp W hs hx htP hT (port:=port);rcases iz (QD port x) s.2.2.2.1 with hn | ⟨i,hi⟩
 rotate_left
 ·obtain⟨⟨e,he,_⟩,_⟩:=id hi;obtain⟨_,_,_,k0,k1⟩:=hs.2.2.2.2.2.1 i e he;obtain⟨k,hk⟩:∃k:Nat,e.2.2.2=(k:Int):=⟨e.2.2.2.toNat,by omega⟩;have hkl:k < s.2.2.2.2.length:=by omega
  have hr:s.2.2.2.2[k]?=some s.2.2.2.2[k]:=FL hkl;generalize s.2.2.2.2[k]=r at hr;refine⟨(Jo s k r x.2.1 t).1,(Jo s k r x.2.1 t).2,0,qF (prog _ ?_),refe _ _ ?_,.inl ⟨rfl,hs,znn W hs hr hx.2.1.1⟩⟩
  ·rw[zp9 W hs hx htP hT hi he hk hr,zq];grind[za]
  ·rw[WD];unfold Yt;delta lnC w6C upC aTC nxC exC lpC jzC;refine qF (zk hdl ?_);rintro⟨c,⟨y1,y2,y3,y4,⟨⟩⟩,⟨⟩⟩ (⟨_,_,h⟩ | ⟨h1,i',k',e',r',hi',he',hk',hr',h2,h3⟩)
   ·obtain⟨⟨q,hq1,hq2⟩,_⟩:=hi;exact absurd hq2 (h i q hq1)
   ·have:=sC hi hi';subst this;rw[he]at he';cases he';have:k=k':=by omega
    subst this;rw[hr]at hr';cases hr';simp only at h1 h2 h3;subst h1 h2 h3;exact zu (za rfl)
 obtain⟨g,v,hP1,hP2,g1,g2,g3,g4,hg⟩:=zpH (f:=s.2.1) (port:=port) (x:=x) (t:=t+s.1) hs.2.1 hp hx hT.1 (by omega);have hwt:wrF .i64 (t+s.1)=t+s.1:=zR (by omega) (by omega);obtain⟨z,hz⟩:=zpE s.2.1.1 (kO port x);have hB:=VV hs.2.1;have hsift:xR (s,port,x,t,(0,(0,(0,0)))) ()=(if v=0 then some (((s.1,(g,s.2.2)),port,x,t,(0,(0,(0,0)))),false,())else some (((s.1,(g,s.2.2)),port,x,t,(1,(0,(0,v)))),true,())):=by
  rw[BX];unfold VR;delta lnC w6C upC aTC nxC exC lpC jzC;show opt (vQ (s.2.1,port,x,wrF .i64 (t+s.1),())) _=_;rw[hwt,hP1,zq];by_cases hv:v=0
  ·rw[zqJ hv,hv];rfl
  ·rw[zqt hv];refine qF (zi rfl (zf (by rw[jc hv];rfl) ?_));rw[Ze];exact za rfl
 have hstop:∀d:zM,yU d ()=(if d.2.2.1.2.2.1 < 6 then some ((d.1,(d.2.1,(d.2.2.1,(d.2.2.2.1,(5,(0,(0,0))))))),true,())else some (d,false,())):=fun d=>by grind[BZ,VS,zI,zD]
 by_cases hv:v=0;rotate_left
 ·refine⟨(s.1,(g,s.2.2)),(1,(0,(0,v))),0,qF (prog _ ?_),refe _ _ ?_,.inl ⟨rfl,hs,(zbd (i:=0) (o:=(0,((0,0),(0,(0,0))))) (x:=x) (t:=t) W g1 g2 g3 g4).1⟩⟩
  ·grind[znL,zq,za]
  ·rw[WD];unfold Yt;delta lnC w6C upC aTC nxC exC lpC jzC;refine qF (zk hdl ?_);rintro⟨c,⟨y1,y2,y3,y4,⟨⟩⟩,⟨⟩⟩ (⟨h1,h2,_⟩ | ⟨h1,i',k',e',r',⟨⟨q2,hq1,hq2⟩,_⟩,_⟩);rotate_left
   ·exact absurd hq2 (hn i' q2 hq1)
   simp only at h1 h2;subst h1 h2;refine zx ?_;show zt (opt (uO (y1.2.1,port,x,())) _) _;rw[iB (by have:=hB.la;omega) hz,zq];grind[zt,opt,yV,wrF,zq,jc,za]
 rw[zqJ hv]at hsift;have hprog2
       : ∀Q,zt (opt (yU ((s.1,(g,s.2.2)),port,x,t,(0,(0,(0,0)))) ()) fun x6=>
       bif x6.2.1 then some (x6.1.1,(x6.1.2.2.2.2,((0:Int),())))
       else opt (yn (x6.1) (())) fun x7=>
        bif x7.2.1 then some (x7.1.1,(x7.1.2.2.2.2,(0,())))
        else some (x7.1.1,(x7.1.2.2.2.2,(0,())))) Q->zt (xN (s,port,x,t,())) Q:=fun Q h=>by
  grind[znL,zq]
 by_cases hc:x.2.2.1 < 6
 ·refine⟨(s.1,(g,s.2.2)),(5,(0,(0,0))),0,qF (hprog2 _ ?_),refe _ _ ?_,.inl ⟨rfl,hs,(zbd (i:=0) (o:=(0,((0,0),(0,(0,0))))) (x:=x) (t:=t) W g1 g2 g3 g4).1⟩⟩
  ·grind[zq,za]
  ·rw[WD];unfold Yt;delta lnC w6C upC aTC nxC exC lpC jzC;refine qF (zk hdl ?_);rintro⟨c,⟨y1,y2,y3,y4,⟨⟩⟩,⟨⟩⟩ (⟨h1,h2,_⟩ | ⟨h1,i',k',e',r',⟨⟨q2,hq1,hq2⟩,_⟩,_⟩);rotate_left
   ·exact absurd hq2 (hn i' q2 hq1)
   simp only at h1 h2;subst h1 h2;refine zx ?_;show zt (opt (uO (y1.2.1,port,x,())) _) _;rw[iB (by have:=hB.la;omega) hz,zq];grind[zt,opt,yV,wrF,zq,wM,zI,za]
 obtain⟨hfg,hex⟩:=hg (by omega);obtain⟨i,a,hi,ha⟩:=hex hv;have hzi:z=(i:Int):=iA hz (.inr ⟨i,hi,rfl⟩);have hll:=hs.2.2.1;have hla:=hB.la;have hil:i < s.2.2.1.length:=by grind
 have ho:s.2.2.1[i]?=some s.2.2.1[i]:=FL hil;generalize s.2.2.1[i]=o at ho;obtain⟨a',ha',hao⟩:=hs.2.2.2.2.1 i o ho;rw[ha]at ha';cases ha';obtain⟨d,hd1,hd2,hd3⟩:=zlo (s:=s) hfg hx (by omega) htP (i:=i) (a:=a) (o:=o) (by rw[g1];exact hi) (by rw[g1];exact ha) ho hao (by omega);refine⟨(onV s g i o x t).1,(onV s g i o x t).2,0,qF (hprog2 _ ?_),refe _ _ ?_,.inl ⟨rfl,hs,(zbd W g1 g2 g3 g4).2⟩⟩
 ·grind[zq,za]
 ·rw[WD];unfold Yt;delta lnC w6C upC aTC nxC exC lpC jzC;refine qF (zk hdl ?_);rintro⟨c,⟨y1,y2,y3,y4,⟨⟩⟩,⟨⟩⟩ (⟨h1,h2,_⟩ | ⟨h1,i',k',e',r',⟨⟨q2,hq1,hq2⟩,_⟩,_⟩);rotate_left
  ·exact absurd hq2 (hn i' q2 hq1)
  simp only at h1 h2;subst h1 h2;refine zx ?_;show zt (opt (uO (y1.2.1,port,x,())) _) _;rw[iB (by have:=hB.la;omega) hz,zq];show zt (opt (yV (y1.2.1,port,x,wrF .i64 (t+y1.1),())) _) _;rw[hwt,hP2,zq];refine zi (by grind[wM]) (zi (zD hc) (zb (Ko hzi ho ?_)));unfold onV;show zt (bif zj x.2.2.1 7 then _ else _) _;cases h7:zj x.2.2.1 7 with
  |true=>exact za rfl
  |false=>
   obtain⟨⟨a',ha',hm⟩,_⟩:=hi;rw[ha]at ha';cases ha';obtain⟨c0,c1⟩:=hx.2.2.1;have h6:a.2.2.1=6:=by have:=qn h7;have:=hm.2.2;omega
   obtain⟨_,ho2⟩:=hao;rcases ho2 with ho2 | ⟨_,hb,_,⟨o0,o1⟩,hsh⟩
   ·exact absurd h6 ho2.1
   have hbd:=zhF (t:=t) (size:=x.2.2.2.1) hb hsh ⟨t0,by omega⟩ hx.2.2.2.1;refine zi rfl ?_;show zt (opt (gX (o.2.1,o.2.2.2,t,x.2.2.2.1,())) _) _;rw[znc hb hsh ⟨t0,by omega⟩ hx.2.2.2.1,zq];generalize gk o.2.1 o.2.2.2 t x.2.2.2.1=w at hbd;refine zb ?_;show zt (bif !zj w.2.2 0 then _ else bif zg o.2.2.1 (wrF .i64 (w.1 - t))then _ else _) _;rw[zR (z:=w.1 - t) (by omega) (by omega)];cases h1:(!zj w.2.2 0)with
   |true=>exact zf rfl (za (zu (za rfl)))
   |false=>
    cases h2:zg o.2.2.1 (w.1 - t)with
    |true=>exact zi rfl (zf rfl (za (zu (za rfl))))
    |false=>
     refine zi rfl (zi rfl (za (zx (zf (qM (by grind) (by grind)) (zb (Ko hzi ho (zb ?_)))))));rw[hzi];show zt (gl y1.2.2.1 (Int.toNat (i:Int))) _;rw[zqQ];exact jI hil fun _ _=>za rfl
end Go.Proofs.YtlfkgkedfciccaaGreat.nd
namespace Go.Proofs.YtlfkgkedfciccaaGreat.nd
open Go Go.Fz Go.Fz.Sy
theorem kP(a:Int):zj a a=true:=wM rfl
structure zgk(s:zL):Prop where
 a1:s.2.1.1.length<=1000000000000000000
 a2:s.2.1.2.1.length<=1000000000000000000
 a3:s.2.1.2.2.2.1.length<=1000000000000000000
 a4:s.2.1.2.2.2.2.length<=1000000000000000000
 a5:s.2.2.1.length<=1000000000000000000
 a6:s.2.2.2.1.length<=1000000000000000000
 a7:s.2.2.2.2.length<=1000000000000000000
theorem znp{f:zK}(b1:f.1.length<=1000000000000000000)(b2:f.2.1.length<=1000000000000000000)(b3:f.2.2.2.1.length<=1000000000000000000)(b4:f.2.2.2.2.length<=1000000000000000000):UD (f,f,())=some (true,()):=by
 rw[Ti];unfold FH;delta lnC w6C upC aTC nxC exC lpC jzC;refine qF (zb (zi (by rw[kP];rfl) (zi (by rw[kP];rfl) (zi (by rw[kP];rfl) (zi (by rw[kP];rfl) (zi (by rw[kP];rfl) (za ?_)))))));refine zx (zk (jQ false f.1.length (fun _=>True) b1 ?_ ?_) ?_)
 ·intro i hi;have hx:f.1[i]?=some f.1[i]:=FL hi;grind[zI,zb,zm,kP,za,zO]
 ·grind[zD,za]
 rintro⟨c,⟨y1,y2,⟨⟩⟩,⟨⟩⟩ (⟨rfl,rfl,_⟩ | ⟨rfl,rfl,hA⟩);rotate_left
 ·grind
 refine zx (zk (jQ false f.2.2.2.1.length (fun _=>True) b3 ?_ ?_) ?_)
 ·intro i hi;have hx:f.2.2.2.1[i]?=some f.2.2.2.1[i]:=FL hi;grind[zI,zb,zm,kP,za,zO]
 ·grind[zD,za]
 rintro⟨c,⟨y1,y2,⟨⟩⟩,⟨⟩⟩ (⟨rfl,rfl,_⟩ | ⟨rfl,rfl,hA⟩);rotate_left
 ·grind
 refine zx (zk (jQ false f.2.1.length (fun _=>True) b2 ?_ ?_) ?_)
 ·intro i hi;have hx:f.2.1[i]?=some f.2.1[i]:=FL hi;grind[zI,zb,zm,kP,za,zO]
 ·grind[zD,za]
 rintro⟨c,⟨y1,y2,⟨⟩⟩,⟨⟩⟩ (⟨rfl,rfl,_⟩ | ⟨rfl,rfl,hA⟩);rotate_left
 ·grind
 refine zx (zk (jQ false f.2.2.2.2.length (fun _=>True) b4 ?_ ?_) ?_)
 ·intro i hi;have hx:f.2.2.2.2[i]?=some f.2.2.2.2[i]:=FL hi;grind[zI,zb,zm,kP,za,zO]
 ·grind[zD,za]
 rintro⟨c,⟨y1,y2,⟨⟩⟩,⟨⟩⟩ (⟨rfl,rfl,_⟩ | ⟨rfl,rfl,hA⟩);rotate_left
 ·grind
 exact zx (za rfl)
theorem zpJ{s:zL}(B:zgk s):xT (s,s,())=some (true,()):=by
 rw[Ck];unfold ig;delta lnC w6C upC aTC nxC exC lpC jzC;rw[znp B.a1 B.a2 B.a3 B.a4,zq];refine qF (zb (zi (by rw[kP];rfl) (zi rfl (zi (by rw[kP];rfl) (zi (by rw[kP];rfl) (zi (by rw[kP];rfl) (za ?_)))))));refine zx (zk (jQ false s.2.2.1.length (fun _=>True) B.a5 ?_ ?_) ?_)
 ·intro i hi;have hx:s.2.2.1[i]?=some s.2.2.1[i]:=FL hi;generalize s.2.2.1[i]=o at hx;refine zf (zI (show(i:Int) < (s.2.2.1.length:Int) by omega)) (zb (zm hx (zb (zm hx (zi (by simp[kP]) (za (.inl ⟨trivial,?_⟩)))))));rw[zO (by have:=B.a5;omega)]
 ·grind[zD,za]
 rintro⟨c,⟨y1,y2,⟨⟩⟩,⟨⟩⟩ (⟨rfl,rfl,_⟩ | ⟨rfl,rfl,hA⟩);rotate_left
 ·grind
 refine zx (zk (jQ false s.2.2.2.1.length (fun _=>True) B.a6 ?_ ?_) ?_)
 ·intro i hi;have hx:s.2.2.2.1[i]?=some s.2.2.2.1[i]:=FL hi;generalize s.2.2.2.1[i]=o at hx;refine zf (zI (show(i:Int) < (s.2.2.2.1.length:Int) by omega)) (zb (zm hx (zb (zm hx (zi (by simp[kP]) (za (.inl ⟨trivial,?_⟩)))))));rw[zO (by have:=B.a6;omega)]
 ·grind[zD,za]
 rintro⟨c,⟨y1,y2,⟨⟩⟩,⟨⟩⟩ (⟨rfl,rfl,_⟩ | ⟨rfl,rfl,hA⟩);rotate_left
 ·grind
 refine zx (zk (jQ false s.2.2.2.2.length (fun _=>True) B.a7 ?_ ?_) ?_)
 ·intro i hi;have hx:s.2.2.2.2[i]?=some s.2.2.2.2[i]:=FL hi;generalize s.2.2.2.2[i]=o at hx;refine zf (zI (show(i:Int) < (s.2.2.2.2.length:Int) by omega)) (zb (zm hx (zb (zm hx (zi (by simp[kP]) (za (.inl ⟨trivial,?_⟩)))))));rw[zO (by have:=B.a7;omega)]
 ·grind[zD,za]
 rintro⟨c,⟨y1,y2,⟨⟩⟩,⟨⟩⟩ (⟨rfl,rfl,_⟩ | ⟨rfl,rfl,hA⟩);rotate_left
 ·grind
 exact zx (za rfl)
theorem zlq:zgk mH:=⟨by decide,by decide,by decide,by decide,by decide,by decide,by decide⟩
theorem zlr{s q:zL}(hs:dt s)(W:Vr s)(h:Pe s q):zgk q:=by have B:=VV hs.2.1;have h1:=B.la;have h2:=B.lp;have h3:=B.ll;have h4:=B.lm;have k1:=h.acc;have k2:=h.pol;have k3:=h.ll;have k4:=h.lm;have k5:=h.lo;have k6:=h.le;have k7:=h.lr;have h5:=hs.2.2.1;have h6:=hs.2.2.2.1;have h7:=W.lr;exact⟨by rw[k1];omega,by rw[k2];omega,by omega,by omega,by omega,by rw[k6];omega,by omega⟩
end Go.Proofs.YtlfkgkedfciccaaGreat.nd
namespace Go.Proofs.YtlfkgkedfciccaaGreat.dd
open Go Go.Fz Go.Fz.Sy Go.Proofs.YtlfkgkedfciccaaGreat.nd Go.Proofs.YtlfkgkedfciccaaGreat.ad
theorem znq{c:Cfg}(hc:OV c){i:Nat}(hi:i < c.2.1.length):∃v,gy (c,(i:Int),())=some (v,()):=by
 have h6:=hc.n6;have hof:=hc.of;suffices key:zt (gy (c,(i:Int),())) fun _=>True by obtain⟨⟨v,⟨⟩⟩,e,_⟩:=key;exact⟨v,e⟩
 have hcl:∀k,wP (c.2.1.take k)<=c.2.1.length:=fun k=>by
  have h1:=za8 c.2.1 k;have h2:wP c.2.1<=c.2.1.length:=by unfold wP;exact zrh _ _
  omega
 rw[HQ];unfold oz;delta lnC w6C upC aTC nxC exC lpC jzC;refine zk (J:=fun x=>x.2.1.1=((wP (c.2.1.take i):Nat):Int)) (zX i (fun k s=>s=((((wP (c.2.1.take k):Nat):Int),((k:Int),())),())) (by omega) rfl ?_ ?_) ?_
 ·rintro k _ hk rfl;have hx:c.2.1[k]?=some c.2.1[k]:=FL (by omega);generalize c.2.1[k]=x at hx;have hs:=mE hx;have hb:=hcl k;refine zf (zI (show(k:Int) < (i:Int) by omega)) (zk (J:=fun x=>x.2.1.1=((wP (c.2.1.take (k+1)):Nat):Int)) (zb (zm hx (zd (fun h=>za ?_) fun h=>za ?_))) ?_)
  ·show wrF .i64 (((wP (c.2.1.take k):Nat):Int)+1)=_;rw[zO (by omega),hs,zqJ (qg h)]
  ·show((wP (c.2.1.take k):Nat):Int)=_;rw[hs,zqt (qn h)];rfl
  ·rintro⟨j,⟨v,⟨⟩⟩,⟨⟩⟩ hv;have hv:v=_:=hv;subst hv;exact za (qj (zqT (fun z=>((((wP (c.2.1.take (k+1)):Nat):Int),(z,())),())) (zO (by omega))))
 ·rintro _ rfl;exact zi (zD (show ¬(i:Int) < (i:Int) by omega)) (za (zw rfl))
 rintro⟨j,⟨v,z,⟨⟩⟩,⟨⟩⟩ hv;have hv:v=_:=hv;subst hv;have hx:c.2.1[i]?=some c.2.1[i]:=FL hi;generalize c.2.1[i]=x at hx;have hs:=mE hx;grind[za8,zb,zm,za,qg,qC,wm,wP]
theorem zjs{l:List wV}(hl:l.length<=1000):∃r,um (l,())=some (r,()):=by
 suffices key:zt (um (l,())) fun _=>True by obtain⟨⟨v,⟨⟩⟩,e,_⟩:=key;exact⟨v,e⟩
 rw[BL];unfold fh;delta lnC w6C upC aTC nxC exC lpC jzC;refine zk (J:=fun _=>True) (zX l.length (fun i s=>∃L:List wV,s=(((i:Int),()),(L,()))∧L.length<=i) (by omega) ⟨[],rfl,by simp⟩ ?_ ?_) fun _ _=>za trivial
 ·rintro i _ hi ⟨L,rfl,hL⟩;have hx:l[i]?=some l[i]:=FL hi;generalize l[i]=x at hx;refine zf (zI (show(i:Int) < (l.length:Int) by omega)) (zk (J:=fun z=>z.2.2.1.length<=i+1) (zb (zm hx (zd (fun _=>zb (zm hx (zf (qM (by show(L.length+1)*96<=_;omega) (by show L.length+1<=_;omega)) (za (by show(L++[x]).length<=_;simp;omega))))) fun _=>za (by show L.length<=_;omega)))) ?_);rintro⟨k,⟨⟩,L2,⟨⟩⟩ h1;exact za (qj ⟨L2,zqT (fun z=>((z,()),(L2,()))) (zO (by omega)),h1⟩)
 grind[zD,za,zw]
theorem zqa(a b:Int):∃r,XH (a,b,())=some (r,())∧Vq r:=by
 have e:kB ((a,b,true,0,0,0),())=some (tv (GX a b true 0 0 0),()):=zce a b true 0 0 (s:=0) (by decide);rw[zaI];unfold Ma;delta lnC w6C upC aTC nxC exC lpC jzC;rw[e,zq];cases tv (GX a b true 0 0 0)with
 |true=>exact⟨_,rfl,by grind,by grind⟩
 |false=>exact⟨_,rfl,by decide,by decide⟩
abbrev Wk:zK:=([],([],(0,([],[]))))
theorem zoT{A:List qu}{M:List jL}(hA:A.length<=1000000)(hM:M.length<=1000000):∃f b,Wc (A,M,())=some (f,b,())∧(f=Wk∨Za f):=by
 suffices key:zt (Wc (A,M,())) fun r=>r.1=Wk∨Za r.1 by obtain⟨⟨f,b,⟨⟩⟩,e,h⟩:=key;grind
 rw[zaM];unfold Mh;delta lnC w6C upC aTC nxC exC lpC jzC;refine zk (J:=fun x=>∃L:List Int,x.2.2.1=(A,(M,(-1000,(L,([],())))))) (zX A.length (fun i s=>∃L:List Int,L.length=i∧s=(((),((i:Int),())),((A,(M,(-1000,(L,([],()))))),()))) (by omega) ⟨[],rfl,rfl⟩ ?_ ?_) ?_
 ·grind[zI,qM,za,qj,zO]
 ·grind[zD,za,zw]
 rintro⟨k,st,F,⟨⟩⟩ ⟨L,hF⟩;have hF:F=_:=hF;subst hF;refine zk (J:=fun x=>x.1=0∨(x.1=1∧x.2.1.1=Wk)) (zX M.length (fun i s=>∃T:List (Int×Int×Int),T.length=i∧s=((Wk,((),(false,((i:Int),())))),((A,(M,(-1000,(L,(T,()))))),()))) (by omega) ⟨[],rfl,rfl⟩ ?_ ?_) ?_
 ·rintro i _ hi ⟨T,hT,rfl⟩;have hx:M[i]?=some M[i]:=FL hi;generalize M[i]=x at hx;refine zf (zI (show(i:Int) < (M.length:Int) by omega)) (zb (zm hx (zb (zm hx ?_))));grind[zt,opt,Wb,zhA,zq,za,zw,qM,qj,Yv,zO]
 ·grind[zD,za,zw]
 rintro⟨k,st,F,⟨⟩⟩ (h | ⟨h,h2⟩)
 ·have h:k=0:=h;subst h;refine zx ?_;grind[zcd,zq,za,wC]
 ·have h:k=1:=h;subst h;exact zu (za (.inl h2))
structure Tq(s:zL):Prop where
 w:Vr s
 b:zgk s
 f:s.2.1=Wk∨Za s.2.1
 o:s.2.2.1.length<=100
 e:s.2.2.2.1.length<=100
 r:s.2.2.2.2.length<=100
abbrev Xe:=Int×zK×List jM×List xP×List qy×Unit
theorem zpK{c:Cfg}(hc:OV c){node:Int}(hn:jV c.1.1 node):∃s,uM (c,node,())=some (s,())∧Tq s:=by
 suffices key:zt (uM (c,node,())) fun r=>Tq r.1 by obtain⟨⟨s,⟨⟩⟩,e,h⟩:=key;exact⟨s,e,h⟩
 have ht:=hc.t;have hll:=ht.ll;have h6:=hc.n6;have hg:=hc.g;have hn0:=hn.1;have hn1:=hn.2;have hsh:=hc.sh;rw[SE];unfold EK;delta lnC w6C upC aTC nxC exC lpC jzC;refine zb (wm hn0 (by omega) fun shift _=>?_);refine zk (J:=fun x=>x.2.1.1=c.1.1∧x.2.1.2.2.1=c∧∃(O:List jM) (E:List xP) (R:List qy) (A:List qu),x.2.2.1=((shift,(Wk,(O,(E,(R,()))))):Xe)∧x.2.2.2.1=A∧O.length<=100∧E.length<=100∧R.length<=100∧A.length<=100∧∀(k:Nat) r,R[k]?=some r->Vq r)
  (zX c.2.1.length (fun i s=>∃(O:List jM) (E:List xP) (R:List qy) (A:List qu),s=((c.1.1,(c.1.2.1,(c,((),((i:Int),()))))),(((shift,(Wk,(O,(E,(R,()))))):Xe),(A,())))∧O.length<=16*i∧E.length<=2*i∧R.length<=i∧A.length<=16*i∧∀(k:Nat) r,R[k]?=some r->Vq r) (by omega) ⟨[],[],[],[],rfl,by simp,by simp,by simp,by simp,fun k r h=>by simp at h⟩ ?_ ?_) ?_
 ·rintro i _ hi ⟨O,E,R,A,rfl,hO,hE,hR,hA,hsw⟩;have hx:c.2.1[i]?=some c.2.1[i]:=FL hi;have hss:=hc.st _ (zqq hi);generalize c.2.1[i]=s at hx hss;obtain⟨off,eo⟩:=znq hc hi;have hrn:=hss.rn;refine zf (zI (show(i:Int) < (c.2.1.length:Int) by omega)) (zb (zm hx ?_));show zt (opt (gy (c,(i:Int),())) _) _;rw[eo,zq];refine zk (J:=fun x=>x.2.1.1=c.1.1∧x.2.1.2.1=c.1.2.1∧x.2.1.2.2.1=s∧x.2.1.2.2.2.1=c∧∃(O:List jM) (A:List qu),x.2.2.1=((shift,(Wk,(O,(E,(R,()))))):Xe)∧x.2.2.2.1=A∧O.length<=16*i+16∧A.length<=16*i+16)
   (zX s.2.2.2.2.2.2.2.2.length (fun k st=>∃(O:List jM) (A:List qu),st=((c.1.1,(c.1.2.1,(s,(c,((),((k:Int),())))))),(((shift,(Wk,(O,(E,(R,()))))):Xe),(A,())))∧O.length<=16*i+8*k∧A.length<=16*i+8*k) (by omega) ⟨O,A,rfl,by omega,by omega⟩ ?_ ?_) ?_
  ·rintro k _ hk ⟨O,A,rfl,hO,hA⟩;have hy:s.2.2.2.2.2.2.2.2[k]?=some s.2.2.2.2.2.2.2.2[k]:=FL hk;have hr:=(hss.rt _ (zqq hk)).1;generalize s.2.2.2.2.2.2.2.2[k]=r at hy hr;obtain⟨hops,eh,hm⟩:=zdL ht hc.u hss.sz hr;have hlen:hops.length=r.length:=by rw[<-hm,zsq]
   have hr8:=hr.n1;have hr1:=hr.n0;refine zf (zI (show(k:Int) < (s.2.2.2.2.2.2.2.2.length:Int) by omega)) (zb (zm hy ?_));refine zk (J:=fun x=>x.2.1.1=c.1.1∧x.2.1.2.1=c.1.2.1∧x.2.1.2.2.1=s∧x.2.1.2.2.2.1=c∧∃(O:List jM) (A:List qu),x.2.2.1=((shift,(Wk,(O,(E,(R,()))))):Xe)∧x.2.2.2.1=A∧O.length<=16*i+8*(k+1)∧A.length<=16*i+8*(k+1))
    (zX (r.length - 1) (fun h st=>∃(O:List jM) (A:List qu),st=((c.1.1,(c.1.2.1,(s,(c,((),(((1+h:Nat):Int),())))))),(((shift,(Wk,(O,(E,(R,()))))):Xe),(A,())))∧O.length<=16*i+8*k+h∧A.length<=16*i+8*k+h) (by omega) ⟨O,A,rfl,by omega,by omega⟩ ?_ ?_) ?_
   ·rintro h _ hh ⟨O,A,rfl,hO,hA⟩;have hz:r[1+h]?=some r[1+h]:=FL (by omega);have hpp:yp c.1.1 r[1+h]:=hr.pt _ (zqq _);generalize r[1+h]=p at hz hpp;have hz0:r[h]?=some r[h]:=FL (by omega);generalize r[h]=p0 at hz0;have e1:wrF .i64 (((1+h:Nat):Int) - 1)=(h:Int):=by rw[zR (by omega) (by omega)];omega
    have e2:wrF .i64 (((1+h:Nat):Int)+1)=((1+(h+1):Nat):Int):=by rw[zR (by omega) (by omega)];omega
    refine zf (zI (show((1+h:Nat):Int) < (r.length:Int) by omega)) (zb (zm hz ?_));show zt (opt (ya (c.1.1,p,())) _) _;rw[uv hll hpp,zq];refine zd (fun _=>za (qj ⟨O,A,zqT (fun z=>((c.1.1,(c.1.2.1,(s,(c,((),(z,())))))),(((shift,(Wk,(O,(E,(R,()))))):Xe),(A,())))) e2,by omega,by omega⟩)) fun _=>?_;show zt (opt (atI r (wrF .i64 (((1+h:Nat):Int) - 1))) _) _;rw[e1];refine zb (zm hz0 (zb (zm hz ?_)));refine zk (J:=fun x=>x.2.1.1=c.1.1∧x.2.1.2.1=c.1.2.1∧x.2.1.2.2.1=s∧x.2.1.2.2.2.2.1=c) (zd (fun _=>?_) fun _=>?_) ?_
    ·show zt (opt (xH (c.1.1,c.1.2.1,s,r,())) _) _;rw[eh,zq];exact zb (wm (by show 0<=((1+h:Nat):Int);omega) (by show((1+h:Nat):Int) < (hops.length:Int);omega) fun _ _=>za ⟨rfl,rfl,rfl,rfl⟩)
    ·obtain⟨rs,er⟩:=zjs (l:=c.2.1) (by omega);show zt (opt (um (c.2.1,())) _) _;rw[er,zq];refine zb (zm hz0 ?_);obtain⟨yh,zh,eyh⟩:=zpV (n:=c.1) (by omega) rs p0;show zt (opt (Wa (c.1,rs,p0,())) _) _;rw[eyh,zq];show zt (opt (XG (s.2.2.2.2.2.2.1,())) _) _;rw[zoJ,zq];exact za ⟨rfl,rfl,rfl,rfl⟩
    rintro⟨j,⟨q1,q2,q3,q4,q5,q6,⟨⟩⟩,⟨⟩⟩ ⟨g1,g2,g3,g5⟩;dsimp only at g1 g2 g3 g5;subst g1 g2 g3 g5;refine zf (qM (by show(A.length+1)*56<=_;omega) (by show A.length+1<=_;omega)) (zf (qM (by show(O.length+1)*48<=_;omega) (by show O.length+1<=_;omega)) (za (qj ⟨O++[_],A++[_],zqT (fun z=>((_,(_,(_,(_,((),(z,())))))),(((shift,(Wk,(O++[_],(E,(R,()))))):Xe),(A++[_],())))) e2,by simp;omega,by simp;omega⟩)))
   ·rintro _ ⟨O,A,rfl,hO,hA⟩;exact zi (zD (show ¬((1+(r.length - 1):Nat):Int) < (r.length:Int) by omega)) (za (zw ⟨rfl,rfl,rfl,rfl,O,A,rfl,rfl,by omega,by omega⟩))
   rintro⟨j,⟨q1,q2,q3,q4,⟨⟩,q6,⟨⟩⟩,F,A2,⟨⟩⟩ ⟨g1,g2,g3,g4,O2,A2',hF,hA2,hO3,hA3⟩;dsimp only at g1 g2 g3 g4 hF hA2;subst g1 g2 g3 g4 hF hA2;refine za (qj ⟨O2,A2,zqT (fun z=>((_,(_,(_,(_,((),(z,())))))),(((shift,(Wk,(O2,(E,(R,()))))):Xe),(A2,())))) (zO (by omega)),hO3,hA3⟩)
  ·rintro _ ⟨O,A,rfl,hO,hA⟩;exact zi (zD (show ¬(s.2.2.2.2.2.2.2.2.length:Int) < (s.2.2.2.2.2.2.2.2.length:Int) by omega)) (za (zw ⟨rfl,rfl,rfl,rfl,O,A,rfl,rfl,by omega,by omega⟩))
  rintro⟨j,⟨q1,q2,q3,q4,⟨⟩,q6,⟨⟩⟩,F,A2,⟨⟩⟩ ⟨g1,g2,g3,g4,O2,A2',hF,hA2,hO3,hA3⟩;dsimp only at g1 g2 g3 g4 hF hA2;subst g1 g2 g3 g4 hF hA2;refine zk (J:=fun x=>∃(E2:List xP) (R2:List qy),x.2.2.1=((shift,(Wk,(O2,(E2,(R2,()))))):Xe)∧E2.length<=2*(i+1)∧R2.length<=i+1∧∀(k:Nat) r,R2[k]?=some r->Vq r) (zd (fun _=>?_) fun _=>za ⟨E,R,rfl,by omega,by omega,hsw⟩) ?_
  ·refine zk (J:=fun x=>∃E2:List xP,x.2.2.1=((shift,(Wk,(O2,(E2,(R,()))))):Xe)∧E2.length<=2*i+q3.2.2.2.2.2.2.2.2.length)
    (zX q3.2.2.2.2.2.2.2.2.length (fun k st=>∃E2:List xP,st=(((),((k:Int),())),(((shift,(Wk,(O2,(E2,(R,()))))):Xe),()))∧E2.length<=2*i+k) (by omega) ⟨E,rfl,by omega⟩ ?_ ?_) ?_
   ·rintro k _ hk ⟨E2,rfl,hE2⟩;have hy:q3.2.2.2.2.2.2.2.2[k]?=some q3.2.2.2.2.2.2.2.2[k]:=FL hk;have hr:=(hss.rt _ (zqq hk)).1;generalize q3.2.2.2.2.2.2.2.2[k]=r at hy hr;have hr8:=hr.n1;have hr1:=hr.n0;have e1:wrF .i64 ((r.length:Int) - 1)=(r.length:Int) - 1:=zR (by omega) (by omega);refine zf (zI (show(k:Int) < (q3.2.2.2.2.2.2.2.2.length:Int) by omega)) (zb (zm hy (zb (zm hy ?_))));show zt (opt (atI r (wrF .i64 ((r.length:Int) - 1))) _) _;rw[e1];refine zb (wm (by omega) (by omega) fun y _=>zf (qM (by show(E2.length+1)*32<=_;omega) (by show E2.length+1<=_;omega)) (za (qj ⟨E2++[_],zqT (fun z=>(((),(z,())),(((shift,(Wk,(O2,(E2++[_],(R,()))))):Xe),()))) (zO (by omega)),by simp;omega⟩)))
   ·rintro _ ⟨E2,rfl,hE2⟩;exact zi (zD (show ¬(q3.2.2.2.2.2.2.2.2.length:Int) < (q3.2.2.2.2.2.2.2.2.length:Int) by omega)) (za (zw ⟨E2,rfl,hE2⟩))
   rintro⟨j2,st,F,⟨⟩⟩ ⟨E2,hF,hE2⟩;have hF:F=_:=hF;subst hF;obtain⟨rc,erc,hrc⟩:=zqa q4.2.2.2.2.2.1 q4.2.2.2.2.2.2;show zt (opt (XH (q4.2.2.2.2.2.1,q4.2.2.2.2.2.2,())) _) _;rw[erc,zq];refine zf (qM (by show(R.length+1)*48<=_;omega) (by show R.length+1<=_;omega)) (za ⟨E2,R++[rc],rfl,by omega,by simp;omega,fun k r hk=>?_⟩);rcases zqF.1 (zqx hk)with h | h
   ·obtain⟨k',_,hk'⟩:=kf h;exact hsw k' r hk'
   ·rw[zqY.1 h];exact hrc
  grind[za,qj,zO]
 ·grind[zD,za,zw]
 rintro⟨j,⟨q1,q2,q3,⟨⟩,q6,⟨⟩⟩,F,A2,⟨⟩⟩ ⟨g1,g3,O,E,R,A,hF,hA2,hO,hE,hR,hA,hsw⟩;dsimp only at g1 g3 hF hA2;subst g1 g3 hF hA2;have hpo:q3.2.2.2.2.1.length<=1∧∀p∈q3.2.2.2.2.1,p.1=0:=by rcases hc.po with h | h<;>rw[h]<;>simp
 have hl1:=hc.l1;have hp0:yp q3.1.1 0:=⟨by omega,by omega⟩;refine zk (J:=fun x=>x.2.2.1.length<=1) (zX q3.2.2.2.2.1.length (fun i s=>∃L:List Pol,s=(((i:Int),()),(L,()))∧L.length<=i) (by omega) ⟨[],rfl,by simp⟩ ?_ ?_) ?_
 ·rintro i _ hi ⟨L,rfl,hL⟩;have hx:q3.2.2.2.2.1[i]?=some q3.2.2.2.2.1[i]:=FL hi;have hx0:=hpo.2 _ (zqq hi);generalize q3.2.2.2.2.1[i]=x at hx hx0;refine zf (zI (show(i:Int) < (q3.2.2.2.2.1.length:Int) by omega)) (zk (J:=fun z=>z.2.2.1.length<=i+1) (zb (zm hx ?_)) ?_);all_goals grind[zt,opt,jO,uP,zq,zb,zm,qM,za,qj,zO]
 ·grind[zD,za,zw]
 rintro⟨k,st,M,⟨⟩⟩ hM;have hM:M.length<=1:=hM;obtain⟨f,b,ef,hf⟩:=zoT (A:=A2) (M:=M) (by omega) (by omega);show zt (opt (Wc (A2,M,())) _) _;rw[ef,zq];refine za ?_;show Tq (shift,f,O,E,R);have hfl:f.1.length<=64∧f.2.1.length<=64∧f.2.2.2.1.length<=64∧f.2.2.2.2.length<=64:=by
  rcases hf with rfl | hf
  ·decide
  ·have B:=VV hf;have h1:=B.la;have h2:=B.lp;have h3:=B.ll;have h4:=B.lm;omega
 obtain⟨f1,f2,f3,f4⟩:=hfl;exact⟨⟨by grind,by grind,by grind,hsw⟩,⟨by grind,by grind,by grind,by grind,by grind,by grind,by grind⟩,hf,hO,hE,hR⟩
end Go.Proofs.YtlfkgkedfciccaaGreat.dd
namespace Go.Proofs.YtlfkgkedfciccaaGreat.nd
open Go Go.Fz Go.Fz.Sy
def xr:FuncId->Nat:=fun f=>bif Nat.beq f 69 then 2 else 1
def zW:FuncId->List Nat:=fun f=>bif Nat.beq f 38 then[3]else[]
def m0:jN:=⟨208,[.agg #[.int .i64 3,.iface 1 (.tuple #[.bool true,.bool false,.bool true]),.iface 4 (.tuple #[.agg #[.int .i64 0,.int .i64 1,.int .i64 8,.int .i64 5],.agg #[.int .i64 1,.int .i64 2,.int .i64 8,.int .i64 5]])]],.int .i64 0⟩
theorem k0:m0.Ok Tryz.prog:=jl (cfg:=xr) (z:=zW) (n:=3000) qN jH (by kernel_rfl)
def m1:jN:=⟨199,[.agg #[.int .i64 100,.int .i64 2,.int .i64 10,.int .i64 8000]],.int .i64 0⟩
theorem k1:m1.Ok Tryz.prog:=jl (cfg:=xr) (z:=zW) (n:=3000) qN jH (by kernel_rfl)
def m2:jN:=⟨139,[.agg #[.int .i64 3,.iface 1 (.tuple #[.bool true,.bool false,.bool true]),.iface 4 (.tuple #[.agg #[.int .i64 0,.int .i64 1,.int .i64 8,.int .i64 5],.agg #[.int .i64 1,.int .i64 2,.int .i64 8,.int .i64 5]]),.int .i64 100,.int .i64 2,.int .i64 10,.int .i64 8000,.iface 2 (.tuple #[.agg #[.iface 2 (.tuple #[.agg #[.int .i64 127,.int .i64 1500],.agg #[.int .i64 128,.int .i64 800],.agg #[.int .i64 127,.int .i64 5700]]),.int .i64 8000],.agg #[.iface 2 (.tuple #[.agg #[.int .i64 127,.int .i64 8000]]),.int .i64 8000],.agg #[.iface 2 (.tuple #[.agg #[.int .i64 127,.int .i64 2400],.agg #[.int .i64 128,.int .i64 800],.agg #[.int .i64 127,.int .i64 4800]]),.int .i64 8000],.agg #[.iface 2 (.tuple #[.agg #[.int .i64 127,.int .i64 8000]]),.int .i64 8000]]),.int .i64 84]],.int .i64 0⟩
theorem k2:m2.Ok Tryz.prog:=jl (cfg:=xr) (z:=zW) (n:=3000) qN (qd k0 (qd k1 jH)) (by kernel_rfl)
def m3:jN:=⟨198,[.agg #[.int .i64 3,.iface 1 (.tuple #[.bool true,.bool false,.bool true]),.iface 4 (.tuple #[.agg #[.int .i64 0,.int .i64 1,.int .i64 8,.int .i64 5],.agg #[.int .i64 1,.int .i64 2,.int .i64 8,.int .i64 5]])],.slice none 0 0],.int .i64 0⟩
theorem k3:m3.Ok Tryz.prog:=jl (cfg:=xr) (z:=zW) (n:=3000) qN (qd k0 jH) (by kernel_rfl)
def m4:jN:=⟨235,[.agg #[.int .i64 3,.iface 1 (.tuple #[.bool true,.bool false,.bool true]),.iface 4 (.tuple #[.agg #[.int .i64 0,.int .i64 1,.int .i64 8,.int .i64 5],.agg #[.int .i64 1,.int .i64 2,.int .i64 8,.int .i64 5]])],.agg #[.int .i64 7,.int .i64 0,.int .i64 2,.int .i64 7,.int .i64 100,.int .i64 80,.int .i64 0,.int .i64 0,.int .i64 10000,.iface 1 (.tuple #[.iface 1 (.tuple #[.int .i64 0,.int .i64 2])])]],.bool true⟩
theorem k4:m4.Ok Tryz.prog:=jl (cfg:=xr) (z:=zW) (n:=3000) qN (qd k0 jH) (by kernel_rfl)
def m5:jN:=⟨221,[.agg #[.int .i64 3,.iface 1 (.tuple #[.bool true,.bool false,.bool true]),.iface 4 (.tuple #[.agg #[.int .i64 0,.int .i64 1,.int .i64 8,.int .i64 5],.agg #[.int .i64 1,.int .i64 2,.int .i64 8,.int .i64 5]])],.agg #[.int .i64 100,.int .i64 2,.int .i64 10,.int .i64 8000],.agg #[.int .i64 7,.int .i64 0,.int .i64 2,.int .i64 7,.int .i64 100,.int .i64 80,.int .i64 0,.int .i64 0,.int .i64 10000,.iface 1 (.tuple #[.iface 1 (.tuple #[.int .i64 0,.int .i64 2])])],.int .i64 0],.int .i64 0⟩
theorem k5:m5.Ok Tryz.prog:=jl (cfg:=xr) (z:=zW) (n:=3000) qN (qd k0 (qd k1 (qd k4 jH))) (by kernel_rfl)
def m6:jN:=⟨207,[.agg #[.int .i64 3,.iface 1 (.tuple #[.bool true,.bool false,.bool true]),.iface 4 (.tuple #[.agg #[.int .i64 0,.int .i64 1,.int .i64 8,.int .i64 5],.agg #[.int .i64 1,.int .i64 2,.int .i64 8,.int .i64 5]])],.agg #[.int .i64 100,.int .i64 2,.int .i64 10,.int .i64 8000],.agg #[.int .i64 7,.int .i64 0,.int .i64 2,.int .i64 7,.int .i64 100,.int .i64 80,.int .i64 0,.int .i64 0,.int .i64 10000,.iface 1 (.tuple #[.iface 1 (.tuple #[.int .i64 0,.int .i64 2])])],.int .i64 0],.tuple #[.iface 5 (.tuple #[.agg #[.int .i64 0,.int .i64 0,.int .i64 0,.int .i64 0,.int .i64 800],.agg #[.int .i64 2,.int .i64 811,.int .i64 819,.int .i64 900,.int .i64 800]]),.int .i64 0]⟩
theorem k6:m6.Ok Tryz.prog:=jl (cfg:=xr) (z:=zW) (n:=3000) qN (qd k5 jH) (by kernel_rfl)
def m7:jN:=⟨148,[.agg #[.int .i64 3,.iface 1 (.tuple #[.bool true,.bool false,.bool true]),.iface 4 (.tuple #[.agg #[.int .i64 0,.int .i64 1,.int .i64 8,.int .i64 5],.agg #[.int .i64 1,.int .i64 2,.int .i64 8,.int .i64 5]])],.agg #[.int .i64 100,.int .i64 2,.int .i64 10,.int .i64 8000],.agg #[.int .i64 7,.int .i64 0,.int .i64 2,.int .i64 7,.int .i64 100,.int .i64 80,.int .i64 0,.int .i64 0,.int .i64 10000,.iface 1 (.tuple #[.iface 1 (.tuple #[.int .i64 0,.int .i64 2])])],.int .i64 0],.tuple #[.int .i64 1715,.int .i64 0]⟩
theorem k7:m7.Ok Tryz.prog:=jl (cfg:=xr) (z:=zW) (n:=3000) qN (qd k5 jH) (by kernel_rfl)
def m8:jN:=⟨205,[.iface 1 (.tuple #[.int .i64 80])],.tuple #[.int .i64 80,.int .i64 0]⟩
theorem k8:m8.Ok Tryz.prog:=jl (cfg:=xr) (z:=zW) (n:=3000) qN jH (by kernel_rfl)
def m9:jN:=⟨133,[.agg #[.int .i64 3,.iface 1 (.tuple #[.bool true,.bool false,.bool true]),.iface 4 (.tuple #[.agg #[.int .i64 0,.int .i64 1,.int .i64 8,.int .i64 5],.agg #[.int .i64 1,.int .i64 2,.int .i64 8,.int .i64 5]])],.agg #[.int .i64 100,.int .i64 2,.int .i64 10,.int .i64 8000],.iface 10 (.tuple #[.agg #[.int .i64 7,.int .i64 0,.int .i64 2,.int .i64 7,.int .i64 100,.int .i64 80,.int .i64 0,.int .i64 0,.int .i64 10000,.iface 1 (.tuple #[.iface 1 (.tuple #[.int .i64 0,.int .i64 2])])]])],.tuple #[.agg #[.iface 1 (.tuple #[.int .i64 80]),.iface 4 (.tuple #[.agg #[.int .i64 0,.int .i64 0,.int .i64 0,.int .i64 8],.agg #[.int .i64 0,.int .i64 2,.int .i64 8,.int .i64 9]])],.int .i64 0]⟩
theorem k9:m9.Ok Tryz.prog:=jl (cfg:=xr) (z:=zW) (n:=3000) qN (qd k3 (qd k1 (qd k0 (qd k4 (qd k6 (qd k7 (qd k8 jH))))))) (by kernel_rfl)
def m10:jN:=⟨202,[.agg #[.iface 1 (.tuple #[.int .i64 80]),.iface 4 (.tuple #[.agg #[.int .i64 0,.int .i64 0,.int .i64 0,.int .i64 8],.agg #[.int .i64 0,.int .i64 2,.int .i64 8,.int .i64 9]])]],.int .i64 0⟩
theorem k10:m10.Ok Tryz.prog:=jl (cfg:=xr) (z:=zW) (n:=3000) qN (qd k8 jH) (by kernel_rfl)
def m11:jN:=⟨204,[.agg #[.iface 1 (.tuple #[.int .i64 80]),.iface 4 (.tuple #[.agg #[.int .i64 0,.int .i64 0,.int .i64 0,.int .i64 8],.agg #[.int .i64 0,.int .i64 2,.int .i64 8,.int .i64 9]])],.int .i64 0,.int .i64 15,.int .i64 0,.int .i64 15],.bool false⟩
theorem k11:m11.Ok Tryz.prog:=jl (cfg:=xr) (z:=zW) (n:=3000) qN jH (by kernel_rfl)
def m12:jN:=⟨134,[.agg #[.iface 1 (.tuple #[.int .i64 80]),.iface 4 (.tuple #[.agg #[.int .i64 0,.int .i64 0,.int .i64 0,.int .i64 8],.agg #[.int .i64 0,.int .i64 2,.int .i64 8,.int .i64 9]])],.iface 1 (.tuple #[.int .i64 15])],.tuple #[.bool true,.int .i64 0]⟩
theorem k12:m12.Ok Tryz.prog:=jl (cfg:=xr) (z:=zW) (n:=3000) qN (qd k10 (qd k11 jH)) (by kernel_rfl)
def m13:jN:=⟨135,[.agg #[.iface 1 (.tuple #[.int .i64 80]),.iface 4 (.tuple #[.agg #[.int .i64 0,.int .i64 0,.int .i64 0,.int .i64 8],.agg #[.int .i64 0,.int .i64 2,.int .i64 8,.int .i64 9]])]],.tuple #[.int .i64 80,.int .i64 0]⟩
theorem k13:m13.Ok Tryz.prog:=jl (cfg:=xr) (z:=zW) (n:=3000) qN (qd k10 (qd k8 jH)) (by kernel_rfl)
def m14:jN:=⟨211,[.agg #[.iface 2 (.tuple #[.agg #[.int .i64 127,.int .i64 8000]]),.int .i64 8000],.agg #[.iface 2 (.tuple #[.agg #[.int .i64 127,.int .i64 8000]]),.int .i64 8000]],.bool true⟩
theorem k14:m14.Ok Tryz.prog:=jl (cfg:=xr) (z:=zW) (n:=3000) qN jH (by kernel_rfl)
def m15:jN:=⟨140,[.iface 2 (.tuple #[.agg #[.iface 2 (.tuple #[.agg #[.int .i64 127,.int .i64 1500],.agg #[.int .i64 128,.int .i64 800],.agg #[.int .i64 127,.int .i64 5700]]),.int .i64 8000],.agg #[.iface 2 (.tuple #[.agg #[.int .i64 127,.int .i64 8000]]),.int .i64 8000],.agg #[.iface 2 (.tuple #[.agg #[.int .i64 127,.int .i64 2400],.agg #[.int .i64 128,.int .i64 800],.agg #[.int .i64 127,.int .i64 4800]]),.int .i64 8000],.agg #[.iface 2 (.tuple #[.agg #[.int .i64 127,.int .i64 8000]]),.int .i64 8000]]),.iface 2 (.tuple #[.agg #[.iface 2 (.tuple #[.agg #[.int .i64 127,.int .i64 1500],.agg #[.int .i64 128,.int .i64 800],.agg #[.int .i64 127,.int .i64 5700]]),.int .i64 8000],.agg #[.iface 2 (.tuple #[.agg #[.int .i64 127,.int .i64 8000]]),.int .i64 8000],.agg #[.iface 2 (.tuple #[.agg #[.int .i64 127,.int .i64 2400],.agg #[.int .i64 128,.int .i64 800],.agg #[.int .i64 127,.int .i64 4800]]),.int .i64 8000],.agg #[.iface 2 (.tuple #[.agg #[.int .i64 127,.int .i64 8000]]),.int .i64 8000]])],.bool true⟩
theorem k15:m15.Ok Tryz.prog:=jl (cfg:=xr) (z:=zW) (n:=3000) qN (qd k14 jH) (by kernel_rfl)
def m16:jN:=⟨141,[.agg #[.int .i64 3,.iface 1 (.tuple #[.bool true,.bool false,.bool true]),.iface 4 (.tuple #[.agg #[.int .i64 0,.int .i64 1,.int .i64 8,.int .i64 5],.agg #[.int .i64 1,.int .i64 2,.int .i64 8,.int .i64 5]]),.int .i64 100,.int .i64 2,.int .i64 10,.int .i64 8000,.iface 2 (.tuple #[.agg #[.iface 2 (.tuple #[.agg #[.int .i64 127,.int .i64 1500],.agg #[.int .i64 128,.int .i64 800],.agg #[.int .i64 127,.int .i64 5700]]),.int .i64 8000],.agg #[.iface 2 (.tuple #[.agg #[.int .i64 127,.int .i64 8000]]),.int .i64 8000],.agg #[.iface 2 (.tuple #[.agg #[.int .i64 127,.int .i64 2400],.agg #[.int .i64 128,.int .i64 800],.agg #[.int .i64 127,.int .i64 4800]]),.int .i64 8000],.agg #[.iface 2 (.tuple #[.agg #[.int .i64 127,.int .i64 8000]]),.int .i64 8000]]),.int .i64 84],.slice none 0 0],.int .i64 0⟩
theorem k16:m16.Ok Tryz.prog:=jl (cfg:=xr) (z:=zW) (n:=3000) qN (qd k2 (qd k3 jH)) (by kernel_rfl)
def m17:jN:=⟨145,[.slice none 0 0,.slice none 0 0],.tuple #[.agg #[.slice none 0 0,.slice none 0 0,.int .i64 (-1000),.iface 1 (.tuple #[]),.iface 1 (.tuple #[])],.int .i64 0]⟩
theorem k17:m17.Ok Tryz.prog:=jl (cfg:=xr) (z:=zW) (n:=3000) qN jH (by kernel_rfl)
def m18:jN:=⟨143,[.agg #[.int .i64 3,.iface 1 (.tuple #[.bool true,.bool false,.bool true]),.iface 4 (.tuple #[.agg #[.int .i64 0,.int .i64 1,.int .i64 8,.int .i64 5],.agg #[.int .i64 1,.int .i64 2,.int .i64 8,.int .i64 5]]),.int .i64 100,.int .i64 2,.int .i64 10,.int .i64 8000,.iface 2 (.tuple #[.agg #[.iface 2 (.tuple #[.agg #[.int .i64 127,.int .i64 1500],.agg #[.int .i64 128,.int .i64 800],.agg #[.int .i64 127,.int .i64 5700]]),.int .i64 8000],.agg #[.iface 2 (.tuple #[.agg #[.int .i64 127,.int .i64 8000]]),.int .i64 8000],.agg #[.iface 2 (.tuple #[.agg #[.int .i64 127,.int .i64 2400],.agg #[.int .i64 128,.int .i64 800],.agg #[.int .i64 127,.int .i64 4800]]),.int .i64 8000],.agg #[.iface 2 (.tuple #[.agg #[.int .i64 127,.int .i64 8000]]),.int .i64 8000]]),.int .i64 84,.iface 10 (.tuple #[.agg #[.int .i64 7,.int .i64 0,.int .i64 2,.int .i64 7,.int .i64 100,.int .i64 80,.int .i64 0,.int .i64 0,.int .i64 10000,.iface 1 (.tuple #[.iface 1 (.tuple #[.int .i64 0,.int .i64 2])])]]),.iface 1 (.tuple #[.int .i64 15]),.iface 1 (.tuple #[.int .i64 0,.int .i64 0,.int .i64 0]),.slice none 0 0,.int .i64 8,.int .i64 5000]],.bool true⟩
theorem k18:m18.Ok Tryz.prog:=jl (cfg:=xr) (z:=zW) (n:=3000) qN (qd k17 jH) (by kernel_rfl)
def m19:jN:=⟨82,[.agg #[.int .i64 3,.iface 1 (.tuple #[.bool true,.bool false,.bool true]),.iface 4 (.tuple #[.agg #[.int .i64 0,.int .i64 1,.int .i64 8,.int .i64 5],.agg #[.int .i64 1,.int .i64 2,.int .i64 8,.int .i64 5]]),.int .i64 100,.int .i64 2,.int .i64 10,.int .i64 8000,.iface 2 (.tuple #[.agg #[.iface 2 (.tuple #[.agg #[.int .i64 127,.int .i64 1500],.agg #[.int .i64 128,.int .i64 800],.agg #[.int .i64 127,.int .i64 5700]]),.int .i64 8000],.agg #[.iface 2 (.tuple #[.agg #[.int .i64 127,.int .i64 8000]]),.int .i64 8000],.agg #[.iface 2 (.tuple #[.agg #[.int .i64 127,.int .i64 2400],.agg #[.int .i64 128,.int .i64 800],.agg #[.int .i64 127,.int .i64 4800]]),.int .i64 8000],.agg #[.iface 2 (.tuple #[.agg #[.int .i64 127,.int .i64 8000]]),.int .i64 8000]]),.int .i64 84,.iface 10 (.tuple #[.agg #[.int .i64 7,.int .i64 0,.int .i64 2,.int .i64 7,.int .i64 100,.int .i64 80,.int .i64 0,.int .i64 0,.int .i64 10000,.iface 1 (.tuple #[.iface 1 (.tuple #[.int .i64 0,.int .i64 2])])]]),.iface 1 (.tuple #[.int .i64 15]),.iface 1 (.tuple #[.int .i64 0,.int .i64 0,.int .i64 0]),.slice none 0 0,.int .i64 8,.int .i64 5000]],.int .i64 0⟩
theorem k19:m19.Ok Tryz.prog:=jl (cfg:=xr) (z:=zW) (n:=3000) qN (qd k2 (qd k9 (qd k12 (qd k13 (qd k6 (qd k15 (qd k16 (qd k18 jH)))))))) (by kernel_rfl)
def m20:jN:=⟨218,[.agg #[.int .i64 3,.iface 1 (.tuple #[.bool true,.bool false,.bool true]),.iface 4 (.tuple #[.agg #[.int .i64 0,.int .i64 1,.int .i64 8,.int .i64 5],.agg #[.int .i64 1,.int .i64 2,.int .i64 8,.int .i64 5]])],.int .i64 2],.tuple #[.int .i64 1,.int .i64 0]⟩
theorem k20:m20.Ok Tryz.prog:=jl (cfg:=xr) (z:=zW) (n:=3000) qN (qd k0 jH) (by kernel_rfl)
def m21:jN:=⟨87,[.iface 7 (.tuple #[.agg #[.int .i64 0,.int .i64 7,.int .i64 7,.int .i64 100,.int .i64 8000,.int .i64 2311,.int .i64 2319]]),.slice none 0 0],.bool true⟩
theorem k21:m21.Ok Tryz.prog:=jl (cfg:=xr) (z:=zW) (n:=3000) qN jH (by kernel_rfl)
def m22:jN:=⟨39,[.agg #[.int .i64 3,.iface 1 (.tuple #[.bool true,.bool false,.bool true]),.iface 4 (.tuple #[.agg #[.int .i64 0,.int .i64 1,.int .i64 8,.int .i64 5],.agg #[.int .i64 1,.int .i64 2,.int .i64 8,.int .i64 5]]),.int .i64 100,.int .i64 2,.int .i64 10,.int .i64 8000,.iface 2 (.tuple #[.agg #[.iface 2 (.tuple #[.agg #[.int .i64 127,.int .i64 1500],.agg #[.int .i64 128,.int .i64 800],.agg #[.int .i64 127,.int .i64 5700]]),.int .i64 8000],.agg #[.iface 2 (.tuple #[.agg #[.int .i64 127,.int .i64 8000]]),.int .i64 8000],.agg #[.iface 2 (.tuple #[.agg #[.int .i64 127,.int .i64 2400],.agg #[.int .i64 128,.int .i64 800],.agg #[.int .i64 127,.int .i64 4800]]),.int .i64 8000],.agg #[.iface 2 (.tuple #[.agg #[.int .i64 127,.int .i64 8000]]),.int .i64 8000]]),.int .i64 84,.iface 10 (.tuple #[.agg #[.int .i64 7,.int .i64 0,.int .i64 2,.int .i64 7,.int .i64 100,.int .i64 80,.int .i64 0,.int .i64 0,.int .i64 10000,.iface 1 (.tuple #[.iface 1 (.tuple #[.int .i64 0,.int .i64 2])])]]),.iface 1 (.tuple #[.int .i64 15]),.iface 1 (.tuple #[.int .i64 0,.int .i64 0,.int .i64 0]),.slice none 0 0,.int .i64 8,.int .i64 5000]],.tuple #[.iface 9 (.tuple #[.agg #[.int .i64 0,.slice none 0 0,.slice none 0 0,.int .i64 (-1000),.iface 1 (.tuple #[]),.iface 1 (.tuple #[]),.slice none 0 0,.slice none 0 0,.slice none 0 0],.agg #[.int .i64 0,.iface 7 (.tuple #[.agg #[.int .i64 0,.int .i64 7,.int .i64 7,.int .i64 100,.int .i64 8000,.int .i64 2311,.int .i64 2319]]),.slice none 0 0,.int .i64 (-1000),.iface 1 (.tuple #[.int .i64 (-1)]),.iface 1 (.tuple #[]),.iface 6 (.tuple #[.agg #[.int .i64 2,.int .i64 0,.int .i64 0,.int .i64 0,.int .i64 0,.int .i64 0]]),.slice none 0 0,.slice none 0 0],.agg #[.int .i64 0,.slice none 0 0,.slice none 0 0,.int .i64 (-1000),.iface 1 (.tuple #[]),.iface 1 (.tuple #[]),.slice none 0 0,.iface 4 (.tuple #[.agg #[.int .i64 2,.int .i64 7,.int .i64 7,.int .i64 0]]),.iface 6 (.tuple #[.agg #[.int .i64 8,.int .i64 5000,.bool true,.int .i64 0,.int .i64 0,.int .u64 0]])]]),.int .i64 0]⟩
theorem k22:m22.Ok Tryz.prog:=jl (cfg:=xr) (z:=zW) (n:=3000) qN (qd k19 (qd k20 (qd k17 (qd k6 (qd k21 jH))))) (by kernel_rfl)
def m23:jN:=⟨43,[.agg #[.iface 7 (.tuple #[.agg #[.int .i64 0,.int .i64 7,.int .i64 7,.int .i64 100,.int .i64 8000,.int .i64 2311,.int .i64 2319]]),.slice none 0 0,.int .i64 (-1000),.iface 1 (.tuple #[.int .i64 (-1)]),.iface 1 (.tuple #[])]],.int .i64 0⟩
theorem k23:m23.Ok Tryz.prog:=jl (cfg:=xr) (z:=zW) (n:=3000) qN (qd k21 jH) (by kernel_rfl)
def m24:jN:=⟨12,[.agg #[.int .i64 0,.iface 7 (.tuple #[.agg #[.int .i64 0,.int .i64 7,.int .i64 7,.int .i64 100,.int .i64 8000,.int .i64 2311,.int .i64 2319]]),.slice none 0 0,.int .i64 (-1000),.iface 1 (.tuple #[.int .i64 (-1)]),.iface 1 (.tuple #[]),.iface 6 (.tuple #[.agg #[.int .i64 2,.int .i64 0,.int .i64 0,.int .i64 0,.int .i64 0,.int .i64 0]]),.slice none 0 0,.slice none 0 0]],.int .i64 0⟩
theorem k24:m24.Ok Tryz.prog:=jl (cfg:=xr) (z:=zW) (n:=3000) qN (qd k23 jH) (by kernel_rfl)
def m25:jN:=⟨26,[.agg #[.int .i64 7,.int .i64 5,.int .i64 7,.int .i64 100,.int .i64 0]],.int .i64 0⟩
theorem k25:m25.Ok Tryz.prog:=jl (cfg:=xr) (z:=zW) (n:=3000) qN jH (by kernel_rfl)
def m26:jN:=⟨121,[.agg #[.int .i64 7,.int .i64 5,.int .i64 7,.int .i64 100,.int .i64 0]],.bool true⟩
theorem k26:m26.Ok Tryz.prog:=jl (cfg:=xr) (z:=zW) (n:=3000) qN jH (by kernel_rfl)
def m27:jN:=⟨43,[.agg #[.iface 7 (.tuple #[.agg #[.int .i64 0,.int .i64 7,.int .i64 7,.int .i64 100,.int .i64 8000,.int .i64 2311,.int .i64 2319]]),.slice none 0 0,.int .i64 2315,.iface 1 (.tuple #[.int .i64 0]),.iface 1 (.tuple #[])]],.int .i64 0⟩
theorem k27:m27.Ok Tryz.prog:=jl (cfg:=xr) (z:=zW) (n:=3000) qN (qd k21 jH) (by kernel_rfl)
def m28:jN:=⟨40,[.agg #[.int .i64 0,.iface 7 (.tuple #[.agg #[.int .i64 0,.int .i64 7,.int .i64 7,.int .i64 100,.int .i64 8000,.int .i64 2311,.int .i64 2319]]),.slice none 0 0,.int .i64 (-1000),.iface 1 (.tuple #[.int .i64 (-1)]),.iface 1 (.tuple #[]),.iface 6 (.tuple #[.agg #[.int .i64 2,.int .i64 0,.int .i64 0,.int .i64 0,.int .i64 0,.int .i64 0]]),.slice none 0 0,.slice none 0 0],.int .i64 0,.agg #[.int .i64 7,.int .i64 5,.int .i64 7,.int .i64 100,.int .i64 0],.int .i64 2315,.agg #[.int .i64 2,.int .i64 2,.int .i64 2315,.int .i64 0]],.tuple #[.agg #[.int .i64 0,.iface 7 (.tuple #[.agg #[.int .i64 0,.int .i64 7,.int .i64 7,.int .i64 100,.int .i64 8000,.int .i64 2311,.int .i64 2319]]),.slice none 0 0,.int .i64 2315,.iface 1 (.tuple #[.int .i64 0]),.iface 1 (.tuple #[]),.iface 6 (.tuple #[.agg #[.int .i64 2,.int .i64 0,.int .i64 0,.int .i64 0,.int .i64 0,.int .i64 0]]),.slice none 0 0,.slice none 0 0],.bool true]⟩
theorem k28:m28.Ok Tryz.prog:=jl (cfg:=xr) (z:=zW) (n:=3000) qN (qd k24 (qd k25 (qd k23 (qd k26 (qd k27 jH))))) (by kernel_rfl)
def m29:jN:=⟨43,[.agg #[.slice none 0 0,.slice none 0 0,.int .i64 (-1000),.iface 1 (.tuple #[]),.iface 1 (.tuple #[])]],.int .i64 0⟩
theorem k29:m29.Ok Tryz.prog:=jl (cfg:=xr) (z:=zW) (n:=3000) qN jH (by kernel_rfl)
def m30:jN:=⟨46,[.agg #[.int .i64 8,.int .i64 5000,.bool false,.int .i64 5,.int .i64 3215,.int .u64 1]],.int .i64 0⟩
theorem k30:m30.Ok Tryz.prog:=jl (cfg:=xr) (z:=zW) (n:=3000) qN jH (by kernel_rfl)
def m31:jN:=⟨38,[],.tuple #[.agg #[.int .i64 3,.iface 1 (.tuple #[.bool true,.bool false,.bool true]),.iface 4 (.tuple #[.agg #[.int .i64 0,.int .i64 1,.int .i64 8,.int .i64 5],.agg #[.int .i64 1,.int .i64 2,.int .i64 8,.int .i64 5]]),.int .i64 100,.int .i64 2,.int .i64 10,.int .i64 8000,.iface 2 (.tuple #[.agg #[.iface 2 (.tuple #[.agg #[.int .i64 127,.int .i64 1500],.agg #[.int .i64 128,.int .i64 800],.agg #[.int .i64 127,.int .i64 5700]]),.int .i64 8000],.agg #[.iface 2 (.tuple #[.agg #[.int .i64 127,.int .i64 8000]]),.int .i64 8000],.agg #[.iface 2 (.tuple #[.agg #[.int .i64 127,.int .i64 2400],.agg #[.int .i64 128,.int .i64 800],.agg #[.int .i64 127,.int .i64 4800]]),.int .i64 8000],.agg #[.iface 2 (.tuple #[.agg #[.int .i64 127,.int .i64 8000]]),.int .i64 8000]]),.int .i64 84,.iface 10 (.tuple #[.agg #[.int .i64 7,.int .i64 0,.int .i64 2,.int .i64 7,.int .i64 100,.int .i64 80,.int .i64 0,.int .i64 0,.int .i64 10000,.iface 1 (.tuple #[.iface 1 (.tuple #[.int .i64 0,.int .i64 2])])]]),.iface 1 (.tuple #[.int .i64 15]),.iface 1 (.tuple #[.int .i64 0,.int .i64 0,.int .i64 0]),.slice none 0 0,.int .i64 8,.int .i64 5000],.bool true]⟩
theorem k31:m31.Ok Tryz.prog:=jl (cfg:=xr) (z:=zW) (n:=3000) qN (qd k0 (qd k1 (qd k3 (qd k4 (qd k5 (qd k6 (qd k7 (qd k8 (qd k9 (qd k10 (qd k11 (qd k12 (qd k13 jH))))))))))))) (by kernel_rfl)
def mT:jN:=⟨11,[],.bool true⟩
theorem kT:mT.Ok Tryz.prog:=jl (cfg:=xr) (z:=zW) (n:=3000) qN (qd k31 (qd k22 (qd k28 (qd k27 (qd k25 (qd k26 (qd k24 (qd k23 (qd k29 (qd k30 (qd k19 (qd k7 jH)))))))))))) (by kernel_rfl)
abbrev bS:List VT:=[]
abbrev bT:List VT:=[⟨false,.bool⟩]
def JT:Unit->Option (Bool×Unit):=fun _=>some (true,())
theorem Pg:Con.Ok Tryz.prog 11 ⟨bS,bT,JT⟩:=zkH kT
abbrev Zg:List VT:=[⟨true,yJ⟩,⟨false,(.int .u8)⟩,⟨false,(.list vz)⟩,⟨false,I⟩]
abbrev Wl:List VT:=[⟨false,.bool⟩]
def UO:xi:=zG [⟨qP,wi qP,[]⟩,⟨vy,wi vy,[]⟩,⟨yJ,wi yJ,[]⟩,⟨qo,wi qo,[]⟩,⟨jy,wi jy,[]⟩,⟨zJ,wi zJ,[]⟩,⟨vz,wi vz,[]⟩,⟨qv,wi qv,[]⟩,⟨zU,wi zU,[]⟩,⟨yH,wi yH,[]⟩,⟨zP,wi zP,[]⟩,⟨jd,wi jd,[]⟩,⟨qh,wi qh,[]⟩,⟨qe,wi qe,[]⟩,⟨qG,wi qG,[]⟩,⟨qx,wi qx,[]⟩,⟨(.pair (.int .u8) (.pair (.int .u8) (.int .u8))),wi (.pair (.int .u8) (.pair (.int .u8) (.int .u8))),[]⟩,⟨qD,wi qD,[]⟩,⟨zV,wi zV,[]⟩,⟨jb,wi jb,[]⟩] [] [] [] [7,10,11]
def Wm(gn:(wb×Unit)->Option (vl×Unit))(US:(vl×Int×Unit)->Option (zL×Unit))(Qc:(wq×zL×Unit)->Option (Int×zQ×Unit))(Vw:(zL×Int×zQ×Int×Unit)->Option (zL×yQ×Int×Unit))(Xg:(zL×Int×zQ×Int×Unit)->Option (zL×yQ×Int×Unit))(Jw:(zL×zL×Unit)->Option (Bool×Unit))(Vx:(Unit)->Option (Bool×Unit))(a0:wb)(a1:Int)(a2:(List wq))(a3:Int):Option (Bool×Unit):=opt (gn (a0,())) fun x0=>bif(zj x0.1.1.1.1 0)then none else opt (US (x0.1,(Int.tmod (w6C a1) x0.1.1.1.1),())) fun x1=>lpC ((x1.1,(Int.tmod a3 20000),false,0,()),()) (fun s2=>bif(zg s2.1.2.2.2.1 ((a2 .length:Nat):Int))then bif(zg s2.1.2.2.2.1 30)then aTC a2 s2.1.2.2.2.1 fun x3=>aTC a2 s2.1.2.2.2.1 fun x4=>opt (Qc (x4,s2.1.1,())) fun x5=>opt (aTC a2 s2.1.2.2.2.1 fun x6=>bif(zg 1 (Int.tmod x6.2.2.1 4))then bif(zg 0 ((s2.1.1.2.1.1 .length:Nat):Int))then aTC a2 s2.1.2.2.2.1 fun x7=>bif(zj ((s2.1.1.2.1.1 .length:Nat):Int) 0)then none else aTC s2.1.1.2.1.1 (Int.tmod (w6C x7.2.1) ((s2.1.1.2.1.1 .length:Nat):Int)) fun x8=>opt (bif(zj x8.2.2.1 7)then aTC a2 s2.1.2.2.2.1 fun x9=>bif(zj (w6C ((w6C (x8.2.2.2.2.2.2 - x8.2.2.2.2.2.1))+2)) 0)then none else some (0,((jS (w6C (s2.1.2.1+(w6C x3.1))) (w6C ((w6C (x8.2.2.2.2.2.1 - s2.1.1.1))+(Int.tmod (w6C x9.1) (w6C ((w6C (x8.2.2.2.2.2.2 - x8.2.2.2.2.2.1))+2)))))),()),())else some (0,((w6C (s2.1.2.1+(w6C x3.1))),()),())) fun x10=>some (0,(x10.2.1.1,()),())else some (0,((w6C (s2.1.2.1+(w6C x3.1))),()),())else some (0,((w6C (s2.1.2.1+(w6C x3.1))),()),())) fun x11=>opt (Vw (s2.1.1,x5.1,x5.2.1,x11.2.1.1,())) fun x12=>opt (Xg (s2.1.1,x5.1,x5.2.1,x11.2.1.1,())) fun x13=>opt (bif(!((zj x12.2.1.1 x13.2.1.1)&&((zj x12.2.1.2.1 x13.2.1.2.1)&&((zj x12.2.1.2.2.1 x13.2.1.2.2.1)&&((zj x12.2.1.2.2.2 x13.2.1.2.2.2)&&true)))))then some (1,(false,()),())else bif(!(zj x12.2.2.1 x13.2.2.1))then some (1,(false,()),())else opt (Jw (x12.1,x13.1,())) fun x14=>bif(!x14.1)then some (1,(false,()),())else some (0,(s2.1.2.2.1,()),())) fun x15=>bif(jzC x15)then opt (bif(zj x13.2.2.1 0)then some (0,(x13.1,()),())else some (0,(s2.1.1,()),())) fun x16=>nxC ((x16.2.1.1,x11.2.1.1,x15.2.1.1,(w6C (s2.1.2.2.2.1+1)),()),())else exC 1 ((s2.1.1,x11.2.1.1,x15.2.1.1,s2.1.2.2.2.1,()),())else exC 0 ((s2.1.1,s2.1.2.1,s2.1.2.2.1,s2.1.2.2.2.1,()),())else exC 0 ((s2.1.1,s2.1.2.1,s2.1.2.2.1,s2.1.2.2.2.1,()),())) fun x17=>bif(jzC x17)then opt (Vx ()) fun x18=>some (x18.1,())else some (x17.2.1.2.2.1,())
theorem Cn(gn:(wb×Unit)->Option (vl×Unit))(US:(vl×Int×Unit)->Option (zL×Unit))(Qc:(wq×zL×Unit)->Option (Int×zQ×Unit))(Vw:(zL×Int×zQ×Int×Unit)->Option (zL×yQ×Int×Unit))(Xg:(zL×Int×zQ×Int×Unit)->Option (zL×yQ×Int×Unit))(Jw:(zL×zL×Unit)->Option (Bool×Unit))(Vx:(Unit)->Option (Bool×Unit))(a0:wb)(a1:Int)(a2:(List wq))(a3:Int):sF Tryz.prog [(5,⟨vC,vD,gn⟩),(6,⟨KW,KY,US⟩),(7,⟨ZO,ZP,Qc⟩),(8,⟨JQ,JR,Vw⟩),(9,⟨YZ,Xa,Xg⟩),(10,⟨Jl,Jm,Jw⟩),(11,⟨bS,bT,Vx⟩)] UO (zy []) 30 3 Zg Wl (a0,a1,a2,a3,())=Wm gn US Qc Vw Xg Jw Vx a0 a1 a2 a3:=by kernel_rfl
def Zh:(wb×Int×(List wq)×Int×Unit)->Option (Bool×Unit):=sF Tryz.prog [(5,⟨vC,vD,yj⟩),(6,⟨KW,KY,uM⟩),(7,⟨ZO,ZP,yf⟩),(8,⟨JQ,JR,xN⟩),(9,⟨YZ,Xa,ve⟩),(10,⟨Jl,Jm,xT⟩),(11,⟨bS,bT,JT⟩)] UO (zy []) 30 3 Zg Wl
theorem nw:Con.Ok Tryz.prog 3 ⟨Zg,Wl,Zh⟩:=Rn (ze iE (ze SD (ze oL (ze OA (ze Ir (ze Cj (ze Pg zn))))))) qN (by kernel_rfl)
theorem ny(a0:wb)(a1:Int)(a2:(List wq))(a3:Int):Zh (a0,a1,a2,a3,())=Wm yj uM yf xN ve xT JT a0 a1 a2 a3:=Cn yj uM yf xN ve xT JT a0 a1 a2 a3
end Go.Proofs.YtlfkgkedfciccaaGreat.nd
namespace Go.Proofs.YtlfkgkedfciccaaGreat.dd
open Go Go.Fz Go.Fz.Sy Go.Proofs.YtlfkgkedfciccaaGreat.nd Go.Proofs.YtlfkgkedfciccaaGreat.ad
variable {a:Int}
theorem zoU:JT ()=some (true,()):=rfl
structure zjt(s:zL):Prop where
 w:Vr s
 a:∀x∈s.2.1.1,GU x
theorem Tq.i{s:zL}(h:Tq s):zjt s:=⟨h.w,fun x hx=>by
 rcases h.f with hf | hf
 ·grind
 ·obtain⟨k,_,hk⟩:=kf hx;exact(hf.1.2.2.1 k x hk).1⟩
theorem zju{n:Nat}(h0:0<=a)(h1:a<=255)(hn:0 < n):0<=Int.tmod (wrF .i64 a) (n:Int)∧Int.tmod (wrF .i64 a) (n:Int) < (n:Int):=by rw[zR (by omega) (by omega),zqv h0];exact⟨zrc _ (by omega),zqS _ (by omega)⟩
theorem zoV{c:wq}(hc:0<=c.2.1∧c.2.1<=255)(s:zL):∃p x,yf (c,s,())=some (p,x,()):=by
 suffices key:zt (yf (c,s,())) fun _=>True by obtain⟨⟨p,x,⟨⟩⟩,e,_⟩:=key;exact⟨p,x,e⟩
 rw[oM];unfold aU;delta lnC w6C upC aTC nxC exC lpC jzC;refine zk (J:=fun x=>x.1=0∨x.1=1) (zd (fun _=>zd (fun h=>?_) fun _=>za (.inl rfl)) fun _=>za (.inl rfl)) ?_
 ·have h:=zT h;have b:=zju (n:=s.2.1.1.length) hc.1 hc.2 (by omega);exact zi (jc (by omega)) (zb (wm b.1 b.2 fun _ _=>za (.inr rfl)))
 rintro⟨k,⟨v1,v2,⟨⟩⟩,⟨⟩⟩ (h | h);rotate_left
 ·have h:k=1:=h;subst h;exact zu (za trivial)
 have h:k=0:=h;subst h;refine zx (zk (J:=fun x=>x.1=0∨x.1=1) (zd (fun _=>zd (fun h=>?_) fun _=>za (.inl rfl)) fun _=>za (.inl rfl)) ?_)
 ·have h:=zT h;have b:=zju (n:=s.2.2.2.1.length) hc.1 hc.2 (by omega);exact zi (jc (by omega)) (zb (wm b.1 b.2 fun _ _=>za (.inr rfl)))
 grind[za]
theorem zoW{t:jC}(ht:wU t)(h0:0<=a)(h1:a<=255):jV t (Int.tmod (wrF .i64 a) t.1):=by have n0:=ht.sz.n0;rw[zR (by omega) (by omega),zqv h0];exact⟨zrc _ (by omega),zqS _ (by omega)⟩
theorem zgW{d:HJ}(hd:zm4 d)(a0:0<=a)(a1:a<=255){l:List wq}(hl:∀c∈l,0<=c.2.1∧c.2.1<=255)(st:Int):Zh (d,a,l,st,())=some (true,()):=by
 obtain⟨c,ec,hc⟩:=zm5 hd;have n0:=hc.t.sz.n0;obtain⟨s0,es,hs⟩:=zpK hc (zoW hc.t a0 a1);rw[ny];unfold Wm;delta lnC w6C upC aTC nxC exC lpC jzC;rw[ec,zq];refine gY (zi (jc (show c.1.1.1≠0 by omega)) ?_);show zt (opt (uM (c,Int.tmod (wrF .i64 a) c.1.1.1,())) _) _;rw[es,zq];refine zk (J:=fun x=>x.1=0) (zX 30 (fun i z=>∃(s:zL) (t:Int) (b:Bool),z=((s,(t,(b,((i:Int),())))),())∧zjt s) (by omega) ⟨s0,_,_,rfl,hs.i⟩ ?_ ?_) ?_
 ·rintro i _ hi ⟨s,t,b,rfl,hsi⟩;refine zd (fun h=>zd (fun _=>?_) fun _=>za (zw rfl)) fun _=>za (zw rfl);have h:(i:Int) < (l.length:Int):=zT h;have hx:l[i]?=some l[i]:=FL (by omega);have hcx:=hl _ (zqq (show i < l.length by omega));generalize l[i]=x at hx hcx;refine zb (zm hx (zb (zm hx ?_)));obtain⟨p,y,ef⟩:=zoV hcx s;show zt (opt (yf (x,s,())) _) _;rw[ef,zq];refine zk (J:=fun _=>True) (zb (zm hx (zd (fun _=>zd (fun h2=>zb (zm hx ?_)) fun _=>za trivial) fun _=>za trivial))) ?_
  ·have h2:(0:Int) < (s.2.1.1.length:Int):=zT h2;have bd:=zju (n:=s.2.1.1.length) hcx.1 hcx.2 (by omega);refine zi (jc (show(s.2.1.1.length:Int)≠0 by omega)) (zb (wm bd.1 bd.2 fun ac hac=>zb (zd (fun h7=>zb (zm hx (zi (jc ?_) (za (za trivial))))) fun _=>za (za trivial))));have h7:ac.2.2.1=7:=qg h7;obtain⟨_,_,_,q | q⟩:=hsi.a ac (zqx hac)
   ·have:=q.1;omega
   ·obtain⟨_,_,⟨r1,r2⟩,⟨r3,r4⟩,r5,r6⟩:=q;rw[zR (z:=ac.2.2.2.2.2.2 - ac.2.2.2.2.2.1) (by omega) (by omega),zR (by omega) (by omega)];omega
  rintro⟨k,⟨t2,⟨⟩⟩,⟨⟩⟩ -;obtain⟨q,ac,e,e1,e2,hq⟩:=zno (port:=p) (x:=y) (t:=t2) hsi.w;show zt (opt (xN (s,p,y,t2,())) _) _;rw[e1,zq];show zt (opt (ve (s,p,y,t2,())) _) _;rw[e2,zq];have hB:zgk q:=by
   rcases hq with⟨_,h1,h2⟩ | ⟨_,rfl⟩
   ·exact zlr h1 hsi.w h2
   ·exact zlq
  refine zk (J:=fun x=>x.1=0) (zi (by simp only[wM rfl,zrL,zsm]) (zi (by rw[wM rfl];rfl) ?_)) ?_
  ·show zt (opt (xT (q,q,())) _) _;rw[zpJ hB,zq];exact zi rfl (za rfl)
  rintro⟨k2,⟨b2,⟨⟩⟩,⟨⟩⟩ hk;have hk:k2=0:=hk;subst hk;refine zx (zk (J:=fun x=>zjt x.2.1.1) (zd (fun h=>za ?_) fun _=>za hsi) ?_)
  ·rcases hq with⟨_,h1,h2⟩ | ⟨h1,_⟩
   ·exact⟨h2.w,fun x hx=>hsi.a x (by rw[<-h2.acc];exact hx)⟩
   ·exact absurd (qg h) h1
  grind[k3,za,qj,zO]
 ·grind[zD,za,zw]
 rintro⟨k,st2,⟨⟩⟩ hk;have hk:k=0:=hk;subst hk;refine zx ?_;rw[zoU,zq];exact za rfl
end Go.Proofs.YtlfkgkedfciccaaGreat.dd
namespace Go.Proofs.YtlfkgkedfciccaaGreat.dd
open Go Go.Fz Go.Fz.Sy Go.Proofs.YtlfkgkedfciccaaGreat.nd Go.Proofs.YtlfkgkedfciccaaGreat.ad
theorem u8w{n:Int}(h:wfT (.int .u8) n):0<=n∧n<=255:=h
theorem u8l{l:List Int}(h:wfT (.list (.int .u8)) l):u8 l:=fun x hx=>u8w (h.2 x hx)
theorem zqb{d:HJ}(h:wfT yJ d):zm4 d where t:=⟨u8w h.1.1,u8w h.1.2.1,u8l h.1.2.2.1,u8l h.1.2.2.2.1,u8l h.1.2.2.2.2.1,u8l h.1.2.2.2.2.2⟩
 u:=⟨u8w h.2.1.1,u8w h.2.1.2.1,u8w h.2.1.2.2⟩
 l:=fun x hx=>⟨u8w (h.2.2.1.2 x hx).2.2.1,u8w (h.2.2.1.2 x hx).2.2.2.2.2.1⟩
 ll:=zqw (show d.2.2.1.length*10<=reachBytes from h.2.2.1.1.2) (by decide)
abbrev A3:=Zg
abbrev K3_ok:=nw
theorem good3(x:T (wA A3))(h:wfT (wA A3) x):Zh x=some (true,()):=by obtain⟨d,a,l,st,⟨⟩⟩:=x;exact zgW (zqb h.1) (u8w h.2.1).1 (u8w h.2.1).2 (fun c hc=>u8w (h.2.2.1.2 c hc).2.1) st
end Go.Proofs.YtlfkgkedfciccaaGreat.dd
end
