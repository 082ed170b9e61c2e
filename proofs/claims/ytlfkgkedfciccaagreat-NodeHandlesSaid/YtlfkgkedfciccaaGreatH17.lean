/- Parts of a proof, joined. -/
import Derived.Test.YtlfkgkedfciccaaGreatH16
set_option linter.unusedSectionVars false
set_option linter.unusedVariables false
set_option linter.unusedSimpArgs false
set_option maxHeartbeats 0
set_option maxRecDepth 100000
noncomputable section
namespace Go.Proofs.YtlfkgkedfciccaaGreat.ad
open Go Go.Fz Go.Fz.Sy Go.Proofs.YtlfkgkedfciccaaGreat.nd
variable {l:List wV} {n:Fab}
def Xb(s:wV)(p:Int):Prop:=∃r∈s.2.2.2.2.2.2.2.2,p∈r
noncomputable def load (l:List wV) (p:Int):List (Int×Int):=(l.filter fun s=>tv (Xb s p)).map fun s=>s.2.2.2.2.2.2.1
structure okP(n:Fab)(l:List wV):Prop where
 f:zmZ n
 a:Yu n.1 l
 n12:l.length<=12
 d:OO l
 c:∀s∈l,s.2.2.2.1=6∧s.2.2.2.2.1<=n.2.2.2
theorem OT{t:jC}{s:wV}(hs:Zx t s)(p:Int):YP (s,p,())=some (tv (Xb s p),()):=by
 have rn:=hs.rn;rw[HN];unfold oo;delta lnC w6C upC aTC nxC exC lpC jzC;refine ji (zk (J:=fun x=>(x.1=0∧¬Xb s p)∨(x.1=1∧x.2.1.1=true∧Xb s p)) (wH s.2.2.2.2.2.2.2.2.length (fun i=>∀r,s.2.2.2.2.2.2.2.2[i]?=some r->¬p∈r) (by omega) ?_ ?_) ?_)
 ·intro i hi hp;have hx:s.2.2.2.2.2.2.2.2[i]?=some s.2.2.2.2.2.2.2.2[i]:=FL hi;have hm:=zqq hi;generalize s.2.2.2.2.2.2.2.2[i]=r at hx hm;have hr8:=(hs.rt r hm).1.n1;refine zf (zI (show(i:Int) < (s.2.2.2.2.2.2.2.2.length:Int) by omega)) ?_;refine zk (J:=fun x=>(x.1=0∧x.2.1.1=false∧¬p∈r)∨(x.1=1∧x.2.1.1=true∧p∈r)) (wH r.length (fun k=>r[k]?≠some p) (by omega) ?_ ?_) ?_
  ·intro k hk hpk;have hy:r[k]?=some r[k]:=FL hk;refine zb (zm (n:=i) hx (zf (zI (show(k:Int) < (r.length:Int) by omega)) (zb (zm (n:=i) hx (zb (zm (n:=k) hy ?_))))));refine zd (fun h=>?_) (fun h=>?_)
   ·grind[qg,za,zw,zqq]
   ·have:r[k]≠p:=qn h;exact za (vF (by omega) (by grind))
  ·grind[zb,zm,zD,za,zw,kf]
  ·rintro⟨j,⟨v,w,⟨⟩⟩,⟨⟩⟩ (⟨rfl,rfl,hq⟩ | ⟨rfl,rfl,hq⟩)
   ·exact zf rfl (za (vF (by omega) fun r' hr'=>by grind))
   ·exact zi rfl (za (zw (.inr ⟨rfl,rfl,r,hm,hq⟩)))
 ·intro hp;refine zi (zD (show ¬(s.2.2.2.2.2.2.2.2.length:Int) < (s.2.2.2.2.2.2.2.2.length:Int) by omega)) (za (zw (.inl ⟨rfl,fun⟨r,h1,h2⟩=>?_⟩)));grind[kf]
 ·rintro⟨j,⟨v,w,⟨⟩⟩,⟨⟩⟩ (⟨rfl,hq⟩ | ⟨rfl,rfl,hq⟩)
  ·exact zf rfl (za ⟨fun h=>(by cases h),fun h=>absurd h hq⟩)
  ·exact zi rfl (za ⟨fun _=>hq,fun _=>rfl⟩)
theorem zkT{i:Nat}{s:wV}(h:l[i]?=some s)(p:Int):load (l.take (i+1)) p=bif tv (Xb s p)then load (l.take i) p++[s.2.2.2.2.2.2.1]else load (l.take i) p:=by grind[load,zrk,Option.toList,zsN,zrJ,tv,Xb]
theorem zoE(h:okP n l)(p:Int):(load l p).length<=12∧∀b∈load l p,kg b:=by
 unfold load;refine⟨?_,fun b hb=>?_⟩
 ·rw[zsq];have:=zrh (fun s=>tv (Xb s p)) l;have:=h.n12;omega
 ·obtain⟨s,hs,rfl⟩:=zrs.1 hb;have hs:=(ztc.1 hs).1;have h1:=h.a s hs;have h2:=(h.c s hs).1;rcases h1.cl with⟨h3,_⟩ | ⟨_,_,h4,h5⟩
  ·omega
  ·have:=h1.sz;exact⟨⟨by omega,h4.2⟩,h5⟩
theorem zkU(h:zmZ n){p:Int}(hp:yp n.1 p):∃g,n.2.2.1[p.toNat]?=some g∧(n.2.2.1[p.toNat]?).getD ([],0)=g∧kN g∧1<=(lnk n.1 p).2.2.1∧(lnk n.1 p).2.2.1<=1000:=by have:=hp.1;have:=hp.2;have hf:=h.f.1;have hx:n.2.2.1[p.toNat]?=some (n.2.2.1[p.toNat]'(by omega)):=FL (by omega);have hl:=(h.t.ls _ _ (GQ hp)).1;exact⟨_,hx,by rw[hx];rfl,h.g _ (zqq _),hl.2.2.2.2.1,hl.2.2.2.2.2.1⟩
def zjf(n:Fab)(l:List wV):Prop:=∀s∈l,s.2.2.2.1=6∧s.2.2.2.2.1<=n.2.2.2
noncomputable def zdI (n:Fab) (l:List wV):Int:=bif tv (nv n=0) then bif tv (iv n.1 l=0) then bif tv (zjf n l) then 0 else 2 else iv n.1 l else nv n
theorem zf0{t:jC}(h:iv t l=0):l.length<=12∧Yu t l∧OO l:=by grind[iv,Yu,OO,qU,wg]
theorem za6(h:zdI n l=0):okP n l:=by
 unfold zdI at h;by_cases h1:nv n=0
 ·by_cases h2:iv n.1 l=0
  ·by_cases h3:zjf n l
   ·obtain⟨a,b,c⟩:=zf0 h2;exact⟨zkP h1,b,a,c,h3⟩
   ·rw[qU h1,qU h2,wg h3]at h;cases h
  ·rw[qU h1,wg h2]at h;exact absurd h h2
 grind[wg]
theorem pE(hn:n.2.2.1.length<=1000000000000000000)(l:List wV):Yk (n,l,())=some (zdI n l,()):=by
 rw[Sd];unfold Er;delta lnC w6C upC aTC nxC exC lpC jzC zdI;rw[pC hn,zq];by_cases h1:nv n=0;rotate_left
 ·rw[wg h1,jc h1];refine gY (zk (J:=fun x=>x.2.1.1=nv n) (za rfl) ?_);grind[za,zj,nv,jc]
 rw[qU h1,h1,zqL];have hf:=zkP h1;rw[bk hf.t];refine gY (zk (J:=fun x=>x.2.1.1=iv n.1 l) (zf rfl (za rfl)) ?_);rintro⟨j,⟨v,⟨⟩⟩,⟨⟩⟩ hv;simp only at hv;subst hv;by_cases h2:iv n.1 l=0;rotate_left
 ·grind[wg,za,zj,iv,jc]
 rw[qU h2,zqL];obtain⟨h12,ha,hd⟩:=zf0 h2;refine zi (show(!zj (iv n.1 l) 0)=false by rw[wM h2];rfl) ?_;refine zk (J:=fun x=>(x.1=0∧zjf n l)∨(x.1=1∧x.2.1.1=2∧¬zjf n l)) (wH l.length (fun i=>∀s,l[i]?=some s->s.2.2.2.1=6∧s.2.2.2.2.1<=n.2.2.2) (by omega) ?_ ?_) ?_
 ·intro i hi hp;have hx:l[i]?=some l[i]:=FL hi;have hm:=zqq hi;generalize l[i]=s at hx hm;refine zf (zI (show(i:Int) < (l.length:Int) by omega)) ?_;refine zk (J:=fun x=>(x.1=0∧x.2.1.1=0∧s.2.2.2.1=6∧s.2.2.2.2.1<=n.2.2.2)∨(x.1=1∧x.2.1.1=2∧¬(s.2.2.2.1=6∧s.2.2.2.2.1<=n.2.2.2))) ?_ ?_
  ·refine zb (zm (n:=i) hx ?_);refine zd (fun h=>za (.inr ⟨rfl,rfl,fun hs=>?_⟩)) fun h1=>zb (zm (n:=i) hx (zd (fun h=>za (.inr ⟨rfl,rfl,fun hs=>?_⟩)) fun h2=>za (.inl ⟨rfl,rfl,qg (by simpa using h1),zN h2⟩)))
   ·grind[wM]
   ·have:=zT h;omega
  ·rintro⟨j,⟨v,⟨⟩⟩,⟨⟩⟩ (⟨rfl,rfl,hq⟩ | ⟨rfl,rfl,hq⟩)
   ·exact zf rfl (za (vF (by omega) fun r' hr'=>by grind))
   ·exact zi rfl (za (zw (.inr ⟨rfl,rfl,fun h=>hq (h s hm)⟩)))
 ·intro hp;refine zi (zD (show ¬(l.length:Int) < (l.length:Int) by omega)) (za (zw (.inl ⟨rfl,fun r hr=>?_⟩)));grind[kf]
 ·rintro⟨j,⟨v,w,⟨⟩⟩,⟨⟩⟩ (⟨rfl,hq⟩ | ⟨rfl,rfl,hq⟩)
  ·rw[qU hq];exact zf rfl (za rfl)
  ·rw[wg hq];exact zi rfl (za rfl)
theorem zkV{s:Int×Int}(h:¬Kn s):Zr (s,())=some (false,()):=by
 have key:zt (Zr (s,())) fun r=>r.1=false:=by
  rw[eX];unfold bD;delta lnC w6C upC aTC nxC exC lpC jzC;refine zd (fun h1=>zd (fun h2=>zd (fun h3=>za ?_) fun _=>za rfl) fun _=>za rfl) fun _=>za rfl;have h1:=zN (qK.1 h1);have h2:=zN (qK.1 h2);have h3:=zN (qK.1 h3);by_cases h4:s.2<=268435456
  ·exact absurd ⟨h1,h2,h3,h4⟩ h
  ·show(!zg 268435456 s.2)=false;rw[zI (by omega)];rfl
 obtain⟨⟨b,⟨⟩⟩,e,h⟩:=key;grind
theorem zoF{b s:Int×Int}(hb:kg b)(h:¬Kn s):Zs ([b],s,())=some (0,140,()):=by
 rw[fe];unfold bE;delta lnC w6C upC aTC nxC exC lpC jzC;refine qF (zi rfl (zi rfl (zk (J:=fun x=>x.1=0) (zX 1 (fun i s=>s=((0,(0,((i:Int),()))),())) (by omega) rfl ?_ ?_) ?_)))
 ·rintro i _ hi rfl;have:i=0:=by omega
  subst this;refine zf rfl (zb (zm (n:=0) (x:=b) rfl ?_));rw[WG,qU hb,zq];exact zi rfl (za (qj rfl))
 ·rintro _ rfl;exact zi rfl (za (zw rfl))
 rintro⟨j,⟨v,w,z,⟨⟩⟩,⟨⟩⟩ hj;have hj:j=0:=hj;subst hj;refine zx ?_;rw[zkV h,zq];exact za rfl
theorem zjg(h:okP n l){p:Int}(hp:yp n.1 p):∃r e,uB (n,l,p,())=some (r,e,()):=by
 suffices key:zt (uB (n,l,p,())) fun _=>True by obtain⟨⟨r,e,⟨⟩⟩,h,_⟩:=key;exact⟨r,e,h⟩
 have h12:=h.n12;obtain⟨lb1,lb2⟩:=zoE h p;obtain⟨g,hx,hge,hg,p0,p1⟩:=zkU h.f hp;obtain⟨v,ev,eo⟩:=zpp hg p0 p1 h.f.f.2.1 h.f.f.2.2;rw[zaz];unfold LK;delta lnC w6C upC aTC nxC exC lpC jzC;refine(zk (J:=fun x=>x.2.2.1=load l p) (zX l.length (fun i s=>s=(((i:Int),()),(load (l.take i) p,()))) (by omega) rfl ?_ ?_) ?_)
 ·rintro i _ hi rfl;have hy:l[i]?=some l[i]:=FL hi;have hm:=zqq hi;generalize l[i]=s at hy hm;have hll:(load (l.take i) p).length<=12:=by unfold load;rw[zsq];have:=zrh (fun s=>tv (Xb s p)) (l.take i);simp only[zsi]at this;omega
  refine zf (zI (show(i:Int) < (l.length:Int) by omega)) ?_;refine zk (J:=fun x=>x.2.2.1=load (l.take (i+1)) p) ?_ ?_
  ·refine zb (zm (n:=i) hy ?_);rw[OT (h.a s hm),zq,zkT hy];cases hpa:tv (Xb s p)with
   |true=>
    refine zf rfl (zb (zm (n:=i) hy (zf (qM (by show((load (l.take i) p).length+1)*16<=_;omega) (by show(load (l.take i) p).length+1<=_;omega)) (za rfl))))
   |false=>exact zi rfl (za rfl)
  grind[za,qj,zO]
 ·grind[zD,za,zw,load,zrV]
 ·rintro⟨j,⟨z,⟨⟩⟩,c,⟨⟩⟩ hc;simp only at hc;subst hc;by_cases hne:load l p=[]
  ·rw[hne];exact zf rfl (za trivial)
  have hlen:(load l p).length≠0:=fun e=>hne (zri.1 e);refine zi (jc (show((load l p).length:Int)≠0 by omega)) (zb (jP (a:=g) (by show atI n.2.2.1 p=_;rw[show p=((p.toNat:Nat):Int) from(by have:=hp.1;omega),gw (n:=p.toNat)];exact hx) ?_));rw[bQ h.f.t.ll hp,zq,eo,zq];refine zd (fun _=>za trivial) fun _=>?_;rw[zdm hne lb1 lb2,zq];refine zd (fun _=>za trivial) fun h6=>?_;have h6:(OR (load l p)).2=0:=qg (qC.1 h6);have hb:kg (OR (load l p)).1:=by grind[OR,kg,Wj,load,qU,wg]
  by_cases hv:Kn v
  ·rw[mC hb hv,zq];by_cases hle:(OR (load l p)).1.2<=v.1
   ·grind[qU,It,zq,za]
   ·rw[wg hle,zqD];exact zf rfl (za trivial)
  ·rw[zoF hb hv,zq];exact zf rfl (za trivial)
theorem zpq(h:okP n l){r:List Int}(hr:yW n.1 r):∃v e,Qv (n,l,r,())=some (v,e,()):=by
 suffices key:zt (Qv (n,l,r,())) fun _=>True by obtain⟨⟨r,e,⟨⟩⟩,h,_⟩:=key;exact⟨r,e,h⟩
 have r8:=hr.n1;rw[Su];unfold EI;delta lnC w6C upC aTC nxC exC lpC jzC;refine zk (J:=fun x=>x.1=0∨x.1=1) (zX r.length (fun i st=>∃s:Int,st=((0,(0,(s,((i:Int),())))),())) (by omega) ⟨0,rfl⟩ ?_ ?_) ?_
 ·rintro i _ hi ⟨s,rfl⟩;have hx:r[i]?=some r[i]:=FL hi;have hpt:=hr.pt _ (zqq hi);generalize r[i]=p at hx hpt;obtain⟨y,e,ey⟩:=zjg h hpt;refine zf (zI (show(i:Int) < (r.length:Int) by omega)) (zb (zm hx ?_));show zt (opt (uB (n,l,p,())) _) _;rw[ey,zq];refine zd (fun _=>za (zw (.inr rfl))) fun _=>zb (zm hx ?_);rw[UH h.f.t.ll hpt,zq];exact za (qj ⟨_,zqT (fun z=>((0,(0,(_,(z,())))),())) (zO (by omega))⟩)
 all_goals grind[zD,za,zw]
theorem zht(hn:n.2.2.1.length<=1000000000000000000)(l:List wV):∃e,kA (n,l,())=some (e,())∧(e=0->okP n l):=by
 have key:zt (kA (n,l,())) fun r=>r.1=0->okP n l:=by
  rw[NO];unfold Ap;delta lnC w6C upC aTC nxC exC lpC jzC;rw[pE hn,zq];refine zd (fun h=>za fun h2=>za6 h2) fun h=>?_;have ok:=za6 (qg (qC.1 h));have h12:=ok.n12;have hf:=ok.f.f.1;have hls:=ok.f.t.sz.ls;have fin:∀x:Int,zt (some (x,())) fun r=>r.1=0->okP n l:=fun x=>za fun _=>ok;refine zk (J:=fun x=>x.1=0∨x.1=1) (zX n.2.2.1.length (fun i s=>∃v:Int,s=((v,((i:Int),())),())) (by omega) ⟨_,rfl⟩ ?_ ?_) ?_
  ·rintro i _ hi ⟨v,rfl⟩;have hpt:yp n.1 (i:Int):=⟨by omega,by omega⟩;obtain⟨y,e,ey⟩:=zjg ok hpt;have on:zt (some (.inr ((v,(wrF .i64 ((i:Int)+1),())),())):Option ((Nat×((Int×(Int×Unit))×Unit)) ⊕ ((Int×(Int×Unit))×Unit))) (Nxt (fun x=>x.1=0∨x.1=1) fun s=>∃v:Int,s=((v,(((i+1:Nat):Int),())),())):=za (qj ⟨v,by rw[zO (by omega)]⟩);refine zf (zI (show(i:Int) < (n.2.2.1.length:Int) by omega)) ?_;show zt (opt (uB (n,l,(i:Int),())) _) _;rw[ey,zq];exact zd (fun _=>on) fun _=>zd (fun _=>za (zw (.inr rfl))) fun _=>zd (fun _=>za (zw (.inr rfl))) fun _=>on
  ·rintro _ ⟨v,rfl⟩;exact zi (zD (show ¬(n.2.2.1.length:Int) < (n.2.2.1.length:Int) by omega)) (za (zw (.inl rfl)))
  rintro⟨j,⟨v,w,⟨⟩⟩,⟨⟩⟩ (h | h);rotate_left
  ·have h:j=1:=h;subst h;exact zi rfl (fin _)
  have h:j=0:=h;subst h;refine zf rfl (zk (J:=fun x=>x.1=0∨x.1=1) (zX l.length (fun i s=>∃v:Int,s=((v,((i:Int),())),())) (by omega) ⟨_,rfl⟩ ?_ ?_) ?_)
  ·rintro i _ hi ⟨v,rfl⟩;have hx:l[i]?=some l[i]:=FL hi;have hs:=ok.a _ (zqq hi);generalize l[i]=s at hx hs;have rn:=hs.rn;refine zf (zI (show(i:Int) < (l.length:Int) by omega)) (zk (J:=fun x=>x.1=0∨x.1=1) (zX s.2.2.2.2.2.2.2.2.length (fun k s=>∃v:Int,s=((v,((k:Int),())),())) (by omega) ⟨_,rfl⟩ ?_ ?_) ?_)
   ·rintro k _ hk ⟨v,rfl⟩;have hy:s.2.2.2.2.2.2.2.2[k]?=some s.2.2.2.2.2.2.2.2[k]:=FL hk;have hr:=(hs.rt _ (zqq hk)).1;generalize s.2.2.2.2.2.2.2.2[k]=r at hy hr;obtain⟨y,e,ey⟩:=zpq ok hr;refine zb (zm hx (zf (zI (show(k:Int) < (s.2.2.2.2.2.2.2.2.length:Int) by omega)) (zb (zm hx (zb (zm hy ?_))))));show zt (opt (Qv (n,l,r,())) _) _;rw[ey,zq];exact zd (fun _=>za (zw (.inr rfl))) fun _=>zb (zm hx (zd (fun _=>za (zw (.inr rfl))) fun _=>za (qj ⟨v,zqT (fun z=>((v,(z,())),())) (zO (by omega))⟩)))
   ·rintro _ ⟨v,rfl⟩;exact zb (zm hx (zi (zD (show ¬(s.2.2.2.2.2.2.2.2.length:Int) < (s.2.2.2.2.2.2.2.2.length:Int) by omega)) (za (zw (.inl rfl)))))
   rintro⟨j,⟨v2,w2,⟨⟩⟩,⟨⟩⟩ (h | h)
   ·have h:j=0:=h;subst h;exact zf rfl (za (qj ⟨v2,zqT (fun z=>((v2,(z,())),())) (zO (by omega))⟩))
   ·have h:j=1:=h;subst h;exact zi rfl (za (zw (.inr rfl)))
  all_goals grind[zD,za,zw]
 obtain⟨⟨e,⟨⟩⟩,h1,h2⟩:=key;exact⟨e,h1,h2⟩
theorem zm1(hn:n.2.2.1.length<=1000000000000000000)(l:List wV)(s:wV):∃r e,xd (n,l,s,())=some (r,e,())∧(e=0->r=l++[s]∧okP n r):=by
 have key:zt (xd (n,l,s,())) fun z=>z.2.1=0->z.1=l++[s]∧okP n z.1:=by
  obtain⟨e,he,ho⟩:=zht hn l;rw[NS];unfold Av;delta lnC w6C upC aTC nxC exC lpC jzC;rw[he,zq];refine zk (J:=fun x=>x.2.1.1=0->e=0) (zd (fun h=>?_) fun h=>za fun h2=>h2) ?_
  ·rw[Tl (ho (qg h)).f.t,zq];exact za fun _=>qg h
  rintro⟨j,⟨v,⟨⟩⟩,⟨⟩⟩ hv;refine zd (fun h=>za fun h2=>absurd h2 (qn (qK.1 h))) fun h=>?_;have ok:=ho (hv (qg (qC.1 h)));have h12:=ok.n12;refine zf (qM (by omega) (by omega)) (zf (qM (by show(l.length+1)*96<=_;omega) (by show l.length+1<=_;omega)) ?_);obtain⟨e2,he2,ho2⟩:=zht hn (l++[s]);show zt (opt (kA (n,l++[s],())) _) _;rw[he2,zq];exact zd (fun h=>za fun h2=>absurd h2 (qn (qK.1 h))) fun h=>za fun _=>⟨rfl,ho2 (qg (qC.1 h))⟩
 obtain⟨⟨r,e,⟨⟩⟩,h1,h2⟩:=key;grind
theorem zpV(hn:n.2.2.1.length<=1000000000000000000)(l:List wV)(p:Int):∃r e,Wa (n,l,p,())=some (r,e,()):=by
 suffices key:zt (Wa (n,l,p,())) fun _=>True by obtain⟨⟨r,e,⟨⟩⟩,h,_⟩:=key;exact⟨r,e,h⟩
 rw[zaC];unfold LO;delta lnC w6C upC aTC nxC exC lpC jzC;rw[pE hn,zq];refine zd (fun _=>za trivial) fun h=>?_;have ok:=za6 (qg (qC.1 h));have hf:=ok.f.f.1;refine zk (J:=fun x=>(x.1=0∧yp n.1 p)∨x.1=1) (zd (fun _=>za (.inr rfl)) fun h1=>zd (fun _=>za (.inr rfl)) fun h2=>za (.inl ⟨rfl,zN h1,?_⟩)) ?_
 ·have:=zT (show zg p (n.2.2.1.length:Int)=true by simpa using h2);omega
 ·rintro⟨j,⟨v,w,⟨⟩⟩,⟨⟩⟩ (⟨h,hp⟩ | h)
  ·grind[zjg,zq,za]
  ·have h:j=1:=h;subst h;exact zi rfl (za trivial)
end Go.Proofs.YtlfkgkedfciccaaGreat.ad
namespace Go.Proofs.YtlfkgkedfciccaaGreat.ad
open Go Go.Fz Go.Fz.Sy Go.Proofs.YtlfkgkedfciccaaGreat.nd
variable {ls:List xU} {b:Nat} {c:Nat} {n:Nat} {l:xU}
def u8(l:List Int):Prop:=∀x∈l,0<=x∧x<=255
abbrev FK:=Int×Int×List Int×List Int×List Int×List Int
structure tdP(d:FK):Prop where
 b:0<=d.1∧d.1<=255
 s:0<=d.2.1∧d.2.1<=255
 c:u8 d.2.2.1
 h:u8 d.2.2.2.1
 p:u8 d.2.2.2.2.1
 e:u8 d.2.2.2.2.2
theorem Xc{l:List Int}(hl:u8 l){i:Int}(h0:0<=i):∃v,jF (l,i,())=some (v,())∧0<=v∧v<=255:=by
 have key:zt (jF (l,i,())) fun r=>0<=r.1∧r.1<=255:=by
  rw[Rt];unfold DE;delta lnC w6C upC aTC nxC exC lpC jzC;refine zd (fun h=>?_) (fun h=>?_)
  ·have h:=zT h;refine zb (wm h0 (by omega) fun x hx=>za ?_);have hm:=hl x (zqx hx);show 0<=wrF .i64 x∧wrF .i64 x<=255;rw[zR (by omega) (by omega)];exact hm
  grind[za]
 obtain⟨⟨v,⟨⟩⟩,e,h⟩:=key;exact⟨v,e,h⟩
theorem FM{R:Type}{Q:R->Prop}{pers delays:List Int}{t:jC}(hs:szP t){a b:Int}(hp:u8 pers)(hd:u8 delays){KEEP KEEP2 KEEP3:Option R}{ADD:(Int×Unit)->(Int×Unit)->Option R}(e2:KEEP2=KEEP)(e3:KEEP3=KEEP)(hk:∀x y:Int,0<=x->x<=255->0<=y->y<=255->(t.2.2.length=24∨¬il t (a,(b,((wrF .i64 (1+(Int.tmod x 20))),(Int.tmod y 50))))∨∃o∈t.2.2,ZW o a b)->zt KEEP Q)(ha:∀x y:Int,0<=x->x<=255->0<=y->y<=255->t.2.2.length≠24->il t (a,(b,((wrF .i64 (1+(Int.tmod x 20))),(Int.tmod y 50))))->(∀o∈t.2.2,¬ZW o a b)->zt (ADD (x,()) (y,())) Q) : zt (opt (jF ((pers,((((t.2.2).length:Nat):Int),())))) fun x3=>opt (jF ((delays,((((t.2.2).length:Nat):Int),())))) fun x4=>bif(zj ((((t.2.2).length:Nat):Int)) (24))then KEEP else opt (xG (((t.1,(t.2.1,t.2.2)),((a,(b,((wrF .i64 ((1+(Int.tmod x3.1 20)))),(Int.tmod x4.1 50)))),())))) fun x5=>bif(!x5.1)then KEEP2 else opt (yA (fun s6:(((Int×((List Bool)×(List (Int×(Int×(Int×Int))))))×(Int×Unit))×Unit)=>bif(zg (s6.1.2.1) ((((t.2.2).length:Nat):Int)))then opt (atI (t.2.2) (s6.1.2.1)) fun x7=>opt (gl (t.2.2) ((Int.toNat s6.1.2.1))) fun x8=>opt (jZ ((x8,(a,(b,()))))) fun x9=>bif x9.1 then some (.inl s6)else some (.inr ((s6.1.1,((wrF .i64 ((s6.1.2.1+1))),())),()))else some (.inl s6)) xm (((0,([],[])),(0,())),())) fun x10=>bif(zg (x10.1.2.1) ((((t.2.2).length:Nat):Int)))then opt (atI (t.2.2) (x10.1.2.1)) fun x11=>opt (gl (t.2.2) ((Int.toNat x10.1.2.1))) fun x12=>opt (jZ ((x12,(a,(b,()))))) fun x13=>bif x13.1 then KEEP3 else none else bif(qb ((t.2.2).length) ((((a,(b,((wrF .i64 ((1+(Int.tmod x3.1 20)))),(Int.tmod x4.1 50))))::[])).length) (32))then ADD x3 x4 else none) Q:=by
 subst e2 e3;have hl:=hs.ls;obtain⟨x,ex,x0,x1⟩:=Xc hp (i:=(t.2.2.length:Int)) (by omega);obtain⟨y,ey,y0,y1⟩:=Xc hd (i:=(t.2.2.length:Int)) (by omega);rw[ex,zq,ey,zq];refine zd (fun h24=>hk x y x0 x1 y0 y1 (.inl (by have:=qg h24;omega))) (fun h24=>?_);have h24:t.2.2.length≠24:=fun e=>qn h24 (by rw[e];rfl);rw[show((t.1,(t.2.1,t.2.2)):jC)=t from rfl,pA hs,zq];refine zd (fun hlk=>hk x y x0 x1 y0 y1 (.inr (.inl (jX hlk)))) (fun hlk=>?_);have hlk:=wC hlk;refine zk (J:=fun s=>∃(i:Nat),s=(((0,([],[])),((i:Int),())),())∧((i=t.2.2.length∧∀o∈t.2.2,¬ZW o a b)∨∃o,t.2.2[i]?=some o∧ZW o a b)) (zX t.2.2.length (fun i s=>s=(((0,([],[])),((i:Int),())),())∧∀(k:Nat) o,k < i->t.2.2[k]?=some o->¬ZW o a b) (by omega) ⟨rfl,fun k o hk=>by omega⟩ ?_ ?_) ?_
 ·rintro i _ hi ⟨rfl,hp⟩;have hx:t.2.2[i]?=some t.2.2[i]:=FL hi;generalize t.2.2[i]=o at hx;refine zf (zI (show(i:Int) < (t.2.2.length:Int) by omega)) (zb (zm (n:=i) hx (zb (jP (a:=o) (by grind[gl,Int.toNat,zqQ,xf]) ?_))));rw[UF,zq];refine zd (fun h=>?_) (fun h=>?_)
  ·exact za (zw ⟨i,rfl,.inr ⟨o,hx,aC h⟩⟩)
  ·refine za (qj ⟨zqT (fun z=>((_,(z,())),())) (zO (by omega)),fun k o' hk ho=>?_⟩);grind
 ·rintro _ ⟨rfl,hp⟩;refine zi (zD (show ¬(t.2.2.length:Int) < (t.2.2.length:Int) by omega)) (za (zw ⟨t.2.2.length,rfl,.inl ⟨rfl,fun o ho=>?_⟩⟩));obtain⟨k,hk,hk2⟩:=kf ho;exact hp k o hk hk2
 ·rintro _ ⟨i,rfl,⟨rfl,hno⟩ | ⟨o,hx,hj⟩⟩
  ·exact zi (zD (show ¬(t.2.2.length:Int) < (t.2.2.length:Int) by omega)) (zf (qM (by show(t.2.2.length+1)*32<=_;omega) (by show t.2.2.length+1<=_;omega)) (ha x y x0 x1 y0 y1 h24 hlk hno))
  ·have hil:i < t.2.2.length:=by grind
   refine zf (zI (show(i:Int) < (t.2.2.length:Int) by omega)) (zb (zm (n:=i) hx (zb (jP (a:=o) (by grind[gl,Int.toNat,zqQ,xf]) ?_))));rw[UF,zq,qU hj];exact zf rfl (hk x y x0 x1 y0 y1 (.inr (.inr ⟨o,zqx hx,hj⟩)))
def sts(b c:Nat):List Bool:=(List.range (b+c)).map fun n=>decide (b<=n)
def tOf(b c:Nat)(ls:List xU):jC:=(((b+c:Nat):Int),sts b c,ls)
theorem zhu(b c:Nat):(sts b c).length=b+c:=by simp[sts]
theorem zkW(h:n < b+c):stn (tOf b c ls) (n:Int)=decide (b<=n):=by unfold stn tOf sts;simp[h]
structure Dr(b c:Nat)(ls:List xU):Prop where
 b1:1<=b
 b6:b<=6
 c2:2<=c
 c6:c<=6
 n24:ls.length<=24
 ok:HD (tOf b c ls)
theorem Dr.sz(h:Dr b c ls):szP (tOf b c ls):=by
 have:=h.b1;have:=h.b6;have:=h.c2;have:=h.c6;refine⟨?_,?_,?_,h.n24⟩
 ·show 2<=((b+c:Nat):Int);omega
 ·show((b+c:Nat):Int)<=12;omega
 ·show(((sts b c).length:Nat):Int)=((b+c:Nat):Int);rw[zhu]
theorem Dr.add(h:Dr b c ls)(h24:ls.length≠24)(hl:il (tOf b c ls) l)(hj:∀o∈ls,¬ZW o l.1 l.2.1):Dr b c (ls++[l]):=by
 refine⟨h.b1,h.b6,h.c2,h.c6,by have:=h.n24;simp;omega,fun i l' hi=>?_⟩;have hi:(ls++[l])[i]?=some l':=hi;rcases zrD i ls.length with h1 | h1
 ·rw[zqU h1]at hi;obtain⟨h2,h3⟩:=h.ok i l' hi;refine⟨h2,fun k o hk ho=>h3 k o hk ?_⟩;have ho:(ls++[l])[k]?=some o:=ho;rw[zqU (by omega)]at ho;exact ho
 ·have hil:i=ls.length:=by
   have:i < (ls++[l]).length:=by grind
   simp at this;omega
  subst hil;rw[zrg (FW _),ztx]at hi;simp at hi;subst hi;refine⟨hl,fun k o hk ho=>?_⟩;have ho:(ls++[l])[k]?=some o:=ho;grind
theorem sx(ls:List xU)(l:xU)(n:Nat):cnt (ls++[l]) n=cnt ls n+(one l.1 n+one l.2.1 n):=by unfold cnt;simp
theorem zhv{m:Nat}{x y:Int}(hm:m < b+c)(hn:n < b+c)(hne:m≠n)(hs:m < b∨n < b)(x0:0<=x)(x1:x<=255)(y0:0<=y)(y1:y<=255) : il (tOf b c ls) ((m:Int),((n:Int),((wrF .i64 (1+(Int.tmod x 20))),(Int.tmod y 50)))):=by have ex:Int.tmod x 20=x % 20:=zqv x0;have ey:Int.tmod y 50=y % 50:=zqv y0;have ew:wrF .i64 (1+x % 20)=1+x % 20:=zR (by omega) (by omega);unfold il jV;rw[ex,ey,ew];simp only;refine⟨⟨by omega,by show(m:Int) < ((b+c:Nat):Int);omega⟩,⟨by omega,by show(n:Int) < ((b+c:Nat):Int);omega⟩,by omega,?_,by omega,by omega,by omega,by omega⟩;grind[zkW]
structure Jn(b c k s:Nat)(ls:List xU):Prop where
 ch:∀i,i < k->∃p d,ls[i]?=some ((i:Int),((i+1:Nat):Int),p,d)
 ho:∀i,i < s->∃(h:Nat) (p d:Int),ls[k+i]?=some (((b+i:Nat):Int),(h:Int),p,d)∧h < b
theorem Jn.app{k s:Nat}(h:Jn b c k s ls)(l:List xU):Jn b c k s (ls++l):=by
 refine⟨fun i hi=>?_,fun i hi=>?_⟩
 ·obtain⟨p,d,e⟩:=h.ch i hi;grind
 ·obtain⟨q,p,d,e,h2⟩:=h.ho i hi;grind
theorem OU{r:List Bool}(h:r[n]?=some true):(stp r l)[n]?=some true:=by grind[stp,set,zqK]
theorem FN:∀(ls:List xU) {r:List Bool},r[n]?=some true->(ls.foldl stp r)[n]?=some true
 |[],r,h=>h
 |l::ls,r,h=>FN ls (OU h)
theorem zb6:∀(k:Nat) {r:List Bool},r[n]?=some true->(UE ls k r)[n]?=some true
 |0,r,h=>h
 |k+1,r,h=>zb6 k (FN ls h)
theorem zhw{r:List Bool}{m:Nat}(hm:r[m]?=some true)(hn:n < r.length)(h:(l.1.toNat=m∧l.2.1.toNat=n)∨(l.1.toNat=n∧l.2.1.toNat=m)):(stp r l)[n]?=some true:=by grind[Option.getD_some,stp,zqK]
theorem zb7{i:Nat}(h:ls[i]?=some l)(r:List Bool):(ls.take (i+1)).foldl stp r=stp ((ls.take i).foldl stp r) l:=by rw[zrk,h,zts];rfl
theorem zkX(hb:1<=b)(hc:1<=c)(h:Jn b c (b - 1) c ls)(n:Nat)(hn:n < b+c):(reachS (tOf b c ls) 0)[n]?=some true:=by
 have hN:(tOf b c ls).1.toNat=b+c:=by show(((b+c:Nat):Int)).toNat=_;omega
 unfold reachS;rw[hN];obtain⟨k,hk⟩:∃k,b+c=k+1:=⟨b+c - 1,by omega⟩;rw[show UE (tOf b c ls).2.2 (b+c)=UE ls (k+1) from by rw[hk];rfl];show(UE ls k (ls.foldl stp ((List.replicate (b+c) false).set 0 true)))[n]?=some true;refine zb6 k ?_;generalize hr:(List.replicate (b+c) false).set 0 true=r0;have hl:r0.length=b+c:=by rw[<-hr];simp
 have h00:r0[0]?=some true:=by rw[<-hr];exact List.getElem?_set_self (by rw[ztb];omega)
 have chain:∀i,i<=b - 1->∀j,j<=i->((ls.take i).foldl stp r0)[j]?=some true:=by
  intro i;induction i with
  |zero=>
       intro _ j hj;have:j=0:=by omega
       subst this;exact h00
  |succ i ih=>
   intro hi j hj;obtain⟨p,d,e⟩:=h.ch i (by omega);rw[zb7 e];rcases zrD j (i+1)with h1 | h1
   ·exact OU (ih (by omega) j (by omega))
   ·have:j=i+1:=by omega
    subst this;exact zhw (m:=i) (ih (by omega) i (FW _)) (by rw[sr,hl];omega) (.inl ⟨by simp,by simp⟩)
 have home:∀i,i<=c->∀j,j < b+i->((ls.take (b - 1+i)).foldl stp r0)[j]?=some true:=by
  intro i;induction i with
  |zero=>intro _ j hj;exact chain (b - 1) (FW _) j (by omega)
  |succ i ih=>
   intro hi j hj;obtain⟨q,p,d,e,hq⟩:=h.ho i (by omega);rw[show b - 1+(i+1)=b - 1+i+1 from rfl,zb7 e];rcases zrD j (b+i)with h1 | h1
   ·exact OU (ih (by omega) j h1)
   ·have:j=b+i:=by omega
    subst this;exact zhw (m:=q) (ih (by omega) q (by omega)) (by rw[sr,hl];omega) (.inr ⟨by show(((b+i:Nat):Int)).toNat=b+i;exact zqQ _,by simp⟩)
 have:=home c (FW _) n hn;grind[stp,zts,zse,FN]
end Go.Proofs.YtlfkgkedfciccaaGreat.ad
namespace Go.Proofs.YtlfkgkedfciccaaGreat.ad
open Go Go.Fz Go.Fz.Sy Go.Proofs.YtlfkgkedfciccaaGreat.nd
theorem zf1{i:Nat}(h1:1<=i)(h:i<=1000000):wrF .i64 ((i:Int) - 1)=((i - 1:Nat):Int):=by rw[zR]<;>omega
theorem zf2(n:Nat):one (n:Int) n=1:=by grind[one]
theorem UK{m n:Nat}(h:m≠n):one (m:Int) n=0:=by grind[one]
theorem zkY{b c:Nat}{ls:List xU}(h:Dr b c ls)(hb:Jn b c (b - 1) c ls)(hd:∀n,b<=n->n < b+c->1<=cnt ls n∧cnt ls n<=2):wU (tOf b c ls):=by
 have:=h.b1;have:=h.c2;refine⟨h.sz,h.ok,fun n hn=>zkX h.b1 (by omega) hb n ?_,fun n hn hs=>?_⟩
 ·have hn:(n:Int) < ((b+c:Nat):Int):=hn;omega
 ·have hn:(n:Int) < ((b+c:Nat):Int):=hn;rw[zkW (by omega)]at hs;exact hd n (zsV hs) (by omega)
theorem zjh{d:FK}(hd:tdP d):∃b c ls,yR (d,())=some (tOf b c ls,())∧wU (tOf b c ls)∧1<=ls.length:=by
 obtain⟨d0,d1⟩:=hd.b;obtain⟨e0,e1⟩:=hd.s;have eb:wrF .i64 (1+wrF .i64 (Int.tmod d.1 6))=1+d.1 % 6:=by grind[zqv,zR]
 have ec:wrF .i64 (2+wrF .i64 (Int.tmod d.2.1 5))=2+d.2.1 % 5:=by grind[zqv,zR]
 obtain⟨b,hb,b1,b6⟩:∃b:Nat,1+d.1 % 6=(b:Int)∧1<=b∧b<=6:=⟨(1+d.1 % 6).toNat,by omega,by omega,by omega⟩;obtain⟨c,hc,c2,c6⟩:∃c:Nat,2+d.2.1 % 5=(c:Int)∧2<=c∧c<=6:=⟨(2+d.2.1 % 5).toNat,by omega,by omega,by omega⟩;rw[hb]at eb;rw[hc]at ec;suffices key:zt (yR (d,())) fun r=>∃ls,r.1=tOf b c ls∧wU (tOf b c ls)∧1<=ls.length by obtain⟨⟨t,⟨⟩⟩,e,ls,h1,h2,h3⟩:=key;grind
 have eN:wrF .i64 ((b:Int)+(c:Int))=((b+c:Nat):Int):=by rw[zR]<;>omega
 have bnz:zj (b:Int) 0=false:=jc (by omega);have dr0:Dr b c []:=⟨b1,b6,c2,c6,by simp,fun i l h=>by cases h⟩;rw[og];unfold aS;delta lnC w6C upC aTC nxC exC lpC jzC;simp only[eb,ec,eN];refine zk (J:=fun x=>x.2.2.1=(((b+c:Nat):Int),(sts b c,([],())))) (zX (b+c) (fun i s=>s=(((),((i:Int),())),((((b+c:Nat):Int),((sts b c).take i,([],()))),()))) (by omega) rfl ?_ ?_) ?_
 ·rintro i _ hi rfl;have hx:(sts b c)[i]?=some (decide (b<=i)):=by unfold sts;simp[hi]
  refine zf (zI (show(i:Int) < ((b+c:Nat):Int) by omega)) (zf (qM (by show(((sts b c).take i).length+1)*1<=_;simp;omega) (by show((sts b c).take i).length+1<=_;simp;omega)) (za (qj ?_)));grind[zg,decide,wL,zsx,zso,wrF,sts,zO,zrk]
 ·grind[zD,za,zw,sts,zqV,zhu]
 rintro⟨j,⟨⟨⟩,w,⟨⟩⟩,⟨q,⟨⟩⟩⟩ hq;simp only at hq;subst hq;refine zk (J:=fun x=>x.2.1.1=d∧∃ls,x.2.2.1=(((b+c:Nat):Int),(sts b c,(ls,())))∧Dr b c ls∧Jn b c (b - 1) 0 ls∧ls.length=b - 1)
  (zX (b - 1) (fun i s=>∃ls,s=((d,((),(((i+1:Nat):Int),()))),((((b+c:Nat):Int),(sts b c,(ls,()))),()))∧Dr b c ls∧Jn b c i 0 ls∧ls.length=i) (by omega) ⟨[],rfl,dr0,⟨fun i h=>by omega,fun i h=>by omega⟩,rfl⟩ ?_ ?_) ?_
 ·rintro i _ hi ⟨ls,rfl,dr,ba,hl⟩;refine zf (zI (show((i+1:Nat):Int) < (b:Int) by omega)) ?_;have ep:wrF .i64 (((i+1:Nat):Int) - 1)=(i:Int):=by rw[zf1 (by omega) (by omega)];rfl
  have eq:wrF .i64 (((i+1:Nat):Int)+1)=((i+1+1:Nat):Int):=zO (by omega);simp only[ep,eq];have links:∀o∈ls,¬ZW o (i:Int) ((i+1:Nat):Int):=by intro o ho hj;obtain⟨k,hk,hk2⟩:=kf ho;obtain⟨p,d',e⟩:=ba.ch k (by omega);grind[ZW]
  refine FM (t:=tOf b c ls) dr.sz (a:=(i:Int)) (b:=((i+1:Nat):Int)) hd.p hd.e rfl rfl ?_ ?_
  ·intro x y x0 x1 y0 y1 hbad;exfalso;rcases hbad with h | h | ⟨o,ho,hj⟩
   ·have h:ls.length=24:=h;omega
   ·exact h (zhv (m:=i) (n:=i+1) (by omega) (by omega) (by omega) (.inl (by omega)) x0 x1 y0 y1)
   ·exact links o ho hj
  ·intro x y x0 x1 y0 y1 h24 hlk hno;refine za (qj ⟨ls++[_],rfl,dr.add h24 hlk hno,⟨fun k hk=>?_,fun k hk=>by omega⟩,by simp[hl]⟩);rcases zrD k i with h1 | h1
   ·exact(ba.app _).ch k h1
   grind
 ·grind[ls,zD,za,zw]
 rintro⟨j,⟨q,⟨⟩,w,⟨⟩⟩,⟨u,⟨⟩⟩⟩ ⟨hq,ls0,hu,dr,ba,hl⟩;simp only at hq hu;subst hq hu;have z0:∀n,b<=n->n < b+c->cnt ls0 n=0:=by
  intro n hn hn2;have key:∀k,k<=b - 1->cnt (ls0.take k) n=0:=by
   intro k;induction k with
   |zero=>intro _;simp[cnt]
   |succ k ih=>
    intro hk;obtain⟨p,d',e⟩:=ba.ch k (by omega);rw[zfZ e,ih (by omega),UK (show k≠n by omega),UK (show k+1≠n by omega)];rfl
  have:=key (b - 1) (FW _);grind
 refine zk (J:=fun x=>x.2.1.1=q∧∃ls,x.2.2.1=(((b+c:Nat):Int),(sts b c,(ls,())))∧Dr b c ls∧Jn b c (b - 1) c ls∧ls.length=b - 1+c∧∀n,b<=n->n < b+c->cnt ls n=1)
  (zX c (fun i s=>∃ls,s=((q,((),((i:Int),()))),((((b+c:Nat):Int),(sts b c,(ls,()))),()))∧Dr b c ls∧Jn b c (b - 1) i ls∧ls.length=b - 1+i∧∀n,b<=n->n < b+c->cnt ls n=if n < b+i then 1 else 0) (by omega) ⟨ls0,rfl,dr,ba,by omega,fun n h1 h2=>by grind⟩ ?_ ?_) ?_
 ·rintro i _ hi ⟨ls,rfl,dr,ba,hl,hcn⟩;refine zf (zI (show(i:Int) < (c:Int) by omega)) ?_;have e2:wrF .i64 (2*(i:Int))=((2*i:Nat):Int):=by rw[zR]<;>omega
  have e3:wrF .i64 ((b:Int)+(i:Int))=((b+i:Nat):Int):=by rw[zR]<;>omega
  have eq:wrF .i64 ((i:Int)+1)=((i+1:Nat):Int):=zO (by omega);obtain⟨x,ex,x0,x1⟩:=Xc hd.h (i:=((2*i:Nat):Int)) (by omega);simp only[e2,e3,eq,ex,zq,bnz,zqD];obtain⟨hh,ehh,hhb⟩:∃hh:Nat,Int.tmod x (b:Int)=(hh:Int)∧hh < b:=⟨(x % (b:Int)).toNat,by rw[zqv x0];have:=zrc x (show(b:Int)≠0 by omega);omega,by have:=zqS x (show 0 < (b:Int) by omega);omega⟩;simp only[ehh];have links:∀o∈ls,¬ZW o ((b+i:Nat):Int) (hh:Int):=by
   intro o ho hj;obtain⟨k,hk,hk2⟩:=kf ho;unfold ZW at hj;rcases zrD k (b - 1)with h1 | h1
   ·obtain⟨p,d',e⟩:=ba.ch k h1;grind
   ·obtain⟨q',p,d',e,hqb⟩:=ba.ho (k - (b - 1)) (by omega);grind
  refine FM (t:=tOf b c ls) dr.sz (a:=((b+i:Nat):Int)) (b:=(hh:Int)) hd.p hd.e rfl rfl ?_ ?_
  ·intro x y x0 x1 y0 y1 hbad;exfalso;rcases hbad with h | h | ⟨o,ho,hj⟩
   ·have h:ls.length=24:=h;omega
   ·exact h (zhv (m:=b+i) (n:=hh) (by omega) (by omega) (by omega) (.inr hhb) x0 x1 y0 y1)
   ·exact links o ho hj
  ·intro x y x0 x1 y0 y1 h24 hlk hno;refine za (qj ⟨ls++[_],rfl,dr.add h24 hlk hno,⟨fun k hk=>(ba.app _).ch k hk,fun k hk=>?_⟩,by simp[hl];omega,fun n h1 h2=>?_⟩)
   ·rcases zrD k i with h1 | h1
    ·exact(ba.app _).ho k h1
    grind
   ·rw[sx,hcn n h1 h2];simp only;rw[UK (show hh≠n by omega)];by_cases h:n=b+i
    ·grind[zf2]
    ·rw[UK (show b+i≠n by omega)];omega
 ·grind[ls,zD,za,zw]
 clear dr ba hl z0;rintro⟨j,⟨q',⟨⟩,w',⟨⟩⟩,⟨u,⟨⟩⟩⟩ ⟨hq,ls0,hu,dr,ba,hl,hcn⟩;simp only at hq hu;subst hq hu;refine zk (J:=fun x=>x.2.1.1=q'∧∃ls,x.2.2.1=(((b+c:Nat):Int),(sts b c,(ls,())))∧Dr b c ls∧Jn b c (b - 1) c ls∧ls.length<=b+c∧∀n,b<=n->n < b+c->cnt ls n=1) ?_ ?_
 ·have keep:zt (some ((0:Nat),((q',((),())),((((b+c:Nat):Int),(sts b c,(ls0,()))),())))) fun x=>x.2.1.1=q'∧∃ls,x.2.2.1=(((b+c:Nat):Int),(sts b c,(ls,())))∧Dr b c ls∧Jn b c (b - 1) c ls∧ls.length<=b+c∧∀n,b<=n->n < b+c->cnt ls n=1:=
   za ⟨rfl,ls0,rfl,dr,ba,by omega,hcn⟩
  refine zd (fun hb2=>zd (fun _=>?_) (fun _=>keep)) (fun _=>keep);have hb2:=zT hb2;have ep:wrF .i64 ((b:Int) - 1)=((b - 1:Nat):Int):=zf1 (by omega) (by omega);simp only[ep];refine FM (t:=tOf b c ls0) dr.sz (a:=((b - 1:Nat):Int)) (b:=0) hd.p hd.e rfl rfl (fun x y x0 x1 y0 y1 _=>keep) ?_;intro x y x0 x1 y0 y1 h24 hlk hno;refine za ⟨rfl,ls0++[_],rfl,dr.add h24 hlk hno,ba.app _,by simp;omega,fun n h1 h2=>?_⟩;grind[sx,UK,one]
 clear dr ba hl hcn;rintro⟨j,⟨q,⟨⟩,⟨⟩⟩,⟨u,⟨⟩⟩⟩ ⟨hq,ls0,hu,dr,ba,hl,hcn⟩;simp only at hq hu;subst hq hu;refine zk (J:=fun x=>x.2.1.1=q∧∃ls,x.2.2.1=(((b+c:Nat):Int),(sts b c,(ls,())))∧Dr b c ls∧Jn b c (b - 1) c ls∧∀n,b<=n->n < b+c->1<=cnt ls n∧cnt ls n<=2)
  (zX c (fun i s=>∃ls,s=((q,((),((i:Int),()))),((((b+c:Nat):Int),(sts b c,(ls,()))),()))∧Dr b c ls∧Jn b c (b - 1) c ls∧∀n,b<=n->n < b+c->1<=cnt ls n∧cnt ls n<=if n < b+i then 2 else 1) (by omega) ⟨ls0,rfl,dr,ba,fun n h1 h2=>by grind⟩ ?_ ?_) ?_
 ·rintro i _ hi ⟨ls,rfl,dr,ba,hcn⟩;refine zf (zI (show(i:Int) < (c:Int) by omega)) ?_;have e2:wrF .i64 ((wrF .i64 (2*(i:Int)))+1)=((2*i+1:Nat):Int):=by grind[zR]
  have e3:wrF .i64 ((b:Int)+(i:Int))=((b+i:Nat):Int):=by rw[zR]<;>omega
  have eq:wrF .i64 ((i:Int)+1)=((i+1:Nat):Int):=zO (by omega);obtain⟨x,ex,x0,x1⟩:=Xc hd.h (i:=((2*i+1:Nat):Int)) (by omega);simp only[e2,e3,eq,ex,zq,bnz,zqD];obtain⟨hh,ehh,hhb⟩:∃hh:Nat,Int.tmod x (b:Int)=(hh:Int)∧hh < b:=⟨(x % (b:Int)).toNat,by rw[zqv x0];have:=zrc x (show(b:Int)≠0 by omega);omega,by have:=zqS x (show 0 < (b:Int) by omega);omega⟩;simp only[ehh];refine zk (J:=fun x=>x.2.1.1=q∧∃ls,x.2.2.1=(((b+c:Nat):Int),(sts b c,(ls,())))∧Dr b c ls∧Jn b c (b - 1) c ls∧∀n,b<=n->n < b+c->1<=cnt ls n∧cnt ls n<=if n < b+(i+1)then 2 else 1) ?_ ?_
  ·have keep:zt (some ((0:Nat),((q,((),())),((((b+c:Nat):Int),(sts b c,(ls,()))),())))) fun x=>x.2.1.1=q∧∃ls,x.2.2.1=(((b+c:Nat):Int),(sts b c,(ls,())))∧Dr b c ls∧Jn b c (b - 1) c ls∧∀n,b<=n->n < b+c->1<=cnt ls n∧cnt ls n<=if n < b+(i+1)then 2 else 1:=
    za ⟨rfl,ls,rfl,dr,ba,fun n h1 h2=>by
     grind⟩
   refine zd (fun _=>?_) (fun _=>keep);refine FM (t:=tOf b c ls) dr.sz (a:=((b+i:Nat):Int)) (b:=(hh:Int)) hd.p hd.e rfl rfl (fun x y x0 x1 y0 y1 _=>keep) ?_;intro x y x0 x1 y0 y1 h24 hlk hno;refine za ⟨rfl,ls++[_],rfl,dr.add h24 hlk hno,ba.app _,fun n h1 h2=>?_⟩;have h3:=hcn n h1 h2;rw[sx];simp only;rw[UK (show hh≠n by omega)];by_cases h:n=b+i
   ·grind[zf2]
   ·rw[UK (show b+i≠n by omega)];omega
  ·rintro⟨j,⟨q',⟨⟩,⟨⟩⟩,⟨u,⟨⟩⟩⟩ ⟨hq,ls',hu,dr,ba,hcn⟩;grind[za,qj]
 ·grind[ls,zD,za,zw]
 clear dr ba hl hcn;rintro⟨j,⟨q',⟨⟩,w',⟨⟩⟩,⟨u,⟨⟩⟩⟩ ⟨hq,ls0,hu,dr,ba,hcn⟩;simp only at hq hu;subst hq hu;refine zk (J:=fun x=>∃ls,x.2.2.1=(((b+c:Nat):Int),(sts b c,(ls,())))∧Dr b c ls∧Jn b c (b - 1) c ls∧∀n,b<=n->n < b+c->1<=cnt ls n∧cnt ls n<=2)
  (aQ (fun s=>∃(i:Nat) (ls:List xU),s=((q',((),((i:Int),()))),((((b+c:Nat):Int),(sts b c,(ls,()))),()))∧i<=13∧Dr b c ls∧Jn b c (b - 1) c ls∧∀n,b<=n->n < b+c->1<=cnt ls n∧cnt ls n<=2) _ (fun s=>20 - s.1.2.2.1.toNat) ⟨0,ls0,rfl,by omega,dr,ba,hcn⟩ (by omega) ?_) ?_
 ·rintro _ ⟨i,ls,rfl,hi13,dr,ba,hcn⟩;have eq:wrF .i64 ((i:Int)+1)=((i+1:Nat):Int):=zO (by omega);have eq2:wrF .i64 ((i:Int)+2)=((i+2:Nat):Int):=by rw[zR]<;>omega
  simp only[eq,eq2,bnz,zqD];have out:zt (some (.inl ((0:Nat),((q',((),((i:Int),()))),((((b+c:Nat):Int),(sts b c,(ls,()))),()))):(Nat×(((FK)×(Unit×(Int×Unit)))×((Int×(List Bool×(List xU×Unit)))×Unit))) ⊕ (((FK)×(Unit×(Int×Unit)))×((Int×(List Bool×(List xU×Unit)))×Unit)))) (Round (fun s=>∃(i:Nat) (ls:List xU),s=((q',((),((i:Int),()))),((((b+c:Nat):Int),(sts b c,(ls,()))),()))∧i<=13∧Dr b c ls∧Jn b c (b - 1) c ls∧∀n,b<=n->n < b+c->1<=cnt ls n∧cnt ls n<=2) (fun x=>∃ls,x.2.2.1=(((b+c:Nat):Int),(sts b c,(ls,())))∧Dr b c ls∧Jn b c (b - 1) c ls∧∀n,b<=n->n < b+c->1<=cnt ls n∧cnt ls n<=2) (fun s=>20 - s.1.2.2.1.toNat) ((q',((),((i:Int),()))),((((b+c:Nat):Int),(sts b c,(ls,()))),()))):=
   za (Yi ⟨ls,rfl,dr,ba,hcn⟩)
  refine zd (fun h1=>zd (fun h2=>?_) (fun _=>out)) (fun _=>out);have h1:=zT h1;have h2:=zT (show zg (i:Int) 12=true from h2);have hx:q'.2.2.1[i]?=some (q'.2.2.1[i]'(by omega)):=FL (by omega);have hy:q'.2.2.1[i+1]?=some (q'.2.2.1[i+1]'(by omega)):=FL (by omega);have bx:=hd.c _ (zqq (show i < q'.2.2.1.length by omega));have hyb:=hd.c _ (zqq (show i+1 < q'.2.2.1.length by omega));generalize (q'.2.2.1[i]'(by omega))=x at hx bx;generalize (q'.2.2.1[i+1]'(by omega))=y at hy hyb;refine zb (zm (n:=i) hx (zb (zm (n:=i+1) hy ?_)));have ex:wrF .i64 x=x:=zR (by omega) (by omega);have ey:wrF .i64 y=y:=zR (by omega) (by omega);simp only[ex,ey];obtain⟨m,em,hmb⟩:∃hh:Nat,Int.tmod x (b:Int)=(hh:Int)∧hh < b:=⟨(x % (b:Int)).toNat,by rw[zqv bx.1];have:=zrc x (show(b:Int)≠0 by omega);omega,by have:=zqS x (show 0 < (b:Int) by omega);omega⟩;obtain⟨n,en,hnb⟩:∃hh:Nat,Int.tmod y (b:Int)=(hh:Int)∧hh < b:=⟨(y % (b:Int)).toNat,by rw[zqv hyb.1];have:=zrc y (show(b:Int)≠0 by omega);omega,by have:=zqS y (show 0 < (b:Int) by omega);omega⟩;simp only[em,en];refine FM (t:=tOf b c ls) dr.sz (a:=(m:Int)) (b:=(n:Int)) hd.p hd.e rfl rfl (fun x y x0 x1 y0 y1 _=>?_) ?_
  ·refine za (GI ⟨i+2,ls,rfl,by omega,dr,ba,hcn⟩ ?_);grind
  ·intro x y x0 x1 y0 y1 h24 hlk hno;refine za (GI ⟨i+2,ls++[_],rfl,by omega,dr.add h24 hlk hno,ba.app _,fun k h1 h2=>?_⟩ ?_)
   ·rw[sx];simp only;rw[UK (show m≠k by omega),UK (show n≠k by omega)];have:=hcn k h1 h2;omega
   grind
 ·rintro⟨j,⟨q,⟨⟩,w',⟨⟩⟩,⟨u,⟨⟩⟩⟩ ⟨ls,hu,dr,ba,hcn⟩;simp only at hu;subst hu;refine za ⟨ls,rfl,zkY dr ba hcn,?_⟩;obtain⟨h,p,d',e,_⟩:=ba.ho 0 (by omega);grind
end Go.Proofs.YtlfkgkedfciccaaGreat.ad
namespace Go.Proofs.YtlfkgkedfciccaaGreat.ad
open Go Go.Fz Go.Fz.Sy Go.Proofs.YtlfkgkedfciccaaGreat.nd
variable {t:jC}
def QC(t:jC)(n:Int):List Int:=((List.range (2*t.2.2.length)).map fun(p:Nat)=>(p:Int)).filter fun p=>frm t p == n
theorem zb8(t:jC)(n:Int):∀p∈QC t n,yp t p:=by intro p hp;unfold QC at hp;obtain⟨k,hk,rfl⟩:=zrs.1 (ztc.1 hp).1;have:=List.mem_range.1 hk;exact⟨by omega,by omega⟩
theorem Tp(t:jC)(n:Int):(QC t n).length<=2*t.2.2.length:=by grind[QC,zrh,frm,List.range]
theorem WH(hl:t.2.2.length<=24)(n:Int):kp (t,n,())=some (QC t n,()):=by
 have hll:t.2.2.length<=1000000000000000:=by omega
 rw[Ni];unfold sV;delta lnC w6C upC aTC nxC exC lpC jzC;rw[tw t hll];refine gY (zk (J:=fun x=>x.2.2.1=QC t n) (zX (2*t.2.2.length) (fun i s=>s=(((i:Int),()),((((List.range i).map fun(p:Nat)=>(p:Int)).filter fun p=>frm t p == n),()))) (by omega) rfl ?_ ?_) ?_)
 ·rintro i _ hi rfl;have hp:yp t (i:Int):=⟨by omega,by omega⟩;refine zf (zI (show(i:Int) < 2*(t.2.2.length:Int) by omega)) ?_;have e:((List.range (i+1)).map fun(p:Nat)=>(p:Int)).filter (fun p=>frm t p == n)=(((List.range i).map fun(p:Nat)=>(p:Int)).filter fun p=>frm t p == n)++(if frm t (i:Int) == n then[(i:Int)]else[]):=by rw[List.range_succ,zrJ,zsN];congr 1;simp only[zrz,zsL,List.filter_cons,List.filter_nil]
  have hlen:(((List.range i).map fun(p:Nat)=>(p:Int)).filter fun p=>frm t p == n).length<=i:=by have:=zrh (fun p=>frm t p == n) ((List.range i).map fun(p:Nat)=>(p:Int));simpa using this
  rw[uv hll hp];refine zk (J:=fun x=>x.2.2.1=(((List.range (i+1)).map fun(p:Nat)=>(p:Int)).filter fun p=>frm t p == n)) ?_ ?_
  ·rw[e];refine zd (fun h=>?_) (fun h=>?_)
   ·have h:=qg h;refine zf (qM (zqw (zrH 8 (Nat.add_le_add_right hlen 1)) (by omega)) (zqw (Nat.add_le_add_right hlen 1) (by omega))) (za ?_);rw[zqJ (by simpa using h)]
   ·have h:=qn h;refine za ?_;rw[zqt (by simpa using h),zqW]
  ·rintro⟨j,⟨⟩,c,⟨⟩⟩ hc;simp only at hc;subst hc;exact za (qj (zqT (fun z=>((z,()),(_,()))) (zO (by omega))))
 ·rintro _ rfl;exact zi (zD (show ¬((2*t.2.2.length:Nat):Int) < 2*(t.2.2.length:Int) by omega)) (za (zw rfl))
 grind[za]
noncomputable def Zf (t:jC) (ps seen:List Int):List Int:=ps.filter fun p=>!tv (too t p∈seen)
theorem mD(hll : t.2.2.length<=24){ps seen:List Int}(hps:∀p∈ps,yp t p)(hpl:ps.length<=48)(hsl:seen.length<=100){B:((Int×Unit)×((List Int)×((List Int)×Unit)))->Option ((Nat×((Int×Unit)×((List Int)×((List Int)×Unit)))) ⊕ ((Int×Unit)×((List Int)×((List Int)×Unit))))}(hB:B=fun s2=>bif(zg (s2.1.1) ((((ps).length:Nat):Int)))then opt (opt (atI (ps) (s2.1.1)) fun x3=>opt (jO ((t,(x3,())))) fun x4=>opt (vA ((s2.2.1,(x4.1,())))) fun x5=>bif(!x5.1)then opt (atI (ps) (s2.1.1)) fun x6=>bif(qb ((s2.2.2.1).length) (((x6::[])).length) (8))then some (0,((),(s2.2.1,((s2.2.2.1++(x6::[])),()))))else none else some (0,((),(s2.2.1,(s2.2.2.1,()))))) fun x7=>some (.inr (((wrF .i64 ((s2.1.1+1))),()),(x7.2.2.1,(x7.2.2.2.1,()))))else some (.inl (0,((s2.1.1,()),(s2.2.1,(s2.2.2.1,())))))) : zt (yA B xm ((0,()),(seen,([],())))) fun x=>x.2.2.1=seen∧x.2.2.2.1=Zf t ps seen:=by
 have hl2:t.2.2.length<=1000000000000000:=by omega
 subst hB;refine zX ps.length (fun i s=>s=(((i:Int),()),(seen,(Zf t (ps.take i) seen,())))) (by omega) rfl ?_ ?_
 ·rintro i _ hi rfl;have hx:ps[i]?=some ps[i]:=FL hi;have hp:=hps _ (zqq hi);generalize ps[i]=p at hx hp;have hlen:(Zf t (ps.take i) seen).length<=48:=by unfold Zf;have:=zrh (fun p=>!tv (too t p∈seen)) (ps.take i);simp only[zsi]at this;omega
  have e:Zf t (ps.take (i+1)) seen=Zf t (ps.take i) seen++(if(!tv (too t p∈seen))=true then[p]else[]):=by unfold Zf;rw[zrk,hx,zsN];congr 1;simp only[Option.toList,List.filter_cons,List.filter_nil]
  refine zf (zI (show(i:Int) < (ps.length:Int) by omega)) (zk (J:=fun x=>x.2.2.1=seen∧x.2.2.2.1=Zf t (ps.take (i+1)) seen) ?_ ?_)
  ·refine zb (zm (n:=i) hx ?_);rw[uP hl2 hp,zq,UG (by show seen.length<=_;omega),zq,e];refine zd (fun h=>?_) (fun h=>?_)
   ·refine zb (zm (n:=i) hx (zf (qM (by show((Zf t (ps.take i) seen).length+1)*8<=_;omega) (by show(Zf t (ps.take i) seen).length+1<=_;omega)) (za ⟨rfl,?_⟩)));rw[zqJ h]
   ·refine za ⟨rfl,?_⟩;have h:(!tv (too t p∈seen))=false:=h;rw[h,zqt (by simp),zqW]
  ·rintro⟨j,⟨⟩,c,c2,⟨⟩⟩ ⟨h1,h2⟩;simp only at h1 h2;subst h1 h2;exact za (qj (zqT (fun z=>((z,()),_)) (zO (by omega))))
 grind[zD,za,zw,Zf,zrV]
theorem zkZ(ht:wU t){a k:Int}(a0:0<=a)(a1:a<=255)(k0:0<=k)(k1:k<=255):∃r,gN (t,a,k,())=some (r,()):=by
 have n0:=ht.sz.n0;have n1:=ht.sz.n1;have hls:=ht.sz.ls;have hll:t.2.2.length<=1000000000000000:=by omega
 suffices key:zt (gN (t,a,k,())) fun _=>True by obtain⟨⟨r,⟨⟩⟩,e,_⟩:=key;exact⟨r,e⟩
 have ew:wrF .i64 a=a:=zR (by omega) (by omega);have em:Int.tmod a t.1=a % t.1:=zqv a0;have m0:=zrc a (show t.1≠0 by omega);have m1:=zqS a (show 0 < t.1 by omega);rw[RG];unfold DW;delta lnC w6C upC aTC nxC exC lpC jzC;rw[ew,em];refine zi (jc (show t.1≠0 by omega)) ?_;have stop:∀(r:Option Int) (at_:Int) (out seen:List Int),True:=fun _ _ _ _=>trivial;refine zk (J:=fun s=>∃r at_ out seen,s=((t,(r,(at_,()))),(out,(seen,())))∧jV t at_∧out.length<=8∧seen.length=out.length+1∧(8<=out.length∨(out≠[]∧stn t at_=true)∨Zf t (QC t at_) seen=[]))
  (aQ (fun s=>∃r at_ out seen,s=((t,(r,(at_,()))),(out,(seen,())))∧jV t at_∧out.length<=8∧seen.length=out.length+1) _ (fun s=>20 - s.2.1.length) ⟨[],a % t.1,[],[a % t.1],rfl,⟨m0,m1⟩,by simp,rfl⟩ (by omega) ?_) ?_
 ·rintro _ ⟨r,at_,out,seen,rfl,hn,ho,hs⟩;have hpl:=Tp t at_;have hpo:=zb8 t at_;have fin:(8<=out.length∨(out≠[]∧stn t at_=true)∨Zf t (QC t at_) seen=[])->zt (some (.inl ((t,(r,(at_,()))),(out,(seen,()))):((jC×((List Int)×(Int×Unit)))×((List Int)×((List Int)×Unit))) ⊕ ((jC×((List Int)×(Int×Unit)))×((List Int)×((List Int)×Unit))))) (Round (fun s=>∃r at_ out seen,s=((t,(r,(at_,()))),(out,(seen,())))∧jV t at_∧out.length<=8∧seen.length=out.length+1) (fun s=>∃r at_ out seen,s=((t,(r,(at_,()))),(out,(seen,())))∧jV t at_∧out.length<=8∧seen.length=out.length+1∧(8<=out.length∨(out≠[]∧stn t at_=true)∨Zf t (QC t at_) seen=[])) (fun s=>20 - s.2.1.length) ((t,(r,(at_,()))),(out,(seen,())))):=fun h=>
   za (Yi ⟨r,at_,out,seen,rfl,hn,ho,hs,h⟩)
  have step:out.length < 8->∀(seen' nx:List Int),seen'=seen->nx=Zf t (QC t at_) seen->zt (bif(zj ((((nx).length:Nat):Int)) (0))then some (.inl ((t,(r,(at_,()))),(out,(seen,()))))
     else bif(zj ((((nx).length:Nat):Int)) (0))then none
      else opt (atI (nx) ((Int.tmod (wrF .i64 (((wrF .i64 (k))+(wrF .i64 ((3*(((out).length:Nat):Int))))))) (((nx).length:Nat):Int)))) fun x9=>
       opt (gl (nx) ((Int.toNat (Int.tmod (wrF .i64 (((wrF .i64 (k))+(wrF .i64 ((3*(((out).length:Nat):Int))))))) (((nx).length:Nat):Int))))) fun x10=>
       bif(qb ((out).length) (((x10::[])).length) (8))then opt (jO ((t,(x10,())))) fun x11=>
        bif(qb ((seen').length) (((x11.1::[])).length) (8))then some (.inr ((t,(r,(x11.1,()))),((out++(x10::[])),((seen'++(x11.1::[])),()))))
        else none
       else none) (Round (fun s=>∃r at_ out seen,s=((t,(r,(at_,()))),(out,(seen,())))∧jV t at_∧out.length<=8∧seen.length=out.length+1) (fun s=>∃r at_ out seen,s=((t,(r,(at_,()))),(out,(seen,())))∧jV t at_∧out.length<=8∧seen.length=out.length+1∧(8<=out.length∨(out≠[]∧stn t at_=true)∨Zf t (QC t at_) seen=[])) (fun s=>20 - s.2.1.length) ((t,(r,(at_,()))),(out,(seen,())))):=by
   intro h8 seen' nx e1 e2
   subst e1
   refine zd (fun h=>fin (.inr (.inr ?_))) (fun h=>?_)
   ·have h:=qg h
    rw[<-e2];exact zri.1 (by omega)
   have hz:(nx.length:Int)≠0:=qn h
   have ek:wrF .i64 k=k:=zR (by omega) (by omega)
   have e3:wrF .i64 (3*(out.length:Int))=3*(out.length:Int):=zR (by omega) (by omega)
   have e4:wrF .i64 (k+3*(out.length:Int))=k+3*(out.length:Int):=zR (by omega) (by omega)
   rw[ek,e3,e4,zqv (by omega)]
   have i0:=zrc (k+3*(out.length:Int)) hz
   have i1:=zqS (k+3*(out.length:Int)) (show 0 < (nx.length:Int) by omega)
   refine zi (jc hz) (zb (wm i0 i1 fun _ _=>zb (jI (by omega) fun p hp=>?_)))
   have hpt:yp t p:=by have:=zqx hp;rw[e2]at this;exact hpo p (ztc.1 this).1
   refine zf (qM (by show(out.length+1)*8<=_;omega) (by show out.length+1<=_;omega)) ?_
   rw[uP hll hpt,zq]
   refine zf (qM (by show(seen'.length+1)*8<=_;omega) (by show seen'.length+1<=_;omega)) (za (GI ⟨r,too t p,out++[p],seen'++[too t p],rfl,(ir ht.ls hpt).2.1,by simp;omega,by simp;omega⟩ ?_))
   grind
  refine zd (fun h8=>?_) (fun h8=>fin (.inl ?_));rotate_left
  ·have h8:(8:Int)<=(out.length:Int):=zN h8;omega
  have h8:(out.length:Int) < 8:=zT h8;refine zd (fun hz=>?_) (fun hz=>?_)
  ·rw[WH hls,zq];refine zk (mD hls hpo (by omega) (by show seen.length<=_;omega) rfl) ?_;grind
  ·have hz:(out.length:Int)≠0:=qn hz;refine zb (jP (a:=stn t at_) (by show atI t.2.1 at_=_;rw[show at_=((at_.toNat:Nat):Int) from(by have:=hn.1;omega),gw (n:=at_.toNat)];exact hn.get ht.sz) ?_);refine zd (fun hst=>?_) (fun hst=>fin (.inr (.inl ⟨fun e=>?_,by simpa using hst⟩)))
   ·rw[WH hls,zq];refine zk (mD hls hpo (by omega) (by show seen.length<=_;omega) rfl) ?_;rintro⟨j,⟨z,⟨⟩⟩,c,c2,⟨⟩⟩ ⟨h1,h2⟩;exact step (by omega) c c2 h1 h2
   grind
 ·rintro _ ⟨r,at_,out,seen,rfl,hn,ho,hs,hstop⟩;have hpl:=Tp t at_;have hpo:=zb8 t at_;refine zd (fun h8=>?_) (fun _=>za trivial);have h8:(out.length:Int) < 8:=zT h8;refine zd (fun hz=>?_) (fun hz=>?_)
  ·have hz:(out.length:Int)=0:=qg hz;have hnx:Zf t (QC t at_) seen=[]:=by
    rcases hstop with h | ⟨h,_⟩ | h
    ·omega
    ·exact absurd (zri.1 (by omega)) h
    ·exact h
   rw[WH hls,zq];grind[zk,mD,za]
  ·refine zb (jP (a:=stn t at_) (by show atI t.2.1 at_=_;rw[show at_=((at_.toNat:Nat):Int) from(by have:=hn.1;omega),gw (n:=at_.toNat)];exact hn.get ht.sz) ?_);refine zd (fun hst=>?_) (fun _=>za trivial);have hnx:Zf t (QC t at_) seen=[]:=by grind
   rw[WH hls,zq];refine zk (mD hls hpo (by omega) (by grind) rfl) ?_;rintro⟨j,⟨z,⟨⟩⟩,c,c2,⟨⟩⟩ ⟨h1,h2⟩;simp only at h1 h2;rw[hnx]at h2;subst h2;exact zf rfl (za trivial)
theorem zdJ(z:Int):0<=wrF .u8 z∧wrF .u8 z<=255:=by rw[Zy,IntKind.wrap_u8];omega
theorem zf3(hs:szP t){n:Int}(hn:jV t n):atI t.2.1 n=some (stn t n):=by
 have e:n=((n.toNat:Nat):Int):=by have:=hn.1;omega
 rw[e,gw (n:=n.toNat)];rw[<-e];exact hn.get hs
theorem zb9{α:Type}{l:List α}(h:1<=l.length):dP l=true:=by
 cases l with
 |nil=>simp at h
 |cons a b=>rfl
theorem zk0(ht:wU t)(nd w:Int){B:(((Int×((List Bool)×(List (Int×(Int×(Int×Int))))))×((List Int)×(Int×Unit)))×Unit)->Option ((Nat×(((Int×((List Bool)×(List (Int×(Int×(Int×Int))))))×((List Int)×(Int×Unit)))×Unit)) ⊕ (((Int×((List Bool)×(List (Int×(Int×(Int×Int))))))×((List Int)×(Int×Unit)))×Unit))}(hB:B=fun s3:(((Int×((List Bool)×(List (Int×(Int×(Int×Int))))))×((List Int)×(Int×Unit)))×Unit)=>bif(zg (s3.1.2.2.1) (16))then opt (gN ((s3.1.1,((wrF .u8 (nd)),((wrF .u8 ((w+(wrF .u8 (s3.1.2.2.1))))),()))))) fun x4=>opt (bif(zg (0) ((((x4.1).length:Nat):Int)))then opt (kq ((s3.1.1,(x4.1,())))) fun x5=>bif x5.1 then opt (atI (x4.1) (0)) fun x6=>opt (ya ((s3.1.1,(x6,())))) fun x7=>opt (atI (s3.1.1.2.1) (x7.1)) fun x8=>bif x8 then opt (atI (x4.1) ((wrF .i64 (((((x4.1).length:Nat):Int) - 1))))) fun x9=>opt (jO ((s3.1.1,(x9,())))) fun x10=>opt (atI (s3.1.1.2.1) (x10.1)) fun x11=>bif x11 then some (1,((x4.1,()),()))else some (0,((s3.1.2.1,()),()))else some (0,((s3.1.2.1,()),()))else some (0,((s3.1.2.1,()),()))else some (0,((s3.1.2.1,()),()))) fun x12=>bif(Nat.beq x12.1 0)then some (.inr ((s3.1.1,(x12.2.1.1,((wrF .i64 ((s3.1.2.2.1+1))),()))),()))else some (.inl (1,((s3.1.1,(x12.2.1.1,(s3.1.2.2.1,()))),())))else some (.inl (0,((s3.1.1,(s3.1.2.1,(s3.1.2.2.1,()))),())))) : zt (yA B xm ((t,([],(0,()))),())) fun x=>x.1=0∨(x.1=1∧yW t x.2.1.2.1):=by
 have hll:t.2.2.length<=1000000000000000:=ht.ll;subst hB;refine zX 16 (fun i s=>s=((t,([],((i:Int),()))),())) (by omega) rfl ?_ ?_
 ·rintro i _ hi rfl;refine zf (zI (show(i:Int) < 16 by omega)) ?_;obtain⟨r,hr⟩:=zkZ ht (zdJ nd).1 (zdJ nd).2 (zdJ (w+wrF .u8 (i:Int))).1 (zdJ (w+wrF .u8 (i:Int))).2;rw[hr,zq];refine zk (J:=fun x=>(x.1=0∧x.2.1.1=[])∨(x.1=1∧yW t x.2.1.1)) ?_ ?_
  ·have stay:zt (some ((0:Nat),((([]:List Int),()),()))) (fun x=>(x.1=0∧x.2.1.1=[])∨(x.1=1∧yW t x.2.1.1)):=za (.inl ⟨rfl,rfl⟩);refine zd (fun h=>?_) (fun h=>stay);have h:=zT h;rw[mr ht,zq];refine zd (fun hv=>?_) (fun _=>stay);have hv:yW t r:=aC hv;have r0:=hv.n0;have r1:=hv.n1;refine zb (wm (by omega) (by show(0:Int) < (r.length:Int);omega) fun p hp=>?_);have hpp:yp t p:=hv.pt p (zqx hp);rw[uv hll hpp,zq];refine zb (jP (zf3 ht.sz (ir ht.ls hpp).1) ?_);refine zd (fun _=>?_) (fun _=>stay);have e:wrF .i64 ((r.length:Int) - 1)=(r.length:Int) - 1:=zR (by omega) (by omega);rw[e];refine zb (wm (by omega) (by show(r.length:Int) - 1 < (r.length:Int);omega) fun q hq=>?_);have hqp:yp t q:=hv.pt q (zqx hq);rw[uP hll hqp,zq];refine zb (jP (zf3 ht.sz (ir ht.ls hqp).2.1) ?_);exact zd (fun _=>za (.inr ⟨rfl,hv⟩)) (fun _=>stay)
  ·rintro⟨n,⟨r',⟨⟩⟩,⟨⟩⟩ (⟨h1,h2⟩ | ⟨h1,h2⟩)
   ·simp only at h1 h2;subst h1 h2;exact zf rfl (za (qj (zqT (fun z=>((t,([],(z,()))),())) (zO (by omega)))))
   ·simp only at h1 h2;subst h1;exact zi rfl (za (zw (.inr ⟨rfl,h2⟩)))
 grind[zD,za,zw]
abbrev ix:=Bool×Bool×Int×Int×Int×Int×Int×Int
def sdP(d:ix):Prop:=(0<=d.2.2.1∧d.2.2.1<=255)∧(0<=d.2.2.2.2.2.1∧d.2.2.2.2.2.1<=255)
theorem zgV(ht:wU t){d:ix}(hd:sdP d)(id:Int):∃s b,xk (d,t,id,())=some (s,b,()):=by
 have hll:t.2.2.length<=1000000000000000:=ht.ll;have n0:=ht.sz.n0;have n1:=ht.sz.n1;obtain⟨⟨d0,d1⟩,d2,d3⟩:=hd;suffices key:zt (xk (d,t,id,())) fun _=>True by obtain⟨⟨s,b,⟨⟩⟩,e,_⟩:=key;exact⟨s,b,e⟩
 have m0:=zrc d.2.2.1 (show t.1≠0 by omega);have m1:=zqS d.2.2.1 (show 0 < t.1 by omega);have ew:wrF .i64 d.2.2.1=d.2.2.1:=zR (by omega) (by omega);rw[iD];unfold KP;delta lnC w6C upC aTC nxC exC lpC jzC;rw[ew,zqv d0];refine zi (jc (show t.1≠0 by omega)) ?_;refine zk (J:=fun _=>True) (zX t.1.toNat (fun i s=>∃n,jV t n∧s=((n,((i:Int),())),())) (by omega) ⟨_,⟨m0,m1⟩,rfl⟩ ?_ ?_) ?_
 ·rintro i _ hi ⟨n,hn,rfl⟩;have:=hn.1;have:=hn.2;refine zf (zI (show(i:Int) < t.1 by omega)) (zb (jP (zf3 ht.sz hn) ?_));refine zd (fun _=>?_) (fun _=>za (zw trivial));refine zi (jc (show t.1≠0 by omega)) (za (qj ⟨(n+1) % t.1,⟨zrc _ (by omega),zqS _ (by omega)⟩,?_⟩));grind[wrF,zR,Int.tmod,zqv,zO]
 ·grind[zD,za,zw]
 rintro x2 -;refine zk (zk0 ht x2.2.1.1 d.2.2.2.1 rfl) ?_;rintro⟨k,⟨tt,r,z,⟨⟩⟩,⟨⟩⟩ h;rcases h with h | ⟨h,hr⟩
 ·grind[Nat.beq,za]
 have hr:yW t r:=hr;have r0:=hr.n0;have r1:=hr.n1;have er:wrF .i64 ((r.length:Int) - 1)=(r.length:Int) - 1:=zR (by omega) (by omega);refine zi (by grind[Nat.beq]) (zf (zb9 r0) ?_);refine zb (wm (by omega) (by grind) fun p hp=>?_);have hpp:yp t p:=hr.pt p (zqx hp);rw[uv hll hpp,zq,er];refine zb (wm (by omega) (by grind) fun q hq=>?_);have hqp:yp t q:=hr.pt q (zqx hq);rw[uP hll hqp,zq];refine zk (J:=fun _=>True) ?_ ?_
 ·refine zd (fun _=>za trivial) (fun _=>?_);have p0:=zrc d.2.2.2.2.2.1 (show(10:Int)≠0 by omega);have p1:=zqS d.2.2.2.2.2.1 (show 0 < (10:Int) by omega);rw[zqv d2];refine zb (wm p0 p1 fun _ _=>zb (jI ?_ fun _ _=>za trivial));grind
 rintro x20 -;refine zk (J:=fun x=>x.2.1.1=t) (zX 24 (fun i s=>∃F,s=((t,((),((i:Int),()))),F)) (by omega) ⟨_,rfl⟩ ?_ ?_) ?_
 ·rintro i _ hi ⟨F,rfl⟩;refine zf (zI (show(i:Int) < 24 by omega)) ?_;have out:∀{k:Nat} {z:Int} {F'},zt (some (.inl (k,((t,((),(z,()))),F')):((Nat×(((Int×((List Bool)×(List (Int×(Int×(Int×Int))))))×(Unit×(Int×Unit)))×((Int×(Int×(Int×(Int×(Int×(Int×((Int×Int)×(Int×((List (List Int))×Unit)))))))))×Unit))) ⊕ (((Int×((List Bool)×(List (Int×(Int×(Int×Int))))))×(Unit×(Int×Unit)))×((Int×(Int×(Int×(Int×(Int×(Int×((Int×Int)×(Int×((List (List Int))×Unit)))))))))×Unit))))) (Nxt (fun x=>x.2.1.1=t) fun s=>∃F,s=((t,((),(((i+1:Nat):Int),()))),F)):=za (zw rfl);have on:∀{F'},zt (some (.inr ((t,((),(wrF .i64 ((i:Int)+1),()))),F'):((Nat×(((Int×((List Bool)×(List (Int×(Int×(Int×Int))))))×(Unit×(Int×Unit)))×((Int×(Int×(Int×(Int×(Int×(Int×((Int×Int)×(Int×((List (List Int))×Unit)))))))))×Unit))) ⊕ (((Int×((List Bool)×(List (Int×(Int×(Int×Int))))))×(Unit×(Int×Unit)))×((Int×(Int×(Int×(Int×(Int×(Int×((Int×Int)×(Int×((List (List Int))×Unit)))))))))×Unit))))) (Nxt (fun x=>x.2.1.1=t) fun s=>∃F,s=((t,((),(((i+1:Nat):Int),()))),F)):=fun{F'}=>za (qj ⟨F',zqT (fun z=>((t,((),(z,()))),F')) (zO (by omega))⟩);refine zd (fun _=>zd (fun h1=>?_) (fun _=>out)) (fun _=>out);have h1:((F.1.2.2.2.2.2.2.2.2.1.length:Nat):Int)=1:=qg h1;refine zk (zk0 ht x2.2.1.1 (wrF .u8 (d.2.2.2.1+wrF .u8 (i:Int))) rfl) ?_;rintro⟨k2,⟨tt2,b,z2,⟨⟩⟩,⟨⟩⟩ h;rcases h with h | ⟨h,hb⟩
  ·exact zf (by show Nat.beq k2 0=true;rw[show k2=0 from h];rfl) on
  have hb:yW t b:=hb;have b0:=hb.n0;have b1:=hb.n1;have eb:wrF .i64 ((b.length:Int) - 1)=(b.length:Int) - 1:=zR (by omega) (by omega);refine zi (by show Nat.beq k2 0=false;rw[show k2=1 from h];rfl) ?_;refine zk (J:=fun _=>True) ?_ ?_
  ·refine zf (zb9 b0) ?_;rw[eb];refine zb (wm (by omega) (by grind) fun q hq=>?_);have hqp:yp t q:=hb.pt q (zqx hq);rw[uP hll hqp,zq];refine zd (fun _=>?_) (fun _=>za trivial);rw[mu ht hr hb,zq];refine zd (fun _=>?_) (fun _=>za trivial);exact zf (qM (by show(F.1.2.2.2.2.2.2.2.2.1.length+1)*24<=_;omega) (by show F.1.2.2.2.2.2.2.2.2.1.length+1<=_;omega)) (za trivial)
  ·rintro x36 -;exact on
 ·rintro _ ⟨F,rfl⟩;exact zi (zD (show ¬(24:Int) < 24 by omega)) (za (zw rfl))
 rintro⟨k3,⟨t3,⟨⟩,z3,⟨⟩⟩,F,⟨⟩⟩ h3;have h3:t3=t:=h3;subst h3;rw[UJ ht,zq];exact za trivial
end Go.Proofs.YtlfkgkedfciccaaGreat.ad
namespace Go.Proofs.YtlfkgkedfciccaaGreat.ad
open Go Go.Fz Go.Fz.Sy Go.Proofs.YtlfkgkedfciccaaGreat.nd
end Go.Proofs.YtlfkgkedfciccaaGreat.ad
namespace Go.Proofs.YtlfkgkedfciccaaGreat.dd
open Go Go.Fz Go.Fz.Sy Go.Proofs.YtlfkgkedfciccaaGreat.nd Go.Proofs.YtlfkgkedfciccaaGreat.ad
variable {u:Int×Int×Int×Int} {p:za7}
theorem zdK(n:Int){m:Int}(hm:m≠0):∃v,vo (n,m,())=some (v,()):=by
 have key:zt (vo (n,m,())) fun _=>True:=by grind[zaj,Le,jc,zb,za]
 obtain⟨⟨v,⟨⟩⟩,e,_⟩:=key;exact⟨v,e⟩
theorem zhx(n:Int){m:Int}(hm:m≠0):∃v,JD (n,m,())=some (v,()):=by obtain⟨v,e⟩:=zdK n hm;grind[Nu,tJ,zq,jc]
theorem zpW(i:Int){per:Int}(h:Int×Int×Int×Int×Int)(hu:u.1≠0)(hp:per≠0):∃f l,XD (u,i,per,h,())=some ((i,h.1,f,l),()):=by obtain⟨v1,e1⟩:=zhx h.2.1 hu;obtain⟨v2,e2⟩:=zhx (wrF .i64 (0 - wrF .i64 (h.2.2.2.1+h.2.2.2.2))) hu;obtain⟨v3,e3⟩:=zdK v1 hp;grind[zal,Lh,zq]
theorem zpX{a b:Int}(ha:a<=1000000):∃v,1<=v∧XF (a,b,())=some (v,()):=by
 have key:zt (XF (a,b,())) fun r=>1<=r.1:=by
  rw[zaq];unfold Lr;delta lnC w6C upC aTC nxC exC lpC jzC;refine zk (J:=fun x=>x.1=0∨(x.1=1∧1<=x.2.1.1)) (aQ (fun s=>s.1.2.1<=1000000) _ (fun s=>s.1.2.1.toNat) ha (by grind) ?_) ?_
  ·rintro⟨⟨v,n,⟨⟩⟩,⟨⟩⟩ hn;have hn:n<=1000000:=hn;refine zd (fun h1=>?_) fun h1=>za (Yi (.inl rfl));have h1:1 < n:=zT h1;have go:Round (fun s:((Int×(Int×Unit))×Unit)=>s.1.2.1<=1000000) (fun x:Nat×((Int×(Int×Unit))×Unit)=>x.1=0∨(x.1=1∧1<=x.2.1.1)) (fun s=>s.1.2.1.toNat) ((v,n,()),()) (.inr ((v,wrF .i64 (n - 1),()),())):=by grind[zR,GI]
   refine zb (zi (jc (by show n≠0;omega)) (zd (fun _=>zi (jc (by show n≠0;omega)) (zd (fun _=>za (zu (za (Yi (.inr ⟨rfl,by show 1<=n;omega⟩))))) fun _=>za (zx (za go)))) fun _=>za (zx (za go))))
  ·rintro⟨c,⟨v,n,⟨⟩⟩,⟨⟩⟩ (h | ⟨h,h2⟩)
   ·have h:c=0:=h;subst h;exact zx (za (by decide))
   grind[za]
 obtain⟨⟨v,⟨⟩⟩,e,h⟩:=key;exact⟨v,h,e⟩
theorem zpY{a b:Int×Int×Int}(ha:a.1<=1000000)(hl:a.2.2<=1000000)(h0 : -1000000<=b.2.2)(h1:b.2.2<=1000000):∃v,ui (a,b,())=some (v,()):=by
 obtain⟨g,hg,eg⟩:=zpX (a:=a.1) (b:=b.1) ha;have key:zt (ui (a,b,())) fun _=>True:=by
  rw[BF];unfold eM;delta lnC w6C upC aTC nxC exC lpC jzC;rw[eg,zq];refine zk (J:=fun x=>x.1=0∨x.1=1) (aQ (fun s=>-1000000<=s.1.2.1∧s.1.2.1<=1000001) _ (fun s=>(1000001 - s.1.2.1).toNat) ?_ ?_ ?_) ?_
  ·show -1000000<=wrF .i64 (1 - b.2.2)∧wrF .i64 (1 - b.2.2)<=1000001;rw[zR (by omega) (by omega)];omega
  ·show(1000001 - wrF .i64 (1 - b.2.2)).toNat < _;rw[zR (by omega) (by omega)];omega
  ·rintro⟨⟨v,n,⟨⟩⟩,⟨⟩⟩ ⟨hn,hn2⟩;have hn : -1000000<=n:=hn;have hn2:n<=1000001:=hn2;refine zd (fun h1=>?_) fun h1=>za (Yi (.inl rfl));have h1:n < a.2.2:=zT h1;obtain⟨w,ew⟩:=zdK (wrF .i64 (wrF .i64 (b.2.1 - a.2.1) - n)) (m:=g) (by omega);show zt (opt (vo (wrF .i64 (wrF .i64 (b.2.1 - a.2.1) - n),g,())) _) _;rw[ew,zq];refine zd (fun _=>za (Yi (.inr rfl))) fun _=>za ?_;show Round _ _ _ _ (.inr ((v,wrF .i64 (n+1),()),()));rw[zR (by omega) (by omega)];exact GI ⟨by show -1000000<=n+1;omega,by show n+1<=_;omega⟩ (by show(1000001 - (n+1)).toNat < (1000001 - n).toNat;omega)
  grind[za]
 obtain⟨⟨v,⟨⟩⟩,e,h⟩:=key;exact⟨v,e⟩
abbrev za7:=List Int×List (Int×Int×Int×Int)
structure aD(p:za7):Prop where
 n:p.1.length<=12
 m:p.2.length<=192
 per:∀x∈p.1,1<=x∧x<=240
 use:∀x∈p.2,0<=x.1∧x.1 < (p.1.length:Int)∧1<=x.2.2.2∧x.2.2.2<=240
theorem zpr(h:aD p)(hu:u∈p.2):∃x,atI p.1 u.1=some x∧p.1[u.1.toNat]?=some x∧1<=x∧x<=240:=by obtain⟨h0,h1,_,_⟩:=h.use u hu;obtain⟨x,e,e2⟩:=Rq h0 h1;exact⟨x,e,e2,h.per x (zqx e2)⟩
theorem zps(h:aD p){k:Nat}(hk:p.2[k]?=some u)(x:Int):∃n f,QY (p,(k:Int),x,())=some ((n,f,u.2.2.2),())∧1<=n∧n<=240:=by obtain⟨n,e,_,n1,n2⟩:=zpr h (zqx hk);grind[zcG,RT,gw,zq,jc]
theorem zhy(h:aD p)(i a j b:Int):∃v,ky (p,i,a,j,b,())=some (v,()):=by
 have hm:=h.m;have key:zt (ky (p,i,a,j,b,())) fun _=>True:=by
  rw[Nz];unfold tP;delta lnC w6C upC aTC nxC exC lpC jzC;refine zk (J:=fun x=>x.1=0∨x.1=1) (zX p.2.length (fun k s=>∃v:Bool,s=((v,((k:Int),())),())) (by omega) ⟨_,rfl⟩ ?_ ?_) ?_
  ·rintro k _ hk ⟨v,rfl⟩;have hx:p.2[k]?=some p.2[k]:=FL hk;generalize p.2[k]=x at hx;refine zf (zI (show(k:Int) < (p.2.length:Int) by omega)) (zk (J:=fun x=>x.1=0∨x.1=1) (zX p.2.length (fun m s=>∃v:Bool,s=((v,((m:Int),())),())) (by omega) ⟨_,rfl⟩ ?_ ?_) ?_)
   ·rintro m _ hm2 ⟨v,rfl⟩;have hy:p.2[m]?=some p.2[m]:=FL hm2;generalize p.2[m]=y at hy;refine zf (zI (show(m:Int) < (p.2.length:Int) by omega)) ?_;have on:zt (some (.inr ((v,(wrF .i64 ((m:Int)+1),())),())):Option ((Nat×((Bool×(Int×Unit))×Unit)) ⊕ ((Bool×(Int×Unit))×Unit))) (Nxt (fun x=>x.1=0∨x.1=1) fun s=>∃v:Bool,s=((v,(((m+1:Nat):Int),())),())):=za (qj ⟨v,by rw[zO (by omega)]⟩);obtain⟨n1,f1,e1,q1,q2⟩:=zps h hx a;obtain⟨n2,f2,e2,q3,q4⟩:=zps h hy b;obtain⟨_,_,l1,l2⟩:=h.use x (zqx hx);obtain⟨_,_,l3,l4⟩:=h.use y (zqx hy);obtain⟨w,ew⟩:=zpY (a:=(n1,f1,x.2.2.2)) (b:=(n2,f2,y.2.2.2)) (by show n1<=_;omega) (by show x.2.2.2<=_;omega) (by show _<=y.2.2.2;omega) (by show y.2.2.2<=_;omega);refine zb (zd (fun _=>zb (zm hx (zd (fun _=>zb (zm hy (zd (fun _=>zb (zm hx (zb (zm hy (zd (fun _=>?_) fun _=>za (zx on)))))) fun _=>za (zx on)))) fun _=>za (zx on)))) fun _=>za (zx on));show zt (opt (QY (p,(k:Int),a,())) _) _;rw[e1,zq];show zt (opt (QY (p,(m:Int),b,())) _) _;rw[e2,zq];show zt (opt (ui ((n1,f1,x.2.2.2),(n2,f2,y.2.2.2),())) _) _;rw[ew,zq];exact zd (fun _=>za (zu (za (zw (.inr rfl))))) fun _=>za (zx on)
   ·rintro _ ⟨v,rfl⟩;exact zi (zD (show ¬(p.2.length:Int) < (p.2.length:Int) by omega)) (za (zw (.inl rfl)))
   ·rintro⟨c,⟨v,n,⟨⟩⟩,⟨⟩⟩ (h | h)
    ·have h:c=0:=h;subst h;exact zx (za (qj ⟨v,by rw[zO (by omega)]⟩))
    ·have h:c=1:=h;subst h;exact zu (za (zw (.inr rfl)))
  all_goals grind[zD,za,zw]
 obtain⟨⟨v,⟨⟩⟩,e,_⟩:=key;exact⟨v,e⟩
theorem zpt(h:aD p){g:List Int}(hg:g.length<=1000)(x:Int):∃v,xM (p,g,x,())=some (v,()):=by
 have key:zt (xM (p,g,x,())) fun _=>True:=by
  rw[zcI];unfold RV;delta lnC w6C upC aTC nxC exC lpC jzC;refine zk (J:=fun x=>x.1=0∨x.1=1) (zX g.length (fun k s=>s=((0,((k:Int),())),())) (by omega) rfl ?_ ?_) ?_
  ·rintro k _ hk rfl;have hx:g[k]?=some g[k]:=FL hk;generalize g[k]=y at hx;refine zf (zI (show(k:Int) < (g.length:Int) by omega)) (zb (zm hx ?_));obtain⟨w,ew⟩:=zhy h (g.length:Int) x (k:Int) y;grind[zt,opt,ky,zq,za,zw,qj,zO]
  ·grind[zD,za,zw]
  ·rintro⟨c,⟨v,n,⟨⟩⟩,⟨⟩⟩ (hc | hc)
   ·have hc:c=0:=hc;subst hc;obtain⟨w,ew⟩:=zhy h (g.length:Int) x (g.length:Int) x;grind[zq,za]
   ·have hc:c=1:=hc;subst hc;exact zu (za trivial)
 obtain⟨⟨v,⟨⟩⟩,e,_⟩:=key;exact⟨v,e⟩
theorem zji{l:List Int}(hl:l.length<=1000)(h:∀x∈l,x≠0):∃v,xb (l,())=some (v,())∧0<=v∧v<=960:=by
 have key:zt (xb (l,())) fun r=>0<=r.1∧r.1<=960:=by
  rw[zao];unfold Ln;delta lnC w6C upC aTC nxC exC lpC jzC;refine zk (J:=fun x=>x.1=0∨(x.1=1∧0<=x.2.1.1∧x.2.1.1<=960)) (zX 960 (fun k s=>s=((0,(((k+1:Nat):Int),())),())) (by omega) rfl ?_ ?_) ?_
  ·rintro k _ hk rfl;refine zf (by grind[zD]) (zk (J:=fun _=>True) (zX l.length (fun m s=>∃v:Bool,s=((v,((m:Int),())),())) (by omega) ⟨_,rfl⟩ ?_ ?_) ?_)
   ·rintro m _ hm ⟨v,rfl⟩;have hx:l[m]?=some l[m]:=FL hm;grind[zqq,zI,zb,zm,jc,za,qj,zO]
   ·grind[zD,za,zw]
   ·rintro⟨c,⟨v,n,⟨⟩⟩,⟨⟩⟩ _;refine zd (fun _=>za (zw (.inr ⟨rfl,by grind,by grind⟩))) fun _=>za (qj ?_);rw[zO (by omega)]
  ·grind[zI,za,zw]
  ·rintro⟨c,⟨v,n,⟨⟩⟩,⟨⟩⟩ (hc | ⟨hc,h1,h2⟩)
   ·have hc:c=0:=hc;subst hc;exact zx (za ⟨by decide,by decide⟩)
   grind[za]
 obtain⟨⟨v,⟨⟩⟩,e,h1⟩:=key;exact⟨v,e,h1⟩
end Go.Proofs.YtlfkgkedfciccaaGreat.dd
namespace Go.Proofs.YtlfkgkedfciccaaGreat.dd
open Go Go.Fz Go.Fz.Sy Go.Proofs.YtlfkgkedfciccaaGreat.nd Go.Proofs.YtlfkgkedfciccaaGreat.ad
theorem zk1{p:za7}:∃b,kx (p,())=some (b,())∧(b=true->aD p):=by
 have key:zt (kx (p,())) fun r=>r.1=true->aD p:=by
  rw[Nw];unfold tL;delta lnC w6C upC aTC nxC exC lpC jzC;refine zb (zd (fun _=>za (zu (za fun h=>by cases h))) fun h1=>zd (fun _=>za (zu (za fun h=>by cases h))) fun h2=>za (zx ?_));have h1:=zN h1;have h2:=zN h2;refine zk (J:=fun x=>(x.1=0∧∀x∈p.1,1<=x∧x<=240)∨(x.1=1∧x.2.1.1=false)) (wH p.1.length (fun k=>∀x,p.1[k]?=some x->1<=x∧x<=240) (by omega) ?_ ?_) ?_
  ·intro k hk _;have hx:p.1[k]?=some p.1[k]:=FL hk;generalize p.1[k]=x at hx;refine zf (zI (show(k:Int) < (p.1.length:Int) by omega)) (zb (zb (zm hx (zd (fun h3=>za (zu (za (zw (.inr ⟨rfl,rfl⟩))))) fun h3=>zb (zm hx (zd (fun h4=>za (zu (za (zw (.inr ⟨rfl,rfl⟩))))) fun h4=>za (zx (za (vF (by omega) fun y hy=>?_)))))))));rw[hx]at hy;cases hy;exact⟨zN h3,zN h4⟩
  ·grind[zD,za,zw,zrA,zqr]
  rintro⟨c,⟨y1,y2,⟨⟩⟩,⟨⟩⟩ (⟨hc,hA⟩ | ⟨hc,hA⟩);rotate_left
  ·simp only at hc hA;subst hc hA;exact zu (za fun h=>by cases h)
  simp only at hc;subst hc;refine zx (zk (J:=fun x=>(x.1=0∧∀x∈p.2,0<=x.1∧x.1 < (p.1.length:Int)∧1<=x.2.2.2∧x.2.2.2<=240)∨(x.1=1∧x.2.1.1=false)) (wH p.2.length (fun k=>∀x,p.2[k]?=some x->0<=x.1∧x.1 < (p.1.length:Int)∧1<=x.2.2.2∧x.2.2.2<=240) (by omega) ?_ ?_) ?_)
  ·intro k hk _;have hx:p.2[k]?=some p.2[k]:=FL hk;generalize p.2[k]=x at hx;have no:Nxt (fun x:Nat×((Bool×(Int×Unit))×Unit)=>(x.1=0∧∀x∈p.2,0<=x.1∧x.1 < (p.1.length:Int)∧1<=x.2.2.2∧x.2.2.2<=240)∨(x.1=1∧x.2.1.1=false)) (fun s:((Bool×(Int×Unit))×Unit)=>s=((y1,(((k+1:Nat):Int),())),())∧∀x,p.2[k]?=some x->0<=x.1∧x.1 < (p.1.length:Int)∧1<=x.2.2.2∧x.2.2.2<=240) (.inl (1,((false,((k:Int),())),()))):=zw (.inr ⟨rfl,rfl⟩);refine zf (zI (show(k:Int) < (p.2.length:Int) by omega)) (zb (zm hx (zb (zd (fun _=>za (zu (za no))) fun h3=>zd (fun _=>za (zu (za no))) fun h4=>zd (fun _=>za (zu (za no))) fun h5=>zd (fun _=>za (zu (za no))) fun h6=>za (zx ?_)))));have h3:=zN h3;have h4:=zT (qC.1 h4);obtain⟨n,en,en2⟩:=Rq h3 h4;have hn:=hA n (zqx en2);refine zb (zd (fun _=>za (zu (za no))) fun h7=>zb (dx en (zd (fun _=>za (zu (za no))) fun h8=>zd (fun _=>za (zu (za no))) fun h9=>zb (dx en (zd (fun _=>za (zu (za no))) fun h10=>za (zx (za (vF (by omega) fun y hy=>?_))))))));rw[hx]at hy;cases hy;have h9:=zN h9;have h10:=zN h10;omega
  ·grind[zD,za,zw,zrA,zqr]
  rintro⟨c,⟨y3,y4,⟨⟩⟩,⟨⟩⟩ (⟨hc,hB⟩ | ⟨hc,hB⟩);rotate_left
  ·simp only at hc hB;subst hc hB;exact zu (za fun h=>by cases h)
  simp only at hc;subst hc;obtain⟨v,ev,_⟩:=zji (l:=p.1) (by omega) fun x hx=>by grind
  refine zx ?_;rw[ev,zq];exact za fun _=>⟨by omega,by omega,hA,hB⟩
 obtain⟨⟨v,⟨⟩⟩,e,h⟩:=key;exact⟨v,e,h⟩
abbrev Arm:=Int×Int×Int×Int
abbrev Chc:=Int×List Arm
theorem zk2{X:Type}{Q:(Nat×(Unit×(List Arm×Unit)))->Prop}{l:List Arm}{x y:Int}(hl:l.length<=1000)(hq:∀l':List Arm,l'.length<=l.length+1->Q (0,((),(l',())))) : zt (bif(zg (0) ((((l).length:Nat):Int)))then opt (atI (l) ((wrF .i64 (((((l).length:Nat):Int) - 1))))) fun x5=>opt (gl (l) ((Int.toNat (wrF .i64 (((((l).length:Nat):Int) - 1)))))) fun x6=>bif(zj (x6.2.2.1) (y))then opt (atI (l) ((wrF .i64 (((((l).length:Nat):Int) - 1))))) fun x7=>opt (gl (l) ((Int.toNat (wrF .i64 (((((l).length:Nat):Int) - 1)))))) fun x8=>some (0,((),(((l).set ((Int.toNat (wrF .i64 (((((l).length:Nat):Int) - 1))))) ((x8.1,((wrF .i64 ((x+1))),x8.2.2)))),())))else bif(qb ((l).length) ((((x,((wrF .i64 ((x+1))),(y,0)))::[])).length) (32))then some (0,((),((l++((x,((wrF .i64 ((x+1))),(y,0)))::[])),())))else none else bif(qb ((l).length) ((((x,((wrF .i64 ((x+1))),(y,0)))::[])).length) (32))then some (0,((),((l++((x,((wrF .i64 ((x+1))),(y,0)))::[])),())))else none) Q:=by
 have app:qb l.length (((x,((wrF .i64 ((x+1))),(y,0)))::[]:List Arm)).length 32=true:=qM (by show(l.length+1)*32<=_;omega) (by show l.length+1<=_;omega);have qa:Q (0,((),((l++((x,((wrF .i64 ((x+1))),(y,0)))::[])),()))):=hq _ (by simp);refine zd (fun h=>?_) fun _=>zf app (za qa);have h:0 < l.length:=by have:=zT h;omega
 have e:wrF .i64 ((l.length:Int) - 1)=((l.length - 1:Nat):Int):=by rw[zR (by omega) (by omega)];omega
 have hx:l[l.length - 1]?=some (l[l.length - 1]'(by omega)):=FL (by omega);rw[e];refine zb (zm hx (zb (jI (by rw[zqQ];omega) fun _ _=>zd (fun _=>zb (zm hx (zb (jI (by rw[zqQ];omega) fun _ _=>za (hq _ ?_))))) fun _=>zf app (za qa))));grind
def znJ(p:za7)(l:List Chc)(r:List Chc×(List Int×Int)):Prop:=l.length<=r.1.length∧r.1.length<=61∧(r.2.2=1->r.2.1.length=p.1.length)
theorem zhz{p:za7}(h:aD p):∀(n:Nat) (l:List Chc) (y:List Int×Int) (g:List Int),g.length < p.1.length->p.1.length<=g.length+n->l.length<=61->y.2=0->zt (xX n (p,()) l y (g,60,())) (znJ p l)
 |0,l,y,g,h1,h2,_,_=>by omega
 |n+1,l,y,g,h1,h2,h3,h4=>by
  have ih:=zhz h n;have hn:=h.n;rw[HL];unfold bw;delta lnC w6C upC aTC nxC exC lpC jzC;refine zd (fun _=>za ⟨FW _,h3,fun e=>absurd e (show(2:Int)≠1 by decide)⟩) fun h5=>?_;have h5:=zN h5;have hgx:p.1[g.length]?=some (p.1[g.length]'h1):=FL h1;have hper:=h.per _ (zqq h1);generalize (p.1[g.length]'h1)=per at hgx hper;have hP0:∃x,p.1[0]?=some x:=⟨_,FL (show 0 < p.1.length by omega)⟩;obtain⟨per0,hP0⟩:=hP0;refine zf (qM (by omega) (by omega)) ?_;refine za4 240 (fun k s=>∃(Pf:List Chc) (yy:List Int×Int) (zz:List Chc×(((List Int)×Int)×Unit)) (arms:List Arm),s=((p,((),((),((k:Int),())))),((Pf,(yy,())),(zz,(arms,()))))∧l.length+1<=Pf.length∧Pf.length<=61∧yy.2=0∧arms.length<=k) (by omega) ⟨_,y,_,[],rfl,by simp,by simp;omega,h4,by simp⟩ ?_;rintro k _ hk ⟨Pf,yy,zz,arms,rfl,hP1,hP2,hy,ha⟩;have hPx:Pf[l.length]?=some (Pf[l.length]'(by omega)):=FL (by omega);have fin:∀arms':List Arm,zt (opt (atI Pf (l.length:Int)) fun x22=>opt (gl Pf (Int.toNat (l.length:Int))) fun x23=>some ((Pf.set (Int.toNat (l.length:Int)) (x23.1,arms')),yy)) (znJ p l):=fun arms'=>by refine zb (zm hPx (zb (jI (by rw[zqQ];omega) fun _ _=>za ⟨?_,?_,fun e=>?_⟩)));all_goals grind
  by_cases c1:(k:Int) < per;rotate_left
  ·exact zb (zm hgx (zi (zD c1) (za (.inr ⟨rfl,zb (zm hgx (zi (zD c1) (fin arms)))⟩))))
  have hk':k < 240:=by omega
  have app:∀z:Arm,qb arms.length ([z]:List Arm).length 32=true:=fun z=>qM (by grind) (by grind);by_cases c2:g.length=0∧k=1
  ·obtain⟨c2,c3⟩:=c2;have q1:zj (g.length:Int) 0=true:=wM (by omega);have q2:zj (k:Int) 1=true:=wM (by omega);refine zb (zm hgx (zf (zI c1) (zb (zf q1 (zf q2 (zb (zm (n:=0) hP0 (zf (app (1,(per0,(-2,0)))) (za (zu (za (.inr ⟨rfl,?_⟩))))))))))));exact zb (zm hgx (zf (zI c1) (zb (zf q1 (zf q2 (zb (zm (n:=0) hP0 (zf (app (1,(per0,(-2,0)))) (za (zu (fin _)))))))))))
  have jn:∀
        {R:Type} {Q:R->Prop} {F:(Nat×(Unit×(List Arm×Unit)))->Option R},zt (F (0,((),(arms,())))) Q->zt (opt (bif(zj ((((g).length:Nat):Int)) (0))then bif(zj (k:Int) (1))then opt (atI (p.1) (0)) fun x2=>
        bif(qb (arms.length) ((((1,(x2,((-2),0)))::[]:List Arm)).length) (32))then some (1,((),((arms++((1,(x2,((-2),0)))::[])),())))
        else none
       else some (0,((),(arms,())))
      else some (0,((),(arms,())))) F) Q:=fun hF=>zb (zd (fun q1=>zd (fun q2=>absurd ⟨by have:=qg q1;omega,by have:=qg q2;omega⟩ c2) fun _=>za hF) fun _=>za hF)
  obtain⟨w,ew⟩:=zpt h (g:=g) (by omega) (k:Int);have ew2:∀{R:Type} {Q:R->Prop} {F:(Int×Unit)->Option R},zt (F (w,())) Q->zt (opt (xM (p,(g,((k:Int),())))) F) Q:=fun hF=>by rw[ew];exact hF
  by_cases c4:w = -1;rotate_left
  ·have q3:(!zj w (-1))=true:=by rw[jc c4];rfl
   refine zb (zm hgx (zf (zI c1) (jn (zx (ew2 (zf q3 (zb (zk2 (X:=Unit) (l:=arms) (x:=(k:Int)) (y:=w) (by omega) fun l' hl'=>za (.inl ⟨_,rfl,hk',Pf,yy,zz,l',?_,hP1,hP2,hy,by omega⟩)))))))));grind[wrF,zO]
  have q3:(!zj w (-1))=false:=by rw[wM c4];rfl
  have ap1:qb 0 g.length 8=true:=qM (by omega) (by omega);have ap2:qb g.length ([(k:Int)]:List Int).length 8=true:=qM (by grind) (by grind);have hlen:(((g++[(k:Int)]).length:Nat):Int)=((g.length+1:Nat):Int):=by simp
  by_cases c5:g.length+1=p.1.length
  ·have q4:zj (((g++[(k:Int)]).length:Nat):Int) ((p.1.length:Nat):Int)=true:=wM (by omega);refine zb (zm hgx (zf (zI c1) (jn (zx (ew2 (zi q3 (zf ap1 (zf ap2 (zf q4 (za (.inr ⟨rfl,?_⟩)))))))))));refine zb (zm hgx (zf (zI c1) (jn (zx (ew2 (zi q3 (zf ap1 (zf ap2 (zf q4 (za ⟨?_,?_,fun _=>?_⟩))))))))));all_goals grind
  have q4:zj (((g++[(k:Int)]).length:Nat):Int) ((p.1.length:Nat):Int)=false:=jc (by omega);obtain⟨r,er,r1,r2,r3⟩:=ih Pf yy (g++[(k:Int)]) (by simp;omega) (by simp;omega) hP2 hy;have er2:∀{R:Type} {Q:R->Prop} {F:(List Chc×(List Int×Int))->Option R},zt (F r) Q->zt (opt (xX n (p,()) Pf yy ((g++[(k:Int)]),((60:Int),()))) F) Q:=fun hF=>by rw[er];exact hF
  by_cases c6:r.2.2=0
  ·have q5:(!zj r.2.2 0)=false:=by rw[wM c6];rfl
   refine zb (zm hgx (zf (zI c1) (jn (zx (ew2 (zi q3 (zf ap1 (zf ap2 (zi q4 (zf (app ((k:Int),(wrF .i64 ((k:Int)+1),(-1,((Pf.length:Nat):Int))))) (er2 (zi q5 (za (.inl ⟨_,rfl,hk',r.1,r.2,zz,arms++[((k:Int),(wrF .i64 ((k:Int)+1),(-1,((Pf.length:Nat):Int))))],?_,by omega,r2,c6,?_⟩))))))))))))));all_goals grind[wrF,zO]
  ·have q5:(!zj r.2.2 0)=true:=by rw[jc c6];rfl
   refine zb (zm hgx (zf (zI c1) (jn (zx (ew2 (zi q3 (zf ap1 (zf ap2 (zi q4 (zf (app ((k:Int),(wrF .i64 ((k:Int)+1),(-1,((Pf.length:Nat):Int))))) (er2 (zf q5 (za (.inr ⟨rfl,?_⟩))))))))))))));exact zb (zm hgx (zf (zI c1) (jn (zx (ew2 (zi q3 (zf ap1 (zf ap2 (zi q4 (zf (app ((k:Int),(wrF .i64 ((k:Int)+1),(-1,((Pf.length:Nat):Int))))) (er2 (zf q5 (za ⟨by omega,r2,r3⟩)))))))))))))
theorem zoG{p:za7}:∃o pr e,xc (p,60,())=some (o,pr,e,())∧(e=0->aD p∧o.length=p.1.length):=by
 have key:zt (xc (p,60,())) fun r=>r.2.2.1=0->aD p∧r.1.length=p.1.length:=by
  obtain⟨b,eb,hb⟩:=zk1 (p:=p);rw[NC];unfold bz;delta lnC w6C upC aTC nxC exC lpC jzC;rw[eb,zq];cases b with
  |false=>exact zf rfl (za fun e=>absurd e (show(340:Int)≠0 by decide))
  |true=>
  have h:=hb rfl;have hn:=h.n;refine zi rfl (zb (zi (zD (by decide)) (zi (by rw[zI (by decide)];rfl) (za (zx (zd (fun h0=>za fun _=>⟨h,?_⟩) fun h0=>?_))))))
  ·have:=qg h0;show 0=p.1.length;omega
  have h0:=qn h0;have h1:0 < p.1.length:=by omega
  have hgx:p.1[0]?=some (p.1[0]'h1):=FL h1;have hper:=h.per _ (zqq h1);generalize (p.1[0]'h1)=per at hgx hper;refine zi (zD (by decide)) (zf (qM (by omega) (by omega)) ?_);refine za4 240 (fun k s=>∃(Pf:List Chc) (yy:List Int×Int) (zz:List Chc×(((List Int)×Int)×Unit)) (arms:List Arm),s=((p,((),((),((k:Int),())))),((Pf,(yy,())),(zz,(arms,()))))∧1<=Pf.length∧Pf.length<=61∧yy.2=0∧arms.length<=k) (by omega) ⟨_,([],0),_,[],rfl,by simp,by simp,rfl,by simp⟩ ?_;rintro k _ hk ⟨Pf,yy,zz,arms,rfl,hP1,hP2,hy,ha⟩;have hPx:Pf[0]?=some (Pf[0]'(by omega)):=FL (by omega);have fin:∀arms':List Arm,zt (opt (atI Pf 0) fun x24=>
        opt (gl Pf (Int.toNat 0)) fun x25=>
        bif(zj (yy.2) (1))then some (yy.1,(([]:List Chc),((0:Int),())))
        else bif(zj (yy.2) (2))then some ([],([],(8,())))
         else some ([],((Pf.set (Int.toNat 0) (x25.1,arms')),(4,())))) (fun r=>r.2.2.1=0->aD p∧r.1.length=p.1.length):=fun arms'=>
   zb (zm (n:=0) hPx (zb (jI (by show 0 < Pf.length;omega) fun _ _=>zi (jc (by omega)) (zi (jc (by omega)) (za fun e=>absurd e (show(4:Int)≠0 by decide))))))
  by_cases c1:(k:Int) < per;rotate_left
  ·exact zb (zm (n:=0) hgx (zi (zD c1) (za (.inr ⟨rfl,zb (zm (n:=0) hgx (zi (zD c1) (fin arms)))⟩))))
  have hk':k < 240:=by omega
  have app:∀z:Arm,qb arms.length ([z]:List Arm).length 32=true:=fun z=>qM (by show(arms.length+1)*32<=_;omega) (by show arms.length+1<=_;omega);by_cases c2:k=1
  ·have q2:zj (k:Int) 1=true:=wM (by omega);refine zb (zm (n:=0) hgx (zf (zI c1) (zb (zf q2 (zb (zm (n:=0) hgx (zf (app (1,(per,(-2,0)))) (za (zu (za (.inr ⟨rfl,?_⟩)))))))))));exact zb (zm (n:=0) hgx (zf (zI c1) (zb (zf q2 (zb (zm (n:=0) hgx (zf (app (1,(per,(-2,0)))) (za (zu (fin _))))))))))
  have jn:∀
        {R:Type} {Q:R->Prop} {F:(Nat×(Unit×(List Arm×Unit)))->Option R},zt (F (0,((),(arms,())))) Q->zt (opt (bif(zj (k:Int) (1))then opt (atI (p.1) (0)) fun x2=>
        bif(qb (arms.length) ((((1,(x2,((-2),0)))::[]:List Arm)).length) (32))then some (1,((),((arms++((1,(x2,((-2),0)))::[])),())))
        else none
       else some (0,((),(arms,())))) F) Q:=fun hF=>zb (zi (jc (by omega)) (za hF))
  obtain⟨w,ew⟩:=zpt h (g:=[]) (by simp) (k:Int);have ew2:∀{R:Type} {Q:R->Prop} {F:(Int×Unit)->Option R},zt (F (w,())) Q->zt (opt (xM (p,([],((k:Int),())))) F) Q:=fun hF=>by rw[ew];exact hF
  by_cases c4:w = -1;rotate_left
  ·have q3:(!zj w (-1))=true:=by rw[jc c4];rfl
   refine zb (zm (n:=0) hgx (zf (zI c1) (jn (zx (ew2 (zf q3 (zb (zk2 (X:=Unit) (l:=arms) (x:=(k:Int)) (y:=w) (by omega) fun l' hl'=>za (.inl ⟨_,rfl,hk',Pf,yy,zz,l',?_,hP1,hP2,hy,by omega⟩)))))))));show((p,((),((),(wrF .i64 ((k:Int)+1),())))),((Pf,(yy,())),((zz.1,(zz.2.1,())),(l',()))))=_;rw[zO (by omega)]
  have q3:(!zj w (-1))=false:=by rw[wM c4];rfl
  have ap1:qb 0 0 8=true:=qM (by omega) (by omega);have ap2:qb 0 ([(k:Int)]:List Int).length 8=true:=qM (by show(0+1)*8<=_;omega) (by show 0+1<=_;omega);by_cases c5:1=p.1.length
  ·have q4:zj ((([(k:Int)].length:Nat)):Int) ((p.1.length:Nat):Int)=true:=wM (by show((1:Nat):Int)=_;omega);refine zb (zm (n:=0) hgx (zf (zI c1) (jn (zx (ew2 (zi q3 (zf ap1 (zf ap2 (zf q4 (za (.inr ⟨rfl,?_⟩)))))))))));exact zb (zm (n:=0) hgx (zf (zI c1) (jn (zx (ew2 (zi q3 (zf ap1 (zf ap2 (zf q4 (za fun _=>⟨h,c5⟩))))))))))
  have q4:zj ((([(k:Int)].length:Nat)):Int) ((p.1.length:Nat):Int)=false:=jc (by show((1:Nat):Int)≠_;omega);obtain⟨r,er,r1,r2,r3⟩:=zhz h 30 Pf yy [(k:Int)] (by show 1 < _;omega) (by show _<=1+30;omega) hP2 hy;have er2:∀{R:Type} {Q:R->Prop} {F:(List Chc×(List Int×Int))->Option R},zt (F r) Q->zt (opt (Zp (p,()) Pf yy ([(k:Int)],((60:Int),()))) F) Q:=fun hF=>by have er3:Zp (p,()) Pf yy ([(k:Int)],((60:Int),()))=some r:=er;rw[er3];exact hF
  have q6:zg 0 ((Pf.length:Nat):Int)=true:=zI (by omega);have q7:zg 0 ((r.1.length:Nat):Int)=true:=zI (by omega);have ap3:=app ((k:Int),(wrF .i64 ((k:Int)+1),(-1,((Pf.length:Nat):Int))));by_cases c6:r.2.2=0
  ·have q5:(!zj r.2.2 0)=false:=by rw[wM c6];rfl
   refine zb (zm (n:=0) hgx (zf (zI c1) (jn (zx (ew2 (zi q3 (zf ap1 (zf ap2 (zi q4 (zf ap3 (zf q6 (er2 (zf q7 (zi q5 (za (.inl ⟨_,rfl,hk',r.1,r.2,zz,arms++[((k:Int),(wrF .i64 ((k:Int)+1),(-1,((Pf.length:Nat):Int))))],?_,by omega,r2,c6,?_⟩))))))))))))))))
   ·show((p,((),((),(wrF .i64 ((k:Int)+1),())))),((r.1,(r.2,())),((zz.1,(zz.2.1,())),(arms++[((k:Int),(wrF .i64 ((k:Int)+1),(-1,((Pf.length:Nat):Int))))],()))))=_;rw[zO (by omega)]
   ·simp;omega
  ·have q5:(!zj r.2.2 0)=true:=by rw[jc c6];rfl
   refine zb (zm (n:=0) hgx (zf (zI c1) (jn (zx (ew2 (zi q3 (zf ap1 (zf ap2 (zi q4 (zf ap3 (zf q6 (er2 (zf q7 (zf q5 (za (.inr ⟨rfl,?_⟩))))))))))))))));refine zb (zm (n:=0) hgx (zf (zI c1) (jn (zx (ew2 (zi q3 (zf ap1 (zf ap2 (zi q4 (zf ap3 (zf q6 (er2 (zf q7 (zf q5 ?_))))))))))))));refine zd (fun q=>za fun _=>⟨h,r3 (qg q)⟩) fun _=>zd (fun _=>za fun e=>absurd e (show(8:Int)≠0 by decide)) fun _=>za fun e=>absurd e (show(4:Int)≠0 by decide)
 obtain⟨⟨o,pr,e,⟨⟩⟩,e1,h⟩:=key;grind
end Go.Proofs.YtlfkgkedfciccaaGreat.dd
namespace Go.Proofs.YtlfkgkedfciccaaGreat.dd
open Go Go.Fz Go.Fz.Sy Go.Proofs.YtlfkgkedfciccaaGreat.nd Go.Proofs.YtlfkgkedfciccaaGreat.ad
variable {t:jC}
abbrev zf4:=Int×Int×Int×Int
abbrev zm2:=Int×Int×Int×Int×Int
theorem zf5(ht:wU t){p:Int}(hp:yp t p):(1<=(lnk t p).2.2.1∧(lnk t p).2.2.1<=1000)∧(0<=(lnk t p).2.2.2∧(lnk t p).2.2.2<=10000):=by obtain⟨_,_,_,_,h1,h2,h3,h4⟩:=(ht.ls _ _ (GQ hp)).1;omega
def zqj(i:Nat)(h:zm2):Prop:=0<=h.2.2.2.1∧h.2.2.2.1<=2000000*i∧0<=h.2.2.2.2∧h.2.2.2.2<=1542000
theorem zdL(ht:wU t){u:zf4}(hu:kM u){s:wV}(hs:84<=s.2.2.2.2.1∧s.2.2.2.2.1<=1542){r:List Int}(hr:yW t r) : ∃hops:List zm2,xH (t,u,s,r,())=some (hops,())∧hops.map (·.1)=r:=by
 have hll:=ht.ll;have n0:=hr.n0;have n1:=hr.n1;obtain⟨⟨g0,g1⟩,⟨k0,k1⟩,⟨p0,p1⟩,_⟩:=hu;have key:zt (xH (t,u,s,r,())) fun x=>x.1.map (·.1)=r:=by
  rw[zai];unfold La;delta lnC w6C upC aTC nxC exC lpC jzC;have hx0:r[0]?=some (r[0]'(by omega)):=FL (by omega);have hp0:=hr.pt _ (zqq (show 0 < r.length by omega));generalize hq0:(r[0]'(by omega))=q0 at hx0 hp0;refine zb (zm (n:=0) hx0 (zb (zm (n:=0) hx0 ?_)));rw[bQ hll hp0,zq];have hb0:=(zf5 ht hp0).1;have m0:=QB (show 0<=s.2.2.2.2.1 by omega) hs.2 (show 0<=(lnk t q0).2.2.1 by omega) hb0.2;have e0:wrF .i64 (s.2.2.2.2.1*(lnk t q0).2.2.1)=s.2.2.2.2.1*(lnk t q0).2.2.1:=zR (by omega) (by omega);refine zk (J:=fun x=>x.2.2.1.map (·.1)=r) (zX (r.length - 1) (fun k st=>∃L:List zm2,st=((((k+1:Nat):Int),()),(L,()))∧L.map (·.1)=r.take (k+1)∧∀(j:Nat) h,L[j]?=some h->zqj j h) (by omega) ⟨_,rfl,?_,?_⟩ ?_ ?_) ?_
  ·cases hr2:r with
   |nil=>rw[hr2]at n0;simp at n0
   |cons a r'=>
    rw[hr2]at hx0;simp at hx0;subst hx0;rfl
  ·intro j h hj;cases j with
   |succ j=>simp at hj
   |zero=>
    simp at hj;subst hj;refine⟨by show(0:Int)<=0;omega,by show(0:Int)<=2000000*((0:Nat):Int);omega,?_,?_⟩
    ·show 0<=wrF .i64 (s.2.2.2.2.1*(lnk t q0).2.2.1);rw[e0];omega
    ·show wrF .i64 (s.2.2.2.2.1*(lnk t q0).2.2.1)<=_;rw[e0];omega
  ·rintro k _ hk ⟨L,rfl,hL,hB⟩;have hLl:L.length=k+1:=by have:=zqT List.length hL;simpa[zsd (show k+1<=r.length by omega)]using this
   have hlast:L[k]?=some (L[k]'(by omega)):=FL (by omega);obtain⟨b1,b2,b3,b4⟩:=hB k _ hlast;have hpl:(L[k]'(by omega)).1=r[k]'(by omega):=by
    have h1:(L.map (·.1))[k]?=some (L[k]'(by omega)).1:=by simp[hlast]
    rw[hL,zrK,zqJ (by omega),FL (by omega)]at h1;exact(zsf h1).symm
   have hpk:=hr.pt _ (zqq (show k < r.length by omega));rw[<-hpl]at hpk;generalize (L[k]'(by omega))=x5 at hlast b1 b2 b3 b4 hpk;have hx:r[k+1]?=some (r[k+1]'(by omega)):=FL (by omega);have hp1:=hr.pt _ (zqq (show k+1 < r.length by omega));have htk:r.take (k+1+1)=r.take (k+1)++[r[k+1]'(by omega)]:=by rw[zrk,hx];rfl
   generalize (r[k+1]'(by omega))=q at hx hp1 htk;have e1:wrF .i64 (((k+1:Nat):Int) - 1)=(k:Int):=by rw[zR (by omega) (by omega)];omega
   obtain⟨_,d0,d1⟩:=zf5 ht hpk;have hb1:=(zf5 ht hp1).1;have m1:=QB (show 0<=s.2.2.2.2.1 by omega) hs.2 (show 0<=(lnk t q).2.2.1 by omega) hb1.2;refine zf (zI (show((k+1:Nat):Int) < (r.length:Int) by omega)) ?_;show zt (opt (atI L (wrF .i64 (((k+1:Nat):Int) - 1))) fun _=>opt (gl L (Int.toNat (wrF .i64 (((k+1:Nat):Int) - 1)))) _) _;rw[e1];refine zb (zm hlast (zb (jI (by rw[zqQ];omega) fun y hy=>?_)));rw[zqQ,hlast]at hy;cases hy;show zt (opt (ku (t,x5.1,())) _) _;rw[UH hll hpk,zq];refine zb (zm hx (zb (zm hx ?_)));rw[bQ hll hp1,zq];have w1:wrF .i64 (x5.2.2.2.1+x5.2.2.2.2)=x5.2.2.2.1+x5.2.2.2.2:=zR (by omega) (by omega);have w2:wrF .i64 (x5.2.2.2.1+x5.2.2.2.2+(lnk t x5.1).2.2.2)=x5.2.2.2.1+x5.2.2.2.2+(lnk t x5.1).2.2.2:=zR (by omega) (by omega);have w3:wrF .i64 (x5.2.2.2.1+x5.2.2.2.2+(lnk t x5.1).2.2.2+u.2.2.1)=x5.2.2.2.1+x5.2.2.2.2+(lnk t x5.1).2.2.2+u.2.2.1:=zR (by omega) (by omega);have w4:wrF .i64 (2*u.2.1)=2*u.2.1:=zR (by omega) (by omega);have w5:wrF .i64 (x5.2.2.2.1+x5.2.2.2.2+(lnk t x5.1).2.2.2+u.2.2.1+2*u.2.1)=x5.2.2.2.1+x5.2.2.2.2+(lnk t x5.1).2.2.2+u.2.2.1+2*u.2.1:=zR (by omega) (by omega);have w6:wrF .i64 (s.2.2.2.2.1*(lnk t q).2.2.1)=s.2.2.2.2.1*(lnk t q).2.2.1:=zR (by omega) (by omega);simp only[w1,w2,w3,w4,w5,w6];generalize hlate:x5.2.2.2.1+x5.2.2.2.2+(lnk t x5.1).2.2.2+u.2.2.1+2*u.2.1=late;generalize s.2.2.2.2.1*(lnk t q).2.2.1=long at m1;generalize wrF .i64 (x5.2.2.2.1+x5.2.2.2.2+(lnk t x5.1).2.2.2+u.2.2.1 - 2*u.2.1)=early;have hl0:0<=late∧late<=2000000*k+1564000:=by omega
   refine zk (J:=fun x=>∃o:Int,x.2.1.1=(q,(early,(late,(o,long))))∧0<=o∧o<=late+10000) (aQ (fun st=>∃o:Int,st=(((q,(early,(late,(o,long)))),()),())∧0<=o∧o<=late+10000) _ (fun st=>(late+10001 - st.1.1.2.2.2.1).toNat) ⟨0,rfl,by omega,by omega⟩ (by show(late+10001 - 0).toNat < _;omega) ?_) ?_
   ·rintro _ ⟨o,rfl,o0,o1⟩;refine zd (fun h=>za ?_) fun h=>za (Yi ⟨o,rfl,o0,o1⟩);have h:o < late:=zT h;show Round _ _ _ _ (.inr (((q,(early,(late,(wrF .i64 (o+u.1),long)))),()),()));rw[zR (z:=o+u.1) (by omega) (by omega)];exact GI ⟨o+u.1,rfl,by omega,by omega⟩ (by show(late+10001 - (o+u.1)).toNat < (late+10001 - o).toNat;omega)
   ·rintro⟨c,⟨y1,⟨⟩⟩,⟨⟩⟩ ⟨o,ho,o0,o1⟩;simp only at ho;subst ho;refine zf (qM (by show(L.length+1)*40<=_;omega) (by show L.length+1<=_;omega)) (za (qj ⟨L++[(q,(early,(late,(o,long))))],?_,?_,?_⟩))
    ·rw[zO (by omega)]
    ·rw[zrJ,hL,htk];rfl
    ·intro j h hj;by_cases hjl:j < L.length
     ·rw[zqU hjl]at hj;exact hB j h hj
     ·rw[zrg (by omega)]at hj;have hj0:j - L.length=0:=by
       cases hz:j - L.length with
       |zero=>rfl
       |succ z=>rw[hz]at hj;simp at hj
      rw[hj0]at hj;simp at hj;subst hj;have:j=k+1:=by omega
      subst this;exact⟨o0,by show o<=2000000*((k+1:Nat):Int);omega,by show 0<=long;omega,by show long<=1542000;omega⟩
  ·rintro _ ⟨L,rfl,hL,_⟩;refine zi (zD (show ¬((r.length - 1+1:Nat):Int) < (r.length:Int) by omega)) (za (zw ?_));show L.map (·.1)=r;rw[hL,zqV (by omega)]
  ·rintro⟨c,⟨y1,⟨⟩⟩,y2,⟨⟩⟩ hy;exact za hy
 obtain⟨⟨hops,⟨⟩⟩,e,h⟩:=key;grind
theorem zpZ(ht:wU t){u:zf4}(hu:kM u){s:wV}(hs:84<=s.2.2.2.2.1∧s.2.2.2.2.1<=1542){r:List Int}(hr:yW t r):∃v,XE (t,u,s,r,())=some (v,()):=by
 obtain⟨hops,e,hm⟩:=zdL ht hu hs hr;have hlen:hops.length=r.length:=by grind
 have n0:=hr.n0;have n1:=hr.n1;rw[zan];unfold Ll;delta lnC w6C upC aTC nxC exC lpC jzC;rw[e,zq];have e1:wrF .i64 ((hops.length:Int) - 1)=((hops.length - 1:Nat):Int):=by grind[zR]
 have hx:hops[hops.length - 1]?=some (hops[hops.length - 1]'(by omega)):=FL (by omega);have hp:yp t (hops[hops.length - 1]'(by omega)).1:=by refine hr.pt _ ?_;grind
 show ∃v,opt (atI hops (wrF .i64 ((hops.length:Int) - 1))) _=some (v,());rw[e1,gw hx,zq,UH ht.ll hp];exact⟨_,rfl⟩
end Go.Proofs.YtlfkgkedfciccaaGreat.dd
namespace Go.Proofs.YtlfkgkedfciccaaGreat.dd
open Go Go.Fz Go.Fz.Sy Go.Proofs.YtlfkgkedfciccaaGreat.nd Go.Proofs.YtlfkgkedfciccaaGreat.ad
def wP(l:List wV):Nat:=(l.filter fun s=>decide (s.2.2.2.1=7)).length
theorem mE{l:List wV}{i:Nat}{s:wV}(h:l[i]?=some s):wP (l.take (i+1))=wP (l.take i)+(if s.2.2.2.1=7 then 1 else 0):=by unfold wP;rw[zrk,h,zsN,zrv];grind
abbrev Use:=Int×Int×Int×Int
theorem zqk{t:jC}(ht:wU t){u:zf4}(hu:kM u)(l:List wV):∃p e,vB (t,u,l,())=some (p,e,())∧(e=0->Yu t l∧l.length<=12∧p.1.length=wP l∧∀x∈p.1,1<=x∧x<=240):=by
 have key:zt (vB (t,u,l,())) fun r=>r.2.1=0->Yu t l∧l.length<=12∧r.1.1.length=wP l∧∀x∈r.1.1,1<=x∧x<=240:=by
  have hg:u.1≠0:=by have:=hu.1.1;omega
  rw[zcD];unfold RP;delta lnC w6C upC aTC nxC exC lpC jzC;rw[WE,qU ht,zq];refine zi rfl ?_;rw[mw,qU hu,zq];refine zi rfl ?_;rw[bk ht,zq];refine zd (fun h=>za fun e=>absurd e (qn (qK.1 h))) fun h=>?_;obtain⟨h12,hall,_⟩:=zf0 (qg (qC.1 h));refine zk (J:=fun x=>∃(late:Bool) (i:Int) (Per:List Int) (Us:List Use),x.2=((t,(u,((),(late,(i,()))))),((Per,(Us,())),()))∧Per.length=wP l∧(∀x∈Per,1<=x∧x<=240)∧(∀x∈Us,0<=x.1∧x.1 < (Per.length:Int))∧Us.length<=1000)
   (zX l.length (fun i s=>∃(late:Bool) (Per:List Int) (Us:List Use),s=((t,(u,((),(late,((i:Int),()))))),((Per,(Us,())),()))∧Per.length=wP (l.take i)∧(∀x∈Per,1<=x∧x<=240)∧(∀x∈Us,0<=x.1∧x.1 < (Per.length:Int))∧Us.length<=16*i) (by omega) ⟨_,[],[],rfl,rfl,by simp,by simp,by simp⟩ ?_ ?_) ?_
  ·rintro i _ hi ⟨late,Per,Us,rfl,hP,hPb,hU,hUl⟩;have hx:l[i]?=some l[i]:=FL hi;have hss:=hall _ (zqq hi);generalize l[i]=s at hx hss;have hc:=mE hx;refine zf (zI (show(i:Int) < (l.length:Int) by omega)) (zb (zm hx (zd (fun h7=>za (qj ⟨late,Per,Us,?_,?_,hPb,hU,by omega⟩)) fun h7=>?_)))
   ·rw[zO (by omega)]
   ·have:=qn (qK.1 h7);rw[hc,zqt this,hP];rfl
   have h7:=qg (qC.1 h7);have hper:1<=s.2.2.2.2.2.1∧s.2.2.2.2.2.1<=240:=by
    rcases hss.cl with h | h
    ·exact h.2.1
    ·omega
   have hPl:Per.length<=l.length:=by rw[hP];unfold wP;refine zqw (zrh _ _) ?_;rw[zsi];omega
   have hrn:=hss.rn;refine zk (J:=fun x=>∃(late:Bool) (j:Int) (Us:List Use),x.2=((t,(u,((),(late,(j,()))))),((Per,(Us,())),()))∧(∀x∈Us,0<=x.1∧x.1 < (Per.length:Int)+1)∧Us.length<=16*(i+1))
    (zX s.2.2.2.2.2.2.2.2.length (fun k st=>∃(late:Bool) (Us:List Use),st=((t,(u,((),(late,((k:Int),()))))),((Per,(Us,())),()))∧(∀x∈Us,0<=x.1∧x.1 < (Per.length:Int)+1)∧Us.length<=16*i+8*k) (by omega) ⟨late,Us,rfl,fun x hx=>by have:=hU x hx;omega,by omega⟩ ?_ ?_) ?_
   ·rintro k _ hk ⟨late,Us,rfl,hU,hUl⟩;have hy:s.2.2.2.2.2.2.2.2[k]?=some s.2.2.2.2.2.2.2.2[k]:=FL hk;have hr:=(hss.rt _ (zqq hk)).1;generalize s.2.2.2.2.2.2.2.2[k]=r at hy hr;obtain⟨hops,eh,hm⟩:=zdL ht hu hss.sz hr;have hlen:hops.length=r.length:=by rw[<-hm,zsq]
    have hr8:=hr.n1;refine zb (zm hx (zf (zI (show(k:Int) < (s.2.2.2.2.2.2.2.2.length:Int) by omega)) (zb (zm hx (zb (zm hx (zb (zm hy ?_))))))));show zt (opt (xH (t,u,s,r,())) _) _;rw[eh,zq];refine zk (J:=fun x=>∃(j:Int) (Us:List Use),x.2=(((),(j,())),((Per,(Us,())),()))∧(∀x∈Us,0<=x.1∧x.1 < (Per.length:Int)+1)∧Us.length<=16*i+8*(k+1))
     (zX hops.length (fun h st=>∃(Us:List Use),st=(((),((h:Int),())),((Per,(Us,())),()))∧(∀x∈Us,0<=x.1∧x.1 < (Per.length:Int)+1)∧Us.length<=16*i+8*k+h) (by omega) ⟨Us,rfl,hU,by omega⟩ ?_ ?_) ?_
    ·rintro h _ hh ⟨Us,rfl,hU,hUl⟩;have hz:hops[h]?=some hops[h]:=FL hh;generalize hops[h]=z at hz;obtain⟨f,lo,eu⟩:=zpW (u:=u) ((Per.length:Nat):Int) (per:=s.2.2.2.2.2.1) z hg (by omega);refine zf (zI (show(h:Int) < (hops.length:Int) by omega)) (zb (zm hx (zb (zm hz ?_))));show zt (opt (XD (u,((Per.length:Nat):Int),s.2.2.2.2.2.1,z,())) _) _;rw[eu,zq];refine zf (qM (by show(Us.length+1)*32<=_;omega) (by show Us.length+1<=_;omega)) (za (qj ⟨Us++[(((Per.length:Nat):Int),z.1,f,lo)],?_,?_,by simp;omega⟩))
     ·rw[zO (by omega)]
     ·intro x hx2;rcases zqF.1 hx2 with h2 | h2
      ·exact hU x h2
      ·rw[zqY.1 h2];exact⟨by show(0:Int)<=((Per.length:Nat):Int);omega,by show((Per.length:Nat):Int) < _;omega⟩
    ·rintro _ ⟨Us,rfl,hU,hUl⟩;exact zi (zD (show ¬(hops.length:Int) < (hops.length:Int) by omega)) (za (zw ⟨_,Us,rfl,hU,by omega⟩))
    rintro⟨c,st⟩ ⟨j,Us,hst,hU,hUl⟩;have hst:st=_:=hst;subst hst;obtain⟨v,ev⟩:=zpZ ht hu hss.sz hr;refine zd (fun _=>za (qj ⟨true,Us,?_,hU,by omega⟩)) fun _=>zb (zm hx (zb (zm hx (zb (zm hy ?_)))))
    ·rw[zO (by omega)]
    show zt (opt (XE (t,u,s,r,())) _) _;rw[ev,zq];refine zb (zm hx (za (qj ⟨_,Us,zqT (fun z=>((t,(u,((),(_,(z,()))))),((Per,(Us,())),()))) (zO (by omega)),hU,by omega⟩)))
   ·rintro _ ⟨late,Us,rfl,hU,hUl⟩;exact zb (zm hx (zi (zD (show ¬(s.2.2.2.2.2.2.2.2.length:Int) < (s.2.2.2.2.2.2.2.2.length:Int) by omega)) (za (zw ⟨late,_,Us,rfl,hU,by omega⟩))))
   rintro⟨c,st⟩ ⟨late,j,Us,hst,hU,hUl⟩;have hst:st=_:=hst;subst hst;refine zb (zm hx (zf (qM (by show(Per.length+1)*8<=_;omega) (by show Per.length+1<=_;omega)) (za (qj ⟨late,Per++[s.2.2.2.2.2.1],Us,?_,?_,?_,?_,hUl⟩))))
   ·rw[zO (by omega)]
   ·rw[hc,zqJ h7,zrv,hP];rfl
   ·intro x hx2;rcases zqF.1 hx2 with h2 | h2
    ·exact hPb x h2
    ·rw[zqY.1 h2];exact hper
   ·intro x hx2;have:=hU x hx2;rw[zrv];exact⟨this.1,by show x.1 < ((Per.length+1:Nat):Int);omega⟩
  ·rintro _ ⟨late,Per,Us,rfl,hP,hPb,hU,hUl⟩;refine zi (zD (show ¬(l.length:Int) < (l.length:Int) by omega)) (za (zw ⟨late,_,Per,Us,rfl,?_,hPb,hU,by omega⟩));rw[hP,zrV]
  rintro⟨c,st⟩ ⟨late,j,Per,Us,hst,hP,hPb,hU,hUl⟩;have hst:st=_:=hst;subst hst;have hPl:Per.length<=12:=by rw[hP];unfold wP;exact zqw (zrh _ _) h12
  have hat:∀x∈Us,∃y,atI Per x.1=some y∧Per[x.1.toNat]?=some y∧y≠0:=fun x hx=>by obtain⟨q0,q1⟩:=hU x hx;obtain⟨y,e1,e2⟩:=Rq q0 q1;exact⟨y,e1,e2,by have:=hPb y (zqx e2);omega⟩
  obtain⟨v,ev,v0,v1⟩:=zji (l:=Per) (by omega) fun x hx=>by have:=hPb x hx;omega
  show zt (opt (xb (Per,())) _) _;rw[ev,zq];refine zd (fun _=>za fun e=>absurd e (show(6:Int)≠0 by decide)) fun _=>?_;have hls:=ht.sz.ls;refine zk (J:=fun x=>x.1=0∨(x.1=1∧x.2.1.2.1=7)) (zX (2*t.2.2.length) (fun k st=>st=((([],[]),(0,((k:Int),()))),())) (by omega) rfl ?_ ?_) ?_
  ·rintro k _ hk rfl;refine zf (zI (show(k:Int) < wrF .i64 (2*((t.2.2.length:Nat):Int)) by rw[zR (by omega) (by omega)];omega)) (zk (J:=fun _=>True) (zX Us.length (fun m st=>∃n:Int,st=((n,((m:Int),())),())) (by omega) ⟨0,rfl⟩ ?_ ?_) ?_)
   ·rintro m _ hm ⟨n,rfl⟩;have hx:Us[m]?=some Us[m]:=FL hm;have hxm:=hat _ (zqq hm);generalize Us[m]=x at hx hxm;obtain⟨y,y1,y2,y3⟩:=hxm;have hgm:∀{R:Type} {Q:R->Prop} {F:Use->Option R},zt (F x) Q->zt (opt (gl Us (Int.toNat (m:Int))) F) Q:=fun hF=>zb (jI (by rw[zqQ];omega) fun z hz=>by
     rw[zqQ,hx]at hz;cases hz;exact hF)
    refine zf (zI (show(m:Int) < (Us.length:Int) by omega)) (zb (zb (zm hx (hgm (zd (fun _=>?_) fun _=>?_)))))
    ·exact zb (zm hx (hgm (zb (dx y1 (zb (dx (show gl Per (Int.toNat x.1)=some y by rw[xf];exact y2) (zi (jc y3) (za (za (qj ⟨_,zqT (fun z=>((_,(z,())),())) (zO (by omega))⟩))))))))))
    ·exact za (za (qj ⟨_,zqT (fun z=>((_,(z,())),())) (zO (by omega))⟩))
   ·rintro _ ⟨n,rfl⟩;exact zi (zD (show ¬(Us.length:Int) < (Us.length:Int) by omega)) (za (zw trivial))
   ·rintro⟨c2,⟨n,m,⟨⟩⟩,⟨⟩⟩ _;refine zd (fun _=>za (zw (.inr ⟨rfl,rfl⟩))) fun _=>za (qj ?_);rw[zO (by omega)]
  ·rintro _ rfl;exact zi (zD (show ¬((2*t.2.2.length:Nat):Int) < wrF .i64 (2*((t.2.2.length:Nat):Int)) by rw[zR (by omega) (by omega)];omega)) (za (zw (.inl rfl)))
  rintro⟨c2,⟨⟨z1,z2⟩,z3,z4,⟨⟩⟩,⟨⟩⟩ (hc | ⟨hc,h7⟩);rotate_left
  ·simp only at hc h7;subst hc h7;exact zu (za fun e=>absurd e (show(7:Int)≠0 by decide))
  simp only at hc;subst hc;refine zx (zk (J:=fun _=>True) (zX Us.length (fun m st=>∃n:Bool,st=((n,((m:Int),())),())) (by omega) ⟨false,rfl⟩ ?_ ?_) ?_)
  ·rintro m _ hm ⟨n,rfl⟩;have hx:Us[m]?=some Us[m]:=FL hm;have hxm:=hat _ (zqq hm);generalize Us[m]=x at hx hxm;obtain⟨y,y1,y2,y3⟩:=hxm;have hgm:∀{R:Type} {Q:R->Prop} {F:Use->Option R},zt (F x) Q->zt (opt (gl Us (Int.toNat (m:Int))) F) Q:=fun hF=>zb (jI (by rw[zqQ];omega) fun z hz=>by
    rw[zqQ,hx]at hz;cases hz;exact hF)
   refine zf (zI (show(m:Int) < (Us.length:Int) by omega)) (zd (fun _=>za (qj ⟨_,zqT (fun z=>((_,(z,())),())) (zO (by omega))⟩)) fun _=>zb (zm hx (hgm (zb (zm hx (hgm (zb (dx y1 (zb (dx (show gl Per (Int.toNat x.1)=some y by rw[xf];exact y2) (za (qj ⟨_,zqT (fun z=>((_,(z,())),())) (zO (by omega))⟩))))))))))))
  ·rintro _ ⟨n,rfl⟩;exact zi (zD (show ¬(Us.length:Int) < (Us.length:Int) by omega)) (za (zw trivial))
  rintro⟨c2,⟨n,m,⟨⟩⟩,⟨⟩⟩ _;exact zd (fun _=>za fun e=>absurd e (show(341:Int)≠0 by decide)) fun _=>zd (fun _=>za fun e=>absurd e (show(342:Int)≠0 by decide)) fun _=>za fun _=>⟨hall,h12,hP,hPb⟩
 obtain⟨⟨p,e,⟨⟩⟩,e1,h⟩:=key;grind
abbrev Win:=Int×Int×Int×Int×Int×Int
theorem za8(l:List wV)(i:Nat):wP (l.take i)<=wP l:=by grind[wP,List.take_sublist]
theorem zk3{t:jC}(ht:wU t){u:zf4}(hu:kM u){l:List wV}(hall:Yu t l)(h12:l.length<=12){o:List Int}(ho:o.length=wP l) : ∃w:List Win,ZM (t,u,l,o,())=some (w,())∧(∀x∈w,x.2.2.2.1≠0)∧w.length<=1000:=by
 have hg:=hu.1;have key:zt (ZM (t,u,l,o,())) fun r=>(∀x∈r.1,x.2.2.2.1≠0)∧r.1.length<=1000:=by
  rw[Ej];unfold lQ;delta lnC w6C upC aTC nxC exC lpC jzC;refine zk (J:=fun x=>(∀y∈x.2.2.1,y.2.2.2.1≠0)∧x.2.2.1.length<=1000)
   (zX l.length (fun i s=>∃(w:List Win),s=((t,(u,(((wP (l.take i):Nat):Int),((i:Int),())))),(w,()))∧(∀y∈w,y.2.2.2.1≠0)∧w.length<=16*i) (by omega) ⟨[],rfl,by simp,by simp⟩ ?_ ?_) ?_
  ·rintro i _ hi ⟨w,rfl,hw,hwl⟩;have hx:l[i]?=some l[i]:=FL hi;have hss:=hall _ (zqq hi);generalize l[i]=s at hx hss;have hc:=mE hx;have hcl:=za8 l (i+1);refine zf (zI (show(i:Int) < (l.length:Int) by omega)) (zb (zm hx (zd (fun h7=>za (qj ⟨w,?_,hw,by omega⟩)) fun h7=>?_)))
   ·have:=qn (qK.1 h7);rw[zO (by omega),hc,zqt this];rfl
   have h7:s.2.2.2.1=7:=qg (qC.1 h7);rw[zqJ h7]at hc;have hper:1<=s.2.2.2.2.2.1∧s.2.2.2.2.2.1<=240:=by
    rcases hss.cl with h | h
    ·exact h.2.1
    ·omega
   have hrn:=hss.rn;have hcnt:wP (l.take i) < o.length:=by omega
   have hon:o[wP (l.take i)]?=some (o[wP (l.take i)]'hcnt):=FL hcnt;generalize (o[wP (l.take i)]'hcnt)=off at hon;refine zk (J:=fun x=>∃(j:Int) (w:List Win),x.2=((t,(u,(j,()))),(w,()))∧(∀y∈w,y.2.2.2.1≠0)∧w.length<=16*(i+1))
    (zX s.2.2.2.2.2.2.2.2.length (fun k st=>∃(w:List Win),st=((t,(u,((k:Int),()))),(w,()))∧(∀y∈w,y.2.2.2.1≠0)∧w.length<=16*i+8*k) (by omega) ⟨w,rfl,hw,by omega⟩ ?_ ?_) ?_
   ·rintro k _ hk ⟨w,rfl,hw,hwl⟩;have hy:s.2.2.2.2.2.2.2.2[k]?=some s.2.2.2.2.2.2.2.2[k]:=FL hk;have hr:=(hss.rt _ (zqq hk)).1;generalize s.2.2.2.2.2.2.2.2[k]=r at hy hr;obtain⟨hops,eh,hm⟩:=zdL ht hu hss.sz hr;have hlen:hops.length=r.length:=by rw[<-hm,zsq]
    have hr8:=hr.n1;refine zb (zm hx (zf (zI (show(k:Int) < (s.2.2.2.2.2.2.2.2.length:Int) by omega)) (zb (zm hx (zb (zm hx (zb (zm hy ?_))))))));show zt (opt (xH (t,u,s,r,())) _) _;rw[eh,zq];refine zk (J:=fun x=>∃(j:Int) (w:List Win),x.2=((j,()),(w,()))∧(∀y∈w,y.2.2.2.1≠0)∧w.length<=16*i+8*(k+1))
     (zX hops.length (fun h st=>∃(w:List Win),st=(((h:Int),()),(w,()))∧(∀y∈w,y.2.2.2.1≠0)∧w.length<=16*i+8*k+h) (by omega) ⟨w,rfl,hw,by omega⟩ ?_ ?_) ?_
    ·rintro h _ hh ⟨w,rfl,hw,hwl⟩;have hz:hops[h]?=some hops[h]:=FL hh;generalize hops[h]=z at hz;refine zf (zI (show(h:Int) < (hops.length:Int) by omega)) (zb (zm hz (zi (jc (show u.1≠0 by omega)) (zb (zm hx (zb (zm hz (zb (zm hz (zb (zm hon (zb (zm hx (zb (zm hz (zf (qM (by show(w.length+1)*48<=_;omega) (by show w.length+1<=_;omega)) (za (qj ⟨w++[_],zqT (fun z=>((z,()),(w++[_],()))) (zO (by omega)),?_,by simp;omega⟩))))))))))))))))));intro y hy2;rcases zqF.1 hy2 with h2 | h2
     ·exact hw y h2
     ·rw[zqY.1 h2];show wrF .i64 (s.2.2.2.2.2.1*u.1)≠0;have m:=QB (show 0<=s.2.2.2.2.2.1 by omega) hper.2 (show 0<=u.1 by omega) hg.2;have m1:1*1<=s.2.2.2.2.2.1*u.1:=Int.mul_le_mul hper.1 hg.1 (by omega) (by omega);rw[zR (by omega) (by omega)];omega
    ·rintro _ ⟨w,rfl,hw,hwl⟩;exact zi (zD (show ¬(hops.length:Int) < (hops.length:Int) by omega)) (za (zw ⟨_,w,rfl,hw,by omega⟩))
    rintro⟨c,st⟩ ⟨j,w,hst,hw,hwl⟩;have hst:st=_:=hst;subst hst;refine za (qj ⟨w,?_,hw,by omega⟩);rw[zO (by omega)]
   ·rintro _ ⟨w,rfl,hw,hwl⟩;exact zb (zm hx (zi (zD (show ¬(s.2.2.2.2.2.2.2.2.length:Int) < (s.2.2.2.2.2.2.2.2.length:Int) by omega)) (za (zw ⟨_,w,rfl,hw,by omega⟩))))
   rintro⟨c,st⟩ ⟨j,w,hst,hw,hwl⟩;have hst:st=_:=hst;subst hst;refine za (qj ⟨w,?_,hw,by omega⟩);have hcn:wP l<=l.length:=by unfold wP;exact zrh _ _
   show((t,(u,(wrF .i64 (((wP (l.take i):Nat):Int)+1),(wrF .i64 ((i:Int)+1),())))),(w,()))=_;rw[zO (by omega),zO (by omega),hc]
  all_goals grind[zD,za,zw]
 obtain⟨⟨w,⟨⟩⟩,e,h⟩:=key;exact⟨w,e,h⟩
theorem zql{w:List Win}(hw:∀x∈w,x.2.2.2.1≠0)(hl:w.length<=1000)(port at':Int):∃v,YO (w,port,at',())=some (v,()):=by
 have key:zt (YO (w,port,at',())) fun _=>True:=by
  rw[zcM];unfold RZ;delta lnC w6C upC aTC nxC exC lpC jzC;refine zk (J:=fun x=>x.1=0∨x.1=1) (zX w.length (fun m s=>∃v:Bool,s=((v,((m:Int),())),())) (by omega) ⟨_,rfl⟩ ?_ ?_) ?_
  ·rintro m _ hm ⟨v,rfl⟩;have hx:w[m]?=some w[m]:=FL hm;have hne:=hw _ (zqq hm);generalize w[m]=x at hx hne;have on:zt (some (.inr ((v,(wrF .i64 ((m:Int)+1),())),())):Option ((Nat×((Bool×(Int×Unit))×Unit)) ⊕ ((Bool×(Int×Unit))×Unit))) (Nxt (fun x=>x.1=0∨x.1=1) fun s=>∃v:Bool,s=((v,(((m+1:Nat):Int),())),())):=za (qj ⟨v,by rw[zO (by omega)]⟩);obtain⟨z,ez⟩:=zdK (wrF .i64 (at' - x.2.2.1)) hne;refine zf (zI (show(m:Int) < (w.length:Int) by omega)) (zb (zb (zm hx (zd (fun _=>zb (zm hx (zb (zm hx ?_)))) fun _=>za (zx on)))));show zt (opt (vo (wrF .i64 (at' - x.2.2.1),x.2.2.2.1,())) _) _;rw[ez,zq];exact zb (zm hx (zd (fun _=>za (zu (za (zw (.inr rfl))))) fun _=>za (zx on)))
  all_goals grind[zD,za,zw]
 obtain⟨⟨v,⟨⟩⟩,e,_⟩:=key;exact⟨v,e⟩
theorem zpu{w:List Win}(hw:∀x∈w,x.2.2.2.1≠0)(hl:w.length<=1000)(port:Int){cycle:Int}(c0:0<=cycle)(c1:cycle<=960)(grid:Int):∃g,Qu (w,port,cycle,grid,())=some (g,()):=by
 have key:zt (Qu (w,port,cycle,grid,())) fun _=>True:=by
  rw[Sc];unfold Em;delta lnC w6C upC aTC nxC exC lpC jzC;refine zk (J:=fun _=>True) (zX cycle.toNat (fun i s=>∃(L:List (Int×Int)) (z:Int),s=(((),((i:Int),())),((L,(z,())),()))∧L.length<=i) (by omega) ⟨[],_,rfl,by simp⟩ ?_ ?_) ?_
  ·rintro i _ hi ⟨L,z,rfl,hL⟩;obtain⟨v,ev⟩:=zql hw hl port (wrF .i64 ((i:Int)*grid));refine zf (zI (show(i:Int) < cycle by omega)) (zb ?_);show zt (opt (YO (w,port,wrF .i64 ((i:Int)*grid),())) _) _;rw[ev,zq];have app:∀y:Int×Int,qb L.length ([y]:List (Int×Int)).length 16=true:=fun y=>qM (by show(L.length+1)*16<=_;omega) (by show L.length+1<=_;omega);have rest:∀mask:Int,zt (opt (bif(zg (0) ((((L).length:Nat):Int)))then opt (atI (L) ((wrF .i64 (((((L).length:Nat):Int) - 1))))) fun x3=>
     opt (gl (L) ((Int.toNat (wrF .i64 (((((L).length:Nat):Int) - 1)))))) fun x4=>
     bif(zj (x4.1) (mask))then opt (atI (L) ((wrF .i64 (((((L).length:Nat):Int) - 1))))) fun x5=>
      opt (gl (L) ((Int.toNat (wrF .i64 (((((L).length:Nat):Int) - 1)))))) fun x6=>
      opt (atI (L) ((wrF .i64 (((((L).length:Nat):Int) - 1))))) fun x7=>
      opt (gl (L) ((Int.toNat (wrF .i64 (((((L).length:Nat):Int) - 1)))))) fun x8=>
      some ((0:Nat),(((),()),((((L).set ((Int.toNat (wrF .i64 (((((L).length:Nat):Int) - 1))))) ((x8.1,(wrF .i64 ((x6.2+grid)))))),(z,())),())))
     else bif(qb ((L).length) ((((mask,grid)::[]:List (Int×Int))).length) (16))then some (0,(((),()),(((L++((mask,grid)::[])),(z,())),())))
      else none
    else bif(qb ((L).length) ((((mask,grid)::[]:List (Int×Int))).length) (16))then some (0,(((),()),(((L++((mask,grid)::[])),(z,())),())))
     else none) fun x9=>some (.inr (((),(wrF .i64 ((i:Int)+1),())),((x9.2.2.1.1,(x9.2.2.1.2.1,())),())):(Nat×((Unit×(Int×Unit))×(((List (Int×Int))×(Int×Unit))×Unit))) ⊕ ((Unit×(Int×Unit))×(((List (Int×Int))×(Int×Unit))×Unit)))) (Nxt (fun _=>True) fun s=>∃(L:List (Int×Int)) (z:Int),s=(((),(((i+1:Nat):Int),())),((L,(z,())),()))∧L.length<=i+1):=fun mask=>by
    have qa:∀L':List (Int×Int),L'.length<=i+1->zt (some (.inr (((),(wrF .i64 ((i:Int)+1),())),((L',(z,())),())):(Nat×((Unit×(Int×Unit))×(((List (Int×Int))×(Int×Unit))×Unit))) ⊕ ((Unit×(Int×Unit))×(((List (Int×Int))×(Int×Unit))×Unit)))) (Nxt (fun _=>True) fun s=>∃(L:List (Int×Int)) (z:Int),s=(((),(((i+1:Nat):Int),())),((L,(z,())),()))∧L.length<=i+1):=fun L' h=>za (qj ⟨L',z,by rw[zO (by omega)],h⟩)
    refine zb (zd (fun h=>?_) fun _=>zf (app _) (za (qa _ (by simp;omega))))
    have h:0 < L.length:=by have:=zT h;omega
    have e:wrF .i64 ((L.length:Int) - 1)=((L.length - 1:Nat):Int):=by rw[zR (by omega) (by omega)];omega
    have hx:L[L.length - 1]?=some (L[L.length - 1]'(by omega)):=FL (by omega)
    have hgl:Int.toNat ((L.length - 1:Nat):Int) < L.length:=by rw[zqQ];omega
    rw[e]
    refine zb (zm hx (zb (jI hgl fun _ _=>zd (fun _=>zb (zm hx (zb (jI hgl fun _ _=>zb (zm hx (zb (jI hgl fun _ _=>za (qa _ ?_)))))))) fun _=>zf (app _) (za (qa _ (by simp;omega))))))
    rw[zrZ];omega
   exact zd (fun _=>za (rest 128)) fun _=>za (rest 127)
  all_goals grind[zD,za,zw]
 obtain⟨⟨v,⟨⟩⟩,e,_⟩:=key;exact⟨v,e⟩
theorem zpv{t:jC}(ht:wU t){u:zf4}(hu:kM u){l:List wV}(hall:Yu t l)(h12:l.length<=12){o:List Int}(ho:o.length=wP l){cycle:Int}(c0:0<=cycle)(c1:cycle<=960) : ∃gs:List Gts,uA (t,u,l,o,cycle,())=some (gs,())∧gs.length<=48:=by
 obtain⟨w,ew,hw,hwl⟩:=zk3 ht hu hall h12 ho;have hls:=ht.sz.ls;have key:zt (uA (t,u,l,o,cycle,())) fun r=>r.1.length<=48:=by
  rw[zas];unfold Lu;delta lnC w6C upC aTC nxC exC lpC jzC;rw[ew,zq];refine zk (J:=fun x=>x.2.2.1.length<=48) (zX (2*t.2.2.length) (fun i s=>∃(L:List Gts),s=((u,((i:Int),())),(L,()))∧L.length=i) (by omega) ⟨[],rfl,rfl⟩ ?_ ?_) ?_
  ·rintro i _ hi ⟨L,rfl,hL⟩;obtain⟨g,eg⟩:=zpu hw hwl (i:Int) c0 c1 u.1;refine zf (zI (show(i:Int) < wrF .i64 (2*((t.2.2.length:Nat):Int)) by rw[zR (by omega) (by omega)];omega)) ?_;show zt (opt (Qu (w,(i:Int),cycle,u.1,())) _) _;rw[eg,zq];refine zf (qM (by show(L.length+1)*32<=_;omega) (by show L.length+1<=_;omega)) (za (qj ⟨L++[g],?_,by simp[hL]⟩));rw[zO (by omega)]
  all_goals grind[zD,wrF,zR,za,zw]
 obtain⟨⟨gs,⟨⟩⟩,e,h⟩:=key;exact⟨gs,e,h⟩
abbrev Pol:=Int×(Int×Int)×Int×Int
abbrev Cfg:=Fab×List wV×List Int×List Int×List Pol×Int×Int
theorem zoH{a b c:Int}(ha:0<=a∧a<=255)(hb:0<=b∧b<=255)(hc:0<=c∧c<=255):∃u,uV (a,b,c,())=some (u,())∧kM u∧∀k:Int,0 < k->k<=1000->kM (u.1,k,u.2.2):=by refine⟨(100+20*a,b % 40,c,8000),?_,⟨⟨by show 1<=100+20*a;omega,by show 100+20*a<=10000;omega⟩,⟨by show 0<=b % 40;omega,by show b % 40<=1000;omega⟩,⟨by show 0<=c;omega,by show c<=10000;omega⟩,by show(1542:Int)<=8000;omega,by show(8000:Int)<=65536;omega⟩,fun k k0 k1=>⟨⟨by show 1<=100+20*a;omega,by show 100+20*a<=10000;omega⟩,⟨by show 0<=k;omega,k1⟩,⟨by show 0<=c;omega,by show c<=10000;omega⟩,by show(1542:Int)<=8000;omega,by show(8000:Int)<=65536;omega⟩⟩;grind[DP,lC,zR,zqv]
theorem zca{t:jC}(ht:wU t){L:List ix}(hs:∀y∈L,sdP y)(hL:L.length<=1000000000000000):∃l,xw (t,L,())=some (l,())∧l.length<=6:=by
 suffices key:zt (xw (t,L,())) fun r=>r.1.length<=6 by obtain⟨⟨l,⟨⟩⟩,e,h⟩:=key;exact⟨l,e,h⟩
 rw[Eh];unfold lM;delta lnC w6C upC aTC nxC exC lpC jzC;refine zk (J:=fun x=>x.2.2.1.length<=6) (zX L.length (fun i s=>∃out:List wV,s=((t,((i:Int),())),(out,()))∧out.length<=6) (by omega) ⟨[],rfl,by simp⟩ ?_ ?_) ?_
 ·rintro i _ hi ⟨out,rfl,ho⟩;have hx:L[i]?=some L[i]:=FL hi;have hxs:=hs _ (zqq hi);generalize L[i]=x at hx hxs;refine zf (zI (show(i:Int) < (L.length:Int) by omega)) (zd (fun h6=>?_) (fun _=>za (zw ho)));have h6:(out.length:Int) < 6:=zT h6;obtain⟨s,is,es⟩:=zgV ht hxs (wrF .i64 ((out.length:Int)+1));refine zb (zm (n:=i) hx ?_);show zt (opt (xk (x,t,wrF .i64 ((out.length:Int)+1),())) _) _;rw[es,zq];refine zk (J:=fun x=>x.2.2.1.length<=6) (zd (fun _=>zf (qM (by show(out.length+1)*96<=_;omega) (by show out.length+1<=_;omega)) (za ?_)) (fun _=>za ho)) ?_
  ·show(out++[s]).length<=6;simp;omega
  ·rintro⟨k,⟨⟩,o2,⟨⟩⟩ h2;exact za (qj ⟨o2,zqT (fun z=>((t,(z,())),(o2,()))) (zO (by omega)),h2⟩)
 all_goals grind[zD,za,zw]
structure OV(c:Cfg):Prop where
 t:wU c.1.1
 l1:1<=c.1.1.2.2.length
 u:kM c.1.2.1
 g:c.1.2.2.1.length<=48
 st:Yu c.1.1 c.2.1
 n6:c.2.1.length<=6
 of:c.2.2.1.length=wP c.2.1
 sh:(c.2.2.2.1.length:Int)=c.1.1.1
 po:c.2.2.2.2.1=[]∨c.2.2.2.2.1=[(0,(400,1000),800,2000)]
 lr:c.2.2.2.2.2=(16,1099511627776)
theorem zm3(a b:List wV):wP (a++b)=wP a+wP b:=by unfold wP;grind
theorem zpw{b:List wV}(h:∀s∈b,s.2.2.2.1=6):wP b=0:=by grind[wP,zri,zsX]
theorem zoI{n:Fab}(hn:n.2.2.1.length<=48)(l:List wV)(s:wV):∃r e,xd (n,l,s,())=some (r,e,())∧(e=0->Yu n.1 r∧(∀x∈r,x.2.2.2.1=6)∧r.length=l.length+1):=by obtain⟨r,e,h1,h2⟩:=zm1 (n:=n) (by omega) l s;refine⟨r,e,h1,fun he=>?_⟩;obtain⟨rfl,ok⟩:=h2 he;exact⟨ok.a,fun x hx=>(ok.c x hx).1,by simp⟩
theorem zk4{t:jC}(ht:wU t)(l1:1<=t.2.2.length){u:Int×Int×Int×Int}(hu:kM u){gs:List Gts}(hg:gs.length<=48){S:List wV}(hS:Yu t S)(hS3:S.length<=3){o:List Int}(ho:o.length=wP S){dl:List ix}(hdl:∀x∈dl,sdP x)(hll:dl.length*10<=140737488355328)(sh:List Int)(meter:Bool)(mo:Int){sz:List Int}(hz:sz=[]){pz:List Pol×Int×Int}(hp:pz=([],16,1099511627776)) : zt (opt (yA (fun s23:((Int×Unit)×((List (Bool×(Bool×(Int×(Int×(Int×(Int×(Int×Int))))))))×Unit))=>bif(zg (s23.1.1) ((((dl).length:Nat):Int)))then opt (opt (atI (dl) (s23.1.1)) fun x24=>bif x24.1 then opt (atI (dl) (s23.1.1)) fun x25=>bif(qb ((s23.2.1).length) (((x25::[])).length) (10))then some (0,((),((s23.2.1++(x25::[])),())))else none else some (0,((),(s23.2.1,())))) fun x26=>some (.inr (((wrF .i64 ((s23.1.1+1))),()),(x26.2.2.1,())))else some (.inl (0,((s23.1.1,()),(s23.2.1,()))))) xm ((0,()),([],()))) fun x27=>opt (xw ((t,(x27.2.2.1,())))) fun x28=>opt (yA (fun s29:((Unit×((List (Int×(Int×(Int×(Int×(Int×(Int×((Int×Int)×(Int×(List (List Int)))))))))))×(Int×Unit)))×((((Int×((List Bool)×(List (Int×(Int×(Int×Int))))))×((Int×(Int×(Int×Int)))×((List ((List (Int×Int))×Int))×Int)))×((List (Int×(Int×(Int×(Int×(Int×(Int×((Int×Int)×(Int×(List (List Int)))))))))))×((List Int)×((List Int)×(((List (Int×((Int×Int)×(Int×Int))))×(Int×Int))×Unit)))))×Unit))=>bif(zg (s29.1.2.2.1) ((((x28.1).length:Nat):Int)))then bif(zg ((((s29.1.2.1).length:Nat):Int)) (3))then opt (atI (x28.1) (s29.1.2.2.1)) fun x30=>opt (xd ((s29.2.1.1,(s29.1.2.1,(((wrF .i64 ((100+s29.1.2.2.1))),x30.2),()))))) fun x31=>opt (bif(zj (x31.2.1) (0))then some (0,((x31.1,()),()))else some (0,((s29.1.2.1,()),()))) fun x32=>some (.inr (((),(x32.2.1.1,((wrF .i64 ((s29.1.2.2.1+1))),()))),((s29.2.1.1,(s29.2.1.2.1,(s29.2.1.2.2.1,(s29.2.1.2.2.2.1,(s29.2.1.2.2.2.2.1,()))))),())))else some (.inl (0,(((),(s29.1.2.1,(s29.1.2.2.1,()))),((s29.2.1.1,(s29.2.1.2.1,(s29.2.1.2.2.1,(s29.2.1.2.2.2.1,(s29.2.1.2.2.2.2.1,()))))),()))))else some (.inl (0,(((),(s29.1.2.1,(s29.1.2.2.1,()))),((s29.2.1.1,(s29.2.1.2.1,(s29.2.1.2.2.1,(s29.2.1.2.2.2.1,(s29.2.1.2.2.2.2.1,()))))),()))))) xm (((),([],(0,()))),(((t,(u,(gs,mo))),(S,(o,(sz,(pz,()))))),()))) fun x33=>bif(qb (0) ((x33.2.2.1.2.1).length) (96))then bif(qb ((x33.2.2.1.2.1).length) ((x33.2.1.2.1).length) (96))then opt (yA (fun s34:((Unit×(Int×Unit))×((((Int×((List Bool)×(List (Int×(Int×(Int×Int))))))×((Int×(Int×(Int×Int)))×((List ((List (Int×Int))×Int))×Int)))×((List (Int×(Int×(Int×(Int×(Int×(Int×((Int×Int)×(Int×(List (List Int)))))))))))×((List Int)×((List Int)×(((List (Int×((Int×Int)×(Int×Int))))×(Int×Int))×Unit)))))×Unit))=>bif(zg (s34.1.2.1) (s34.2.1.1.1.1))then opt (bif(zg (s34.1.2.1) ((((sh).length:Nat):Int)))then opt (atI (sh) (s34.1.2.1)) fun x35=>some (0,(((jS ((wrF .i64 ((0 - s34.2.1.1.2.1.2.1)))) ((wK ((wrF .i64 (x35))) (s34.2.1.1.2.1.2.1)))),()),()))else some (0,((0,()),()))) fun x36=>bif(qb ((s34.2.1.2.2.2.1).length) (((x36.2.1.1::[])).length) (8))then some (.inr (((),((wrF .i64 ((s34.1.2.1+1))),())),((s34.2.1.1,(s34.2.1.2.1,(s34.2.1.2.2.1,((s34.2.1.2.2.2.1++(x36.2.1.1::[])),(s34.2.1.2.2.2.2.1,()))))),())))else none else some (.inl (0,(((),(s34.1.2.1,())),((s34.2.1.1,(s34.2.1.2.1,(s34.2.1.2.2.1,(s34.2.1.2.2.2.1,(s34.2.1.2.2.2.2.1,()))))),()))))) xm (((),(0,())),((x33.2.2.1.1,((x33.2.2.1.2.1++x33.2.1.2.1),(x33.2.2.1.2.2.1,(x33.2.2.1.2.2.2.1,(x33.2.2.1.2.2.2.2.1,()))))),()))) fun x37=>opt (bif meter then some (0,(((x37.2.2.1.1,(x37.2.2.1.2.1,(x37.2.2.1.2.2.1,(x37.2.2.1.2.2.2.1,(((0,((400,1000),(800,2000)))::[]),x37.2.2.1.2.2.2.2.1.2))))),()),()))else some (0,(((x37.2.2.1.1,(x37.2.2.1.2.1,(x37.2.2.1.2.2.1,(x37.2.2.1.2.2.2.1,x37.2.2.1.2.2.2.2.1)))),()),()))) fun x38=>some (x38.2.1.1,())else none else none:Option (Cfg×Unit)) fun r=>OV r.1:=by
 have n0:=ht.sz.n0;have n1:=ht.sz.n1;refine zk (J:=fun x=>(∀y∈x.2.2.1,sdP y)∧x.2.2.1.length<=1000000000000000) (zX dl.length (fun i s=>∃L:List ix,s=(((i:Int),()),(L,()))∧L.length<=i∧∀y∈L,sdP y) (by omega) ⟨[],rfl,by simp,fun y hy=>by cases hy⟩ ?_ ?_) ?_
 ·rintro i _ hi ⟨L,rfl,hL,hs⟩;have hx:dl[i]?=some dl[i]:=FL hi;have hxs:=hdl _ (zqq hi);generalize dl[i]=x at hx hxs;refine zf (zI (show(i:Int) < (dl.length:Int) by omega)) (zk (J:=fun z=>z.2.2.1.length<=i+1∧∀y∈z.2.2.1,sdP y) (zb (zm hx (zd (fun _=>zb (zm hx (zf (qM (by show(L.length+1)*10<=_;omega) (by show L.length+1<=_;omega)) (za ⟨by show(L++[x]).length<=_;simp;omega,fun y hy=>?_⟩)))) fun _=>za ⟨by show L.length<=_;omega,hs⟩))) ?_)
  ·rcases zqF.1 hy with h | h
   ·exact hs y h
   ·rw[zqY.1 h];exact hxs
  ·rintro⟨k,⟨⟩,L2,⟨⟩⟩ ⟨h1,h2⟩;exact za (qj ⟨L2,zqT (fun z=>((z,()),(L2,()))) (zO (by omega)),h1,h2⟩)
 ·rintro _ ⟨L,rfl,hL,hs⟩;exact zi (zD (show ¬(dl.length:Int) < (dl.length:Int) by omega)) (za (zw ⟨hs,by show L.length<=_;omega⟩))
 rintro⟨k,⟨z,⟨⟩⟩,L,⟨⟩⟩ ⟨hs,hL⟩;simp only at hs hL;obtain⟨l,el,hl6⟩:=zca ht hs hL;rw[el,zq];refine zk (J:=fun x=>∃b:List wV,Yu t b∧(∀s∈b,s.2.2.2.1=6)∧b.length<=3∧x.2.1.2.1=b∧x.2.2.1=((t,(u,(gs,mo))),(S,(o,(sz,(pz,())))))) (zX l.length (fun i s=>∃b:List wV,Yu t b∧(∀s∈b,s.2.2.2.1=6)∧b.length<=3∧s=(((),(b,((i:Int),()))),(((t,(u,(gs,mo))),(S,(o,(sz,(pz,()))))),()))) (by omega) ⟨[],(fun s h=>by cases h),(fun s h=>by cases h),by simp,rfl⟩ ?_ ?_) ?_
 ·rintro i _ hi ⟨b,hb,hb6,hb3,rfl⟩;have hx:l[i]?=some l[i]:=FL hi;generalize l[i]=x at hx;refine zf (zI (show(i:Int) < (l.length:Int) by omega)) (zd (fun h3=>zb (zm hx ?_)) fun _=>za (zw ⟨b,hb,hb6,hb3,rfl,rfl⟩));have h3:(b.length:Int) < 3:=zT h3;obtain⟨r,e,er,hr⟩:=zoI (n:=(t,u,gs,mo)) hg b (wrF .i64 (100+(i:Int)),x.2);show zt (opt (xd ((t,u,gs,mo),b,(wrF .i64 (100+(i:Int)),x.2),())) _) _;rw[er,zq];refine zk (J:=fun z=>Yu t z.2.1.1∧(∀s∈z.2.1.1,s.2.2.2.1=6)∧z.2.1.1.length<=3) (zd (fun h=>za ?_) fun _=>za ⟨hb,hb6,hb3⟩) ?_
  ·obtain⟨q1,q2,q3⟩:=hr (qg h);exact⟨q1,q2,by show r.length<=3;omega⟩
  ·rintro⟨k,⟨b2,⟨⟩⟩,⟨⟩⟩ ⟨q1,q2,q3⟩;exact za (qj ⟨b2,q1,q2,q3,zqT (fun z=>(((),(b2,(z,()))),(((t,(u,(gs,mo))),(S,(o,(sz,(pz,()))))),()))) (zO (by omega))⟩)
 ·rintro _ ⟨b,hb,hb6,hb3,rfl⟩;exact zi (zD (show ¬(l.length:Int) < (l.length:Int) by omega)) (za (zw ⟨b,hb,hb6,hb3,rfl,rfl⟩))
 rintro⟨k,⟨⟨⟩,b,z2,⟨⟩⟩,F,⟨⟩⟩ ⟨b',hb,hb6,hb3,rfl,hF⟩;have hF:F=_:=hF;subst hF;dsimp only at hb hb6 hb3;have hap:Yu t (S++b):=fun s hs=>by
  rcases zqF.1 hs with h | h
  ·exact hS s h
  ·exact hb s h
 refine zf (qM (by show(0+S.length)*96<=_;omega) (by show 0+S.length<=_;omega)) (zf (qM (by show(S.length+b.length)*96<=_;omega) (by show S.length+b.length<=_;omega)) ?_);refine zk (J:=fun x=>∃s2:List Int,s2.length=t.1.toNat∧x.2.2.1=((t,(u,(gs,mo))),(S++b,(o,(s2,(pz,())))))) (zX t.1.toNat (fun i s=>∃s2:List Int,s2.length=i∧s=(((),((i:Int),())),(((t,(u,(gs,mo))),(S++b,(o,(s2,(pz,()))))),()))) (by omega) ⟨sz,by rw[hz];rfl,rfl⟩ ?_ ?_) ?_
 ·rintro i _ hi ⟨s2,h2,rfl⟩;refine zf (zI (show(i:Int) < t.1 by omega)) (zk (J:=fun _=>True) (zd (fun h=>zb (wm (by show 0<=(i:Int);omega) (zT h) fun _ _=>za trivial)) fun _=>za trivial) ?_);rintro⟨k,⟨v,⟨⟩⟩,⟨⟩⟩ -;refine zf (qM (by show(s2.length+1)*8<=_;omega) (by show s2.length+1<=_;omega)) (za (qj ⟨s2++[v],by simp[h2],?_⟩));exact zqT (fun z=>(((),(z,())),(((t,(u,(gs,mo))),(S++b,(o,(s2++[v],(pz,()))))),()))) (zO (by omega))
 ·rintro _ ⟨s2,h2,rfl⟩;exact zi (zD (show ¬((t.1.toNat:Nat):Int) < t.1 by omega)) (za (zw ⟨s2,h2,rfl⟩))
 rintro⟨k,st,F,⟨⟩⟩ ⟨s2,h2,hF⟩;have hF:F=_:=hF;subst hF;have fin:∀pl:List Pol,(pl=[]∨pl=[(0,(400,1000),800,2000)])->OV ((t,u,gs,mo),S++b,o,s2,pl,16,1099511627776):=fun pl hpl=>⟨ht,l1,hu,hg,hap,by show(S++b).length<=6;simp;omega,by show o.length=wP (S++b);rw[zm3,zpw hb6,ho];rfl,by show(s2.length:Int)=t.1;omega,hpl,rfl⟩;subst hp;refine zk (J:=fun x=>OV x.2.1.1) (zd (fun _=>za (fin _ (.inr rfl))) fun _=>za (fin _ (.inl rfl))) ?_;grind[za]
abbrev HJ:=FK×(Int×Int×Int)×List ix×List Int×Bool×Int
structure zm4(d:HJ):Prop where
 t:tdP d.1
 u:(0<=d.2.1.1∧d.2.1.1<=255)∧(0<=d.2.1.2.1∧d.2.1.2.1<=255)∧(0<=d.2.1.2.2∧d.2.1.2.2<=255)
 l:∀x∈d.2.2.1,sdP x
 ll:d.2.2.1.length*10<=140737488355328
abbrev StC:=(Unit×Unit×Int×Unit)×(Fab×List wV×List Int×List Int×(List Pol×Int×Int)×Unit)×(Fab×List wV×List Int×List Int×(List Pol×Int×Int)×Unit)×Unit
abbrev stC(t:jC)(u:Int×Int×Int×Int)(z:Int):StC:=(((),((),(z,()))),(((t,(u,([],339))),([],([],([],(([],(16,1099511627776)),()))))),((((0,([],[])),((0,(0,(0,0))),([],0))),([],([],([],(([],(0,0)),()))))),())))
theorem zm5{d:HJ}(hd:zm4 d):∃c,yj (d,())=some (c,())∧OV c:=by
 suffices key:zt (yj (d,())) fun r=>OV r.1 by obtain⟨⟨c,⟨⟩⟩,e,h⟩:=key;exact⟨c,e,h⟩
 have hll:=hd.ll;have hl:=hd.l;obtain⟨b,c,ls,et,ht,hls⟩:=zjh hd.t;have l1:1<=(tOf b c ls).2.2.length:=hls;generalize tOf b c ls=t at et ht l1;obtain⟨u0,eu,hu0,huk⟩:=zoH hd.u.1 hd.u.2.1 hd.u.2.2;rw[iF];unfold Ja;delta lnC w6C upC aTC nxC exC lpC jzC;rw[et,zq,eu,zq];refine zk (J:=fun x=>∃u,kM u∧x.2.2.1=(((t,(u,([],339))),([],([],([],(([],(16,1099511627776)),()))))))) (zd (fun h=>zd (fun h2=>za ⟨_,huk _ (zT h) (zN (qK.1 h2)),rfl⟩) fun _=>za ⟨_,hu0,rfl⟩) fun _=>za ⟨_,hu0,rfl⟩) ?_;rintro⟨k,⟨⟨⟩,⟨⟩⟩,F,⟨⟩⟩ ⟨u,hu,hF⟩;have hF:F=_:=hF;subst hF;refine zk (J:=fun x=>(∀y∈x.2.2.1,sdP y)∧x.2.2.1.length<=1000000000000000) (zX d.2.2.1.length (fun i s=>∃L:List ix,s=(((i:Int),()),(L,()))∧L.length<=i∧∀y∈L,sdP y) (by omega) ⟨[],rfl,by simp,fun y hy=>by cases hy⟩ ?_ ?_) ?_
 ·rintro i _ hi ⟨L,rfl,hL,hs⟩;have hx:d.2.2.1[i]?=some d.2.2.1[i]:=FL hi;have hxs:=hl _ (zqq hi);generalize d.2.2.1[i]=x at hx hxs;refine zf (zI (show(i:Int) < (d.2.2.1.length:Int) by omega)) (zk (J:=fun z=>z.2.2.1.length<=i+1∧∀y∈z.2.2.1,sdP y) (zb (zm hx (zd (fun _=>zb (zm hx (zf (qM (by show(L.length+1)*10<=_;omega) (by show L.length+1<=_;omega)) (za ⟨by show(L++[x]).length<=_;simp;omega,fun y hy=>?_⟩)))) fun _=>za ⟨by show L.length<=_;omega,hs⟩))) ?_);all_goals grind[zqF,zqY,za,qj,zO]
 ·grind[zD,za,zw]
 rintro⟨k2,⟨z,⟨⟩⟩,L,⟨⟩⟩ ⟨hs,hL⟩;simp only at hs hL;obtain⟨l,el,hl6⟩:=zca ht hs hL;rw[el,zq];obtain⟨m,hm,hm3,hml⟩:∃m:Nat,wK 3 (l.length:Int)=(m:Int)∧m<=3∧m<=l.length:=by rw[Km];exact⟨min 3 l.length,by omega,by omega,by omega⟩
 have none_t:=zk4 ht l1 hu (gs:=[]) (by simp) (S:=[]) (fun s h=>by cases h) (by simp) (o:=[]) rfl hl hll d.2.2.2.1 d.2.2.2.2.1 339 (sz:=[]) rfl rfl;refine za4 (m+1) (fun k s=>s=stC t u ((m:Int) - (k:Int))) (by omega) ?_ ?_
 ·grind
 ·rintro k _ hk rfl;by_cases hkm:k=m+1
  ·subst hkm;have e0:zg ((m:Int) - ((m+1:Nat):Int)) 0=true:=zI (by omega);refine zi (by show(!zg ((m:Int) - ((m+1:Nat):Int)) 0)=false;rw[e0];rfl) (za (.inr ⟨rfl,zi (by show(!zg ((m:Int) - ((m+1:Nat):Int)) 0)=false;rw[e0];rfl) ?_⟩));exact none_t
  obtain⟨n,hn,hn2⟩:∃n:Nat,(m:Int) - (k:Int)=(n:Int)∧n<=m:=⟨m - k,by omega,by omega⟩;rw[hn];have e0:(!zg (n:Int) 0)=true:=by rw[zD (by omega)];rfl
  have ecut:KB l none (some (n:Int)) none=some (l.take n):=zhp l n (by omega);obtain⟨p,e,ep,hp⟩:=zqk ht hu (l.take n);have step:∀X:Type,(∃s',(Sum.inr (stC t u (wrF .i64 ((n:Int) - 1))):X ⊕ StC)=.inr s'∧k < m+1∧s'=stC t u ((m:Int) - ((k+1:Nat):Int))):=fun X=>⟨_,rfl,by omega,by rw[zR (by omega) (by omega)];exact zqT (stC t u) (by omega)⟩;by_cases he:e=0;rotate_left
  ·refine zf e0 (zb (jP ecut ?_));show zt (opt (vB (t,u,l.take n,())) _) _;rw[ep,zq];exact zf (by show(!zj e 0)=true;rw[jc he];rfl) (za (.inl (step _)))
  subst he;obtain⟨q1,q2,q3,q4⟩:=hp rfl;obtain⟨o,pr,e2,es,hs2⟩:=zoG (p:=p);by_cases he:e2=0;rotate_left
  ·refine zf e0 (zb (jP ecut ?_));show zt (opt (vB (t,u,l.take n,())) _) _;rw[ep,zq];refine zi rfl ?_;show zt (opt (xc (p,60,())) _) _;rw[es,zq];exact zi (jc he) (za (.inl (step _)))
  subst he;obtain⟨hpr,hol⟩:=hs2 rfl;have hcl:wP (l.take n)<=(l.take n).length:=by unfold wP;exact zrh _ _
  obtain⟨cy,ec,c0,c1⟩:=zji (l:=p.1) (by omega) fun x hx=>by have:=q4 x hx;omega
  obtain⟨gs,eg,hg⟩:=zpv ht hu q1 q2 (o:=o) (by rw[hol,q3]) c0 c1;have rest:=zk4 ht l1 hu hg q1 (by simp;omega) (o:=o) (by rw[hol,q3]) hl hll d.2.2.2.1 d.2.2.2.2.1 339 (sz:=[]) rfl rfl;refine zf e0 (zb (jP ecut ?_));show zt (opt (vB (t,u,l.take n,())) _) _;rw[ep,zq];refine zi rfl ?_;show zt (opt (xc (p,60,())) _) _;rw[es,zq];refine zf rfl (zb (jP ecut ?_));show zt (opt (xb (p.1,())) _) _;rw[ec,zq];show zt (opt (uA (t,u,l.take n,o,cy,())) _) _;rw[eg,zq];refine za (.inr ⟨rfl,?_⟩);refine zf e0 (zb (jP ecut ?_));show zt (opt (vB (t,u,l.take n,())) _) _;rw[ep,zq];refine zi rfl ?_;show zt (opt (xc (p,60,())) _) _;rw[es,zq];refine zf rfl (zb (jP ecut ?_));grind[zt,opt,xb,zq,uA]
end Go.Proofs.YtlfkgkedfciccaaGreat.dd
namespace Go.Proofs.YtlfkgkedfciccaaGreat.nd
open Go Go.Fz Go.Fz.Sy
def inP(n a b:Int):Prop:=a<=n∧n<=b
def yF(b:Int×Int):Prop:=inP b.1 1 1048576∧inP b.2 1 2097152
theorem GS(n a b:Int):qW (n,a,b,())=some (tv (inP n a b),()):=by rw[EN];unfold lX;delta lnC w6C upC aTC nxC exC lpC jzC;refine ji (zd (fun h=>?_) fun h=>?_)<;>refine za ?_<;>simp only[inP,qK,qC,vG,vH,gh]at *<;>grind
theorem zk5(n a b:Int):xZ (n,a,b,())=some (tv (inP n a b),()):=by rw[Ij];unfold pd;delta lnC w6C upC aTC nxC exC lpC jzC;refine ji (zd (fun h=>?_) fun h=>?_)<;>refine za ?_<;>simp only[inP,qK,qC,vG,vH,gh]at *<;>grind
theorem zm6(n a b:Int):vT (n,a,b,())=some (tv (inP n a b),()):=by rw[nj];unfold Ge;delta lnC w6C upC aTC nxC exC lpC jzC;refine ji (zd (fun h=>?_) fun h=>?_)<;>refine za ?_<;>simp only[inP,qK,qC,vG,vH,gh]at *<;>grind
theorem zk6(n a b:Int):vE (n,a,b,())=some (tv (inP n a b),()):=by rw[zc2];unfold Sx;delta lnC w6C upC aTC nxC exC lpC jzC;refine ji (zd (fun h=>?_) fun h=>?_)<;>refine za ?_<;>simp only[inP,qK,qC,vG,vH,gh]at *<;>grind
theorem zf6(n a b:Int):ZN (n,a,b,())=some (tv (inP n a b),()):=by rw[zc3];unfold SC;delta lnC w6C upC aTC nxC exC lpC jzC;refine ji (zd (fun h=>?_) fun h=>?_)<;>refine za ?_<;>simp only[inP,qK,qC,vG,vH,gh]at *<;>grind
theorem mF(b:Int×Int):wW (b,())=some (tv (yF b),()):=by rw[eW];unfold bC;delta lnC w6C upC aTC nxC exC lpC jzC yF inP;refine ji ?_;grind[za,qK,qC,vG,vH,gh]
theorem OW(b:Int×Int):uo (b,())=some (bif tv (yF b)then 0 else 130,()):=by
 rw[HZ];unfold oP;delta lnC w6C upC aTC nxC exC lpC jzC;simp only[zm6,zq];refine Qh (by decide) ?_;unfold yF;repeat' first | with_reducible refine zx ?_ | with_reducible refine zu ?_ | refine zd (fun h=>?_) (fun h=>?_) | refine za ?_ | refine zb ?_
 all_goals grind[qK,qC,QA,dp]
def Yv(c p:Int×Int):(Int×Int×Int)×Int:=bif tv (yF c∧yF p)then(bif zg p.2 c.2 then((0,0,0),2)else((0,c.1*1048576,p.1*1048576),0))else((0,0,0),130)
theorem zk7(c p:Int×Int):XI (c,p,())=some ((Yv c p).1,(Yv c p).2,()):=by
 rw[zaO];unfold Ml;delta lnC w6C upC aTC nxC exC lpC jzC Yv;simp only[OW,zq,pD (e:=130) (by decide)];by_cases hc:yF c
 ·by_cases hp:yF p
  ·have e1:wrF .i64 (c.1*1048576)=c.1*1048576:=by obtain⟨⟨h1,h2⟩,_⟩:=hc;exact zR (by omega) (by omega)
   have e2:wrF .i64 (p.1*1048576)=p.1*1048576:=by obtain⟨⟨h1,h2⟩,_⟩:=hp;exact zR (by omega) (by omega)
   rw[ma];unfold fo;delta lnC w6C upC aTC nxC exC lpC jzC;rw[qU hc,qU hp,qU ⟨hc,hp⟩,e1,e2];cases zg p.2 c.2<;>rfl
  ·rw[qU hc,wg hp,wg (p:=yF c∧yF p) fun h=>hp h.2];rfl
 grind[wg,yF]
theorem zhA(c p:Int×Int):Wb (c,p,())=some ((Yv c p).1,(Yv c p).2,()):=by
 rw[zaJ];unfold Me;delta lnC w6C upC aTC nxC exC lpC jzC Yv;simp only[mF,zq];by_cases hc:yF c
 ·by_cases hp:yF p
  ·have e1:wrF .i64 (c.1*1048576)=c.1*1048576:=by obtain⟨⟨h1,h2⟩,_⟩:=hc;exact zR (by omega) (by omega)
   have e2:wrF .i64 (p.1*1048576)=p.1*1048576:=by obtain⟨⟨h1,h2⟩,_⟩:=hp;exact zR (by omega) (by omega)
   rw[qU hc,qU hp,qU ⟨hc,hp⟩,e1,e2];show(bif zg p.2 c.2 then _ else _)=_;grind
  ·rw[qU hc,wg hp,wg (p:=yF c∧yF p) fun h=>hp h.2];rfl
 ·rw[wg hc,wg (p:=yF c∧yF p) fun h=>hc h.1];rfl
def zjj(c p:Int×Int)(m:Int×Int×Int):Prop:=inP m.1 0 1099511627776∧inP m.2.1 0 (Yv c p).1.2.1∧inP m.2.2 0 (Yv c p).1.2.2
def UL(c p:Int×Int)(m:Int×Int×Int):Int:=bif zj (Yv c p).2 0 then(bif tv (zjj c p m)then 0 else 420)else(Yv c p).2
theorem zf7(c p:Int×Int)(m:Int×Int×Int):kC (c,p,m,())=some (UL c p m,()):=by
 rw[NX];unfold AJ;delta lnC w6C upC aTC nxC exC lpC jzC UL;simp only[zk7,zq];cases he:zj (Yv c p).2 0 with
 |false=>rfl
 |true=>
  refine Qh (by decide) ?_;unfold zjj inP;repeat' first | with_reducible refine zx ?_ | with_reducible refine zu ?_ | refine zd (fun h=>?_) (fun h=>?_) | refine za ?_ | refine zb ?_
  all_goals grind[qK,qC,vG,vH,sw]
theorem zcb(c p:Int×Int)(m:Int×Int×Int):JH (c,p,m,())=some (UL c p m,()):=by
 rw[NV];unfold AF;delta lnC w6C upC aTC nxC exC lpC jzC UL;simp only[zhA,zf6,zq];cases he:zj (Yv c p).2 0 with
 |false=>rfl
 |true=>
  refine Qh (by decide) ?_;unfold zjj;repeat' first | with_reducible refine zx ?_ | with_reducible refine zu ?_ | refine zd (fun h=>?_) (fun h=>?_) | refine za ?_ | refine zb ?_
  all_goals grind[qK,qC,QA,dp,sw]
def GU(a:qu):Prop:=inP a.1 0 47∧inP a.2.1 1 4095∧inP a.2.2.2.1 84 1542∧((a.2.2.1=6∧a.2.2.2.2.1=0∧a.2.2.2.2.2.1=0∧a.2.2.2.2.2.2=0)∨(a.2.2.1=7∧inP a.2.2.2.2.1 1 2400000∧inP a.2.2.2.2.2.1 (-1099511627776) 1099511627776∧inP a.2.2.2.2.2.2 (-1099511627776) 1099511627776∧a.2.2.2.2.2.1<=a.2.2.2.2.2.2∧a.2.2.2.2.2.2 - a.2.2.2.2.2.1 < a.2.2.2.2.1))
theorem zk8(a:qu):kY (a,())=some (tv (GU a),()):=by
 rw[iH];unfold Ub;delta lnC w6C upC aTC nxC exC lpC jzC;simp only[GS,zq];refine ji ?_;unfold GU;repeat' first | with_reducible refine zx ?_ | with_reducible refine zu ?_ | refine zd (fun h=>?_) (fun h=>?_) | refine za ?_ | refine zb ?_
 all_goals simp only[qK,qC,QA,dp,vG,vH,XT,bm,zkQ,inP,gh,sw]at *
 all_goals grind[zR]
theorem zjk(a:qu):YT (a,())=some (tv (GU a),()):=by
 rw[HY];unfold oJ;delta lnC w6C upC aTC nxC exC lpC jzC;simp only[zk6,zq];refine ji ?_;unfold GU;repeat' first | with_reducible refine zx ?_ | with_reducible refine zu ?_ | refine zd (fun h=>?_) (fun h=>?_) | refine za ?_ | refine zb ?_
 all_goals simp only[qK,qC,QA,dp,vG,vH,XT,bm,zkQ,inP,gh,sw]at *
 all_goals grind[zR]
def iy(b s:Int×Int):Prop:=inP s.1 0 1099511627776∧inP s.2 0 (b.1*1048576)
def sy(b s:Int×Int):Int:=bif tv (yF b)then(bif tv (iy b s)then 0 else 440)else 130
def sA(b:Int×Int):(Int×Int)×Int:=bif tv (yF b)then((0,b.1*1048576),0)else((0,0),130)
theorem GV{b:Int×Int}(h:yF b):wrF .i64 (b.1*1048576)=b.1*1048576:=by obtain⟨⟨h1,h2⟩,_⟩:=h;grind[zR]
theorem zpx(b:Int×Int):aB (b,())=some ((sA b).1,(sA b).2,()):=by rw[zaQ];unfold Mo;delta lnC w6C upC aTC nxC exC lpC jzC sA;simp only[OW,zq,pD (e:=130) (by decide)];grind[yF,qU,GV,wg]
theorem zoJ(b:Int×Int):XG (b,())=some ((sA b).1,(sA b).2,()):=by grind[zaE,LS,sA,mF,zq,yF,qU,GV,wg]
theorem zf8(b s:Int×Int):JJ (b,s,())=some (sy b s,()):=by
 rw[NY];unfold AO;delta lnC w6C upC aTC nxC exC lpC jzC sy;simp only[zpx,zq];unfold sA;by_cases h:yF b
 ·rw[qU h];simp only[zqL];refine Qh (by decide) (zi rfl ?_);obtain⟨⟨q1,q2⟩,_⟩:=h;grind[iy,inP,HC,Km,za,qK,qC,zkR,XT,bm]
 ·rw[wg h];rfl
theorem zcc(b s:Int×Int):JK (b,s,())=some (sy b s,()):=by
 rw[Ob];unfold AR;delta lnC w6C upC aTC nxC exC lpC jzC sy;simp only[mF,zq];by_cases h:yF b
 ·rw[qU h,GV h];simp only[zqL];refine Qh (by decide) (zi rfl ?_);unfold iy inP;repeat' first | with_reducible refine zx ?_ | with_reducible refine zu ?_ | refine zd (fun h=>?_) (fun h=>?_) | refine za ?_ | refine zb ?_
  all_goals grind[qK,qC,vG,vH,sw]
 ·rw[wg h];rfl
def FO(a:qu)(o:jM):Prop:=inP o.1 0 47∧((a.2.2.1≠6∧o.2.1.1=0∧o.2.1.2=0∧o.2.2.1=0∧o.2.2.2.1=0∧o.2.2.2.2=0)∨(a.2.2.1=6∧yF o.2.1∧a.2.2.2.1<=o.2.1.1∧inP o.2.2.1 0 1099511627776∧iy o.2.1 o.2.2.2))
theorem zoK(b s:Int×Int):(zj (sy b s) 0=true)↔yF b∧iy b s:=by
 unfold sy;by_cases h:yF b
 ·rw[qU h,zqL,pD (by decide),QA];exact⟨fun h2=>⟨h,h2⟩,fun h2=>h2.2⟩
 grind[wg,jc]
theorem zk9(b s:Int×Int):(sy b s=0)↔yF b∧iy b s:=by rw[<-zoK,XT]
theorem zla(a:qu)(o:jM):Qj (a,o,())=some (tv (FO a o),()):=by
 rw[rY];unfold bX;delta lnC w6C upC aTC nxC exC lpC jzC;simp only[OW,zf8,zq,pD (e:=130) (by decide)];refine ji ?_;unfold FO;repeat' first | with_reducible refine zx ?_ | with_reducible refine zu ?_ | refine zd (fun h=>?_) (fun h=>?_) | refine za ?_ | refine zb ?_
 all_goals grind[qK,qC,QA,dp,vG,vH,XT,bm,zk9,inP,gh,sw]
 all_goals grind
theorem GW(n:Int):Qw (n,())=some (tv (inP n 0 47),()):=by rw[SI];unfold EW;delta lnC w6C upC aTC nxC exC lpC jzC;refine ji (zd (fun h=>?_) fun h=>?_)<;>refine za ?_<;>simp only[inP,qK,qC,vG,vH,gh]at *<;>grind
theorem zjl(a:qu)(o:jM):YY (a,o,())=some (tv (FO a o),()):=by
 rw[Ih];unfold oZ;delta lnC w6C upC aTC nxC exC lpC jzC;simp only[mF,zcc,GW,zq];refine ji ?_;unfold FO;repeat' first | with_reducible refine zx ?_ | with_reducible refine zu ?_ | refine zd (fun h=>?_) (fun h=>?_) | refine za ?_ | refine zb ?_
 all_goals grind[qK,qC,QA,dp,vG,vH,XT,bm,zk9,inP,gh,sw]
 all_goals grind
def OX(x:xP)(n:Nat):Prop:=inP x.1 0 47∧inP x.2.1 1 4095∧(x.2.2.1=7∨x.2.2.1=6)∧0<=x.2.2.2∧x.2.2.2 < n
theorem zpy(x:xP)(n:Nat):YX (x,(n:Int),())=some (tv (OX x n),()):=by rw[Ie];unfold oV;delta lnC w6C upC aTC nxC exC lpC jzC OX inP;refine ji ?_;grind[za,qK,qC,vG,vH,XT,bm,gh]
def Xd(x:zQ):Prop:=inP x.1 0 1099511627776∧inP x.2.1 0 1099511627776∧inP x.2.2.1 0 7∧inP x.2.2.2.1 84 1542∧inP x.2.2.2.2 0 1099511627776
theorem za9(x:zQ):vK (x,())=some (bif tv (Xd x)then 0 else 460,()):=by
 rw[sb];unfold bZ;delta lnC w6C upC aTC nxC exC lpC jzC;simp only[zk5,zq];refine Qh (by decide) ?_;unfold Xd;repeat' first | with_reducible refine zx ?_ | with_reducible refine zu ?_ | refine zd (fun h=>?_) (fun h=>?_) | refine za ?_ | refine zb ?_
 all_goals grind[qK,qC,QA,dp]
theorem zhB(x:zQ):yT (x,())=some (tv (Xd x),()):=by rw[ph];unfold aY;delta lnC w6C upC aTC nxC exC lpC jzC;simp only[GS,zq];grind[ji,Xd,za,zb,qK,qC,QA,dp,gh]
theorem zm7(n:Int):Zu (n,())=some (tv (inP n 0 1099511627776),()):=by rw[OC];unfold Bm;delta lnC w6C upC aTC nxC exC lpC jzC;refine ji (zd (fun h=>?_) fun h=>?_)<;>refine za ?_<;>simp only[inP,qK,qC,vG,vH,gh]at *<;>grind
theorem OY(x:zQ):UB (x,())=some (tv (Xd x),()):=by rw[Tb];unfold Fo;delta lnC w6C upC aTC nxC exC lpC jzC;simp only[zm7,zq];grind[ji,Xd,za,qK,qC,QA,dp,vG,vH,inP,gh]
def WI(a b:qu):Prop:=b.1=a.1∧b.2.1=a.2.1
def UM(a b:jL):Prop:=b.1=a.1
def OZ(p:jL):Prop:=inP p.1 0 47∧(Yv p.2.1 p.2.2).2=0
theorem zlb(p:jL):kZ (p,())=some (tv (OZ p),()):=by grind[iJ,Ug,zk7,GS,zq,ji,za,XT,OZ,aC,ij]
def znK(l:List qu):Prop:=∀(k:Nat) a,l[k]?=some a->GU a∧∀(j:Nat) b,j < k->l[j]?=some b->¬WI a b
def zp0(l:List jL):Prop:=∀(k:Nat) a,l[k]?=some a->OZ a∧∀(j:Nat) b,j < k->l[j]?=some b->¬UM a b
def zhC(l:List qu)(m:List jL):Prop:=l.length<=64∧m.length<=64∧znK l∧zp0 m
theorem zm8(l:List qu)(m:List jL)(hl:l.length<=1000000000000000000)(hm:m.length<=1000000000000000000):Ww (l,m,())=some (tv (zhC l m),()):=by
 rw[ES];unfold me;delta lnC w6C upC aTC nxC exC lpC jzC;simp only[zk8,zlb,zq];refine ji (zb (zd (fun h1=>za (zu (za ?_))) fun h1=>zd (fun h2=>za (zu (za ?_))) fun h2=>za (zx ?_)))
 ·exact⟨fun h=>(by cases h),fun h=>absurd h.1 (by have:=zT h1;omega)⟩
 ·exact⟨fun h=>(by cases h),fun h=>absurd h.2.1 (by have:=zT h2;omega)⟩
 have h1:=zN h1;have h2:=zN h2;refine zk (jQ false l.length (fun k=>∃a,l[k]?=some a∧GU a∧∀(j:Nat) b,j < k->l[j]?=some b->¬WI a b) hl ?_ ?_) ?_
 ·intro i hi;refine zf (zI (show(i:Int) < (l.length:Int) by omega)) (zb ?_);have hx:l[i]?=some l[i]:=FL hi;generalize l[i]=a at hx;refine zm hx (zb (zd (fun h3=>za (zu (za (.inr ⟨?_,_,rfl⟩)))) fun h3=>?_))
  ·grind[jX]
  have ha:=wC h3;refine zk (J:=fun x=>∃k:Nat,k<=i∧x.1=1∧x.2.1.2.1=(k:Int)∧(∃b,l[k]?=some b∧WI a b)∧∀(j:Nat) b,j < k->l[j]?=some b->¬WI a b)
   (zX i (fun j s=>s=((a,(0,((j:Int),()))),())∧∀(k:Nat) b,k < j->l[k]?=some b->¬WI a b) (by omega) ⟨rfl,fun k b hk=>by omega⟩ ?_ ?_) ?_
  ·rintro j _ hj ⟨rfl,hp⟩;have hjl:j < l.length:=by omega
   have hy:l[j]?=some l[j]:=FL hjl;generalize l[j]=b at hy;have go:¬WI a b->Nxt (fun x:Nat×((qu×(Int×(Int×Unit)))×Unit)=>∃k:Nat,k<=i∧x.1=1∧x.2.1.2.1=(k:Int)∧(∃b,l[k]?=some b∧WI a b)∧∀(j:Nat) b,j < k->l[j]?=some b->¬WI a b) (fun s=>s=((a,((0:Int),(((j+1:Nat):Int),()))),())∧∀(k:Nat) b,k < j+1->l[k]?=some b->¬WI a b) (.inr ((a,(0,(wrF .i64 ((j:Int)+1),()))),())):=fun h=>qj ⟨by rw[zO (by omega)],fun k c hk hc=>by
    grind⟩
   refine zf (zI (show(j:Int) < (l.length:Int) by omega)) (zb (zm hy (zd (fun h4=>zd (fun h5=>za (zw ⟨j,by omega,rfl,rfl,⟨b,hy,qg h4,qg h5⟩,hp⟩)) fun h5=>za (go fun h=>qn h5 h.2)) fun h4=>za (go fun h=>qn h4 h.1))))
  ·rintro _ ⟨rfl,hp⟩;refine zf (zI (show(i:Int) < (l.length:Int) by omega)) (zb (zm hx ?_));exact zf (wM rfl) (zf (wM rfl) (za (zw ⟨i,FW _,rfl,rfl,⟨a,hx,rfl,rfl⟩,hp⟩)))
  ·rintro⟨c,⟨y1,y2,y3,⟨⟩⟩,⟨⟩⟩ ⟨k,hki,hc,hy,⟨b,hb1,hb2⟩,hp⟩;simp only at hc hy;subst hc hy;refine zu (zd (fun h4=>za (zu (za (.inr ⟨?_,_,rfl⟩)))) fun h4=>za (zx (za (.inl ⟨?_,?_⟩))));all_goals grind[qn,qK,qg,qC,zO]
 ·grind[zD,za]
 rintro⟨c,⟨y1,y2,⟨⟩⟩,⟨⟩⟩ (⟨rfl,rfl,hA⟩ | ⟨rfl,rfl,hA⟩);rotate_left
 ·refine zu (za ⟨fun h=>(by cases h),fun h=>absurd ?_ hA⟩);exact yd.2 fun k a hk=>h.2.2.1 k a hk
 have hA:znK l:=fun k a hk=>yd.1 hA k a hk;refine zx (zk (jQ false m.length (fun k=>∃a,m[k]?=some a∧OZ a∧∀(j:Nat) b,j < k->m[j]?=some b->¬UM a b) hm ?_ ?_) ?_)
 ·intro i hi;refine zf (zI (show(i:Int) < (m.length:Int) by omega)) (zb ?_);have hx:m[i]?=some m[i]:=FL hi;generalize m[i]=a at hx;refine zm hx (zb (zd (fun h3=>za (zu (za (.inr ⟨?_,_,rfl⟩)))) fun h3=>?_))
  ·grind[jX]
  have ha:=wC h3;refine zk (J:=fun x=>∃k:Nat,k<=i∧x.1=1∧x.2.1.2.1=(k:Int)∧(∃b,m[k]?=some b∧UM a b)∧∀(j:Nat) b,j < k->m[j]?=some b->¬UM a b)
   (zX i (fun j s=>s=((a,(0,((j:Int),()))),())∧∀(k:Nat) b,k < j->m[k]?=some b->¬UM a b) (by omega) ⟨rfl,fun k b hk=>by omega⟩ ?_ ?_) ?_
  ·rintro j _ hj ⟨rfl,hp⟩;have hjl:j < m.length:=by omega
   have hy:m[j]?=some m[j]:=FL hjl;generalize m[j]=b at hy;refine zf (zI (show(j:Int) < (m.length:Int) by omega)) (zb (zm hy (zd (fun h4=>za (zw ⟨j,by omega,rfl,rfl,⟨b,hy,qg h4⟩,hp⟩)) fun h4=>za (qj ⟨by rw[zO (by omega)],fun k c hk hc=>?_⟩))));rcases zrD k j with h5 | h5
   ·exact hp k c h5 hc
   ·have:k=j:=by omega
    subst this;rw[hy]at hc;cases hc;exact qn h4
  ·rintro _ ⟨rfl,hp⟩;refine zf (zI (show(i:Int) < (m.length:Int) by omega)) (zb (zm hx ?_));exact zf (wM rfl) (za (zw ⟨i,FW _,rfl,rfl,⟨a,hx,rfl⟩,hp⟩))
  ·rintro⟨c,⟨y1,y2,y3,⟨⟩⟩,⟨⟩⟩ ⟨k,hki,hc,hy,⟨b,hb1,hb2⟩,hp⟩;simp only at hc hy;subst hc hy;refine zu (zd (fun h4=>za (zu (za (.inr ⟨?_,_,rfl⟩)))) fun h4=>za (zx (za (.inl ⟨?_,?_⟩))));all_goals grind[qn,qK,qg,qC,zO]
 ·grind[zD,za]
 rintro⟨c,⟨y1,y2,⟨⟩⟩,⟨⟩⟩ (⟨rfl,rfl,hB⟩ | ⟨rfl,rfl,hB⟩)
 ·refine zx (za ⟨fun _=>⟨by omega,by omega,hA,fun k a hk=>yd.1 hB k a hk⟩,fun _=>rfl⟩)
 ·refine zu (za ⟨fun h=>(by cases h),fun h=>absurd ?_ hB⟩);exact yd.2 fun k a hk=>h.2.2.2 k a hk
def zba(f:zK)(k:Nat)(a:qu):Prop:=∃z,f.2.2.2.1[k]?=some z∧-1<=z∧(a.2.2.1=6->z = -1)
def zf9(f:zK)(k:Nat)(p:jL):Prop:=∃m,f.2.2.2.2[k]?=some m∧UL p.2.1 p.2.2 m=0∧m.1<=f.2.2.1+1000
def Za(f:zK):Prop:=zhC f.1 f.2.1∧inP f.2.2.1 (-1000) 549755813888∧f.2.2.2.1.length=f.1.length∧f.2.2.2.2.length=f.2.1.length∧(∀(k:Nat) a,f.1[k]?=some a->zba f k a)∧(∀(k:Nat) p,f.2.1[k]?=some p->zf9 f k p)
theorem zga{c p:Int×Int}{m:Int×Int×Int}(h:UL c p m=0):(Yv c p).2=0:=by grind[UL,zj,Yv,qg]
theorem Pa(f:zK)(hl:f.1.length<=1000000000000000000)(hm:f.2.1.length<=1000000000000000000):xY (f,())=some (bif tv (Za f)then 0 else 430,()):=by
 rw[Ia];unfold oR;delta lnC w6C upC aTC nxC exC lpC jzC;simp only[zm8 _ _ hl hm,GS,zf7,zq];refine Qh (by decide) (zb (zd (fun h1=>za (zu (za (.inr ⟨fun h=>jX h1 h.1,rfl⟩)))) fun h1=>zd (fun h2=>za (zu (za (.inr ⟨fun h=>jX h2 h.2.1,rfl⟩)))) fun h2=>za (zx ?_)));have h1:=wC h1;have h2:=wC h2;refine zb (zd (fun h3=>za (zu (za (.inr ⟨fun h=>qn (qK.1 h3) (by have:=h.2.2.1;omega),rfl⟩)))) fun h3=>zd (fun h4=>za (zu (za (.inr ⟨fun h=>qn (qK.1 h4) (by have:=h.2.2.2.1;omega),rfl⟩)))) fun h4=>za (zx ?_));have h3:=qg (qC.1 h3);have h4:=qg (qC.1 h4);refine zk (jQ (430:Int) f.1.length (fun k=>∃a,f.1[k]?=some a∧zba f k a) hl ?_ ?_) ?_
 ·intro i hi;have hx:f.1[i]?=some f.1[i]:=FL hi;generalize f.1[i]=a at hx;have hj:i < f.2.2.2.1.length:=by omega
  have hy:f.2.2.2.1[i]?=some f.2.2.2.1[i]:=FL hj;generalize f.2.2.2.1[i]=z at hy;have no:¬(-1<=z∧(a.2.2.1=6->z = -1))->¬∃a,f.1[i]?=some a∧zba f i a:=by rintro h ⟨a',e,z',e2,h5⟩;grind
  refine zf (zI (show(i:Int) < (f.1.length:Int) by omega)) (zb (zm hx (zb (zb (zm hy (zd (fun h5=>za (zu (za (.inr ⟨no fun h=>?_,_,rfl⟩)))) fun h5=>zd (fun h6=>zb (zm hy (zd (fun h7=>za (zu (za (.inr ⟨no fun h=>?_,_,rfl⟩)))) fun h7=>za (zx (za (.inl ⟨⟨a,hx,z,hy,?_⟩,?_⟩)))))) fun h6=>za (zx (za (.inl ⟨⟨a,hx,z,hy,?_⟩,?_⟩)))))))))
  ·have:=zT h5;omega
  ·exact qn (qK.1 h7) (h.2 (qg h6))
  ·grind[zN,qg,qC]
  ·rw[zO (by omega)]
  ·exact⟨by have:=zN h5;omega,fun h=>absurd h (qn h6)⟩
  ·rw[zO (by omega)]
 ·grind[zD,za]
 rintro⟨c,⟨y1,y2,⟨⟩⟩,⟨⟩⟩ (⟨rfl,rfl,hA⟩ | ⟨rfl,rfl,hA⟩);rotate_left
 ·exact zu (za (.inr ⟨fun h=>hA (yd.2 h.2.2.2.2.1),rfl⟩))
 have hA:=yd.1 hA;refine zx (zk (jQ (430:Int) f.2.1.length (fun k=>∃p,f.2.1[k]?=some p∧zf9 f k p) hm ?_ ?_) ?_)
 ·intro i hi;have hx:f.2.1[i]?=some f.2.1[i]:=FL hi;generalize f.2.1[i]=p at hx;have hj:i < f.2.2.2.2.length:=by omega
  have hy:f.2.2.2.2[i]?=some f.2.2.2.2[i]:=FL hj;generalize f.2.2.2.2[i]=m at hy;have no:¬(UL p.2.1 p.2.2 m=0∧m.1<=f.2.2.1+1000)->¬∃p,f.2.1[i]?=some p∧zf9 f i p:=by rintro h ⟨a',e,z',e2,h5⟩;grind
  have e1:wrF .i64 (f.2.2.1+1000)=f.2.2.1+1000:=by obtain⟨q1,q2⟩:=h2;grind[zR]
  refine zf (zI (show(i:Int) < (f.2.1.length:Int) by omega)) (zb (zm hx (zb (zm hy (zb (zd (fun h5=>za (zu (za (.inr ⟨no fun h=>qn (qK.1 h5) h.1,_,rfl⟩)))) fun h5=>?_))))));rw[e1];refine zd (fun h6=>za (zu (za (.inr ⟨no fun h=>?_,_,rfl⟩)))) fun h6=>za (zx (za (.inl ⟨⟨p,hx,m,hy,qg (qC.1 h5),zN h6⟩,?_⟩)))
  ·have:=zT h6;omega
  ·rw[zO (by omega)]
 ·grind[zD,za]
 rintro⟨c,⟨y1,y2,⟨⟩⟩,⟨⟩⟩ (⟨rfl,rfl,hB⟩ | ⟨rfl,rfl,hB⟩)
 ·exact zx (za (.inl ⟨⟨h1,h2,by omega,by omega,hA,yd.1 hB⟩,rfl⟩))
 ·exact zu (za (.inr ⟨fun h=>hB (yd.2 h.2.2.2.2.2),rfl⟩))
theorem zcd(f:zK):JI (f,())=some (tv (Za f),()):=by
 rw[NW];unfold AI;delta lnC w6C upC aTC nxC exC lpC jzC;simp only[zk6,zjk,zcb,zq];refine ji (zb (zd (fun h1=>za (zu (za ?_))) fun h1=>zd (fun h2=>za (zu (za ?_))) fun h2=>zd (fun h3=>za (zu (za ?_))) fun h3=>zd (fun h4=>za (zu (za ?_))) fun h4=>zd (fun h5=>za (zu (za ?_))) fun h5=>za (zx ?_)))
 ·exact⟨fun h=>(by cases h),fun h=>absurd h.1.1 (by have:=zT h1;omega)⟩
 ·exact⟨fun h=>(by cases h),fun h=>absurd h.1.2.1 (by have:=zT h2;omega)⟩
 ·exact⟨fun h=>(by cases h),fun h=>absurd h.2.2.1 (by have:=qn (qK.1 h3);omega)⟩
 ·exact⟨fun h=>(by cases h),fun h=>absurd h.2.2.2.1 (by have:=qn (qK.1 h4);omega)⟩
 ·exact⟨fun h=>(by cases h),fun h=>absurd h.2.1 (jX h5)⟩
 have h1:=zN h1;have h2:=zN h2;have h3:=qg (qC.1 h3);have h4:=qg (qC.1 h4);have h5:=wC h5;refine zk (jQ false f.1.length (fun k=>∃a,f.1[k]?=some a∧(GU a∧∀(j:Nat) b,j < k->f.1[j]?=some b->¬WI a b)∧zba f k a) (by omega) ?_ ?_) ?_
 ·intro i hi;have hx:f.1[i]?=some f.1[i]:=FL hi;generalize f.1[i]=a at hx;have hj:i < f.2.2.2.1.length:=by omega
  have hy:f.2.2.2.1[i]?=some f.2.2.2.1[i]:=FL hj;generalize f.2.2.2.1[i]=z at hy;have no:¬(GU a∧(∀(j:Nat) b,j < i->f.1[j]?=some b->¬WI a b)∧-1<=z∧(a.2.2.1=6->z = -1))->¬∃a,f.1[i]?=some a∧(GU a∧∀(j:Nat) b,j < i->f.1[j]?=some b->¬WI a b)∧zba f i a:=by rintro h ⟨a',e,⟨h6,h7⟩,z',e2,h8⟩;grind
  refine zf (zI (show(i:Int) < (f.1.length:Int) by omega)) (zb (zm hx (zb (zd (fun h6=>za (zu (za (.inr ⟨no fun h=>jX h6 h.1,_,rfl⟩)))) fun h6=>zb (zm hy (zd (fun h7=>za (zu (za (.inr ⟨no fun h=>?_,_,rfl⟩)))) fun h7=>zd (fun h8=>zb (zm hy (zd (fun h9=>za (zu (za (.inr ⟨no fun h=>qn (qK.1 h9) (h.2.2.2 (qg h8)),_,rfl⟩)))) fun h9=>za (zx ?_)))) fun h8=>za (zx ?_)))))))
  ·have:=zT h7;omega
  ·have ha:=wC h6;have hz1:=zN h7;have hz2:a.2.2.1=6->z = -1:=fun _=>qg (qC.1 h9);refine zk (iw f.1 i (by omega) (by omega) (WI a) false (fun j b hj hb=>?_) ?_) ?_
   ·refine zf (zI (show(j:Int) < (i:Int) by omega)) (zb (zb (zm hb (zd (fun q1=>zb (zm hb (zd (fun q2=>za (zu (za (.inr ⟨⟨qg q1,qg q2⟩,_,rfl⟩)))) fun q2=>za (zx (za (.inl ⟨fun h=>qn q2 h.2,?_⟩)))))) fun q1=>za (zx (za (.inl ⟨fun h=>qn q1 h.1,?_⟩)))))));all_goals rw[zO (by omega)]
   ·grind[zD,za]
   ·rintro⟨c,⟨y1,y2,⟨⟩⟩,⟨⟩⟩ (⟨rfl,rfl,hQ⟩ | ⟨rfl,rfl,hQ⟩)
    ·refine zx (za (.inl ⟨⟨a,hx,⟨ha,hQ⟩,z,hy,hz1,hz2⟩,?_⟩));rw[zO (by omega)]
    ·exact zu (za (.inr ⟨no fun h=>hQ h.2.1,_,rfl⟩))
  ·have ha:=wC h6;have hz1:=zN h7;have hz2:a.2.2.1=6->z = -1:=fun h=>absurd h (qn h8);refine zk (iw f.1 i (by omega) (by omega) (WI a) false (fun j b hj hb=>?_) ?_) ?_
   ·refine zf (zI (show(j:Int) < (i:Int) by omega)) (zb (zb (zm hb (zd (fun q1=>zb (zm hb (zd (fun q2=>za (zu (za (.inr ⟨⟨qg q1,qg q2⟩,_,rfl⟩)))) fun q2=>za (zx (za (.inl ⟨fun h=>qn q2 h.2,?_⟩)))))) fun q1=>za (zx (za (.inl ⟨fun h=>qn q1 h.1,?_⟩)))))));all_goals rw[zO (by omega)]
   ·grind[zD,za]
   ·rintro⟨c,⟨y1,y2,⟨⟩⟩,⟨⟩⟩ (⟨rfl,rfl,hQ⟩ | ⟨rfl,rfl,hQ⟩)
    ·refine zx (za (.inl ⟨⟨a,hx,⟨ha,hQ⟩,z,hy,hz1,hz2⟩,?_⟩));rw[zO (by omega)]
    ·exact zu (za (.inr ⟨no fun h=>hQ h.2.1,_,rfl⟩))
 ·grind[zD,za]
 rintro⟨c,⟨y1,y2,⟨⟩⟩,⟨⟩⟩ (⟨rfl,rfl,hA⟩ | ⟨rfl,rfl,hA⟩);rotate_left
 ·refine zu (za ⟨fun h=>(by cases h),fun h=>absurd (yd.2 fun k a hk=>?_) hA⟩);exact⟨h.1.2.2.1 k a hk,h.2.2.2.2.1 k a hk⟩
 have hA:=yd.1 hA;refine zx (zk (jQ false f.2.1.length (fun k=>∃p,f.2.1[k]?=some p∧(OZ p∧∀(j:Nat) b,j < k->f.2.1[j]?=some b->¬UM p b)∧zf9 f k p) (by omega) ?_ ?_) ?_)
 ·intro i hi;have hx:f.2.1[i]?=some f.2.1[i]:=FL hi;generalize f.2.1[i]=p at hx;have hj:i < f.2.2.2.2.length:=by omega
  have hy:f.2.2.2.2[i]?=some f.2.2.2.2[i]:=FL hj;generalize f.2.2.2.2[i]=m at hy;have no:¬(OZ p∧(∀(j:Nat) b,j < i->f.2.1[j]?=some b->¬UM p b)∧UL p.2.1 p.2.2 m=0∧m.1<=f.2.2.1+1000)->¬∃p,f.2.1[i]?=some p∧(OZ p∧∀(j:Nat) b,j < i->f.2.1[j]?=some b->¬UM p b)∧zf9 f i p:=by rintro h ⟨a',e,⟨h6,h7⟩,z',e2,h8⟩;grind
  have e1:wrF .i64 (f.2.2.1+1000)=f.2.2.1+1000:=by obtain⟨q1,q2⟩:=h5;grind[zR]
  refine zf (zI (show(i:Int) < (f.2.1.length:Int) by omega)) (zb (zm hx (zb (zd (fun h6=>za (zu (za (.inr ⟨no fun h=>jX h6 h.1.1,_,rfl⟩)))) fun h6=>zb (zm hy (zd (fun h7=>za (zu (za (.inr ⟨no fun h=>qn (qK.1 h7) h.2.2.1,_,rfl⟩)))) fun h7=>zb (zm hy ?_)))))));rw[e1];refine zd (fun h8=>za (zu (za (.inr ⟨no fun h=>?_,_,rfl⟩)))) fun h8=>za (zx ?_)
  ·have:=zT h8;omega
  ·skip;refine zk (iw f.2.1 i (by omega) (by omega) (UM p) false (fun j b hj hb=>?_) ?_) ?_
   ·refine zf (zI (show(j:Int) < (i:Int) by omega)) (zb (zm hb (zd (fun q1=>za (.inr ⟨qg q1,_,rfl⟩)) fun q1=>za (.inl ⟨fun h=>qn q1 h,?_⟩))));rw[zO (by omega)]
   ·grind[zD,za]
   ·rintro⟨c,⟨y1,y2,⟨⟩⟩,⟨⟩⟩ (⟨rfl,rfl,hQ⟩ | ⟨rfl,rfl,hQ⟩)
    ·refine zx (za (.inl ⟨⟨p,hx,⟨⟨wC h6,zga (qg (qC.1 h7))⟩,hQ⟩,m,hy,qg (qC.1 h7),zN h8⟩,?_⟩));rw[zO (by omega)]
    ·exact zu (za (.inr ⟨no fun h=>hQ h.2.1,_,rfl⟩))
 ·grind[zD,za]
 rintro⟨c,⟨y1,y2,⟨⟩⟩,⟨⟩⟩ (⟨rfl,rfl,hB⟩ | ⟨rfl,rfl,hB⟩)
 ·have hB:=yd.1 hB;exact zx (za ⟨fun _=>⟨⟨by omega,by omega,fun k a hk=>(hA k a hk).1,fun k p hk=>(hB k p hk).1⟩,h5,by omega,by omega,fun k a hk=>(hA k a hk).2,fun k p hk=>(hB k p hk).2⟩,fun _=>rfl⟩)
 ·refine zu (za ⟨fun h=>(by cases h),fun h=>absurd (yd.2 fun k p hk=>?_) hB⟩);exact⟨h.1.2.2.2 k p hk,h.2.2.2.2.2 k p hk⟩
end Go.Proofs.YtlfkgkedfciccaaGreat.nd
namespace Go.Proofs.YtlfkgkedfciccaaGreat.nd
open Go Go.Fz Go.Fz.Sy
variable {x:Nat} {y:Nat} {s:Nat}
theorem zdM(z:Int):IntKind.wrap .u64 z=z % 18446744073709551616:=by unfold IntKind.wrap;show(if(false&&decide (z % 18446744073709551616>=_))=true then _ else z % 18446744073709551616)=_;grind
theorem FP{z:Int}(h1:0<=z)(h2:z < 18446744073709551616):wrF .u64 z=z:=by rw[Zy,zdM];omega
theorem p64:(2:Nat) ^ 64=18446744073709551616:=by decide
theorem dy(h:x < 2 ^ 64):(BitVec.ofInt (IntKind.bits .u64) (x:Int)).toNat=x:=by show(BitVec.ofInt 64 (x:Int)).toNat=x;grind
theorem zjm(h:x < 2 ^ 64):IntKind.wrap .u64 (x:Int)=(x:Int):=by rw[zdM];rw[p64]at h;omega
theorem zm9(hx:x < 2 ^ 64)(hy:y < 2 ^ 64):wO .and .u64 (x:Int) (y:Int)=((x&&& y:Nat):Int):=by show IntKind.wrap .u64 (((BitVec.ofInt (IntKind.bits .u64) (x:Int)&&& BitVec.ofInt (IntKind.bits .u64) (y:Int)).toNat:Nat):Int)=_;rw[ztv,dy hx,dy hy,zjm (zsM Nat.and_le_left hx)]
theorem bor(hx:x < 2 ^ 64)(hy:y < 2 ^ 64):wO .or .u64 (x:Int) (y:Int)=((x||| y:Nat):Int):=by show IntKind.wrap .u64 (((BitVec.ofInt (IntKind.bits .u64) (x:Int)||| BitVec.ofInt (IntKind.bits .u64) (y:Int)).toNat:Nat):Int)=_;rw[BitVec.toNat_or,dy hx,dy hy,zjm (ztq hx hy)]
theorem zp1(hx:x < 2 ^ 64)(hy:y < 2 ^ 64):wO .andNot .u64 (x:Int) (y:Int)=((x&&& (2 ^ 64 - (y+1)):Nat):Int):=by show IntKind.wrap .u64 (((BitVec.ofInt (IntKind.bits .u64) (x:Int)&&& ~~~BitVec.ofInt (IntKind.bits .u64) (y:Int)).toNat:Nat):Int)=_;rw[ztv,BitVec.toNat_not,dy hx,dy hy,zjm (zsM Nat.and_le_left hx)];congr 2;show 2 ^ 64 - 1 - y=_;omega
theorem shl{b:Nat}(hb:b<=64):wh .u64 (x:Int) (b:Int)=((x*2 ^ b % 2 ^ 64:Nat):Int):=by show IntKind.wrap .u64 ((x:Int)*2 ^ (min (b:Int).toNat 64))=_;grind[min,zdM,p64]
theorem zlc{n:Nat}(hx:x < 2 ^ 64)(hn:n<=64):x&&& (2 ^ 64 - ((2 ^ n - 1)+1))=0↔x < 2 ^ n:=by
 have hp:2 ^ n - 1 < 2 ^ 64:=zqB (Nat.sub_lt (zrQ n) (by decide)) (zra (by decide) hn);constructor
 ·intro h;refine Nat.lt_pow_two_of_testBit x fun i hi=>?_;have h2:=zqT (fun z=>z.testBit i) h;simp only[ztE,Nat.testBit_two_pow_sub_succ hp,zsA,ztA]at h2;by_cases h64:i < 64
  ·grind
  ·exact zrO (zqB hx (zra (by decide) (by omega)))
 ·intro h;refine zsD fun i=>?_;simp only[ztE,Nat.testBit_two_pow_sub_succ hp,zsA,ztA];grind[zrO,zqB,zra]
theorem HK{i:Nat}(hs:s < 2 ^ 64)(hi:i<=1000000000):xe ((s:Int),(i:Int),())=some (s.testBit i,()):=by
 rw[zaG];unfold LX;delta lnC w6C upC aTC nxC exC lpC jzC;have hlt:∀k,s / 2 ^ k < 2 ^ 64:=fun k=>zsM (Nat.div_le_self _ _) hs;refine qF (zk (J:=fun x=>x.2.1.1=((s / 2 ^ i:Nat):Int)) (zX i (fun k st=>st=((((s / 2 ^ k:Nat):Int),((k:Int),())),())) (by omega) (by simp) ?_ ?_) ?_)
 ·rintro k _ hk rfl;refine zf (zI (show(k:Int) < (i:Int) by omega)) (za (qj ?_));have e:Int.tdiv ((s / 2 ^ k:Nat):Int) 2=((s / 2 ^ (k+1):Nat):Int):=by rw[Nat.pow_succ,<-Nat.div_div_eq_div_mul];generalize s / 2 ^ k=q;rw[zrf (by omega)];omega
  have hl:=hlt (k+1);rw[p64]at hl;show((wrF .u64 (Int.tdiv ((s / 2 ^ k:Nat):Int) 2),(wrF .i64 ((k:Int)+1),())),())=_;rw[e];generalize s / 2 ^ (k+1)=q at hl;rw[FP (by omega) (by omega),zO (by omega)]
 all_goals grind[zD,za,zw,zj,Int.tmod,Nat.testBit_eq_decide_div_mod_eq,zqv,zsx,wM,zso,jc]
abbrev mkR(L R:Int)(any:Bool)(last at':Int)(s:Nat):qy:=(L,R,any,last,at',(s:Int))
def GX(L R:Int)(any:Bool)(last at':Int)(s:Nat):Prop:=inP L 1 64∧inP R 1 1099511627776∧((any=true∧last=0∧at'=0∧s=0)∨(any=false∧inP last 0 65535∧inP at' 0 1099511627776∧s % 2=1∧s < 2 ^ L.toNat))
theorem zna(L R:Int):Jb (L,R,())=some (tv (inP L 1 64∧inP R 1 1099511627776),()):=by rw[BO];unfold fB;delta lnC w6C upC aTC nxC exC lpC jzC inP;refine ji ?_;grind[za,qK,qC,vG,vH,gh]
theorem zld(w:qJ){L:Nat}(h:w.1.1=(L:Int))(h64:L<=64):yb (w,())=some (((2 ^ L - 1:Nat):Int),()):=by rw[aV];unfold Yn;delta lnC w6C upC aTC nxC exC lpC jzC;rw[h,FP (by omega) (by omega)];refine qF (zi (zD (by omega)) (za ?_));congr 1;rw[show(1:Int)=((1:Nat):Int) from rfl,shl h64,Zy,zdM];have hp:0 < 2 ^ L:=zrQ L;have hle:2 ^ L<=2 ^ 64:=zra (by decide) h64;omega
theorem zgb(L R:Int)(any:Bool)(last at':Int)(hs:s < 2 ^ 64):uX (mkR L R any last at' s,())=some (bif tv (GX L R any last at' s)then 0 else 500,()):=by
 rw[ET];unfold mj;delta lnC w6C upC aTC nxC exC lpC jzC;simp only[zna,zq];refine Qh (by decide) (zd (fun h1=>za (.inr ⟨fun h=>jX h1 ⟨h.1,h.2.1⟩,rfl⟩)) fun h1=>?_);obtain⟨hL,hR⟩:=wC h1;obtain⟨l0,l1⟩:=id hL;have hLn:(L.toNat:Int)=L:=by omega
 cases any with
 |true=>
  grind[zj,wM,GX,za,qK,qC,zkR,XT,bm]
 |false=>
  refine zi rfl (zb ?_);have h2p:(1:Int)=((1:Nat):Int):=rfl;have ea:wO .and .u64 (s:Int) 1=((s % 2:Nat):Int):=by grind[zm9,Nat.and_one_is_mod]
  have hn:GX L R false last at' s↔inP last 0 65535∧inP at' 0 1099511627776∧s % 2=1∧s < 2 ^ L.toNat:=by unfold GX;simp[hL,hR]
  rw[hn];refine zd (fun h3=>za (zu (za (.inr ⟨fun h=>?_,rfl⟩)))) fun h3=>zd (fun h4=>za (zu (za (.inr ⟨fun h=>?_,rfl⟩)))) fun h4=>zd (fun h5=>za (zu (za (.inr ⟨fun h=>?_,rfl⟩)))) fun h5=>zd (fun h6=>za (zu (za (.inr ⟨fun h=>?_,rfl⟩)))) fun h6=>?_
  ·have:=h.1.1;have:=zT h3;omega
  ·have h7:=h.1.2;have h8:=zN (qK.1 h4);omega
  ·have:=h.2.1.1;have:=zT h5;omega
  ·have:=h.2.1.2;have:=zT h6;omega
  show zt (bif zj (wO .and .u64 (s:Int) 1) 0 then _ else _) _;rw[ea];refine zd (fun h7=>za (zu (za (.inr ⟨fun h=>?_,rfl⟩)))) fun h7=>?_
  ·grind[qg]
  rw[zld _ (L:=L.toNat) hLn.symm (by omega),zq];have hp2:2 ^ L.toNat - 1 < 2 ^ 64:=zqB (Nat.sub_lt (zrQ _) (by decide)) (zra (by decide) (by omega));have eb:wO .andNot .u64 (s:Int) ((2 ^ L.toNat - 1:Nat):Int)=((s&&& (2 ^ 64 - ((2 ^ L.toNat - 1)+1)):Nat):Int):=zp1 hs hp2;show zt (bif !zj (wO .andNot .u64 (s:Int) ((2 ^ L.toNat - 1:Nat):Int)) 0 then _ else _) _;rw[eb];have hz:=zlc hs (n:=L.toNat) (by omega);refine zd (fun h8=>za (zu (za (.inr ⟨fun h=>?_,rfl⟩)))) fun h8=>za (zx (za (.inl ⟨?_,rfl⟩)))
  ·grind[qn,qK]
  ·have h9:=qg (qC.1 h8);have h3:=zN h3;have h4:=zT (qC.1 h4);have h5:=zN h5;have h6:=zN h6;have h7:=qn h7;exact⟨⟨by omega,by omega⟩,⟨by omega,by omega⟩,by omega,hz.1 (by omega)⟩
theorem zjn(n:Int):YS (n,())=some (tv (inP n 0 65535),()):=by rw[HV];unfold oD;delta lnC w6C upC aTC nxC exC lpC jzC;refine ji (zd (fun h=>?_) fun h=>?_)<;>refine za ?_<;>simp only[inP,qK,qC,vG,vH,gh]at *<;>grind
theorem zce(L R:Int)(any:Bool)(last at':Int)(hs:s < 2 ^ 64):kB (mkR L R any last at' s,())=some (tv (GX L R any last at' s),()):=by
 rw[NU];unfold Az;delta lnC w6C upC aTC nxC exC lpC jzC;simp only[zjn,zq];have e0:xe ((s:Int),0,())=some (s.testBit 0,()):=HK hs (i:=0) (by omega);refine ji (zb (zd (fun h1=>za (zu (za ?_))) fun h1=>zd (fun h2=>za (zu (za ?_))) fun h2=>zd (fun h3=>za (zu (za ?_))) fun h3=>zd (fun h4=>za (zu (za ?_))) fun h4=>za (zx ?_)))
 ·exact⟨fun h=>(by cases h),fun h=>absurd h.1.1 (by have:=zT h1;omega)⟩
 ·exact⟨fun h=>(by cases h),fun h=>absurd h.1.2 (by have:=zT h2;omega)⟩
 ·exact⟨fun h=>(by cases h),fun h=>absurd h.2.1.1 (by have:=zT h3;omega)⟩
 ·exact⟨fun h=>(by cases h),fun h=>absurd h.2.1.2 (by have:=zT h4;omega)⟩
 have h1:=zN h1;have h2:=zN h2;have h3:=zN h3;have h4:=zN h4;have hL:inP L 1 64:=⟨h1,h2⟩;have hR:inP R 1 1099511627776:=⟨h3,h4⟩;cases any with
 |true=>
  grind[GX,za,XT,bm,gh]
 |false=>
  have hn:GX L R false last at' s↔inP last 0 65535∧inP at' 0 1099511627776∧s % 2=1∧s < 2 ^ L.toNat:=by unfold GX;simp[hL,hR]
  rw[hn];refine zi rfl (zb (zd (fun h5=>za (zu (za ?_))) fun h5=>zd (fun h6=>za (zu (za ?_))) fun h6=>zd (fun h7=>za (zu (za ?_))) fun h7=>?_))
  ·grind[jX]
  ·exact⟨fun h=>(by cases h),fun h=>absurd h.2.1.1 (by have:=zT h6;omega)⟩
  ·exact⟨fun h=>(by cases h),fun h=>absurd h.2.1.2 (by have:=zT h7;omega)⟩
  show zt (opt (xe ((s:Int),0,())) _) _;rw[e0,zq];have hb:s.testBit 0=true↔s % 2=1:=by grind
  refine zd (fun h8=>za (zu (za ?_))) fun h8=>za (zx ?_)
  ·grind
  have h8:=hb.1 (qC.1 h8);have h5:=wC h5;have h6:=zN h6;have h7:=zN h7;refine zk (J:=fun x=>(x.1=0∧s < 2 ^ L.toNat)∨(x.1=1∧x.2.1.1=false∧¬s < 2 ^ L.toNat)) (zX (64 - L.toNat) (fun k st=>∃v,st=((v,((L.toNat+k:Nat):Int),()),())∧∀i,L.toNat<=i->i < L.toNat+k->s.testBit i=false) (by omega) ⟨_,by show((_,L,()),())=_;rw[show((L.toNat+0:Nat):Int)=L by omega],fun i h9 h10=>by omega⟩ ?_ ?_) ?_
  ·rintro k _ hk ⟨v,rfl,hp⟩;refine zf (zI (show((L.toNat+k:Nat):Int) < 64 by omega)) ?_;show zt (opt (xe ((s:Int),((L.toNat+k:Nat):Int),())) _) _;rw[HK hs (by omega),zq];refine zd (fun h9=>za (zw (.inr ⟨rfl,rfl,fun h10=>?_⟩))) fun h9=>za (qj ⟨v,?_,fun i h10 h11=>?_⟩)
   ·have h9:s.testBit (L.toNat+k)=true:=h9;rw[zrO (zqB h10 (zra (by decide) (by omega)))]at h9;cases h9
   ·show((v,wrF .i64 (((L.toNat+k:Nat):Int)+1),()),())=_;rw[zO (by omega)];rfl
   grind
  ·rintro _ ⟨v,rfl,hp⟩;refine zi (zD (show ¬((L.toNat+(64 - L.toNat):Nat):Int) < 64 by omega)) (za (zw (.inl ⟨rfl,Nat.lt_pow_two_of_testBit s fun i hi=>?_⟩)));rcases zrD i 64 with h12 | h12
   ·grind
   ·exact zrO (zqB hs (zra (by decide) h12))
  ·rintro⟨c,⟨y1,y2,⟨⟩⟩,⟨⟩⟩ (⟨rfl,hA⟩ | ⟨rfl,rfl,hA⟩)
   ·exact zx (za ⟨fun _=>⟨h5,⟨h6,h7⟩,h8,hA⟩,fun _=>rfl⟩)
   ·exact zu (za ⟨fun h=>(by cases h),fun h=>absurd h.2.2.2 hA⟩)
end Go.Proofs.YtlfkgkedfciccaaGreat.nd
namespace Go.Proofs.YtlfkgkedfciccaaGreat.nd
open Go Go.Fz Go.Fz.Sy
variable {any:Bool} {last:Int} {at':Int} {n:Int} {L:Int} {R:Int} {s:Nat} {t:Int} {x:Int} {a:Int}
theorem Pb(h:0<=x):Int.tmod x 65536=x % 65536:=by grind
theorem Pc(h:x < 0):Int.tmod x 65536 = -((-x) % 65536):=by
 have:x = -(-x):=by omega
 rw[this,Int.neg_tmod,Int.neg_neg,zqv (by omega)]
def dlt(a b:Int):Int:=(b - a+32768) % 65536 - 32768
theorem zpz(h1 : -1000000<=x)(h2:x<=1000000):dh (x,())=some (x % 65536,()):=by
 rw[zda];unfold SO;delta lnC w6C upC aTC nxC exC lpC jzC;refine qF (zb ?_);rcases zte x 0 with h | h
 ·rw[Pc h];refine zd (fun h3=>za (za ?_)) fun h3=>za (za ?_)
  ·have:=zT h3;show(wrF .i64 _,())=_;rw[zR (by omega) (by omega)];congr 1;omega
  ·have:=zN h3;show(-(-x % 65536),())=_;congr 1;omega
 grind[Pb,zD,za]
theorem zp2(n:Int):Yo (n,())=some (tv (inP n 0 65535),()):=by rw[SK];unfold EZ;delta lnC w6C upC aTC nxC exC lpC jzC;refine ji (zd (fun h=>?_) fun h=>?_)<;>refine za ?_<;>simp only[inP,qK,qC,vG,vH,gh]at *<;>grind
theorem zoL{b:Int}(ha:inP a 0 65535)(hb:inP b 0 65535):XN (a,b,())=some (dlt a b,0,()):=by obtain⟨a1,a2⟩:=id ha;obtain⟨b1,b2⟩:=id hb;rw[zaV];unfold Ms;delta lnC w6C upC aTC nxC exC lpC jzC;simp only[zp2,qU ha,qU hb,zq];refine qF (zb (zi rfl (zi rfl (za (zx ?_)))));rw[zR (z:=b - a) (by omega) (by omega),zR (by omega) (by omega),zpz (by omega) (by omega),zq];refine za ?_;show(wrF .i64 ((b - a+32768) % 65536 - 32768),0,())=_;rw[zR (by omega) (by omega)];rfl
theorem zcf(h1 : -1000000<=n)(h2:n<=1000000)(h3 : -1000000<=a)(h4:a<=1000000):Zv (n,a,())=some ((n+a) % 65536,()):=by
 rw[OF];unfold Bu;delta lnC w6C upC aTC nxC exC lpC jzC;have key:∀u:Int,-65536 < u->u < 65536->(n+u) % 65536=(n+a) % 65536->Int.tmod a 65536=u->zt (opt (bif(zg ((Int.tmod (wrF .i64 ((n+(Int.tmod a 65536)))) 65536)) (0))then some (0,(((wrF .i64 (((Int.tmod (wrF .i64 ((n+(Int.tmod a 65536)))) 65536)+65536))),()),()))
  else some (0,(((Int.tmod (wrF .i64 ((n+(Int.tmod a 65536)))) 65536),()),()))) fun x0:Nat×((Int×Unit)×Unit)=>some (x0.2.1.1,())) fun r=>r=((n+a) % 65536,()):=by
  intro u u1 u2 hu e
  rw[e,zR (z:=n+u) (by omega) (by omega)]
  refine zb ?_
  rcases zte (n+u) 0 with h | h
  ·rw[Pc h]
   refine zd (fun h3=>za (za ?_)) fun h3=>za (za ?_)
   ·have:=zT h3
    show(wrF .i64 _,())=_
    rw[zR (by omega) (by omega)];congr 1;omega
   ·have:=zN h3
    show(-(-(n+u) % 65536),())=_
    congr 1;omega
  ·rw[Pb h]
   refine zi (zD (by omega)) (za (za ?_))
   show((n+u) % 65536,())=_
   rw[hu]
 rcases zte a 0 with h | h
 ·exact qF (key (-((-a) % 65536)) (by omega) (by omega) (by omega) (Pc h))
 grind[qF,Pb]
theorem zcg{b:Int}(ha:inP a 0 65535)(hb:inP b 0 65535):kK (a,b,())=some (dlt a b,()):=by
 obtain⟨a1,a2⟩:=ha;obtain⟨b1,b2⟩:=hb;rw[OH];unfold Bx;delta lnC w6C upC aTC nxC exC lpC jzC;rw[zR (z:=0 - a) (by omega) (by omega),zcf (by omega) (by omega) (by omega) (by omega),zq];refine qF (zb (zd (fun h=>za (za ?_)) fun h=>za (za ?_)))
 ·have:=zN (qK.1 h);grind[wrF,zR,dlt]
 ·have:=zT (qC.1 h);grind[dlt]
theorem zpA(a b:Int) : -32768<=dlt a b∧dlt a b<=32767:=by unfold dlt;omega
def ahead(L s d:Nat):Nat:=((s*2 ^ d % 2 ^ 64)||| 1)&&& (2 ^ L - 1)
open Classical in
def yX(L R:Int)(any:Bool)(last at':Int)(s:Nat)(n t:Int):qy×Bool:=
 if any=true∨R < t - at' then((L,R,false,n,t,1),true)
 else if dlt last n<=-L∨L<=dlt last n then(mkR L R any last at' s,false)
 else if dlt last n<=0 then(if s.testBit (-dlt last n).toNat=true then(mkR L R any last at' s,false)else(mkR L R any last t (s||| 2 ^ (-dlt last n).toNat),true))
 else(mkR L R any n t (ahead L.toNat s (dlt last n).toNat),true)
theorem zgc(L R:Int)(any:Bool)(last at':Int)(s:Nat)(t:Int)(hl:inP last 0 65535)(hn:inP n 0 65535):wT ((mkR L R any last at' s,n,t),())=some (dlt last n,()):=by grind[GO,Wz,opt,XN,zoL]
open Classical in
theorem zoM(h1:inP at' 0 1099511627776)(h2:inP t 0 1099511627776):uC ((mkR L R any last at' s,n,t),())=some (if any=true∨R < t - at' then(((L,R,false,n,t,1),n,t),1,())else((mkR L R any last at' s,n,t),0,())):=by
 obtain⟨h1,h3⟩:=h1;obtain⟨h2,h4⟩:=h2;rw[dg];unfold XL;delta lnC w6C upC aTC nxC exC lpC jzC;refine qF (zb ?_);show zt (bif(!any)then(bif(!(zg R (wrF .i64 (t - at'))))then _ else _)else _) _;rw[zR (by omega) (by omega)];cases any with
 |true=>rw[zqJ (.inl rfl)];exact zi rfl (za (zx (za rfl)))
 |false=>
  refine zf rfl (zd (fun h=>za (zu (za ?_))) fun h=>za (zx (za ?_)))
  ·have:=zN (qK.1 h);rw[zqt (by simp;omega)]
  ·have:=zT (qC.1 h);rw[zqJ (.inr this)]
open Classical in
theorem zp3(hL:inP L 1 64)(hl:inP last 0 65535)(hn:inP n 0 65535):gb ((mkR L R any last at' s,n,t),())=some (if dlt last n<=-L∨L<=dlt last n then((mkR L R any last at' s,n,t),2,())else((mkR L R any last at' s,n,t),0,())):=by
 obtain⟨h1,h2⟩:=hL;rw[iL];unfold Un;delta lnC w6C upC aTC nxC exC lpC jzC;rw[zgc L R any last at' s t hl hn,zq];refine qF (zb ?_);show zt (bif(zg (wrF .i64 (0 - L)) (dlt last n))then(bif(zg (dlt last n) L)then _ else _)else _) _;rw[zR (by omega) (by omega)];refine zd (fun h=>zd (fun h2=>za (zu (za ?_))) fun h2=>za (zx (za ?_))) fun h=>za (zx (za ?_))
 ·have:=zT h;have:=zT h2;rw[zqt (by omega)]
 ·have:=zT h;have:=zN h2;rw[zqJ (by omega)]
 ·have:=zN h;rw[zqJ (by omega)]
theorem zoN{k:Nat}(h:k < 64):wh .u64 1 (k:Int)=((2 ^ k:Nat):Int):=by rw[show(1:Int)=((1:Nat):Int) from rfl,shl (by omega),ztm,Nat.mod_eq_of_lt (zti (by decide) h)]
theorem zoO(s k:Nat):(s&&& 2 ^ k=0)↔s.testBit k=false:=by
 constructor
 ·intro h;have:=zqT (fun z=>z.testBit k) h;grind
 ·intro h;refine zsD fun i=>?_;grind
open Classical in
theorem zpB(hs:s < 2 ^ 64)(hl:inP last 0 65535)(hn:inP n 0 65535)(hd : -64 < dlt last n):uY ((mkR L R any last at' s,n,t),())=some (if 0 < dlt last n then((mkR L R any last at' s,n,t),0,())else if s.testBit (-dlt last n).toNat=true then((mkR L R any last at' s,n,t),2,())else((mkR L R any last t (s||| 2 ^ (-dlt last n).toNat),n,t),1,())):=by
 rw[fL];unfold Kh;delta lnC w6C upC aTC nxC exC lpC jzC;rw[zgc L R any last at' s t hl hn,zq];refine qF (zd (fun h=>za ?_) fun h=>?_)
 ·have:=zT h;rw[zqJ this]
 have h:=zN h;have h:dlt last n<=0:=h;rw[zqt (by omega)];obtain⟨k,hk⟩:∃k:Nat,0 - dlt last n=k:=⟨(0 - dlt last n).toNat,by omega⟩;have ek:(-dlt last n).toNat=k:=by omega
 show zt (bif zg (wrF .u64 (wrF .i64 (0 - dlt last n))) 0 then none else bif !(zj (wO .and .u64 (s:Int) (wh .u64 1 (wrF .u64 (wrF .i64 (0 - dlt last n))))) 0)then _ else some ((((L,(R,(any,(last,(t,(wO .or .u64 (s:Int) (wh .u64 1 (wrF .u64 (wrF .i64 (0 - dlt last n))))))))))),n,t),(1,()))) _;rw[ek,hk,zR (by omega) (by omega),FP (by omega) (by omega),zoN (by omega)];have hp:2 ^ k < 2 ^ 64:=zti (by decide) (by omega);rw[zm9 hs hp,bor hs hp];have hb:=zoO s k;refine zi (zD (by omega)) (zd (fun h2=>za ?_) fun h2=>za ?_)
 ·have h3:=qn (qK.1 h2);have:s.testBit k=true:=by
   cases h4:s.testBit k with
   |true=>rfl
   |false=>rw[hb.2 h4]at h3;exact absurd rfl h3
  rw[zqJ this]
 ·have h3:=qg (qC.1 h2);have h4:=hb.1 (by omega);rw[zqt (by rw[h4];decide)]
theorem zoP(hL:inP L 1 64)(hs:s < 2 ^ 64)(hl:inP last 0 65535)(hn:inP n 0 65535)(hd:0 < dlt last n)(hd2:dlt last n < 64):uD ((mkR L R any last at' s,n,t),())=some ((mkR L R any n t (ahead L.toNat s (dlt last n).toNat),n,t),1,()):=by obtain⟨l1,l2⟩:=hL;rw[dk];unfold XQ;delta lnC w6C upC aTC nxC exC lpC jzC;rw[zgc L R any last at' s t hl hn,zq];obtain⟨k,hk⟩:∃k:Nat,dlt last n=k:=⟨(dlt last n).toNat,by omega⟩;show(bif zg (wrF .u64 (dlt last n)) 0 then none else opt (yb ((mkR L R any last at' s,n,t),())) fun x1=>some ((((L,(R,(any,(n,(t,(wO .and .u64 (wO .or .u64 (wh .u64 (s:Int) (wrF .u64 (dlt last n))) 1) x1.1)))))),n,t),(1,()))))=_;rw[hk,FP (by omega) (by omega),zld _ (L:=L.toNat) (by show L=_;omega) (by omega),zq,shl (by omega)];refine qF (zi (zD (by omega)) (za ?_));have h1:s*2 ^ k % 2 ^ 64 < 2 ^ 64:=Nat.mod_lt _ (zrQ 64);have hp:2 ^ L.toNat - 1 < 2 ^ 64:=zqB (Nat.sub_lt (zrQ _) (by decide)) (zra (by decide) (by omega));show(((L,(R,(any,(n,(t,wO .and .u64 (wO .or .u64 ((s*2 ^ k % 2 ^ 64:Nat):Int) ((1:Nat):Int)) ((2 ^ L.toNat - 1:Nat):Int)))))),n,t),1,())=_;rw[bor h1 (by decide),zm9 (ztq h1 (by decide)) hp];rfl
theorem zle(hs:s < 2 ^ 64)(hr:GX L R any last at' s)(hn:inP n 0 65535)(ht:inP t 0 1099511627776)(ha:at'<=t):yS (mkR L R any last at' s,n,t,())=some ((yX L R any last at' s n t).1,(yX L R any last at' s n t).2,0,()):=by
 have hL:=hr.1;have hl:inP last 0 65535:=by
  rcases hr.2.2 with h | h
  ·exact⟨by omega,by omega⟩
  ·exact h.2.1
 have hat:inP at' 0 1099511627776:=by
  rcases hr.2.2 with h | h
  ·exact⟨by omega,by omega⟩
  ·exact h.2.2.1
 obtain⟨l1,l2⟩:=id hL;obtain⟨n1,n2⟩:=id hn;obtain⟨t1,t2⟩:=id ht;rw[BU];unfold fM;delta lnC w6C upC aTC nxC exC lpC jzC;rw[zgb L R any last at' hs,qU hr,zq];refine qF (zi rfl (zb (zi (zD (by omega)) (zi (by rw[zI (by omega)];rfl) (zi (zD (by omega)) (zi (zD (by omega)) (zi (zD (show ¬t < at' by omega)) (za (zx ?_)))))))));have hdec:xl ((mkR L R any last at' s,n,t),())=some (((yX L R any last at' s n t).1,n,t),(if(yX L R any last at' s n t).2=true then 1 else 2),()):=by
  rw[bM];unfold Xj;delta lnC w6C upC aTC nxC exC lpC jzC;rw[zoM hat ht,zq,zp3 hL hl hn];unfold yX;by_cases c1:any=true∨R < t - at'
  ·rw[zqJ c1,zqJ c1];rfl
  rw[zqt c1,zqt c1];refine qF (zi rfl (zb ?_));by_cases c2:dlt last n<=-L∨L<=dlt last n
  ·rw[zqJ c2,zqJ c2];exact za (zf rfl (za rfl))
  rw[zqt c2,zqt c2];refine za (zi rfl ?_);rw[zpB hs hl hn (by omega),zq];by_cases c3:0 < dlt last n
  ·rw[zqJ c3,zqt (show ¬dlt last n<=0 by omega)];refine zi rfl ?_;rw[zoP hL hs hl hn c3 (by omega),zq];exact zf rfl (za rfl)
  rw[zqt c3,zqJ (show dlt last n<=0 by omega)];by_cases c4:s.testBit (-dlt last n).toNat=true
  ·rw[zqJ c4,zqJ c4];exact zf rfl (za rfl)
  ·rw[zqt c4,zqt c4];exact zf rfl (za rfl)
 show zt (opt (xl ((mkR L R any last at' s,n,t),())) _) _;rw[hdec,zq];refine za ?_;cases(yX L R any last at' s n t).2<;>rfl
end Go.Proofs.YtlfkgkedfciccaaGreat.nd
namespace Go.Proofs.YtlfkgkedfciccaaGreat.nd
open Go Go.Fz Go.Fz.Sy
def uQ(p:Nat->Bool)(n:Nat):Nat->Nat
 |0=>0
 |k+1=>2*uQ p n k+(p (n - 1 - k)).toNat
theorem Pd(p:Nat->Bool)(n:Nat):∀(k m:Nat),k<=n->(uQ p n k).testBit m=(decide (m < k)&&p (n - k+m))
 |0,m,_=>by simp[uQ]
 |k+1,m,h=>by
  have ih:=Pd p n k;have hb:(p (n - 1 - k)).toNat < 2:=by cases p (n - 1 - k)<;>decide
  cases m with
  |zero=>
   grind[Nat.testBit_zero,uQ]
  |succ m=>
   rw[Nat.testBit_succ];have e:uQ p n (k+1) / 2=uQ p n k:=by show(2*uQ p n k+(p (n - 1 - k)).toNat) / 2=uQ p n k;omega
   grind
theorem zhD(p:Nat->Bool)(n:Nat):∀k,uQ p n k < 2 ^ k
 |0=>by simp[uQ]
 |k+1=>by
  have ih:=zhD p n k;have hb:(p (n - 1 - k)).toNat < 2:=by cases p (n - 1 - k)<;>decide
  grind[uQ,Nat.pow_succ]
def gi(s:Nat)(d:Int)(i:Nat):Bool:=(bif zg 0 d then decide (i=0)else decide ((i:Int) = -d))||(decide ((if 0 < d then d else 0)<=(i:Int))&&s.testBit ((i:Int) - (if 0 < d then d else 0)).toNat)
theorem zlf{s L k:Nat}(hs:s < 2 ^ L)(hk:k < L):uQ (gi s (-(k:Int))) L L=s||| 2 ^ k:=by refine zsD fun i=>?_;rw[Pd _ _ _ _ (FW _),Nat.testBit_or,Nat.testBit_two_pow];grind[gi,zD,zrO,zqB,zra]
theorem zjo{s L k:Nat}(hs:s < 2 ^ 64)(hL:L<=64)(hL1:0 < L)(hk:0 < k):uQ (gi s (k:Int)) L L=ahead L s k:=by
 refine zsD fun i=>?_;rw[Pd _ _ _ _ (FW _)];unfold ahead gi;rw[ztE,Nat.testBit_or,zsA,Nat.testBit_mod_two_pow,<-Nat.shiftLeft_eq,Nat.testBit_shiftLeft,zI (by omega)];simp only[show 0 < (k:Int) by omega,zqG,zqL,ztx,zrr];have h1:Nat.testBit 1 i=decide (i=0):=by
  cases i with
  |zero=>rfl
  |succ i=>rw[Nat.testBit_succ];simp
 grind
theorem zjp{L R:Int}{any:Bool}{last at':Int}{s:Nat}{n t:Int}(hr:GX L R any last at' s)(hn:inP n 0 65535)(ht:inP t 0 1099511627776):gz (mkR L R any last at' s,n,t,())=some ((yX L R any last at' s n t).1,(yX L R any last at' s n t).2,()):=by
 have hL:=hr.1;obtain⟨l1,l2⟩:=id hL;obtain⟨n1,n2⟩:=id hn;obtain⟨t1,t2⟩:=id ht;have hl:inP last 0 65535:=by
  rcases hr.2.2 with h | h
  ·exact⟨by omega,by omega⟩
  ·exact h.2.1
 have hat:inP at' 0 1099511627776:=by
  rcases hr.2.2 with h | h
  ·exact⟨by omega,by omega⟩
  ·exact h.2.2.1
 obtain⟨a1,a2⟩:=id hat
 obtain⟨b1,b2⟩:=id hl;rw[Ip];unfold px;delta lnC w6C upC aTC nxC exC lpC jzC;cases any with
 |true=>
  have e:yX L R true last at' s n t=((L,R,false,n,t,1),true):=by grind[yX]
  rw[e];exact qF (zb (zf rfl (za (zu (za rfl)))))
 |false=>
 have hsL:s < 2 ^ L.toNat:=by rcases hr.2.2 with h | h;all_goals grind
 have hs:s < 2 ^ 64:=zqB hsL (zra (by decide) (by omega));refine qF (zb (zi rfl ?_));show zt (bif zg R (wrF .i64 (t - at'))then _ else _) _;rw[zR (z:=t - at') (by omega) (by omega)];refine zd (fun h=>za (zu (za ?_))) fun h=>za (zx ?_)
 ·have:=zT h;grind[yX]
 have c1:¬(false=true∨R < t - at'):=by have:=zN h;simp;omega
 show zt (opt (kK (last,n,())) _) _;rw[zcg hl hn,zq];refine zb ?_;show zt (bif(!(zg (wrF .i64 (0 - L)) (dlt last n)))then _ else bif(!(zg (dlt last n) L))then _ else _) _;rw[zR (z:=0 - L) (by omega) (by omega)];refine zd (fun h=>za (zu (za ?_))) fun h=>zd (fun h2=>za (zu (za ?_))) fun h2=>za (zx ?_)
 ·have:=zN (qK.1 h);grind[yX]
 ·have:=zN (qK.1 h2);grind[yX]
 have d1:=zT (qC.1 h);have d2:=zT (qC.1 h2);have c2:¬(dlt last n<=-L∨L<=dlt last n):=by omega
 refine zk (J:=fun x=>(x.1=0∧¬(dlt last n<=0∧s.testBit (-dlt last n).toNat=true))∨(x.1=1∧x.2.1.1=mkR L R false last at' s∧x.2.1.2.1=false∧dlt last n<=0∧s.testBit (-dlt last n).toNat=true)) ?_ ?_
 ·refine zd (fun h3=>?_) fun h3=>za (.inl ⟨rfl,fun h=>?_⟩)
  ·have h3:=zN (qK.1 h3);have h3:dlt last n<=0:=h3;show zt (opt (xe ((s:Int),wrF .i64 (0 - dlt last n),())) _) _;rw[zR (by omega) (by omega),show 0 - dlt last n=(((-dlt last n).toNat:Nat):Int) by omega,HK hs (by omega),zq];grind[za,dlt]
  ·have h3:0 < dlt last n:=zT (qC.1 h3);omega
 rintro⟨c,⟨y1,y2,⟨⟩⟩,⟨⟩⟩ (⟨rfl,hA⟩ | ⟨rfl,rfl,rfl,hA,hB⟩);rotate_left
 ·refine zu (za ?_);grind[yX]
 refine zx (zk (J:=fun x=>x.2.1.1=(if 0 < dlt last n then n else last)) ?_ ?_)
 ·refine zd (fun h3=>za ?_) fun h3=>za ?_
  ·have h3:0 < dlt last n:=zT h3;rw[zqJ h3]
  ·have h3:dlt last n<=0:=zN h3;grind
 rintro⟨c,⟨y3,⟨⟩⟩,⟨⟩⟩ hy;simp only at hy;have hy3:inP y3 0 65535:=by grind
 obtain⟨y4,y5⟩:=id hy3;have hLn:(L.toNat:Int)=L:=by omega
 refine zk (J:=fun x=>x.2.1.1=((uQ (gi s (dlt last n)) L.toNat L.toNat:Nat):Int)) (zX L.toNat (fun k st=>st=((((uQ (gi s (dlt last n)) L.toNat k:Nat):Int),(L - 1 - k,())),())) (by omega) ?_ ?_ ?_) ?_
 ·grind[wrF,zR,uQ]
 ·rintro k _ hk rfl;obtain⟨i,hi⟩:∃i:Nat,L - 1 - k=(i:Int):=⟨(L - 1 - k).toNat,by omega⟩;have hik:L.toNat - 1 - k=i:=by omega
  rw[hi];refine zf (by grind[zD]) ?_;show zt (opt (Zv (y3,wrF .i64 (0 - (i:Int)),())) _) _;rw[zR (by omega) (by omega),zcf (by omega) (by omega) (by omega) (by omega),zq];generalize hm:(y3+(0 - (i:Int))) % 65536=m;have hmP:inP m 0 65535:=⟨by omega,by omega⟩;show zt (opt (kK (last,m,())) _) _;rw[zcg hl hmP,zq];have hdm:dlt last m=(if 0 < dlt last n then dlt last n else 0) - i:=by grind[dlt]
  have hmn:m=n↔(bif zg 0 (dlt last n)then decide (i=0)else decide ((i:Int) = -dlt last n))=true:=by grind[dlt,zI,zD]
  have hb : -dlt last m=(i:Int) - (if 0 < dlt last n then dlt last n else 0):=by omega
  have fin:∀b:Bool,b=gi s (dlt last n) i->∀z:Int,z=wrF .u64 ((uQ (gi s (dlt last n)) L.toNat k:Nat)*2:Int)->(b=true->zt (some (.inr ((wrF .u64 (z+1),(wrF .i64 ((i:Int) - 1),())),()):(Nat×((Int×(Int×Unit))×Unit)) ⊕ ((Int×(Int×Unit))×Unit))) (Nxt (fun x=>x.2.1.1=((uQ (gi s (dlt last n)) L.toNat L.toNat:Nat):Int)) fun st=>st=((((uQ (gi s (dlt last n)) L.toNat (k+1):Nat):Int),(L - 1 - ((k+1:Nat):Int),())),())))∧
    (b=false->zt (some (.inr ((z,(wrF .i64 ((i:Int) - 1),())),()):(Nat×((Int×(Int×Unit))×Unit)) ⊕ ((Int×(Int×Unit))×Unit))) (Nxt (fun x=>x.2.1.1=((uQ (gi s (dlt last n)) L.toNat L.toNat:Nat):Int)) fun st=>st=((((uQ (gi s (dlt last n)) L.toNat (k+1):Nat):Int),(L - 1 - ((k+1:Nat):Int),())),()))):=by
   rintro b hb2 z rfl
   have hlt:=zhD (gi s (dlt last n)) L.toNat (k+1)
   have hle:2 ^ (k+1)<=2 ^ 64:=zra (by decide) (by omega)
   have hst:uQ (gi s (dlt last n)) L.toNat (k+1)=2*uQ (gi s (dlt last n)) L.toNat k+b.toNat:=by rw[hb2,<-hik];rfl
   have h64:uQ (gi s (dlt last n)) L.toNat (k+1) < 18446744073709551616:=by rw[<-p64];omega
   rw[hst]at h64 ⊢
   generalize uQ (gi s (dlt last n)) L.toNat k=q at h64
   grind[wrF,zR,FP,za,qj,Bool.toNat_true,Bool.toNat_false]
  show zt (bif(!(zg (wrF .i64 (0 - dlt last m)) 0))then bif(zg (wrF .i64 (0 - dlt last m)) L)then _ else _ else _) _;have hdb:=zpA last m;rw[zR (z:=0 - dlt last m) (by omega) (by omega)];have ez:(0 - dlt last m)=(i:Int) - (if 0 < dlt last n then dlt last n else 0):=by omega
  rw[ez];have fin2:=fin _ rfl _ rfl;have step:∀x9:Bool,gi s (dlt last n) i=((bif zg 0 (dlt last n)then decide (i=0)else decide ((i:Int) = -dlt last n))||x9)->(m=n->gi s (dlt last n) i=true)∧(m≠n->gi s (dlt last n) i=x9):=by grind
  refine zd (fun h3=>zd (fun h4=>?_) fun h4=>?_) fun h3=>?_
  ·have h3:=zN (qK.1 h3);obtain⟨j,hj⟩:∃j:Nat,(i:Int) - (if 0 < dlt last n then dlt last n else 0)=(j:Int):=⟨((i:Int) - (if 0 < dlt last n then dlt last n else 0)).toNat,by omega⟩;rw[hj];have h4:=zT h4;rw[hj]at h4;show zt (opt (xe ((s:Int),(j:Int),())) _) _;rw[HK hs (by omega),zq];have e9:gi s (dlt last n) i=((bif zg 0 (dlt last n)then decide (i=0)else decide ((i:Int) = -dlt last n))||s.testBit j):=by unfold gi;rw[hj,zqQ,zsx (p:=(if 0 < dlt last n then dlt last n else 0)<=(i:Int)) (by omega),zrT]
   grind[zb,za,qg,qn,trans]
  ·have h4:=zN h4;omega
  ·have h3:=zT (qC.1 h3);grind[gi,dlt,zg,decide,zso,zb,za,qg,qn]
 ·grind[zI,za,zw]
 rintro⟨c,⟨y6,y7,⟨⟩⟩,⟨⟩⟩ h;simp only at h;subst h;refine za ?_;show((L,(R,(false,(y3,(t,((uQ (gi s (dlt last n)) L.toNat L.toNat:Nat):Int)))))),true,())=_;unfold yX;rw[zqt c1,zqt c2];by_cases h:0 < dlt last n
 ·grind[dlt,zjo]
 ·rw[zqJ (by omega),zqt fun h2=>hA ⟨by omega,h2⟩,hy,zqt h];obtain⟨k,hk⟩:∃k:Nat,-dlt last n=k:=⟨(-dlt last n).toNat,by omega⟩;rw[show dlt last n = -(k:Int) by omega,zlf hsL (by omega)];grind
end Go.Proofs.YtlfkgkedfciccaaGreat.nd
namespace Go.Proofs.YtlfkgkedfciccaaGreat.nd
open Go Go.Fz Go.Fz.Sy Go.Proofs.YtlfkgkedfciccaaGreat.ad
variable {m:Int×Int×Int} {c:Int×Int} {p:Int×Int} {b:Int×Int} {s:Int×Int} {at':Int} {size:Int}
theorem zjq(h:UL c p m=0):yF c∧yF p∧inP m.1 0 1099511627776∧inP m.2.1 0 (c.1*1048576)∧inP m.2.2 0 (p.1*1048576):=by grind[zga,UL,wM,zjj,wg,Yv,yF,qU,zg]
def ZX(c p:Int×Int)(m:Int×Int×Int)(at':Int):Int×Int:=(wK (c.1*1048576) (m.2.1+c.2*(at' - m.1)),wK (p.1*1048576) (m.2.2+p.2*(at' - m.1)))
def ZY(c p:Int×Int)(m:Int×Int×Int)(at' size:Int):Int×Int×Int×Int:=bif zg (ZX c p m at').2 (size*1048576)then(2,at',(ZX c p m at').1,(ZX c p m at').2)else bif zg (ZX c p m at').1 (size*1048576)then(1,at',(ZX c p m at').1,(ZX c p m at').2 - size*1048576)else(0,at',(ZX c p m at').1 - size*1048576,(ZX c p m at').2 - size*1048576)
theorem zbb{a b:Int}(ha:0<=a)(hb:0<=b):0<=wK a b∧wK a b<=a:=by rw[Km];omega
theorem zhE(h:UL c p m=0)(h1:m.1<=at')(h2:at'<=1099511627776) : wrF .i64 (at' - m.1)=at' - m.1∧wrF .i64 (c.1*1048576)=c.1*1048576∧wrF .i64 (p.1*1048576)=p.1*1048576∧wrF .i64 (c.2*(at' - m.1))=c.2*(at' - m.1)∧wrF .i64 (p.2*(at' - m.1))=p.2*(at' - m.1)∧wrF .i64 (m.2.1+c.2*(at' - m.1))=m.2.1+c.2*(at' - m.1)∧wrF .i64 (m.2.2+p.2*(at' - m.1))=m.2.2+p.2*(at' - m.1)∧(0<=(ZX c p m at').1∧(ZX c p m at').1<=1099511627776)∧(0<=(ZX c p m at').2∧(ZX c p m at').2<=1099511627776):=by
 obtain⟨hc,hp,⟨m0,m1⟩,⟨m2,m3⟩,⟨m4,m5⟩⟩:=zjq h;have ec:=GV hc;have ep:=GV hp;obtain⟨⟨c0,c1⟩,c2,c3⟩:=hc;obtain⟨⟨p0,p1⟩,p2,p3⟩:=hp;have qc:=QB (show 0<=c.2 by omega) c3 (show 0<=at' - m.1 by omega) (show at' - m.1<=1099511627776 by omega);have qp:=QB (show 0<=p.2 by omega) p3 (show 0<=at' - m.1 by omega) (show at' - m.1<=1099511627776 by omega);refine⟨zR (by omega) (by omega),ec,ep,zR (by omega) (by omega),zR (by omega) (by omega),zR (by omega) (by omega),zR (by omega) (by omega),?_,?_⟩
 ·have:=zbb (a:=c.1*1048576) (b:=m.2.1+c.2*(at' - m.1)) (by omega) (by omega);grind[ZX]
 ·have:=zbb (a:=p.1*1048576) (b:=m.2.2+p.2*(at' - m.1)) (by omega) (by omega);grind[ZX]
theorem zpC(h:UL c p m=0)(h1:m.1<=at')(h2:at'<=1099511627776)(h3:inP size 1 1048576):Qx (c,p,m,at',size,())=some ((ZY c p m at' size).1,(ZY c p m at' size).2,0,()):=by
 obtain⟨w1,w2,w3,w4,w5,w6,w7,⟨g0,g1⟩,⟨g2,g3⟩⟩:=zhE h h1 h2;obtain⟨s0,s1⟩:=h3;have w8:wrF .i64 (size*1048576)=size*1048576:=zR (by omega) (by omega);have hg:ym (m.2,c,p,at' - m.1,())=some (ZX c p m at',()):=by rw[iO];unfold Up;delta lnC w6C upC aTC nxC exC lpC jzC;rw[ma];unfold fo;delta lnC w6C upC aTC nxC exC lpC jzC;rw[w2,w3,zq,w4,w5,w6,w7];rfl
 rw[SS];unfold fP;delta lnC w6C upC aTC nxC exC lpC jzC;rw[zf7,h,zq];refine qF (zi rfl (zb (zi (zD (show ¬at' < m.1 by omega)) (zi (zD (by omega)) (zi (zD (by omega)) (zi (zD (by omega)) (za (zx ?_))))))));rw[nr];grind[Wi,zt,opt,ym,wrF,zq,ZY,zg,ZX,za,zN,zR]
theorem znb(h:UL c p m=0)(h1:m.1<=at')(h2:at'<=1099511627776)(h3:inP size 1 1048576):Yr (c,p,m,at',size,())=some ((ZY c p m at' size).1,(ZY c p m at' size).2,0,()):=by obtain⟨w1,w2,w3,w4,w5,w6,w7,⟨g0,g1⟩,⟨g2,g3⟩⟩:=zhE h h1 h2;have hs:=h3;obtain⟨s0,s1⟩:=h3;have w8:wrF .i64 (size*1048576)=size*1048576:=zR (by omega) (by omega);rw[Te];unfold Fw;delta lnC w6C upC aTC nxC exC lpC jzC;rw[zcb,h,zq,zf6,zf6,w1,w2,w3,w4,w5,w6,w7,w8,qU (show inP at' m.1 1099511627776 from⟨h1,h2⟩),qU hs];refine qF (zi rfl (zb (zb (za (zi rfl (zb (za (zi rfl (za (zx ?_))))))))));grind[ZY,zt,zg,ZX,wrF,za,zN,zR]
theorem zlg{a c:Int}(a0:0<=a)(a1:a < 4294967296)(c0:0 < c)(c1:c<=4294967296):JP (a,c,())=some (cl c a,true,()):=by
 have hq:0<=a / c:=zrR a0 (by omega);have hq2:a / c<=a:=zsj _ a0;have hr:=zrc a (show c≠0 by omega);have hr2:=zqS a c0;have hde:=zsa a c;have hcl:cl c a=if a % c=0 then a / c else a / c+1:=by
  unfold cl;split
  ·rename_i h;have e:a+c - 1=(c - 1)+(a / c)*c:=by rw[Int.mul_comm _ c];omega
   rw[e,zsr _ _ (by omega),zrW (by omega) (by omega)];omega
  ·rename_i h;have e:a+c - 1=(a % c - 1)+(a / c+1)*c:=by rw[Int.add_mul,Int.mul_comm _ c];omega
   rw[e,zsr _ _ (by omega),zrW (by omega) (by omega)];omega
 have hM:ke (a,())=some (a,()):=by rw[bg];unfold Uz;delta lnC w6C upC aTC nxC exC lpC jzC;rw[zD (by omega),zqD,FP (z:=a) (by omega) (by omega)]
 have hM2:ke (-1,())=some (1,()):=by rw[bg];unfold Uz;delta lnC w6C upC aTC nxC exC lpC jzC;rw[zI (by omega),zqL,show(0:Int) - -1=1 from rfl,zR (z:=1) (by omega) (by omega),FP (z:=1) (by omega) (by omega)]
 rw[Ow];unfold Bi;delta lnC w6C upC aTC nxC exC lpC jzC;have key:UA (a,-1,c,())=some (-cl c a,true,()):=by
  rw[SZ];unfold Fj;delta lnC w6C upC aTC nxC exC lpC jzC;rw[mA (by simp) (by simp;omega)];refine qF (zb (zi (zD (show ¬c < 1 by omega)) (za (zx ?_))));rw[hM,zq,hM2,zq,Cl a0 a1 (by omega) (by omega),zq,FP (z:=c) (by omega) (by omega),Int.mul_one];refine zi (by rw[zI (show(0:Int) < c by omega)];rfl) ?_;rw[Cm a0 (by omega) c0,zq];refine zi (zD (show ¬1125899906842624 < a / c by omega)) ?_;rw[zD (show ¬a < 0 by omega),zI (show(-1:Int) < 0 by omega),hcl];refine zb (zf rfl (zb ?_));rw[zR (z:=a / c) (by omega) (by omega),zR (z:=0 - a / c) (by omega) (by omega),zR (z:=0 - a / c - 1) (by omega) (by omega)];refine zd (fun h2=>za (za ?_)) (fun h2=>za (za ?_))
  ·have:=qn (qK.1 h2);show zt (opt (Zt (0 - a / c - 1,())) _) _;rw[zqt this,mB (by omega) (by omega)];refine za ?_;show(0 - a / c - 1,true,())=(-(a / c+1),true,());rw[show 0 - a / c - 1 = -(a / c+1) by omega]
  ·have:=qg (qC.1 h2);show zt (opt (Zt (0 - a / c,())) _) _;rw[zqJ this,mB (by omega) (by omega)];refine za ?_;show(0 - a / c,true,())=(-(a / c),true,());rw[show 0 - a / c = -(a / c) by omega]
 grind[zq,wrF,cl,zdH,zR]
def lvl(b s:Int×Int)(t:Int):Int:=wK (b.1*1048576) (s.2+b.2*(t - s.1))
def elT(b s:Int×Int)(at' size:Int):Int:=jS at' s.1+cl b.2 (jS 0 (size*1048576 - lvl b s (jS at' s.1)))
def gk(b s:Int×Int)(at' size:Int):Int×(Int×Int)×Int:=bif zg b.1 size then(0,(0,0),4)else bif zg 1099511627776 (elT b s at' size)then(0,(0,0),6)else(elT b s at' size,(elT b s at' size,lvl b s (elT b s at' size) - size*1048576),0)
theorem zch(hb:yF b)(hs:iy b s):sy b s=0:=by grind[sy,qU]
structure ElB(b s:Int×Int)(at' size:Int):Prop where
 t0:0<=jS at' s.1
 t1:jS at' s.1<=1099511627776
 ts:s.1<=jS at' s.1
 l0:0<=lvl b s (jS at' s.1)
 l1:lvl b s (jS at' s.1)<=1099511627776
 s0:0<=jS 0 (size*1048576 - lvl b s (jS at' s.1))
 s1:jS 0 (size*1048576 - lvl b s (jS at' s.1))<=1616904192
 c0:0<=cl b.2 (jS 0 (size*1048576 - lvl b s (jS at' s.1)))
 c1:cl b.2 (jS 0 (size*1048576 - lvl b s (jS at' s.1)))<=1616904193
 lv:∀t,s.1<=t->t<=1101128531969->wrF .i64 (t - s.1)=t - s.1∧wrF .i64 (b.2*(t - s.1))=b.2*(t - s.1)∧wrF .i64 (s.2+b.2*(t - s.1))=s.2+b.2*(t - s.1)∧0<=lvl b s t∧lvl b s t<=1099511627776
theorem elB(hb:yF b)(hs:iy b s)(h1:inP at' 0 1099511627776)(h2:inP size 84 1542):ElB b s at' size:=by
 obtain⟨⟨b0,b1⟩,b2,b3⟩:=hb;obtain⟨⟨s0,s1⟩,s2,s3⟩:=hs;obtain⟨a0,a1⟩:=h1;obtain⟨z0,z1⟩:=h2;have lv:∀t,s.1<=t->t<=1101128531969->wrF .i64 (t - s.1)=t - s.1∧wrF .i64 (b.2*(t - s.1))=b.2*(t - s.1)∧wrF .i64 (s.2+b.2*(t - s.1))=s.2+b.2*(t - s.1)∧0<=lvl b s t∧lvl b s t<=1099511627776:=by intro t t0 t1;have q:=QB (show 0<=b.2 by omega) b3 (show 0<=t - s.1 by omega) (show t - s.1<=1101128531969 by omega);have:=zbb (a:=b.1*1048576) (b:=s.2+b.2*(t - s.1)) (by omega) (by omega);grind[zR,lvl]
 have hm:=HC at' s.1;have t0:0<=jS at' s.1:=by omega
 have t1:jS at' s.1<=1099511627776:=by omega
 have ts:s.1<=jS at' s.1:=by omega
 obtain⟨_,_,_,l0,l1⟩:=lv _ ts (by omega);have hx:=HC 0 (size*1048576 - lvl b s (jS at' s.1));have c:=zdH (d:=b.2) (w:=jS 0 (size*1048576 - lvl b s (jS at' s.1))) (M:=1616904192) (by omega) (by omega) (by omega);exact⟨t0,t1,ts,l0,l1,by omega,by omega,c.1,by omega,lv⟩
theorem zpD(hb:yF b)(hs:iy b s)(h1:inP at' 0 1099511627776)(h2:inP size 84 1542):xS (b,s,at',size,())=some ((gk b s at' size).1,(gk b s at' size).2.1,(gk b s at' size).2.2,()):=by
 have B:=elB hb hs h1 h2;have eb:=GV hb;obtain⟨_,b2,b3⟩:=id hb;obtain⟨a0,a1⟩:=h1;obtain⟨z0,z1⟩:=h2;have w8:wrF .i64 (size*1048576)=size*1048576:=zR (by omega) (by omega);rw[Ce];unfold fX;delta lnC w6C upC aTC nxC exC lpC jzC;rw[zf8,zch hb hs,zq];refine qF (zi rfl (zb (zi (zD (by omega)) (zi (zD (by omega)) (zi (zD (by omega)) (zi (zD (by omega)) (za (zx ?_))))))));unfold gk;cases e0:zg b.1 size with
 |true=>exact za rfl
 |false=>
  refine zi rfl ?_;have he:Ji (b,s,at',size,())=some (elT b s at' size,(elT b s at' size,lvl b s (elT b s at' size) - size*1048576),()):=by
   rw[Cc];unfold fV;delta lnC w6C upC aTC nxC exC lpC jzC;obtain⟨w1,w2,w3,w4,w5⟩:=B.lv _ B.ts (by have:=B.t1;omega);have hl0:=B.l0;have hl1:=B.l1;have hs0:=B.s0;have hs1:=B.s1;have hc0:=B.c0;have hc1:=B.c1;have ht0:=B.t0;have ht1:=B.t1;have hts:=B.ts;rw[w8,eb,w1,w2,w3];show opt (JP (jS 0 (wrF .i64 (size*1048576 - lvl b s (jS at' s.1))),b.2,())) _=_;rw[zR (z:=size*1048576 - lvl b s (jS at' s.1)) (by omega) (by omega),zlg hs0 (by omega) (by omega) (by omega),zq];have hT:wrF .i64 (jS at' s.1+cl b.2 (jS 0 (size*1048576 - lvl b s (jS at' s.1))))=elT b s at' size:=by rw[zR (by omega) (by omega)];rfl
   simp only[hT];have hTb:s.1<=elT b s at' size∧elT b s at' size<=1101128531969:=by unfold elT;omega
   obtain⟨v1,v2,v3,v4,v5⟩:=B.lv _ hTb.1 hTb.2;rw[v1,v2,v3];show some (elT b s at' size,(elT b s at' size,wrF .i64 (lvl b s (elT b s at' size) - size*1048576)),())=_;rw[zR (by omega) (by omega)]
  grind[zq,zt,zg,elT,za]
theorem znc(hb:yF b)(hs:iy b s)(h1:inP at' 0 1099511627776)(h2:inP size 84 1542):gX (b,s,at',size,())=some ((gk b s at' size).1,(gk b s at' size).2.1,(gk b s at' size).2.2,()):=by
 have B:=elB hb hs h1 h2;have eb:=GV hb;obtain⟨_,b2,b3⟩:=id hb;obtain⟨a0,a1⟩:=h1;obtain⟨z0,z1⟩:=h2;have w8:wrF .i64 (size*1048576)=size*1048576:=zR (by omega) (by omega);have hl0:=B.l0;have hl1:=B.l1;have hs0:=B.s0;have hs1:=B.s1;have hc0:=B.c0;have hc1:=B.c1;have ht0:=B.t0;have ht1:=B.t1;have hts:=B.ts;have hlev:∀t,s.1<=t->t<=1101128531969->Zw (b,s,t,())=some (lvl b s t,()):=fun t q1 q2=>by obtain⟨w1,w2,w3,w4,w5⟩:=B.lv t q1 q2;rw[OJ];unfold BB;delta lnC w6C upC aTC nxC exC lpC jzC;rw[eb,w1,w2,w3];rfl
 rw[Ci];unfold ia;delta lnC w6C upC aTC nxC exC lpC jzC;rw[zcc,zch hb hs,zq];refine qF (zi rfl (zb (zi (zD (by omega)) (zi (zD (by omega)) (zi (zD (by omega)) (zi (zD (by omega)) (za (zx ?_))))))));unfold gk;cases e0:zg b.1 size with
 |true=>exact za rfl
 |false=>
  refine zi rfl ?_;rw[hlev _ hts (by omega),zq,w8];show zt (opt (bif zg 0 (wrF .i64 (size*1048576 - lvl b s (jS at' s.1)))then _ else _) _) _;rw[zR (z:=size*1048576 - lvl b s (jS at' s.1)) (by omega) (by omega)];have hx:=HC 0 (size*1048576 - lvl b s (jS at' s.1));have hTb:s.1<=elT b s at' size∧elT b s at' size<=1101128531969:=by unfold elT;omega
  refine zk (J:=fun x=>x.2.1.1=elT b s at' size) ?_ ?_
  ·refine zd (fun h=>?_) fun h=>za ?_
   ·have h:=zT h;grind[zt,opt,uL,lvl,jS,GR,zq,za,wrF,cl,elT,zR]
   ·have h:=zN h;have e:jS 0 (size*1048576 - lvl b s (jS at' s.1))=0:=by omega
    show jS at' s.1=_;unfold elT;rw[e];have:cl b.2 0=0:=by unfold cl;rw[Int.zero_add];exact zrW (by omega) (by omega)
    omega
  ·rintro⟨c,⟨y1,⟨⟩⟩,⟨⟩⟩ hy;simp only at hy;subst hy;show zt (bif zg 1099511627776 (elT b s at' size)then _ else _) _;cases e1:zg 1099511627776 (elT b s at' size)with
   |true=>exact za rfl
   |false=>
    refine zi rfl ?_;show zt (opt (Zw (b,s,elT b s at' size,())) _) _;rw[hlev _ hTb.1 hTb.2,zq];refine za ?_;obtain⟨v1,v2,v3,v4,v5⟩:=B.lv _ hTb.1 hTb.2;grind[elT,wrF,lvl,zR]
end Go.Proofs.YtlfkgkedfciccaaGreat.nd
end
