/- Parts of a proof, joined. -/
import Derived.Test.YtplhphmbkmpocaaGreatE96
set_option linter.unusedSectionVars false
set_option linter.unusedVariables false
set_option linter.unusedSimpArgs false
set_option maxHeartbeats 0
set_option maxRecDepth 100000
noncomputable section
namespace Go.Proofs.YtplhphmbkmpocaaGreat.ad
open Go Go.Fz Go.Fz.Sy
def qP (C per y:Int):Int:=y*1048576 / (C*per)
theorem Gx {a b A B:Int} (h0:0≤a) (h1:a≤A) (h2:0≤b) (h3:b≤B):0≤a*b∧a*b≤A*B:=⟨Int.mul_nonneg h0 h2,Int.mul_le_mul h1 h3 h2 (by omega)⟩
structure RtC (C per y:Int):Prop where
 c0:1≤C
 c1:C≤9600000
 p0:1≤per
 p1:per≤1000
 y0:0≤y
 y1:y≤C
theorem RtC.cp {C per y:Int} (h:RtC C per y):1≤C*per∧C*per≤9600000000:=by
 have:=Gx (show 0≤C by have:=h.c0;omega) h.c1 (show 0≤per by have:=h.p0;omega) h.p1
 have h1:1*1≤C*per:=Int.mul_le_mul h.c0 h.p0 (by omega) (by have:=h.c0;omega)
 omega
theorem RtC.rate {C per y:Int} (h:RtC C per y):wrF .i64 (Int.tdiv (wrF .i64 (y*1048576)) (wrF .i64 (C*per)))=qP C per y∧0≤qP C per y∧qP C per y*(C*per)≤y*1048576:=by
 have:=h.cp;have:=h.c1;have:=h.y0;have:=h.y1
 have h1:0≤qP C per y:=Int.ediv_nonneg (by omega) (by omega)
 have h2:qP C per y≤y*1048576:=Int.ediv_le_self _ (by omega)
 refine ⟨?_,h1,Int.ediv_mul_le _ (by omega)⟩
 rw [zy (z:=y*1048576) (by omega) (by omega),zy (z:=C*per) (by omega) (by omega),Int.tdiv_eq_ediv_of_nonneg (by omega)]
 show wrF .i64 (qP C per y)=_
 rw [zy (by omega) (by omega)]
theorem RtC.rp {C per y:Int} (h:RtC C per y) (hr:1≤qP C per y):qP C per y≤1048576∧per≤qP C per y*per∧qP C per y*per≤1048576:=by
 obtain ⟨_,_,h2⟩:=h.rate
 have hc:=h.c0;have hp:=h.p0;have hy:=h.y1
 have h3:per≤qP C per y*per:=by
  have:=Int.mul_le_mul_of_nonneg_right hr (show 0≤per by omega)
  omega
 have h4:qP C per y*per≤1048576:=by
  have e:qP C per y*(C*per)=C*(qP C per y*per):=by rw [←Int.mul_assoc,Int.mul_comm (qP C per y) C,Int.mul_assoc]
  have:C*(qP C per y*per)≤C*1048576:=by omega
  exact Int.le_of_mul_le_mul_left this (by omega)
 have h5:qP C per y≤qP C per y*per:=by
  have:=Int.mul_le_mul_of_nonneg_left hp (show 0≤qP C per y by omega)
  omega
 exact ⟨by omega,h3,h4⟩
theorem zpK {per rp:Int} (p0:1≤per) (p1:per≤1000) (h1:per≤rp) (h2:rp≤1048576):cl rp (127*per*1048576)=0 - (-127*per*1048576) / rp∧0≤cl rp (127*per*1048576)∧cl rp (127*per*1048576)≤133169152:=by
 have e:=zBW (d:=rp) (l:=0) (z:=-127*per*1048576) (by omega)
 rw [show 0*rp - -127*per*1048576=127*per*1048576 by omega] at e
 refine ⟨e,Int.ediv_nonneg (by omega) (by omega),?_⟩
 have : -133169152≤(-127*per*1048576) / rp:=Int.le_ediv_of_mul_le (by omega) (by omega)
 omega
section
variable {g:Gts} {L:List (Int×Int)} {per most:Int}
def wV (g:Gts) (L:List (Int×Int)) (lost per rate:Int) (i j:Nat):Int:=(tt g L lost j - fr g L lost i)*rate*per - (snt g L lost i j - 127*per)*1048576
def vV (g:Gts) (L:List (Int×Int)) (lost per rate:Int) (i k:Nat):Int:=tt g L lost (i+1+k) - fr g L lost i - ((jk g L lost i k - 127*per)*1048576) / (rate*per)
theorem zDT {lost rate:Int} (h:0 < rate*per) (i k:Nat):vV g L lost per rate i k=cl (rate*per) (wV g L lost per rate i (i+1+k)):=by
 unfold vV wV snt
 rw [show i+1+k - i - 1=k by omega,Int.mul_assoc,zBW h]
noncomputable def zpL (g:Gts) (L:List (Int×Int)) (lost per rate:Int):Int:=mxN (fun _ _=>true) (vV g L lost per rate) L.length L.length (cl (rate*per) (127*per*1048576))
noncomputable def KQ (g:Gts) (L:List (Int×Int)) (lost per rate:Int):Int:=mxN (fun i j=>zi (fr g L lost i) (tt g L lost j)) (wV g L lost per rate) (2*L.length) L.length (127*per*1048576)
theorem zFg (hg:qz g) (hr:gn g L) (h:0 < L.length) {lost rate:Int} (hl:0 < lost) (h0:1≤per) (hrp:0 < rate*per) (hy:rate*(g.2*per)≤qV lost L*1048576):cl (rate*per) (KQ g L lost per rate)=zpL g L lost per rate:=by
 have ub1:=zmn (fun _ _=>true) (vV g L lost per rate) L.length L.length (cl (rate*per) (127*per*1048576))
 have ub2:=zmn (fun i j=>zi (fr g L lost i) (tt g L lost j)) (wV g L lost per rate) (2*L.length) L.length (127*per*1048576)
 have at1:=zmo (fun _ _=>true) (vV g L lost per rate) L.length L.length (cl (rate*per) (127*per*1048576))
 have at2:=zmo (fun i j=>zi (fr g L lost i) (tt g L lost j)) (wV g L lost per rate) (2*L.length) L.length (127*per*1048576)
 have fy:∀i,bX g L i≤fr g L lost i∧fr g L lost i < bY g L i:=fun i=>by have:=QN hr h i;unfold fr mn;omega
 have ty:∀i,bX g L i < tt g L lost i∧tt g L lost i≤bY g L i:=fun i=>by have:=QN hr h i;unfold tt mn;omega
 apply Int.le_antisymm
 ·show cl _ (mxN _ _ _ _ _)≤mxN _ _ _ _ _
  rcases at2 with e | ⟨i,j,hi,hj,hc,e⟩
  ·rw [e];exact ub1.1
  ·rw [e]
   have hc:=qp hc
   have hij:i≤j:=by
    apply Classical.byContradiction
    intro hn
    have:=zdx hr h (show j < i by omega)
    have:=fy i;have:=ty j;omega
   have viaK:∀k,k < L.length→cl (rate*per) (wV g L lost per rate i (i+1+k))≤mxN (fun _ _=>true) (vV g L lost per rate) L.length L.length (cl (rate*per) (127*per*1048576)):=fun k hk=>by
    rw [←zDT hrp];exact ub1.2 i k hi hk rfl
   rcases Nat.lt_or_ge i j with h1 | h1
   ·rcases Nat.lt_or_ge j (i+1+L.length) with h2 | h2
    ·have:=viaK (j - i - 1) (by omega)
     rwa [show i+1+(j - i - 1)=j by omega] at this
    ·
     have:=viaK (j - i - 1 - L.length) (by omega)
     refine Int.le_trans (zhR hrp ?_) this
     obtain ⟨k,rfl⟩:∃k,j=i+1+k+L.length:=⟨j - L.length - i - 1,by omega⟩
     rw [show i+1+k+L.length - i - 1 - L.length=k by omega]
     unfold wV snt
     rw [show i+1+k+L.length - i - 1=k+L.length by omega,show i+1+k - i - 1=k by omega,zgr,zBV h]
     obtain ⟨a1,a2⟩:=zrO g h (i+1+k)
     have et:tt g L lost (i+1+k+L.length)=tt g L lost (i+1+k)+g.2:=by unfold tt mn;omega
     rw [et]
     have e1:(tt g L lost (i+1+k)+g.2 - fr g L lost i)*rate*per=(tt g L lost (i+1+k) - fr g L lost i)*rate*per+rate*(g.2*per):=by
      rw [show tt g L lost (i+1+k)+g.2 - fr g L lost i=(tt g L lost (i+1+k) - fr g L lost i)+g.2 by omega,Int.add_mul,Int.add_mul,Int.mul_comm g.2 rate,Int.mul_assoc rate]
     rw [e1]
     omega
   ·have hj':j=i:=by omega
    subst hj'
    have:=viaK 0 h
    refine Int.le_trans (zhR hrp ?_) this
    unfold wV snt
    rw [show j+1+0 - j - 1=0 by omega,show j - j - 1=0 by omega]
    have h2:tt g L lost j - fr g L lost j≤tt g L lost (j+1+0) - fr g L lost j:=by
     have:=ty j;have:=ty (j+1+0)
     have:=zdx hr h (show j < j+1+0 by omega)
     omega
    have h3:(tt g L lost j - fr g L lost j)*(rate*per)≤(tt g L lost (j+1+0) - fr g L lost j)*(rate*per):=Int.mul_le_mul_of_nonneg_right h2 (by omega)
    rw [Int.mul_assoc,Int.mul_assoc]
    omega
 ·show mxN _ _ _ _ _≤cl _ (mxN _ _ _ _ _)
  rcases at1 with e | ⟨i,k,hi,hk,_,e⟩
  ·rw [e];exact zhR hrp ub2.1
  ·rw [e,zDT hrp]
   refine zhR hrp (ub2.2 i (i+1+k) hi (by omega) (zZ ?_))
   have:=fy i;have:=ty (i+1+k)
   have:=zdx hr h (show i < i+1+k by omega)
   omega
structure OfC (g:Gts) (L:List (Int×Int)) (per most:Int):Prop where
 hg:qz g
 ha:¬Ym g.1
 hr:gn g L
 h0:0 < L.length
 p0:1≤per
 p1:per≤1000
 m0:84≤most
 m1:most≤1542
 rt:1≤qP g.2 per (qV (most*per) L)
theorem OfC.lost (h:OfC g L per most):84≤most*per∧most*per≤1542000:=by
 have:=Gx (show 0≤most by have:=h.m0;omega) h.m1 (show 0≤per by have:=h.p0;omega) h.p1
 have h1:84*1≤most*per:=Int.mul_le_mul h.m0 h.p0 (by omega) (by have:=h.m0;omega)
 omega
theorem OfC.rc (h:OfC g L per most):RtC g.2 per (qV (most*per) L):=by
 have hl:=h.lost
 have hb:=XC (lost:=most*per) (by omega) (a:=at0 g) (b:=at0 g+g.2) (by have:=h.hg.pos;omega) h.hr.cv.bd h.hr.cv.pw
 exact ⟨h.hg.pos,h.hg.c1,h.p0,h.p1,hb.1,by omega⟩
theorem OfC.ft (h:OfC g L per most) {q:Nat} (hq:q < 2*L.length):(0≤fr g L (most*per) q∧fr g L (most*per) q≤30000000)∧(0≤tt g L (most*per) q∧tt g L (most*per) q≤30000000)∧1≤mn g L (most*per) q∧mn g L (most*per) q≤bY g L q - bX g L q:=by
 have:=zmm h.hg h.hr h.h0 hq
 have:=QN h.hr h.h0 q
 have hl:=h.lost
 unfold fr tt mn
 omega
theorem zDU (hg:qz g) (hr:gn g L):(L.length:Int)≤9600000:=by
 have hb:=XC (lost:=0) (by omega) (a:=at0 g) (b:=at0 g+g.2) (by have:=hg.pos;omega) hr.cv.bd hr.cv.pw
 have:=hg.c1
 omega
theorem zDt (h:OfC g L per most) {i k:Nat} (hk:k≤L.length) : -133169152000≤(jk g L (most*per) i k - 127*per)*1048576∧(jk g L (most*per) i k - 127*per)*1048576≤10066329600000∧-133169152≤((jk g L (most*per) i k - 127*per)*1048576) / (qP g.2 per (qV (most*per) L)*per)∧((jk g L (most*per) i k - 127*per)*1048576) / (qP g.2 per (qV (most*per) L)*per)≤10066329600000:=by
 have hl:=h.lost
 obtain ⟨r1,r2,r3⟩:=h.rc.rp h.rt
 have hs:=ztz h.hr h.h0 (lost:=most*per) (by omega) i hk
 have hc:=h.hg.c1;have:=h.p0;have:=h.p1
 have z1 : -133169152000≤(jk g L (most*per) i k - 127*per)*1048576:=by omega
 have z2:(jk g L (most*per) i k - 127*per)*1048576≤10066329600000:=by omega
 generalize hz:(jk g L (most*per) i k - 127*per)*1048576=z at z1 z2
 have z3 : -133169152*per≤z:=by omega
 generalize qP g.2 per (qV (most*per) L)*per=rp at r2 r3
 refine ⟨z1,z2,Int.le_ediv_of_mul_le (by omega) (by omega),?_⟩
 rcases Int.le_total 0 z with h | h
 ·exact Int.le_trans (Int.ediv_le_self _ h) z2
 ·have:z / rp≤0:=Int.ediv_nonpos_of_nonpos_of_neg h (by omega)
  omega
theorem zy6 (h:OfC g L per most):0≤zpL g L (most*per) per (qP g.2 per (qV (most*per) L))∧zpL g L (most*per) per (qP g.2 per (qV (most*per) L))≤268435456:=by
 obtain ⟨r1,r2,r3⟩:=h.rc.rp h.rt
 obtain ⟨b1,b2,b3⟩:=zpK h.p0 h.p1 r2 r3
 have ub:=zmn (fun _ _=>true) (vV g L (most*per) per (qP g.2 per (qV (most*per) L))) L.length L.length (cl (qP g.2 per (qV (most*per) L)*per) (127*per*1048576))
 have at1:=zmo (fun _ _=>true) (vV g L (most*per) per (qP g.2 per (qV (most*per) L))) L.length L.length (cl (qP g.2 per (qV (most*per) L)*per) (127*per*1048576))
 unfold zpL
 refine ⟨by omega,?_⟩
 rcases at1 with e | ⟨i,k,hi,hk,_,e⟩
 ·rw [e];omega
 ·rw [e]
  obtain ⟨_,_,z1,_⟩:=zDt h (i:=i) (k:=k) (by omega)
  have:=(h.ft (q:=i) (by omega)).1;have:=(h.ft (q:=i+1+k) (by omega)).2.1
  unfold vV
  omega
end
end Go.Proofs.YtplhphmbkmpocaaGreat.ad
namespace Go.Proofs.YtplhphmbkmpocaaGreat.ad
open Go Go.Fz Go.Fz.Sy
theorem Ky (g:Gts) {per most:Int} (p0:1≤per) (p1:per≤1000) (m0:84≤most) (m1:most≤1542):Zi (g,per,most,())=some (bif tv (qz g) then 0 else 370,()):=by
 rw [zlE];unfold zau
 rw [zaW,zD]
 by_cases hg:qz g
 ·rw [qf hg,zJ (show ¬per < 1 by omega),zJ (show ¬1000 < per by omega),zJ (show ¬most < 84 by omega),zJ (show ¬1542 < most by omega)];rfl
 ·rw [qu hg];rfl
theorem zb1 (g:Gts) {per most:Int} (p0:1≤per) (p1:per≤1000) (m0:84≤most) (m1:most≤1542):Vw (g,per,most,())=some (bif tv (qz g) then 0 else 370,()):=by
 rw [zrg];unfold zfj
 rw [zrJ,zD]
 by_cases hg:qz g
 ·rw [qf hg,zJ (show ¬per < 1 by omega),zJ (show ¬1000 < per by omega),zJ (show ¬most < 84 by omega),zJ (show ¬1542 < most by omega)];rfl
 ·rw [qu hg];rfl
theorem zBX {z:Nat} (h:z≤1000000000000):wrF .i64 (z:Int)=(z:Int):=by rw [zy]<;>omega
def asL (xs:List (Int×Int)):List (Int×Int):=xs.map fun p=>(p.1,p.1+p.2)
theorem zBY {g:Gts} {L xs:List (Int×Int)} (hx:asL xs=L) (h:0 < L.length) (q:Nat):∃p,xs[q % xs.length]?=some p∧bX g L q=p.1+((q / L.length:Nat):Int)*g.2∧bY g L q - bX g L q=p.2:=by
 have hl:xs.length=L.length:=by rw [←hx];unfold asL;simp
 have hm:q % xs.length < xs.length:=Nat.mod_lt _ (by omega)
 have hy:xs[q % xs.length]?=some (xs[q % xs.length]):=List.getElem?_eq_getElem hm
 refine ⟨_,hy,?_⟩
 have hL:L[q % L.length]?=some ((xs[q % xs.length]).1,(xs[q % xs.length]).1+(xs[q % xs.length]).2):=by
  rw [←hl,←hx];unfold asL
  rw [List.getElem?_map,hy];rfl
 unfold bX bY
 rw [hL]
 simp only [Option.getD_some]
 exact ⟨trivial,by omega⟩
section
variable {g:Gts} {L:List (Int×Int)} {per most:Int}
theorem zEH (h:OfC g L per most):xV (g,per,most,())=some ((qP g.2 per (qV (most*per) L),zpL g L (most*per) per (qP g.2 per (qV (most*per) L))),0,()):=by
 have hg:=h.hg;have ha:=h.ha;have hr:=h.hr;have hL0:=h.h0
 have p0:=h.p0;have p1:=h.p1;have m0:=h.m0;have m1:=h.m1
 have hlost:=h.lost
 obtain ⟨eR,r0,ry⟩:=h.rc.rate
 obtain ⟨r1,r2,r3⟩:=h.rc.rp h.rt
 obtain ⟨b1,b2,b3⟩:=zpK p0 p1 r2 r3
 have hrt:=h.rt
 have hcp:=h.rc.cp
 have hc:=hg.c1;have hp:=hg.pos;have hn:=hg.n1;have hn0:=hg.n0
 have hLC:=zDU hg hr
 have eM:wrF .i64 (most*per)=most*per:=zy (by omega) (by omega)
 have eRP:wrF .i64 (qP g.2 per (qV (most*per) L)*per)=qP g.2 per (qV (most*per) L)*per:=zy (by omega) (by omega)
 have hl:=zmj ha
 obtain ⟨e,hx,he,hen,h0⟩:=zmT hg ha
 have h0b:=zmk hg
 rw [zaA];unfold Vv
 rw [Ky g p0 p1 m0 m1,qf hg,zD,cond_true]
 refine kG ?_
 refine ze rfl ?_
 rw [eM,zbg hg ha hr (by omega) (by omega),zD]
 simp only [eR]
 refine ze (jS (show wrF .i64 (g.2*per)≠0 by rw [zy]<;>omega)) (ze (zJ (by omega)) ?_)
 generalize hy:qV (most*per) L=y at *
 generalize hrate:qP g.2 per y=rate at *
 rw [show wrF .i64 ((wrF .i64 (-127*per))*1048576) = -127*per*1048576 from by rw [zy (z:=-127*per) (by omega) (by omega),zy (by omega) (by omega)],eRP,Xg (by omega) (by omega) (by omega) (by omega),zD]
 refine zk (J:=fun x=>x.2.1=(at0 g,(((clo g.1:Nat):Int),()))∧x.2.2.1.1=[]) (zX (clo g.1) (fun i s=>s=((qA (g.1.take i),((i:Int),())),(([],()),((),((),()))))) (by omega) rfl ?_ ?_) ?_
 ·rintro i _ hi rfl
  have hy':g.1[i]?=some g.1[i]:=List.getElem?_eq_getElem (by omega)
  have hm:=List.getElem_mem (show i < g.1.length by omega)
  generalize g.1[i]=f at hy' hm
  have hf:=hg.el f hm
  have hb:=Qd (l:=g.1.take i) fun e he=>hg.el e (List.mem_of_mem_take he)
  have hbl:(g.1.take i).length≤128:=by simp;omega
  refine zf (zZ (show (i:Int) < (g.1.length:Int) by omega)) (zg (zC (n:=i) hy' ?_))
  rw [xa hf]
  refine zf (zfK _ i f hi hy') (zg (zC (n:=i) hy' (za (qj ?_))))
  show (((wrF .i64 (qA (g.1.take i)+f.2)),((wrF .i64 ((i:Int)+1)),())),(([],()),((),((),()))))=_
  have:=hf.2.2.1;have:=hf.2.2.2
  rw [uT hy',qv (by omega),zy (by omega) (by omega)]
 ·rintro _ rfl
  refine zf (zZ (show ((clo g.1:Nat):Int) < (g.1.length:Int) by omega)) (zg (zC (n:=clo g.1) hx ?_))
  rw [xa hen]
  exact ze he (za (zu ⟨rfl,rfl⟩))
 rintro ⟨j,⟨w,z,⟨⟩⟩,⟨c,⟨⟩⟩,⟨⟩,⟨⟩,⟨⟩⟩ ⟨hv,hc'⟩
 simp only [Prod.mk.injEq,and_true] at hv hc'
 obtain ⟨rfl,rfl⟩:=hv
 subst hc'
 refine ze (jS (show ((clo g.1:Nat):Int)≠(g.1.length:Int) by omega)) (zg (zC (n:=clo g.1) hx ?_))
 have hm:clo g.1 % g.1.length=clo g.1:=Nat.mod_eq_of_lt hl
 have hts:=zfJ hg (k:=clo g.1) (e:=e) (by rw [hm];exact hx)
 have hA:=zrN hg (k:=clo g.1+1) (by omega)
 refine zk (J:=fun x=>x.1=0∧asL x.2.2.1.1=L) (zX g.1.length (fun i s=>∃now xs,s=((now,(tAt g (clo g.1+1+i),((i:Int),()))),((xs,()),((),((),()))))∧xs.length≤i∧Inv (opT g) (tAt g (clo g.1+1)) (tAt g (clo g.1+1+i)) now (asL xs)∧(∀f,0 < i→g.1[(clo g.1+i) % g.1.length]?=some f→opn f.1=false→now.2=0)) (by omega) ?_ ?_ ?_) ?_
 ·refine ⟨(0,0),[],?_,by simp,⟨Int.le_refl _,.inl ⟨rfl,zty _ _,fun p hp=>(by cases hp)⟩⟩,fun f h=>by omega⟩
  show (((0,0),((wrF .i64 (at0 g+e.2)),(0,()))),(([],()),((),((),()))))=_
  rw [Nat.add_zero,hts,h0,zy (by omega) (by have:=hen.2.2.2;omega)];rfl
 ·rintro i _ hi ⟨now,xs,rfl,hxl,hinv,_⟩
  obtain ⟨f,hy',hf,hsu,hop⟩:=zBP hg (clo g.1+1+i)
  have hB:=zrN hg (k:=clo g.1+1+i) (by omega)
  have hnb:=zBQ hinv hA.1 hB.2
  have f1:=hf.2.2.1;have f2:=hf.2.2.2
  refine zf (zZ (show (i:Int) < (g.1.length:Int) by omega)) (ze (jS (show (g.1.length:Int)≠0 by omega)) ?_)
  refine zg (qh (a:=f) (by show atI g.1 (Int.tmod (wrF .i64 ((wrF .i64 (((clo g.1:Nat):Int)+1))+(i:Int))) (g.1.length:Int))=_;rw [zy5 hg (by omega) (by omega)];exact yd hy') ?_)
  rw [xa hf]
  have eat:wrF .i64 (tAt g (clo g.1+1+i)+f.2)=tAt g (clo g.1+1+(i+1)):=by
   rw [show clo g.1+1+(i+1)=clo g.1+1+i+1 from rfl,hsu,zy (by omega) (by omega)]
  have eup:wrF .i64 ((i:Int)+1)=((i+1:Nat):Int):=qv (by omega)
  have idx:∀f',0 < i+1→g.1[(clo g.1+(i+1)) % g.1.length]?=some f'→f'=f:=fun f' _ h=>by
   rw [show clo g.1+(i+1)=clo g.1+1+i by omega,hy'] at h
   exact (Option.some.inj h).symm
  refine zj (fun ho=>?_) (fun ho=>?_)
  ·have ho:opn f.1=true:=ho
   rw [ho] at hop
   have hi2:=zxK hinv (show 0 < f.2 by omega) hop
   refine zk (J:=fun x=>x.2.1.1=if now.2=0 then (tAt g (clo g.1+1+i),0) else now) (zj (fun h=>?_) (fun h=>?_)) ?_
   ·have h:now.2=0:=qO h
    refine za ?_
    rw [if_pos h]
    show (tAt g (clo g.1+1+i),now.2)=_
    rw [h]
   ·have h:now.2≠0:=jM h
    exact za (by rw [if_neg h])
   ·rintro ⟨j,⟨nw,⟨⟩⟩,⟨⟩,⟨⟩,⟨⟩⟩ hnw
    simp only at hnw
    subst hnw
    refine za (qj ⟨_,xs,?_,by omega,(by rw [←hsu] at hi2;exact hi2),fun f' h1 h2 h3=>?_⟩)
    ·show ((((if now.2=0 then (tAt g (clo g.1+1+i),0) else now).1,(wrF .i64 ((if now.2=0 then (tAt g (clo g.1+1+i),0) else now).2+f.2))),((wrF .i64 (tAt g (clo g.1+1+i)+f.2)),((wrF .i64 ((i:Int)+1)),()))),((xs,()),((),((),()))))=_
     rw [eat,eup]
     by_cases h:now.2=0
     ·rw [if_pos h,if_pos h]
      simp only
      rw [zy (by omega) (by omega),Int.zero_add]
     ·rw [if_neg h,if_neg h,zy (by omega) (by omega)]
    ·rw [idx f' h1 h2,ho] at h3;cases h3
  ·have ho:opn f.1=false:=ho
   rw [ho] at hop
   refine zj (fun h=>?_) (fun h=>?_)
   ·have h:0 < now.2:=qp h
    have hi2:=zxL hinv (show 0 < f.2 by omega) h hop
    refine zf (wC (by show (xs.length+1)*16≤_;omega) (by show xs.length+1≤_;omega)) (za (qj ⟨(0,0),xs++[now],?_,by simp;omega,?_,fun f' h1 h2 h3=>rfl⟩))
    ·show (((0,0),((wrF .i64 (tAt g (clo g.1+1+i)+f.2)),((wrF .i64 ((i:Int)+1)),()))),((xs++[now],()),((),((),()))))=_
     rw [eat,eup]
    ·rw [←hsu] at hi2
     have:asL (xs++[now])=asL xs++[(now.1,now.1+now.2)]:=by unfold asL;simp
     rw [this];exact hi2
   ·have h:now.2=0:=by have:now.2≤0:=qG h;omega
    have hi2:=zuo hinv (show 0 < f.2 by omega) h hop
    refine za (qj ⟨(0,0),xs,?_,by omega,(by rw [←hsu] at hi2;exact hi2),fun f' h1 h2 h3=>rfl⟩)
    show (((0,0),((wrF .i64 (tAt g (clo g.1+1+i)+f.2)),((wrF .i64 ((i:Int)+1)),()))),((xs,()),((),((),()))))=_
    rw [eat,eup]
 ·rintro _ ⟨now,xs,rfl,hxl,hinv,hlast⟩
  refine ze (zJ (show ¬(g.1.length:Int) < (g.1.length:Int) by omega)) (za (zu ⟨rfl,?_⟩))
  have hz:=hlast e (by omega) (by rw [Nat.add_mod_right,hm];exact hx) he
  show asL xs=L
  rcases hinv.2 with ⟨_,hc,_⟩ | ⟨h',_⟩
  ·rw [zy3 hg] at hc
   exact (zxM hg ha hc hr).symm
  ·omega
 rintro ⟨j,⟨nw,v,z,⟨⟩⟩,⟨xs,⟨⟩⟩,⟨⟩,⟨⟩,⟨⟩⟩ ⟨hj,hxs⟩
 simp only at hj hxs
 subst hj
 have hxl:xs.length=L.length:=by rw [←hxs];unfold asL;simp
 refine zf rfl ?_
 refine zk (J:=fun x=>x.2.1.1=zpL g L (most*per) per rate∧x.2.1.2.1=rate)
  (zX L.length (fun i s=>s=((mxN (fun _ _=>true) (vV g L (most*per) per rate) L.length i (cl (rate*per) (127*per*1048576)),(rate,(per,((i:Int),())))),((),()))) (by omega) ?_ ?_ ?_) ?_
 ·show ((vq 0 (wrF .i64 (0 - (-127*per*1048576) / (rate*per))),(rate,(per,(0,())))),((),()))=_
  rw [←b1,zy (by omega) (by omega),ZV]
  show _=((cl (rate*per) (127*per*1048576),_),_)
  rw [show max 0 (cl (rate*per) (127*per*1048576))=cl (rate*per) (127*per*1048576) by omega];rfl
 ·rintro i _ hi rfl
  obtain ⟨pi,hpi,epi1,epi2⟩:=zBY (g:=g) hxs hL0 i
  rw [Nat.mod_eq_of_lt (by omega)] at hpi
  rw [Nat.div_eq_of_lt hi] at epi1
  have fti:=h.ft (q:=i) (by omega)
  refine zf (zZ (show (i:Int) < (xs.length:Int) by omega)) (zg (zC (n:=i) hpi (zg (qh (a:=pi) (by show gl xs (Int.toNat (i:Int))=_;rw [Int.toNat_natCast,yJ];exact hpi) ?_))))
  refine zk (J:=fun x=>x.2.1.1=mxN (fun _ _=>true) (vV g L (most*per) per rate) L.length (i+1) (cl (rate*per) (127*per*1048576))∧x.2.1.2.1=rate∧x.2.1.2.2.1=per)
   (zX L.length (fun k s=>s=((mxK (fun _=>true) (vV g L (most*per) per rate i) k (mxN (fun _ _=>true) (vV g L (most*per) per rate) L.length i (cl (rate*per) (127*per*1048576))),(rate,(per,(jk g L (most*per) i k,((k:Int),()))))),((),()))) (by omega) rfl ?_ ?_) ?_
  ·rintro k _ hk rfl
   obtain ⟨pj,hpj,epj1,epj2⟩:=zBY (g:=g) hxs hL0 (i+1+k)
   have ftj:=h.ft (q:=i+1+k) (by omega)
   have zb:=zDt h (i:=i) (k:=k) (by omega)
   rw [hy,hrate] at zb
   have sb:=ztz hr hL0 (lost:=most*per) (by omega) i (show k≤L.length by omega)
   have sb':=ztz hr hL0 (lost:=most*per) (by omega) i (show k+1≤L.length by omega)
   have hbi:=zmm hg hr hL0 (show i < 2*L.length by omega);have hbj:=zmm hg hr hL0 (show i+1+k < 2*L.length by omega)
   have hxi:=QN hr hL0 i;have hxj:=QN hr hL0 (i+1+k)
   have ej:Int.tmod (wrF .i64 ((wrF .i64 ((i:Int)+1))+(k:Int))) (xs.length:Int)=(((i+1+k) % xs.length:Nat):Int):=by
    rw [qv (by omega),zy (by omega) (by omega),Int.tmod_eq_emod_of_nonneg (by omega),←Int.natCast_add,←Int.natCast_emod]
   have ed:wrF .i64 (Int.tdiv (wrF .i64 ((wrF .i64 ((i:Int)+1))+(k:Int))) (xs.length:Int))=(((i+1+k) / L.length:Nat):Int):=by
    rw [qv (by omega),zy (z:=((i+1:Nat):Int)+(k:Int)) (by omega) (by omega),Int.tdiv_eq_ediv_of_nonneg (by omega),hxl,←Int.natCast_add,←Int.natCast_ediv]
    exact zBX (Nat.le_trans (Nat.div_le_self _ _) (by omega))
   have hd1:(i+1+k) / L.length=0∨(i+1+k) / L.length=1:=by
    have:(i+1+k) / L.length < 2:=Nat.div_lt_of_lt_mul (by omega)
    exact Nat.le_one_iff_eq_zero_or_eq_one.1 (Nat.le_of_lt_succ this)
   have edC:0≤(((i+1+k) / L.length:Nat):Int)*g.2∧(((i+1+k) / L.length:Nat):Int)*g.2≤9600000:=by
    rcases hd1 with h1 | h1<;>rw [h1]<;>simp<;>omega
   generalize hdc:(((i+1+k) / L.length:Nat):Int)=dc at ed edC epj1
   refine zf (zZ (show (k:Int) < (xs.length:Int) by omega)) (ze (jS (show (xs.length:Int)≠0 by omega)) ?_)
   refine zg (qh (a:=pj) (by show atI xs (Int.tmod (wrF .i64 ((wrF .i64 ((i:Int)+1))+(k:Int))) (xs.length:Int))=_;rw [ej];exact yd hpj) (zg (qh (a:=pj) (by show gl xs (Int.toNat (Int.tmod (wrF .i64 ((wrF .i64 ((i:Int)+1))+(k:Int))) (xs.length:Int)))=_;rw [ej,Int.toNat_natCast,yJ];exact hpj) ?_)))
   refine ze (jS (show (xs.length:Int)≠0 by omega)) ?_
   have ez:wrF .i64 ((wrF .i64 (jk g L (most*per) i k - (wrF .i64 (127*per))))*1048576)=(jk g L (most*per) i k - 127*per)*1048576:=by
    rw [zy (z:=127*per) (by omega) (by omega),zy (z:=jk g L (most*per) i k - 127*per) (by omega) (by omega),zy (by omega) (by omega)]
   have efl:xS (wrF .i64 ((wrF .i64 (jk g L (most*per) i k - (wrF .i64 (127*per))))*1048576),wrF .i64 (rate*per),())=some (((jk g L (most*per) i k - 127*per)*1048576) / (rate*per),()):=by
    rw [ez,eRP,Xg (by omega) (by omega) (by omega) (by omega)]
   refine zg (qh efl ?_)
   refine za (qj ?_)
   have em1:jh (most*per) pj.2=mn g L (most*per) (i+1+k):=by rw [WM,←epj2];unfold mn;omega
   have em2:jh (most*per) pi.2=mn g L (most*per) i:=by rw [WM,←epi2];unfold mn;omega
   have eto:wrF .i64 ((wrF .i64 (pj.1+(wrF .i64 (dc*g.2))))+jh (most*per) pj.2)=tt g L (most*per) (i+1+k):=by
    rw [em1,zy (z:=dc*g.2) (by omega) (by omega),zy (z:=pj.1+dc*g.2) (by omega) (by omega),←epj1]
    show wrF .i64 (tt g L (most*per) (i+1+k))=_
    rw [zy (by omega) (by omega)]
   have efr:wrF .i64 ((wrF .i64 (pi.1+pi.2)) - jh (most*per) pi.2)=fr g L (most*per) i:=by
    have e1:pi.1+pi.2=bY g L i:=by simp at epi1;omega
    rw [em2,e1,zy (z:=bY g L i) (by omega) (by omega)]
    show wrF .i64 (fr g L (most*per) i)=_
    rw [zy (by omega) (by omega)]
   have ev:wrF .i64 ((wrF .i64 (tt g L (most*per) (i+1+k) - fr g L (most*per) i)) - ((jk g L (most*per) i k - 127*per)*1048576) / (rate*per))=vV g L (most*per) per rate i k:=by
    rw [zy (z:=tt g L (most*per) (i+1+k) - fr g L (most*per) i) (by omega) (by omega)]
    show wrF .i64 (vV g L (most*per) per rate i k)=_
    unfold vV
    rw [zy (by omega) (by omega)]
   have ew:wrF .i64 (jk g L (most*per) i k+vq 0 (wrF .i64 (pj.2 - most*per)))=jk g L (most*per) i (k+1):=by
    have:jk g L (most*per) i (k+1)=jk g L (most*per) i k+max 0 (pj.2 - most*per):=by
     show _+wg g L (most*per) (i+1+k)=_
     unfold wg;rw [epj2]
    rw [zy (z:=pj.2 - most*per) (by omega) (by omega),ZV,←this,zy (by omega) (by omega)]
   show ((vq (mxK (fun _=>true) (vV g L (most*per) per rate i) k (mxN (fun _ _=>true) (vV g L (most*per) per rate) L.length i (cl (rate*per) (127*per*1048576)))) (wrF .i64 ((wrF .i64 ((wrF .i64 ((wrF .i64 (pj.1+(wrF .i64 ((wrF .i64 (Int.tdiv (wrF .i64 ((wrF .i64 ((i:Int)+1))+(k:Int))) (xs.length:Int)))*g.2))))+jh (most*per) pj.2)) - (wrF .i64 ((wrF .i64 (pi.1+pi.2)) - jh (most*per) pi.2)))) - ((jk g L (most*per) i k - 127*per)*1048576) / (rate*per))),(rate,(per,((wrF .i64 (jk g L (most*per) i k+vq 0 (wrF .i64 (pj.2 - most*per)))),((wrF .i64 ((k:Int)+1)),()))))),((),()))=_
   rw [ed,eto,efr,ev,ew,qv (by omega),ZV]
   rfl
  ·rintro _ rfl
   exact ze (zJ (show ¬((L.length:Nat):Int) < (xs.length:Int) by omega)) (za (zu ⟨rfl,rfl,rfl⟩))
  ·rintro ⟨j,⟨a1,a2,a3,a4,a5,⟨⟩⟩,⟨⟩,⟨⟩⟩ ⟨h1,h2,h3⟩
   simp only at h1 h2 h3
   subst h1 h2 h3
   exact za (qj (congrArg (fun z=>((_,(_,(_,(z,())))),((),()))) (qv (by omega))))
 ·rintro _ rfl
  exact ze (zJ (show ¬((L.length:Nat):Int) < (xs.length:Int) by omega)) (za (zu ⟨rfl,rfl⟩))
 ·rintro ⟨j,⟨a1,a2,a3,a4,⟨⟩⟩,⟨⟩,⟨⟩⟩ ⟨h1,h2⟩
  simp only at h1 h2
  subst h1 h2
  exact za rfl
end
end Go.Proofs.YtplhphmbkmpocaaGreat.ad
namespace Go.Proofs.YtplhphmbkmpocaaGreat.ad
open Go Go.Fz Go.Fz.Sy
section
variable {g:Gts} {L:List (Int×Int)} {per most:Int}
theorem zDu (h:OfC g L per most):133169152≤KQ g L (most*per) per (qP g.2 per (qV (most*per) L))∧KQ g L (most*per) per (qP g.2 per (qV (most*per) L))≤100000000000000:=by
 have p0:=h.p0;have p1:=h.p1
 obtain ⟨r1,r2,r3⟩:=h.rc.rp h.rt
 have ub:=zmn (fun i j=>zi (fr g L (most*per) i) (tt g L (most*per) j)) (wV g L (most*per) per (qP g.2 per (qV (most*per) L))) (2*L.length) L.length (127*per*1048576)
 have at2:=zmo (fun i j=>zi (fr g L (most*per) i) (tt g L (most*per) j)) (wV g L (most*per) per (qP g.2 per (qV (most*per) L))) (2*L.length) L.length (127*per*1048576)
 unfold KQ
 refine ⟨by omega,?_⟩
 rcases at2 with e | ⟨i,j,hi,hj,hc,e⟩
 ·rw [e];omega
 ·rw [e]
  have hc:=qp hc
  have:=(h.ft (q:=i) (by omega)).1;have:=(h.ft (q:=j) hj).2.1
  have hm:=Gx (a:=tt g L (most*per) j - fr g L (most*per) i) (b:=qP g.2 per (qV (most*per) L)*per) (A:=30000000) (B:=1048576) (by omega) (by omega) (by omega) r3
  have hs:=(zi5 h.hr h.h0 (lost:=most*per) (by have:=h.lost;omega) i (j - i - 1)).1
  unfold wV snt
  rw [Int.mul_assoc]
  omega
theorem zFh (h:OfC g L per most) (hL:vf (g,())=some (L,())):JZ (g,per,most,())=some ((qP g.2 per (qV (most*per) L),zpL g L (most*per) per (qP g.2 per (qV (most*per) L))),0,()):=by
 have hg:=h.hg;have ha:=h.ha;have hr:=h.hr;have hL0:=h.h0
 have p0:=h.p0;have p1:=h.p1;have m0:=h.m0;have m1:=h.m1
 have hlost:=h.lost
 obtain ⟨eR,r0,ry⟩:=h.rc.rate
 obtain ⟨r1,r2,r3⟩:=h.rc.rp h.rt
 have hrt:=h.rt
 have hcp:=h.rc.cp
 have hc:=hg.c1;have hp:=hg.pos
 have hLC:=zDU hg hr
 have hwb:=zDu h
 have hle:=zFg hg hr hL0 (lost:=most*per) (by omega) p0 (by omega) ry
 have hlb:=zy6 h
 have eM:wrF .i64 (most*per)=most*per:=zy (by omega) (by omega)
 have eRP:wrF .i64 (qP g.2 per (qV (most*per) L)*per)=qP g.2 per (qV (most*per) L)*per:=zy (by omega) (by omega)
 rw [zdg];unfold zaF
 rw [zb1 g p0 p1 m0 m1,qf hg,zD,cond_true]
 refine kG ?_
 refine ze rfl ?_
 rw [zgq hg ha hL hr (by omega) (by omega),zD]
 simp only [eR]
 refine ze (jS (show wrF .i64 (g.2*per)≠0 by rw [zy]<;>omega)) (ze (zJ (by omega)) ?_)
 have zbs:=fun i k hk=>zDt h (i:=i) (k:=k) hk
 generalize hy:qV (most*per) L=y at *
 generalize hrate:qP g.2 per y=rate at *
 rw [QM hg,qu ha]
 simp only [zD,Bool.not_false,cond_true,hL,eM,eRP]
 refine zk (J:=fun x=>x.2.1.2.1=KQ g L (most*per) per rate) ?_ ?_
 ·refine zk (J:=fun x=>x.2.1.1=KQ g L (most*per) per rate)
   (zX L.length (fun i s=>s=((mxN (fun i j=>zi (fr g L (most*per) i) (tt g L (most*per) j)) (wV g L (most*per) per rate) (2*L.length) i (127*per*1048576),((i:Int),())),())) (by omega) ?_ ?_ ?_) ?_
  ·show ((wrF .i64 ((wrF .i64 (127*per))*1048576),(0,())),())=_
   rw [zy (z:=127*per) (by omega) (by omega),zy (by omega) (by omega)];rfl
  ·rintro i _ hi rfl
   have hx:L[i]?=some L[i]:=List.getElem?_eq_getElem hi
   have hbi:=zmm hg hr hL0 (show i < 2*L.length by omega)
   have hxi:=QN hr hL0 i
   have fti:=h.ft (q:=i) (by omega)
   obtain ⟨ei1,ei2⟩:bX g L i=L[i].1∧bY g L i=L[i].2:=by
    unfold bX bY;rw [Nat.mod_eq_of_lt hi,Nat.div_eq_of_lt hi,hx];simp
   generalize L[i]=pi at hx ei1 ei2
   refine zf (zZ (show (i:Int) < (L.length:Int) by omega)) (zg (zC (n:=i) hx (zg (zC (n:=i) hx (zg (zC (n:=i) hx ?_))))))
   have efr:wrF .i64 (pi.2 - jh (wrF .i64 (pi.2 - pi.1)) (most*per))=fr g L (most*per) i:=by
    rw [zy (z:=pi.2 - pi.1) (by omega) (by omega),WM,←ei1,←ei2]
    show wrF .i64 (fr g L (most*per) i)=_
    rw [zy (by omega) (by omega)]
   refine zk (J:=fun x=>x.2.1.1=mxN (fun i j=>zi (fr g L (most*per) i) (tt g L (most*per) j)) (wV g L (most*per) per rate) (2*L.length) (i+1) (127*per*1048576))
    (zX (2*L.length) (fun k s=>s=((mxK (fun j=>zi (fr g L (most*per) i) (tt g L (most*per) j)) (wV g L (most*per) per rate i) k (mxN (fun i j=>zi (fr g L (most*per) i) (tt g L (most*per) j)) (wV g L (most*per) per rate) (2*L.length) i (127*per*1048576)),((k:Int),())),())) (by omega) rfl ?_ ?_) ?_
   ·rintro k _ hk rfl
    have hm:k % L.length < L.length:=Nat.mod_lt _ hL0
    have hxk:L[k % L.length]?=some (L[k % L.length]):=List.getElem?_eq_getElem hm
    have hbk:=zmm hg hr hL0 hk
    have hxk2:=QN hr hL0 k
    have ftk:=h.ft (q:=k) hk
    obtain ⟨ek1,ek2⟩:bX g L k=(L[k % L.length]).1+((k / L.length:Nat):Int)*g.2∧bY g L k=(L[k % L.length]).2+((k / L.length:Nat):Int)*g.2:=by
     unfold bX bY;rw [hxk];exact ⟨rfl,rfl⟩
    generalize L[k % L.length]=pk at hxk ek1 ek2
    have hd1:k / L.length=0∨k / L.length=1:=by
     have:k / L.length < 2:=Nat.div_lt_of_lt_mul (by omega)
     exact Nat.le_one_iff_eq_zero_or_eq_one.1 (Nat.le_of_lt_succ this)
    have edC:0≤((k / L.length:Nat):Int)*g.2∧((k / L.length:Nat):Int)*g.2≤9600000:=by
     rcases hd1 with h1 | h1<;>rw [h1]<;>simp<;>omega
    have eI:Int.tmod (k:Int) (L.length:Int)=((k % L.length:Nat):Int):=by
     rw [Int.tmod_eq_emod_of_nonneg (by omega),←Int.natCast_emod]
    have eD:wrF .i64 (Int.tdiv (k:Int) (L.length:Int))=((k / L.length:Nat):Int):=by
     rw [Int.tdiv_eq_ediv_of_nonneg (by omega),←Int.natCast_ediv]
     exact zBX (Nat.le_trans (Nat.div_le_self _ _) (by omega))
    have ett:wrF .i64 ((wrF .i64 (pk.1+jh (wrF .i64 (pk.2 - pk.1)) (most*per)))+(wrF .i64 ((wrF .i64 (Int.tdiv (k:Int) (L.length:Int)))*g.2)))=tt g L (most*per) k:=by
     rw [eD,zy (z:=((k / L.length:Nat):Int)*g.2) (by omega) (by omega),zy (z:=pk.2 - pk.1) (by omega) (by omega),WM]
     have e1:min (pk.2 - pk.1) (most*per)=mn g L (most*per) k:=by unfold mn;rw [ek1,ek2];congr 1;omega
     have e2:pk.1+mn g L (most*per) k+((k / L.length:Nat):Int)*g.2=tt g L (most*per) k:=by unfold tt;omega
     rw [e1,zy (z:=pk.1+mn g L (most*per) k) (by omega) (by omega),e2,zy (by omega) (by omega)]
    refine zf (zZ (show (k:Int) < wrF .i64 (2*(L.length:Int)) by rw [zy]<;>omega)) (ze (jS (show (L.length:Int)≠0 by omega)) ?_)
    refine zg (qh (a:=pk) (by show atI L (Int.tmod (k:Int) (L.length:Int))=_;rw [eI];exact yd hxk) (ze (jS (show (L.length:Int)≠0 by omega)) ?_))
    refine zk (J:=fun x=>x.2.1.1=mxK (fun j=>zi (fr g L (most*per) i) (tt g L (most*per) j)) (wV g L (most*per) per rate i) (k+1) (mxN (fun i j=>zi (fr g L (most*per) i) (tt g L (most*per) j)) (wV g L (most*per) per rate) (2*L.length) i (127*per*1048576))) ?_ ?_
    ·show qm (bif zi (wrF .i64 (pi.2 - jh (wrF .i64 (pi.2 - pi.1)) (most*per))) (wrF .i64 ((wrF .i64 (pk.1+jh (wrF .i64 (pk.2 - pk.1)) (most*per)))+(wrF .i64 ((wrF .i64 (Int.tdiv (k:Int) (L.length:Int)))*g.2)))) then _ else _) _
     rw [efr,ett]
     refine zj (fun hcd=>?_) (fun hcd=>?_)
     ·have hlt:=qp hcd
      have hij:i≤k:=by
       apply Classical.byContradiction
       intro hn
       have:=zdx hr hL0 (show k < i by omega)
       have f1:fr g L (most*per) i=bY g L i - mn g L (most*per) i:=rfl
       have f2:tt g L (most*per) k=bX g L k+mn g L (most*per) k:=rfl
       omega
      have em:(tt g L (most*per) k - fr g L (most*per) i)*rate*per=(tt g L (most*per) k - fr g L (most*per) i)*(rate*per):=Int.mul_assoc _ _ _
      have hLe:=zrP hg ha hr hL0 p0 p1 m0 m1 hi hij hk (by omega) (by omega) hlt
      have hmul:=Gx (a:=tt g L (most*per) k - fr g L (most*per) i) (b:=rate) (A:=30000000) (B:=1048576) (by omega) (by omega) (by omega) r1
      have hmul2:=Gx (a:=tt g L (most*per) k - fr g L (most*per) i) (b:=rate*per) (A:=30000000) (B:=1048576) (by omega) (by omega) (by omega) r3
      have hs:=zi5 hr hL0 (lost:=most*per) (by omega) i (k - i - 1)
      have hs2:snt g L (most*per) i k≤60000000:=by
       unfold snt
       rcases Nat.eq_zero_or_pos (k - i) with hz | hz
       ·rw [show k - i - 1=0 by omega];show (0:Int)≤_;omega
       ·rw [show i+1+(k - i - 1)=k by omega] at hs
        have:=zmm hg hr hL0 (show i+1 < 2*L.length by omega)
        omega
      have hs3:0≤snt g L (most*per) i k:=hs.1
      rw [show wrF .i64 (tt g L (most*per) k - fr g L (most*per) i)=tt g L (most*per) k - fr g L (most*per) i from zy (by omega) (by omega),hLe,zD]
      refine za ?_
      show vq _ (wrF .i64 ((wrF .i64 ((wrF .i64 ((tt g L (most*per) k - fr g L (most*per) i)*rate))*per)) - (wrF .i64 ((snt g L (most*per) i k - 127*per)*1048576))))=mxK _ _ (k+1) _
      rw [zy (z:=(tt g L (most*per) k - fr g L (most*per) i)*rate) (by omega) (by omega),zy (z:=(snt g L (most*per) i k - 127*per)*1048576) (by omega) (by omega),em,zy (z:=(tt g L (most*per) k - fr g L (most*per) i)*(rate*per)) (by omega) (by omega),zy (z:=(tt g L (most*per) k - fr g L (most*per) i)*(rate*per) - _) (by omega) (by omega),ZV]
      have e1:mxK (fun j=>zi (fr g L (most*per) i) (tt g L (most*per) j)) (wV g L (most*per) per rate i) (k+1) (mxN (fun i j=>zi (fr g L (most*per) i) (tt g L (most*per) j)) (wV g L (most*per) per rate) (2*L.length) i (127*per*1048576))=max (mxK (fun j=>zi (fr g L (most*per) i) (tt g L (most*per) j)) (wV g L (most*per) per rate i) k (mxN (fun i j=>zi (fr g L (most*per) i) (tt g L (most*per) j)) (wV g L (most*per) per rate) (2*L.length) i (127*per*1048576))) (wV g L (most*per) per rate i k):=by
       show (bif zi (fr g L (most*per) i) (tt g L (most*per) k) then _ else _)=_
       rw [hcd];rfl
      rw [e1]
      unfold wV
      rw [em]
     ·refine za ?_
      show _=mxK _ _ (k+1) _
      have e1:mxK (fun j=>zi (fr g L (most*per) i) (tt g L (most*per) j)) (wV g L (most*per) per rate i) (k+1) (mxN (fun i j=>zi (fr g L (most*per) i) (tt g L (most*per) j)) (wV g L (most*per) per rate) (2*L.length) i (127*per*1048576))=mxK (fun j=>zi (fr g L (most*per) i) (tt g L (most*per) j)) (wV g L (most*per) per rate i) k (mxN (fun i j=>zi (fr g L (most*per) i) (tt g L (most*per) j)) (wV g L (most*per) per rate) (2*L.length) i (127*per*1048576)):=by
       show (bif zi (fr g L (most*per) i) (tt g L (most*per) k) then _ else _)=_
       rw [hcd];rfl
      rw [e1]
    ·rintro ⟨j,⟨a1,⟨⟩⟩,⟨⟩⟩ h1
     simp only at h1
     subst h1
     exact za (qj (congrArg (fun z=>((_,(z,())),())) (qv (by omega))))
   ·rintro _ rfl
    exact ze (zJ (show ¬((2*L.length:Nat):Int) < wrF .i64 (2*(L.length:Int)) by rw [zy]<;>omega)) (za (zu rfl))
   ·rintro ⟨j,⟨a1,a2,⟨⟩⟩,⟨⟩⟩ h1
    simp only at h1
    subst h1
    exact za (qj (congrArg (fun z=>((_,(z,())),())) (qv (by omega))))
  ·rintro _ rfl
   exact ze (zJ (show ¬((L.length:Nat):Int) < (L.length:Int) by omega)) (za (zu rfl))
  ·rintro ⟨j,⟨a1,a2,⟨⟩⟩,⟨⟩⟩ h1
   exact za h1
 ·rintro ⟨j,⟨a1,a2,⟨⟩⟩,⟨⟩⟩ h1
  simp only at h1
  subst h1
  refine ze (jS (show rate*per≠0 by omega)) (za ?_)
  show ((rate,wrF .i64 (Int.tdiv (wrF .i64 ((wrF .i64 (KQ g L (most*per) per rate+rate*per)) - 1)) (rate*per))),(0,()))=_
  rw [zy (z:=KQ g L (most*per) per rate+rate*per) (by omega) (by omega),zy (z:=KQ g L (most*per) per rate+rate*per - 1) (by omega) (by omega),Int.tdiv_eq_ediv_of_nonneg (by omega)]
  show ((rate,wrF .i64 (cl (rate*per) (KQ g L (most*per) per rate))),(0,()))=_
  rw [hle,zy (by omega) (by omega)]
end
def zrQ (v:Int×Int):Prop:=1≤v.1∧v.1≤1048576∧0≤v.2∧v.2≤268435456
theorem zFK {g:Gts} (hg:qz g) {per most:Int} (p0:1≤per) (p1:per≤1000) (m0:84≤most) (m1:most≤1542):∃v e,xV (g,per,most,())=some (v,e,())∧JZ (g,per,most,())=some (v,e,())∧((e=0∧zrQ v)∨(e=4∧v=(0,0))):=by
 have hc:=hg.c1;have hp:=hg.pos;have hn:=hg.n1
 have hlost:84≤most*per∧most*per≤1542000:=by
  have:=Gx (show 0≤most by omega) m1 (show 0≤per by omega) p1
  have h1:84*1≤most*per:=Int.mul_le_mul m0 p0 (by omega) (by omega)
  omega
 have eM:wrF .i64 (most*per)=most*per:=zy (by omega) (by omega)
 by_cases ha:Ym g.1
 ·
  have hR:RtC g.2 per g.2:=⟨hp,hc,p0,p1,by omega,Int.le_refl _⟩
  obtain ⟨eR,r0,ry⟩:=hR.rate
  have hcp:=hR.cp
  have hr1:1≤qP g.2 per g.2:=by
   have:1*(g.2*per)≤g.2*1048576:=by
    have:=Int.mul_le_mul_of_nonneg_left (show per≤1048576 by omega) (show 0≤g.2 by omega)
    omega
   exact Int.le_ediv_of_mul_le (by omega) this
  obtain ⟨r1,r2,r3⟩:=hR.rp hr1
  obtain ⟨b1,b2,b3⟩:=zpK p0 p1 r2 r3
  have eRP:wrF .i64 (qP g.2 per g.2*per)=qP g.2 per g.2*per:=zy (by omega) (by omega)
  have hcl:=zED ha
  refine ⟨(qP g.2 per g.2,cl (qP g.2 per g.2*per) (127*per*1048576)),0,?_,?_,.inl ⟨rfl,hr1,r1,b2,by simp only;omega⟩⟩
  ·rw [zaA];unfold Vv
   rw [Ky g p0 p1 m0 m1,qf hg,zD,cond_true]
   refine kG ?_
   refine ze rfl ?_
   rw [eM,zhQ hg ha,zD]
   simp only [eR]
   refine ze (jS (show wrF .i64 (g.2*per)≠0 by rw [zy]<;>omega)) (ze (zJ (by omega)) ?_)
   generalize qP g.2 per g.2=rate at *
   rw [show wrF .i64 ((wrF .i64 (-127*per))*1048576) = -127*per*1048576 from by rw [zy (z:=-127*per) (by omega) (by omega),zy (by omega) (by omega)],eRP,Xg (by omega) (by omega) (by omega) (by omega),zD]
   refine zk (J:=fun x=>x.2.1.2.1=(g.1.length:Int)∧x.2.2.1.1=[]) (zX g.1.length (fun i s=>s=((qA (g.1.take i),((i:Int),())),(([],()),((),((),()))))) (by omega) rfl ?_ ?_) ?_
   ·rintro i _ hi rfl
    have hy':g.1[i]?=some g.1[i]:=List.getElem?_eq_getElem (by omega)
    have hm:=List.getElem_mem (show i < g.1.length by omega)
    generalize g.1[i]=f at hy' hm
    have hf:=hg.el f hm
    have hb:=Qd (l:=g.1.take i) fun e he=>hg.el e (List.mem_of_mem_take he)
    have hbl:(g.1.take i).length≤128:=by simp;omega
    refine zf (zZ (show (i:Int) < (g.1.length:Int) by omega)) (zg (zC (n:=i) hy' ?_))
    rw [xa hf]
    refine zf (ha f hm) (zg (zC (n:=i) hy' (za (qj ?_))))
    show (((wrF .i64 (qA (g.1.take i)+f.2)),((wrF .i64 ((i:Int)+1)),())),(([],()),((),((),()))))=_
    have:=hf.2.2.1;have:=hf.2.2.2
    rw [uT hy',qv (by omega),zy (by omega) (by omega)]
   ·rintro _ rfl
    exact ze (zJ (show ¬(g.1.length:Int) < (g.1.length:Int) by omega)) (za (zu ⟨rfl,rfl⟩))
   rintro ⟨j,⟨w,z,⟨⟩⟩,⟨c,⟨⟩⟩,⟨⟩,⟨⟩,⟨⟩⟩ ⟨hv,hc'⟩
   simp only at hv hc'
   subst hv hc'
   refine zf (Zb rfl) ?_
   refine zk (J:=fun x=>x.2.1.1=cl (rate*per) (127*per*1048576)∧x.2.1.2.1=rate) (zX 0 (fun _ s=>s=((vq 0 (wrF .i64 (0 - (-127*per*1048576) / (rate*per))),(rate,(per,(0,())))),((),()))) (by omega) rfl (fun i s hi=>by omega) ?_) ?_
   ·rintro _ rfl
    refine ze (zJ (show ¬(0:Int) < (([]:List (Int×Int)).length:Int) by simp)) (za (zu ⟨?_,rfl⟩))
    show vq 0 (wrF .i64 (0 - (-127*per*1048576) / (rate*per)))=_
    rw [←b1,zy (by omega) (by omega),ZV];omega
   ·rintro ⟨j,⟨a1,a2,a3,a4,⟨⟩⟩,⟨⟩,⟨⟩⟩ ⟨h1,h2⟩
    simp only at h1 h2
    subst h1 h2
    exact za rfl
  ·rw [zdg];unfold zaF
   rw [zb1 g p0 p1 m0 m1,qf hg,zD,cond_true]
   refine kG ?_
   refine ze rfl ?_
   rw [zny hg ha,zD]
   simp only [eR]
   refine ze (jS (show wrF .i64 (g.2*per)≠0 by rw [zy]<;>omega)) (ze (zJ (by omega)) ?_)
   generalize qP g.2 per g.2=rate at *
   rw [QM hg,qf ha]
   simp only [zD,Bool.not_true,cond_false,eRP]
   refine ze (jS (show rate*per≠0 by omega)) (za ?_)
   rw [show wrF .i64 ((wrF .i64 (127*per))*1048576)=127*per*1048576 from by rw [zy (z:=127*per) (by omega) (by omega),zy (by omega) (by omega)]]
   rw [zy (z:=127*per*1048576+rate*per) (by omega) (by omega),zy (z:=127*per*1048576+rate*per - 1) (by omega) (by omega),Int.tdiv_eq_ediv_of_nonneg (by omega)]
   show ((rate,wrF .i64 (cl (rate*per) (127*per*1048576))),(0,()))=_
   rw [zy (by omega) (by omega)]
 ·obtain ⟨L,hL,hr⟩:=zrM hg ha
  have hb:=XC (lost:=most*per) (by omega) (a:=at0 g) (b:=at0 g+g.2) (by omega) hr.cv.bd hr.cv.pw
  have hR:RtC g.2 per (qV (most*per) L):=⟨hp,hc,p0,p1,hb.1,by omega⟩
  obtain ⟨eR,r0,ry⟩:=hR.rate
  have hcp:=hR.cp
  by_cases hr1:1≤qP g.2 per (qV (most*per) L)
  ·have h0:0 < L.length:=by
    apply Classical.byContradiction
    intro hn
    have:L=[]:=List.length_eq_zero_iff.1 (by omega)
    rw [this] at hr1
    unfold qP qV at hr1
    simp at hr1
   have h:OfC g L per most:=⟨hg,ha,hr,h0,p0,p1,m0,m1,hr1⟩
   have hb:=zy6 h
   have hrp:=h.rc.rp hr1
   exact ⟨_,_,zEH h,zFh h hL,.inl ⟨rfl,hr1,hrp.1,hb.1,hb.2⟩⟩
  ·refine ⟨(0,0),4,?_,?_,.inr ⟨rfl,rfl⟩⟩
   ·rw [zaA];unfold Vv
    rw [Ky g p0 p1 m0 m1,qf hg,zD,cond_true]
    refine kG (ze rfl ?_)
    rw [eM,zbg hg ha hr (by omega) (by omega),zD]
    simp only [eR]
    exact ze (jS (show wrF .i64 (g.2*per)≠0 by rw [zy]<;>omega)) (zf (zZ (by omega)) (za rfl))
   ·rw [zdg];unfold zaF
    rw [zb1 g p0 p1 m0 m1,qf hg,zD,cond_true]
    refine kG (ze rfl ?_)
    rw [zgq hg ha hL hr (by omega) (by omega),zD]
    simp only [eR]
    exact ze (jS (show wrF .i64 (g.2*per)≠0 by rw [zy]<;>omega)) (zf (zZ (by omega)) (za rfl))
end Go.Proofs.YtplhphmbkmpocaaGreat.ad
namespace Go.Proofs.YtplhphmbkmpocaaGreat.ad
open Go Go.Fz Go.Fz.Sy
theorem zaX (b:Int×Int):kZ (b,())=some (tv (jG b),()):=by
 rw [zpl];unfold zdj jG
 refine wu ?_
 repeat' first | refine zj (fun h=>?_) (fun h=>?_) | refine za ?_
 all_goals simp only [xb] at *
 all_goals grind
def ud (l:List (Int×Int)):Int×Int:=((l.map (·.1)).sum,(l.map (·.2)).sum)
theorem zup {l:List (Int×Int)} {i:Nat} {b:Int×Int} (h:l[i]?=some b):ud (l.take (i+1))=((ud (l.take i)).1+b.1,(ud (l.take i)).2+b.2):=by
 unfold ud;rw [List.take_add_one,h];simp
theorem ztA:∀{l:List (Int×Int)},(∀b∈l,jG b)→(l.length:Int)≤(ud l).1∧(ud l).1≤1048576*l.length∧(l.length:Int)≤(ud l).2∧(ud l).2≤2097152*l.length
 |[],_=>by simp [ud]
 |b::l,h=>by
  have ih:=ztA (l:=l) fun x hx=>h x (by simp [hx])
  obtain ⟨⟨h1,h2⟩,h3,h4⟩:=h b (by simp)
  unfold ud at *
  simp only [List.map_cons,List.sum_cons,List.length_cons]
  omega
noncomputable def Yn (l:List (Int×Int)):(Int×Int)×Int:=bif tv (jG (ud l)) then (ud l,0) else ((0,0),6)
theorem ztB {l:List (Int×Int)} (h0:l≠[]) (h12:l.length≤12) (hb:∀b∈l,jG b):kq (l,())=some ((Yn l).1,(Yn l).2,()):=by
 have hl:0 < l.length:=List.length_pos_iff.2 h0
 rw [zq9];unfold zfe
 refine kG (ze (jS (show (l.length:Int)≠0 by omega)) (ze (zJ (show ¬12 < (l.length:Int) by omega)) ?_))
 refine zk (J:=fun x=>x.1=0∧x.2.1.2.1=ud l) (zX l.length (fun i s=>s=(((0,0),(ud (l.take i),(0,((i:Int),())))),())) (by omega) rfl ?_ ?_) ?_
 ·rintro i _ hi rfl
  have hx:l[i]?=some l[i]:=List.getElem?_eq_getElem hi
  have hm:=List.getElem_mem hi
  generalize l[i]=b at hx hm
  have hbb:=hb b hm
  have hbd:=ztA (l:=l.take i) fun x hx=>hb x (List.mem_of_mem_take hx)
  have hlt:(l.take i).length=i:=by simp;omega
  refine zf (zZ (show (i:Int) < (l.length:Int) by omega)) (zg (zC (n:=i) hx ?_))
  rw [gL,qf hbb,zD,cond_true]
  refine ze rfl (za (qj ?_))
  obtain ⟨⟨b1,b2⟩,b3,b4⟩:=hbb
  show (((0,0),(((wrF .i64 ((ud (l.take i)).1+b.1)),(wrF .i64 ((ud (l.take i)).2+b.2))),(0,((wrF .i64 ((i:Int)+1)),())))),())=_
  rw [zup hx,qv (by omega),zy (z:=(ud (l.take i)).1+b.1) (by omega) (by omega),zy (by omega) (by omega)]
 ·rintro _ rfl
  refine ze (zJ (show ¬(l.length:Int) < (l.length:Int) by omega)) (za (zu ⟨rfl,?_⟩))
  show ud (l.take l.length)=_
  rw [List.take_length]
 ·rintro ⟨j,⟨a1,a2,a3,a4,⟨⟩⟩,⟨⟩⟩ ⟨h1,h2⟩
  simp only at h1 h2
  subst h1 h2
  refine zf rfl ?_
  rw [gL,zD]
  unfold Yn
  by_cases h:jG (ud l)
  ·rw [qf h];exact ze rfl (za rfl)
  ·rw [qu h];exact zf rfl (za rfl)
theorem zvp {l:List (Int×Int)} (h0:l≠[]) (h12:l.length≤12) (hb:∀b∈l,jG b):KM (l,())=some ((Yn l).1,(Yn l).2,()):=by
 have hl:0 < l.length:=List.length_pos_iff.2 h0
 rw [zta];unfold zgQ
 refine kG (ze (jS (show (l.length:Int)≠0 by omega)) (ze (zJ (show ¬12 < (l.length:Int) by omega)) ?_))
 refine zk (J:=fun x=>x.1=0∧x.2.1.2.1=ud l) (zX l.length (fun i s=>s=(((0,0),(ud (l.take i),(0,((i:Int),())))),())) (by omega) rfl ?_ ?_) ?_
 ·rintro i _ hi rfl
  have hx:l[i]?=some l[i]:=List.getElem?_eq_getElem hi
  have hm:=List.getElem_mem hi
  generalize l[i]=b at hx hm
  have hbb:=hb b hm
  have hbd:=ztA (l:=l.take i) fun x hx=>hb x (List.mem_of_mem_take hx)
  have hlt:(l.take i).length=i:=by simp;omega
  refine zf (zZ (show (i:Int) < (l.length:Int) by omega)) (zg (zC (n:=i) hx ?_))
  rw [zaX,qf hbb,zD]
  refine ze rfl (zg (zC (n:=i) hx (zg (zC (n:=i) hx (za (qj ?_))))))
  obtain ⟨⟨b1,b2⟩,b3,b4⟩:=hbb
  show (((0,0),(((wrF .i64 ((ud (l.take i)).1+b.1)),(wrF .i64 ((ud (l.take i)).2+b.2))),(0,((wrF .i64 ((i:Int)+1)),())))),())=_
  rw [zup hx,qv (by omega),zy (z:=(ud (l.take i)).1+b.1) (by omega) (by omega),zy (by omega) (by omega)]
 ·rintro _ rfl
  refine ze (zJ (show ¬(l.length:Int) < (l.length:Int) by omega)) (za (zu ⟨rfl,?_⟩))
  show ud (l.take l.length)=_
  rw [List.take_length]
 ·rintro ⟨j,⟨a1,a2,a3,a4,⟨⟩⟩,⟨⟩⟩ ⟨h1,h2⟩
  simp only at h1 h2
  subst h1 h2
  refine zf rfl ?_
  rw [zaX,zD]
  unfold Yn
  by_cases h:jG (ud l)
  ·rw [qf h];exact ze rfl (za rfl)
  ·rw [qu h];exact zf rfl (za rfl)
theorem wru {z:Int} (h1:0≤z) (h2:z < 18446744073709551616):wrF .u64 z=z:=by
 rw [Kz]
 have e:IntKind.u64.wrap z=z % 18446744073709551616:=by
  unfold IntKind.wrap
  show (if (false&&decide (z % 18446744073709551616≥9223372036854775808))=true then z % 18446744073709551616 - 18446744073709551616 else z % 18446744073709551616)=_
  simp
 rw [e];omega
theorem zrR (x:Int):jU .u64 x 32=x / 4294967296:=by
 show x.fdiv (2 ^ (min (32:Int).toNat 64))=x / 4294967296
 rw [show (2:Int) ^ (min (32:Int).toNat 64)=4294967296 from rfl]
 exact Int.fdiv_eq_ediv_of_nonneg x (by omega)
theorem zAx {x:Int} (h0:0≤x) (h1:x < 4294967296):kf .and .u64 x 4294967295=x:=by
 obtain ⟨n,rfl⟩:=Int.eq_ofNat_of_zero_le h0
 show IntKind.u64.wrap (((BitVec.ofInt 64 (n:Int)&&& BitVec.ofInt 64 4294967295).toNat:Nat):Int)=_
 have e:(BitVec.ofInt 64 (n:Int)&&& BitVec.ofInt 64 4294967295).toNat=n:=by
  rw [BitVec.toNat_and,BitVec.toNat_ofInt,BitVec.toNat_ofInt]
  have e1:((n:Int) % ((2 ^ 64:Nat):Int)).toNat=n:=by
   rw [show ((2 ^ 64:Nat):Int)=18446744073709551616 from rfl];omega
  have e2:((4294967295:Int) % ((2 ^ 64:Nat):Int)).toNat=2 ^ 32 - 1:=rfl
  rw [e1,e2,Nat.and_two_pow_sub_one_of_lt_two_pow (by omega)]
 rw [e,←Kz]
 exact wru (by omega) (by omega)
theorem zgs {l:List Int} (hn:l.length≤1000) (h:∀x∈l,-1125899906842624≤x∧x≤1125899906842624):ur (l,())=some (true,()):=by
 rw [zpa];unfold zc9
 refine xA (zk (J:=fun x=>x.1=0) (jn l.length (fun _=>True) (by omega) ?_ ?_) ?_)
 ·intro i hi _
  have hx:l[i]?=some l[i]:=List.getElem?_eq_getElem hi
  obtain ⟨h1,h2⟩:=h _ (List.getElem_mem hi)
  generalize l[i]=x at hx h1 h2
  refine zf (zZ (show (i:Int) < (l.length:Int) by omega)) (zg (zC (n:=i) hx ?_))
  refine zk (J:=fun r=>r.1=0∧r.2.1.1=false) (ze (zJ (by omega)) (ze (zJ (by omega)) (za ⟨rfl,rfl⟩))) ?_
  rintro ⟨j,⟨v,⟨⟩⟩,⟨⟩⟩ ⟨rfl,rfl⟩
  exact zf rfl (za (yr (by omega) trivial))
 ·intro _
  exact ze (zJ (show ¬(l.length:Int) < (l.length:Int) by omega)) (za (zu rfl))
 ·rintro ⟨j,⟨v,w,⟨⟩⟩,⟨⟩⟩ h1
  simp only at h1
  subst h1
  exact zf rfl (za rfl)
theorem zrS {x:Int} (h1 : -1125899906842624≤x) (h2:x≤1125899906842624):Js (x,())=some (x,true,()):=by
 rw [zpd];unfold zda
 rw [zgs (by simp) (by simp;omega)];rfl
theorem zkn {a b:Int} (a0:0≤a) (a1:a < 4294967296) (b0:0≤b) (b1:b < 4294967296):kJ (a,b,())=some (0,a*b,()):=by
 have hm:=Gx a0 (show a≤4294967295 by omega) b0 (show b≤4294967295 by omega)
 rw [ziO];unfold Kt
 rw [zrR a,zrR b,zAx a0 a1,zAx b0 b1,show a / 4294967296=0 by omega,show b / 4294967296=0 by omega,Int.zero_mul,Int.zero_mul,Int.mul_zero]
 rw [show wrF .u64 0=0 from rfl,wru (z:=a*b) (by omega) (by omega),zrR (a*b),Int.zero_add (a*b / 4294967296)]
 have h1:0≤a*b / 4294967296:=by omega
 have h2:a*b / 4294967296 < 4294967296:=by omega
 rw [wru (z:=a*b / 4294967296) h1 (by omega),zrR (a*b / 4294967296),show a*b / 4294967296 / 4294967296=0 by omega,zAx h1 h2,Int.add_zero (a*b / 4294967296),wru (z:=a*b / 4294967296) h1 (by omega),zrR (a*b / 4294967296),show a*b / 4294967296 / 4294967296=0 by omega]
 rfl
theorem zko {a c:Int} (a0:0≤a) (a1:a < 18446744073709551616) (c0:0 < c):kK (0,a,c,())=some (a / c,a % c,()):=by
 rw [ziR];unfold Ku
 have hq:0≤a / c:=Int.ediv_nonneg a0 (by omega)
 have hq2:a / c≤a:=Int.ediv_le_self _ a0
 rw [jS (show c≠0 by omega),zZ (show 0 < c by omega),Int.tdiv_eq_ediv_of_nonneg a0,Int.tmod_eq_emod_of_nonneg a0,wru hq (by omega)]
 rfl
theorem zhS {a b c:Int} (a0:0≤a) (a1:a < 4294967296) (b0:0≤b) (b1:b < 4294967296) (c0:0 < c) (c1:c≤4294967296) (hm:a*b≤1125899906842000):vY (a,b,c,())=some (cl c (a*b),()):=by
 have hm0:0≤a*b:=Int.mul_nonneg a0 b0
 have hq:0≤a*b / c:=Int.ediv_nonneg hm0 (by omega)
 have hq2:a*b / c≤a*b:=Int.ediv_le_self _ hm0
 have hr:=Int.emod_nonneg (a*b) (show c≠0 by omega)
 have hr2:=Int.emod_lt_of_pos (a*b) c0
 have hde:=Int.emod_add_mul_ediv (a*b) c
 rw [zrd];unfold zfh
 rw [zy (z:=0 - a) (by omega) (by omega)]
 have hM:kx (0 - a,())=some (a,()):=by
  rw [zcC];unfold XV
  rcases Int.lt_or_le (0 - a) 0 with h | h
  ·rw [zZ h,cond_true,show 0 - (0 - a)=a by omega,zy (z:=a) (by omega) (by omega),wru (z:=a) (by omega) (by omega)]
  ·rw [zJ (by omega),cond_false,show 0 - a=a by omega,wru (z:=a) (by omega) (by omega)]
 have hM2:kx (b,())=some (b,()):=by
  rw [zcC];unfold XV
  rw [zJ (by omega),cond_false,wru (z:=b) (by omega) (by omega)]
 have hcl:cl c (a*b)=if a*b % c=0 then a*b / c else a*b / c+1:=by
  unfold cl
  split
  ·rename_i h
   have e:a*b+c - 1=(c - 1)+(a*b / c)*c:=by rw [Int.mul_comm _ c];omega
   rw [e,Int.add_mul_ediv_right _ _ (by omega),Int.ediv_eq_zero_of_lt (by omega) (by omega)];omega
  ·rename_i h
   have e:a*b+c - 1=(a*b % c - 1)+(a*b / c+1)*c:=by rw [Int.add_mul,Int.mul_comm _ c];omega
   rw [e,Int.add_mul_ediv_right _ _ (by omega),Int.ediv_eq_zero_of_lt (by omega) (by omega)];omega
 have key:qm (Ya (0 - a,b,c,())) fun r=>r.1 = -cl c (a*b):=by
  rw [zrc];unfold zfg
  rw [zgs (by simp) (by simp;omega)]
  refine zk (J:=fun x=>x.1=0) (ze (zJ (show ¬c < 1 by omega)) (za rfl)) ?_
  rintro ⟨j,⟨v,w,⟨⟩⟩,⟨⟩⟩ h1
  simp only at h1
  subst h1
  refine zf rfl ?_
  rw [hM,zD,hM2,zD,zkn a0 a1 b0 b1,zD,wru (z:=c) (by omega) (by omega)]
  refine ze (by rw [zZ (show (0:Int) < c by omega)];rfl) ?_
  rw [zko hm0 (by omega) c0,zD]
  refine ze (zJ (show ¬1125899906842624 < a*b / c by omega)) ?_
  refine zk (J:=fun x=>x.2.1.1 = -cl c (a*b)) ?_ ?_
  ·rw [zJ (show ¬b < 0 by omega),hcl]
   rcases Int.lt_or_le (0 - a) 0 with h | h
   ·rw [zZ h]
    refine zf rfl (zk (J:=fun x=>x.2.1.1 = -(if a*b % c=0 then a*b / c else a*b / c+1)) ?_ ?_)
    ·rw [zy (z:=a*b / c) (by omega) (by omega),zy (z:=0 - a*b / c) (by omega) (by omega),zy (z:=0 - a*b / c - 1) (by omega) (by omega)]
     refine zj (fun h2=>?_) (fun h2=>?_)
     ·have h2:(!zo (a*b % c) 0)=true:=h2
      have:=jM (show zo (a*b % c) 0=false by simpa using h2)
      refine za ?_
      rw [if_neg this]
      show 0 - a*b / c - 1=_
      omega
     ·have h2:(!zo (a*b % c) 0)=false:=h2
      have:=qO (show zo (a*b % c) 0=true by simpa using h2)
      refine za ?_
      rw [if_pos this]
      show 0 - a*b / c=_
      omega
    ·rintro ⟨j,⟨v,⟨⟩⟩,⟨⟩⟩ h1
     exact za h1
   ·have ha:a=0:=by omega
    rw [zJ (by omega),ha]
    refine ze rfl (za ?_)
    rw [Int.zero_mul,Int.zero_ediv,Int.zero_emod,if_pos rfl]
    rfl
  ·rintro ⟨j,⟨v,⟨⟩⟩,⟨⟩⟩ h1
   simp only at h1
   subst h1
   have:0≤cl c (a*b):=by rw [hcl];split<;>omega
   have:cl c (a*b)≤a*b / c+1:=by rw [hcl];split<;>omega
   rw [zrS (x:=-cl c (a*b)) (by omega) (by omega)]
   exact za rfl
 obtain ⟨⟨r,w,⟨⟩⟩,e,h⟩:=key
 rw [e,zD]
 simp only at h
 subst h
 have:0≤cl c (a*b):=by rw [hcl];split<;>omega
 have:cl c (a*b)≤a*b / c+1:=by rw [hcl];split<;>omega
 show some (wrF .i64 (0 - -cl c (a*b)),())=_
 rw [zy (by omega) (by omega),show 0 - -cl c (a*b)=cl c (a*b) by omega]
theorem zhT {n d:Int} (n0:0≤n) (n1:n≤1000000000000000000) (d0:0 < d) (d1:d≤1000000000000):gW (n,d,())=some (cl d n,()):=by
 have hq:0≤n / d:=Int.ediv_nonneg n0 (by omega)
 have hq2:n / d≤n:=Int.ediv_le_self _ n0
 have hr:=Int.emod_nonneg n (show d≠0 by omega)
 have hr2:=Int.emod_lt_of_pos n d0
 have hde:=Int.emod_add_mul_ediv n d
 have hcl:cl d n=if n % d=0 then n / d else n / d+1:=by
  unfold cl
  split
  ·rename_i h
   have e:n+d - 1=(d - 1)+(n / d)*d:=by rw [Int.mul_comm _ d];omega
   rw [e,Int.add_mul_ediv_right _ _ (by omega),Int.ediv_eq_zero_of_lt (by omega) (by omega)];omega
  ·rename_i h
   have e:n+d - 1=(n % d - 1)+(n / d+1)*d:=by rw [Int.add_mul,Int.mul_comm _ d];omega
   rw [e,Int.add_mul_ediv_right _ _ (by omega),Int.ediv_eq_zero_of_lt (by omega) (by omega)];omega
 rw [zrp];unfold zfp
 have e2:n / d*d=n - n % d:=by rw [Int.mul_comm];omega
 rw [jS (show d≠0 by omega),cond_false,Int.tdiv_eq_ediv_of_nonneg n0,zy (z:=n / d) (by omega) (by omega),e2,zy (z:=n - n % d) (by omega) (by omega),zy (z:=n / d+1) (by omega) (by omega),hcl]
 by_cases h:n % d=0
 ·rw [zJ (by omega),if_pos h];rfl
 ·rw [zZ (by omega),if_neg h];rfl
def Yo (s:Int×Int):Prop:=1≤s.1∧s.1≤2097152∧0≤s.2∧s.2≤268435456
theorem zrQ.ok {v:Int×Int} (h:zrQ v):Yo v:=⟨h.1,by have:=h.2.1;omega,h.2.2.1,h.2.2.2⟩
theorem zaY {s:Int×Int} (h:Yo s):yN (s,())=some (0,()):=by
 obtain ⟨h1,h2,h3,h4⟩:=h
 rw [zo9];unfold zc8
 rw [zJ (by omega),zJ (by omega),zJ (by omega),zJ (by omega)];rfl
theorem zrT {s:Int×Int} (h:Yo s):Xq (s,())=some (true,()):=by
 obtain ⟨h1,h2,h3,h4⟩:=h
 rw [zpm];unfold zdk
 rw [zJ (by omega),zJ (by omega),zJ (by omega),zJ (by omega)];rfl
theorem zAy {d w M:Int} (hd:0 < d) (h0:0≤w) (h1:w≤M):0≤cl d w∧cl d w≤M+1:=by
 unfold cl
 refine ⟨Int.ediv_nonneg (by omega) (by omega),?_⟩
 have:(w+d - 1) / d≤(w*d+d) / d:=by
  refine Int.ediv_le_ediv hd ?_
  have:=Int.mul_le_mul_of_nonneg_left (show 1≤d by omega) h0
  omega
 have e:(w*d+d) / d=w+1:=by
  rw [show w*d+d=(w+1)*d by rw [Int.add_mul,Int.one_mul]];exact Int.mul_ediv_cancel _ (by omega)
 omega
theorem zAz {b s:Int×Int} (hb:jG b) (hs:Yo s):vY (b.1,1048576,s.1,())=some (cl s.1 (b.1*1048576),()):=by
 obtain ⟨⟨b1,b2⟩,b3,b4⟩:=hb
 obtain ⟨h1,h2,h3,h4⟩:=hs
 exact zhS (by omega) (by omega) (by omega) (by omega) (by omega) (by omega) (by omega)
theorem zxN {b s:Int×Int} (hb:jG b) (hs:Yo s):0≤cl s.1 (b.1*1048576)∧cl s.1 (b.1*1048576)≤1099511627777:=by
 obtain ⟨⟨b1,b2⟩,b3,b4⟩:=hb
 obtain ⟨h1,h2,h3,h4⟩:=hs
 exact zAy (M:=1099511627776) (by omega) (by omega) (by omega)
theorem zrU {b s:Int×Int} (hb:jG b) (hs:Yo s):ux ([b],s,())=some (bif tv (b.2≤s.1) then (s.2+cl s.1 (b.1*1048576),0,()) else (0,141,())):=by
 have hd:=zxN hb hs
 have hcl:gI ([b],s.1,())=some (bif tv (b.2≤s.1) then (cl s.1 (b.1*1048576),true,()) else (0,false,())):=by
  rw [zj9];unfold UO
  refine kG ?_
  by_cases h:b.2≤s.1
  ·rw [qf h,cond_true]
   refine zk (J:=fun x=>x.2.1.1=cl s.1 (b.1*1048576)∧x.2.1.2.1=true) (zX 1 (fun i st=>(i=0∧st=((0,(false,(0,()))),((),((),()))))∨(i=1∧st=((cl s.1 (b.1*1048576),(true,(1,()))),((),((),()))))) (by omega) (.inl ⟨rfl,rfl⟩) ?_ ?_) ?_
   ·rintro i _ hi (⟨rfl,rfl⟩ | ⟨rfl,rfl⟩)
    ·refine zf rfl (zg (qh (a:=b) rfl (ze (zJ (by omega)) ?_)))
     rw [zAz hb hs,zD]
     refine zk (J:=fun x=>x.2.1.1=cl s.1 (b.1*1048576)∧x.2.1.2.1=true) (zf rfl (za ⟨rfl,rfl⟩)) ?_
     rintro ⟨j,⟨a1,a2,⟨⟩⟩,⟨⟩,⟨⟩⟩ ⟨h1,h2⟩
     simp only at h1 h2
     subst h1 h2
     refine zk (J:=fun x=>x.1=0∧x.2.1.1=cl s.1 (b.1*1048576)∧x.2.1.2.1=true) (zX 1 (fun i st=>(i=0∧st=((cl s.1 (b.1*1048576),(true,(0,()))),((),((),()))))∨(i=1∧st=((cl s.1 (b.1*1048576),(true,(1,()))),((),((),()))))) (by omega) (.inl ⟨rfl,rfl⟩) ?_ ?_) ?_
     ·rintro i _ hi (⟨rfl,rfl⟩ | ⟨rfl,rfl⟩)
      ·refine zf rfl (zg (qh (a:=b) rfl (zf (by rw [zJ (by omega)];rfl) ?_)))
       exact za (qj (.inr ⟨rfl,rfl⟩))
      ·omega
     ·rintro _ (⟨h1,rfl⟩ | ⟨_,rfl⟩)
      ·omega
      ·exact ze rfl (za (zu ⟨rfl,rfl,rfl⟩))
     ·rintro ⟨j,⟨a1,a2,a3,⟨⟩⟩,⟨⟩,⟨⟩,⟨⟩⟩ ⟨h1,h2,h3⟩
      simp only at h1 h2 h3
      subst h1 h2 h3
      exact zf rfl (za (qj (.inr ⟨rfl,rfl⟩)))
    ·omega
   ·rintro _ (⟨h1,rfl⟩ | ⟨_,rfl⟩)
    ·omega
    ·exact ze rfl (za (zu ⟨rfl,rfl⟩))
   ·rintro ⟨j,⟨a1,a2,a3,⟨⟩⟩,⟨⟩,⟨⟩,⟨⟩⟩ ⟨h1,h2⟩
    simp only at h1 h2
    subst h1 h2
    refine zj (fun _=>?_) (fun _=>?_)<;>exact za rfl
  ·rw [qu h,cond_false]
   refine zk (J:=fun x=>x.2.1.1=0∧x.2.1.2.1=false) (zX 1 (fun i st=>(i=0∧st=((0,(false,(0,()))),((),((),()))))∨(i=1∧st=((0,(false,(1,()))),((),((),()))))) (by omega) (.inl ⟨rfl,rfl⟩) ?_ ?_) ?_
   ·rintro i _ hi (⟨rfl,rfl⟩ | ⟨rfl,rfl⟩)
    ·exact zf rfl (zg (qh (a:=b) rfl (zf (zZ (by omega)) (za (qj (.inr ⟨rfl,rfl⟩))))))
    ·omega
   ·rintro _ (⟨h1,rfl⟩ | ⟨_,rfl⟩)
    ·omega
    ·exact ze rfl (za (zu ⟨rfl,rfl⟩))
   ·rintro ⟨j,⟨a1,a2,a3,⟨⟩⟩,⟨⟩,⟨⟩,⟨⟩⟩ ⟨h1,h2⟩
    simp only at h1 h2
    subst h1 h2
    refine zj (fun _=>?_) (fun _=>?_)<;>exact za rfl
 rw [zpg];unfold zdb
 refine kG (ze rfl (ze rfl (zk (J:=fun x=>x.1=0∧x.2.1.1=0) (jn 1 (fun _=>True) (by omega) ?_ ?_) ?_)))
 ·intro i hi _
  have:i=0:=by omega
  subst this
  refine zf rfl (zg (qh (a:=b) rfl ?_))
  rw [gL,qf hb,zD]
  exact ze rfl (za (yr (by omega) trivial))
 ·intro _
  exact ze rfl (za (zu ⟨rfl,rfl⟩))
 ·rintro ⟨j,⟨v,w,⟨⟩⟩,⟨⟩⟩ ⟨h1,h2⟩
  simp only at h1 h2
  subst h1 h2
  refine zf rfl ?_
  rw [zaY hs,zD]
  refine ze rfl ?_
  rw [hcl,zD]
  by_cases h:b.2≤s.1
  ·rw [qf h,cond_true,cond_true]
   refine ze rfl (za ?_)
   obtain ⟨h1,h2,h3,h4⟩:=hs
   show ((wrF .i64 (s.2+cl s.1 (b.1*1048576))),_)=_
   rw [zy (by omega) (by omega)]
  ·rw [qu h]
   exact zf rfl (za rfl)
theorem zgt {b s:Int×Int} (hb:jG b) (hs:Yo s):ga ([b],s,())=some (bif tv (b.2≤s.1) then (s.2+cl s.1 (b.1*1048576),0,()) else (0,141,())):=by
 have hd:=zxN hb hs
 obtain ⟨s1,s2,s3,s4⟩:=id hs
 obtain ⟨⟨b1,b2⟩,b3,b4⟩:=id hb
 have hsl:Vx ([b],s.1,())=some (tv (b.2≤s.1),()):=by
  rw [zro];unfold zfm
  refine wu (zk (J:=fun x=>(x.1=0∧¬b.2≤s.1)∨(x.1=1∧x.2.1.1=true∧b.2≤s.1)) (jn 1 (fun _=>¬b.2≤s.1) (by omega) ?_ ?_) ?_)
  ·intro i hi _
   have:i=0:=by omega
   subst this
   refine zf rfl (zg (qh (a:=b) rfl (zj (fun h=>?_) (fun h=>?_))))
   ·have:=qG (show zi s.1 b.2=false by simpa using h)
    exact za (zu (.inr ⟨rfl,rfl,this⟩))
   ·have:=qp (show zi s.1 b.2=true by simpa using h)
    exact za (yr (by omega) (by omega))
  ·intro hp
   exact ze rfl (za (zu (.inl ⟨rfl,hp 0 (by omega)⟩)))
  ·rintro ⟨j,⟨v,w,⟨⟩⟩,⟨⟩⟩ (⟨rfl,h⟩ | ⟨rfl,rfl,h⟩)
   ·exact zf rfl (za ⟨fun h=>(by cases h),fun h'=>absurd h' h⟩)
   ·exact ze rfl (za ⟨fun _=>h,fun _=>rfl⟩)
 have hcl:b.2≤s.1→QI ([b],s.1,())=some (cl s.1 (b.1*1048576),()):=by
  intro h
  rw [zkb];unfold US
  refine xA (zk (J:=fun x=>x.2.1.1=cl s.1 (b.1*1048576)) (zX 1 (fun i st=>(i=0∧st=((-1,(0,())),()))∨(i=1∧st=((cl s.1 (b.1*1048576),(1,())),()))) (by omega) (.inl ⟨rfl,rfl⟩) ?_ ?_) ?_)
  ·rintro i _ hi (⟨rfl,rfl⟩ | ⟨rfl,rfl⟩)
   ·refine zf rfl (zg (qh (a:=b) rfl (ze (zJ (by omega)) ?_)))
    rw [show wrF .i64 (b.1*1048576)=b.1*1048576 from zy (by omega) (by omega),zhT (by omega) (by omega) (by omega) (by omega),zD]
    refine zk (J:=fun x=>x.2.1.1=cl s.1 (b.1*1048576)) (zf rfl (za rfl)) ?_
    rintro ⟨j,⟨a1,⟨⟩⟩,⟨⟩⟩ h1
    simp only at h1
    subst h1
    refine zk (J:=fun x=>x.2.1.1=cl s.1 (b.1*1048576)) (zX 1 (fun i st=>(i=0∧st=((cl s.1 (b.1*1048576),(0,())),()))∨(i=1∧st=((cl s.1 (b.1*1048576),(1,())),()))) (by omega) (.inl ⟨rfl,rfl⟩) ?_ ?_) ?_
    ·rintro i _ hi (⟨rfl,rfl⟩ | ⟨rfl,rfl⟩)
     ·refine zf rfl (zg (qh (a:=b) rfl (zk (J:=fun x=>x.2.1.1=cl s.1 (b.1*1048576)) (ze (zJ (by omega)) (za rfl)) ?_)))
      rintro ⟨j,⟨a1,⟨⟩⟩,⟨⟩⟩ h1
      simp only at h1
      subst h1
      exact za (qj (.inr ⟨rfl,rfl⟩))
     ·omega
    ·rintro _ (⟨h1,rfl⟩ | ⟨_,rfl⟩)
     ·omega
     ·exact ze rfl (za (zu rfl))
    ·rintro ⟨j,⟨a1,a2,⟨⟩⟩,⟨⟩⟩ h1
     simp only at h1
     subst h1
     exact za (qj (.inr ⟨rfl,rfl⟩))
   ·omega
  ·rintro _ (⟨h1,rfl⟩ | ⟨_,rfl⟩)
   ·omega
   ·exact ze rfl (za (zu rfl))
  ·rintro ⟨j,⟨a1,a2,⟨⟩⟩,⟨⟩⟩ h1
   exact za h1
 rw [zpo];unfold zdn
 refine kG (ze rfl (ze rfl (zk (J:=fun x=>x.1=0) (zX 1 (fun i st=>st=((0,(0,((i:Int),()))),())) (by omega) rfl ?_ ?_) ?_)))
 ·rintro i _ hi rfl
  have:i=0:=by omega
  subst this
  refine zf rfl (zg (qh (a:=b) rfl ?_))
  rw [zaX,qf hb,zD]
  exact ze rfl (za (qj rfl))
 ·rintro _ rfl
  exact ze rfl (za (zu rfl))
 ·rintro ⟨j,⟨v,w,z,⟨⟩⟩,⟨⟩⟩ h1
  simp only at h1
  subst h1
  refine zf rfl ?_
  rw [zrT hs,zD]
  refine ze rfl ?_
  rw [hsl,zD]
  by_cases h:b.2≤s.1
  ·rw [qf h,cond_true]
   refine ze rfl ?_
   rw [hcl h,zD]
   refine za ?_
   show ((wrF .i64 (s.2+cl s.1 (b.1*1048576))),_)=_
   rw [zy (by omega) (by omega)]
  ·rw [qu h,cond_false]
   exact zf rfl (za rfl)
theorem zy7 {b s:Int×Int} (hb:jG b) (hs:Yo s):0≤b.2*s.2∧b.2*s.2≤562949953421312∧0≤cl 1048576 (b.2*s.2)∧cl 1048576 (b.2*s.2)≤562949953421313:=by
 obtain ⟨s1,s2,s3,s4⟩:=hs
 obtain ⟨⟨b1,b2⟩,b3,b4⟩:=hb
 have:=Gx (show 0≤b.2 by omega) b4 s3 s4
 have:=zAy (d:=1048576) (w:=b.2*s.2) (M:=562949953421312) (by omega) (by omega) (by omega)
 omega
theorem znz {b s:Int×Int} (hb:jG b) (hs:Yo s) (h:b.2≤s.1):xF (b,s,())=some (b.1+cl 1048576 (b.2*s.2),0,()):=by
 have hbb:=zy7 hb hs
 obtain ⟨s1,s2,s3,s4⟩:=id hs
 obtain ⟨⟨b1,b2⟩,b3,b4⟩:=id hb
 rw [zlU];unfold zaD
 have e:kL (b,s,())=some (0,()):=by
  rw [ziT];unfold Kv
  rw [gL,qf hb,zD,cond_true,zaY hs,zD,zJ (by omega)];rfl
 rw [e,zD]
 refine kG (ze rfl ?_)
 rw [zhS (by omega) (by omega) s3 (by omega) (by omega) (by omega) (by omega)]
 refine za ?_
 show ((wrF .i64 (b.1+cl 1048576 (b.2*s.2))),_)=_
 rw [zy (by omega) (by omega)]
theorem znA {b s:Int×Int} (hb:jG b) (hs:Yo s) (h:b.2≤s.1):Wa (b,s,())=some (b.1+cl 1048576 (b.2*s.2),0,()):=by
 have hbb:=zy7 hb hs
 obtain ⟨⟨b1,b2⟩,b3,b4⟩:=id hb
 rw [zl2];unfold zaH
 rw [zgt hb hs,qf h,zD,cond_true]
 refine kG (ze rfl ?_)
 rw [show wrF .i64 (b.2*s.2)=b.2*s.2 from zy (by omega) (by omega),zhT (by omega) (by omega) (by omega) (by omega)]
 refine za ?_
 show ((wrF .i64 (b.1+cl 1048576 (b.2*s.2))),_)=_
 rw [zy (by omega) (by omega)]
abbrev Bnd:=(Int×Int)×(Int×Int)×Int×Int
def zB:Bnd:=((0,0),((0,0),(0,0)))
def yg (s:jj) (p:Int):Prop:=∃r∈s.2.2.2.2.2.2.2.2,p∈r
noncomputable def load (l:List jj) (p:Int):List (Int×Int):=(l.filter fun s=>tv (yg s p)).map fun s=>s.2.2.2.2.2.2.1
structure okP (n:Fab) (l:List jj):Prop where
 f:zxE n
 a:ztu n.1 l
 n12:l.length≤12
 d:ztv l
 c:∀s∈l,s.2.2.2.1=6∧s.2.2.2.2.1≤n.2.2.2
noncomputable def ofS (g:Gts) (per most:Int):(Int×Int)×Int:=match JZ (g,per,most,()) with
 |some (v,e,())=>(v,e)
 |none=>((0,0),0)
theorem zAA {g:Gts} (hg:qz g) {per most:Int} (p0:1≤per) (p1:per≤1000) (m0:84≤most) (m1:most≤1542):xV (g,per,most,())=some ((ofS g per most).1,(ofS g per most).2,())∧JZ (g,per,most,())=some ((ofS g per most).1,(ofS g per most).2,())∧(((ofS g per most).2=0∧zrQ (ofS g per most).1)∨((ofS g per most).2=4∧(ofS g per most).1=(0,0))):=by
 obtain ⟨v,e,h1,h2,h3⟩:=zFK hg p0 p1 m0 m1
 have e1:ofS g per most=(v,e):=by unfold ofS;rw [h2]
 rw [e1]
 exact ⟨h1,h2,h3⟩
noncomputable def zFi (b v:Int×Int):Bnd:=(b,(v,(v.2+cl v.1 (b.1*1048576),b.1+cl 1048576 (b.2*v.2))))
noncomputable def Xh (n:Fab) (l:List jj) (p:Int):Bnd×Int:=
 bif tv (load l p=[]) then (zB,4)
 else bif tv ((ofS ((n.2.2.1[p.toNat]?).getD ([],0)) (lnk n.1 p).2.2.1 n.2.2.2).2=0) then
  bif tv ((Yn (load l p)).2=0) then
   bif tv ((Yn (load l p)).1.2≤(ofS ((n.2.2.1[p.toNat]?).getD ([],0)) (lnk n.1 p).2.2.1 n.2.2.2).1.1) then (zFi (Yn (load l p)).1 (ofS ((n.2.2.1[p.toNat]?).getD ([],0)) (lnk n.1 p).2.2.1 n.2.2.2).1,0)
   else (zB,141)
  else (zB,6)
 else (zB,411)
theorem zfL {t:qk} {s:jj} (hs:Zk t s) (p:Int):vo (s,p,())=some (tv (yg s p),()):=by
 have rn:=hs.rn
 rw [znh];unfold zbP
 refine wu (zk (J:=fun x=>(x.1=0∧¬yg s p)∨(x.1=1∧x.2.1.1=true∧yg s p)) (jn s.2.2.2.2.2.2.2.2.length (fun i=>∀r,s.2.2.2.2.2.2.2.2[i]?=some r→¬p∈r) (by omega) ?_ ?_) ?_)
 ·intro i hi hp
  have hx:s.2.2.2.2.2.2.2.2[i]?=some s.2.2.2.2.2.2.2.2[i]:=List.getElem?_eq_getElem hi
  have hm:=List.getElem_mem hi
  generalize s.2.2.2.2.2.2.2.2[i]=r at hx hm
  have hr8:=(hs.rt r hm).1.n1
  refine zf (zZ (show (i:Int) < (s.2.2.2.2.2.2.2.2.length:Int) by omega)) ?_
  refine zk (J:=fun x=>(x.1=0∧x.2.1.1=false∧¬p∈r)∨(x.1=1∧x.2.1.1=true∧p∈r)) (jn r.length (fun k=>r[k]?≠some p) (by omega) ?_ ?_) ?_
  ·intro k hk hpk
   have hy:r[k]?=some r[k]:=List.getElem?_eq_getElem hk
   refine zg (zC (n:=i) hx (zf (zZ (show (k:Int) < (r.length:Int) by omega)) (zg (zC (n:=i) hx (zg (zC (n:=k) hy ?_))))))
   refine zj (fun h=>?_) (fun h=>?_)
   ·have:r[k]=p:=qO h
    exact za (zu (.inr ⟨rfl,rfl,by rw [←this];exact List.getElem_mem hk⟩))
   ·have:r[k]≠p:=jM h
    exact za (yr (by omega) (by rw [hy];intro e;cases e;exact this rfl))
  ·intro hpk
   refine zg (zC (n:=i) hx (ze (zJ (show ¬(r.length:Int) < (r.length:Int) by omega)) (za (zu (.inl ⟨rfl,rfl,fun hm=>?_⟩)))))
   obtain ⟨k,hk,hk2⟩:=yG hm
   exact hpk k hk hk2
  ·rintro ⟨j,⟨v,w,⟨⟩⟩,⟨⟩⟩ (⟨rfl,rfl,hq⟩ | ⟨rfl,rfl,hq⟩)
   ·exact zf rfl (za (yr (by omega) fun r' hr'=>by rw [hx] at hr';cases hr';exact hq))
   ·exact ze rfl (za (zu (.inr ⟨rfl,rfl,r,hm,hq⟩)))
 ·intro hp
  refine ze (zJ (show ¬(s.2.2.2.2.2.2.2.2.length:Int) < (s.2.2.2.2.2.2.2.2.length:Int) by omega)) (za (zu (.inl ⟨rfl,fun ⟨r,h1,h2⟩=>?_⟩)))
  obtain ⟨k,hk,hk2⟩:=yG h1
  exact hp k hk r hk2 h2
 ·rintro ⟨j,⟨v,w,⟨⟩⟩,⟨⟩⟩ (⟨rfl,hq⟩ | ⟨rfl,rfl,hq⟩)
  ·exact zf rfl (za ⟨fun h=>(by cases h),fun h=>absurd h hq⟩)
  ·exact ze rfl (za ⟨fun _=>hq,fun _=>rfl⟩)
theorem zmp {l:List jj} {i:Nat} {s:jj} (h:l[i]?=some s) (p:Int):load (l.take (i+1)) p=bif tv (yg s p) then load (l.take i) p++[s.2.2.2.2.2.2.1] else load (l.take i) p:=by
 unfold load
 rw [List.take_add_one,h,Option.toList,List.filter_append,List.map_append]
 cases e:tv (yg s p) with
 |true=>simp [e]
 |false=>simp [e]
theorem ztC {n:Fab} {l:List jj} (h:okP n l) (p:Int):(load l p).length≤12∧∀b∈load l p,jG b:=by
 unfold load
 refine ⟨?_,fun b hb=>?_⟩
 ·rw [List.length_map]
  have:=List.length_filter_le (fun s=>tv (yg s p)) l
  have:=h.n12
  omega
 ·obtain ⟨s,hs,rfl⟩:=List.mem_map.1 hb
  have hs:=(List.mem_filter.1 hs).1
  have h1:=h.a s hs
  have h2:=(h.c s hs).1
  rcases h1.cl with ⟨h3,_⟩ | ⟨_,_,h4,h5⟩
  ·omega
  ·have:=h1.sz
   exact ⟨⟨by omega,h4.2⟩,h5⟩
theorem zmq {n:Fab} (h:zxE n) {p:Int} (hp:wm n.1 p):∃g,n.2.2.1[p.toNat]?=some g∧(n.2.2.1[p.toNat]?).getD ([],0)=g∧qz g∧1≤(lnk n.1 p).2.2.1∧(lnk n.1 p).2.2.1≤1000:=by
 have:=hp.1;have:=hp.2
 have hf:=h.f.1
 have hx:n.2.2.1[p.toNat]?=some (n.2.2.1[p.toNat]'(by omega)):=List.getElem?_eq_getElem (by omega)
 have hl:=(h.t.ls _ _ (Gw hp)).1
 exact ⟨_,hx,by rw [hx];rfl,h.g _ (List.getElem_mem _),hl.2.2.2.2.1,hl.2.2.2.2.2.1⟩
theorem K_ref31_hop_s {n:Fab} {l:List jj} (h:okP n l) {p:Int} (hp:wm n.1 p):zn5 (n,l,p,())=some ((Xh n l p).1,(Xh n l p).2,()):=by
 have h12:=h.n12
 obtain ⟨lb1,lb2⟩:=ztC h p
 obtain ⟨g,hx,hge,hg,p0,p1⟩:=zmq h.f hp
 obtain ⟨o1,o2,o3⟩:=zAA hg p0 p1 h.f.f.2.1 h.f.f.2.2
 rw [ztd];unfold zgR Xh
 rw [hge]
 refine kG (zk (J:=fun x=>x.2.2.1=load l p) (zX l.length (fun i s=>s=(((i:Int),()),(load (l.take i) p,()))) (by omega) rfl ?_ ?_) ?_)
 ·rintro i _ hi rfl
  have hy:l[i]?=some l[i]:=List.getElem?_eq_getElem hi
  have hm:=List.getElem_mem hi
  generalize l[i]=s at hy hm
  have hll:(load (l.take i) p).length≤12:=by
   unfold load;rw [List.length_map]
   have:=List.length_filter_le (fun s=>tv (yg s p)) (l.take i)
   simp only [List.length_take] at this;omega
  refine zf (zZ (show (i:Int) < (l.length:Int) by omega)) ?_
  refine zk (J:=fun x=>x.2.2.1=load (l.take (i+1)) p) ?_ ?_
  ·refine zg (zC (n:=i) hy ?_)
   rw [zfL (h.a s hm),zD,zmp hy]
   cases hpa:tv (yg s p) with
   |true=>
    refine zf rfl (zg (zC (n:=i) hy (zf (wC (by show ((load (l.take i) p).length+1)*16≤_;omega) (by show (load (l.take i) p).length+1≤_;omega)) (za rfl))))
   |false=>exact ze rfl (za rfl)
  ·rintro ⟨j,⟨⟩,c,⟨⟩⟩ hc
   simp only at hc
   subst hc
   exact za (qj (congrArg (fun z=>((z,()),(_,()))) (qv (by omega))))
 ·rintro _ rfl
  refine ze (zJ (show ¬(l.length:Int) < (l.length:Int) by omega)) (za (zu ?_))
  show load (l.take l.length) p=_
  rw [List.take_length]
 ·rintro ⟨j,⟨z,⟨⟩⟩,c,⟨⟩⟩ hc
  simp only at hc
  subst hc
  by_cases hne:load l p=[]
  ·rw [qf hne,cond_true,hne]
   exact zf rfl (za rfl)
  have hlen:(load l p).length≠0:=fun e=>hne (List.length_eq_zero_iff.1 e)
  rw [qu hne,cond_false]
  refine ze (jS (show ((load l p).length:Int)≠0 by omega)) (zg (qh (a:=g) (by show atI n.2.2.1 p=_;rw [show p=((p.toNat:Nat):Int) from (by have:=hp.1;omega),yd (n:=p.toNat)];exact hx) ?_))
  rw [zvo h.f.t.ll hp,zD,o2,zD]
  rcases o3 with ⟨o4,o5⟩ | ⟨o4,o5⟩
  ·rw [o4,qf rfl,cond_true]
   refine ze rfl ?_
   rw [zvp hne lb1 lb2,zD]
   have hs2:(Yn (load l p)).2=0∧jG (Yn (load l p)).1∨(Yn (load l p)).2=6:=by
    unfold Yn
    by_cases hb:jG (ud (load l p))
    ·rw [qf hb];exact .inl ⟨rfl,hb⟩
    ·rw [qu hb];exact .inr rfl
   rcases hs2 with ⟨hs2,hb⟩ | hs2
   ·rw [hs2,qf rfl,cond_true]
    refine ze rfl ?_
    rw [zgt hb o5.ok,zD]
    by_cases hle:(Yn (load l p)).1.2≤(ofS g (lnk n.1 p).2.2.1 n.2.2.2).1.1
    ·rw [qf hle,cond_true,cond_true]
     refine ze rfl ?_
     rw [znA hb o5.ok hle,zD]
     exact za rfl
    ·rw [qu hle,cond_false,cond_false]
     exact zf rfl (za rfl)
   ·rw [hs2,qu (by simp)]
    exact zf rfl (za rfl)
  ·rw [o4,qu (by simp)]
   exact zf rfl (za rfl)
abbrev zi6:=List (Int×Bnd×Int)
def zhU (n:Fab) (l:List jj) (m:zi6):Prop:=∀q z,mpH m q=true→mpD m q z=Xh n l q
theorem zBZ (n:Fab) (l:List jj):zhU n l []:=fun q z h=>by cases h
theorem zuq {n:Fab} {l:List jj} {m:zi6} (h:zhU n l m) (p:Int) {r:Bnd×Int} (hr:r=Xh n l p):zhU n l (mpP m p r):=fun q z hq=>by
 rw [zy1]
 split
 ·rename_i e;rw [←e,hr]
 ·rename_i e
  rw [zEA] at hq
  refine h q z ?_
  simpa [e] using hq
noncomputable def zFj (n:Fab) (l:List jj) (m:zi6) (p:Int):Option (Nat×(((Bnd×Int)×Unit)×(zi6×Unit))):=
 (bif (!(mpH (α:=(((Int×Int)×((Int×Int)×(Int×Int)))×Int)) (m) (p))) then opt (zI (fun s7:((Int×Unit)×(((List (Int×Int))×Unit)×(Unit×(Unit×Unit))))=>
         bif (zi (s7.1.1) ((((l).length:Nat):Int))) then opt (atI (l) (s7.1.1)) fun x8=>
          opt (zI (fun s9:((Int×(Int×Unit))×(((List (Int×Int))×Unit)×(Unit×(Unit×Unit))))=>
           bif (zi (s9.1.2.1) ((((x8.2.2.2.2.2.2.2.2).length:Nat):Int))) then opt (atI (x8.2.2.2.2.2.2.2.2) (s9.1.2.1)) fun x10=>
            opt (jf ((x10,(p,())))) fun x11=>
            bif x11.1 then some (.inl (1,((s9.1.2.1,(s9.1.2.1,())),((s9.2.1.1,()),((),((),()))))))
            else some (.inr ((s9.1.1,((wrF .i64 ((s9.1.2.1+1))),())),((s9.2.1.1,()),((),((),())))))
           else some (.inl (0,((s9.1.1,(s9.1.2.1,())),((s9.2.1.1,()),((),((),()))))))) zQ ((0,(0,())),((s7.2.1.1,()),((),((),()))))) fun x12=>
          bif (Nat.beq x12.1 0) then some (.inr (((wrF .i64 ((s7.1.1+1))),()),((x12.2.2.1.1,()),((),((),())))))
          else bif (!(zi (x12.2.1.1) (0))) then bif (qE ((x12.2.2.1.1).length) (((x8.2.2.2.2.2.2.1::[])).length) (16)) then some (.inr (((wrF .i64 ((s7.1.1+1))),()),(((x12.2.2.1.1++(x8.2.2.2.2.2.2.1::[])),()),((),((),())))))
            else none
           else some (.inr (((wrF .i64 ((s7.1.1+1))),()),((x12.2.2.1.1,()),((),((),())))))
         else some (.inl (0,((s7.1.1,()),((s7.2.1.1,()),((),((),()))))))) zQ ((0,()),(([],()),((),((),()))))) fun x13=>
        bif (Nat.beq x13.1 0) then bif (zo ((((x13.2.2.1.1).length:Nat):Int)) (0)) then some (0,(((((0,0),((0,0),(0,0))),4),()),((mpP (α:=(((Int×Int)×((Int×Int)×(Int×Int)))×Int)) (m) (p) ((((0,0),((0,0),(0,0))),4))),())))
         else opt (ZP ((n.1,(p,())))) fun x14=>
          bif (!(zo (x14.2.1) (0))) then some (0,(((((0,0),((0,0),(0,0))),x14.2.1),()),((mpP (α:=(((Int×Int)×((Int×Int)×(Int×Int)))×Int)) (m) (p) ((((0,0),((0,0),(0,0))),x14.2.1))),())))
          else opt (atI (n.2.2.1) (p)) fun x15=>
           opt (xV ((x15,(x14.1,(n.2.2.2,()))))) fun x16=>
           bif (!(zo (x16.2.1) (0))) then some (0,(((((0,0),((0,0),(0,0))),411),()),((mpP (α:=(((Int×Int)×((Int×Int)×(Int×Int)))×Int)) (m) (p) ((((0,0),((0,0),(0,0))),411))),())))
           else opt (kq ((x13.2.2.1.1,()))) fun x17=>
            bif (!(zo (x17.2.1) (0))) then some (0,(((((0,0),((0,0),(0,0))),x17.2.1),()),((mpP (α:=(((Int×Int)×((Int×Int)×(Int×Int)))×Int)) (m) (p) ((((0,0),((0,0),(0,0))),x17.2.1))),())))
            else opt (ux (((x17.1::[]),(x16.1,())))) fun x18=>
             bif (!(zo (x18.2.1) (0))) then some (0,(((((0,0),((0,0),(0,0))),x18.2.1),()),((mpP (α:=(((Int×Int)×((Int×Int)×(Int×Int)))×Int)) (m) (p) ((((0,0),((0,0),(0,0))),x18.2.1))),())))
             else opt (xF ((x17.1,(x16.1,())))) fun x19=>
              bif (!(zo (x19.2.1) (0))) then some (0,(((((0,0),((0,0),(0,0))),x19.2.1),()),((mpP (α:=(((Int×Int)×((Int×Int)×(Int×Int)))×Int)) (m) (p) ((((0,0),((0,0),(0,0))),x19.2.1))),())))
              else some (0,((((x17.1,(x16.1,(x18.1,x19.1))),0),()),((mpP (α:=(((Int×Int)×((Int×Int)×(Int×Int)))×Int)) (m) (p) (((x17.1,(x16.1,(x18.1,x19.1))),0))),())))
        else bif (zo ((((x13.2.2.1.1).length:Nat):Int)) (0)) then some (0,(((((0,0),((0,0),(0,0))),4),()),((mpP (α:=(((Int×Int)×((Int×Int)×(Int×Int)))×Int)) (m) (p) ((((0,0),((0,0),(0,0))),4))),())))
         else opt (ZP ((n.1,(p,())))) fun x20=>
          bif (!(zo (x20.2.1) (0))) then some (0,(((((0,0),((0,0),(0,0))),x20.2.1),()),((mpP (α:=(((Int×Int)×((Int×Int)×(Int×Int)))×Int)) (m) (p) ((((0,0),((0,0),(0,0))),x20.2.1))),())))
          else opt (atI (n.2.2.1) (p)) fun x21=>
           opt (xV ((x21,(x20.1,(n.2.2.2,()))))) fun x22=>
           bif (!(zo (x22.2.1) (0))) then some (0,(((((0,0),((0,0),(0,0))),411),()),((mpP (α:=(((Int×Int)×((Int×Int)×(Int×Int)))×Int)) (m) (p) ((((0,0),((0,0),(0,0))),411))),())))
           else opt (kq ((x13.2.2.1.1,()))) fun x23=>
            bif (!(zo (x23.2.1) (0))) then some (0,(((((0,0),((0,0),(0,0))),x23.2.1),()),((mpP (α:=(((Int×Int)×((Int×Int)×(Int×Int)))×Int)) (m) (p) ((((0,0),((0,0),(0,0))),x23.2.1))),())))
            else opt (ux (((x23.1::[]),(x22.1,())))) fun x24=>
             bif (!(zo (x24.2.1) (0))) then some (0,(((((0,0),((0,0),(0,0))),x24.2.1),()),((mpP (α:=(((Int×Int)×((Int×Int)×(Int×Int)))×Int)) (m) (p) ((((0,0),((0,0),(0,0))),x24.2.1))),())))
             else opt (xF ((x23.1,(x22.1,())))) fun x25=>
              bif (!(zo (x25.2.1) (0))) then some (0,(((((0,0),((0,0),(0,0))),x25.2.1),()),((mpP (α:=(((Int×Int)×((Int×Int)×(Int×Int)))×Int)) (m) (p) ((((0,0),((0,0),(0,0))),x25.2.1))),())))
              else some (0,((((x23.1,(x22.1,(x24.1,x25.1))),0),()),((mpP (α:=(((Int×Int)×((Int×Int)×(Int×Int)))×Int)) (m) (p) (((x23.1,(x22.1,(x24.1,x25.1))),0))),())))
       else some (0,(((mpD (α:=(((Int×Int)×((Int×Int)×(Int×Int)))×Int)) (m) (p) ((((0,0),((0,0),(0,0))),0))),()),(m,()))))
theorem zy8 {n:Fab} {l:List jj} (h:okP n l) {p:Int} (hp:wm n.1 p) {m:zi6} {c:List (Int×Int)} (hc:c=load l p) {X:Option (Nat×(((Bnd×Int)×Unit)×(zi6×Unit)))}
  (hX:X=bif (zo ((((c).length:Nat):Int)) (0)) then some (0,(((zB,4),()),((mpP m p (zB,4)),())))
   else opt (ZP (n.1,(p,()))) fun x14=>bif (!(zo (x14.2.1) (0))) then some (0,(((zB,x14.2.1),()),((mpP m p (zB,x14.2.1)),())))
    else opt (atI (n.2.2.1) p) fun x15=>opt (xV (x15,(x14.1,(n.2.2.2,())))) fun x16=>bif (!(zo (x16.2.1) (0))) then some (0,(((zB,411),()),((mpP m p (zB,411)),())))
     else opt (kq (c,())) fun x17=>bif (!(zo (x17.2.1) (0))) then some (0,(((zB,x17.2.1),()),((mpP m p (zB,x17.2.1)),())))
      else opt (ux ((x17.1::[]),(x16.1,()))) fun x18=>bif (!(zo (x18.2.1) (0))) then some (0,(((zB,x18.2.1),()),((mpP m p (zB,x18.2.1)),())))
       else opt (xF (x17.1,(x16.1,()))) fun x19=>bif (!(zo (x19.2.1) (0))) then some (0,(((zB,x19.2.1),()),((mpP m p (zB,x19.2.1)),())))
        else some (0,((((x17.1,(x16.1,(x18.1,x19.1))),0),()),((mpP m p (((x17.1,(x16.1,(x18.1,x19.1))),0))),())))) :
  qm X fun x=>x.2.1.1=Xh n l p∧x.2.2.1=mpP m p (Xh n l p):=by
 obtain ⟨lb1,lb2⟩:=ztC h p
 obtain ⟨g,hx,hge,hg,p0,p1⟩:=zmq h.f hp
 obtain ⟨o1,o2,o3⟩:=zAA hg p0 p1 h.f.f.2.1 h.f.f.2.2
 have fin:∀{r:Bnd×Int},r=Xh n l p→qm (some ((0:Nat),((r,()),((mpP m p r),())))) fun x=>x.2.1.1=Xh n l p∧x.2.2.1=mpP m p (Xh n l p):=fun e=>za ⟨e,by rw [e]⟩
 subst hX hc
 unfold Xh at fin
 rw [hge] at fin
 unfold Xh
 rw [hge]
 by_cases hne:load l p=[]
 ·rw [qf hne,cond_true] at fin ⊢
  rw [hne]
  exact zf rfl (fin rfl)
 have hlen:(load l p).length≠0:=fun e=>hne (List.length_eq_zero_iff.1 e)
 rw [qu hne,cond_false] at fin ⊢
 refine ze (jS (show ((load l p).length:Int)≠0 by omega)) ?_
 rw [zxD h.f.t hp,zD]
 refine ze rfl (zg (qh (a:=g) (by rw [show p=((p.toNat:Nat):Int) from (by have:=hp.1;omega),yd (n:=p.toNat)];exact hx) ?_))
 rw [o1,zD]
 rcases o3 with ⟨o4,o5⟩ | ⟨o4,o5⟩
 ·rw [o4,qf rfl,cond_true] at fin ⊢
  refine ze rfl ?_
  rw [ztB hne lb1 lb2,zD]
  have hs2:(Yn (load l p)).2=0∧jG (Yn (load l p)).1∨(Yn (load l p)).2=6:=by
   unfold Yn
   by_cases hb:jG (ud (load l p))
   ·rw [qf hb];exact .inl ⟨rfl,hb⟩
   ·rw [qu hb];exact .inr rfl
  rcases hs2 with ⟨hs2,hb⟩ | hs2
  ·rw [hs2,qf rfl,cond_true] at fin ⊢
   refine ze rfl ?_
   rw [zrU hb o5.ok,zD]
   by_cases hle:(Yn (load l p)).1.2≤(ofS g (lnk n.1 p).2.2.1 n.2.2.2).1.1
   ·rw [qf hle,cond_true] at fin ⊢
    rw [cond_true]
    refine ze rfl ?_
    rw [znz hb o5.ok hle,zD]
    exact ze rfl (fin rfl)
   ·rw [qu hle,cond_false] at fin ⊢
    rw [cond_false]
    exact zf rfl (fin rfl)
  ·rw [hs2,qu (by simp)] at fin ⊢
   exact zf rfl (fin rfl)
 ·rw [o4,qu (by simp)] at fin ⊢
  exact zf rfl (fin rfl)
theorem zFk {n:Fab} {l:List jj} (h:okP n l) {p:Int} (hp:wm n.1 p) {m:zi6} (hm:zhU n l m):qm (zFj n l m p) fun x=>x.2.1.1=Xh n l p∧zhU n l x.2.2.1:=by
 have h12:=h.n12
 unfold zFj
 refine zj (fun hk=>?_) (fun hk=>?_)
 rotate_left
 ·have hk:mpH m p=true:=by simpa using hk
  exact za ⟨hm p _ hk,hm⟩
 refine zk (J:=fun x=>x.2.2.1.1=load l p) (zX l.length (fun i s=>s=(((i:Int),()),((load (l.take i) p,()),((),((),()))))) (by omega) rfl ?_ ?_) ?_
 ·rintro i _ hi rfl
  have hy:l[i]?=some l[i]:=List.getElem?_eq_getElem hi
  have hmm:=List.getElem_mem hi
  generalize l[i]=s at hy hmm
  have hs:=h.a s hmm
  have rn:=hs.rn
  have hll:(load (l.take i) p).length≤12:=by
   unfold load;rw [List.length_map]
   have:=List.length_filter_le (fun s=>tv (yg s p)) (l.take i)
   simp only [List.length_take] at this;omega
  refine zf (zZ (show (i:Int) < (l.length:Int) by omega)) (zg (zC (n:=i) hy ?_))
  refine zk (J:=fun x=>(x.1=0∧x.2.2.1.1=load (l.take i) p∧¬yg s p)∨(x.1=1∧0≤x.2.1.1∧x.2.2.1.1=load (l.take i) p∧yg s p))
   (zX s.2.2.2.2.2.2.2.2.length (fun k st=>st=((0,((k:Int),())),((load (l.take i) p,()),((),((),()))))∧∀k',k' < k→∀r,s.2.2.2.2.2.2.2.2[k']?=some r→¬p∈r) (by omega) ⟨rfl,fun k' hk'=>by omega⟩ ?_ ?_) ?_
  ·rintro k _ hk ⟨rfl,hpk⟩
   have hx:s.2.2.2.2.2.2.2.2[k]?=some s.2.2.2.2.2.2.2.2[k]:=List.getElem?_eq_getElem hk
   have hmr:=List.getElem_mem hk
   generalize s.2.2.2.2.2.2.2.2[k]=r at hx hmr
   have hr8:=(hs.rt r hmr).1.n1
   refine zf (zZ (show (k:Int) < (s.2.2.2.2.2.2.2.2.length:Int) by omega)) (zg (zC (n:=k) hx ?_))
   rw [KP (by omega),zD]
   refine zj (fun hc=>?_) (fun hc=>?_)
   ·exact za (zu (.inr ⟨rfl,by show (0:Int)≤(k:Int);omega,rfl,r,hmr,Wm hc⟩))
   ·refine za (qj ⟨congrArg (fun z=>(((0:Int),(z,())),_)) (qv (by omega)),fun k' hk' r' hr'=>?_⟩)
    rcases Nat.lt_or_ge k' k with h1 | h1
    ·exact hpk k' h1 r' hr'
    ·have:k'=k:=by omega
     subst this
     rw [hx] at hr';cases hr'
     exact JS hc
  ·rintro _ ⟨rfl,hpk⟩
   refine ze (zJ (show ¬(s.2.2.2.2.2.2.2.2.length:Int) < (s.2.2.2.2.2.2.2.2.length:Int) by omega)) (za (zu (.inl ⟨rfl,rfl,fun ⟨r,h1,h2⟩=>?_⟩)))
   obtain ⟨k,hk1,hk2⟩:=yG h1
   exact hpk k hk1 r hk2 h2
  ·rintro ⟨j,⟨v,w,⟨⟩⟩,⟨c,⟨⟩⟩,⟨⟩,⟨⟩,⟨⟩⟩ (⟨rfl,hc,hq⟩ | ⟨rfl,hv,hc,hq⟩)
   ·simp only at hc
    subst hc
    refine zf rfl (za (qj ?_))
    rw [zmp hy,qu hq,cond_false]
    exact congrArg (fun z=>((z,()),_)) (qv (by omega))
   ·simp only at hc hv
    subst hc
    refine ze rfl (zf (by rw [zJ (show ¬v < 0 by omega)];rfl) (zf (wC (by show ((load (l.take i) p).length+1)*16≤_;omega) (by show (load (l.take i) p).length+1≤_;omega)) (za (qj ?_))))
    rw [zmp hy,qf hq,cond_true]
    exact congrArg (fun z=>((z,()),_)) (qv (by omega))
 ·rintro _ rfl
  refine ze (zJ (show ¬(l.length:Int) < (l.length:Int) by omega)) (za (zu ?_))
  show load (l.take l.length) p=_
  rw [List.take_length]
 ·rintro ⟨j,⟨z,⟨⟩⟩,⟨c,⟨⟩⟩,⟨⟩,⟨⟩,⟨⟩⟩ hc
  simp only at hc
  refine zj (fun _=>?_) (fun _=>?_)
  ·exact zug (zy8 h hp (m:=m) hc rfl) fun x hx=>⟨hx.1,by rw [hx.2];exact zuq hm p rfl⟩
  ·exact zug (zy8 h hp (m:=m) hc rfl) fun x hx=>⟨hx.1,by rw [hx.2];exact zuq hm p rfl⟩
def zAB (n:Fab) (l:List jj):Prop:=∀s∈l,s.2.2.2.1=6∧s.2.2.2.2.1≤n.2.2.2
noncomputable def zi7 (n:Fab) (l:List jj):Int:=bif tv (zfI n=0) then bif tv (zfH n.1 l=0) then bif tv (zAB n l) then 0 else 2 else zfH n.1 l else zfI n
theorem zB0 {t:qk} {l:List jj} (h:zfH t l=0):l.length≤12∧ztu t l∧ztv l:=by
 unfold zfH at h
 by_cases h1:l.length≤12
 ·by_cases h2:ztu t l
  ·by_cases h3:ztv l
   ·exact ⟨h1,h2,h3⟩
   ·rw [qf h1,qf h2,qu h3] at h;cases h
  ·rw [qf h1,qu h2] at h;cases h
 ·rw [qu h1] at h;cases h
theorem zy9 {n:Fab} {l:List jj} (h:zi7 n l=0):okP n l:=by
 unfold zi7 at h
 by_cases h1:zfI n=0
 ·by_cases h2:zfH n.1 l=0
  ·by_cases h3:zAB n l
   ·obtain ⟨a,b,c⟩:=zB0 h2
    exact ⟨zBO h1,b,a,c,h3⟩
   ·rw [qf h1,qf h2,qu h3] at h;cases h
  ·rw [qf h1,qu h2] at h;exact absurd h h2
 ·rw [qu h1] at h;exact absurd h h1
theorem zDv
      {n:Fab} {s:jj}:qm (bif (!(zo (s.2.2.2.1) (6))) then some ((1:Nat),(((),((2:Int),())),()))
      else bif (zi (n.2.2.2) (s.2.2.2.2.1)) then some (1,(((),(2,())),()))
       else some (0,(((),(0,())),()))) fun x=>(x.1=0∧x.2.1.2.1=0∧s.2.2.2.1=6∧s.2.2.2.2.1≤n.2.2.2)∨(x.1=1∧x.2.1.2.1=2∧¬(s.2.2.2.1=6∧s.2.2.2.2.1≤n.2.2.2)):=by
 refine zj (fun h=>za (.inr ⟨rfl,rfl,fun hs=>?_⟩)) fun h1=>zj (fun h=>za (.inr ⟨rfl,rfl,fun hs=>?_⟩)) fun h2=>za (.inl ⟨rfl,rfl,qO (by simpa using h1),qG h2⟩)
 ·rw [Zb hs.1] at h;cases h
 ·have:=qp h;omega
theorem zDw {n:Fab} {l:List jj} (h12:l.length≤12) {B:((Unit×(Int×(Int×Unit)))×Unit)→Option ((Nat×((Unit×(Int×(Int×Unit)))×Unit)) ⊕ ((Unit×(Int×(Int×Unit)))×Unit))}
  (hB :
     B=fun s4=>bif (zi (s4.1.2.2.1) ((((l).length:Nat):Int))) then opt (atI (l) (s4.1.2.2.1)) fun x5=>
     opt (bif (!(zo (x5.2.2.2.1) (6))) then some (1,(((),(2,())),()))
      else bif (zi (n.2.2.2) (x5.2.2.2.2.1)) then some (1,(((),(2,())),()))
       else some (0,(((),(s4.1.2.1,())),()))) fun x6=>
     bif (Nat.beq x6.1 0) then some (.inr (((),(x6.2.1.2.1,((wrF .i64 ((s4.1.2.2.1+1))),()))),()))
     else some (.inl (1,(((),(x6.2.1.2.1,(s4.1.2.2.1,()))),())))
    else some (.inl (0,(((),(s4.1.2.1,(s4.1.2.2.1,()))),())))) :
  qm (zI B zQ (((),(0,(0,()))),())) fun x=>(x.1=0∧x.2.1.2.1=0∧zAB n l)∨(x.1=1∧x.2.1.2.1=2∧¬zAB n l):=by
 subst hB
 refine zX l.length (fun i st=>st=(((),(0,((i:Int),()))),())∧∀(k:Nat),k < i→∀s,l[k]?=some s→s.2.2.2.1=6∧s.2.2.2.2.1≤n.2.2.2) (by omega) ⟨rfl,fun k hk=>by omega⟩ ?_ ?_
 ·rintro i _ hi ⟨rfl,hp⟩
  have hx:l[i]?=some l[i]:=List.getElem?_eq_getElem hi
  have hm:=List.getElem_mem hi
  generalize l[i]=s at hx hm
  refine zf (zZ (show (i:Int) < (l.length:Int) by omega)) (zg (zC (n:=i) hx (zk zDv ?_)))
  rintro ⟨j,⟨⟨⟩,v,⟨⟩⟩,⟨⟩⟩ (⟨rfl,rfl,hq⟩ | ⟨rfl,rfl,hq⟩)
  ·refine zf rfl (za (qj ⟨congrArg (fun z=>(((),((0:Int),(z,()))),())) (qv (by omega)),fun k hk r' hr'=>?_⟩))
   rcases Nat.lt_or_ge k i with h1 | h1
   ·exact hp k h1 r' hr'
   ·have:k=i:=by omega
    subst this
    rw [hx] at hr';cases hr';exact hq
  ·exact ze rfl (za (zu (.inr ⟨rfl,rfl,fun h=>hq (h s hm)⟩)))
 ·rintro _ ⟨rfl,hp⟩
  refine ze (zJ (show ¬(l.length:Int) < (l.length:Int) by omega)) (za (zu (.inl ⟨rfl,rfl,fun r hr=>?_⟩)))
  obtain ⟨k,hk,hk2⟩:=yG hr
  exact hp k hk r hk2
noncomputable def zdy (n:Fab) (l:List jj) (p:Int):Bnd×Int:=bif tv (zi7 n l=0) then bif tv (wm n.1 p) then Xh n l p else (zB,2) else (zB,zi7 n l)
theorem zB1 {n:Fab} (hll:n.1.2.2.length≤1000000000000000) (p:Int):qm (bif (zi (p) (0)) then some ((1:Nat),((zB,((2:Int),())),()))
     else bif (!(zi (p) ((wrF .i64 ((2*(((n.1.2.2).length:Nat):Int))))))) then some (1,((zB,(2,())),()))
      else some (0,((zB,(0,())),()))) fun x=>(x.1=0∧wm n.1 p)∨(x.1=1∧x.2.1.1=zB∧x.2.1.2.1=2∧¬wm n.1 p):=by
 rw [tw n.1 hll]
 refine zj (fun h=>za (.inr ⟨rfl,rfl,rfl,fun hp=>?_⟩)) fun h1=>zj (fun h=>za (.inr ⟨rfl,rfl,rfl,fun hp=>?_⟩)) fun h2=>za (.inl ⟨rfl,qG h1,qp (by simpa using h2)⟩)
 ·have:=qp h;have:=hp.1;omega
 ·rw [zZ hp.2] at h;cases h
theorem zvq {n:Fab} (hn:n.2.2.1.length≤1000000000000000000) (hll:n.1.2.2.length≤1000000000000000) (l:List jj) (p:Int):XA (n,l,p,())=some ((zdy n l p).1,(zdy n l p).2,()):=by
 rw [zs0];unfold zgJ zdy zi7
 rw [zhP hn,zD]
 by_cases h1:zfI n=0
 rotate_left
 ·rw [qu h1,cond_false]
  refine kG (zf (show (!zo (zfI n) 0)=true by rw [jS h1];rfl) (zf (show (!zo (zfI n) 0)=true by rw [jS h1];rfl) (za ?_)))
  rw [qu h1];rfl
 have hf:=zBO h1
 refine kG (ze (show (!zo (zfI n) 0)=false by rw [h1];rfl) ?_)
 rw [zkm hf.t,zD,qf h1,cond_true]
 by_cases h2:zfH n.1 l=0
 rotate_left
 ·rw [qu h2,cond_false]
  refine zf (show (!zo (zfH n.1 l) 0)=true by rw [jS h2];rfl) (zf (show (!zo (zfH n.1 l) 0)=true by rw [jS h2];rfl) (za ?_))
  rw [qu h2];rfl
 obtain ⟨h12,ha,hd⟩:=zB0 h2
 refine ze (show (!zo (zfH n.1 l) 0)=false by rw [h2];rfl) (zk (zDw (n:=n) h12 rfl) ?_)
 rw [qf h2,cond_true]
 rintro ⟨j,⟨⟨⟩,v,w,⟨⟩⟩,⟨⟩⟩ (⟨rfl,rfl,hc⟩ | ⟨rfl,rfl,hc⟩)
 rotate_left
 ·rw [qu hc,cond_false,qu (by simp)]
  exact ze rfl (zf rfl (za rfl))
 rw [qf hc,cond_true,qf rfl,cond_true]
 have ok:okP n l:=⟨hf,ha,h12,hd,hc⟩
 refine zf rfl (zk (zB1 hll p) ?_)
 rintro ⟨j,⟨v,w,⟨⟩⟩,⟨⟩⟩ (⟨rfl,hp⟩ | ⟨rfl,h1,h2,hp⟩)
 ·refine zf rfl (zk (zFk ok hp (zBZ n l)) ?_)
  rintro ⟨j,⟨v,⟨⟩⟩,c,⟨⟩⟩ ⟨hv,hk⟩
  simp only at hv
  subst hv
  rw [qf hp]
  exact za rfl
 ·simp only at h1 h2
  subst h1 h2
  rw [qu hp]
  exact ze rfl (za rfl)
theorem zrV {n:Fab} {l:List jj} (h:okP n l) {p:Int} (hp:wm n.1 p) :
  (∃b v,(Xh n l p)=(zFi b v,0)∧jG b∧zrQ v∧b.2≤v.1∧load l p≠[]∧b=ud (load l p))∨((Xh n l p).1=zB∧(Xh n l p).2≠0):=by
 obtain ⟨g,hx,hge,hg,p0,p1⟩:=zmq h.f hp
 obtain ⟨o1,o2,o3⟩:=zAA hg p0 p1 h.f.f.2.1 h.f.f.2.2
 unfold Xh
 rw [hge]
 by_cases hne:load l p=[]
 ·rw [qf hne];exact .inr ⟨rfl,by show (4:Int)≠0;decide⟩
 rw [qu hne,cond_false]
 rcases o3 with ⟨o4,o5⟩ | ⟨o4,o5⟩
 ·rw [o4,qf rfl,cond_true]
  unfold Yn
  by_cases hb:jG (ud (load l p))
  ·rw [qf hb,cond_true,qf rfl,cond_true]
   by_cases hle:(ud (load l p)).2≤(ofS g (lnk n.1 p).2.2.1 n.2.2.2).1.1
   ·rw [qf hle];exact .inl ⟨_,_,rfl,hb,o5,hle,hne,rfl⟩
   ·rw [qu hle];exact .inr ⟨rfl,by show (141:Int)≠0;decide⟩
  ·rw [qu hb,cond_false,qu (by simp)];exact .inr ⟨rfl,by show (6:Int)≠0;decide⟩
 ·rw [o4,qu (by simp)];exact .inr ⟨rfl,by show (411:Int)≠0;decide⟩
def u8 (l:List Int):Prop:=∀x∈l,0≤x∧x≤255
abbrev zmr:=Int×Int×List Int×List Int×List Int×List Int
structure tdP (d:zmr):Prop where
 b:0≤d.1∧d.1≤255
 s:0≤d.2.1∧d.2.1≤255
 c:u8 d.2.2.1
 h:u8 d.2.2.2.1
 p:u8 d.2.2.2.2.1
 e:u8 d.2.2.2.2.2
theorem Kj {l:List Int} (hl:u8 l) {i:Int} (h0:0≤i):∃v,kh (l,i,())=some (v,())∧0≤v∧v≤255:=by
 have key:qm (kh (l,i,())) fun r=>0≤r.1∧r.1≤255:=by
  rw [zqx];unfold zeI
  refine zj (fun h=>?_) (fun h=>?_)
  ·have h:=qp h
   refine zg (jv h0 (by omega) fun x hx=>za ?_)
   have hm:=hl x (List.mem_of_getElem? hx)
   show 0≤wrF .i64 x∧wrF .i64 x≤255
   rw [zy (by omega) (by omega)];exact hm
  ·exact za ⟨Int.le_refl _,by show (0:Int)≤255;decide⟩
 obtain ⟨⟨v,⟨⟩⟩,e,h⟩:=key
 exact ⟨v,e,h⟩
theorem zms {R:Type} {Q:R→Prop} {pers delays:List Int} {t:qk} (hs:szP t) {a b:Int} (hp:u8 pers) (hd:u8 delays) {KEEP KEEP2 KEEP3:Option R} {ADD:(Int×Unit)→(Int×Unit)→Option R}
  (e2:KEEP2=KEEP) (e3:KEEP3=KEEP)
  (hk:∀x y:Int,0≤x→x≤255→0≤y→y≤255→(t.2.2.length=24∨¬zdv t (a,(b,((wrF .i64 (1+(Int.tmod x 20))),(Int.tmod y 50))))∨∃o∈t.2.2,gR o a b)→qm KEEP Q)
  (ha:∀x y:Int,0≤x→x≤255→0≤y→y≤255→t.2.2.length≠24→zdv t (a,(b,((wrF .i64 (1+(Int.tmod x 20))),(Int.tmod y 50))))→(∀o∈t.2.2,¬gR o a b)→qm (ADD (x,()) (y,())) Q) :
  qm (opt (kh ((pers,((((t.2.2).length:Nat):Int),())))) fun x3=>
   opt (kh ((delays,((((t.2.2).length:Nat):Int),())))) fun x4=>
   bif (zo ((((t.2.2).length:Nat):Int)) (24)) then KEEP
   else opt (Qp (((t.1,(t.2.1,t.2.2)),((a,(b,((wrF .i64 ((1+(Int.tmod x3.1 20)))),(Int.tmod x4.1 50)))),())))) fun x5=>
    bif (!x5.1) then KEEP2
    else opt (zI (fun s6:(((Int×((List Bool)×(List (Int×(Int×(Int×Int))))))×(Int×Unit))×Unit)=>
      bif (zi (s6.1.2.1) ((((t.2.2).length:Nat):Int))) then opt (atI (t.2.2) (s6.1.2.1)) fun x7=>
       opt (gl (t.2.2) ((Int.toNat s6.1.2.1))) fun x8=>
       opt (kV ((x8,(a,(b,()))))) fun x9=>
       bif x9.1 then some (.inl s6)
       else some (.inr ((s6.1.1,((wrF .i64 ((s6.1.2.1+1))),())),()))
      else some (.inl s6)) zQ (((0,([],[])),(0,())),())) fun x10=>
     bif (zi (x10.1.2.1) ((((t.2.2).length:Nat):Int))) then opt (atI (t.2.2) (x10.1.2.1)) fun x11=>
      opt (gl (t.2.2) ((Int.toNat x10.1.2.1))) fun x12=>
      opt (kV ((x12,(a,(b,()))))) fun x13=>
      bif x13.1 then KEEP3
      else none
     else bif (qE ((t.2.2).length) ((((a,(b,((wrF .i64 ((1+(Int.tmod x3.1 20)))),(Int.tmod x4.1 50))))::[])).length) (32)) then ADD x3 x4
      else none) Q:=by
 subst e2 e3
 have hl:=hs.ls
 obtain ⟨x,ex,x0,x1⟩:=Kj hp (i:=(t.2.2.length:Int)) (by omega)
 obtain ⟨y,ey,y0,y1⟩:=Kj hd (i:=(t.2.2.length:Int)) (by omega)
 rw [ex,zD,ey,zD]
 refine zj (fun h24=>hk x y x0 x1 y0 y1 (.inl (by have:=qO h24;omega))) (fun h24=>?_)
 have h24:t.2.2.length≠24:=fun e=>jM h24 (by rw [e];rfl)
 rw [show ((t.1,(t.2.1,t.2.2)):qk)=t from rfl,ztn hs,zD]
 refine zj (fun hlk=>hk x y x0 x1 y0 y1 (.inr (.inl (yF hlk)))) (fun hlk=>?_)
 have hlk:=xk hlk
 refine zk (J:=fun s=>∃(i:Nat),s=(((0,([],[])),((i:Int),())),())∧((i=t.2.2.length∧∀o∈t.2.2,¬gR o a b)∨∃o,t.2.2[i]?=some o∧gR o a b)) (zX t.2.2.length (fun i s=>s=(((0,([],[])),((i:Int),())),())∧∀(k:Nat) o,k < i→t.2.2[k]?=some o→¬gR o a b) (by omega) ⟨rfl,fun k o hk=>by omega⟩ ?_ ?_) ?_
 ·rintro i _ hi ⟨rfl,hp⟩
  have hx:t.2.2[i]?=some t.2.2[i]:=List.getElem?_eq_getElem hi
  generalize t.2.2[i]=o at hx
  refine zf (zZ (show (i:Int) < (t.2.2.length:Int) by omega)) (zg (zC (n:=i) hx (zg (qh (a:=o) (by show gl t.2.2 (Int.toNat (i:Int))=_;rw [Int.toNat_natCast,yJ];exact hx) ?_))))
  rw [zgm,zD]
  refine zj (fun h=>?_) (fun h=>?_)
  ·exact za (zu ⟨i,rfl,.inr ⟨o,hx,Wm h⟩⟩)
  ·refine za (qj ⟨congrArg (fun z=>((_,(z,())),())) (qv (by omega)),fun k o' hk ho=>?_⟩)
   rcases Nat.lt_or_ge k i with h1 | h1
   ·exact hp k o' h1 ho
   ·have:k=i:=by omega
    subst this
    rw [hx] at ho;cases ho
    exact JS h
 ·rintro _ ⟨rfl,hp⟩
  refine ze (zJ (show ¬(t.2.2.length:Int) < (t.2.2.length:Int) by omega)) (za (zu ⟨t.2.2.length,rfl,.inl ⟨rfl,fun o ho=>?_⟩⟩))
  obtain ⟨k,hk,hk2⟩:=yG ho
  exact hp k o hk hk2
 ·rintro _ ⟨i,rfl,⟨rfl,hno⟩ | ⟨o,hx,hj⟩⟩
  ·exact ze (zJ (show ¬(t.2.2.length:Int) < (t.2.2.length:Int) by omega)) (zf (wC (by show (t.2.2.length+1)*32≤_;omega) (by show t.2.2.length+1≤_;omega)) (ha x y x0 x1 y0 y1 h24 hlk hno))
  ·have hil:i < t.2.2.length:=by grind
   refine zf (zZ (show (i:Int) < (t.2.2.length:Int) by omega)) (zg (zC (n:=i) hx (zg (qh (a:=o) (by show gl t.2.2 (Int.toNat (i:Int))=_;rw [Int.toNat_natCast,yJ];exact hx) ?_))))
   rw [zgm,zD,qf hj]
   exact zf rfl (hk x y x0 x1 y0 y1 (.inr (.inr ⟨o,List.mem_of_getElem? hx,hj⟩)))
def sts (b c:Nat):List Bool:=(List.range (b+c)).map fun n=>decide (b≤n)
def tOf (b c:Nat) (ls:List ya):qk:=(((b+c:Nat):Int),sts b c,ls)
theorem zza (b c:Nat):(sts b c).length=b+c:=by simp [sts]
theorem zxO {b c:Nat} {ls:List ya} {n:Nat} (h:n < b+c):stn (tOf b c ls) (n:Int)=decide (b≤n):=by
 unfold stn tOf sts
 simp [h]
structure Dr (b c:Nat) (ls:List ya):Prop where
 b1:1≤b
 b6:b≤6
 c2:2≤c
 c6:c≤6
 n24:ls.length≤24
 ok:zgl (tOf b c ls)
theorem Dr.sz {b c:Nat} {ls:List ya} (h:Dr b c ls):szP (tOf b c ls):=by
 have:=h.b1;have:=h.b6;have:=h.c2;have:=h.c6
 refine ⟨?_,?_,?_,h.n24⟩
 ·show 2≤((b+c:Nat):Int);omega
 ·show ((b+c:Nat):Int)≤12;omega
 ·show (((sts b c).length:Nat):Int)=((b+c:Nat):Int);rw [zza]
theorem Dr.add {b c:Nat} {ls:List ya} (h:Dr b c ls) {l:ya} (h24:ls.length≠24) (hl:zdv (tOf b c ls) l) (hj:∀o∈ls,¬gR o l.1 l.2.1):Dr b c (ls++[l]):=by
 refine ⟨h.b1,h.b6,h.c2,h.c6,by have:=h.n24;simp;omega,fun i l' hi=>?_⟩
 have hi:(ls++[l])[i]?=some l':=hi
 rcases Nat.lt_or_ge i ls.length with h1 | h1
 ·rw [List.getElem?_append_left h1] at hi
  obtain ⟨h2,h3⟩:=h.ok i l' hi
  refine ⟨h2,fun k o hk ho=>h3 k o hk ?_⟩
  have ho:(ls++[l])[k]?=some o:=ho
  rw [List.getElem?_append_left (by omega)] at ho
  exact ho
 ·have hil:i=ls.length:=by
   have:i < (ls++[l]).length:=by grind
   simp at this;omega
  subst hil
  rw [List.getElem?_append_right (Nat.le_refl _),Nat.sub_self] at hi
  simp at hi;subst hi
  refine ⟨hl,fun k o hk ho=>?_⟩
  have ho:(ls++[l])[k]?=some o:=ho
  rw [List.getElem?_append_left hk] at ho
  exact hj o (List.mem_of_getElem? ho)
theorem zi8 (ls:List ya) (l:ya) (n:Nat):cnt (ls++[l]) n=cnt ls n+(one l.1 n+one l.2.1 n):=by
 unfold cnt;simp
theorem zzb {b c:Nat} {ls:List ya} {m n:Nat} {x y:Int} (hm:m < b+c) (hn:n < b+c) (hne:m≠n) (hs:m < b∨n < b) (x0:0≤x) (x1:x≤255) (y0:0≤y) (y1:y≤255) :
  zdv (tOf b c ls) ((m:Int),((n:Int),((wrF .i64 (1+(Int.tmod x 20))),(Int.tmod y 50)))):=by
 have ex:Int.tmod x 20=x % 20:=Int.tmod_eq_emod_of_nonneg x0
 have ey:Int.tmod y 50=y % 50:=Int.tmod_eq_emod_of_nonneg y0
 have ew:wrF .i64 (1+x % 20)=1+x % 20:=zy (by omega) (by omega)
 unfold zdv je
 rw [ex,ey,ew]
 simp only
 refine ⟨⟨by omega,by show (m:Int) < ((b+c:Nat):Int);omega⟩,⟨by omega,by show (n:Int) < ((b+c:Nat):Int);omega⟩,by omega,?_,by omega,by omega,by omega,by omega⟩
 rw [zxO hm,zxO hn]
 simp only [decide_eq_true_eq]
 omega
structure Xi (b c k s:Nat) (ls:List ya):Prop where
 ch:∀i,i < k→∃p d,ls[i]?=some ((i:Int),((i+1:Nat):Int),p,d)
 ho:∀i,i < s→∃(h:Nat) (p d:Int),ls[k+i]?=some (((b+i:Nat):Int),(h:Int),p,d)∧h < b
theorem Xi.app {b c k s:Nat} {ls:List ya} (h:Xi b c k s ls) (l:List ya):Xi b c k s (ls++l):=by
 refine ⟨fun i hi=>?_,fun i hi=>?_⟩
 ·obtain ⟨p,d,e⟩:=h.ch i hi
  exact ⟨p,d,by rw [List.getElem?_append_left (by grind)];exact e⟩
 ·obtain ⟨q,p,d,e,h2⟩:=h.ho i hi
  exact ⟨q,p,d,by rw [List.getElem?_append_left (by grind)];exact e,h2⟩
theorem zpM {r:List Bool} {l:ya} {n:Nat} (h:r[n]?=some true):(stp r l)[n]?=some true:=by
 unfold stp
 cases (r[l.1.toNat]?).getD false||(r[l.2.1.toNat]?).getD false with
 |false=>exact h
 |true=>
  have hn:n < r.length:=by grind
  show ((r.set l.1.toNat true).set l.2.1.toNat true)[n]?=some true
  rw [List.getElem?_set,List.getElem?_set]
  grind
theorem zmt {n:Nat}:∀(ls:List ya) {r:List Bool},r[n]?=some true→(ls.foldl stp r)[n]?=some true
 |[],r,h=>h
 |l::ls,r,h=>zmt ls (zpM h)
theorem zur {ls:List ya} {n:Nat}:∀(k:Nat) {r:List Bool},r[n]?=some true→(zaQ ls k r)[n]?=some true
 |0,r,h=>h
 |k+1,r,h=>zur k (zmt ls h)
theorem zzc {r:List Bool} {l:ya} {m n:Nat} (hm:r[m]?=some true) (hn:n < r.length) (h:(l.1.toNat=m∧l.2.1.toNat=n)∨(l.1.toNat=n∧l.2.1.toNat=m)):(stp r l)[n]?=some true:=by
 have hml:m < r.length:=by grind
 have e:((r[l.1.toNat]?).getD false||(r[l.2.1.toNat]?).getD false)=true:=by
  rcases h with ⟨h1,h2⟩ | ⟨h1,h2⟩
  ·rw [h1,hm];rfl
  ·rw [h2,hm,Option.getD_some,Bool.or_true]
 unfold stp
 rw [e,cond_true,List.getElem?_set,List.getElem?_set]
 grind
theorem zus {ls:List ya} {i:Nat} {l:ya} (h:ls[i]?=some l) (r:List Bool):(ls.take (i+1)).foldl stp r=stp ((ls.take i).foldl stp r) l:=by
 rw [List.take_add_one,h,List.foldl_append];rfl
theorem zB2 {b c:Nat} {ls:List ya} (hb:1≤b) (hc:1≤c) (h:Xi b c (b - 1) c ls) (n:Nat) (hn:n < b+c):(reachS (tOf b c ls) 0)[n]?=some true:=by
 have hN:(tOf b c ls).1.toNat=b+c:=by show (((b+c:Nat):Int)).toNat=_;omega
 unfold reachS
 rw [hN]
 obtain ⟨k,hk⟩:∃k,b+c=k+1:=⟨b+c - 1,by omega⟩
 rw [show zaQ (tOf b c ls).2.2 (b+c)=zaQ ls (k+1) from by rw [hk];rfl]
 show (zaQ ls k (ls.foldl stp ((List.replicate (b+c) false).set 0 true)))[n]?=some true
 refine zur k ?_
 generalize hr:(List.replicate (b+c) false).set 0 true=r0
 have hl:r0.length=b+c:=by rw [←hr];simp
 have h00:r0[0]?=some true:=by
  rw [←hr]
  exact List.getElem?_set_self (by rw [List.length_replicate];omega)
 have chain:∀i,i≤b - 1→∀j,j≤i→((ls.take i).foldl stp r0)[j]?=some true:=by
  intro i
  induction i with
  |zero=>
       intro _ j hj;have:j=0:=by omega
       subst this;exact h00
  |succ i ih=>
   intro hi j hj
   obtain ⟨p,d,e⟩:=h.ch i (by omega)
   rw [zus e]
   rcases Nat.lt_or_ge j (i+1) with h1 | h1
   ·exact zpM (ih (by omega) j (by omega))
   ·have:j=i+1:=by omega
    subst this
    exact zzc (m:=i) (ih (by omega) i (Nat.le_refl _)) (by rw [zi3,hl];omega) (.inl ⟨by simp,by simp⟩)
 have home:∀i,i≤c→∀j,j < b+i→((ls.take (b - 1+i)).foldl stp r0)[j]?=some true:=by
  intro i
  induction i with
  |zero=>intro _ j hj;exact chain (b - 1) (Nat.le_refl _) j (by omega)
  |succ i ih=>
   intro hi j hj
   obtain ⟨q,p,d,e,hq⟩:=h.ho i (by omega)
   rw [show b - 1+(i+1)=b - 1+i+1 from rfl,zus e]
   rcases Nat.lt_or_ge j (b+i) with h1 | h1
   ·exact zpM (ih (by omega) j h1)
   ·have:j=b+i:=by omega
    subst this
    exact zzc (m:=q) (ih (by omega) q (by omega)) (by rw [zi3,hl];omega) (.inr ⟨by show (((b+i:Nat):Int)).toNat=b+i;exact Int.toNat_natCast _,by simp⟩)
 have:=home c (Nat.le_refl _) n hn
 have e:ls.foldl stp r0=(ls.drop (b - 1+c)).foldl stp ((ls.take (b - 1+c)).foldl stp r0):=by
  rw [←List.foldl_append,List.take_append_drop]
 rw [e]
 exact zmt _ this
theorem zxP {i:Nat} (h1:1≤i) (h:i≤1000000):wrF .i64 ((i:Int) - 1)=((i - 1:Nat):Int):=by rw [zy]<;>omega
theorem zxQ (n:Nat):one (n:Int) n=1:=by unfold one;rw [if_pos rfl]
theorem KR {m n:Nat} (h:m≠n):one (m:Int) n=0:=by unfold one;rw [if_neg (by omega)]
theorem zB3 {b c:Nat} {ls:List ya} (h:Dr b c ls) (hb:Xi b c (b - 1) c ls) (hd:∀n,b≤n→n < b+c→1≤cnt ls n∧cnt ls n≤2):wU (tOf b c ls):=by
 have:=h.b1;have:=h.c2
 refine ⟨h.sz,h.ok,fun n hn=>zB2 h.b1 (by omega) hb n ?_,fun n hn hs=>?_⟩
 ·have hn:(n:Int) < ((b+c:Nat):Int):=hn
  omega
 ·have hn:(n:Int) < ((b+c:Nat):Int):=hn
  rw [zxO (by omega)] at hs
  exact hd n (of_decide_eq_true hs) (by omega)
theorem zrW {d:zmr} (hd:tdP d):∃b c ls,wD (d,())=some (tOf b c ls,())∧wU (tOf b c ls)∧1≤ls.length:=by
 obtain ⟨d0,d1⟩:=hd.b
 obtain ⟨e0,e1⟩:=hd.s
 have eb:wrF .i64 (1+wrF .i64 (Int.tmod d.1 6))=1+d.1 % 6:=by
  rw [Int.tmod_eq_emod_of_nonneg d0,zy (z:=d.1 % 6) (by omega) (by omega),zy (by omega) (by omega)]
 have ec:wrF .i64 (2+wrF .i64 (Int.tmod d.2.1 5))=2+d.2.1 % 5:=by
  rw [Int.tmod_eq_emod_of_nonneg e0,zy (z:=d.2.1 % 5) (by omega) (by omega),zy (by omega) (by omega)]
 obtain ⟨b,hb,b1,b6⟩:∃b:Nat,1+d.1 % 6=(b:Int)∧1≤b∧b≤6:=⟨(1+d.1 % 6).toNat,by omega,by omega,by omega⟩
 obtain ⟨c,hc,c2,c6⟩:∃c:Nat,2+d.2.1 % 5=(c:Int)∧2≤c∧c≤6:=⟨(2+d.2.1 % 5).toNat,by omega,by omega,by omega⟩
 rw [hb] at eb;rw [hc] at ec
 suffices key:qm (wD (d,())) fun r=>∃ls,r.1=tOf b c ls∧wU (tOf b c ls)∧1≤ls.length by
  obtain ⟨⟨t,⟨⟩⟩,e,ls,h1,h2,h3⟩:=key
  simp only at h1
  subst h1
  exact ⟨b,c,ls,e,h2,h3⟩
 have eN:wrF .i64 ((b:Int)+(c:Int))=((b+c:Nat):Int):=by rw [zy]<;>omega
 have bnz:zo (b:Int) 0=false:=jS (by omega)
 have dr0:Dr b c []:=⟨b1,b6,c2,c6,by simp,fun i l h=>by cases h⟩
 rw [zho];unfold Vp
 simp only [eb,ec,eN]
 refine zk (J:=fun x=>x.2.2.1=(((b+c:Nat):Int),(sts b c,([],())))) (zX (b+c) (fun i s=>s=(((),((i:Int),())),((((b+c:Nat):Int),((sts b c).take i,([],()))),()))) (by omega) rfl ?_ ?_) ?_
 ·rintro i _ hi rfl
  have hx:(sts b c)[i]?=some (decide (b≤i)):=by unfold sts;simp [hi]
  refine zf (zZ (show (i:Int) < ((b+c:Nat):Int) by omega)) (zf (wC (by show (((sts b c).take i).length+1)*1≤_;simp;omega) (by show ((sts b c).take i).length+1≤_;simp;omega)) (za (qj ?_)))
  have eo:(!zi (i:Int) (b:Int))=decide (b≤i):=by
   rw [xb]
   by_cases h:b≤i
   ·rw [decide_eq_true h,decide_eq_false (by omega)];rfl
   ·rw [decide_eq_false h,decide_eq_true (by omega)];rfl
  show (((),((wrF .i64 ((i:Int)+1)),())),((((b+c:Nat):Int),(((sts b c).take i++[(!zi (i:Int) (b:Int))]),([],()))),()))=_
  rw [eo,qv (by omega),List.take_add_one,hx];rfl
 ·rintro _ rfl
  refine ze (zJ (show ¬((b+c:Nat):Int) < ((b+c:Nat):Int) by omega)) (za (zu ?_))
  show (((b+c:Nat):Int),((sts b c).take (b+c),([],())))=_
  rw [List.take_of_length_le (by rw [zza];omega)]
 rintro ⟨j,⟨⟨⟩,w,⟨⟩⟩,⟨q,⟨⟩⟩⟩ hq
 simp only at hq
 subst hq
 refine zk (J:=fun x=>x.2.1.1=d∧∃ls,x.2.2.1=(((b+c:Nat):Int),(sts b c,(ls,())))∧Dr b c ls∧Xi b c (b - 1) 0 ls∧ls.length=b - 1)
  (zX (b - 1) (fun i s=>∃ls,s=((d,((),(((i+1:Nat):Int),()))),((((b+c:Nat):Int),(sts b c,(ls,()))),()))∧Dr b c ls∧Xi b c i 0 ls∧ls.length=i) (by omega) ⟨[],rfl,dr0,⟨fun i h=>by omega,fun i h=>by omega⟩,rfl⟩ ?_ ?_) ?_
 ·rintro i _ hi ⟨ls,rfl,dr,ba,hl⟩
  refine zf (zZ (show ((i+1:Nat):Int) < (b:Int) by omega)) ?_
  have ep:wrF .i64 (((i+1:Nat):Int) - 1)=(i:Int):=by rw [zxP (by omega) (by omega)];rfl
  have eq:wrF .i64 (((i+1:Nat):Int)+1)=((i+1+1:Nat):Int):=qv (by omega)
  simp only [ep,eq]
  have links:∀o∈ls,¬gR o (i:Int) ((i+1:Nat):Int):=by
   intro o ho hj
   obtain ⟨k,hk,hk2⟩:=yG ho
   obtain ⟨p,d',e⟩:=ba.ch k (by omega)
   rw [hk2] at e
   cases e
   unfold gR at hj
   simp only at hj
   omega
  refine zms (t:=tOf b c ls) dr.sz (a:=(i:Int)) (b:=((i+1:Nat):Int)) hd.p hd.e rfl rfl ?_ ?_
  ·intro x y x0 x1 y0 y1 hbad
   exfalso
   rcases hbad with h | h | ⟨o,ho,hj⟩
   ·have h:ls.length=24:=h
    omega
   ·exact h (zzb (m:=i) (n:=i+1) (by omega) (by omega) (by omega) (.inl (by omega)) x0 x1 y0 y1)
   ·exact links o ho hj
  ·intro x y x0 x1 y0 y1 h24 hlk hno
   refine za (qj ⟨ls++[_],rfl,dr.add h24 hlk hno,⟨fun k hk=>?_,fun k hk=>by omega⟩,by simp [hl]⟩)
   rcases Nat.lt_or_ge k i with h1 | h1
   ·exact (ba.app _).ch k h1
   ·have:k=i:=by omega
    subst this
    exact ⟨_,_,by rw [←hl,List.getElem?_append_right (Nat.le_refl _),Nat.sub_self];rfl⟩
 ·rintro _ ⟨ls,rfl,dr,ba,hl⟩
  exact ze (zJ (show ¬((b - 1+1:Nat):Int) < (b:Int) by omega)) (za (zu ⟨rfl,ls,rfl,dr,ba,hl⟩))
 rintro ⟨j,⟨q,⟨⟩,w,⟨⟩⟩,⟨u,⟨⟩⟩⟩ ⟨hq,ls0,hu,dr,ba,hl⟩
 simp only at hq hu
 subst hq hu
 have z0:∀n,b≤n→n < b+c→cnt ls0 n=0:=by
  intro n hn hn2
  have key:∀k,k≤b - 1→cnt (ls0.take k) n=0:=by
   intro k
   induction k with
   |zero=>intro _;simp [cnt]
   |succ k ih=>
    intro hk
    obtain ⟨p,d',e⟩:=ba.ch k (by omega)
    rw [zxC e,ih (by omega),KR (show k≠n by omega),KR (show k+1≠n by omega)];rfl
  have:=key (b - 1) (Nat.le_refl _)
  rwa [List.take_of_length_le (by omega)] at this
 refine zk (J:=fun x=>x.2.1.1=q∧∃ls,x.2.2.1=(((b+c:Nat):Int),(sts b c,(ls,())))∧Dr b c ls∧Xi b c (b - 1) c ls∧ls.length=b - 1+c∧∀n,b≤n→n < b+c→cnt ls n=1)
  (zX c (fun i s=>∃ls,s=((q,((),((i:Int),()))),((((b+c:Nat):Int),(sts b c,(ls,()))),()))∧Dr b c ls∧Xi b c (b - 1) i ls∧ls.length=b - 1+i∧∀n,b≤n→n < b+c→cnt ls n=if n < b+i then 1 else 0) (by omega) ⟨ls0,rfl,dr,ba,by omega,fun n h1 h2=>by rw [z0 n h1 h2,if_neg (by omega)]⟩ ?_ ?_) ?_
 ·rintro i _ hi ⟨ls,rfl,dr,ba,hl,hcn⟩
  refine zf (zZ (show (i:Int) < (c:Int) by omega)) ?_
  have e2:wrF .i64 (2*(i:Int))=((2*i:Nat):Int):=by rw [zy]<;>omega
  have e3:wrF .i64 ((b:Int)+(i:Int))=((b+i:Nat):Int):=by rw [zy]<;>omega
  have eq:wrF .i64 ((i:Int)+1)=((i+1:Nat):Int):=qv (by omega)
  obtain ⟨x,ex,x0,x1⟩:=Kj hd.h (i:=((2*i:Nat):Int)) (by omega)
  simp only [e2,e3,eq,ex,zD,bnz,cond_false]
  obtain ⟨hh,ehh,hhb⟩:∃hh:Nat,Int.tmod x (b:Int)=(hh:Int)∧hh < b:=⟨(x % (b:Int)).toNat,by rw [Int.tmod_eq_emod_of_nonneg x0];have:=Int.emod_nonneg x (show (b:Int)≠0 by omega);omega,by have:=Int.emod_lt_of_pos x (show 0 < (b:Int) by omega);have:=Int.emod_nonneg x (show (b:Int)≠0 by omega);omega⟩
  simp only [ehh]
  have links:∀o∈ls,¬gR o ((b+i:Nat):Int) (hh:Int):=by
   intro o ho hj
   obtain ⟨k,hk,hk2⟩:=yG ho
   unfold gR at hj
   rcases Nat.lt_or_ge k (b - 1) with h1 | h1
   ·obtain ⟨p,d',e⟩:=ba.ch k h1
    rw [hk2] at e
    cases e
    simp only at hj
    omega
   ·obtain ⟨q',p,d',e,hqb⟩:=ba.ho (k - (b - 1)) (by omega)
    rw [show b - 1+(k - (b - 1))=k by omega,hk2] at e
    cases e
    simp only at hj
    omega
  refine zms (t:=tOf b c ls) dr.sz (a:=((b+i:Nat):Int)) (b:=(hh:Int)) hd.p hd.e rfl rfl ?_ ?_
  ·intro x y x0 x1 y0 y1 hbad
   exfalso
   rcases hbad with h | h | ⟨o,ho,hj⟩
   ·have h:ls.length=24:=h
    omega
   ·exact h (zzb (m:=b+i) (n:=hh) (by omega) (by omega) (by omega) (.inr hhb) x0 x1 y0 y1)
   ·exact links o ho hj
  ·intro x y x0 x1 y0 y1 h24 hlk hno
   refine za (qj ⟨ls++[_],rfl,dr.add h24 hlk hno,⟨fun k hk=>(ba.app _).ch k hk,fun k hk=>?_⟩,by simp [hl];omega,fun n h1 h2=>?_⟩)
   ·rcases Nat.lt_or_ge k i with h1 | h1
    ·exact (ba.app _).ho k h1
    ·have:k=i:=by omega
     subst this
     exact ⟨hh,_,_,by rw [←hl,List.getElem?_append_right (Nat.le_refl _),Nat.sub_self];rfl,hhb⟩
   ·rw [zi8,hcn n h1 h2]
    simp only
    rw [KR (show hh≠n by omega)]
    by_cases h:n=b+i
    ·subst h
     rw [zxQ,if_neg (by omega),if_pos (by omega)];rfl
    ·rw [KR (show b+i≠n by omega)]
     by_cases h3:n < b+i
     ·rw [if_pos h3,if_pos (by omega)];rfl
     ·rw [if_neg h3,if_neg (by omega)];rfl
 ·rintro _ ⟨ls,rfl,dr,ba,hl,hcn⟩
  exact ze (zJ (show ¬(c:Int) < (c:Int) by omega)) (za (zu ⟨rfl,ls,rfl,dr,ba,hl,fun n h1 h2=>by rw [hcn n h1 h2,if_pos h2]⟩))
 clear dr ba hl z0
 rintro ⟨j,⟨q',⟨⟩,w',⟨⟩⟩,⟨u,⟨⟩⟩⟩ ⟨hq,ls0,hu,dr,ba,hl,hcn⟩
 simp only at hq hu
 subst hq hu
 refine zk (J:=fun x=>x.2.1.1=q'∧∃ls,x.2.2.1=(((b+c:Nat):Int),(sts b c,(ls,())))∧Dr b c ls∧Xi b c (b - 1) c ls∧ls.length≤b+c∧∀n,b≤n→n < b+c→cnt ls n=1) ?_ ?_
 ·have keep:qm (some ((0:Nat),((q',((),())),((((b+c:Nat):Int),(sts b c,(ls0,()))),())))) fun x=>x.2.1.1=q'∧∃ls,x.2.2.1=(((b+c:Nat):Int),(sts b c,(ls,())))∧Dr b c ls∧Xi b c (b - 1) c ls∧ls.length≤b+c∧∀n,b≤n→n < b+c→cnt ls n=1:=
   za ⟨rfl,ls0,rfl,dr,ba,by omega,hcn⟩
  refine zj (fun hb2=>zj (fun _=>?_) (fun _=>keep)) (fun _=>keep)
  have hb2:=qp hb2
  have ep:wrF .i64 ((b:Int) - 1)=((b - 1:Nat):Int):=zxP (by omega) (by omega)
  simp only [ep]
  refine zms (t:=tOf b c ls0) dr.sz (a:=((b - 1:Nat):Int)) (b:=0) hd.p hd.e rfl rfl (fun x y x0 x1 y0 y1 _=>keep) ?_
  intro x y x0 x1 y0 y1 h24 hlk hno
  refine za ⟨rfl,ls0++[_],rfl,dr.add h24 hlk hno,ba.app _,by simp;omega,fun n h1 h2=>?_⟩
  rw [zi8,hcn n h1 h2]
  simp only
  rw [KR (show b - 1≠n by omega),show one 0 n=0 from KR (m:=0) (by omega)];rfl
 clear dr ba hl hcn
 rintro ⟨j,⟨q,⟨⟩,⟨⟩⟩,⟨u,⟨⟩⟩⟩ ⟨hq,ls0,hu,dr,ba,hl,hcn⟩
 simp only at hq hu
 subst hq hu
 refine zk (J:=fun x=>x.2.1.1=q∧∃ls,x.2.2.1=(((b+c:Nat):Int),(sts b c,(ls,())))∧Dr b c ls∧Xi b c (b - 1) c ls∧∀n,b≤n→n < b+c→1≤cnt ls n∧cnt ls n≤2)
  (zX c (fun i s=>∃ls,s=((q,((),((i:Int),()))),((((b+c:Nat):Int),(sts b c,(ls,()))),()))∧Dr b c ls∧Xi b c (b - 1) c ls∧∀n,b≤n→n < b+c→1≤cnt ls n∧cnt ls n≤if n < b+i then 2 else 1) (by omega) ⟨ls0,rfl,dr,ba,fun n h1 h2=>by rw [hcn n h1 h2];split<;>omega⟩ ?_ ?_) ?_
 ·rintro i _ hi ⟨ls,rfl,dr,ba,hcn⟩
  refine zf (zZ (show (i:Int) < (c:Int) by omega)) ?_
  have e2:wrF .i64 ((wrF .i64 (2*(i:Int)))+1)=((2*i+1:Nat):Int):=by rw [zy (z:=2*(i:Int)) (by omega) (by omega),zy (by omega) (by omega)];omega
  have e3:wrF .i64 ((b:Int)+(i:Int))=((b+i:Nat):Int):=by rw [zy]<;>omega
  have eq:wrF .i64 ((i:Int)+1)=((i+1:Nat):Int):=qv (by omega)
  obtain ⟨x,ex,x0,x1⟩:=Kj hd.h (i:=((2*i+1:Nat):Int)) (by omega)
  simp only [e2,e3,eq,ex,zD,bnz,cond_false]
  obtain ⟨hh,ehh,hhb⟩:∃hh:Nat,Int.tmod x (b:Int)=(hh:Int)∧hh < b:=⟨(x % (b:Int)).toNat,by rw [Int.tmod_eq_emod_of_nonneg x0];have:=Int.emod_nonneg x (show (b:Int)≠0 by omega);omega,by have:=Int.emod_lt_of_pos x (show 0 < (b:Int) by omega);have:=Int.emod_nonneg x (show (b:Int)≠0 by omega);omega⟩
  simp only [ehh]
  refine zk (J:=fun x=>x.2.1.1=q∧∃ls,x.2.2.1=(((b+c:Nat):Int),(sts b c,(ls,())))∧Dr b c ls∧Xi b c (b - 1) c ls∧∀n,b≤n→n < b+c→1≤cnt ls n∧cnt ls n≤if n < b+(i+1) then 2 else 1) ?_ ?_
  ·have keep:qm (some ((0:Nat),((q,((),())),((((b+c:Nat):Int),(sts b c,(ls,()))),())))) fun x=>x.2.1.1=q∧∃ls,x.2.2.1=(((b+c:Nat):Int),(sts b c,(ls,())))∧Dr b c ls∧Xi b c (b - 1) c ls∧∀n,b≤n→n < b+c→1≤cnt ls n∧cnt ls n≤if n < b+(i+1) then 2 else 1:=
    za ⟨rfl,ls,rfl,dr,ba,fun n h1 h2=>by
     have:=hcn n h1 h2
     split at this<;>split<;>omega⟩
   refine zj (fun _=>?_) (fun _=>keep)
   refine zms (t:=tOf b c ls) dr.sz (a:=((b+i:Nat):Int)) (b:=(hh:Int)) hd.p hd.e rfl rfl (fun x y x0 x1 y0 y1 _=>keep) ?_
   intro x y x0 x1 y0 y1 h24 hlk hno
   refine za ⟨rfl,ls++[_],rfl,dr.add h24 hlk hno,ba.app _,fun n h1 h2=>?_⟩
   have h3:=hcn n h1 h2
   rw [zi8]
   simp only
   rw [KR (show hh≠n by omega)]
   by_cases h:n=b+i
   ·subst h
    rw [zxQ]
    rw [if_neg (by omega)] at h3
    rw [if_pos (by omega)];omega
   ·rw [KR (show b+i≠n by omega)]
    split at h3<;>split<;>omega
  ·rintro ⟨j,⟨q',⟨⟩,⟨⟩⟩,⟨u,⟨⟩⟩⟩ ⟨hq,ls',hu,dr,ba,hcn⟩
   simp only at hq hu
   subst hq hu
   exact za (qj ⟨ls',rfl,dr,ba,hcn⟩)
 ·rintro _ ⟨ls,rfl,dr,ba,hcn⟩
  exact ze (zJ (show ¬(c:Int) < (c:Int) by omega)) (za (zu ⟨rfl,ls,rfl,dr,ba,fun n h1 h2=>by have:=hcn n h1 h2;rwa [if_pos h2] at this⟩))
 clear dr ba hl hcn
 rintro ⟨j,⟨q',⟨⟩,w',⟨⟩⟩,⟨u,⟨⟩⟩⟩ ⟨hq,ls0,hu,dr,ba,hcn⟩
 simp only at hq hu
 subst hq hu
 refine zk (J:=fun x=>∃ls,x.2.2.1=(((b+c:Nat):Int),(sts b c,(ls,())))∧Dr b c ls∧Xi b c (b - 1) c ls∧∀n,b≤n→n < b+c→1≤cnt ls n∧cnt ls n≤2)
  (zlg (fun s=>∃(i:Nat) (ls:List ya),s=((q',((),((i:Int),()))),((((b+c:Nat):Int),(sts b c,(ls,()))),()))∧i≤13∧Dr b c ls∧Xi b c (b - 1) c ls∧∀n,b≤n→n < b+c→1≤cnt ls n∧cnt ls n≤2) _ (fun s=>20 - s.1.2.2.1.toNat) ⟨0,ls0,rfl,by omega,dr,ba,hcn⟩ (by show 20 - (0:Int).toNat < _;omega) ?_) ?_
 ·rintro _ ⟨i,ls,rfl,hi13,dr,ba,hcn⟩
  have eq:wrF .i64 ((i:Int)+1)=((i+1:Nat):Int):=qv (by omega)
  have eq2:wrF .i64 ((i:Int)+2)=((i+2:Nat):Int):=by rw [zy]<;>omega
  simp only [eq,eq2,bnz,cond_false]
  have out:qm (some (.inl ((0:Nat),((q',((),((i:Int),()))),((((b+c:Nat):Int),(sts b c,(ls,()))),()))):(Nat×(((zmr)×(Unit×(Int×Unit)))×((Int×(List Bool×(List ya×Unit)))×Unit))) ⊕ (((zmr)×(Unit×(Int×Unit)))×((Int×(List Bool×(List ya×Unit)))×Unit)))) (zmQ (fun s=>∃(i:Nat) (ls:List ya),s=((q',((),((i:Int),()))),((((b+c:Nat):Int),(sts b c,(ls,()))),()))∧i≤13∧Dr b c ls∧Xi b c (b - 1) c ls∧∀n,b≤n→n < b+c→1≤cnt ls n∧cnt ls n≤2) (fun x=>∃ls,x.2.2.1=(((b+c:Nat):Int),(sts b c,(ls,())))∧Dr b c ls∧Xi b c (b - 1) c ls∧∀n,b≤n→n < b+c→1≤cnt ls n∧cnt ls n≤2) (fun s=>20 - s.1.2.2.1.toNat) ((q',((),((i:Int),()))),((((b+c:Nat):Int),(sts b c,(ls,()))),()))):=
   za (zlf ⟨ls,rfl,dr,ba,hcn⟩)
  refine zj (fun h1=>zj (fun h2=>?_) (fun _=>out)) (fun _=>out)
  have h1:=qp h1
  have h2:=qp (show zi (i:Int) 12=true from h2)
  have hx:q'.2.2.1[i]?=some (q'.2.2.1[i]'(by omega)):=List.getElem?_eq_getElem (by omega)
  have hy:q'.2.2.1[i+1]?=some (q'.2.2.1[i+1]'(by omega)):=List.getElem?_eq_getElem (by omega)
  have bx:=hd.c _ (List.getElem_mem (show i < q'.2.2.1.length by omega))
  have hyb:=hd.c _ (List.getElem_mem (show i+1 < q'.2.2.1.length by omega))
  generalize (q'.2.2.1[i]'(by omega))=x at hx bx
  generalize (q'.2.2.1[i+1]'(by omega))=y at hy hyb
  refine zg (zC (n:=i) hx (zg (zC (n:=i+1) hy ?_)))
  have ex:wrF .i64 x=x:=zy (by omega) (by omega)
  have ey:wrF .i64 y=y:=zy (by omega) (by omega)
  simp only [ex,ey]
  obtain ⟨m,em,hmb⟩:∃hh:Nat,Int.tmod x (b:Int)=(hh:Int)∧hh < b:=⟨(x % (b:Int)).toNat,by rw [Int.tmod_eq_emod_of_nonneg bx.1];have:=Int.emod_nonneg x (show (b:Int)≠0 by omega);omega,by have:=Int.emod_lt_of_pos x (show 0 < (b:Int) by omega);have:=Int.emod_nonneg x (show (b:Int)≠0 by omega);omega⟩
  obtain ⟨n,en,hnb⟩:∃hh:Nat,Int.tmod y (b:Int)=(hh:Int)∧hh < b:=⟨(y % (b:Int)).toNat,by rw [Int.tmod_eq_emod_of_nonneg hyb.1];have:=Int.emod_nonneg y (show (b:Int)≠0 by omega);omega,by have:=Int.emod_lt_of_pos y (show 0 < (b:Int) by omega);have:=Int.emod_nonneg y (show (b:Int)≠0 by omega);omega⟩
  simp only [em,en]
  refine zms (t:=tOf b c ls) dr.sz (a:=(m:Int)) (b:=(n:Int)) hd.p hd.e rfl rfl (fun x y x0 x1 y0 y1 _=>?_) ?_
  ·refine za (zbH ⟨i+2,ls,rfl,by omega,dr,ba,hcn⟩ ?_)
   show 20 - (((i+2:Nat):Int)).toNat < 20 - ((i:Int)).toNat
   omega
  ·intro x y x0 x1 y0 y1 h24 hlk hno
   refine za (zbH ⟨i+2,ls++[_],rfl,by omega,dr.add h24 hlk hno,ba.app _,fun k h1 h2=>?_⟩ ?_)
   ·rw [zi8]
    simp only
    rw [KR (show m≠k by omega),KR (show n≠k by omega)]
    have:=hcn k h1 h2
    omega
   ·show 20 - (((i+2:Nat):Int)).toNat < 20 - ((i:Int)).toNat
    omega
 ·rintro ⟨j,⟨q,⟨⟩,w',⟨⟩⟩,⟨u,⟨⟩⟩⟩ ⟨ls,hu,dr,ba,hcn⟩
  simp only at hu
  subst hu
  refine za ⟨ls,rfl,zB3 dr ba hcn,?_⟩
  obtain ⟨h,p,d',e,_⟩:=ba.ho 0 (by omega)
  have:b - 1+0 < ls.length:=by grind
  omega
def Yp (t:qk) (n:Int):List Int:=((List.range (2*t.2.2.length)).map fun (p:Nat)=>(p:Int)).filter fun p=>frm t p == n
theorem zut (t:qk) (n:Int):∀p∈Yp t n,wm t p:=by
 intro p hp
 unfold Yp at hp
 obtain ⟨k,hk,rfl⟩:=List.mem_map.1 (List.mem_filter.1 hp).1
 have:=List.mem_range.1 hk
 exact ⟨by omega,by omega⟩
theorem zrX (t:qk) (n:Int):(Yp t n).length≤2*t.2.2.length:=by
 unfold Yp
 have:=List.length_filter_le (fun p=>frm t p == n) ((List.range (2*t.2.2.length)).map fun (p:Nat)=>(p:Int))
 simpa using this
theorem Va {t:qk} (hl:t.2.2.length≤24) (n:Int):Ji (t,n,())=some (Yp t n,()):=by
 have hll:t.2.2.length≤1000000000000000:=by omega
 rw [zoL];unfold zcS
 rw [tw t hll]
 refine xA (zk (J:=fun x=>x.2.2.1=Yp t n) (zX (2*t.2.2.length) (fun i s=>s=(((i:Int),()),((((List.range i).map fun (p:Nat)=>(p:Int)).filter fun p=>frm t p == n),()))) (by omega) rfl ?_ ?_) ?_)
 ·rintro i _ hi rfl
  have hp:wm t (i:Int):=⟨by omega,by omega⟩
  refine zf (zZ (show (i:Int) < 2*(t.2.2.length:Int) by omega)) ?_
  have e:((List.range (i+1)).map fun (p:Nat)=>(p:Int)).filter (fun p=>frm t p == n)=(((List.range i).map fun (p:Nat)=>(p:Int)).filter fun p=>frm t p == n)++(if frm t (i:Int) == n then [(i:Int)] else []):=by
   rw [List.range_succ,List.map_append,List.filter_append]
   congr 1
   simp only [List.map_cons,List.map_nil,List.filter_cons,List.filter_nil]
  have hlen:(((List.range i).map fun (p:Nat)=>(p:Int)).filter fun p=>frm t p == n).length≤i:=by
   have:=List.length_filter_le (fun p=>frm t p == n) ((List.range i).map fun (p:Nat)=>(p:Int))
   simpa using this
  rw [Qc hll hp]
  refine zk (J:=fun x=>x.2.2.1=(((List.range (i+1)).map fun (p:Nat)=>(p:Int)).filter fun p=>frm t p == n)) ?_ ?_
  ·rw [e]
   refine zj (fun h=>?_) (fun h=>?_)
   ·have h:=qO h
    refine zf (wC (Nat.le_trans (Nat.mul_le_mul_right 8 (Nat.add_le_add_right hlen 1)) (by omega)) (Nat.le_trans (Nat.add_le_add_right hlen 1) (by omega))) (za ?_)
    rw [if_pos (by simpa using h)]
   ·have h:=jM h
    refine za ?_
    rw [if_neg (by simpa using h),List.append_nil]
  ·rintro ⟨j,⟨⟩,c,⟨⟩⟩ hc
   simp only at hc
   subst hc
   exact za (qj (congrArg (fun z=>((z,()),(_,()))) (qv (by omega))))
 ·rintro _ rfl
  exact ze (zJ (show ¬((2*t.2.2.length:Nat):Int) < 2*(t.2.2.length:Int) by omega)) (za (zu rfl))
 ·rintro ⟨j,⟨z,⟨⟩⟩,c,⟨⟩⟩ hc
  exact za hc
noncomputable def Jb (t:qk) (ps seen:List Int):List Int:=ps.filter fun p=>!tv (too t p∈seen)
theorem zgu {t:qk} (hll:t.2.2.length≤24) {ps seen:List Int} (hps:∀p∈ps,wm t p) (hpl:ps.length≤48) (hsl:seen.length≤100)
  {B:((Int×Unit)×((List Int)×((List Int)×Unit)))→Option ((Nat×((Int×Unit)×((List Int)×((List Int)×Unit)))) ⊕ ((Int×Unit)×((List Int)×((List Int)×Unit))))}
  (hB:B=fun s2=>bif (zi (s2.1.1) ((((ps).length:Nat):Int))) then opt (opt (atI (ps) (s2.1.1)) fun x3=>
        opt (wR ((t,(x3,())))) fun x4=>
        opt (vj ((s2.2.1,(x4.1,())))) fun x5=>
        bif (!x5.1) then opt (atI (ps) (s2.1.1)) fun x6=>
         bif (qE ((s2.2.2.1).length) (((x6::[])).length) (8)) then some (0,((),(s2.2.1,((s2.2.2.1++(x6::[])),()))))
         else none
        else some (0,((),(s2.2.1,(s2.2.2.1,()))))) fun x7=>
       some (.inr (((wrF .i64 ((s2.1.1+1))),()),(x7.2.2.1,(x7.2.2.2.1,()))))
      else some (.inl (0,((s2.1.1,()),(s2.2.1,(s2.2.2.1,())))))) :
  qm (zI B zQ ((0,()),(seen,([],())))) fun x=>x.2.2.1=seen∧x.2.2.2.1=Jb t ps seen:=by
 have hl2:t.2.2.length≤1000000000000000:=by omega
 subst hB
 refine zX ps.length (fun i s=>s=(((i:Int),()),(seen,(Jb t (ps.take i) seen,())))) (by omega) rfl ?_ ?_
 ·rintro i _ hi rfl
  have hx:ps[i]?=some ps[i]:=List.getElem?_eq_getElem hi
  have hp:=hps _ (List.getElem_mem hi)
  generalize ps[i]=p at hx hp
  have hlen:(Jb t (ps.take i) seen).length≤48:=by
   unfold Jb
   have:=List.length_filter_le (fun p=>!tv (too t p∈seen)) (ps.take i)
   simp only [List.length_take] at this;omega
  have e:Jb t (ps.take (i+1)) seen=Jb t (ps.take i) seen++(if (!tv (too t p∈seen))=true then [p] else []):=by
   unfold Jb
   rw [List.take_add_one,hx,List.filter_append]
   congr 1
   simp only [Option.toList,List.filter_cons,List.filter_nil]
  refine zf (zZ (show (i:Int) < (ps.length:Int) by omega)) (zk (J:=fun x=>x.2.2.1=seen∧x.2.2.2.1=Jb t (ps.take (i+1)) seen) ?_ ?_)
  ·refine zg (zC (n:=i) hx ?_)
   rw [QL hl2 hp,zD,zfG (by show seen.length≤_;omega),zD,e]
   refine zj (fun h=>?_) (fun h=>?_)
   ·refine zg (zC (n:=i) hx (zf (wC (by show ((Jb t (ps.take i) seen).length+1)*8≤_;omega) (by show (Jb t (ps.take i) seen).length+1≤_;omega)) (za ⟨rfl,?_⟩)))
    rw [if_pos h]
   ·refine za ⟨rfl,?_⟩
    have h:(!tv (too t p∈seen))=false:=h
    rw [h,if_neg (by simp),List.append_nil]
  ·rintro ⟨j,⟨⟩,c,c2,⟨⟩⟩ ⟨h1,h2⟩
   simp only at h1 h2
   subst h1 h2
   exact za (qj (congrArg (fun z=>((z,()),_)) (qv (by omega))))
 ·rintro _ rfl
  refine ze (zJ (show ¬(ps.length:Int) < (ps.length:Int) by omega)) (za (zu ⟨rfl,?_⟩))
  show Jb t (ps.take ps.length) seen=_
  rw [List.take_length]
theorem zB4 {t:qk} (ht:wU t) {a k:Int} (a0:0≤a) (a1:a≤255) (k0:0≤k) (k1:k≤255):∃r,gU (t,a,k,())=some (r,()):=by
 have n0:=ht.sz.n0;have n1:=ht.sz.n1;have hls:=ht.sz.ls
 have hll:t.2.2.length≤1000000000000000:=by omega
 suffices key:qm (gU (t,a,k,())) fun _=>True by
  obtain ⟨⟨r,⟨⟩⟩,e,_⟩:=key
  exact ⟨r,e⟩
 have ew:wrF .i64 a=a:=zy (by omega) (by omega)
 have em:Int.tmod a t.1=a % t.1:=Int.tmod_eq_emod_of_nonneg a0
 have m0:=Int.emod_nonneg a (show t.1≠0 by omega)
 have m1:=Int.emod_lt_of_pos a (show 0 < t.1 by omega)
 rw [zqH];unfold zeS
 rw [ew,em]
 refine ze (jS (show t.1≠0 by omega)) ?_
 have stop:∀(r:Option Int) (at_:Int) (out seen:List Int),True:=fun _ _ _ _=>trivial
 refine zk (J:=fun s=>∃r at_ out seen,s=((t,(r,(at_,()))),(out,(seen,())))∧je t at_∧out.length≤8∧seen.length=out.length+1∧(8≤out.length∨(out≠[]∧stn t at_=true)∨Jb t (Yp t at_) seen=[]))
  (zlg (fun s=>∃r at_ out seen,s=((t,(r,(at_,()))),(out,(seen,())))∧je t at_∧out.length≤8∧seen.length=out.length+1) _ (fun s=>20 - s.2.1.length) ⟨[],a % t.1,[],[a % t.1],rfl,⟨m0,m1⟩,by simp,rfl⟩ (by show 20 - 0 < _;omega) ?_) ?_
 ·rintro _ ⟨r,at_,out,seen,rfl,hn,ho,hs⟩
  have hpl:=zrX t at_
  have hpo:=zut t at_
  have fin:(8≤out.length∨(out≠[]∧stn t at_=true)∨Jb t (Yp t at_) seen=[])→qm (some (.inl ((t,(r,(at_,()))),(out,(seen,()))):((qk×((List Int)×(Int×Unit)))×((List Int)×((List Int)×Unit))) ⊕ ((qk×((List Int)×(Int×Unit)))×((List Int)×((List Int)×Unit))))) (zmQ (fun s=>∃r at_ out seen,s=((t,(r,(at_,()))),(out,(seen,())))∧je t at_∧out.length≤8∧seen.length=out.length+1) (fun s=>∃r at_ out seen,s=((t,(r,(at_,()))),(out,(seen,())))∧je t at_∧out.length≤8∧seen.length=out.length+1∧(8≤out.length∨(out≠[]∧stn t at_=true)∨Jb t (Yp t at_) seen=[])) (fun s=>20 - s.2.1.length) ((t,(r,(at_,()))),(out,(seen,())))):=fun h=>
   za (zlf ⟨r,at_,out,seen,rfl,hn,ho,hs,h⟩)
  have step:out.length < 8→∀(seen' nx:List Int),seen'=seen→nx=Jb t (Yp t at_) seen→qm (bif (zo ((((nx).length:Nat):Int)) (0)) then some (.inl ((t,(r,(at_,()))),(out,(seen,()))))
     else bif (zo ((((nx).length:Nat):Int)) (0)) then none
      else opt (atI (nx) ((Int.tmod (wrF .i64 (((wrF .i64 (k))+(wrF .i64 ((3*(((out).length:Nat):Int))))))) (((nx).length:Nat):Int)))) fun x9=>
       opt (gl (nx) ((Int.toNat (Int.tmod (wrF .i64 (((wrF .i64 (k))+(wrF .i64 ((3*(((out).length:Nat):Int))))))) (((nx).length:Nat):Int))))) fun x10=>
       bif (qE ((out).length) (((x10::[])).length) (8)) then opt (wR ((t,(x10,())))) fun x11=>
        bif (qE ((seen').length) (((x11.1::[])).length) (8)) then some (.inr ((t,(r,(x11.1,()))),((out++(x10::[])),((seen'++(x11.1::[])),()))))
        else none
       else none) (zmQ (fun s=>∃r at_ out seen,s=((t,(r,(at_,()))),(out,(seen,())))∧je t at_∧out.length≤8∧seen.length=out.length+1) (fun s=>∃r at_ out seen,s=((t,(r,(at_,()))),(out,(seen,())))∧je t at_∧out.length≤8∧seen.length=out.length+1∧(8≤out.length∨(out≠[]∧stn t at_=true)∨Jb t (Yp t at_) seen=[])) (fun s=>20 - s.2.1.length) ((t,(r,(at_,()))),(out,(seen,())))):=by
   intro h8 seen' nx e1 e2
   subst e1
   refine zj (fun h=>fin (.inr (.inr ?_))) (fun h=>?_)
   ·have h:=qO h
    rw [←e2];exact List.length_eq_zero_iff.1 (by omega)
   have hz:(nx.length:Int)≠0:=jM h
   have ek:wrF .i64 k=k:=zy (by omega) (by omega)
   have e3:wrF .i64 (3*(out.length:Int))=3*(out.length:Int):=zy (by omega) (by omega)
   have e4:wrF .i64 (k+3*(out.length:Int))=k+3*(out.length:Int):=zy (by omega) (by omega)
   rw [ek,e3,e4,Int.tmod_eq_emod_of_nonneg (by omega)]
   have i0:=Int.emod_nonneg (k+3*(out.length:Int)) hz
   have i1:=Int.emod_lt_of_pos (k+3*(out.length:Int)) (show 0 < (nx.length:Int) by omega)
   refine ze (jS hz) (zg (jv i0 i1 fun _ _=>zg (vO (by omega) fun p hp=>?_)))
   have hpt:wm t p:=by
    have:=List.mem_of_getElem? hp
    rw [e2] at this
    exact hpo p (List.mem_filter.1 this).1
   refine zf (wC (by show (out.length+1)*8≤_;omega) (by show out.length+1≤_;omega)) ?_
   rw [QL hll hpt,zD]
   refine zf (wC (by show (seen'.length+1)*8≤_;omega) (by show seen'.length+1≤_;omega)) (za (zbH ⟨r,too t p,out++[p],seen'++[too t p],rfl,(Gc ht.ls hpt).2.1,by simp;omega,by simp;omega⟩ ?_))
   show 20 - (out++[p]).length < 20 - out.length
   simp;omega
  refine zj (fun h8=>?_) (fun h8=>fin (.inl ?_))
  rotate_left
  ·have h8:(8:Int)≤(out.length:Int):=qG h8
   omega
  have h8:(out.length:Int) < 8:=qp h8
  refine zj (fun hz=>?_) (fun hz=>?_)
  ·rw [Va hls,zD]
   refine zk (zgu hls hpo (by omega) (by show seen.length≤_;omega) rfl) ?_
   rintro ⟨j,⟨z,⟨⟩⟩,c,c2,⟨⟩⟩ ⟨h1,h2⟩
   exact step (by omega) c c2 h1 h2
  ·have hz:(out.length:Int)≠0:=jM hz
   refine zg (qh (a:=stn t at_) (by show atI t.2.1 at_=_;rw [show at_=((at_.toNat:Nat):Int) from (by have:=hn.1;omega),yd (n:=at_.toNat)];exact hn.get ht.sz) ?_)
   refine zj (fun hst=>?_) (fun hst=>fin (.inr (.inl ⟨fun e=>?_,by simpa using hst⟩)))
   ·rw [Va hls,zD]
    refine zk (zgu hls hpo (by omega) (by show seen.length≤_;omega) rfl) ?_
    rintro ⟨j,⟨z,⟨⟩⟩,c,c2,⟨⟩⟩ ⟨h1,h2⟩
    exact step (by omega) c c2 h1 h2
   ·rw [e] at hz;exact hz rfl
 ·rintro _ ⟨r,at_,out,seen,rfl,hn,ho,hs,hstop⟩
  have hpl:=zrX t at_
  have hpo:=zut t at_
  refine zj (fun h8=>?_) (fun _=>za trivial)
  have h8:(out.length:Int) < 8:=qp h8
  refine zj (fun hz=>?_) (fun hz=>?_)
  ·have hz:(out.length:Int)=0:=qO hz
   have hnx:Jb t (Yp t at_) seen=[]:=by
    rcases hstop with h | ⟨h,_⟩ | h
    ·omega
    ·exact absurd (List.length_eq_zero_iff.1 (by omega)) h
    ·exact h
   rw [Va hls,zD]
   refine zk (zgu hls hpo (by omega) (by show seen.length≤_;omega) rfl) ?_
   rintro ⟨j,⟨z,⟨⟩⟩,c,c2,⟨⟩⟩ ⟨h1,h2⟩
   simp only at h1 h2
   rw [hnx] at h2
   subst h2
   exact zf rfl (za trivial)
  ·refine zg (qh (a:=stn t at_) (by show atI t.2.1 at_=_;rw [show at_=((at_.toNat:Nat):Int) from (by have:=hn.1;omega),yd (n:=at_.toNat)];exact hn.get ht.sz) ?_)
   refine zj (fun hst=>?_) (fun _=>za trivial)
   have hnx:Jb t (Yp t at_) seen=[]:=by
    rcases hstop with h | ⟨_,h⟩ | h
    ·omega
    ·rw [h] at hst;cases hst
    ·exact h
   rw [Va hls,zD]
   refine zk (zgu hls hpo (by omega) (by show seen.length≤_;omega) rfl) ?_
   rintro ⟨j,⟨z,⟨⟩⟩,c,c2,⟨⟩⟩ ⟨h1,h2⟩
   simp only at h1 h2
   rw [hnx] at h2
   subst h2
   exact zf rfl (za trivial)
theorem zvH (z:Int):0≤wrF .u8 z∧wrF .u8 z≤255:=by
 rw [Kz,IntKind.wrap_u8];omega
theorem zxR {t:qk} (hs:szP t) {n:Int} (hn:je t n):atI t.2.1 n=some (stn t n):=by
 have e:n=((n.toNat:Nat):Int):=by have:=hn.1;omega
 rw [e,yd (n:=n.toNat)]
 rw [←e];exact hn.get hs
theorem zuu {α:Type} {l:List α} (h:1≤l.length):zp6 l=true:=by
 cases l with
 |nil=>simp at h
 |cons a b=>rfl
theorem zB5 {t:qk} (ht:wU t) (nd w:Int)
  {B:(((Int×((List Bool)×(List (Int×(Int×(Int×Int))))))×((List Int)×(Int×Unit)))×Unit)→Option ((Nat×(((Int×((List Bool)×(List (Int×(Int×(Int×Int))))))×((List Int)×(Int×Unit)))×Unit)) ⊕ (((Int×((List Bool)×(List (Int×(Int×(Int×Int))))))×((List Int)×(Int×Unit)))×Unit))}
  (hB:B=fun s3:(((Int×((List Bool)×(List (Int×(Int×(Int×Int))))))×((List Int)×(Int×Unit)))×Unit)=>
   bif (zi (s3.1.2.2.1) (16)) then opt (gU ((s3.1.1,((wrF .u8 (nd)),((wrF .u8 ((w+(wrF .u8 (s3.1.2.2.1))))),()))))) fun x4=>
    opt
      (bif (zi (0) ((((x4.1).length:Nat):Int))) then opt (xY ((s3.1.1,(x4.1,())))) fun x5=>
      bif x5.1 then opt (atI (x4.1) (0)) fun x6=>
       opt (ji ((s3.1.1,(x6,())))) fun x7=>
       opt (atI (s3.1.1.2.1) (x7.1)) fun x8=>
       bif x8 then opt (atI (x4.1) ((wrF .i64 (((((x4.1).length:Nat):Int) - 1))))) fun x9=>
        opt (wR ((s3.1.1,(x9,())))) fun x10=>
        opt (atI (s3.1.1.2.1) (x10.1)) fun x11=>
        bif x11 then some (1,((x4.1,()),()))
        else some (0,((s3.1.2.1,()),()))
       else some (0,((s3.1.2.1,()),()))
      else some (0,((s3.1.2.1,()),()))
     else some (0,((s3.1.2.1,()),()))) fun x12=>
    bif (Nat.beq x12.1 0) then some (.inr ((s3.1.1,(x12.2.1.1,((wrF .i64 ((s3.1.2.2.1+1))),()))),()))
    else some (.inl (1,((s3.1.1,(x12.2.1.1,(s3.1.2.2.1,()))),())))
   else some (.inl (0,((s3.1.1,(s3.1.2.1,(s3.1.2.2.1,()))),())))) :
  qm (zI B zQ ((t,([],(0,()))),())) fun x=>x.1=0∨(x.1=1∧qU t x.2.1.2.1):=by
 have hll:t.2.2.length≤1000000000000000:=ht.ll
 subst hB
 refine zX 16 (fun i s=>s=((t,([],((i:Int),()))),())) (by omega) rfl ?_ ?_
 ·rintro i _ hi rfl
  refine zf (zZ (show (i:Int) < 16 by omega)) ?_
  obtain ⟨r,hr⟩:=zB4 ht (zvH nd).1 (zvH nd).2 (zvH (w+wrF .u8 (i:Int))).1 (zvH (w+wrF .u8 (i:Int))).2
  rw [hr,zD]
  refine zk (J:=fun x=>(x.1=0∧x.2.1.1=[])∨(x.1=1∧qU t x.2.1.1)) ?_ ?_
  ·have stay:qm (some ((0:Nat),((([]:List Int),()),()))) (fun x=>(x.1=0∧x.2.1.1=[])∨(x.1=1∧qU t x.2.1.1)):=za (.inl ⟨rfl,rfl⟩)
   refine zj (fun h=>?_) (fun h=>stay)
   have h:=qp h
   rw [zgn ht,zD]
   refine zj (fun hv=>?_) (fun _=>stay)
   have hv:qU t r:=Wm hv
   have r0:=hv.n0;have r1:=hv.n1
   refine zg (jv (by omega) (by show (0:Int) < (r.length:Int);omega) fun p hp=>?_)
   have hpp:wm t p:=hv.pt p (List.mem_of_getElem? hp)
   rw [Qc hll hpp,zD]
   refine zg (qh (zxR ht.sz (Gc ht.ls hpp).1) ?_)
   refine zj (fun _=>?_) (fun _=>stay)
   have e:wrF .i64 ((r.length:Int) - 1)=(r.length:Int) - 1:=zy (by omega) (by omega)
   rw [e]
   refine zg (jv (by omega) (by show (r.length:Int) - 1 < (r.length:Int);omega) fun q hq=>?_)
   have hqp:wm t q:=hv.pt q (List.mem_of_getElem? hq)
   rw [QL hll hqp,zD]
   refine zg (qh (zxR ht.sz (Gc ht.ls hqp).2.1) ?_)
   exact zj (fun _=>za (.inr ⟨rfl,hv⟩)) (fun _=>stay)
  ·rintro ⟨n,⟨r',⟨⟩⟩,⟨⟩⟩ (⟨h1,h2⟩ | ⟨h1,h2⟩)
   ·simp only at h1 h2
    subst h1 h2
    exact zf rfl (za (qj (congrArg (fun z=>((t,([],(z,()))),())) (qv (by omega)))))
   ·simp only at h1 h2
    subst h1
    exact ze rfl (za (zu (.inr ⟨rfl,h2⟩)))
 ·rintro _ rfl
  exact ze (zJ (show ¬(16:Int) < 16 by omega)) (za (zu (.inl rfl)))
abbrev zrY:=Bool×Bool×Int×Int×Int×Int×Int×Int
def sdP (d:zrY):Prop:=(0≤d.2.2.1∧d.2.2.1≤255)∧(0≤d.2.2.2.2.2.1∧d.2.2.2.2.2.1≤255)
theorem zyx {t:qk} (ht:wU t) {d:zrY} (hd:sdP d) (id:Int):∃s b,xd (d,t,id,())=some (s,b,()):=by
 have hll:t.2.2.length≤1000000000000000:=ht.ll
 have n0:=ht.sz.n0;have n1:=ht.sz.n1
 obtain ⟨⟨d0,d1⟩,d2,d3⟩:=hd
 suffices key:qm (xd (d,t,id,())) fun _=>True by
  obtain ⟨⟨s,b,⟨⟩⟩,e,_⟩:=key
  exact ⟨s,b,e⟩
 have m0:=Int.emod_nonneg d.2.2.1 (show t.1≠0 by omega)
 have m1:=Int.emod_lt_of_pos d.2.2.1 (show 0 < t.1 by omega)
 have ew:wrF .i64 d.2.2.1=d.2.2.1:=zy (by omega) (by omega)
 rw [zfN];unfold YR
 rw [ew,Int.tmod_eq_emod_of_nonneg d0]
 refine ze (jS (show t.1≠0 by omega)) ?_
 refine zk (J:=fun _=>True) (zX t.1.toNat (fun i s=>∃n,je t n∧s=((n,((i:Int),())),())) (by omega) ⟨_,⟨m0,m1⟩,rfl⟩ ?_ ?_) ?_
 ·rintro i _ hi ⟨n,hn,rfl⟩
  have:=hn.1;have:=hn.2
  refine zf (zZ (show (i:Int) < t.1 by omega)) (zg (qh (zxR ht.sz hn) ?_))
  refine zj (fun _=>?_) (fun _=>za (zu trivial))
  refine ze (jS (show t.1≠0 by omega)) (za (qj ⟨(n+1) % t.1,⟨Int.emod_nonneg _ (by omega),Int.emod_lt_of_pos _ (by omega)⟩,?_⟩))
  have e1:wrF .i64 (n+1)=n+1:=zy (by omega) (by omega)
  show ((Int.tmod (wrF .i64 (n+1)) t.1,(wrF .i64 ((i:Int)+1),())),())=_
  rw [e1,Int.tmod_eq_emod_of_nonneg (by omega),qv (by omega)]
 ·rintro _ ⟨n,hn,rfl⟩
  exact ze (zJ (show ¬((t.1.toNat:Nat):Int) < t.1 by omega)) (za (zu trivial))
 rintro x2 -
 refine zk (zB5 ht x2.2.1.1 d.2.2.2.1 rfl) ?_
 rintro ⟨k,⟨tt,r,z,⟨⟩⟩,⟨⟩⟩ h
 rcases h with h | ⟨h,hr⟩
 ·exact zf (by show Nat.beq k 0=true;rw [show k=0 from h];rfl) (za trivial)
 have hr:qU t r:=hr
 have r0:=hr.n0;have r1:=hr.n1
 have er:wrF .i64 ((r.length:Int) - 1)=(r.length:Int) - 1:=zy (by omega) (by omega)
 refine ze (by show Nat.beq k 0=false;rw [show k=1 from h];rfl) (zf (zuu r0) ?_)
 refine zg (jv (by omega) (by show (0:Int) < (r.length:Int);omega) fun p hp=>?_)
 have hpp:wm t p:=hr.pt p (List.mem_of_getElem? hp)
 rw [Qc hll hpp,zD,er]
 refine zg (jv (by omega) (by show (r.length:Int) - 1 < (r.length:Int);omega) fun q hq=>?_)
 have hqp:wm t q:=hr.pt q (List.mem_of_getElem? hq)
 rw [QL hll hqp,zD]
 refine zk (J:=fun _=>True) ?_ ?_
 ·refine zj (fun _=>za trivial) (fun _=>?_)
  have p0:=Int.emod_nonneg d.2.2.2.2.2.1 (show (10:Int)≠0 by omega)
  have p1:=Int.emod_lt_of_pos d.2.2.2.2.2.1 (show 0 < (10:Int) by omega)
  rw [Int.tmod_eq_emod_of_nonneg d2]
  refine zg (jv p0 p1 fun _ _=>zg (vO ?_ fun _ _=>za trivial))
  show (d.2.2.2.2.2.1 % 10).toNat < 10
  omega
 rintro x20 -
 refine zk (J:=fun x=>x.2.1.1=t) (zX 24 (fun i s=>∃F,s=((t,((),((i:Int),()))),F)) (by omega) ⟨_,rfl⟩ ?_ ?_) ?_
 ·rintro i _ hi ⟨F,rfl⟩
  refine zf (zZ (show (i:Int) < 24 by omega)) ?_
  have out:∀{k:Nat} {z:Int} {F'},qm (some (.inl (k,((t,((),(z,()))),F')):((Nat×(((Int×((List Bool)×(List (Int×(Int×(Int×Int))))))×(Unit×(Int×Unit)))×((Int×(Int×(Int×(Int×(Int×(Int×((Int×Int)×(Int×((List (List Int))×Unit)))))))))×Unit))) ⊕ (((Int×((List Bool)×(List (Int×(Int×(Int×Int))))))×(Unit×(Int×Unit)))×((Int×(Int×(Int×(Int×(Int×(Int×((Int×Int)×(Int×((List (List Int))×Unit)))))))))×Unit))))) (Nxt (fun x=>x.2.1.1=t) fun s=>∃F,s=((t,((),(((i+1:Nat):Int),()))),F)):=za (zu rfl)
  have on:∀{F'},qm (some (.inr ((t,((),(wrF .i64 ((i:Int)+1),()))),F'):((Nat×(((Int×((List Bool)×(List (Int×(Int×(Int×Int))))))×(Unit×(Int×Unit)))×((Int×(Int×(Int×(Int×(Int×(Int×((Int×Int)×(Int×((List (List Int))×Unit)))))))))×Unit))) ⊕ (((Int×((List Bool)×(List (Int×(Int×(Int×Int))))))×(Unit×(Int×Unit)))×((Int×(Int×(Int×(Int×(Int×(Int×((Int×Int)×(Int×((List (List Int))×Unit)))))))))×Unit))))) (Nxt (fun x=>x.2.1.1=t) fun s=>∃F,s=((t,((),(((i+1:Nat):Int),()))),F)):=fun {F'}=>za (qj ⟨F',congrArg (fun z=>((t,((),(z,()))),F')) (qv (by omega))⟩)
  refine zj (fun _=>zj (fun h1=>?_) (fun _=>out)) (fun _=>out)
  have h1:((F.1.2.2.2.2.2.2.2.2.1.length:Nat):Int)=1:=qO h1
  refine zk (zB5 ht x2.2.1.1 (wrF .u8 (d.2.2.2.1+wrF .u8 (i:Int))) rfl) ?_
  rintro ⟨k2,⟨tt2,b,z2,⟨⟩⟩,⟨⟩⟩ h
  rcases h with h | ⟨h,hb⟩
  ·exact zf (by show Nat.beq k2 0=true;rw [show k2=0 from h];rfl) on
  have hb:qU t b:=hb
  have b0:=hb.n0;have b1:=hb.n1
  have eb:wrF .i64 ((b.length:Int) - 1)=(b.length:Int) - 1:=zy (by omega) (by omega)
  refine ze (by show Nat.beq k2 0=false;rw [show k2=1 from h];rfl) ?_
  refine zk (J:=fun _=>True) ?_ ?_
  ·refine zf (zuu b0) ?_
   rw [eb]
   refine zg (jv (by omega) (by show (b.length:Int) - 1 < (b.length:Int);omega) fun q hq=>?_)
   have hqp:wm t q:=hb.pt q (List.mem_of_getElem? hq)
   rw [QL hll hqp,zD]
   refine zj (fun _=>?_) (fun _=>za trivial)
   rw [zgo ht hr hb,zD]
   refine zj (fun _=>?_) (fun _=>za trivial)
   exact zf (wC (by show (F.1.2.2.2.2.2.2.2.2.1.length+1)*24≤_;omega) (by show F.1.2.2.2.2.2.2.2.2.1.length+1≤_;omega)) (za trivial)
  ·rintro x36 -
   exact on
 ·rintro _ ⟨F,rfl⟩
  exact ze (zJ (show ¬(24:Int) < 24 by omega)) (za (zu rfl))
 rintro ⟨k3,⟨t3,⟨⟩,z3,⟨⟩⟩,F,⟨⟩⟩ h3
 have h3:t3=t:=h3
 subst h3
 rw [zrH ht,zD]
 exact za trivial
abbrev zFl:=List Int×List Int
abbrev zhV:=zmr×List zFl×(Int×Int×Int)×Int×Int×List zrY×List Int
structure drP (d:zhV):Prop where
 t:tdP d.1
 g:∀x∈d.2.1,u8 x.1∧u8 x.2
 u:(0≤d.2.2.1.1∧d.2.2.1.1≤255)∧(0≤d.2.2.1.2.1∧d.2.2.1.2.1≤255)∧(0≤d.2.2.1.2.2∧d.2.2.1.2.2≤255)
 cap:0≤d.2.2.2.1∧d.2.2.2.1≤255
 most:0≤d.2.2.2.2.1∧d.2.2.2.2.1≤65535
 l:∀x∈d.2.2.2.2.2.1,sdP x
 ll:d.2.2.2.2.2.1.length*10≤140737488355328
theorem zxS {d:zhV} (hd:drP d):∃l,yS (d,())=some (l,())∧l.length≤6:=by
 suffices key:qm (yS (d,())) fun r=>r.1.length≤6 by
  obtain ⟨⟨l,⟨⟩⟩,e,h⟩:=key
  exact ⟨l,e,h⟩
 have hll:=hd.ll
 have hl:=hd.l
 rw [ze0];unfold WR
 refine zk (J:=fun x=>(∀y∈x.2.2.1,sdP y)∧x.2.2.1.length≤1000000000000000) (zX d.2.2.2.2.2.1.length (fun i s=>∃L:List zrY,s=(((i:Int),()),(L,()))∧L.length=i∧∀y∈L,sdP y) (by omega) ⟨[],rfl,rfl,fun y hy=>by cases hy⟩ ?_ ?_) ?_
 ·rintro i _ hi ⟨L,rfl,hL,hs⟩
  refine zf (zZ (show (i:Int) < (d.2.2.2.2.2.1.length:Int) by omega)) (zg (jv (by show 0≤(i:Int);omega) (by show (i:Int) < (d.2.2.2.2.2.1.length:Int);omega) fun x hx=>?_))
  have hx:=hl x (List.mem_of_getElem? hx)
  refine zf (wC (by show (L.length+1)*10≤_;omega) (by show L.length+1≤_;omega)) (za (qj ⟨L++[(true,x.2)],congrArg (fun z=>((z,()),(L++[(true,x.2)],()))) (qv (by omega)),by simp [hL],fun y hy=>?_⟩))
  rcases List.mem_append.1 hy with h | h
  ·exact hs y h
  ·rw [List.mem_singleton.1 h];exact hx
 ·rintro _ ⟨L,rfl,hL,hs⟩
  exact ze (zJ (show ¬((d.2.2.2.2.2.1.length:Nat):Int) < (d.2.2.2.2.2.1.length:Int) by omega)) (za (zu ⟨hs,by show L.length≤_;omega⟩))
 rintro ⟨k,⟨z,⟨⟩⟩,L,⟨⟩⟩ ⟨hs,hL⟩
 simp only at hs hL
 obtain ⟨b,c,ls,et,ht,h1⟩:=zrW hd.t
 rw [et,zD]
 generalize tOf b c ls=t at ht
 refine zk (J:=fun x=>x.2.2.2.1.length≤6) (zX L.length (fun i s=>∃out:List jj,s=((t,((i:Int),())),(L,(out,())))∧out.length≤6) (by omega) ⟨[],rfl,by simp⟩ ?_ ?_) ?_
 ·rintro i _ hi ⟨out,rfl,ho⟩
  have hx:L[i]?=some L[i]:=List.getElem?_eq_getElem hi
  have hxs:=hs _ (List.getElem_mem hi)
  generalize L[i]=x at hx hxs
  refine zf (zZ (show (i:Int) < (L.length:Int) by omega)) (zj (fun h6=>?_) (fun _=>za (zu ho)))
  have h6:(out.length:Int) < 6:=qp h6
  refine zg (zC (n:=i) hx (zg (qh (a:=x) (by show gl L (Int.toNat (i:Int))=_;rw [Int.toNat_natCast,yJ];exact hx) ?_)))
  obtain ⟨s,is,es⟩:=zyx ht hxs (wrF .i64 ((out.length:Int)+1))
  rw [es,zD]
  refine zk (J:=fun x=>x.2.2.1.length≤6) (zj (fun _=>zf (wC (by show (out.length+1)*96≤_;omega) (by show out.length+1≤_;omega)) (za ?_)) (fun _=>za ho)) ?_
  ·show (out++[s]).length≤6
   simp;omega
  ·rintro ⟨k,⟨⟩,o2,⟨⟩⟩ h2
   exact za (qj ⟨o2,congrArg (fun z=>((t,(z,())),(L,(o2,())))) (qv (by omega)),h2⟩)
 ·rintro _ ⟨out,rfl,ho⟩
  exact ze (zJ (show ¬((L.length:Nat):Int) < (L.length:Int) by omega)) (za (zu ho))
 rintro ⟨k,⟨t2,z,⟨⟩⟩,L2,out,⟨⟩⟩ h6
 have h6:out.length≤6:=h6
 refine zk (J:=fun x=>x.2.2.1.length≤6) (zX out.length (fun i s=>∃o:List jj,s=(((i:Int),()),(o,()))∧o.length=out.length) (by omega) ⟨out,rfl,rfl⟩ ?_ ?_) ?_
 ·rintro i _ hi ⟨o,rfl,ho⟩
  refine zf (zZ (show (i:Int) < (o.length:Int) by omega)) (zk (J:=fun x=>x.2.2.1.length=out.length) ?_ ?_)
  ·refine zj (fun h=>?_) (fun _=>za ho)
   have h:(i:Int) < (d.2.2.2.2.2.2.length:Int):=qp h
   refine zg (jv (by show 0≤(i:Int);omega) h fun x hx=>zj (fun _=>?_) (fun _=>za ho))
   refine zg (jv (by show 0≤(i:Int);omega) h fun y hy=>zg (jv (by show 0≤(i:Int);omega) (by show (i:Int) < (o.length:Int);omega) fun y hy=>zg (vO (by show i < o.length;omega) fun y hy=>za ?_)))
   show (List.set _ _ _).length=_
   rw [List.length_set];exact ho
  ·rintro ⟨k,⟨⟩,o2,⟨⟩⟩ h2
   exact za (qj ⟨o2,congrArg (fun z=>((z,()),(o2,()))) (qv (by omega)),h2⟩)
 ·rintro _ ⟨o,rfl,ho⟩
  exact ze (zJ (show ¬((out.length:Nat):Int) < (o.length:Int) by omega)) (za (zu (by show o.length≤6;omega)))
 rintro ⟨k,⟨z,⟨⟩⟩,o,⟨⟩⟩ ho
 exact za ho
def zi9 (e:Int×Int):Prop:=(0≤e.1∧e.1≤255)∧(1≤e.2∧e.2≤1100)
def m40 (e:Int×Int):Int×Int:=(e.1,40*e.2)
theorem zxT (l:List (Int×Int)) (x:Int×Int):qA (l++[x])=qA l+x.2:=by
 unfold qA;simp
theorem zmu {l:List (Int×Int)} (h:∀e∈l,zi9 e):0≤qA l∧qA l≤1100*l.length:=by
 unfold qA
 induction l with
 |nil=>simp
 |cons a l ih=>
  obtain ⟨_,h1,h2⟩:=h a (by simp)
  have:=ih fun e he=>h e (by simp [he])
  simp only [List.map_cons,List.sum_cons,List.length_cons]
  omega
theorem zEI (l:List (Int×Int)):qA (l.map m40)=40*qA l:=by
 unfold qA
 induction l with
 |nil=>rfl
 |cons a l ih=>
  simp only [List.map_cons,List.sum_cons,ih,m40]
  omega
theorem zEJ {l:List (Int×Int)} (h:∀e∈l,zi9 e) (h0:1≤l.length) (h1:l.length≤10):qz (l,qA l):=by
 have:=zmu h
 exact ⟨h0,by show l.length≤128;omega,fun e he=>by obtain ⟨⟨a,b⟩,c,d⟩:=h e he;exact ⟨a,b,c,by omega⟩,rfl,by show qA l≤9600000;omega⟩
theorem zDx {l:List (Int×Int)} (h:∀e∈l,zi9 e) (h0:1≤l.length) (h1:l.length≤10):qz (l.map m40,40*qA l):=by
 have:=zmu h
 refine ⟨by simpa using h0,by show (l.map m40).length≤128;simp;omega,fun e he=>?_,zEI l,by show 40*qA l≤9600000;omega⟩
 obtain ⟨x,hx,rfl⟩:=List.mem_map.1 he
 obtain ⟨⟨a,b⟩,c,d⟩:=h x hx
 exact ⟨a,b,by show 1≤40*x.2;omega,by show 40*x.2≤9600000;omega⟩
theorem zFm {d:zhV} (hd:drP d):∃n,vv (d,())=some (n,())∧zxE n∧1≤n.1.2.2.length:=by
 suffices key:qm (vv (d,())) fun r=>zxE r.1∧1≤r.1.1.2.2.length by
  obtain ⟨⟨l,⟨⟩⟩,e,h⟩:=key
  exact ⟨l,e,h⟩
 obtain ⟨⟨u0,u1⟩,⟨u2,u3⟩,u4,u5⟩:=hd.u
 obtain ⟨c0,c1⟩:=hd.cap
 obtain ⟨m0,m1⟩:=hd.most
 obtain ⟨b,c,ls,et,ht,hls⟩:=zrW hd.t
 have hl1:1≤(tOf b c ls).2.2.length:=hls
 have es:Zd (d.2.2.1.1,d.2.2.1.2.1,d.2.2.1.2.2,())=some ((100+20*d.2.2.1.1,d.2.2.1.2.1 % 40,d.2.2.1.2.2,8000),()):=by
  rw [zlm];unfold zac
  have e1:wrF .i64 d.2.2.1.1=d.2.2.1.1:=zy (by omega) (by omega)
  have e2:wrF .i64 (20*d.2.2.1.1)=20*d.2.2.1.1:=zy (by omega) (by omega)
  have e3:wrF .i64 (100+20*d.2.2.1.1)=100+20*d.2.2.1.1:=zy (by omega) (by omega)
  have e4:wrF .i64 (d.2.2.1.2.1 % 40)=d.2.2.1.2.1 % 40:=zy (by omega) (by omega)
  have e5:wrF .i64 d.2.2.1.2.2=d.2.2.1.2.2:=zy (by omega) (by omega)
  simp only [e1,e2,e3,Int.tmod_eq_emod_of_nonneg u2,e4,e5]
 rw [ziB];unfold Ko
 rw [et,zD,es,zD]
 have hl24:=ht.sz.ls
 generalize tOf b c ls=t at ht hl1 hl24
 have e1:wrF .i64 d.2.2.2.1=d.2.2.2.1:=zy (by omega) (by omega)
 have e2:wrF .i64 (200*d.2.2.2.1)=200*d.2.2.2.1:=zy (by omega) (by omega)
 have e3:wrF .i64 (2000+200*d.2.2.2.1)=2000+200*d.2.2.2.1:=zy (by omega) (by omega)
 have e4:wrF .i64 (d.2.2.2.2.1 % 500)=d.2.2.2.2.1 % 500:=zy (by omega) (by omega)
 have e5:wrF .i64 (339+d.2.2.2.2.1 % 500)=339+d.2.2.2.2.1 % 500:=zy (by omega) (by omega)
 have e6:wrF .i64 (2*((t.2.2.length:Nat):Int))=((2*t.2.2.length:Nat):Int):=by rw [zy]<;>omega
 simp only [e1,e2,e3,Int.tmod_eq_emod_of_nonneg m0,e4,e5]
 have hu:Xv (100+20*d.2.2.1.1,d.2.2.1.2.1 % 40,d.2.2.1.2.2,2000+200*d.2.2.2.1):=⟨⟨by show 1≤100+20*d.2.2.1.1;omega,by show 100+20*d.2.2.1.1≤10000;omega⟩,⟨by show 0≤d.2.2.1.2.1 % 40;omega,by show d.2.2.1.2.1 % 40≤1000;omega⟩,⟨u4,by show d.2.2.1.2.2≤10000;omega⟩,⟨by show 1542≤2000+200*d.2.2.2.1;omega,by show 2000+200*d.2.2.2.1≤65536;omega⟩⟩
 have hm:84≤339+d.2.2.2.2.1 % 500∧339+d.2.2.2.2.1 % 500≤1542:=⟨by omega,by omega⟩
 generalize 339+d.2.2.2.2.1 % 500=most at hm
 generalize hU:(100+20*d.2.2.1.1,d.2.2.1.2.1 % 40,d.2.2.1.2.2,2000+200*d.2.2.2.1)=U at hu
 refine zk (J:=fun x=>x.2.2.1.1=t∧Xv x.2.2.1.2.1∧x.2.2.1.2.2.1.length=2*t.2.2.length∧(∀g∈x.2.2.1.2.2.1,qz g)∧x.2.2.1.2.2.2.1=most)
  (zX (2*t.2.2.length) (fun i s=>∃gs:List Gts,s=((d,((),((i:Int),()))),((t,(U,(gs,(most,())))),()))∧gs.length=i∧∀g∈gs,qz g) (by omega) ⟨[],by rw [←hU];rfl,rfl,fun y hy=>by cases hy⟩ ?_ ?_) ?_
 ·rintro i _ hi ⟨gs,rfl,hg,hgs⟩
  refine zf (zZ (by show (i:Int) < wrF .i64 (2*((t.2.2.length:Nat):Int));rw [e6];omega)) ?_
  refine zk (J:=fun x=>∃es cy,x.2.2.1=(es,(cy,()))∧es.length=1∧(∀e∈es,zi9 e)∧cy=qA es) (zX 1 (fun k s=>∃es cy,s=(((),((k:Int),())),((es,(cy,())),()))∧es.length=k∧(∀e∈es,zi9 e)∧cy=qA es) (by omega) ⟨[],0,rfl,rfl,fun y hy=>by (cases hy),rfl⟩ ?_ ?_) ?_
  ·rintro k _ hk ⟨es,cy,rfl,hl,he,hc⟩
   have:=zmu he
   have hk0:k=0:=by omega
   subst hk0
   refine zf (by rw [ZV,WM];exact zZ (by show (0:Int) < 1;decide)) ?_
   refine zf (wC (by show (es.length+1)*16≤_;omega) (by show es.length+1≤_;omega)) (za (qj ⟨es++[(127,1)],cy+1,?_,by simp [hl],fun e h=>?_,by rw [zxT,hc]⟩))
   ·have e1:wrF .i64 (cy+1)=cy+1:=zy (by omega) (by omega)
    show (((),(wrF .i64 (0+1),())),((es++[(127,1)],(wrF .i64 (cy+1),())),()))=_
    rw [e1];rfl
   ·rcases List.mem_append.1 h with h | h
    ·exact he e h
    ·rw [List.mem_singleton.1 h];exact ⟨⟨by decide,by decide⟩,by decide,by decide⟩
  ·rintro _ ⟨es,cy,rfl,hl,he,hc⟩
   refine ze (by rw [ZV,WM];exact zJ (by show ¬(1:Int) < 1;decide)) (za (zu ⟨es,cy,rfl,hl,he,hc⟩))
  rintro ⟨k6,⟨⟨⟩,z6,⟨⟩⟩,E6,⟨⟩⟩ ⟨es,cy,e,hl,he,hc⟩
  have e:E6=(es,(cy,())):=e
  subst e
  have hg6:qz (es,cy):=by rw [hc];exact zEJ he (by omega) (by omega)
  refine zk (J:=fun x=>x.2.1.1=d∧qz (x.2.2.1.1,x.2.2.1.2.1)) ?_ ?_
  ·refine zj (fun hG=>zj (fun _=>?_) (fun _=>za ⟨rfl,hg6⟩)) (fun _=>za ⟨rfl,hg6⟩)
   have hG:(0:Int) < (d.2.1.length:Int):=qp hG
   have p0:=Int.emod_nonneg (i:Int) (show (d.2.1.length:Int)≠0 by omega)
   have p1:=Int.emod_lt_of_pos (i:Int) hG
   refine ze (jS (show (d.2.1.length:Int)≠0 by omega)) (zg ?_)
   rw [Int.tmod_eq_emod_of_nonneg (by show 0≤(i:Int);omega)]
   refine jv p0 p1 fun x hx=>?_
   obtain ⟨gx1,gx2⟩:=hd.g x (List.mem_of_getElem? hx)
   have en:∃N:Nat,vq 1 (jh ((x.1.length:Nat):Int) 10)=(N:Int)∧1≤N∧N≤10:=⟨(vq 1 (jh ((x.1.length:Nat):Int) 10)).toNat,by rw [ZV,WM];omega,by rw [ZV,WM];omega,by rw [ZV,WM];omega⟩
   obtain ⟨N,eN,N1,N2⟩:=en
   refine zk (J:=fun x=>∃es cy,x.2.2.1=(es,(cy,()))∧es.length=N∧(∀e∈es,zi9 e)∧cy=qA es) (zX N (fun k s=>∃es cy,s=(((),((k:Int),())),((es,(cy,())),()))∧es.length=k∧(∀e∈es,zi9 e)∧cy=qA es) (by omega) ⟨[],0,rfl,rfl,fun y hy=>by (cases hy),rfl⟩ ?_ ?_) ?_
   ·rintro k _ hk ⟨es,cy,rfl,hl,he,hc⟩
    have hq:=zmu he
    refine zf (by show zi (k:Int) (vq 1 (jh ((x.1.length:Nat):Int) 10))=true;rw [eN];exact zZ (by omega)) ?_
    refine zk (J:=fun x=>(0≤x.2.1.1.1∧x.2.1.1.1≤255)∧x.2.1.1.2=1) ?_ ?_
    ·refine zj (fun h=>?_) (fun _=>za ⟨⟨by show (0:Int)≤127;decide,by show (127:Int)≤255;decide⟩,rfl⟩)
     have h:(k:Int) < (x.1.length:Int):=qp h
     refine zg (jv (by show 0≤(k:Int);omega) h fun y hy=>?_)
     obtain ⟨y0,y1⟩:=gx1 y (List.mem_of_getElem? hy)
     rw [Int.tmod_eq_emod_of_nonneg y0]
     have p0:=Int.emod_nonneg y (show (6:Int)≠0 by omega)
     have p1:=Int.emod_lt_of_pos y (show 0 < (6:Int) by omega)
     refine zg (jv p0 p1 fun _ _=>zg (vO (by show (y % 6).toNat < 6;omega) fun v hv=>za ⟨?_,rfl⟩))
     have:=List.mem_of_getElem? hv
     simp at this
     show 0≤v∧v≤255
     omega
    rintro ⟨k12,⟨⟨a,b⟩,⟨⟩⟩,⟨⟩⟩ ⟨h12,hb⟩
    have hb:b=1:=hb
    subst hb
    have h12:0≤a∧a≤255:=h12
    refine zk (J:=fun x=>zi9 x.2.1.1) ?_ ?_
    ·refine zj (fun h=>?_) (fun _=>za ⟨h12,by show (1:Int)≤1;decide,by show (1:Int)≤1100;decide⟩)
     have h:(k:Int) < (x.2.length:Int):=qp h
     refine zg (jv (by show 0≤(k:Int);omega) h fun y hy=>?_)
     obtain ⟨y0,y1⟩:=gx2 y (List.mem_of_getElem? hy)
     have e1:wrF .i64 y=y:=zy (by omega) (by omega)
     have e2:wrF .i64 (4*y)=4*y:=zy (by omega) (by omega)
     have e3:wrF .i64 (1+4*y)=1+4*y:=zy (by omega) (by omega)
     rw [e1,e2,e3]
     exact za ⟨h12,by show 1≤1+4*y;omega,by show 1+4*y≤1100;omega⟩
    rintro ⟨k14,⟨q,⟨⟩⟩,⟨⟩⟩ hq14
    have hq14:zi9 q:=hq14
    refine zf (wC (by show (es.length+1)*16≤_;omega) (by show es.length+1≤_;omega)) (za (qj ⟨es++[q],cy+q.2,?_,by simp [hl],fun e h=>?_,by rw [zxT,hc]⟩))
    ·obtain ⟨_,q0,q1⟩:=hq14
     have e1:wrF .i64 (cy+q.2)=cy+q.2:=zy (by omega) (by omega)
     show (((),(wrF .i64 ((k:Int)+1),())),((es++[q],(wrF .i64 (cy+q.2),())),()))=_
     rw [e1,qv (by omega)]
    ·rcases List.mem_append.1 h with h | h
     ·exact he e h
     ·rw [List.mem_singleton.1 h];exact hq14
   ·rintro _ ⟨es,cy,rfl,hl,he,hc⟩
    exact ze (by show zi (N:Int) (vq 1 (jh ((x.1.length:Nat):Int) 10))=false;rw [eN];exact zJ (by omega)) (za (zu ⟨es,cy,rfl,hl,he,hc⟩))
   rintro ⟨k15,⟨⟨⟩,z15,⟨⟩⟩,E15,⟨⟩⟩ ⟨es,cy,e,hl,he,hc⟩
   have e:E15=(es,(cy,())):=e
   subst e
   have hq:=zmu he
   refine zk (J:=fun x=>x.2.2.1=(es.map m40,(cy,()))) (zX es.length (fun k s=>∃f:List (Int×Int),s=(((),((k:Int),())),((f,(cy,())),()))∧f.length=es.length∧∀j,f[j]?=if j < k then (es[j]?).map m40 else es[j]?) (by omega) ⟨es,rfl,rfl,fun j=>by simp⟩ ?_ ?_) ?_
   ·rintro k _ hk ⟨f,rfl,hf,hj⟩
    have hx2:f[k]?=some es[k]:=by rw [hj k,if_neg (by omega)];exact List.getElem?_eq_getElem hk
    have he2:=he _ (List.getElem_mem hk)
    have hx3:es[k]?=some es[k]:=List.getElem?_eq_getElem hk
    generalize es[k]=v at hx2 he2 hx3
    have hgl:gl f (Int.toNat (k:Int))=some v:=by rw [Int.toNat_natCast,yJ];exact hx2
    refine zf (zZ (by show (k:Int) < (f.length:Int);omega)) ?_
    refine zg (zC (n:=k) hx2 ?_)
    refine zg (qh hgl ?_)
    refine zg (zC (n:=k) hx2 ?_)
    refine zg (qh hgl ?_)
    refine za (qj ⟨f.set k (m40 v),?_,by simp [hf],fun j=>?_⟩)
    ·obtain ⟨_,q0,q1⟩:=he2
     have e1:wrF .i64 (40*v.2)=40*v.2:=zy (by omega) (by omega)
     show (((),(wrF .i64 ((k:Int)+1),())),((f.set (Int.toNat (k:Int)) (v.1,wrF .i64 (40*v.2)),(cy,())),()))=_
     rw [e1,qv (by omega),Int.toNat_natCast];rfl
    ·rw [List.getElem?_set,hj j]
     by_cases h1:k=j
     ·subst h1
      rw [if_pos rfl,if_pos (by omega),if_pos (by omega),hx3];rfl
     ·rw [if_neg h1]
      by_cases h2:j < k
      ·rw [if_pos h2,if_pos (by omega)]
      ·rw [if_neg h2,if_neg (by omega)]
   ·rintro _ ⟨f,rfl,hf,hj⟩
    refine ze (zJ (by show ¬((es.length:Nat):Int) < (f.length:Int);omega)) (za (zu ?_))
    show (f,(cy,()))=_
    congr 1
    refine List.ext_getElem? fun j=>?_
    rw [hj j,List.getElem?_map]
    by_cases h:j < es.length
    ·rw [if_pos h]
    ·rw [if_neg h,List.getElem?_eq_none (by omega)];rfl
   rintro ⟨k21,⟨⟨⟩,z21,⟨⟩⟩,E21,⟨⟩⟩ e
   have e:E21=(es.map m40,(cy,())):=e
   subst e
   have e1:wrF .i64 (40*cy)=40*cy:=zy (by omega) (by omega)
   refine za ⟨rfl,?_⟩
   show qz (es.map m40,wrF .i64 (40*cy))
   rw [e1,hc]
   exact zDx he (by omega) (by omega)
  rintro ⟨k22,⟨d2,z22⟩,⟨es2,cy2,⟨⟩⟩,⟨⟩⟩ ⟨h1,h2⟩
  have h1:d2=d:=h1
  subst h1
  have h2:qz (es2,cy2):=h2
  refine zf (wC (by show (gs.length+1)*32≤_;omega) (by show gs.length+1≤_;omega)) (za (qj ⟨gs++[(es2,cy2)],congrArg (fun z=>((d2,((),(z,()))),((t,(U,(gs++[(es2,cy2)],(most,())))),()))) (qv (by omega)),by simp [hg],fun g h=>?_⟩))
  rcases List.mem_append.1 h with h | h
  ·exact hgs g h
  ·rw [List.mem_singleton.1 h];exact h2
 ·rintro _ ⟨gs,rfl,hg,hgs⟩
  refine ze (zJ (by show ¬((2*t.2.2.length:Nat):Int) < wrF .i64 (2*((t.2.2.length:Nat):Int));rw [e6];omega)) (za (zu ⟨rfl,hu,hg,hgs,rfl⟩))
 rintro ⟨k,z,⟨t2,u2,gs,m2,⟨⟩⟩,⟨⟩⟩ ⟨h1,h2,h3,h4,h5⟩
 have h1:t2=t:=h1
 have h5:m2=most:=h5
 subst h1 h5
 have h3:gs.length=2*t2.2.2.length:=h3
 exact za ⟨⟨ht,h2,h4,by show ((gs.length:Nat):Int)=2*(t2.2.2.length:Int);omega,hm.1,hm.2⟩,hl1⟩
theorem u8w {n:Int} (h:wfT (.int .u8) n):0≤n∧n≤255:=h
theorem zFn {n:Int} (h:wfT (.int .u16) n):0≤n∧n≤65535:=h
theorem u8l {l:List Int} (h:wfT (.list (.int .u8)) l):u8 l:=fun x hx=>u8w (h.2 x hx)
theorem zFA {d:zhV} (h:wfT yR d):drP d where
 t:=⟨u8w h.1.1,u8w h.1.2.1,u8l h.1.2.2.1,u8l h.1.2.2.2.1,u8l h.1.2.2.2.2.1,u8l h.1.2.2.2.2.2⟩
 g:=fun x hx=>⟨u8l (h.2.1.2 x hx).1,u8l (h.2.1.2 x hx).2⟩
 u:=⟨u8w h.2.2.1.1,u8w h.2.2.1.2.1,u8w h.2.2.1.2.2⟩
 cap:=u8w h.2.2.2.1
 most:=zFn h.2.2.2.2.1
 l:=fun x hx=>⟨u8w (h.2.2.2.2.2.1.2 x hx).2.2.1,u8w (h.2.2.2.2.2.1.2 x hx).2.2.2.2.2.1⟩
 ll:=Nat.le_trans (show d.2.2.2.2.2.1.length*10≤reachBytes from h.2.2.2.2.2.1.1.2) (by decide)
theorem zDy:ZI ()=some (true,()):=zpz
theorem zDz {n:Fab} {l:List jj} {p:Int} (h:(zdy n l p).2=0):okP n l∧wm n.1 p∧zdy n l p=Xh n l p:=by
 unfold zdy at h ⊢
 by_cases h1:zi7 n l=0
 ·rw [qf h1,cond_true] at h ⊢
  by_cases h2:wm n.1 p
  ·rw [qf h2,cond_true];exact ⟨zy9 h1,h2,rfl⟩
  ·rw [qu h2,cond_false] at h;cases h
 ·rw [qu h1,cond_false] at h;exact absurd h h1
def kA (l:List (Int×Int)):Int:=l.foldl (fun _ a=>a.1) 0
theorem VH (l:List (Int×Int)) (a:Int×Int):kA (l++[a])=a.1:=by unfold kA;rw [List.foldl_append];rfl
theorem VI {α:Type} {l:List α} {i:Nat} {a:α} (h:l[i]?=some a):l.take (i+1)=l.take i++[a]:=by rw [List.take_add_one,h];rfl
structure trP (l:List (Int×Int)):Prop where
 n:l.length≤200
 e:∀i a,l[i]?=some a→(kA (l.take i)≤a.1∧a.1≤1099511627776)∧(1≤a.2∧a.2≤1048576)
theorem zmU {l:List (Int×Int)} (h:trP l):∀i,i≤l.length→0≤kA (l.take i)∧kA (l.take i)≤1099511627776
 |0,_=>by simp [kA]
 |i+1,hi=>by
  have hx:l[i]?=some l[i]:=List.getElem?_eq_getElem hi
  rw [VI hx,VH]
  have:=zmU h i (by omega)
  have:=h.e i _ hx
  omega
theorem zzd:trP []:=⟨by simp,fun i a h=>by simp at h⟩
theorem ztD {l:List (Int×Int)} (h:trP l) {a:Int×Int} (hn:l.length < 200) (h1:kA l≤a.1) (h2:a.1≤1099511627776) (h3:1≤a.2) (h4:a.2≤1048576):trP (l++[a]):=by
 refine ⟨by simp;omega,fun i b hb=>?_⟩
 rcases Nat.lt_or_ge i l.length with hi | hi
 ·rw [List.getElem?_append_left hi] at hb
  rw [List.take_append_of_le_length (by omega)]
  exact h.e i b hb
 ·have:i=l.length:=by
   have:=(List.getElem?_eq_some_iff.1 hb).1
   simp at this;omega
  subst this
  simp at hb
  subst hb
  rw [List.take_left']
  ·exact ⟨⟨h1,h2⟩,h3,h4⟩
  ·rfl
theorem Gy {l:List (Int×Int)} (h:trP l):wT (l,())=some (0,()):=by
 have hn:=h.n
 rw [zgV];unfold XM
 refine xA (ze (zJ (show ¬200 < (l.length:Int) by omega)) (zk (J:=fun y=>y.1=0) (zX l.length (fun i s=>s=((0,(kA (l.take i),((i:Int),()))),())) (by omega) rfl ?_ ?_) ?_))
 ·rintro i _ hi rfl
  have hx:l[i]?=some l[i]:=List.getElem?_eq_getElem hi
  generalize l[i]=a at hx
  obtain ⟨h1,h2⟩:=h.e i a hx
  refine zf (zZ (show (i:Int) < (l.length:Int) by omega)) (zg (zC (n:=i) hx ?_))
  rw [Yl,Yl,zD,zD,qf h1,qf h2]
  refine zg (ze rfl (ze rfl (za (zf rfl (za (qj ?_))))))
  show ((0,(a.1,(wrF .i64 ((i:Int)+1),()))),())=_
  rw [qv (by omega),VI hx,VH]
 ·rintro _ rfl
  exact ze (zJ (show ¬(l.length:Int) < (l.length:Int) by omega)) (za (zu rfl))
 ·rintro ⟨k,z⟩ g
  have g:k=0:=g
  subst g
  exact zf rfl (za rfl)
def lev (b:Int×Int) (l:List (Int×Int)):Int×Int:=l.foldl (fun s a=>(min (b.1*1048576) (s.1+b.2*(a.1 - s.2)) - a.2*1048576,a.1)) (b.1*1048576,0)
theorem zmV (b:Int×Int) (l:List (Int×Int)) (a:Int×Int):lev b (l++[a])=(min (b.1*1048576) ((lev b l).1+b.2*(a.1 - (lev b l).2)) - a.2*1048576,a.1):=by
 unfold lev;rw [List.foldl_append];rfl
theorem zxU (b:Int×Int) (l:List (Int×Int)):(lev b l).2=kA l:=by
 rcases List.eq_nil_or_concat l with rfl | ⟨l,a,rfl⟩
 ·rfl
 ·rw [List.concat_eq_append,zmV,VH]
def zee (b:Int×Int) (l:List (Int×Int)):Prop:=∀i,i≤l.length→0≤(lev b (l.take i)).1
theorem zEK {b:Int×Int} (hb:jG b) {l:List (Int×Int)} (h:trP l) (i:Nat) (hi:i≤l.length):(lev b (l.take i)).1≤b.1*1048576:=by
 obtain ⟨⟨b1,b2⟩,b3,b4⟩:=hb
 cases i with
 |zero=>simp [lev]
 |succ i=>
  have hx:l[i]?=some l[i]:=List.getElem?_eq_getElem hi
  have:=h.e i _ hx
  rw [VI hx,zmV]
  show min (b.1*1048576) _ - _≤_
  omega
theorem zpN {b:Int×Int} (hb:jG b) {l:List (Int×Int)} (h:trP l):qm (Qb (b,l,())) fun r=>zi r.1 0=tv (zee b l):=by
 have hn:=h.n
 have hb0:=hb
 obtain ⟨⟨b1,b2⟩,b3,b4⟩:=hb0
 have ef:wrF .i64 (b.1*1048576)=b.1*1048576:=zy (by omega) (by omega)
 rw [znu];unfold zbX
 rw [ef]
 refine zk (J:=fun y=>(y.1=0∧zee b l)∨(y.1=3∧0≤y.2.1.1∧¬zee b l)) (zX l.length (fun i s=>s=((0,((lev b (l.take i)).1,((lev b (l.take i)).2,((i:Int),())))),((),((),())))∧∀j,j≤i→0≤(lev b (l.take j)).1) (by omega) ⟨rfl,fun j hj=>?_⟩ ?_ ?_) ?_
 ·have:j=0:=by omega
  subst this
  show (0:Int)≤b.1*1048576
  omega
 ·rintro i _ hi ⟨rfl,hq⟩
  have hx:l[i]?=some l[i]:=List.getElem?_eq_getElem hi
  generalize l[i]=a at hx
  obtain ⟨⟨h1,h2⟩,h3,h4⟩:=h.e i a hx
  have hl:=zxU b (l.take i)
  obtain ⟨l0,l1⟩:=zmU h i (by omega)
  have ht:=zEK hb h i (by omega)
  have h0:=hq i (Nat.le_refl i)
  have hs:=zmV b (l.take i) a
  rw [←VI hx] at hs
  refine zf (zZ (show (i:Int) < (l.length:Int) by omega)) (zg (zC (n:=i) hx ?_))
  generalize lev b (l.take i)=v at hl ht h0 hs ⊢
  obtain ⟨v1,v2⟩:=v
  simp only at hl ht h0 hs ⊢
  subst hl
  generalize kA (l.take i)=v2 at *
  have m0:0≤b.2*(a.1 - v2):=Int.mul_nonneg (by omega) (by omega)
  have m1:b.2*(a.1 - v2)≤2097152*1099511627776:=Int.mul_le_mul (by omega) (by omega) (by omega) (by omega)
  have e1:wrF .i64 (a.1 - v2)=a.1 - v2:=zy (by omega) (by omega)
  rw [e1]
  generalize b.2*(a.1 - v2)=m at *
  have e2:wrF .i64 m=m:=zy (by omega) (by omega)
  have e3:wrF .i64 (v1+m)=v1+m:=zy (by omega) (by omega)
  have e4:wrF .i64 (a.2*1048576)=a.2*1048576:=zy (by omega) (by omega)
  have e5:wrF .i64 (min (b.1*1048576) (v1+m) - a.2*1048576)=min (b.1*1048576) (v1+m) - a.2*1048576:=zy (by omega) (by omega)
  rw [e2,e3,e4,WM,e5]
  refine zj (fun hc=>za (zu (.inr ⟨rfl,by show (0:Int)≤(i:Int);omega,fun hp=>?_⟩))) (fun hc=>za (qj ⟨?_,fun j hj=>?_⟩))
  ·have:=qp hc
   have h9:=hp (i+1) (by omega)
   rw [hs] at h9
   exact absurd h9 (by show ¬(0≤min (b.1*1048576) (v1+m) - a.2*1048576);omega)
  ·rw [qv (by omega),hs]
  ·have:=qG hc
   rcases Nat.lt_or_ge j (i+1) with hj2 | hj2
   ·exact hq j (by omega)
   ·have:j=i+1:=by omega
    subst this
    rw [hs]
    show 0≤min (b.1*1048576) (v1+m) - a.2*1048576
    omega
 ·rintro _ ⟨rfl,hq⟩
  exact ze (zJ (show ¬(l.length:Int) < (l.length:Int) by omega)) (za (zu (.inl ⟨rfl,fun i hi=>hq i hi⟩)))
 ·rintro ⟨k,⟨z,w⟩,q⟩ (⟨g1,g2⟩ | ⟨g1,g2,g3⟩)
  ·have g1:k=0:=g1
   subst g1
   refine zf rfl (za ?_)
   rw [qf g2];rfl
  ·have g1:k=3:=g1
   subst g1
   refine ze rfl (ze rfl (ze rfl (za ?_)))
   rw [qu g3]
   exact zJ (show ¬z < 0 from fun hz=>absurd g2 (by show ¬0≤z;omega))
theorem zkp {b:Int×Int} (hb:jG b) {l:List (Int×Int)} (h:trP l):xz (b,l,())=some (tv (zee b l),0,()):=by
 have hc:Qa (b,l,())=some (0,()):=by
  rw [zns];unfold zbU
  rw [gL,qf hb,zD]
  refine xA (ze rfl ?_)
  rw [Gy h]
  exact za rfl
 rw [zi2];unfold Kw
 rw [hc,zD]
 obtain ⟨⟨r,⟨⟩⟩,er,hr⟩:=zpN hb h
 rw [er,zD]
 have hr:zi r 0=tv (zee b l):=hr
 show some (zi r 0,(0,()))=_
 rw [hr]
def gY (r:Int) (l:List (Int×Int)):Int:=l.foldl (fun e a=>max e (a.1*r)+a.2*1048576) 0
theorem zpO (r:Int) (l:List (Int×Int)) (a:Int×Int):gY r (l++[a])=max (gY r l) (a.1*r)+a.2*1048576:=by
 unfold gY;rw [List.foldl_append];rfl
theorem ztE {r:Int} (h1:1≤r) (h2:r≤2097152) {l:List (Int×Int)} (h:trP l):∀i,i≤l.length→0≤gY r (l.take i)∧gY r (l.take i)≤kA (l.take i)*r+i*1099511627776
 |0,_=>by simp [gY,kA]
 |i+1,hi=>by
  have hx:l[i]?=some l[i]:=List.getElem?_eq_getElem hi
  rw [VI hx,VH,zpO]
  obtain ⟨g1,g2⟩:=ztE h1 h2 h i (by omega)
  obtain ⟨⟨g3,g4⟩,g5,g6⟩:=h.e i _ hx
  have:=Int.mul_le_mul_of_nonneg_right g3 (show 0≤r by omega)
  omega
theorem zmv (a x:Int):gK (a,[x],())=some (max a x,()):=by
 rw [zkk];unfold Ga
 refine xA (zk (J:=fun y=>y.2.1.1=max a x) (zX 1 (fun i s=>s=((if i=0 then a else max a x,((i:Int),())),())) (by omega) rfl ?_ ?_) ?_)
 ·rintro i _ hi rfl
  have:i=0:=by omega
  subst this
  refine zf rfl (zg (zC (n:=0) (l:=[x]) (x:=x) rfl (za (qj ?_))))
  rw [ZV];rfl
 ·rintro _ rfl
  exact ze rfl (za (zu rfl))
 ·rintro ⟨k,⟨z,w⟩,q⟩ g
  exact za g
theorem zrZ {s:Int×Int} (hs:Yo s) {l:List (Int×Int)} (h:trP l):qm (Jz (l,s,())) fun y=>y.2.1=0∧y.1.length=l.length∧∀i,i < l.length→y.1[i]?=some (s.2+cl s.1 (gY s.1 (l.take (i+1)))):=by
 have hn:=h.n
 obtain ⟨s1,s2,s3,s4⟩:=hs
 rw [zpC];unfold zdt
 rw [Gy h,zD,zaY ⟨s1,s2,s3,s4⟩,zD]
 refine ze rfl (ze rfl (zf (zhn (by omega) (by omega) (by omega)) ?_))
 refine zk (J:=fun y=>y.2.2.1.length=l.length∧∀i,i < l.length→y.2.2.1[i]?=some (s.2+cl s.1 (gY s.1 (l.take (i+1))))) (zX l.length (fun i st=>∃d:List Int,st=((gY s.1 (l.take i),((i:Int),())),(d,()))∧d.length=i∧∀j,j < i→d[j]?=some (s.2+cl s.1 (gY s.1 (l.take (j+1))))) (by omega) ⟨[],rfl,rfl,fun j hj=>by omega⟩ ?_ ?_) ?_
 ·rintro i _ hi ⟨d,rfl,hd,hq⟩
  have hx:l[i]?=some l[i]:=List.getElem?_eq_getElem hi
  generalize l[i]=a at hx
  obtain ⟨⟨h1,h2⟩,h3,h4⟩:=h.e i a hx
  obtain ⟨l0,l1⟩:=zmU h i (by omega)
  obtain ⟨g1,g2⟩:=ztE s1 s2 h i (by omega)
  obtain ⟨g3,g4⟩:=ztE s1 s2 h (i+1) (by omega)
  have he:=zpO s.1 (l.take i) a
  rw [←VI hx] at he
  have hla:kA (l.take (i+1))=a.1:=by rw [VI hx,VH]
  rw [hla] at g4
  have m1:a.1*s.1≤1099511627776*2097152:=Int.mul_le_mul (by omega) (by omega) (by omega) (by omega)
  have m0:0≤a.1*s.1:=Int.mul_nonneg (by omega) (by omega)
  have m2:kA (l.take i)*s.1≤1099511627776*2097152:=Int.mul_le_mul (by omega) (by omega) (by omega) (by omega)
  refine zf (zZ (show (i:Int) < (l.length:Int) by omega)) (zg (zC (n:=i) hx ?_))
  have e1:wrF .i64 (a.1*s.1)=a.1*s.1:=zy (by omega) (by omega)
  rw [e1,zmv,zD]
  refine ze (jS (show s.1≠0 by omega)) ?_
  have e2:wrF .i64 (a.2*1048576)=a.2*1048576:=zy (by omega) (by omega)
  have e3:wrF .i64 (max (gY s.1 (l.take i)) (a.1*s.1)+a.2*1048576)=gY s.1 (l.take (i+1)):=by rw [he];exact zy (by omega) (by omega)
  show qm (bif qE _ ([wrF .i64 (s.2+wrF .i64 (Int.tdiv (wrF .i64 (wrF .i64 (wrF .i64 (max (gY s.1 (l.take i)) (a.1*s.1)+wrF .i64 (a.2*1048576))+s.1) - 1)) s.1))].length) 8 then some (Sum.inr ((wrF .i64 (max (gY s.1 (l.take i)) (a.1*s.1)+wrF .i64 (a.2*1048576)),(wrF .i64 ((i:Int)+1),())),(d++[wrF .i64 (s.2+wrF .i64 (Int.tdiv (wrF .i64 (wrF .i64 (wrF .i64 (max (gY s.1 (l.take i)) (a.1*s.1)+wrF .i64 (a.2*1048576))+s.1) - 1)) s.1))],()))) else none) _
  rw [e2,e3]
  generalize hee:gY s.1 (l.take (i+1))=e at *
  have e4:wrF .i64 (e+s.1)=e+s.1:=zy (by omega) (by omega)
  have e5:wrF .i64 (e+s.1 - 1)=e+s.1 - 1:=zy (by omega) (by omega)
  rw [e4,e5,Int.tdiv_eq_ediv_of_nonneg (by omega)]
  have c0:0≤(e+s.1 - 1) / s.1:=Int.ediv_nonneg (by omega) (by omega)
  have c1:(e+s.1 - 1) / s.1≤e+s.1 - 1:=Int.ediv_le_self _ (by omega)
  have e6:wrF .i64 ((e+s.1 - 1) / s.1)=(e+s.1 - 1) / s.1:=zy (by omega) (by omega)
  have e7:wrF .i64 (s.2+(e+s.1 - 1) / s.1)=s.2+cl s.1 e:=zy (by omega) (by omega)
  rw [e6,e7]
  refine zf (wC (by show (d.length+1)*8≤_;omega) (by show d.length+1≤_;omega)) (za (qj ⟨_,congrArg (fun z=>((e,(z,())),(_,()))) (qv (by omega)),by simp [hd],fun j hj=>?_⟩))
  rcases Nat.lt_or_ge j i with hj2 | hj2
  ·rw [List.getElem?_append_left (by omega)];exact hq j hj2
  ·have:j=i:=by omega
   rw [this,List.getElem?_append_right (by omega),hd,hee]
   simp
 ·rintro _ ⟨d,rfl,hd,hq⟩
  exact ze (zJ (show ¬(l.length:Int) < (l.length:Int) by omega)) (za (zu ⟨hd,hq⟩))
 ·rintro ⟨k,z,d,⟨⟩⟩ ⟨g1,g2⟩
  exact za ⟨rfl,g1,g2⟩
abbrev bkt (s:jj):Int×Int:=s.2.2.2.2.2.2.1
def zpP (s:jj) (o:List (Int×Int)) (now:Int):Int:=max 0 ((bkt s).1*1048576 - (lev (bkt s) o).1 - (bkt s).2*(now - (lev (bkt s) o).2))
def pot:List jj→List (List (Int×Int))→Int→Int
 |s::ls,o::os,now=>zpP s o now+pot ls os now
 |_,_,_=>0
def Uv (l:List jj):Int:=(l.map fun s=>(bkt s).2).sum
def Yq (l:List jj):Int:=(l.map fun s=>(bkt s).1).sum
theorem zAC:∀(ls:List jj) (os:List (List (Int×Int))) (now:Int),0≤pot ls os now
 |[],_,_=>by simp [pot]
 |_::_,[],_=>by simp [pot]
 |s::ls,o::os,now=>by
  have:=zAC ls os now
  unfold pot zpP
  omega
theorem zze:∀{ls:List jj},(∀s∈ls,0≤(bkt s).2)→0≤Uv ls
 |[],_=>by simp [Uv]
 |s::ls,h=>by
  have h1:=h s (by simp)
  have h2:=zze (ls:=ls) fun x hx=>h x (by simp [hx])
  unfold Uv at *
  simp only [List.map_cons,List.sum_cons]
  omega
theorem zxV:∀{ls:List jj},(∀s∈ls,0≤(bkt s).1)→0≤Yq ls
 |[],_=>by simp [Yq]
 |s::ls,h=>by
  have h1:=h s (by simp)
  have h2:=zxV (ls:=ls) fun x hx=>h x (by simp [hx])
  unfold Yq at *
  simp only [List.map_cons,List.sum_cons]
  omega
theorem zzf:∀{ls:List jj} (os:List (List (Int×Int))) {now w:Int},(∀s∈ls,0≤(bkt s).2)→0≤w→pot ls os now≤pot ls os (now+w)+Uv ls*w
 |[],_,_,_,_,_=>by simp [pot,Uv]
 |s::ls,[],now,w,h,hw=>by
  have h2:=Int.mul_nonneg (zze h) hw
  simp only [pot];omega
 |s::ls,o::os,now,w,h,hw=>by
  have h1:=h s (by simp)
  have h2:=zzf (ls:=ls) os (now:=now) (fun x hx=>h x (by simp [hx])) hw
  have e1:Uv (s::ls)*w=(bkt s).2*w+Uv ls*w:=by
   unfold Uv;simp only [List.map_cons,List.sum_cons];exact Int.add_mul _ _ _
  have h3:=Int.mul_nonneg h1 hw
  have e2:(bkt s).2*(now+w - (lev (bkt s) o).2)=(bkt s).2*(now - (lev (bkt s) o).2)+(bkt s).2*w:=by
   rw [←Int.mul_add];congr 1;omega
  rw [e1]
  unfold pot zpP
  rw [e2]
  omega
theorem zDA (s:jj) (o:List (Int×Int)) {now z:Int} (hz:0≤z):zpP s (o++[(now,z)]) now=zpP s o now+z*1048576:=by
 unfold zpP
 rw [zmV]
 show max 0 ((bkt s).1*1048576 - (min ((bkt s).1*1048576) ((lev (bkt s) o).1+(bkt s).2*(now - (lev (bkt s) o).2)) - z*1048576) - (bkt s).2*(now - now))=_
 rw [Int.sub_self,Int.mul_zero]
 omega
theorem zzg:∀{ls:List jj} {os:List (List (Int×Int))} {k:Nat} {s:jj} {o:List (Int×Int)} {now z:Int},ls[k]?=some s→os[k]?=some o→0≤z→pot ls (os.set k (o++[(now,z)])) now=pot ls os now+z*1048576
 |[],_,_,_,_,_,_,h,_,_=>by simp at h
 |_::_,[],_,_,_,_,_,_,h,_=>by simp at h
 |s'::ls,o'::os,0,s,o,now,z,h1,h2,hz=>by
  simp only [List.getElem?_cons_zero,Option.some.injEq] at h1 h2
  subst h1 h2
  rw [List.set_cons_zero]
  unfold pot
  rw [zDA _ _ hz]
  omega
 |s'::ls,o'::os,k+1,s,o,now,z,h1,h2,hz=>by
  rw [List.getElem?_cons_succ] at h1 h2
  rw [List.set_cons_succ]
  unfold pot
  rw [zzg h1 h2 hz]
  omega
theorem zzh:∀{ls:List jj} {os:List (List (Int×Int))} {now:Int},(∀s∈ls,0≤(bkt s).1∧0≤(bkt s).2)→(∀(k:Nat) (s:jj) o,ls[k]?=some s→os[k]?=some o→kA o≤now∧0≤(lev (bkt s) o).1)→pot ls os now≤Yq ls*1048576
 |[],_,_,_,_=>by simp [pot,Yq]
 |s::ls,[],_,h,_=>by
  have:=zxV fun x hx=>(h x hx).1
  simp only [pot];omega
 |s::ls,o::os,now,h,hc=>by
  have h1:=h s (by simp)
  obtain ⟨c1,c2⟩:=hc 0 s o rfl rfl
  have h2:=zzh (ls:=ls) (os:=os) (now:=now) (fun x hx=>h x (by simp [hx])) fun k s o a b=>hc (k+1) s o (by rw [List.getElem?_cons_succ];exact a) (by rw [List.getElem?_cons_succ];exact b)
  have e1:Yq (s::ls)=(bkt s).1+Yq ls:=by unfold Yq;simp only [List.map_cons,List.sum_cons]
  rw [←zxU (bkt s)] at c1
  have h3:0≤(bkt s).2*(now - (lev (bkt s) o).2):=Int.mul_nonneg h1.2 (by omega)
  rw [e1,Int.add_mul]
  unfold pot zpP
  omega
structure dI (R BU:Int) (ld:List jj) (own:List (List (Int×Int))) (all:List (Int×Int)) (now:Int) (i:Nat):Prop where
 n0:0≤now
 n1:now≤i*65535
 ol:own.length=ld.length
 o:∀(k:Nat) (s:jj) o,ld[k]?=some s→own[k]?=some o→trP o∧kA o≤now∧o.length≤i∧zee (bkt s) o
 a:trP all
 al:kA all≤now
 an:all.length≤i
 p:gY R all≤now*R+pot ld own now
 e:∀(j:Nat) a,all[j]?=some a→gY R (all.take (j+1))≤a.1*R+BU
theorem zEL {R BU:Int} {ld:List jj} {own:List (List (Int×Int))} {all:List (Int×Int)} {now now':Int} {i:Nat} (h:dI R BU ld own all now i) (hr:∀s∈ld,0≤(bkt s).2) (hR:Uv ld≤R) (h1:now≤now') (h2:now'≤now+65535):dI R BU ld own all now' (i+1) where
 n0:=by have:=h.n0;omega
 n1:=by have:=h.n1;omega
 ol:=h.ol
 o
  :=fun k s o a b=>by
  obtain ⟨g1,g2,g3,g4⟩:=h.o k s o a b
  exact ⟨g1,by omega,by omega,g4⟩
 a:=h.a
 al:=by have:=h.al;omega
 an:=by have:=h.an;omega
 p
  :=by
  obtain ⟨w,rfl⟩:∃w,now'=now+w:=⟨now' - now,by omega⟩
  have h3:=zzf own (now:=now) (w:=w) hr (by omega)
  have h4:=h.p
  have h5:=Int.mul_le_mul_of_nonneg_right hR (show 0≤w by omega)
  rw [Int.add_mul,Int.mul_comm w R]
  omega
 e:=h.e
theorem zFo {R BU:Int} {ld:List jj} {own:List (List (Int×Int))} {all:List (Int×Int)} {now z:Int} {i k:Nat} {s:jj} {o:List (Int×Int)} (h:dI R BU ld own all now (i+1)) (hi:i < 40) (hb:∀s∈ld,0≤(bkt s).1∧0≤(bkt s).2) (hB:Yq ld*1048576=BU) (hs:ld[k]?=some s) (ho:own[k]?=some o) (hol:o.length≤i) (hal:all.length≤i) (z1:1≤z) (z2:z≤1048576) (hc:zee (bkt s) (o++[(now,z)])):dI R BU ld (own.set k (o++[(now,z)])) (all++[(now,z)]) now (i+1):=by
 have n0:=h.n0
 have n1:=h.n1
 obtain ⟨g1,g2,g3,g4⟩:=h.o k s o hs ho
 have hO:∀(k':Nat) (s':jj) o',ld[k']?=some s'→(own.set k (o++[(now,z)]))[k']?=some o'→trP o'∧kA o'≤now∧o'.length≤i+1∧zee (bkt s') o':=by
  intro k' s' o' a b
  by_cases hk:k=k'
  ·subst hk
   rw [List.getElem?_set_self (List.getElem?_eq_some_iff.1 ho).1] at b
   cases b
   rw [hs] at a
   cases a
   exact ⟨ztD g1 (by omega) g2 (by omega) z1 z2,by rw [VH];exact Int.le_refl _,by simp;omega,hc⟩
  ·rw [List.getElem?_set_ne hk] at b
   exact h.o k' s' o' a b
 have hp:gY R (all++[(now,z)])≤now*R+pot ld (own.set k (o++[(now,z)])) now:=by
  rw [zzg hs ho (by omega),zpO]
  have h1:=h.p
  have h2:=zAC ld own now
  show max (gY R all) (now*R)+z*1048576≤_
  omega
 have ht:pot ld (own.set k (o++[(now,z)])) now≤Yq ld*1048576:=zzh hb fun k' s' o' a b=>by
  obtain ⟨q1,q2,q3,q4⟩:=hO k' s' o' a b
  have:=q4 o'.length (Nat.le_refl _)
  rw [List.take_length] at this
  exact ⟨q2,this⟩
 exact ⟨n0,n1,by rw [List.length_set];exact h.ol,hO,ztD h.a (by omega) h.al (by omega) z1 z2,by rw [VH];exact Int.le_refl _,by simp;omega,hp,fun j a ha=>by
  rcases Nat.lt_or_ge j all.length with hj | hj
  ·rw [List.getElem?_append_left hj] at ha
   rw [List.take_append_of_le_length (by omega)]
   exact h.e j a ha
  ·have:j=all.length:=by
    have:=(List.getElem?_eq_some_iff.1 ha).1
    simp at this;omega
   subst this
   simp at ha
   subst ha
   rw [List.take_of_length_le (by simp)]
   show _≤now*R+BU
   omega⟩
theorem zFp {d l w:Int} (hd:0 < d):cl d (l*d+w)=l+cl d w:=by
 unfold cl
 rw [show l*d+w+d - 1=(w+d - 1)+l*d by omega,Int.add_mul_ediv_right _ _ (by omega)]
 omega
theorem zEM {n:Fab} {l:List jj} {p:Int} (h:(zdy n l p).2≠0):(zdy n l p).1=zB:=by
 unfold zdy at h ⊢
 by_cases h1:zi7 n l=0
 ·rw [qf h1,cond_true] at h ⊢
  by_cases h2:wm n.1 p
  ·rw [qf h2,cond_true] at h ⊢
   rcases zrV (zy9 h1) h2 with ⟨b,v,e,_⟩ | ⟨e,_⟩
   ·rw [e] at h;exact absurd rfl h
   ·exact e
  ·rw [qu h2];rfl
 ·rw [qu h1];rfl
theorem zyy {R BU:Int} {ld:List jj} (h1:0 < ld.length) (h12:ld.length≤12) (hR:Uv ld≤R) (hB0:Yq ld*1048576=BU) (hz:∀s∈ld,(84≤s.2.2.2.2.1∧s.2.2.2.2.1≤1542)∧jG (bkt s)) {a2 a3 a4:List Int} (q2:∀x∈a2,0≤x∧x≤255) (q3:∀x∈a3,0≤x∧x≤65535) (q4:∀x∈a4,0≤x∧x≤255)
  {B:((Int×(Bool×(Int×Unit)))×((List (List (Int×Int)))×((List (Int×Int))×Unit)))→Option ((Nat×((Int×(Bool×(Int×Unit)))×((List (List (Int×Int)))×((List (Int×Int))×Unit)))) ⊕ ((Int×(Bool×(Int×Unit)))×((List (List (Int×Int)))×((List (Int×Int))×Unit))))} (hB:B=fun s10:((Int×(Bool×(Int×Unit)))×((List (List (Int×Int)))×((List (Int×Int))×Unit)))=>
 bif (zi (s10.1.2.2.1) ((((a2).length:Nat):Int))) then bif (zi (s10.1.2.2.1) (40)) then opt (bif (zi (s10.1.2.2.1) ((((a3).length:Nat):Int))) then opt (atI (a3) (s10.1.2.2.1)) fun x11=>
 some (0,(((wrF .i64 ((s10.1.1+(wrF .i64 (x11))))),()),()))
 else some (0,((s10.1.1,()),()))) fun x12=>
 opt (atI (a2) (s10.1.2.2.1)) fun x13=>
 bif (zo ((((ld).length:Nat):Int)) (0)) then none
 else opt (atI (ld) ((Int.tmod (wrF .i64 (x13)) (((ld).length:Nat):Int)))) fun x14=>
 opt (gl (ld) ((Int.toNat (Int.tmod (wrF .i64 (x13)) (((ld).length:Nat):Int))))) fun x15=>
 opt (bif (zi (s10.1.2.2.1) ((((a4).length:Nat):Int))) then opt (atI (a4) (s10.1.2.2.1)) fun x16=>
 opt (atI (ld) ((Int.tmod (wrF .i64 (x13)) (((ld).length:Nat):Int)))) fun x17=>
 opt (gl (ld) ((Int.toNat (Int.tmod (wrF .i64 (x13)) (((ld).length:Nat):Int))))) fun x18=>
 bif (zo ((wrF .i64 (((wrF .i64 ((x18.2.2.2.2.1 - 84)))+1)))) (0)) then none
 else some (0,(((x12.2.1.1,(wrF .i64 ((84+(Int.tmod (wrF .i64 (x16)) (wrF .i64 (((wrF .i64 ((x18.2.2.2.2.1 - 84)))+1)))))))),()),()))
 else some (0,(((x12.2.1.1,x15.2.2.2.2.1),()),()))) fun x19=>
 opt (atI (s10.2.1) ((Int.tmod (wrF .i64 (x13)) (((ld).length:Nat):Int)))) fun x20=>
 opt (gl (s10.2.1) ((Int.toNat (Int.tmod (wrF .i64 (x13)) (((ld).length:Nat):Int))))) fun x21=>
 bif (qE (0) ((x21).length) (16)) then bif (qE ((x21).length) (((x19.2.1.1::[])).length) (16)) then opt (atI (ld) ((Int.tmod (wrF .i64 (x13)) (((ld).length:Nat):Int)))) fun x22=>
 opt (gl (ld) ((Int.toNat (Int.tmod (wrF .i64 (x13)) (((ld).length:Nat):Int))))) fun x23=>
 opt (xz ((x23.2.2.2.2.2.2.1,((x21++(x19.2.1.1::[])),())))) fun x24=>
 bif (!(zo (x24.2.1) (0))) then some (.inl (1,((x12.2.1.1,(false,(s10.1.2.2.1,()))),(s10.2.1,(s10.2.2.1,())))))
 else bif x24.1 then opt (atI (s10.2.1) ((Int.tmod (wrF .i64 (x13)) (((ld).length:Nat):Int)))) fun x25=>
 opt (gl (s10.2.1) ((Int.toNat (Int.tmod (wrF .i64 (x13)) (((ld).length:Nat):Int))))) fun x26=>
 bif (qE ((s10.2.2.1).length) (((x19.2.1.1::[])).length) (16)) then some (.inr ((x12.2.1.1,(s10.1.2.1,((wrF .i64 ((s10.1.2.2.1+1))),()))),(((s10.2.1).set ((Int.toNat (Int.tmod (wrF .i64 (x13)) (((ld).length:Nat):Int)))) ((x21++(x19.2.1.1::[])))),((s10.2.2.1++(x19.2.1.1::[])),()))))
 else none
 else some (.inr ((x12.2.1.1,(s10.1.2.1,((wrF .i64 ((s10.1.2.2.1+1))),()))),(s10.2.1,(s10.2.2.1,()))))
 else none
 else none
 else some (.inl (0,((s10.1.1,(s10.1.2.1,(s10.1.2.2.1,()))),(s10.2.1,(s10.2.2.1,())))))
 else some (.inl (0,((s10.1.1,(s10.1.2.1,(s10.1.2.2.1,()))),(s10.2.1,(s10.2.2.1,())))))) :
  qm (zI B zQ ((0,(false,(0,()))),((List.replicate ((Int.toNat (((ld).length:Nat):Int))) ([])),([],())))) fun y=>y.1=0∧trP y.2.2.2.1∧y.2.2.2.1.length≤40∧∀(j:Nat) a,y.2.2.2.1[j]?=some a→gY R (y.2.2.2.1.take (j+1))≤a.1*R+BU:=by
 subst hB
 have hb:∀s∈ld,0≤(bkt s).1∧0≤(bkt s).2:=fun s hs=>by
  obtain ⟨_,⟨g1,g2⟩,g3,g4⟩:=hz s hs
  omega
 have hrs:∀s∈ld,0≤(bkt s).2:=fun s hs=>(hb s hs).2
 have hRl:(0:Int) < ld.length:=by omega
 refine zX (min a2.length 40) (fun i st=>∃now own all,st=((now,(false,((i:Int),()))),(own,(all,())))∧dI R BU ld own all now i) (by omega) ⟨0,List.replicate ld.length [],[],rfl,?_⟩ ?_ ?_
 ·refine ⟨by omega,by omega,by simp,fun k s o a b=>?_,zzd,by simp [kA],by simp,?_,fun j a ha=>by simp at ha⟩
  ·rw [List.getElem?_replicate] at b
   split at b
   ·cases b
    refine ⟨zzd,by simp [kA],by simp,fun i hi=>?_⟩
    have:i=0:=by simpa using hi
    subst this
    have:=(hb s (List.mem_of_getElem? a)).1
    show (0:Int)≤(bkt s).1*1048576
    omega
   ·cases b
  ·have:=zAC ld (List.replicate ld.length []) 0
   show (0:Int)≤0*R+_
   omega
 ·rintro i _ hi ⟨now,own,all,rfl,hd⟩
  have hi2:i < a2.length:=by omega
  have hi40:i < 40:=by omega
  refine zf (zZ (show (i:Int) < (a2.length:Int) by omega)) (zf (zZ (show (i:Int) < 40 by omega)) ?_)
  have n0:=hd.n0
  have n1:=hd.n1
  refine zk (J:=fun y=>now≤y.2.1.1∧y.2.1.1≤now+65535) (zj (fun h=>?_) (fun h=>za ⟨by show now≤now;omega,by show now≤now+65535;omega⟩)) ?_
  ·have h:(i:Int) < (a3.length:Int):=qp h
   have hi3:i < a3.length:=by omega
   have hx:a3[i]?=some a3[i]:=List.getElem?_eq_getElem hi3
   obtain ⟨x0,x1⟩:=q3 _ (List.getElem_mem hi3)
   refine zg (zC (n:=i) hx (za ?_))
   generalize a3[i]=x at x0 x1
   show now≤wrF .i64 (now+wrF .i64 x)∧wrF .i64 (now+wrF .i64 x)≤now+65535
   rw [zy (z:=x) (by omega) (by omega),zy (by omega) (by omega)]
   omega
  rintro ⟨k0,⟨now',⟨⟩⟩,⟨⟩⟩ ⟨w1,w2⟩
  have w1:now≤now':=w1
  have w2:now'≤now+65535:=w2
  have hd':=zEL hd hrs hR w1 w2
  have hx2:a2[i]?=some a2[i]:=List.getElem?_eq_getElem hi2
  obtain ⟨x0,x1⟩:=q2 _ (List.getElem_mem hi2)
  refine zg (zC (n:=i) hx2 ?_)
  generalize a2[i]=x at x0 x1
  refine ze (jS (show (ld.length:Int)≠0 by omega)) ?_
  have e0:wrF .i64 x=x:=zy (by omega) (by omega)
  have m0:=Int.emod_nonneg x (show (ld.length:Int)≠0 by omega)
  have m1:=Int.emod_lt_of_pos x hRl
  rw [e0,Int.tmod_eq_emod_of_nonneg x0]
  obtain ⟨k,hk⟩:=Int.eq_ofNat_of_zero_le m0
  have hk:x % (ld.length:Int)=(k:Int):=hk
  rw [hk,Int.toNat_natCast]
  have hkl:k < ld.length:=by omega
  have hs:ld[k]?=some ld[k]:=List.getElem?_eq_getElem hkl
  obtain ⟨⟨z0,z1⟩,zb⟩:=hz _ (List.getElem_mem hkl)
  generalize ld[k]=s at hs z0 z1 zb
  have hgs:gl ld k=some s:=by rw [yJ,hs]
  have hko:k < own.length:=by have:=hd.ol;omega
  have ho:own[k]?=some own[k]:=List.getElem?_eq_getElem hko
  generalize own[k]=o at ho
  have hgo:gl own k=some o:=by rw [yJ,ho]
  obtain ⟨t1,t2,t3,t4⟩:=hd.o k s o hs ho
  have hal:=hd.an
  refine zg (zC (n:=k) hs (zg (qh hgs ?_)))
  refine zk (J:=fun y=>∃z,y.2.1.1=(now',z)∧84≤z∧z≤1542) (zj (fun h=>?_) (fun h=>za ⟨_,rfl,z0,z1⟩)) ?_
  ·have h:(i:Int) < (a4.length:Int):=qp h
   have hi4:i < a4.length:=by omega
   have hx4:a4[i]?=some a4[i]:=List.getElem?_eq_getElem hi4
   obtain ⟨y0,y1⟩:=q4 _ (List.getElem_mem hi4)
   refine zg (zC (n:=i) hx4 (zg (zC (n:=k) hs (zg (qh hgs ?_)))))
   generalize a4[i]=y at y0 y1
   have e1:wrF .i64 (s.2.2.2.2.1 - 84)=s.2.2.2.2.1 - 84:=zy (by omega) (by omega)
   have e2:wrF .i64 (s.2.2.2.2.1 - 84+1)=s.2.2.2.2.1 - 83:=by rw [zy]<;>omega
   have e3:wrF .i64 y=y:=zy (by omega) (by omega)
   rw [e1,e2,e3,Int.tmod_eq_emod_of_nonneg y0]
   have r0:=Int.emod_nonneg y (show s.2.2.2.2.1 - 83≠0 by omega)
   have r1:=Int.emod_lt_of_pos y (show 0 < s.2.2.2.2.1 - 83 by omega)
   refine ze (jS (by omega)) (za ⟨_,rfl,?_,?_⟩)
   ·rw [zy]<;>omega
   ·rw [zy]<;>omega
  rintro ⟨k1,⟨zz,⟨⟩⟩,⟨⟩⟩ ⟨z,hzz,zl,zh⟩
  have hzz:zz=(now',z):=hzz
  subst hzz
  refine zg (zC (n:=k) ho (zg (qh hgo ?_)))
  refine zf (wC (by omega) (by omega)) (zf (wC (by show (o.length+1)*16≤_;omega) (by show o.length+1≤_;omega)) ?_)
  refine zg (zC (n:=k) hs (zg (qh hgs ?_)))
  have htr:trP (o++[(now',z)]):=ztD t1 (by omega) (by show kA o≤now';omega) (by show now'≤_;omega) (by show 1≤z;omega) (by show z≤_;omega)
  rw [show xz (s.2.2.2.2.2.2.1,o++[(now',z)],())=_ from zkp zb htr,zD]
  refine ze rfl (zj (fun h=>?_) (fun h=>?_))
  ·have hc:zee (bkt s) (o++[(now',z)]):=zqv.1 h
   refine zg (zC (n:=k) ho (zg (qh hgo ?_)))
   refine zf (wC (by show (all.length+1)*16≤_;omega) (by show all.length+1≤_;omega)) (za (qj ⟨now',_,_,congrArg (fun q=>((now',(false,(q,()))),(_,(_,())))) (qv (by omega)),zFo hd' hi40 hb hB0 hs ho t3 hal (by omega) (by omega) hc⟩))
  ·exact za (qj ⟨now',own,all,congrArg (fun q=>((now',(false,(q,()))),(own,(all,())))) (qv (by omega)),hd'⟩)
 ·rintro _ ⟨now,own,all,rfl,hd⟩
  have hal:=hd.an
  have hq:((0:Nat)=0∧trP all∧all.length≤40∧∀(j:Nat) a,all[j]?=some a→gY R (all.take (j+1))≤a.1*R+BU):=⟨rfl,hd.a,by omega,hd.e⟩
  refine zj (fun h=>?_) (fun h=>za (zu hq))
  have h:((min a2.length 40:Nat):Int) < (a2.length:Int):=qp h
  exact ze (zJ (show ¬((min a2.length 40:Nat):Int) < 40 by omega)) (za (zu hq))
theorem zAD {α:Type} (f:α→Bool) (s:α):List.filter f [s]=if f s=true then [s] else []:=by cases h:f s<;>simp [h]
theorem zAE (hw:ZI ()=some (true,())) {d:zhV} (hd:drP d) {a1:Int} (g1:0≤a1∧a1≤255) {a2 a3 a4:List Int} (q2:∀x∈a2,0≤x∧x≤255) (q3:∀x∈a3,0≤x∧x≤65535) (q4:∀x∈a4,0≤x∧x≤255):QZ (d,a1,a2,a3,a4,())=some (true,()):=by
 obtain ⟨n,en,hn,hn1⟩:=zFm hd
 obtain ⟨l,el,hl⟩:=zxS hd
 have hg:n.2.2.1.length=2*n.1.2.2.length:=by have:=hn.f.1;omega
 have h24:=hn.t.sz.ls
 have n1:n.2.2.1.length≤1000000000000000000:=by omega
 have n2:n.1.2.2.length≤1000000000000000:=by omega
 rw [zgX];unfold XO
 rw [hw,zD]
 refine xA (ze rfl ?_)
 rw [en,zD,el,zD]
 have hgl:(0:Int) < n.2.2.1.length:=by omega
 refine ze (jS (show (n.2.2.1.length:Int)≠0 by omega)) ?_
 have e1:wrF .i64 a1=a1:=zy (by omega) (by omega)
 rw [e1,Int.tmod_eq_emod_of_nonneg g1.1]
 generalize a1 % (n.2.2.1.length:Int)=p
 rw [zvq n1 n2,zD]
 refine zj (fun h=>?_) (fun h=>?_)
 ·have h:(zdy n l p).2≠0:=jM (by simpa using h)
  refine za ?_
  show (((zo (zdy n l p).1.1.1 0)&&_)&&_)=true
  rw [zEM h];rfl
 have h:(zdy n l p).2=0:=qO (by simpa using h)
 obtain ⟨ho,hp,eh⟩:=zDz h
 rw [eh] at h ⊢
 obtain ⟨b,v,e5,hb,hv,hbv,hne,hbs⟩:=(zrV ho hp).resolve_right fun e=>e.2 h
 rw [e5]
 have hst:=ho.a
 refine zk (J:=fun y=>y.2.2.1=l.filter fun s=>tv (yg s p)) (zX l.length (fun i st=>st=(((i:Int),()),((l.take i).filter fun s=>tv (yg s p),()))) (by omega) rfl ?_ ?_) ?_
 ·rintro i _ hi rfl
  have hx:l[i]?=some l[i]:=List.getElem?_eq_getElem hi
  have hm:=List.getElem_mem hi
  generalize l[i]=s at hx hm
  have hf:(l.take (i+1)).filter (fun s=>tv (yg s p))=(l.take i).filter (fun s=>tv (yg s p))++if tv (yg s p)=true then [s] else []:=by
   rw [VI hx,List.filter_append]
   rw [zAD]
  have hle:((l.take i).filter fun s=>tv (yg s p)).length≤6:=by
   have:=List.length_filter_le (fun s=>tv (yg s p)) (l.take i)
   have:=List.length_take_le i l
   omega
  refine zf (zZ (show (i:Int) < (l.length:Int) by omega)) (zk (J:=fun y=>y.2.2.1=(l.take (i+1)).filter fun s=>tv (yg s p)) (zg (zC (n:=i) hx ?_)) ?_)
  ·rw [zfL (hst s hm),zD]
   refine zj (fun h=>zg (zC (n:=i) hx (zf (wC (n:=((l.take i).filter fun s=>tv (yg s p)).length) (m:=1) (by omega) (by omega)) (za ?_)))) (fun h=>za ?_)
   ·have h:tv (yg s p)=true:=h
    show _++[s]=_
    rw [hf,if_pos h]
   ·have h:tv (yg s p)=false:=h
    show _=List.filter _ (l.take (i+1))
    rw [hf,h];simp
  ·rintro ⟨k,z,w,⟨⟩⟩ g
   have g:w=_:=g
   subst g
   exact za (qj (congrArg (fun q=>((q,()),(_,()))) (qv (by omega))))
 ·rintro _ rfl
  refine ze (zJ (show ¬(l.length:Int) < (l.length:Int) by omega)) (za (zu ?_))
  show (l.take l.length).filter _=_
  rw [List.take_length]
 rintro ⟨k,z,ld,⟨⟩⟩ g
 have g:ld=l.filter fun s=>tv (yg s p):=g
 have hlo:load l p=ld.map bkt:=by rw [g];rfl
 have hsum:b=(Yq ld,Uv ld):=by
  rw [hbs,hlo]
  unfold ud Yq Uv
  rw [List.map_map,List.map_map];rfl
 have hld:0 < ld.length:=by
  rcases Nat.eq_zero_or_pos ld.length with h0 | h0
  ·rw [List.length_eq_zero_iff.1 h0] at hlo
   exact absurd hlo hne
  ·exact h0
 have h12:ld.length≤12:=by
  rw [g]
  have:=List.length_filter_le (fun s=>tv (yg s p)) l
  omega
 have hz:∀s∈ld,(84≤s.2.2.2.2.1∧s.2.2.2.2.1≤1542)∧jG (bkt s):=fun s hs=>by
  have hm:s∈l:=by rw [g] at hs;exact (List.mem_filter.1 hs).1
  refine ⟨(hst s hm).sz,(ztC ho p).2 _ ?_⟩
  rw [hlo]
  exact List.mem_map.2 ⟨s,hs,rfl⟩
 obtain ⟨v1,v2,v3,v4⟩:=hv
 obtain ⟨⟨b1,b2⟩,b3,b4⟩:=hb
 refine zf (zhn (by omega) (by omega) (by show (24:Int)*(ld.length:Int)≤_;omega)) (zk (zyy (R:=v.1) (BU:=b.1*1048576) hld h12 (by rw [hsum] at hbv;exact hbv) (by rw [hsum]) hz q2 q3 q4 rfl) ?_)
 rintro ⟨k,z2,own,all,⟨⟩⟩ ⟨j0,j1,j2,j3⟩
 have j0:k=0:=j0
 have j1:trP all:=j1
 have j2:all.length≤40:=j2
 have j3:∀(j:Nat) a,all[j]?=some a→gY v.1 (all.take (j+1))≤a.1*v.1+b.1*1048576:=j3
 subst j0
 refine zf rfl (zk (zrZ (s:=v) ⟨by omega,by omega,by omega,by omega⟩ j1) ?_)
 rintro ⟨out,er,⟨⟩⟩ ⟨o1,o2,o3⟩
 have o1:er=0:=o1
 have o2:out.length=all.length:=o2
 have o3:∀i,i < all.length→out[i]?=some (v.2+cl v.1 (gY v.1 (all.take (i+1)))):=o3
 subst o1
 refine zk (J:=fun y=>y.1=0) (ze rfl (ze (by show (!zo (out.length:Int) (all.length:Int))=false;rw [o2,Zb rfl];rfl) (za rfl))) ?_
 rintro ⟨k,⟨v9,⟨⟩⟩,⟨⟩⟩ g2
 have g2:k=0:=g2
 subst g2
 refine zf rfl (zk (J:=fun y=>y.1=0) (zX all.length (fun i st=>st=((v9,((i:Int),())),())) (by omega) rfl ?_ ?_) ?_)
 ·rintro i _ hi rfl
  have hx:all[i]?=some all[i]:=List.getElem?_eq_getElem hi
  generalize all[i]=a at hx
  obtain ⟨⟨u3,u4⟩,_⟩:=j1.e i a hx
  have u3:kA (all.take i)≤a.1:=u3
  have u5:0≤kA (all.take i):=(zmU j1 i (Nat.le_of_lt hi)).1
  have h5:=j3 i a hx
  have h6:cl v.1 (gY v.1 (all.take (i+1)))≤a.1+cl v.1 (b.1*1048576):=by
   rw [←zFp (by omega)]
   exact zhR (by omega) h5
  obtain ⟨h7,h8⟩:=zAy (d:=v.1) (w:=b.1*1048576) (M:=1099511627776) (by omega) (by omega) (by omega)
  refine zf (zZ (show (i:Int) < (all.length:Int) by omega)) (zg (zC (n:=i) (o3 i hi) (zg (zC (n:=i) hx ?_))))
  show qm (bif zi (wrF .i64 (a.1+(v.2+cl v.1 (b.1*1048576)))) _ then _ else _) _
  rw [zy (z:=a.1+(v.2+cl v.1 (b.1*1048576))) (by omega) (by omega)]
  exact ze (zJ (show ¬a.1+(v.2+cl v.1 (b.1*1048576)) < v.2+cl v.1 (gY v.1 (all.take (i+1))) by omega)) (za (qj (congrArg (fun q=>((v9,(q,())),())) (qv (by omega)))))
 ·rintro _ rfl
  exact ze (zJ (show ¬(all.length:Int) < (all.length:Int) by omega)) (za (zu rfl))
 ·rintro ⟨k,z,w⟩ g3
  have g3:k=0:=g3
  subst g3
  exact zf rfl (za rfl)
abbrev A9:=QY
abbrev K9_ok:=zgW
theorem good9 (x:T (zp A9)) (h:wfT (zp A9) x):QZ x=some (true,()):=by
 obtain ⟨d,a1,a2,a3,a4,⟨⟩⟩:=x
 exact zAE zDy (zFA h.1) (u8w h.2.1) (u8l h.2.2.1) (fun x hx=>zFn (h.2.2.2.1.2 x hx)) (u8l h.2.2.2.2.1)
end Go.Proofs.YtplhphmbkmpocaaGreat.ad
end
