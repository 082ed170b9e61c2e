/- Parts of a proof, joined. -/
import Derived.Test.YtlfkgkedfciccaaGreatH27
set_option linter.unusedSectionVars false
set_option linter.unusedVariables false
set_option linter.unusedSimpArgs false
set_option maxHeartbeats 0
set_option maxRecDepth 100000
noncomputable section
namespace Go.Proofs.YtlfkgkedfciccaaGreat.nd
open Go Go.Fz Go.Fz.Sy
theorem zdL(z:Int):IntKind.wrap .u64 z=z % 18446744073709551616:=by unfold IntKind.wrap;show(if(false&&decide (z % 18446744073709551616>=_))=true then _ else z % 18446744073709551616)=_;grind
theorem FO{z:Int}(h1:0<=z)(h2:z < 18446744073709551616):wrF .u64 z=z:=by rw[ZB,zdL];omega
theorem p64:(2:Nat) ^ 64=18446744073709551616:=by decide
theorem dz{x:Nat}(h:x < 2 ^ 64):(BitVec.ofInt (IntKind.bits .u64) (x:Int)).toNat=x:=by show(BitVec.ofInt 64 (x:Int)).toNat=x;grind
theorem zjm{x:Nat}(h:x < 2 ^ 64):IntKind.wrap .u64 (x:Int)=(x:Int):=by rw[zdL];rw[p64]at h;omega
theorem zm9{x y:Nat}(hx:x < 2 ^ 64)(hy:y < 2 ^ 64):wR .and .u64 (x:Int) (y:Int)=((x&&& y:Nat):Int):=by show IntKind.wrap .u64 (((BitVec.ofInt (IntKind.bits .u64) (x:Int)&&& BitVec.ofInt (IntKind.bits .u64) (y:Int)).toNat:Nat):Int)=_;rw[ztp,dz hx,dz hy,zjm (zsJ Nat.and_le_left hx)]
theorem bor{x y:Nat}(hx:x < 2 ^ 64)(hy:y < 2 ^ 64):wR .or .u64 (x:Int) (y:Int)=((x||| y:Nat):Int):=by show IntKind.wrap .u64 (((BitVec.ofInt (IntKind.bits .u64) (x:Int)||| BitVec.ofInt (IntKind.bits .u64) (y:Int)).toNat:Nat):Int)=_;rw[BitVec.toNat_or,dz hx,dz hy,zjm (zto hx hy)]
theorem zp0{x y:Nat}(hx:x < 2 ^ 64)(hy:y < 2 ^ 64):wR .andNot .u64 (x:Int) (y:Int)=((x&&& (2 ^ 64 - (y+1)):Nat):Int):=by show IntKind.wrap .u64 (((BitVec.ofInt (IntKind.bits .u64) (x:Int)&&& ~~~BitVec.ofInt (IntKind.bits .u64) (y:Int)).toNat:Nat):Int)=_;rw[ztp,BitVec.toNat_not,dz hx,dz hy,zjm (zsJ Nat.and_le_left hx)];congr 2;show 2 ^ 64 - 1 - y=_;omega
theorem shl{x b:Nat}(hb:b<=64):wk .u64 (x:Int) (b:Int)=((x*2 ^ b % 2 ^ 64:Nat):Int):=by show IntKind.wrap .u64 ((x:Int)*2 ^ (min (b:Int).toNat 64))=_;grind[min,zdL,p64]
theorem zlc{x n:Nat}(hx:x < 2 ^ 64)(hn:n<=64):x&&& (2 ^ 64 - ((2 ^ n - 1)+1))=0↔x < 2 ^ n:=by
 have hp:2 ^ n - 1 < 2 ^ 64:=zqC (Nat.sub_lt (zrP n) (by decide)) (zqY (by decide) hn);constructor
 ·intro h;refine Nat.lt_pow_two_of_testBit x fun i hi=>?_;have h2:=zqR (fun z=>z.testBit i) h;simp only[ztz,Nat.testBit_two_pow_sub_succ hp,zsx,Nat.zero_testBit]at h2;by_cases h64:i < 64
  ·grind
  ·exact zrL (zqC hx (zqY (by decide) (by omega)))
 ·intro h;refine zsz fun i=>?_;simp only[ztz,Nat.testBit_two_pow_sub_succ hp,zsx,Nat.zero_testBit];grind[Nat.testBit_lt_two_pow,Nat.lt_of_lt_of_le,Nat.pow_le_pow_right]
theorem HI{s i:Nat}(hs:s < 2 ^ 64)(hi:i<=1000000000):xj ((s:Int),(i:Int),())=some (s.testBit i,()):=by
 rw[zaF];unfold LX;have hlt:∀k,s / 2 ^ k < 2 ^ 64:=fun k=>zsJ (Nat.div_le_self _ _) hs;refine qI (zk (J:=fun x=>x.2.1.1=((s / 2 ^ i:Nat):Int)) (qb i (fun k st=>st=((((s / 2 ^ k:Nat):Int),((k:Int),())),())) (by omega) (by simp) ?_ ?_) ?_)
 ·rintro k _ hk rfl;refine zf (zL (show(k:Int) < (i:Int) by omega)) (za (qn ?_));have e:Int.tdiv ((s / 2 ^ k:Nat):Int) 2=((s / 2 ^ (k+1):Nat):Int):=by rw[Nat.pow_succ,<-Nat.div_div_eq_div_mul];generalize s / 2 ^ k=q;rw[zre (by omega)];omega
  have hl:=hlt (k+1);rw[p64]at hl;show((wrF .u64 (Int.tdiv ((s / 2 ^ k:Nat):Int) 2),(wrF .i64 ((k:Int)+1),())),())=_;rw[e];generalize s / 2 ^ (k+1)=q at hl;rw[FO (by omega) (by omega),zQ (by omega)]
 all_goals grind[zE,za,zw,zj,Int.tmod,Int.tmod_eq_emod_of_nonneg,decide_eq_true,wZ,decide_eq_false,jm]
abbrev mkR(L R:Int)(any:Bool)(last at':Int)(s:Nat):qg:=(L,R,any,last,at',(s:Int))
def GZ(L R:Int)(any:Bool)(last at':Int)(s:Nat):Prop:=inP L 1 64∧inP R 1 1099511627776∧((any=true∧last=0∧at'=0∧s=0)∨(any=false∧inP last 0 65535∧inP at' 0 1099511627776∧s % 2=1∧s < 2 ^ L.toNat))
theorem zna(L R:Int):Jf (L,R,())=some (tv (inP L 1 64∧inP R 1 1099511627776),()):=by rw[BQ];unfold fB inP;refine jj ?_;grind[za,qN,qE,vH,vI,gk]
theorem zld(w:qM){L:Nat}(h:w.1.1=(L:Int))(h64:L<=64):yi (w,())=some (((2 ^ L - 1:Nat):Int),()):=by rw[aW];unfold Yp;rw[h,FO (by omega) (by omega)];refine qI (zi (zE (by omega)) (za ?_));congr 1;rw[show(1:Int)=((1:Nat):Int) from rfl,shl h64,ZB,zdL];have hp:0 < 2 ^ L:=zrP L;have hle:2 ^ L<=2 ^ 64:=zqY (by decide) h64;omega
theorem zga(L R:Int)(any:Bool)(last at':Int){s:Nat}(hs:s < 2 ^ 64):ka (mkR L R any last at' s,())=some (bif tv (GZ L R any last at' s)then 0 else 500,()):=by
 rw[ES];unfold mm;simp only[zna,zq];refine Qh (by decide) (zd (fun h1=>za (.inr ⟨fun h=>jZ h1 ⟨h.1,h.2.1⟩,rfl⟩)) fun h1=>?_);obtain⟨hL,hR⟩:=wD h1;obtain⟨l0,l1⟩:=id hL;have hLn:(L.toNat:Int)=L:=by omega
 cases any with
 |true=>
  grind[zj,wZ,GZ,za,qN,qE,zkR,XW,bm]
 |false=>
  refine zi rfl (zb ?_);have h2p:(1:Int)=((1:Nat):Int):=rfl;have ea:wR .and .u64 (s:Int) 1=((s % 2:Nat):Int):=by rw[h2p,zm9 hs (by decide),Nat.and_one_is_mod]
  have hn:GZ L R false last at' s↔inP last 0 65535∧inP at' 0 1099511627776∧s % 2=1∧s < 2 ^ L.toNat:=by unfold GZ;simp[hL,hR]
  rw[hn];refine zd (fun h3=>za (zv (za (.inr ⟨fun h=>?_,rfl⟩)))) fun h3=>zd (fun h4=>za (zv (za (.inr ⟨fun h=>?_,rfl⟩)))) fun h4=>zd (fun h5=>za (zv (za (.inr ⟨fun h=>?_,rfl⟩)))) fun h5=>zd (fun h6=>za (zv (za (.inr ⟨fun h=>?_,rfl⟩)))) fun h6=>?_
  ·have:=h.1.1;have:=zZ h3;omega
  ·have h7:=h.1.2;have h8:=zP (qN.1 h4);omega
  ·have:=h.2.1.1;have:=zZ h5;omega
  ·have:=h.2.1.2;have:=zZ h6;omega
  show zt (bif zj (wR .and .u64 (s:Int) 1) 0 then _ else _) _;rw[ea];refine zd (fun h7=>za (zv (za (.inr ⟨fun h=>?_,rfl⟩)))) fun h7=>?_
  ·grind[ql]
  rw[zld _ (L:=L.toNat) hLn.symm (by omega),zq];have hp2:2 ^ L.toNat - 1 < 2 ^ 64:=zqC (Nat.sub_lt (zrP _) (by decide)) (zqY (by decide) (by omega));have eb:wR .andNot .u64 (s:Int) ((2 ^ L.toNat - 1:Nat):Int)=((s&&& (2 ^ 64 - ((2 ^ L.toNat - 1)+1)):Nat):Int):=zp0 hs hp2;show zt (bif !zj (wR .andNot .u64 (s:Int) ((2 ^ L.toNat - 1:Nat):Int)) 0 then _ else _) _;rw[eb];have hz:=zlc hs (n:=L.toNat) (by omega);refine zd (fun h8=>za (zv (za (.inr ⟨fun h=>?_,rfl⟩)))) fun h8=>za (zx (za (.inl ⟨?_,rfl⟩)))
  ·grind[qt,qN]
  ·have h9:=ql (qE.1 h8);have h3:=zP h3;have h4:=zZ (qE.1 h4);have h5:=zP h5;have h6:=zP h6;have h7:=qt h7;exact⟨⟨by omega,by omega⟩,⟨by omega,by omega⟩,by omega,hz.1 (by omega)⟩
theorem zjn(n:Int):YU (n,())=some (tv (inP n 0 65535),()):=by rw[HQ];unfold oF;refine jj (zd (fun h=>?_) fun h=>?_)<;>refine za ?_<;>simp only[inP,qN,qE,vH,vI,gk]at *<;>grind
theorem zcc(L R:Int)(any:Bool)(last at':Int){s:Nat}(hs:s < 2 ^ 64):kD (mkR L R any last at' s,())=some (tv (GZ L R any last at' s),()):=by
 rw[NU];unfold AD;simp only[zjn,zq];have e0:xj ((s:Int),0,())=some (s.testBit 0,()):=HI hs (i:=0) (by omega);refine jj (zb (zd (fun h1=>za (zv (za ?_))) fun h1=>zd (fun h2=>za (zv (za ?_))) fun h2=>zd (fun h3=>za (zv (za ?_))) fun h3=>zd (fun h4=>za (zv (za ?_))) fun h4=>za (zx ?_)))
 ·exact⟨fun h=>(by cases h),fun h=>absurd h.1.1 (by have:=zZ h1;omega)⟩
 ·exact⟨fun h=>(by cases h),fun h=>absurd h.1.2 (by have:=zZ h2;omega)⟩
 ·exact⟨fun h=>(by cases h),fun h=>absurd h.2.1.1 (by have:=zZ h3;omega)⟩
 ·exact⟨fun h=>(by cases h),fun h=>absurd h.2.1.2 (by have:=zZ h4;omega)⟩
 have h1:=zP h1;have h2:=zP h2;have h3:=zP h3;have h4:=zP h4;have hL:inP L 1 64:=⟨h1,h2⟩;have hR:inP R 1 1099511627776:=⟨h3,h4⟩;cases any with
 |true=>
  grind[GZ,za,XW,bm,gk]
 |false=>
  have hn:GZ L R false last at' s↔inP last 0 65535∧inP at' 0 1099511627776∧s % 2=1∧s < 2 ^ L.toNat:=by unfold GZ;simp[hL,hR]
  rw[hn];refine zi rfl (zb (zd (fun h5=>za (zv (za ?_))) fun h5=>zd (fun h6=>za (zv (za ?_))) fun h6=>zd (fun h7=>za (zv (za ?_))) fun h7=>?_))
  ·grind[jZ]
  ·exact⟨fun h=>(by cases h),fun h=>absurd h.2.1.1 (by have:=zZ h6;omega)⟩
  ·exact⟨fun h=>(by cases h),fun h=>absurd h.2.1.2 (by have:=zZ h7;omega)⟩
  show zt (opt (xj ((s:Int),0,())) _) _;rw[e0,zq];have hb:s.testBit 0=true↔s % 2=1:=by grind
  refine zd (fun h8=>za (zv (za ?_))) fun h8=>za (zx ?_)
  ·grind
  have h8:=hb.1 (qE.1 h8);have h5:=wD h5;have h6:=zP h6;have h7:=zP h7;refine zk (J:=fun x=>(x.1=0∧s < 2 ^ L.toNat)∨(x.1=1∧x.2.1.1=false∧¬s < 2 ^ L.toNat)) (qb (64 - L.toNat) (fun k st=>∃v,st=((v,((L.toNat+k:Nat):Int),()),())∧∀i,L.toNat<=i->i < L.toNat+k->s.testBit i=false) (by omega) ⟨_,by show((_,L,()),())=_;rw[show((L.toNat+0:Nat):Int)=L by omega],fun i h9 h10=>by omega⟩ ?_ ?_) ?_
  ·rintro k _ hk ⟨v,rfl,hp⟩;refine zf (zL (show((L.toNat+k:Nat):Int) < 64 by omega)) ?_;show zt (opt (xj ((s:Int),((L.toNat+k:Nat):Int),())) _) _;rw[HI hs (by omega),zq];refine zd (fun h9=>za (zw (.inr ⟨rfl,rfl,fun h10=>?_⟩))) fun h9=>za (qn ⟨v,?_,fun i h10 h11=>?_⟩)
   ·have h9:s.testBit (L.toNat+k)=true:=h9;rw[zrL (zqC h10 (zqY (by decide) (by omega)))]at h9;cases h9
   ·show((v,wrF .i64 (((L.toNat+k:Nat):Int)+1),()),())=_;rw[zQ (by omega)];rfl
   grind
  ·rintro _ ⟨v,rfl,hp⟩;refine zi (zE (show ¬((L.toNat+(64 - L.toNat):Nat):Int) < 64 by omega)) (za (zw (.inl ⟨rfl,Nat.lt_pow_two_of_testBit s fun i hi=>?_⟩)));rcases zry i 64 with h12 | h12
   ·grind
   ·exact zrL (zqC hs (zqY (by decide) h12))
  ·rintro⟨c,⟨y1,y2,⟨⟩⟩,⟨⟩⟩ (⟨rfl,hA⟩ | ⟨rfl,rfl,hA⟩)
   ·exact zx (za ⟨fun _=>⟨h5,⟨h6,h7⟩,h8,hA⟩,fun _=>rfl⟩)
   ·exact zv (za ⟨fun h=>(by cases h),fun h=>absurd h.2.2.2 hA⟩)
theorem Pa{x:Int}(h:0<=x):Int.tmod x 65536=x % 65536:=by grind
theorem Pb{x:Int}(h:x < 0):Int.tmod x 65536 = -((-x) % 65536):=by
 have:x = -(-x):=by omega
 rw[this,Int.neg_tmod,Int.neg_neg,zqx (by omega)]
def dlt(a b:Int):Int:=(b - a+32768) % 65536 - 32768
theorem zpy{x:Int}(h1 : -1000000<=x)(h2:x<=1000000):dj (x,())=some (x % 65536,()):=by
 rw[zc9];unfold SN;refine qI (zb ?_);rcases ztb x 0 with h | h
 ·rw[Pb h];refine zd (fun h3=>za (za ?_)) fun h3=>za (za ?_)
  ·have:=zZ h3;show(wrF .i64 _,())=_;rw[zU (by omega) (by omega)];congr 1;omega
  ·have:=zP h3;show(-(-x % 65536),())=_;congr 1;omega
 grind[Pa,zE,za]
theorem zp1(n:Int):Yq (n,())=some (tv (inP n 0 65535),()):=by rw[SJ];unfold EY;refine jj (zd (fun h=>?_) fun h=>?_)<;>refine za ?_<;>simp only[inP,qN,qE,vH,vI,gk]at *<;>grind
theorem zoM{a b:Int}(ha:inP a 0 65535)(hb:inP b 0 65535):XQ (a,b,())=some (dlt a b,0,()):=by obtain⟨a1,a2⟩:=id ha;obtain⟨b1,b2⟩:=id hb;rw[zaU];unfold Ms;simp only[zp1,qX ha,qX hb,zq];refine qI (zb (zi rfl (zi rfl (za (zx ?_)))));rw[zU (z:=b - a) (by omega) (by omega),zU (by omega) (by omega),zpy (by omega) (by omega),zq];refine za ?_;show(wrF .i64 ((b - a+32768) % 65536 - 32768),0,())=_;rw[zU (by omega) (by omega)];rfl
theorem zcd{n a:Int}(h1 : -1000000<=n)(h2:n<=1000000)(h3 : -1000000<=a)(h4:a<=1000000):Zy (n,a,())=some ((n+a) % 65536,()):=by
 rw[OE];unfold Bw;have key:∀u:Int,-65536 < u->u < 65536->(n+u) % 65536=(n+a) % 65536->Int.tmod a 65536=u->zt (opt (bif(zg ((Int.tmod (wrF .i64 ((n+(Int.tmod a 65536)))) 65536)) (0))then some (0,(((wrF .i64 (((Int.tmod (wrF .i64 ((n+(Int.tmod a 65536)))) 65536)+65536))),()),()))
  else some (0,(((Int.tmod (wrF .i64 ((n+(Int.tmod a 65536)))) 65536),()),()))) fun x0:Nat×((Int×Unit)×Unit)=>some (x0.2.1.1,())) fun r=>r=((n+a) % 65536,()):=by
  intro u u1 u2 hu e
  rw[e,zU (z:=n+u) (by omega) (by omega)]
  refine zb ?_
  rcases ztb (n+u) 0 with h | h
  ·rw[Pb h]
   refine zd (fun h3=>za (za ?_)) fun h3=>za (za ?_)
   ·have:=zZ h3
    show(wrF .i64 _,())=_
    rw[zU (by omega) (by omega)];congr 1;omega
   ·have:=zP h3
    show(-(-(n+u) % 65536),())=_
    congr 1;omega
  ·rw[Pa h]
   refine zi (zE (by omega)) (za (za ?_))
   show((n+u) % 65536,())=_
   rw[hu]
 rcases ztb a 0 with h | h
 ·exact qI (key (-((-a) % 65536)) (by omega) (by omega) (by omega) (Pb h))
 grind[qI,Pa]
theorem zce{a b:Int}(ha:inP a 0 65535)(hb:inP b 0 65535):kM (a,b,())=some (dlt a b,()):=by
 obtain⟨a1,a2⟩:=ha;obtain⟨b1,b2⟩:=hb;rw[OG];unfold Bz;rw[zU (z:=0 - a) (by omega) (by omega),zcd (by omega) (by omega) (by omega) (by omega),zq];refine qI (zb (zd (fun h=>za (za ?_)) fun h=>za (za ?_)))
 ·have:=zP (qN.1 h);grind[wrF,zU,dlt]
 ·have:=zZ (qE.1 h);grind[dlt]
theorem zpz(a b:Int) : -32768<=dlt a b∧dlt a b<=32767:=by unfold dlt;omega
def ahead(L s d:Nat):Nat:=((s*2 ^ d % 2 ^ 64)||| 1)&&& (2 ^ L - 1)
open Classical in
def xc(L R:Int)(any:Bool)(last at':Int)(s:Nat)(n t:Int):qg×Bool:=
 if any=true∨R < t - at' then((L,R,false,n,t,1),true)
 else if dlt last n<=-L∨L<=dlt last n then(mkR L R any last at' s,false)
 else if dlt last n<=0 then(if s.testBit (-dlt last n).toNat=true then(mkR L R any last at' s,false)else(mkR L R any last t (s||| 2 ^ (-dlt last n).toNat),true))
 else(mkR L R any n t (ahead L.toNat s (dlt last n).toNat),true)
theorem zgb(L R:Int)(any:Bool)(last at':Int)(s:Nat){n:Int}(t:Int)(hl:inP last 0 65535)(hn:inP n 0 65535):wY ((mkR L R any last at' s,n,t),())=some (dlt last n,()):=by grind[GQ,WB,opt,XQ,zoM]
open Classical in
theorem zoN{L R:Int}{any:Bool}{last at':Int}{s:Nat}{n t:Int}(h1:inP at' 0 1099511627776)(h2:inP t 0 1099511627776):uF ((mkR L R any last at' s,n,t),())=some (if any=true∨R < t - at' then(((L,R,false,n,t,1),n,t),1,())else((mkR L R any last at' s,n,t),0,())):=by
 obtain⟨h1,h3⟩:=h1;obtain⟨h2,h4⟩:=h2;rw[di];unfold XO;refine qI (zb ?_);show zt (bif(!any)then(bif(!(zg R (wrF .i64 (t - at'))))then _ else _)else _) _;rw[zU (by omega) (by omega)];cases any with
 |true=>rw[zqI (.inl rfl)];exact zi rfl (za (zx (za rfl)))
 |false=>
  refine zf rfl (zd (fun h=>za (zv (za ?_))) fun h=>za (zx (za ?_)))
  ·have:=zP (qN.1 h);rw[zqu (by simp;omega)]
  ·have:=zZ (qE.1 h);rw[zqI (.inr this)]
open Classical in
theorem zp2{L R:Int}{any:Bool}{last at':Int}{s:Nat}{n t:Int}(hL:inP L 1 64)(hl:inP last 0 65535)(hn:inP n 0 65535):gg ((mkR L R any last at' s,n,t),())=some (if dlt last n<=-L∨L<=dlt last n then((mkR L R any last at' s,n,t),2,())else((mkR L R any last at' s,n,t),0,())):=by
 obtain⟨h1,h2⟩:=hL;rw[iM];unfold Um;rw[zgb L R any last at' s t hl hn,zq];refine qI (zb ?_);show zt (bif(zg (wrF .i64 (0 - L)) (dlt last n))then(bif(zg (dlt last n) L)then _ else _)else _) _;rw[zU (by omega) (by omega)];refine zd (fun h=>zd (fun h2=>za (zv (za ?_))) fun h2=>za (zx (za ?_))) fun h=>za (zx (za ?_))
 ·have:=zZ h;have:=zZ h2;rw[zqu (by omega)]
 ·have:=zZ h;have:=zP h2;rw[zqI (by omega)]
 ·have:=zP h;rw[zqI (by omega)]
theorem zoO{k:Nat}(h:k < 64):wk .u64 1 (k:Int)=((2 ^ k:Nat):Int):=by rw[show(1:Int)=((1:Nat):Int) from rfl,shl (by omega),ztf,Nat.mod_eq_of_lt (zta (by decide) h)]
theorem zoP(s k:Nat):(s&&& 2 ^ k=0)↔s.testBit k=false:=by
 constructor
 ·intro h;have:=zqR (fun z=>z.testBit k) h;grind
 ·intro h;refine zsz fun i=>?_;grind
open Classical in
theorem zpA{L R:Int}{any:Bool}{last at':Int}{s:Nat}{n t:Int}(hs:s < 2 ^ 64)(hl:inP last 0 65535)(hn:inP n 0 65535)(hd : -64 < dlt last n):ke ((mkR L R any last at' s,n,t),())=some (if 0 < dlt last n then((mkR L R any last at' s,n,t),0,())else if s.testBit (-dlt last n).toNat=true then((mkR L R any last at' s,n,t),2,())else((mkR L R any last t (s||| 2 ^ (-dlt last n).toNat),n,t),1,())):=by
 rw[fM];unfold Kh;rw[zgb L R any last at' s t hl hn,zq];refine qI (zd (fun h=>za ?_) fun h=>?_)
 ·have:=zZ h;rw[zqI this]
 have h:=zP h;have h:dlt last n<=0:=h;rw[zqu (by omega)];obtain⟨k,hk⟩:∃k:Nat,0 - dlt last n=k:=⟨(0 - dlt last n).toNat,by omega⟩;have ek:(-dlt last n).toNat=k:=by omega
 show zt (bif zg (wrF .u64 (wrF .i64 (0 - dlt last n))) 0 then none else bif !(zj (wR .and .u64 (s:Int) (wk .u64 1 (wrF .u64 (wrF .i64 (0 - dlt last n))))) 0)then _ else some ((((L,(R,(any,(last,(t,(wR .or .u64 (s:Int) (wk .u64 1 (wrF .u64 (wrF .i64 (0 - dlt last n))))))))))),n,t),(1,()))) _;rw[ek,hk,zU (by omega) (by omega),FO (by omega) (by omega),zoO (by omega)];have hp:2 ^ k < 2 ^ 64:=zta (by decide) (by omega);rw[zm9 hs hp,bor hs hp];have hb:=zoP s k;refine zi (zE (by omega)) (zd (fun h2=>za ?_) fun h2=>za ?_)
 ·have h3:=qt (qN.1 h2);have:s.testBit k=true:=by
   cases h4:s.testBit k with
   |true=>rfl
   |false=>rw[hb.2 h4]at h3;exact absurd rfl h3
  rw[zqI this]
 ·have h3:=ql (qE.1 h2);have h4:=hb.1 (by omega);rw[zqu (by rw[h4];decide)]
theorem zoQ{L R:Int}{any:Bool}{last at':Int}{s:Nat}{n t:Int}(hL:inP L 1 64)(hs:s < 2 ^ 64)(hl:inP last 0 65535)(hn:inP n 0 65535)(hd:0 < dlt last n)(hd2:dlt last n < 64):uG ((mkR L R any last at' s,n,t),())=some ((mkR L R any n t (ahead L.toNat s (dlt last n).toNat),n,t),1,()):=by obtain⟨l1,l2⟩:=hL;rw[dn];unfold XT;rw[zgb L R any last at' s t hl hn,zq];obtain⟨k,hk⟩:∃k:Nat,dlt last n=k:=⟨(dlt last n).toNat,by omega⟩;show(bif zg (wrF .u64 (dlt last n)) 0 then none else opt (yi ((mkR L R any last at' s,n,t),())) fun x1=>some ((((L,(R,(any,(n,(t,(wR .and .u64 (wR .or .u64 (wk .u64 (s:Int) (wrF .u64 (dlt last n))) 1) x1.1)))))),n,t),(1,()))))=_;rw[hk,FO (by omega) (by omega),zld _ (L:=L.toNat) (by show L=_;omega) (by omega),zq,shl (by omega)];refine qI (zi (zE (by omega)) (za ?_));have h1:s*2 ^ k % 2 ^ 64 < 2 ^ 64:=Nat.mod_lt _ (zrP 64);have hp:2 ^ L.toNat - 1 < 2 ^ 64:=zqC (Nat.sub_lt (zrP _) (by decide)) (zqY (by decide) (by omega));show(((L,(R,(any,(n,(t,wR .and .u64 (wR .or .u64 ((s*2 ^ k % 2 ^ 64:Nat):Int) ((1:Nat):Int)) ((2 ^ L.toNat - 1:Nat):Int)))))),n,t),1,())=_;rw[bor h1 (by decide),zm9 (zto h1 (by decide)) hp];rfl
theorem zle{L R:Int}{any:Bool}{last at':Int}{s:Nat}{n t:Int}(hs:s < 2 ^ 64)(hr:GZ L R any last at' s)(hn:inP n 0 65535)(ht:inP t 0 1099511627776)(ha:at'<=t):yX (mkR L R any last at' s,n,t,())=some ((xc L R any last at' s n t).1,(xc L R any last at' s n t).2,0,()):=by
 have hL:=hr.1;have hl:inP last 0 65535:=by
  rcases hr.2.2 with h | h
  ·exact⟨by omega,by omega⟩
  ·exact h.2.1
 have hat:inP at' 0 1099511627776:=by
  rcases hr.2.2 with h | h
  ·exact⟨by omega,by omega⟩
  ·exact h.2.2.1
 obtain⟨l1,l2⟩:=id hL;obtain⟨n1,n2⟩:=id hn;obtain⟨t1,t2⟩:=id ht;rw[BV];unfold fN;rw[zga L R any last at' hs,qX hr,zq];refine qI (zi rfl (zb (zi (zE (by omega)) (zi (by rw[zL (by omega)];rfl) (zi (zE (by omega)) (zi (zE (by omega)) (zi (zE (show ¬t < at' by omega)) (za (zx ?_)))))))));have hdec:xr ((mkR L R any last at' s,n,t),())=some (((xc L R any last at' s n t).1,n,t),(if(xc L R any last at' s n t).2=true then 1 else 2),()):=by
  rw[bN];unfold Xm;rw[zoN hat ht,zq,zp2 hL hl hn];unfold xc;by_cases c1:any=true∨R < t - at'
  ·rw[zqI c1,zqI c1];rfl
  rw[zqu c1,zqu c1];refine qI (zi rfl (zb ?_));by_cases c2:dlt last n<=-L∨L<=dlt last n
  ·rw[zqI c2,zqI c2];exact za (zf rfl (za rfl))
  rw[zqu c2,zqu c2];refine za (zi rfl ?_);rw[zpA hs hl hn (by omega),zq];by_cases c3:0 < dlt last n
  ·rw[zqI c3,zqu (show ¬dlt last n<=0 by omega)];refine zi rfl ?_;rw[zoQ hL hs hl hn c3 (by omega),zq];exact zf rfl (za rfl)
  rw[zqu c3,zqI (show dlt last n<=0 by omega)];by_cases c4:s.testBit (-dlt last n).toNat=true
  ·rw[zqI c4,zqI c4];exact zf rfl (za rfl)
  ·rw[zqu c4,zqu c4];exact zf rfl (za rfl)
 show zt (opt (xr ((mkR L R any last at' s,n,t),())) _) _;rw[hdec,zq];refine za ?_;cases(xc L R any last at' s n t).2<;>rfl
def uT(p:Nat->Bool)(n:Nat):Nat->Nat
 |0=>0
 |k+1=>2*uT p n k+(p (n - 1 - k)).toNat
theorem Pc(p:Nat->Bool)(n:Nat):∀(k m:Nat),k<=n->(uT p n k).testBit m=(decide (m < k)&&p (n - k+m))
 |0,m,_=>by simp[uT]
 |k+1,m,h=>by
  have ih:=Pc p n k;have hb:(p (n - 1 - k)).toNat < 2:=by cases p (n - 1 - k)<;>decide
  cases m with
  |zero=>
   grind[uT]
  |succ m=>
   rw[Nat.testBit_succ];have e:uT p n (k+1) / 2=uT p n k:=by show(2*uT p n k+(p (n - 1 - k)).toNat) / 2=uT p n k;omega
   grind
theorem zhC(p:Nat->Bool)(n:Nat):∀k,uT p n k < 2 ^ k
 |0=>by simp[uT]
 |k+1=>by
  have ih:=zhC p n k;have hb:(p (n - 1 - k)).toNat < 2:=by cases p (n - 1 - k)<;>decide
  grind[uT,Nat.pow_succ]
def gm(s:Nat)(d:Int)(i:Nat):Bool:=(bif zg 0 d then decide (i=0)else decide ((i:Int) = -d))||(decide ((if 0 < d then d else 0)<=(i:Int))&&s.testBit ((i:Int) - (if 0 < d then d else 0)).toNat)
theorem zlf{s L k:Nat}(hs:s < 2 ^ L)(hk:k < L):uT (gm s (-(k:Int))) L L=s||| 2 ^ k:=by refine zsz fun i=>?_;rw[Pc _ _ _ _ (FW _),Nat.testBit_or,Nat.testBit_two_pow];grind[gm,zE,Nat.testBit_lt_two_pow,Nat.lt_of_lt_of_le,Nat.pow_le_pow_right]
theorem zjo{s L k:Nat}(hs:s < 2 ^ 64)(hL:L<=64)(hL1:0 < L)(hk:0 < k):uT (gm s (k:Int)) L L=ahead L s k:=by
 refine zsz fun i=>?_;rw[Pc _ _ _ _ (FW _)];unfold ahead gm;rw[ztz,Nat.testBit_or,zsx,Nat.testBit_mod_two_pow,<-Nat.shiftLeft_eq,Nat.testBit_shiftLeft,zL (by omega)];simp only[show 0 < (k:Int) by omega,zqF,zqJ,ztx,zrr];have h1:Nat.testBit 1 i=decide (i=0):=by
  cases i with
  |zero=>rfl
  |succ i=>rw[Nat.testBit_succ];simp
 grind
theorem zjp{L R:Int}{any:Bool}{last at':Int}{s:Nat}{n t:Int}(hr:GZ L R any last at' s)(hn:inP n 0 65535)(ht:inP t 0 1099511627776):gF (mkR L R any last at' s,n,t,())=some ((xc L R any last at' s n t).1,(xc L R any last at' s n t).2,()):=by
 have hL:=hr.1;obtain⟨l1,l2⟩:=id hL;obtain⟨n1,n2⟩:=id hn;obtain⟨t1,t2⟩:=id ht;have hl:inP last 0 65535:=by
  rcases hr.2.2 with h | h
  ·exact⟨by omega,by omega⟩
  ·exact h.2.1
 have hat:inP at' 0 1099511627776:=by
  rcases hr.2.2 with h | h
  ·exact⟨by omega,by omega⟩
  ·exact h.2.2.1
 obtain⟨a1,a2⟩:=id hat
 obtain⟨b1,b2⟩:=id hl;rw[Ip];unfold px;cases any with
 |true=>
  have e:xc L R true last at' s n t=((L,R,false,n,t,1),true):=by grind[xc]
  rw[e];exact qI (zb (zf rfl (za (zv (za rfl)))))
 |false=>
 have hsL:s < 2 ^ L.toNat:=by rcases hr.2.2 with h | h;all_goals grind
 have hs:s < 2 ^ 64:=zqC hsL (zqY (by decide) (by omega));refine qI (zb (zi rfl ?_));show zt (bif zg R (wrF .i64 (t - at'))then _ else _) _;rw[zU (z:=t - at') (by omega) (by omega)];refine zd (fun h=>za (zv (za ?_))) fun h=>za (zx ?_)
 ·have:=zZ h;grind[xc]
 have c1:¬(false=true∨R < t - at'):=by have:=zP h;simp;omega
 show zt (opt (kM (last,n,())) _) _;rw[zce hl hn,zq];refine zb ?_;show zt (bif(!(zg (wrF .i64 (0 - L)) (dlt last n)))then _ else bif(!(zg (dlt last n) L))then _ else _) _;rw[zU (z:=0 - L) (by omega) (by omega)];refine zd (fun h=>za (zv (za ?_))) fun h=>zd (fun h2=>za (zv (za ?_))) fun h2=>za (zx ?_)
 ·have:=zP (qN.1 h);grind[xc]
 ·have:=zP (qN.1 h2);grind[xc]
 have d1:=zZ (qE.1 h);have d2:=zZ (qE.1 h2);have c2:¬(dlt last n<=-L∨L<=dlt last n):=by omega
 refine zk (J:=fun x=>(x.1=0∧¬(dlt last n<=0∧s.testBit (-dlt last n).toNat=true))∨(x.1=1∧x.2.1.1=mkR L R false last at' s∧x.2.1.2.1=false∧dlt last n<=0∧s.testBit (-dlt last n).toNat=true)) ?_ ?_
 ·refine zd (fun h3=>?_) fun h3=>za (.inl ⟨rfl,fun h=>?_⟩)
  ·have h3:=zP (qN.1 h3);have h3:dlt last n<=0:=h3;show zt (opt (xj ((s:Int),wrF .i64 (0 - dlt last n),())) _) _;rw[zU (by omega) (by omega),show 0 - dlt last n=(((-dlt last n).toNat:Nat):Int) by omega,HI hs (by omega),zq];grind[za,dlt]
  ·have h3:0 < dlt last n:=zZ (qE.1 h3);omega
 rintro⟨c,⟨y1,y2,⟨⟩⟩,⟨⟩⟩ (⟨rfl,hA⟩ | ⟨rfl,rfl,rfl,hA,hB⟩);rotate_left
 ·refine zv (za ?_);grind[xc]
 refine zx (zk (J:=fun x=>x.2.1.1=(if 0 < dlt last n then n else last)) ?_ ?_)
 ·refine zd (fun h3=>za ?_) fun h3=>za ?_
  ·have h3:0 < dlt last n:=zZ h3;rw[zqI h3]
  ·have h3:dlt last n<=0:=zP h3;grind
 rintro⟨c,⟨y3,⟨⟩⟩,⟨⟩⟩ hy;simp only at hy;have hy3:inP y3 0 65535:=by grind
 obtain⟨y4,y5⟩:=id hy3;have hLn:(L.toNat:Int)=L:=by omega
 refine zk (J:=fun x=>x.2.1.1=((uT (gm s (dlt last n)) L.toNat L.toNat:Nat):Int)) (qb L.toNat (fun k st=>st=((((uT (gm s (dlt last n)) L.toNat k:Nat):Int),(L - 1 - k,())),())) (by omega) ?_ ?_ ?_) ?_
 ·grind[wrF,zU,uT]
 ·rintro k _ hk rfl;obtain⟨i,hi⟩:∃i:Nat,L - 1 - k=(i:Int):=⟨(L - 1 - k).toNat,by omega⟩;have hik:L.toNat - 1 - k=i:=by omega
  rw[hi];refine zf (by grind[zE]) ?_;show zt (opt (Zy (y3,wrF .i64 (0 - (i:Int)),())) _) _;rw[zU (by omega) (by omega),zcd (by omega) (by omega) (by omega) (by omega),zq];generalize hm:(y3+(0 - (i:Int))) % 65536=m;have hmP:inP m 0 65535:=⟨by omega,by omega⟩;show zt (opt (kM (last,m,())) _) _;rw[zce hl hmP,zq];have hdm:dlt last m=(if 0 < dlt last n then dlt last n else 0) - i:=by grind[dlt]
  have hmn:m=n↔(bif zg 0 (dlt last n)then decide (i=0)else decide ((i:Int) = -dlt last n))=true:=by grind[dlt,zL,zE]
  have hb : -dlt last m=(i:Int) - (if 0 < dlt last n then dlt last n else 0):=by omega
  have fin:∀b:Bool,b=gm s (dlt last n) i->∀z:Int,z=wrF .u64 ((uT (gm s (dlt last n)) L.toNat k:Nat)*2:Int)->(b=true->zt (some (.inr ((wrF .u64 (z+1),(wrF .i64 ((i:Int) - 1),())),()):(Nat×((Int×(Int×Unit))×Unit)) ⊕ ((Int×(Int×Unit))×Unit))) (Nxt (fun x=>x.2.1.1=((uT (gm s (dlt last n)) L.toNat L.toNat:Nat):Int)) fun st=>st=((((uT (gm s (dlt last n)) L.toNat (k+1):Nat):Int),(L - 1 - ((k+1:Nat):Int),())),())))∧
    (b=false->zt (some (.inr ((z,(wrF .i64 ((i:Int) - 1),())),()):(Nat×((Int×(Int×Unit))×Unit)) ⊕ ((Int×(Int×Unit))×Unit))) (Nxt (fun x=>x.2.1.1=((uT (gm s (dlt last n)) L.toNat L.toNat:Nat):Int)) fun st=>st=((((uT (gm s (dlt last n)) L.toNat (k+1):Nat):Int),(L - 1 - ((k+1:Nat):Int),())),()))):=by
   rintro b hb2 z rfl
   have hlt:=zhC (gm s (dlt last n)) L.toNat (k+1)
   have hle:2 ^ (k+1)<=2 ^ 64:=zqY (by decide) (by omega)
   have hst:uT (gm s (dlt last n)) L.toNat (k+1)=2*uT (gm s (dlt last n)) L.toNat k+b.toNat:=by rw[hb2,<-hik];rfl
   have h64:uT (gm s (dlt last n)) L.toNat (k+1) < 18446744073709551616:=by rw[<-p64];omega
   rw[hst]at h64 ⊢
   generalize uT (gm s (dlt last n)) L.toNat k=q at h64
   grind[wrF,zU,FO,za,qn]
  show zt (bif(!(zg (wrF .i64 (0 - dlt last m)) 0))then bif(zg (wrF .i64 (0 - dlt last m)) L)then _ else _ else _) _;have hdb:=zpz last m;rw[zU (z:=0 - dlt last m) (by omega) (by omega)];have ez:(0 - dlt last m)=(i:Int) - (if 0 < dlt last n then dlt last n else 0):=by omega
  rw[ez];have fin2:=fin _ rfl _ rfl;have step:∀x9:Bool,gm s (dlt last n) i=((bif zg 0 (dlt last n)then decide (i=0)else decide ((i:Int) = -dlt last n))||x9)->(m=n->gm s (dlt last n) i=true)∧(m≠n->gm s (dlt last n) i=x9):=by grind
  refine zd (fun h3=>zd (fun h4=>?_) fun h4=>?_) fun h3=>?_
  ·have h3:=zP (qN.1 h3);obtain⟨j,hj⟩:∃j:Nat,(i:Int) - (if 0 < dlt last n then dlt last n else 0)=(j:Int):=⟨((i:Int) - (if 0 < dlt last n then dlt last n else 0)).toNat,by omega⟩;rw[hj];have h4:=zZ h4;rw[hj]at h4;show zt (opt (xj ((s:Int),(j:Int),())) _) _;rw[HI hs (by omega),zq];have e9:gm s (dlt last n) i=((bif zg 0 (dlt last n)then decide (i=0)else decide ((i:Int) = -dlt last n))||s.testBit j):=by unfold gm;rw[hj,zqO,zsw (p:=(if 0 < dlt last n then dlt last n else 0)<=(i:Int)) (by omega),zrS]
   grind[zb,za,ql,qt,trans]
  ·have h4:=zP h4;omega
  ·have h3:=zZ (qE.1 h3);grind[gm,dlt,zg,decide,decide_eq_false,zb,za,ql,qt]
 ·grind[zL,za,zw]
 rintro⟨c,⟨y6,y7,⟨⟩⟩,⟨⟩⟩ h;simp only at h;subst h;refine za ?_;show((L,(R,(false,(y3,(t,((uT (gm s (dlt last n)) L.toNat L.toNat:Nat):Int)))))),true,())=_;unfold xc;rw[zqu c1,zqu c2];by_cases h:0 < dlt last n
 ·grind[dlt,zjo]
 ·rw[zqI (by omega),zqu fun h2=>hA ⟨by omega,h2⟩,hy,zqu h];obtain⟨k,hk⟩:∃k:Nat,-dlt last n=k:=⟨(-dlt last n).toNat,by omega⟩;rw[show dlt last n = -(k:Int) by omega,zlf hsL (by omega)];grind
end Go.Proofs.YtlfkgkedfciccaaGreat.nd
namespace Go.Proofs.YtlfkgkedfciccaaGreat.nd
open Go Go.Fz Go.Fz.Sy Go.Proofs.YtlfkgkedfciccaaGreat.ad
theorem zjq{c p:Int×Int}{m:Int×Int×Int}(h:UK c p m=0):yK c∧yK p∧inP m.1 0 1099511627776∧inP m.2.1 0 (c.1*1048576)∧inP m.2.2 0 (p.1*1048576):=by grind[zf9,UK,wZ,zjj,wj,Yx,yK,qX,zg]
def ZY(c p:Int×Int)(m:Int×Int×Int)(at':Int):Int×Int:=(wN (c.1*1048576) (m.2.1+c.2*(at' - m.1)),wN (p.1*1048576) (m.2.2+p.2*(at' - m.1)))
def ZZ(c p:Int×Int)(m:Int×Int×Int)(at' size:Int):Int×Int×Int×Int:=bif zg (ZY c p m at').2 (size*1048576)then(2,at',(ZY c p m at').1,(ZY c p m at').2)else bif zg (ZY c p m at').1 (size*1048576)then(1,at',(ZY c p m at').1,(ZY c p m at').2 - size*1048576)else(0,at',(ZY c p m at').1 - size*1048576,(ZY c p m at').2 - size*1048576)
theorem za9{a b:Int}(ha:0<=a)(hb:0<=b):0<=wN a b∧wN a b<=a:=by rw[Km];omega
theorem zhD{c p:Int×Int}{m:Int×Int×Int}{at':Int}(h:UK c p m=0)(h1:m.1<=at')(h2:at'<=1099511627776) : wrF .i64 (at' - m.1)=at' - m.1∧wrF .i64 (c.1*1048576)=c.1*1048576∧wrF .i64 (p.1*1048576)=p.1*1048576∧wrF .i64 (c.2*(at' - m.1))=c.2*(at' - m.1)∧wrF .i64 (p.2*(at' - m.1))=p.2*(at' - m.1)∧wrF .i64 (m.2.1+c.2*(at' - m.1))=m.2.1+c.2*(at' - m.1)∧wrF .i64 (m.2.2+p.2*(at' - m.1))=m.2.2+p.2*(at' - m.1)∧(0<=(ZY c p m at').1∧(ZY c p m at').1<=1099511627776)∧(0<=(ZY c p m at').2∧(ZY c p m at').2<=1099511627776):=by
 obtain⟨hc,hp,⟨m0,m1⟩,⟨m2,m3⟩,⟨m4,m5⟩⟩:=zjq h;have ec:=GX hc;have ep:=GX hp;obtain⟨⟨c0,c1⟩,c2,c3⟩:=hc;obtain⟨⟨p0,p1⟩,p2,p3⟩:=hp;have qc:=QE (show 0<=c.2 by omega) c3 (show 0<=at' - m.1 by omega) (show at' - m.1<=1099511627776 by omega);have qp:=QE (show 0<=p.2 by omega) p3 (show 0<=at' - m.1 by omega) (show at' - m.1<=1099511627776 by omega);refine⟨zU (by omega) (by omega),ec,ep,zU (by omega) (by omega),zU (by omega) (by omega),zU (by omega) (by omega),zU (by omega) (by omega),?_,?_⟩
 ·have:=za9 (a:=c.1*1048576) (b:=m.2.1+c.2*(at' - m.1)) (by omega) (by omega);grind[ZY]
 ·have:=za9 (a:=p.1*1048576) (b:=m.2.2+p.2*(at' - m.1)) (by omega) (by omega);grind[ZY]
theorem zpB{c p:Int×Int}{m:Int×Int×Int}{at' size:Int}(h:UK c p m=0)(h1:m.1<=at')(h2:at'<=1099511627776)(h3:inP size 1 1048576):QA (c,p,m,at',size,())=some ((ZZ c p m at' size).1,(ZZ c p m at' size).2,0,()):=by
 obtain⟨w1,w2,w3,w4,w5,w6,w7,⟨g0,g1⟩,⟨g2,g3⟩⟩:=zhD h h1 h2;obtain⟨s0,s1⟩:=h3;have w8:wrF .i64 (size*1048576)=size*1048576:=zU (by omega) (by omega);have hg:yv (m.2,c,p,at' - m.1,())=some (ZY c p m at',()):=by rw[iP];unfold Uo;rw[md];unfold fo;rw[w2,w3,zq,w4,w5,w6,w7];rfl
 rw[SR];unfold fQ;rw[zf6,h,zq];refine qI (zi rfl (zb (zi (zE (show ¬at' < m.1 by omega)) (zi (zE (by omega)) (zi (zE (by omega)) (zi (zE (by omega)) (za (zx ?_))))))));rw[nu];grind[Wk,zt,opt,yv,wrF,zq,ZZ,zg,ZY,za,zP,zU]
theorem znb{c p:Int×Int}{m:Int×Int×Int}{at' size:Int}(h:UK c p m=0)(h1:m.1<=at')(h2:at'<=1099511627776)(h3:inP size 1 1048576):Yt (c,p,m,at',size,())=some ((ZZ c p m at' size).1,(ZZ c p m at' size).2,0,()):=by obtain⟨w1,w2,w3,w4,w5,w6,w7,⟨g0,g1⟩,⟨g2,g3⟩⟩:=zhD h h1 h2;have hs:=h3;obtain⟨s0,s1⟩:=h3;have w8:wrF .i64 (size*1048576)=size*1048576:=zU (by omega) (by omega);rw[Td];unfold Fv;rw[zb9,h,zq,zf5,zf5,w1,w2,w3,w4,w5,w6,w7,w8,qX (show inP at' m.1 1099511627776 from⟨h1,h2⟩),qX hs];refine qI (zi rfl (zb (zb (za (zi rfl (zb (za (zi rfl (za (zx ?_))))))))));grind[ZZ,zt,zg,ZY,wrF,za,zP,zU]
theorem zlg{a c:Int}(a0:0<=a)(a1:a < 4294967296)(c0:0 < c)(c1:c<=4294967296):JR (a,c,())=some (cl c a,true,()):=by
 have hq:0<=a / c:=zrO a0 (by omega);have hq2:a / c<=a:=zsi _ a0;have hr:=zrc a (show c≠0 by omega);have hr2:=zqV a c0;have hde:=zse a c;have hcl:cl c a=if a % c=0 then a / c else a / c+1:=by
  unfold cl;split
  ·rename_i h;have e:a+c - 1=(c - 1)+(a / c)*c:=by rw[Int.mul_comm _ c];omega
   rw[e,zsp _ _ (by omega),zrV (by omega) (by omega)];omega
  ·rename_i h;have e:a+c - 1=(a % c - 1)+(a / c+1)*c:=by rw[Int.add_mul,Int.mul_comm _ c];omega
   rw[e,zsp _ _ (by omega),zrV (by omega) (by omega)];omega
 have hM:kh (a,())=some (a,()):=by rw[bg];unfold Uy;rw[zE (by omega),zqD,FO (z:=a) (by omega) (by omega)]
 have hM2:kh (-1,())=some (1,()):=by rw[bg];unfold Uy;rw[zL (by omega),zqJ,show(0:Int) - -1=1 from rfl,zU (z:=1) (by omega) (by omega),FO (z:=1) (by omega) (by omega)]
 rw[Ov];unfold Bk;have key:Uz (a,-1,c,())=some (-cl c a,true,()):=by
  rw[SY];unfold Fi;rw[mC (by simp) (by simp;omega)];refine qI (zb (zi (zE (show ¬c < 1 by omega)) (za (zx ?_))));rw[hM,zq,hM2,zq,Cm a0 a1 (by omega) (by omega),zq,FO (z:=c) (by omega) (by omega),Int.mul_one];refine zi (by rw[zL (show(0:Int) < c by omega)];rfl) ?_;rw[Cn a0 (by omega) c0,zq];refine zi (zE (show ¬1125899906842624 < a / c by omega)) ?_;rw[zE (show ¬a < 0 by omega),zL (show(-1:Int) < 0 by omega),hcl];refine zb (zf rfl (zb ?_));rw[zU (z:=a / c) (by omega) (by omega),zU (z:=0 - a / c) (by omega) (by omega),zU (z:=0 - a / c - 1) (by omega) (by omega)];refine zd (fun h2=>za (za ?_)) (fun h2=>za (za ?_))
  ·have:=qt (qN.1 h2);show zt (opt (Zw (0 - a / c - 1,())) _) _;rw[zqu this,mD (by omega) (by omega)];refine za ?_;show(0 - a / c - 1,true,())=(-(a / c+1),true,());rw[show 0 - a / c - 1 = -(a / c+1) by omega]
  ·have:=ql (qE.1 h2);show zt (opt (Zw (0 - a / c,())) _) _;rw[zqI this,mD (by omega) (by omega)];refine za ?_;show(0 - a / c,true,())=(-(a / c),true,());rw[show 0 - a / c = -(a / c) by omega]
 grind[zq,wrF,cl,zdG,zU]
def lvl(b s:Int×Int)(t:Int):Int:=wN (b.1*1048576) (s.2+b.2*(t - s.1))
def elT(b s:Int×Int)(at' size:Int):Int:=jY at' s.1+cl b.2 (jY 0 (size*1048576 - lvl b s (jY at' s.1)))
def gn(b s:Int×Int)(at' size:Int):Int×(Int×Int)×Int:=bif zg b.1 size then(0,(0,0),4)else bif zg 1099511627776 (elT b s at' size)then(0,(0,0),6)else(elT b s at' size,(elT b s at' size,lvl b s (elT b s at' size) - size*1048576),0)
theorem zcf{b s:Int×Int}(hb:yK b)(hs:iz b s):sC b s=0:=by grind[sC,qX]
structure ElB(b s:Int×Int)(at' size:Int):Prop where
 t0:0<=jY at' s.1
 t1:jY at' s.1<=1099511627776
 ts:s.1<=jY at' s.1
 l0:0<=lvl b s (jY at' s.1)
 l1:lvl b s (jY at' s.1)<=1099511627776
 s0:0<=jY 0 (size*1048576 - lvl b s (jY at' s.1))
 s1:jY 0 (size*1048576 - lvl b s (jY at' s.1))<=1616904192
 c0:0<=cl b.2 (jY 0 (size*1048576 - lvl b s (jY at' s.1)))
 c1:cl b.2 (jY 0 (size*1048576 - lvl b s (jY at' s.1)))<=1616904193
 lv:∀t,s.1<=t->t<=1101128531969->wrF .i64 (t - s.1)=t - s.1∧wrF .i64 (b.2*(t - s.1))=b.2*(t - s.1)∧wrF .i64 (s.2+b.2*(t - s.1))=s.2+b.2*(t - s.1)∧0<=lvl b s t∧lvl b s t<=1099511627776
theorem elB{b s:Int×Int}{at' size:Int}(hb:yK b)(hs:iz b s)(h1:inP at' 0 1099511627776)(h2:inP size 84 1542):ElB b s at' size:=by
 obtain⟨⟨b0,b1⟩,b2,b3⟩:=hb;obtain⟨⟨s0,s1⟩,s2,s3⟩:=hs;obtain⟨a0,a1⟩:=h1;obtain⟨z0,z1⟩:=h2;have lv:∀t,s.1<=t->t<=1101128531969->wrF .i64 (t - s.1)=t - s.1∧wrF .i64 (b.2*(t - s.1))=b.2*(t - s.1)∧wrF .i64 (s.2+b.2*(t - s.1))=s.2+b.2*(t - s.1)∧0<=lvl b s t∧lvl b s t<=1099511627776:=by intro t t0 t1;have q:=QE (show 0<=b.2 by omega) b3 (show 0<=t - s.1 by omega) (show t - s.1<=1101128531969 by omega);have:=za9 (a:=b.1*1048576) (b:=s.2+b.2*(t - s.1)) (by omega) (by omega);grind[zU,lvl]
 have hm:=HA at' s.1;have t0:0<=jY at' s.1:=by omega
 have t1:jY at' s.1<=1099511627776:=by omega
 have ts:s.1<=jY at' s.1:=by omega
 obtain⟨_,_,_,l0,l1⟩:=lv _ ts (by omega);have hx:=HA 0 (size*1048576 - lvl b s (jY at' s.1));have c:=zdG (d:=b.2) (w:=jY 0 (size*1048576 - lvl b s (jY at' s.1))) (M:=1616904192) (by omega) (by omega) (by omega);exact⟨t0,t1,ts,l0,l1,by omega,by omega,c.1,by omega,lv⟩
theorem zpC{b s:Int×Int}{at' size:Int}(hb:yK b)(hs:iz b s)(h1:inP at' 0 1099511627776)(h2:inP size 84 1542):xV (b,s,at',size,())=some ((gn b s at' size).1,(gn b s at' size).2.1,(gn b s at' size).2.2,()):=by
 have B:=elB hb hs h1 h2;have eb:=GX hb;obtain⟨_,b2,b3⟩:=id hb;obtain⟨a0,a1⟩:=h1;obtain⟨z0,z1⟩:=h2;have w8:wrF .i64 (size*1048576)=size*1048576:=zU (by omega) (by omega);rw[Cf];unfold fY;rw[zf7,zcf hb hs,zq];refine qI (zi rfl (zb (zi (zE (by omega)) (zi (zE (by omega)) (zi (zE (by omega)) (zi (zE (by omega)) (za (zx ?_))))))));unfold gn;cases e0:zg b.1 size with
 |true=>exact za rfl
 |false=>
  refine zi rfl ?_;have he:Jk (b,s,at',size,())=some (elT b s at' size,(elT b s at' size,lvl b s (elT b s at' size) - size*1048576),()):=by
   rw[Cd];unfold fW;obtain⟨w1,w2,w3,w4,w5⟩:=B.lv _ B.ts (by have:=B.t1;omega);have hl0:=B.l0;have hl1:=B.l1;have hs0:=B.s0;have hs1:=B.s1;have hc0:=B.c0;have hc1:=B.c1;have ht0:=B.t0;have ht1:=B.t1;have hts:=B.ts;rw[w8,eb,w1,w2,w3];show opt (JR (jY 0 (wrF .i64 (size*1048576 - lvl b s (jY at' s.1))),b.2,())) _=_;rw[zU (z:=size*1048576 - lvl b s (jY at' s.1)) (by omega) (by omega),zlg hs0 (by omega) (by omega) (by omega),zq];have hT:wrF .i64 (jY at' s.1+cl b.2 (jY 0 (size*1048576 - lvl b s (jY at' s.1))))=elT b s at' size:=by rw[zU (by omega) (by omega)];rfl
   simp only[hT];have hTb:s.1<=elT b s at' size∧elT b s at' size<=1101128531969:=by unfold elT;omega
   obtain⟨v1,v2,v3,v4,v5⟩:=B.lv _ hTb.1 hTb.2;rw[v1,v2,v3];show some (elT b s at' size,(elT b s at' size,wrF .i64 (lvl b s (elT b s at' size) - size*1048576)),())=_;rw[zU (by omega) (by omega)]
  grind[zq,zt,zg,elT,za]
theorem znc{b s:Int×Int}{at' size:Int}(hb:yK b)(hs:iz b s)(h1:inP at' 0 1099511627776)(h2:inP size 84 1542):Za (b,s,at',size,())=some ((gn b s at' size).1,(gn b s at' size).2.1,(gn b s at' size).2.2,()):=by
 have B:=elB hb hs h1 h2;have eb:=GX hb;obtain⟨_,b2,b3⟩:=id hb;obtain⟨a0,a1⟩:=h1;obtain⟨z0,z1⟩:=h2;have w8:wrF .i64 (size*1048576)=size*1048576:=zU (by omega) (by omega);have hl0:=B.l0;have hl1:=B.l1;have hs0:=B.s0;have hs1:=B.s1;have hc0:=B.c0;have hc1:=B.c1;have ht0:=B.t0;have ht1:=B.t1;have hts:=B.ts;have hlev:∀t,s.1<=t->t<=1101128531969->Zz (b,s,t,())=some (lvl b s t,()):=fun t q1 q2=>by obtain⟨w1,w2,w3,w4,w5⟩:=B.lv t q1 q2;rw[OI];unfold BD;rw[eb,w1,w2,w3];rfl
 rw[Cj];unfold ic;rw[zca,zcf hb hs,zq];refine qI (zi rfl (zb (zi (zE (by omega)) (zi (zE (by omega)) (zi (zE (by omega)) (zi (zE (by omega)) (za (zx ?_))))))));unfold gn;cases e0:zg b.1 size with
 |true=>exact za rfl
 |false=>
  refine zi rfl ?_;rw[hlev _ hts (by omega),zq,w8];show zt (opt (bif zg 0 (wrF .i64 (size*1048576 - lvl b s (jY at' s.1)))then _ else _) _) _;rw[zU (z:=size*1048576 - lvl b s (jY at' s.1)) (by omega) (by omega)];have hx:=HA 0 (size*1048576 - lvl b s (jY at' s.1));have hTb:s.1<=elT b s at' size∧elT b s at' size<=1101128531969:=by unfold elT;omega
  refine zk (J:=fun x=>x.2.1.1=elT b s at' size) ?_ ?_
  ·refine zd (fun h=>?_) fun h=>za ?_
   ·have h:=zZ h;grind[zt,opt,uO,lvl,jY,GU,zq,za,wrF,cl,elT,zU]
   ·have h:=zP h;have e:jY 0 (size*1048576 - lvl b s (jY at' s.1))=0:=by omega
    show jY at' s.1=_;unfold elT;rw[e];have:cl b.2 0=0:=by unfold cl;rw[Int.zero_add];exact zrV (by omega) (by omega)
    omega
  ·rintro⟨c,⟨y1,⟨⟩⟩,⟨⟩⟩ hy;simp only at hy;subst hy;show zt (bif zg 1099511627776 (elT b s at' size)then _ else _) _;cases e1:zg 1099511627776 (elT b s at' size)with
   |true=>exact za rfl
   |false=>
    refine zi rfl ?_;show zt (opt (Zz (b,s,elT b s at' size,())) _) _;rw[hlev _ hTb.1 hTb.2,zq];refine za ?_;obtain⟨v1,v2,v3,v4,v5⟩:=B.lv _ hTb.1 hTb.2;grind[elT,wrF,lvl,zU]
end Go.Proofs.YtlfkgkedfciccaaGreat.nd
namespace Go.Fz.Sy
def WL{α:Type}(l:List α)(P:α->Prop):Prop:=∀(j:Nat) y,l[j]?=some y->¬P y
def vJ{α:Type}(l:List α)(P:α->Prop)(i:Nat):Prop:=(∃x,l[i]?=some x∧P x)∧∀(j:Nat) y,j < i->l[j]?=some y->¬P y
theorem iA{α:Type}(P:α->Prop):∀l:List α,WL l P∨∃i,vJ l P i
 |[]=>.inl fun j y h=>by simp at h
 |x::l=>by
  by_cases hx:P x
  ·exact .inr ⟨0,⟨x,rfl,hx⟩,fun j y hj=>by omega⟩
  ·rcases iA P l with h | ⟨i,⟨y,h1,h2⟩,h3⟩
   ·refine .inl fun j y hj=>?_;cases j with
    |zero=>grind
    |succ j=>exact h j y (by simpa using hj)
   ·refine .inr ⟨i+1,⟨y,by simpa using h1,h2⟩,fun j z hj hz=>?_⟩;grind
theorem Wf{S X α:Type}{B:S->Option (X ⊕ S)}(l:List α)(mk:Nat->S)(P:α->Prop)(J:X->Prop)(hn:l.length<=1000000000000000000)(h:∀(i:Nat) x,i < l.length->l[i]?=some x->zt (B (mk i)) fun r=>(¬P x∧r=.inr (mk (i+1)))∨(P x∧∃y,r=.inl y∧(vJ l P i->J y)))(he:zt (B (mk l.length)) fun r=>∃y,r=.inl y∧(WL l P->J y)){s:S}(hs:s=mk 0):zt (zJ B zR s) J:=by
 refine qb l.length (fun i s=>s=mk i∧∀(j:Nat) y,j < i->l[j]?=some y->¬P y) (zfX hn) ⟨hs,fun j y hj=>by omega⟩ ?_ ?_
 ·rintro i _ hi ⟨rfl,hp⟩;have hx:l[i]?=some l[i]:=FL hi;generalize l[i]=x at hx;obtain⟨r,e,h1⟩:=h i x hi hx;refine⟨r,e,?_⟩;rcases h1 with⟨h1,rfl⟩ | ⟨h1,y,rfl,h2⟩
  ·grind[qn,Nat.lt_or_ge]
  ·exact zw (h2 ⟨⟨x,hx,h1⟩,hp⟩)
 ·rintro _ ⟨rfl,hp⟩;obtain⟨r,e,y,rfl,h2⟩:=he;refine⟨_,e,zw (h2 fun j y hj=>?_)⟩;grind
theorem zcg{α:Type}(l:List α)(d:α):Wp (List.replicate (Int.toNat ((l.length:Nat):Int)) d) l=l:=by unfold Wp;simp_all
end Go.Fz.Sy
namespace Go.Proofs.YtlfkgkedfciccaaGreat.nd
open Go Go.Fz Go.Fz.Sy
def kQ(port:Int)(x:zM)(a:qu):Prop:=a.1=port∧a.2.1=x.1∧a.2.2.1=x.2.2.1
def zgc{α:Type}(l:List α)(P:α->Prop)(z:Int):Prop:=(WL l P∧z = -1)∨∃i:Nat,vJ l P i∧z=i
theorem zpD{α:Type}(l:List α)(P:α->Prop):∃z,zgc l P z:=by
 rcases iA P l with h | ⟨i,h⟩
 ·exact⟨-1,.inl ⟨h,rfl⟩⟩
 ·exact⟨i,.inr ⟨i,h,rfl⟩⟩
theorem iB{α:Type}{l:List α}{P:α->Prop}{y z:Int}(h:zgc l P y)(h2:zgc l P z):y=z:=by
 rcases h with⟨h,rfl⟩ | ⟨i,⟨⟨a,ha,hp⟩,hq⟩,rfl⟩
 ·rcases h2 with⟨_,rfl⟩ | ⟨i,⟨⟨a,ha,hp⟩,_⟩,rfl⟩
  ·rfl
  ·exact absurd hp (h i a ha)
 ·rcases h2 with⟨h,rfl⟩ | ⟨j,⟨⟨b,hb,hp2⟩,hq2⟩,rfl⟩
  ·exact absurd hp (h i a ha)
  grind
theorem zjr{f:zH}{port:Int}{x:zM}{z:Int}(hl:f.1.length<=1000000000000000000)(hz:zgc f.1 (kQ port x) z):wi (f,port,x,())=some (z,()):=by
 rw[Uu];unfold QO;refine qI (zk (J:=fun r=>(r.1=0∧WL f.1 (kQ port x))∨(r.1=1∧∃i:Nat,r.2.1.2.2.1=(i:Int)∧vJ f.1 (kQ port x) i)) (Wf f.1 (fun i=>((port,(x,(0,((i:Int),())))),())) (kQ port x) _ hl ?_ ?_ rfl) ?_)
 ·intro i a hi ha;refine zf (zL (show(i:Int) < (f.1.length:Int) by omega)) (zb (zm ha (zd (fun h1=>zd (fun h2=>zd (fun h3=>za (.inr ⟨⟨ql h1,ql h2,ql h3⟩,_,rfl,fun h=>.inr ⟨rfl,i,rfl,h⟩⟩)) fun h3=>za (.inl ⟨fun h=>qt h3 h.2.2,?_⟩)) fun h2=>za (.inl ⟨fun h=>qt h2 h.2.1,?_⟩)) fun h1=>za (.inl ⟨fun h=>qt h1 h.1,?_⟩))));all_goals rw[zQ (by omega)]
 ·grind[zE,za]
 ·rintro⟨c,⟨y1,y2,y3,y4,⟨⟩⟩,⟨⟩⟩ (⟨rfl,h⟩ | ⟨rfl,i,hi,h⟩)
  ·refine zx (za ?_);rw[iB hz (.inl ⟨h,rfl⟩)]
  ·simp only at hi;subst hi;refine zv (za ?_);rw[iB hz (.inr ⟨i,h,rfl⟩)]
theorem iC{f:zH}{port:Int}{x:zM}{z:Int}(hl:f.1.length<=1000000000000000000)(hz:zgc f.1 (kQ port x) z):uR (f,port,x,())=some (z,()):=by
 rw[Tb];unfold Fs;refine qI (zk (J:=fun r=>(r.1=0∧WL f.1 (kQ port x))∨(r.1=1∧∃i:Nat,r.2.1.1=(i:Int)∧vJ f.1 (kQ port x) i)) (Wf f.1 (fun i=>((0,((i:Int),())),())) (kQ port x) _ hl ?_ ?_ rfl) ?_)
 ·intro i a hi ha;refine zf (zL (show(i:Int) < (f.1.length:Int) by omega)) (zb (zm ha (zb (zd (fun h1=>zd (fun h2=>zd (fun h3=>za (zv (za (.inr ⟨⟨ql h1,ql h2,ql h3⟩,_,rfl,fun h=>.inr ⟨rfl,i,rfl,h⟩⟩)))) fun h3=>za (zx (za (.inl ⟨fun h=>qt h3 h.2.2,?_⟩)))) fun h2=>za (zx (za (.inl ⟨fun h=>qt h2 h.2.1,?_⟩)))) fun h1=>za (zx (za (.inl ⟨fun h=>qt h1 h.1,?_⟩)))))));all_goals rw[zQ (by omega)]
 ·grind[zE,za]
 ·rintro⟨c,⟨y1,y2,⟨⟩⟩,⟨⟩⟩ (⟨rfl,h⟩ | ⟨rfl,i,hi,h⟩)
  ·refine zx (za ?_);rw[iB hz (.inl ⟨h,rfl⟩)]
  ·simp only at hi;subst hi;refine zv (za ?_);rw[iB hz (.inr ⟨i,h,rfl⟩)]
theorem znd{l:List Int}{i:Nat}{z:Int}(hi:i < l.length)(hl:l.length<=1000000):yj (l,(i:Int),z,())=some (l.set i z,()):=by rw[fS];unfold Kk;rw[zcg];have hx:l[i]?=some l[i]:=FL hi;refine qI (zf (zaY (by omega) (by omega) (by omega)) (zb (zm hx (zb (jM (by omega) fun _ _=>za ?_)))));grind
theorem zne{l:List qK}{i:Nat}{z:qK}(hi:i < l.length)(hl:l.length<=1000000):wg (l,(i:Int),z,())=some (l.set i z,()):=by rw[Ut];unfold QM;rw[zcg];have hx:l[i]?=some l[i]:=FL hi;refine qI (zf (zaY (by omega) (by omega) (by omega)) (zb (zm hx (zb (jM (by omega) fun _ _=>za ?_)))));grind
theorem znf{z P:Int}(hP:0 < P)(hz:z < 0):z % P=(P - (-z) % P) % P:=by
 have h:=zse (-z) P;have e:z=(P - (-z) % P)+P*(-(-z / P) - 1):=by grind
 conv=>lhs;rw[e]
 rw[Int.add_mul_emod_self_left]
theorem zp3{z P:Int}(h1 : -10000000000000<=z)(h2:z<=10000000000000)(hP:0 < P)(hP2:P<=2400000):QB (z,P,())=some (z % P,()):=by
 have hr:=zrc z (show P≠0 by omega);have hr2:=zqV z hP;rw[SU];unfold Fb;refine qI (zi (jm (show P≠0 by omega)) (zi (jm (show P≠0 by omega)) (za ?_)));rcases ztb z 0 with h | h
 ·have e1:Int.tmod z P = -((-z) % P):=by
   have:z = -(-z):=by omega
   rw[this,Int.neg_tmod,Int.neg_neg,zqx (by omega)]
  grind[Int.emod_nonneg,Int.emod_lt_of_pos,zU,Int.tmod_eq_emod_of_nonneg,znf]
 ·rw[zqx h,zU (by omega) (by omega),zqx (by omega),Int.add_emod_right,Int.emod_emod]
def JU(a:qu)(last size t:Int):Int×Int:=bif !zj size a.2.2.2.1 then(0,2)else bif zg t a.2.2.2.2.2.1||zg (a.2.2.2.2.2.2 - a.2.2.2.2.2.1) ((t - a.2.2.2.2.2.1) % a.2.2.2.2.1)then(0,3)else bif !zg last ((t - a.2.2.2.2.2.1) / a.2.2.2.2.1)then(0,4)else((t - a.2.2.2.2.2.1) / a.2.2.2.2.1,0)
theorem zlh{a:qu}{last:Int}{x:zM}{t:Int}(ha:GW a)(hc:a.2.2.1=7)(ht:inP t (-1000) 549755813888):Qq (a,last,x,t,())=some ((JU a last x.2.2.2.1 t).1,(JU a last x.2.2.2.1 t).2,()):=by
 obtain⟨_,_,_,h⟩:=ha;rcases h with h | ⟨_,⟨p0,p1⟩,⟨e0,e1⟩,⟨l0,l1⟩,h5,h6⟩
 ·omega
 obtain⟨t0,t1⟩:=ht;generalize hP:a.2.2.2.2.1=P at p0 p1 h6;generalize hE:a.2.2.2.2.2.1=E at e0 e1 h5 h6;generalize hT:a.2.2.2.2.2.2=Lt at l0 l1 h5 h6;rw[su];unfold cH JU;simp only[hP,hE,hT];refine qI ?_;cases hs:(!zj x.2.2.2.1 a.2.2.2.1)with
 |true=>exact za rfl
 |false=>
  refine zi rfl (zi (jm (by omega)) (zb ?_));rw[zU (z:=t - E) (by omega) (by omega)];cases h1:zg t E with
  |true=>exact za (zv (za rfl))
  |false=>
   have h1':=zP h1;have hq:=zrO (show 0<=t - E by omega) (show 0<=P by omega);have hq2:=zsi P (show 0<=t - E by omega);have hde:=zse (t - E) P;have hr:=zrc (t - E) (show P≠0 by omega);have hm:(t - E) / P*P=(t - E) - (t - E) % P:=by grind
   have hr2:=zqV (t - E) (show 0 < P by omega);have hr3:0<=P*((t - E) / P):=Int.mul_nonneg (by omega) hq;rw[zre (by omega),zU (z:=(t - E) / P) (by omega) (by omega),hm,zU (z:=t - E - (t - E) % P) (by omega) (by omega),zU (z:=Lt+(t - E - (t - E) % P)) (by omega) (by omega)];rw[zrR];have e:zg (Lt+(t - E - (t - E) % P)) t=zg (Lt - E) ((t - E) % P):=by grind[wO]
   rw[e];cases h2:zg (Lt - E) ((t - E) % P)with
   |true=>exact za (zv (za rfl))
   |false=>
    refine za (zx ?_);grind[zg,za]
end Go.Proofs.YtlfkgkedfciccaaGreat.nd
namespace Go.Proofs.YtlfkgkedfciccaaGreat.nd
open Go Go.Fz Go.Fz.Sy
abbrev atT(f:zH)(t:Int):zH:=(f.1,(f.2.1,(t,f.2.2.2)))
abbrev zpE(f:zH)(i:Nat)(z:Int):zH:=(f.1,(f.2.1,(f.2.2.1,(f.2.2.2.1.set i z,f.2.2.2.2))))
abbrev zpF(f:zH)(i:Nat)(z:qK):zH:=(f.1,(f.2.1,(f.2.2.1,(f.2.2.2.1,f.2.2.2.2.set i z))))
theorem zng{f:zH}{t:Int}(hf:Zd f)(h1:f.2.2.1<=t)(h2:t<=549755813888):Zd (atT f t):=by obtain⟨a,⟨b0,b1⟩,c,d,e,g⟩:=hf;refine⟨a,⟨by grind,h2⟩,c,d,e,fun k p hk=>?_⟩;obtain⟨m,h3,h4,h5⟩:=g k p hk;exact⟨m,h3,h4,by grind⟩
theorem zli{f:zH}{i:Nat}{a:qu}{z:Int}(hf:Zd f)(ha:f.1[i]?=some a)(hc:a.2.2.1≠6)(hz:0<=z):Zd (zpE f i z):=by obtain⟨h1,h2,c,d,e,g⟩:=hf;refine⟨h1,h2,by show(f.2.2.2.1.set i z).length=_;rw[zrX];exact c,d,fun k b hk=>?_,g⟩;grind[za8,set,List.getElem?_eq_some_iff]
structure zqm(f:zH):Prop where
 la:f.1.length<=64
 lp:f.2.1.length<=64
 ll:f.2.2.2.1.length=f.1.length
 lm:f.2.2.2.2.length=f.2.1.length
theorem VV{f:zH}(h:Zd f):zqm f:=⟨h.1.1,h.1.2.1,h.2.2.1,h.2.2.2.1⟩
def UM(f:zH)(i:Nat)(a:qu)(last size t:Int):zH×Int:=bif zj a.2.2.1 6 then(f,bif zg a.2.2.2.1 size then 2 else 0)else(bif zj (JU a last size t).2 0 then zpE f i (JU a last size t).1 else f,(JU a last size t).2)
theorem zgd{a:qu}(h:GW a):a.2.2.1=6∨a.2.2.1=7:=by obtain⟨_,_,_,h⟩:=h;omega
theorem zge{f:zH}{port:Int}{x:zM}{i:Nat}{a:qu}{last:Int}(hf:Zd f)(hi:vJ f.1 (kQ port x) i)(ha:f.1[i]?=some a)(hl:f.2.2.2.1[i]?=some last) : jf f (port,x,f.2.2.1,())=some ((UM f i a last x.2.2.2.1 f.2.2.1).1,(UM f i a last x.2.2.2.1 f.2.2.1).2,()):=by
 have B:=VV hf;obtain⟨t0,t1⟩:=hf.2.1;have hacc:=(hf.1.2.2.1 i a ha).1;rw[QC];unfold vi;rw[zjr (by have:=B.la;omega) (.inr ⟨i,hi,rfl⟩),zq];refine qI (zi (zE (show ¬(i:Int) < 0 by omega)) (zb (zm ha ?_)));unfold UM;cases hc:zj a.2.2.1 6 with
 |true=>
  grind[zg,za]
 |false=>
  refine zi rfl ?_;obtain⟨_,_,_,h⟩:=hacc;rcases h with h | ⟨h7,⟨p0,p1⟩,⟨e0,e1⟩,⟨l0,l1⟩,h5,h6⟩
  ·exact absurd h.1 (qt hc)
  unfold JU;generalize hP:a.2.2.2.2.1=P at p0 p1 h6;generalize hE:a.2.2.2.2.2.1=E at e0 e1 h5 h6;generalize hT:a.2.2.2.2.2.2=Lt at l0 l1 h5 h6;generalize ht:f.2.2.1=t at t0 t1;rw[zU (z:=t - E) (by omega) (by omega),zp3 (by omega) (by omega) p0 p1,zq];have hr:=zrc (t - E) (show P≠0 by omega);have hr2:=zqV (t - E) (show 0 < P by omega);have hde:=zse (t - E) P;have e1:t - E - (t - E) % P=P*((t - E) / P):=by omega
  have hqb : -2000000000000<=(t - E) / P∧(t - E) / P<=2000000000000:=by
   constructor
   ·exact Int.le_ediv_of_mul_le (by omega) (by omega)
   ·have h8:(t - E) / P < 2000000000001:=Int.ediv_lt_of_lt_mul (by omega) (by omega);omega
  rw[zU (z:=t - E - (t - E) % P) (by omega) (by omega)];show zt (bif zj P 0 then none else _) _;rw[e1,Int.mul_tdiv_cancel_left _ (show P≠0 by omega),zU (z:=(t - E) / P) (by omega) (by omega),zU (z:=Lt - E) (by omega) (by omega)];have hneg:(t - E) / P < 0↔t < E:=by rw[Int.ediv_lt_iff_lt_mul (by omega)];omega
  have hsp:∀b:Bool,zg ((t - E) / P) 0=zg t E:=fun _=>by grind[wO]
  generalize hq:(t - E) / P=q at hqb hneg hsp;generalize (t - E) % P=r at hr hr2;refine zi (jm (by omega)) (zk (J:=fun z=>z.2.1.1=(bif !zj x.2.2.2.1 a.2.2.2.1 then(0,2)else bif zg t E||zg (Lt - E) r then(0,3)else bif !zg last q then(0,4)else(q,(0:Int))).2) ?_ ?_)
  ·rw[hsp true];refine qb 3 (fun k st=>st=((0,((k:Int),())),())∧(1<=k->(!zj x.2.2.2.1 a.2.2.2.1)=false)∧(2<=k->(zg t E||zg (Lt - E) r)=false)∧(3<=k->(!zg last q)=false)) (by omega) ⟨rfl,by omega,by omega,by omega⟩ ?_ ?_
   ·rintro k _ hk ⟨rfl,q1,q2,q3⟩;refine zf (zL (show(k:Int) < 3 by omega)) ?_
    match k,hk with
    |0,_=>
     refine zf (wZ rfl) ?_;cases hb:(!zj x.2.2.2.1 a.2.2.2.1)with
     |true=>exact za (zw rfl)
     |false=>exact za (qn ⟨rfl,fun _=>rfl,by omega,by omega⟩)
    |1,_=>
     refine zi (jm (by simp)) (zf (wZ rfl) ?_);rw[q1 (by omega)];cases hb:zg t E with
     |true=>exact za (zw rfl)
     |false=>
      cases hb2:zg (Lt - E) r with
      |true=>exact zi rfl (za (zw rfl))
      |false=>exact zi rfl (za (qn ⟨rfl,fun _=>rfl,fun _=>rfl,by omega⟩))
    |2,_=>
     refine zi (jm (by simp)) (zi (jm (by simp)) (zf (wZ rfl) (zb (zm hl ?_))));rw[q1 (by omega),q2 (by omega)];cases hb:(!zg last q)with
     |true=>exact za (zw rfl)
     |false=>exact za (qn ⟨rfl,fun _=>rfl,fun _=>rfl,fun _=>rfl⟩)
   grind[zE,za,zw]
  ·rintro⟨c,⟨y1,y2,⟨⟩⟩,⟨⟩⟩ hy;simp only at hy;subst hy;have hset:yj (f.2.2.2.1,(i:Int),q,())=some (f.2.2.2.1.set i q,()):=znd (zqr.1 hl).1 (by have:=B.ll;have:=B.la;omega);grind[zj,zb,jm,za,zg,wZ,zq]
def sG(f:zH)(i:Nat)(p:jP)(m:qK)(size:Int):zH×Int:=(zpF f i (ZZ p.2.1 p.2.2 m (f.2.2.1+1000) size).2,bif zj (ZZ p.2.1 p.2.2 m (f.2.2.1+1000) size).1 2 then 5 else 0)
def du(port:Int)(p:jP):Prop:=p.1=port
theorem FP{f:zH}{port:Int}(hl:f.2.1.length<=64):zt (zJ (fun s0:((Int×(Int×(Int×Unit)))×Unit)=>bif(zg (s0.1.2.2.1) ((((f.2.1).length:Nat):Int)))then opt (atI (f.2.1) (s0.1.2.2.1)) fun x1=>bif(zj (x1.1) (s0.1.1))then some (.inl (1,((s0.1.1,(s0.1.2.2.1,(s0.1.2.2.1,()))),())))else some (.inr ((s0.1.1,(s0.1.2.1,((wrF .i64 ((s0.1.2.2.1+1))),()))),()))else some (.inl (0,((s0.1.1,(s0.1.2.1,(s0.1.2.2.1,()))),())))) zR ((port,(0,(0,()))),())) fun r=>((r.1:Nat)=0∧WL f.2.1 (du port))∨(r.1=1∧∃i:Nat,r.2.1.2.1=(i:Int)∧vJ f.2.1 (du port) i):=by
 refine Wf f.2.1 (fun i=>((port,(0,((i:Int),()))),())) (du port) _ (by omega) ?_ ?_ rfl
 ·intro i a hi ha;refine zf (zL (show(i:Int) < (f.2.1.length:Int) by omega)) (zb (zm ha (zd (fun h1=>za (.inr ⟨ql h1,_,rfl,fun h=>.inr ⟨rfl,i,rfl,h⟩⟩)) fun h1=>za (.inl ⟨fun h=>qt h1 h,?_⟩))));rw[zQ (by omega)]
 grind[zE,za]
theorem sH{α:Type}{l:List α}{P:α->Prop}{i j:Nat}(h:vJ l P i)(h2:vJ l P j):i=j:=by obtain⟨⟨a,ha,hp⟩,hq⟩:=h;obtain⟨⟨b,hb,hp2⟩,hq2⟩:=h2;grind
theorem zlj{f:zH}{port:Int}{x:zM}{i:Nat}{p:jP}{m:qK}(hf:Zd f)(hx:Xf x)(hi:vJ f.2.1 (du port) i)(hp:f.2.1[i]?=some p)(hm:f.2.2.2.2[i]?=some m) : jG f (port,x,f.2.2.1,())=some ((sG f i p m x.2.2.2.1).1,(sG f i p m x.2.2.2.1).2,()):=by
 have B:=VV hf;obtain⟨t0,t1⟩:=hf.2.1;obtain⟨m',h1,h2,h3⟩:=hf.2.2.2.2.2 i p hp;rw[hm]at h1;cases h1;obtain⟨z0,z1⟩:=hx.2.2.2.1;rw[WD];unfold uH;refine qI (zk (FP B.lp) ?_);rintro⟨c,⟨y1,y2,y3,⟨⟩⟩,⟨⟩⟩ (⟨rfl,h⟩ | ⟨rfl,j,hj,h⟩)
 ·obtain⟨⟨q,hq,hq2⟩,_⟩:=hi;exact absurd hq2 (h i q hq)
 simp only at hj;subst hj;have:=sH h hi;subst this;refine zv (zi (zE (show ¬(j:Int) < 0 by omega)) (zb (zm hp (zb (zm hm ?_)))));rw[zU (z:=f.2.2.1+1000) (by omega) (by omega),zpB h2 (by omega) (by omega) ⟨by omega,by omega⟩,zq];refine zi rfl ?_;show zt (opt (wg (f.2.2.2.2,(j:Int),(ZZ p.2.1 p.2.2 m (f.2.2.1+1000) x.2.2.2.1).2,())) _) _;rw[zne (zqr.1 hm).1 (by have:=B.lm;have:=B.lp;omega),zq];grind[sG,zt,zj,ZZ,za]
theorem zlk{f:zH}{port:Int}{x:zM}(hf:Zd f)(hi:WL f.2.1 (du port)):jG f (port,x,f.2.2.1,())=some (f,0,()):=by
 have B:=VV hf;rw[WD];unfold uH;refine qI (zk (FP B.lp) ?_);rintro⟨c,⟨y1,y2,y3,⟨⟩⟩,⟨⟩⟩ (⟨rfl,h⟩ | ⟨rfl,j,hj,⟨q,hq,hq2⟩,h⟩)
 ·exact zx (za rfl)
 ·exact absurd hq2 (hi j q hq)
theorem zgf{f:zH}{port:Int}{x:zM}(hf:Zd f)(hi:WL f.1 (kQ port x)):jf f (port,x,f.2.2.1,())=some (f,1,()):=by have B:=VV hf;rw[QC];unfold vi;rw[zjr (by have:=B.la;omega) (.inl ⟨hi,rfl⟩),zq];grind[qI,zL,za]
theorem znh{f:zH}{port:Int}{x:zM}{t:Int}(hf:Zd f)(hc:x.2.2.1<=5)(hi:WL f.2.1 (du port)):xa (f,port,x,t,())=some (atT f t,0,()):=by
 have B:=VV hf;have hlp:=B.lp;rw[WE];unfold Yu;refine qI (zf (by rw[zE (by omega)];rfl) (zk (J:=fun r=>r.1=0∧r.2.1.1=atT f t) (Wf f.2.1 (fun i=>((atT f t,(([],([],(0,([],[])))),(0,((i:Int),())))),())) (du port) _ (by omega) ?_ ?_ rfl) ?_))
 ·intro i a hi' ha;refine zf (zL (show(i:Int) < (f.2.1.length:Int) by omega)) (zb (zm ha ?_));have hna:¬a.1=port:=hi i a ha;refine zf (by grind[jm]) (za (.inl ⟨hna,?_⟩));rw[zQ (by omega)]
 ·grind[zE,za]
 ·rintro⟨c,⟨y1,y2,y3,y4,⟨⟩⟩,⟨⟩⟩ ⟨h1,h2⟩;simp only at h1 h2;subst h1 h2;exact zx (za rfl)
theorem zni{f:zH}{port:Int}{x:zM}{t:Int}{i:Nat}{p:jP}{m:qK}(hf:Zd (atT f t))(hx:Xf x)(hc:x.2.2.1<=5)(hi:vJ f.2.1 (du port) i)(hp:f.2.1[i]?=some p)(hm:f.2.2.2.2[i]?=some m) : xa (f,port,x,t,())=some ((sG (atT f t) i p m x.2.2.2.1).1,(sG (atT f t) i p m x.2.2.2.1).2,()):=by
 have B:=VV hf;have hlp:f.2.1.length<=64:=B.lp;have hlm:f.2.2.2.2.length=f.2.1.length:=B.lm;obtain⟨t0,t1⟩:=hf.2.1;have t0 : -1000<=t:=t0;have t1:t<=549755813888:=t1;obtain⟨m',h1,h2,h3⟩:=hf.2.2.2.2.2 i p hp;have h1:f.2.2.2.2[i]?=some m':=h1;rw[hm]at h1;cases h1;have h3:m.1<=t+1000:=h3;obtain⟨z0,z1⟩:=hx.2.2.2.1;obtain⟨⟨p',hp',hpp⟩,hq⟩:=hi;rw[hp]at hp';cases hp';have hil:i < f.2.1.length:=(zqr.1 hp).1;have hdis:∀(k:Nat) q,i < k->f.2.1[k]?=some q->¬q.1=port:=fun k q hk hkq e=>(hf.1.2.2.2 k q hkq).2 i p hk hp (by show p.1=q.1;rw[e];exact hpp);rw[WE];unfold Yu;generalize hG:zpF (atT f t) i (ZZ p.2.1 p.2.2 m (t+1000) x.2.2.2.1).2=G;have hG1:G.2.1=f.2.1:=by rw[<-hG]
 refine qI (zf (by rw[zE (by omega)];rfl) (zk (J:=fun r=>(r.1=0∧r.2.1.1=G∧zj (ZZ p.2.1 p.2.2 m (t+1000) x.2.2.2.1).1 2=false)∨(r.1=1∧r.2.1.2.1=G∧r.2.1.2.2.1=5∧zj (ZZ p.2.1 p.2.2 m (t+1000) x.2.2.2.1).1 2=true))
  (qb f.2.1.length (fun k st=>st=(((if k<=i then atT f t else G),(([],([],(0,([],[])))),(0,((k:Int),())))),())∧(i < k->zj (ZZ p.2.1 p.2.2 m (t+1000) x.2.2.2.1).1 2=false)) (by omega) ⟨by grind,by omega⟩ ?_ ?_) ?_))
 ·rintro k _ hk ⟨rfl,hred⟩;have hy:f.2.1[k]?=some f.2.1[k]:=FL hk;generalize f.2.1[k]=q at hy;by_cases hki:k=i
  ·subst hki;rw[hp]at hy;cases hy;rw[zqI (FW k)];refine zf (zL (show(k:Int) < (f.2.1.length:Int) by omega)) (zb (zm hp (zi (by rw[wZ (show p.1=port from hpp)];rfl) (zb (zm hm ?_)))));show zt (opt (Yt (p.2.1,p.2.2,m,wrF .i64 (t+1000),x.2.2.2.1,())) _) _;rw[zU (z:=t+1000) (by omega) (by omega),znb h2 h3 (by omega) ⟨by omega,by omega⟩,zq];grind[qF,zb,zm,jM,set,ZZ,Int.toNat_natCast,za,zw,qn,wrF,zQ]
  ·have hne:¬q.1=port:=by
    rcases zry k i with h4 | h4
    ·exact hq k q h4 hy
    ·exact hdis k q (by omega) hy
   have e1:∀F:zH,F.2.1=f.2.1->(k < i∨i < k)->F=(if k<=i then atT f t else G)->zt (bif(zg (k:Int) ((F.2.1.length:Nat):Int))then opt (atI F.2.1 (k:Int)) fun x1=>
      bif(!(zj x1.1 port))then(some (.inr ((F,(([],([],(0,([],[])))),(0,(wrF .i64 ((k:Int)+1),())))),())):Option ((Nat×((zH×(zH×(Int×(Int×Unit))))×Unit)) ⊕ ((zH×(zH×(Int×(Int×Unit))))×Unit)))
      else none else none) fun r=>∃s,r=.inr s∧s=(((if k+1<=i then atT f t else G),(([],([],(0,([],[])))),(0,(((k+1:Nat):Int),())))),()):=fun F e h5 h6=>by
    rw[e]
    refine zf (zL (by omega)) (zb (zm hy (zf (by rw[jm hne];rfl) (za ⟨_,rfl,?_⟩))))
    rw[zQ (by omega),h6]
    rcases h5 with h5 | h5
    ·rw[zqI (by omega),zqI (by omega)]
    ·rw[zqu (by omega),zqu (by omega)]
   grind[zL,zb,zm,jm,za,qn,wrF,zQ,Nat.lt_or_ge]
 ·grind[zE,za,zw]
 ·rintro⟨c,⟨y1,y2,y3,y4,⟨⟩⟩,⟨⟩⟩ (⟨h4,h5,h6⟩ | ⟨h4,h5,h6,h7⟩)
  ·simp only at h4 h5;subst h4 h5;refine zx (za ?_);grind[sG,ZZ,zj]
  ·simp only at h4 h5 h6;subst h4 h5 h6;refine zv (za ?_);grind[sG,ZZ,zj]
theorem zll{f:zH}{port:Int}{x:zM}{t:Int}(hf:Zd f)(hc:5 < x.2.2.1)(hi:WL f.1 (kQ port x)):xa (f,port,x,t,())=some (atT f t,1,()):=by have B:=VV hf;rw[WE];unfold Yu;refine qI (zi (by rw[zL hc];rfl) ?_);rw[iC (f:=(f.1,(f.2.1,(t,f.2.2.2)))) (by have:=B.la;show f.1.length<=_;omega) (.inl ⟨hi,rfl⟩),zq];grind[zL,za]
theorem znj{f:zH}{port:Int}{x:zM}{t:Int}{i:Nat}{a:qu}{last:Int}(hf:Zd (atT f t))(hc:5 < x.2.2.1)(hi:vJ f.1 (kQ port x) i)(ha:f.1[i]?=some a)(hl:f.2.2.2.1[i]?=some last) : xa (f,port,x,t,())=some ((UM (atT f t) i a last x.2.2.2.1 t).1,(UM (atT f t) i a last x.2.2.2.1 t).2,()):=by
 have B:=VV hf;have hla:f.1.length<=64:=B.la;have hll:f.2.2.2.1.length=f.1.length:=B.ll;have hil:i < f.2.2.2.1.length:=(zqr.1 hl).1;have hacc:=(hf.1.2.2.1 i a ha).1;rw[WE];unfold Yu;refine qI (zi (by rw[zL hc];rfl) ?_);rw[iC (f:=(f.1,(f.2.1,(t,f.2.2.2)))) (by grind) (.inr ⟨i,hi,rfl⟩),zq];refine zi (zE (show ¬(i:Int) < 0 by omega)) (zb (zm ha ?_));unfold UM;cases h6:zj a.2.2.1 6 with
 |true=>
  grind[zg,za]
 |false=>
  refine zi rfl (zb (zm hl ?_));have h7:a.2.2.1=7:=by
   rcases zgd hacc with h | h
   ·exact absurd h (qt h6)
   ·exact h
  rw[zlh hacc h7 ⟨hf.2.1.1,hf.2.1.2⟩,zq];grind[zt,opt,zj,JU,zb,qF,zm,jM,za,set,Int.toNat_natCast]
theorem zlm{a:qu}{last size t:Int}(ha:GW a)(h7:a.2.2.1=7)(h:(JU a last size t).2=0):0<=(JU a last size t).1:=by
 obtain⟨_,_,_,h8⟩:=ha;rcases h8 with h8 | ⟨_,⟨p0,p1⟩,_⟩
 ·omega
 unfold JU at h ⊢;cases h1:(!zj size a.2.2.2.1)with
 |true=>rw[h1]at h;cases h
 |false=>
  rw[h1]at h;cases h2:(zg t a.2.2.2.2.2.1||zg (a.2.2.2.2.2.2 - a.2.2.2.2.2.1) ((t - a.2.2.2.2.2.1) % a.2.2.2.2.1))with
  |true=>rw[h2]at h;cases h
  |false=>
   rw[h2]at h;simp only[zrI]at h2;have:=zP h2.1;cases h3:(!zg last ((t - a.2.2.2.2.2.1) / a.2.2.2.2.1))with
   |true=>rw[h3]at h;cases h
   |false=>exact zrO (by omega) (by omega)
theorem zpG{f:zH}{port:Int}{x:zM}{t:Int}(hf:Zd f)(hp:inP port 0 47)(hx:Xf x)(ht1:f.2.2.1<=t)(ht2:t<=549755813888) : ∃g v,vR (f,port,x,t,())=some (g,v,0,())∧xa (f,port,x,t,())=some (g,v,())∧g.1=f.1∧g.2.1=f.2.1∧g.2.2.2.1.length=f.2.2.2.1.length∧g.2.2.2.2.length=f.2.2.2.2.length∧(5 < x.2.2.1->Zd g∧(v=0->∃i a,vJ f.1 (kQ port x) i∧f.1[i]?=some a)):=by
 have hT:=zng hf ht1 ht2;have B:=VV hf;have hPass:∀g v,(bif zj x.2.2.1 7 then jf (atT f t) (port,x,t,())else bif zj x.2.2.1 6 then jf (atT f t) (port,x,t,())else jG (atT f t) (port,x,t,()))=some (g,v,())->vR (f,port,x,t,())=some (g,v,0,()):=by intro g v hy;rw[Oi];unfold bO;rw[OZ f (by have:=B.la;omega) (by have:=B.lp;omega),qX hf,zq,GV,qX hp,zq,zhA,qX hx,zq,GV,qX (show inP t f.2.2.1 549755813888 from⟨ht1,ht2⟩),zq];refine qI (zi rfl (zi rfl (zi rfl (zi rfl ?_))));grind[zj,zq,za]
 obtain⟨c0,c1⟩:=hx.2.2.1;rcases ztb 5 x.2.2.1 with hc | hc
 ·have hsel:∀A B:Option (zH×(Int×Unit)),(bif zj x.2.2.1 7 then A else bif zj x.2.2.1 6 then A else B)=A:=fun A B=>by grind[wZ,jm]
  rcases iA (kQ port x) f.1 with hn | ⟨i,hi⟩
  ·have e0:jf (atT f t) (port,x,t,())=some (atT f t,1,()):=zgf hT hn;exact⟨atT f t,1,hPass _ _ (by rw[hsel];exact e0),zll hf hc hn,rfl,rfl,rfl,rfl,fun _=>⟨hT,fun h=>absurd h (by decide)⟩⟩
  ·obtain⟨⟨a,ha,hma⟩,hq⟩:=id hi;obtain⟨last,hl,_⟩:=hf.2.2.2.2.1 i a ha;have e1:jf (atT f t) (port,x,t,())=some ((UM (atT f t) i a last x.2.2.2.1 t).1,(UM (atT f t) i a last x.2.2.2.1 t).2,()):=zge hT hi ha hl;have hacc:=(hf.1.2.2.1 i a ha).1;refine⟨_,_,hPass _ _ (by rw[hsel];exact e1),znj hT hc hi ha hl,?_⟩;show(UM (atT f t) i a last x.2.2.2.1 t).1.1=f.1∧(UM (atT f t) i a last x.2.2.2.1 t).1.2.1=f.2.1∧(UM (atT f t) i a last x.2.2.2.1 t).1.2.2.2.1.length=f.2.2.2.1.length∧(UM (atT f t) i a last x.2.2.2.1 t).1.2.2.2.2.length=f.2.2.2.2.length∧(5 < x.2.2.1->Zd (UM (atT f t) i a last x.2.2.2.1 t).1∧_);unfold UM;cases h6:zj a.2.2.1 6 with
   |true=>grind
   |false=>
    have h7:a.2.2.1=7:=by grind[zgd,qt]
    cases h8:zj (JU a last x.2.2.2.1 t).2 0 with
    |false=>grind
    |true=>exact⟨rfl,rfl,by grind,rfl,fun _=>⟨zli hT ha (qt h6) (zlm hacc h7 (ql h8)),fun _=>⟨i,a,hi,ha⟩⟩⟩
 ·have hsel:∀A B:Option (zH×(Int×Unit)),(bif zj x.2.2.1 7 then A else bif zj x.2.2.1 6 then A else B)=B:=fun A B=>by grind[jm]
  rcases iA (du port) f.2.1 with hn | ⟨i,hi⟩
  ·have e0:jG (atT f t) (port,x,t,())=some (atT f t,0,()):=zlk hT hn;exact⟨atT f t,0,hPass _ _ (by rw[hsel];exact e0),znh hf hc hn,rfl,rfl,rfl,rfl,fun h=>absurd h (by omega)⟩
  ·obtain⟨⟨p,hp2,hpp⟩,hq⟩:=id hi;obtain⟨m,hm,_⟩:=hf.2.2.2.2.2 i p hp2;have e1:jG (atT f t) (port,x,t,())=some ((sG (atT f t) i p m x.2.2.2.1).1,(sG (atT f t) i p m x.2.2.2.1).2,()):=zlj hT hx hi hp2 hm;refine⟨_,_,hPass _ _ (by rw[hsel];exact e1),zni hT hx hc hi hp2 hm,rfl,rfl,rfl,?_,fun h=>absurd h (by omega)⟩;show(f.2.2.2.2.set i _).length=_;rw[zrX]
def Xg(r:qg):Prop:=0<=r.2.2.2.2.2∧r.2.2.2.2.2 < 18446744073709551616
def zba(r:qg):Prop:=GZ r.1 r.2.1 r.2.2.1 r.2.2.2.1 r.2.2.2.2.1 r.2.2.2.2.2.toNat
theorem pF{r:qg}(h:Xg r):r=mkR r.1 r.2.1 r.2.2.1 r.2.2.2.1 r.2.2.2.2.1 r.2.2.2.2.2.toNat∧r.2.2.2.2.2.toNat < 2 ^ 64:=by obtain⟨h1,h2⟩:=h;grind
theorem zoR{r:qg}(h:Xg r):ka (r,())=some (bif tv (zba r)then 0 else 500,()):=by obtain⟨e,h2⟩:=pF h;rw[e];exact zga _ _ _ _ _ h2
theorem znk{r:qg}(h:Xg r):kD (r,())=some (tv (zba r),()):=by obtain⟨e,h2⟩:=pF h;rw[e];exact zcc _ _ _ _ _ h2
structure gp(s:zI):Prop where
 la:s.2.1.1.length<=1000000000000000000
 lp:s.2.1.2.1.length<=1000000000000000000
 lr:s.2.2.2.2.length<=1000000000000
 wr:∀(k:Nat) r,s.2.2.2.2[k]?=some r->Xg r
def zp4(s:zI):Prop:=∀(k:Nat) o,s.2.2.1[k]?=some o->∃a,s.2.1.1[k]?=some a∧FN a o
def zp5(s:zI):Prop:=∀(k:Nat) x,s.2.2.2.1[k]?=some x->OW x s.2.2.2.2.length
def zp6(s:zI):Prop:=∀(k:Nat) r,s.2.2.2.2[k]?=some r->zba r
def UN(s:zI):Prop:=inP s.1 (-1000) 1000∧Zd s.2.1∧s.2.2.1.length=s.2.1.1.length∧s.2.2.2.1.length<=24∧zp4 s∧zp5 s∧zp6 s
theorem zhE{s:zI}(W:gp s):wS (s,())=some (bif tv (UN s)then 0 else 521,()):=by
 have hlr:=W.lr;rw[BR];unfold fE;simp only[OZ _ W.la W.lp,zla,zq,pD (e:=430) (by decide)];refine Qh (by decide) (zb (zd (fun h1=>za (zv (za (.inr ⟨fun h=>?_,rfl⟩)))) fun h1=>zd (fun h2=>za (zv (za (.inr ⟨fun h=>?_,rfl⟩)))) fun h2=>zd (fun h3=>za (zv (za (.inr ⟨fun h=>jZ h3 h.2.1,rfl⟩)))) fun h3=>zd (fun h4=>za (zv (za (.inr ⟨fun h=>qt (qN.1 h4) (by have:=h.2.2.1;omega),rfl⟩)))) fun h4=>zd (fun h5=>za (zv (za (.inr ⟨fun h=>?_,rfl⟩)))) fun h5=>za (zx ?_)))
 ·have:=zZ h1;have:=h.1.1;omega
 ·have:=zZ h2;have:=h.1.2;omega
 ·have:=zZ h5;have:=h.2.2.2.1;omega
 have h1:=zP h1;have h2:=zP h2;have h3:=wD h3;have h4:=ql (qE.1 h4);have h5:=zP h5;have hla:=(VV h3).la;refine zk (jS (521:Int) s.2.2.1.length (fun k=>∃o,s.2.2.1[k]?=some o∧∃a,s.2.1.1[k]?=some a∧FN a o) (by omega) ?_ ?_) ?_
 ·intro i hi;have hx:s.2.2.1[i]?=some s.2.2.1[i]:=FL hi;generalize s.2.2.1[i]=o at hx;have hj:i < s.2.1.1.length:=by omega
  have hy:s.2.1.1[i]?=some s.2.1.1[i]:=FL hj;grind[zL,zb,zm,za,wD,jZ,zQ]
 ·grind[zE,za]
 rintro⟨c,⟨y1,y2,⟨⟩⟩,⟨⟩⟩ (⟨rfl,rfl,hA⟩ | ⟨rfl,rfl,hA⟩);rotate_left
 ·exact zv (za (.inr ⟨fun h=>hA (yk.2 h.2.2.2.2.1),rfl⟩))
 refine zx (zk (jS (521:Int) s.2.2.2.1.length (fun k=>∃x,s.2.2.2.1[k]?=some x∧OW x s.2.2.2.2.length) (by omega) ?_ ?_) ?_)
 ·intro i hi;have hx:s.2.2.2.1[i]?=some s.2.2.2.1[i]:=FL hi;grind[zL,zb,zm,zpx,zq,za,wD,jZ,zQ]
 ·grind[zE,za]
 rintro⟨c,⟨y1,y2,⟨⟩⟩,⟨⟩⟩ (⟨rfl,rfl,hB⟩ | ⟨rfl,rfl,hB⟩);rotate_left
 ·exact zv (za (.inr ⟨fun h=>hB (yk.2 h.2.2.2.2.2.1),rfl⟩))
 refine zx (zk (jS (521:Int) s.2.2.2.2.length (fun k=>∃r,s.2.2.2.2[k]?=some r∧zba r) (by omega) ?_ ?_) ?_)
 ·intro i hi;have hx:s.2.2.2.2[i]?=some s.2.2.2.2[i]:=FL hi;generalize s.2.2.2.2[i]=o at hx;refine zf (zL (show(i:Int) < (s.2.2.2.2.length:Int) by omega)) (zb (zm hx ?_));rw[zoR (W.wr i o hx),zq,pD (by decide)];grind[za,wD,jZ,zQ]
 ·grind[zE,za]
 rintro⟨c,⟨y1,y2,⟨⟩⟩,⟨⟩⟩ (⟨rfl,rfl,hC⟩ | ⟨rfl,rfl,hC⟩)
 ·exact zx (za (.inl ⟨⟨⟨by omega,by omega⟩,h3,by omega,by omega,yk.1 hA,yk.1 hB,yk.1 hC⟩,rfl⟩))
 ·exact zv (za (.inr ⟨fun h=>hC (yk.2 h.2.2.2.2.2.2),rfl⟩))
theorem zch{s:zI}(W:gp s):JM (s,())=some (tv (UN s),()):=by
 have hlr:=W.lr;rw[Oc];unfold AX;simp only[zcb,zjl,GY,zq];refine jj (zb (zd (fun h1=>za (zv (za ⟨fun h=>(by cases h),fun h=>?_⟩))) fun h1=>zd (fun h2=>za (zv (za ⟨fun h=>(by cases h),fun h=>?_⟩))) fun h2=>zd (fun h3=>za (zv (za ⟨fun h=>(by cases h),fun h=>absurd h.2.1 (jZ h3)⟩))) fun h3=>zd (fun h4=>za (zv (za ⟨fun h=>(by cases h),fun h=>absurd (by have:=h.2.2.1;omega) (qt (qN.1 h4))⟩))) fun h4=>zd (fun h5=>za (zv (za ⟨fun h=>(by cases h),fun h=>?_⟩))) fun h5=>za (zx ?_)))
 ·have:=zZ h1;have:=h.1.1;omega
 ·have:=zZ h2;have:=h.1.2;omega
 ·have:=zZ h5;have:=h.2.2.2.1;omega
 have h1:=zP h1;have h2:=zP h2;have h3:=wD h3;have h4:=ql (qE.1 h4);have h5:=zP h5;have hla:=(VV h3).la;refine zk (jS false s.2.2.1.length (fun k=>∃o,s.2.2.1[k]?=some o∧∃a,s.2.1.1[k]?=some a∧FN a o) (by omega) ?_ ?_) ?_
 ·intro i hi;have hx:s.2.2.1[i]?=some s.2.2.1[i]:=FL hi;generalize s.2.2.1[i]=o at hx;have hj:i < s.2.1.1.length:=by omega
  have hy:s.2.1.1[i]?=some s.2.1.1[i]:=FL hj;grind[zL,zb,zm,za,wD,jZ,zQ]
 ·grind[zE,za]
 rintro⟨c,⟨y1,y2,⟨⟩⟩,⟨⟩⟩ (⟨rfl,rfl,hA⟩ | ⟨rfl,rfl,hA⟩);rotate_left
 ·exact zv (za ⟨fun h=>(by cases h),fun h=>absurd (yk.2 h.2.2.2.2.1) hA⟩)
 refine zx (zk (jS false s.2.2.2.1.length (fun k=>∃x,s.2.2.2.1[k]?=some x∧OW x s.2.2.2.2.length) (by omega) ?_ ?_) ?_)
 ·intro i hi;have hx:s.2.2.2.1[i]?=some s.2.2.2.1[i]:=FL hi;generalize s.2.2.2.1[i]=o at hx;refine zf (zL (show(i:Int) < (s.2.2.2.1.length:Int) by omega)) (zb (zm hx (zb ?_)));have no:¬OW o s.2.2.2.2.length->¬∃x,s.2.2.2.1[i]?=some x∧OW x s.2.2.2.2.length:=by grind
  refine zd (fun h6=>za (zv (za (.inr ⟨no fun h=>jZ h6 h.1,_,rfl⟩)))) fun h6=>zd (fun h7=>za (zv (za (.inr ⟨no fun h=>?_,_,rfl⟩)))) fun h7=>zd (fun h8=>za (zv (za (.inr ⟨no fun h=>?_,_,rfl⟩)))) fun h8=>?_
  ·have:=zZ h7;have:=h.2.1.1;omega
  ·have:=zZ h8;have:=h.2.1.2;omega
  have h6:=wD h6;have h7:=zP h7;have h8:=zP h8;refine zd (fun h9=>zd (fun h10=>za (zv (za (.inr ⟨no fun h=>?_,_,rfl⟩)))) fun h10=>zd (fun h11=>za (zv (za (.inr ⟨no fun h=>?_,_,rfl⟩)))) fun h11=>zd (fun h12=>za (zv (za (.inr ⟨no fun h=>?_,_,rfl⟩)))) fun h12=>za (zx (za (.inl ⟨⟨o,hx,h6,⟨h7,h8⟩,?_⟩,?_⟩)))) fun h9=>zd (fun h11=>za (zv (za (.inr ⟨no fun h=>?_,_,rfl⟩)))) fun h11=>zd (fun h12=>za (zv (za (.inr ⟨no fun h=>?_,_,rfl⟩)))) fun h12=>za (zx (za (.inl ⟨⟨o,hx,h6,⟨h7,h8⟩,?_⟩,?_⟩)))
  ·have:=qt (qN.1 h9);have:=qt (qN.1 h10);have:=h.2.2.1;omega
  ·have:=zZ h11;have:=h.2.2.2.1;omega
  ·have:=zP (qN.1 h12);have:=h.2.2.2.2;omega
  ·have:=ql (qE.1 h10);have:=zP h11;have:=zZ (qE.1 h12);omega
  ·rw[zQ (by omega)]
  ·have:=zZ h11;have:=h.2.2.2.1;omega
  ·have:=zP (qN.1 h12);have:=h.2.2.2.2;omega
  ·have:=ql (qE.1 h9);have:=zP h11;have:=zZ (qE.1 h12);omega
  ·rw[zQ (by omega)]
 ·grind[zE,za]
 rintro⟨c,⟨y1,y2,⟨⟩⟩,⟨⟩⟩ (⟨rfl,rfl,hB⟩ | ⟨rfl,rfl,hB⟩);rotate_left
 ·exact zv (za ⟨fun h=>(by cases h),fun h=>absurd (yk.2 h.2.2.2.2.2.1) hB⟩)
 refine zx (zk (jS false s.2.2.2.2.length (fun k=>∃r,s.2.2.2.2[k]?=some r∧zba r) (by omega) ?_ ?_) ?_)
 ·intro i hi;have hx:s.2.2.2.2[i]?=some s.2.2.2.2[i]:=FL hi;generalize s.2.2.2.2[i]=o at hx;refine zf (zL (show(i:Int) < (s.2.2.2.2.length:Int) by omega)) (zb (zm hx ?_));rw[znk (W.wr i o hx),zq];grind[za,wD,jZ,zQ]
 ·grind[zE,za]
 rintro⟨c,⟨y1,y2,⟨⟩⟩,⟨⟩⟩ (⟨rfl,rfl,hC⟩ | ⟨rfl,rfl,hC⟩)
 ·exact zx (za ⟨fun _=>⟨⟨by omega,by omega⟩,h3,by omega,by omega,yk.1 hA,yk.1 hB,yk.1 hC⟩,fun _=>rfl⟩)
 ·exact zv (za ⟨fun h=>(by cases h),fun h=>absurd (yk.2 h.2.2.2.2.2.2) hC⟩)
theorem zln{s:zI}(W:gp s):xw (s,())=some (bif tv (UN s)then 0 else 521,()):=by grind[sb,cd,zch,zq,tv,UN]
def mI(s:zI)(t:Int):Prop:=s.2.1.2.2.1<=t+s.1∧∀(k:Nat) r,s.2.2.2.2[k]?=some r->r.2.2.2.2.1<=t
theorem zoS{s:zI}{t:Int}(hs:inP s.1 (-1000) 1000)(hl:s.2.2.2.2.length<=1000000000000):uv (s,t,())=some (bif tv (inP t 0 274877906944∧mI s t)then 0 else 2,()):=by
 obtain⟨s0,s1⟩:=hs;rw[BT];unfold fI;refine Qh (by decide) (zb (zd (fun h1=>za (zv (za (.inr ⟨fun h=>?_,rfl⟩)))) fun h1=>zd (fun h2=>za (zv (za (.inr ⟨fun h=>?_,rfl⟩)))) fun h2=>?_))
 ·have:=zZ h1;have:=h.1.1;omega
 ·have:=zZ h2;have:=h.1.2;omega
 have h1:=zP h1;have h2:=zP h2;rw[zU (z:=t+s.1) (by omega) (by omega)];refine zd (fun h3=>za (zv (za (.inr ⟨fun h=>?_,rfl⟩)))) fun h3=>za (zx ?_)
 ·have:=zZ h3;have:=h.2.1;omega
 have h3:=zP h3;refine zk (jS (2:Int) s.2.2.2.2.length (fun k=>∃r,s.2.2.2.2[k]?=some r∧r.2.2.2.2.1<=t) (by omega) ?_ ?_) ?_
 ·intro i hi;have hx:s.2.2.2.2[i]?=some s.2.2.2.2[i]:=FL hi;grind[zL,zb,zm,za,zP,zZ,zQ]
 ·grind[zE,za]
 rintro⟨c,⟨y1,y2,⟨⟩⟩,⟨⟩⟩ (⟨rfl,rfl,hC⟩ | ⟨rfl,rfl,hC⟩)
 ·exact zx (za (.inl ⟨⟨⟨h1,h2⟩,h3,yk.1 hC⟩,rfl⟩))
 ·exact zv (za (.inr ⟨fun h=>hC (yk.2 h.2.2),rfl⟩))
theorem zci{s:zI}{t:Int}(hs:inP s.1 (-1000) 1000)(ht:inP t 0 274877906944)(hl:s.2.2.2.2.length<=1000000000000):Vr (s,t,())=some (!tv (mI s t),()):=by
 obtain⟨s0,s1⟩:=hs;obtain⟨t0,t1⟩:=ht;rw[OD];unfold Bs;rw[zU (z:=t+s.1) (by omega) (by omega)];refine qI (zd (fun h3=>za ?_) fun h3=>?_)
 ·have:=zZ h3;grind[wj,mI]
 have h3:=zP h3;refine zk (jS true s.2.2.2.2.length (fun k=>∃r,s.2.2.2.2[k]?=some r∧r.2.2.2.2.1<=t) (by omega) ?_ ?_) ?_
 ·intro i hi;have hx:s.2.2.2.2[i]?=some s.2.2.2.2[i]:=FL hi;grind[zL,zb,zm,za,zP,zZ,zQ]
 ·grind[zE,za]
 rintro⟨c,⟨y1,y2,⟨⟩⟩,⟨⟩⟩ (⟨rfl,rfl,hC⟩ | ⟨rfl,rfl,hC⟩)
 ·grind[za,qX,mI]
 ·refine zv (za ?_);rw[wj fun h:mI s t=>hC (yk.2 h.2)];rfl
def QG(port:Int)(x:zM)(e:yf):Prop:=e.1=port∧e.2.1=x.1∧e.2.2.1=x.2.2.1
abbrev znl(s:zI)(k:Nat)(r:qg):zI:=(s.1,(s.2.1,(s.2.2.1,(s.2.2.2.1,s.2.2.2.2.set k r))))
theorem zgg{s:zI}{port:Int}{x:zM}{t:Int}{a:yV}(hl:s.2.2.2.1.length<=24):zt (zJ (fun s0:((zO×(Int×(Int×Unit)))×Unit)=>bif(zg (s0.1.2.2.1) ((((s.2.2.2.1).length:Nat):Int)))then opt (atI (s.2.2.2.1) (s0.1.2.2.1)) fun x1=>bif(zj (x1.1) (s0.1.1.2.1))then bif(zj (x1.2.1) (s0.1.1.2.2.1.1))then bif(zj (x1.2.2.1) (s0.1.1.2.2.1.2.2.1))then some (.inl (1,((s0.1.1,(s0.1.2.2.1,(s0.1.2.2.1,()))),())))else some (.inr ((s0.1.1,(s0.1.2.1,((wrF .i64 ((s0.1.2.2.1+1))),()))),()))else some (.inr ((s0.1.1,(s0.1.2.1,((wrF .i64 ((s0.1.2.2.1+1))),()))),()))else some (.inr ((s0.1.1,(s0.1.2.1,((wrF .i64 ((s0.1.2.2.1+1))),()))),()))else some (.inl (0,((s0.1.1,(s0.1.2.1,(s0.1.2.2.1,()))),())))) zR (((s,port,x,t,a),(0,(0,()))),())) fun r=>r.2.1.1=(s,port,x,t,a)∧(((r.1:Nat)=0∧WL s.2.2.2.1 (QG port x))∨(r.1=1∧∃i:Nat,r.2.1.2.1=(i:Int)∧vJ s.2.2.2.1 (QG port x) i)):=by
 refine Wf s.2.2.2.1 (fun i=>(((s,port,x,t,a),(0,((i:Int),()))),())) (QG port x) _ (by omega) ?_ ?_ rfl
 ·intro i e hi he;refine zf (zL (show(i:Int) < (s.2.2.2.1.length:Int) by omega)) (zb (zm he (zd (fun h1=>zd (fun h2=>zd (fun h3=>za (.inr ⟨⟨ql h1,ql h2,ql h3⟩,_,rfl,fun h=>⟨rfl,.inr ⟨rfl,i,rfl,h⟩⟩⟩)) fun h3=>za (.inl ⟨fun h=>qt h3 h.2.2,?_⟩)) fun h2=>za (.inl ⟨fun h=>qt h2 h.2.1,?_⟩)) fun h1=>za (.inl ⟨fun h=>qt h1 h.1,?_⟩))));all_goals rw[zQ (by omega)]
 grind[zE,za]
def Jq(s:zI)(k:Nat)(r:qg)(n t:Int):zI×yV:=bif !zg n 65536 then(s,(1,(0,(0,20))))else bif(xc r.1 r.2.1 r.2.2.1 r.2.2.2.1 r.2.2.2.2.1 r.2.2.2.2.2.toNat n t).2 then(znl s k (xc r.1 r.2.1 r.2.2.1 r.2.2.2.1 r.2.2.2.2.1 r.2.2.2.2.2.toNat n t).1,(3,(0,(0,0))))else(s,(4,(0,(0,0))))
theorem zpH{r:qg}{n t:Int}(hr:Xg r)(h:(xc r.1 r.2.1 r.2.2.1 r.2.2.2.1 r.2.2.2.2.1 r.2.2.2.2.2.toNat n t).2=false):(xc r.1 r.2.1 r.2.2.1 r.2.2.2.1 r.2.2.2.2.1 r.2.2.2.2.2.toNat n t).1=r:=by grind[pF,xc]
theorem zp7{r:qg}{n t:Int}(hr:Xg r)(hq:zba r)(hn:inP n 0 65535):Xg (xc r.1 r.2.1 r.2.2.1 r.2.2.2.1 r.2.2.2.2.1 r.2.2.2.2.2.toNat n t).1:=by
 obtain⟨e,hs⟩:=pF hr;obtain⟨⟨l0,l1⟩,_⟩:=id hq;have hw:∀{L R:Int} {any:Bool} {last at':Int} {z:Nat},z < 2 ^ 64->Xg (mkR L R any last at' z):=fun h=>by rw[p64]at h;exact⟨by grind,by grind⟩
 have hp:2 ^ r.1.toNat - 1 < 2 ^ 64:=zqC (Nat.sub_lt (zrP _) (by decide)) (zqY (by decide) (by omega));unfold xc;split
 ·grind
 ·split
  ·exact hw hs
  ·rename_i h2;split
   ·split
    ·exact hw hs
    ·refine hw (zto hs (zta (by decide) ?_));omega
   ·exact hw (zsJ Nat.and_le_right hp)
theorem znm{l:List qg}{k:Nat}{r:qg}(h:l[k]?=some r):l.set k r=l:=by apply zrj;grind
theorem zcj{α:Type}{l:List α}{k:Nat}{r:α}(h:l[k]?=some r):dQ l=true:=by
 cases l with
 |nil=>simp at h
 |cons x l=>rfl
theorem Ko{α:Type}{l:List α}{z:Int}{k:Nat}{x:α}{Q:α->Prop}(hz:z=(k:Int))(h:l[k]?=some x)(hq:Q x):zt (atI l z) Q:=by rw[hz];exact zm h hq
theorem zp8{s:zI}{port:Int}{x:zM}{t:Int}{i k:Nat}{e:yf}{r:qg}(W:gp s)(hs:UN s)(hx:Xf x)(ht:inP t 0 274877906944)(hT:mI s t)(hi:vJ s.2.2.2.1 (QG port x) i)(he:s.2.2.2.1[i]?=some e)(hk:e.2.2.2=(k:Int))(hr:s.2.2.2.2[k]?=some r) : xB (s,port,x,t,(0,(0,(0,0)))) ()=some (((Jq s k r x.2.1 t).1,port,x,t,(Jq s k r x.2.1 t).2),true,()):=by
 have hle:=hs.2.2.2.1;have hlr:=W.lr;have hsw:=W.wr k r hr;have hq:=hs.2.2.2.2.2.2 k r hr;obtain⟨em,hsz⟩:=pF hsw;obtain⟨t0,t1⟩:=id ht;obtain⟨q0,q1⟩:=hx.2.1;have hkl:k < s.2.2.2.2.length:=(zqr.1 hr).1;rw[aY];unfold WC;refine qI (zk (zgg hle) ?_);rintro⟨c,⟨y1,y2,y3,⟨⟩⟩,⟨⟩⟩ ⟨rfl,⟨rfl,h⟩ | ⟨rfl,j,hj,h⟩⟩
 ·obtain⟨⟨q,hq1,hq2⟩,_⟩:=hi;exact absurd hq2 (h i q hq1)
 simp only at hj;subst hj;have:=sH h hi;subst this;refine zv (zi (zE (show ¬(j:Int) < 0 by omega)) ?_);unfold Jq;show zt (bif(!zg x.2.1 65536)then _ else _) _;cases hn:(!zg x.2.1 65536)with
 |true=>
  refine zf rfl ?_;rw[Zh];exact za rfl
 |false=>
  have hn2:x.2.1 < 65536:=zZ (qE.1 hn);refine zi rfl (zb (zm he (zb (Ko hk hr ?_))));have hacc:yX (r,x.2.1,t,())=some ((xc r.1 r.2.1 r.2.2.1 r.2.2.2.1 r.2.2.2.2.1 r.2.2.2.2.2.toNat x.2.1 t).1,(xc r.1 r.2.1 r.2.2.1 r.2.2.2.1 r.2.2.2.2.1 r.2.2.2.2.2.toNat x.2.1 t).2,0,()):=by
   conv=>lhs;rw[em]
   exact zle hsz hq ⟨q0,by omega⟩ ⟨t0,by omega⟩ (hT.2 k r hr)
  show zt (opt (yX (r,x.2.1,t,())) _) _;rw[hacc,zq];grind[zt,xc,za,zcj,qF,zb,Ko,Int.toNat_natCast,jM]
theorem znM{s:zI}{port:Int}{x:zM}{t:Int}{a:yV}(hs:UN s)(hi:WL s.2.2.2.1 (QG port x)):xB (s,port,x,t,a) ()=some ((s,port,x,t,a),false,()):=by
 rw[aY];unfold WC;refine qI (zk (zgg hs.2.2.2.1) ?_);rintro⟨c,⟨y1,y2,y3,⟨⟩⟩,⟨⟩⟩ ⟨rfl,⟨rfl,h⟩ | ⟨rfl,j,hj,⟨q,hq1,hq2⟩,h⟩⟩
 ·exact zx (za rfl)
 ·exact absurd hq2 (hi j q hq1)
abbrev mJ:zI:=(0,(([],([],(0,([],[])))),([],([],[]))))
def onV(s:zI)(g:zH)(i:Nat)(o:jl)(x:zM)(t:Int):zI×yV:=bif zj x.2.2.1 7 then((s.1,(g,s.2.2)),(2,(o.1,(t,0))))else bif !zj (gn o.2.1 o.2.2.2 t x.2.2.2.1).2.2 0 then((s.1,(g,s.2.2)),(1,(0,(0,21))))else bif zg o.2.2.1 ((gn o.2.1 o.2.2.2 t x.2.2.2.1).1 - t)then((s.1,(g,s.2.2)),(1,(0,(0,21))))else((s.1,(g,(s.2.2.1.set i (o.1,(o.2.1,(o.2.2.1,(gn o.2.1 o.2.2.2 t x.2.2.2.1).2.1))),s.2.2.2))),(2,(o.1,((gn o.2.1 o.2.2.2 t x.2.2.2.1).1,0))))
theorem zhF{o:jl}{t size:Int}(hb:yK o.2.1)(hs:iz o.2.1 o.2.2.2)(h1:inP t 0 1099511627776)(h2:inP size 84 1542):0<=(gn o.2.1 o.2.2.2 t size).1∧(gn o.2.1 o.2.2.2 t size).1<=1101128531969:=by have B:=elB hb hs h1 h2;have:=B.t0;have:=B.t1;have:=B.c0;have:=B.c1;grind[gn,zg,elT]
theorem zlo{s:zI}{g:zH}{port:Int}{x:zM}{t:Int}{i:Nat}{a:qu}{o:jl}(hg:Zd g)(hx:Xf x)(hc:5 < x.2.2.1)(ht:inP t 0 274877906944)(hi:vJ g.1 (kQ port x) i)(ha:g.1[i]?=some a)(ho:s.2.2.1[i]?=some o)(hao:FN a o)(hl:s.2.2.1.length<=64) : ∃d,yw ((s.1,(g,s.2.2)),port,x,t,(0,(0,(0,0)))) ()=some (d,true,())∧d.1=(onV s g i o x t).1∧d.2.2.2.2=(onV s g i o x t).2:=by
 have B:=VV hg;have hil:i < s.2.2.1.length:=(zqr.1 ho).1;obtain⟨c0,c1⟩:=hx.2.2.1;obtain⟨t0,t1⟩:=id ht;have hfind:kG (g,port,x,())=some ((i:Int),0,()):=by rw[On];unfold AZ;rw[OZ g (by have:=B.la;omega) (by have:=B.lp;omega),qX hg,zq,zhA,qX hx,zq,zjr (by have:=B.la;omega) (.inr ⟨i,hi,rfl⟩),zq];rfl
 obtain⟨⟨a',ha',hm⟩,_⟩:=hi;rw[ha]at ha';cases ha';have key:zt (yw ((s.1,(g,s.2.2)),port,x,t,(0,(0,(0,0)))) ()) fun r=>r.2.1=true∧r.1.1=(onV s g i o x t).1∧r.1.2.2.2.2=(onV s g i o x t).2:=by
  rw[Ch];unfold VU;show zt (opt (kG (g,port,x,())) _) _;rw[hfind,zq];refine zb (zi rfl (zi (zE (show ¬(i:Int) < 0 by omega)) (zi (by rw[zL (show(i:Int) < (s.2.2.1.length:Int) by omega)];rfl) (za (zx (zb (zm ho ?_)))))));unfold onV;show zt (bif zj x.2.2.1 7 then _ else _) _;cases h7:zj x.2.2.1 7 with
  |true=>
   refine zf rfl ?_;rw[XV];exact za ⟨rfl,rfl,rfl⟩
  |false=>
   have h6:a.2.2.1=6:=by have:=qt h7;have:=hm.2.2;omega
   obtain⟨_,ho2⟩:=hao;rcases ho2 with ho2 | ⟨_,hb,_,⟨o0,o1⟩,hsh⟩
   ·exact absurd h6 ho2.1
   have hbd:=zhF (t:=t) (size:=x.2.2.2.1) hb hsh ⟨t0,by omega⟩ hx.2.2.2.1;refine zi rfl ?_;show zt (opt (xV (o.2.1,o.2.2.2,t,x.2.2.2.1,())) _) _;rw[zpC hb hsh ⟨t0,by omega⟩ hx.2.2.2.1,zq];generalize hv:gn o.2.1 o.2.2.2 t x.2.2.2.1=v at hbd;refine zb ?_;show zt (bif !zj v.2.2 0 then _ else bif zg o.2.2.1 (wrF .i64 (v.1 - t))then _ else _) _;rw[zU (z:=v.1 - t) (by omega) (by omega)];cases h1:(!zj v.2.2 0)with
   |true=>
    refine zf rfl ?_;rw[Zh];exact za (zv (za ⟨rfl,rfl,rfl⟩))
   |false=>
    cases h2:zg o.2.2.1 (v.1 - t)with
    |true=>
     refine zi rfl (zf rfl ?_);rw[Zh];exact za (zv (za ⟨rfl,rfl,rfl⟩))
    |false=>
     refine zi rfl (zi rfl (za (zx (zf (zcj ho) (zf (qF (by show(0+s.2.2.1.length)*48<=_;omega) (by show 0+s.2.2.1.length<=_;omega)) (zb (zm ho (zb ?_))))))));show zt (gl s.2.2.1 (Int.toNat (i:Int))) _;rw[zqO];refine jM hil fun _ _=>?_;rw[XV];exact za ⟨rfl,rfl,rfl⟩
 obtain⟨⟨d,b,⟨⟩⟩,e,h1,h2,h3⟩:=key;grind
theorem zgh{s:zI}{k:Nat}{r:qg}{n t:Int}(h:(!zg n 65536)=true):Jq s k r n t=(s,(1,(0,(0,20)))):=by unfold Jq;rw[h];rfl
theorem zgi{s:zI}{k:Nat}{r:qg}{n t:Int}(h:(!zg n 65536)=false)(h2:(xc r.1 r.2.1 r.2.2.1 r.2.2.2.1 r.2.2.2.2.1 r.2.2.2.2.2.toNat n t).2=true):Jq s k r n t=(znl s k (xc r.1 r.2.1 r.2.2.1 r.2.2.2.1 r.2.2.2.2.1 r.2.2.2.2.2.toNat n t).1,(3,(0,(0,0)))):=by grind[Jq]
theorem zhG{s:zI}{k:Nat}{r:qg}{n t:Int}(h:(!zg n 65536)=false)(h2:(xc r.1 r.2.1 r.2.2.1 r.2.2.2.1 r.2.2.2.2.1 r.2.2.2.2.2.toNat n t).2=false):Jq s k r n t=(s,(4,(0,(0,0)))):=by grind[Jq]
theorem zlp{s:zI}{port:Int}{x:zM}{t:Int}(W:gp s)(hs:UN s)(hx:Xf x)(ht:inP t 0 274877906944)(hT:mI s t):zt (zJ (fun s0:((zI×(zI×(yV×(Int×Unit))))×Unit)=>bif(zg (s0.1.2.2.2.1) ((((s0.1.1.2.2.2.1).length:Nat):Int)))then opt (atI (s0.1.1.2.2.2.1) (s0.1.2.2.2.1)) fun x1=>bif(!(zj (x1.1) (port)))then some (.inr ((s0.1.1,(s0.1.2.1,(s0.1.2.2.1,((wrF .i64 ((s0.1.2.2.2.1+1))),())))),()))else opt (atI (s0.1.1.2.2.2.1) (s0.1.2.2.2.1)) fun x2=>bif(!(zj (x2.2.1) (x.1)))then some (.inr ((s0.1.1,(s0.1.2.1,(s0.1.2.2.1,((wrF .i64 ((s0.1.2.2.2.1+1))),())))),()))else opt (atI (s0.1.1.2.2.2.1) (s0.1.2.2.2.1)) fun x3=>bif(!(zj (x3.2.2.1) (x.2.2.1)))then some (.inr ((s0.1.1,(s0.1.2.1,(s0.1.2.2.1,((wrF .i64 ((s0.1.2.2.2.1+1))),())))),()))else bif(!(zg (x.2.1) (65536)))then some (.inl (1,((s0.1.1,(s0.1.1,((1,(0,(0,20))),(s0.1.2.2.2.1,())))),())))else opt (atI (s0.1.1.2.2.2.1) (s0.1.2.2.2.1)) fun x4=>opt (atI (s0.1.1.2.2.2.2) (x4.2.2.2)) fun x5=>opt (gF ((x5,(x.2.1,(t,()))))) fun x6=>bif(zX (0) ((s0.1.1.2.2.2.2).length) (48))then opt (atI (s0.1.1.2.2.2.2) (x4.2.2.2)) fun x7=>opt (gl (s0.1.1.2.2.2.2) ((Int.toNat x4.2.2.2))) fun x8=>bif x6.2.1 then some (.inl (1,(((s0.1.1.1,(s0.1.1.2.1,(s0.1.1.2.2.1,(s0.1.1.2.2.2.1,((s0.1.1.2.2.2.2).set ((Int.toNat x4.2.2.2)) (x6.1)))))),((s0.1.1.1,(s0.1.1.2.1,(s0.1.1.2.2.1,(s0.1.1.2.2.2.1,((s0.1.1.2.2.2.2).set ((Int.toNat x4.2.2.2)) (x6.1)))))),((3,(0,(0,0))),(s0.1.2.2.2.1,())))),())))else some (.inl (1,(((s0.1.1.1,(s0.1.1.2.1,(s0.1.1.2.2.1,(s0.1.1.2.2.2.1,((s0.1.1.2.2.2.2).set ((Int.toNat x4.2.2.2)) (x6.1)))))),((s0.1.1.1,(s0.1.1.2.1,(s0.1.1.2.2.1,(s0.1.1.2.2.2.1,((s0.1.1.2.2.2.2).set ((Int.toNat x4.2.2.2)) (x6.1)))))),((4,(0,(0,0))),(s0.1.2.2.2.1,())))),())))else none else some (.inl (0,((s0.1.1,(s0.1.2.1,(s0.1.2.2.1,(s0.1.2.2.2.1,())))),())))) zR ((s,(mJ,((0,(0,(0,0))),(0,())))),())) fun r=>((r.1:Nat)=0∧r.2.1.1=s∧WL s.2.2.2.1 (QG port x))∨(r.1=1∧∃(i k:Nat) (e:yf) (q:qg),vJ s.2.2.2.1 (QG port x) i∧s.2.2.2.1[i]?=some e∧e.2.2.2=(k:Int)∧s.2.2.2.2[k]?=some q∧r.2.1.2.1=(Jq s k q x.2.1 t).1∧r.2.1.2.2.1=(Jq s k q x.2.1 t).2):=by
 have hle:=hs.2.2.2.1;have hlr:=W.lr;obtain⟨t0,t1⟩:=id ht;obtain⟨q0,q1⟩:=hx.2.1;refine Wf s.2.2.2.1 (fun i=>((s,(mJ,((0,(0,(0,0))),((i:Int),())))),())) (QG port x) _ (by omega) ?_ ?_ rfl
 ·intro i e hi he;refine zf (zL (show(i:Int) < (s.2.2.2.1.length:Int) by omega)) (zb (zm he (zd (fun h1=>za (.inl ⟨fun h=>qt (qN.1 h1) h.1,?_⟩)) fun h1=>zb (zm he (zd (fun h2=>za (.inl ⟨fun h=>qt (qN.1 h2) h.2.1,?_⟩)) fun h2=>zb (zm he (zd (fun h3=>za (.inl ⟨fun h=>qt (qN.1 h3) h.2.2,?_⟩)) fun h3=>?_)))))))
  ·rw[zQ (by omega)]
  ·rw[zQ (by omega)]
  ·rw[zQ (by omega)]
  have hm:QG port x e:=⟨ql (qE.1 h1),ql (qE.1 h2),ql (qE.1 h3)⟩;obtain⟨_,_,_,k0,k1⟩:=hs.2.2.2.2.2.1 i e he;obtain⟨k,hk⟩:∃k:Nat,e.2.2.2=(k:Int):=⟨e.2.2.2.toNat,by omega⟩;have hkl:k < s.2.2.2.2.length:=by omega
  have hr:s.2.2.2.2[k]?=some s.2.2.2.2[k]:=FL hkl;generalize s.2.2.2.2[k]=r at hr;have hsw:=W.wr k r hr;have hq:=hs.2.2.2.2.2.2 k r hr;obtain⟨em,hsz⟩:=pF hsw;have fin:∀(y1 y2:zI) (y3:yV) (y4:Int),y2=(Jq s k r x.2.1 t).1->y3=(Jq s k r x.2.1 t).2->(vJ s.2.2.2.1 (QG port x) i->(((1:Nat)=0∧y1=s∧WL s.2.2.2.1 (QG port x))∨((1:Nat)=1∧∃(i k:Nat) (e:yf) (q:qg),vJ s.2.2.2.1 (QG port x) i∧s.2.2.2.1[i]?=some e∧e.2.2.2=(k:Int)∧s.2.2.2.2[k]?=some q∧y2=(Jq s k q x.2.1 t).1∧y3=(Jq s k q x.2.1 t).2))):=
   fun y1 y2 y3 y4 e1 e2 h=>.inr ⟨rfl,i,k,e,r,h,he,hk,hr,e1,e2⟩
  cases hn:(!zg x.2.1 65536)with
  |true=>
   exact zf rfl (za (.inr ⟨hm,_,rfl,fin _ _ _ 0 (by rw[zgh hn]) (by rw[zgh hn])⟩))
  |false=>
   have hn2:x.2.1 < 65536:=zZ (qE.1 hn);have hacc:gF (r,x.2.1,t,())=some ((xc r.1 r.2.1 r.2.2.1 r.2.2.2.1 r.2.2.2.2.1 r.2.2.2.2.2.toNat x.2.1 t).1,(xc r.1 r.2.1 r.2.2.1 r.2.2.2.1 r.2.2.2.2.1 r.2.2.2.2.2.toNat x.2.1 t).2,()):=by
    conv=>lhs;rw[em]
    exact zjp hq ⟨q0,by omega⟩ ⟨t0,by omega⟩
   refine zi rfl (zb (zm he (zb (Ko hk hr ?_))));rw[hacc,zq];refine zf (qF (by show(0+s.2.2.2.2.length)*48<=_;omega) (by show 0+s.2.2.2.2.length<=_;omega)) (zb (Ko hk hr (zb ?_)));rw[hk,zqO];refine jM hkl fun _ _=>?_;have hno:=zpH (n:=x.2.1) (t:=t) hsw;show zt (bif(xc r.1 r.2.1 r.2.2.1 r.2.2.2.1 r.2.2.2.2.1 r.2.2.2.2.2.toNat x.2.1 t).2 then _ else _) _;cases h2:(xc r.1 r.2.1 r.2.2.1 r.2.2.2.1 r.2.2.2.2.1 r.2.2.2.2.2.toNat x.2.1 t).2 with
   |true=>
    exact zf rfl (za (.inr ⟨hm,_,rfl,fin _ _ _ 0 (by rw[zgi hn h2]) (by rw[zgi hn h2])⟩))
   |false=>
    refine zi rfl (za (.inr ⟨hm,_,rfl,fin _ _ _ 0 ?_ (by rw[zhG hn h2])⟩));rw[zhG hn h2];show znl s k (xc r.1 r.2.1 r.2.2.1 r.2.2.2.1 r.2.2.2.2.1 r.2.2.2.2.2.toNat x.2.1 t).1=s;rw[hno h2];show(s.1,(s.2.1,(s.2.2.1,(s.2.2.2.1,s.2.2.2.2.set k r))))=s;rw[znm hr]
 grind[zE,za]
structure Pd(s q:zI):Prop where
 w:gp q
 sh:q.1=s.1
 acc:q.2.1.1=s.2.1.1
 pol:q.2.1.2.1=s.2.1.2.1
 ll:q.2.1.2.2.2.1.length=s.2.1.2.2.2.1.length
 lm:q.2.1.2.2.2.2.length=s.2.1.2.2.2.2.length
 lo:q.2.2.1.length=s.2.2.1.length
 le:q.2.2.2.1=s.2.2.2.1
 lr:q.2.2.2.2.length=s.2.2.2.2.length
theorem znn{s:zI}{k:Nat}{r:qg}{n t:Int}(W:gp s)(hs:UN s)(hr:s.2.2.2.2[k]?=some r)(hn:0<=n):Pd s (Jq s k r n t).1:=by
 have h0:Pd s s:=⟨W,rfl,rfl,rfl,rfl,rfl,rfl,rfl,rfl⟩;unfold Jq;cases h1:(!zg n 65536)with
 |true=>exact h0
 |false=>
  have hn2:=zZ (qE.1 h1);cases h2:(xc r.1 r.2.1 r.2.2.1 r.2.2.2.1 r.2.2.2.2.1 r.2.2.2.2.2.toNat n t).2 with
  |false=>exact h0
  |true=>
   refine⟨⟨W.la,W.lp,by show(s.2.2.2.2.set k _).length<=_;rw[zrX];exact W.lr,fun j q hj=>?_⟩,rfl,rfl,rfl,rfl,rfl,rfl,rfl,by grind⟩;have hj:(s.2.2.2.2.set k (xc r.1 r.2.1 r.2.2.1 r.2.2.2.1 r.2.2.2.2.1 r.2.2.2.2.2.toNat n t).1)[j]?=some q:=hj;rw[zrl]at hj;by_cases hkj:k=j
   ·subst hkj;rw[zqI rfl]at hj;split at hj
    ·cases hj;exact zp7 (W.wr k r hr) (hs.2.2.2.2.2.2 k r hr) ⟨hn,by omega⟩
    ·cases hj
   ·rw[zqu hkj]at hj;exact W.wr j q hj
theorem zbb{s:zI}{g:zH}{i:Nat}{o:jl}{x:zM}{t:Int}(W:gp s)(h1:g.1=s.2.1.1)(h2:g.2.1=s.2.1.2.1)(h3:g.2.2.2.1.length=s.2.1.2.2.2.1.length)(h4:g.2.2.2.2.length=s.2.1.2.2.2.2.length):Pd s (s.1,(g,s.2.2))∧Pd s (onV s g i o x t).1:=by
 have W2:∀l:List jl,gp (s.1,(g,(l,s.2.2.2))):=fun l=>⟨by show g.1.length<=_;rw[h1];exact W.la,by show g.2.1.length<=_;rw[h2];exact W.lp,W.lr,W.wr⟩;have h0:Pd s (s.1,(g,s.2.2)):=⟨W2 s.2.2.1,rfl,h1,h2,h3,h4,rfl,rfl,rfl⟩;refine⟨h0,?_⟩;unfold onV;cases zj x.2.2.1 7 with
 |true=>exact h0
 |false=>
  cases(!zj (gn o.2.1 o.2.2.2 t x.2.2.2.1).2.2 0)with
  |true=>exact h0
  |false=>
   cases zg o.2.2.1 ((gn o.2.1 o.2.2.2 t x.2.2.2.1).1 - t)with
   |true=>exact h0
   |false=>exact⟨W2 _,rfl,h1,h2,h3,h4,by grind,rfl,rfl⟩
theorem zno{s:zI}{port:Int}{x:zM}{t:Int}(W:gp s):∃q a e,xR (s,port,x,t,())=some (q,a,e,())∧vg (s,port,x,t,())=some (q,a,e,())∧((e=0∧UN s∧Pd s q)∨(e≠0∧q=mJ)):=by
 have hch:=zhE W;have hri:=zch W;by_cases hs:UN s;rotate_left
 ·refine⟨mJ,(0,(0,(0,0))),521,?_,?_,.inr ⟨by decide,rfl⟩⟩
  ·rw[gZ];unfold kL;rw[hch,wj hs,zq];rfl
  grind[kN,gG,wj,zq]
 rw[qX hs]at hch hri;by_cases hp:inP port 0 47;rotate_left
 ·refine⟨mJ,(0,(0,(0,0))),2,?_,?_,.inr ⟨by decide,rfl⟩⟩
  ·rw[gZ];unfold kL;rw[hch,zq];refine qI (zi rfl (zb (zd (fun h=>za (zv (za rfl))) fun h=>zd (fun h2=>za (zv (za rfl))) fun h2=>?_)));exact absurd ⟨zP h,by have:=zZ (qE.1 h2);omega⟩ hp
  grind[kN,gG,zq,GY,wj]
 obtain⟨p0,p1⟩:=id hp;by_cases hx:Xf x;rotate_left
 ·refine⟨mJ,(0,(0,(0,0))),460,?_,?_,.inr ⟨by decide,rfl⟩⟩
  ·rw[gZ];unfold kL;rw[hch,zq,za7,wj hx];exact qI (zi rfl (zb (zi (zE (by omega)) (zi (by rw[zL (by omega)];rfl) (za (zx (zb (za (zf rfl (za rfl))))))))))
  grind[kN,gG,zq,GY,qX,OX,wj]
 have hT1:=zoS (s:=s) (t:=t) hs.1 W.lr;by_cases ht:inP t 0 274877906944∧mI s t;rotate_left
 ·refine⟨mJ,(0,(0,(0,0))),2,?_,?_,.inr ⟨by decide,rfl⟩⟩
  ·rw[gZ];unfold kL;rw[hch,zq,za7,qX hx,hT1,wj ht];exact qI (zi rfl (zb (zi (zE (by omega)) (zi (by rw[zL (by omega)];rfl) (za (zx (zb (za (zi rfl (zb (za (zf rfl (za rfl)))))))))))))
  ·rw[kN];unfold gG;rw[hri,zq,GY,qX hp,zq,OX,qX hx,zq];refine qI (zi rfl (zi rfl (zi rfl (zb (zd (fun h=>za (zv (za rfl))) fun h=>zd (fun h2=>za (zv (za rfl))) fun h2=>?_)))));have ht1:inP t 0 274877906944:=⟨zP h,zP h2⟩;rw[zci hs.1 ht1 W.lr,wj fun h=>ht ⟨ht1,h⟩,zq];exact zf rfl (za (zv (za rfl)))
 obtain⟨htP,hT⟩:=ht;obtain⟨t0,t1⟩:=id htP;obtain⟨s0,s1⟩:=id hs.1;have prog:∀Q,zt (opt (xB (s,port,x,t,(0,(0,(0,0)))) ()) fun x4=>
     bif x4.2.1 then some (x4.1.1,(x4.1.2.2.2.2,((0:Int),())))
     else opt (xU (x4.1) (())) fun x5=>
      bif x5.2.1 then some (x5.1.1,(x5.1.2.2.2.2,(0,())))
      else opt (yZ (x5.1) (())) fun x6=>
       bif x6.2.1 then some (x6.1.1,(x6.1.2.2.2.2,(0,())))
       else opt (yw (x6.1) (())) fun x7=>
        bif x7.2.1 then some (x7.1.1,(x7.1.2.2.2.2,(0,())))
        else some (x7.1.1,(x7.1.2.2.2.2,(0,())))) Q->zt (xR (s,port,x,t,())) Q:=fun Q h=>by
  rw[gZ];unfold kL;rw[hch,zq,za7,qX hx,hT1,qX ⟨htP,hT⟩]
  exact zi rfl (zb (zi (zE (by omega)) (zi (by rw[zL (by omega)];rfl) (za (zx (zb (za (zi rfl (zb (za (zi rfl h)))))))))))
 have refe:∀q a,UB (s,port,x,t,())=some (q,a,())->vg (s,port,x,t,())=some (q,a,0,()):=fun q a h=>by rw[kN];unfold gG;rw[hri,zq,GY,qX hp,zq,OX,qX hx,zq];refine qI (zi rfl (zi rfl (zi rfl (zb (zi (zE (by omega)) (zi (zE (by omega)) ?_))))));rw[zci hs.1 htP W.lr,qX hT,zq];refine zi rfl (za (zx ?_));rw[h];exact za rfl
 have hdl:=zlp W hs hx htP hT (port:=port);rcases iA (QG port x) s.2.2.2.1 with hn | ⟨i,hi⟩
 rotate_left
 ·obtain⟨⟨e,he,_⟩,_⟩:=id hi;obtain⟨_,_,_,k0,k1⟩:=hs.2.2.2.2.2.1 i e he;obtain⟨k,hk⟩:∃k:Nat,e.2.2.2=(k:Int):=⟨e.2.2.2.toNat,by omega⟩;have hkl:k < s.2.2.2.2.length:=by omega
  have hr:s.2.2.2.2[k]?=some s.2.2.2.2[k]:=FL hkl;generalize s.2.2.2.2[k]=r at hr;refine⟨(Jq s k r x.2.1 t).1,(Jq s k r x.2.1 t).2,0,qI (prog _ ?_),refe _ _ ?_,.inl ⟨rfl,hs,znn W hs hr hx.2.1.1⟩⟩
  ·rw[zp8 W hs hx htP hT hi he hk hr,zq];grind[za]
  ·rw[WG];unfold Yv;refine qI (zk hdl ?_);rintro⟨c,⟨y1,y2,y3,y4,⟨⟩⟩,⟨⟩⟩ (⟨_,_,h⟩ | ⟨h1,i',k',e',r',hi',he',hk',hr',h2,h3⟩)
   ·obtain⟨⟨q,hq1,hq2⟩,_⟩:=hi;exact absurd hq2 (h i q hq1)
   ·have:=sH hi hi';subst this;rw[he]at he';cases he';have:k=k':=by omega
    subst this;rw[hr]at hr';cases hr';simp only at h1 h2 h3;subst h1 h2 h3;exact zv (za rfl)
 obtain⟨g,v,hP1,hP2,g1,g2,g3,g4,hg⟩:=zpG (f:=s.2.1) (port:=port) (x:=x) (t:=t+s.1) hs.2.1 hp hx hT.1 (by omega);have hwt:wrF .i64 (t+s.1)=t+s.1:=zU (by omega) (by omega);obtain⟨z,hz⟩:=zpD s.2.1.1 (kQ port x);have hB:=VV hs.2.1;have hsift:xU (s,port,x,t,(0,(0,(0,0)))) ()=(if v=0 then some (((s.1,(g,s.2.2)),port,x,t,(0,(0,(0,0)))),false,())else some (((s.1,(g,s.2.2)),port,x,t,(1,(0,(0,v)))),true,())):=by
  rw[BY];unfold VR;show opt (vR (s.2.1,port,x,wrF .i64 (t+s.1),())) _=_;rw[hwt,hP1,zq];by_cases hv:v=0
  ·rw[zqI hv,hv];rfl
  ·rw[zqu hv];refine qI (zi rfl (zf (by rw[jm hv];rfl) ?_));rw[Zh];exact za rfl
 have hstop:∀d:zO,yZ d ()=(if d.2.2.1.2.2.1 < 6 then some ((d.1,(d.2.1,(d.2.2.1,(d.2.2.2.1,(5,(0,(0,0))))))),true,())else some (d,false,())):=fun d=>by grind[Ca,VS,zL,zE]
 by_cases hv:v=0;rotate_left
 ·refine⟨(s.1,(g,s.2.2)),(1,(0,(0,v))),0,qI (prog _ ?_),refe _ _ ?_,.inl ⟨rfl,hs,(zbb (i:=0) (o:=(0,((0,0),(0,(0,0))))) (x:=x) (t:=t) W g1 g2 g3 g4).1⟩⟩
  ·grind[znM,zq,za]
  ·rw[WG];unfold Yv;refine qI (zk hdl ?_);rintro⟨c,⟨y1,y2,y3,y4,⟨⟩⟩,⟨⟩⟩ (⟨h1,h2,_⟩ | ⟨h1,i',k',e',r',⟨⟨q2,hq1,hq2⟩,_⟩,_⟩);rotate_left
   ·exact absurd hq2 (hn i' q2 hq1)
   simp only at h1 h2;subst h1 h2;refine zx ?_;show zt (opt (uR (y1.2.1,port,x,())) _) _;rw[iC (by have:=hB.la;omega) hz,zq];grind[zt,opt,xa,wrF,zq,jm,za]
 rw[zqI hv]at hsift;have hprog2
       : ∀Q,zt (opt (yZ ((s.1,(g,s.2.2)),port,x,t,(0,(0,(0,0)))) ()) fun x6=>
       bif x6.2.1 then some (x6.1.1,(x6.1.2.2.2.2,((0:Int),())))
       else opt (yw (x6.1) (())) fun x7=>
        bif x7.2.1 then some (x7.1.1,(x7.1.2.2.2.2,(0,())))
        else some (x7.1.1,(x7.1.2.2.2.2,(0,())))) Q->zt (xR (s,port,x,t,())) Q:=fun Q h=>by
  grind[znM,zq]
 by_cases hc:x.2.2.1 < 6
 ·refine⟨(s.1,(g,s.2.2)),(5,(0,(0,0))),0,qI (hprog2 _ ?_),refe _ _ ?_,.inl ⟨rfl,hs,(zbb (i:=0) (o:=(0,((0,0),(0,(0,0))))) (x:=x) (t:=t) W g1 g2 g3 g4).1⟩⟩
  ·grind[zq,za]
  ·rw[WG];unfold Yv;refine qI (zk hdl ?_);rintro⟨c,⟨y1,y2,y3,y4,⟨⟩⟩,⟨⟩⟩ (⟨h1,h2,_⟩ | ⟨h1,i',k',e',r',⟨⟨q2,hq1,hq2⟩,_⟩,_⟩);rotate_left
   ·exact absurd hq2 (hn i' q2 hq1)
   simp only at h1 h2;subst h1 h2;refine zx ?_;show zt (opt (uR (y1.2.1,port,x,())) _) _;rw[iC (by have:=hB.la;omega) hz,zq];grind[zt,opt,xa,wrF,zq,wZ,zL,za]
 obtain⟨hfg,hex⟩:=hg (by omega);obtain⟨i,a,hi,ha⟩:=hex hv;have hzi:z=(i:Int):=iB hz (.inr ⟨i,hi,rfl⟩);have hll:=hs.2.2.1;have hla:=hB.la;have hil:i < s.2.2.1.length:=by grind
 have ho:s.2.2.1[i]?=some s.2.2.1[i]:=FL hil;generalize s.2.2.1[i]=o at ho;obtain⟨a',ha',hao⟩:=hs.2.2.2.2.1 i o ho;rw[ha]at ha';cases ha';obtain⟨d,hd1,hd2,hd3⟩:=zlo (s:=s) hfg hx (by omega) htP (i:=i) (a:=a) (o:=o) (by rw[g1];exact hi) (by rw[g1];exact ha) ho hao (by omega);refine⟨(onV s g i o x t).1,(onV s g i o x t).2,0,qI (hprog2 _ ?_),refe _ _ ?_,.inl ⟨rfl,hs,(zbb W g1 g2 g3 g4).2⟩⟩
 ·grind[zq,za]
 ·rw[WG];unfold Yv;refine qI (zk hdl ?_);rintro⟨c,⟨y1,y2,y3,y4,⟨⟩⟩,⟨⟩⟩ (⟨h1,h2,_⟩ | ⟨h1,i',k',e',r',⟨⟨q2,hq1,hq2⟩,_⟩,_⟩);rotate_left
  ·exact absurd hq2 (hn i' q2 hq1)
  simp only at h1 h2;subst h1 h2;refine zx ?_;show zt (opt (uR (y1.2.1,port,x,())) _) _;rw[iC (by have:=hB.la;omega) hz,zq];show zt (opt (xa (y1.2.1,port,x,wrF .i64 (t+y1.1),())) _) _;rw[hwt,hP2,zq];refine zi (by grind[wZ]) (zi (zE hc) (zb (Ko hzi ho ?_)));unfold onV;show zt (bif zj x.2.2.1 7 then _ else _) _;cases h7:zj x.2.2.1 7 with
  |true=>exact za rfl
  |false=>
   obtain⟨⟨a',ha',hm⟩,_⟩:=hi;rw[ha]at ha';cases ha';obtain⟨c0,c1⟩:=hx.2.2.1;have h6:a.2.2.1=6:=by have:=qt h7;have:=hm.2.2;omega
   obtain⟨_,ho2⟩:=hao;rcases ho2 with ho2 | ⟨_,hb,_,⟨o0,o1⟩,hsh⟩
   ·exact absurd h6 ho2.1
   have hbd:=zhF (t:=t) (size:=x.2.2.2.1) hb hsh ⟨t0,by omega⟩ hx.2.2.2.1;refine zi rfl ?_;show zt (opt (Za (o.2.1,o.2.2.2,t,x.2.2.2.1,())) _) _;rw[znc hb hsh ⟨t0,by omega⟩ hx.2.2.2.1,zq];generalize gn o.2.1 o.2.2.2 t x.2.2.2.1=w at hbd;refine zb ?_;show zt (bif !zj w.2.2 0 then _ else bif zg o.2.2.1 (wrF .i64 (w.1 - t))then _ else _) _;rw[zU (z:=w.1 - t) (by omega) (by omega)];cases h1:(!zj w.2.2 0)with
   |true=>exact zf rfl (za (zv (za rfl)))
   |false=>
    cases h2:zg o.2.2.1 (w.1 - t)with
    |true=>exact zi rfl (zf rfl (za (zv (za rfl))))
    |false=>
     refine zi rfl (zi rfl (za (zx (zf (qF (by grind) (by grind)) (zb (Ko hzi ho (zb ?_)))))));rw[hzi];show zt (gl y1.2.2.1 (Int.toNat (i:Int))) _;rw[zqO];exact jM hil fun _ _=>za rfl
theorem kR(a:Int):zj a a=true:=wZ rfl
structure zjs(s:zI):Prop where
 a1:s.2.1.1.length<=1000000000000000000
 a2:s.2.1.2.1.length<=1000000000000000000
 a3:s.2.1.2.2.2.1.length<=1000000000000000000
 a4:s.2.1.2.2.2.2.length<=1000000000000000000
 a5:s.2.2.1.length<=1000000000000000000
 a6:s.2.2.2.1.length<=1000000000000000000
 a7:s.2.2.2.2.length<=1000000000000000000
theorem znp{f:zH}(b1:f.1.length<=1000000000000000000)(b2:f.2.1.length<=1000000000000000000)(b3:f.2.2.2.1.length<=1000000000000000000)(b4:f.2.2.2.2.length<=1000000000000000000):UC (f,f,())=some (true,()):=by
 rw[Th];unfold FG;refine qI (zb (zi (by rw[kR];rfl) (zi (by rw[kR];rfl) (zi (by rw[kR];rfl) (zi (by rw[kR];rfl) (zi (by rw[kR];rfl) (za ?_)))))));refine zx (zk (jS false f.1.length (fun _=>True) b1 ?_ ?_) ?_)
 ·intro i hi;have hx:f.1[i]?=some f.1[i]:=FL hi;grind[zL,zb,zm,kR,za,zQ]
 ·grind[zE,za]
 rintro⟨c,⟨y1,y2,⟨⟩⟩,⟨⟩⟩ (⟨rfl,rfl,_⟩ | ⟨rfl,rfl,hA⟩);rotate_left
 ·grind
 refine zx (zk (jS false f.2.2.2.1.length (fun _=>True) b3 ?_ ?_) ?_)
 ·intro i hi;have hx:f.2.2.2.1[i]?=some f.2.2.2.1[i]:=FL hi;grind[zL,zb,zm,kR,za,zQ]
 ·grind[zE,za]
 rintro⟨c,⟨y1,y2,⟨⟩⟩,⟨⟩⟩ (⟨rfl,rfl,_⟩ | ⟨rfl,rfl,hA⟩);rotate_left
 ·grind
 refine zx (zk (jS false f.2.1.length (fun _=>True) b2 ?_ ?_) ?_)
 ·intro i hi;have hx:f.2.1[i]?=some f.2.1[i]:=FL hi;grind[zL,zb,zm,kR,za,zQ]
 ·grind[zE,za]
 rintro⟨c,⟨y1,y2,⟨⟩⟩,⟨⟩⟩ (⟨rfl,rfl,_⟩ | ⟨rfl,rfl,hA⟩);rotate_left
 ·grind
 refine zx (zk (jS false f.2.2.2.2.length (fun _=>True) b4 ?_ ?_) ?_)
 ·intro i hi;have hx:f.2.2.2.2[i]?=some f.2.2.2.2[i]:=FL hi;grind[zL,zb,zm,kR,za,zQ]
 ·grind[zE,za]
 rintro⟨c,⟨y1,y2,⟨⟩⟩,⟨⟩⟩ (⟨rfl,rfl,_⟩ | ⟨rfl,rfl,hA⟩);rotate_left
 ·grind
 exact zx (za rfl)
theorem zpI{s:zI}(B:zjs s):xW (s,s,())=some (true,()):=by
 rw[Cl];unfold ij;rw[znp B.a1 B.a2 B.a3 B.a4,zq];refine qI (zb (zi (by rw[kR];rfl) (zi rfl (zi (by rw[kR];rfl) (zi (by rw[kR];rfl) (zi (by rw[kR];rfl) (za ?_)))))));refine zx (zk (jS false s.2.2.1.length (fun _=>True) B.a5 ?_ ?_) ?_)
 ·intro i hi;have hx:s.2.2.1[i]?=some s.2.2.1[i]:=FL hi;generalize s.2.2.1[i]=o at hx;refine zf (zL (show(i:Int) < (s.2.2.1.length:Int) by omega)) (zb (zm hx (zb (zm hx (zi (by simp[kR]) (za (.inl ⟨trivial,?_⟩)))))));rw[zQ (by have:=B.a5;omega)]
 ·grind[zE,za]
 rintro⟨c,⟨y1,y2,⟨⟩⟩,⟨⟩⟩ (⟨rfl,rfl,_⟩ | ⟨rfl,rfl,hA⟩);rotate_left
 ·grind
 refine zx (zk (jS false s.2.2.2.1.length (fun _=>True) B.a6 ?_ ?_) ?_)
 ·intro i hi;have hx:s.2.2.2.1[i]?=some s.2.2.2.1[i]:=FL hi;generalize s.2.2.2.1[i]=o at hx;refine zf (zL (show(i:Int) < (s.2.2.2.1.length:Int) by omega)) (zb (zm hx (zb (zm hx (zi (by simp[kR]) (za (.inl ⟨trivial,?_⟩)))))));rw[zQ (by have:=B.a6;omega)]
 ·grind[zE,za]
 rintro⟨c,⟨y1,y2,⟨⟩⟩,⟨⟩⟩ (⟨rfl,rfl,_⟩ | ⟨rfl,rfl,hA⟩);rotate_left
 ·grind
 refine zx (zk (jS false s.2.2.2.2.length (fun _=>True) B.a7 ?_ ?_) ?_)
 ·intro i hi;have hx:s.2.2.2.2[i]?=some s.2.2.2.2[i]:=FL hi;generalize s.2.2.2.2[i]=o at hx;refine zf (zL (show(i:Int) < (s.2.2.2.2.length:Int) by omega)) (zb (zm hx (zb (zm hx (zi (by simp[kR]) (za (.inl ⟨trivial,?_⟩)))))));rw[zQ (by have:=B.a7;omega)]
 ·grind[zE,za]
 rintro⟨c,⟨y1,y2,⟨⟩⟩,⟨⟩⟩ (⟨rfl,rfl,_⟩ | ⟨rfl,rfl,hA⟩);rotate_left
 ·grind
 exact zx (za rfl)
theorem zlq:zjs mJ:=⟨by decide,by decide,by decide,by decide,by decide,by decide,by decide⟩
theorem zlr{s q:zI}(hs:UN s)(W:gp s)(h:Pd s q):zjs q:=by have B:=VV hs.2.1;have h1:=B.la;have h2:=B.lp;have h3:=B.ll;have h4:=B.lm;have k1:=h.acc;have k2:=h.pol;have k3:=h.ll;have k4:=h.lm;have k5:=h.lo;have k6:=h.le;have k7:=h.lr;have h5:=hs.2.2.1;have h6:=hs.2.2.2.1;have h7:=W.lr;exact⟨by rw[k1];omega,by rw[k2];omega,by omega,by omega,by omega,by rw[k6];omega,by omega⟩
end Go.Proofs.YtlfkgkedfciccaaGreat.nd
namespace Go.Proofs.YtlfkgkedfciccaaGreat.dd
open Go Go.Fz Go.Fz.Sy Go.Proofs.YtlfkgkedfciccaaGreat.nd Go.Proofs.YtlfkgkedfciccaaGreat.ad
theorem znq{c:Cfg}(hc:OU c){i:Nat}(hi:i < c.2.1.length):∃v,gD (c,(i:Int),())=some (v,()):=by
 have h6:=hc.n6;have hof:=hc.of;suffices key:zt (gD (c,(i:Int),())) fun _=>True by obtain⟨⟨v,⟨⟩⟩,e,_⟩:=key;exact⟨v,e⟩
 have hcl:∀k,wU (c.2.1.take k)<=c.2.1.length:=fun k=>by
  have h1:=za6 c.2.1 k;have h2:wU c.2.1<=c.2.1.length:=by unfold wU;exact zrf _ _
  omega
 rw[HO];unfold oB;refine zk (J:=fun x=>x.2.1.1=((wU (c.2.1.take i):Nat):Int)) (qb i (fun k s=>s=((((wU (c.2.1.take k):Nat):Int),((k:Int),())),())) (by omega) rfl ?_ ?_) ?_
 ·rintro k _ hk rfl;have hx:c.2.1[k]?=some c.2.1[k]:=FL (by omega);generalize c.2.1[k]=x at hx;have hs:=mG hx;have hb:=hcl k;refine zf (zL (show(k:Int) < (i:Int) by omega)) (zk (J:=fun x=>x.2.1.1=((wU (c.2.1.take (k+1)):Nat):Int)) (zb (zm hx (zd (fun h=>za ?_) fun h=>za ?_))) ?_)
  ·show wrF .i64 (((wU (c.2.1.take k):Nat):Int)+1)=_;rw[zQ (by omega),hs,zqI (ql h)]
  ·show((wU (c.2.1.take k):Nat):Int)=_;rw[hs,zqu (qt h)];rfl
  ·rintro⟨j,⟨v,⟨⟩⟩,⟨⟩⟩ hv;have hv:v=_:=hv;subst hv;exact za (qn (zqR (fun z=>((((wU (c.2.1.take (k+1)):Nat):Int),(z,())),())) (zQ (by omega))))
 ·rintro _ rfl;exact zi (zE (show ¬(i:Int) < (i:Int) by omega)) (za (zw rfl))
 rintro⟨j,⟨v,z,⟨⟩⟩,⟨⟩⟩ hv;have hv:v=_:=hv;subst hv;have hx:c.2.1[i]?=some c.2.1[i]:=FL hi;generalize c.2.1[i]=x at hx;have hs:=mG hx;grind[za6,zb,zm,za,ql,qE,wJ,wU]
theorem zjt{l:List wI}(hl:l.length<=1000):∃r,uo (l,())=some (r,()):=by
 suffices key:zt (uo (l,())) fun _=>True by obtain⟨⟨v,⟨⟩⟩,e,_⟩:=key;exact⟨v,e⟩
 rw[BN];unfold fh;refine zk (J:=fun _=>True) (qb l.length (fun i s=>∃L:List wI,s=(((i:Int),()),(L,()))∧L.length<=i) (by omega) ⟨[],rfl,by simp⟩ ?_ ?_) fun _ _=>za trivial
 ·rintro i _ hi ⟨L,rfl,hL⟩;have hx:l[i]?=some l[i]:=FL hi;generalize l[i]=x at hx;refine zf (zL (show(i:Int) < (l.length:Int) by omega)) (zk (J:=fun z=>z.2.2.1.length<=i+1) (zb (zm hx (zd (fun _=>zb (zm hx (zf (qF (by show(L.length+1)*96<=_;omega) (by show L.length+1<=_;omega)) (za (by show(L++[x]).length<=_;simp;omega))))) fun _=>za (by show L.length<=_;omega)))) ?_);rintro⟨k,⟨⟩,L2,⟨⟩⟩ h1;exact za (qn ⟨L2,zqR (fun z=>((z,()),(L2,()))) (zQ (by omega)),h1⟩)
 grind[zE,za,zw]
theorem zp9(a b:Int):∃r,XK (a,b,())=some (r,())∧Xg r:=by
 have e:kD ((a,b,true,0,0,0),())=some (tv (GZ a b true 0 0 0),()):=zcc a b true 0 0 (s:=0) (by decide);rw[zaH];unfold Ma;rw[e,zq];cases tv (GZ a b true 0 0 0)with
 |true=>exact⟨_,rfl,by grind,by grind⟩
 |false=>exact⟨_,rfl,by decide,by decide⟩
abbrev Wm:zH:=([],([],(0,([],[]))))
theorem zoT{A:List qu}{M:List jP}(hA:A.length<=1000000)(hM:M.length<=1000000):∃f b,We (A,M,())=some (f,b,())∧(f=Wm∨Zd f):=by
 suffices key:zt (We (A,M,())) fun r=>r.1=Wm∨Zd r.1 by obtain⟨⟨f,b,⟨⟩⟩,e,h⟩:=key;grind
 rw[zaL];unfold Mh;refine zk (J:=fun x=>∃L:List Int,x.2.2.1=(A,(M,(-1000,(L,([],())))))) (qb A.length (fun i s=>∃L:List Int,L.length=i∧s=(((),((i:Int),())),((A,(M,(-1000,(L,([],()))))),()))) (by omega) ⟨[],rfl,rfl⟩ ?_ ?_) ?_
 ·grind[zL,qF,za,qn,zQ]
 ·grind[zE,za,zw]
 rintro⟨k,st,F,⟨⟩⟩ ⟨L,hF⟩;have hF:F=_:=hF;subst hF;refine zk (J:=fun x=>x.1=0∨(x.1=1∧x.2.1.1=Wm)) (qb M.length (fun i s=>∃T:List (Int×Int×Int),T.length=i∧s=((Wm,((),(false,((i:Int),())))),((A,(M,(-1000,(L,(T,()))))),()))) (by omega) ⟨[],rfl,rfl⟩ ?_ ?_) ?_
 ·rintro i _ hi ⟨T,hT,rfl⟩;have hx:M[i]?=some M[i]:=FL hi;generalize M[i]=x at hx;refine zf (zL (show(i:Int) < (M.length:Int) by omega)) (zb (zm hx (zb (zm hx ?_))));grind[zt,opt,Wd,zhz,zq,za,zw,qF,qn,Yx,zQ]
 ·grind[zE,za,zw]
 rintro⟨k,st,F,⟨⟩⟩ (h | ⟨h,h2⟩)
 ·have h:k=0:=h;subst h;refine zx ?_;grind[zcb,zq,za,wD]
 ·have h:k=1:=h;subst h;exact zv (za (.inl h2))
structure Tp(s:zI):Prop where
 w:gp s
 b:zjs s
 f:s.2.1=Wm∨Zd s.2.1
 o:s.2.2.1.length<=100
 e:s.2.2.2.1.length<=100
 r:s.2.2.2.2.length<=100
abbrev Xh:=Int×zH×List jl×List yf×List qg×Unit
theorem zpJ{c:Cfg}(hc:OU c){node:Int}(hn:jW c.1.1 node):∃s,uP (c,node,())=some (s,())∧Tp s:=by
 suffices key:zt (uP (c,node,())) fun r=>Tp r.1 by obtain⟨⟨s,⟨⟩⟩,e,h⟩:=key;exact⟨s,e,h⟩
 have ht:=hc.t;have hll:=ht.ll;have h6:=hc.n6;have hg:=hc.g;have hn0:=hn.1;have hn1:=hn.2;have hsh:=hc.sh;rw[SD];unfold EL;refine zb (wJ hn0 (by omega) fun shift _=>?_);refine zk (J:=fun x=>x.2.1.1=c.1.1∧x.2.1.2.2.1=c∧∃(O:List jl) (E:List yf) (R:List qg) (A:List qu),x.2.2.1=((shift,(Wm,(O,(E,(R,()))))):Xh)∧x.2.2.2.1=A∧O.length<=100∧E.length<=100∧R.length<=100∧A.length<=100∧∀(k:Nat) r,R[k]?=some r->Xg r)
  (qb c.2.1.length (fun i s=>∃(O:List jl) (E:List yf) (R:List qg) (A:List qu),s=((c.1.1,(c.1.2.1,(c,((),((i:Int),()))))),(((shift,(Wm,(O,(E,(R,()))))):Xh),(A,())))∧O.length<=16*i∧E.length<=2*i∧R.length<=i∧A.length<=16*i∧∀(k:Nat) r,R[k]?=some r->Xg r) (by omega) ⟨[],[],[],[],rfl,by simp,by simp,by simp,by simp,fun k r h=>by simp at h⟩ ?_ ?_) ?_
 ·rintro i _ hi ⟨O,E,R,A,rfl,hO,hE,hR,hA,hsw⟩;have hx:c.2.1[i]?=some c.2.1[i]:=FL hi;have hss:=hc.st _ (zqq hi);generalize c.2.1[i]=s at hx hss;obtain⟨off,eo⟩:=znq hc hi;have hrn:=hss.rn;refine zf (zL (show(i:Int) < (c.2.1.length:Int) by omega)) (zb (zm hx ?_));show zt (opt (gD (c,(i:Int),())) _) _;rw[eo,zq];refine zk (J:=fun x=>x.2.1.1=c.1.1∧x.2.1.2.1=c.1.2.1∧x.2.1.2.2.1=s∧x.2.1.2.2.2.1=c∧∃(O:List jl) (A:List qu),x.2.2.1=((shift,(Wm,(O,(E,(R,()))))):Xh)∧x.2.2.2.1=A∧O.length<=16*i+16∧A.length<=16*i+16)
   (qb s.2.2.2.2.2.2.2.2.length (fun k st=>∃(O:List jl) (A:List qu),st=((c.1.1,(c.1.2.1,(s,(c,((),((k:Int),())))))),(((shift,(Wm,(O,(E,(R,()))))):Xh),(A,())))∧O.length<=16*i+8*k∧A.length<=16*i+8*k) (by omega) ⟨O,A,rfl,by omega,by omega⟩ ?_ ?_) ?_
  ·rintro k _ hk ⟨O,A,rfl,hO,hA⟩;have hy:s.2.2.2.2.2.2.2.2[k]?=some s.2.2.2.2.2.2.2.2[k]:=FL hk;have hr:=(hss.rt _ (zqq hk)).1;generalize s.2.2.2.2.2.2.2.2[k]=r at hy hr;obtain⟨hops,eh,hm⟩:=zdK ht hc.u hss.sz hr;have hlen:hops.length=r.length:=by rw[<-hm,zsm]
   have hr8:=hr.n1;have hr1:=hr.n0;refine zf (zL (show(k:Int) < (s.2.2.2.2.2.2.2.2.length:Int) by omega)) (zb (zm hy ?_));refine zk (J:=fun x=>x.2.1.1=c.1.1∧x.2.1.2.1=c.1.2.1∧x.2.1.2.2.1=s∧x.2.1.2.2.2.1=c∧∃(O:List jl) (A:List qu),x.2.2.1=((shift,(Wm,(O,(E,(R,()))))):Xh)∧x.2.2.2.1=A∧O.length<=16*i+8*(k+1)∧A.length<=16*i+8*(k+1))
    (qb (r.length - 1) (fun h st=>∃(O:List jl) (A:List qu),st=((c.1.1,(c.1.2.1,(s,(c,((),(((1+h:Nat):Int),())))))),(((shift,(Wm,(O,(E,(R,()))))):Xh),(A,())))∧O.length<=16*i+8*k+h∧A.length<=16*i+8*k+h) (by omega) ⟨O,A,rfl,by omega,by omega⟩ ?_ ?_) ?_
   ·rintro h _ hh ⟨O,A,rfl,hO,hA⟩;have hz:r[1+h]?=some r[1+h]:=FL (by omega);have hpp:yx c.1.1 r[1+h]:=hr.pt _ (zqq _);generalize r[1+h]=p at hz hpp;have hz0:r[h]?=some r[h]:=FL (by omega);generalize r[h]=p0 at hz0;have e1:wrF .i64 (((1+h:Nat):Int) - 1)=(h:Int):=by rw[zU (by omega) (by omega)];omega
    have e2:wrF .i64 (((1+h:Nat):Int)+1)=((1+(h+1):Nat):Int):=by rw[zU (by omega) (by omega)];omega
    refine zf (zL (show((1+h:Nat):Int) < (r.length:Int) by omega)) (zb (zm hz ?_));show zt (opt (yg (c.1.1,p,())) _) _;rw[ux hll hpp,zq];refine zd (fun _=>za (qn ⟨O,A,zqR (fun z=>((c.1.1,(c.1.2.1,(s,(c,((),(z,())))))),(((shift,(Wm,(O,(E,(R,()))))):Xh),(A,())))) e2,by omega,by omega⟩)) fun _=>?_;show zt (opt (atI r (wrF .i64 (((1+h:Nat):Int) - 1))) _) _;rw[e1];refine zb (zm hz0 (zb (zm hz ?_)));refine zk (J:=fun x=>x.2.1.1=c.1.1∧x.2.1.2.1=c.1.2.1∧x.2.1.2.2.1=s∧x.2.1.2.2.2.2.1=c) (zd (fun _=>?_) fun _=>?_) ?_
    ·show zt (opt (xL (c.1.1,c.1.2.1,s,r,())) _) _;rw[eh,zq];exact zb (wJ (by show 0<=((1+h:Nat):Int);omega) (by show((1+h:Nat):Int) < (hops.length:Int);omega) fun _ _=>za ⟨rfl,rfl,rfl,rfl⟩)
    ·obtain⟨rs,er⟩:=zjt (l:=c.2.1) (by omega);show zt (opt (uo (c.2.1,())) _) _;rw[er,zq];refine zb (zm hz0 ?_);obtain⟨yh,zh,eyh⟩:=zpU (n:=c.1) (by omega) rs p0;show zt (opt (Wc (c.1,rs,p0,())) _) _;rw[eyh,zq];show zt (opt (XJ (s.2.2.2.2.2.2.1,())) _) _;rw[zoK,zq];exact za ⟨rfl,rfl,rfl,rfl⟩
    rintro⟨j,⟨q1,q2,q3,q4,q5,q6,⟨⟩⟩,⟨⟩⟩ ⟨g1,g2,g3,g5⟩;dsimp only at g1 g2 g3 g5;subst g1 g2 g3 g5;refine zf (qF (by show(A.length+1)*56<=_;omega) (by show A.length+1<=_;omega)) (zf (qF (by show(O.length+1)*48<=_;omega) (by show O.length+1<=_;omega)) (za (qn ⟨O++[_],A++[_],zqR (fun z=>((_,(_,(_,(_,((),(z,())))))),(((shift,(Wm,(O++[_],(E,(R,()))))):Xh),(A++[_],())))) e2,by simp;omega,by simp;omega⟩)))
   ·rintro _ ⟨O,A,rfl,hO,hA⟩;exact zi (zE (show ¬((1+(r.length - 1):Nat):Int) < (r.length:Int) by omega)) (za (zw ⟨rfl,rfl,rfl,rfl,O,A,rfl,rfl,by omega,by omega⟩))
   rintro⟨j,⟨q1,q2,q3,q4,⟨⟩,q6,⟨⟩⟩,F,A2,⟨⟩⟩ ⟨g1,g2,g3,g4,O2,A2',hF,hA2,hO3,hA3⟩;dsimp only at g1 g2 g3 g4 hF hA2;subst g1 g2 g3 g4 hF hA2;refine za (qn ⟨O2,A2,zqR (fun z=>((_,(_,(_,(_,((),(z,())))))),(((shift,(Wm,(O2,(E,(R,()))))):Xh),(A2,())))) (zQ (by omega)),hO3,hA3⟩)
  ·rintro _ ⟨O,A,rfl,hO,hA⟩;exact zi (zE (show ¬(s.2.2.2.2.2.2.2.2.length:Int) < (s.2.2.2.2.2.2.2.2.length:Int) by omega)) (za (zw ⟨rfl,rfl,rfl,rfl,O,A,rfl,rfl,by omega,by omega⟩))
  rintro⟨j,⟨q1,q2,q3,q4,⟨⟩,q6,⟨⟩⟩,F,A2,⟨⟩⟩ ⟨g1,g2,g3,g4,O2,A2',hF,hA2,hO3,hA3⟩;dsimp only at g1 g2 g3 g4 hF hA2;subst g1 g2 g3 g4 hF hA2;refine zk (J:=fun x=>∃(E2:List yf) (R2:List qg),x.2.2.1=((shift,(Wm,(O2,(E2,(R2,()))))):Xh)∧E2.length<=2*(i+1)∧R2.length<=i+1∧∀(k:Nat) r,R2[k]?=some r->Xg r) (zd (fun _=>?_) fun _=>za ⟨E,R,rfl,by omega,by omega,hsw⟩) ?_
  ·refine zk (J:=fun x=>∃E2:List yf,x.2.2.1=((shift,(Wm,(O2,(E2,(R,()))))):Xh)∧E2.length<=2*i+q3.2.2.2.2.2.2.2.2.length)
    (qb q3.2.2.2.2.2.2.2.2.length (fun k st=>∃E2:List yf,st=(((),((k:Int),())),(((shift,(Wm,(O2,(E2,(R,()))))):Xh),()))∧E2.length<=2*i+k) (by omega) ⟨E,rfl,by omega⟩ ?_ ?_) ?_
   ·rintro k _ hk ⟨E2,rfl,hE2⟩;have hy:q3.2.2.2.2.2.2.2.2[k]?=some q3.2.2.2.2.2.2.2.2[k]:=FL hk;have hr:=(hss.rt _ (zqq hk)).1;generalize q3.2.2.2.2.2.2.2.2[k]=r at hy hr;have hr8:=hr.n1;have hr1:=hr.n0;have e1:wrF .i64 ((r.length:Int) - 1)=(r.length:Int) - 1:=zU (by omega) (by omega);refine zf (zL (show(k:Int) < (q3.2.2.2.2.2.2.2.2.length:Int) by omega)) (zb (zm hy (zb (zm hy ?_))));show zt (opt (atI r (wrF .i64 ((r.length:Int) - 1))) _) _;rw[e1];refine zb (wJ (by omega) (by omega) fun y _=>zf (qF (by show(E2.length+1)*32<=_;omega) (by show E2.length+1<=_;omega)) (za (qn ⟨E2++[_],zqR (fun z=>(((),(z,())),(((shift,(Wm,(O2,(E2++[_],(R,()))))):Xh),()))) (zQ (by omega)),by simp;omega⟩)))
   ·rintro _ ⟨E2,rfl,hE2⟩;exact zi (zE (show ¬(q3.2.2.2.2.2.2.2.2.length:Int) < (q3.2.2.2.2.2.2.2.2.length:Int) by omega)) (za (zw ⟨E2,rfl,hE2⟩))
   rintro⟨j2,st,F,⟨⟩⟩ ⟨E2,hF,hE2⟩;have hF:F=_:=hF;subst hF;obtain⟨rc,erc,hrc⟩:=zp9 q4.2.2.2.2.2.1 q4.2.2.2.2.2.2;show zt (opt (XK (q4.2.2.2.2.2.1,q4.2.2.2.2.2.2,())) _) _;rw[erc,zq];refine zf (qF (by show(R.length+1)*48<=_;omega) (by show R.length+1<=_;omega)) (za ⟨E2,R++[rc],rfl,by omega,by simp;omega,fun k r hk=>?_⟩);rcases zqS.1 (zqy hk)with h | h
   ·obtain⟨k',_,hk'⟩:=uz h;exact hsw k' r hk'
   ·rw[zqU.1 h];exact hrc
  grind[za,qn,zQ]
 ·grind[zE,za,zw]
 rintro⟨j,⟨q1,q2,q3,⟨⟩,q6,⟨⟩⟩,F,A2,⟨⟩⟩ ⟨g1,g3,O,E,R,A,hF,hA2,hO,hE,hR,hA,hsw⟩;dsimp only at g1 g3 hF hA2;subst g1 g3 hF hA2;have hpo:q3.2.2.2.2.1.length<=1∧∀p∈q3.2.2.2.2.1,p.1=0:=by rcases hc.po with h | h<;>rw[h]<;>simp
 have hl1:=hc.l1;have hp0:yx q3.1.1 0:=⟨by omega,by omega⟩;refine zk (J:=fun x=>x.2.2.1.length<=1) (qb q3.2.2.2.2.1.length (fun i s=>∃L:List Pol,s=(((i:Int),()),(L,()))∧L.length<=i) (by omega) ⟨[],rfl,by simp⟩ ?_ ?_) ?_
 ·rintro i _ hi ⟨L,rfl,hL⟩;have hx:q3.2.2.2.2.1[i]?=some q3.2.2.2.2.1[i]:=FL hi;have hx0:=hpo.2 _ (zqq hi);generalize q3.2.2.2.2.1[i]=x at hx hx0;refine zf (zL (show(i:Int) < (q3.2.2.2.2.1.length:Int) by omega)) (zk (J:=fun z=>z.2.2.1.length<=i+1) (zb (zm hx ?_)) ?_);all_goals grind[zt,opt,jQ,uS,zq,zb,zm,qF,za,qn,zQ]
 ·grind[zE,za,zw]
 rintro⟨k,st,M,⟨⟩⟩ hM;have hM:M.length<=1:=hM;obtain⟨f,b,ef,hf⟩:=zoT (A:=A2) (M:=M) (by omega) (by omega);show zt (opt (We (A2,M,())) _) _;rw[ef,zq];refine za ?_;show Tp (shift,f,O,E,R);have hfl:f.1.length<=64∧f.2.1.length<=64∧f.2.2.2.1.length<=64∧f.2.2.2.2.length<=64:=by
  rcases hf with rfl | hf
  ·decide
  ·have B:=VV hf;have h1:=B.la;have h2:=B.lp;have h3:=B.ll;have h4:=B.lm;omega
 obtain⟨f1,f2,f3,f4⟩:=hfl;exact⟨⟨by grind,by grind,by grind,hsw⟩,⟨by grind,by grind,by grind,by grind,by grind,by grind,by grind⟩,hf,hO,hE,hR⟩
end Go.Proofs.YtlfkgkedfciccaaGreat.dd
namespace Go.Proofs.YtlfkgkedfciccaaGreat.nd
open Go Go.Fz Go.Fz.Sy
def xx:FuncId->Nat:=fun f=>bif Nat.beq f 69 then 2 else 1
def zW:FuncId->List Nat:=fun f=>bif Nat.beq f 38 then[3]else[]
def m0:jI:=⟨208,[.agg #[.int .i64 3,.iface 1 (.tuple #[.bool true,.bool false,.bool true]),.iface 4 (.tuple #[.agg #[.int .i64 0,.int .i64 1,.int .i64 8,.int .i64 5],.agg #[.int .i64 1,.int .i64 2,.int .i64 8,.int .i64 5]])]],.int .i64 0⟩
theorem k0:m0.Ok Tryz.prog:=js (cfg:=xx) (z:=zW) (n:=3000) qP jL (by kernel_rfl)
def m1:jI:=⟨199,[.agg #[.int .i64 100,.int .i64 2,.int .i64 10,.int .i64 8000]],.int .i64 0⟩
theorem k1:m1.Ok Tryz.prog:=js (cfg:=xx) (z:=zW) (n:=3000) qP jL (by kernel_rfl)
def m2:jI:=⟨139,[.agg #[.int .i64 3,.iface 1 (.tuple #[.bool true,.bool false,.bool true]),.iface 4 (.tuple #[.agg #[.int .i64 0,.int .i64 1,.int .i64 8,.int .i64 5],.agg #[.int .i64 1,.int .i64 2,.int .i64 8,.int .i64 5]]),.int .i64 100,.int .i64 2,.int .i64 10,.int .i64 8000,.iface 2 (.tuple #[.agg #[.iface 2 (.tuple #[.agg #[.int .i64 127,.int .i64 1500],.agg #[.int .i64 128,.int .i64 800],.agg #[.int .i64 127,.int .i64 5700]]),.int .i64 8000],.agg #[.iface 2 (.tuple #[.agg #[.int .i64 127,.int .i64 8000]]),.int .i64 8000],.agg #[.iface 2 (.tuple #[.agg #[.int .i64 127,.int .i64 2400],.agg #[.int .i64 128,.int .i64 800],.agg #[.int .i64 127,.int .i64 4800]]),.int .i64 8000],.agg #[.iface 2 (.tuple #[.agg #[.int .i64 127,.int .i64 8000]]),.int .i64 8000]]),.int .i64 84]],.int .i64 0⟩
theorem k2:m2.Ok Tryz.prog:=js (cfg:=xx) (z:=zW) (n:=3000) qP (qf k0 (qf k1 jL)) (by kernel_rfl)
def m3:jI:=⟨198,[.agg #[.int .i64 3,.iface 1 (.tuple #[.bool true,.bool false,.bool true]),.iface 4 (.tuple #[.agg #[.int .i64 0,.int .i64 1,.int .i64 8,.int .i64 5],.agg #[.int .i64 1,.int .i64 2,.int .i64 8,.int .i64 5]])],.slice none 0 0],.int .i64 0⟩
theorem k3:m3.Ok Tryz.prog:=js (cfg:=xx) (z:=zW) (n:=3000) qP (qf k0 jL) (by kernel_rfl)
def m4:jI:=⟨235,[.agg #[.int .i64 3,.iface 1 (.tuple #[.bool true,.bool false,.bool true]),.iface 4 (.tuple #[.agg #[.int .i64 0,.int .i64 1,.int .i64 8,.int .i64 5],.agg #[.int .i64 1,.int .i64 2,.int .i64 8,.int .i64 5]])],.agg #[.int .i64 7,.int .i64 0,.int .i64 2,.int .i64 7,.int .i64 100,.int .i64 80,.int .i64 0,.int .i64 0,.int .i64 10000,.iface 1 (.tuple #[.iface 1 (.tuple #[.int .i64 0,.int .i64 2])])]],.bool true⟩
theorem k4:m4.Ok Tryz.prog:=js (cfg:=xx) (z:=zW) (n:=3000) qP (qf k0 jL) (by kernel_rfl)
def m5:jI:=⟨221,[.agg #[.int .i64 3,.iface 1 (.tuple #[.bool true,.bool false,.bool true]),.iface 4 (.tuple #[.agg #[.int .i64 0,.int .i64 1,.int .i64 8,.int .i64 5],.agg #[.int .i64 1,.int .i64 2,.int .i64 8,.int .i64 5]])],.agg #[.int .i64 100,.int .i64 2,.int .i64 10,.int .i64 8000],.agg #[.int .i64 7,.int .i64 0,.int .i64 2,.int .i64 7,.int .i64 100,.int .i64 80,.int .i64 0,.int .i64 0,.int .i64 10000,.iface 1 (.tuple #[.iface 1 (.tuple #[.int .i64 0,.int .i64 2])])],.int .i64 0],.int .i64 0⟩
theorem k5:m5.Ok Tryz.prog:=js (cfg:=xx) (z:=zW) (n:=3000) qP (qf k0 (qf k1 (qf k4 jL))) (by kernel_rfl)
def m6:jI:=⟨207,[.agg #[.int .i64 3,.iface 1 (.tuple #[.bool true,.bool false,.bool true]),.iface 4 (.tuple #[.agg #[.int .i64 0,.int .i64 1,.int .i64 8,.int .i64 5],.agg #[.int .i64 1,.int .i64 2,.int .i64 8,.int .i64 5]])],.agg #[.int .i64 100,.int .i64 2,.int .i64 10,.int .i64 8000],.agg #[.int .i64 7,.int .i64 0,.int .i64 2,.int .i64 7,.int .i64 100,.int .i64 80,.int .i64 0,.int .i64 0,.int .i64 10000,.iface 1 (.tuple #[.iface 1 (.tuple #[.int .i64 0,.int .i64 2])])],.int .i64 0],.tuple #[.iface 5 (.tuple #[.agg #[.int .i64 0,.int .i64 0,.int .i64 0,.int .i64 0,.int .i64 800],.agg #[.int .i64 2,.int .i64 811,.int .i64 819,.int .i64 900,.int .i64 800]]),.int .i64 0]⟩
theorem k6:m6.Ok Tryz.prog:=js (cfg:=xx) (z:=zW) (n:=3000) qP (qf k5 jL) (by kernel_rfl)
def m7:jI:=⟨148,[.agg #[.int .i64 3,.iface 1 (.tuple #[.bool true,.bool false,.bool true]),.iface 4 (.tuple #[.agg #[.int .i64 0,.int .i64 1,.int .i64 8,.int .i64 5],.agg #[.int .i64 1,.int .i64 2,.int .i64 8,.int .i64 5]])],.agg #[.int .i64 100,.int .i64 2,.int .i64 10,.int .i64 8000],.agg #[.int .i64 7,.int .i64 0,.int .i64 2,.int .i64 7,.int .i64 100,.int .i64 80,.int .i64 0,.int .i64 0,.int .i64 10000,.iface 1 (.tuple #[.iface 1 (.tuple #[.int .i64 0,.int .i64 2])])],.int .i64 0],.tuple #[.int .i64 1715,.int .i64 0]⟩
theorem k7:m7.Ok Tryz.prog:=js (cfg:=xx) (z:=zW) (n:=3000) qP (qf k5 jL) (by kernel_rfl)
def m8:jI:=⟨205,[.iface 1 (.tuple #[.int .i64 80])],.tuple #[.int .i64 80,.int .i64 0]⟩
theorem k8:m8.Ok Tryz.prog:=js (cfg:=xx) (z:=zW) (n:=3000) qP jL (by kernel_rfl)
def m9:jI:=⟨133,[.agg #[.int .i64 3,.iface 1 (.tuple #[.bool true,.bool false,.bool true]),.iface 4 (.tuple #[.agg #[.int .i64 0,.int .i64 1,.int .i64 8,.int .i64 5],.agg #[.int .i64 1,.int .i64 2,.int .i64 8,.int .i64 5]])],.agg #[.int .i64 100,.int .i64 2,.int .i64 10,.int .i64 8000],.iface 10 (.tuple #[.agg #[.int .i64 7,.int .i64 0,.int .i64 2,.int .i64 7,.int .i64 100,.int .i64 80,.int .i64 0,.int .i64 0,.int .i64 10000,.iface 1 (.tuple #[.iface 1 (.tuple #[.int .i64 0,.int .i64 2])])]])],.tuple #[.agg #[.iface 1 (.tuple #[.int .i64 80]),.iface 4 (.tuple #[.agg #[.int .i64 0,.int .i64 0,.int .i64 0,.int .i64 8],.agg #[.int .i64 0,.int .i64 2,.int .i64 8,.int .i64 9]])],.int .i64 0]⟩
theorem k9:m9.Ok Tryz.prog:=js (cfg:=xx) (z:=zW) (n:=3000) qP (qf k3 (qf k1 (qf k0 (qf k4 (qf k6 (qf k7 (qf k8 jL))))))) (by kernel_rfl)
def m10:jI:=⟨202,[.agg #[.iface 1 (.tuple #[.int .i64 80]),.iface 4 (.tuple #[.agg #[.int .i64 0,.int .i64 0,.int .i64 0,.int .i64 8],.agg #[.int .i64 0,.int .i64 2,.int .i64 8,.int .i64 9]])]],.int .i64 0⟩
theorem k10:m10.Ok Tryz.prog:=js (cfg:=xx) (z:=zW) (n:=3000) qP (qf k8 jL) (by kernel_rfl)
def m11:jI:=⟨204,[.agg #[.iface 1 (.tuple #[.int .i64 80]),.iface 4 (.tuple #[.agg #[.int .i64 0,.int .i64 0,.int .i64 0,.int .i64 8],.agg #[.int .i64 0,.int .i64 2,.int .i64 8,.int .i64 9]])],.int .i64 0,.int .i64 15,.int .i64 0,.int .i64 15],.bool false⟩
theorem k11:m11.Ok Tryz.prog:=js (cfg:=xx) (z:=zW) (n:=3000) qP jL (by kernel_rfl)
def m12:jI:=⟨134,[.agg #[.iface 1 (.tuple #[.int .i64 80]),.iface 4 (.tuple #[.agg #[.int .i64 0,.int .i64 0,.int .i64 0,.int .i64 8],.agg #[.int .i64 0,.int .i64 2,.int .i64 8,.int .i64 9]])],.iface 1 (.tuple #[.int .i64 15])],.tuple #[.bool true,.int .i64 0]⟩
theorem k12:m12.Ok Tryz.prog:=js (cfg:=xx) (z:=zW) (n:=3000) qP (qf k10 (qf k11 jL)) (by kernel_rfl)
def m13:jI:=⟨135,[.agg #[.iface 1 (.tuple #[.int .i64 80]),.iface 4 (.tuple #[.agg #[.int .i64 0,.int .i64 0,.int .i64 0,.int .i64 8],.agg #[.int .i64 0,.int .i64 2,.int .i64 8,.int .i64 9]])]],.tuple #[.int .i64 80,.int .i64 0]⟩
theorem k13:m13.Ok Tryz.prog:=js (cfg:=xx) (z:=zW) (n:=3000) qP (qf k10 (qf k8 jL)) (by kernel_rfl)
def m14:jI:=⟨211,[.agg #[.iface 2 (.tuple #[.agg #[.int .i64 127,.int .i64 8000]]),.int .i64 8000],.agg #[.iface 2 (.tuple #[.agg #[.int .i64 127,.int .i64 8000]]),.int .i64 8000]],.bool true⟩
theorem k14:m14.Ok Tryz.prog:=js (cfg:=xx) (z:=zW) (n:=3000) qP jL (by kernel_rfl)
def m15:jI:=⟨140,[.iface 2 (.tuple #[.agg #[.iface 2 (.tuple #[.agg #[.int .i64 127,.int .i64 1500],.agg #[.int .i64 128,.int .i64 800],.agg #[.int .i64 127,.int .i64 5700]]),.int .i64 8000],.agg #[.iface 2 (.tuple #[.agg #[.int .i64 127,.int .i64 8000]]),.int .i64 8000],.agg #[.iface 2 (.tuple #[.agg #[.int .i64 127,.int .i64 2400],.agg #[.int .i64 128,.int .i64 800],.agg #[.int .i64 127,.int .i64 4800]]),.int .i64 8000],.agg #[.iface 2 (.tuple #[.agg #[.int .i64 127,.int .i64 8000]]),.int .i64 8000]]),.iface 2 (.tuple #[.agg #[.iface 2 (.tuple #[.agg #[.int .i64 127,.int .i64 1500],.agg #[.int .i64 128,.int .i64 800],.agg #[.int .i64 127,.int .i64 5700]]),.int .i64 8000],.agg #[.iface 2 (.tuple #[.agg #[.int .i64 127,.int .i64 8000]]),.int .i64 8000],.agg #[.iface 2 (.tuple #[.agg #[.int .i64 127,.int .i64 2400],.agg #[.int .i64 128,.int .i64 800],.agg #[.int .i64 127,.int .i64 4800]]),.int .i64 8000],.agg #[.iface 2 (.tuple #[.agg #[.int .i64 127,.int .i64 8000]]),.int .i64 8000]])],.bool true⟩
theorem k15:m15.Ok Tryz.prog:=js (cfg:=xx) (z:=zW) (n:=3000) qP (qf k14 jL) (by kernel_rfl)
def m16:jI:=⟨141,[.agg #[.int .i64 3,.iface 1 (.tuple #[.bool true,.bool false,.bool true]),.iface 4 (.tuple #[.agg #[.int .i64 0,.int .i64 1,.int .i64 8,.int .i64 5],.agg #[.int .i64 1,.int .i64 2,.int .i64 8,.int .i64 5]]),.int .i64 100,.int .i64 2,.int .i64 10,.int .i64 8000,.iface 2 (.tuple #[.agg #[.iface 2 (.tuple #[.agg #[.int .i64 127,.int .i64 1500],.agg #[.int .i64 128,.int .i64 800],.agg #[.int .i64 127,.int .i64 5700]]),.int .i64 8000],.agg #[.iface 2 (.tuple #[.agg #[.int .i64 127,.int .i64 8000]]),.int .i64 8000],.agg #[.iface 2 (.tuple #[.agg #[.int .i64 127,.int .i64 2400],.agg #[.int .i64 128,.int .i64 800],.agg #[.int .i64 127,.int .i64 4800]]),.int .i64 8000],.agg #[.iface 2 (.tuple #[.agg #[.int .i64 127,.int .i64 8000]]),.int .i64 8000]]),.int .i64 84],.slice none 0 0],.int .i64 0⟩
theorem k16:m16.Ok Tryz.prog:=js (cfg:=xx) (z:=zW) (n:=3000) qP (qf k2 (qf k3 jL)) (by kernel_rfl)
def m17:jI:=⟨145,[.slice none 0 0,.slice none 0 0],.tuple #[.agg #[.slice none 0 0,.slice none 0 0,.int .i64 (-1000),.iface 1 (.tuple #[]),.iface 1 (.tuple #[])],.int .i64 0]⟩
theorem k17:m17.Ok Tryz.prog:=js (cfg:=xx) (z:=zW) (n:=3000) qP jL (by kernel_rfl)
def m18:jI:=⟨143,[.agg #[.int .i64 3,.iface 1 (.tuple #[.bool true,.bool false,.bool true]),.iface 4 (.tuple #[.agg #[.int .i64 0,.int .i64 1,.int .i64 8,.int .i64 5],.agg #[.int .i64 1,.int .i64 2,.int .i64 8,.int .i64 5]]),.int .i64 100,.int .i64 2,.int .i64 10,.int .i64 8000,.iface 2 (.tuple #[.agg #[.iface 2 (.tuple #[.agg #[.int .i64 127,.int .i64 1500],.agg #[.int .i64 128,.int .i64 800],.agg #[.int .i64 127,.int .i64 5700]]),.int .i64 8000],.agg #[.iface 2 (.tuple #[.agg #[.int .i64 127,.int .i64 8000]]),.int .i64 8000],.agg #[.iface 2 (.tuple #[.agg #[.int .i64 127,.int .i64 2400],.agg #[.int .i64 128,.int .i64 800],.agg #[.int .i64 127,.int .i64 4800]]),.int .i64 8000],.agg #[.iface 2 (.tuple #[.agg #[.int .i64 127,.int .i64 8000]]),.int .i64 8000]]),.int .i64 84,.iface 10 (.tuple #[.agg #[.int .i64 7,.int .i64 0,.int .i64 2,.int .i64 7,.int .i64 100,.int .i64 80,.int .i64 0,.int .i64 0,.int .i64 10000,.iface 1 (.tuple #[.iface 1 (.tuple #[.int .i64 0,.int .i64 2])])]]),.iface 1 (.tuple #[.int .i64 15]),.iface 1 (.tuple #[.int .i64 0,.int .i64 0,.int .i64 0]),.slice none 0 0,.int .i64 8,.int .i64 5000]],.bool true⟩
theorem k18:m18.Ok Tryz.prog:=js (cfg:=xx) (z:=zW) (n:=3000) qP (qf k17 jL) (by kernel_rfl)
def m19:jI:=⟨82,[.agg #[.int .i64 3,.iface 1 (.tuple #[.bool true,.bool false,.bool true]),.iface 4 (.tuple #[.agg #[.int .i64 0,.int .i64 1,.int .i64 8,.int .i64 5],.agg #[.int .i64 1,.int .i64 2,.int .i64 8,.int .i64 5]]),.int .i64 100,.int .i64 2,.int .i64 10,.int .i64 8000,.iface 2 (.tuple #[.agg #[.iface 2 (.tuple #[.agg #[.int .i64 127,.int .i64 1500],.agg #[.int .i64 128,.int .i64 800],.agg #[.int .i64 127,.int .i64 5700]]),.int .i64 8000],.agg #[.iface 2 (.tuple #[.agg #[.int .i64 127,.int .i64 8000]]),.int .i64 8000],.agg #[.iface 2 (.tuple #[.agg #[.int .i64 127,.int .i64 2400],.agg #[.int .i64 128,.int .i64 800],.agg #[.int .i64 127,.int .i64 4800]]),.int .i64 8000],.agg #[.iface 2 (.tuple #[.agg #[.int .i64 127,.int .i64 8000]]),.int .i64 8000]]),.int .i64 84,.iface 10 (.tuple #[.agg #[.int .i64 7,.int .i64 0,.int .i64 2,.int .i64 7,.int .i64 100,.int .i64 80,.int .i64 0,.int .i64 0,.int .i64 10000,.iface 1 (.tuple #[.iface 1 (.tuple #[.int .i64 0,.int .i64 2])])]]),.iface 1 (.tuple #[.int .i64 15]),.iface 1 (.tuple #[.int .i64 0,.int .i64 0,.int .i64 0]),.slice none 0 0,.int .i64 8,.int .i64 5000]],.int .i64 0⟩
theorem k19:m19.Ok Tryz.prog:=js (cfg:=xx) (z:=zW) (n:=3000) qP (qf k2 (qf k9 (qf k12 (qf k13 (qf k6 (qf k15 (qf k16 (qf k18 jL)))))))) (by kernel_rfl)
def m20:jI:=⟨218,[.agg #[.int .i64 3,.iface 1 (.tuple #[.bool true,.bool false,.bool true]),.iface 4 (.tuple #[.agg #[.int .i64 0,.int .i64 1,.int .i64 8,.int .i64 5],.agg #[.int .i64 1,.int .i64 2,.int .i64 8,.int .i64 5]])],.int .i64 2],.tuple #[.int .i64 1,.int .i64 0]⟩
theorem k20:m20.Ok Tryz.prog:=js (cfg:=xx) (z:=zW) (n:=3000) qP (qf k0 jL) (by kernel_rfl)
def m21:jI:=⟨87,[.iface 7 (.tuple #[.agg #[.int .i64 0,.int .i64 7,.int .i64 7,.int .i64 100,.int .i64 8000,.int .i64 2311,.int .i64 2319]]),.slice none 0 0],.bool true⟩
theorem k21:m21.Ok Tryz.prog:=js (cfg:=xx) (z:=zW) (n:=3000) qP jL (by kernel_rfl)
def m22:jI:=⟨39,[.agg #[.int .i64 3,.iface 1 (.tuple #[.bool true,.bool false,.bool true]),.iface 4 (.tuple #[.agg #[.int .i64 0,.int .i64 1,.int .i64 8,.int .i64 5],.agg #[.int .i64 1,.int .i64 2,.int .i64 8,.int .i64 5]]),.int .i64 100,.int .i64 2,.int .i64 10,.int .i64 8000,.iface 2 (.tuple #[.agg #[.iface 2 (.tuple #[.agg #[.int .i64 127,.int .i64 1500],.agg #[.int .i64 128,.int .i64 800],.agg #[.int .i64 127,.int .i64 5700]]),.int .i64 8000],.agg #[.iface 2 (.tuple #[.agg #[.int .i64 127,.int .i64 8000]]),.int .i64 8000],.agg #[.iface 2 (.tuple #[.agg #[.int .i64 127,.int .i64 2400],.agg #[.int .i64 128,.int .i64 800],.agg #[.int .i64 127,.int .i64 4800]]),.int .i64 8000],.agg #[.iface 2 (.tuple #[.agg #[.int .i64 127,.int .i64 8000]]),.int .i64 8000]]),.int .i64 84,.iface 10 (.tuple #[.agg #[.int .i64 7,.int .i64 0,.int .i64 2,.int .i64 7,.int .i64 100,.int .i64 80,.int .i64 0,.int .i64 0,.int .i64 10000,.iface 1 (.tuple #[.iface 1 (.tuple #[.int .i64 0,.int .i64 2])])]]),.iface 1 (.tuple #[.int .i64 15]),.iface 1 (.tuple #[.int .i64 0,.int .i64 0,.int .i64 0]),.slice none 0 0,.int .i64 8,.int .i64 5000]],.tuple #[.iface 9 (.tuple #[.agg #[.int .i64 0,.slice none 0 0,.slice none 0 0,.int .i64 (-1000),.iface 1 (.tuple #[]),.iface 1 (.tuple #[]),.slice none 0 0,.slice none 0 0,.slice none 0 0],.agg #[.int .i64 0,.iface 7 (.tuple #[.agg #[.int .i64 0,.int .i64 7,.int .i64 7,.int .i64 100,.int .i64 8000,.int .i64 2311,.int .i64 2319]]),.slice none 0 0,.int .i64 (-1000),.iface 1 (.tuple #[.int .i64 (-1)]),.iface 1 (.tuple #[]),.iface 6 (.tuple #[.agg #[.int .i64 2,.int .i64 0,.int .i64 0,.int .i64 0,.int .i64 0,.int .i64 0]]),.slice none 0 0,.slice none 0 0],.agg #[.int .i64 0,.slice none 0 0,.slice none 0 0,.int .i64 (-1000),.iface 1 (.tuple #[]),.iface 1 (.tuple #[]),.slice none 0 0,.iface 4 (.tuple #[.agg #[.int .i64 2,.int .i64 7,.int .i64 7,.int .i64 0]]),.iface 6 (.tuple #[.agg #[.int .i64 8,.int .i64 5000,.bool true,.int .i64 0,.int .i64 0,.int .u64 0]])]]),.int .i64 0]⟩
theorem k22:m22.Ok Tryz.prog:=js (cfg:=xx) (z:=zW) (n:=3000) qP (qf k19 (qf k20 (qf k17 (qf k6 (qf k21 jL))))) (by kernel_rfl)
def m23:jI:=⟨43,[.agg #[.iface 7 (.tuple #[.agg #[.int .i64 0,.int .i64 7,.int .i64 7,.int .i64 100,.int .i64 8000,.int .i64 2311,.int .i64 2319]]),.slice none 0 0,.int .i64 (-1000),.iface 1 (.tuple #[.int .i64 (-1)]),.iface 1 (.tuple #[])]],.int .i64 0⟩
theorem k23:m23.Ok Tryz.prog:=js (cfg:=xx) (z:=zW) (n:=3000) qP (qf k21 jL) (by kernel_rfl)
def m24:jI:=⟨12,[.agg #[.int .i64 0,.iface 7 (.tuple #[.agg #[.int .i64 0,.int .i64 7,.int .i64 7,.int .i64 100,.int .i64 8000,.int .i64 2311,.int .i64 2319]]),.slice none 0 0,.int .i64 (-1000),.iface 1 (.tuple #[.int .i64 (-1)]),.iface 1 (.tuple #[]),.iface 6 (.tuple #[.agg #[.int .i64 2,.int .i64 0,.int .i64 0,.int .i64 0,.int .i64 0,.int .i64 0]]),.slice none 0 0,.slice none 0 0]],.int .i64 0⟩
theorem k24:m24.Ok Tryz.prog:=js (cfg:=xx) (z:=zW) (n:=3000) qP (qf k23 jL) (by kernel_rfl)
def m25:jI:=⟨26,[.agg #[.int .i64 7,.int .i64 5,.int .i64 7,.int .i64 100,.int .i64 0]],.int .i64 0⟩
theorem k25:m25.Ok Tryz.prog:=js (cfg:=xx) (z:=zW) (n:=3000) qP jL (by kernel_rfl)
def m26:jI:=⟨121,[.agg #[.int .i64 7,.int .i64 5,.int .i64 7,.int .i64 100,.int .i64 0]],.bool true⟩
theorem k26:m26.Ok Tryz.prog:=js (cfg:=xx) (z:=zW) (n:=3000) qP jL (by kernel_rfl)
def m27:jI:=⟨43,[.agg #[.iface 7 (.tuple #[.agg #[.int .i64 0,.int .i64 7,.int .i64 7,.int .i64 100,.int .i64 8000,.int .i64 2311,.int .i64 2319]]),.slice none 0 0,.int .i64 2315,.iface 1 (.tuple #[.int .i64 0]),.iface 1 (.tuple #[])]],.int .i64 0⟩
theorem k27:m27.Ok Tryz.prog:=js (cfg:=xx) (z:=zW) (n:=3000) qP (qf k21 jL) (by kernel_rfl)
def m28:jI:=⟨40,[.agg #[.int .i64 0,.iface 7 (.tuple #[.agg #[.int .i64 0,.int .i64 7,.int .i64 7,.int .i64 100,.int .i64 8000,.int .i64 2311,.int .i64 2319]]),.slice none 0 0,.int .i64 (-1000),.iface 1 (.tuple #[.int .i64 (-1)]),.iface 1 (.tuple #[]),.iface 6 (.tuple #[.agg #[.int .i64 2,.int .i64 0,.int .i64 0,.int .i64 0,.int .i64 0,.int .i64 0]]),.slice none 0 0,.slice none 0 0],.int .i64 0,.agg #[.int .i64 7,.int .i64 5,.int .i64 7,.int .i64 100,.int .i64 0],.int .i64 2315,.agg #[.int .i64 2,.int .i64 2,.int .i64 2315,.int .i64 0]],.tuple #[.agg #[.int .i64 0,.iface 7 (.tuple #[.agg #[.int .i64 0,.int .i64 7,.int .i64 7,.int .i64 100,.int .i64 8000,.int .i64 2311,.int .i64 2319]]),.slice none 0 0,.int .i64 2315,.iface 1 (.tuple #[.int .i64 0]),.iface 1 (.tuple #[]),.iface 6 (.tuple #[.agg #[.int .i64 2,.int .i64 0,.int .i64 0,.int .i64 0,.int .i64 0,.int .i64 0]]),.slice none 0 0,.slice none 0 0],.bool true]⟩
theorem k28:m28.Ok Tryz.prog:=js (cfg:=xx) (z:=zW) (n:=3000) qP (qf k24 (qf k25 (qf k23 (qf k26 (qf k27 jL))))) (by kernel_rfl)
def m29:jI:=⟨43,[.agg #[.slice none 0 0,.slice none 0 0,.int .i64 (-1000),.iface 1 (.tuple #[]),.iface 1 (.tuple #[])]],.int .i64 0⟩
theorem k29:m29.Ok Tryz.prog:=js (cfg:=xx) (z:=zW) (n:=3000) qP jL (by kernel_rfl)
def m30:jI:=⟨46,[.agg #[.int .i64 8,.int .i64 5000,.bool false,.int .i64 5,.int .i64 3215,.int .u64 1]],.int .i64 0⟩
theorem k30:m30.Ok Tryz.prog:=js (cfg:=xx) (z:=zW) (n:=3000) qP jL (by kernel_rfl)
def m31:jI:=⟨38,[],.tuple #[.agg #[.int .i64 3,.iface 1 (.tuple #[.bool true,.bool false,.bool true]),.iface 4 (.tuple #[.agg #[.int .i64 0,.int .i64 1,.int .i64 8,.int .i64 5],.agg #[.int .i64 1,.int .i64 2,.int .i64 8,.int .i64 5]]),.int .i64 100,.int .i64 2,.int .i64 10,.int .i64 8000,.iface 2 (.tuple #[.agg #[.iface 2 (.tuple #[.agg #[.int .i64 127,.int .i64 1500],.agg #[.int .i64 128,.int .i64 800],.agg #[.int .i64 127,.int .i64 5700]]),.int .i64 8000],.agg #[.iface 2 (.tuple #[.agg #[.int .i64 127,.int .i64 8000]]),.int .i64 8000],.agg #[.iface 2 (.tuple #[.agg #[.int .i64 127,.int .i64 2400],.agg #[.int .i64 128,.int .i64 800],.agg #[.int .i64 127,.int .i64 4800]]),.int .i64 8000],.agg #[.iface 2 (.tuple #[.agg #[.int .i64 127,.int .i64 8000]]),.int .i64 8000]]),.int .i64 84,.iface 10 (.tuple #[.agg #[.int .i64 7,.int .i64 0,.int .i64 2,.int .i64 7,.int .i64 100,.int .i64 80,.int .i64 0,.int .i64 0,.int .i64 10000,.iface 1 (.tuple #[.iface 1 (.tuple #[.int .i64 0,.int .i64 2])])]]),.iface 1 (.tuple #[.int .i64 15]),.iface 1 (.tuple #[.int .i64 0,.int .i64 0,.int .i64 0]),.slice none 0 0,.int .i64 8,.int .i64 5000],.bool true]⟩
theorem k31:m31.Ok Tryz.prog:=js (cfg:=xx) (z:=zW) (n:=3000) qP (qf k0 (qf k1 (qf k3 (qf k4 (qf k5 (qf k6 (qf k7 (qf k8 (qf k9 (qf k10 (qf k11 (qf k12 (qf k13 jL))))))))))))) (by kernel_rfl)
def mT:jI:=⟨11,[],.bool true⟩
theorem kT:mT.Ok Tryz.prog:=js (cfg:=xx) (z:=zW) (n:=3000) qP (qf k31 (qf k22 (qf k28 (qf k27 (qf k25 (qf k26 (qf k24 (qf k23 (qf k29 (qf k30 (qf k19 (qf k7 jL)))))))))))) (by kernel_rfl)
abbrev bT:List VT:=[]
abbrev bU:List VT:=[⟨false,.bool⟩]
def JV:Unit->Option (Bool×Unit):=fun _=>some (true,())
theorem Pe:Con.Ok Tryz.prog 11 ⟨bT,bU,JV⟩:=zkG kT
abbrev Zj:List VT:=[⟨true,yO⟩,⟨false,(.int .u8)⟩,⟨false,(.int .u8)⟩,⟨true,jc⟩,⟨true,wP⟩,⟨true,qj⟩,⟨true,qL⟩]
abbrev Wn:List VT:=[⟨false,.bool⟩]
def UO:yp:=zG [⟨qR,wB qR,[6,7,8]⟩,⟨vA,wB vA,[]⟩,⟨yO,wB yO,[]⟩,⟨qv,wB qv,[]⟩,⟨jC,wB jC,[]⟩,⟨zN,wB zN,[]⟩,⟨qy,wB qy,[]⟩,⟨zV,wB zV,[]⟩,⟨yM,wB yM,[]⟩,⟨zS,wB zS,[]⟩,⟨jc,wB jc,[]⟩,⟨qj,wB qj,[]⟩,⟨qh,wB qh,[]⟩,⟨qL,wB qL,[]⟩,⟨wP,wB wP,[]⟩,⟨(.pair (.int .u8) (.pair (.int .u8) (.int .u8))),wB (.pair (.int .u8) (.pair (.int .u8) (.int .u8))),[]⟩,⟨qG,wB qG,[]⟩,⟨zY,wB zY,[]⟩,⟨zr,wB zr,[]⟩] [] [] [(5,131,16,[6,7,8]),(7,131,16,[6,7,8]),(8,131,16,[6]),(10,131,16,[7,8]),(12,131,16,[8])] [12,13,10,11]
def Wo(gr:(we×Unit)->Option (vp×Unit))(US:(vp×Int×Unit)->Option (zI×Unit))(Vw:(zI×Int×zM×Int×Unit)->Option (zI×yV×Int×Unit))(Xj:(zI×Int×zM×Int×Unit)->Option (zI×yV×Int×Unit))(yz:(zI×Unit)->Option (Int×Unit))(Qs:(zI×Unit)->Option (Int×Unit))(Jx:(zI×zI×Unit)->Option (Bool×Unit))(Vx:(Unit)->Option (Bool×Unit))(a0:we)(a1:Int)(a2:Int)(a3:jl)(a4:yf)(a5:qg)(a6:zM):Option (Bool×Unit):=opt (gr ((a0,()))) fun x0=>bif(zj (x0.1.1.1.1) (0))then none else opt (US ((x0.1,((Int.tmod (wrF .i64 (a1)) x0.1.1.1.1),())))) fun x1=>opt (bif(zj ((Int.tmod a2 6)) (0))then bif(zX (((a3::[])).length) ((x1.1.2.2.1).length) (48))then some (0,(((x1.1.1,(x1.1.2.1,(((a3::[])++x1.1.2.2.1),x1.1.2.2.2))),()),()))else none else opt (bif(zj ((Int.tmod a2 6)) (1))then opt (bif(zg (0) ((((x1.1.2.2.1).length:Nat):Int)))then opt (Yc (x1.1.2.2.1) (some (1)) none none) fun x2=>bif(zX (((a3::[])).length) ((x2).length) (48))then some (0,(((x1.1.1,(x1.1.2.1,(((a3::[])++x2),x1.1.2.2.2))),()),()))else none else some (0,((x1.1,()),()))) fun x3=>some (0,((x3.2.1.1,()),()))else opt (bif(zj ((Int.tmod a2 6)) (2))then bif(zX (0) ((x1.1.2.2.2.1).length) (32))then bif(zX ((x1.1.2.2.2.1).length) (((a4::[])).length) (32))then some (0,(((x1.1.1,(x1.1.2.1,(x1.1.2.2.1,((x1.1.2.2.2.1++(a4::[])),x1.1.2.2.2.2)))),()),()))else none else none else opt (bif(zj ((Int.tmod a2 6)) (3))then bif(zX (0) ((x1.1.2.2.2.2).length) (48))then bif(zX ((x1.1.2.2.2.2).length) (((a5::[])).length) (48))then some (0,(((x1.1.1,(x1.1.2.1,(x1.1.2.2.1,(x1.1.2.2.2.1,(x1.1.2.2.2.2++(a5::[])))))),()),()))else none else none else opt (bif(zj ((Int.tmod a2 6)) (4))then some (0,(((a3.1,x1.1.2),()),()))else some (0,(((x1.1.1,((x1.1.2.1.1,(x1.1.2.1.2.1,(a3.2.2.1,x1.1.2.1.2.2.2))),x1.1.2.2)),()),()))) fun x4=>some (0,((x4.2.1.1,()),()))) fun x5=>some (0,((x5.2.1.1,()),()))) fun x6=>some (0,((x6.2.1.1,()),()))) fun x7=>some (0,((x7.2.1.1,()),()))) fun x8=>opt (Vw ((x8.2.1.1,(a4.1,(a6,(a3.2.2.1,())))))) fun x9=>opt (Xj ((x8.2.1.1,(a4.1,(a6,(a3.2.2.1,())))))) fun x10=>opt (yz ((x8.2.1.1,()))) fun x11=>opt (Qs ((x8.2.1.1,()))) fun x12=>bif(zj (x11.1) (x12.1))then bif((zj (x9.2.1.1) (x10.2.1.1))&&((zj (x9.2.1.2.1) (x10.2.1.2.1))&&((zj (x9.2.1.2.2.1) (x10.2.1.2.2.1))&&((zj (x9.2.1.2.2.2) (x10.2.1.2.2.2))&&true))))then bif(zj (x9.2.2.1) (x10.2.2.1))then opt (Jx ((x9.1,(x10.1,())))) fun x13=>bif x13.1 then opt (Vx (())) fun x14=>some (x14.1,())else some (false,())else some (false,())else some (false,())else some (false,())
theorem Co(gr:(we×Unit)->Option (vp×Unit))(US:(vp×Int×Unit)->Option (zI×Unit))(Vw:(zI×Int×zM×Int×Unit)->Option (zI×yV×Int×Unit))(Xj:(zI×Int×zM×Int×Unit)->Option (zI×yV×Int×Unit))(yz:(zI×Unit)->Option (Int×Unit))(Qs:(zI×Unit)->Option (Int×Unit))(Jx:(zI×zI×Unit)->Option (Bool×Unit))(Vx:(Unit)->Option (Bool×Unit))(a0:we)(a1:Int)(a2:Int)(a3:jl)(a4:yf)(a5:qg)(a6:zM):sF Tryz.prog [(5,⟨vD,vE,gr⟩),(6,⟨KV,KW,US⟩),(8,⟨JS,JT,Vw⟩),(9,⟨Xb,Xc,Xj⟩),(12,⟨ur,uu,yz⟩),(13,⟨Qk,Ql,Qs⟩),(10,⟨Jn,Jo,Jx⟩),(11,⟨bT,bU,Vx⟩)] UO (zy []) 30 4 Zj Wn (a0,a1,a2,a3,a4,a5,a6,())=Wo gr US Vw Xj yz Qs Jx Vx a0 a1 a2 a3 a4 a5 a6:=by kernel_rfl
def Zk:(we×Int×Int×jl×yf×qg×zM×Unit)->Option (Bool×Unit):=sF Tryz.prog [(5,⟨vD,vE,yq⟩),(6,⟨KV,KW,uP⟩),(8,⟨JS,JT,xR⟩),(9,⟨Xb,Xc,vg⟩),(12,⟨ur,uu,wS⟩),(13,⟨Qk,Ql,xw⟩),(10,⟨Jn,Jo,xW⟩),(11,⟨bT,bU,JV⟩)] UO (zy []) 30 4 Zj Wn
theorem nz:Con.Ok Tryz.prog 4 ⟨Zj,Wn,Zk⟩:=Rm (ze iF (ze SC (ze Oz (ze Ir (ze Gg (ze rZ (ze Ck (ze Pe zn)))))))) qP (by kernel_rfl)
theorem nA(a0:we)(a1:Int)(a2:Int)(a3:jl)(a4:yf)(a5:qg)(a6:zM):Zk (a0,a1,a2,a3,a4,a5,a6,())=Wo yq uP xR vg wS xw xW JV a0 a1 a2 a3 a4 a5 a6:=Co yq uP xR vg wS xw xW JV a0 a1 a2 a3 a4 a5 a6
end Go.Proofs.YtlfkgkedfciccaaGreat.nd
namespace Go.Proofs.YtlfkgkedfciccaaGreat.dd
open Go Go.Fz Go.Fz.Sy Go.Proofs.YtlfkgkedfciccaaGreat.nd Go.Proofs.YtlfkgkedfciccaaGreat.ad
theorem zoU:JV ()=some (true,()):=rfl
structure zqa(s:zI):Prop where
 w:gp s
 a:∀x∈s.2.1.1,GW x
theorem Tp.i{s:zI}(h:Tp s):zqa s:=⟨h.w,fun x hx=>by
 rcases h.f with hf | hf
 ·grind
 ·obtain⟨k,_,hk⟩:=uz hx;exact(hf.1.2.2.1 k x hk).1⟩
theorem zoV{t:qT}(ht:ya t){a:Int}(h0:0<=a)(h1:a<=255):jW t (Int.tmod (wrF .i64 a) t.1):=by have n0:=ht.sz.n0;rw[zU (by omega) (by omega),zqx h0];exact⟨zrc _ (by omega),zqV _ (by omega)⟩
theorem zqn{α:Type}{l:List α}(h:0 < l.length):Yc l (some 1) none none=some (l.drop 1):=zkJ l 1 (by omega)
theorem zgU{d:HH}(hd:zm4 d){a:Int}(a0:0<=a)(a1:a<=255)(wh:Int)(o:jl)(n:yf){r:qg}(hr:Xg r)(x:zM):Zk (d,a,wh,o,n,r,x,())=some (true,()):=by
 obtain⟨c,ec,hc⟩:=zm5 hd;have n0:=hc.t.sz.n0;obtain⟨s0,es,hs⟩:=zpJ hc (zoV hc.t a0 a1);have ho:=hs.o;have he:=hs.e;have hrr:=hs.r;rw[nA];unfold Wo;rw[ec,zq];refine Zb (zi (jm (show c.1.1.1≠0 by omega)) ?_);show zt (opt (uP (c,Int.tmod (wrF .i64 a) c.1.1.1,())) _) _;rw[es,zq];have W:=hs.w;have up:∀{k:Nat} {s:zI},gp s->zt (some (k,((s,()),())):Option (Nat×((zI×Unit)×Unit))) fun z=>gp z.2.1.1:=fun h=>za h;have thru:∀{x:Option (Nat×((zI×Unit)×Unit))},zt x (fun z=>gp z.2.1.1)->zt (opt x fun y=>some (0,((y.2.1.1,()),()))) fun z=>gp z.2.1.1:=fun h=>zk h fun z hz=>za hz;refine zk (J:=fun z=>gp z.2.1.1) ?_ ?_
 ·refine zd (fun _=>zf (qF (by show(1+s0.2.2.1.length)*48<=_;omega) (by show 1+s0.2.2.1.length<=_;omega)) (up ⟨W.la,W.lp,W.lr,W.wr⟩)) fun _=>thru ?_;refine zd (fun _=>thru (zd (fun h=>?_) fun _=>up W)) fun _=>thru ?_
  ·have h:(0:Int) < (s0.2.2.1.length:Int):=zZ h;rw[zqn (l:=s0.2.2.1) (by omega),zq];exact zf (qF (by show(1+(s0.2.2.1.drop 1).length)*48<=_;simp;omega) (by show 1+(s0.2.2.1.drop 1).length<=_;simp;omega)) (up ⟨W.la,W.lp,W.lr,W.wr⟩)
  refine zd (fun _=>zf (qF (by show(0+s0.2.2.2.1.length)*32<=_;omega) (by show 0+s0.2.2.2.1.length<=_;omega)) (zf (qF (by show(s0.2.2.2.1.length+1)*32<=_;omega) (by show s0.2.2.2.1.length+1<=_;omega)) (up ⟨W.la,W.lp,W.lr,W.wr⟩))) fun _=>thru ?_;refine zd (fun _=>zf (qF (by show(0+s0.2.2.2.2.length)*48<=_;omega) (by show 0+s0.2.2.2.2.length<=_;omega)) (zf (qF (by show(s0.2.2.2.2.length+1)*48<=_;omega) (by show s0.2.2.2.2.length+1<=_;omega)) (up ⟨W.la,W.lp,?_,fun k r' hk=>?_⟩))) fun _=>thru ?_
  ·show(s0.2.2.2.2++[r]).length<=_;simp;omega
  ·rcases zqS.1 (zqy (show(s0.2.2.2.2++[r])[k]?=some r' from hk))with h | h
   ·obtain⟨k',_,hk'⟩:=uz h;exact W.wr k' r' hk'
   ·rw[zqU.1 h];exact hr
  exact zd (fun _=>up ⟨W.la,W.lp,W.lr,W.wr⟩) fun _=>up ⟨W.la,W.lp,W.lr,W.wr⟩
 rintro⟨k,⟨s,⟨⟩⟩,⟨⟩⟩ hW;have hW:gp s:=hW;obtain⟨q,ac,e,e1,e2,hq⟩:=zno (port:=n.1) (x:=x) (t:=o.2.2.1) hW;show zt (opt (xR (s,n.1,x,o.2.2.1,())) _) _;rw[e1,zq];show zt (opt (vg (s,n.1,x,o.2.2.1,())) _) _;rw[e2,zq];show zt (opt (wS (s,())) _) _;rw[zhE hW,zq];show zt (opt (xw (s,())) _) _;grind[zln,zq,zlr,zlq,wZ,Bool.and_self,zt,opt,xW,zpI,zoU,za]
theorem u8w{n:Int}(h:wfT (.int .u8) n):0<=n∧n<=255:=h
theorem u8l{l:List Int}(h:wfT (.list (.int .u8)) l):u8 l:=fun x hx=>u8w (h.2 x hx)
theorem zqb{d:HH}(h:wfT yO d):zm4 d:=
 ⟨⟨u8w h.1.1,u8w h.1.2.1,u8l h.1.2.2.1,u8l h.1.2.2.2.1,u8l h.1.2.2.2.2.1,u8l h.1.2.2.2.2.2⟩,⟨u8w h.2.1.1,u8w h.2.1.2.1,u8w h.2.1.2.2⟩,fun x hx=>⟨u8w (h.2.2.1.2 x hx).2.2.1,u8w (h.2.2.1.2 x hx).2.2.2.2.2.1⟩,zqw (show d.2.2.1.length*10<=reachBytes from h.2.2.1.1.2) (by decide)⟩
abbrev A4:=Zj
abbrev K4_ok:=nz
theorem good4(x:T (wA A4))(h:wfT (wA A4) x):Zk x=some (true,()):=by obtain⟨d,a,wh,o,n,r,y,⟨⟩⟩:=x;refine zgU (zqb h.1) (u8w h.2.1).1 (u8w h.2.1).2 wh o n ?_ y;have hr:=h.2.2.2.2.2.1.2.2.2.2.2;have hr:0<=r.2.2.2.2.2∧r.2.2.2.2.2<=18446744073709551615:=hr;exact⟨hr.1,Int.lt_of_le_of_lt hr.2 (by decide)⟩
end Go.Proofs.YtlfkgkedfciccaaGreat.dd
end
