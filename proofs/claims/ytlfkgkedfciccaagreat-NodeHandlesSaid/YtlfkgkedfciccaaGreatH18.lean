/- Parts of a proof, joined. -/
import Derived.Test.YtlfkgkedfciccaaGreatH17
set_option linter.unusedSectionVars false
set_option linter.unusedVariables false
set_option linter.unusedSimpArgs false
set_option maxHeartbeats 0
set_option maxRecDepth 100000
noncomputable section
namespace Go.Proofs.YtlfkgkedfciccaaGreat.nd
open Go Go.Fz Go.Fz.Sy
theorem zdM(z:Int):IntKind.wrap .u64 z=z % 18446744073709551616:=by unfold IntKind.wrap;show(if(false&&decide (z % 18446744073709551616>=_))=true then _ else z % 18446744073709551616)=_;grind
theorem FR{z:Int}(h1:0<=z)(h2:z < 18446744073709551616):wrF .u64 z=z:=by rw[Zy,zdM];omega
theorem p64:(2:Nat) ^ 64=18446744073709551616:=by decide
theorem dz{x:Nat}(h:x < 2 ^ 64):(BitVec.ofInt (IntKind.bits .u64) (x:Int)).toNat=x:=by show(BitVec.ofInt 64 (x:Int)).toNat=x;grind
theorem zjm{x:Nat}(h:x < 2 ^ 64):IntKind.wrap .u64 (x:Int)=(x:Int):=by rw[zdM];rw[p64]at h;omega
theorem zm9{x y:Nat}(hx:x < 2 ^ 64)(hy:y < 2 ^ 64):wR .and .u64 (x:Int) (y:Int)=((x&&& y:Nat):Int):=by show IntKind.wrap .u64 (((BitVec.ofInt (IntKind.bits .u64) (x:Int)&&& BitVec.ofInt (IntKind.bits .u64) (y:Int)).toNat:Nat):Int)=_;rw[ztp,dz hx,dz hy,zjm (zsI Nat.and_le_left hx)]
theorem bor{x y:Nat}(hx:x < 2 ^ 64)(hy:y < 2 ^ 64):wR .or .u64 (x:Int) (y:Int)=((x||| y:Nat):Int):=by show IntKind.wrap .u64 (((BitVec.ofInt (IntKind.bits .u64) (x:Int)||| BitVec.ofInt (IntKind.bits .u64) (y:Int)).toNat:Nat):Int)=_;rw[BitVec.toNat_or,dz hx,dz hy,zjm (zto hx hy)]
theorem zp2{x y:Nat}(hx:x < 2 ^ 64)(hy:y < 2 ^ 64):wR .andNot .u64 (x:Int) (y:Int)=((x&&& (2 ^ 64 - (y+1)):Nat):Int):=by show IntKind.wrap .u64 (((BitVec.ofInt (IntKind.bits .u64) (x:Int)&&& ~~~BitVec.ofInt (IntKind.bits .u64) (y:Int)).toNat:Nat):Int)=_;rw[ztp,BitVec.toNat_not,dz hx,dz hy,zjm (zsI Nat.and_le_left hx)];congr 2;show 2 ^ 64 - 1 - y=_;omega
theorem shl{x b:Nat}(hb:b<=64):wj .u64 (x:Int) (b:Int)=((x*2 ^ b % 2 ^ 64:Nat):Int):=by show IntKind.wrap .u64 ((x:Int)*2 ^ (min (b:Int).toNat 64))=_;grind[min,zdM,p64]
theorem zlc{x n:Nat}(hx:x < 2 ^ 64)(hn:n<=64):x&&& (2 ^ 64 - ((2 ^ n - 1)+1))=0↔x < 2 ^ n:=by
 have hp:2 ^ n - 1 < 2 ^ 64:=zqC (Nat.sub_lt (zrO n) (by decide)) (zqY (by decide) hn);constructor
 ·intro h;refine Nat.lt_pow_two_of_testBit x fun i hi=>?_;have h2:=zqS (fun z=>z.testBit i) h;simp only[ztA,Nat.testBit_two_pow_sub_succ hp,zsx,Nat.zero_testBit]at h2;by_cases h64:i < 64
  ·grind
  ·exact zrL (zqC hx (zqY (by decide) (by omega)))
 ·intro h;refine zsy fun i=>?_;simp only[ztA,Nat.testBit_two_pow_sub_succ hp,zsx,Nat.zero_testBit];grind[Nat.testBit_lt_two_pow,Nat.lt_of_lt_of_le,Nat.pow_le_pow_right]
theorem HL{s i:Nat}(hs:s < 2 ^ 64)(hi:i<=1000000000):xh ((s:Int),(i:Int),())=some (s.testBit i,()):=by
 rw[zaH];unfold LY;have hlt:∀k,s / 2 ^ k < 2 ^ 64:=fun k=>zsI (Nat.div_le_self _ _) hs;refine qH (zk (J:=fun x=>x.2.1.1=((s / 2 ^ i:Nat):Int)) (zZ i (fun k st=>st=((((s / 2 ^ k:Nat):Int),((k:Int),())),())) (by omega) (by simp) ?_ ?_) ?_)
 ·rintro k _ hk rfl;refine zf (zL (show(k:Int) < (i:Int) by omega)) (za (ql ?_));have e:Int.tdiv ((s / 2 ^ k:Nat):Int) 2=((s / 2 ^ (k+1):Nat):Int):=by rw[Nat.pow_succ,<-Nat.div_div_eq_div_mul];generalize s / 2 ^ k=q;rw[zre (by omega)];omega
  have hl:=hlt (k+1);rw[p64]at hl;show((wrF .u64 (Int.tdiv ((s / 2 ^ k:Nat):Int) 2),(wrF .i64 ((k:Int)+1),())),())=_;rw[e];generalize s / 2 ^ (k+1)=q at hl;rw[FR (by omega) (by omega),zQ (by omega)]
 all_goals grind[zD,za,zw,zj,Int.tmod,Int.tmod_eq_emod_of_nonneg,decide_eq_true,wP,decide_eq_false,jf]
abbrev mkR(L R:Int)(any:Bool)(last at':Int)(s:Nat):qn:=(L,R,any,last,at',(s:Int))
def GY(L R:Int)(any:Bool)(last at':Int)(s:Nat):Prop:=inP L 1 64∧inP R 1 1099511627776∧((any=true∧last=0∧at'=0∧s=0)∨(any=false∧inP last 0 65535∧inP at' 0 1099511627776∧s % 2=1∧s < 2 ^ L.toNat))
theorem zna(L R:Int):Jc (L,R,())=some (tv (inP L 1 64∧inP R 1 1099511627776),()):=by rw[BQ];unfold fB inP;refine jl ?_;grind[za,qM,qE,vG,vH,gh]
theorem zld(w:qL){L:Nat}(h:w.1.1=(L:Int))(h64:L<=64):ye (w,())=some (((2 ^ L - 1:Nat):Int),()):=by rw[aW];unfold Yn;rw[h,FR (by omega) (by omega)];refine qH (zi (zD (by omega)) (za ?_));congr 1;rw[show(1:Int)=((1:Nat):Int) from rfl,shl h64,Zy,zdM];have hp:0 < 2 ^ L:=zrO L;have hle:2 ^ L<=2 ^ 64:=zqY (by decide) h64;omega
theorem zgb(L R:Int)(any:Bool)(last at':Int){s:Nat}(hs:s < 2 ^ 64):uX (mkR L R any last at' s,())=some (bif tv (GY L R any last at' s)then 0 else 500,()):=by
 rw[EV];unfold ml;simp only[zna,zq];refine Qh (by decide) (zd (fun h1=>za (.inr ⟨fun h=>jZ h1 ⟨h.1,h.2.1⟩,rfl⟩)) fun h1=>?_);obtain⟨hL,hR⟩:=wF h1;obtain⟨l0,l1⟩:=id hL;have hLn:(L.toNat:Int)=L:=by omega
 cases any with
 |true=>
  grind[zj,wP,GY,za,qM,qE,zkR,XT,bn]
 |false=>
  refine zi rfl (zb ?_);have h2p:(1:Int)=((1:Nat):Int):=rfl;have ea:wR .and .u64 (s:Int) 1=((s % 2:Nat):Int):=by rw[h2p,zm9 hs (by decide),Nat.and_one_is_mod]
  have hn:GY L R false last at' s↔inP last 0 65535∧inP at' 0 1099511627776∧s % 2=1∧s < 2 ^ L.toNat:=by unfold GY;simp[hL,hR]
  rw[hn];refine zd (fun h3=>za (zu (za (.inr ⟨fun h=>?_,rfl⟩)))) fun h3=>zd (fun h4=>za (zu (za (.inr ⟨fun h=>?_,rfl⟩)))) fun h4=>zd (fun h5=>za (zu (za (.inr ⟨fun h=>?_,rfl⟩)))) fun h5=>zd (fun h6=>za (zu (za (.inr ⟨fun h=>?_,rfl⟩)))) fun h6=>?_
  ·have:=h.1.1;have:=zV h3;omega
  ·have h7:=h.1.2;have h8:=zP (qM.1 h4);omega
  ·have:=h.2.1.1;have:=zV h5;omega
  ·have:=h.2.1.2;have:=zV h6;omega
  show zt (bif zj (wR .and .u64 (s:Int) 1) 0 then _ else _) _;rw[ea];refine zd (fun h7=>za (zu (za (.inr ⟨fun h=>?_,rfl⟩)))) fun h7=>?_
  ·grind[qi]
  rw[zld _ (L:=L.toNat) hLn.symm (by omega),zq];have hp2:2 ^ L.toNat - 1 < 2 ^ 64:=zqC (Nat.sub_lt (zrO _) (by decide)) (zqY (by decide) (by omega));have eb:wR .andNot .u64 (s:Int) ((2 ^ L.toNat - 1:Nat):Int)=((s&&& (2 ^ 64 - ((2 ^ L.toNat - 1)+1)):Nat):Int):=zp2 hs hp2;show zt (bif !zj (wR .andNot .u64 (s:Int) ((2 ^ L.toNat - 1:Nat):Int)) 0 then _ else _) _;rw[eb];have hz:=zlc hs (n:=L.toNat) (by omega);refine zd (fun h8=>za (zu (za (.inr ⟨fun h=>?_,rfl⟩)))) fun h8=>za (zx (za (.inl ⟨?_,rfl⟩)))
  ·grind[qt,qM]
  ·have h9:=qi (qE.1 h8);have h3:=zP h3;have h4:=zV (qE.1 h4);have h5:=zP h5;have h6:=zP h6;have h7:=qt h7;exact⟨⟨by omega,by omega⟩,⟨by omega,by omega⟩,by omega,hz.1 (by omega)⟩
theorem zjn(n:Int):YS (n,())=some (tv (inP n 0 65535),()):=by rw[HW];unfold oE;refine jl (zd (fun h=>?_) fun h=>?_)<;>refine za ?_<;>simp only[inP,qM,qE,vG,vH,gh]at *<;>grind
theorem zce(L R:Int)(any:Bool)(last at':Int){s:Nat}(hs:s < 2 ^ 64):kB (mkR L R any last at' s,())=some (tv (GY L R any last at' s),()):=by
 rw[NV];unfold AB;simp only[zjn,zq];have e0:xh ((s:Int),0,())=some (s.testBit 0,()):=HL hs (i:=0) (by omega);refine jl (zb (zd (fun h1=>za (zu (za ?_))) fun h1=>zd (fun h2=>za (zu (za ?_))) fun h2=>zd (fun h3=>za (zu (za ?_))) fun h3=>zd (fun h4=>za (zu (za ?_))) fun h4=>za (zx ?_)))
 ·exact⟨fun h=>(by cases h),fun h=>absurd h.1.1 (by have:=zV h1;omega)⟩
 ·exact⟨fun h=>(by cases h),fun h=>absurd h.1.2 (by have:=zV h2;omega)⟩
 ·exact⟨fun h=>(by cases h),fun h=>absurd h.2.1.1 (by have:=zV h3;omega)⟩
 ·exact⟨fun h=>(by cases h),fun h=>absurd h.2.1.2 (by have:=zV h4;omega)⟩
 have h1:=zP h1;have h2:=zP h2;have h3:=zP h3;have h4:=zP h4;have hL:inP L 1 64:=⟨h1,h2⟩;have hR:inP R 1 1099511627776:=⟨h3,h4⟩;cases any with
 |true=>
  grind[GY,za,XT,bn,gh]
 |false=>
  have hn:GY L R false last at' s↔inP last 0 65535∧inP at' 0 1099511627776∧s % 2=1∧s < 2 ^ L.toNat:=by unfold GY;simp[hL,hR]
  rw[hn];refine zi rfl (zb (zd (fun h5=>za (zu (za ?_))) fun h5=>zd (fun h6=>za (zu (za ?_))) fun h6=>zd (fun h7=>za (zu (za ?_))) fun h7=>?_))
  ·grind[jZ]
  ·exact⟨fun h=>(by cases h),fun h=>absurd h.2.1.1 (by have:=zV h6;omega)⟩
  ·exact⟨fun h=>(by cases h),fun h=>absurd h.2.1.2 (by have:=zV h7;omega)⟩
  show zt (opt (xh ((s:Int),0,())) _) _;rw[e0,zq];have hb:s.testBit 0=true↔s % 2=1:=by grind
  refine zd (fun h8=>za (zu (za ?_))) fun h8=>za (zx ?_)
  ·grind
  have h8:=hb.1 (qE.1 h8);have h5:=wF h5;have h6:=zP h6;have h7:=zP h7;refine zk (J:=fun x=>(x.1=0∧s < 2 ^ L.toNat)∨(x.1=1∧x.2.1.1=false∧¬s < 2 ^ L.toNat)) (zZ (64 - L.toNat) (fun k st=>∃v,st=((v,((L.toNat+k:Nat):Int),()),())∧∀i,L.toNat<=i->i < L.toNat+k->s.testBit i=false) (by omega) ⟨_,by show((_,L,()),())=_;rw[show((L.toNat+0:Nat):Int)=L by omega],fun i h9 h10=>by omega⟩ ?_ ?_) ?_
  ·rintro k _ hk ⟨v,rfl,hp⟩;refine zf (zL (show((L.toNat+k:Nat):Int) < 64 by omega)) ?_;show zt (opt (xh ((s:Int),((L.toNat+k:Nat):Int),())) _) _;rw[HL hs (by omega),zq];refine zd (fun h9=>za (zw (.inr ⟨rfl,rfl,fun h10=>?_⟩))) fun h9=>za (ql ⟨v,?_,fun i h10 h11=>?_⟩)
   ·have h9:s.testBit (L.toNat+k)=true:=h9;rw[zrL (zqC h10 (zqY (by decide) (by omega)))]at h9;cases h9
   ·show((v,wrF .i64 (((L.toNat+k:Nat):Int)+1),()),())=_;rw[zQ (by omega)];rfl
   grind
  ·rintro _ ⟨v,rfl,hp⟩;refine zi (zD (show ¬((L.toNat+(64 - L.toNat):Nat):Int) < 64 by omega)) (za (zw (.inl ⟨rfl,Nat.lt_pow_two_of_testBit s fun i hi=>?_⟩)));rcases zrA i 64 with h12 | h12
   ·grind
   ·exact zrL (zqC hs (zqY (by decide) h12))
  ·rintro⟨c,⟨y1,y2,⟨⟩⟩,⟨⟩⟩ (⟨rfl,hA⟩ | ⟨rfl,rfl,hA⟩)
   ·exact zx (za ⟨fun _=>⟨h5,⟨h6,h7⟩,h8,hA⟩,fun _=>rfl⟩)
   ·exact zu (za ⟨fun h=>(by cases h),fun h=>absurd h.2.2.2 hA⟩)
theorem Pc{x:Int}(h:0<=x):Int.tmod x 65536=x % 65536:=by grind
theorem Pd{x:Int}(h:x < 0):Int.tmod x 65536 = -((-x) % 65536):=by
 have:x = -(-x):=by omega
 rw[this,Int.neg_tmod,Int.neg_neg,zqw (by omega)]
def dlt(a b:Int):Int:=(b - a+32768) % 65536 - 32768
theorem zpA{x:Int}(h1 : -1000000<=x)(h2:x<=1000000):di (x,())=some (x % 65536,()):=by
 rw[zda];unfold SP;refine qH (zb ?_);rcases zsW x 0 with h | h
 ·rw[Pd h];refine zd (fun h3=>za (za ?_)) fun h3=>za (za ?_)
  ·have:=zV h3;show(wrF .i64 _,())=_;rw[zT (by omega) (by omega)];congr 1;omega
  ·have:=zP h3;show(-(-x % 65536),())=_;congr 1;omega
 grind[Pc,zD,za]
theorem zp3(n:Int):Yo (n,())=some (tv (inP n 0 65535),()):=by rw[SM];unfold Fb;refine jl (zd (fun h=>?_) fun h=>?_)<;>refine za ?_<;>simp only[inP,qM,qE,vG,vH,gh]at *<;>grind
theorem zoM{a b:Int}(ha:inP a 0 65535)(hb:inP b 0 65535):XN (a,b,())=some (dlt a b,0,()):=by obtain⟨a1,a2⟩:=id ha;obtain⟨b1,b2⟩:=id hb;rw[zaW];unfold Mt;simp only[zp3,qX ha,qX hb,zq];refine qH (zb (zi rfl (zi rfl (za (zx ?_)))));rw[zT (z:=b - a) (by omega) (by omega),zT (by omega) (by omega),zpA (by omega) (by omega),zq];refine za ?_;show(wrF .i64 ((b - a+32768) % 65536 - 32768),0,())=_;rw[zT (by omega) (by omega)];rfl
theorem zcf{n a:Int}(h1 : -1000000<=n)(h2:n<=1000000)(h3 : -1000000<=a)(h4:a<=1000000):Zv (n,a,())=some ((n+a) % 65536,()):=by
 rw[OG];unfold Bw;have key:∀u:Int,-65536 < u->u < 65536->(n+u) % 65536=(n+a) % 65536->Int.tmod a 65536=u->zt (opt (bif(zg ((Int.tmod (wrF .i64 ((n+(Int.tmod a 65536)))) 65536)) (0))then some (0,(((wrF .i64 (((Int.tmod (wrF .i64 ((n+(Int.tmod a 65536)))) 65536)+65536))),()),()))
  else some (0,(((Int.tmod (wrF .i64 ((n+(Int.tmod a 65536)))) 65536),()),()))) fun x0:Nat×((Int×Unit)×Unit)=>some (x0.2.1.1,())) fun r=>r=((n+a) % 65536,()):=by
  intro u u1 u2 hu e
  rw[e,zT (z:=n+u) (by omega) (by omega)]
  refine zb ?_
  rcases zsW (n+u) 0 with h | h
  ·rw[Pd h]
   refine zd (fun h3=>za (za ?_)) fun h3=>za (za ?_)
   ·have:=zV h3
    show(wrF .i64 _,())=_
    rw[zT (by omega) (by omega)];congr 1;omega
   ·have:=zP h3
    show(-(-(n+u) % 65536),())=_
    congr 1;omega
  ·rw[Pc h]
   refine zi (zD (by omega)) (za (za ?_))
   show((n+u) % 65536,())=_
   rw[hu]
 rcases zsW a 0 with h | h
 ·exact qH (key (-((-a) % 65536)) (by omega) (by omega) (by omega) (Pd h))
 grind[qH,Pc]
theorem zcg{a b:Int}(ha:inP a 0 65535)(hb:inP b 0 65535):kK (a,b,())=some (dlt a b,()):=by
 obtain⟨a1,a2⟩:=ha;obtain⟨b1,b2⟩:=hb;rw[OI];unfold Bz;rw[zT (z:=0 - a) (by omega) (by omega),zcf (by omega) (by omega) (by omega) (by omega),zq];refine qH (zb (zd (fun h=>za (za ?_)) fun h=>za (za ?_)))
 ·have:=zP (qM.1 h);grind[wrF,zT,dlt]
 ·have:=zV (qE.1 h);grind[dlt]
theorem zpB(a b:Int) : -32768<=dlt a b∧dlt a b<=32767:=by unfold dlt;omega
def ahead(L s d:Nat):Nat:=((s*2 ^ d % 2 ^ 64)||| 1)&&& (2 ^ L - 1)
open Classical in
def xa(L R:Int)(any:Bool)(last at':Int)(s:Nat)(n t:Int):qn×Bool:=
 if any=true∨R < t - at' then((L,R,false,n,t,1),true)
 else if dlt last n<=-L∨L<=dlt last n then(mkR L R any last at' s,false)
 else if dlt last n<=0 then(if s.testBit (-dlt last n).toNat=true then(mkR L R any last at' s,false)else(mkR L R any last t (s||| 2 ^ (-dlt last n).toNat),true))
 else(mkR L R any n t (ahead L.toNat s (dlt last n).toNat),true)
theorem zgc(L R:Int)(any:Bool)(last at':Int)(s:Nat){n:Int}(t:Int)(hl:inP last 0 65535)(hn:inP n 0 65535):wX ((mkR L R any last at' s,n,t),())=some (dlt last n,()):=by grind[GP,WA,opt,XN,zoM]
open Classical in
theorem zoN{L R:Int}{any:Bool}{last at':Int}{s:Nat}{n t:Int}(h1:inP at' 0 1099511627776)(h2:inP t 0 1099511627776):uC ((mkR L R any last at' s,n,t),())=some (if any=true∨R < t - at' then(((L,R,false,n,t,1),n,t),1,())else((mkR L R any last at' s,n,t),0,())):=by
 obtain⟨h1,h3⟩:=h1;obtain⟨h2,h4⟩:=h2;rw[dh];unfold XL;refine qH (zb ?_);show zt (bif(!any)then(bif(!(zg R (wrF .i64 (t - at'))))then _ else _)else _) _;rw[zT (by omega) (by omega)];cases any with
 |true=>rw[zqI (.inl rfl)];exact zi rfl (za (zx (za rfl)))
 |false=>
  refine zf rfl (zd (fun h=>za (zu (za ?_))) fun h=>za (zx (za ?_)))
  ·have:=zP (qM.1 h);rw[zqu (by simp;omega)]
  ·have:=zV (qE.1 h);rw[zqI (.inr this)]
open Classical in
theorem zp4{L R:Int}{any:Bool}{last at':Int}{s:Nat}{n t:Int}(hL:inP L 1 64)(hl:inP last 0 65535)(hn:inP n 0 65535):gb ((mkR L R any last at' s,n,t),())=some (if dlt last n<=-L∨L<=dlt last n then((mkR L R any last at' s,n,t),2,())else((mkR L R any last at' s,n,t),0,())):=by
 obtain⟨h1,h2⟩:=hL;rw[iL];unfold Un;rw[zgc L R any last at' s t hl hn,zq];refine qH (zb ?_);show zt (bif(zg (wrF .i64 (0 - L)) (dlt last n))then(bif(zg (dlt last n) L)then _ else _)else _) _;rw[zT (by omega) (by omega)];refine zd (fun h=>zd (fun h2=>za (zu (za ?_))) fun h2=>za (zx (za ?_))) fun h=>za (zx (za ?_))
 ·have:=zV h;have:=zV h2;rw[zqu (by omega)]
 ·have:=zV h;have:=zP h2;rw[zqI (by omega)]
 ·have:=zP h;rw[zqI (by omega)]
theorem zoO{k:Nat}(h:k < 64):wj .u64 1 (k:Int)=((2 ^ k:Nat):Int):=by rw[show(1:Int)=((1:Nat):Int) from rfl,shl (by omega),ztf,Nat.mod_eq_of_lt (zsZ (by decide) h)]
theorem zoP(s k:Nat):(s&&& 2 ^ k=0)↔s.testBit k=false:=by
 constructor
 ·intro h;have:=zqS (fun z=>z.testBit k) h;grind
 ·intro h;refine zsy fun i=>?_;grind
open Classical in
theorem zpC{L R:Int}{any:Bool}{last at':Int}{s:Nat}{n t:Int}(hs:s < 2 ^ 64)(hl:inP last 0 65535)(hn:inP n 0 65535)(hd : -64 < dlt last n):uY ((mkR L R any last at' s,n,t),())=some (if 0 < dlt last n then((mkR L R any last at' s,n,t),0,())else if s.testBit (-dlt last n).toNat=true then((mkR L R any last at' s,n,t),2,())else((mkR L R any last t (s||| 2 ^ (-dlt last n).toNat),n,t),1,())):=by
 rw[fL];unfold Kh;rw[zgc L R any last at' s t hl hn,zq];refine qH (zd (fun h=>za ?_) fun h=>?_)
 ·have:=zV h;rw[zqI this]
 have h:=zP h;have h:dlt last n<=0:=h;rw[zqu (by omega)];obtain⟨k,hk⟩:∃k:Nat,0 - dlt last n=k:=⟨(0 - dlt last n).toNat,by omega⟩;have ek:(-dlt last n).toNat=k:=by omega
 show zt (bif zg (wrF .u64 (wrF .i64 (0 - dlt last n))) 0 then none else bif !(zj (wR .and .u64 (s:Int) (wj .u64 1 (wrF .u64 (wrF .i64 (0 - dlt last n))))) 0)then _ else some ((((L,(R,(any,(last,(t,(wR .or .u64 (s:Int) (wj .u64 1 (wrF .u64 (wrF .i64 (0 - dlt last n))))))))))),n,t),(1,()))) _;rw[ek,hk,zT (by omega) (by omega),FR (by omega) (by omega),zoO (by omega)];have hp:2 ^ k < 2 ^ 64:=zsZ (by decide) (by omega);rw[zm9 hs hp,bor hs hp];have hb:=zoP s k;refine zi (zD (by omega)) (zd (fun h2=>za ?_) fun h2=>za ?_)
 ·have h3:=qt (qM.1 h2);have:s.testBit k=true:=by
   cases h4:s.testBit k with
   |true=>rfl
   |false=>rw[hb.2 h4]at h3;exact absurd rfl h3
  rw[zqI this]
 ·have h3:=qi (qE.1 h2);have h4:=hb.1 (by omega);rw[zqu (by rw[h4];decide)]
theorem zoQ{L R:Int}{any:Bool}{last at':Int}{s:Nat}{n t:Int}(hL:inP L 1 64)(hs:s < 2 ^ 64)(hl:inP last 0 65535)(hn:inP n 0 65535)(hd:0 < dlt last n)(hd2:dlt last n < 64):uD ((mkR L R any last at' s,n,t),())=some ((mkR L R any n t (ahead L.toNat s (dlt last n).toNat),n,t),1,()):=by obtain⟨l1,l2⟩:=hL;rw[dm];unfold XQ;rw[zgc L R any last at' s t hl hn,zq];obtain⟨k,hk⟩:∃k:Nat,dlt last n=k:=⟨(dlt last n).toNat,by omega⟩;show(bif zg (wrF .u64 (dlt last n)) 0 then none else opt (ye ((mkR L R any last at' s,n,t),())) fun x1=>some ((((L,(R,(any,(n,(t,(wR .and .u64 (wR .or .u64 (wj .u64 (s:Int) (wrF .u64 (dlt last n))) 1) x1.1)))))),n,t),(1,()))))=_;rw[hk,FR (by omega) (by omega),zld _ (L:=L.toNat) (by show L=_;omega) (by omega),zq,shl (by omega)];refine qH (zi (zD (by omega)) (za ?_));have h1:s*2 ^ k % 2 ^ 64 < 2 ^ 64:=Nat.mod_lt _ (zrO 64);have hp:2 ^ L.toNat - 1 < 2 ^ 64:=zqC (Nat.sub_lt (zrO _) (by decide)) (zqY (by decide) (by omega));show(((L,(R,(any,(n,(t,wR .and .u64 (wR .or .u64 ((s*2 ^ k % 2 ^ 64:Nat):Int) ((1:Nat):Int)) ((2 ^ L.toNat - 1:Nat):Int)))))),n,t),1,())=_;rw[bor h1 (by decide),zm9 (zto h1 (by decide)) hp];rfl
theorem zle{L R:Int}{any:Bool}{last at':Int}{s:Nat}{n t:Int}(hs:s < 2 ^ 64)(hr:GY L R any last at' s)(hn:inP n 0 65535)(ht:inP t 0 1099511627776)(ha:at'<=t):yV (mkR L R any last at' s,n,t,())=some ((xa L R any last at' s n t).1,(xa L R any last at' s n t).2,0,()):=by
 have hL:=hr.1;have hl:inP last 0 65535:=by
  rcases hr.2.2 with h | h
  ·exact⟨by omega,by omega⟩
  ·exact h.2.1
 have hat:inP at' 0 1099511627776:=by
  rcases hr.2.2 with h | h
  ·exact⟨by omega,by omega⟩
  ·exact h.2.2.1
 obtain⟨l1,l2⟩:=id hL;obtain⟨n1,n2⟩:=id hn;obtain⟨t1,t2⟩:=id ht;rw[BW];unfold fM;rw[zgb L R any last at' hs,qX hr,zq];refine qH (zi rfl (zb (zi (zD (by omega)) (zi (by rw[zL (by omega)];rfl) (zi (zD (by omega)) (zi (zD (by omega)) (zi (zD (show ¬t < at' by omega)) (za (zx ?_)))))))));have hdec:xn ((mkR L R any last at' s,n,t),())=some (((xa L R any last at' s n t).1,n,t),(if(xa L R any last at' s n t).2=true then 1 else 2),()):=by
  rw[bN];unfold Xj;rw[zoN hat ht,zq,zp4 hL hl hn];unfold xa;by_cases c1:any=true∨R < t - at'
  ·rw[zqI c1,zqI c1];rfl
  rw[zqu c1,zqu c1];refine qH (zi rfl (zb ?_));by_cases c2:dlt last n<=-L∨L<=dlt last n
  ·rw[zqI c2,zqI c2];exact za (zf rfl (za rfl))
  rw[zqu c2,zqu c2];refine za (zi rfl ?_);rw[zpC hs hl hn (by omega),zq];by_cases c3:0 < dlt last n
  ·rw[zqI c3,zqu (show ¬dlt last n<=0 by omega)];refine zi rfl ?_;rw[zoQ hL hs hl hn c3 (by omega),zq];exact zf rfl (za rfl)
  rw[zqu c3,zqI (show dlt last n<=0 by omega)];by_cases c4:s.testBit (-dlt last n).toNat=true
  ·rw[zqI c4,zqI c4];exact zf rfl (za rfl)
  ·rw[zqu c4,zqu c4];exact zf rfl (za rfl)
 show zt (opt (xn ((mkR L R any last at' s,n,t),())) _) _;rw[hdec,zq];refine za ?_;cases(xa L R any last at' s n t).2<;>rfl
def uQ(p:Nat->Bool)(n:Nat):Nat->Nat
 |0=>0
 |k+1=>2*uQ p n k+(p (n - 1 - k)).toNat
theorem Pe(p:Nat->Bool)(n:Nat):∀(k m:Nat),k<=n->(uQ p n k).testBit m=(decide (m < k)&&p (n - k+m))
 |0,m,_=>by simp[uQ]
 |k+1,m,h=>by
  have ih:=Pe p n k;have hb:(p (n - 1 - k)).toNat < 2:=by cases p (n - 1 - k)<;>decide
  cases m with
  |zero=>
   grind[uQ]
  |succ m=>
   rw[Nat.testBit_succ];have e:uQ p n (k+1) / 2=uQ p n k:=by show(2*uQ p n k+(p (n - 1 - k)).toNat) / 2=uQ p n k;omega
   grind
theorem zhD(p:Nat->Bool)(n:Nat):∀k,uQ p n k < 2 ^ k
 |0=>by simp[uQ]
 |k+1=>by
  have ih:=zhD p n k;have hb:(p (n - 1 - k)).toNat < 2:=by cases p (n - 1 - k)<;>decide
  grind[uQ,Nat.pow_succ]
def gi(s:Nat)(d:Int)(i:Nat):Bool:=(bif zg 0 d then decide (i=0)else decide ((i:Int) = -d))||(decide ((if 0 < d then d else 0)<=(i:Int))&&s.testBit ((i:Int) - (if 0 < d then d else 0)).toNat)
theorem zlf{s L k:Nat}(hs:s < 2 ^ L)(hk:k < L):uQ (gi s (-(k:Int))) L L=s||| 2 ^ k:=by refine zsy fun i=>?_;rw[Pe _ _ _ _ (FW _),Nat.testBit_or,Nat.testBit_two_pow];grind[gi,zD,Nat.testBit_lt_two_pow,Nat.lt_of_lt_of_le,Nat.pow_le_pow_right]
theorem zjo{s L k:Nat}(hs:s < 2 ^ 64)(hL:L<=64)(hL1:0 < L)(hk:0 < k):uQ (gi s (k:Int)) L L=ahead L s k:=by
 refine zsy fun i=>?_;rw[Pe _ _ _ _ (FW _)];unfold ahead gi;rw[ztA,Nat.testBit_or,zsx,Nat.testBit_mod_two_pow,<-Nat.shiftLeft_eq,Nat.testBit_shiftLeft,zL (by omega)];simp only[show 0 < (k:Int) by omega,zqF,zqJ,ztw,zrq];have h1:Nat.testBit 1 i=decide (i=0):=by
  cases i with
  |zero=>rfl
  |succ i=>rw[Nat.testBit_succ];simp
 grind
theorem zjp{L R:Int}{any:Bool}{last at':Int}{s:Nat}{n t:Int}(hr:GY L R any last at' s)(hn:inP n 0 65535)(ht:inP t 0 1099511627776):gz (mkR L R any last at' s,n,t,())=some ((xa L R any last at' s n t).1,(xa L R any last at' s n t).2,()):=by
 have hL:=hr.1;obtain⟨l1,l2⟩:=id hL;obtain⟨n1,n2⟩:=id hn;obtain⟨t1,t2⟩:=id ht;have hl:inP last 0 65535:=by
  rcases hr.2.2 with h | h
  ·exact⟨by omega,by omega⟩
  ·exact h.2.1
 have hat:inP at' 0 1099511627776:=by
  rcases hr.2.2 with h | h
  ·exact⟨by omega,by omega⟩
  ·exact h.2.2.1
 obtain⟨a1,a2⟩:=id hat
 obtain⟨b1,b2⟩:=id hl;rw[Iq];unfold py;cases any with
 |true=>
  have e:xa L R true last at' s n t=((L,R,false,n,t,1),true):=by grind[xa]
  rw[e];exact qH (zb (zf rfl (za (zu (za rfl)))))
 |false=>
 have hsL:s < 2 ^ L.toNat:=by rcases hr.2.2 with h | h;all_goals grind
 have hs:s < 2 ^ 64:=zqC hsL (zqY (by decide) (by omega));refine qH (zb (zi rfl ?_));show zt (bif zg R (wrF .i64 (t - at'))then _ else _) _;rw[zT (z:=t - at') (by omega) (by omega)];refine zd (fun h=>za (zu (za ?_))) fun h=>za (zx ?_)
 ·have:=zV h;grind[xa]
 have c1:¬(false=true∨R < t - at'):=by have:=zP h;simp;omega
 show zt (opt (kK (last,n,())) _) _;rw[zcg hl hn,zq];refine zb ?_;show zt (bif(!(zg (wrF .i64 (0 - L)) (dlt last n)))then _ else bif(!(zg (dlt last n) L))then _ else _) _;rw[zT (z:=0 - L) (by omega) (by omega)];refine zd (fun h=>za (zu (za ?_))) fun h=>zd (fun h2=>za (zu (za ?_))) fun h2=>za (zx ?_)
 ·have:=zP (qM.1 h);grind[xa]
 ·have:=zP (qM.1 h2);grind[xa]
 have d1:=zV (qE.1 h);have d2:=zV (qE.1 h2);have c2:¬(dlt last n<=-L∨L<=dlt last n):=by omega
 refine zk (J:=fun x=>(x.1=0∧¬(dlt last n<=0∧s.testBit (-dlt last n).toNat=true))∨(x.1=1∧x.2.1.1=mkR L R false last at' s∧x.2.1.2.1=false∧dlt last n<=0∧s.testBit (-dlt last n).toNat=true)) ?_ ?_
 ·refine zd (fun h3=>?_) fun h3=>za (.inl ⟨rfl,fun h=>?_⟩)
  ·have h3:=zP (qM.1 h3);have h3:dlt last n<=0:=h3;show zt (opt (xh ((s:Int),wrF .i64 (0 - dlt last n),())) _) _;rw[zT (by omega) (by omega),show 0 - dlt last n=(((-dlt last n).toNat:Nat):Int) by omega,HL hs (by omega),zq];grind[za,dlt]
  ·have h3:0 < dlt last n:=zV (qE.1 h3);omega
 rintro⟨c,⟨y1,y2,⟨⟩⟩,⟨⟩⟩ (⟨rfl,hA⟩ | ⟨rfl,rfl,rfl,hA,hB⟩);rotate_left
 ·refine zu (za ?_);grind[xa]
 refine zx (zk (J:=fun x=>x.2.1.1=(if 0 < dlt last n then n else last)) ?_ ?_)
 ·refine zd (fun h3=>za ?_) fun h3=>za ?_
  ·have h3:0 < dlt last n:=zV h3;rw[zqI h3]
  ·have h3:dlt last n<=0:=zP h3;grind
 rintro⟨c,⟨y3,⟨⟩⟩,⟨⟩⟩ hy;simp only at hy;have hy3:inP y3 0 65535:=by grind
 obtain⟨y4,y5⟩:=id hy3;have hLn:(L.toNat:Int)=L:=by omega
 refine zk (J:=fun x=>x.2.1.1=((uQ (gi s (dlt last n)) L.toNat L.toNat:Nat):Int)) (zZ L.toNat (fun k st=>st=((((uQ (gi s (dlt last n)) L.toNat k:Nat):Int),(L - 1 - k,())),())) (by omega) ?_ ?_ ?_) ?_
 ·grind[wrF,zT,uQ]
 ·rintro k _ hk rfl;obtain⟨i,hi⟩:∃i:Nat,L - 1 - k=(i:Int):=⟨(L - 1 - k).toNat,by omega⟩;have hik:L.toNat - 1 - k=i:=by omega
  rw[hi];refine zf (by grind[zD]) ?_;show zt (opt (Zv (y3,wrF .i64 (0 - (i:Int)),())) _) _;rw[zT (by omega) (by omega),zcf (by omega) (by omega) (by omega) (by omega),zq];generalize hm:(y3+(0 - (i:Int))) % 65536=m;have hmP:inP m 0 65535:=⟨by omega,by omega⟩;show zt (opt (kK (last,m,())) _) _;rw[zcg hl hmP,zq];have hdm:dlt last m=(if 0 < dlt last n then dlt last n else 0) - i:=by grind[dlt]
  have hmn:m=n↔(bif zg 0 (dlt last n)then decide (i=0)else decide ((i:Int) = -dlt last n))=true:=by grind[dlt,zL,zD]
  have hb : -dlt last m=(i:Int) - (if 0 < dlt last n then dlt last n else 0):=by omega
  have fin:∀b:Bool,b=gi s (dlt last n) i->∀z:Int,z=wrF .u64 ((uQ (gi s (dlt last n)) L.toNat k:Nat)*2:Int)->(b=true->zt (some (.inr ((wrF .u64 (z+1),(wrF .i64 ((i:Int) - 1),())),()):(Nat×((Int×(Int×Unit))×Unit)) ⊕ ((Int×(Int×Unit))×Unit))) (Nxt (fun x=>x.2.1.1=((uQ (gi s (dlt last n)) L.toNat L.toNat:Nat):Int)) fun st=>st=((((uQ (gi s (dlt last n)) L.toNat (k+1):Nat):Int),(L - 1 - ((k+1:Nat):Int),())),())))∧
    (b=false->zt (some (.inr ((z,(wrF .i64 ((i:Int) - 1),())),()):(Nat×((Int×(Int×Unit))×Unit)) ⊕ ((Int×(Int×Unit))×Unit))) (Nxt (fun x=>x.2.1.1=((uQ (gi s (dlt last n)) L.toNat L.toNat:Nat):Int)) fun st=>st=((((uQ (gi s (dlt last n)) L.toNat (k+1):Nat):Int),(L - 1 - ((k+1:Nat):Int),())),()))):=by
   rintro b hb2 z rfl
   have hlt:=zhD (gi s (dlt last n)) L.toNat (k+1)
   have hle:2 ^ (k+1)<=2 ^ 64:=zqY (by decide) (by omega)
   have hst:uQ (gi s (dlt last n)) L.toNat (k+1)=2*uQ (gi s (dlt last n)) L.toNat k+b.toNat:=by rw[hb2,<-hik];rfl
   have h64:uQ (gi s (dlt last n)) L.toNat (k+1) < 18446744073709551616:=by rw[<-p64];omega
   rw[hst]at h64 ⊢
   generalize uQ (gi s (dlt last n)) L.toNat k=q at h64
   grind[wrF,zT,FR,za,ql]
  show zt (bif(!(zg (wrF .i64 (0 - dlt last m)) 0))then bif(zg (wrF .i64 (0 - dlt last m)) L)then _ else _ else _) _;have hdb:=zpB last m;rw[zT (z:=0 - dlt last m) (by omega) (by omega)];have ez:(0 - dlt last m)=(i:Int) - (if 0 < dlt last n then dlt last n else 0):=by omega
  rw[ez];have fin2:=fin _ rfl _ rfl;have step:∀x9:Bool,gi s (dlt last n) i=((bif zg 0 (dlt last n)then decide (i=0)else decide ((i:Int) = -dlt last n))||x9)->(m=n->gi s (dlt last n) i=true)∧(m≠n->gi s (dlt last n) i=x9):=by grind
  refine zd (fun h3=>zd (fun h4=>?_) fun h4=>?_) fun h3=>?_
  ·have h3:=zP (qM.1 h3);obtain⟨j,hj⟩:∃j:Nat,(i:Int) - (if 0 < dlt last n then dlt last n else 0)=(j:Int):=⟨((i:Int) - (if 0 < dlt last n then dlt last n else 0)).toNat,by omega⟩;rw[hj];have h4:=zV h4;rw[hj]at h4;show zt (opt (xh ((s:Int),(j:Int),())) _) _;rw[HL hs (by omega),zq];have e9:gi s (dlt last n) i=((bif zg 0 (dlt last n)then decide (i=0)else decide ((i:Int) = -dlt last n))||s.testBit j):=by unfold gi;rw[hj,zqO,zsu (p:=(if 0 < dlt last n then dlt last n else 0)<=(i:Int)) (by omega),zrS]
   grind[zb,za,qi,qt,trans]
  ·have h4:=zP h4;omega
  ·have h3:=zV (qE.1 h3);grind[gi,dlt,zg,decide,decide_eq_false,zb,za,qi,qt]
 ·grind[zL,za,zw]
 rintro⟨c,⟨y6,y7,⟨⟩⟩,⟨⟩⟩ h;simp only at h;subst h;refine za ?_;show((L,(R,(false,(y3,(t,((uQ (gi s (dlt last n)) L.toNat L.toNat:Nat):Int)))))),true,())=_;unfold xa;rw[zqu c1,zqu c2];by_cases h:0 < dlt last n
 ·grind[dlt,zjo]
 ·rw[zqI (by omega),zqu fun h2=>hA ⟨by omega,h2⟩,hy,zqu h];obtain⟨k,hk⟩:∃k:Nat,-dlt last n=k:=⟨(-dlt last n).toNat,by omega⟩;rw[show dlt last n = -(k:Int) by omega,zlf hsL (by omega)];grind
end Go.Proofs.YtlfkgkedfciccaaGreat.nd
namespace Go.Proofs.YtlfkgkedfciccaaGreat.nd
open Go Go.Fz Go.Fz.Sy Go.Proofs.YtlfkgkedfciccaaGreat.ad
theorem zjq{c p:Int×Int}{m:Int×Int×Int}(h:UL c p m=0):yI c∧yI p∧inP m.1 0 1099511627776∧inP m.2.1 0 (c.1*1048576)∧inP m.2.2 0 (p.1*1048576):=by grind[zga,UL,wP,zjj,wi,Yv,yI,qX,zg]
def ZX(c p:Int×Int)(m:Int×Int×Int)(at':Int):Int×Int:=(wN (c.1*1048576) (m.2.1+c.2*(at' - m.1)),wN (p.1*1048576) (m.2.2+p.2*(at' - m.1)))
def ZY(c p:Int×Int)(m:Int×Int×Int)(at' size:Int):Int×Int×Int×Int:=bif zg (ZX c p m at').2 (size*1048576)then(2,at',(ZX c p m at').1,(ZX c p m at').2)else bif zg (ZX c p m at').1 (size*1048576)then(1,at',(ZX c p m at').1,(ZX c p m at').2 - size*1048576)else(0,at',(ZX c p m at').1 - size*1048576,(ZX c p m at').2 - size*1048576)
theorem zbb{a b:Int}(ha:0<=a)(hb:0<=b):0<=wN a b∧wN a b<=a:=by rw[Km];omega
theorem zhE{c p:Int×Int}{m:Int×Int×Int}{at':Int}(h:UL c p m=0)(h1:m.1<=at')(h2:at'<=1099511627776) : wrF .i64 (at' - m.1)=at' - m.1∧wrF .i64 (c.1*1048576)=c.1*1048576∧wrF .i64 (p.1*1048576)=p.1*1048576∧wrF .i64 (c.2*(at' - m.1))=c.2*(at' - m.1)∧wrF .i64 (p.2*(at' - m.1))=p.2*(at' - m.1)∧wrF .i64 (m.2.1+c.2*(at' - m.1))=m.2.1+c.2*(at' - m.1)∧wrF .i64 (m.2.2+p.2*(at' - m.1))=m.2.2+p.2*(at' - m.1)∧(0<=(ZX c p m at').1∧(ZX c p m at').1<=1099511627776)∧(0<=(ZX c p m at').2∧(ZX c p m at').2<=1099511627776):=by
 obtain⟨hc,hp,⟨m0,m1⟩,⟨m2,m3⟩,⟨m4,m5⟩⟩:=zjq h;have ec:=GW hc;have ep:=GW hp;obtain⟨⟨c0,c1⟩,c2,c3⟩:=hc;obtain⟨⟨p0,p1⟩,p2,p3⟩:=hp;have qc:=QB (show 0<=c.2 by omega) c3 (show 0<=at' - m.1 by omega) (show at' - m.1<=1099511627776 by omega);have qp:=QB (show 0<=p.2 by omega) p3 (show 0<=at' - m.1 by omega) (show at' - m.1<=1099511627776 by omega);refine⟨zT (by omega) (by omega),ec,ep,zT (by omega) (by omega),zT (by omega) (by omega),zT (by omega) (by omega),zT (by omega) (by omega),?_,?_⟩
 ·have:=zbb (a:=c.1*1048576) (b:=m.2.1+c.2*(at' - m.1)) (by omega) (by omega);grind[ZX]
 ·have:=zbb (a:=p.1*1048576) (b:=m.2.2+p.2*(at' - m.1)) (by omega) (by omega);grind[ZX]
theorem zpD{c p:Int×Int}{m:Int×Int×Int}{at' size:Int}(h:UL c p m=0)(h1:m.1<=at')(h2:at'<=1099511627776)(h3:inP size 1 1048576):Qx (c,p,m,at',size,())=some ((ZY c p m at' size).1,(ZY c p m at' size).2,0,()):=by
 obtain⟨w1,w2,w3,w4,w5,w6,w7,⟨g0,g1⟩,⟨g2,g3⟩⟩:=zhE h h1 h2;obtain⟨s0,s1⟩:=h3;have w8:wrF .i64 (size*1048576)=size*1048576:=zT (by omega) (by omega);have hg:yr (m.2,c,p,at' - m.1,())=some (ZX c p m at',()):=by rw[iO];unfold Up;rw[mc];unfold fo;rw[w2,w3,zq,w4,w5,w6,w7];rfl
 rw[SU];unfold fP;rw[zf7,h,zq];refine qH (zi rfl (zb (zi (zD (show ¬at' < m.1 by omega)) (zi (zD (by omega)) (zi (zD (by omega)) (zi (zD (by omega)) (za (zx ?_))))))));rw[nt];grind[Wj,zt,opt,yr,wrF,zq,ZY,zg,ZX,za,zP,zT]
theorem znb{c p:Int×Int}{m:Int×Int×Int}{at' size:Int}(h:UL c p m=0)(h1:m.1<=at')(h2:at'<=1099511627776)(h3:inP size 1 1048576):Yr (c,p,m,at',size,())=some ((ZY c p m at' size).1,(ZY c p m at' size).2,0,()):=by obtain⟨w1,w2,w3,w4,w5,w6,w7,⟨g0,g1⟩,⟨g2,g3⟩⟩:=zhE h h1 h2;have hs:=h3;obtain⟨s0,s1⟩:=h3;have w8:wrF .i64 (size*1048576)=size*1048576:=zT (by omega) (by omega);rw[Tf];unfold Fy;rw[zcb,h,zq,zf6,zf6,w1,w2,w3,w4,w5,w6,w7,w8,qX (show inP at' m.1 1099511627776 from⟨h1,h2⟩),qX hs];refine qH (zi rfl (zb (zb (za (zi rfl (zb (za (zi rfl (za (zx ?_))))))))));grind[ZY,zt,zg,ZX,wrF,za,zP,zT]
theorem zlg{a c:Int}(a0:0<=a)(a1:a < 4294967296)(c0:0 < c)(c1:c<=4294967296):JQ (a,c,())=some (cl c a,true,()):=by
 have hq:0<=a / c:=zrP a0 (by omega);have hq2:a / c<=a:=zsj _ a0;have hr:=zra a (show c≠0 by omega);have hr2:=zqR a c0;have hde:=zsc a c;have hcl:cl c a=if a % c=0 then a / c else a / c+1:=by
  unfold cl;split
  ·rename_i h;have e:a+c - 1=(c - 1)+(a / c)*c:=by rw[Int.mul_comm _ c];omega
   rw[e,zsp _ _ (by omega),zrV (by omega) (by omega)];omega
  ·rename_i h;have e:a+c - 1=(a % c - 1)+(a / c+1)*c:=by rw[Int.add_mul,Int.mul_comm _ c];omega
   rw[e,zsp _ _ (by omega),zrV (by omega) (by omega)];omega
 have hM:ke (a,())=some (a,()):=by rw[bh];unfold Uz;rw[zD (by omega),zqD,FR (z:=a) (by omega) (by omega)]
 have hM2:ke (-1,())=some (1,()):=by rw[bh];unfold Uz;rw[zL (by omega),zqJ,show(0:Int) - -1=1 from rfl,zT (z:=1) (by omega) (by omega),FR (z:=1) (by omega) (by omega)]
 rw[Ox];unfold Bk;have key:UA (a,-1,c,())=some (-cl c a,true,()):=by
  rw[Ta];unfold Fl;rw[mB (by simp) (by simp;omega)];refine qH (zb (zi (zD (show ¬c < 1 by omega)) (za (zx ?_))));rw[hM,zq,hM2,zq,Cn a0 a1 (by omega) (by omega),zq,FR (z:=c) (by omega) (by omega),Int.mul_one];refine zi (by rw[zL (show(0:Int) < c by omega)];rfl) ?_;rw[Co a0 (by omega) c0,zq];refine zi (zD (show ¬1125899906842624 < a / c by omega)) ?_;rw[zD (show ¬a < 0 by omega),zL (show(-1:Int) < 0 by omega),hcl];refine zb (zf rfl (zb ?_));rw[zT (z:=a / c) (by omega) (by omega),zT (z:=0 - a / c) (by omega) (by omega),zT (z:=0 - a / c - 1) (by omega) (by omega)];refine zd (fun h2=>za (za ?_)) (fun h2=>za (za ?_))
  ·have:=qt (qM.1 h2);show zt (opt (Zt (0 - a / c - 1,())) _) _;rw[zqu this,mC (by omega) (by omega)];refine za ?_;show(0 - a / c - 1,true,())=(-(a / c+1),true,());rw[show 0 - a / c - 1 = -(a / c+1) by omega]
  ·have:=qi (qE.1 h2);show zt (opt (Zt (0 - a / c,())) _) _;rw[zqI this,mC (by omega) (by omega)];refine za ?_;show(0 - a / c,true,())=(-(a / c),true,());rw[show 0 - a / c = -(a / c) by omega]
 grind[zq,wrF,cl,zdH,zT]
def lvl(b s:Int×Int)(t:Int):Int:=wN (b.1*1048576) (s.2+b.2*(t - s.1))
def elT(b s:Int×Int)(at' size:Int):Int:=jV at' s.1+cl b.2 (jV 0 (size*1048576 - lvl b s (jV at' s.1)))
def gk(b s:Int×Int)(at' size:Int):Int×(Int×Int)×Int:=bif zg b.1 size then(0,(0,0),4)else bif zg 1099511627776 (elT b s at' size)then(0,(0,0),6)else(elT b s at' size,(elT b s at' size,lvl b s (elT b s at' size) - size*1048576),0)
theorem zch{b s:Int×Int}(hb:yI b)(hs:iy b s):sB b s=0:=by grind[sB,qX]
structure ElB(b s:Int×Int)(at' size:Int):Prop where
 t0:0<=jV at' s.1
 t1:jV at' s.1<=1099511627776
 ts:s.1<=jV at' s.1
 l0:0<=lvl b s (jV at' s.1)
 l1:lvl b s (jV at' s.1)<=1099511627776
 s0:0<=jV 0 (size*1048576 - lvl b s (jV at' s.1))
 s1:jV 0 (size*1048576 - lvl b s (jV at' s.1))<=1616904192
 c0:0<=cl b.2 (jV 0 (size*1048576 - lvl b s (jV at' s.1)))
 c1:cl b.2 (jV 0 (size*1048576 - lvl b s (jV at' s.1)))<=1616904193
 lv:∀t,s.1<=t->t<=1101128531969->wrF .i64 (t - s.1)=t - s.1∧wrF .i64 (b.2*(t - s.1))=b.2*(t - s.1)∧wrF .i64 (s.2+b.2*(t - s.1))=s.2+b.2*(t - s.1)∧0<=lvl b s t∧lvl b s t<=1099511627776
theorem elB{b s:Int×Int}{at' size:Int}(hb:yI b)(hs:iy b s)(h1:inP at' 0 1099511627776)(h2:inP size 84 1542):ElB b s at' size:=by
 obtain⟨⟨b0,b1⟩,b2,b3⟩:=hb;obtain⟨⟨s0,s1⟩,s2,s3⟩:=hs;obtain⟨a0,a1⟩:=h1;obtain⟨z0,z1⟩:=h2;have lv:∀t,s.1<=t->t<=1101128531969->wrF .i64 (t - s.1)=t - s.1∧wrF .i64 (b.2*(t - s.1))=b.2*(t - s.1)∧wrF .i64 (s.2+b.2*(t - s.1))=s.2+b.2*(t - s.1)∧0<=lvl b s t∧lvl b s t<=1099511627776:=by intro t t0 t1;have q:=QB (show 0<=b.2 by omega) b3 (show 0<=t - s.1 by omega) (show t - s.1<=1101128531969 by omega);have:=zbb (a:=b.1*1048576) (b:=s.2+b.2*(t - s.1)) (by omega) (by omega);grind[zT,lvl]
 have hm:=HD at' s.1;have t0:0<=jV at' s.1:=by omega
 have t1:jV at' s.1<=1099511627776:=by omega
 have ts:s.1<=jV at' s.1:=by omega
 obtain⟨_,_,_,l0,l1⟩:=lv _ ts (by omega);have hx:=HD 0 (size*1048576 - lvl b s (jV at' s.1));have c:=zdH (d:=b.2) (w:=jV 0 (size*1048576 - lvl b s (jV at' s.1))) (M:=1616904192) (by omega) (by omega) (by omega);exact⟨t0,t1,ts,l0,l1,by omega,by omega,c.1,by omega,lv⟩
theorem zpE{b s:Int×Int}{at' size:Int}(hb:yI b)(hs:iy b s)(h1:inP at' 0 1099511627776)(h2:inP size 84 1542):xT (b,s,at',size,())=some ((gk b s at' size).1,(gk b s at' size).2.1,(gk b s at' size).2.2,()):=by
 have B:=elB hb hs h1 h2;have eb:=GW hb;obtain⟨_,b2,b3⟩:=id hb;obtain⟨a0,a1⟩:=h1;obtain⟨z0,z1⟩:=h2;have w8:wrF .i64 (size*1048576)=size*1048576:=zT (by omega) (by omega);rw[Cg];unfold fX;rw[zf8,zch hb hs,zq];refine qH (zi rfl (zb (zi (zD (by omega)) (zi (zD (by omega)) (zi (zD (by omega)) (zi (zD (by omega)) (za (zx ?_))))))));unfold gk;cases e0:zg b.1 size with
 |true=>exact za rfl
 |false=>
  refine zi rfl ?_;have he:Jj (b,s,at',size,())=some (elT b s at' size,(elT b s at' size,lvl b s (elT b s at' size) - size*1048576),()):=by
   rw[Ce];unfold fV;obtain⟨w1,w2,w3,w4,w5⟩:=B.lv _ B.ts (by have:=B.t1;omega);have hl0:=B.l0;have hl1:=B.l1;have hs0:=B.s0;have hs1:=B.s1;have hc0:=B.c0;have hc1:=B.c1;have ht0:=B.t0;have ht1:=B.t1;have hts:=B.ts;rw[w8,eb,w1,w2,w3];show opt (JQ (jV 0 (wrF .i64 (size*1048576 - lvl b s (jV at' s.1))),b.2,())) _=_;rw[zT (z:=size*1048576 - lvl b s (jV at' s.1)) (by omega) (by omega),zlg hs0 (by omega) (by omega) (by omega),zq];have hT:wrF .i64 (jV at' s.1+cl b.2 (jV 0 (size*1048576 - lvl b s (jV at' s.1))))=elT b s at' size:=by rw[zT (by omega) (by omega)];rfl
   simp only[hT];have hTb:s.1<=elT b s at' size∧elT b s at' size<=1101128531969:=by unfold elT;omega
   obtain⟨v1,v2,v3,v4,v5⟩:=B.lv _ hTb.1 hTb.2;rw[v1,v2,v3];show some (elT b s at' size,(elT b s at' size,wrF .i64 (lvl b s (elT b s at' size) - size*1048576)),())=_;rw[zT (by omega) (by omega)]
  grind[zq,zt,zg,elT,za]
theorem znc{b s:Int×Int}{at' size:Int}(hb:yI b)(hs:iy b s)(h1:inP at' 0 1099511627776)(h2:inP size 84 1542):gX (b,s,at',size,())=some ((gk b s at' size).1,(gk b s at' size).2.1,(gk b s at' size).2.2,()):=by
 have B:=elB hb hs h1 h2;have eb:=GW hb;obtain⟨_,b2,b3⟩:=id hb;obtain⟨a0,a1⟩:=h1;obtain⟨z0,z1⟩:=h2;have w8:wrF .i64 (size*1048576)=size*1048576:=zT (by omega) (by omega);have hl0:=B.l0;have hl1:=B.l1;have hs0:=B.s0;have hs1:=B.s1;have hc0:=B.c0;have hc1:=B.c1;have ht0:=B.t0;have ht1:=B.t1;have hts:=B.ts;have hlev:∀t,s.1<=t->t<=1101128531969->Zw (b,s,t,())=some (lvl b s t,()):=fun t q1 q2=>by obtain⟨w1,w2,w3,w4,w5⟩:=B.lv t q1 q2;rw[OK];unfold BD;rw[eb,w1,w2,w3];rfl
 rw[Ck];unfold ia;rw[zcc,zch hb hs,zq];refine qH (zi rfl (zb (zi (zD (by omega)) (zi (zD (by omega)) (zi (zD (by omega)) (zi (zD (by omega)) (za (zx ?_))))))));unfold gk;cases e0:zg b.1 size with
 |true=>exact za rfl
 |false=>
  refine zi rfl ?_;rw[hlev _ hts (by omega),zq,w8];show zt (opt (bif zg 0 (wrF .i64 (size*1048576 - lvl b s (jV at' s.1)))then _ else _) _) _;rw[zT (z:=size*1048576 - lvl b s (jV at' s.1)) (by omega) (by omega)];have hx:=HD 0 (size*1048576 - lvl b s (jV at' s.1));have hTb:s.1<=elT b s at' size∧elT b s at' size<=1101128531969:=by unfold elT;omega
  refine zk (J:=fun x=>x.2.1.1=elT b s at' size) ?_ ?_
  ·refine zd (fun h=>?_) fun h=>za ?_
   ·have h:=zV h;grind[zt,opt,uL,lvl,jV,GS,zq,za,wrF,cl,elT,zT]
   ·have h:=zP h;have e:jV 0 (size*1048576 - lvl b s (jV at' s.1))=0:=by omega
    show jV at' s.1=_;unfold elT;rw[e];have:cl b.2 0=0:=by unfold cl;rw[Int.zero_add];exact zrV (by omega) (by omega)
    omega
  ·rintro⟨c,⟨y1,⟨⟩⟩,⟨⟩⟩ hy;simp only at hy;subst hy;show zt (bif zg 1099511627776 (elT b s at' size)then _ else _) _;cases e1:zg 1099511627776 (elT b s at' size)with
   |true=>exact za rfl
   |false=>
    refine zi rfl ?_;show zt (opt (Zw (b,s,elT b s at' size,())) _) _;rw[hlev _ hTb.1 hTb.2,zq];refine za ?_;obtain⟨v1,v2,v3,v4,v5⟩:=B.lv _ hTb.1 hTb.2;grind[elT,wrF,lvl,zT]
end Go.Proofs.YtlfkgkedfciccaaGreat.nd
namespace Go.Fz.Sy
def WK{α:Type}(l:List α)(P:α->Prop):Prop:=∀(j:Nat) y,l[j]?=some y->¬P y
def vI{α:Type}(l:List α)(P:α->Prop)(i:Nat):Prop:=(∃x,l[i]?=some x∧P x)∧∀(j:Nat) y,j < i->l[j]?=some y->¬P y
theorem iz{α:Type}(P:α->Prop):∀l:List α,WK l P∨∃i,vI l P i
 |[]=>.inl fun j y h=>by simp at h
 |x::l=>by
  by_cases hx:P x
  ·exact .inr ⟨0,⟨x,rfl,hx⟩,fun j y hj=>by omega⟩
  ·rcases iz P l with h | ⟨i,⟨y,h1,h2⟩,h3⟩
   ·refine .inl fun j y hj=>?_;cases j with
    |zero=>grind
    |succ j=>exact h j y (by simpa using hj)
   ·refine .inr ⟨i+1,⟨y,by simpa using h1,h2⟩,fun j z hj hz=>?_⟩;grind
theorem We{S X α:Type}{B:S->Option (X ⊕ S)}(l:List α)(mk:Nat->S)(P:α->Prop)(J:X->Prop)(hn:l.length<=1000000000000000000)(h:∀(i:Nat) x,i < l.length->l[i]?=some x->zt (B (mk i)) fun r=>(¬P x∧r=.inr (mk (i+1)))∨(P x∧∃y,r=.inl y∧(vI l P i->J y)))(he:zt (B (mk l.length)) fun r=>∃y,r=.inl y∧(WK l P->J y)){s:S}(hs:s=mk 0):zt (zI B zR s) J:=by
 refine zZ l.length (fun i s=>s=mk i∧∀(j:Nat) y,j < i->l[j]?=some y->¬P y) (zfY hn) ⟨hs,fun j y hj=>by omega⟩ ?_ ?_
 ·rintro i _ hi ⟨rfl,hp⟩;have hx:l[i]?=some l[i]:=FL hi;generalize l[i]=x at hx;obtain⟨r,e,h1⟩:=h i x hi hx;refine⟨r,e,?_⟩;rcases h1 with⟨h1,rfl⟩ | ⟨h1,y,rfl,h2⟩
  ·grind[ql,Nat.lt_or_ge]
  ·exact zw (h2 ⟨⟨x,hx,h1⟩,hp⟩)
 ·rintro _ ⟨rfl,hp⟩;obtain⟨r,e,y,rfl,h2⟩:=he;refine⟨_,e,zw (h2 fun j y hj=>?_)⟩;grind
theorem zci{α:Type}(l:List α)(d:α):Wo (List.replicate (Int.toNat ((l.length:Nat):Int)) d) l=l:=by unfold Wo;simp_all
end Go.Fz.Sy
namespace Go.Proofs.YtlfkgkedfciccaaGreat.nd
open Go Go.Fz Go.Fz.Sy
def kO(port:Int)(x:zM)(a:qu):Prop:=a.1=port∧a.2.1=x.1∧a.2.2.1=x.2.2.1
def zgd{α:Type}(l:List α)(P:α->Prop)(z:Int):Prop:=(WK l P∧z = -1)∨∃i:Nat,vI l P i∧z=i
theorem zpF{α:Type}(l:List α)(P:α->Prop):∃z,zgd l P z:=by
 rcases iz P l with h | ⟨i,h⟩
 ·exact⟨-1,.inl ⟨h,rfl⟩⟩
 ·exact⟨i,.inr ⟨i,h,rfl⟩⟩
theorem iA{α:Type}{l:List α}{P:α->Prop}{y z:Int}(h:zgd l P y)(h2:zgd l P z):y=z:=by
 rcases h with⟨h,rfl⟩ | ⟨i,⟨⟨a,ha,hp⟩,hq⟩,rfl⟩
 ·rcases h2 with⟨_,rfl⟩ | ⟨i,⟨⟨a,ha,hp⟩,_⟩,rfl⟩
  ·rfl
  ·exact absurd hp (h i a ha)
 ·rcases h2 with⟨h,rfl⟩ | ⟨j,⟨⟨b,hb,hp2⟩,hq2⟩,rfl⟩
  ·exact absurd hp (h i a ha)
  grind
theorem zjr{f:zH}{port:Int}{x:zM}{z:Int}(hl:f.1.length<=1000000000000000000)(hz:zgd f.1 (kO port x) z):wh (f,port,x,())=some (z,()):=by
 rw[Uv];unfold QL;refine qH (zk (J:=fun r=>(r.1=0∧WK f.1 (kO port x))∨(r.1=1∧∃i:Nat,r.2.1.2.2.1=(i:Int)∧vI f.1 (kO port x) i)) (We f.1 (fun i=>((port,(x,(0,((i:Int),())))),())) (kO port x) _ hl ?_ ?_ rfl) ?_)
 ·intro i a hi ha;refine zf (zL (show(i:Int) < (f.1.length:Int) by omega)) (zb (zm ha (zd (fun h1=>zd (fun h2=>zd (fun h3=>za (.inr ⟨⟨qi h1,qi h2,qi h3⟩,_,rfl,fun h=>.inr ⟨rfl,i,rfl,h⟩⟩)) fun h3=>za (.inl ⟨fun h=>qt h3 h.2.2,?_⟩)) fun h2=>za (.inl ⟨fun h=>qt h2 h.2.1,?_⟩)) fun h1=>za (.inl ⟨fun h=>qt h1 h.1,?_⟩))));all_goals rw[zQ (by omega)]
 ·grind[zD,za]
 ·rintro⟨c,⟨y1,y2,y3,y4,⟨⟩⟩,⟨⟩⟩ (⟨rfl,h⟩ | ⟨rfl,i,hi,h⟩)
  ·refine zx (za ?_);rw[iA hz (.inl ⟨h,rfl⟩)]
  ·simp only at hi;subst hi;refine zu (za ?_);rw[iA hz (.inr ⟨i,h,rfl⟩)]
theorem iB{f:zH}{port:Int}{x:zM}{z:Int}(hl:f.1.length<=1000000000000000000)(hz:zgd f.1 (kO port x) z):uO (f,port,x,())=some (z,()):=by
 rw[Td];unfold Fv;refine qH (zk (J:=fun r=>(r.1=0∧WK f.1 (kO port x))∨(r.1=1∧∃i:Nat,r.2.1.1=(i:Int)∧vI f.1 (kO port x) i)) (We f.1 (fun i=>((0,((i:Int),())),())) (kO port x) _ hl ?_ ?_ rfl) ?_)
 ·intro i a hi ha;refine zf (zL (show(i:Int) < (f.1.length:Int) by omega)) (zb (zm ha (zb (zd (fun h1=>zd (fun h2=>zd (fun h3=>za (zu (za (.inr ⟨⟨qi h1,qi h2,qi h3⟩,_,rfl,fun h=>.inr ⟨rfl,i,rfl,h⟩⟩)))) fun h3=>za (zx (za (.inl ⟨fun h=>qt h3 h.2.2,?_⟩)))) fun h2=>za (zx (za (.inl ⟨fun h=>qt h2 h.2.1,?_⟩)))) fun h1=>za (zx (za (.inl ⟨fun h=>qt h1 h.1,?_⟩)))))));all_goals rw[zQ (by omega)]
 ·grind[zD,za]
 ·rintro⟨c,⟨y1,y2,⟨⟩⟩,⟨⟩⟩ (⟨rfl,h⟩ | ⟨rfl,i,hi,h⟩)
  ·refine zx (za ?_);rw[iA hz (.inl ⟨h,rfl⟩)]
  ·simp only at hi;subst hi;refine zu (za ?_);rw[iA hz (.inr ⟨i,h,rfl⟩)]
theorem znd{l:List Int}{i:Nat}{z:Int}(hi:i < l.length)(hl:l.length<=1000000):yf (l,(i:Int),z,())=some (l.set i z,()):=by rw[fR];unfold Kk;rw[zci];have hx:l[i]?=some l[i]:=FL hi;refine qH (zf (za0 (by omega) (by omega) (by omega)) (zb (zm hx (zb (jL (by omega) fun _ _=>za ?_)))));grind
theorem zne{l:List qK}{i:Nat}{z:qK}(hi:i < l.length)(hl:l.length<=1000000):wg (l,(i:Int),z,())=some (l.set i z,()):=by rw[Uu];unfold QJ;rw[zci];have hx:l[i]?=some l[i]:=FL hi;refine qH (zf (za0 (by omega) (by omega) (by omega)) (zb (zm hx (zb (jL (by omega) fun _ _=>za ?_)))));grind
theorem znf{z P:Int}(hP:0 < P)(hz:z < 0):z % P=(P - (-z) % P) % P:=by
 have h:=zsc (-z) P;have e:z=(P - (-z) % P)+P*(-(-z / P) - 1):=by grind
 conv=>lhs;rw[e]
 rw[Int.add_mul_emod_self_left]
theorem zp5{z P:Int}(h1 : -10000000000000<=z)(h2:z<=10000000000000)(hP:0 < P)(hP2:P<=2400000):Qy (z,P,())=some (z % P,()):=by
 have hr:=zra z (show P≠0 by omega);have hr2:=zqR z hP;rw[SX];unfold Ff;refine qH (zi (jf (show P≠0 by omega)) (zi (jf (show P≠0 by omega)) (za ?_)));rcases zsW z 0 with h | h
 ·have e1:Int.tmod z P = -((-z) % P):=by
   have:z = -(-z):=by omega
   rw[this,Int.neg_tmod,Int.neg_neg,zqw (by omega)]
  grind[Int.emod_nonneg,Int.emod_lt_of_pos,zT,Int.tmod_eq_emod_of_nonneg,znf]
 ·rw[zqw h,zT (by omega) (by omega),zqw (by omega),Int.add_emod_right,Int.emod_emod]
def JT(a:qu)(last size t:Int):Int×Int:=bif !zj size a.2.2.2.1 then(0,2)else bif zg t a.2.2.2.2.2.1||zg (a.2.2.2.2.2.2 - a.2.2.2.2.2.1) ((t - a.2.2.2.2.2.1) % a.2.2.2.2.1)then(0,3)else bif !zg last ((t - a.2.2.2.2.2.1) / a.2.2.2.2.1)then(0,4)else((t - a.2.2.2.2.2.1) / a.2.2.2.2.1,0)
theorem zlh{a:qu}{last:Int}{x:zM}{t:Int}(ha:GV a)(hc:a.2.2.1=7)(ht:inP t (-1000) 549755813888):Qo (a,last,x,t,())=some ((JT a last x.2.2.2.1 t).1,(JT a last x.2.2.2.1 t).2,()):=by
 obtain⟨_,_,_,h⟩:=ha;rcases h with h | ⟨_,⟨p0,p1⟩,⟨e0,e1⟩,⟨l0,l1⟩,h5,h6⟩
 ·omega
 obtain⟨t0,t1⟩:=ht;generalize hP:a.2.2.2.2.1=P at p0 p1 h6;generalize hE:a.2.2.2.2.2.1=E at e0 e1 h5 h6;generalize hT:a.2.2.2.2.2.2=Lt at l0 l1 h5 h6;rw[sr];unfold cG JT;simp only[hP,hE,hT];refine qH ?_;cases hs:(!zj x.2.2.2.1 a.2.2.2.1)with
 |true=>exact za rfl
 |false=>
  refine zi rfl (zi (jf (by omega)) (zb ?_));rw[zT (z:=t - E) (by omega) (by omega)];cases h1:zg t E with
  |true=>exact za (zu (za rfl))
  |false=>
   have h1':=zP h1;have hq:=zrP (show 0<=t - E by omega) (show 0<=P by omega);have hq2:=zsj P (show 0<=t - E by omega);have hde:=zsc (t - E) P;have hr:=zra (t - E) (show P≠0 by omega);have hm:(t - E) / P*P=(t - E) - (t - E) % P:=by grind
   have hr2:=zqR (t - E) (show 0 < P by omega);have hr3:0<=P*((t - E) / P):=Int.mul_nonneg (by omega) hq;rw[zre (by omega),zT (z:=(t - E) / P) (by omega) (by omega),hm,zT (z:=t - E - (t - E) % P) (by omega) (by omega),zT (z:=Lt+(t - E - (t - E) % P)) (by omega) (by omega)];rw[zrR];have e:zg (Lt+(t - E - (t - E) % P)) t=zg (Lt - E) ((t - E) % P):=by grind[wO]
   rw[e];cases h2:zg (Lt - E) ((t - E) % P)with
   |true=>exact za (zu (za rfl))
   |false=>
    refine za (zx ?_);grind[zg,za]
end Go.Proofs.YtlfkgkedfciccaaGreat.nd
namespace Go.Proofs.YtlfkgkedfciccaaGreat.nd
open Go Go.Fz Go.Fz.Sy
abbrev atT(f:zH)(t:Int):zH:=(f.1,(f.2.1,(t,f.2.2.2)))
abbrev zpG(f:zH)(i:Nat)(z:Int):zH:=(f.1,(f.2.1,(f.2.2.1,(f.2.2.2.1.set i z,f.2.2.2.2))))
abbrev zpH(f:zH)(i:Nat)(z:qK):zH:=(f.1,(f.2.1,(f.2.2.1,(f.2.2.2.1,f.2.2.2.2.set i z))))
theorem zng{f:zH}{t:Int}(hf:Za f)(h1:f.2.2.1<=t)(h2:t<=549755813888):Za (atT f t):=by obtain⟨a,⟨b0,b1⟩,c,d,e,g⟩:=hf;refine⟨a,⟨by grind,h2⟩,c,d,e,fun k p hk=>?_⟩;obtain⟨m,h3,h4,h5⟩:=g k p hk;exact⟨m,h3,h4,by grind⟩
theorem zli{f:zH}{i:Nat}{a:qu}{z:Int}(hf:Za f)(ha:f.1[i]?=some a)(hc:a.2.2.1≠6)(hz:0<=z):Za (zpG f i z):=by obtain⟨h1,h2,c,d,e,g⟩:=hf;refine⟨h1,h2,by show(f.2.2.2.1.set i z).length=_;rw[zrX];exact c,d,fun k b hk=>?_,g⟩;grind[zba,set,List.getElem?_eq_some_iff]
structure zqn(f:zH):Prop where
 la:f.1.length<=64
 lp:f.2.1.length<=64
 ll:f.2.2.2.1.length=f.1.length
 lm:f.2.2.2.2.length=f.2.1.length
theorem VV{f:zH}(h:Za f):zqn f:=⟨h.1.1,h.1.2.1,h.2.2.1,h.2.2.2.1⟩
def UN(f:zH)(i:Nat)(a:qu)(last size t:Int):zH×Int:=bif zj a.2.2.1 6 then(f,bif zg a.2.2.2.1 size then 2 else 0)else(bif zj (JT a last size t).2 0 then zpG f i (JT a last size t).1 else f,(JT a last size t).2)
theorem zge{a:qu}(h:GV a):a.2.2.1=6∨a.2.2.1=7:=by obtain⟨_,_,_,h⟩:=h;omega
theorem zgf{f:zH}{port:Int}{x:zM}{i:Nat}{a:qu}{last:Int}(hf:Za f)(hi:vI f.1 (kO port x) i)(ha:f.1[i]?=some a)(hl:f.2.2.2.1[i]?=some last) : jh f (port,x,f.2.2.1,())=some ((UN f i a last x.2.2.2.1 f.2.2.1).1,(UN f i a last x.2.2.2.1 f.2.2.1).2,()):=by
 have B:=VV hf;obtain⟨t0,t1⟩:=hf.2.1;have hacc:=(hf.1.2.2.1 i a ha).1;rw[Qz];unfold vg;rw[zjr (by have:=B.la;omega) (.inr ⟨i,hi,rfl⟩),zq];refine qH (zi (zD (show ¬(i:Int) < 0 by omega)) (zb (zm ha ?_)));unfold UN;cases hc:zj a.2.2.1 6 with
 |true=>
  grind[zg,za]
 |false=>
  refine zi rfl ?_;obtain⟨_,_,_,h⟩:=hacc;rcases h with h | ⟨h7,⟨p0,p1⟩,⟨e0,e1⟩,⟨l0,l1⟩,h5,h6⟩
  ·exact absurd h.1 (qt hc)
  unfold JT;generalize hP:a.2.2.2.2.1=P at p0 p1 h6;generalize hE:a.2.2.2.2.2.1=E at e0 e1 h5 h6;generalize hT:a.2.2.2.2.2.2=Lt at l0 l1 h5 h6;generalize ht:f.2.2.1=t at t0 t1;rw[zT (z:=t - E) (by omega) (by omega),zp5 (by omega) (by omega) p0 p1,zq];have hr:=zra (t - E) (show P≠0 by omega);have hr2:=zqR (t - E) (show 0 < P by omega);have hde:=zsc (t - E) P;have e1:t - E - (t - E) % P=P*((t - E) / P):=by omega
  have hqb : -2000000000000<=(t - E) / P∧(t - E) / P<=2000000000000:=by
   constructor
   ·exact Int.le_ediv_of_mul_le (by omega) (by omega)
   ·have h8:(t - E) / P < 2000000000001:=Int.ediv_lt_of_lt_mul (by omega) (by omega);omega
  rw[zT (z:=t - E - (t - E) % P) (by omega) (by omega)];show zt (bif zj P 0 then none else _) _;rw[e1,Int.mul_tdiv_cancel_left _ (show P≠0 by omega),zT (z:=(t - E) / P) (by omega) (by omega),zT (z:=Lt - E) (by omega) (by omega)];have hneg:(t - E) / P < 0↔t < E:=by rw[Int.ediv_lt_iff_lt_mul (by omega)];omega
  have hsp:∀b:Bool,zg ((t - E) / P) 0=zg t E:=fun _=>by grind[wO]
  generalize hq:(t - E) / P=q at hqb hneg hsp;generalize (t - E) % P=r at hr hr2;refine zi (jf (by omega)) (zk (J:=fun z=>z.2.1.1=(bif !zj x.2.2.2.1 a.2.2.2.1 then(0,2)else bif zg t E||zg (Lt - E) r then(0,3)else bif !zg last q then(0,4)else(q,(0:Int))).2) ?_ ?_)
  ·rw[hsp true];refine zZ 3 (fun k st=>st=((0,((k:Int),())),())∧(1<=k->(!zj x.2.2.2.1 a.2.2.2.1)=false)∧(2<=k->(zg t E||zg (Lt - E) r)=false)∧(3<=k->(!zg last q)=false)) (by omega) ⟨rfl,by omega,by omega,by omega⟩ ?_ ?_
   ·rintro k _ hk ⟨rfl,q1,q2,q3⟩;refine zf (zL (show(k:Int) < 3 by omega)) ?_
    match k,hk with
    |0,_=>
     refine zf (wP rfl) ?_;cases hb:(!zj x.2.2.2.1 a.2.2.2.1)with
     |true=>exact za (zw rfl)
     |false=>exact za (ql ⟨rfl,fun _=>rfl,by omega,by omega⟩)
    |1,_=>
     refine zi (jf (by simp)) (zf (wP rfl) ?_);rw[q1 (by omega)];cases hb:zg t E with
     |true=>exact za (zw rfl)
     |false=>
      cases hb2:zg (Lt - E) r with
      |true=>exact zi rfl (za (zw rfl))
      |false=>exact zi rfl (za (ql ⟨rfl,fun _=>rfl,fun _=>rfl,by omega⟩))
    |2,_=>
     refine zi (jf (by simp)) (zi (jf (by simp)) (zf (wP rfl) (zb (zm hl ?_))));rw[q1 (by omega),q2 (by omega)];cases hb:(!zg last q)with
     |true=>exact za (zw rfl)
     |false=>exact za (ql ⟨rfl,fun _=>rfl,fun _=>rfl,fun _=>rfl⟩)
   grind[zD,za,zw]
  ·rintro⟨c,⟨y1,y2,⟨⟩⟩,⟨⟩⟩ hy;simp only at hy;subst hy;have hset:yf (f.2.2.2.1,(i:Int),q,())=some (f.2.2.2.1.set i q,()):=znd (zqr.1 hl).1 (by have:=B.ll;have:=B.la;omega);grind[zj,zb,jf,za,zg,wP,zq]
def sD(f:zH)(i:Nat)(p:jO)(m:qK)(size:Int):zH×Int:=(zpH f i (ZY p.2.1 p.2.2 m (f.2.2.1+1000) size).2,bif zj (ZY p.2.1 p.2.2 m (f.2.2.1+1000) size).1 2 then 5 else 0)
def dt(port:Int)(p:jO):Prop:=p.1=port
theorem FU{f:zH}{port:Int}(hl:f.2.1.length<=64):zt (zI (fun s0:((Int×(Int×(Int×Unit)))×Unit)=>bif(zg (s0.1.2.2.1) ((((f.2.1).length:Nat):Int)))then opt (atI (f.2.1) (s0.1.2.2.1)) fun x1=>bif(zj (x1.1) (s0.1.1))then some (.inl (1,((s0.1.1,(s0.1.2.2.1,(s0.1.2.2.1,()))),())))else some (.inr ((s0.1.1,(s0.1.2.1,((wrF .i64 ((s0.1.2.2.1+1))),()))),()))else some (.inl (0,((s0.1.1,(s0.1.2.1,(s0.1.2.2.1,()))),())))) zR ((port,(0,(0,()))),())) fun r=>((r.1:Nat)=0∧WK f.2.1 (dt port))∨(r.1=1∧∃i:Nat,r.2.1.2.1=(i:Int)∧vI f.2.1 (dt port) i):=by
 refine We f.2.1 (fun i=>((port,(0,((i:Int),()))),())) (dt port) _ (by omega) ?_ ?_ rfl
 ·intro i a hi ha;refine zf (zL (show(i:Int) < (f.2.1.length:Int) by omega)) (zb (zm ha (zd (fun h1=>za (.inr ⟨qi h1,_,rfl,fun h=>.inr ⟨rfl,i,rfl,h⟩⟩)) fun h1=>za (.inl ⟨fun h=>qt h1 h,?_⟩))));rw[zQ (by omega)]
 grind[zD,za]
theorem sG{α:Type}{l:List α}{P:α->Prop}{i j:Nat}(h:vI l P i)(h2:vI l P j):i=j:=by obtain⟨⟨a,ha,hp⟩,hq⟩:=h;obtain⟨⟨b,hb,hp2⟩,hq2⟩:=h2;grind
theorem zlj{f:zH}{port:Int}{x:zM}{i:Nat}{p:jO}{m:qK}(hf:Za f)(hx:Xd x)(hi:vI f.2.1 (dt port) i)(hp:f.2.1[i]?=some p)(hm:f.2.2.2.2[i]?=some m) : jF f (port,x,f.2.2.1,())=some ((sD f i p m x.2.2.2.1).1,(sD f i p m x.2.2.2.1).2,()):=by
 have B:=VV hf;obtain⟨t0,t1⟩:=hf.2.1;obtain⟨m',h1,h2,h3⟩:=hf.2.2.2.2.2 i p hp;rw[hm]at h1;cases h1;obtain⟨z0,z1⟩:=hx.2.2.2.1;rw[WC];unfold uE;refine qH (zk (FU B.lp) ?_);rintro⟨c,⟨y1,y2,y3,⟨⟩⟩,⟨⟩⟩ (⟨rfl,h⟩ | ⟨rfl,j,hj,h⟩)
 ·obtain⟨⟨q,hq,hq2⟩,_⟩:=hi;exact absurd hq2 (h i q hq)
 simp only at hj;subst hj;have:=sG h hi;subst this;refine zu (zi (zD (show ¬(j:Int) < 0 by omega)) (zb (zm hp (zb (zm hm ?_)))));rw[zT (z:=f.2.2.1+1000) (by omega) (by omega),zpD h2 (by omega) (by omega) ⟨by omega,by omega⟩,zq];refine zi rfl ?_;show zt (opt (wg (f.2.2.2.2,(j:Int),(ZY p.2.1 p.2.2 m (f.2.2.1+1000) x.2.2.2.1).2,())) _) _;rw[zne (zqr.1 hm).1 (by have:=B.lm;have:=B.lp;omega),zq];grind[sD,zt,zj,ZY,za]
theorem zlk{f:zH}{port:Int}{x:zM}(hf:Za f)(hi:WK f.2.1 (dt port)):jF f (port,x,f.2.2.1,())=some (f,0,()):=by
 have B:=VV hf;rw[WC];unfold uE;refine qH (zk (FU B.lp) ?_);rintro⟨c,⟨y1,y2,y3,⟨⟩⟩,⟨⟩⟩ (⟨rfl,h⟩ | ⟨rfl,j,hj,⟨q,hq,hq2⟩,h⟩)
 ·exact zx (za rfl)
 ·exact absurd hq2 (hi j q hq)
theorem zgg{f:zH}{port:Int}{x:zM}(hf:Za f)(hi:WK f.1 (kO port x)):jh f (port,x,f.2.2.1,())=some (f,1,()):=by have B:=VV hf;rw[Qz];unfold vg;rw[zjr (by have:=B.la;omega) (.inl ⟨hi,rfl⟩),zq];grind[qH,zL,za]
theorem znh{f:zH}{port:Int}{x:zM}{t:Int}(hf:Za f)(hc:x.2.2.1<=5)(hi:WK f.2.1 (dt port)):yY (f,port,x,t,())=some (atT f t,0,()):=by
 have B:=VV hf;have hlp:=B.lp;rw[WD];unfold Ys;refine qH (zf (by rw[zD (by omega)];rfl) (zk (J:=fun r=>r.1=0∧r.2.1.1=atT f t) (We f.2.1 (fun i=>((atT f t,(([],([],(0,([],[])))),(0,((i:Int),())))),())) (dt port) _ (by omega) ?_ ?_ rfl) ?_))
 ·intro i a hi' ha;refine zf (zL (show(i:Int) < (f.2.1.length:Int) by omega)) (zb (zm ha ?_));have hna:¬a.1=port:=hi i a ha;refine zf (by grind[jf]) (za (.inl ⟨hna,?_⟩));rw[zQ (by omega)]
 ·grind[zD,za]
 ·rintro⟨c,⟨y1,y2,y3,y4,⟨⟩⟩,⟨⟩⟩ ⟨h1,h2⟩;simp only at h1 h2;subst h1 h2;exact zx (za rfl)
theorem zni{f:zH}{port:Int}{x:zM}{t:Int}{i:Nat}{p:jO}{m:qK}(hf:Za (atT f t))(hx:Xd x)(hc:x.2.2.1<=5)(hi:vI f.2.1 (dt port) i)(hp:f.2.1[i]?=some p)(hm:f.2.2.2.2[i]?=some m) : yY (f,port,x,t,())=some ((sD (atT f t) i p m x.2.2.2.1).1,(sD (atT f t) i p m x.2.2.2.1).2,()):=by
 have B:=VV hf;have hlp:f.2.1.length<=64:=B.lp;have hlm:f.2.2.2.2.length=f.2.1.length:=B.lm;obtain⟨t0,t1⟩:=hf.2.1;have t0 : -1000<=t:=t0;have t1:t<=549755813888:=t1;obtain⟨m',h1,h2,h3⟩:=hf.2.2.2.2.2 i p hp;have h1:f.2.2.2.2[i]?=some m':=h1;rw[hm]at h1;cases h1;have h3:m.1<=t+1000:=h3;obtain⟨z0,z1⟩:=hx.2.2.2.1;obtain⟨⟨p',hp',hpp⟩,hq⟩:=hi;rw[hp]at hp';cases hp';have hil:i < f.2.1.length:=(zqr.1 hp).1;have hdis:∀(k:Nat) q,i < k->f.2.1[k]?=some q->¬q.1=port:=fun k q hk hkq e=>(hf.1.2.2.2 k q hkq).2 i p hk hp (by show p.1=q.1;rw[e];exact hpp);rw[WD];unfold Ys;generalize hG:zpH (atT f t) i (ZY p.2.1 p.2.2 m (t+1000) x.2.2.2.1).2=G;have hG1:G.2.1=f.2.1:=by rw[<-hG]
 refine qH (zf (by rw[zD (by omega)];rfl) (zk (J:=fun r=>(r.1=0∧r.2.1.1=G∧zj (ZY p.2.1 p.2.2 m (t+1000) x.2.2.2.1).1 2=false)∨(r.1=1∧r.2.1.2.1=G∧r.2.1.2.2.1=5∧zj (ZY p.2.1 p.2.2 m (t+1000) x.2.2.2.1).1 2=true))
  (zZ f.2.1.length (fun k st=>st=(((if k<=i then atT f t else G),(([],([],(0,([],[])))),(0,((k:Int),())))),())∧(i < k->zj (ZY p.2.1 p.2.2 m (t+1000) x.2.2.2.1).1 2=false)) (by omega) ⟨by grind,by omega⟩ ?_ ?_) ?_))
 ·rintro k _ hk ⟨rfl,hred⟩;have hy:f.2.1[k]?=some f.2.1[k]:=FL hk;generalize f.2.1[k]=q at hy;by_cases hki:k=i
  ·subst hki;rw[hp]at hy;cases hy;rw[zqI (FW k)];refine zf (zL (show(k:Int) < (f.2.1.length:Int) by omega)) (zb (zm hp (zi (by rw[wP (show p.1=port from hpp)];rfl) (zb (zm hm ?_)))));show zt (opt (Yr (p.2.1,p.2.2,m,wrF .i64 (t+1000),x.2.2.2.1,())) _) _;rw[zT (z:=t+1000) (by omega) (by omega),znb h2 h3 (by omega) ⟨by omega,by omega⟩,zq];grind[qO,zb,zm,jL,set,ZY,Int.toNat_natCast,za,zw,ql,wrF,zQ]
  ·have hne:¬q.1=port:=by
    rcases zrA k i with h4 | h4
    ·exact hq k q h4 hy
    ·exact hdis k q (by omega) hy
   have e1:∀F:zH,F.2.1=f.2.1->(k < i∨i < k)->F=(if k<=i then atT f t else G)->zt (bif(zg (k:Int) ((F.2.1.length:Nat):Int))then opt (atI F.2.1 (k:Int)) fun x1=>
      bif(!(zj x1.1 port))then(some (.inr ((F,(([],([],(0,([],[])))),(0,(wrF .i64 ((k:Int)+1),())))),())):Option ((Nat×((zH×(zH×(Int×(Int×Unit))))×Unit)) ⊕ ((zH×(zH×(Int×(Int×Unit))))×Unit)))
      else none else none) fun r=>∃s,r=.inr s∧s=(((if k+1<=i then atT f t else G),(([],([],(0,([],[])))),(0,(((k+1:Nat):Int),())))),()):=fun F e h5 h6=>by
    rw[e]
    refine zf (zL (by omega)) (zb (zm hy (zf (by rw[jf hne];rfl) (za ⟨_,rfl,?_⟩))))
    rw[zQ (by omega),h6]
    rcases h5 with h5 | h5
    ·rw[zqI (by omega),zqI (by omega)]
    ·rw[zqu (by omega),zqu (by omega)]
   grind[zL,zb,zm,jf,za,ql,wrF,zQ,Nat.lt_or_ge]
 ·grind[zD,za,zw]
 ·rintro⟨c,⟨y1,y2,y3,y4,⟨⟩⟩,⟨⟩⟩ (⟨h4,h5,h6⟩ | ⟨h4,h5,h6,h7⟩)
  ·simp only at h4 h5;subst h4 h5;refine zx (za ?_);grind[sD,ZY,zj]
  ·simp only at h4 h5 h6;subst h4 h5 h6;refine zu (za ?_);grind[sD,ZY,zj]
theorem zll{f:zH}{port:Int}{x:zM}{t:Int}(hf:Za f)(hc:5 < x.2.2.1)(hi:WK f.1 (kO port x)):yY (f,port,x,t,())=some (atT f t,1,()):=by have B:=VV hf;rw[WD];unfold Ys;refine qH (zi (by rw[zL hc];rfl) ?_);rw[iB (f:=(f.1,(f.2.1,(t,f.2.2.2)))) (by have:=B.la;show f.1.length<=_;omega) (.inl ⟨hi,rfl⟩),zq];grind[zL,za]
theorem znj{f:zH}{port:Int}{x:zM}{t:Int}{i:Nat}{a:qu}{last:Int}(hf:Za (atT f t))(hc:5 < x.2.2.1)(hi:vI f.1 (kO port x) i)(ha:f.1[i]?=some a)(hl:f.2.2.2.1[i]?=some last) : yY (f,port,x,t,())=some ((UN (atT f t) i a last x.2.2.2.1 t).1,(UN (atT f t) i a last x.2.2.2.1 t).2,()):=by
 have B:=VV hf;have hla:f.1.length<=64:=B.la;have hll:f.2.2.2.1.length=f.1.length:=B.ll;have hil:i < f.2.2.2.1.length:=(zqr.1 hl).1;have hacc:=(hf.1.2.2.1 i a ha).1;rw[WD];unfold Ys;refine qH (zi (by rw[zL hc];rfl) ?_);rw[iB (f:=(f.1,(f.2.1,(t,f.2.2.2)))) (by grind) (.inr ⟨i,hi,rfl⟩),zq];refine zi (zD (show ¬(i:Int) < 0 by omega)) (zb (zm ha ?_));unfold UN;cases h6:zj a.2.2.1 6 with
 |true=>
  grind[zg,za]
 |false=>
  refine zi rfl (zb (zm hl ?_));have h7:a.2.2.1=7:=by
   rcases zge hacc with h | h
   ·exact absurd h (qt h6)
   ·exact h
  rw[zlh hacc h7 ⟨hf.2.1.1,hf.2.1.2⟩,zq];grind[zt,opt,zj,JT,zb,qO,zm,jL,za,set,Int.toNat_natCast]
theorem zlm{a:qu}{last size t:Int}(ha:GV a)(h7:a.2.2.1=7)(h:(JT a last size t).2=0):0<=(JT a last size t).1:=by
 obtain⟨_,_,_,h8⟩:=ha;rcases h8 with h8 | ⟨_,⟨p0,p1⟩,_⟩
 ·omega
 unfold JT at h ⊢;cases h1:(!zj size a.2.2.2.1)with
 |true=>rw[h1]at h;cases h
 |false=>
  rw[h1]at h;cases h2:(zg t a.2.2.2.2.2.1||zg (a.2.2.2.2.2.2 - a.2.2.2.2.2.1) ((t - a.2.2.2.2.2.1) % a.2.2.2.2.1))with
  |true=>rw[h2]at h;cases h
  |false=>
   rw[h2]at h;simp only[zrI]at h2;have:=zP h2.1;cases h3:(!zg last ((t - a.2.2.2.2.2.1) / a.2.2.2.2.1))with
   |true=>rw[h3]at h;cases h
   |false=>exact zrP (by omega) (by omega)
theorem zpI{f:zH}{port:Int}{x:zM}{t:Int}(hf:Za f)(hp:inP port 0 47)(hx:Xd x)(ht1:f.2.2.1<=t)(ht2:t<=549755813888) : ∃g v,vQ (f,port,x,t,())=some (g,v,0,())∧yY (f,port,x,t,())=some (g,v,())∧g.1=f.1∧g.2.1=f.2.1∧g.2.2.2.1.length=f.2.2.2.1.length∧g.2.2.2.2.length=f.2.2.2.2.length∧(5 < x.2.2.1->Za g∧(v=0->∃i a,vI f.1 (kO port x) i∧f.1[i]?=some a)):=by
 have hT:=zng hf ht1 ht2;have B:=VV hf;have hPass:∀g v,(bif zj x.2.2.1 7 then jh (atT f t) (port,x,t,())else bif zj x.2.2.1 6 then jh (atT f t) (port,x,t,())else jF (atT f t) (port,x,t,()))=some (g,v,())->vQ (f,port,x,t,())=some (g,v,0,()):=by intro g v hy;rw[Ol];unfold bO;rw[Pb f (by have:=B.la;omega) (by have:=B.lp;omega),qX hf,zq,GU,qX hp,zq,zhB,qX hx,zq,GU,qX (show inP t f.2.2.1 549755813888 from⟨ht1,ht2⟩),zq];refine qH (zi rfl (zi rfl (zi rfl (zi rfl ?_))));grind[zj,zq,za]
 obtain⟨c0,c1⟩:=hx.2.2.1;rcases zsW 5 x.2.2.1 with hc | hc
 ·have hsel:∀A B:Option (zH×(Int×Unit)),(bif zj x.2.2.1 7 then A else bif zj x.2.2.1 6 then A else B)=A:=fun A B=>by grind[wP,jf]
  rcases iz (kO port x) f.1 with hn | ⟨i,hi⟩
  ·have e0:jh (atT f t) (port,x,t,())=some (atT f t,1,()):=zgg hT hn;exact⟨atT f t,1,hPass _ _ (by rw[hsel];exact e0),zll hf hc hn,rfl,rfl,rfl,rfl,fun _=>⟨hT,fun h=>absurd h (by decide)⟩⟩
  ·obtain⟨⟨a,ha,hma⟩,hq⟩:=id hi;obtain⟨last,hl,_⟩:=hf.2.2.2.2.1 i a ha;have e1:jh (atT f t) (port,x,t,())=some ((UN (atT f t) i a last x.2.2.2.1 t).1,(UN (atT f t) i a last x.2.2.2.1 t).2,()):=zgf hT hi ha hl;have hacc:=(hf.1.2.2.1 i a ha).1;refine⟨_,_,hPass _ _ (by rw[hsel];exact e1),znj hT hc hi ha hl,?_⟩;show(UN (atT f t) i a last x.2.2.2.1 t).1.1=f.1∧(UN (atT f t) i a last x.2.2.2.1 t).1.2.1=f.2.1∧(UN (atT f t) i a last x.2.2.2.1 t).1.2.2.2.1.length=f.2.2.2.1.length∧(UN (atT f t) i a last x.2.2.2.1 t).1.2.2.2.2.length=f.2.2.2.2.length∧(5 < x.2.2.1->Za (UN (atT f t) i a last x.2.2.2.1 t).1∧_);unfold UN;cases h6:zj a.2.2.1 6 with
   |true=>grind
   |false=>
    have h7:a.2.2.1=7:=by grind[zge,qt]
    cases h8:zj (JT a last x.2.2.2.1 t).2 0 with
    |false=>grind
    |true=>exact⟨rfl,rfl,by grind,rfl,fun _=>⟨zli hT ha (qt h6) (zlm hacc h7 (qi h8)),fun _=>⟨i,a,hi,ha⟩⟩⟩
 ·have hsel:∀A B:Option (zH×(Int×Unit)),(bif zj x.2.2.1 7 then A else bif zj x.2.2.1 6 then A else B)=B:=fun A B=>by grind[jf]
  rcases iz (dt port) f.2.1 with hn | ⟨i,hi⟩
  ·have e0:jF (atT f t) (port,x,t,())=some (atT f t,0,()):=zlk hT hn;exact⟨atT f t,0,hPass _ _ (by rw[hsel];exact e0),znh hf hc hn,rfl,rfl,rfl,rfl,fun h=>absurd h (by omega)⟩
  ·obtain⟨⟨p,hp2,hpp⟩,hq⟩:=id hi;obtain⟨m,hm,_⟩:=hf.2.2.2.2.2 i p hp2;have e1:jF (atT f t) (port,x,t,())=some ((sD (atT f t) i p m x.2.2.2.1).1,(sD (atT f t) i p m x.2.2.2.1).2,()):=zlj hT hx hi hp2 hm;refine⟨_,_,hPass _ _ (by rw[hsel];exact e1),zni hT hx hc hi hp2 hm,rfl,rfl,rfl,?_,fun h=>absurd h (by omega)⟩;show(f.2.2.2.2.set i _).length=_;rw[zrX]
def Vq(r:qn):Prop:=0<=r.2.2.2.2.2∧r.2.2.2.2.2 < 18446744073709551616
def zbc(r:qn):Prop:=GY r.1 r.2.1 r.2.2.1 r.2.2.2.1 r.2.2.2.2.1 r.2.2.2.2.2.toNat
theorem pG{r:qn}(h:Vq r):r=mkR r.1 r.2.1 r.2.2.1 r.2.2.2.1 r.2.2.2.2.1 r.2.2.2.2.2.toNat∧r.2.2.2.2.2.toNat < 2 ^ 64:=by obtain⟨h1,h2⟩:=h;grind
theorem zoR{r:qn}(h:Vq r):uX (r,())=some (bif tv (zbc r)then 0 else 500,()):=by obtain⟨e,h2⟩:=pG h;rw[e];exact zgb _ _ _ _ _ h2
theorem znk{r:qn}(h:Vq r):kB (r,())=some (tv (zbc r),()):=by obtain⟨e,h2⟩:=pG h;rw[e];exact zce _ _ _ _ _ h2
structure Vr(s:zK):Prop where
 la:s.2.1.1.length<=1000000000000000000
 lp:s.2.1.2.1.length<=1000000000000000000
 lr:s.2.2.2.2.length<=1000000000000
 wr:∀(k:Nat) r,s.2.2.2.2[k]?=some r->Vq r
def zp6(s:zK):Prop:=∀(k:Nat) o,s.2.2.1[k]?=some o->∃a,s.2.1.1[k]?=some a∧FQ a o
def zp7(s:zK):Prop:=∀(k:Nat) x,s.2.2.2.1[k]?=some x->OY x s.2.2.2.2.length
def zp8(s:zK):Prop:=∀(k:Nat) r,s.2.2.2.2[k]?=some r->zbc r
def du(s:zK):Prop:=inP s.1 (-1000) 1000∧Za s.2.1∧s.2.2.1.length=s.2.1.1.length∧s.2.2.2.1.length<=24∧zp6 s∧zp7 s∧zp8 s
theorem zoS{s:zK}(W:Vr s):uq (s,())=some (bif tv (du s)then 0 else 521,()):=by
 have hlr:=W.lr;rw[BS];unfold fE;simp only[Pb _ W.la W.lp,zla,zq,pE (e:=430) (by decide)];refine Qh (by decide) (zb (zd (fun h1=>za (zu (za (.inr ⟨fun h=>?_,rfl⟩)))) fun h1=>zd (fun h2=>za (zu (za (.inr ⟨fun h=>?_,rfl⟩)))) fun h2=>zd (fun h3=>za (zu (za (.inr ⟨fun h=>jZ h3 h.2.1,rfl⟩)))) fun h3=>zd (fun h4=>za (zu (za (.inr ⟨fun h=>qt (qM.1 h4) (by have:=h.2.2.1;omega),rfl⟩)))) fun h4=>zd (fun h5=>za (zu (za (.inr ⟨fun h=>?_,rfl⟩)))) fun h5=>za (zx ?_)))
 ·have:=zV h1;have:=h.1.1;omega
 ·have:=zV h2;have:=h.1.2;omega
 ·have:=zV h5;have:=h.2.2.2.1;omega
 have h1:=zP h1;have h2:=zP h2;have h3:=wF h3;have h4:=qi (qE.1 h4);have h5:=zP h5;have hla:=(VV h3).la;refine zk (jS (521:Int) s.2.2.1.length (fun k=>∃o,s.2.2.1[k]?=some o∧∃a,s.2.1.1[k]?=some a∧FQ a o) (by omega) ?_ ?_) ?_
 ·intro i hi;have hx:s.2.2.1[i]?=some s.2.2.1[i]:=FL hi;generalize s.2.2.1[i]=o at hx;have hj:i < s.2.1.1.length:=by omega
  have hy:s.2.1.1[i]?=some s.2.1.1[i]:=FL hj;grind[zL,zb,zm,za,wF,jZ,zQ]
 ·grind[zD,za]
 rintro⟨c,⟨y1,y2,⟨⟩⟩,⟨⟩⟩ (⟨rfl,rfl,hA⟩ | ⟨rfl,rfl,hA⟩);rotate_left
 ·exact zu (za (.inr ⟨fun h=>hA (yg.2 h.2.2.2.2.1),rfl⟩))
 refine zx (zk (jS (521:Int) s.2.2.2.1.length (fun k=>∃x,s.2.2.2.1[k]?=some x∧OY x s.2.2.2.2.length) (by omega) ?_ ?_) ?_)
 ·intro i hi;have hx:s.2.2.2.1[i]?=some s.2.2.2.1[i]:=FL hi;grind[zL,zb,zm,zpz,zq,za,wF,jZ,zQ]
 ·grind[zD,za]
 rintro⟨c,⟨y1,y2,⟨⟩⟩,⟨⟩⟩ (⟨rfl,rfl,hB⟩ | ⟨rfl,rfl,hB⟩);rotate_left
 ·exact zu (za (.inr ⟨fun h=>hB (yg.2 h.2.2.2.2.2.1),rfl⟩))
 refine zx (zk (jS (521:Int) s.2.2.2.2.length (fun k=>∃r,s.2.2.2.2[k]?=some r∧zbc r) (by omega) ?_ ?_) ?_)
 ·intro i hi;have hx:s.2.2.2.2[i]?=some s.2.2.2.2[i]:=FL hi;generalize s.2.2.2.2[i]=o at hx;refine zf (zL (show(i:Int) < (s.2.2.2.2.length:Int) by omega)) (zb (zm hx ?_));rw[zoR (W.wr i o hx),zq,pE (by decide)];grind[za,wF,jZ,zQ]
 ·grind[zD,za]
 rintro⟨c,⟨y1,y2,⟨⟩⟩,⟨⟩⟩ (⟨rfl,rfl,hC⟩ | ⟨rfl,rfl,hC⟩)
 ·exact zx (za (.inl ⟨⟨⟨by omega,by omega⟩,h3,by omega,by omega,yg.1 hA,yg.1 hB,yg.1 hC⟩,rfl⟩))
 ·exact zu (za (.inr ⟨fun h=>hC (yg.2 h.2.2.2.2.2.2),rfl⟩))
theorem zln{s:zK}(W:Vr s):Vm (s,())=some (tv (du s),()):=by
 have hlr:=W.lr;rw[Oe];unfold AW;simp only[zcd,zjl,GX,zq];refine jl (zb (zd (fun h1=>za (zu (za ⟨fun h=>(by cases h),fun h=>?_⟩))) fun h1=>zd (fun h2=>za (zu (za ⟨fun h=>(by cases h),fun h=>?_⟩))) fun h2=>zd (fun h3=>za (zu (za ⟨fun h=>(by cases h),fun h=>absurd h.2.1 (jZ h3)⟩))) fun h3=>zd (fun h4=>za (zu (za ⟨fun h=>(by cases h),fun h=>absurd (by have:=h.2.2.1;omega) (qt (qM.1 h4))⟩))) fun h4=>zd (fun h5=>za (zu (za ⟨fun h=>(by cases h),fun h=>?_⟩))) fun h5=>za (zx ?_)))
 ·have:=zV h1;have:=h.1.1;omega
 ·have:=zV h2;have:=h.1.2;omega
 ·have:=zV h5;have:=h.2.2.2.1;omega
 have h1:=zP h1;have h2:=zP h2;have h3:=wF h3;have h4:=qi (qE.1 h4);have h5:=zP h5;have hla:=(VV h3).la;refine zk (jS false s.2.2.1.length (fun k=>∃o,s.2.2.1[k]?=some o∧∃a,s.2.1.1[k]?=some a∧FQ a o) (by omega) ?_ ?_) ?_
 ·intro i hi;have hx:s.2.2.1[i]?=some s.2.2.1[i]:=FL hi;generalize s.2.2.1[i]=o at hx;have hj:i < s.2.1.1.length:=by omega
  have hy:s.2.1.1[i]?=some s.2.1.1[i]:=FL hj;grind[zL,zb,zm,za,wF,jZ,zQ]
 ·grind[zD,za]
 rintro⟨c,⟨y1,y2,⟨⟩⟩,⟨⟩⟩ (⟨rfl,rfl,hA⟩ | ⟨rfl,rfl,hA⟩);rotate_left
 ·exact zu (za ⟨fun h=>(by cases h),fun h=>absurd (yg.2 h.2.2.2.2.1) hA⟩)
 refine zx (zk (jS false s.2.2.2.1.length (fun k=>∃x,s.2.2.2.1[k]?=some x∧OY x s.2.2.2.2.length) (by omega) ?_ ?_) ?_)
 ·intro i hi;have hx:s.2.2.2.1[i]?=some s.2.2.2.1[i]:=FL hi;generalize s.2.2.2.1[i]=o at hx;refine zf (zL (show(i:Int) < (s.2.2.2.1.length:Int) by omega)) (zb (zm hx (zb ?_)));have no:¬OY o s.2.2.2.2.length->¬∃x,s.2.2.2.1[i]?=some x∧OY x s.2.2.2.2.length:=by grind
  refine zd (fun h6=>za (zu (za (.inr ⟨no fun h=>jZ h6 h.1,_,rfl⟩)))) fun h6=>zd (fun h7=>za (zu (za (.inr ⟨no fun h=>?_,_,rfl⟩)))) fun h7=>zd (fun h8=>za (zu (za (.inr ⟨no fun h=>?_,_,rfl⟩)))) fun h8=>?_
  ·have:=zV h7;have:=h.2.1.1;omega
  ·have:=zV h8;have:=h.2.1.2;omega
  have h6:=wF h6;have h7:=zP h7;have h8:=zP h8;refine zd (fun h9=>zd (fun h10=>za (zu (za (.inr ⟨no fun h=>?_,_,rfl⟩)))) fun h10=>zd (fun h11=>za (zu (za (.inr ⟨no fun h=>?_,_,rfl⟩)))) fun h11=>zd (fun h12=>za (zu (za (.inr ⟨no fun h=>?_,_,rfl⟩)))) fun h12=>za (zx (za (.inl ⟨⟨o,hx,h6,⟨h7,h8⟩,?_⟩,?_⟩)))) fun h9=>zd (fun h11=>za (zu (za (.inr ⟨no fun h=>?_,_,rfl⟩)))) fun h11=>zd (fun h12=>za (zu (za (.inr ⟨no fun h=>?_,_,rfl⟩)))) fun h12=>za (zx (za (.inl ⟨⟨o,hx,h6,⟨h7,h8⟩,?_⟩,?_⟩)))
  ·have:=qt (qM.1 h9);have:=qt (qM.1 h10);have:=h.2.2.1;omega
  ·have:=zV h11;have:=h.2.2.2.1;omega
  ·have:=zP (qM.1 h12);have:=h.2.2.2.2;omega
  ·have:=qi (qE.1 h10);have:=zP h11;have:=zV (qE.1 h12);omega
  ·rw[zQ (by omega)]
  ·have:=zV h11;have:=h.2.2.2.1;omega
  ·have:=zP (qM.1 h12);have:=h.2.2.2.2;omega
  ·have:=qi (qE.1 h9);have:=zP h11;have:=zV (qE.1 h12);omega
  ·rw[zQ (by omega)]
 ·grind[zD,za]
 rintro⟨c,⟨y1,y2,⟨⟩⟩,⟨⟩⟩ (⟨rfl,rfl,hB⟩ | ⟨rfl,rfl,hB⟩);rotate_left
 ·exact zu (za ⟨fun h=>(by cases h),fun h=>absurd (yg.2 h.2.2.2.2.2.1) hB⟩)
 refine zx (zk (jS false s.2.2.2.2.length (fun k=>∃r,s.2.2.2.2[k]?=some r∧zbc r) (by omega) ?_ ?_) ?_)
 ·intro i hi;have hx:s.2.2.2.2[i]?=some s.2.2.2.2[i]:=FL hi;generalize s.2.2.2.2[i]=o at hx;refine zf (zL (show(i:Int) < (s.2.2.2.2.length:Int) by omega)) (zb (zm hx ?_));rw[znk (W.wr i o hx),zq];grind[za,wF,jZ,zQ]
 ·grind[zD,za]
 rintro⟨c,⟨y1,y2,⟨⟩⟩,⟨⟩⟩ (⟨rfl,rfl,hC⟩ | ⟨rfl,rfl,hC⟩)
 ·exact zx (za ⟨fun _=>⟨⟨by omega,by omega⟩,h3,by omega,by omega,yg.1 hA,yg.1 hB,yg.1 hC⟩,fun _=>rfl⟩)
 ·exact zu (za ⟨fun h=>(by cases h),fun h=>absurd (yg.2 h.2.2.2.2.2.2) hC⟩)
def mH(s:zK)(t:Int):Prop:=s.2.1.2.2.1<=t+s.1∧∀(k:Nat) r,s.2.2.2.2[k]?=some r->r.2.2.2.2.1<=t
theorem zoT{s:zK}{t:Int}(hs:inP s.1 (-1000) 1000)(hl:s.2.2.2.2.length<=1000000000000):ur (s,t,())=some (bif tv (inP t 0 274877906944∧mH s t)then 0 else 2,()):=by
 obtain⟨s0,s1⟩:=hs;rw[BU];unfold fH;refine Qh (by decide) (zb (zd (fun h1=>za (zu (za (.inr ⟨fun h=>?_,rfl⟩)))) fun h1=>zd (fun h2=>za (zu (za (.inr ⟨fun h=>?_,rfl⟩)))) fun h2=>?_))
 ·have:=zV h1;have:=h.1.1;omega
 ·have:=zV h2;have:=h.1.2;omega
 have h1:=zP h1;have h2:=zP h2;rw[zT (z:=t+s.1) (by omega) (by omega)];refine zd (fun h3=>za (zu (za (.inr ⟨fun h=>?_,rfl⟩)))) fun h3=>za (zx ?_)
 ·have:=zV h3;have:=h.2.1;omega
 have h3:=zP h3;refine zk (jS (2:Int) s.2.2.2.2.length (fun k=>∃r,s.2.2.2.2[k]?=some r∧r.2.2.2.2.1<=t) (by omega) ?_ ?_) ?_
 ·intro i hi;have hx:s.2.2.2.2[i]?=some s.2.2.2.2[i]:=FL hi;grind[zL,zb,zm,za,zP,zV,zQ]
 ·grind[zD,za]
 rintro⟨c,⟨y1,y2,⟨⟩⟩,⟨⟩⟩ (⟨rfl,rfl,hC⟩ | ⟨rfl,rfl,hC⟩)
 ·exact zx (za (.inl ⟨⟨⟨h1,h2⟩,h3,yg.1 hC⟩,rfl⟩))
 ·exact zu (za (.inr ⟨fun h=>hC (yg.2 h.2.2),rfl⟩))
theorem zcj{s:zK}{t:Int}(hs:inP s.1 (-1000) 1000)(ht:inP t 0 274877906944)(hl:s.2.2.2.2.length<=1000000000000):Vp (s,t,())=some (!tv (mH s t),()):=by
 obtain⟨s0,s1⟩:=hs;obtain⟨t0,t1⟩:=ht;rw[OF];unfold Bs;rw[zT (z:=t+s.1) (by omega) (by omega)];refine qH (zd (fun h3=>za ?_) fun h3=>?_)
 ·have:=zV h3;grind[wi,mH]
 have h3:=zP h3;refine zk (jS true s.2.2.2.2.length (fun k=>∃r,s.2.2.2.2[k]?=some r∧r.2.2.2.2.1<=t) (by omega) ?_ ?_) ?_
 ·intro i hi;have hx:s.2.2.2.2[i]?=some s.2.2.2.2[i]:=FL hi;grind[zL,zb,zm,za,zP,zV,zQ]
 ·grind[zD,za]
 rintro⟨c,⟨y1,y2,⟨⟩⟩,⟨⟩⟩ (⟨rfl,rfl,hC⟩ | ⟨rfl,rfl,hC⟩)
 ·grind[za,qX,mH]
 ·refine zu (za ?_);rw[wi fun h:mH s t=>hC (yg.2 h.2)];rfl
def QD(port:Int)(x:zM)(e:xQ):Prop:=e.1=port∧e.2.1=x.1∧e.2.2.1=x.2.2.1
abbrev znl(s:zK)(k:Nat)(r:qn):zK:=(s.1,(s.2.1,(s.2.2.1,(s.2.2.2.1,s.2.2.2.2.set k r))))
theorem zgh{s:zK}{port:Int}{x:zM}{t:Int}{a:yT}(hl:s.2.2.2.1.length<=24):zt (zI (fun s0:((zO×(Int×(Int×Unit)))×Unit)=>bif(zg (s0.1.2.2.1) ((((s.2.2.2.1).length:Nat):Int)))then opt (atI (s.2.2.2.1) (s0.1.2.2.1)) fun x1=>bif(zj (x1.1) (s0.1.1.2.1))then bif(zj (x1.2.1) (s0.1.1.2.2.1.1))then bif(zj (x1.2.2.1) (s0.1.1.2.2.1.2.2.1))then some (.inl (1,((s0.1.1,(s0.1.2.2.1,(s0.1.2.2.1,()))),())))else some (.inr ((s0.1.1,(s0.1.2.1,((wrF .i64 ((s0.1.2.2.1+1))),()))),()))else some (.inr ((s0.1.1,(s0.1.2.1,((wrF .i64 ((s0.1.2.2.1+1))),()))),()))else some (.inr ((s0.1.1,(s0.1.2.1,((wrF .i64 ((s0.1.2.2.1+1))),()))),()))else some (.inl (0,((s0.1.1,(s0.1.2.1,(s0.1.2.2.1,()))),())))) zR (((s,port,x,t,a),(0,(0,()))),())) fun r=>r.2.1.1=(s,port,x,t,a)∧(((r.1:Nat)=0∧WK s.2.2.2.1 (QD port x))∨(r.1=1∧∃i:Nat,r.2.1.2.1=(i:Int)∧vI s.2.2.2.1 (QD port x) i)):=by
 refine We s.2.2.2.1 (fun i=>(((s,port,x,t,a),(0,((i:Int),()))),())) (QD port x) _ (by omega) ?_ ?_ rfl
 ·intro i e hi he;refine zf (zL (show(i:Int) < (s.2.2.2.1.length:Int) by omega)) (zb (zm he (zd (fun h1=>zd (fun h2=>zd (fun h3=>za (.inr ⟨⟨qi h1,qi h2,qi h3⟩,_,rfl,fun h=>⟨rfl,.inr ⟨rfl,i,rfl,h⟩⟩⟩)) fun h3=>za (.inl ⟨fun h=>qt h3 h.2.2,?_⟩)) fun h2=>za (.inl ⟨fun h=>qt h2 h.2.1,?_⟩)) fun h1=>za (.inl ⟨fun h=>qt h1 h.1,?_⟩))));all_goals rw[zQ (by omega)]
 grind[zD,za]
def Jp(s:zK)(k:Nat)(r:qn)(n t:Int):zK×yT:=bif !zg n 65536 then(s,(1,(0,(0,20))))else bif(xa r.1 r.2.1 r.2.2.1 r.2.2.2.1 r.2.2.2.2.1 r.2.2.2.2.2.toNat n t).2 then(znl s k (xa r.1 r.2.1 r.2.2.1 r.2.2.2.1 r.2.2.2.2.1 r.2.2.2.2.2.toNat n t).1,(3,(0,(0,0))))else(s,(4,(0,(0,0))))
theorem zpJ{r:qn}{n t:Int}(hr:Vq r)(h:(xa r.1 r.2.1 r.2.2.1 r.2.2.2.1 r.2.2.2.2.1 r.2.2.2.2.2.toNat n t).2=false):(xa r.1 r.2.1 r.2.2.1 r.2.2.2.1 r.2.2.2.2.1 r.2.2.2.2.2.toNat n t).1=r:=by grind[pG,xa]
theorem zp9{r:qn}{n t:Int}(hr:Vq r)(hq:zbc r)(hn:inP n 0 65535):Vq (xa r.1 r.2.1 r.2.2.1 r.2.2.2.1 r.2.2.2.2.1 r.2.2.2.2.2.toNat n t).1:=by
 obtain⟨e,hs⟩:=pG hr;obtain⟨⟨l0,l1⟩,_⟩:=id hq;have hw:∀{L R:Int} {any:Bool} {last at':Int} {z:Nat},z < 2 ^ 64->Vq (mkR L R any last at' z):=fun h=>by rw[p64]at h;exact⟨by grind,by grind⟩
 have hp:2 ^ r.1.toNat - 1 < 2 ^ 64:=zqC (Nat.sub_lt (zrO _) (by decide)) (zqY (by decide) (by omega));unfold xa;split
 ·grind
 ·split
  ·exact hw hs
  ·rename_i h2;split
   ·split
    ·exact hw hs
    ·refine hw (zto hs (zsZ (by decide) ?_));omega
   ·exact hw (zsI Nat.and_le_right hp)
theorem znm{l:List qn}{k:Nat}{r:qn}(h:l[k]?=some r):l.set k r=l:=by apply zrl;grind
theorem zck{α:Type}{l:List α}{k:Nat}{r:α}(h:l[k]?=some r):dQ l=true:=by
 cases l with
 |nil=>simp at h
 |cons x l=>rfl
theorem Ko{α:Type}{l:List α}{z:Int}{k:Nat}{x:α}{Q:α->Prop}(hz:z=(k:Int))(h:l[k]?=some x)(hq:Q x):zt (atI l z) Q:=by rw[hz];exact zm h hq
theorem zqa{s:zK}{port:Int}{x:zM}{t:Int}{i k:Nat}{e:xQ}{r:qn}(W:Vr s)(hs:du s)(hx:Xd x)(ht:inP t 0 274877906944)(hT:mH s t)(hi:vI s.2.2.2.1 (QD port x) i)(he:s.2.2.2.1[i]?=some e)(hk:e.2.2.2=(k:Int))(hr:s.2.2.2.2[k]?=some r) : xy (s,port,x,t,(0,(0,(0,0)))) ()=some (((Jp s k r x.2.1 t).1,port,x,t,(Jp s k r x.2.1 t).2),true,()):=by
 have hle:=hs.2.2.2.1;have hlr:=W.lr;have hsw:=W.wr k r hr;have hq:=hs.2.2.2.2.2.2 k r hr;obtain⟨em,hsz⟩:=pG hsw;obtain⟨t0,t1⟩:=id ht;obtain⟨q0,q1⟩:=hx.2.1;have hkl:k < s.2.2.2.2.length:=(zqr.1 hr).1;rw[aY];unfold WB;refine qH (zk (zgh hle) ?_);rintro⟨c,⟨y1,y2,y3,⟨⟩⟩,⟨⟩⟩ ⟨rfl,⟨rfl,h⟩ | ⟨rfl,j,hj,h⟩⟩
 ·obtain⟨⟨q,hq1,hq2⟩,_⟩:=hi;exact absurd hq2 (h i q hq1)
 simp only at hj;subst hj;have:=sG h hi;subst this;refine zu (zi (zD (show ¬(j:Int) < 0 by omega)) ?_);unfold Jp;show zt (bif(!zg x.2.1 65536)then _ else _) _;cases hn:(!zg x.2.1 65536)with
 |true=>
  refine zf rfl ?_;rw[Ze];exact za rfl
 |false=>
  have hn2:x.2.1 < 65536:=zV (qE.1 hn);refine zi rfl (zb (zm he (zb (Ko hk hr ?_))));have hacc:yV (r,x.2.1,t,())=some ((xa r.1 r.2.1 r.2.2.1 r.2.2.2.1 r.2.2.2.2.1 r.2.2.2.2.2.toNat x.2.1 t).1,(xa r.1 r.2.1 r.2.2.1 r.2.2.2.1 r.2.2.2.2.1 r.2.2.2.2.2.toNat x.2.1 t).2,0,()):=by
   conv=>lhs;rw[em]
   exact zle hsz hq ⟨q0,by omega⟩ ⟨t0,by omega⟩ (hT.2 k r hr)
  show zt (opt (yV (r,x.2.1,t,())) _) _;rw[hacc,zq];grind[zt,xa,za,zck,qO,zb,Ko,Int.toNat_natCast,jL]
theorem znM{s:zK}{port:Int}{x:zM}{t:Int}{a:yT}(hs:du s)(hi:WK s.2.2.2.1 (QD port x)):xy (s,port,x,t,a) ()=some ((s,port,x,t,a),false,()):=by
 rw[aY];unfold WB;refine qH (zk (zgh hs.2.2.2.1) ?_);rintro⟨c,⟨y1,y2,y3,⟨⟩⟩,⟨⟩⟩ ⟨rfl,⟨rfl,h⟩ | ⟨rfl,j,hj,⟨q,hq1,hq2⟩,h⟩⟩
 ·exact zx (za rfl)
 ·exact absurd hq2 (hi j q hq1)
abbrev mI:zK:=(0,(([],([],(0,([],[])))),([],([],[]))))
def onV(s:zK)(g:zH)(i:Nat)(o:jP)(x:zM)(t:Int):zK×yT:=bif zj x.2.2.1 7 then((s.1,(g,s.2.2)),(2,(o.1,(t,0))))else bif !zj (gk o.2.1 o.2.2.2 t x.2.2.2.1).2.2 0 then((s.1,(g,s.2.2)),(1,(0,(0,21))))else bif zg o.2.2.1 ((gk o.2.1 o.2.2.2 t x.2.2.2.1).1 - t)then((s.1,(g,s.2.2)),(1,(0,(0,21))))else((s.1,(g,(s.2.2.1.set i (o.1,(o.2.1,(o.2.2.1,(gk o.2.1 o.2.2.2 t x.2.2.2.1).2.1))),s.2.2.2))),(2,(o.1,((gk o.2.1 o.2.2.2 t x.2.2.2.1).1,0))))
theorem zhF{o:jP}{t size:Int}(hb:yI o.2.1)(hs:iy o.2.1 o.2.2.2)(h1:inP t 0 1099511627776)(h2:inP size 84 1542):0<=(gk o.2.1 o.2.2.2 t size).1∧(gk o.2.1 o.2.2.2 t size).1<=1101128531969:=by have B:=elB hb hs h1 h2;have:=B.t0;have:=B.t1;have:=B.c0;have:=B.c1;grind[gk,zg,elT]
theorem zlo{s:zK}{g:zH}{port:Int}{x:zM}{t:Int}{i:Nat}{a:qu}{o:jP}(hg:Za g)(hx:Xd x)(hc:5 < x.2.2.1)(ht:inP t 0 274877906944)(hi:vI g.1 (kO port x) i)(ha:g.1[i]?=some a)(ho:s.2.2.1[i]?=some o)(hao:FQ a o)(hl:s.2.2.1.length<=64) : ∃d,yu ((s.1,(g,s.2.2)),port,x,t,(0,(0,(0,0)))) ()=some (d,true,())∧d.1=(onV s g i o x t).1∧d.2.2.2.2=(onV s g i o x t).2:=by
 have B:=VV hg;have hil:i < s.2.2.1.length:=(zqr.1 ho).1;obtain⟨c0,c1⟩:=hx.2.2.1;obtain⟨t0,t1⟩:=id ht;have hfind:kD (g,port,x,())=some ((i:Int),0,()):=by rw[Oq];unfold AZ;rw[Pb g (by have:=B.la;omega) (by have:=B.lp;omega),qX hg,zq,zhB,qX hx,zq,zjr (by have:=B.la;omega) (.inr ⟨i,hi,rfl⟩),zq];rfl
 obtain⟨⟨a',ha',hm⟩,_⟩:=hi;rw[ha]at ha';cases ha';have key:zt (yu ((s.1,(g,s.2.2)),port,x,t,(0,(0,(0,0)))) ()) fun r=>r.2.1=true∧r.1.1=(onV s g i o x t).1∧r.1.2.2.2.2=(onV s g i o x t).2:=by
  rw[Ci];unfold VU;show zt (opt (kD (g,port,x,())) _) _;rw[hfind,zq];refine zb (zi rfl (zi (zD (show ¬(i:Int) < 0 by omega)) (zi (by rw[zL (show(i:Int) < (s.2.2.1.length:Int) by omega)];rfl) (za (zx (zb (zm ho ?_)))))));unfold onV;show zt (bif zj x.2.2.1 7 then _ else _) _;cases h7:zj x.2.2.1 7 with
  |true=>
   refine zf rfl ?_;rw[XS];exact za ⟨rfl,rfl,rfl⟩
  |false=>
   have h6:a.2.2.1=6:=by have:=qt h7;have:=hm.2.2;omega
   obtain⟨_,ho2⟩:=hao;rcases ho2 with ho2 | ⟨_,hb,_,⟨o0,o1⟩,hsh⟩
   ·exact absurd h6 ho2.1
   have hbd:=zhF (t:=t) (size:=x.2.2.2.1) hb hsh ⟨t0,by omega⟩ hx.2.2.2.1;refine zi rfl ?_;show zt (opt (xT (o.2.1,o.2.2.2,t,x.2.2.2.1,())) _) _;rw[zpE hb hsh ⟨t0,by omega⟩ hx.2.2.2.1,zq];generalize hv:gk o.2.1 o.2.2.2 t x.2.2.2.1=v at hbd;refine zb ?_;show zt (bif !zj v.2.2 0 then _ else bif zg o.2.2.1 (wrF .i64 (v.1 - t))then _ else _) _;rw[zT (z:=v.1 - t) (by omega) (by omega)];cases h1:(!zj v.2.2 0)with
   |true=>
    refine zf rfl ?_;rw[Ze];exact za (zu (za ⟨rfl,rfl,rfl⟩))
   |false=>
    cases h2:zg o.2.2.1 (v.1 - t)with
    |true=>
     refine zi rfl (zf rfl ?_);rw[Ze];exact za (zu (za ⟨rfl,rfl,rfl⟩))
    |false=>
     refine zi rfl (zi rfl (za (zx (zf (zck ho) (zf (qO (by show(0+s.2.2.1.length)*48<=_;omega) (by show 0+s.2.2.1.length<=_;omega)) (zb (zm ho (zb ?_))))))));show zt (gl s.2.2.1 (Int.toNat (i:Int))) _;rw[zqO];refine jL hil fun _ _=>?_;rw[XS];exact za ⟨rfl,rfl,rfl⟩
 obtain⟨⟨d,b,⟨⟩⟩,e,h1,h2,h3⟩:=key;grind
theorem zgi{s:zK}{k:Nat}{r:qn}{n t:Int}(h:(!zg n 65536)=true):Jp s k r n t=(s,(1,(0,(0,20)))):=by unfold Jp;rw[h];rfl
theorem zgj{s:zK}{k:Nat}{r:qn}{n t:Int}(h:(!zg n 65536)=false)(h2:(xa r.1 r.2.1 r.2.2.1 r.2.2.2.1 r.2.2.2.2.1 r.2.2.2.2.2.toNat n t).2=true):Jp s k r n t=(znl s k (xa r.1 r.2.1 r.2.2.1 r.2.2.2.1 r.2.2.2.2.1 r.2.2.2.2.2.toNat n t).1,(3,(0,(0,0)))):=by grind[Jp]
theorem zhG{s:zK}{k:Nat}{r:qn}{n t:Int}(h:(!zg n 65536)=false)(h2:(xa r.1 r.2.1 r.2.2.1 r.2.2.2.1 r.2.2.2.2.1 r.2.2.2.2.2.toNat n t).2=false):Jp s k r n t=(s,(4,(0,(0,0)))):=by grind[Jp]
theorem zlp{s:zK}{port:Int}{x:zM}{t:Int}(W:Vr s)(hs:du s)(hx:Xd x)(ht:inP t 0 274877906944)(hT:mH s t):zt (zI (fun s0:((zK×(zK×(yT×(Int×Unit))))×Unit)=>bif(zg (s0.1.2.2.2.1) ((((s0.1.1.2.2.2.1).length:Nat):Int)))then opt (atI (s0.1.1.2.2.2.1) (s0.1.2.2.2.1)) fun x1=>bif(!(zj (x1.1) (port)))then some (.inr ((s0.1.1,(s0.1.2.1,(s0.1.2.2.1,((wrF .i64 ((s0.1.2.2.2.1+1))),())))),()))else opt (atI (s0.1.1.2.2.2.1) (s0.1.2.2.2.1)) fun x2=>bif(!(zj (x2.2.1) (x.1)))then some (.inr ((s0.1.1,(s0.1.2.1,(s0.1.2.2.1,((wrF .i64 ((s0.1.2.2.2.1+1))),())))),()))else opt (atI (s0.1.1.2.2.2.1) (s0.1.2.2.2.1)) fun x3=>bif(!(zj (x3.2.2.1) (x.2.2.1)))then some (.inr ((s0.1.1,(s0.1.2.1,(s0.1.2.2.1,((wrF .i64 ((s0.1.2.2.2.1+1))),())))),()))else bif(!(zg (x.2.1) (65536)))then some (.inl (1,((s0.1.1,(s0.1.1,((1,(0,(0,20))),(s0.1.2.2.2.1,())))),())))else opt (atI (s0.1.1.2.2.2.1) (s0.1.2.2.2.1)) fun x4=>opt (atI (s0.1.1.2.2.2.2) (x4.2.2.2)) fun x5=>opt (gz ((x5,(x.2.1,(t,()))))) fun x6=>bif(qe (0) ((s0.1.1.2.2.2.2).length) (48))then opt (atI (s0.1.1.2.2.2.2) (x4.2.2.2)) fun x7=>opt (gl (s0.1.1.2.2.2.2) ((Int.toNat x4.2.2.2))) fun x8=>bif x6.2.1 then some (.inl (1,(((s0.1.1.1,(s0.1.1.2.1,(s0.1.1.2.2.1,(s0.1.1.2.2.2.1,((s0.1.1.2.2.2.2).set ((Int.toNat x4.2.2.2)) (x6.1)))))),((s0.1.1.1,(s0.1.1.2.1,(s0.1.1.2.2.1,(s0.1.1.2.2.2.1,((s0.1.1.2.2.2.2).set ((Int.toNat x4.2.2.2)) (x6.1)))))),((3,(0,(0,0))),(s0.1.2.2.2.1,())))),())))else some (.inl (1,(((s0.1.1.1,(s0.1.1.2.1,(s0.1.1.2.2.1,(s0.1.1.2.2.2.1,((s0.1.1.2.2.2.2).set ((Int.toNat x4.2.2.2)) (x6.1)))))),((s0.1.1.1,(s0.1.1.2.1,(s0.1.1.2.2.1,(s0.1.1.2.2.2.1,((s0.1.1.2.2.2.2).set ((Int.toNat x4.2.2.2)) (x6.1)))))),((4,(0,(0,0))),(s0.1.2.2.2.1,())))),())))else none else some (.inl (0,((s0.1.1,(s0.1.2.1,(s0.1.2.2.1,(s0.1.2.2.2.1,())))),())))) zR ((s,(mI,((0,(0,(0,0))),(0,())))),())) fun r=>((r.1:Nat)=0∧r.2.1.1=s∧WK s.2.2.2.1 (QD port x))∨(r.1=1∧∃(i k:Nat) (e:xQ) (q:qn),vI s.2.2.2.1 (QD port x) i∧s.2.2.2.1[i]?=some e∧e.2.2.2=(k:Int)∧s.2.2.2.2[k]?=some q∧r.2.1.2.1=(Jp s k q x.2.1 t).1∧r.2.1.2.2.1=(Jp s k q x.2.1 t).2):=by
 have hle:=hs.2.2.2.1;have hlr:=W.lr;obtain⟨t0,t1⟩:=id ht;obtain⟨q0,q1⟩:=hx.2.1;refine We s.2.2.2.1 (fun i=>((s,(mI,((0,(0,(0,0))),((i:Int),())))),())) (QD port x) _ (by omega) ?_ ?_ rfl
 ·intro i e hi he;refine zf (zL (show(i:Int) < (s.2.2.2.1.length:Int) by omega)) (zb (zm he (zd (fun h1=>za (.inl ⟨fun h=>qt (qM.1 h1) h.1,?_⟩)) fun h1=>zb (zm he (zd (fun h2=>za (.inl ⟨fun h=>qt (qM.1 h2) h.2.1,?_⟩)) fun h2=>zb (zm he (zd (fun h3=>za (.inl ⟨fun h=>qt (qM.1 h3) h.2.2,?_⟩)) fun h3=>?_)))))))
  ·rw[zQ (by omega)]
  ·rw[zQ (by omega)]
  ·rw[zQ (by omega)]
  have hm:QD port x e:=⟨qi (qE.1 h1),qi (qE.1 h2),qi (qE.1 h3)⟩;obtain⟨_,_,_,k0,k1⟩:=hs.2.2.2.2.2.1 i e he;obtain⟨k,hk⟩:∃k:Nat,e.2.2.2=(k:Int):=⟨e.2.2.2.toNat,by omega⟩;have hkl:k < s.2.2.2.2.length:=by omega
  have hr:s.2.2.2.2[k]?=some s.2.2.2.2[k]:=FL hkl;generalize s.2.2.2.2[k]=r at hr;have hsw:=W.wr k r hr;have hq:=hs.2.2.2.2.2.2 k r hr;obtain⟨em,hsz⟩:=pG hsw;have fin:∀(y1 y2:zK) (y3:yT) (y4:Int),y2=(Jp s k r x.2.1 t).1->y3=(Jp s k r x.2.1 t).2->(vI s.2.2.2.1 (QD port x) i->(((1:Nat)=0∧y1=s∧WK s.2.2.2.1 (QD port x))∨((1:Nat)=1∧∃(i k:Nat) (e:xQ) (q:qn),vI s.2.2.2.1 (QD port x) i∧s.2.2.2.1[i]?=some e∧e.2.2.2=(k:Int)∧s.2.2.2.2[k]?=some q∧y2=(Jp s k q x.2.1 t).1∧y3=(Jp s k q x.2.1 t).2))):=
   fun y1 y2 y3 y4 e1 e2 h=>.inr ⟨rfl,i,k,e,r,h,he,hk,hr,e1,e2⟩
  cases hn:(!zg x.2.1 65536)with
  |true=>
   exact zf rfl (za (.inr ⟨hm,_,rfl,fin _ _ _ 0 (by rw[zgi hn]) (by rw[zgi hn])⟩))
  |false=>
   have hn2:x.2.1 < 65536:=zV (qE.1 hn);have hacc:gz (r,x.2.1,t,())=some ((xa r.1 r.2.1 r.2.2.1 r.2.2.2.1 r.2.2.2.2.1 r.2.2.2.2.2.toNat x.2.1 t).1,(xa r.1 r.2.1 r.2.2.1 r.2.2.2.1 r.2.2.2.2.1 r.2.2.2.2.2.toNat x.2.1 t).2,()):=by
    conv=>lhs;rw[em]
    exact zjp hq ⟨q0,by omega⟩ ⟨t0,by omega⟩
   refine zi rfl (zb (zm he (zb (Ko hk hr ?_))));rw[hacc,zq];refine zf (qO (by show(0+s.2.2.2.2.length)*48<=_;omega) (by show 0+s.2.2.2.2.length<=_;omega)) (zb (Ko hk hr (zb ?_)));rw[hk,zqO];refine jL hkl fun _ _=>?_;have hno:=zpJ (n:=x.2.1) (t:=t) hsw;show zt (bif(xa r.1 r.2.1 r.2.2.1 r.2.2.2.1 r.2.2.2.2.1 r.2.2.2.2.2.toNat x.2.1 t).2 then _ else _) _;cases h2:(xa r.1 r.2.1 r.2.2.1 r.2.2.2.1 r.2.2.2.2.1 r.2.2.2.2.2.toNat x.2.1 t).2 with
   |true=>
    exact zf rfl (za (.inr ⟨hm,_,rfl,fin _ _ _ 0 (by rw[zgj hn h2]) (by rw[zgj hn h2])⟩))
   |false=>
    refine zi rfl (za (.inr ⟨hm,_,rfl,fin _ _ _ 0 ?_ (by rw[zhG hn h2])⟩));rw[zhG hn h2];show znl s k (xa r.1 r.2.1 r.2.2.1 r.2.2.2.1 r.2.2.2.2.1 r.2.2.2.2.2.toNat x.2.1 t).1=s;rw[hno h2];show(s.1,(s.2.1,(s.2.2.1,(s.2.2.2.1,s.2.2.2.2.set k r))))=s;rw[znm hr]
 grind[zD,za]
structure Pg(s q:zK):Prop where
 w:Vr q
 sh:q.1=s.1
 acc:q.2.1.1=s.2.1.1
 pol:q.2.1.2.1=s.2.1.2.1
 ll:q.2.1.2.2.2.1.length=s.2.1.2.2.2.1.length
 lm:q.2.1.2.2.2.2.length=s.2.1.2.2.2.2.length
 lo:q.2.2.1.length=s.2.2.1.length
 le:q.2.2.2.1=s.2.2.2.1
 lr:q.2.2.2.2.length=s.2.2.2.2.length
theorem znn{s:zK}{k:Nat}{r:qn}{n t:Int}(W:Vr s)(hs:du s)(hr:s.2.2.2.2[k]?=some r)(hn:0<=n):Pg s (Jp s k r n t).1:=by
 have h0:Pg s s:=⟨W,rfl,rfl,rfl,rfl,rfl,rfl,rfl,rfl⟩;unfold Jp;cases h1:(!zg n 65536)with
 |true=>exact h0
 |false=>
  have hn2:=zV (qE.1 h1);cases h2:(xa r.1 r.2.1 r.2.2.1 r.2.2.2.1 r.2.2.2.2.1 r.2.2.2.2.2.toNat n t).2 with
  |false=>exact h0
  |true=>
   refine⟨⟨W.la,W.lp,by show(s.2.2.2.2.set k _).length<=_;rw[zrX];exact W.lr,fun j q hj=>?_⟩,rfl,rfl,rfl,rfl,rfl,rfl,rfl,by grind⟩;have hj:(s.2.2.2.2.set k (xa r.1 r.2.1 r.2.2.1 r.2.2.2.1 r.2.2.2.2.1 r.2.2.2.2.2.toNat n t).1)[j]?=some q:=hj;rw[zrk]at hj;by_cases hkj:k=j
   ·subst hkj;rw[zqI rfl]at hj;split at hj
    ·cases hj;exact zp9 (W.wr k r hr) (hs.2.2.2.2.2.2 k r hr) ⟨hn,by omega⟩
    ·cases hj
   ·rw[zqu hkj]at hj;exact W.wr j q hj
theorem zbd{s:zK}{g:zH}{i:Nat}{o:jP}{x:zM}{t:Int}(W:Vr s)(h1:g.1=s.2.1.1)(h2:g.2.1=s.2.1.2.1)(h3:g.2.2.2.1.length=s.2.1.2.2.2.1.length)(h4:g.2.2.2.2.length=s.2.1.2.2.2.2.length):Pg s (s.1,(g,s.2.2))∧Pg s (onV s g i o x t).1:=by
 have W2:∀l:List jP,Vr (s.1,(g,(l,s.2.2.2))):=fun l=>⟨by show g.1.length<=_;rw[h1];exact W.la,by show g.2.1.length<=_;rw[h2];exact W.lp,W.lr,W.wr⟩;have h0:Pg s (s.1,(g,s.2.2)):=⟨W2 s.2.2.1,rfl,h1,h2,h3,h4,rfl,rfl,rfl⟩;refine⟨h0,?_⟩;unfold onV;cases zj x.2.2.1 7 with
 |true=>exact h0
 |false=>
  cases(!zj (gk o.2.1 o.2.2.2 t x.2.2.2.1).2.2 0)with
  |true=>exact h0
  |false=>
   cases zg o.2.2.1 ((gk o.2.1 o.2.2.2 t x.2.2.2.1).1 - t)with
   |true=>exact h0
   |false=>exact⟨W2 _,rfl,h1,h2,h3,h4,by grind,rfl,rfl⟩
theorem zno{s:zK}{port:Int}{x:zM}{t:Int}(W:Vr s):∃q a e,xO (s,port,x,t,())=some (q,a,e,())∧ve (s,port,x,t,())=some (q,a,e,())∧((e=0∧du s∧Pg s q)∨(e≠0∧q=mI)):=by
 have hch:=zoS W;have hri:=zln W;by_cases hs:du s;rotate_left
 ·refine⟨mI,(0,(0,(0,0))),521,?_,?_,.inr ⟨by decide,rfl⟩⟩
  ·rw[gW];unfold kJ;rw[hch,wi hs,zq];rfl
  grind[kL,gC,wi,zq]
 rw[qX hs]at hch hri;by_cases hp:inP port 0 47;rotate_left
 ·refine⟨mI,(0,(0,(0,0))),2,?_,?_,.inr ⟨by decide,rfl⟩⟩
  ·rw[gW];unfold kJ;rw[hch,zq];refine qH (zi rfl (zb (zd (fun h=>za (zu (za rfl))) fun h=>zd (fun h2=>za (zu (za rfl))) fun h2=>?_)));exact absurd ⟨zP h,by have:=zV (qE.1 h2);omega⟩ hp
  grind[kL,gC,zq,GX,wi]
 obtain⟨p0,p1⟩:=id hp;by_cases hx:Xd x;rotate_left
 ·refine⟨mI,(0,(0,(0,0))),460,?_,?_,.inr ⟨by decide,rfl⟩⟩
  ·rw[gW];unfold kJ;rw[hch,zq,za9,wi hx];exact qH (zi rfl (zb (zi (zD (by omega)) (zi (by rw[zL (by omega)];rfl) (za (zx (zb (za (zf rfl (za rfl))))))))))
  grind[kL,gC,zq,GX,qX,OZ,wi]
 have hT1:=zoT (s:=s) (t:=t) hs.1 W.lr;by_cases ht:inP t 0 274877906944∧mH s t;rotate_left
 ·refine⟨mI,(0,(0,(0,0))),2,?_,?_,.inr ⟨by decide,rfl⟩⟩
  ·rw[gW];unfold kJ;rw[hch,zq,za9,qX hx,hT1,wi ht];exact qH (zi rfl (zb (zi (zD (by omega)) (zi (by rw[zL (by omega)];rfl) (za (zx (zb (za (zi rfl (zb (za (zf rfl (za rfl)))))))))))))
  ·rw[kL];unfold gC;rw[hri,zq,GX,qX hp,zq,OZ,qX hx,zq];refine qH (zi rfl (zi rfl (zi rfl (zb (zd (fun h=>za (zu (za rfl))) fun h=>zd (fun h2=>za (zu (za rfl))) fun h2=>?_)))));have ht1:inP t 0 274877906944:=⟨zP h,zP h2⟩;rw[zcj hs.1 ht1 W.lr,wi fun h=>ht ⟨ht1,h⟩,zq];exact zf rfl (za (zu (za rfl)))
 obtain⟨htP,hT⟩:=ht;obtain⟨t0,t1⟩:=id htP;obtain⟨s0,s1⟩:=id hs.1;have prog:∀Q,zt (opt (xy (s,port,x,t,(0,(0,(0,0)))) ()) fun x4=>
     bif x4.2.1 then some (x4.1.1,(x4.1.2.2.2.2,((0:Int),())))
     else opt (xS (x4.1) (())) fun x5=>
      bif x5.2.1 then some (x5.1.1,(x5.1.2.2.2.2,(0,())))
      else opt (yX (x5.1) (())) fun x6=>
       bif x6.2.1 then some (x6.1.1,(x6.1.2.2.2.2,(0,())))
       else opt (yu (x6.1) (())) fun x7=>
        bif x7.2.1 then some (x7.1.1,(x7.1.2.2.2.2,(0,())))
        else some (x7.1.1,(x7.1.2.2.2.2,(0,())))) Q->zt (xO (s,port,x,t,())) Q:=fun Q h=>by
  rw[gW];unfold kJ;rw[hch,zq,za9,qX hx,hT1,qX ⟨htP,hT⟩]
  exact zi rfl (zb (zi (zD (by omega)) (zi (by rw[zL (by omega)];rfl) (za (zx (zb (za (zi rfl (zb (za (zi rfl h)))))))))))
 have refe:∀q a,UC (s,port,x,t,())=some (q,a,())->ve (s,port,x,t,())=some (q,a,0,()):=fun q a h=>by rw[kL];unfold gC;rw[hri,zq,GX,qX hp,zq,OZ,qX hx,zq];refine qH (zi rfl (zi rfl (zi rfl (zb (zi (zD (by omega)) (zi (zD (by omega)) ?_))))));rw[zcj hs.1 htP W.lr,qX hT,zq];refine zi rfl (za (zx ?_));rw[h];exact za rfl
 have hdl:=zlp W hs hx htP hT (port:=port);rcases iz (QD port x) s.2.2.2.1 with hn | ⟨i,hi⟩
 rotate_left
 ·obtain⟨⟨e,he,_⟩,_⟩:=id hi;obtain⟨_,_,_,k0,k1⟩:=hs.2.2.2.2.2.1 i e he;obtain⟨k,hk⟩:∃k:Nat,e.2.2.2=(k:Int):=⟨e.2.2.2.toNat,by omega⟩;have hkl:k < s.2.2.2.2.length:=by omega
  have hr:s.2.2.2.2[k]?=some s.2.2.2.2[k]:=FL hkl;generalize s.2.2.2.2[k]=r at hr;refine⟨(Jp s k r x.2.1 t).1,(Jp s k r x.2.1 t).2,0,qH (prog _ ?_),refe _ _ ?_,.inl ⟨rfl,hs,znn W hs hr hx.2.1.1⟩⟩
  ·rw[zqa W hs hx htP hT hi he hk hr,zq];grind[za]
  ·rw[WE];unfold Yt;refine qH (zk hdl ?_);rintro⟨c,⟨y1,y2,y3,y4,⟨⟩⟩,⟨⟩⟩ (⟨_,_,h⟩ | ⟨h1,i',k',e',r',hi',he',hk',hr',h2,h3⟩)
   ·obtain⟨⟨q,hq1,hq2⟩,_⟩:=hi;exact absurd hq2 (h i q hq1)
   ·have:=sG hi hi';subst this;rw[he]at he';cases he';have:k=k':=by omega
    subst this;rw[hr]at hr';cases hr';simp only at h1 h2 h3;subst h1 h2 h3;exact zu (za rfl)
 obtain⟨g,v,hP1,hP2,g1,g2,g3,g4,hg⟩:=zpI (f:=s.2.1) (port:=port) (x:=x) (t:=t+s.1) hs.2.1 hp hx hT.1 (by omega);have hwt:wrF .i64 (t+s.1)=t+s.1:=zT (by omega) (by omega);obtain⟨z,hz⟩:=zpF s.2.1.1 (kO port x);have hB:=VV hs.2.1;have hsift:xS (s,port,x,t,(0,(0,(0,0)))) ()=(if v=0 then some (((s.1,(g,s.2.2)),port,x,t,(0,(0,(0,0)))),false,())else some (((s.1,(g,s.2.2)),port,x,t,(1,(0,(0,v)))),true,())):=by
  rw[BZ];unfold VR;show opt (vQ (s.2.1,port,x,wrF .i64 (t+s.1),())) _=_;rw[hwt,hP1,zq];by_cases hv:v=0
  ·rw[zqI hv,hv];rfl
  ·rw[zqu hv];refine qH (zi rfl (zf (by rw[jf hv];rfl) ?_));rw[Ze];exact za rfl
 have hstop:∀d:zO,yX d ()=(if d.2.2.1.2.2.1 < 6 then some ((d.1,(d.2.1,(d.2.2.1,(d.2.2.2.1,(5,(0,(0,0))))))),true,())else some (d,false,())):=fun d=>by grind[Cb,VS,zL,zD]
 by_cases hv:v=0;rotate_left
 ·refine⟨(s.1,(g,s.2.2)),(1,(0,(0,v))),0,qH (prog _ ?_),refe _ _ ?_,.inl ⟨rfl,hs,(zbd (i:=0) (o:=(0,((0,0),(0,(0,0))))) (x:=x) (t:=t) W g1 g2 g3 g4).1⟩⟩
  ·grind[znM,zq,za]
  ·rw[WE];unfold Yt;refine qH (zk hdl ?_);rintro⟨c,⟨y1,y2,y3,y4,⟨⟩⟩,⟨⟩⟩ (⟨h1,h2,_⟩ | ⟨h1,i',k',e',r',⟨⟨q2,hq1,hq2⟩,_⟩,_⟩);rotate_left
   ·exact absurd hq2 (hn i' q2 hq1)
   simp only at h1 h2;subst h1 h2;refine zx ?_;show zt (opt (uO (y1.2.1,port,x,())) _) _;rw[iB (by have:=hB.la;omega) hz,zq];grind[zt,opt,yY,wrF,zq,jf,za]
 rw[zqI hv]at hsift;have hprog2
       : ∀Q,zt (opt (yX ((s.1,(g,s.2.2)),port,x,t,(0,(0,(0,0)))) ()) fun x6=>
       bif x6.2.1 then some (x6.1.1,(x6.1.2.2.2.2,((0:Int),())))
       else opt (yu (x6.1) (())) fun x7=>
        bif x7.2.1 then some (x7.1.1,(x7.1.2.2.2.2,(0,())))
        else some (x7.1.1,(x7.1.2.2.2.2,(0,())))) Q->zt (xO (s,port,x,t,())) Q:=fun Q h=>by
  grind[znM,zq]
 by_cases hc:x.2.2.1 < 6
 ·refine⟨(s.1,(g,s.2.2)),(5,(0,(0,0))),0,qH (hprog2 _ ?_),refe _ _ ?_,.inl ⟨rfl,hs,(zbd (i:=0) (o:=(0,((0,0),(0,(0,0))))) (x:=x) (t:=t) W g1 g2 g3 g4).1⟩⟩
  ·grind[zq,za]
  ·rw[WE];unfold Yt;refine qH (zk hdl ?_);rintro⟨c,⟨y1,y2,y3,y4,⟨⟩⟩,⟨⟩⟩ (⟨h1,h2,_⟩ | ⟨h1,i',k',e',r',⟨⟨q2,hq1,hq2⟩,_⟩,_⟩);rotate_left
   ·exact absurd hq2 (hn i' q2 hq1)
   simp only at h1 h2;subst h1 h2;refine zx ?_;show zt (opt (uO (y1.2.1,port,x,())) _) _;rw[iB (by have:=hB.la;omega) hz,zq];grind[zt,opt,yY,wrF,zq,wP,zL,za]
 obtain⟨hfg,hex⟩:=hg (by omega);obtain⟨i,a,hi,ha⟩:=hex hv;have hzi:z=(i:Int):=iA hz (.inr ⟨i,hi,rfl⟩);have hll:=hs.2.2.1;have hla:=hB.la;have hil:i < s.2.2.1.length:=by grind
 have ho:s.2.2.1[i]?=some s.2.2.1[i]:=FL hil;generalize s.2.2.1[i]=o at ho;obtain⟨a',ha',hao⟩:=hs.2.2.2.2.1 i o ho;rw[ha]at ha';cases ha';obtain⟨d,hd1,hd2,hd3⟩:=zlo (s:=s) hfg hx (by omega) htP (i:=i) (a:=a) (o:=o) (by rw[g1];exact hi) (by rw[g1];exact ha) ho hao (by omega);refine⟨(onV s g i o x t).1,(onV s g i o x t).2,0,qH (hprog2 _ ?_),refe _ _ ?_,.inl ⟨rfl,hs,(zbd W g1 g2 g3 g4).2⟩⟩
 ·grind[zq,za]
 ·rw[WE];unfold Yt;refine qH (zk hdl ?_);rintro⟨c,⟨y1,y2,y3,y4,⟨⟩⟩,⟨⟩⟩ (⟨h1,h2,_⟩ | ⟨h1,i',k',e',r',⟨⟨q2,hq1,hq2⟩,_⟩,_⟩);rotate_left
  ·exact absurd hq2 (hn i' q2 hq1)
  simp only at h1 h2;subst h1 h2;refine zx ?_;show zt (opt (uO (y1.2.1,port,x,())) _) _;rw[iB (by have:=hB.la;omega) hz,zq];show zt (opt (yY (y1.2.1,port,x,wrF .i64 (t+y1.1),())) _) _;rw[hwt,hP2,zq];refine zi (by grind[wP]) (zi (zD hc) (zb (Ko hzi ho ?_)));unfold onV;show zt (bif zj x.2.2.1 7 then _ else _) _;cases h7:zj x.2.2.1 7 with
  |true=>exact za rfl
  |false=>
   obtain⟨⟨a',ha',hm⟩,_⟩:=hi;rw[ha]at ha';cases ha';obtain⟨c0,c1⟩:=hx.2.2.1;have h6:a.2.2.1=6:=by have:=qt h7;have:=hm.2.2;omega
   obtain⟨_,ho2⟩:=hao;rcases ho2 with ho2 | ⟨_,hb,_,⟨o0,o1⟩,hsh⟩
   ·exact absurd h6 ho2.1
   have hbd:=zhF (t:=t) (size:=x.2.2.2.1) hb hsh ⟨t0,by omega⟩ hx.2.2.2.1;refine zi rfl ?_;show zt (opt (gX (o.2.1,o.2.2.2,t,x.2.2.2.1,())) _) _;rw[znc hb hsh ⟨t0,by omega⟩ hx.2.2.2.1,zq];generalize gk o.2.1 o.2.2.2 t x.2.2.2.1=w at hbd;refine zb ?_;show zt (bif !zj w.2.2 0 then _ else bif zg o.2.2.1 (wrF .i64 (w.1 - t))then _ else _) _;rw[zT (z:=w.1 - t) (by omega) (by omega)];cases h1:(!zj w.2.2 0)with
   |true=>exact zf rfl (za (zu (za rfl)))
   |false=>
    cases h2:zg o.2.2.1 (w.1 - t)with
    |true=>exact zi rfl (zf rfl (za (zu (za rfl))))
    |false=>
     refine zi rfl (zi rfl (za (zx (zf (qO (by grind) (by grind)) (zb (Ko hzi ho (zb ?_)))))));rw[hzi];show zt (gl y1.2.2.1 (Int.toNat (i:Int))) _;rw[zqO];exact jL hil fun _ _=>za rfl
theorem kP(a:Int):zj a a=true:=wP rfl
structure zgk(s:zK):Prop where
 a1:s.2.1.1.length<=1000000000000000000
 a2:s.2.1.2.1.length<=1000000000000000000
 a3:s.2.1.2.2.2.1.length<=1000000000000000000
 a4:s.2.1.2.2.2.2.length<=1000000000000000000
 a5:s.2.2.1.length<=1000000000000000000
 a6:s.2.2.2.1.length<=1000000000000000000
 a7:s.2.2.2.2.length<=1000000000000000000
theorem znp{f:zH}(b1:f.1.length<=1000000000000000000)(b2:f.2.1.length<=1000000000000000000)(b3:f.2.2.2.1.length<=1000000000000000000)(b4:f.2.2.2.2.length<=1000000000000000000):UD (f,f,())=some (true,()):=by
 rw[Tj];unfold FJ;refine qH (zb (zi (by rw[kP];rfl) (zi (by rw[kP];rfl) (zi (by rw[kP];rfl) (zi (by rw[kP];rfl) (zi (by rw[kP];rfl) (za ?_)))))));refine zx (zk (jS false f.1.length (fun _=>True) b1 ?_ ?_) ?_)
 ·intro i hi;have hx:f.1[i]?=some f.1[i]:=FL hi;grind[zL,zb,zm,kP,za,zQ]
 ·grind[zD,za]
 rintro⟨c,⟨y1,y2,⟨⟩⟩,⟨⟩⟩ (⟨rfl,rfl,_⟩ | ⟨rfl,rfl,hA⟩);rotate_left
 ·grind
 refine zx (zk (jS false f.2.2.2.1.length (fun _=>True) b3 ?_ ?_) ?_)
 ·intro i hi;have hx:f.2.2.2.1[i]?=some f.2.2.2.1[i]:=FL hi;grind[zL,zb,zm,kP,za,zQ]
 ·grind[zD,za]
 rintro⟨c,⟨y1,y2,⟨⟩⟩,⟨⟩⟩ (⟨rfl,rfl,_⟩ | ⟨rfl,rfl,hA⟩);rotate_left
 ·grind
 refine zx (zk (jS false f.2.1.length (fun _=>True) b2 ?_ ?_) ?_)
 ·intro i hi;have hx:f.2.1[i]?=some f.2.1[i]:=FL hi;grind[zL,zb,zm,kP,za,zQ]
 ·grind[zD,za]
 rintro⟨c,⟨y1,y2,⟨⟩⟩,⟨⟩⟩ (⟨rfl,rfl,_⟩ | ⟨rfl,rfl,hA⟩);rotate_left
 ·grind
 refine zx (zk (jS false f.2.2.2.2.length (fun _=>True) b4 ?_ ?_) ?_)
 ·intro i hi;have hx:f.2.2.2.2[i]?=some f.2.2.2.2[i]:=FL hi;grind[zL,zb,zm,kP,za,zQ]
 ·grind[zD,za]
 rintro⟨c,⟨y1,y2,⟨⟩⟩,⟨⟩⟩ (⟨rfl,rfl,_⟩ | ⟨rfl,rfl,hA⟩);rotate_left
 ·grind
 exact zx (za rfl)
theorem zpK{s:zK}(B:zgk s):xU (s,s,())=some (true,()):=by
 rw[Cm];unfold ig;rw[znp B.a1 B.a2 B.a3 B.a4,zq];refine qH (zb (zi (by rw[kP];rfl) (zi rfl (zi (by rw[kP];rfl) (zi (by rw[kP];rfl) (zi (by rw[kP];rfl) (za ?_)))))));refine zx (zk (jS false s.2.2.1.length (fun _=>True) B.a5 ?_ ?_) ?_)
 ·intro i hi;have hx:s.2.2.1[i]?=some s.2.2.1[i]:=FL hi;generalize s.2.2.1[i]=o at hx;refine zf (zL (show(i:Int) < (s.2.2.1.length:Int) by omega)) (zb (zm hx (zb (zm hx (zi (by simp[kP]) (za (.inl ⟨trivial,?_⟩)))))));rw[zQ (by have:=B.a5;omega)]
 ·grind[zD,za]
 rintro⟨c,⟨y1,y2,⟨⟩⟩,⟨⟩⟩ (⟨rfl,rfl,_⟩ | ⟨rfl,rfl,hA⟩);rotate_left
 ·grind
 refine zx (zk (jS false s.2.2.2.1.length (fun _=>True) B.a6 ?_ ?_) ?_)
 ·intro i hi;have hx:s.2.2.2.1[i]?=some s.2.2.2.1[i]:=FL hi;generalize s.2.2.2.1[i]=o at hx;refine zf (zL (show(i:Int) < (s.2.2.2.1.length:Int) by omega)) (zb (zm hx (zb (zm hx (zi (by simp[kP]) (za (.inl ⟨trivial,?_⟩)))))));rw[zQ (by have:=B.a6;omega)]
 ·grind[zD,za]
 rintro⟨c,⟨y1,y2,⟨⟩⟩,⟨⟩⟩ (⟨rfl,rfl,_⟩ | ⟨rfl,rfl,hA⟩);rotate_left
 ·grind
 refine zx (zk (jS false s.2.2.2.2.length (fun _=>True) B.a7 ?_ ?_) ?_)
 ·intro i hi;have hx:s.2.2.2.2[i]?=some s.2.2.2.2[i]:=FL hi;generalize s.2.2.2.2[i]=o at hx;refine zf (zL (show(i:Int) < (s.2.2.2.2.length:Int) by omega)) (zb (zm hx (zb (zm hx (zi (by simp[kP]) (za (.inl ⟨trivial,?_⟩)))))));rw[zQ (by have:=B.a7;omega)]
 ·grind[zD,za]
 rintro⟨c,⟨y1,y2,⟨⟩⟩,⟨⟩⟩ (⟨rfl,rfl,_⟩ | ⟨rfl,rfl,hA⟩);rotate_left
 ·grind
 exact zx (za rfl)
theorem zlq:zgk mI:=⟨by decide,by decide,by decide,by decide,by decide,by decide,by decide⟩
theorem zlr{s q:zK}(hs:du s)(W:Vr s)(h:Pg s q):zgk q:=by have B:=VV hs.2.1;have h1:=B.la;have h2:=B.lp;have h3:=B.ll;have h4:=B.lm;have k1:=h.acc;have k2:=h.pol;have k3:=h.ll;have k4:=h.lm;have k5:=h.lo;have k6:=h.le;have k7:=h.lr;have h5:=hs.2.2.1;have h6:=hs.2.2.2.1;have h7:=W.lr;exact⟨by rw[k1];omega,by rw[k2];omega,by omega,by omega,by omega,by rw[k6];omega,by omega⟩
end Go.Proofs.YtlfkgkedfciccaaGreat.nd
namespace Go.Proofs.YtlfkgkedfciccaaGreat.dd
open Go Go.Fz Go.Fz.Sy Go.Proofs.YtlfkgkedfciccaaGreat.nd Go.Proofs.YtlfkgkedfciccaaGreat.ad
theorem znq{c:Cfg}(hc:OW c){i:Nat}(hi:i < c.2.1.length):∃v,gy (c,(i:Int),())=some (v,()):=by
 have h6:=hc.n6;have hof:=hc.of;suffices key:zt (gy (c,(i:Int),())) fun _=>True by obtain⟨⟨v,⟨⟩⟩,e,_⟩:=key;exact⟨v,e⟩
 have hcl:∀k,wT (c.2.1.take k)<=c.2.1.length:=fun k=>by
  have h1:=za8 c.2.1 k;have h2:wT c.2.1<=c.2.1.length:=by unfold wT;exact zrf _ _
  omega
 rw[HU];unfold oA;refine zk (J:=fun x=>x.2.1.1=((wT (c.2.1.take i):Nat):Int)) (zZ i (fun k s=>s=((((wT (c.2.1.take k):Nat):Int),((k:Int),())),())) (by omega) rfl ?_ ?_) ?_
 ·rintro k _ hk rfl;have hx:c.2.1[k]?=some c.2.1[k]:=FL (by omega);generalize c.2.1[k]=x at hx;have hs:=mF hx;have hb:=hcl k;refine zf (zL (show(k:Int) < (i:Int) by omega)) (zk (J:=fun x=>x.2.1.1=((wT (c.2.1.take (k+1)):Nat):Int)) (zb (zm hx (zd (fun h=>za ?_) fun h=>za ?_))) ?_)
  ·show wrF .i64 (((wT (c.2.1.take k):Nat):Int)+1)=_;rw[zQ (by omega),hs,zqI (qi h)]
  ·show((wT (c.2.1.take k):Nat):Int)=_;rw[hs,zqu (qt h)];rfl
  ·rintro⟨j,⟨v,⟨⟩⟩,⟨⟩⟩ hv;have hv:v=_:=hv;subst hv;exact za (ql (zqS (fun z=>((((wT (c.2.1.take (k+1)):Nat):Int),(z,())),())) (zQ (by omega))))
 ·rintro _ rfl;exact zi (zD (show ¬(i:Int) < (i:Int) by omega)) (za (zw rfl))
 rintro⟨j,⟨v,z,⟨⟩⟩,⟨⟩⟩ hv;have hv:v=_:=hv;subst hv;have hx:c.2.1[i]?=some c.2.1[i]:=FL hi;generalize c.2.1[i]=x at hx;have hs:=mF hx;grind[za8,zb,zm,za,qi,qE,wq,wT]
theorem zjs{l:List wJ}(hl:l.length<=1000):∃r,um (l,())=some (r,()):=by
 suffices key:zt (um (l,())) fun _=>True by obtain⟨⟨v,⟨⟩⟩,e,_⟩:=key;exact⟨v,e⟩
 rw[BN];unfold fh;refine zk (J:=fun _=>True) (zZ l.length (fun i s=>∃L:List wJ,s=(((i:Int),()),(L,()))∧L.length<=i) (by omega) ⟨[],rfl,by simp⟩ ?_ ?_) fun _ _=>za trivial
 ·rintro i _ hi ⟨L,rfl,hL⟩;have hx:l[i]?=some l[i]:=FL hi;generalize l[i]=x at hx;refine zf (zL (show(i:Int) < (l.length:Int) by omega)) (zk (J:=fun z=>z.2.2.1.length<=i+1) (zb (zm hx (zd (fun _=>zb (zm hx (zf (qO (by show(L.length+1)*96<=_;omega) (by show L.length+1<=_;omega)) (za (by show(L++[x]).length<=_;simp;omega))))) fun _=>za (by show L.length<=_;omega)))) ?_);rintro⟨k,⟨⟩,L2,⟨⟩⟩ h1;exact za (ql ⟨L2,zqS (fun z=>((z,()),(L2,()))) (zQ (by omega)),h1⟩)
 grind[zD,za,zw]
theorem zqb(a b:Int):∃r,XH (a,b,())=some (r,())∧Vq r:=by
 have e:kB ((a,b,true,0,0,0),())=some (tv (GY a b true 0 0 0),()):=zce a b true 0 0 (s:=0) (by decide);rw[zaJ];unfold Mb;rw[e,zq];cases tv (GY a b true 0 0 0)with
 |true=>exact⟨_,rfl,by grind,by grind⟩
 |false=>exact⟨_,rfl,by decide,by decide⟩
abbrev Wl:zH:=([],([],(0,([],[]))))
theorem zoU{A:List qu}{M:List jO}(hA:A.length<=1000000)(hM:M.length<=1000000):∃f b,Wd (A,M,())=some (f,b,())∧(f=Wl∨Za f):=by
 suffices key:zt (Wd (A,M,())) fun r=>r.1=Wl∨Za r.1 by obtain⟨⟨f,b,⟨⟩⟩,e,h⟩:=key;grind
 rw[zaN];unfold Mi;refine zk (J:=fun x=>∃L:List Int,x.2.2.1=(A,(M,(-1000,(L,([],())))))) (zZ A.length (fun i s=>∃L:List Int,L.length=i∧s=(((),((i:Int),())),((A,(M,(-1000,(L,([],()))))),()))) (by omega) ⟨[],rfl,rfl⟩ ?_ ?_) ?_
 ·grind[zL,qO,za,ql,zQ]
 ·grind[zD,za,zw]
 rintro⟨k,st,F,⟨⟩⟩ ⟨L,hF⟩;have hF:F=_:=hF;subst hF;refine zk (J:=fun x=>x.1=0∨(x.1=1∧x.2.1.1=Wl)) (zZ M.length (fun i s=>∃T:List (Int×Int×Int),T.length=i∧s=((Wl,((),(false,((i:Int),())))),((A,(M,(-1000,(L,(T,()))))),()))) (by omega) ⟨[],rfl,rfl⟩ ?_ ?_) ?_
 ·rintro i _ hi ⟨T,hT,rfl⟩;have hx:M[i]?=some M[i]:=FL hi;generalize M[i]=x at hx;refine zf (zL (show(i:Int) < (M.length:Int) by omega)) (zb (zm hx (zb (zm hx ?_))));grind[zt,opt,Wc,zhA,zq,za,zw,qO,ql,Yv,zQ]
 ·grind[zD,za,zw]
 rintro⟨k,st,F,⟨⟩⟩ (h | ⟨h,h2⟩)
 ·have h:k=0:=h;subst h;refine zx ?_;grind[zcd,zq,za,wF]
 ·have h:k=1:=h;subst h;exact zu (za (.inl h2))
structure Tr(s:zK):Prop where
 w:Vr s
 b:zgk s
 f:s.2.1=Wl∨Za s.2.1
 o:s.2.2.1.length<=100
 e:s.2.2.2.1.length<=100
 r:s.2.2.2.2.length<=100
abbrev Xe:=Int×zH×List jP×List xQ×List qn×Unit
theorem zpL{c:Cfg}(hc:OW c){node:Int}(hn:jX c.1.1 node):∃s,uM (c,node,())=some (s,())∧Tr s:=by
 suffices key:zt (uM (c,node,())) fun r=>Tr r.1 by obtain⟨⟨s,⟨⟩⟩,e,h⟩:=key;exact⟨s,e,h⟩
 have ht:=hc.t;have hll:=ht.ll;have h6:=hc.n6;have hg:=hc.g;have hn0:=hn.1;have hn1:=hn.2;have hsh:=hc.sh;rw[SF];unfold EM;refine zb (wq hn0 (by omega) fun shift _=>?_);refine zk (J:=fun x=>x.2.1.1=c.1.1∧x.2.1.2.2.1=c∧∃(O:List jP) (E:List xQ) (R:List qn) (A:List qu),x.2.2.1=((shift,(Wl,(O,(E,(R,()))))):Xe)∧x.2.2.2.1=A∧O.length<=100∧E.length<=100∧R.length<=100∧A.length<=100∧∀(k:Nat) r,R[k]?=some r->Vq r)
  (zZ c.2.1.length (fun i s=>∃(O:List jP) (E:List xQ) (R:List qn) (A:List qu),s=((c.1.1,(c.1.2.1,(c,((),((i:Int),()))))),(((shift,(Wl,(O,(E,(R,()))))):Xe),(A,())))∧O.length<=16*i∧E.length<=2*i∧R.length<=i∧A.length<=16*i∧∀(k:Nat) r,R[k]?=some r->Vq r) (by omega) ⟨[],[],[],[],rfl,by simp,by simp,by simp,by simp,fun k r h=>by simp at h⟩ ?_ ?_) ?_
 ·rintro i _ hi ⟨O,E,R,A,rfl,hO,hE,hR,hA,hsw⟩;have hx:c.2.1[i]?=some c.2.1[i]:=FL hi;have hss:=hc.st _ (zqq hi);generalize c.2.1[i]=s at hx hss;obtain⟨off,eo⟩:=znq hc hi;have hrn:=hss.rn;refine zf (zL (show(i:Int) < (c.2.1.length:Int) by omega)) (zb (zm hx ?_));show zt (opt (gy (c,(i:Int),())) _) _;rw[eo,zq];refine zk (J:=fun x=>x.2.1.1=c.1.1∧x.2.1.2.1=c.1.2.1∧x.2.1.2.2.1=s∧x.2.1.2.2.2.1=c∧∃(O:List jP) (A:List qu),x.2.2.1=((shift,(Wl,(O,(E,(R,()))))):Xe)∧x.2.2.2.1=A∧O.length<=16*i+16∧A.length<=16*i+16)
   (zZ s.2.2.2.2.2.2.2.2.length (fun k st=>∃(O:List jP) (A:List qu),st=((c.1.1,(c.1.2.1,(s,(c,((),((k:Int),())))))),(((shift,(Wl,(O,(E,(R,()))))):Xe),(A,())))∧O.length<=16*i+8*k∧A.length<=16*i+8*k) (by omega) ⟨O,A,rfl,by omega,by omega⟩ ?_ ?_) ?_
  ·rintro k _ hk ⟨O,A,rfl,hO,hA⟩;have hy:s.2.2.2.2.2.2.2.2[k]?=some s.2.2.2.2.2.2.2.2[k]:=FL hk;have hr:=(hss.rt _ (zqq hk)).1;generalize s.2.2.2.2.2.2.2.2[k]=r at hy hr;obtain⟨hops,eh,hm⟩:=zdL ht hc.u hss.sz hr;have hlen:hops.length=r.length:=by rw[<-hm,zsn]
   have hr8:=hr.n1;have hr1:=hr.n0;refine zf (zL (show(k:Int) < (s.2.2.2.2.2.2.2.2.length:Int) by omega)) (zb (zm hy ?_));refine zk (J:=fun x=>x.2.1.1=c.1.1∧x.2.1.2.1=c.1.2.1∧x.2.1.2.2.1=s∧x.2.1.2.2.2.1=c∧∃(O:List jP) (A:List qu),x.2.2.1=((shift,(Wl,(O,(E,(R,()))))):Xe)∧x.2.2.2.1=A∧O.length<=16*i+8*(k+1)∧A.length<=16*i+8*(k+1))
    (zZ (r.length - 1) (fun h st=>∃(O:List jP) (A:List qu),st=((c.1.1,(c.1.2.1,(s,(c,((),(((1+h:Nat):Int),())))))),(((shift,(Wl,(O,(E,(R,()))))):Xe),(A,())))∧O.length<=16*i+8*k+h∧A.length<=16*i+8*k+h) (by omega) ⟨O,A,rfl,by omega,by omega⟩ ?_ ?_) ?_
   ·rintro h _ hh ⟨O,A,rfl,hO,hA⟩;have hz:r[1+h]?=some r[1+h]:=FL (by omega);have hpp:yv c.1.1 r[1+h]:=hr.pt _ (zqq _);generalize r[1+h]=p at hz hpp;have hz0:r[h]?=some r[h]:=FL (by omega);generalize r[h]=p0 at hz0;have e1:wrF .i64 (((1+h:Nat):Int) - 1)=(h:Int):=by rw[zT (by omega) (by omega)];omega
    have e2:wrF .i64 (((1+h:Nat):Int)+1)=((1+(h+1):Nat):Int):=by rw[zT (by omega) (by omega)];omega
    refine zf (zL (show((1+h:Nat):Int) < (r.length:Int) by omega)) (zb (zm hz ?_));show zt (opt (yd (c.1.1,p,())) _) _;rw[uv hll hpp,zq];refine zd (fun _=>za (ql ⟨O,A,zqS (fun z=>((c.1.1,(c.1.2.1,(s,(c,((),(z,())))))),(((shift,(Wl,(O,(E,(R,()))))):Xe),(A,())))) e2,by omega,by omega⟩)) fun _=>?_;show zt (opt (atI r (wrF .i64 (((1+h:Nat):Int) - 1))) _) _;rw[e1];refine zb (zm hz0 (zb (zm hz ?_)));refine zk (J:=fun x=>x.2.1.1=c.1.1∧x.2.1.2.1=c.1.2.1∧x.2.1.2.2.1=s∧x.2.1.2.2.2.2.1=c) (zd (fun _=>?_) fun _=>?_) ?_
    ·show zt (opt (xI (c.1.1,c.1.2.1,s,r,())) _) _;rw[eh,zq];exact zb (wq (by show 0<=((1+h:Nat):Int);omega) (by show((1+h:Nat):Int) < (hops.length:Int);omega) fun _ _=>za ⟨rfl,rfl,rfl,rfl⟩)
    ·obtain⟨rs,er⟩:=zjs (l:=c.2.1) (by omega);show zt (opt (um (c.2.1,())) _) _;rw[er,zq];refine zb (zm hz0 ?_);obtain⟨yh,zh,eyh⟩:=zpW (n:=c.1) (by omega) rs p0;show zt (opt (Wb (c.1,rs,p0,())) _) _;rw[eyh,zq];show zt (opt (XG (s.2.2.2.2.2.2.1,())) _) _;rw[zoK,zq];exact za ⟨rfl,rfl,rfl,rfl⟩
    rintro⟨j,⟨q1,q2,q3,q4,q5,q6,⟨⟩⟩,⟨⟩⟩ ⟨g1,g2,g3,g5⟩;dsimp only at g1 g2 g3 g5;subst g1 g2 g3 g5;refine zf (qO (by show(A.length+1)*56<=_;omega) (by show A.length+1<=_;omega)) (zf (qO (by show(O.length+1)*48<=_;omega) (by show O.length+1<=_;omega)) (za (ql ⟨O++[_],A++[_],zqS (fun z=>((_,(_,(_,(_,((),(z,())))))),(((shift,(Wl,(O++[_],(E,(R,()))))):Xe),(A++[_],())))) e2,by simp;omega,by simp;omega⟩)))
   ·rintro _ ⟨O,A,rfl,hO,hA⟩;exact zi (zD (show ¬((1+(r.length - 1):Nat):Int) < (r.length:Int) by omega)) (za (zw ⟨rfl,rfl,rfl,rfl,O,A,rfl,rfl,by omega,by omega⟩))
   rintro⟨j,⟨q1,q2,q3,q4,⟨⟩,q6,⟨⟩⟩,F,A2,⟨⟩⟩ ⟨g1,g2,g3,g4,O2,A2',hF,hA2,hO3,hA3⟩;dsimp only at g1 g2 g3 g4 hF hA2;subst g1 g2 g3 g4 hF hA2;refine za (ql ⟨O2,A2,zqS (fun z=>((_,(_,(_,(_,((),(z,())))))),(((shift,(Wl,(O2,(E,(R,()))))):Xe),(A2,())))) (zQ (by omega)),hO3,hA3⟩)
  ·rintro _ ⟨O,A,rfl,hO,hA⟩;exact zi (zD (show ¬(s.2.2.2.2.2.2.2.2.length:Int) < (s.2.2.2.2.2.2.2.2.length:Int) by omega)) (za (zw ⟨rfl,rfl,rfl,rfl,O,A,rfl,rfl,by omega,by omega⟩))
  rintro⟨j,⟨q1,q2,q3,q4,⟨⟩,q6,⟨⟩⟩,F,A2,⟨⟩⟩ ⟨g1,g2,g3,g4,O2,A2',hF,hA2,hO3,hA3⟩;dsimp only at g1 g2 g3 g4 hF hA2;subst g1 g2 g3 g4 hF hA2;refine zk (J:=fun x=>∃(E2:List xQ) (R2:List qn),x.2.2.1=((shift,(Wl,(O2,(E2,(R2,()))))):Xe)∧E2.length<=2*(i+1)∧R2.length<=i+1∧∀(k:Nat) r,R2[k]?=some r->Vq r) (zd (fun _=>?_) fun _=>za ⟨E,R,rfl,by omega,by omega,hsw⟩) ?_
  ·refine zk (J:=fun x=>∃E2:List xQ,x.2.2.1=((shift,(Wl,(O2,(E2,(R,()))))):Xe)∧E2.length<=2*i+q3.2.2.2.2.2.2.2.2.length)
    (zZ q3.2.2.2.2.2.2.2.2.length (fun k st=>∃E2:List xQ,st=(((),((k:Int),())),(((shift,(Wl,(O2,(E2,(R,()))))):Xe),()))∧E2.length<=2*i+k) (by omega) ⟨E,rfl,by omega⟩ ?_ ?_) ?_
   ·rintro k _ hk ⟨E2,rfl,hE2⟩;have hy:q3.2.2.2.2.2.2.2.2[k]?=some q3.2.2.2.2.2.2.2.2[k]:=FL hk;have hr:=(hss.rt _ (zqq hk)).1;generalize q3.2.2.2.2.2.2.2.2[k]=r at hy hr;have hr8:=hr.n1;have hr1:=hr.n0;have e1:wrF .i64 ((r.length:Int) - 1)=(r.length:Int) - 1:=zT (by omega) (by omega);refine zf (zL (show(k:Int) < (q3.2.2.2.2.2.2.2.2.length:Int) by omega)) (zb (zm hy (zb (zm hy ?_))));show zt (opt (atI r (wrF .i64 ((r.length:Int) - 1))) _) _;rw[e1];refine zb (wq (by omega) (by omega) fun y _=>zf (qO (by show(E2.length+1)*32<=_;omega) (by show E2.length+1<=_;omega)) (za (ql ⟨E2++[_],zqS (fun z=>(((),(z,())),(((shift,(Wl,(O2,(E2++[_],(R,()))))):Xe),()))) (zQ (by omega)),by simp;omega⟩)))
   ·rintro _ ⟨E2,rfl,hE2⟩;exact zi (zD (show ¬(q3.2.2.2.2.2.2.2.2.length:Int) < (q3.2.2.2.2.2.2.2.2.length:Int) by omega)) (za (zw ⟨E2,rfl,hE2⟩))
   rintro⟨j2,st,F,⟨⟩⟩ ⟨E2,hF,hE2⟩;have hF:F=_:=hF;subst hF;obtain⟨rc,erc,hrc⟩:=zqb q4.2.2.2.2.2.1 q4.2.2.2.2.2.2;show zt (opt (XH (q4.2.2.2.2.2.1,q4.2.2.2.2.2.2,())) _) _;rw[erc,zq];refine zf (qO (by show(R.length+1)*48<=_;omega) (by show R.length+1<=_;omega)) (za ⟨E2,R++[rc],rfl,by omega,by simp;omega,fun k r hk=>?_⟩);rcases zqV.1 (zqy hk)with h | h
   ·obtain⟨k',_,hk'⟩:=kf h;exact hsw k' r hk'
   ·rw[zqW.1 h];exact hrc
  grind[za,ql,zQ]
 ·grind[zD,za,zw]
 rintro⟨j,⟨q1,q2,q3,⟨⟩,q6,⟨⟩⟩,F,A2,⟨⟩⟩ ⟨g1,g3,O,E,R,A,hF,hA2,hO,hE,hR,hA,hsw⟩;dsimp only at g1 g3 hF hA2;subst g1 g3 hF hA2;have hpo:q3.2.2.2.2.1.length<=1∧∀p∈q3.2.2.2.2.1,p.1=0:=by rcases hc.po with h | h<;>rw[h]<;>simp
 have hl1:=hc.l1;have hp0:yv q3.1.1 0:=⟨by omega,by omega⟩;refine zk (J:=fun x=>x.2.2.1.length<=1) (zZ q3.2.2.2.2.1.length (fun i s=>∃L:List Pol,s=(((i:Int),()),(L,()))∧L.length<=i) (by omega) ⟨[],rfl,by simp⟩ ?_ ?_) ?_
 ·rintro i _ hi ⟨L,rfl,hL⟩;have hx:q3.2.2.2.2.1[i]?=some q3.2.2.2.2.1[i]:=FL hi;have hx0:=hpo.2 _ (zqq hi);generalize q3.2.2.2.2.1[i]=x at hx hx0;refine zf (zL (show(i:Int) < (q3.2.2.2.2.1.length:Int) by omega)) (zk (J:=fun z=>z.2.2.1.length<=i+1) (zb (zm hx ?_)) ?_);all_goals grind[zt,opt,jQ,uP,zq,zb,zm,qO,za,ql,zQ]
 ·grind[zD,za,zw]
 rintro⟨k,st,M,⟨⟩⟩ hM;have hM:M.length<=1:=hM;obtain⟨f,b,ef,hf⟩:=zoU (A:=A2) (M:=M) (by omega) (by omega);show zt (opt (Wd (A2,M,())) _) _;rw[ef,zq];refine za ?_;show Tr (shift,f,O,E,R);have hfl:f.1.length<=64∧f.2.1.length<=64∧f.2.2.2.1.length<=64∧f.2.2.2.2.length<=64:=by
  rcases hf with rfl | hf
  ·decide
  ·have B:=VV hf;have h1:=B.la;have h2:=B.lp;have h3:=B.ll;have h4:=B.lm;omega
 obtain⟨f1,f2,f3,f4⟩:=hfl;exact⟨⟨by grind,by grind,by grind,hsw⟩,⟨by grind,by grind,by grind,by grind,by grind,by grind,by grind⟩,hf,hO,hE,hR⟩
end Go.Proofs.YtlfkgkedfciccaaGreat.dd
namespace Go.Proofs.YtlfkgkedfciccaaGreat.nd
open Go Go.Fz Go.Fz.Sy
def xt:FuncId->Nat:=fun f=>bif Nat.beq f 69 then 2 else 1
def zW:FuncId->List Nat:=fun f=>bif Nat.beq f 38 then[3]else[]
def m0:jH:=⟨208,[.agg #[.int .i64 3,.iface 1 (.tuple #[.bool true,.bool false,.bool true]),.iface 4 (.tuple #[.agg #[.int .i64 0,.int .i64 1,.int .i64 8,.int .i64 5],.agg #[.int .i64 1,.int .i64 2,.int .i64 8,.int .i64 5]])]],.int .i64 0⟩
theorem k0:m0.Ok Tryz.prog:=jr (cfg:=xt) (z:=zW) (n:=3000) qP jK (by kernel_rfl)
def m1:jH:=⟨199,[.agg #[.int .i64 100,.int .i64 2,.int .i64 10,.int .i64 8000]],.int .i64 0⟩
theorem k1:m1.Ok Tryz.prog:=jr (cfg:=xt) (z:=zW) (n:=3000) qP jK (by kernel_rfl)
def m2:jH:=⟨139,[.agg #[.int .i64 3,.iface 1 (.tuple #[.bool true,.bool false,.bool true]),.iface 4 (.tuple #[.agg #[.int .i64 0,.int .i64 1,.int .i64 8,.int .i64 5],.agg #[.int .i64 1,.int .i64 2,.int .i64 8,.int .i64 5]]),.int .i64 100,.int .i64 2,.int .i64 10,.int .i64 8000,.iface 2 (.tuple #[.agg #[.iface 2 (.tuple #[.agg #[.int .i64 127,.int .i64 1500],.agg #[.int .i64 128,.int .i64 800],.agg #[.int .i64 127,.int .i64 5700]]),.int .i64 8000],.agg #[.iface 2 (.tuple #[.agg #[.int .i64 127,.int .i64 8000]]),.int .i64 8000],.agg #[.iface 2 (.tuple #[.agg #[.int .i64 127,.int .i64 2400],.agg #[.int .i64 128,.int .i64 800],.agg #[.int .i64 127,.int .i64 4800]]),.int .i64 8000],.agg #[.iface 2 (.tuple #[.agg #[.int .i64 127,.int .i64 8000]]),.int .i64 8000]]),.int .i64 84]],.int .i64 0⟩
theorem k2:m2.Ok Tryz.prog:=jr (cfg:=xt) (z:=zW) (n:=3000) qP (qf k0 (qf k1 jK)) (by kernel_rfl)
def m3:jH:=⟨198,[.agg #[.int .i64 3,.iface 1 (.tuple #[.bool true,.bool false,.bool true]),.iface 4 (.tuple #[.agg #[.int .i64 0,.int .i64 1,.int .i64 8,.int .i64 5],.agg #[.int .i64 1,.int .i64 2,.int .i64 8,.int .i64 5]])],.slice none 0 0],.int .i64 0⟩
theorem k3:m3.Ok Tryz.prog:=jr (cfg:=xt) (z:=zW) (n:=3000) qP (qf k0 jK) (by kernel_rfl)
def m4:jH:=⟨235,[.agg #[.int .i64 3,.iface 1 (.tuple #[.bool true,.bool false,.bool true]),.iface 4 (.tuple #[.agg #[.int .i64 0,.int .i64 1,.int .i64 8,.int .i64 5],.agg #[.int .i64 1,.int .i64 2,.int .i64 8,.int .i64 5]])],.agg #[.int .i64 7,.int .i64 0,.int .i64 2,.int .i64 7,.int .i64 100,.int .i64 80,.int .i64 0,.int .i64 0,.int .i64 10000,.iface 1 (.tuple #[.iface 1 (.tuple #[.int .i64 0,.int .i64 2])])]],.bool true⟩
theorem k4:m4.Ok Tryz.prog:=jr (cfg:=xt) (z:=zW) (n:=3000) qP (qf k0 jK) (by kernel_rfl)
def m5:jH:=⟨221,[.agg #[.int .i64 3,.iface 1 (.tuple #[.bool true,.bool false,.bool true]),.iface 4 (.tuple #[.agg #[.int .i64 0,.int .i64 1,.int .i64 8,.int .i64 5],.agg #[.int .i64 1,.int .i64 2,.int .i64 8,.int .i64 5]])],.agg #[.int .i64 100,.int .i64 2,.int .i64 10,.int .i64 8000],.agg #[.int .i64 7,.int .i64 0,.int .i64 2,.int .i64 7,.int .i64 100,.int .i64 80,.int .i64 0,.int .i64 0,.int .i64 10000,.iface 1 (.tuple #[.iface 1 (.tuple #[.int .i64 0,.int .i64 2])])],.int .i64 0],.int .i64 0⟩
theorem k5:m5.Ok Tryz.prog:=jr (cfg:=xt) (z:=zW) (n:=3000) qP (qf k0 (qf k1 (qf k4 jK))) (by kernel_rfl)
def m6:jH:=⟨207,[.agg #[.int .i64 3,.iface 1 (.tuple #[.bool true,.bool false,.bool true]),.iface 4 (.tuple #[.agg #[.int .i64 0,.int .i64 1,.int .i64 8,.int .i64 5],.agg #[.int .i64 1,.int .i64 2,.int .i64 8,.int .i64 5]])],.agg #[.int .i64 100,.int .i64 2,.int .i64 10,.int .i64 8000],.agg #[.int .i64 7,.int .i64 0,.int .i64 2,.int .i64 7,.int .i64 100,.int .i64 80,.int .i64 0,.int .i64 0,.int .i64 10000,.iface 1 (.tuple #[.iface 1 (.tuple #[.int .i64 0,.int .i64 2])])],.int .i64 0],.tuple #[.iface 5 (.tuple #[.agg #[.int .i64 0,.int .i64 0,.int .i64 0,.int .i64 0,.int .i64 800],.agg #[.int .i64 2,.int .i64 811,.int .i64 819,.int .i64 900,.int .i64 800]]),.int .i64 0]⟩
theorem k6:m6.Ok Tryz.prog:=jr (cfg:=xt) (z:=zW) (n:=3000) qP (qf k5 jK) (by kernel_rfl)
def m7:jH:=⟨148,[.agg #[.int .i64 3,.iface 1 (.tuple #[.bool true,.bool false,.bool true]),.iface 4 (.tuple #[.agg #[.int .i64 0,.int .i64 1,.int .i64 8,.int .i64 5],.agg #[.int .i64 1,.int .i64 2,.int .i64 8,.int .i64 5]])],.agg #[.int .i64 100,.int .i64 2,.int .i64 10,.int .i64 8000],.agg #[.int .i64 7,.int .i64 0,.int .i64 2,.int .i64 7,.int .i64 100,.int .i64 80,.int .i64 0,.int .i64 0,.int .i64 10000,.iface 1 (.tuple #[.iface 1 (.tuple #[.int .i64 0,.int .i64 2])])],.int .i64 0],.tuple #[.int .i64 1715,.int .i64 0]⟩
theorem k7:m7.Ok Tryz.prog:=jr (cfg:=xt) (z:=zW) (n:=3000) qP (qf k5 jK) (by kernel_rfl)
def m8:jH:=⟨205,[.iface 1 (.tuple #[.int .i64 80])],.tuple #[.int .i64 80,.int .i64 0]⟩
theorem k8:m8.Ok Tryz.prog:=jr (cfg:=xt) (z:=zW) (n:=3000) qP jK (by kernel_rfl)
def m9:jH:=⟨133,[.agg #[.int .i64 3,.iface 1 (.tuple #[.bool true,.bool false,.bool true]),.iface 4 (.tuple #[.agg #[.int .i64 0,.int .i64 1,.int .i64 8,.int .i64 5],.agg #[.int .i64 1,.int .i64 2,.int .i64 8,.int .i64 5]])],.agg #[.int .i64 100,.int .i64 2,.int .i64 10,.int .i64 8000],.iface 10 (.tuple #[.agg #[.int .i64 7,.int .i64 0,.int .i64 2,.int .i64 7,.int .i64 100,.int .i64 80,.int .i64 0,.int .i64 0,.int .i64 10000,.iface 1 (.tuple #[.iface 1 (.tuple #[.int .i64 0,.int .i64 2])])]])],.tuple #[.agg #[.iface 1 (.tuple #[.int .i64 80]),.iface 4 (.tuple #[.agg #[.int .i64 0,.int .i64 0,.int .i64 0,.int .i64 8],.agg #[.int .i64 0,.int .i64 2,.int .i64 8,.int .i64 9]])],.int .i64 0]⟩
theorem k9:m9.Ok Tryz.prog:=jr (cfg:=xt) (z:=zW) (n:=3000) qP (qf k3 (qf k1 (qf k0 (qf k4 (qf k6 (qf k7 (qf k8 jK))))))) (by kernel_rfl)
def m10:jH:=⟨202,[.agg #[.iface 1 (.tuple #[.int .i64 80]),.iface 4 (.tuple #[.agg #[.int .i64 0,.int .i64 0,.int .i64 0,.int .i64 8],.agg #[.int .i64 0,.int .i64 2,.int .i64 8,.int .i64 9]])]],.int .i64 0⟩
theorem k10:m10.Ok Tryz.prog:=jr (cfg:=xt) (z:=zW) (n:=3000) qP (qf k8 jK) (by kernel_rfl)
def m11:jH:=⟨204,[.agg #[.iface 1 (.tuple #[.int .i64 80]),.iface 4 (.tuple #[.agg #[.int .i64 0,.int .i64 0,.int .i64 0,.int .i64 8],.agg #[.int .i64 0,.int .i64 2,.int .i64 8,.int .i64 9]])],.int .i64 0,.int .i64 15,.int .i64 0,.int .i64 15],.bool false⟩
theorem k11:m11.Ok Tryz.prog:=jr (cfg:=xt) (z:=zW) (n:=3000) qP jK (by kernel_rfl)
def m12:jH:=⟨134,[.agg #[.iface 1 (.tuple #[.int .i64 80]),.iface 4 (.tuple #[.agg #[.int .i64 0,.int .i64 0,.int .i64 0,.int .i64 8],.agg #[.int .i64 0,.int .i64 2,.int .i64 8,.int .i64 9]])],.iface 1 (.tuple #[.int .i64 15])],.tuple #[.bool true,.int .i64 0]⟩
theorem k12:m12.Ok Tryz.prog:=jr (cfg:=xt) (z:=zW) (n:=3000) qP (qf k10 (qf k11 jK)) (by kernel_rfl)
def m13:jH:=⟨135,[.agg #[.iface 1 (.tuple #[.int .i64 80]),.iface 4 (.tuple #[.agg #[.int .i64 0,.int .i64 0,.int .i64 0,.int .i64 8],.agg #[.int .i64 0,.int .i64 2,.int .i64 8,.int .i64 9]])]],.tuple #[.int .i64 80,.int .i64 0]⟩
theorem k13:m13.Ok Tryz.prog:=jr (cfg:=xt) (z:=zW) (n:=3000) qP (qf k10 (qf k8 jK)) (by kernel_rfl)
def m14:jH:=⟨211,[.agg #[.iface 2 (.tuple #[.agg #[.int .i64 127,.int .i64 8000]]),.int .i64 8000],.agg #[.iface 2 (.tuple #[.agg #[.int .i64 127,.int .i64 8000]]),.int .i64 8000]],.bool true⟩
theorem k14:m14.Ok Tryz.prog:=jr (cfg:=xt) (z:=zW) (n:=3000) qP jK (by kernel_rfl)
def m15:jH:=⟨140,[.iface 2 (.tuple #[.agg #[.iface 2 (.tuple #[.agg #[.int .i64 127,.int .i64 1500],.agg #[.int .i64 128,.int .i64 800],.agg #[.int .i64 127,.int .i64 5700]]),.int .i64 8000],.agg #[.iface 2 (.tuple #[.agg #[.int .i64 127,.int .i64 8000]]),.int .i64 8000],.agg #[.iface 2 (.tuple #[.agg #[.int .i64 127,.int .i64 2400],.agg #[.int .i64 128,.int .i64 800],.agg #[.int .i64 127,.int .i64 4800]]),.int .i64 8000],.agg #[.iface 2 (.tuple #[.agg #[.int .i64 127,.int .i64 8000]]),.int .i64 8000]]),.iface 2 (.tuple #[.agg #[.iface 2 (.tuple #[.agg #[.int .i64 127,.int .i64 1500],.agg #[.int .i64 128,.int .i64 800],.agg #[.int .i64 127,.int .i64 5700]]),.int .i64 8000],.agg #[.iface 2 (.tuple #[.agg #[.int .i64 127,.int .i64 8000]]),.int .i64 8000],.agg #[.iface 2 (.tuple #[.agg #[.int .i64 127,.int .i64 2400],.agg #[.int .i64 128,.int .i64 800],.agg #[.int .i64 127,.int .i64 4800]]),.int .i64 8000],.agg #[.iface 2 (.tuple #[.agg #[.int .i64 127,.int .i64 8000]]),.int .i64 8000]])],.bool true⟩
theorem k15:m15.Ok Tryz.prog:=jr (cfg:=xt) (z:=zW) (n:=3000) qP (qf k14 jK) (by kernel_rfl)
def m16:jH:=⟨141,[.agg #[.int .i64 3,.iface 1 (.tuple #[.bool true,.bool false,.bool true]),.iface 4 (.tuple #[.agg #[.int .i64 0,.int .i64 1,.int .i64 8,.int .i64 5],.agg #[.int .i64 1,.int .i64 2,.int .i64 8,.int .i64 5]]),.int .i64 100,.int .i64 2,.int .i64 10,.int .i64 8000,.iface 2 (.tuple #[.agg #[.iface 2 (.tuple #[.agg #[.int .i64 127,.int .i64 1500],.agg #[.int .i64 128,.int .i64 800],.agg #[.int .i64 127,.int .i64 5700]]),.int .i64 8000],.agg #[.iface 2 (.tuple #[.agg #[.int .i64 127,.int .i64 8000]]),.int .i64 8000],.agg #[.iface 2 (.tuple #[.agg #[.int .i64 127,.int .i64 2400],.agg #[.int .i64 128,.int .i64 800],.agg #[.int .i64 127,.int .i64 4800]]),.int .i64 8000],.agg #[.iface 2 (.tuple #[.agg #[.int .i64 127,.int .i64 8000]]),.int .i64 8000]]),.int .i64 84],.slice none 0 0],.int .i64 0⟩
theorem k16:m16.Ok Tryz.prog:=jr (cfg:=xt) (z:=zW) (n:=3000) qP (qf k2 (qf k3 jK)) (by kernel_rfl)
def m17:jH:=⟨145,[.slice none 0 0,.slice none 0 0],.tuple #[.agg #[.slice none 0 0,.slice none 0 0,.int .i64 (-1000),.iface 1 (.tuple #[]),.iface 1 (.tuple #[])],.int .i64 0]⟩
theorem k17:m17.Ok Tryz.prog:=jr (cfg:=xt) (z:=zW) (n:=3000) qP jK (by kernel_rfl)
def m18:jH:=⟨143,[.agg #[.int .i64 3,.iface 1 (.tuple #[.bool true,.bool false,.bool true]),.iface 4 (.tuple #[.agg #[.int .i64 0,.int .i64 1,.int .i64 8,.int .i64 5],.agg #[.int .i64 1,.int .i64 2,.int .i64 8,.int .i64 5]]),.int .i64 100,.int .i64 2,.int .i64 10,.int .i64 8000,.iface 2 (.tuple #[.agg #[.iface 2 (.tuple #[.agg #[.int .i64 127,.int .i64 1500],.agg #[.int .i64 128,.int .i64 800],.agg #[.int .i64 127,.int .i64 5700]]),.int .i64 8000],.agg #[.iface 2 (.tuple #[.agg #[.int .i64 127,.int .i64 8000]]),.int .i64 8000],.agg #[.iface 2 (.tuple #[.agg #[.int .i64 127,.int .i64 2400],.agg #[.int .i64 128,.int .i64 800],.agg #[.int .i64 127,.int .i64 4800]]),.int .i64 8000],.agg #[.iface 2 (.tuple #[.agg #[.int .i64 127,.int .i64 8000]]),.int .i64 8000]]),.int .i64 84,.iface 10 (.tuple #[.agg #[.int .i64 7,.int .i64 0,.int .i64 2,.int .i64 7,.int .i64 100,.int .i64 80,.int .i64 0,.int .i64 0,.int .i64 10000,.iface 1 (.tuple #[.iface 1 (.tuple #[.int .i64 0,.int .i64 2])])]]),.iface 1 (.tuple #[.int .i64 15]),.iface 1 (.tuple #[.int .i64 0,.int .i64 0,.int .i64 0]),.slice none 0 0,.int .i64 8,.int .i64 5000]],.bool true⟩
theorem k18:m18.Ok Tryz.prog:=jr (cfg:=xt) (z:=zW) (n:=3000) qP (qf k17 jK) (by kernel_rfl)
def m19:jH:=⟨82,[.agg #[.int .i64 3,.iface 1 (.tuple #[.bool true,.bool false,.bool true]),.iface 4 (.tuple #[.agg #[.int .i64 0,.int .i64 1,.int .i64 8,.int .i64 5],.agg #[.int .i64 1,.int .i64 2,.int .i64 8,.int .i64 5]]),.int .i64 100,.int .i64 2,.int .i64 10,.int .i64 8000,.iface 2 (.tuple #[.agg #[.iface 2 (.tuple #[.agg #[.int .i64 127,.int .i64 1500],.agg #[.int .i64 128,.int .i64 800],.agg #[.int .i64 127,.int .i64 5700]]),.int .i64 8000],.agg #[.iface 2 (.tuple #[.agg #[.int .i64 127,.int .i64 8000]]),.int .i64 8000],.agg #[.iface 2 (.tuple #[.agg #[.int .i64 127,.int .i64 2400],.agg #[.int .i64 128,.int .i64 800],.agg #[.int .i64 127,.int .i64 4800]]),.int .i64 8000],.agg #[.iface 2 (.tuple #[.agg #[.int .i64 127,.int .i64 8000]]),.int .i64 8000]]),.int .i64 84,.iface 10 (.tuple #[.agg #[.int .i64 7,.int .i64 0,.int .i64 2,.int .i64 7,.int .i64 100,.int .i64 80,.int .i64 0,.int .i64 0,.int .i64 10000,.iface 1 (.tuple #[.iface 1 (.tuple #[.int .i64 0,.int .i64 2])])]]),.iface 1 (.tuple #[.int .i64 15]),.iface 1 (.tuple #[.int .i64 0,.int .i64 0,.int .i64 0]),.slice none 0 0,.int .i64 8,.int .i64 5000]],.int .i64 0⟩
theorem k19:m19.Ok Tryz.prog:=jr (cfg:=xt) (z:=zW) (n:=3000) qP (qf k2 (qf k9 (qf k12 (qf k13 (qf k6 (qf k15 (qf k16 (qf k18 jK)))))))) (by kernel_rfl)
def m20:jH:=⟨218,[.agg #[.int .i64 3,.iface 1 (.tuple #[.bool true,.bool false,.bool true]),.iface 4 (.tuple #[.agg #[.int .i64 0,.int .i64 1,.int .i64 8,.int .i64 5],.agg #[.int .i64 1,.int .i64 2,.int .i64 8,.int .i64 5]])],.int .i64 2],.tuple #[.int .i64 1,.int .i64 0]⟩
theorem k20:m20.Ok Tryz.prog:=jr (cfg:=xt) (z:=zW) (n:=3000) qP (qf k0 jK) (by kernel_rfl)
def m21:jH:=⟨87,[.iface 7 (.tuple #[.agg #[.int .i64 0,.int .i64 7,.int .i64 7,.int .i64 100,.int .i64 8000,.int .i64 2311,.int .i64 2319]]),.slice none 0 0],.bool true⟩
theorem k21:m21.Ok Tryz.prog:=jr (cfg:=xt) (z:=zW) (n:=3000) qP jK (by kernel_rfl)
def m22:jH:=⟨39,[.agg #[.int .i64 3,.iface 1 (.tuple #[.bool true,.bool false,.bool true]),.iface 4 (.tuple #[.agg #[.int .i64 0,.int .i64 1,.int .i64 8,.int .i64 5],.agg #[.int .i64 1,.int .i64 2,.int .i64 8,.int .i64 5]]),.int .i64 100,.int .i64 2,.int .i64 10,.int .i64 8000,.iface 2 (.tuple #[.agg #[.iface 2 (.tuple #[.agg #[.int .i64 127,.int .i64 1500],.agg #[.int .i64 128,.int .i64 800],.agg #[.int .i64 127,.int .i64 5700]]),.int .i64 8000],.agg #[.iface 2 (.tuple #[.agg #[.int .i64 127,.int .i64 8000]]),.int .i64 8000],.agg #[.iface 2 (.tuple #[.agg #[.int .i64 127,.int .i64 2400],.agg #[.int .i64 128,.int .i64 800],.agg #[.int .i64 127,.int .i64 4800]]),.int .i64 8000],.agg #[.iface 2 (.tuple #[.agg #[.int .i64 127,.int .i64 8000]]),.int .i64 8000]]),.int .i64 84,.iface 10 (.tuple #[.agg #[.int .i64 7,.int .i64 0,.int .i64 2,.int .i64 7,.int .i64 100,.int .i64 80,.int .i64 0,.int .i64 0,.int .i64 10000,.iface 1 (.tuple #[.iface 1 (.tuple #[.int .i64 0,.int .i64 2])])]]),.iface 1 (.tuple #[.int .i64 15]),.iface 1 (.tuple #[.int .i64 0,.int .i64 0,.int .i64 0]),.slice none 0 0,.int .i64 8,.int .i64 5000]],.tuple #[.iface 9 (.tuple #[.agg #[.int .i64 0,.slice none 0 0,.slice none 0 0,.int .i64 (-1000),.iface 1 (.tuple #[]),.iface 1 (.tuple #[]),.slice none 0 0,.slice none 0 0,.slice none 0 0],.agg #[.int .i64 0,.iface 7 (.tuple #[.agg #[.int .i64 0,.int .i64 7,.int .i64 7,.int .i64 100,.int .i64 8000,.int .i64 2311,.int .i64 2319]]),.slice none 0 0,.int .i64 (-1000),.iface 1 (.tuple #[.int .i64 (-1)]),.iface 1 (.tuple #[]),.iface 6 (.tuple #[.agg #[.int .i64 2,.int .i64 0,.int .i64 0,.int .i64 0,.int .i64 0,.int .i64 0]]),.slice none 0 0,.slice none 0 0],.agg #[.int .i64 0,.slice none 0 0,.slice none 0 0,.int .i64 (-1000),.iface 1 (.tuple #[]),.iface 1 (.tuple #[]),.slice none 0 0,.iface 4 (.tuple #[.agg #[.int .i64 2,.int .i64 7,.int .i64 7,.int .i64 0]]),.iface 6 (.tuple #[.agg #[.int .i64 8,.int .i64 5000,.bool true,.int .i64 0,.int .i64 0,.int .u64 0]])]]),.int .i64 0]⟩
theorem k22:m22.Ok Tryz.prog:=jr (cfg:=xt) (z:=zW) (n:=3000) qP (qf k19 (qf k20 (qf k17 (qf k6 (qf k21 jK))))) (by kernel_rfl)
def m23:jH:=⟨43,[.agg #[.iface 7 (.tuple #[.agg #[.int .i64 0,.int .i64 7,.int .i64 7,.int .i64 100,.int .i64 8000,.int .i64 2311,.int .i64 2319]]),.slice none 0 0,.int .i64 (-1000),.iface 1 (.tuple #[.int .i64 (-1)]),.iface 1 (.tuple #[])]],.int .i64 0⟩
theorem k23:m23.Ok Tryz.prog:=jr (cfg:=xt) (z:=zW) (n:=3000) qP (qf k21 jK) (by kernel_rfl)
def m24:jH:=⟨12,[.agg #[.int .i64 0,.iface 7 (.tuple #[.agg #[.int .i64 0,.int .i64 7,.int .i64 7,.int .i64 100,.int .i64 8000,.int .i64 2311,.int .i64 2319]]),.slice none 0 0,.int .i64 (-1000),.iface 1 (.tuple #[.int .i64 (-1)]),.iface 1 (.tuple #[]),.iface 6 (.tuple #[.agg #[.int .i64 2,.int .i64 0,.int .i64 0,.int .i64 0,.int .i64 0,.int .i64 0]]),.slice none 0 0,.slice none 0 0]],.int .i64 0⟩
theorem k24:m24.Ok Tryz.prog:=jr (cfg:=xt) (z:=zW) (n:=3000) qP (qf k23 jK) (by kernel_rfl)
def m25:jH:=⟨26,[.agg #[.int .i64 7,.int .i64 5,.int .i64 7,.int .i64 100,.int .i64 0]],.int .i64 0⟩
theorem k25:m25.Ok Tryz.prog:=jr (cfg:=xt) (z:=zW) (n:=3000) qP jK (by kernel_rfl)
def m26:jH:=⟨121,[.agg #[.int .i64 7,.int .i64 5,.int .i64 7,.int .i64 100,.int .i64 0]],.bool true⟩
theorem k26:m26.Ok Tryz.prog:=jr (cfg:=xt) (z:=zW) (n:=3000) qP jK (by kernel_rfl)
def m27:jH:=⟨43,[.agg #[.iface 7 (.tuple #[.agg #[.int .i64 0,.int .i64 7,.int .i64 7,.int .i64 100,.int .i64 8000,.int .i64 2311,.int .i64 2319]]),.slice none 0 0,.int .i64 2315,.iface 1 (.tuple #[.int .i64 0]),.iface 1 (.tuple #[])]],.int .i64 0⟩
theorem k27:m27.Ok Tryz.prog:=jr (cfg:=xt) (z:=zW) (n:=3000) qP (qf k21 jK) (by kernel_rfl)
def m28:jH:=⟨40,[.agg #[.int .i64 0,.iface 7 (.tuple #[.agg #[.int .i64 0,.int .i64 7,.int .i64 7,.int .i64 100,.int .i64 8000,.int .i64 2311,.int .i64 2319]]),.slice none 0 0,.int .i64 (-1000),.iface 1 (.tuple #[.int .i64 (-1)]),.iface 1 (.tuple #[]),.iface 6 (.tuple #[.agg #[.int .i64 2,.int .i64 0,.int .i64 0,.int .i64 0,.int .i64 0,.int .i64 0]]),.slice none 0 0,.slice none 0 0],.int .i64 0,.agg #[.int .i64 7,.int .i64 5,.int .i64 7,.int .i64 100,.int .i64 0],.int .i64 2315,.agg #[.int .i64 2,.int .i64 2,.int .i64 2315,.int .i64 0]],.tuple #[.agg #[.int .i64 0,.iface 7 (.tuple #[.agg #[.int .i64 0,.int .i64 7,.int .i64 7,.int .i64 100,.int .i64 8000,.int .i64 2311,.int .i64 2319]]),.slice none 0 0,.int .i64 2315,.iface 1 (.tuple #[.int .i64 0]),.iface 1 (.tuple #[]),.iface 6 (.tuple #[.agg #[.int .i64 2,.int .i64 0,.int .i64 0,.int .i64 0,.int .i64 0,.int .i64 0]]),.slice none 0 0,.slice none 0 0],.bool true]⟩
theorem k28:m28.Ok Tryz.prog:=jr (cfg:=xt) (z:=zW) (n:=3000) qP (qf k24 (qf k25 (qf k23 (qf k26 (qf k27 jK))))) (by kernel_rfl)
def m29:jH:=⟨43,[.agg #[.slice none 0 0,.slice none 0 0,.int .i64 (-1000),.iface 1 (.tuple #[]),.iface 1 (.tuple #[])]],.int .i64 0⟩
theorem k29:m29.Ok Tryz.prog:=jr (cfg:=xt) (z:=zW) (n:=3000) qP jK (by kernel_rfl)
def m30:jH:=⟨46,[.agg #[.int .i64 8,.int .i64 5000,.bool false,.int .i64 5,.int .i64 3215,.int .u64 1]],.int .i64 0⟩
theorem k30:m30.Ok Tryz.prog:=jr (cfg:=xt) (z:=zW) (n:=3000) qP jK (by kernel_rfl)
def m31:jH:=⟨38,[],.tuple #[.agg #[.int .i64 3,.iface 1 (.tuple #[.bool true,.bool false,.bool true]),.iface 4 (.tuple #[.agg #[.int .i64 0,.int .i64 1,.int .i64 8,.int .i64 5],.agg #[.int .i64 1,.int .i64 2,.int .i64 8,.int .i64 5]]),.int .i64 100,.int .i64 2,.int .i64 10,.int .i64 8000,.iface 2 (.tuple #[.agg #[.iface 2 (.tuple #[.agg #[.int .i64 127,.int .i64 1500],.agg #[.int .i64 128,.int .i64 800],.agg #[.int .i64 127,.int .i64 5700]]),.int .i64 8000],.agg #[.iface 2 (.tuple #[.agg #[.int .i64 127,.int .i64 8000]]),.int .i64 8000],.agg #[.iface 2 (.tuple #[.agg #[.int .i64 127,.int .i64 2400],.agg #[.int .i64 128,.int .i64 800],.agg #[.int .i64 127,.int .i64 4800]]),.int .i64 8000],.agg #[.iface 2 (.tuple #[.agg #[.int .i64 127,.int .i64 8000]]),.int .i64 8000]]),.int .i64 84,.iface 10 (.tuple #[.agg #[.int .i64 7,.int .i64 0,.int .i64 2,.int .i64 7,.int .i64 100,.int .i64 80,.int .i64 0,.int .i64 0,.int .i64 10000,.iface 1 (.tuple #[.iface 1 (.tuple #[.int .i64 0,.int .i64 2])])]]),.iface 1 (.tuple #[.int .i64 15]),.iface 1 (.tuple #[.int .i64 0,.int .i64 0,.int .i64 0]),.slice none 0 0,.int .i64 8,.int .i64 5000],.bool true]⟩
theorem k31:m31.Ok Tryz.prog:=jr (cfg:=xt) (z:=zW) (n:=3000) qP (qf k0 (qf k1 (qf k3 (qf k4 (qf k5 (qf k6 (qf k7 (qf k8 (qf k9 (qf k10 (qf k11 (qf k12 (qf k13 jK))))))))))))) (by kernel_rfl)
def mT:jH:=⟨11,[],.bool true⟩
theorem kT:mT.Ok Tryz.prog:=jr (cfg:=xt) (z:=zW) (n:=3000) qP (qf k31 (qf k22 (qf k28 (qf k27 (qf k25 (qf k26 (qf k24 (qf k23 (qf k29 (qf k30 (qf k19 (qf k7 jK)))))))))))) (by kernel_rfl)
abbrev bT:List VT:=[]
abbrev bU:List VT:=[⟨false,.bool⟩]
def JU:Unit->Option (Bool×Unit):=fun _=>some (true,())
theorem Ph:Con.Ok Tryz.prog 11 ⟨bT,bU,JU⟩:=zkH kT
abbrev Zg:List VT:=[⟨true,yM⟩,⟨false,(.int .u8)⟩,⟨false,(.list vz)⟩,⟨false,I⟩]
abbrev Wm:List VT:=[⟨false,.bool⟩]
def UO:ym:=zG [⟨qR,wk qR,[]⟩,⟨vy,wk vy,[]⟩,⟨yM,wk yM,[]⟩,⟨qv,wk qv,[]⟩,⟨jB,wk jB,[]⟩,⟨zN,wk zN,[]⟩,⟨vz,wk vz,[]⟩,⟨qy,wk qy,[]⟩,⟨zX,wk zX,[]⟩,⟨yK,wk yK,[]⟩,⟨zS,wk zS,[]⟩,⟨jg,wk jg,[]⟩,⟨qj,wk qj,[]⟩,⟨qg,wk qg,[]⟩,⟨qI,wk qI,[]⟩,⟨qA,wk qA,[]⟩,⟨(.pair (.int .u8) (.pair (.int .u8) (.int .u8))),wk (.pair (.int .u8) (.pair (.int .u8) (.int .u8))),[]⟩,⟨qF,wk qF,[]⟩,⟨zY,wk zY,[]⟩,⟨je,wk je,[]⟩] [] [] [] [7,10,11]
def Wn(gn:(we×Unit)->Option (vl×Unit))(US:(vl×Int×Unit)->Option (zK×Unit))(Qc:(wu×zK×Unit)->Option (Int×zM×Unit))(Vw:(zK×Int×zM×Int×Unit)->Option (zK×yT×Int×Unit))(Xg:(zK×Int×zM×Int×Unit)->Option (zK×yT×Int×Unit))(Jx:(zK×zK×Unit)->Option (Bool×Unit))(Vx:(Unit)->Option (Bool×Unit))(a0:we)(a1:Int)(a2:(List wu))(a3:Int):Option (Bool×Unit):=opt (gn ((a0,()))) fun x0=>bif(zj (x0.1.1.1.1) (0))then none else opt (US ((x0.1,((Int.tmod (wrF .i64 (a1)) x0.1.1.1.1),())))) fun x1=>opt (zI (fun s2:(((Int×(((List (Int×(Int×(Int×(Int×(Int×(Int×Int)))))))×((List (Int×((Int×Int)×(Int×Int))))×(Int×((List Int)×(List (Int×(Int×Int)))))))×((List (Int×((Int×Int)×(Int×(Int×Int)))))×((List (Int×(Int×(Int×Int))))×(List (Int×(Int×(Bool×(Int×(Int×Int))))))))))×(Int×(Bool×(Int×Unit))))×Unit)=>bif(zg (s2.1.2.2.2.1) ((((a2).length:Nat):Int)))then bif(zg (s2.1.2.2.2.1) (30))then opt (atI (a2) (s2.1.2.2.2.1)) fun x3=>opt (atI (a2) (s2.1.2.2.2.1)) fun x4=>opt (Qc ((x4,(s2.1.1,())))) fun x5=>opt (opt (atI (a2) (s2.1.2.2.2.1)) fun x6=>bif(zg (1) ((Int.tmod x6.2.2.1 4)))then bif(zg (0) ((((s2.1.1.2.1.1).length:Nat):Int)))then opt (atI (a2) (s2.1.2.2.2.1)) fun x7=>bif(zj ((((s2.1.1.2.1.1).length:Nat):Int)) (0))then none else opt (atI (s2.1.1.2.1.1) ((Int.tmod (wrF .i64 (x7.2.1)) (((s2.1.1.2.1.1).length:Nat):Int)))) fun x8=>opt (bif(zj (x8.2.2.1) (7))then opt (atI (a2) (s2.1.2.2.2.1)) fun x9=>bif(zj ((wrF .i64 (((wrF .i64 ((x8.2.2.2.2.2.2 - x8.2.2.2.2.2.1)))+2)))) (0))then none else some (0,(((jV ((wrF .i64 ((s2.1.2.1+(wrF .i64 (x3.1)))))) ((wrF .i64 (((wrF .i64 ((x8.2.2.2.2.2.1 - s2.1.1.1)))+(Int.tmod (wrF .i64 (x9.1)) (wrF .i64 (((wrF .i64 ((x8.2.2.2.2.2.2 - x8.2.2.2.2.2.1)))+2))))))))),()),()))else some (0,(((wrF .i64 ((s2.1.2.1+(wrF .i64 (x3.1))))),()),()))) fun x10=>some (0,((x10.2.1.1,()),()))else some (0,(((wrF .i64 ((s2.1.2.1+(wrF .i64 (x3.1))))),()),()))else some (0,(((wrF .i64 ((s2.1.2.1+(wrF .i64 (x3.1))))),()),()))) fun x11=>opt (Vw ((s2.1.1,(x5.1,(x5.2.1,(x11.2.1.1,())))))) fun x12=>opt (Xg ((s2.1.1,(x5.1,(x5.2.1,(x11.2.1.1,())))))) fun x13=>opt (bif(!((zj (x12.2.1.1) (x13.2.1.1))&&((zj (x12.2.1.2.1) (x13.2.1.2.1))&&((zj (x12.2.1.2.2.1) (x13.2.1.2.2.1))&&((zj (x12.2.1.2.2.2) (x13.2.1.2.2.2))&&true)))))then some (1,((false,()),()))else bif(!(zj (x12.2.2.1) (x13.2.2.1)))then some (1,((false,()),()))else opt (Jx ((x12.1,(x13.1,())))) fun x14=>bif(!x14.1)then some (1,((false,()),()))else some (0,((s2.1.2.2.1,()),()))) fun x15=>bif(Nat.beq x15.1 0)then opt (bif(zj (x13.2.2.1) (0))then some (0,((x13.1,()),()))else some (0,((s2.1.1,()),()))) fun x16=>some (.inr ((x16.2.1.1,(x11.2.1.1,(x15.2.1.1,((wrF .i64 ((s2.1.2.2.2.1+1))),())))),()))else some (.inl (1,((s2.1.1,(x11.2.1.1,(x15.2.1.1,(s2.1.2.2.2.1,())))),())))else some (.inl (0,((s2.1.1,(s2.1.2.1,(s2.1.2.2.1,(s2.1.2.2.2.1,())))),())))else some (.inl (0,((s2.1.1,(s2.1.2.1,(s2.1.2.2.1,(s2.1.2.2.2.1,())))),())))) zR ((x1.1,((Int.tmod a3 20000),(false,(0,())))),())) fun x17=>bif(Nat.beq x17.1 0)then opt (Vx (())) fun x18=>some (x18.1,())else some (x17.2.1.2.2.1,())
theorem Cp(gn:(we×Unit)->Option (vl×Unit))(US:(vl×Int×Unit)->Option (zK×Unit))(Qc:(wu×zK×Unit)->Option (Int×zM×Unit))(Vw:(zK×Int×zM×Int×Unit)->Option (zK×yT×Int×Unit))(Xg:(zK×Int×zM×Int×Unit)->Option (zK×yT×Int×Unit))(Jx:(zK×zK×Unit)->Option (Bool×Unit))(Vx:(Unit)->Option (Bool×Unit))(a0:we)(a1:Int)(a2:(List wu))(a3:Int):sF Tryz.prog [(5,⟨vC,vD,gn⟩),(6,⟨KW,KY,US⟩),(7,⟨ZO,ZP,Qc⟩),(8,⟨JR,JS,Vw⟩),(9,⟨YZ,Xa,Xg⟩),(10,⟨Jm,Jn,Jx⟩),(11,⟨bT,bU,Vx⟩)] UO (zy []) 30 3 Zg Wm (a0,a1,a2,a3,())=Wn gn US Qc Vw Xg Jx Vx a0 a1 a2 a3:=by kernel_rfl
def Zh:(we×Int×(List wu)×Int×Unit)->Option (Bool×Unit):=sF Tryz.prog [(5,⟨vC,vD,yn⟩),(6,⟨KW,KY,uM⟩),(7,⟨ZO,ZP,yj⟩),(8,⟨JR,JS,xO⟩),(9,⟨YZ,Xa,ve⟩),(10,⟨Jm,Jn,xU⟩),(11,⟨bT,bU,JU⟩)] UO (zy []) 30 3 Zg Wm
theorem ny:Con.Ok Tryz.prog 3 ⟨Zg,Wm,Zh⟩:=Ro (ze iE (ze SE (ze oM (ze OB (ze Is (ze Cl (ze Ph zn))))))) qP (by kernel_rfl)
theorem nz(a0:we)(a1:Int)(a2:(List wu))(a3:Int):Zh (a0,a1,a2,a3,())=Wn yn uM yj xO ve xU JU a0 a1 a2 a3:=Cp yn uM yj xO ve xU JU a0 a1 a2 a3
end Go.Proofs.YtlfkgkedfciccaaGreat.nd
namespace Go.Proofs.YtlfkgkedfciccaaGreat.dd
open Go Go.Fz Go.Fz.Sy Go.Proofs.YtlfkgkedfciccaaGreat.nd Go.Proofs.YtlfkgkedfciccaaGreat.ad
theorem zoV:JU ()=some (true,()):=rfl
structure zjt(s:zK):Prop where
 w:Vr s
 a:∀x∈s.2.1.1,GV x
theorem Tr.i{s:zK}(h:Tr s):zjt s:=⟨h.w,fun x hx=>by
 rcases h.f with hf | hf
 ·grind
 ·obtain⟨k,_,hk⟩:=kf hx;exact(hf.1.2.2.1 k x hk).1⟩
theorem zju{a:Int}{n:Nat}(h0:0<=a)(h1:a<=255)(hn:0 < n):0<=Int.tmod (wrF .i64 a) (n:Int)∧Int.tmod (wrF .i64 a) (n:Int) < (n:Int):=by rw[zT (by omega) (by omega),zqw h0];exact⟨zra _ (by omega),zqR _ (by omega)⟩
theorem zoW{c:wu}(hc:0<=c.2.1∧c.2.1<=255)(s:zK):∃p x,yj (c,s,())=some (p,x,()):=by
 suffices key:zt (yj (c,s,())) fun _=>True by obtain⟨⟨p,x,⟨⟩⟩,e,_⟩:=key;exact⟨p,x,e⟩
 rw[oN];unfold aV;refine zk (J:=fun x=>x.1=0∨x.1=1) (zd (fun _=>zd (fun h=>?_) fun _=>za (.inl rfl)) fun _=>za (.inl rfl)) ?_
 ·have h:=zV h;have b:=zju (n:=s.2.1.1.length) hc.1 hc.2 (by omega);exact zi (jf (by omega)) (zb (wq b.1 b.2 fun _ _=>za (.inr rfl)))
 rintro⟨k,⟨v1,v2,⟨⟩⟩,⟨⟩⟩ (h | h);rotate_left
 ·have h:k=1:=h;subst h;exact zu (za trivial)
 have h:k=0:=h;subst h;refine zx (zk (J:=fun x=>x.1=0∨x.1=1) (zd (fun _=>zd (fun h=>?_) fun _=>za (.inl rfl)) fun _=>za (.inl rfl)) ?_)
 ·have h:=zV h;have b:=zju (n:=s.2.2.2.1.length) hc.1 hc.2 (by omega);exact zi (jf (by omega)) (zb (wq b.1 b.2 fun _ _=>za (.inr rfl)))
 grind[za]
theorem zoX{t:qT}(ht:wY t){a:Int}(h0:0<=a)(h1:a<=255):jX t (Int.tmod (wrF .i64 a) t.1):=by have n0:=ht.sz.n0;rw[zT (by omega) (by omega),zqw h0];exact⟨zra _ (by omega),zqR _ (by omega)⟩
theorem zgW{d:HK}(hd:zm4 d){a:Int}(a0:0<=a)(a1:a<=255){l:List wu}(hl:∀c∈l,0<=c.2.1∧c.2.1<=255)(st:Int):Zh (d,a,l,st,())=some (true,()):=by
 obtain⟨c,ec,hc⟩:=zm5 hd;have n0:=hc.t.sz.n0;obtain⟨s0,es,hs⟩:=zpL hc (zoX hc.t a0 a1);rw[nz];unfold Wn;rw[ec,zq];refine gY (zi (jf (show c.1.1.1≠0 by omega)) ?_);show zt (opt (uM (c,Int.tmod (wrF .i64 a) c.1.1.1,())) _) _;rw[es,zq];refine zk (J:=fun x=>x.1=0) (zZ 30 (fun i z=>∃(s:zK) (t:Int) (b:Bool),z=((s,(t,(b,((i:Int),())))),())∧zjt s) (by omega) ⟨s0,_,_,rfl,hs.i⟩ ?_ ?_) ?_
 ·rintro i _ hi ⟨s,t,b,rfl,hsi⟩;refine zd (fun h=>zd (fun _=>?_) fun _=>za (zw rfl)) fun _=>za (zw rfl);have h:(i:Int) < (l.length:Int):=zV h;have hx:l[i]?=some l[i]:=FL (by omega);have hcx:=hl _ (zqq (show i < l.length by omega));generalize l[i]=x at hx hcx;refine zb (zm hx (zb (zm hx ?_)));obtain⟨p,y,ef⟩:=zoW hcx s;show zt (opt (yj (x,s,())) _) _;rw[ef,zq];refine zk (J:=fun _=>True) (zb (zm hx (zd (fun _=>zd (fun h2=>zb (zm hx ?_)) fun _=>za trivial) fun _=>za trivial))) ?_
  ·have h2:(0:Int) < (s.2.1.1.length:Int):=zV h2;have bd:=zju (n:=s.2.1.1.length) hcx.1 hcx.2 (by omega);refine zi (jf (show(s.2.1.1.length:Int)≠0 by omega)) (zb (wq bd.1 bd.2 fun ac hac=>zb (zd (fun h7=>zb (zm hx (zi (jf ?_) (za (za trivial))))) fun _=>za (za trivial))));have h7:ac.2.2.1=7:=qi h7;obtain⟨_,_,_,q | q⟩:=hsi.a ac (zqy hac)
   ·have:=q.1;omega
   ·obtain⟨_,_,⟨r1,r2⟩,⟨r3,r4⟩,r5,r6⟩:=q;rw[zT (z:=ac.2.2.2.2.2.2 - ac.2.2.2.2.2.1) (by omega) (by omega),zT (by omega) (by omega)];omega
  rintro⟨k,⟨t2,⟨⟩⟩,⟨⟩⟩ -;obtain⟨q,ac,e,e1,e2,hq⟩:=zno (port:=p) (x:=y) (t:=t2) hsi.w;show zt (opt (xO (s,p,y,t2,())) _) _;rw[e1,zq];show zt (opt (ve (s,p,y,t2,())) _) _;rw[e2,zq];have hB:zgk q:=by
   rcases hq with⟨_,h1,h2⟩ | ⟨_,rfl⟩
   ·exact zlr h1 hsi.w h2
   ·exact zlq
  refine zk (J:=fun x=>x.1=0) (zi (by simp only[wP rfl,zrH,zsk]) (zi (by rw[wP rfl];rfl) ?_)) ?_
  ·show zt (opt (xU (q,q,())) _) _;rw[zpK hB,zq];exact zi rfl (za rfl)
  rintro⟨k2,⟨b2,⟨⟩⟩,⟨⟩⟩ hk;have hk:k2=0:=hk;subst hk;refine zx (zk (J:=fun x=>zjt x.2.1.1) (zd (fun h=>za ?_) fun _=>za hsi) ?_)
  ·rcases hq with⟨_,h1,h2⟩ | ⟨h1,_⟩
   ·exact⟨h2.w,fun x hx=>hsi.a x (by rw[<-h2.acc];exact hx)⟩
   ·exact absurd (qi h) h1
  grind[k3,za,ql,zQ]
 ·grind[zD,za,zw]
 rintro⟨k,st2,⟨⟩⟩ hk;have hk:k=0:=hk;subst hk;refine zx ?_;rw[zoV,zq];exact za rfl
theorem u8w{n:Int}(h:wfT (.int .u8) n):0<=n∧n<=255:=h
theorem u8l{l:List Int}(h:wfT (.list (.int .u8)) l):u8 l:=fun x hx=>u8w (h.2 x hx)
theorem zqc{d:HK}(h:wfT yM d):zm4 d:=
 ⟨⟨u8w h.1.1,u8w h.1.2.1,u8l h.1.2.2.1,u8l h.1.2.2.2.1,u8l h.1.2.2.2.2.1,u8l h.1.2.2.2.2.2⟩,⟨u8w h.2.1.1,u8w h.2.1.2.1,u8w h.2.1.2.2⟩,fun x hx=>⟨u8w (h.2.2.1.2 x hx).2.2.1,u8w (h.2.2.1.2 x hx).2.2.2.2.2.1⟩,zqx (show d.2.2.1.length*10<=reachBytes from h.2.2.1.1.2) (by decide)⟩
abbrev A3:=Zg
abbrev K3_ok:=ny
theorem good3(x:T (wC A3))(h:wfT (wC A3) x):Zh x=some (true,()):=by obtain⟨d,a,l,st,⟨⟩⟩:=x;exact zgW (zqc h.1) (u8w h.2.1).1 (u8w h.2.1).2 (fun c hc=>u8w (h.2.2.1.2 c hc).2.1) st
end Go.Proofs.YtlfkgkedfciccaaGreat.dd
end
