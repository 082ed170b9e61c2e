/- Parts of a proof, joined. -/
import Derived.Test.YtleloebnggepoaaGreatS16
set_option linter.unusedSectionVars false
set_option linter.unusedVariables false
set_option linter.unusedSimpArgs false
set_option maxHeartbeats 0
set_option maxRecDepth 100000
noncomputable section
namespace Go.Proofs.YtleloebnggepoaaGreat.sg
open Go Go.Fz Go.Fz.Sy
def yK (l:List (Int×Int)):Int×Int:=((l.map (·.1)).sum,(l.map (·.2)).sum)
theorem zCt {l:List (Int×Int)} {i:Nat} {b:Int×Int} (h:l[i]?=some b):yK (l.take (i+1))=((yK (l.take i)).1+b.1,(yK (l.take i)).2+b.2):=by
 unfold yK;rw [List.take_add_one,h];simp
theorem zt7:∀{l:List (Int×Int)},(∀b∈l,vC b)→(l.length:Int)≤(yK l).1∧(yK l).1≤1048576*l.length∧(l.length:Int)≤(yK l).2∧(yK l).2≤2097152*l.length
 |[],_=>by simp [yK]
 |b::l,h=>by
  have ih:=zt7 (l:=l) fun x hx=>h x (by simp [hx])
  obtain ⟨⟨h1,h2⟩,h3,h4⟩:=h b (by simp)
  unfold yK at *
  simp only [List.map_cons,List.sum_cons,List.length_cons]
  omega
noncomputable def KN (l:List (Int×Int)):(Int×Int)×Int:=bif tv (vC (yK l)) then (yK l,0) else ((0,0),6)
theorem zt8 {l:List (Int×Int)} (h0:l≠[]) (h12:l.length≤12) (hb:∀b∈l,vC b):uB (l,())=some ((KN l).1,(KN l).2,()):=by
 have hl:0 < l.length:=List.length_pos_iff.2 h0
 rw [zr4];unfold zgJ
 refine yN (zg (jg (show (l.length:Int)≠0 by omega)) (zg (zZ (show ¬12 < (l.length:Int) by omega)) ?_))
 refine zp (J:=fun x=>x.1=0∧x.2.1.2.1=yK l) (qt l.length (fun i s=>s=(((0,0),(yK (l.take i),(0,((i:Int),())))),())) (by omega) rfl ?_ ?_) ?_
 ·rintro i _ hi rfl
  have hx:l[i]?=some l[i]:=List.getElem?_eq_getElem hi
  have hm:=List.getElem_mem hi
  generalize l[i]=b at hx hm
  have hbb:=hb b hm
  have hbd:=zt7 (l:=l.take i) fun x hx=>hb x (List.mem_of_mem_take hx)
  have hlt:(l.take i).length=i:=by simp;omega
  refine zh (qq (show (i:Int) < (l.length:Int) by omega)) (zn (zQ (n:=i) hx ?_))
  rw [Wr,zM hbb,zG,cond_true]
  refine zg rfl (zd (qR ?_))
  obtain ⟨⟨b1,b2⟩,b3,b4⟩:=hbb
  show (((0,0),(((wrF .i64 ((yK (l.take i)).1+b.1)),(wrF .i64 ((yK (l.take i)).2+b.2))),(0,((wrF .i64 ((i:Int)+1)),())))),())=_
  rw [zCt hx,qO (by omega),qT (z:=(yK (l.take i)).1+b.1) (by omega) (by omega),qT (by omega) (by omega)]
 ·rintro _ rfl
  refine zg (zZ (show ¬(l.length:Int) < (l.length:Int) by omega)) (zd (zD ⟨rfl,?_⟩))
  show yK (l.take l.length)=_
  rw [List.take_length]
 ·rintro ⟨j,⟨a1,a2,a3,a4,⟨⟩⟩,⟨⟩⟩ ⟨h1,h2⟩
  simp only at h1 h2
  subst h1 h2
  refine zh rfl ?_
  rw [Wr,zG]
  unfold KN
  by_cases h:vC (yK l)
  ·rw [zM h];exact zg rfl (zd rfl)
  ·rw [qn h];exact zh rfl (zd rfl)
theorem wru {z:Int} (h1:0≤z) (h2:z < 18446744073709551616):wrF .u64 z=z:=by
 rw [zbs]
 have e:IntKind.u64.wrap z=z % 18446744073709551616:=by
  unfold IntKind.wrap
  show (if (false&&decide (z % 18446744073709551616≥9223372036854775808))=true then z % 18446744073709551616 - 18446744073709551616 else z % 18446744073709551616)=_
  simp
 rw [e];omega
theorem zsq (x:Int):yu .u64 x 32=x / 4294967296:=by
 show x.fdiv (2 ^ (min (32:Int).toNat 64))=x / 4294967296
 rw [show (2:Int) ^ (min (32:Int).toNat 64)=4294967296 from rfl]
 exact Int.fdiv_eq_ediv_of_nonneg x (by omega)
theorem zAV {x:Int} (h0:0≤x) (h1:x < 4294967296):gG .and .u64 x 4294967295=x:=by
 obtain ⟨n,rfl⟩:=Int.eq_ofNat_of_zero_le h0
 show IntKind.u64.wrap (((BitVec.ofInt 64 (n:Int)&&& BitVec.ofInt 64 4294967295).toNat:Nat):Int)=_
 have e:(BitVec.ofInt 64 (n:Int)&&& BitVec.ofInt 64 4294967295).toNat=n:=by
  rw [BitVec.toNat_and,BitVec.toNat_ofInt,BitVec.toNat_ofInt]
  have e1:((n:Int) % ((2 ^ 64:Nat):Int)).toNat=n:=by
   rw [show ((2 ^ 64:Nat):Int)=18446744073709551616 from rfl];omega
  have e2:((4294967295:Int) % ((2 ^ 64:Nat):Int)).toNat=2 ^ 32 - 1:=rfl
  rw [e1,e2,Nat.and_two_pow_sub_one_of_lt_two_pow (by omega)]
 rw [e,←zbs]
 exact wru (by omega) (by omega)
theorem zh5 {l:List Int} (hn:l.length≤1000) (h:∀x∈l,-1125899906842624≤x∧x≤1125899906842624):kC (l,())=some (true,()):=by
 rw [zqn];unfold zeI
 refine kO (zp (J:=fun x=>x.1=0) (uC l.length (fun _=>True) (by omega) ?_ ?_) ?_)
 ·intro i hi _
  have hx:l[i]?=some l[i]:=List.getElem?_eq_getElem hi
  obtain ⟨h1,h2⟩:=h _ (List.getElem_mem hi)
  generalize l[i]=x at hx h1 h2
  refine zh (qq (show (i:Int) < (l.length:Int) by omega)) (zn (zQ (n:=i) hx ?_))
  refine zp (J:=fun r=>r.1=0∧r.2.1.1=false) (zg (zZ (by omega)) (zg (zZ (by omega)) (zd ⟨rfl,rfl⟩))) ?_
  rintro ⟨j,⟨v,⟨⟩⟩,⟨⟩⟩ ⟨rfl,rfl⟩
  exact zh rfl (zd (gN (by omega) trivial))
 ·intro _
  exact zg (zZ (show ¬(l.length:Int) < (l.length:Int) by omega)) (zd (zD rfl))
 ·rintro ⟨j,⟨v,w,⟨⟩⟩,⟨⟩⟩ h1
  simp only at h1
  subst h1
  exact zh rfl (zd rfl)
theorem zsr {x:Int} (h1 : -1125899906842624≤x) (h2:x≤1125899906842624):Ye (x,())=some (x,true,()):=by
 rw [zqq];unfold zeJ
 rw [zh5 (by simp) (by simp;omega)];rfl
theorem zl2 {a b:Int} (a0:0≤a) (a1:a < 4294967296) (b0:0≤b) (b1:b < 4294967296):Ze (a,b,())=some (0,a*b,()):=by
 have hm:=zjI a0 (show a≤4294967295 by omega) b0 (show b≤4294967295 by omega)
 rw [zkK];unfold GA
 rw [zsq a,zsq b,zAV a0 a1,zAV b0 b1,show a / 4294967296=0 by omega,show b / 4294967296=0 by omega,Int.zero_mul,Int.zero_mul,Int.mul_zero]
 rw [show wrF .u64 0=0 from rfl,wru (z:=a*b) (by omega) (by omega),zsq (a*b),Int.zero_add (a*b / 4294967296)]
 have h1:0≤a*b / 4294967296:=by omega
 have h2:a*b / 4294967296 < 4294967296:=by omega
 rw [wru (z:=a*b / 4294967296) h1 (by omega),zsq (a*b / 4294967296),show a*b / 4294967296 / 4294967296=0 by omega,zAV h1 h2,Int.add_zero (a*b / 4294967296),wru (z:=a*b / 4294967296) h1 (by omega),zsq (a*b / 4294967296),show a*b / 4294967296 / 4294967296=0 by omega]
 rfl
theorem zl3 {a c:Int} (a0:0≤a) (a1:a < 18446744073709551616) (c0:0 < c):Zj (0,a,c,())=some (a / c,a % c,()):=by
 rw [zkN];unfold GB
 have hq:0≤a / c:=Int.ediv_nonneg a0 (by omega)
 have hq2:a / c≤a:=Int.ediv_le_self _ a0
 rw [jg (show c≠0 by omega),qq (show 0 < c by omega),Int.tdiv_eq_ediv_of_nonneg a0,Int.tmod_eq_emod_of_nonneg a0,wru hq (by omega)]
 rfl
theorem zjJ {a b c:Int} (a0:0≤a) (a1:a < 4294967296) (b0:0≤b) (b1:b < 4294967296) (c0:0 < c) (c1:c≤4294967296) (hm:a*b≤1125899906842000):kq (a,b,c,())=some (cl c (a*b),()):=by
 have hm0:0≤a*b:=Int.mul_nonneg a0 b0
 have hq:0≤a*b / c:=Int.ediv_nonneg hm0 (by omega)
 have hq2:a*b / c≤a*b:=Int.ediv_le_self _ hm0
 have hr:=Int.emod_nonneg (a*b) (show c≠0 by omega)
 have hr2:=Int.emod_lt_of_pos (a*b) c0
 have hde:=Int.emod_add_mul_ediv (a*b) c
 rw [zr8];unfold zgN
 rw [qT (z:=0 - a) (by omega) (by omega)]
 have hM:gL (0 - a,())=some (a,()):=by
  rw [zef];unfold KZ
  rcases Int.lt_or_le (0 - a) 0 with h | h
  ·rw [qq h,cond_true,show 0 - (0 - a)=a by omega,qT (z:=a) (by omega) (by omega),wru (z:=a) (by omega) (by omega)]
  ·rw [zZ (by omega),cond_false,show 0 - a=a by omega,wru (z:=a) (by omega) (by omega)]
 have hM2:gL (b,())=some (b,()):=by
  rw [zef];unfold KZ
  rw [zZ (by omega),cond_false,wru (z:=b) (by omega) (by omega)]
 have hcl:cl c (a*b)=if a*b % c=0 then a*b / c else a*b / c+1:=by
  unfold cl
  split
  ·rename_i h
   have e:a*b+c - 1=(c - 1)+(a*b / c)*c:=by rw [Int.mul_comm _ c];omega
   rw [e,Int.add_mul_ediv_right _ _ (by omega),Int.ediv_eq_zero_of_lt (by omega) (by omega)];omega
  ·rename_i h
   have e:a*b+c - 1=(a*b % c - 1)+(a*b / c+1)*c:=by rw [Int.add_mul,Int.mul_comm _ c];omega
   rw [e,Int.add_mul_ediv_right _ _ (by omega),Int.ediv_eq_zero_of_lt (by omega) (by omega)];omega
 have key:qu (XS (0 - a,b,c,())) fun r=>r.1 = -cl c (a*b):=by
  rw [zr7];unfold zgM
  rw [zh5 (by simp) (by simp;omega)]
  refine zp (J:=fun x=>x.1=0) (zg (zZ (show ¬c < 1 by omega)) (zd rfl)) ?_
  rintro ⟨j,⟨v,w,⟨⟩⟩,⟨⟩⟩ h1
  simp only at h1
  subst h1
  refine zh rfl ?_
  rw [hM,zG,hM2,zG,zl2 a0 a1 b0 b1,zG,wru (z:=c) (by omega) (by omega)]
  refine zg (by rw [qq (show (0:Int) < c by omega)];rfl) ?_
  rw [zl3 hm0 (by omega) c0,zG]
  refine zg (zZ (show ¬1125899906842624 < a*b / c by omega)) ?_
  refine zp (J:=fun x=>x.2.1.1 = -cl c (a*b)) ?_ ?_
  ·rw [zZ (show ¬b < 0 by omega),hcl]
   rcases Int.lt_or_le (0 - a) 0 with h | h
   ·rw [qq h]
    refine zh rfl (zp (J:=fun x=>x.2.1.1 = -(if a*b % c=0 then a*b / c else a*b / c+1)) ?_ ?_)
    ·rw [qT (z:=a*b / c) (by omega) (by omega),qT (z:=0 - a*b / c) (by omega) (by omega),qT (z:=0 - a*b / c - 1) (by omega) (by omega)]
     refine zr (fun h2=>?_) (fun h2=>?_)
     ·have h2:(!zj (a*b % c) 0)=true:=h2
      have:=jG (show zj (a*b % c) 0=false by simpa using h2)
      refine zd ?_
      rw [if_neg this]
      show 0 - a*b / c - 1=_
      omega
     ·have h2:(!zj (a*b % c) 0)=false:=h2
      have:=jo (show zj (a*b % c) 0=true by simpa using h2)
      refine zd ?_
      rw [if_pos this]
      show 0 - a*b / c=_
      omega
    ·rintro ⟨j,⟨v,⟨⟩⟩,⟨⟩⟩ h1
     exact zd h1
   ·have ha:a=0:=by omega
    rw [zZ (by omega),ha]
    refine zg rfl (zd ?_)
    rw [Int.zero_mul,Int.zero_ediv,Int.zero_emod,if_pos rfl]
    rfl
  ·rintro ⟨j,⟨v,⟨⟩⟩,⟨⟩⟩ h1
   simp only at h1
   subst h1
   have:0≤cl c (a*b):=by rw [hcl];split<;>omega
   have:cl c (a*b)≤a*b / c+1:=by rw [hcl];split<;>omega
   rw [zsr (x:=-cl c (a*b)) (by omega) (by omega)]
   exact zd rfl
 obtain ⟨⟨r,w,⟨⟩⟩,e,h⟩:=key
 rw [e,zG]
 simp only at h
 subst h
 have:0≤cl c (a*b):=by rw [hcl];split<;>omega
 have:cl c (a*b)≤a*b / c+1:=by rw [hcl];split<;>omega
 show some (wrF .i64 (0 - -cl c (a*b)),())=_
 rw [qT (by omega) (by omega),show 0 - -cl c (a*b)=cl c (a*b) by omega]
def zdv (s:Int×Int):Prop:=1≤s.1∧s.1≤2097152∧0≤s.2∧s.2≤268435456
theorem zoy.ok {v:Int×Int} (h:zoy v):zdv v:=⟨h.1,by have:=h.2.1;omega,h.2.2.1,h.2.2.2⟩
theorem zh6 {s:Int×Int} (h:zdv s):kB (s,())=some (0,()):=by
 obtain ⟨h1,h2,h3,h4⟩:=h
 rw [zqm];unfold zeH
 rw [zZ (by omega),zZ (by omega),zZ (by omega),zZ (by omega)];rfl
theorem zES {d w M:Int} (hd:0 < d) (h0:0≤w) (h1:w≤M):0≤cl d w∧cl d w≤M+1:=by
 unfold cl
 refine ⟨Int.ediv_nonneg (by omega) (by omega),?_⟩
 have:(w+d - 1) / d≤(w*d+d) / d:=by
  refine Int.ediv_le_ediv hd ?_
  have:=Int.mul_le_mul_of_nonneg_left (show 1≤d by omega) h0
  omega
 have e:(w*d+d) / d=w+1:=by
  rw [show w*d+d=(w+1)*d by rw [Int.add_mul,Int.one_mul]];exact Int.mul_ediv_cancel _ (by omega)
 omega
theorem zAW {b s:Int×Int} (hb:vC b) (hs:zdv s):kq (b.1,1048576,s.1,())=some (cl s.1 (b.1*1048576),()):=by
 obtain ⟨⟨b1,b2⟩,b3,b4⟩:=hb
 obtain ⟨h1,h2,h3,h4⟩:=hs
 exact zjJ (by omega) (by omega) (by omega) (by omega) (by omega) (by omega) (by omega)
theorem zyd {b s:Int×Int} (hb:vC b) (hs:zdv s):0≤cl s.1 (b.1*1048576)∧cl s.1 (b.1*1048576)≤1099511627777:=by
 obtain ⟨⟨b1,b2⟩,b3,b4⟩:=hb
 obtain ⟨h1,h2,h3,h4⟩:=hs
 exact zES (M:=1099511627776) (by omega) (by omega) (by omega)
theorem zss {b s:Int×Int} (hb:vC b) (hs:zdv s):vI ([b],s,())=some (bif tv (b.2≤s.1) then (s.2+cl s.1 (b.1*1048576),0,()) else (0,141,())):=by
 have hd:=zyd hb hs
 have hcl:Qh ([b],s.1,())=some (bif tv (b.2≤s.1) then (cl s.1 (b.1*1048576),true,()) else (0,false,())):=by
  rw [zlS];unfold zaK
  refine yN ?_
  by_cases h:b.2≤s.1
  ·rw [zM h,cond_true]
   refine zp (J:=fun x=>x.2.1.1=cl s.1 (b.1*1048576)∧x.2.1.2.1=true) (qt 1 (fun i st=>(i=0∧st=((0,(false,(0,()))),((),((),()))))∨(i=1∧st=((cl s.1 (b.1*1048576),(true,(1,()))),((),((),()))))) (by omega) (.inl ⟨rfl,rfl⟩) ?_ ?_) ?_
   ·rintro i _ hi (⟨rfl,rfl⟩ | ⟨rfl,rfl⟩)
    ·refine zh rfl (zn (xT (a:=b) rfl (zg (zZ (by omega)) ?_)))
     rw [zAW hb hs,zG]
     refine zp (J:=fun x=>x.2.1.1=cl s.1 (b.1*1048576)∧x.2.1.2.1=true) (zh rfl (zd ⟨rfl,rfl⟩)) ?_
     rintro ⟨j,⟨a1,a2,⟨⟩⟩,⟨⟩,⟨⟩⟩ ⟨h1,h2⟩
     simp only at h1 h2
     subst h1 h2
     refine zp (J:=fun x=>x.1=0∧x.2.1.1=cl s.1 (b.1*1048576)∧x.2.1.2.1=true) (qt 1 (fun i st=>(i=0∧st=((cl s.1 (b.1*1048576),(true,(0,()))),((),((),()))))∨(i=1∧st=((cl s.1 (b.1*1048576),(true,(1,()))),((),((),()))))) (by omega) (.inl ⟨rfl,rfl⟩) ?_ ?_) ?_
     ·rintro i _ hi (⟨rfl,rfl⟩ | ⟨rfl,rfl⟩)
      ·refine zh rfl (zn (xT (a:=b) rfl (zh (by rw [zZ (by omega)];rfl) ?_)))
       exact zd (qR (.inr ⟨rfl,rfl⟩))
      ·omega
     ·rintro _ (⟨h1,rfl⟩ | ⟨_,rfl⟩)
      ·omega
      ·exact zg rfl (zd (zD ⟨rfl,rfl,rfl⟩))
     ·rintro ⟨j,⟨a1,a2,a3,⟨⟩⟩,⟨⟩,⟨⟩,⟨⟩⟩ ⟨h1,h2,h3⟩
      simp only at h1 h2 h3
      subst h1 h2 h3
      exact zh rfl (zd (qR (.inr ⟨rfl,rfl⟩)))
    ·omega
   ·rintro _ (⟨h1,rfl⟩ | ⟨_,rfl⟩)
    ·omega
    ·exact zg rfl (zd (zD ⟨rfl,rfl⟩))
   ·rintro ⟨j,⟨a1,a2,a3,⟨⟩⟩,⟨⟩,⟨⟩,⟨⟩⟩ ⟨h1,h2⟩
    simp only at h1 h2
    subst h1 h2
    refine zr (fun _=>?_) (fun _=>?_)<;>exact zd rfl
  ·rw [qn h,cond_false]
   refine zp (J:=fun x=>x.2.1.1=0∧x.2.1.2.1=false) (qt 1 (fun i st=>(i=0∧st=((0,(false,(0,()))),((),((),()))))∨(i=1∧st=((0,(false,(1,()))),((),((),()))))) (by omega) (.inl ⟨rfl,rfl⟩) ?_ ?_) ?_
   ·rintro i _ hi (⟨rfl,rfl⟩ | ⟨rfl,rfl⟩)
    ·exact zh rfl (zn (xT (a:=b) rfl (zh (qq (by omega)) (zd (qR (.inr ⟨rfl,rfl⟩))))))
    ·omega
   ·rintro _ (⟨h1,rfl⟩ | ⟨_,rfl⟩)
    ·omega
    ·exact zg rfl (zd (zD ⟨rfl,rfl⟩))
   ·rintro ⟨j,⟨a1,a2,a3,⟨⟩⟩,⟨⟩,⟨⟩,⟨⟩⟩ ⟨h1,h2⟩
    simp only at h1 h2
    subst h1 h2
    refine zr (fun _=>?_) (fun _=>?_)<;>exact zd rfl
 rw [zqt];unfold zeK
 refine yN (zg rfl (zg rfl (zp (J:=fun x=>x.1=0∧x.2.1.1=0) (uC 1 (fun _=>True) (by omega) ?_ ?_) ?_)))
 ·intro i hi _
  have:i=0:=by omega
  subst this
  refine zh rfl (zn (xT (a:=b) rfl ?_))
  rw [Wr,zM hb,zG]
  exact zg rfl (zd (gN (by omega) trivial))
 ·intro _
  exact zg rfl (zd (zD ⟨rfl,rfl⟩))
 ·rintro ⟨j,⟨v,w,⟨⟩⟩,⟨⟩⟩ ⟨h1,h2⟩
  simp only at h1 h2
  subst h1 h2
  refine zh rfl ?_
  rw [zh6 hs,zG]
  refine zg rfl ?_
  rw [hcl,zG]
  by_cases h:b.2≤s.1
  ·rw [zM h,cond_true,cond_true]
   refine zg rfl (zd ?_)
   obtain ⟨h1,h2,h3,h4⟩:=hs
   show ((wrF .i64 (s.2+cl s.1 (b.1*1048576))),_)=_
   rw [qT (by omega) (by omega)]
  ·rw [qn h]
   exact zh rfl (zd rfl)
theorem zFM {b s:Int×Int} (hb:vC b) (hs:zdv s):0≤b.2*s.2∧b.2*s.2≤562949953421312∧0≤cl 1048576 (b.2*s.2)∧cl 1048576 (b.2*s.2)≤562949953421313:=by
 obtain ⟨s1,s2,s3,s4⟩:=hs
 obtain ⟨⟨b1,b2⟩,b3,b4⟩:=hb
 have:=zjI (show 0≤b.2 by omega) b4 s3 s4
 have:=zES (d:=1048576) (w:=b.2*s.2) (M:=562949953421312) (by omega) (by omega) (by omega)
 omega
theorem zo2 {b s:Int×Int} (hb:vC b) (hs:zdv s) (h:b.2≤s.1):xL (b,s,())=some (b.1+cl 1048576 (b.2*s.2),0,()):=by
 have hbb:=zFM hb hs
 obtain ⟨s1,s2,s3,s4⟩:=id hs
 obtain ⟨⟨b1,b2⟩,b3,b4⟩:=id hb
 rw [znu];unfold zb1
 have e:Zm (b,s,())=some (0,()):=by
  rw [zkP];unfold GC
  rw [Wr,zM hb,zG,cond_true,zh6 hs,zG,zZ (by omega)];rfl
 rw [e,zG]
 refine yN (zg rfl ?_)
 rw [zjJ (by omega) (by omega) s3 (by omega) (by omega) (by omega) (by omega)]
 refine zd ?_
 show ((wrF .i64 (b.1+cl 1048576 (b.2*s.2))),_)=_
 rw [qT (by omega) (by omega)]
abbrev Bnd:=(Int×Int)×(Int×Int)×Int×Int
def zB:Bnd:=((0,0),((0,0),(0,0)))
def zbf (s:qv) (p:Int):Prop:=∃r∈s.2.2.2.2.2.2.2.2,p∈r
noncomputable def load (l:List qv) (p:Int):List (Int×Int):=(l.filter fun s=>tv (zbf s p)).map fun s=>s.2.2.2.2.2.2.1
structure okP (n:Fab) (l:List qv):Prop where
 f:znF n
 a:zt2 n.1 l
 n12:l.length≤12
 d:zqK l
 c:∀s∈l,s.2.2.2.1=6∧s.2.2.2.2.1≤n.2.2.2
noncomputable def ofS (g:Gts) (per most:Int):(Int×Int)×Int:=match xK (g,per,most,()) with
 |some (v,e,())=>(v,e)
 |none=>((0,0),0)
theorem zAX {g:Gts} (hg:yp g) {per most:Int} (p0:1≤per) (p1:per≤1000) (m0:84≤most) (m1:most≤1542):xK (g,per,most,())=some ((ofS g per most).1,(ofS g per most).2,())∧(((ofS g per most).2=0∧zoy (ofS g per most).1)∨((ofS g per most).2=4∧(ofS g per most).1=(0,0))):=by
 obtain ⟨v,e,h1,h3⟩:=zHl hg p0 p1 m0 m1
 have e1:ofS g per most=(v,e):=by unfold ofS;rw [h1]
 rw [e1]
 exact ⟨h1,h3⟩
noncomputable def zAY (b v:Int×Int):Bnd:=(b,(v,(v.2+cl v.1 (b.1*1048576),b.1+cl 1048576 (b.2*v.2))))
noncomputable def wk (n:Fab) (l:List qv) (p:Int):Bnd×Int:=
 bif tv (load l p=[]) then (zB,4)
 else bif tv ((ofS ((n.2.2.1[p.toNat]?).getD ([],0)) (lnk n.1 p).2.2.1 n.2.2.2).2=0) then
  bif tv ((KN (load l p)).2=0) then
   bif tv ((KN (load l p)).1.2≤(ofS ((n.2.2.1[p.toNat]?).getD ([],0)) (lnk n.1 p).2.2.1 n.2.2.2).1.1) then (zAY (KN (load l p)).1 (ofS ((n.2.2.1[p.toNat]?).getD ([],0)) (lnk n.1 p).2.2.1 n.2.2.2).1,0)
   else (zB,141)
  else (zB,6)
 else (zB,411)
theorem zu5 {l:List qv} {i:Nat} {s:qv} (h:l[i]?=some s) (p:Int):load (l.take (i+1)) p=bif tv (zbf s p) then load (l.take i) p++[s.2.2.2.2.2.2.1] else load (l.take i) p:=by
 unfold load
 rw [List.take_add_one,h,Option.toList,List.filter_append,List.map_append]
 cases e:tv (zbf s p) with
 |true=>simp [e]
 |false=>simp [e]
theorem zt9 {n:Fab} {l:List qv} (h:okP n l) (p:Int):(load l p).length≤12∧∀b∈load l p,vC b:=by
 unfold load
 refine ⟨?_,fun b hb=>?_⟩
 ·rw [List.length_map]
  have:=List.length_filter_le (fun s=>tv (zbf s p)) l
  have:=h.n12
  omega
 ·obtain ⟨s,hs,rfl⟩:=List.mem_map.1 hb
  have hs:=(List.mem_filter.1 hs).1
  have h1:=h.a s hs
  have h2:=(h.c s hs).1
  rcases h1.cl with ⟨h3,_⟩ | ⟨_,_,h4,h5⟩
  ·omega
  ·have:=h1.sz
   exact ⟨⟨by omega,h4.2⟩,h5⟩
theorem znH {n:Fab} (h:znF n) {p:Int} (hp:Qy n.1 p):∃g,n.2.2.1[p.toNat]?=some g∧(n.2.2.1[p.toNat]?).getD ([],0)=g∧yp g∧1≤(lnk n.1 p).2.2.1∧(lnk n.1 p).2.2.1≤1000:=by
 have:=hp.1;have:=hp.2
 have hf:=h.f.1
 have hx:n.2.2.1[p.toNat]?=some (n.2.2.1[p.toNat]'(by omega)):=List.getElem?_eq_getElem (by omega)
 have hl:=(h.t.ls _ _ (zds hp)).1
 exact ⟨_,hx,by rw [hx];rfl,h.g _ (List.getElem_mem _),hl.2.2.2.2.1,hl.2.2.2.2.2.1⟩
abbrev zam:=List (Int×Bnd×Int)
def Zo (n:Fab) (l:List qv) (m:zam):Prop:=∀q z,mpH m q=true→mpD m q z=wk n l q
theorem zCu (n:Fab) (l:List qv):Zo n l []:=fun q z h=>by cases h
theorem zu6 {n:Fab} {l:List qv} {m:zam} (h:Zo n l m) (p:Int) {r:Bnd×Int} (hr:r=wk n l p):Zo n l (mpP m p r):=fun q z hq=>by
 rw [zzs]
 split
 ·rename_i e;rw [←e,hr]
 ·rename_i e
  rw [zFE] at hq
  refine h q z ?_
  simpa [e] using hq
noncomputable def zGG (n:Fab) (l:List qv) (m:zam) (p:Int):Option (Nat×(((Bnd×Int)×Unit)×(zam×Unit))):=
 (bif (!(mpH (α:=(((Int×Int)×((Int×Int)×(Int×Int)))×Int)) (m) (p))) then opt (qh (fun s7:((Int×Unit)×(((List (Int×Int))×Unit)×(Unit×(Unit×Unit))))=>
         bif (zt (s7.1.1) ((((l).length:Nat):Int))) then opt (atI (l) (s7.1.1)) fun x8=>
          opt (qh (fun s9:((Int×(Int×Unit))×(((List (Int×Int))×Unit)×(Unit×(Unit×Unit))))=>
           bif (zt (s9.1.2.1) ((((x8.2.2.2.2.2.2.2.2).length:Nat):Int))) then opt (atI (x8.2.2.2.2.2.2.2.2) (s9.1.2.1)) fun x10=>
            opt (jx ((x10,(p,())))) fun x11=>
            bif x11.1 then some (.inl (1,((s9.1.2.1,(s9.1.2.1,())),((s9.2.1.1,()),((),((),()))))))
            else some (.inr ((s9.1.1,((wrF .i64 ((s9.1.2.1+1))),())),((s9.2.1.1,()),((),((),())))))
           else some (.inl (0,((s9.1.1,(s9.1.2.1,())),((s9.2.1.1,()),((),((),()))))))) qD ((0,(0,())),((s7.2.1.1,()),((),((),()))))) fun x12=>
          bif (Nat.beq x12.1 0) then some (.inr (((wrF .i64 ((s7.1.1+1))),()),((x12.2.2.1.1,()),((),((),())))))
          else bif (!(zt (x12.2.1.1) (0))) then bif (xj ((x12.2.2.1.1).length) (((x8.2.2.2.2.2.2.1::[])).length) (16)) then some (.inr (((wrF .i64 ((s7.1.1+1))),()),(((x12.2.2.1.1++(x8.2.2.2.2.2.2.1::[])),()),((),((),())))))
            else none
           else some (.inr (((wrF .i64 ((s7.1.1+1))),()),((x12.2.2.1.1,()),((),((),())))))
         else some (.inl (0,((s7.1.1,()),((s7.2.1.1,()),((),((),()))))))) qD ((0,()),(([],()),((),((),()))))) fun x13=>
        bif (Nat.beq x13.1 0) then bif (zj ((((x13.2.2.1.1).length:Nat):Int)) (0)) then some (0,(((((0,0),((0,0),(0,0))),4),()),((mpP (α:=(((Int×Int)×((Int×Int)×(Int×Int)))×Int)) (m) (p) ((((0,0),((0,0),(0,0))),4))),())))
         else opt (gK ((n.1,(p,())))) fun x14=>
          bif (!(zj (x14.2.1) (0))) then some (0,(((((0,0),((0,0),(0,0))),x14.2.1),()),((mpP (α:=(((Int×Int)×((Int×Int)×(Int×Int)))×Int)) (m) (p) ((((0,0),((0,0),(0,0))),x14.2.1))),())))
          else opt (atI (n.2.2.1) (p)) fun x15=>
           opt (xK ((x15,(x14.1,(n.2.2.2,()))))) fun x16=>
           bif (!(zj (x16.2.1) (0))) then some (0,(((((0,0),((0,0),(0,0))),411),()),((mpP (α:=(((Int×Int)×((Int×Int)×(Int×Int)))×Int)) (m) (p) ((((0,0),((0,0),(0,0))),411))),())))
           else opt (uB ((x13.2.2.1.1,()))) fun x17=>
            bif (!(zj (x17.2.1) (0))) then some (0,(((((0,0),((0,0),(0,0))),x17.2.1),()),((mpP (α:=(((Int×Int)×((Int×Int)×(Int×Int)))×Int)) (m) (p) ((((0,0),((0,0),(0,0))),x17.2.1))),())))
            else opt (vI (((x17.1::[]),(x16.1,())))) fun x18=>
             bif (!(zj (x18.2.1) (0))) then some (0,(((((0,0),((0,0),(0,0))),x18.2.1),()),((mpP (α:=(((Int×Int)×((Int×Int)×(Int×Int)))×Int)) (m) (p) ((((0,0),((0,0),(0,0))),x18.2.1))),())))
             else opt (xL ((x17.1,(x16.1,())))) fun x19=>
              bif (!(zj (x19.2.1) (0))) then some (0,(((((0,0),((0,0),(0,0))),x19.2.1),()),((mpP (α:=(((Int×Int)×((Int×Int)×(Int×Int)))×Int)) (m) (p) ((((0,0),((0,0),(0,0))),x19.2.1))),())))
              else some (0,((((x17.1,(x16.1,(x18.1,x19.1))),0),()),((mpP (α:=(((Int×Int)×((Int×Int)×(Int×Int)))×Int)) (m) (p) (((x17.1,(x16.1,(x18.1,x19.1))),0))),())))
        else bif (zj ((((x13.2.2.1.1).length:Nat):Int)) (0)) then some (0,(((((0,0),((0,0),(0,0))),4),()),((mpP (α:=(((Int×Int)×((Int×Int)×(Int×Int)))×Int)) (m) (p) ((((0,0),((0,0),(0,0))),4))),())))
         else opt (gK ((n.1,(p,())))) fun x20=>
          bif (!(zj (x20.2.1) (0))) then some (0,(((((0,0),((0,0),(0,0))),x20.2.1),()),((mpP (α:=(((Int×Int)×((Int×Int)×(Int×Int)))×Int)) (m) (p) ((((0,0),((0,0),(0,0))),x20.2.1))),())))
          else opt (atI (n.2.2.1) (p)) fun x21=>
           opt (xK ((x21,(x20.1,(n.2.2.2,()))))) fun x22=>
           bif (!(zj (x22.2.1) (0))) then some (0,(((((0,0),((0,0),(0,0))),411),()),((mpP (α:=(((Int×Int)×((Int×Int)×(Int×Int)))×Int)) (m) (p) ((((0,0),((0,0),(0,0))),411))),())))
           else opt (uB ((x13.2.2.1.1,()))) fun x23=>
            bif (!(zj (x23.2.1) (0))) then some (0,(((((0,0),((0,0),(0,0))),x23.2.1),()),((mpP (α:=(((Int×Int)×((Int×Int)×(Int×Int)))×Int)) (m) (p) ((((0,0),((0,0),(0,0))),x23.2.1))),())))
            else opt (vI (((x23.1::[]),(x22.1,())))) fun x24=>
             bif (!(zj (x24.2.1) (0))) then some (0,(((((0,0),((0,0),(0,0))),x24.2.1),()),((mpP (α:=(((Int×Int)×((Int×Int)×(Int×Int)))×Int)) (m) (p) ((((0,0),((0,0),(0,0))),x24.2.1))),())))
             else opt (xL ((x23.1,(x22.1,())))) fun x25=>
              bif (!(zj (x25.2.1) (0))) then some (0,(((((0,0),((0,0),(0,0))),x25.2.1),()),((mpP (α:=(((Int×Int)×((Int×Int)×(Int×Int)))×Int)) (m) (p) ((((0,0),((0,0),(0,0))),x25.2.1))),())))
              else some (0,((((x23.1,(x22.1,(x24.1,x25.1))),0),()),((mpP (α:=(((Int×Int)×((Int×Int)×(Int×Int)))×Int)) (m) (p) (((x23.1,(x22.1,(x24.1,x25.1))),0))),())))
       else some (0,(((mpD (α:=(((Int×Int)×((Int×Int)×(Int×Int)))×Int)) (m) (p) ((((0,0),((0,0),(0,0))),0))),()),(m,()))))
theorem zzx {n:Fab} {l:List qv} (h:okP n l) {p:Int} (hp:Qy n.1 p) {m:zam} {c:List (Int×Int)} (hc:c=load l p) {X:Option (Nat×(((Bnd×Int)×Unit)×(zam×Unit)))}
  (hX:X=bif (zj ((((c).length:Nat):Int)) (0)) then some (0,(((zB,4),()),((mpP m p (zB,4)),())))
   else opt (gK (n.1,(p,()))) fun x14=>bif (!(zj (x14.2.1) (0))) then some (0,(((zB,x14.2.1),()),((mpP m p (zB,x14.2.1)),())))
    else opt (atI (n.2.2.1) p) fun x15=>opt (xK (x15,(x14.1,(n.2.2.2,())))) fun x16=>bif (!(zj (x16.2.1) (0))) then some (0,(((zB,411),()),((mpP m p (zB,411)),())))
     else opt (uB (c,())) fun x17=>bif (!(zj (x17.2.1) (0))) then some (0,(((zB,x17.2.1),()),((mpP m p (zB,x17.2.1)),())))
      else opt (vI ((x17.1::[]),(x16.1,()))) fun x18=>bif (!(zj (x18.2.1) (0))) then some (0,(((zB,x18.2.1),()),((mpP m p (zB,x18.2.1)),())))
       else opt (xL (x17.1,(x16.1,()))) fun x19=>bif (!(zj (x19.2.1) (0))) then some (0,(((zB,x19.2.1),()),((mpP m p (zB,x19.2.1)),())))
        else some (0,((((x17.1,(x16.1,(x18.1,x19.1))),0),()),((mpP m p (((x17.1,(x16.1,(x18.1,x19.1))),0))),())))) :
  qu X fun x=>x.2.1.1=wk n l p∧x.2.2.1=mpP m p (wk n l p):=by
 obtain ⟨lb1,lb2⟩:=zt9 h p
 obtain ⟨g,hx,hge,hg,p0,p1⟩:=znH h.f hp
 obtain ⟨o1,o3⟩:=zAX hg p0 p1 h.f.f.2.1 h.f.f.2.2
 have fin:∀{r:Bnd×Int},r=wk n l p→qu (some ((0:Nat),((r,()),((mpP m p r),())))) fun x=>x.2.1.1=wk n l p∧x.2.2.1=mpP m p (wk n l p):=fun e=>zd ⟨e,by rw [e]⟩
 subst hX hc
 unfold wk at fin
 rw [hge] at fin
 unfold wk
 rw [hge]
 by_cases hne:load l p=[]
 ·rw [zM hne,cond_true] at fin ⊢
  rw [hne]
  exact zh rfl (fin rfl)
 have hlen:(load l p).length≠0:=fun e=>hne (List.length_eq_zero_iff.1 e)
 rw [qn hne,cond_false] at fin ⊢
 refine zg (jg (show ((load l p).length:Int)≠0 by omega)) ?_
 rw [zx3 h.f.t hp,zG]
 refine zg rfl (zn (xT (a:=g) (by rw [show p=((p.toNat:Nat):Int) from (by have:=hp.1;omega),ZU (n:=p.toNat)];exact hx) ?_))
 rw [o1,zG]
 rcases o3 with ⟨o4,o5⟩ | ⟨o4,o5⟩
 ·rw [o4,zM rfl,cond_true] at fin ⊢
  refine zg rfl ?_
  rw [zt8 hne lb1 lb2,zG]
  have hs2:(KN (load l p)).2=0∧vC (KN (load l p)).1∨(KN (load l p)).2=6:=by
   unfold KN
   by_cases hb:vC (yK (load l p))
   ·rw [zM hb];exact .inl ⟨rfl,hb⟩
   ·rw [qn hb];exact .inr rfl
  rcases hs2 with ⟨hs2,hb⟩ | hs2
  ·rw [hs2,zM rfl,cond_true] at fin ⊢
   refine zg rfl ?_
   rw [zss hb o5.ok,zG]
   by_cases hle:(KN (load l p)).1.2≤(ofS g (lnk n.1 p).2.2.1 n.2.2.2).1.1
   ·rw [zM hle,cond_true] at fin ⊢
    rw [cond_true]
    refine zg rfl ?_
    rw [zo2 hb o5.ok hle,zG]
    exact zg rfl (fin rfl)
   ·rw [qn hle,cond_false] at fin ⊢
    rw [cond_false]
    exact zh rfl (fin rfl)
  ·rw [hs2,qn (by simp)] at fin ⊢
   exact zh rfl (fin rfl)
 ·rw [o4,qn (by simp)] at fin ⊢
  exact zh rfl (fin rfl)
theorem zCv {n:Fab} {l:List qv} (h:okP n l) {p:Int} (hp:Qy n.1 p) {m:zam} (hm:Zo n l m):qu (zGG n l m p) fun x=>x.2.1.1=wk n l p∧Zo n l x.2.2.1:=by
 have h12:=h.n12
 unfold zGG
 refine zr (fun hk=>?_) (fun hk=>?_)
 rotate_left
 ·have hk:mpH m p=true:=by simpa using hk
  exact zd ⟨hm p _ hk,hm⟩
 refine zp (J:=fun x=>x.2.2.1.1=load l p) (qt l.length (fun i s=>s=(((i:Int),()),((load (l.take i) p,()),((),((),()))))) (by omega) rfl ?_ ?_) ?_
 ·rintro i _ hi rfl
  have hy:l[i]?=some l[i]:=List.getElem?_eq_getElem hi
  have hmm:=List.getElem_mem hi
  generalize l[i]=s at hy hmm
  have hs:=h.a s hmm
  have rn:=hs.rn
  have hll:(load (l.take i) p).length≤12:=by
   unfold load;rw [List.length_map]
   have:=List.length_filter_le (fun s=>tv (zbf s p)) (l.take i)
   simp only [List.length_take] at this;omega
  refine zh (qq (show (i:Int) < (l.length:Int) by omega)) (zn (zQ (n:=i) hy ?_))
  refine zp (J:=fun x=>(x.1=0∧x.2.2.1.1=load (l.take i) p∧¬zbf s p)∨(x.1=1∧0≤x.2.1.1∧x.2.2.1.1=load (l.take i) p∧zbf s p))
   (qt s.2.2.2.2.2.2.2.2.length (fun k st=>st=((0,((k:Int),())),((load (l.take i) p,()),((),((),()))))∧∀k',k' < k→∀r,s.2.2.2.2.2.2.2.2[k']?=some r→¬p∈r) (by omega) ⟨rfl,fun k' hk'=>by omega⟩ ?_ ?_) ?_
  ·rintro k _ hk ⟨rfl,hpk⟩
   have hx:s.2.2.2.2.2.2.2.2[k]?=some s.2.2.2.2.2.2.2.2[k]:=List.getElem?_eq_getElem hk
   have hmr:=List.getElem_mem hk
   generalize s.2.2.2.2.2.2.2.2[k]=r at hx hmr
   have hr8:=(hs.rt r hmr).1.n1
   refine zh (qq (show (k:Int) < (s.2.2.2.2.2.2.2.2.length:Int) by omega)) (zn (zQ (n:=k) hx ?_))
   rw [zaa (by omega),zG]
   refine zr (fun hc=>?_) (fun hc=>?_)
   ·exact zd (zD (.inr ⟨rfl,by show (0:Int)≤(k:Int);omega,rfl,r,hmr,zdN hc⟩))
   ·refine zd (qR ⟨congrArg (fun z=>(((0:Int),(z,())),_)) (qO (by omega)),fun k' hk' r' hr'=>?_⟩)
    rcases Nat.lt_or_ge k' k with h1 | h1
    ·exact hpk k' h1 r' hr'
    ·have:k'=k:=by omega
     subst this
     rw [hx] at hr';cases hr'
     exact GY hc
  ·rintro _ ⟨rfl,hpk⟩
   refine zg (zZ (show ¬(s.2.2.2.2.2.2.2.2.length:Int) < (s.2.2.2.2.2.2.2.2.length:Int) by omega)) (zd (zD (.inl ⟨rfl,rfl,fun ⟨r,h1,h2⟩=>?_⟩)))
   obtain ⟨k,hk1,hk2⟩:=gm h1
   exact hpk k hk1 r hk2 h2
  ·rintro ⟨j,⟨v,w,⟨⟩⟩,⟨c,⟨⟩⟩,⟨⟩,⟨⟩,⟨⟩⟩ (⟨rfl,hc,hq⟩ | ⟨rfl,hv,hc,hq⟩)
   ·simp only at hc
    subst hc
    refine zh rfl (zd (qR ?_))
    rw [zu5 hy,qn hq,cond_false]
    exact congrArg (fun z=>((z,()),_)) (qO (by omega))
   ·simp only at hc hv
    subst hc
    refine zg rfl (zh (by rw [zZ (show ¬v < 0 by omega)];rfl) (zh (Qo (by show ((load (l.take i) p).length+1)*16≤_;omega) (by show (load (l.take i) p).length+1≤_;omega)) (zd (qR ?_))))
    rw [zu5 hy,zM hq,cond_true]
    exact congrArg (fun z=>((z,()),_)) (qO (by omega))
 ·rintro _ rfl
  refine zg (zZ (show ¬(l.length:Int) < (l.length:Int) by omega)) (zd (zD ?_))
  show load (l.take l.length) p=_
  rw [List.take_length]
 ·rintro ⟨j,⟨z,⟨⟩⟩,⟨c,⟨⟩⟩,⟨⟩,⟨⟩,⟨⟩⟩ hc
  simp only at hc
  refine zr (fun _=>?_) (fun _=>?_)
  ·exact zuY (zzx h hp (m:=m) hc rfl) fun x hx=>⟨hx.1,by rw [hx.2];exact zu6 hm p rfl⟩
  ·exact zuY (zzx h hp (m:=m) hc rfl) fun x hx=>⟨hx.1,by rw [hx.2];exact zu6 hm p rfl⟩
def zye (n:Fab) (l:List qv):Prop:=∀s∈l,s.2.2.2.1=6∧s.2.2.2.2.1≤n.2.2.2
noncomputable def zh7 (n:Fab) (l:List qv):Int:=bif tv (zaT n=0) then bif tv (zdt n.1 l=0) then bif tv (zye n l) then 0 else 2 else zdt n.1 l else zaT n
theorem zCw {t:je} {l:List qv} (h:zdt t l=0):l.length≤12∧zt2 t l∧zqK l:=by
 unfold zdt at h
 by_cases h1:l.length≤12
 ·by_cases h2:zt2 t l
  ·by_cases h3:zqK l
   ·exact ⟨h1,h2,h3⟩
   ·rw [zM h1,zM h2,qn h3] at h;cases h
  ·rw [zM h1,qn h2] at h;cases h
 ·rw [qn h1] at h;cases h
theorem zFN {n:Fab} {l:List qv} (h:zh7 n l=0):okP n l:=by
 unfold zh7 at h
 by_cases h1:zaT n=0
 ·by_cases h2:zdt n.1 l=0
  ·by_cases h3:zye n l
   ·obtain ⟨a,b,c⟩:=zCw h2
    exact ⟨zCi h1,b,a,c,h3⟩
   ·rw [zM h1,zM h2,qn h3] at h;cases h
  ·rw [zM h1,qn h2] at h;exact absurd h h2
 ·rw [qn h1] at h;exact absurd h h1
theorem zEj
      {n:Fab} {s:qv}:qu (bif (!(zj (s.2.2.2.1) (6))) then some ((1:Nat),(((),((2:Int),())),()))
      else bif (zt (n.2.2.2) (s.2.2.2.2.1)) then some (1,(((),(2,())),()))
       else some (0,(((),(0,())),()))) fun x=>(x.1=0∧x.2.1.2.1=0∧s.2.2.2.1=6∧s.2.2.2.2.1≤n.2.2.2)∨(x.1=1∧x.2.1.2.1=2∧¬(s.2.2.2.1=6∧s.2.2.2.2.1≤n.2.2.2)):=by
 refine zr (fun h=>zd (.inr ⟨rfl,rfl,fun hs=>?_⟩)) fun h1=>zr (fun h=>zd (.inr ⟨rfl,rfl,fun hs=>?_⟩)) fun h2=>zd (.inl ⟨rfl,rfl,jo (by simpa using h1),wG h2⟩)
 ·rw [wc hs.1] at h;cases h
 ·have:=yn h;omega
theorem zEk {n:Fab} {l:List qv} (h12:l.length≤12) {B:((Unit×(Int×(Int×Unit)))×Unit)→Option ((Nat×((Unit×(Int×(Int×Unit)))×Unit)) ⊕ ((Unit×(Int×(Int×Unit)))×Unit))}
  (hB :
     B=fun s4=>bif (zt (s4.1.2.2.1) ((((l).length:Nat):Int))) then opt (atI (l) (s4.1.2.2.1)) fun x5=>
     opt (bif (!(zj (x5.2.2.2.1) (6))) then some (1,(((),(2,())),()))
      else bif (zt (n.2.2.2) (x5.2.2.2.2.1)) then some (1,(((),(2,())),()))
       else some (0,(((),(s4.1.2.1,())),()))) fun x6=>
     bif (Nat.beq x6.1 0) then some (.inr (((),(x6.2.1.2.1,((wrF .i64 ((s4.1.2.2.1+1))),()))),()))
     else some (.inl (1,(((),(x6.2.1.2.1,(s4.1.2.2.1,()))),())))
    else some (.inl (0,(((),(s4.1.2.1,(s4.1.2.2.1,()))),())))) :
  qu (qh B qD (((),(0,(0,()))),())) fun x=>(x.1=0∧x.2.1.2.1=0∧zye n l)∨(x.1=1∧x.2.1.2.1=2∧¬zye n l):=by
 subst hB
 refine qt l.length (fun i st=>st=(((),(0,((i:Int),()))),())∧∀(k:Nat),k < i→∀s,l[k]?=some s→s.2.2.2.1=6∧s.2.2.2.2.1≤n.2.2.2) (by omega) ⟨rfl,fun k hk=>by omega⟩ ?_ ?_
 ·rintro i _ hi ⟨rfl,hp⟩
  have hx:l[i]?=some l[i]:=List.getElem?_eq_getElem hi
  have hm:=List.getElem_mem hi
  generalize l[i]=s at hx hm
  refine zh (qq (show (i:Int) < (l.length:Int) by omega)) (zn (zQ (n:=i) hx (zp zEj ?_)))
  rintro ⟨j,⟨⟨⟩,v,⟨⟩⟩,⟨⟩⟩ (⟨rfl,rfl,hq⟩ | ⟨rfl,rfl,hq⟩)
  ·refine zh rfl (zd (qR ⟨congrArg (fun z=>(((),((0:Int),(z,()))),())) (qO (by omega)),fun k hk r' hr'=>?_⟩))
   rcases Nat.lt_or_ge k i with h1 | h1
   ·exact hp k h1 r' hr'
   ·have:k=i:=by omega
    subst this
    rw [hx] at hr';cases hr';exact hq
  ·exact zg rfl (zd (zD (.inr ⟨rfl,rfl,fun h=>hq (h s hm)⟩)))
 ·rintro _ ⟨rfl,hp⟩
  refine zg (zZ (show ¬(l.length:Int) < (l.length:Int) by omega)) (zd (zD (.inl ⟨rfl,rfl,fun r hr=>?_⟩)))
  obtain ⟨k,hk,hk2⟩:=gm hr
  exact hp k hk r hk2
theorem zAZ {n:Fab} {l:List qv} (h:okP n l) {p:Int} (hp:Qy n.1 p) :
  (∃b v,(wk n l p)=(zAY b v,0)∧vC b∧zoy v∧b.2≤v.1∧load l p≠[]∧b=yK (load l p))∨((wk n l p).1=zB∧(wk n l p).2≠0):=by
 obtain ⟨g,hx,hge,hg,p0,p1⟩:=znH h.f hp
 obtain ⟨o1,o3⟩:=zAX hg p0 p1 h.f.f.2.1 h.f.f.2.2
 unfold wk
 rw [hge]
 by_cases hne:load l p=[]
 ·rw [zM hne];exact .inr ⟨rfl,by show (4:Int)≠0;decide⟩
 rw [qn hne,cond_false]
 rcases o3 with ⟨o4,o5⟩ | ⟨o4,o5⟩
 ·rw [o4,zM rfl,cond_true]
  unfold KN
  by_cases hb:vC (yK (load l p))
  ·rw [zM hb,cond_true,zM rfl,cond_true]
   by_cases hle:(yK (load l p)).2≤(ofS g (lnk n.1 p).2.2.1 n.2.2.2).1.1
   ·rw [zM hle];exact .inl ⟨_,_,rfl,hb,o5,hle,hne,rfl⟩
   ·rw [qn hle];exact .inr ⟨rfl,by show (141:Int)≠0;decide⟩
  ·rw [qn hb,cond_false,qn (by simp)];exact .inr ⟨rfl,by show (6:Int)≠0;decide⟩
 ·rw [o4,qn (by simp)];exact .inr ⟨rfl,by show (411:Int)≠0;decide⟩
theorem zGH {n:Fab} {l:List qv} (h:okP n l) {p:Int} (hp:Qy n.1 p):0≤(wk n l p).1.2.2.1∧(wk n l p).1.2.2.1≤1099780063233:=by
 rcases zAZ h hp with ⟨b,v,e,hb,hv,_⟩ | ⟨e,_⟩
 ·rw [e]
  have hd:=zyd hb hv.ok
  have h1:=hv.2.2.1;have h2:=hv.2.2.2
  show 0≤v.2+cl v.1 (b.1*1048576)∧v.2+cl v.1 (b.1*1048576)≤_
  omega
 ·rw [e];exact ⟨Int.le_refl _,by show (0:Int)≤_;decide⟩
noncomputable def zfT (n:Fab) (l:List qv):List Int→Int→Int×Int
 |[],s=>(s,0)
 |p::r,s=>bif tv ((wk n l p).2=0) then zfT n l r (s+((wk n l p).1.2.2.1+(lnk n.1 p).2.2.2+n.2.1.2.2.1)) else (0,(wk n l p).2)
noncomputable def Xg (n:Fab) (l:List qv) (r:List Int):Int×Int:=zfT n l r 0
theorem zCx {n:Fab} (h:znF n) {p:Int} (hp:Qy n.1 p):0≤(lnk n.1 p).2.2.2∧(lnk n.1 p).2.2.2≤10000:=by
 have hl:=(h.t.ls _ _ (zds hp)).1
 exact ⟨hl.2.2.2.2.2.2.1,hl.2.2.2.2.2.2.2⟩
noncomputable def zET (n:Fab) (l:List qv) (m:zam) (r:List Int):Option (Nat×((Int×(Int×(Int×(Int×Unit))))×(zam×Unit))):=
 qh (fun s32:((Int×(Int×(Int×(Int×Unit))))×((List (Int×(((Int×Int)×((Int×Int)×(Int×Int)))×Int)))×Unit))=>
          bif (zt (s32.1.2.2.2.1) ((((r).length:Nat):Int))) then opt (atI (r) (s32.1.2.2.2.1)) fun x33=>
           opt (bif (!(mpH (α:=(((Int×Int)×((Int×Int)×(Int×Int)))×Int)) (s32.2.1) (x33))) then opt (qh (fun s34:((Int×Unit)×(((List (Int×Int))×Unit)×(Unit×(Unit×Unit))))=>
              bif (zt (s34.1.1) ((((l).length:Nat):Int))) then opt (atI (l) (s34.1.1)) fun x35=>
               opt (qh (fun s36:((Int×(Int×Unit))×(((List (Int×Int))×Unit)×(Unit×(Unit×Unit))))=>
                bif (zt (s36.1.2.1) ((((x35.2.2.2.2.2.2.2.2).length:Nat):Int))) then opt (atI (x35.2.2.2.2.2.2.2.2) (s36.1.2.1)) fun x37=>
                 opt (jx ((x37,(x33,())))) fun x38=>
                 bif x38.1 then some (.inl (1,((s36.1.2.1,(s36.1.2.1,())),((s36.2.1.1,()),((),((),()))))))
                 else some (.inr ((s36.1.1,((wrF .i64 ((s36.1.2.1+1))),())),((s36.2.1.1,()),((),((),())))))
                else some (.inl (0,((s36.1.1,(s36.1.2.1,())),((s36.2.1.1,()),((),((),()))))))) qD ((0,(0,())),((s34.2.1.1,()),((),((),()))))) fun x39=>
               bif (Nat.beq x39.1 0) then some (.inr (((wrF .i64 ((s34.1.1+1))),()),((x39.2.2.1.1,()),((),((),())))))
               else bif (!(zt (x39.2.1.1) (0))) then bif (xj ((x39.2.2.1.1).length) (((x35.2.2.2.2.2.2.1::[])).length) (16)) then some (.inr (((wrF .i64 ((s34.1.1+1))),()),(((x39.2.2.1.1++(x35.2.2.2.2.2.2.1::[])),()),((),((),())))))
                 else none
                else some (.inr (((wrF .i64 ((s34.1.1+1))),()),((x39.2.2.1.1,()),((),((),())))))
              else some (.inl (0,((s34.1.1,()),((s34.2.1.1,()),((),((),()))))))) qD ((0,()),(([],()),((),((),()))))) fun x40=>
             bif (Nat.beq x40.1 0) then bif (zj ((((x40.2.2.1.1).length:Nat):Int)) (0)) then some (0,(((((0,0),((0,0),(0,0))),4),()),((mpP (α:=(((Int×Int)×((Int×Int)×(Int×Int)))×Int)) (s32.2.1) (x33) ((((0,0),((0,0),(0,0))),4))),())))
              else opt (gK ((n.1,(x33,())))) fun x41=>
               bif (!(zj (x41.2.1) (0))) then some (0,(((((0,0),((0,0),(0,0))),x41.2.1),()),((mpP (α:=(((Int×Int)×((Int×Int)×(Int×Int)))×Int)) (s32.2.1) (x33) ((((0,0),((0,0),(0,0))),x41.2.1))),())))
               else opt (atI (n.2.2.1) (x33)) fun x42=>
                opt (xK ((x42,(x41.1,(n.2.2.2,()))))) fun x43=>
                bif (!(zj (x43.2.1) (0))) then some (0,(((((0,0),((0,0),(0,0))),411),()),((mpP (α:=(((Int×Int)×((Int×Int)×(Int×Int)))×Int)) (s32.2.1) (x33) ((((0,0),((0,0),(0,0))),411))),())))
                else opt (uB ((x40.2.2.1.1,()))) fun x44=>
                 bif (!(zj (x44.2.1) (0))) then some (0,(((((0,0),((0,0),(0,0))),x44.2.1),()),((mpP (α:=(((Int×Int)×((Int×Int)×(Int×Int)))×Int)) (s32.2.1) (x33) ((((0,0),((0,0),(0,0))),x44.2.1))),())))
                 else opt (vI (((x44.1::[]),(x43.1,())))) fun x45=>
                  bif (!(zj (x45.2.1) (0))) then some (0,(((((0,0),((0,0),(0,0))),x45.2.1),()),((mpP (α:=(((Int×Int)×((Int×Int)×(Int×Int)))×Int)) (s32.2.1) (x33) ((((0,0),((0,0),(0,0))),x45.2.1))),())))
                  else opt (xL ((x44.1,(x43.1,())))) fun x46=>
                   bif (!(zj (x46.2.1) (0))) then some (0,(((((0,0),((0,0),(0,0))),x46.2.1),()),((mpP (α:=(((Int×Int)×((Int×Int)×(Int×Int)))×Int)) (s32.2.1) (x33) ((((0,0),((0,0),(0,0))),x46.2.1))),())))
                   else some (0,((((x44.1,(x43.1,(x45.1,x46.1))),0),()),((mpP (α:=(((Int×Int)×((Int×Int)×(Int×Int)))×Int)) (s32.2.1) (x33) (((x44.1,(x43.1,(x45.1,x46.1))),0))),())))
             else bif (zj ((((x40.2.2.1.1).length:Nat):Int)) (0)) then some (0,(((((0,0),((0,0),(0,0))),4),()),((mpP (α:=(((Int×Int)×((Int×Int)×(Int×Int)))×Int)) (s32.2.1) (x33) ((((0,0),((0,0),(0,0))),4))),())))
              else opt (gK ((n.1,(x33,())))) fun x47=>
               bif (!(zj (x47.2.1) (0))) then some (0,(((((0,0),((0,0),(0,0))),x47.2.1),()),((mpP (α:=(((Int×Int)×((Int×Int)×(Int×Int)))×Int)) (s32.2.1) (x33) ((((0,0),((0,0),(0,0))),x47.2.1))),())))
               else opt (atI (n.2.2.1) (x33)) fun x48=>
                opt (xK ((x48,(x47.1,(n.2.2.2,()))))) fun x49=>
                bif (!(zj (x49.2.1) (0))) then some (0,(((((0,0),((0,0),(0,0))),411),()),((mpP (α:=(((Int×Int)×((Int×Int)×(Int×Int)))×Int)) (s32.2.1) (x33) ((((0,0),((0,0),(0,0))),411))),())))
                else opt (uB ((x40.2.2.1.1,()))) fun x50=>
                 bif (!(zj (x50.2.1) (0))) then some (0,(((((0,0),((0,0),(0,0))),x50.2.1),()),((mpP (α:=(((Int×Int)×((Int×Int)×(Int×Int)))×Int)) (s32.2.1) (x33) ((((0,0),((0,0),(0,0))),x50.2.1))),())))
                 else opt (vI (((x50.1::[]),(x49.1,())))) fun x51=>
                  bif (!(zj (x51.2.1) (0))) then some (0,(((((0,0),((0,0),(0,0))),x51.2.1),()),((mpP (α:=(((Int×Int)×((Int×Int)×(Int×Int)))×Int)) (s32.2.1) (x33) ((((0,0),((0,0),(0,0))),x51.2.1))),())))
                  else opt (xL ((x50.1,(x49.1,())))) fun x52=>
                   bif (!(zj (x52.2.1) (0))) then some (0,(((((0,0),((0,0),(0,0))),x52.2.1),()),((mpP (α:=(((Int×Int)×((Int×Int)×(Int×Int)))×Int)) (s32.2.1) (x33) ((((0,0),((0,0),(0,0))),x52.2.1))),())))
                   else some (0,((((x50.1,(x49.1,(x51.1,x52.1))),0),()),((mpP (α:=(((Int×Int)×((Int×Int)×(Int×Int)))×Int)) (s32.2.1) (x33) (((x50.1,(x49.1,(x51.1,x52.1))),0))),())))
            else some (0,(((mpD (α:=(((Int×Int)×((Int×Int)×(Int×Int)))×Int)) (s32.2.1) (x33) ((((0,0),((0,0),(0,0))),0))),()),(s32.2.1,())))) fun x53=>
           bif (!(zj (x53.2.1.1.2) (0))) then some (.inl (1,((0,(x53.2.1.1.2,(s32.1.2.2.1,(s32.1.2.2.2.1,())))),(x53.2.2.1,()))))
           else opt (Wj ((n.1,(x33,())))) fun x54=>
            bif (!(zj (x54.2.1) (0))) then some (.inl (1,((0,(x54.2.1,(s32.1.2.2.1,(s32.1.2.2.2.1,())))),(x53.2.2.1,()))))
            else some (.inr ((s32.1.1,(s32.1.2.1,((wrF .i64 ((s32.1.2.2.1+(wrF .i64 (((wrF .i64 ((x53.2.1.1.1.2.2.1+x54.1)))+n.2.1.2.2.1)))))),((wrF .i64 ((s32.1.2.2.2.1+1))),())))),(x53.2.2.1,())))
          else some (.inl (0,((s32.1.1,(s32.1.2.1,(s32.1.2.2.1,(s32.1.2.2.2.1,())))),(s32.2.1,()))))) qD ((0,(0,(0,(0,())))),(m,()))
theorem zFO {n:Fab} {l:List qv} (h:okP n l) {r:List Int} (hr:yV n.1 r) {m:zam} (hm:Zo n l m) :
  qu (zET n l m r) fun x=>Zo n l x.2.2.1∧((x.1=0∧x.2.1.2.2.1=(Xg n l r).1∧(Xg n l r).2=0)∨(x.1=1∧x.2.1.1=0∧x.2.1.2.1=(Xg n l r).2∧(Xg n l r).2≠0∧(Xg n l r).1=0)):=by
 have r8:=hr.n1
 have hu:=h.f.u.2.2.1
 unfold zET
 refine qt r.length (fun i st=>∃s m',st=((0,(0,(s,((i:Int),())))),(m',()))∧Zo n l m'∧Xg n l r=zfT n l (r.drop i) s∧0≤s∧s≤1099780083233*(i:Int)) (by omega) ⟨0,m,rfl,hm,rfl,Int.le_refl _,by omega⟩ ?_ ?_
 ·rintro i _ hi ⟨s,m',rfl,hk,ht,s0,s1⟩
  have hx:r[i]?=some r[i]:=List.getElem?_eq_getElem hi
  have hpt:=hr.pt _ (List.getElem_mem hi)
  have hdr:r.drop i=r[i]::r.drop (i+1):=List.drop_eq_getElem_cons hi
  generalize r[i]=p at hx hpt hdr
  have hb:=zGH h hpt
  have hd:=zCx h.f hpt
  rw [hdr] at ht
  unfold zfT at ht
  refine zh (qq (show (i:Int) < (r.length:Int) by omega)) (zn (zQ (n:=i) hx (zp (zCv h hpt hk) ?_)))
  rintro ⟨j,⟨v,⟨⟩⟩,c,⟨⟩⟩ ⟨hv,hk2⟩
  simp only at hv hk2
  subst hv
  by_cases he:(wk n l p).2=0
  ·rw [zM he,cond_true] at ht
   refine zg (show (!zj (wk n l p).2 0)=false by rw [he];rfl) ?_
   rw [zt0 h.f.t hpt,zG]
   refine zg rfl (zd (qR ⟨_,c,?_,hk2,ht,by omega,by omega⟩))
   show ((0,(0,((wrF .i64 (s+(wrF .i64 ((wrF .i64 ((wk n l p).1.2.2.1+(lnk n.1 p).2.2.2))+n.2.1.2.2.1)))),((wrF .i64 ((i:Int)+1)),())))),(c,()))=_
   rw [qO (by omega),qT (z:=(wk n l p).1.2.2.1+(lnk n.1 p).2.2.2) (by omega) (by omega),qT (z:=(wk n l p).1.2.2.1+(lnk n.1 p).2.2.2+n.2.1.2.2.1) (by omega) (by omega),qT (by omega) (by omega)]
  ·rw [qn he,cond_false] at ht
   refine zh (show (!zj (wk n l p).2 0)=true by rw [jg he];rfl) (zd (zD ⟨hk2,.inr ⟨rfl,rfl,?_,?_,?_⟩⟩))
   ·rw [ht]
   ·rw [ht];exact he
   ·rw [ht]
 ·rintro _ ⟨s,m',rfl,hk,ht,s0,s1⟩
  rw [List.drop_length] at ht
  refine zg (zZ (show ¬(r.length:Int) < (r.length:Int) by omega)) (zd (zD ⟨hk,.inl ⟨rfl,?_,?_⟩⟩))
  ·rw [ht];rfl
  ·rw [ht];rfl
noncomputable def ze0 (l:List qv) (id:Int):Int×Int:=match xy (l,id,()) with
 |some (v,e,())=>(v,e)
 |none=>(0,0)
theorem zyf {l:List qv} (hn:l.length≤1000000000000000000) (id:Int):xy (l,id,())=some ((ze0 l id).1,(ze0 l id).2,())∧(((ze0 l id).2=0∧∃(i:Nat) (s:qv),(ze0 l id).1=(i:Int)∧l[i]?=some s∧s.1=id∧∀(k:Nat) b,k < i→l[k]?=some b→b.1≠id)∨((ze0 l id).2=4∧(ze0 l id).1=0∧∀s∈l,s.1≠id)):=by
 obtain ⟨v,e,h1,h3⟩:=zFF hn id
 have e1:ze0 l id=(v,e):=by unfold ze0;rw [h1]
 rw [e1]
 exact ⟨h1,h3⟩
def uN {α:Type} (f:α→Int):List α→Int
 |[]=>0
 |x::l=>if f x=0 then uN f l else f x
theorem YQ {α:Type} {f:α→Int}:∀{l:List α},uN f l=0↔∀x∈l,f x=0
 |[]=>by simp [uN]
 |x::l=>by
  unfold uN
  split
  ·rename_i h
   rw [YQ];simp [h]
  ·rename_i h
   simp [h]
theorem zh8 {α:Type} {f:α→Int}:∀{l:List α} {i:Nat} {x:α},l[i]?=some x→(∀(k:Nat) y,k < i→l[k]?=some y→f y=0)→f x≠0→uN f l=f x
 |[],i,x,h,_,_=>by simp at h
 |a::l,0,x,h,_,hx=>by
  simp at h;subst h
  unfold uN;rw [if_neg hx]
 |a::l,i+1,x,h,hk,hx=>by
  unfold uN
  rw [if_pos (hk 0 a (by omega) rfl)]
  exact zh8 (l:=l) (i:=i) (by simpa using h) (fun k y hk' hy=>hk (k+1) y (by omega) (by simpa using hy)) hx
noncomputable def Je (n:Fab) (l:List qv) (p:Nat):Int:=bif tv ((wk n l p).2=4) then 0 else bif tv ((wk n l p).2=0) then bif tv (n.2.1.2.2.2 < (wk n l p).1.2.2.2) then 7 else 0 else (wk n l p).2
noncomputable def zes (n:Fab) (l:List qv) (s:qv) (r:List Int):Int:=bif tv ((Xg n l r).2=0) then bif tv (s.2.2.2.2.2.2.2.1 < (Xg n l r).1) then 412 else 0 else (Xg n l r).2
noncomputable def ze1 (n:Fab) (l:List qv) (s:qv):Int:=uN (zes n l s) s.2.2.2.2.2.2.2.2
noncomputable def yM (n:Fab) (l:List qv):Int:=
 bif tv (zh7 n l=0) then bif tv (uN (Je n l) (List.range n.2.2.1.length)=0) then uN (ze1 n l) l else uN (Je n l) (List.range n.2.2.1.length) else zh7 n l
theorem zzy {n:Fab} (h:znF n) {i:Nat} (hi:i < n.2.2.1.length):Qy n.1 (i:Int):=⟨by omega,by have:=h.f.1;omega⟩
theorem Uf {n:Fab} (hn:n.2.2.1.length≤1000000000000000000) (l:List qv):xW (n,l,())=some (yM n l,()):=by
 rw [zqw];unfold zeL yM zh7
 rw [zbe hn,zG]
 by_cases h1:zaT n=0
 rotate_left
 ·rw [qn h1,cond_false]
  refine kO (zh (show (!zj (zaT n) 0)=true by rw [jg h1];rfl) (zh (show (!zj (zaT n) 0)=true by rw [jg h1];rfl) (zd ?_)))
  rw [qn h1];rfl
 have hf:=zCi h1
 refine kO (zg (show (!zj (zaT n) 0)=false by rw [h1];rfl) ?_)
 rw [zl1 hf.t,zG,zM h1,cond_true]
 by_cases h2:zdt n.1 l=0
 rotate_left
 ·rw [qn h2,cond_false]
  refine zh (show (!zj (zdt n.1 l) 0)=true by rw [jg h2];rfl) (zh (show (!zj (zdt n.1 l) 0)=true by rw [jg h2];rfl) (zd ?_))
  rw [qn h2];rfl
 obtain ⟨h12,ha,hd⟩:=zCw h2
 refine zg (show (!zj (zdt n.1 l) 0)=false by rw [h2];rfl) (zp (zEk (n:=n) h12 rfl) ?_)
 rw [zM h2,cond_true]
 rintro ⟨j,⟨⟨⟩,v,w,⟨⟩⟩,⟨⟩⟩ (⟨rfl,rfl,hc⟩ | ⟨rfl,rfl,hc⟩)
 rotate_left
 ·rw [qn hc,cond_false,qn (by simp)]
  exact zg rfl (zh rfl (zd rfl))
 rw [zM hc,cond_true,zM rfl,cond_true]
 have ok:okP n l:=⟨hf,ha,h12,hd,hc⟩
 have hfg:=ok.f.f.1
 have hls:=ok.f.t.sz.ls
 refine zh rfl (zp (J:=fun x=>Zo n l x.2.2.1∧x.2.1.1=uN (Je n l) (List.range n.2.2.1.length)) (qt n.2.2.1.length (fun i st=>∃m,st=((0,((i:Int),())),(m,()))∧Zo n l m∧∀(k:Nat),k < i→Je n l k=0) (by omega) ⟨[],rfl,zCu n l,fun k hk=>by omega⟩ ?_ ?_) ?_)
 ·rintro i _ hi ⟨m,rfl,hm,hp⟩
  have hpt:=zzy ok.f hi
  have at_:Je n l i≠0→uN (Je n l) (List.range n.2.2.1.length)=Je n l i:=fun hne=>zh8 (i:=i) (by simp [hi]) (fun k y hk hy=>by
   rw [List.getElem?_range (by omega)] at hy;cases hy;exact hp k hk) hne
  have go:Je n l i=0→∀c,Zo n l c→qu (some (Sum.inr (((0:Int),((wrF .i64 ((i:Int)+1)),())),(c,())):(Nat×((Int×(Int×Unit))×(zam×Unit))) ⊕ ((Int×(Int×Unit))×(zam×Unit)))) (Nxt (fun x=>Zo n l x.2.2.1∧x.2.1.1=uN (Je n l) (List.range n.2.2.1.length)) fun st=>∃m,st=((0,(((i+1:Nat):Int),())),(m,()))∧Zo n l m∧∀(k:Nat),k < i+1→Je n l k=0):=fun h0 c hk=>by
   refine zd (qR ⟨c,congrArg (fun z=>((0,(z,())),(c,()))) (qO (by omega)),hk,fun k hk'=>?_⟩)
   rcases Nat.lt_or_ge k i with h | h
   ·exact hp k h
   ·have:k=i:=by omega
    rw [this];exact h0
  refine zh (qq (show (i:Int) < (n.2.2.1.length:Int) by omega)) (zp (zCv ok hpt hm) ?_)
  rintro ⟨j,⟨v,⟨⟩⟩,c,⟨⟩⟩ ⟨hv,hk⟩
  simp only at hv hk
  subst hv
  unfold Je at at_ go
  by_cases h4:(wk n l (i:Int)).2=4
  ·rw [zM h4] at go
   exact zh (wc h4) (go rfl c hk)
  rw [qn h4,cond_false] at at_ go
  refine zg (jg h4) ?_
  by_cases h0:(wk n l (i:Int)).2=0
  ·rw [zM h0,cond_true] at at_ go
   refine zg (show (!zj (wk n l (i:Int)).2 0)=false by rw [h0];rfl) ?_
   by_cases hcc:n.2.1.2.2.2 < (wk n l (i:Int)).1.2.2.2
   ·rw [zM hcc,cond_true] at at_
    exact zh (qq hcc) (zd (zD ⟨hk,(at_ (by decide)).symm⟩))
   ·rw [qn hcc] at go
    exact zg (zZ hcc) (go rfl c hk)
  ·rw [qn h0,cond_false] at at_
   exact zh (show (!zj (wk n l (i:Int)).2 0)=true by rw [jg h0];rfl) (zd (zD ⟨hk,(at_ h0).symm⟩))
 ·rintro _ ⟨m,rfl,hm,hp⟩
  exact zg (zZ (show ¬(n.2.2.1.length:Int) < (n.2.2.1.length:Int) by omega)) (zd (zD ⟨hm,(YQ.2 fun x hx=>hp x (List.mem_range.1 hx)).symm⟩))
 rintro ⟨j,⟨v,w,⟨⟩⟩,c,⟨⟩⟩ ⟨hk,hv⟩
 simp only at hk hv
 subst hv
 by_cases h0:uN (Je n l) (List.range n.2.2.1.length)=0
 rotate_left
 ·rw [qn h0]
  exact zh (show (!zj (uN (Je n l) (List.range n.2.2.1.length)) 0)=true by rw [jg h0];rfl) (zd rfl)
 rw [zM h0,cond_true]
 refine zg (show (!zj (uN (Je n l) (List.range n.2.2.1.length)) 0)=false by rw [h0];rfl) ?_
 refine zp (J:=fun x=>(x.1=0∧uN (ze1 n l) l=0)∨(x.1=1∧x.2.1.1=uN (ze1 n l) l∧uN (ze1 n l) l≠0)) (qt l.length (fun i st=>∃m,st=((0,((i:Int),())),(m,()))∧Zo n l m∧∀(k:Nat),k < i→∀s,l[k]?=some s→ze1 n l s=0) (by omega) ⟨c,rfl,hk,fun k hk=>by omega⟩ ?_ ?_) ?_
 ·rintro i _ hi ⟨m,rfl,hm,hp⟩
  have hx:l[i]?=some l[i]:=List.getElem?_eq_getElem hi
  have hmm:=List.getElem_mem hi
  generalize l[i]=s at hx hmm
  have hs:=ok.a s hmm
  have rn:=hs.rn
  have at_:ze1 n l s≠0→uN (ze1 n l) l=ze1 n l s:=fun hne=>zh8 hx (fun k y hk hy=>hp k hk y hy) hne
  refine zh (qq (show (i:Int) < (l.length:Int) by omega)) (zn (zQ (n:=i) hx ?_))
  refine zp (J:=fun x=>Zo n l x.2.2.1∧((x.1=0∧x.2.1.1=0∧ze1 n l s=0)∨(x.1=1∧x.2.1.1=ze1 n l s∧ze1 n l s≠0))) (qt s.2.2.2.2.2.2.2.2.length (fun k st=>∃m,st=((0,((k:Int),())),(m,()))∧Zo n l m∧∀(k':Nat),k' < k→∀r,s.2.2.2.2.2.2.2.2[k']?=some r→zes n l s r=0) (by omega) ⟨m,rfl,hm,fun k hk=>by omega⟩ ?_ ?_) ?_
  ·rintro k _ hk ⟨m,rfl,hm,hpk⟩
   have hy:s.2.2.2.2.2.2.2.2[k]?=some s.2.2.2.2.2.2.2.2[k]:=List.getElem?_eq_getElem hk
   have hmr:=List.getElem_mem hk
   generalize s.2.2.2.2.2.2.2.2[k]=r at hy hmr
   have atr:zes n l s r≠0→ze1 n l s=zes n l s r:=fun hne=>zh8 hy (fun k' y hk hy=>hpk k' hk y hy) hne
   refine zh (qq (show (k:Int) < (s.2.2.2.2.2.2.2.2.length:Int) by omega)) (zn (zQ (n:=k) hy (zp (zFO ok (hs.rt r hmr).1 hm) ?_)))
   unfold zes at atr
   rintro ⟨j,⟨a1,a2,a3,a4,⟨⟩⟩,c,⟨⟩⟩ ⟨hkc,⟨rfl,h1,h2⟩ | ⟨rfl,h1,h2,h3,h4⟩⟩
   ·simp only at h1 hkc
    subst h1
    rw [zM h2,cond_true] at atr
    refine zh rfl ?_
    by_cases hcc:s.2.2.2.2.2.2.2.1 < (Xg n l r).1
    ·rw [zM hcc,cond_true] at atr
     exact zh (qq hcc) (zd (zD ⟨hkc,.inr ⟨rfl,(atr (by decide)).symm,by rw [atr (by decide)];decide⟩⟩))
    ·refine zg (zZ hcc) (zd (qR ⟨c,congrArg (fun z=>(((0:Int),(z,())),(c,()))) (qO (by omega)),hkc,fun k' hk' r' hr'=>?_⟩))
     rcases Nat.lt_or_ge k' k with h | h
     ·exact hpk k' h r' hr'
     ·have:k'=k:=by omega
      subst this
      rw [hy] at hr';cases hr'
      unfold zes;rw [zM h2,qn hcc];rfl
   ·simp only at h1 h2 hkc
    subst h1 h2
    rw [qn h3,cond_false] at atr
    exact zg rfl (zh (show (!zj (Xg n l r).2 0)=true by rw [jg h3];rfl) (zd (zD ⟨hkc,.inr ⟨rfl,(atr h3).symm,by rw [atr h3];exact h3⟩⟩)))
  ·rintro _ ⟨m,rfl,hm,hpk⟩
   refine zg (zZ (show ¬(s.2.2.2.2.2.2.2.2.length:Int) < (s.2.2.2.2.2.2.2.2.length:Int) by omega)) (zd (zD ⟨hm,.inl ⟨rfl,rfl,YQ.2 fun r hr=>?_⟩⟩))
   obtain ⟨k,hk,hk2⟩:=gm hr
   exact hpk k hk r hk2
  ·rintro ⟨j,⟨v,w,⟨⟩⟩,c,⟨⟩⟩ ⟨hkc,⟨rfl,h1,hq⟩ | ⟨rfl,h1,hq⟩⟩
   ·simp only at h1 hkc
    subst h1
    refine zh rfl (zd (qR ⟨c,congrArg (fun z=>(((0:Int),(z,())),(c,()))) (qO (by omega)),hkc,fun k' hk' s' hs'=>?_⟩))
    rcases Nat.lt_or_ge k' i with h | h
    ·exact hp k' h s' hs'
    ·have:k'=i:=by omega
     subst this
     rw [hx] at hs';cases hs';exact hq
   ·simp only at h1
    subst h1
    exact zg rfl (zd (zD (.inr ⟨rfl,(at_ hq).symm,by rw [at_ hq];exact hq⟩)))
 ·rintro _ ⟨m,rfl,hm,hp⟩
  refine zg (zZ (show ¬(l.length:Int) < (l.length:Int) by omega)) (zd (zD (.inl ⟨rfl,YQ.2 fun s hs=>?_⟩)))
  obtain ⟨k,hk,hk2⟩:=gm hs
  exact hp k hk s hk2
 ·rintro ⟨j,⟨v,w,⟨⟩⟩,c,⟨⟩⟩ (⟨rfl,hq⟩ | ⟨rfl,h1,hq⟩)
  ·rw [hq];exact zh rfl (zd rfl)
  ·exact zg rfl (zd h1)
theorem zha {n:Fab} {l:List qv} (h:yM n l=0):okP n l:=by
 unfold yM at h
 by_cases h1:zh7 n l=0
 ·exact zFN h1
 ·rw [qn h1] at h;exact absurd h h1
noncomputable def zcl (n:Fab) (l:List qv) (s:qv):List qv×Int:=
 bif tv (yM n l=0) then bif tv (KB n.1 s) then bif tv (yM n (l++[s])=0) then (l++[s],0) else ([],yM n (l++[s])) else ([],321) else ([],yM n l)
theorem zst {n:Fab} (hn:n.2.2.1.length≤1000000000000000000) (l:List qv) (s:qv):Yh (n,l,s,())=some ((zcl n l s).1,(zcl n l s).2,()):=by
 rw [zqy];unfold zeM zcl
 rw [Uf hn,zG]
 by_cases h:yM n l=0
 rotate_left
 ·rw [qn h,jg h];rfl
 have ok:=zha h
 have h12:=ok.n12
 rw [zM h,h,cond_true,show (!zj 0 0)=false from rfl,cond_false,zqL ok.f.t,zG]
 by_cases hs:KB n.1 s
 rotate_left
 ·rw [qn hs];rfl
 rw [zM hs,cond_true,cond_true,show (!zj 0 0)=false from rfl,cond_false,zx0,zG]
 refine yN (zh (Qo (by show (l.length+1)*96≤_;omega) (by show l.length+1≤_;omega)) ?_)
 rw [Uf hn,zG]
 by_cases h2:yM n (l++[s])=0
 ·rw [zM h2]
  exact zg (show (!zj (yM n (l++[s])) 0)=false by rw [h2];rfl) (zd rfl)
 ·rw [qn h2]
  exact zh (show (!zj (yM n (l++[s])) 0)=true by rw [jg h2];rfl) (zd rfl)
noncomputable def zdw (n:Fab) (l:List qv) (id:Int):List qv×Int:=
 bif tv (yM n l=0) then bif tv ((ze0 l id).2=0) then (l.take (ze0 l id).1.toNat++l.drop ((ze0 l id).1.toNat+1),0) else ([],(ze0 l id).2) else ([],yM n l)
theorem zo3 {n:Fab} (hn:n.2.2.1.length≤1000000000000000000) (l:List qv) (id:Int):gM (n,l,id,())=some ((zdw n l id).1,(zdw n l id).2,()):=by
 rw [zny];unfold zb4 zdw
 rw [Uf hn,zG]
 by_cases h:yM n l=0
 rotate_left
 ·rw [qn h,jg h];rfl
 have ok:=zha h
 have h12:=ok.n12
 obtain ⟨i1,i3⟩:=zyf (l:=l) (by omega) id
 rw [zM h,h,cond_true,show (!zj 0 0)=false from rfl,cond_false,i1,zG]
 rcases i3 with ⟨e0,i,s,ei,hx,_⟩ | ⟨e4,_⟩
 ·have hil:i < l.length:=by grind
  rw [e0,zM rfl,cond_true,ei,show (!zj 0 0)=false from rfl,cond_false,zkW l i (by omega),zG,qO (by omega),zep l (i+1) (by omega),zG,Int.toNat_natCast]
  refine yN (zh (Qo (by simp;omega) (by simp;omega)) (zd rfl))
 ·rw [e4,qn (by simp)];rfl
theorem znI (b:Int×Int) (l:List (Int×Int)):yK (b::l)=(b.1+(yK l).1,b.2+(yK l).2):=by
 unfold yK;simp
theorem zEl {a b:List (Int×Int)} (h:a.Sublist b) (hb:∀x∈b,vC x):(yK a).1≤(yK b).1∧(yK a).2≤(yK b).2:=by
 induction h with
 |slnil=>exact ⟨Int.le_refl _,Int.le_refl _⟩
 |cons x _ ih=>
  obtain ⟨⟨h1,_⟩,h2,_⟩:=hb x (by simp)
  have:=ih fun y hy=>hb y (by simp [hy])
  rw [znI]
  exact ⟨by show _≤x.1+_;omega,by show _≤x.2+_;omega⟩
 |cons_cons x _ ih=>
  have:=ih fun y hy=>hb y (by simp [hy])
  rw [znI,znI]
  exact ⟨by show x.1+_≤x.1+_;omega,by show x.2+_≤x.2+_;omega⟩
theorem zyg {l m:List qv} (h:l.Sublist m) (p:Int):(load l p).Sublist (load m p):=by
 unfold load;exact (h.filter _).map _
theorem zyh {l:List qv}:zqK l↔l.Pairwise fun a b=>a.1≠b.1:=by
 rw [List.pairwise_iff_getElem]
 constructor
 ·intro h i j hi hj hij
  exact h j i _ _ hij (List.getElem?_eq_getElem hj) (List.getElem?_eq_getElem hi)
 ·intro h i k a b hki ha hb
  obtain ⟨hi,rfl⟩:=List.getElem?_eq_some_iff.1 ha
  obtain ⟨hk,rfl⟩:=List.getElem?_eq_some_iff.1 hb
  exact h k i hk hi hki
theorem zCy {n:Fab} {l m:List qv} (h:m.Sublist l) (hl:okP n l):okP n m:=
 ⟨hl.f,fun s hs=>hl.a s (h.mem hs),by have:=hl.n12;have:=h.length_le;omega,zyh.2 ((zyh.1 hl.d).sublist h),fun s hs=>hl.c s (h.mem hs)⟩
theorem zFP {n:Fab} (h:znF n):zaT n=0:=by
 unfold zaT;rw [zM h.t,zM h.u,zM h.g,zM h.f];rfl
theorem zyi {n:Fab} {l:List qv} (h:okP n l):zh7 n l=0:=by
 have e:zdt n.1 l=0:=by unfold zdt;rw [zM h.n12,zM h.a,zM h.d];rfl
 unfold zh7
 rw [zM (zFP h.f),zM e,zM (show zye n l from h.c)];rfl
theorem znJ {n:Fab} {l:List qv}:yM n l=0↔okP n l∧(∀p < n.2.2.1.length,Je n l p=0)∧∀s∈l,∀r∈s.2.2.2.2.2.2.2.2,zes n l s r=0:=by
 constructor
 ·intro h
  have ho:=zha h
  unfold yM at h
  rw [zM (zyi ho),cond_true] at h
  by_cases h1:uN (Je n l) (List.range n.2.2.1.length)=0
  ·rw [zM h1,cond_true] at h
   exact ⟨ho,fun p hp=>YQ.1 h1 p (List.mem_range.2 hp),fun s hs r hr=>YQ.1 (YQ.1 h s hs) r hr⟩
  ·rw [qn h1,cond_false] at h;exact absurd h h1
 ·rintro ⟨ho,h1,h2⟩
  unfold yM
  rw [zM (zyi ho),cond_true,zM (YQ.2 fun p hp=>h1 p (List.mem_range.1 hp)),cond_true]
  exact YQ.2 fun s hs=>YQ.2 fun r hr=>h2 s hs r hr
theorem zGI {n:Fab} {l:List qv} {p:Int} (h:(wk n l p).2=0):∃v,load l p≠[]∧ofS ((n.2.2.1[p.toNat]?).getD ([],0)) (lnk n.1 p).2.2.1 n.2.2.2=(v,0)∧vC (yK (load l p))∧(yK (load l p)).2≤v.1∧wk n l p=(zAY (yK (load l p)) v,0):=by
 unfold wk at h ⊢
 generalize ofS ((n.2.2.1[p.toNat]?).getD ([],0)) (lnk n.1 p).2.2.1 n.2.2.2=o at h ⊢
 obtain ⟨v,e⟩:=o
 by_cases h1:load l p=[]
 ·rw [zM h1,cond_true] at h;cases h
 rw [qn h1,cond_false] at h ⊢
 by_cases h2:e=0
 ·subst h2
  rw [zM rfl,cond_true] at h ⊢
  by_cases h3:vC (yK (load l p))
  ·have e:KN (load l p)=(yK (load l p),0):=by unfold KN;rw [zM h3];rfl
   rw [e,zM rfl,cond_true] at h ⊢
   by_cases h4:(yK (load l p)).2≤v.1
   ·rw [zM h4,cond_true] at h ⊢
    exact ⟨v,h1,rfl,h3,h4,rfl⟩
   ·rw [qn h4,cond_false] at h;cases h
  ·have e:KN (load l p)=((0,0),6):=by unfold KN;rw [qn h3];rfl
   rw [e,qn (by decide),cond_false] at h;cases h
 ·rw [qn h2,cond_false] at h;cases h
theorem zGJ {n:Fab} {l:List qv} {p:Int} {v:Int×Int} (h1:load l p≠[]) (h2:ofS ((n.2.2.1[p.toNat]?).getD ([],0)) (lnk n.1 p).2.2.1 n.2.2.2=(v,0)) (h3:vC (yK (load l p))) (h4:(yK (load l p)).2≤v.1):wk n l p=(zAY (yK (load l p)) v,0):=by
 have e:KN (load l p)=(yK (load l p),0):=by unfold KN;rw [zM h3];rfl
 unfold wk
 rw [h2,e,qn h1,cond_false,zM rfl,cond_true,cond_true,zM h4,cond_true]
theorem zzz {n:Fab} {l m:List qv} (ho:okP n l) (hs:m.Sublist l) {p:Int} (hp:Qy n.1 p) (h:(wk n l p).2=0) (hm:load m p≠[]) :
  (wk n m p).2=0∧(wk n m p).1.2.2.1≤(wk n l p).1.2.2.1∧(wk n m p).1.2.2.2≤(wk n l p).1.2.2.2:=by
 obtain ⟨v,h1,h2,h3,h4,h5⟩:=zGI h
 obtain ⟨lb1,lb2⟩:=zt9 ho p
 obtain ⟨mb1,mb2⟩:=zt9 (zCy hs ho) p
 obtain ⟨s1,s2⟩:=zEl (zyg hs p) lb2
 obtain ⟨m1,m2,m3,m4⟩:=zt7 mb2
 have m0:1≤(load m p).length:=by
  rcases Nat.eq_zero_or_pos (load m p).length with h0 | h0
  ·exact absurd (List.length_eq_zero_iff.1 h0) hm
  ·exact h0
 obtain ⟨⟨b1,b2⟩,b3,b4⟩:=h3
 obtain ⟨g,hx,hge,hg,p0,p1⟩:=znH ho.f hp
 have hv:zoy v:=by
  obtain ⟨_,o3⟩:=zAX hg p0 p1 ho.f.f.2.1 ho.f.f.2.2
  rw [hge] at h2
  rw [h2] at o3
  rcases o3 with ⟨_,h⟩ | ⟨h,_⟩
  ·exact h
  ·cases h
 obtain ⟨v1,_,v3,_⟩:=hv
 have em:=zGJ (n:=n) (l:=m) (p:=p) hm h2 ⟨⟨by omega,by omega⟩,by omega,by omega⟩ (by omega)
 rw [em,h5]
 refine ⟨rfl,?_,?_⟩
 ·show v.2+cl v.1 ((yK (load m p)).1*1048576)≤v.2+cl v.1 ((yK (load l p)).1*1048576)
  have:=zzw (d:=v.1) (by omega) (show (yK (load m p)).1*1048576≤(yK (load l p)).1*1048576 by omega)
  omega
 ·show (yK (load m p)).1+cl 1048576 ((yK (load m p)).2*v.2)≤(yK (load l p)).1+cl 1048576 ((yK (load l p)).2*v.2)
  have:=zzw (d:=1048576) (by omega) (Int.mul_le_mul_of_nonneg_right s2 v3)
  omega
theorem zu7 {n:Fab} {l m:List qv}:∀{r:List Int} {s s':Int},(∀p∈r,(wk n l p).2=0→(wk n m p).2=0∧(wk n m p).1.2.2.1≤(wk n l p).1.2.2.1)→(zfT n l r s).2=0→s'≤s→(zfT n m r s').2=0∧(zfT n m r s').1≤(zfT n l r s).1
 |[],s,s',_,_,h=>⟨rfl,h⟩
 |p::r,s,s',hp,h,hs=>by
  unfold zfT at h ⊢
  by_cases h1:(wk n l p).2=0
  ·obtain ⟨h2,h3⟩:=hp p (by simp) h1
   rw [zM h1,cond_true] at h ⊢
   rw [zM h2,cond_true]
   exact zu7 (fun q hq=>hp q (by simp [hq])) h (by omega)
  ·rw [qn h1,cond_false] at h;exact absurd h h1
theorem zEm {l:List qv} {s:qv} {r:List Int} {p:Int} (hs:s∈l) (hr:r∈s.2.2.2.2.2.2.2.2) (hp:p∈r):load l p≠[]:=by
 unfold load
 intro h
 have:=List.map_eq_nil_iff.1 h
 have hm:s∈l.filter fun s=>tv (zbf s p):=List.mem_filter.2 ⟨hs,zM ⟨r,hr,hp⟩⟩
 rw [this] at hm;cases hm
theorem zEn (b1 b2 b3:Bool) (x:Bnd):(bif b1 then bif b2 then bif b3 then (x,(0:Int)) else (zB,141) else (zB,6) else (zB,411)).2≠4:=by
 cases b1<;>cases b2<;>cases b3<;>simp
theorem zCz {n:Fab} {l m:List qv} (hs:m.Sublist l) (hl:yM n l=0):yM n m=0:=by
 obtain ⟨ho,h1,h2⟩:=znJ.1 hl
 refine znJ.2 ⟨zCy hs ho,fun p hp=>?_,fun s hsm r hr=>?_⟩
 ·have hpp:=zzy ho.f hp
  by_cases hm:load m (p:Int)=[]
  ·have e:wk n m (p:Int)=(zB,4):=by unfold wk;rw [zM hm];rfl
   unfold Je
   rw [e,zM rfl];rfl
  have h3:=h1 p hp
  have h4:(wk n l (p:Int)).2=0:=by
   by_cases h0:(wk n l (p:Int)).2=0
   ·exact h0
   ·unfold Je at h3
    by_cases h44:(wk n l (p:Int)).2=4
    ·exfalso
     unfold wk at h44
     by_cases hle:load l (p:Int)=[]
     ·have:=(zyg hs (p:Int)).length_le
      rw [hle] at this
      exact hm (List.length_eq_zero_iff.1 (by simpa using this))
     ·rw [qn hle,cond_false] at h44
      exact absurd h44 (zEn _ _ _ _)
    ·rw [qn h44,cond_false,qn h0,cond_false] at h3;exact h3
  obtain ⟨e1,e2,e3⟩:=zzz ho hs hpp h4 hm
  unfold Je at h3 ⊢
  rw [h4,qn (by decide),cond_false,zM rfl,cond_true] at h3
  rw [e1,qn (by decide),cond_false,zM rfl,cond_true]
  by_cases h5:n.2.1.2.2.2 < (wk n l (p:Int)).1.2.2.2
  ·rw [zM h5] at h3;cases h3
  ·rw [qn (by omega)];rfl
 ·have hsl:=hs.mem hsm
  have h3:=h2 s hsl r hr
  have hrt:=((ho.a s hsl).rt r hr).1
  unfold zes at h3 ⊢
  by_cases h0:(Xg n l r).2=0
  ·rw [zM h0,cond_true] at h3
   obtain ⟨e1,e2⟩:=zu7 (n:=n) (l:=l) (m:=m) (r:=r) (s:=0) (s':=0) (fun p hp h=>by
    obtain ⟨a,b,_⟩:=zzz ho hs (hrt.pt p hp) h (zEm hsm hr hp)
    exact ⟨a,b⟩) h0 (Int.le_refl _)
   have e1:(Xg n m r).2=0:=e1
   have e2:(Xg n m r).1≤(Xg n l r).1:=e2
   rw [zM e1,cond_true]
   by_cases h5:s.2.2.2.2.2.2.2.1 < (Xg n l r).1
   ·rw [zM h5] at h3;cases h3
   ·rw [qn (by omega)];rfl
  ·rw [qn h0,cond_false] at h3;exact absurd h3 h0
end Go.Proofs.YtleloebnggepoaaGreat.sg
namespace Go.Fz.Sy
section
variable {α:Type} (κ:α→Int)
def Srt (l:List α):Prop:=l.Pairwise fun a b=>κ a < κ b
def lo (k:Int) (l:List α):List α:=l.filter fun a=>decide (κ a < k)
def hi (k:Int) (l:List α):List α:=l.filter fun a=>decide (k < κ a)
def ins (x:α) (l:List α):List α:=lo κ (κ x) l++x::hi κ (κ x) l
variable {κ}
theorem zsu {k:Int} {l:List α} {x:α}:x∈lo κ k l↔x∈l∧κ x < k:=by unfold lo;simp
theorem zyj {k:Int} {l:List α} {x:α}:x∈hi κ k l↔x∈l∧k < κ x:=by unfold hi;simp
theorem zfZ {x y:α} {l:List α}:y∈ins κ x l↔y=x∨(y∈l∧κ y≠κ x):=by
 unfold ins
 rw [List.mem_append,List.mem_cons,zsu,zyj]
 constructor
 ·rintro (⟨h1,h2⟩ | h | ⟨h1,h2⟩)
  ·exact .inr ⟨h1,by omega⟩
  ·exact .inl h
  ·exact .inr ⟨h1,by omega⟩
 ·rintro (h | ⟨h1,h2⟩)
  ·exact .inr (.inl h)
  ·rcases Int.lt_or_lt_of_ne h2 with h | h
   ·exact .inl ⟨h1,h⟩
   ·exact .inr (.inr ⟨h1,h⟩)
theorem zjK {x:α} {l:List α} (h:Srt κ l):Srt κ (ins κ x l):=by
 unfold Srt ins
 refine List.pairwise_append.2 ⟨h.filter _,List.pairwise_cons.2 ⟨fun y hy=>(zyj.1 hy).2,h.filter _⟩,fun a ha b hb=>?_⟩
 have h1:=(zsu.1 ha).2
 rcases List.mem_cons.1 hb with rfl | hb
 ·exact h1
 ·have:=(zyj.1 hb).2;omega
theorem zFQ {l:List α} (h:Srt κ l) {a b:α} (ha:a∈l) (hb:b∈l) (e:κ a=κ b):a=b:=by
 unfold Srt at h
 induction l with
 |nil=>cases ha
 |cons x l ih=>
  obtain ⟨h1,h2⟩:=List.pairwise_cons.1 h
  rcases List.mem_cons.1 ha with ea | ha2
  ·rcases List.mem_cons.1 hb with eb | hb2
   ·rw [ea,eb]
   ·have:=h1 _ hb2;subst ea;omega
  ·rcases List.mem_cons.1 hb with eb | hb2
   ·have:=h1 _ ha2;subst eb;omega
   ·exact ih h2 ha2 hb2
theorem zua:Srt κ ([]:List α):=List.Pairwise.nil
theorem zCA {k:Int} {l:List α} (h:∀a∈l,κ a < k):lo κ k l=l:=List.filter_eq_self.2 fun a ha=>decide_eq_true (h a ha)
theorem zzA {k:Int} {l:List α} (h:∀a∈l,¬κ a < k):lo κ k l=[]:=List.filter_eq_nil_iff.2 fun a ha=>by simp;have:=h a ha;omega
theorem zCB {k:Int} {l:List α} (h:∀a∈l,k < κ a):hi κ k l=l:=List.filter_eq_self.2 fun a ha=>decide_eq_true (h a ha)
theorem zzB {k:Int} {l:List α} (h:∀a∈l,¬k < κ a):hi κ k l=[]:=List.filter_eq_nil_iff.2 fun a ha=>by simp;have:=h a ha;omega
theorem zGK {k:Int} {l m:List α}:lo κ k (l++m)=lo κ k l++lo κ k m:=List.filter_append _ _
theorem zCC {k:Int} {l m:List α}:hi κ k (l++m)=hi κ k l++hi κ k m:=List.filter_append _ _
theorem zEo {l:List α} (h:Srt κ l) {i:Nat} {k:Int} (h1:∀j a,j < i→l[j]?=some a→κ a < k) (h2:∀a,l[i]?=some a→k≤κ a) (hi':i≤l.length) :
  l.take i=lo κ k l∧(∀a∈l.drop i,k≤κ a):=by
 have ht:∀a∈l.take i,κ a < k:=fun a ha=>by
  obtain ⟨j,hj,rfl⟩:=List.mem_iff_getElem.1 ha
  have hj':j < i:=by simp at hj;omega
  exact h1 j _ hj' (by simp)
 have hd:∀a∈l.drop i,k≤κ a:=fun a ha=>by
  rcases Nat.lt_or_ge i l.length with hlt | hge
  ·have hx:l[i]?=some l[i]:=List.getElem?_eq_getElem hlt
   have e:l.drop i=l[i]::l.drop (i+1):=List.drop_eq_getElem_cons hlt
   have hk:=h2 _ hx
   have hp:Srt κ (l.drop i):=List.Pairwise.sublist (List.drop_sublist i l) h
   rw [e] at ha hp
   rcases List.mem_cons.1 ha with rfl | ha
   ·exact hk
   ·have:=(List.pairwise_cons.1 hp).1 a ha;omega
  ·rw [List.drop_eq_nil_of_le hge] at ha;cases ha
 refine ⟨?_,hd⟩
 have e:l=l.take i++l.drop i:=(List.take_append_drop i l).symm
 conv=>rhs;rw [e,zGK]
 rw [zCA ht,zzA fun a ha=>by have:=hd a ha;omega,List.append_nil]
theorem zEp {l:List α} (h:Srt κ l) {i:Nat} {k:Int} (h1:∀a∈l.take i,κ a < k) (h2:∀a∈l.drop i,k≤κ a) (h3:∀a∈l,κ a≠k):l.drop i=hi κ k l:=by
 have e:l=l.take i++l.drop i:=(List.take_append_drop i l).symm
 conv=>rhs;rw [e,zCC]
 rw [zzB fun a ha=>by have:=h1 a ha;omega,zCB fun a ha=>by have:=h2 a ha;have:=h3 a (List.mem_of_mem_drop ha);omega];rfl
theorem zFR {l:List α} (h:Srt κ l) {i:Nat} {k:Int} {x:α} (hx:l[i]?=some x) (hk:κ x=k):l.drop (i+1)=hi κ k l:=by
 have hlt:i < l.length:=by
  rcases Nat.lt_or_ge i l.length with h | h
  ·exact h
  ·rw [List.getElem?_eq_none h] at hx;cases hx
 have hx':l[i]=x:=by rw [List.getElem?_eq_getElem hlt] at hx;exact Option.some.inj hx
 have e:l=l.take i++(x::l.drop (i+1)):=by
  conv=>lhs;rw [←List.take_append_drop i l]
  rw [List.drop_eq_getElem_cons hlt,hx']
 have hs:Srt κ (l.take i++(x::l.drop (i+1))):=e▸h
 obtain ⟨a1,a2,a3⟩:=List.pairwise_append.1 hs
 obtain ⟨b1,b2⟩:=List.pairwise_cons.1 a2
 conv=>rhs;rw [e,zCC]
 rw [zzB fun a ha=>by have:=a3 a ha x (by simp);omega]
 have e2:hi κ k (x::l.drop (i+1))=hi κ k (l.drop (i+1)):=List.filter_cons_of_neg (by simp;omega)
 rw [List.nil_append,e2,zCB fun a ha=>by have:=b1 a ha;omega]
theorem kI {l:List α} {i:Nat} {x:α} (h:l[i]?=some x):x∈l:=List.mem_of_getElem? h
theorem zub {l:List α} (h:Srt κ l) {a:Int} {n:Nat} (hb:∀x∈l,a≤κ x∧κ x < a+n):l.length≤n:=by
 unfold Srt at h
 induction l generalizing a n with
 |nil=>exact Nat.zero_le _
 |cons x l ih=>
  obtain ⟨h1,h2⟩:=List.pairwise_cons.1 h
  have hx:=hb x (by simp)
  cases n with
  |zero=>omega
  |succ n=>
   have:=ih (a:=κ x+1) (n:=n - (κ x - a).toNat) h2 (fun y hy=>by
    have:=h1 y hy
    have:=hb y (by simp [hy])
    omega)
   simp only [List.length_cons]
   omega
structure Fnd (l:List α) (k:Int) (z:α) (i:Int) (x:α) (b:Bool):Prop where
 ix:i=(((lo κ k l).length:Nat):Int)
 yes:b=true→x∈l∧κ x=k∧l[(lo κ k l).length]?=some x
 no:b=false→x=z∧∀a∈l,κ a≠k
theorem zFS {x:α} {l:List α} (h:Srt κ l):(ins κ x l).length≤l.length+1:=by
 unfold ins
 have h1:(lo κ (κ x) l).length+(hi κ (κ x) l).length≤l.length:=by
  clear h
  generalize κ x=k
  induction l with
  |nil=>simp [lo,hi]
  |cons a l ih=>
   unfold lo hi at *
   by_cases h1:κ a < k
   ·rw [List.filter_cons_of_pos (by simpa using h1),List.filter_cons_of_neg (by simp;omega)]
    simp only [List.length_cons];omega
   ·rw [List.filter_cons_of_neg (by simpa using h1)]
    by_cases h2:k < κ a
    ·rw [List.filter_cons_of_pos (by simpa using h2)]
     simp only [List.length_cons];omega
    ·rw [List.filter_cons_of_neg (by simpa using h2)]
     simp only [List.length_cons];omega
 rw [List.length_append,List.length_cons];omega
end
theorem znK {α:Type} {κ:α→Int} {sz:Nat} {l:List α} (h:Srt κ l) {z x y:α} {b:Bool} {i k:Int} (hf:Fnd (κ:=κ) l k z i x b) (hy:κ y=k) (hn:(l.length+1)*sz≤140737488355328) (hn2:l.length+1≤1000000000000) :
  (opt (ue l (some i) none none) fun x0=>
   opt (bif b then opt (ue l (some (wrF .i64 (i+1))) none none) fun x1=>some (0,((x1,()),()))
    else some (0,((x0,()),()))) fun (x2:Nat×((List α×Unit)×Unit))=>
   opt (ue l none (some i) (some i)) fun x3=>
   bif xj x3.length (y::[]).length sz then bif xj (x3++(y::[])).length x2.2.1.1.length sz then some (((x3++(y::[]))++x2.2.1.1),())
    else none
   else none)=some (ins κ y l,()):=by
 obtain ⟨ix,hyes,hno⟩:=hf
 subst hy
 have hlo:(lo κ (κ y) l).length≤l.length:=List.length_filter_le _ _
 have hle:l.take (lo κ (κ y) l).length=lo κ (κ y) l∧∀a∈l.drop (lo κ (κ y) l).length,κ y≤κ a:=by
  have:∀(l:List α),Srt κ l→l.take (lo κ (κ y) l).length=lo κ (κ y) l∧∀a∈l.drop (lo κ (κ y) l).length,κ y≤κ a:=by
   intro l
   induction l with
   |nil=>intro _;exact ⟨rfl,fun a ha=>by simp [lo] at ha⟩
   |cons a l ih=>
    intro h
    obtain ⟨h1,h2⟩:=List.pairwise_cons.1 h
    by_cases ha:κ a < κ y
    ·have e:lo κ (κ y) (a::l)=a::lo κ (κ y) l:=List.filter_cons_of_pos (by simpa using ha)
     rw [e]
     obtain ⟨i1,i2⟩:=ih h2
     exact ⟨by simp [i1],fun c hc=>i2 c (by simpa using hc)⟩
    ·have e:lo κ (κ y) (a::l)=[]:=zzA fun c hc=>by
      rcases List.mem_cons.1 hc with rfl | hc
      ·exact ha
      ·have:=h1 c hc;omega
     rw [e]
     refine ⟨rfl,fun c hc=>?_⟩
     rcases List.mem_cons.1 (show c∈a::l from hc) with rfl | hc
     ·omega
     ·have:=h1 c hc;omega
  exact this l h
 obtain ⟨h1,h2⟩:=hle
 have ht:∀a∈l.take (lo κ (κ y) l).length,κ a < κ y:=fun a ha=>by rw [h1] at ha;exact (zsu.1 ha).2
 rw [ix,zep l _ hlo,zkW l _ hlo,h1]
 simp only [zG]
 have ha1:xj (lo κ (κ y) l).length (y::[]).length sz=true:=Qo (by simp only [List.length_cons,List.length_nil];exact Nat.le_trans (Nat.mul_le_mul_right _ (by omega)) hn) (by simp only [List.length_cons,List.length_nil];omega)
 have hil:=zFS (κ:=κ) (x:=y) h
 unfold ins at hil
 rw [List.length_append,List.length_cons] at hil
 have ha2:xj (lo κ (κ y) l++(y::[])).length (hi κ (κ y) l).length sz=true:=Qo (by
   rw [List.length_append];simp only [List.length_cons,List.length_nil];exact Nat.le_trans (Nat.mul_le_mul_right _ (by omega)) hn) (by rw [List.length_append];simp only [List.length_cons,List.length_nil];omega)
 cases b with
 |true=>
  obtain ⟨m1,m2,m3⟩:=hyes rfl
  have hlt:(lo κ (κ y) l).length < l.length:=by
   rcases Nat.lt_or_ge (lo κ (κ y) l).length l.length with h | h
   ·exact h
   ·rw [List.getElem?_eq_none h] at m3;cases m3
  rw [show wrF .i64 ((((lo κ (κ y) l).length:Nat):Int)+1)=(((lo κ (κ y) l).length+1:Nat):Int) from qO (by omega),zep l _ (by omega),zFR h m3 m2]
  simp only [cond_true,zG,ha1,ha2]
  unfold ins
  simp
 |false=>
  obtain ⟨_,m2⟩:=hno rfl
  rw [zEp h ht h2 m2]
  simp only [cond_false,cond_true,zG,ha1,ha2]
  unfold ins
  simp
end Go.Fz.Sy
namespace Go.Proofs.YtleloebnggepoaaGreat.sg
open Go Go.Fz Go.Fz.Sy
abbrev Wi:=qE
abbrev Ca:=qw
abbrev He:=xF
abbrev Le:=zJ
abbrev Sig:=qj
def zS:qv:=(0,(0,(0,(0,(0,(0,((0,0),(0,[]))))))))
abbrev wK (w:Wi):Int:=w.1
abbrev cK (c:Ca):Int:=c.1
abbrev hK (h:He):Int:=h.1*8+h.2.1
abbrev zW (id:Int):Wi:=(id,(0,(0,(zS,0))))
abbrev zC (id:Int):Ca:=(id,(0,(0,(0,[]))))
abbrev zH (n id:Int):He:=(n,(id,(0,false)))
abbrev led (s:Sig):List qv:=s.2.1
abbrev wis (s:Sig):List Wi:=s.2.2.1
abbrev cas (s:Sig):List Ca:=s.2.2.2.1
abbrev hel (s:Sig):List He:=s.2.2.2.2.1
abbrev wir (s:Sig):List Le:=s.2.2.2.2.2
abbrev upL (s:Sig) (x:List qv):Sig:=(s.1,(x,s.2.2))
abbrev upW (s:Sig) (x:List Wi):Sig:=(s.1,(s.2.1,(x,s.2.2.2)))
abbrev upC (s:Sig) (x:List Ca):Sig:=(s.1,(s.2.1,(s.2.2.1,(x,s.2.2.2.2))))
abbrev upH (s:Sig) (x:List He):Sig:=(s.1,(s.2.1,(s.2.2.1,(s.2.2.2.1,(x,s.2.2.2.2.2)))))
abbrev upX (s:Sig) (x:List Le):Sig:=(s.1,(s.2.1,(s.2.2.1,(s.2.2.2.1,(s.2.2.2.2.1,x)))))
section
variable {α:Type} {κ:α→Int}
def lk (κ:α→Int) (l:List α) (k:Int) (z:α):α:=(l.find? fun a=>decide (κ a=k)).getD z
theorem zjL {l:List α} (h:Srt κ l) {a:α} (ha:a∈l) {k:Int} (hk:κ a=k) (z:α):lk κ l k z=a:=by
 unfold lk
 cases e:l.find? fun a=>decide (κ a=k) with
 |none=>exact absurd hk (by simpa using List.find?_eq_none.1 e a ha)
 |some b=>
  have h1:=List.mem_of_find?_eq_some e
  have h2:=List.find?_some e
  exact zFQ h h1 ha (by show κ b=κ a;rw [of_decide_eq_true h2,hk])
theorem zzC {l:List α} {k:Int} (h:∀a∈l,κ a≠k) (z:α):lk κ l k z=z:=by
 unfold lk
 rw [List.find?_eq_none.2 fun a ha=>by simpa using h a ha];rfl
theorem zdx (l:List α) (k:Int) (z:α):(lk κ l k z∈l∧κ (lk κ l k z)=k)∨(lk κ l k z=z∧∀a∈l,κ a≠k):=by
 unfold lk
 cases e:l.find? fun a=>decide (κ a=k) with
 |none=>exact .inr ⟨rfl,fun a ha=>by simpa using List.find?_eq_none.1 e a ha⟩
 |some b=>exact .inl ⟨List.mem_of_find?_eq_some e,by have:=List.find?_some e;simpa using this⟩
theorem zyk {l:List α} (h:Srt κ l) (x:α) (k:Int) (z:α):lk κ (ins κ x l) k z=if k=κ x then x else lk κ l k z:=by
 by_cases hk:k=κ x
 ·rw [if_pos hk]
  exact zjL (zjK h) (zfZ.2 (.inl rfl)) hk.symm z
 ·rw [if_neg hk]
  rcases zdx (κ:=κ) l k z with ⟨h1,h2⟩ | ⟨h1,h2⟩
  ·exact zjL (zjK h) (zfZ.2 (.inr ⟨h1,by omega⟩)) h2 z
  ·rw [h1]
   refine zzC (fun a ha=>?_) z
   rcases zfZ.1 ha with rfl | ⟨h3,_⟩
   ·exact fun e=>hk e.symm
   ·exact h2 a h3
theorem zdy {l:List α} (h:Srt κ l) {k:Int} {z:α} {i:Int} {x:α} {b:Bool} (hf:Fnd (κ:=κ) l k z i x b):x=lk κ l k z∧(b=true↔∃a∈l,κ a=k):=by
 obtain ⟨_,h1,h2⟩:=hf
 cases b with
 |true=>
  obtain ⟨m1,m2,_⟩:=h1 rfl
  exact ⟨(zjL h m1 m2 z).symm,fun _=>⟨x,m1,m2⟩,fun _=>rfl⟩
 |false=>
  obtain ⟨m1,m2⟩:=h2 rfl
  exact ⟨by rw [zzC m2,m1],fun h=>(by cases h),fun ⟨a,ha,e⟩=>absurd e (m2 a ha)⟩
theorem zqO {l:List α} (h:Srt κ l) {k:Int} {z:α} {i:Nat} {a:α} (hx:l[i]?=some a) (hge:k≤κ a) (hb:∀j b,j < i→l[j]?=some b→κ b < k):Fnd (κ:=κ) l k z (i:Int) (bif decide (κ a=k) then a else z) (decide (κ a=k)):=by
 have hil:i < l.length:=by
  rcases Nat.lt_or_ge i l.length with h | h
  ·exact h
  ·rw [List.getElem?_eq_none h] at hx;cases hx
 obtain ⟨h1,h2⟩:=zEo h hb (fun c hc=>by rw [hx] at hc;cases hc;exact hge) (Nat.le_of_lt hil)
 have hl:(lo κ k l).length=i:=by rw [←h1,List.length_take];omega
 refine ⟨by rw [hl],fun hd=>?_,fun hd=>?_⟩
 ·have hd:=of_decide_eq_true hd
  rw [decide_eq_true hd,cond_true,hl]
  exact ⟨kI hx,hd,hx⟩
 ·have hd:=of_decide_eq_false hd
  rw [decide_eq_false hd,cond_false]
  refine ⟨rfl,fun c hc e=>?_⟩
  have e2:l=l.take i++l.drop i:=(List.take_append_drop i l).symm
  rw [e2] at hc
  rcases List.mem_append.1 hc with hc | hc
  ·rw [h1] at hc;have:=(zsu.1 hc).2;omega
  ·rw [List.drop_eq_getElem_cons hil] at hc h2
   rw [List.getElem?_eq_getElem hil] at hx
   have hx:=Option.some.inj hx
   rcases List.mem_cons.1 hc with h3 | h3
   ·subst h3;rw [hx] at e;exact hd e
   ·have hp:Srt κ (l.drop i):=List.Pairwise.sublist (List.drop_sublist i l) h
    rw [List.drop_eq_getElem_cons hil] at hp
    have:=(List.pairwise_cons.1 hp).1 c h3
    rw [hx] at this
    omega
theorem znL {l:List α} {k:Int} {z:α} (hb:∀j b,j < l.length→l[j]?=some b→κ b < k):Fnd (κ:=κ) l k z ((l.length:Nat):Int) z false:=by
 have hm:∀a∈l,κ a < k:=fun a ha=>by
  obtain ⟨j,hj,rfl⟩:=List.mem_iff_getElem.1 ha
  exact hb j _ hj (List.getElem?_eq_getElem hj)
 exact ⟨by rw [zCA hm],fun h=>(by cases h),fun _=>⟨rfl,fun a ha=>by have:=hm a ha;omega⟩⟩
end
theorem zuc {α:Type} {κ:α→Int} {l:List α} {k:Int} {i:Nat} {a:α} (hb:∀j b,j < i→l[j]?=some b→κ b < k) (hx:l[i]?=some a) (h:κ a < k):∀j b,j < i+1→l[j]?=some b→κ b < k:=fun j b hj hb2=>by
 rcases Nat.lt_or_ge j i with h2 | h2
 ·exact hb j b h2 hb2
 ·have:j=i:=by omega
  subst this
  rw [hx] at hb2;cases hb2;exact h
def ZK (a b:Int):Int:=if a < b then -1 else if b < a then 1 else 0
theorem WD (a b:Int):jh (a,b,())=some (ZK a b,()):=by
 rw [zkD];unfold Gw ZK
 rw [zd4,zd4];unfold zbM
 simp only [zG,wo,beq_self_eq_true,Bool.not_true,cond_false,uY]
 by_cases h:a < b
 ·rw [if_pos h,decide_eq_true h,cond_true]
 ·rw [if_neg h,decide_eq_false h,cond_false]
  by_cases h2:b < a
  ·rw [if_pos h2,decide_eq_true h2,cond_true]
  ·rw [if_neg h2,decide_eq_false h2,cond_false]
theorem zdz {a b:Int}:ZK a b < 0↔a < b:=by unfold ZK;split<;>(try split)<;>omega
theorem JE {a b:Int}:ZK a b=0↔a=b:=by unfold ZK;split<;>(try split)<;>omega
def orS (a b:Int):Int:=if a=0 then b else a
theorem zud (a b:Int):QK ((a::(b::[])),())=some (orS a b,()):=by
 have key:qu (QK ((a::(b::[])),())) fun r=>r.1=orS a b:=by
  rw [zsf];unfold zgS
  refine zp (J:=fun x=>(x.1=0∧a=0∧b=0)∨(x.1=1∧x.2.1.1=orS a b)) (qt 2 (fun i st=>st=((0,((i:Int),())),())∧(1≤i→a=0)∧(2≤i→b=0)) (by omega) ⟨rfl,fun h=>by omega,fun h=>by omega⟩ ?_ ?_) ?_
  ·rintro i _ hi ⟨rfl,h1,h2⟩
   rcases (show i=0∨i=1 by omega) with rfl | rfl
   ·refine zh (qq (by simp)) (zn (zQ (n:=0) (x:=a) rfl (zr (fun h=>?_) (fun h=>?_))))
    ·have:a≠0:=jG (by simpa using h)
     exact zd (zD (.inr ⟨rfl,by unfold orS;rw [if_neg this]⟩))
    ·have:a=0:=jo (by simpa using h)
     exact zd (qR ⟨by rw [qO (by omega)],fun _=>this,fun h=>by omega⟩)
   ·have ha:=h1 (Nat.le_refl _)
    refine zh (qq (by simp)) (zn (zQ (n:=1) (x:=b) rfl (zr (fun h=>?_) (fun h=>?_))))
    ·exact zd (zD (.inr ⟨rfl,by unfold orS;rw [if_pos ha]⟩))
    ·have:b=0:=jo (by simpa using h)
     exact zd (qR ⟨by rw [qO (by omega)],fun _=>ha,fun _=>this⟩)
  ·rintro _ ⟨rfl,h1,h2⟩
   exact zg (zZ (by simp)) (zd (zD (.inl ⟨rfl,h1 (by omega),h2 (Nat.le_refl _)⟩)))
  ·rintro ⟨j,⟨v,w,⟨⟩⟩,⟨⟩⟩ (⟨rfl,h1,h2⟩ | ⟨rfl,h1⟩)
   ·exact zh rfl (zd (by subst h1 h2;rfl))
   ·exact zg rfl (zd h1)
 exact kO key
theorem Ws {s:Sig} (h:Srt wK (wis s)) (hn:(wis s).length≤1000000000) (id:Int):∃i x b,qZ s (id,())=some (s,(i,(x,(b,()))))∧Fnd (κ:=wK) (wis s) id (zW id) i x b:=by
 have key:qu (qZ s (id,())) fun r=>r.1=s∧Fnd (κ:=wK) (wis s) id (zW id) r.2.1 r.2.2.1 r.2.2.2.1:=by
  rw [zfM];unfold YN
  refine zp (J:=fun x=>(x.1=0∧x.2.1.1=id∧∀j b,j < (wis s).length→(wis s)[j]?=some b→wK b < id)∨(x.1=1∧x.2.1.1=id∧∃(i:Nat) (a:Wi),x.2.1.2.1=(i:Int)∧(wis s)[i]?=some a∧id≤wK a∧x.2.1.2.2.1=decide (wK a=id)∧∀j b,j < i→(wis s)[j]?=some b→wK b < id))
   (qt (wis s).length (fun i st=>st=((id,(0,(false,((i:Int),())))),())∧∀j b,j < i→(wis s)[j]?=some b→wK b < id) (by omega) ⟨rfl,fun j b hj=>by omega⟩ ?_ ?_) ?_
  ·rintro i _ hi ⟨rfl,hb⟩
   have hx:(wis s)[i]?=some (wis s)[i]:=List.getElem?_eq_getElem hi
   generalize (wis s)[i]=a at hx
   refine zh (qq (show (i:Int) < (((wis s).length:Nat):Int) by omega)) (zn (zQ (n:=i) hx ?_))
   rw [show jh (a.1,(((id,(0,(false,((i:Int),())))),()):(Int×(Int×(Bool×(Int×Unit))))×Unit).1.1,())=_ from WD a.1 id,zG]
   refine zr (fun hc=>?_) (fun hc=>?_)
   ·have hge:¬ZK a.1 id < 0:=by have:=wG (show zt (ZK a.1 id) 0=false by simpa using hc);omega
    rw [zdz] at hge
    refine zd (zD (.inr ⟨rfl,rfl,i,a,rfl,hx,by show id≤a.1;omega,?_,hb⟩))
    show zj (ZK a.1 id) 0=_
    by_cases he:a.1=id
    ·rw [wc (JE.2 he),decide_eq_true (show wK a=id from he)]
    ·rw [jg (fun e=>he (JE.1 e)),decide_eq_false (show ¬wK a=id from he)]
   ·have hlt:ZK a.1 id < 0:=yn (by simpa using hc)
    exact zd (qR ⟨congrArg (fun z=>((id,((0:Int),(false,(z,())))),())) (qO (by omega)),zuc hb hx (zdz.1 hlt)⟩)
  ·rintro _ ⟨rfl,hb⟩
   exact zg (zZ (show ¬(((wis s).length:Nat):Int) < (((wis s).length:Nat):Int) by omega)) (zd (zD (.inl ⟨rfl,rfl,hb⟩)))
  ·rintro ⟨j,⟨v,w,b,z,⟨⟩⟩,⟨⟩⟩ (⟨rfl,hv,hb⟩ | ⟨rfl,hv,i,a,hw,hx,hge,hd,hb⟩)
   ·simp only at hv
    subst hv
    exact zh rfl (zd ⟨rfl,znL hb⟩)
   ·simp only at hv hw hd
    subst hv hw hd
    have hf:=zqO (z:=zW v) h hx hge hb
    by_cases he:wK a=v
    ·rw [decide_eq_true he] at hf ⊢
     exact zg rfl (zg rfl (zn (zQ (n:=i) hx (zd ⟨rfl,hf⟩))))
    ·rw [decide_eq_false he] at hf ⊢
     exact zg rfl (zh rfl (zd ⟨rfl,hf⟩))
 obtain ⟨⟨s',i,x,b,⟨⟩⟩,e,rfl,hf⟩:=key
 exact ⟨i,x,b,e,hf⟩
theorem Kp {s:Sig} (h:Srt cK (cas s)) (hn:(cas s).length≤1000000000) (id:Int):∃i x b,jK s (id,())=some (s,(i,(x,(b,()))))∧Fnd (κ:=cK) (cas s) id (zC id) i x b:=by
 have key:qu (jK s (id,())) fun r=>r.1=s∧Fnd (κ:=cK) (cas s) id (zC id) r.2.1 r.2.2.1 r.2.2.2.1:=by
  rw [zd8];unfold Wf
  refine zp (J:=fun x=>(x.1=0∧x.2.1.1=id∧∀j b,j < (cas s).length→(cas s)[j]?=some b→cK b < id)∨(x.1=1∧x.2.1.1=id∧∃(i:Nat) (a:Ca),x.2.1.2.1=(i:Int)∧(cas s)[i]?=some a∧id≤cK a∧x.2.1.2.2.1=decide (cK a=id)∧∀j b,j < i→(cas s)[j]?=some b→cK b < id))
   (qt (cas s).length (fun i st=>st=((id,(0,(false,((i:Int),())))),())∧∀j b,j < i→(cas s)[j]?=some b→cK b < id) (by omega) ⟨rfl,fun j b hj=>by omega⟩ ?_ ?_) ?_
  ·rintro i _ hi ⟨rfl,hb⟩
   have hx:(cas s)[i]?=some (cas s)[i]:=List.getElem?_eq_getElem hi
   generalize (cas s)[i]=a at hx
   refine zh (qq (show (i:Int) < (((cas s).length:Nat):Int) by omega)) (zn (zQ (n:=i) hx ?_))
   rw [show jh (a.1,(((id,(0,(false,((i:Int),())))),()):(Int×(Int×(Bool×(Int×Unit))))×Unit).1.1,())=_ from WD a.1 id,zG]
   refine zr (fun hc=>?_) (fun hc=>?_)
   ·have hge:¬ZK a.1 id < 0:=by have:=wG (show zt (ZK a.1 id) 0=false by simpa using hc);omega
    rw [zdz] at hge
    refine zd (zD (.inr ⟨rfl,rfl,i,a,rfl,hx,by show id≤a.1;omega,?_,hb⟩))
    show zj (ZK a.1 id) 0=_
    by_cases he:a.1=id
    ·rw [wc (JE.2 he),decide_eq_true (show cK a=id from he)]
    ·rw [jg (fun e=>he (JE.1 e)),decide_eq_false (show ¬cK a=id from he)]
   ·have hlt:ZK a.1 id < 0:=yn (by simpa using hc)
    exact zd (qR ⟨congrArg (fun z=>((id,((0:Int),(false,(z,())))),())) (qO (by omega)),zuc hb hx (zdz.1 hlt)⟩)
  ·rintro _ ⟨rfl,hb⟩
   exact zg (zZ (show ¬(((cas s).length:Nat):Int) < (((cas s).length:Nat):Int) by omega)) (zd (zD (.inl ⟨rfl,rfl,hb⟩)))
  ·rintro ⟨j,⟨v,w,b,z,⟨⟩⟩,⟨⟩⟩ (⟨rfl,hv,hb⟩ | ⟨rfl,hv,i,a,hw,hx,hge,hd,hb⟩)
   ·simp only at hv
    subst hv
    exact zh rfl (zd ⟨rfl,znL hb⟩)
   ·simp only at hv hw hd
    subst hv hw hd
    have hf:=zqO (z:=zC v) h hx hge hb
    by_cases he:cK a=v
    ·rw [decide_eq_true he] at hf ⊢
     exact zg rfl (zg rfl (zn (zQ (n:=i) hx (zd ⟨rfl,hf⟩))))
    ·rw [decide_eq_false he] at hf ⊢
     exact zg rfl (zh rfl (zd ⟨rfl,hf⟩))
 obtain ⟨⟨s',i,x,b,⟨⟩⟩,e,rfl,hf⟩:=key
 exact ⟨i,x,b,e,hf⟩
theorem ze2 {s:Sig} (h:Srt hK (hel s)) (hn:(hel s).length≤1000000000) (hr:∀a∈hel s,1≤a.2.1∧a.2.1≤6) {n id:Int} (hi:1≤id∧id≤6):∃i x b,yU s (n,(id,()))=some (s,(i,(x,(b,()))))∧Fnd (κ:=hK) (hel s) (n*8+id) (zH n id) i x b:=by
 have key:qu (yU s (n,(id,()))) fun r=>r.1=s∧Fnd (κ:=hK) (hel s) (n*8+id) (zH n id) r.2.1 r.2.2.1 r.2.2.2.1:=by
  rw [zei];unfold Wm
  refine zp (J:=fun x=>(x.1=0∧x.2.1.1=n∧x.2.1.2.1=id∧∀j b,j < (hel s).length→(hel s)[j]?=some b→hK b < n*8+id)∨(x.1=1∧x.2.1.1=n∧x.2.1.2.1=id∧∃(i:Nat) (a:He),x.2.1.2.2.1=(i:Int)∧(hel s)[i]?=some a∧n*8+id≤hK a∧x.2.1.2.2.2.1=decide (hK a=n*8+id)∧∀j b,j < i→(hel s)[j]?=some b→hK b < n*8+id))
   (qt (hel s).length (fun i st=>st=((n,(id,(0,(false,((i:Int),()))))),())∧∀j b,j < i→(hel s)[j]?=some b→hK b < n*8+id) (by omega) ⟨rfl,fun j b hj=>by omega⟩ ?_ ?_) ?_
  ·rintro i _ hi ⟨rfl,hb⟩
   have hx:(hel s)[i]?=some (hel s)[i]:=List.getElem?_eq_getElem hi
   generalize (hel s)[i]=a at hx
   refine zh (qq (show (i:Int) < (((hel s).length:Nat):Int) by omega)) (zn (zQ (n:=i) hx ?_))
   rw [show jh (a.1,(((n,(id,(0,(false,((i:Int),()))))),()):(Int×(Int×(Int×(Bool×(Int×Unit)))))×Unit).1.1,())=_ from WD a.1 n,zG]
   rw [show jh (a.2.1,(((n,(id,(0,(false,((i:Int),()))))),()):(Int×(Int×(Int×(Bool×(Int×Unit)))))×Unit).1.2.1,())=_ from WD a.2.1 id,zG]
   rw [show QK ((((ZK a.1 n,()):Int×Unit).1::(((ZK a.2.1 id,()):Int×Unit).1::[])),())=_ from zud _ _,zG]
   have hra:=hr a (kI hx)
   have o1:orS (ZK a.1 n) (ZK a.2.1 id) < 0↔hK a < n*8+id:=by
    unfold orS
    split
    ·rename_i h0
     rw [JE] at h0
     rw [zdz]
     show _↔a.1*8+a.2.1 < _
     omega
    ·rename_i h0
     rw [JE] at h0
     rw [zdz]
     show _↔a.1*8+a.2.1 < _
     omega
   have o2:orS (ZK a.1 n) (ZK a.2.1 id)=0↔hK a=n*8+id:=by
    unfold orS
    split
    ·rename_i h0
     rw [JE] at h0
     rw [JE]
     show _↔a.1*8+a.2.1=_
     omega
    ·rename_i h0
     rw [JE]
     rw [JE] at h0
     show _↔a.1*8+a.2.1=_
     omega
   refine zr (fun hc=>?_) (fun hc=>?_)
   ·have hge:¬orS (ZK a.1 n) (ZK a.2.1 id) < 0:=by have:=wG (show zt (orS (ZK a.1 n) (ZK a.2.1 id)) 0=false by simpa using hc);omega
    rw [o1] at hge
    refine zd (zD (.inr ⟨rfl,rfl,rfl,i,a,rfl,hx,by omega,?_,hb⟩))
    show zj (orS (ZK a.1 n) (ZK a.2.1 id)) 0=_
    by_cases he:hK a=n*8+id
    ·rw [wc (o2.2 he),decide_eq_true he]
    ·rw [jg (fun e=>he (o2.1 e)),decide_eq_false he]
   ·have hlt:orS (ZK a.1 n) (ZK a.2.1 id) < 0:=yn (by simpa using hc)
    exact zd (qR ⟨congrArg (fun z=>((n,(id,((0:Int),(false,(z,()))))),())) (qO (by omega)),zuc hb hx (o1.1 hlt)⟩)
  ·rintro _ ⟨rfl,hb⟩
   exact zg (zZ (show ¬(((hel s).length:Nat):Int) < (((hel s).length:Nat):Int) by omega)) (zd (zD (.inl ⟨rfl,rfl,rfl,hb⟩)))
  ·rintro ⟨j,⟨v,v2,w,b,z,⟨⟩⟩,⟨⟩⟩ (⟨rfl,hv,hv2,hb⟩ | ⟨rfl,hv,hv2,i,a,hw,hx,hge,hd,hb⟩)
   ·simp only at hv hv2
    subst hv hv2
    exact zh rfl (zd ⟨rfl,znL hb⟩)
   ·simp only at hv hv2 hw hd
    subst hv hv2 hw hd
    have hf:=zqO (z:=zH v v2) h hx hge hb
    by_cases he:hK a=v*8+v2
    ·rw [decide_eq_true he] at hf ⊢
     exact zg rfl (zg rfl (zn (zQ (n:=i) hx (zd ⟨rfl,hf⟩))))
    ·rw [decide_eq_false he] at hf ⊢
     exact zg rfl (zh rfl (zd ⟨rfl,hf⟩))
 obtain ⟨⟨s',i,x,b,⟨⟩⟩,e,rfl,hf⟩:=key
 exact ⟨i,x,b,e,hf⟩
theorem WQ {l:List Wi} (h:Srt wK l) (hn:l.length≤1000000) {k:Int} {z x y:Wi} {b:Bool} {i:Int} (hf:Fnd (κ:=wK) l k z i x b) (hy:wK y=k):qF (l,i,b,y,())=some (ins wK y l,()):=by
 rw [zgu];unfold Xy
 exact znK (sz:=128) h hf hy (by omega) (by omega)
theorem Gs {l:List Ca} (h:Srt cK l) (hn:l.length≤1000000) {k:Int} {z x y:Ca} {b:Bool} {i:Int} (hf:Fnd (κ:=cK) l k z i x b) (hy:cK y=k):jT (l,i,b,y,())=some (ins cK y l,()):=by
 rw [zgR];unfold XX
 exact znK (sz:=56) h hf hy (by omega) (by omega)
theorem zhw {l:List He} (h:Srt hK l) (hn:l.length≤1000000) {k:Int} {z x y:He} {b:Bool} {i:Int} (hf:Fnd (κ:=hK) l k z i x b) (hy:hK y=k):vh (l,i,b,y,())=some (ins hK y l,()):=by
 rw [zgW];unfold XY
 exact znK (sz:=32) h hf hy (by omega) (by omega)
end Go.Proofs.YtleloebnggepoaaGreat.sg
namespace Go.Proofs.YtleloebnggepoaaGreat.sg
open Go Go.Fz Go.Fz.Sy
def zue (x:List Le) (l:Le):List Le:=if x.length < 1024 then x++[l] else x
def zuf (x:List Le) (ls:List Le):List Le:=ls.foldl zue x
theorem zEq (x a b:List Le):zuf x (a++b)=zuf (zuf x a) b:=List.foldl_append
theorem zEr {x:List Le} {l:Le} (h:x.length≤1024):(zue x l).length≤1024:=by
 unfold zue
 split
 ·rw [List.length_append];simp;omega
 ·exact h
theorem zEs (ls:List Le):∀{x:List Le},x.length≤1024→(zuf x ls).length≤1024:=by
 induction ls with
 |nil=>intro x h;exact h
 |cons l ls ih=>intro x h;exact ih (x:=zue x l) (zEr h)
theorem zk1 (ls:List Le):∀{x:List Le} {l:Le},l∈zuf x ls→l∈x∨l∈ls:=by
 induction ls with
 |nil=>intro x l h;exact .inl h
 |cons a ls ih=>
  intro x l h
  rcases ih (x:=zue x a) h with h | h
  ·unfold zue at h
   split at h
   ·rcases List.mem_append.1 h with h | h
    ·exact .inl h
    ·exact .inr (by rw [List.mem_singleton.1 h];simp)
   ·exact .inl h
  ·exact .inr (by simp [h])
def snds (s:Sig) (ls:List Le):Sig:=upX s (zuf (wir s) ls)
theorem zEt (s:Sig):snds s []=s:=rfl
theorem zk2 (s:Sig) (a b:List Le):snds s (a++b)=snds (snds s a) b:=by unfold snds;rw [zEq]
theorem zhb (s:Sig) (l:Le):qk s (l,())=some (snds s [l],()):=by
 rw [zfN];unfold YO
 have e:snds s [l]=upX s (if (wir s).length < 1024 then wir s++[l] else wir s):=rfl
 rw [e]
 by_cases h:(wir s).length < 1024
 ·rw [if_pos h]
  refine yN (zn (zh (qq (show (((wir s).length:Nat):Int) < 1024 by omega)) ?_))
  rw [zx0,zG]
  have h':s.2.2.2.2.2.length < 1024:=h
  exact zh (Qo (by simp;omega) (by simp;omega)) (zd (zd rfl))
 ·rw [if_neg h]
  exact yN (zn (zg (zZ (show ¬(((wir s).length:Nat):Int) < 1024 by omega)) (zd (zd rfl))))
def zcm (w:Wi):List Le:=if w.2.2.1=1 then [(1,(w.1,(w.2.1,(0,(true,(w.2.2.2.1,0))))))] else if w.2.2.1=4 then [(1,(w.1,(w.2.1,(0,(false,(zS,0))))))] else []
theorem ziJ (s:Sig) (w:Wi):qK s (w,())=some (snds s (zcm w),()):=by
 rw [zdd];unfold Jz zcm
 simp only [zhb,zG]
 by_cases h1:w.2.2.1=1
 ·rw [if_pos h1]
  exact yN (zh (wc h1) (zd rfl))
 ·rw [if_neg h1]
  by_cases h4:w.2.2.1=4
  ·rw [if_pos h4]
   exact yN (zg (jg h1) (zh (wc h4) (zd rfl)))
  ·rw [if_neg h4]
   exact yN (zg (jg h1) (zg (jg h4) (zd rfl)))
def Wt (c:Ca):List Le:=
 if c.2.2.1=2 then [(5,(c.1,(c.2.1,(0,(false,(zS,0))))))]
 else if c.2.2.1=3 then [(6,(c.1,(c.2.1,(0,(false,(zS,c.2.2.2.1))))))]
 else if c.2.2.1=5 then [(7,(c.1,(c.2.1,(0,(false,(zS,0))))))] else []
theorem zk3 (s:Sig) (c:Ca):jn s (c,())=some (snds s (Wt c),()):=by
 rw [zd9];unfold Wg Wt
 simp only [zhb,zG]
 by_cases h2:c.2.2.1=2
 ·rw [if_pos h2]
  exact yN (zh (wc h2) (zd rfl))
 rw [if_neg h2]
 by_cases h3:c.2.2.1=3
 ·rw [if_pos h3]
  exact yN (zg (jg h2) (zh (wc h3) (zd rfl)))
 rw [if_neg h3]
 by_cases h5:c.2.2.1=5
 ·rw [if_pos h5]
  exact yN (zg (jg h2) (zg (jg h3) (zh (wc h5) (zd rfl))))
 rw [if_neg h5]
 exact yN (zg (jg h2) (zg (jg h3) (zg (jg h5) (zd rfl))))
def zcn (c:Ca):List Le:=
 if c.2.2.1=1 then c.2.2.2.2.map fun n=>(2,(c.1,(c.2.1,(n,(false,(zS,0))))))
 else if c.2.2.1=4 then c.2.2.2.2.map fun n=>(3,(c.1,(c.2.1,(n,(false,(zS,0)))))) else []
theorem zsv {s:Sig} {k id num:Int} {l:List Int} (hn:l.length≤1000000000) (m:Int) :
  qu (opt (qh (fun s1:((Le×(Sig×(Int×Unit)))×Unit)=>
   bif (zt (s1.1.2.2.1) (((l.length:Nat):Int))) then opt (atI l (s1.1.2.2.1)) fun x2=>
    opt (qk (s1.1.2.1) (((s1.1.1.1,(s1.1.1.2.1,(s1.1.1.2.2.1,(x2,s1.1.1.2.2.2.2)))),()))) fun x3=>
    some (.inr (((s1.1.1.1,(s1.1.1.2.1,(s1.1.1.2.2.1,(x2,s1.1.1.2.2.2.2)))),(x3.1,((wrF .i64 ((s1.1.2.2.1+1))),()))),()))
   else some (.inl (0,((s1.1.1,(s1.1.2.1,(s1.1.2.2.1,()))),())))) qD (((k,(id,(num,(m,(false,(zS,0)))))),(s,(0,()))),())) fun (x4:Nat×((Le×(Sig×(Int×Unit)))×Unit))=>
  some (x4.2.1.2.1,())) fun r=>r.1=snds s (l.map fun n=>(k,(id,(num,(n,(false,(zS,0))))))):=by
 refine zp (J:=fun x=>x.2.1.2.1=snds s (l.map fun n=>(k,(id,(num,(n,(false,(zS,0)))))))) (qt l.length (fun i st=>∃m,st=(((k,(id,(num,(m,(false,(zS,0)))))),(snds s ((l.take i).map fun n=>(k,(id,(num,(n,(false,(zS,0))))))),((i:Int),()))),())) (by omega) ⟨m,rfl⟩ ?_ ?_) ?_
 ·rintro i _ hi ⟨m,rfl⟩
  have hx:l[i]?=some l[i]:=List.getElem?_eq_getElem hi
  have ht:l.take (i+1)=l.take i++[l[i]]:=List.take_succ_eq_append_getElem hi
  generalize l[i]=v at hx ht
  refine zh (qq (show (i:Int) < ((l.length:Nat):Int) by omega)) (zn (zQ (n:=i) hx ?_))
  simp only [zhb,zG]
  refine zd (qR ⟨v,?_⟩)
  rw [qO (by omega),ht,List.map_append,zk2]
  rfl
 ·rintro _ ⟨m,rfl⟩
  rw [List.take_length]
  exact zg (zZ (show ¬((l.length:Nat):Int) < ((l.length:Nat):Int) by omega)) (zd (zD rfl))
 ·rintro ⟨j,⟨v,w,z,⟨⟩⟩,⟨⟩⟩ h
  exact zd h
theorem znM (s:Sig) {c:Ca} (hn:c.2.2.2.2.length≤1000000000):ju s (c,())=some (snds s (zcn c),()):=by
 rw [zcz];unfold Js zcn
 by_cases h1:c.2.2.1=1
 ·rw [if_pos h1]
  exact kO (zn (zh (wc h1) (zd (zh rfl (zsv hn 0)))))
 rw [if_neg h1]
 by_cases h4:c.2.2.1=4
 ·rw [if_pos h4]
  exact kO (zn (zg (jg h1) (zh (wc h4) (zd (zh rfl (zsv hn 0))))))
 rw [if_neg h4]
 exact kO (zn (zg (jg h1) (zg (jg h4) (zd (zg rfl (zd rfl))))))
def kP:je:=(4,((true::(false::(false::(true::[])))),((0,(1,(8,5)))::((1,(2,(8,5)))::((2,(3,(8,5)))::[])))))
def zA0:Gts:=(((127,100)::[]),100)
def zhc:Fab:=(kP,((100,(2,(10,8000))),(List.replicate 6 zA0,200)))
theorem zFT:Ku ()=some (zhc,()):=by
 rw [ztv];unfold zir
 refine kO (zp (J:=fun x=>x.2.2.1=(kP,((100,(2,(10,8000))),(List.replicate 6 zA0,(200,()))))) (qt 6 (fun i st=>st=(((),((i:Int),())),((kP,((100,(2,(10,8000))),(List.replicate i zA0,(200,())))),()))) (by omega) rfl ?_ ?_) ?_)
 ·rintro i _ hi rfl
  refine zh (qq (show (i:Int) < 6 by omega)) (zh (Qo (by simp;omega) (by simp;omega)) (zd (qR ?_)))
  rw [qO (by omega),List.replicate_succ']
  rfl
 ·rintro _ rfl
  exact zg (zZ (by simp)) (zd (zD rfl))
 ·rintro ⟨j,⟨⟨⟩,w,⟨⟩⟩,f,⟨⟩⟩ h
  simp only at h
  subst h
  exact zd rfl
theorem zyl:vM kP where
 sz:=⟨by decide,by decide,by decide,by decide⟩
 ls:=by
  intro i l h
  rcases (show i=0∨i=1∨i=2∨3≤i by omega) with rfl | rfl | rfl | h3
  ·cases h
   exact ⟨by unfold zqG uW;decide,fun k o hk=>by omega⟩
  ·cases h
   refine ⟨by unfold zqG uW;decide,fun k o hk ho=>?_⟩
   have:k=0:=by omega
   subst this
   cases ho
   unfold zcc;decide
  ·cases h
   refine ⟨by unfold zqG uW;decide,fun k o hk ho=>?_⟩
   rcases (show k=0∨k=1 by omega) with rfl | rfl<;>cases ho<;>unfold zcc<;>decide
  ·rw [List.getElem?_eq_none (by show 3≤i;exact h3)] at h;cases h
 re:=by
  intro n hn
  have hn:(n:Int) < 4:=hn
  rcases (show n=0∨n=1∨n=2∨n=3 by omega) with rfl | rfl | rfl | rfl<;>decide
 ct:=by
  intro n hn
  have hn:(n:Int) < 4:=hn
  rcases (show n=0∨n=1∨n=2∨n=3 by omega) with rfl | rfl | rfl | rfl<;>decide
theorem zzD:znF zhc where
 t:=zyl
 u:=by unfold UM;decide
 g
  :=by
  intro g hg
  have e:g=zA0:=List.eq_of_mem_replicate hg
  subst e
  exact ⟨by decide,by decide,fun e he=>by
   have:e=(127,100):=List.mem_singleton.1 he
   subst this
   unfold zci;decide,by decide,by decide⟩
 f:=by unfold zjG;decide
theorem zCD:yM zhc []=0:=by
 refine znJ.2 ⟨⟨zzD,fun s h=>(by cases h),by simp,fun i k a b _ h=>by simp at h,fun s h=>(by cases h)⟩,fun p hp=>?_,fun s h=>by cases h⟩
 have e:(wk zhc [] p).2=4:=by
  unfold wk
  rw [zM (show load ([]:List qv) (p:Int)=[] from rfl)];rfl
 unfold Je
 rw [e,zM rfl];rfl
theorem zoz:zhc.2.2.1.length≤1000000000000000000:=by decide
theorem zFU:Xx (zhc,())=some ((zhc,([],([],([],([],[]))))),(0,())):=by
 rw [zrL];unfold zgs
 rw [zbe zoz,zGC zzD]
 rfl
def N4:List Int:=0::1::2::3::[]
def zaU (x:qv):Prop:=x.2.2.2.2.2.2.2.2=[[0,2,4]]∨x.2.2.2.2.2.2.2.2=[[5,3,1]]
theorem zym {p:Int} (h0:0≤p) (h1:p < 6):Qy kP p:=⟨h0,h1⟩
theorem zFV:yV kP [0,2,4] where
 n0:=by decide
 n1:=by decide
 pt:=by
  intro p hp
  simp at hp
  rcases hp with rfl | rfl | rfl<;>exact zym (by decide) (by decide)
 st:=by
  intro i p h
  rcases (show i=0∨i=1∨i=2∨3≤i by omega) with rfl | rfl | rfl | h3
  ·cases h;unfold zh1;decide
  ·cases h;unfold zh1;decide
  ·cases h;unfold zh1;decide
  ·rw [List.getElem?_eq_none (by show 3≤i;exact h3)] at h;cases h
theorem zFW:yV kP [5,3,1] where
 n0:=by decide
 n1:=by decide
 pt:=by
  intro p hp
  simp at hp
  rcases hp with rfl | rfl | rfl<;>exact zym (by decide) (by decide)
 st:=by
  intro i p h
  rcases (show i=0∨i=1∨i=2∨3≤i by omega) with rfl | rfl | rfl | h3
  ·cases h;unfold zh1;decide
  ·cases h;unfold zh1;decide
  ·cases h;unfold zh1;decide
  ·rw [List.getElem?_eq_none (by show 3≤i;exact h3)] at h;cases h
theorem zzE {x:qv} (h:zaU x):∃r,x.2.2.2.2.2.2.2.2=[r]∧yV kP r∧(zU kP r=[0,1,2,3]∨zU kP r=[3,2,1,0]):=by
 rcases h with h | h
 ·exact ⟨_,h,zFV,.inl (by decide)⟩
 ·exact ⟨_,h,zFW,.inr (by decide)⟩
theorem zpv {r:List Int} (h:yV kP r):yw (kP,(r,()))=some (zU kP r,(0,())):=by
 rw [zh4 zyl,zM h];rfl
theorem zG9 {l m:List Int} (h:l.Perm m) (hl:l.Pairwise fun a b=>a≤b) (hm:m.Pairwise fun a b=>a≤b):l=m:=h.eq_of_pairwise (le:=fun a b=>a≤b) (fun a b _ _ h1 h2=>Int.le_antisymm h1 h2) hl hm
theorem zGL {l:List Int} (h:l=[0,1,2,3]∨l=[3,2,1,0]):YK l=[0,1,2,3]:=by
 unfold YK
 refine zG9 ((List.mergeSort_perm _ _).trans (by rcases h with rfl | rfl<;>decide)) ?_ (by decide)
 have:=List.pairwise_mergeSort (le:=fun x y:Int=>decide (x≤y)) (fun a b c h1 h2=>by simp at *;omega) (fun a b=>by simp;omega) l
 exact this.imp (by simp)
theorem znN {s:Sig} (hs:s.1=zhc) {x:qv} (hx:zaU x):yz s (x,())=some (s,(N4,())):=by
 obtain ⟨r,hr,hp,hn⟩:=zzE hx
 rw [zeO];unfold WN
 rw [hr]
 have hlen:(zU kP r).length=4:=by rcases hn with h | h<;>rw [h]<;>rfl
 refine yN (zp (J:=fun x4=>x4.2.1.1=s∧x4.2.2.1=zU kP r) (qt 1 (fun i st=>st=((s,((i:Int),())),((if i=0 then [] else zU kP r),()))) (by omega) rfl ?_ ?_) ?_)
 ·rintro i _ hi rfl
  have:i=0:=by omega
  subst this
  refine zh (qq (by simp)) (zn (zQ (n:=0) (x:=r) rfl ?_))
  rw [show yw (((((s,(((0:Nat):Int),())),((if (0:Nat)=0 then [] else zU kP r),())):(Sig×(Int×Unit))×((List Int)×Unit)).1.1.1.1),(r,()))=some (zU kP r,(0,())) from by rw [hs];exact zpv hp,zG]
  refine zn (zh (wc rfl) (zh (Qo (by rw [hlen];simp) (by rw [hlen];simp)) (zd (zd (qR ?_)))))
  rw [qO (by omega)];rfl
 ·rintro _ rfl
  exact zg (zZ (by simp)) (zd (zD ⟨rfl,rfl⟩))
 ·rintro ⟨j,⟨s',w,⟨⟩⟩,l,⟨⟩⟩ ⟨h1,h2⟩
  simp only at h1 h2
  subst h1 h2
  have e:YK (zU kP r)=[0,1,2,3]:=zGL hn
  have q1:zp1 (zU kP r)=true:=by unfold zp1;rw [hlen];rfl
  rw [e]
  exact zh q1 (zh rfl (zd rfl))
abbrev wOf (s:Sig) (id:Int):Wi:=lk wK (wis s) id (zW id)
abbrev cOf (s:Sig) (id:Int):Ca:=lk cK (cas s) id (zC id)
abbrev hOf (s:Sig) (n id:Int):He:=lk hK (hel s) (n*8+id) (zH n id)
def setW (s:Sig) (w:Wi):Sig:=upW s (ins wK w (wis s))
def setC (s:Sig) (c:Ca):Sig:=upC s (ins cK c (cas s))
def setH (s:Sig) (h:He):Sig:=upH s (ins hK h (hel s))
def idP (i:Int):Prop:=1≤i∧i≤6
def ndP (v:Int):Prop:=0≤v∧v≤3
structure Shp (s:Sig):Prop where
 fab:s.1=zhc
 sW:Srt wK (wis s)
 sC:Srt cK (cas s)
 sH:Srt hK (hel s)
 bW:∀w∈wis s,idP w.1
 bC:∀c∈cas s,idP c.1∧c.2.2.2.2.length≤4
 bH:∀h∈hel s,ndP h.1∧idP h.2.1
 x:(wir s).length≤1024
theorem Shp.lW {s:Sig} (h:Shp s):(wis s).length≤6:=zub (a:=1) h.sW fun w hw=>by have:=h.bW w hw;unfold idP at this;show 1≤w.1∧w.1 < _;omega
theorem Shp.lC {s:Sig} (h:Shp s):(cas s).length≤6:=zub (a:=1) h.sC fun w hw=>by have:=(h.bC w hw).1;unfold idP at this;show 1≤w.1∧w.1 < _;omega
theorem Shp.lH {s:Sig} (h:Shp s):(hel s).length≤32:=zub (a:=0) h.sH fun w hw=>by have:=(h.bH w hw).1;have:=(h.bH w hw).2;unfold idP ndP at *;show 0≤w.1*8+w.2.1∧w.1*8+w.2.1 < _;omega
theorem zyn (s:Sig) (id:Int):(wOf s id).1=id:=by
 rcases zdx (κ:=wK) (wis s) id (zW id) with ⟨_,h⟩ | ⟨h,_⟩
 ·exact h
 ·rw [show wOf s id=zW id from h]
theorem zyo (s:Sig) (id:Int):(cOf s id).1=id:=by
 rcases zdx (κ:=cK) (cas s) id (zC id) with ⟨_,h⟩ | ⟨h,_⟩
 ·exact h
 ·rw [show cOf s id=zC id from h]
theorem zEU {s:Sig} (h:Shp s) (id:Int):(cOf s id).2.2.2.2.length≤4:=by
 rcases zdx (κ:=cK) (cas s) id (zC id) with ⟨h1,_⟩ | ⟨h1,_⟩
 ·exact (h.bC _ h1).2
 ·rw [show cOf s id=zC id from h1];simp
theorem zCE {s:Sig} (hs:Shp s) {n id:Int} (hi:idP id):(hOf s n id).1=n∧(hOf s n id).2.1=id:=by
 rcases zdx (κ:=hK) (hel s) (n*8+id) (zH n id) with ⟨h1,h⟩ | ⟨h,_⟩
 ·have:=(hs.bH _ h1).2
  unfold idP at *
  have h:(hOf s n id).1*8+(hOf s n id).2.1=n*8+id:=h
  have h':1≤(hOf s n id).2.1∧(hOf s n id).2.1≤6:=this
  omega
 ·rw [show hOf s n id=zH n id from h];exact ⟨rfl,rfl⟩
theorem zGM {s:Sig} (h:Shp s) (c:Ca) (j:Int):cOf (setC s c) j=if j=c.1 then c else cOf s j:=zyk h.sC c j _
theorem zGN {s:Sig} (h:Shp s) (w:Wi) (j:Int):wOf (setW s w) j=if j=w.1 then w else wOf s j:=zyk h.sW w j _
theorem zGO {s:Sig} (hs:Shp s) (h:He) (v j:Int) (hj:idP j) (hi:idP h.2.1):hOf (setH s h) v j=if v=h.1∧j=h.2.1 then h else hOf s v j:=by
 have e:hOf (setH s h) v j=if v*8+j=hK h then h else hOf s v j:=zyk hs.sH h _ _
 rw [e]
 unfold idP at *
 by_cases hq:v=h.1∧j=h.2.1
 ·rw [if_pos hq,if_pos (by rw [hq.1,hq.2])]
 ·rw [if_neg hq,if_neg (fun e=>hq (by have e:v*8+j=h.1*8+h.2.1:=e;omega))]
theorem Shp.snds {s:Sig} (h:Shp s) (ls:List Le):Shp (snds s ls):=⟨h.fab,h.sW,h.sC,h.sH,h.bW,h.bC,h.bH,zEs ls h.x⟩
theorem Shp.setC {s:Sig} (h:Shp s) {c:Ca} (hc:idP c.1∧c.2.2.2.2.length≤4):Shp (setC s c):=⟨h.fab,h.sW,zjK h.sC,h.sH,h.bW,fun d hd=>by
 rcases zfZ.1 hd with rfl | ⟨hd,_⟩
 ·exact hc
 ·exact h.bC d hd,h.bH,h.x⟩
theorem Shp.setW {s:Sig} (h:Shp s) {w:Wi} (hw:idP w.1):Shp (setW s w):=⟨h.fab,zjK h.sW,h.sC,h.sH,fun d hd=>by
 rcases zfZ.1 hd with rfl | ⟨hd,_⟩
 ·exact hw
 ·exact h.bW d hd,h.bC,h.bH,h.x⟩
theorem Shp.setH {s:Sig} (h:Shp s) {a:He} (ha:ndP a.1∧idP a.2.1):Shp (setH s a):=⟨h.fab,h.sW,h.sC,zjK h.sH,h.bW,h.bC,fun d hd=>by
 rcases zfZ.1 hd with rfl | ⟨hd,_⟩
 ·exact ha
 ·exact h.bH d hd,h.x⟩
theorem Shp.upL {s:Sig} (h:Shp s) (l:List qv):Shp (upL s l):=⟨h.fab,h.sW,h.sC,h.sH,h.bW,h.bC,h.bH,h.x⟩
theorem Shp.upX {s:Sig} (h:Shp s) {x:List Le} (hx:x.length≤1024):Shp (upX s x):=⟨h.fab,h.sW,h.sC,h.sH,h.bW,h.bC,h.bH,hx⟩
structure Gd (k id:Int) (w:Wi) (c:Ca) (h:Int→He) (L:List qv):Prop where
 n0:0≤w.2.1∧w.2.1≤k
 z:w.2.1=0→w.2.2.1=0∧c.2.1=0
 st:1≤w.2.1→(1≤w.2.2.1∧w.2.2.1≤5)∧w.2.2.2.1.1=id∧zaU w.2.2.2.1
 c0:0≤c.2.1∧(c.2.1=w.2.1∨c.2.1+1=w.2.1)
 cz:c.2.1=0→c.2.2.1=0∧(1≤w.2.1→w.2.2.1=1)
 cw:1≤c.2.1→c.2.1=w.2.1→(c.2.2.1=1∧w.2.2.1=1)∨(c.2.2.1=2∧(w.2.2.1=1∨w.2.2.1=2))∨(c.2.2.1=3∧(w.2.2.1=1∨w.2.2.1=3))∨(c.2.2.1=4∧w.2.2.1=4)∨(c.2.2.1=5∧(w.2.2.1=4∨w.2.2.1=5))
 cl:1≤c.2.1→c.2.1 < w.2.1→(w.2.2.1=1∧(c.2.2.1=3∨c.2.2.1=5))∨(w.2.2.1=4∧c.2.2.1=2)
 lg:∀x∈L,x.1=id→x=w.2.2.2.1∧(c.2.2.1=1∨c.2.2.1=2∨c.2.2.1=4)
 lc:(c.2.2.1=1∨c.2.2.1=2∨c.2.2.1=4)→∃x∈L,x.1=id
 hn:∀v,ndP v→0≤(h v).2.2.1∧(h v).2.2.1≤c.2.1
 he:∀v,ndP v→1≤c.2.1→(h v).2.2.1=c.2.1→((h v).2.2.2=true∧(c.2.2.1=1∨c.2.2.1=2))∨((h v).2.2.2=false∧(c.2.2.1=4∨c.2.2.1=5))
 ho:∀v,ndP v→(h v).2.2.2=true→(c.2.2.1=1∨c.2.2.1=2∨c.2.2.1=4)
 wn:c.2.2.1=1∨c.2.2.1=4→c.2.2.2.2≠[]
 wz:c.2.2.1≠1→c.2.2.1≠4→c.2.2.2.2=[]
 wr:∀v∈c.2.2.2.2,ndP v
 wd:c.2.2.2.2.Nodup
 wh:(c.2.2.1=1∨c.2.2.1=2∨c.2.2.1=4)→∀v,ndP v→v∈c.2.2.2.2∨(h v).2.2.1=c.2.1
def LOk (w:Wi) (c:Ca) (h:Int→He) (l:Le):Prop:=
 (l.1=1∧1≤l.2.2.1∧l.2.2.1≤w.2.1∧(l.2.2.1=w.2.1→(l.2.2.2.2.1=true∧(w.2.2.1=1∨w.2.2.1=2∨w.2.2.1=3)∧l.2.2.2.2.2.1=w.2.2.2.1)∨(l.2.2.2.2.1=false∧(w.2.2.1=4∨w.2.2.1=5))))∨
 (l.1=2∧ndP l.2.2.2.1∧1≤l.2.2.1∧l.2.2.1≤c.2.1∧((l.2.2.1=c.2.1∧(c.2.2.1=1∨c.2.2.1=2))∨(l.2.2.1 < c.2.1∧c.2.2.1=4)∨l.2.2.1 < (h l.2.2.2.1).2.2.1))∨
 (l.1=3∧ndP l.2.2.2.1∧1≤l.2.2.1∧l.2.2.1≤c.2.1∧(l.2.2.1=c.2.1→c.2.2.1=4∨c.2.2.1=5))∨
 (l.1=4∧ndP l.2.2.2.1∧1≤l.2.2.1∧l.2.2.1≤(h l.2.2.2.1).2.2.1)∨
 (l.1=5∧1≤l.2.2.1∧l.2.2.1≤c.2.1∧(l.2.2.1=c.2.1→c.2.2.1=2))∨
 (l.1=6∧1≤l.2.2.1∧l.2.2.1≤c.2.1∧(l.2.2.1=c.2.1→c.2.2.1=3))∨
 (l.1=7∧1≤l.2.2.1∧l.2.2.1≤c.2.1∧(l.2.2.1=c.2.1→c.2.2.1=5))
abbrev zfU (s:Sig) (l:Le):Prop:=idP l.2.1∧LOk (wOf s l.2.1) (cOf s l.2.1) (fun v=>hOf s v l.2.1) l
structure Iv (k:Int) (s:Sig):Prop where
 sh:Shp s
 hold:yM s.1 (led s)=0
 lr:∀x∈led s,idP x.1∧zaU x
 g:∀id,idP id→Gd k id (wOf s id) (cOf s id) (fun v=>hOf s v id) (led s)
 l:∀l∈wir s,zfU s l
theorem Gd.led {k id:Int} {w:Wi} {c:Ca} {h:Int→He} {L M:List qv} (g:Gd k id w c h L) (e:∀x,x.1=id→(x∈M↔x∈L)):Gd k id w c h M:=
 {
  g with
  lg:=fun x hx hi=>g.lg x ((e x hi).1 hx) hi
  lc:=fun hc=>by obtain ⟨x,hx,hi⟩:=g.lc hc;exact ⟨x,(e x hi).2 hx,hi⟩}
theorem Gd.mono {k k' id:Int} {w:Wi} {c:Ca} {h:Int→He} {L:List qv} (g:Gd k id w c h L) (e:k≤k'):Gd k' id w c h L:={g with n0:=⟨g.n0.1,by have:=g.n0.2;omega⟩}
theorem zA1 {k k':Int} {s s':Sig} (iv:Iv k s) (id:Int) (hid:idP id) (hk:k≤k') (sh:Shp s') (hold:yM s'.1 (led s')=0) (lr:∀x∈led s',x∈led s∨(x.1=id∧zaU x))
  (same:∀j,idP j→j≠id→wOf s' j=wOf s j∧cOf s' j=cOf s j∧∀v,hOf s' v j=hOf s v j) (ls:∀x,x.1≠id→(x∈led s'↔x∈led s))
  (g:Gd k' id (wOf s' id) (cOf s' id) (fun v=>hOf s' v id) (led s'))
  (keep:∀l,l.2.1=id→LOk (wOf s id) (cOf s id) (fun v=>hOf s v id) l→LOk (wOf s' id) (cOf s' id) (fun v=>hOf s' v id) l)
  (new:∀l∈wir s',l∈wir s∨(l.2.1=id∧LOk (wOf s' id) (cOf s' id) (fun v=>hOf s' v id) l)):Iv k' s' where
 sh:=sh
 hold:=hold
 lr:=fun x hx=>by
  rcases lr x hx with h | ⟨rfl,h⟩
  ·exact iv.lr x h
  ·exact ⟨hid,h⟩
 g
  :=fun j hj=>by
  by_cases e:j=id
  ·subst e;exact g
  ·obtain ⟨e1,e2,e3⟩:=same j hj e
   rw [e1,e2,show (fun v=>hOf s' v j)=fun v=>hOf s v j from funext e3]
   exact ((iv.g j hj).mono hk).led fun x hx=>ls x (by rw [hx];exact e)
 l
  :=fun l hl=>by
  rcases new l hl with h | ⟨rfl,h⟩
  ·have hl:=iv.l l h
   by_cases e:l.2.1=id
   ·subst e;exact ⟨hl.1,keep l rfl hl.2⟩
   ·obtain ⟨e1,e2,e3⟩:=same l.2.1 hl.1 e
    refine ⟨hl.1,?_⟩
    rw [e1,e2,show (fun v=>hOf s' v l.2.1)=fun v=>hOf s v l.2.1 from funext e3]
    exact hl.2
  ·exact ⟨hid,h⟩
theorem Iv.less {k:Int} {s:Sig} (iv:Iv k s) {x:List Le} (hx:x.length≤1024) (hm:∀l∈x,l∈wir s):Iv k (upX s x):=⟨iv.sh.upX hx,iv.hold,iv.lr,iv.g,fun l hl=>iv.l l (hm l hl)⟩
theorem Iv.send {k:Int} {s:Sig} (iv:Iv k s) (ls:List Le) (h:∀l∈ls,zfU s l):Iv k (snds s ls):=⟨iv.sh.snds ls,iv.hold,iv.lr,iv.g,fun l hl=>by
 rcases zk1 ls hl with h2 | h2
 ·exact iv.l l h2
 ·exact h l h2⟩
inductive YR (s:Sig) (l:Le):Sig→Prop
 |old (h:l.2.2.1 < (cOf s l.2.1).2.1):YR s l s
 |same (h:l.2.2.1=(cOf s l.2.1).2.1):YR s l (snds s (Wt (cOf s l.2.1)))
 |fail (h:(cOf s l.2.1).2.1 < l.2.2.1) (hw:l.2.2.2.2.1=true) (e:Int) (he:e≠0) (ha:(zcl s.1 (led s) l.2.2.2.2.2.1).2=e) :
   YR s l (snds (setC s (l.2.1,(l.2.2.1,(3,(e,[]))))) (Wt (l.2.1,(l.2.2.1,(3,(e,[]))))))
 |put (h:(cOf s l.2.1).2.1 < l.2.2.1) (hw:l.2.2.2.2.1=true) (ha:zcl s.1 (led s) l.2.2.2.2.2.1=(led s++[l.2.2.2.2.2.1],0)) (hh:yM s.1 (led s++[l.2.2.2.2.2.1])=0) :
   YR s l (snds (setC (upL s (led s++[l.2.2.2.2.2.1])) (l.2.1,(l.2.2.1,(1,(0,N4))))) (zcn (l.2.1,(l.2.2.1,(1,(0,N4))))))
 |gone (h:(cOf s l.2.1).2.1 < l.2.2.1) (hw:l.2.2.2.2.1=false) (hx:∀x∈led s,x.1≠l.2.1) :
   YR s l (snds (setC s (l.2.1,(l.2.2.1,(5,(0,[]))))) (Wt (l.2.1,(l.2.2.1,(5,(0,[]))))))
 |drop (h:(cOf s l.2.1).2.1 < l.2.2.1) (hw:l.2.2.2.2.1=false) (x:qv) (hx:x∈led s) (hi:x.1=l.2.1) :
   YR s l (snds (setC s (l.2.1,(l.2.2.1,(4,(0,N4))))) (zcn (l.2.1,(l.2.2.1,(4,(0,N4))))))
inductive zug (s:Sig) (l:Le):Sig→Prop
 |old (h:l.2.2.1 < (hOf s l.2.2.2.1 l.2.1).2.2.1):zug s l s
 |new (h:(hOf s l.2.2.2.1 l.2.1).2.2.1≤l.2.2.1):zug s l (snds (setH s (l.2.2.2.1,(l.2.1,(l.2.2.1,decide (l.1=2))))) [(4,(l.2.1,(l.2.2.1,(l.2.2.2.1,(false,(zS,0))))))])
inductive Xh (s:Sig) (l:Le):Sig→Prop
 |old (h:(cOf s l.2.1).2.1≠l.2.2.1∨((cOf s l.2.1).2.2.1≠1∧(cOf s l.2.1).2.2.1≠4)):Xh s l s
 |wait (h:(cOf s l.2.1).2.1=l.2.2.1) (hs:(cOf s l.2.1).2.2.1=1∨(cOf s l.2.1).2.2.1=4) (hw:(cOf s l.2.1).2.2.2.2.erase l.2.2.2.1≠[]) :
   Xh s l (setC s (l.2.1,(l.2.2.1,((cOf s l.2.1).2.2.1,((cOf s l.2.1).2.2.2.1,(cOf s l.2.1).2.2.2.2.erase l.2.2.2.1)))))
 |ready (h:(cOf s l.2.1).2.1=l.2.2.1) (hs:(cOf s l.2.1).2.2.1=1) (hw:(cOf s l.2.1).2.2.2.2.erase l.2.2.2.1=[]) :
   Xh s l (snds (setC s (l.2.1,(l.2.2.1,(2,((cOf s l.2.1).2.2.2.1,[]))))) (Wt (l.2.1,(l.2.2.1,(2,((cOf s l.2.1).2.2.2.1,[]))))))
 |gone (h:(cOf s l.2.1).2.1=l.2.2.1) (hs:(cOf s l.2.1).2.2.1=4) (hw:(cOf s l.2.1).2.2.2.2.erase l.2.2.2.1=[]) (M:List qv) (hM:M.Sublist (led s)) (hm:∀x,x∈M↔x∈led s∧x.1≠l.2.1) :
   Xh s l (snds (setC (upL s M) (l.2.1,(l.2.2.1,(5,((cOf s l.2.1).2.2.2.1,[]))))) (Wt (l.2.1,(l.2.2.1,(5,((cOf s l.2.1).2.2.2.1,[]))))))
inductive KP (s:Sig) (l:Le):Sig→Prop
 |old (h:(wOf s l.2.1).2.1≠l.2.2.1∨¬(((wOf s l.2.1).2.2.1=1∧(l.1=5∨l.1=6))∨((wOf s l.2.1).2.2.1=4∧l.1=7))):KP s l s
 |ready (h:(wOf s l.2.1).2.1=l.2.2.1) (hs:(wOf s l.2.1).2.2.1=1) (hk:l.1=5):KP s l (setW s (l.2.1,((wOf s l.2.1).2.1,(2,(wOf s l.2.1).2.2.2))))
 |fail (h:(wOf s l.2.1).2.1=l.2.2.1) (hs:(wOf s l.2.1).2.2.1=1) (hk:l.1=6):KP s l (setW s (l.2.1,((wOf s l.2.1).2.1,(3,((wOf s l.2.1).2.2.2.1,l.2.2.2.2.2.2)))))
 |gone (h:(wOf s l.2.1).2.1=l.2.2.1) (hs:(wOf s l.2.1).2.2.1=4) (hk:l.1=7):KP s l (setW s (l.2.1,((wOf s l.2.1).2.1,(5,(wOf s l.2.1).2.2.2))))
theorem zyY (n:Fab) (l:List qv) (x:qv):(zcl n l x=(l++[x],0)∧yM n (l++[x])=0)∨((zcl n l x).2≠0∧(zcl n l x).1=[]):=by
 unfold zcl
 by_cases h1:yM n l=0
 ·rw [zM h1,cond_true]
  by_cases h2:KB n.1 x
  ·rw [zM h2,cond_true]
   by_cases h3:yM n (l++[x])=0
   ·rw [zM h3,cond_true];exact .inl ⟨rfl,h3⟩
   ·rw [qn h3,cond_false];exact .inr ⟨h3,rfl⟩
  ·rw [qn h2,cond_false];exact .inr ⟨by decide,rfl⟩
 ·rw [qn h1,cond_false];exact .inr ⟨h1,rfl⟩
theorem zCF {s:Sig} (sh:Shp s) (lr:∀x∈led s,zaU x) {l:Le} (hid:idP l.2.1) (hl:(cOf s l.2.1).2.1 < l.2.2.1→l.2.2.2.2.1=true→zaU l.2.2.2.2.2.1) (hn:(led s).length≤1000000000000000000):qu (vB s (l,())) fun r=>YR s l r.1:=by
 obtain ⟨i,c,b,e,hf⟩:=Kp sh.sC (by have:=sh.lC;omega) l.2.1
 obtain ⟨hc,hb⟩:=zdy sh.sC hf
 have hc:c=cOf s l.2.1:=hc
 have hfab:s.1.2.2.1.length≤1000000000000000000:=by rw [sh.fab];exact zoz
 rw [zeR];unfold WO
 rw [e,zG]
 refine zr (fun h=>?_) (fun h=>?_)
 ·have h:¬c.2.1 < l.2.2.1:=by have:=wG (show zt c.2.1 l.2.2.1=false by simpa using h);omega
  refine zp (J:=fun x=>YR s l x.2.1.1) ?_ ?_
  ·refine zr (fun h2=>?_) (fun h2=>?_)
   ·have h2:l.2.2.1=c.2.1:=jo h2
    rw [zk3,zG]
    refine zd ?_
    show YR s l (snds s (Wt c))
    rw [hc]
    exact .same (by rw [←hc];exact h2)
   ·have h2:l.2.2.1≠c.2.1:=jG h2
    exact zd (.old (by rw [←hc];omega))
  ·rintro ⟨j,⟨v,⟨⟩⟩,⟨⟩⟩ hv
   exact zd hv
 have h:c.2.1 < l.2.2.1:=yn (by simpa using h)
 have h':(cOf s l.2.1).2.1 < l.2.2.1:=by rw [←hc];exact h
 have tail:∀(q:Sig) (d:Ca),q.2.2.2.1=cas s→d.1=l.2.1→d.2.2.2.2.length≤1000000000→YR s l (snds (setC q d) (Wt d++zcn d))→
   qu (opt (jT ((q.2.2.2.1,(i,(b,(d,())))))) fun x11=>
    opt (jn ((q.1,(q.2.1,(q.2.2.1,(x11.1,q.2.2.2.2))))) ((d,()))) fun x12=>
    opt (ju (x12.1) ((d,()))) fun x13=>
    some (x13.1,())) fun r=>YR s l r.1:=by
  intro q d hq hd hw hh
  rw [hq,Gs sh.sC (by have:=sh.lC;omega) hf hd,zG]
  rw [zk3,zG,znM _ hw,zG]
  refine zd ?_
  rw [zk2] at hh
  unfold setC at hh
  rw [show cas q=cas s from hq] at hh
  exact hh
 cases hw:l.2.2.2.2.1 with
 |true=>
  refine zp (J:=fun x=>∃d:Ca,d.1=l.2.1∧d.2.2.2.2.length≤1000000000∧x.2.1.2.2.1=d∧(x.2.1.2.1).2.2.2.1=cas s∧YR s l (snds (setC x.2.1.2.1 d) (Wt d++zcn d))) ?_ ?_
  ·refine zh rfl ?_
   rw [zst hfab,zG]
   refine zp (J:=fun x=>∃d:Ca,d.1=l.2.1∧d.2.2.2.2.length≤1000000000∧x.2.1.2.2.1=d∧(x.2.1.1).2.2.2.1=cas s∧YR s l (snds (setC x.2.1.1 d) (Wt d++zcn d))) ?_ ?_
   ·rcases zyY s.1 (led s) l.2.2.2.2.2.1 with ⟨ha,hh⟩ | ⟨ha,_⟩
    ·rw [ha]
     refine zg rfl ?_
     have hnodes:yz (upL s (led s++[l.2.2.2.2.2.1])) (l.2.2.2.2.2.1,())=some (upL s (led s++[l.2.2.2.2.2.1]),(N4,())):=znN (s:=upL s (led s++[l.2.2.2.2.2.1])) (x:=l.2.2.2.2.2.1) sh.fab (hl h' hw)
     refine zn (xT hnodes (zd ⟨_,rfl,?_,rfl,rfl,YR.put h' hw ha hh⟩))
     show N4.length≤_
     decide
    ·refine zh (by rw [jg ha];rfl) (zd ⟨_,rfl,?_,rfl,rfl,YR.fail h' hw _ ha rfl⟩)
     show ([]:List Int).length≤_
     decide
   ·rintro ⟨j,⟨q,a,d,⟨⟩⟩,⟨⟩⟩ ⟨d',h1,h2,h3,h4,h5⟩
    exact zd ⟨d',h1,h2,h3,h4,h5⟩
  ·rintro ⟨j,⟨a,q,d,⟨⟩⟩,⟨⟩⟩ ⟨d',h1,h2,rfl,h4,h5⟩
   exact tail q _ h4 h1 h2 h5
 |false=>
  refine zp (J:=fun x=>∃d:Ca,d.1=l.2.1∧d.2.2.2.2.length≤1000000000∧x.2.1.2.2.1=d∧(x.2.1.2.1).2.2.2.1=cas s∧YR s l (snds (setC x.2.1.2.1 d) (Wt d++zcn d))) ?_ ?_
  ·refine zg rfl ?_
   obtain ⟨i1,i3⟩:=zyf hn l.2.1
   rw [i1,zG]
   refine zp (J:=fun x=>∃d:Ca,d.1=l.2.1∧d.2.2.2.2.length≤1000000000∧x.2.1.2.1=d∧(x.2.1.1).2.2.2.1=cas s∧YR s l (snds (setC x.2.1.1 d) (Wt d++zcn d))) ?_ ?_
   ·rcases i3 with ⟨e0,k,x,ei,hx,hxi,_⟩ | ⟨e4,_,hno⟩
    ·rw [e0,ei]
     refine zg rfl (zn (zQ (n:=k) hx ?_))
     rw [znN sh.fab (lr x (kI hx)),zG]
     refine zd ⟨_,rfl,?_,rfl,rfl,YR.drop h' hw x (kI hx) hxi⟩
     show N4.length≤_
     decide
    ·rw [e4]
     refine zh rfl (zd ⟨_,rfl,?_,rfl,rfl,YR.gone h' hw hno⟩)
     show ([]:List Int).length≤_
     decide
   ·rintro ⟨j,⟨q,d,⟨⟩⟩,⟨⟩⟩ ⟨d',h1,h2,h3,h4,h5⟩
    exact zd ⟨d',h1,h2,h3,h4,h5⟩
  ·rintro ⟨j,⟨a,q,d,⟨⟩⟩,⟨⟩⟩ ⟨d',h1,h2,rfl,h4,h5⟩
   exact tail q _ h4 h1 h2 h5
theorem Shp.hr {s:Sig} (sh:Shp s):∀a∈hel s,1≤a.2.1∧a.2.1≤6:=fun a ha=>(sh.bH a ha).2
theorem zCG {s:Sig} (sh:Shp s) {l:Le} (hid:idP l.2.1):qu (jX s (l,())) fun r=>zug s l r.1:=by
 obtain ⟨i,c,b,e,hf⟩:=ze2 (n:=l.2.2.2.1) sh.sH (by have:=sh.lH;omega) sh.hr hid
 obtain ⟨hc,hb⟩:=zdy sh.sH hf
 have hc:c=hOf s l.2.2.2.1 l.2.1:=hc
 have hi:=zCE sh (n:=l.2.2.2.1) hid
 rw [←hc] at hi
 rw [GF];unfold gx
 rw [e,zG]
 refine zr (fun h=>?_) (fun h=>?_)
 ·have h:l.2.2.1 < c.2.2.1:=yn h
  exact zd (.old (by rw [←hc];exact h))
 ·have h:c.2.2.1≤l.2.2.1:=wG h
  have hk:hK (c.1,(c.2.1,(l.2.2.1,zj l.1 2)))=l.2.2.2.1*8+l.2.1:=by show c.1*8+c.2.1=_;rw [hi.1,hi.2]
  rw [show vh (((s,(i,(c,(b,())))):Sig×(Int×(He×(Bool×Unit)))).1.2.2.2.2.1,(i,(b,((c.1,(c.2.1,(l.2.2.1,zj l.1 2))),()))))=_ from zhw sh.sH (by have:=sh.lH;omega) hf hk,zG,zhb,zG]
  refine zd ?_
  have e2:(c.1,(c.2.1,(l.2.2.1,zj l.1 2)))=((l.2.2.2.1,(l.2.1,(l.2.2.1,decide (l.1=2)))):He):=by
   rw [hi.1,hi.2,wo];rfl
  rw [e2]
  exact zug.new (by rw [←hc];exact h)
theorem zFX {l:List Int} (hn:l.length≤1000000000000000000) (b:Int):qu (qQ (l,b,())) fun r=>(∃i:Nat,r.1=(i:Int)∧l[i]?=some b∧∀j,j < i→l[j]?≠some b)∨(r.1 = -1∧¬b∈l):=by
 rw [Vv];unfold gJ
 refine zp (J:=fun x=>(x.1=0∧∀j,j < l.length→l[j]?≠some b)∨(x.1=1∧∃i:Nat,x.2.1.1=(i:Int)∧l[i]?=some b∧∀j,j < i→l[j]?≠some b))
  (qt l.length (fun i s=>s=((0,((i:Int),())),())∧∀j,j < i→l[j]?≠some b) (zxZ hn) ⟨rfl,fun j hj=>by omega⟩ ?_ ?_) ?_
 ·rintro i _ hi ⟨rfl,hp⟩
  have hx:l[i]?=some l[i]:=List.getElem?_eq_getElem hi
  generalize l[i]=s at hx
  refine zh (qq (show (i:Int) < (l.length:Int) by omega)) (zn (zQ (n:=i) hx ?_))
  refine zr (fun h=>?_) (fun h=>?_)
  ·have h:b=s:=jo h
   subst h
   exact zd (zD (.inr ⟨rfl,i,rfl,hx,hp⟩))
  ·have h:b≠s:=jG h
   refine zd (qR ⟨congrArg (fun z=>(((0:Int),(z,())),())) (qO (by omega)),fun j hj hb=>?_⟩)
   rcases Nat.lt_or_ge j i with hji | hji
   ·exact hp j hji hb
   ·have:j=i:=by omega
    subst this
    rw [hx] at hb
    exact h (Option.some.inj hb).symm
 ·rintro _ ⟨rfl,hp⟩
  exact zg (zZ (show ¬(l.length:Int) < (l.length:Int) by omega)) (zd (zD (.inl ⟨rfl,hp⟩)))
 ·rintro ⟨j,⟨v,w,⟨⟩⟩,⟨⟩⟩ (⟨rfl,hq⟩ | ⟨rfl,hq⟩)
  ·refine zh rfl (zd (.inr ⟨rfl,fun hb=>?_⟩))
   obtain ⟨k,hk,e⟩:=List.mem_iff_getElem.1 hb
   exact hq k hk (by rw [List.getElem?_eq_getElem hk,e])
  ·exact zg rfl (zd (.inl hq))
theorem zyp:∀(l:List Int) (i:Nat) (b:Int),l[i]?=some b→(∀j,j < i→l[j]?≠some b)→l.take i++l.drop (i+1)=l.erase b
 |[],i,b,h,_=>by simp at h
 |a::l,0,b,h,_=>by
  simp at h;subst h
  simp
 |a::l,i+1,b,h,h2=>by
  have hne:a≠b:=fun e=>h2 0 (by omega) (by simp [e])
  rw [List.erase_cons_tail (by simpa using hne)]
  have:=zyp l i b (by simpa using h) (fun j hj=>by have:=h2 (j+1) (by omega);simpa using this)
  simp only [List.take_succ_cons,List.drop_succ_cons,List.cons_append]
  rw [this]
theorem zGP {l:List Int} {i:Nat} (hi:i < l.length) (hn:l.length≤1000000000):vH (l,((i:Int),()))=some (l.take i++l.drop (i+1),()):=by
 rw [zhv];unfold VV
 rw [zkW l i (by omega),zG,show wrF .i64 ((i:Int)+1)=((i+1:Nat):Int) from qO (by omega),zep l (i+1) (by omega),zG]
 exact yN (zh (Qo (by simp;omega) (by simp;omega)) (zd rfl))
theorem zFY {l:List Le} {i:Nat} (hi:i < l.length) (hn:l.length≤1000000000):yd (l,((i:Int),()))=some (l.take i++l.drop (i+1),()):=by
 rw [zbO];unfold QD
 rw [zkW l i (by omega),zG,show wrF .i64 ((i:Int)+1)=((i+1:Nat):Int) from qO (by omega),zep l (i+1) (by omega),zG]
 exact yN (zh (Qo (by simp;omega) (by simp;omega)) (zd rfl))
theorem zyq {q:Ca} (hq:q.2.2.2.2.length≤4) (v:Int):qu (opt (qQ ((q.2.2.2.2,(v,())))) fun x1=>
   opt
     (bif (!(zt (x1.1) (0))) then opt (vH ((q.2.2.2.2,(x1.1,())))) fun x2=>
     some (0,(((q.1,(q.2.1,(q.2.2.1,(q.2.2.2.1,x2.1)))),()),()))
    else some (0,((q,()),()))) fun (x3:Nat×((Ca×Unit)×Unit))=>some x3.2.1.1) fun r=>r=(q.1,(q.2.1,(q.2.2.1,(q.2.2.2.1,q.2.2.2.2.erase v)))):=by
 refine zp (zFX (by omega) v) ?_
 rintro ⟨i,⟨⟩⟩ (⟨k,hk,hx,hp⟩ | ⟨hk,hn⟩)
 ·simp only at hk
  subst hk
  have hlt:k < q.2.2.2.2.length:=by
   rcases Nat.lt_or_ge k q.2.2.2.2.length with h | h
   ·exact h
   ·rw [List.getElem?_eq_none h] at hx;cases hx
  refine zn (zh (show (!zt (k:Int) 0)=true by rw [zZ (by omega)];rfl) ?_)
  rw [zGP hlt (by omega),zG]
  refine zd (zd ?_)
  rw [zyp _ _ _ hx hp]
 ·simp only at hk
  subst hk
  refine zn (zg rfl (zd (zd ?_)))
  rw [List.erase_of_not_mem hn]
theorem zCH {n:Fab} {l:List qv} (h:yM n l=0) {id:Int} (hx:∃x∈l,x.1=id):∃M,zdw n l id=(M,0)∧M.Sublist l∧∀x,x∈M↔x∈l∧x.1≠id:=by
 have ok:=zha h
 obtain ⟨_,i3⟩:=zyf (l:=l) (by have:=ok.n12;omega) id
 rcases i3 with ⟨e0,k,y,ek,hk,hy,_⟩ | ⟨_,_,hno⟩
 rotate_left
 ·obtain ⟨x,hm,hi⟩:=hx
  exact absurd hi (hno x hm)
 refine ⟨l.eraseIdx k,?_,List.eraseIdx_sublist _ _,fun x=>?_⟩
 ·unfold zdw
  rw [zM h,cond_true,e0,zM rfl,cond_true,ek,Int.toNat_natCast,List.eraseIdx_eq_take_drop_succ]
 ·rw [List.mem_eraseIdx_iff_getElem?]
  constructor
  ·rintro ⟨j,hj,e⟩
   refine ⟨kI e,fun hi=>?_⟩
   rcases Nat.lt_or_gt_of_ne hj with h1 | h1
   ·exact ok.d k j y x h1 hk e (by rw [hi,hy])
   ·exact ok.d j k x y h1 e hk (by rw [hi,hy])
  ·rintro ⟨hm,hne⟩
   obtain ⟨j,hj,e⟩:=List.mem_iff_getElem.1 hm
   have hx2:l[j]?=some x:=by rw [List.getElem?_eq_getElem hj,e]
   refine ⟨j,fun e2=>?_,hx2⟩
   subst e2
   rw [hx2] at hk
   cases hk
   exact hne hy
theorem zpw {s:Sig} (sh:Shp s) {l:Le} (hid:idP l.2.1) (hold:yM s.1 (led s)=0) {i:Int} {c:Ca} {b:Bool} (hf:Fnd (κ:=cK) (cas s) l.2.1 (zC l.2.1) i c b) (hc:c=cOf s l.2.1) (hn:c.2.1=l.2.2.1) (hst:c.2.2.1=1∨c.2.2.1=4) (hlc:c.2.2.1=4→∃x∈led s,x.1=l.2.1) (hw:c.2.2.2.2.length≤4)
  {d:Ca} (hd:d=(c.1,(c.2.1,(c.2.2.1,(c.2.2.2.1,c.2.2.2.2.erase l.2.2.2.1))))) :
  qu (opt (bif (zj ((((d.2.2.2.2).length:Nat):Int)) (0)) then opt (bif (zj (d.2.2.1) (1)) then some (0,(((d.1,(d.2.1,(2,d.2.2.2))),(s,())),()))
        else opt (gM ((s.1,(s.2.1,(d.1,()))))) fun x4=>
         opt (bif (zj (x4.2.1) (0)) then some (0,(((s.1,(x4.1,s.2.2)),()),()))
          else some (0,((s,()),()))) fun (x5:Nat×((Sig×Unit)×Unit))=>
         some (0,(((d.1,(d.2.1,(5,d.2.2.2))),(x5.2.1.1,())),()))) fun (x6:Nat×((Ca×(Sig×Unit))×Unit))=>
       some (0,((x6.2.1.1,(x6.2.1.2.1,())),()))
      else some (0,((d,(s,())),()))) fun (x7:Nat×((Ca×(Sig×Unit))×Unit))=>
     opt (jT ((x7.2.1.2.1.2.2.2.1,(i,(true,(x7.2.1.1,())))))) fun x8=>
     opt (jn ((x7.2.1.2.1.1,(x7.2.1.2.1.2.1,(x7.2.1.2.1.2.2.1,(x8.1,x7.2.1.2.1.2.2.2.2))))) ((x7.2.1.1,()))) fun x9=>
     some (x9.1,())) fun r=>b=true→Xh s l r.1:=by
 have hci:c.1=l.2.1:=by rw [hc];exact zyo s _
 have hfab:s.1.2.2.1.length≤1000000000000000000:=by rw [sh.fab];exact zoz
 cases b with
 |false=>
  exact (fun hno=>(by
   obtain ⟨_,_,h2⟩:=hf
   have h3:=(h2 rfl).1
   rw [h3] at hst
   rcases hst with h | h
   ·exact absurd (show (0:Int)=1 from h) (by decide)
   ·exact absurd (show (0:Int)=4 from h) (by decide))) ()
 |true=>
 have hn':(cOf s l.2.1).2.1=l.2.2.1:=by rw [←hc];exact hn
 refine zp (J:=fun x=>(x.2.1.2.1).2.2.2.1=cas s∧(x.2.1.1).1=l.2.1∧Xh s l (snds (setC x.2.1.2.1 x.2.1.1) (Wt x.2.1.1))) ?_ ?_
 ·refine zr (fun h=>?_) (fun h=>?_)
  ·have he:c.2.2.2.2.erase l.2.2.2.1=[]:=by
    have h:=jo h
    rw [hd] at h
    exact List.length_eq_zero_iff.1 (by simpa using h)
   have he':(cOf s l.2.1).2.2.2.2.erase l.2.2.2.1=[]:=by rw [←hc];exact he
   refine zp (J:=fun x=>(x.2.1.2.1).2.2.2.1=cas s∧(x.2.1.1).1=l.2.1∧Xh s l (snds (setC x.2.1.2.1 x.2.1.1) (Wt x.2.1.1))) ?_ ?_
   ·refine zr (fun h1=>?_) (fun h1=>?_)
    ·have h1:c.2.2.1=1:=by have:=jo h1;rw [hd] at this;exact this
     refine zd ⟨rfl,by rw [hd];exact hci,?_⟩
     show Xh s l (snds (setC s (d.1,(d.2.1,(2,d.2.2.2)))) (Wt (d.1,(d.2.1,(2,d.2.2.2)))))
     have e:(d.1,(d.2.1,(2,d.2.2.2)))=((l.2.1,(l.2.2.1,(2,((cOf s l.2.1).2.2.2.1,[])))):Ca):=by rw [hd];simp only;rw [he,hci,hn,hc]
     rw [e]
     exact Xh.ready hn' (by rw [←hc];exact h1) he'
    ·have h1:c.2.2.1=4:=by
      have:=jG h1
      rw [hd] at this
      rcases hst with h | h
      ·exact absurd h this
      ·exact h
     obtain ⟨M,hM,hs,hm⟩:=zCH hold (hlc h1)
     have ed1:d.1=l.2.1:=by rw [hd];exact hci
     rw [zo3 hfab,ed1,show zdw s.1 s.2.1 l.2.1=(M,0) from hM,zG]
     refine zn (zh (wc rfl) (zd (zd ⟨rfl,rfl,?_⟩)))
     show Xh s l (snds (setC (upL s M) (l.2.1,(d.2.1,(5,d.2.2.2)))) (Wt (l.2.1,(d.2.1,(5,d.2.2.2)))))
     have e:(l.2.1,(d.2.1,(5,d.2.2.2)))=((l.2.1,(l.2.2.1,(5,((cOf s l.2.1).2.2.2.1,[])))):Ca):=by rw [hd];simp only;rw [he,hn,hc]
     rw [e]
     exact Xh.gone hn' (by rw [←hc];exact h1) he' M hs hm
   ·rintro ⟨j,⟨a,q,⟨⟩⟩,⟨⟩⟩ h2
    exact zd h2
  ·have he:c.2.2.2.2.erase l.2.2.2.1≠[]:=by
    have h:=jG h
    rw [hd] at h
    intro e
    exact h (by simp only;rw [e];rfl)
   refine zd ⟨rfl,by rw [hd];exact hci,?_⟩
   show Xh s l (snds (setC s d) (Wt d))
   have e0:Wt d=[]:=by
    unfold Wt
    have:d.2.2.1=c.2.2.1:=by rw [hd]
    rw [this]
    rcases hst with h | h<;>rw [h]<;>rfl
   have e:d=((l.2.1,(l.2.2.1,((cOf s l.2.1).2.2.1,((cOf s l.2.1).2.2.2.1,(cOf s l.2.1).2.2.2.2.erase l.2.2.2.1)))):Ca):=by rw [hd,←hc,hci,hn]
   rw [e0,zEt,e]
   exact Xh.wait hn' (by rw [←hc];exact hst) (by rw [←hc];exact he)
 ·rintro ⟨j,⟨a,q,⟨⟩⟩,⟨⟩⟩ ⟨h1,h2,h3⟩
  simp only at h1 h2 h3
  simp only
  rw [h1,Gs sh.sC (by have:=sh.lC;omega) hf h2,zG,zk3,zG]
  refine zd fun _=>?_
  unfold setC at h3
  rw [show cas q=cas s from h1] at h3
  exact h3
theorem zA2 {s:Sig} (sh:Shp s) {l:Le} (hid:idP l.2.1) (hold:yM s.1 (led s)=0) (hlc:(cOf s l.2.1).2.2.1=4→∃x∈led s,x.1=l.2.1):qu (vi s (l,())) fun r=>Xh s l r.1:=by
 obtain ⟨i,c,b,e,hf⟩:=Kp sh.sC (by have:=sh.lC;omega) l.2.1
 obtain ⟨hc,hb⟩:=zdy sh.sC hf
 have hc:c=cOf s l.2.1:=hc
 have hw:c.2.2.2.2.length≤4:=by rw [hc];exact zEU sh _
 rw [zek];unfold Wo
 rw [e,zG]
 cases b with
 |false=>
  refine zh rfl (zd (.old (.inr ?_)))
  have h3:=(hf.no rfl).1
  rw [←hc,h3]
  exact ⟨show (0:Int)≠1 by decide,show (0:Int)≠4 by decide⟩
 |true=>
 refine zg rfl (zr (fun h=>?_) (fun h=>?_))
 ·have h:c.2.1≠l.2.2.1:=jG (by simpa using h)
  exact zd (.old (.inl (by rw [←hc];exact h)))
 have hn:c.2.1=l.2.2.1:=jo (by simpa using h)
 refine zr (fun h1=>?_) (fun h1=>?_)
 ·have h1:c.2.2.1≠1:=jG (by simpa using h1)
  refine zr (fun h4=>?_) (fun h4=>?_)
  ·have h4:c.2.2.1≠4:=jG (by simpa using h4)
   exact zd (.old (.inr (by rw [←hc];exact ⟨h1,h4⟩)))
  ·have h4:c.2.2.1=4:=jo (by simpa using h4)
   obtain ⟨r,hr,hd⟩:=zyq hw l.2.2.2.1
   have T:=zpw sh hid hold hf hc hn (.inr h4) (by rw [hc];exact hlc) hw hd
   revert hr
   simp only
   cases qQ (c.2.2.2.2,(l.2.2.2.1,())) with
   |none=>intro hr;cases hr
   |some x1=>
    rw [zG,zG]
    generalize (bif !zt x1.1 0 then _ else _:Option (Nat×((Ca×Unit)×Unit)))=o
    cases o with
    |none=>intro hr;cases hr
    |some x3=>
     intro hr
     rw [zG] at hr
     cases hr
     rw [zG]
     exact T.imp fun r h=>⟨h.1,h.2 rfl⟩
 ·have h1:c.2.2.1=1:=jo (by simpa using h1)
  obtain ⟨r,hr,hd⟩:=zyq hw l.2.2.2.1
  have T:=zpw sh hid hold hf hc hn (.inl h1) (by rw [hc];exact hlc) hw hd
  revert hr
  simp only
  cases qQ (c.2.2.2.2,(l.2.2.2.1,())) with
  |none=>intro hr;cases hr
  |some x1=>
   rw [zG,zG]
   generalize (bif !zt x1.1 0 then _ else _:Option (Nat×((Ca×Unit)×Unit)))=o
   cases o with
   |none=>intro hr;cases hr
   |some x3=>
    intro hr
    rw [zG] at hr
    cases hr
    rw [zG]
    exact T.imp fun r h=>⟨h.1,h.2 rfl⟩
theorem zCI {s:Sig} (sh:Shp s) {l:Le} (hid:idP l.2.1):qu (yx s (l,())) fun r=>KP s l r.1:=by
 obtain ⟨i,w,b,e,hf⟩:=Ws sh.sW (by have:=sh.lW;omega) l.2.1
 obtain ⟨hw,hb⟩:=zdy sh.sW hf
 have hw:w=wOf s l.2.1:=hw
 have hwi:w.1=l.2.1:=by rw [hw];exact zyn s _
 rw [zcB];unfold Jt
 rw [e,zG]
 cases b with
 |false=>
  refine zh rfl (zd (.old (.inr ?_)))
  have h3:=(hf.no rfl).1
  rw [←hw,h3]
  rintro (⟨h,_⟩ | ⟨h,_⟩)
  ·exact absurd (show (0:Int)=1 from h) (by decide)
  ·exact absurd (show (0:Int)=4 from h) (by decide)
 |true=>
 refine zg rfl (zr (fun h=>?_) (fun h=>?_))
 ·have h:w.2.1≠l.2.2.1:=jG (by simpa using h)
  exact zd (.old (.inl (by rw [←hw];exact h)))
 have hn:w.2.1=l.2.2.1:=jo (by simpa using h)
 have hn':(wOf s l.2.1).2.1=l.2.2.1:=by rw [←hw];exact hn
 refine zp (J:=fun x=>(x.1=0∧(x.2.1.1).1=l.2.1∧KP s l (setW s x.2.1.1))∨(x.1≠0∧KP s l s)) ?_ ?_
 ·by_cases h1:w.2.2.1=1
  ·have h1':(wOf s l.2.1).2.2.1=1:=by rw [←hw];exact h1
   refine zh (wc h1) (zr (fun h5=>?_) (fun h5=>?_))
   ·have h5:l.1=5:=jo h5
    refine zd (.inl ⟨rfl,hwi,?_⟩)
    show KP s l (setW s (w.1,(w.2.1,(2,w.2.2.2))))
    rw [hwi,hw]
    exact .ready hn' h1' h5
   have h5:l.1≠5:=jG h5
   refine zp (J:=fun x=>(x.1=0∧(x.2.1.1).1=l.2.1∧KP s l (setW s x.2.1.1))∨(x.1≠0∧KP s l s)) ?_ ?_
   ·refine zh (wc h1) (zr (fun h6=>?_) (fun h6=>?_))
    ·have h6:l.1=6:=jo h6
     refine zd (.inl ⟨rfl,hwi,?_⟩)
     show KP s l (setW s (w.1,(w.2.1,(3,(w.2.2.2.1,l.2.2.2.2.2.2)))))
     rw [hwi,hw]
     exact .fail hn' h1' h6
    have h6:l.1≠6:=jG h6
    refine zn (zg (jg (show w.2.2.1≠4 by omega)) (zd ?_))
    exact zg rfl (zd (.inr ⟨show (1:Nat)≠0 by decide,.old (.inr (by rw [h1'];rintro (⟨_,h | h⟩ | ⟨h,_⟩)<;>omega))⟩))
   ·rintro ⟨j,⟨a,⟨⟩⟩,⟨⟩⟩ (⟨h2,h3,h4⟩ | ⟨h2,h4⟩)
    ·simp only at h2
     subst h2
     exact zh rfl (zd (.inl ⟨rfl,h3,h4⟩))
    ·simp only at h2
     refine zg (by cases j with
      |zero=>exact absurd rfl h2
      |succ n=>rfl) (zd (.inr ⟨show (1:Nat)≠0 by decide,h4⟩))
  ·refine zg (jg h1) ?_
   refine zp (J:=fun x=>(x.1=0∧(x.2.1.1).1=l.2.1∧KP s l (setW s x.2.1.1))∨(x.1≠0∧KP s l s)) ?_ ?_
   ·refine zg (jg h1) ?_
    refine zp (J:=fun x=>(x.1=0∧(x.2.1.1).1=l.2.1∧KP s l (setW s x.2.1.1))∨(x.1≠0∧KP s l s)) ?_ ?_
    ·refine zr (fun h4=>?_) (fun h4=>?_)
     ·have h4:w.2.2.1=4:=jo h4
      have h4':(wOf s l.2.1).2.2.1=4:=by rw [←hw];exact h4
      refine zr (fun h7=>?_) (fun h7=>?_)
      ·have h7:l.1=7:=jo h7
       refine zd (.inl ⟨rfl,hwi,?_⟩)
       show KP s l (setW s (w.1,(w.2.1,(5,w.2.2.2))))
       rw [hwi,hw]
       exact .gone hn' h4' h7
      ·have h7:l.1≠7:=jG h7
       exact zd (.inr ⟨show (1:Nat)≠0 by decide,.old (.inr (by rw [h4'];rintro (⟨h,_⟩ | ⟨_,h⟩)<;>omega))⟩)
     ·have h4:w.2.2.1≠4:=jG h4
      exact zd (.inr ⟨show (1:Nat)≠0 by decide,.old (.inr (by rw [←hw];rintro (⟨h,_⟩ | ⟨h,_⟩)<;>omega))⟩)
    ·rintro ⟨j,⟨a,⟨⟩⟩,⟨⟩⟩ (⟨h2,h3,h4⟩ | ⟨h2,h4⟩)
     ·simp only at h2
      subst h2
      exact zh rfl (zd (.inl ⟨rfl,h3,h4⟩))
     ·simp only at h2
      refine zg (by cases j with
       |zero=>exact absurd rfl h2
       |succ n=>rfl) (zd (.inr ⟨show (1:Nat)≠0 by decide,h4⟩))
   ·rintro ⟨j,⟨a,⟨⟩⟩,⟨⟩⟩ (⟨h2,h3,h4⟩ | ⟨h2,h4⟩)
    ·simp only at h2
     subst h2
     exact zh rfl (zd (.inl ⟨rfl,h3,h4⟩))
    ·simp only at h2
     refine zg (by cases j with
      |zero=>exact absurd rfl h2
      |succ n=>rfl) (zd (.inr ⟨show (1:Nat)≠0 by decide,h4⟩))
 ·rintro ⟨j,⟨a,⟨⟩⟩,⟨⟩⟩ (⟨h2,h3,h4⟩ | ⟨h2,h4⟩)
  ·simp only at h2 h3 h4
   subst h2
   refine zh rfl ?_
   rw [show qF (s.2.2.1,(i,(true,(a,()))))=_ from WQ sh.sW (by have:=sh.lW;omega) hf h3,zG]
   exact zd h4
  ·simp only at h2
   refine zg (by cases j with
    |zero=>exact absurd rfl h2
    |succ n=>rfl) (zd h4)
inductive Gn (s:Sig) (l:Le):Sig→Prop
 |ask (h:l.1=1) {s'} (hs:YR s l s'):Gn s l s'
 |ins (h:l.1=2∨l.1=3) {s'} (hs:zug s l s'):Gn s l s'
 |done (h:l.1=4) {s'} (hs:Xh s l s'):Gn s l s'
 |ans (h:l.1=5∨l.1=6∨l.1=7) {s'} (hs:KP s l s'):Gn s l s'
theorem zuh {k:Int} {s:Sig} (iv:Iv k s) {c:Ca} (hid:idP c.1) (hcl:c.2.2.2.2.length≤4) {M:List qv} (hold:yM s.1 M=0) (lr:∀x∈M,x∈led s∨(x.1=c.1∧zaU x)) (ls:∀x,x.1≠c.1→(x∈M↔x∈led s))
  (g:Gd k c.1 (wOf s c.1) c (fun v=>hOf s v c.1) M) (keep:∀l,LOk (wOf s c.1) (cOf s c.1) (fun v=>hOf s v c.1) l→LOk (wOf s c.1) c (fun v=>hOf s v c.1) l)
  (X:List Le) (new:∀l∈X,l.2.1=c.1∧LOk (wOf s c.1) c (fun v=>hOf s v c.1) l):Iv k (snds (setC (upL s M) c) X):=by
 have e:∀j,cOf (snds (setC (upL s M) c) X) j=if j=c.1 then c else cOf s j:=fun j=>zGM (iv.sh.upL M) c j
 have e1:cOf (snds (setC (upL s M) c) X) c.1=c:=by rw [e,if_pos rfl]
 refine zA1 iv c.1 hid (Int.le_refl k) (((iv.sh.upL M).setC ⟨hid,hcl⟩).snds X) hold lr (fun j hj hne=>⟨rfl,by rw [e,if_neg hne],fun v=>rfl⟩) ls ?_ ?_ ?_
 ·rw [e1];exact g
 ·rw [e1];exact fun l _ h=>keep l h
 ·rw [e1]
  intro l hl
  rcases zk1 X hl with h | h
  ·exact .inl h
  ·exact .inr (new l h)
theorem zk4 {k:Int} {s:Sig} (iv:Iv k s) {c:Ca} (hid:idP c.1) (hcl:c.2.2.2.2.length≤4)
  (g:Gd k c.1 (wOf s c.1) c (fun v=>hOf s v c.1) (led s)) (keep:∀l,LOk (wOf s c.1) (cOf s c.1) (fun v=>hOf s v c.1) l→LOk (wOf s c.1) c (fun v=>hOf s v c.1) l)
  (X:List Le) (new:∀l∈X,l.2.1=c.1∧LOk (wOf s c.1) c (fun v=>hOf s v c.1) l):Iv k (snds (setC s c) X):=
 zuh iv hid hcl (M:=led s) iv.hold (fun x hx=>.inl hx) (fun x _=>Iff.rfl) g keep X new
theorem zFZ {k:Int} {s:Sig} (iv:Iv k s) {a:He} (hid:idP a.2.1) (hn:ndP a.1)
  (g:Gd k a.2.1 (wOf s a.2.1) (cOf s a.2.1) (fun v=>if v=a.1 then a else hOf s v a.2.1) (led s)) (keep:∀l,LOk (wOf s a.2.1) (cOf s a.2.1) (fun v=>hOf s v a.2.1) l→LOk (wOf s a.2.1) (cOf s a.2.1) (fun v=>if v=a.1 then a else hOf s v a.2.1) l)
  (X:List Le) (new:∀l∈X,l.2.1=a.2.1∧LOk (wOf s a.2.1) (cOf s a.2.1) (fun v=>if v=a.1 then a else hOf s v a.2.1) l):Iv k (snds (setH s a) X):=by
 have e:∀v j,idP j→hOf (snds (setH s a) X) v j=if v=a.1∧j=a.2.1 then a else hOf s v j:=fun v j hj=>zGO iv.sh a v j hj hid
 have e1:(fun v=>hOf (snds (setH s a) X) v a.2.1)=fun v=>if v=a.1 then a else hOf s v a.2.1:=by
  funext v
  rw [e v _ hid]
  by_cases h:v=a.1
  ·rw [if_pos ⟨h,rfl⟩,if_pos h]
  ·rw [if_neg (fun q=>h q.1),if_neg h]
 refine zA1 iv a.2.1 hid (Int.le_refl k) ((iv.sh.setH ⟨hn,hid⟩).snds X) iv.hold (fun x hx=>.inl hx) (fun j hj hne=>⟨rfl,rfl,fun v=>by rw [e v j hj,if_neg (fun q=>hne q.2)]⟩) (fun x _=>Iff.rfl) ?_ ?_ ?_
 ·rw [e1];exact g
 ·rw [e1];exact fun l _ h=>keep l h
 ·rw [e1]
  intro l hl
  rcases zk1 X hl with h | h
  ·exact .inl h
  ·exact .inr (new l h)
theorem zjM {k k':Int} {s:Sig} (iv:Iv k s) (hk:k≤k') {w:Wi} (hid:idP w.1)
  (g:Gd k' w.1 w (cOf s w.1) (fun v=>hOf s v w.1) (led s)) (keep:∀l,LOk (wOf s w.1) (cOf s w.1) (fun v=>hOf s v w.1) l→LOk w (cOf s w.1) (fun v=>hOf s v w.1) l)
  (X:List Le) (new:∀l∈X,l.2.1=w.1∧LOk w (cOf s w.1) (fun v=>hOf s v w.1) l):Iv k' (snds (setW s w) X):=by
 have e:∀j,wOf (snds (setW s w) X) j=if j=w.1 then w else wOf s j:=fun j=>zGN iv.sh w j
 have e1:wOf (snds (setW s w) X) w.1=w:=by rw [e,if_pos rfl]
 refine zA1 iv w.1 hid hk ((iv.sh.setW hid).snds X) iv.hold (fun x hx=>.inl hx) (fun j hj hne=>⟨by rw [e,if_neg hne],rfl,fun v=>rfl⟩) (fun x _=>Iff.rfl) ?_ ?_ ?_
 ·rw [e1];exact g
 ·rw [e1];exact fun l _ h=>keep l h
 ·rw [e1]
  intro l hl
  rcases zk1 X hl with h | h
  ·exact .inl h
  ·exact .inr (new l h)
theorem zjN {c:Ca} {l:Le} (h:l∈Wt c):l.2.1=c.1∧l.2.2.1=c.2.1∧((c.2.2.1=2∧l.1=5)∨(c.2.2.1=3∧l.1=6)∨(c.2.2.1=5∧l.1=7)):=by
 unfold Wt at h
 by_cases h2:c.2.2.1=2
 ·rw [if_pos h2] at h;rw [List.mem_singleton.1 h];exact ⟨rfl,rfl,.inl ⟨h2,rfl⟩⟩
 rw [if_neg h2] at h
 by_cases h3:c.2.2.1=3
 ·rw [if_pos h3] at h;rw [List.mem_singleton.1 h];exact ⟨rfl,rfl,.inr (.inl ⟨h3,rfl⟩)⟩
 rw [if_neg h3] at h
 by_cases h5:c.2.2.1=5
 ·rw [if_pos h5] at h;rw [List.mem_singleton.1 h];exact ⟨rfl,rfl,.inr (.inr ⟨h5,rfl⟩)⟩
 rw [if_neg h5] at h;cases h
theorem zhd {c:Ca} {l:Le} (h:l∈zcn c):l.2.1=c.1∧l.2.2.1=c.2.1∧l.2.2.2.1∈c.2.2.2.2∧((c.2.2.1=1∧l.1=2)∨(c.2.2.1=4∧l.1=3)):=by
 unfold zcn at h
 by_cases h1:c.2.2.1=1
 ·rw [if_pos h1] at h
  obtain ⟨n,hn,rfl⟩:=List.mem_map.1 h
  exact ⟨rfl,rfl,hn,.inl ⟨h1,rfl⟩⟩
 rw [if_neg h1] at h
 by_cases h4:c.2.2.1=4
 ·rw [if_pos h4] at h
  obtain ⟨n,hn,rfl⟩:=List.mem_map.1 h
  exact ⟨rfl,rfl,hn,.inr ⟨h4,rfl⟩⟩
 rw [if_neg h4] at h;cases h
theorem zoA {w:Wi} {c:Ca} {h:Int→He} {l:Le} (h1:1≤c.2.1) (hl:l∈Wt c):LOk w c h l:=by
 obtain ⟨_,e2,e3⟩:=zjN hl
 unfold LOk
 rcases e3 with ⟨a,b⟩ | ⟨a,b⟩ | ⟨a,b⟩
 ·exact .inr (.inr (.inr (.inr (.inl ⟨b,by omega,by omega,fun _=>a⟩))))
 ·exact .inr (.inr (.inr (.inr (.inr (.inl ⟨b,by omega,by omega,fun _=>a⟩)))))
 ·exact .inr (.inr (.inr (.inr (.inr (.inr ⟨b,by omega,by omega,fun _=>a⟩)))))
theorem zui {w:Wi} {c:Ca} {h:Int→He} {l:Le} (h1:1≤c.2.1) (hr:∀v∈c.2.2.2.2,ndP v) (hl:l∈zcn c):LOk w c h l:=by
 obtain ⟨_,e2,e3,e4⟩:=zhd hl
 unfold LOk
 rcases e4 with ⟨a,b⟩ | ⟨a,b⟩
 ·exact .inr (.inl ⟨b,hr _ e3,by omega,by omega,.inl ⟨e2,.inl a⟩⟩)
 ·exact .inr (.inr (.inl ⟨b,hr _ e3,by omega,by omega,fun _=>.inl a⟩))
theorem zA3:∀v∈N4,ndP v:=by unfold N4 ndP;decide
theorem zGQ:N4.Nodup:=by unfold N4;decide
theorem zCJ {v:Int} (h:ndP v):v∈N4:=by
 unfold ndP at h
 rcases (show v=0∨v=1∨v=2∨v=3 by omega) with rfl | rfl | rfl | rfl<;>decide
theorem zqP {w:Wi} {c c':Ca} {h:Int→He} (hlt:c.2.1 < c'.2.1) (hp:c'.2.2.1=4∨(c.2.2.1≠1∧c.2.2.1≠2∧c.2.2.1≠4)):∀l,LOk w c h l→LOk w c' h l:=by
 intro l hl
 unfold LOk at hl ⊢
 rcases hl with hl | ⟨e,hn,h1,h2,h3⟩ | ⟨e,hn,h1,h2,h3⟩ | hl | ⟨e,h1,h2,h3⟩ | ⟨e,h1,h2,h3⟩ | ⟨e,h1,h2,h3⟩
 ·exact .inl hl
 ·refine .inr (.inl ⟨e,hn,h1,by omega,?_⟩)
  rcases hp with hp | hp
  ·exact .inr (.inl ⟨by omega,hp⟩)
  ·rcases h3 with ⟨_,h4⟩ | ⟨_,h4⟩ | h4
   ·omega
   ·omega
   ·exact .inr (.inr h4)
 ·exact .inr (.inr (.inl ⟨e,hn,h1,by omega,fun h=>by omega⟩))
 ·exact .inr (.inr (.inr (.inl hl)))
 ·exact .inr (.inr (.inr (.inr (.inl ⟨e,h1,by omega,fun h=>by omega⟩))))
 ·exact .inr (.inr (.inr (.inr (.inr (.inl ⟨e,h1,by omega,fun h=>by omega⟩)))))
 ·exact .inr (.inr (.inr (.inr (.inr (.inr ⟨e,h1,by omega,fun h=>by omega⟩)))))
theorem zjO {k id:Int} {w:Wi} {c:Ca} {h:Int→He} {L:List qv} {l:Le} (g:Gd k id w c h L) (hl:LOk w c h l) (hk:l.1=1) (hlt:c.2.1 < l.2.2.1) :
  l.2.2.1=w.2.1∧1≤l.2.2.1∧((l.2.2.2.2.1=true∧w.2.2.1=1∧l.2.2.2.2.2.1=w.2.2.2.1∧(c.2.2.1=0∨c.2.2.1=3∨c.2.2.1=5))∨(l.2.2.2.2.1=false∧w.2.2.1=4∧c.2.2.1=2)):=by
 unfold LOk at hl
 rcases hl with ⟨e,h1,h2,h3⟩ | ⟨e,_⟩ | ⟨e,_⟩ | ⟨e,_⟩ | ⟨e,_⟩ | ⟨e,_⟩ | ⟨e,_⟩
 rotate_left
 all_goals try (rw [hk] at e;exact absurd e (by decide))
 have c0:=g.c0
 have hnum:l.2.2.1=w.2.1:=by omega
 refine ⟨hnum,h1,?_⟩
 have hst:(w.2.2.1=1∧(c.2.2.1=0∨c.2.2.1=3∨c.2.2.1=5))∨(w.2.2.1=4∧c.2.2.1=2):=by
  rcases Int.lt_or_le 0 c.2.1 with h4 | h4
  ·have:=g.cl (by omega) (by omega)
   omega
  ·have:=g.cz (by omega)
   have:=this.2 (by omega)
   omega
 rcases h3 hnum with ⟨a1,a2,a3⟩ | ⟨a1,a2⟩
 ·rcases hst with ⟨b1,b2⟩ | ⟨b1,b2⟩
  ·exact .inl ⟨a1,b1,a3,b2⟩
  ·omega
 ·rcases hst with ⟨b1,b2⟩ | ⟨b1,b2⟩
  ·omega
  ·exact .inr ⟨a1,b1,b2⟩
theorem Iv.ask {k:Int} {s:Sig} (iv:Iv k s) {l:Le} (hl:zfU s l) (hk:l.1=1) {s':Sig} (hs:YR s l s'):Iv k s':=by
 obtain ⟨hid,hl⟩:=hl
 have g:=iv.g l.2.1 hid
 have n1:1≤l.2.2.1:=by
  unfold LOk at hl
  rcases hl with ⟨e,h1,h2,h3⟩ | ⟨e,_⟩ | ⟨e,_⟩ | ⟨e,_⟩ | ⟨e,_⟩ | ⟨e,_⟩ | ⟨e,_⟩
  ·exact h1
  all_goals (rw [hk] at e;exact absurd e (by decide))
 have hci:=zyo s l.2.1
 cases hs with
 |old h=>exact iv
 |same h=>
  refine iv.send _ fun a ha=>?_
  have e1:a.2.1=l.2.1:=by rw [(zjN ha).1,hci]
  refine ⟨by rw [e1];exact hid,?_⟩
  rw [e1]
  exact zoA (by omega) ha
 |fail h hw e he ha=>
  obtain ⟨a1,a2,⟨_,a3,a4,a5⟩ | ⟨a3,_⟩⟩:=zjO g hl hk h
  rotate_left
  ·rw [hw] at a3;cases a3
  have c1:=g.c0
  have a6:(cOf s l.2.1).2.2.1≠1∧(cOf s l.2.1).2.2.1≠2∧(cOf s l.2.1).2.2.1≠4:=by omega
  refine zk4 iv (c:=(l.2.1,(l.2.2.1,(3,(e,[]))))) hid (by simp) ?_ (zqP (c':=(l.2.1,(l.2.2.1,(3,(e,[]))))) h (.inr a6)) _ (fun a ha=>⟨(zjN ha).1,zoA a2 ha⟩)
  show Gd k l.2.1 (wOf s l.2.1) (l.2.1,(l.2.2.1,(3,(e,[])))) (fun v=>hOf s v l.2.1) (led s)
  exact {
      n0:=g.n0,z:=fun hz=>by omega,st:=g.st,c0:=⟨by simp only;omega,.inl a1⟩,cz:=fun hz=>absurd (show l.2.2.1=0 from hz) (by omega),cw:=fun _ _=>.inr (.inr (.inl ⟨rfl,.inl a3⟩)),cl:=fun _ hlt=>by simp only at hlt;omega,
      lg:=fun x hx hi=>by have:=(g.lg x hx hi).2;omega,lc:=fun hc=>by simp only at hc;omega,hn:=fun v hv=>by have:=g.hn v hv;simp only;omega,
      he:=fun v hv _ hq=>by have:=g.hn v hv;simp only at hq;omega,ho:=fun v hv ho=>by have:=g.ho v hv ho;omega,
      wn:=fun hc=>by simp only at hc;omega,wz:=fun _ _=>rfl,wr:=fun v hv=>(by cases hv),wd:=List.nodup_nil,wh:=fun hc=>by simp only at hc;omega}
 |put h hw ha hh=>
  obtain ⟨a1,a2,⟨_,a3,a4,a5⟩ | ⟨a3,_⟩⟩:=zjO g hl hk h
  rotate_left
  ·rw [hw] at a3;cases a3
  have c1:=g.c0
  have a6:(cOf s l.2.1).2.2.1≠1∧(cOf s l.2.1).2.2.1≠2∧(cOf s l.2.1).2.2.1≠4:=by omega
  have hst:=g.st (by omega)
  have hsi:l.2.2.2.2.2.1.1=l.2.1:=by rw [a4];exact hst.2.1
  refine zuh iv (c:=(l.2.1,(l.2.2.1,(1,(0,N4))))) hid (by simp [N4]) hh (fun x hx=>?_) (fun x hne=>?_) ?_ (zqP (c':=(l.2.1,(l.2.2.1,(1,(0,N4))))) h (.inr a6)) _ (fun a ha=>⟨(zhd ha).1,zui a2 zA3 ha⟩)
  ·rcases List.mem_append.1 hx with hx | hx
   ·exact .inl hx
   ·rw [List.mem_singleton.1 hx]
    exact .inr ⟨hsi,by rw [a4];exact hst.2.2⟩
  ·rw [List.mem_append,List.mem_singleton]
   refine ⟨fun hx=>?_,.inl⟩
   rcases hx with hx | hx
   ·exact hx
   ·rw [hx] at hne;exact absurd hsi hne
  show Gd k l.2.1 (wOf s l.2.1) (l.2.1,(l.2.2.1,(1,(0,N4)))) (fun v=>hOf s v l.2.1) (led s++[l.2.2.2.2.2.1])
  exact {
      n0:=g.n0,z:=fun hz=>by omega,st:=g.st,c0:=⟨by simp only;omega,.inl a1⟩,cz:=fun hz=>absurd (show l.2.2.1=0 from hz) (by omega),cw:=fun _ _=>.inl ⟨rfl,a3⟩,cl:=fun _ hlt=>by simp only at hlt;omega,
      lg:=fun x hx hi=>by
       rcases List.mem_append.1 hx with hx | hx
       ·have:=(g.lg x hx hi).2;omega
       ·rw [List.mem_singleton.1 hx];exact ⟨a4,.inl rfl⟩
      lc:=fun _=>⟨_,List.mem_append.2 (.inr (List.mem_singleton.2 rfl)),hsi⟩,hn:=fun v hv=>by have:=g.hn v hv;simp only;omega,
      he:=fun v hv _ hq=>by have:=g.hn v hv;simp only at hq;omega,ho:=fun v hv ho=>.inl rfl,
      wn:=fun _=>by simp [N4],wz:=fun hc=>absurd rfl hc,wr:=zA3,wd:=zGQ,wh:=fun _ v hv=>.inl (zCJ hv)}
 |gone h hw hx=>
  obtain ⟨a1,a2,⟨a3,_⟩ | ⟨_,a3,a4⟩⟩:=zjO g hl hk h
  ·rw [hw] at a3;cases a3
  obtain ⟨x,hm,hi⟩:=g.lc (.inr (.inl a4))
  exact absurd hi (hx x hm)
 |drop h hw x hx hi=>
  obtain ⟨a1,a2,⟨a3,_⟩ | ⟨_,a3,a4⟩⟩:=zjO g hl hk h
  ·rw [hw] at a3;cases a3
  have c1:=g.c0
  refine zk4 iv (c:=(l.2.1,(l.2.2.1,(4,(0,N4))))) hid (by simp [N4]) ?_ (zqP (c':=(l.2.1,(l.2.2.1,(4,(0,N4))))) h (.inl rfl)) _ (fun a ha=>⟨(zhd ha).1,zui a2 zA3 ha⟩)
  show Gd k l.2.1 (wOf s l.2.1) (l.2.1,(l.2.2.1,(4,(0,N4)))) (fun v=>hOf s v l.2.1) (led s)
  exact {
      n0:=g.n0,z:=fun hz=>by omega,st:=g.st,c0:=⟨by simp only;omega,.inl a1⟩,cz:=fun hz=>absurd (show l.2.2.1=0 from hz) (by omega),cw:=fun _ _=>.inr (.inr (.inr (.inl ⟨rfl,a3⟩))),cl:=fun _ hlt=>by simp only at hlt;omega,
      lg:=fun y hy hi=>⟨(g.lg y hy hi).1,.inr (.inr rfl)⟩,lc:=fun _=>⟨x,hx,hi⟩,hn:=fun v hv=>by have:=g.hn v hv;simp only;omega,
      he:=fun v hv _ hq=>by have:=g.hn v hv;simp only at hq;omega,ho:=fun v hv ho=>.inr (.inr rfl),
      wn:=fun _=>by simp [N4],wz:=fun _ hc=>absurd rfl hc,wr:=zA3,wd:=zGQ,wh:=fun _ v hv=>.inl (zCJ hv)}
theorem zGR {w:Wi} {c:Ca} {h:Int→He} {l:Le} (hl:LOk w c h l) (hk:l.1=2∨l.1=3) :
  ndP l.2.2.2.1∧1≤l.2.2.1∧l.2.2.1≤c.2.1∧((l.1=2∧((l.2.2.1=c.2.1∧(c.2.2.1=1∨c.2.2.1=2))∨(l.2.2.1 < c.2.1∧c.2.2.1=4)∨l.2.2.1 < (h l.2.2.2.1).2.2.1))∨(l.1=3∧(l.2.2.1=c.2.1→c.2.2.1=4∨c.2.2.1=5))):=by
 unfold LOk at hl
 rcases hl with ⟨e,_⟩ | ⟨e,hn,h1,h2,h3⟩ | ⟨e,hn,h1,h2,h3⟩ | ⟨e,_⟩ | ⟨e,_⟩ | ⟨e,_⟩ | ⟨e,_⟩
 ·omega
 ·exact ⟨hn,h1,h2,.inl ⟨e,h3⟩⟩
 ·exact ⟨hn,h1,h2,.inr ⟨e,h3⟩⟩
 all_goals omega
theorem zF0 {w:Wi} {c:Ca} {h h':Int→He} (hle:∀v,(h v).2.2.1≤(h' v).2.2.1):∀l,LOk w c h l→LOk w c h' l:=by
 intro l hl
 unfold LOk at hl ⊢
 rcases hl with hl | ⟨e,hn,h1,h2,h3⟩ | hl | ⟨e,hn,h1,h2⟩ | hl
 ·exact .inl hl
 ·refine .inr (.inl ⟨e,hn,h1,h2,?_⟩)
  rcases h3 with h4 | h4 | h4
  ·exact .inl h4
  ·exact .inr (.inl h4)
  ·have:=hle l.2.2.2.1
   exact .inr (.inr (by omega))
 ·exact .inr (.inr (.inl hl))
 ·have:=hle l.2.2.2.1
  exact .inr (.inr (.inr (.inl ⟨e,hn,h1,by omega⟩)))
 ·exact .inr (.inr (.inr (.inr hl)))
theorem Iv.ins {k:Int} {s:Sig} (iv:Iv k s) {l:Le} (hl:zfU s l) (hk:l.1=2∨l.1=3) {s':Sig} (hs:zug s l s'):Iv k s':=by
 obtain ⟨hid,hl⟩:=hl
 have g:=iv.g l.2.1 hid
 obtain ⟨hn,n1,n2,hcase⟩:=zGR hl hk
 cases hs with
 |old h=>exact iv
 |new h=>
  have hup:∀v,(hOf s v l.2.1).2.2.1≤(if v=l.2.2.2.1 then ((l.2.2.2.1,(l.2.1,(l.2.2.1,decide (l.1=2)))):He) else hOf s v l.2.1).2.2.1:=fun v=>by
   by_cases hv:v=l.2.2.2.1
   ·rw [if_pos hv,hv];exact h
   ·rw [if_neg hv];exact Int.le_refl _
  have gn:=g.hn
  have ge:=g.he
  have go:=g.ho
  have gh:=g.wh
  refine zFZ iv (a:=(l.2.2.2.1,(l.2.1,(l.2.2.1,decide (l.1=2))))) hid hn ?_ (zF0 hup) _ (fun a ha=>?_)
  ·show Gd k l.2.1 (wOf s l.2.1) (cOf s l.2.1) (fun v=>if v=l.2.2.2.1 then ((l.2.2.2.1,(l.2.1,(l.2.2.1,decide (l.1=2)))):He) else hOf s v l.2.1) (led s)
   exact {g with
    hn:=fun v hv=>by
     by_cases e:v=l.2.2.2.1
     ·simp only [if_pos e];omega
     ·simp only [if_neg e];exact gn v hv
    he:=fun v hv h1=>by
     by_cases e:v=l.2.2.2.1
     ·simp only [if_pos e]
      intro h2
      rcases hcase with ⟨hk2,h3 | h3 | h3⟩ | ⟨hk3,h3⟩
      ·exact .inl ⟨decide_eq_true hk2,h3.2⟩
      ·omega
      ·have h3:l.2.2.1 < (hOf s l.2.2.2.1 l.2.1).2.2.1:=h3
       omega
      ·exact .inr ⟨decide_eq_false (by omega),h3 h2⟩
     ·simp only [if_neg e];exact ge v hv h1
    ho:=fun v hv=>by
     by_cases e:v=l.2.2.2.1
     ·simp only [if_pos e]
      intro h2
      have h2:=of_decide_eq_true h2
      rcases hcase with ⟨hk2,h3 | h3 | h3⟩ | ⟨hk3,h3⟩
      ·omega
      ·omega
      ·have h3:l.2.2.1 < (hOf s l.2.2.2.1 l.2.1).2.2.1:=h3
       omega
      ·omega
     ·simp only [if_neg e];exact go v hv
    wh:=fun hc v hv=>by
     rcases gh hc v hv with h2 | h2
     ·exact .inl h2
     ·refine .inr ?_
      by_cases e:v=l.2.2.2.1
      ·simp only [if_pos e]
       have h2:(hOf s v l.2.1).2.2.1=(cOf s l.2.1).2.1:=h2
       rw [e] at h2
       omega
      ·simp only [if_neg e];exact h2}
  ·rw [List.mem_singleton.1 ha]
   refine ⟨rfl,?_⟩
   unfold LOk
   refine .inr (.inr (.inr (.inl ⟨rfl,hn,n1,?_⟩)))
   simp only [if_pos]
   exact Int.le_refl _
theorem zyr {l:List Int} (hd:l.Nodup) {a b:Int}:a∈l.erase b↔a≠b∧a∈l:=hd.mem_erase_iff
theorem Iv.done {k:Int} {s:Sig} (iv:Iv k s) {l:Le} (hl:zfU s l) (hk:l.1=4) {s':Sig} (hs:Xh s l s'):Iv k s':=by
 obtain ⟨hid,hl⟩:=hl
 have g:=iv.g l.2.1 hid
 have hci:=zyo s l.2.1
 obtain ⟨hn,n1,n2⟩:ndP l.2.2.2.1∧1≤l.2.2.1∧l.2.2.1≤(hOf s l.2.2.2.1 l.2.1).2.2.1:=by
  unfold LOk at hl
  rcases hl with ⟨e,_⟩ | ⟨e,_⟩ | ⟨e,_⟩ | ⟨e,hn,h1,h2⟩ | ⟨e,_⟩ | ⟨e,_⟩ | ⟨e,_⟩
  ·omega
  ·omega
  ·omega
  ·exact ⟨hn,h1,h2⟩
  all_goals omega
 have hnn:=g.hn l.2.2.2.1 hn
 have hwl:=zEU iv.sh l.2.1
 have gw:=g.wh
 have ge:=g.he
 have go:=g.ho
 have gcw:=g.cw
 have gcl:=g.cl
 have gc0:=g.c0
 cases hs with
 |old h=>exact iv
 |wait h hs hw=>
  have e1:l.2.2.1=(cOf s l.2.1).2.1:=h.symm
  refine zk4 iv (c:=(l.2.1,(l.2.2.1,((cOf s l.2.1).2.2.1,((cOf s l.2.1).2.2.2.1,(cOf s l.2.1).2.2.2.2.erase l.2.2.2.1))))) hid (Nat.le_trans (List.length_erase_le) hwl) ?_ (fun a ha=>?_) [] (fun a ha=>by cases ha)
  ·show Gd k l.2.1 (wOf s l.2.1) (l.2.1,(l.2.2.1,((cOf s l.2.1).2.2.1,((cOf s l.2.1).2.2.2.1,(cOf s l.2.1).2.2.2.2.erase l.2.2.2.1)))) (fun v=>hOf s v l.2.1) (led s)
   rw [e1]
   exact {g with
    wn:=fun _=>hw
    wz:=fun h1 h4=>by
     rcases hs with h5 | h5
     ·exact absurd h5 h1
     ·exact absurd h5 h4
    wr:=fun v hv=>g.wr v (List.mem_of_mem_erase hv)
    wd:=g.wd.erase _
    wh:=fun hc v hv=>by
     by_cases e:v=l.2.2.2.1
     ·refine .inr ?_
      rw [e]
      show (hOf s l.2.2.2.1 l.2.1).2.2.1=(cOf s l.2.1).2.1
      have hnn:0≤(hOf s l.2.2.2.1 l.2.1).2.2.1∧(hOf s l.2.2.2.1 l.2.1).2.2.1≤(cOf s l.2.1).2.1:=hnn
      omega
     ·rcases gw hc v hv with h2 | h2
      ·exact .inl ((zyr g.wd).2 ⟨e,h2⟩)
      ·exact .inr h2}
  ·have:LOk (wOf s l.2.1) (l.2.1,(l.2.2.1,((cOf s l.2.1).2.2.1,((cOf s l.2.1).2.2.2.1,(cOf s l.2.1).2.2.2.2.erase l.2.2.2.1)))) (fun v=>hOf s v l.2.1) a:=by
    rw [e1]
    exact ha
   exact this
 |ready h hs hw=>
  have e1:l.2.2.1=(cOf s l.2.1).2.1:=h.symm
  have hall:∀v,ndP v→(hOf s v l.2.1).2.2.1=(cOf s l.2.1).2.1:=fun v hv=>by
   have hnn:0≤(hOf s l.2.2.2.1 l.2.1).2.2.1∧(hOf s l.2.2.2.1 l.2.1).2.2.1≤(cOf s l.2.1).2.1:=hnn
   rcases gw (.inl hs) v hv with h2 | h2
   ·by_cases e:v=l.2.2.2.1
    ·rw [e];omega
    ·have:v∈(cOf s l.2.1).2.2.2.2.erase l.2.2.2.1:=(zyr g.wd).2 ⟨e,h2⟩
     rw [hw] at this;cases this
   ·exact h2
  refine zk4 iv (c:=(l.2.1,(l.2.2.1,(2,((cOf s l.2.1).2.2.2.1,[]))))) hid (by simp) ?_ (fun a ha=>?_) _ (fun a ha=>⟨(zjN ha).1,zoA n1 ha⟩)
  ·show Gd k l.2.1 (wOf s l.2.1) (l.2.1,(l.2.2.1,(2,((cOf s l.2.1).2.2.2.1,[])))) (fun v=>hOf s v l.2.1) (led s)
   rw [e1]
   exact {g with
    cz:=fun hz=>absurd (show (cOf s l.2.1).2.1=0 from hz) (by omega)
    cw:=fun h1 h2=>by
     have:=gcw h1 h2
     exact .inr (.inl ⟨rfl,.inl (by omega)⟩)
    cl:=fun h1 h2=>by
     have:=gcl h1 h2
     omega
    lg:=fun x hx hi=>⟨(g.lg x hx hi).1,.inr (.inl rfl)⟩
    lc:=fun _=>g.lc (.inl hs)
    he:=fun v hv h1 h2=>by
     rcases ge v hv h1 h2 with h3 | h3
     ·exact .inl ⟨h3.1,.inr rfl⟩
     ·omega
    ho:=fun v hv _=>.inr (.inl rfl)
    wn:=fun hc=>by simp only at hc;omega
    wz:=fun _ _=>rfl
    wr:=fun v hv=>(by cases hv)
    wd:=List.nodup_nil
    wh:=fun _ v hv=>.inr (hall v hv)}
  ·have:LOk (wOf s l.2.1) (l.2.1,(l.2.2.1,(2,((cOf s l.2.1).2.2.2.1,[])))) (fun v=>hOf s v l.2.1) a:=by
    rw [e1]
    have ha:LOk (wOf s l.2.1) (cOf s l.2.1) (fun v=>hOf s v l.2.1) a:=ha
    unfold LOk at ha ⊢
    rcases ha with ha | ⟨e,hn,h1,h2,h3⟩ | ⟨e,hn,h1,h2,h3⟩ | ha | ⟨e,h1,h2,h3⟩ | ⟨e,h1,h2,h3⟩ | ⟨e,h1,h2,h3⟩
    ·exact .inl ha
    ·refine .inr (.inl ⟨e,hn,h1,h2,?_⟩)
     rcases h3 with h4 | h4 | h4
     ·exact .inl ⟨h4.1,.inr rfl⟩
     ·omega
     ·exact .inr (.inr h4)
    ·exact .inr (.inr (.inl ⟨e,hn,h1,h2,fun h5=>by have:=h3 h5;omega⟩))
    ·exact .inr (.inr (.inr (.inl ha)))
    ·exact .inr (.inr (.inr (.inr (.inl ⟨e,h1,h2,fun h5=>rfl⟩))))
    ·exact .inr (.inr (.inr (.inr (.inr (.inl ⟨e,h1,h2,fun h5=>by have:=h3 h5;omega⟩)))))
    ·exact .inr (.inr (.inr (.inr (.inr (.inr ⟨e,h1,h2,fun h5=>by have:=h3 h5;omega⟩)))))
   exact this
 |gone h hs hw M hM hm=>
  have e1:l.2.2.1=(cOf s l.2.1).2.1:=h.symm
  have hall:∀v,ndP v→(hOf s v l.2.1).2.2.1=(cOf s l.2.1).2.1:=fun v hv=>by
   have hnn:0≤(hOf s l.2.2.2.1 l.2.1).2.2.1∧(hOf s l.2.2.2.1 l.2.1).2.2.1≤(cOf s l.2.1).2.1:=hnn
   rcases gw (.inr (.inr hs)) v hv with h2 | h2
   ·by_cases e:v=l.2.2.2.1
    ·rw [e];omega
    ·have:v∈(cOf s l.2.1).2.2.2.2.erase l.2.2.2.1:=(zyr g.wd).2 ⟨e,h2⟩
     rw [hw] at this;cases this
   ·exact h2
  have hoff:∀v,ndP v→(hOf s v l.2.1).2.2.2=false:=fun v hv=>by
   rcases ge v hv (by omega) (hall v hv) with h3 | h3
   ·omega
   ·exact h3.1
  refine zuh iv (c:=(l.2.1,(l.2.2.1,(5,((cOf s l.2.1).2.2.2.1,[]))))) hid (by simp) (zCz hM iv.hold) (fun x hx=>.inl (hM.subset hx)) (fun x hne=>⟨fun hx=>((hm x).1 hx).1,fun hx=>(hm x).2 ⟨hx,hne⟩⟩) ?_ (fun a ha=>?_) _ (fun a ha=>⟨(zjN ha).1,zoA n1 ha⟩)
  ·show Gd k l.2.1 (wOf s l.2.1) (l.2.1,(l.2.2.1,(5,((cOf s l.2.1).2.2.2.1,[])))) (fun v=>hOf s v l.2.1) M
   rw [e1]
   exact {g with
    cz:=fun hz=>absurd (show (cOf s l.2.1).2.1=0 from hz) (by omega)
    cw:=fun h1 h2=>by
     have:=gcw h1 h2
     exact .inr (.inr (.inr (.inr ⟨rfl,.inl (by omega)⟩)))
    cl:=fun h1 h2=>by
     have:=gcl h1 h2
     omega
    lg:=fun x hx hi=>absurd hi ((hm x).1 hx).2
    lc:=fun hc=>by simp only at hc;omega
    he:=fun v hv h1 h2=>by
     rcases ge v hv h1 h2 with h3 | h3
     ·omega
     ·exact .inr ⟨h3.1,.inr rfl⟩
    ho:=fun v hv ho=>by
     have:=hoff v hv
     rw [this] at ho;cases ho
    wn:=fun hc=>by simp only at hc;omega
    wz:=fun _ _=>rfl
    wr:=fun v hv=>(by cases hv)
    wd:=List.nodup_nil
    wh:=fun hc=>by simp only at hc;omega}
  ·have:LOk (wOf s l.2.1) (l.2.1,(l.2.2.1,(5,((cOf s l.2.1).2.2.2.1,[])))) (fun v=>hOf s v l.2.1) a:=by
    rw [e1]
    have ha:LOk (wOf s l.2.1) (cOf s l.2.1) (fun v=>hOf s v l.2.1) a:=ha
    unfold LOk at ha ⊢
    rcases ha with ha | ⟨e,hn,h1,h2,h3⟩ | ⟨e,hn,h1,h2,h3⟩ | ha | ⟨e,h1,h2,h3⟩ | ⟨e,h1,h2,h3⟩ | ⟨e,h1,h2,h3⟩
    ·exact .inl ha
    ·refine .inr (.inl ⟨e,hn,h1,h2,.inr (.inr ?_)⟩)
     have:=hall _ hn
     show a.2.2.1 < (hOf s a.2.2.2.1 l.2.1).2.2.1
     rcases h3 with h4 | h4 | h4
     ·omega
     ·omega
     ·exact h4
    ·exact .inr (.inr (.inl ⟨e,hn,h1,h2,fun h5=>.inr rfl⟩))
    ·exact .inr (.inr (.inr (.inl ha)))
    ·exact .inr (.inr (.inr (.inr (.inl ⟨e,h1,h2,fun h5=>by have:=h3 h5;omega⟩))))
    ·exact .inr (.inr (.inr (.inr (.inr (.inl ⟨e,h1,h2,fun h5=>by have:=h3 h5;omega⟩)))))
    ·exact .inr (.inr (.inr (.inr (.inr (.inr ⟨e,h1,h2,fun h5=>rfl⟩)))))
   exact this
theorem zGS {w:Wi} {c:Ca} {h:Int→He} {l:Le} (hl:LOk w c h l) (hk:l.1=5∨l.1=6∨l.1=7):1≤l.2.2.1∧l.2.2.1≤c.2.1∧(l.2.2.1=c.2.1→(l.1=5∧c.2.2.1=2)∨(l.1=6∧c.2.2.1=3)∨(l.1=7∧c.2.2.1=5)):=by
 unfold LOk at hl
 rcases hl with ⟨e,_⟩ | ⟨e,_⟩ | ⟨e,_⟩ | ⟨e,_⟩ | ⟨e,h1,h2,h3⟩ | ⟨e,h1,h2,h3⟩ | ⟨e,h1,h2,h3⟩
 all_goals omega
theorem zys {w w':Wi} {c:Ca} {h:Int→He} (hn:w'.2.1=w.2.1) (hx:w'.2.2.2.1=w.2.2.2.1) (hs:(w.2.2.1=1∧(w'.2.2.1=2∨w'.2.2.1=3))∨(w.2.2.1=4∧w'.2.2.1=5)):∀l,LOk w c h l→LOk w' c h l:=by
 intro l hl
 unfold LOk at hl ⊢
 rcases hl with ⟨e,h1,h2,h3⟩ | hl
 ·refine .inl ⟨e,h1,by omega,fun h4=>?_⟩
  rcases h3 (by omega) with ⟨a1,a2,a3⟩ | ⟨a1,a2⟩
  ·exact .inl ⟨a1,by omega,by rw [hx];exact a3⟩
  ·exact .inr ⟨a1,by omega⟩
 ·exact .inr hl
theorem zzF {w w':Wi} {c:Ca} {h:Int→He} (hn:w.2.1 < w'.2.1):∀l,LOk w c h l→LOk w' c h l:=by
 intro l hl
 unfold LOk at hl ⊢
 rcases hl with ⟨e,h1,h2,h3⟩ | hl
 ·exact .inl ⟨e,h1,by omega,fun h4=>by omega⟩
 ·exact .inr hl
theorem Iv.ans {k:Int} {s:Sig} (iv:Iv k s) {l:Le} (hl:zfU s l) (hk:l.1=5∨l.1=6∨l.1=7) {s':Sig} (hs:KP s l s'):Iv k s':=by
 obtain ⟨hid,hl⟩:=hl
 have g:=iv.g l.2.1 hid
 obtain ⟨n1,n2,n3⟩:=zGS hl hk
 have hwi:=zyn s l.2.1
 have gc0:=g.c0
 have gcw:=g.cw
 have gst:=g.st
 have gn0:=g.n0
 cases hs with
 |old h=>exact iv
 |ready h hs hk5=>
  have hc:(cOf s l.2.1).2.2.1=2:=by have:=n3 (by omega);omega
  have e:snds (setW s (l.2.1,((wOf s l.2.1).2.1,(2,(wOf s l.2.1).2.2.2)))) []=setW s (l.2.1,((wOf s l.2.1).2.1,(2,(wOf s l.2.1).2.2.2))):=rfl
  rw [←e]
  refine zjM iv (Int.le_refl k) (w:=(l.2.1,((wOf s l.2.1).2.1,(2,(wOf s l.2.1).2.2.2)))) hid ?_ (zys rfl rfl (.inl ⟨hs,.inl rfl⟩)) [] (fun a ha=>by cases ha)
  show Gd k l.2.1 (l.2.1,((wOf s l.2.1).2.1,(2,(wOf s l.2.1).2.2.2))) (cOf s l.2.1) (fun v=>hOf s v l.2.1) (led s)
  exact {g with
   z:=fun hz=>absurd (show (wOf s l.2.1).2.1=0 from hz) (by omega)
   st:=fun h1=>⟨by simp only;omega,(gst h1).2⟩
   cz:=fun hz=>by omega
   cw:=fun h1 h2=>.inr (.inl ⟨hc,.inr rfl⟩)
   cl:=fun h1 h2=>by simp only at h2;omega}
 |fail h hs hk6=>
  have hc:(cOf s l.2.1).2.2.1=3:=by have:=n3 (by omega);omega
  have e:snds (setW s (l.2.1,((wOf s l.2.1).2.1,(3,((wOf s l.2.1).2.2.2.1,l.2.2.2.2.2.2))))) []=setW s (l.2.1,((wOf s l.2.1).2.1,(3,((wOf s l.2.1).2.2.2.1,l.2.2.2.2.2.2)))):=rfl
  rw [←e]
  refine zjM iv (Int.le_refl k) (w:=(l.2.1,((wOf s l.2.1).2.1,(3,((wOf s l.2.1).2.2.2.1,l.2.2.2.2.2.2))))) hid ?_ (zys rfl rfl (.inl ⟨hs,.inr rfl⟩)) [] (fun a ha=>by cases ha)
  show Gd k l.2.1 (l.2.1,((wOf s l.2.1).2.1,(3,((wOf s l.2.1).2.2.2.1,l.2.2.2.2.2.2)))) (cOf s l.2.1) (fun v=>hOf s v l.2.1) (led s)
  exact {g with
   z:=fun hz=>absurd (show (wOf s l.2.1).2.1=0 from hz) (by omega)
   st:=fun h1=>⟨by simp only;omega,(gst h1).2⟩
   cz:=fun hz=>by omega
   cw:=fun h1 h2=>.inr (.inr (.inl ⟨hc,.inr rfl⟩))
   cl:=fun h1 h2=>by simp only at h2;omega}
 |gone h hs hk7=>
  have hc:(cOf s l.2.1).2.2.1=5:=by have:=n3 (by omega);omega
  have e:snds (setW s (l.2.1,((wOf s l.2.1).2.1,(5,(wOf s l.2.1).2.2.2)))) []=setW s (l.2.1,((wOf s l.2.1).2.1,(5,(wOf s l.2.1).2.2.2))):=rfl
  rw [←e]
  refine zjM iv (Int.le_refl k) (w:=(l.2.1,((wOf s l.2.1).2.1,(5,(wOf s l.2.1).2.2.2)))) hid ?_ (zys rfl rfl (.inr ⟨hs,rfl⟩)) [] (fun a ha=>by cases ha)
  show Gd k l.2.1 (l.2.1,((wOf s l.2.1).2.1,(5,(wOf s l.2.1).2.2.2))) (cOf s l.2.1) (fun v=>hOf s v l.2.1) (led s)
  exact {g with
   z:=fun hz=>absurd (show (wOf s l.2.1).2.1=0 from hz) (by omega)
   st:=fun h1=>⟨by simp only;omega,(gst h1).2⟩
   cz:=fun hz=>by omega
   cw:=fun h1 h2=>.inr (.inr (.inr (.inr ⟨hc,.inr rfl⟩)))
   cl:=fun h1 h2=>by simp only at h2;omega}
theorem Iv.step {k:Int} {s:Sig} (iv:Iv k s) {l:Le} (hl:zfU s l) {s':Sig} (hs:Gn s l s'):Iv k s':=by
 cases hs with
 |ask h hs=>exact iv.ask hl h hs
 |ins h hs=>exact iv.ins hl h hs
 |done h hs=>exact iv.done hl h hs
 |ans h hs=>exact iv.ans hl h hs
theorem zEu {w:Wi} {c:Ca} {h:Int→He} {l:Le} (hl:LOk w c h l):l.1=1∨l.1=2∨l.1=3∨l.1=4∨l.1=5∨l.1=6∨l.1=7:=by
 unfold LOk at hl
 rcases hl with ⟨e,_⟩ | ⟨e,_⟩ | ⟨e,_⟩ | ⟨e,_⟩ | ⟨e,_⟩ | ⟨e,_⟩ | ⟨e,_⟩<;>omega
theorem Iv.led12 {k:Int} {s:Sig} (iv:Iv k s):(led s).length≤12:=(zha iv.hold).n12
theorem zA4 {k:Int} {s:Sig} (iv:Iv k s) {l:Le} (hl:zfU s l):qu (vj s (l,())) fun r=>Gn s l r.1:=by
 obtain ⟨hid,hl2⟩:=hl
 have g:=iv.g l.2.1 hid
 have hn:=iv.led12
 rw [zem];unfold Wp
 have ins:l.1=2∨l.1=3→qu (opt (opt (jX s (l,())) fun x2=>some (0,((x2.1,(l,())),()))) fun (x3:Nat×((Sig×(Le×Unit))×Unit))=>some (x3.2.1.1,())) fun r=>Gn s l r.1:=fun hk=>
  zn (zp (zCG iv.sh hid) fun r hr=>zd (zd (Gn.ins hk hr)))
 have ans:l.1=5∨l.1=6∨l.1=7→qu (opt (opt (yx s (l,())) fun x2=>some (0,((x2.1,(l,())),()))) fun (x3:Nat×((Sig×(Le×Unit))×Unit))=>some (x3.2.1.1,())) fun r=>Gn s l r.1:=fun hk=>
  zn (zp (zCI iv.sh hid) fun r hr=>zd (zd (Gn.ans hk hr)))
 have ne:∀a b:Int,a≠b→zj a b=false:=fun a b h=>jg h
 rcases zEu hl2 with h | h | h | h | h | h | h
 ·refine zh (wc h.symm) (zn (zp (zCF iv.sh (fun x hx=>(iv.lr x hx).2) hid (fun hlt hw=>?_) (by omega)) fun r hr=>zd (zd (Gn.ask h hr))))
  obtain ⟨a1,a2,⟨_,a3,a4,a5⟩ | ⟨a3,_⟩⟩:=zjO g hl2 h hlt
  ·rw [a4];exact (g.st (by omega)).2.2
  ·rw [hw] at a3;cases a3
 ·exact zg (ne _ _ (by omega)) (zh (wc h.symm) (ins (.inl h)))
 ·exact zg (ne _ _ (by omega)) (zg (ne _ _ (by omega)) (zh (wc h.symm) (ins (.inr h))))
 ·exact zg (ne _ _ (by omega)) (zg (ne _ _ (by omega)) (zg (ne _ _ (by omega)) (zh (wc h.symm) (zn (zp (zA2 iv.sh hid iv.hold (fun h4=>g.lc (.inr (.inr h4)))) fun r hr=>zd (zd (Gn.done h hr)))))))
 ·exact zg (ne _ _ (by omega)) (zg (ne _ _ (by omega)) (zg (ne _ _ (by omega)) (zg (ne _ _ (by omega)) (zh (wc h.symm) (ans (.inl h))))))
 ·exact zg (ne _ _ (by omega)) (zg (ne _ _ (by omega)) (zg (ne _ _ (by omega)) (zg (ne _ _ (by omega)) (zg (ne _ _ (by omega)) (zh (wc h.symm) (ans (.inr (.inl h))))))))
 ·exact zg (ne _ _ (by omega)) (zg (ne _ _ (by omega)) (zg (ne _ _ (by omega)) (zg (ne _ _ (by omega)) (zg (ne _ _ (by omega)) (zg (ne _ _ (by omega)) (zh (wc h.symm) (ans (.inr (.inr h)))))))))
inductive HTr (s:Sig) (kd n:Int):Sig×Int×Unit→Prop
 |bad (h:n < 0∨((wir s).length:Int)≤n):HTr s kd n (s,2,())
 |copy (l:Le) (hl:l∈wir s) (h:kd=5):HTr s kd n (snds s [l],0,())
 |lose (i:Nat) (hi:i < (wir s).length) (h:n=(i:Int)) (h:kd≠5) (h:kd≠3):HTr s kd n (upX s ((wir s).take i++(wir s).drop (i+1)),0,())
 |deliver (i:Nat) (h:n=(i:Int)) (h:kd=3) (l:Le) (hl:(wir s)[i]?=some l) (s':Sig) (hs:Gn (upX s ((wir s).take i++(wir s).drop (i+1))) l s'):HTr s kd n (s',0,())
theorem zEv {x:List Le} {i:Nat} {l:Le} (h:l∈x.take i++x.drop (i+1)):l∈x:=by
 rcases List.mem_append.1 h with h | h
 ·exact List.mem_of_mem_take h
 ·exact List.mem_of_mem_drop h
theorem Iv.rest {k:Int} {s:Sig} (iv:Iv k s) (i:Nat):Iv k (upX s ((wir s).take i++(wir s).drop (i+1))):=by
 have:=iv.sh.x
 exact iv.less (by rw [List.length_append,List.length_take,List.length_drop];omega) fun l hl=>zEv hl
theorem zGT {k:Int} {s:Sig} (iv:Iv k s) (kd n:Int):qu (yk s (kd,(n,()))) (HTr s kd n):=by
 have hx:=iv.sh.x
 rw [zb7];unfold QL
 by_cases h0:n < 0
 ·exact zn (zh (qq h0) (zd (zg rfl (zd (.bad (.inl h0))))))
 by_cases h1:n < ((wir s).length:Int)
 rotate_left
 ·exact zn (zg (zZ h0) (zh (by rw [zZ h1];rfl) (zd (zg rfl (zd (.bad (.inr (by omega))))))))
 obtain ⟨i,rfl⟩:∃i:Nat,n=(i:Int):=⟨n.toNat,by omega⟩
 have hi:i < (wir s).length:=by omega
 have hl:(wir s)[i]?=some (wir s)[i]:=List.getElem?_eq_getElem hi
 generalize (wir s)[i]=l at hl
 refine zn (zg (zZ h0) (zg (by rw [qq h1];rfl) (zd (zh rfl (zn (zQ (n:=i) hl ?_))))))
 refine zr (fun h=>?_) (fun h=>?_)
 ·rw [zhb,zG]
  exact zd (.copy l (kI hl) (jo h))
 have hne:=jG h
 rw [show yd (s.2.2.2.2.2,((i:Int),()))=_ from zFY hi (by show (wir s).length≤_;omega),zG]
 refine zp (J:=fun x=>(x.2.1.1,(0,()))=(x.2.1.1,(0,()))∧HTr s kd i (x.2.1.1,(0,()))) ?_ (fun x hx=>zd hx.2)
 refine zr (fun h=>?_) (fun h=>?_)
 ·have hlo:=iv.l l (kI hl)
  refine zp (zA4 (iv.rest i) (l:=l) hlo) fun r hr=>zd ⟨rfl,.deliver i rfl (jo h) l hl _ hr⟩
 ·exact zd ⟨rfl,.lose i hi rfl hne (jG h)⟩
theorem Iv.tr {k:Int} {s:Sig} (iv:Iv k s) {kd n:Int} {r:Sig×Int×Unit} (h:HTr s kd n r):Iv k r.1:=by
 cases h with
 |bad h=>exact iv
 |copy l hl h=>exact iv.send _ fun a ha=>by rw [List.mem_singleton.1 ha];exact iv.l l hl
 |lose i hi h h2 h3=>exact iv.rest i
 |deliver i h h2 l hl s' hs=>exact (iv.rest i).step (l:=l) (iv.l l (kI hl)) hs
def zv6 (s:Sig):List Le:=(wis s).flatMap zcm++(cas s).flatMap zcn
theorem zu8 {α β:Type} {l:List α} {f:α→List β} {i:Nat} {a:α} (h:l[i]?=some a):(l.take (i+1)).flatMap f=(l.take i).flatMap f++f a:=by
 have hi:i < l.length:=by
  rcases Nat.lt_or_ge i l.length with h2 | h2
  ·exact h2
  ·rw [List.getElem?_eq_none h2] at h;cases h
 rw [List.take_succ_eq_append_getElem hi,List.flatMap_append]
 rw [List.getElem?_eq_getElem hi] at h
 rw [Option.some.inj h]
 simp
theorem zEw {s:Sig} (sh:Shp s):xR s ()=some (snds s (zv6 s),()):=by
 have hw:=sh.lW
 have hc:=sh.lC
 rw [zfS];unfold YP
 refine yN (zp (J:=fun x=>x.2.1.1=snds s ((wis s).flatMap zcm)) (qt (wis s).length (fun i st=>st=((snds s (((wis s).take i).flatMap zcm),((i:Int),())),())) (by omega) rfl ?_ ?_) ?_)
 ·rintro i _ hi rfl
  have hx:(wis s)[i]?=some (wis s)[i]:=List.getElem?_eq_getElem hi
  generalize (wis s)[i]=w at hx
  refine zh (qq (show (i:Int) < (((wis s).length:Nat):Int) by omega)) (zn (zQ (n:=i) hx ?_))
  rw [ziJ,zG]
  refine zd (qR ?_)
  rw [qO (by omega),zu8 hx,zk2]
 ·rintro _ rfl
  rw [List.take_length]
  exact zg (zZ (show ¬(((wis s).length:Nat):Int) < (((wis s).length:Nat):Int) by omega)) (zd (zD rfl))
 rintro ⟨j,⟨q,n,⟨⟩⟩,⟨⟩⟩ hq
 simp only at hq
 subst hq
 refine zp (J:=fun x=>x.2.1.1=snds s (zv6 s)) (qt (cas s).length (fun i st=>st=((snds s ((wis s).flatMap zcm++((cas s).take i).flatMap zcn),((i:Int),())),())) (by omega) ?_ ?_ ?_) ?_
 ·show _=((snds s ((wis s).flatMap zcm++[]),_),_)
  rw [List.append_nil];rfl
 ·rintro i _ hi rfl
  have hx:(cas s)[i]?=some (cas s)[i]:=List.getElem?_eq_getElem hi
  generalize (cas s)[i]=c at hx
  have hwl:=(sh.bC c (kI hx)).2
  refine zh (qq (show (i:Int) < (((cas s).length:Nat):Int) by omega)) (zn (zQ (n:=i) hx ?_))
  rw [znM _ (by omega),zG]
  refine zd (qR ?_)
  rw [qO (by omega),zu8 hx,←List.append_assoc,zk2 _ ((wis s).flatMap zcm++_)]
 ·rintro _ rfl
  rw [List.take_length]
  exact zg (zZ (show ¬(((cas s).length:Nat):Int) < (((cas s).length:Nat):Int) by omega)) (zd (zD rfl))
 ·rintro ⟨j,⟨q,n,⟨⟩⟩,⟨⟩⟩ hq
  simp only at hq
  subst hq
  exact zd rfl
theorem zjP {w:Wi} {l:Le} (h:l∈zcm w):l.1=1∧l.2.1=w.1∧l.2.2.1=w.2.1∧((w.2.2.1=1∧l.2.2.2.2.1=true∧l.2.2.2.2.2.1=w.2.2.2.1)∨(w.2.2.1=4∧l.2.2.2.2.1=false)):=by
 unfold zcm at h
 by_cases h1:w.2.2.1=1
 ·rw [if_pos h1] at h;rw [List.mem_singleton.1 h];exact ⟨rfl,rfl,rfl,.inl ⟨h1,rfl,rfl⟩⟩
 rw [if_neg h1] at h
 by_cases h4:w.2.2.1=4
 ·rw [if_pos h4] at h;rw [List.mem_singleton.1 h];exact ⟨rfl,rfl,rfl,.inr ⟨h4,rfl⟩⟩
 rw [if_neg h4] at h;cases h
theorem zuj {w:Wi} {c:Ca} {h:Int→He} {l:Le} (h1:1≤w.2.1) (hl:l∈zcm w):LOk w c h l:=by
 obtain ⟨e1,e2,e3,e4⟩:=zjP hl
 unfold LOk
 refine .inl ⟨e1,by omega,by omega,fun _=>?_⟩
 rcases e4 with ⟨a,b,c⟩ | ⟨a,b⟩
 ·exact .inl ⟨b,.inl a,c⟩
 ·exact .inr ⟨b,.inl a⟩
theorem zyt {s:Sig} (sh:Shp s) {w:Wi} (hw:w∈wis s):wOf s w.1=w:=zjL sh.sW hw rfl _
theorem zCK {s:Sig} (sh:Shp s) {c:Ca} (hc:c∈cas s):cOf s c.1=c:=zjL sh.sC hc rfl _
theorem zGU {s:Sig} (sh:Shp s) {h:He} (hh:h∈hel s):hOf s h.1 h.2.1=h:=zjL sh.sH hh rfl _
theorem zF1 {k:Int} {s:Sig} (iv:Iv k s):∀l∈zv6 s,zfU s l:=by
 intro l hl
 rcases List.mem_append.1 hl with hl | hl
 ·obtain ⟨w,hw,hl⟩:=List.mem_flatMap.1 hl
  have e:=(zjP hl).2.1
  have hid:=iv.sh.bW w hw
  have g:=iv.g w.1 hid
  rw [zyt iv.sh hw] at g
  have hn:1≤w.2.1:=by
   have:=g.n0;have:=g.z
   rcases (zjP hl).2.2.2 with ⟨a,_⟩ | ⟨a,_⟩<;>omega
  refine ⟨by rw [e];exact hid,?_⟩
  rw [e,zyt iv.sh hw]
  exact zuj hn hl
 ·obtain ⟨c,hc,hl⟩:=List.mem_flatMap.1 hl
  have e:=(zhd hl).1
  have hid:=(iv.sh.bC c hc).1
  have g:=iv.g c.1 hid
  rw [zCK iv.sh hc] at g
  have hn:1≤c.2.1:=by
   have:=g.c0;have:=g.cz
   rcases (zhd hl).2.2.2 with ⟨a,_⟩ | ⟨a,_⟩<;>omega
  refine ⟨by rw [e];exact hid,?_⟩
  rw [e,zCK iv.sh hc]
  exact zui hn g.wr hl
theorem Iv.tick {k:Int} {s:Sig} (iv:Iv k s):Iv k (snds s (zv6 s)):=iv.send _ (zF1 iv)
inductive HAs (s:Sig) (x:qv):Sig×Int×Unit→Prop
 |bad (h:x.1 < 1∨4095 < x.1):HAs s x (s,2,())
 |twice (h:(wOf s x.1).2.2.1=1∨(wOf s x.1).2.2.1=2∨(wOf s x.1).2.2.1=4):HAs s x (s,322,())
 |ok (h:(wOf s x.1).2.2.1≠1∧(wOf s x.1).2.2.1≠2∧(wOf s x.1).2.2.1≠4):HAs s x (snds (setW s (x.1,((wOf s x.1).2.1+1,(1,(x,0))))) (zcm (x.1,((wOf s x.1).2.1+1,(1,(x,0))))),0,())
theorem zF2 {s:Sig} (sh:Shp s) (x:qv) (hk:0≤(wOf s x.1).2.1∧(wOf s x.1).2.1≤1000000):qu (ug s (x,())) (HAs s x):=by
 rw [zgw];unfold Xz
 by_cases h0:x.1 < 1
 ·exact zn (zh (qq h0) (zd (zg rfl (zd (.bad (.inl h0))))))
 by_cases h1:4095 < x.1
 ·exact zn (zg (zZ h0) (zh (qq h1) (zd (zg rfl (zd (.bad (.inr h1)))))))
 refine zn (zg (zZ h0) (zg (zZ h1) (zd (zh rfl ?_))))
 obtain ⟨i,w,b,e,hf⟩:=Ws sh.sW (by have:=sh.lW;omega) x.1
 obtain ⟨hw,hb⟩:=zdy sh.sW hf
 have hw:w=wOf s x.1:=hw
 rw [e,zG]
 have fin:w.2.2.1≠1∧w.2.2.1≠2∧w.2.2.1≠4→qu (opt (qF ((s.2.2.1,(i,(b,((x.1,((wrF .i64 ((w.2.1+1))),(1,(x,0)))),())))))) fun x4=>
    opt (qK ((s.1,(s.2.1,(x4.1,s.2.2.2)))) (((x.1,((wrF .i64 ((w.2.1+1))),(1,(x,0)))),()))) fun x5=>
    some (x5.1,(0,()))) (HAs s x):=by
  intro hst
  rw [show wrF .i64 (w.2.1+1)=(wOf s x.1).2.1+1 from by rw [hw,qT (by omega) (by omega)]]
  rw [show qF (s.2.2.1,(i,(b,((x.1,((wOf s x.1).2.1+1,(1,(x,0)))),()))))=_ from WQ sh.sW (by have:=sh.lW;omega) hf rfl,zG,ziJ,zG]
  exact zd (.ok (by rw [←hw];exact hst))
 have l24:¬¬(((wis s).length:Nat):Int) < 24:=by have:=sh.lW;omega
 cases b with
 |true=>
  by_cases h1:w.2.2.1=1
  ·exact zn (zh rfl (zh (wc h1) (zd (zg rfl (zd (.twice (.inl (by rw [←hw];exact h1))))))))
  by_cases h2:w.2.2.1=2
  ·exact zn (zh rfl (zg (jg h1) (zh (wc h2) (zd (zg rfl (zd (.twice (.inr (.inl (by rw [←hw];exact h2))))))))))
  by_cases h4:w.2.2.1=4
  ·exact zn (zh rfl (zg (jg h1) (zg (jg h2) (zh (wc h4) (zd (zg rfl (zd (.twice (.inr (.inr (by rw [←hw];exact h4)))))))))))
  exact zn (zh rfl (zg (jg h1) (zg (jg h2) (zg (jg h4) (zd (zh rfl (zn (zg rfl (zd (zh rfl (fin ⟨h1,h2,h4⟩)))))))))))
 |false=>
  have h3:=(hf.no rfl).1
  have hst:w.2.2.1≠1∧w.2.2.1≠2∧w.2.2.1≠4:=by rw [h3];exact ⟨show (0:Int)≠1 by decide,show (0:Int)≠2 by decide,show (0:Int)≠4 by decide⟩
  refine zn (zg rfl (zd (zh rfl (zn (zh rfl (zg ?_ (zd (zh rfl (fin hst)))))))))
  show (!zt (((wis s).length:Nat):Int) 24)=false
  rw [qq (by have:=sh.lW;omega)];rfl
theorem Iv.as {k:Int} {s:Sig} (iv:Iv k s) {x:qv} (hx:idP x.1∧zaU x) {r:Sig×Int×Unit} (h:HAs s x r):Iv (k+1) r.1:=by
 have g:=iv.g x.1 hx.1
 have lift:Iv (k+1) s:=⟨iv.sh,iv.hold,iv.lr,fun id hid=>(iv.g id hid).mono (by omega),iv.l⟩
 cases h with
 |bad h=>exact lift
 |twice h=>exact lift
 |ok h=>
  have gn:=g.n0;have gz:=g.z;have gst:=g.st;have gc:=g.c0;have gcz:=g.cz;have gcw:=g.cw;have gcl:=g.cl
  have hst:(wOf s x.1).2.1=0∨((wOf s x.1).2.2.1=3∨(wOf s x.1).2.2.1=5):=by
   by_cases hz:(wOf s x.1).2.1=0
   ·exact .inl hz
   ·have:=(gst (by omega)).1
    omega
  have hcc:(cOf s x.1).2.1=(wOf s x.1).2.1∧((cOf s x.1).2.2.1=0∨(cOf s x.1).2.2.1=3∨(cOf s x.1).2.2.1=5):=by
   rcases hst with hz | hz
   ·have:=gz hz
    have:=gcz this.2
    omega
   ·have hn:1≤(wOf s x.1).2.1:=by
     rcases Int.lt_or_le 0 (wOf s x.1).2.1 with h2 | h2
     ·omega
     ·have:=gz (by omega);omega
    rcases Int.lt_or_le 0 (cOf s x.1).2.1 with h2 | h2
    ·rcases gc.2 with h3 | h3
     ·have:=gcw (by omega) h3;omega
     ·have:=gcl (by omega) (by omega);omega
    ·have:=(gcz (by omega)).2 hn;omega
  refine zjM iv (k':=k+1) (by omega) (w:=(x.1,((wOf s x.1).2.1+1,(1,(x,0))))) hx.1 ?_ (zzF (w':=(x.1,((wOf s x.1).2.1+1,(1,(x,0))))) (by show (wOf s x.1).2.1 < (wOf s x.1).2.1+1;omega)) _ (fun a ha=>⟨(zjP ha).2.1,zuj (by show 1≤(wOf s x.1).2.1+1;omega) ha⟩)
  show Gd (k+1) x.1 (x.1,((wOf s x.1).2.1+1,(1,(x,0)))) (cOf s x.1) (fun v=>hOf s v x.1) (led s)
  exact {g with
   n0:=⟨by simp only;omega,by simp only;omega⟩
   z:=fun hz=>absurd (show (wOf s x.1).2.1+1=0 from hz) (by omega)
   st:=fun _=>⟨by simp only;omega,rfl,hx.2⟩
   c0:=⟨gc.1,.inr (by simp only;omega)⟩
   cz:=fun hz=>⟨(gcz hz).1,fun _=>rfl⟩
   cw:=fun h1 h2=>by simp only at h2;omega
   cl:=fun h1 h2=>.inl ⟨rfl,by have:=gst;have:=gcw;omega⟩
   lg:=fun y hy hi=>by have:=(g.lg y hy hi).2;omega}
inductive HCa (s:Sig) (id:Int):Sig×Int×Unit→Prop
 |none (h:(wOf s id).2.2.1≠2):HCa s id (s,4,())
 |ok (h:(wOf s id).2.2.1=2):HCa s id (snds (setW s (id,((wOf s id).2.1+1,(4,(wOf s id).2.2.2)))) (zcm (id,((wOf s id).2.1+1,(4,(wOf s id).2.2.2)))),0,())
theorem zA5 {s:Sig} (sh:Shp s) (id:Int) (hk:0≤(wOf s id).2.1∧(wOf s id).2.1≤1000000):qu (ve s (id,())) (HCa s id):=by
 rw [zd6];unfold We
 obtain ⟨i,w,b,e,hf⟩:=Ws sh.sW (by have:=sh.lW;omega) id
 obtain ⟨hw,hb⟩:=zdy sh.sW hf
 have hw:w=wOf s id:=hw
 have hwi:w.1=id:=by rw [hw];exact zyn s id
 rw [e,zG]
 cases b with
 |false=>
  have h3:=(hf.no rfl).1
  refine zn (zh rfl (zd (zg rfl (zd (.none ?_)))))
  rw [←hw,h3];exact show (0:Int)≠2 by decide
 |true=>
  by_cases h2:w.2.2.1=2
  ·refine zn (zg rfl (zg (by rw [wc h2];rfl) (zd (zh rfl ?_))))
   rw [show wrF .i64 (((s,(i,(w,(true,())))):Sig×(Int×(Wi×(Bool×Unit)))).2.2.1.2.1+1)=(wOf s id).2.1+1 from by show wrF .i64 (w.2.1+1)=_;rw [hw,qT (by omega) (by omega)]]
   rw [show qF (s.2.2.1,(i,(true,((w.1,((wOf s id).2.1+1,(4,w.2.2.2))),()))))=_ from WQ sh.sW (by have:=sh.lW;omega) hf hwi,zG,ziJ,zG]
   refine zd ?_
   show HCa s id (snds (setW s (w.1,((wOf s id).2.1+1,(4,w.2.2.2)))) (zcm (w.1,((wOf s id).2.1+1,(4,w.2.2.2)))),0,())
   rw [hwi,show w.2.2.2=(wOf s id).2.2.2 from by rw [hw]]
   exact .ok (by rw [←hw];exact h2)
  ·exact zn (zg rfl (zh (by rw [jg h2];rfl) (zd (zg rfl (zd (.none (by rw [←hw];exact h2)))))))
theorem Iv.ca {k:Int} {s:Sig} (iv:Iv k s) {id:Int} (hid:idP id) {r:Sig×Int×Unit} (h:HCa s id r):Iv (k+1) r.1:=by
 have g:=iv.g id hid
 have lift:Iv (k+1) s:=⟨iv.sh,iv.hold,iv.lr,fun id hid=>(iv.g id hid).mono (by omega),iv.l⟩
 cases h with
 |none h=>exact lift
 |ok h=>
  have gn:=g.n0;have gz:=g.z;have gst:=g.st;have gc:=g.c0;have gcz:=g.cz;have gcw:=g.cw;have gcl:=g.cl
  have hn:1≤(wOf s id).2.1:=by
   rcases Int.lt_or_le 0 (wOf s id).2.1 with h2 | h2
   ·omega
   ·have:=gz (by omega);omega
  have hcc:(cOf s id).2.1=(wOf s id).2.1∧(cOf s id).2.2.1=2:=by
   rcases Int.lt_or_le 0 (cOf s id).2.1 with h2 | h2
   ·rcases gc.2 with h3 | h3
    ·have:=gcw (by omega) h3;omega
    ·have:=gcl (by omega) (by omega);omega
   ·have:=(gcz (by omega)).2 hn;omega
  refine zjM iv (k':=k+1) (by omega) (w:=(id,((wOf s id).2.1+1,(4,(wOf s id).2.2.2)))) hid ?_ (zzF (w':=(id,((wOf s id).2.1+1,(4,(wOf s id).2.2.2)))) (by show (wOf s id).2.1 < (wOf s id).2.1+1;omega)) _ (fun a ha=>⟨(zjP ha).2.1,zuj (by show 1≤(wOf s id).2.1+1;omega) ha⟩)
  show Gd (k+1) id (id,((wOf s id).2.1+1,(4,(wOf s id).2.2.2))) (cOf s id) (fun v=>hOf s v id) (led s)
  exact {g with
   n0:=⟨by simp only;omega,by simp only;omega⟩
   z:=fun hz=>absurd (show (wOf s id).2.1+1=0 from hz) (by omega)
   st:=fun _=>⟨by simp only;omega,(gst hn).2⟩
   c0:=⟨gc.1,.inr (by simp only;omega)⟩
   cz:=fun hz=>by omega
   cw:=fun h1 h2=>by simp only at h2;omega
   cl:=fun h1 h2=>.inr ⟨rfl,hcc.2⟩}
def mvP (a:yL):Prop:=idP a.2.1∧(a.1=1→idP a.2.2.2.1∧zaU a.2.2.2)
theorem zF3 {k:Int} {s:Sig} (iv:Iv k s) (hk:k≤1000000) {a:yL} (ha:mvP a):qu (uh s (a,())) fun r=>Iv (k+1) r.1:=by
 have lift:∀{q:Sig},Iv k q→Iv (k+1) q:=fun iv=>⟨iv.sh,iv.hold,iv.lr,fun id hid=>(iv.g id hid).mono (by omega),iv.l⟩
 have num:∀id,idP id→0≤(wOf s id).2.1∧(wOf s id).2.1≤1000000:=fun id hid=>by have:=(iv.g id hid).n0;omega
 rw [zg0];unfold Vb
 have tr:qu (opt (yk s (a.1,(a.2.2.1,()))) fun x2=>some (x2.1,(x2.2.1,()))) fun r=>Iv (k+1) r.1:=zp (zGT iv a.1 a.2.2.1) fun r hr=>zd (lift (iv.tr hr))
 have tk:qu (opt (xR s ()) fun x3=>some (x3.1,((0:Int),()))) fun r=>Iv (k+1) r.1:=by
  rw [zEw iv.sh,zG]
  exact zd (lift iv.tick)
 have en:qu (some (s,((2:Int),()))) fun r=>Iv (k+1) r.1:=zd (lift iv)
 refine zr (fun h=>?_) (fun h=>?_)
 ·have hx:=ha.2 (jo h)
  exact zp (zF2 iv.sh _ (num _ hx.1)) fun r hr=>zd (iv.as hx hr)
 refine zr (fun h=>?_) (fun h=>?_)
 ·exact zp (zA5 iv.sh _ (num _ ha.1)) fun r hr=>zd (iv.ca ha.1 hr)
 refine zr (fun h=>?_) (fun h=>?_)
 ·exact zr (fun h=>tr) (fun h=>zr (fun h=>tk) (fun h=>en))
 refine zr (fun h=>?_) (fun h=>?_)
 ·exact zr (fun h=>tr) (fun h=>zr (fun h=>tk) (fun h=>en))
 exact zr (fun h=>tr) (fun h=>zr (fun h=>tk) (fun h=>en))
theorem zGV {k:Int} {s:Sig} (iv:Iv k s) (hk:k≤1000000) {a:yL} (ha:mvP a):qu (Ky (s,(a,()))) fun r=>r.2.1=0→Iv (k+1) r.1:=by
 rw [ztS];unfold ziF
 refine zp (zF3 iv hk ha) fun r hr=>?_
 refine zr (fun h=>zd fun h0=>?_) (fun h=>zd fun _=>hr)
 have h:=jG (show zj r.2.1 0=false by simpa using h)
 exact absurd h0 h
theorem zu9 {s:Sig} (hn:(led s).length≤1000000000) (id:Int):qu (Yi (s,(id,()))) fun r=>(r.2.1=true∧r.1∈led s∧r.1.1=id)∨(r.2.1=false∧∀x∈led s,x.1≠id):=by
 rw [zqC];unfold zeX
 refine zp (J:=fun x=>(x.1=0∧∀y∈led s,y.1≠id)∨(x.1=1∧∃(i:Nat) (y:qv),x.2.1.2.1=(i:Int)∧(led s)[i]?=some y∧y.1=id))
  (qt (led s).length (fun i st=>st=((id,(0,((i:Int),()))),())∧∀(k:Nat) b,k < i→(led s)[k]?=some b→b.1≠id) (by omega) ⟨rfl,fun k b hk=>by omega⟩ ?_ ?_) ?_
 ·rintro i _ hi ⟨rfl,hp⟩
  have hx:(led s)[i]?=some (led s)[i]:=List.getElem?_eq_getElem hi
  generalize (led s)[i]=y at hx
  refine zh (qq (show (i:Int) < (((led s).length:Nat):Int) by omega)) (zn (zQ (n:=i) hx ?_))
  refine zr (fun h=>?_) (fun h=>?_)
  ·exact zd (zD (.inr ⟨rfl,i,y,rfl,hx,jo h⟩))
  ·refine zd (qR ⟨congrArg (fun z=>((id,((0:Int),(z,()))),())) (qO (by omega)),fun k b hk hb=>?_⟩)
   rcases Nat.lt_or_ge k i with hki | hki
   ·exact hp k b hki hb
   ·have:k=i:=by omega
    subst this
    rw [hx] at hb;cases hb
    exact jG h
 ·rintro _ ⟨rfl,hp⟩
  refine zg (zZ (show ¬(((led s).length:Nat):Int) < (((led s).length:Nat):Int) by omega)) (zd (zD (.inl ⟨rfl,fun y hy=>?_⟩)))
  obtain ⟨k,hk,hk2⟩:=gm hy
  exact hp k y hk hk2
 ·rintro ⟨j,⟨v,w,z,⟨⟩⟩,⟨⟩⟩ (⟨rfl,hq⟩ | ⟨rfl,i,y,hw,hx,hy⟩)
  ·exact zh rfl (zd (.inr ⟨rfl,hq⟩))
  ·simp only at hw
   subst hw
   exact zg rfl (zg (zZ (show ¬(i:Int) < 0 by omega)) (zn (zQ (n:=i) hx (zd (.inl ⟨rfl,kI hx,hy⟩)))))
theorem zyu {l:List Int} (hn:l.length≤1000000000):Qn (l,(l,()))=some (true,()):=by
 rw [zlZ];unfold zaR
 refine yN (zg (by rw [wc rfl];rfl) (zp (J:=fun x=>x.1=0) (qt l.length (fun i st=>st=((false,((i:Int),())),())) (by omega) rfl ?_ ?_) ?_))
 ·rintro i _ hi rfl
  have hx:l[i]?=some l[i]:=List.getElem?_eq_getElem hi
  generalize l[i]=y at hx
  refine zh (qq (show (i:Int) < ((l.length:Nat):Int) by omega)) (zn (zQ (n:=i) hx (zn (zQ (n:=i) hx ?_))))
  exact zg (by rw [wc rfl];rfl) (zd (qR (congrArg (fun z=>((false,(z,())),())) (qO (by omega)))))
 ·rintro _ rfl
  exact zg (zZ (show ¬((l.length:Nat):Int) < ((l.length:Nat):Int) by omega)) (zd (zD rfl))
 ·rintro ⟨j,⟨v,w,⟨⟩⟩,⟨⟩⟩ h
  have h:j=0:=h
  subst h
  exact zh rfl (zd rfl)
theorem zEx {x:qv} (hn:x.2.2.2.2.2.2.2.2.length≤1000000000) (hl:∀r∈x.2.2.2.2.2.2.2.2,r.length≤1000000000):vz (x,(x,()))=some (true,()):=by
 rw [zjA];unfold UK
 have t:∀a:Int,(!zj a a)=false:=fun a=>by rw [wc rfl];rfl
 refine yN (zn (zg (t _) (zg (t _) (zg (t _) (zg (t _) (zg (t _) (zg (t _) (zg (by rw [wc rfl,wc rfl];rfl) (zg (t _) (zg (t _) (zd (zh rfl ?_))))))))))))
 generalize x.2.2.2.2.2.2.2.2=R at hn hl
 refine zp (J:=fun x=>x.1=0) (qt R.length (fun i st=>st=((false,((i:Int),())),())) (by omega) rfl ?_ ?_) ?_
 ·rintro i _ hi rfl
  have hx:R[i]?=some R[i]:=List.getElem?_eq_getElem hi
  have hm:=hl _ (List.getElem_mem hi)
  generalize R[i]=y at hx hm
  refine zh (qq (show (i:Int) < ((R.length:Nat):Int) by omega)) (zn (zQ (n:=i) hx (zn (zQ (n:=i) hx ?_))))
  rw [zyu hm,zG]
  exact zg rfl (zd (qR (congrArg (fun z=>((false,(z,())),())) (qO (by omega)))))
 ·rintro _ rfl
  exact zg (zZ (show ¬((R.length:Nat):Int) < ((R.length:Nat):Int) by omega)) (zd (zD rfl))
 ·rintro ⟨j,⟨v,w,⟨⟩⟩,⟨⟩⟩ h
  have h:j=0:=h
  subst h
  exact zh rfl (zd rfl)
theorem zEy {x:qv} (h:zaU x):vz (x,(x,()))=some (true,()):=by
 refine zEx ?_ ?_
 ·rcases h with h | h<;>rw [h]<;>simp
 ·rcases h with h | h<;>rw [h]<;>intro r hr<;>rw [List.mem_singleton.1 hr]<;>simp
theorem zvJ {s:Sig} (hs:s.1=zhc) (hn:(hel s).length≤1000000) {x:qv} (hx:zaU x) (hall:∀v,ndP v→∃h∈hel s,h.1=v∧h.2.1=x.1∧h.2.2.2=true):Zn (s,(x,()))=some (true,()):=by
 obtain ⟨r,hr,hp,hnd⟩:=zzE hx
 rw [zkV];unfold GI
 rw [hr]
 have hlen:(zU kP r).length=4:=by rcases hnd with h | h<;>rw [h]<;>rfl
 have hmem:∀v∈zU kP r,ndP v:=by rcases hnd with h | h<;>rw [h]<;>unfold ndP<;>decide
 refine yN (zp (J:=fun x=>x.1=0) (qt 1 (fun i st=>st=((s,(false,((i:Int),()))),())) (by omega) rfl ?_ ?_) ?_)
 ·rintro i _ hi rfl
  have:i=0:=by omega
  subst this
  refine zh (qq (by simp)) (zn (zQ (n:=0) (x:=r) rfl ?_))
  rw [show yw (((((s,(false,(((0:Nat):Int),()))),()):(Sig×(Bool×(Int×Unit)))×Unit).1.1.1.1),(r,()))=some (zU kP r,(0,())) from by rw [hs];exact zpv hp,zG]
  refine zn (zg (by rw [wc rfl];rfl) (zg (jg (show (((zU kP r).length:Nat):Int)≠0 by rw [hlen];decide)) (zd (zh rfl ?_))))
  refine zp (J:=fun x=>x.1=0∧x.2.1.1=s∧x.2.1.2.1=false) (qt (zU kP r).length (fun i st=>st=((s,(false,((i:Int),()))),())) (by omega) rfl ?_ ?_) ?_
  ·rintro k _ hk rfl
   have hy:(zU kP r)[k]?=some (zU kP r)[k]:=List.getElem?_eq_getElem hk
   have hm:=hmem _ (List.getElem_mem hk)
   generalize (zU kP r)[k]=v at hy hm
   refine zh (qq (show (k:Int) < (((zU kP r).length:Nat):Int) by omega)) (zn (zQ (n:=k) hy ?_))
   refine zp (J:=fun x=>x.1=1∧0≤x.2.1.2.1) (qt (hel s).length (fun i st=>st=((v,(0,((i:Int),()))),())∧∀(j:Nat) b,j < i→(hel s)[j]?=some b→¬(b.1=v∧b.2.1=x.1∧b.2.2.2=true)) (by omega) ⟨rfl,fun j b hj=>by omega⟩ ?_ ?_) ?_
   ·rintro i _ hi ⟨rfl,hq⟩
    have hx:(hel s)[i]?=some (hel s)[i]:=List.getElem?_eq_getElem hi
    generalize (hel s)[i]=a at hx
    have on:¬(a.1=v∧a.2.1=x.1∧a.2.2.2=true)→∀(j:Nat) b,j < i+1→(hel s)[j]?=some b→¬(b.1=v∧b.2.1=x.1∧b.2.2.2=true):=fun hn j b hj hb=>by
     rcases Nat.lt_or_ge j i with h2 | h2
     ·exact hq j b h2 hb
     ·have:j=i:=by omega
      subst this
      rw [hx] at hb;cases hb;exact hn
    refine zh (qq (show (i:Int) < (((hel s).length:Nat):Int) by omega)) (zn (zQ (n:=i) hx ?_))
    refine zr (fun h1=>zr (fun h2=>zr (fun h3=>?_) (fun h3=>?_)) (fun h2=>?_)) (fun h1=>?_)
    ·exact zd (zD ⟨rfl,by simp only;omega⟩)
    ·exact zd (qR ⟨congrArg (fun z=>((v,((0:Int),(z,()))),())) (qO (by omega)),on fun q=>by rw [q.2.2] at h3;cases h3⟩)
    ·exact zd (qR ⟨congrArg (fun z=>((v,((0:Int),(z,()))),())) (qO (by omega)),on fun q=>jG h2 q.2.1⟩)
    ·exact zd (qR ⟨congrArg (fun z=>((v,((0:Int),(z,()))),())) (qO (by omega)),on fun q=>jG h1 q.1⟩)
   ·rintro _ ⟨rfl,hq⟩
    exfalso
    obtain ⟨a,ha,q⟩:=hall v hm
    obtain ⟨j,hj,hb⟩:=gm ha
    exact hq j a hj hb q
   ·rintro ⟨j,⟨a,b,c,⟨⟩⟩,⟨⟩⟩ ⟨h1,h2⟩
    simp only at h1 h2
    subst h1
    exact zg rfl (zg (by rw [zZ (show ¬b < 0 by omega)];rfl) (zd (qR (congrArg (fun z=>((s,(false,(z,()))),())) (qO (by omega))))))
  ·rintro _ rfl
   exact zg (zZ (show ¬(((zU kP r).length:Nat):Int) < (((zU kP r).length:Nat):Int) by omega)) (zd (zD ⟨rfl,rfl,rfl⟩))
  ·rintro ⟨j,⟨q,b,c,⟨⟩⟩,⟨⟩⟩ ⟨h1,h2,h3⟩
   simp only at h1 h2 h3
   subst h1 h2 h3
   exact zh rfl (zd (qR (congrArg (fun z=>((q,(false,(z,()))),())) (qO (by omega)))))
 ·rintro _ rfl
  exact zg (zZ (by simp)) (zd (zD rfl))
 ·rintro ⟨j,⟨q,b,c,⟨⟩⟩,⟨⟩⟩ h
  have h:j=0:=h
  subst h
  exact zh rfl (zd rfl)
theorem zEz {k:Int} {s:Sig} (iv:Iv k s):Vc (s,())=some (true,()):=by
 have hfab:s.1.2.2.1.length≤1000000000000000000:=by rw [iv.sh.fab];exact zoz
 have hlw:=iv.sh.lW
 have hlh:=iv.sh.lH
 have hl12:=iv.led12
 rw [zsi];unfold zg5
 rw [Uf hfab,zG]
 refine yN (zg (by show (!zj (yM s.1 (led s)) 0)=false;rw [iv.hold];rfl) ?_)
 refine zp (J:=fun x=>x.1=0∧x.2.1.1=s) (qt (wis s).length (fun i st=>st=((s,(false,((i:Int),()))),())) (by omega) rfl ?_ ?_) ?_
 ·rintro i _ hi rfl
  have hx:(wis s)[i]?=some (wis s)[i]:=List.getElem?_eq_getElem hi
  generalize (wis s)[i]=w at hx
  have hw:=kI hx
  have hid:=iv.sh.bW w hw
  have g:=iv.g w.1 hid
  rw [zyt iv.sh hw] at g
  refine zh (qq (show (i:Int) < (((wis s).length:Nat):Int) by omega)) (zn (zQ (n:=i) hx ?_))
  refine zp (zu9 (s:=s) (by omega) w.1) ?_
  rintro ⟨y,b,⟨⟩⟩ hy
  refine zp (J:=fun x=>x.1=0∧x.2.1.1=false) ?_ ?_
  ·refine zr (fun h=>?_) (fun h=>zd ⟨rfl,rfl⟩)
   have h2:w.2.2.1=2:=jo h
   have hc:1≤(cOf s w.1).2.1∧(cOf s w.1).2.1=w.2.1∧(cOf s w.1).2.2.1=2:=by
    have gc:=g.c0;have gz:=g.z;have gcz:=g.cz;have gcw:=g.cw;have gcl:=g.cl;have gn:=g.n0
    have hn:1≤w.2.1:=by
     rcases Int.lt_or_le 0 w.2.1 with h3 | h3
     ·omega
     ·have:=gz (by omega);omega
    rcases Int.lt_or_le 0 (cOf s w.1).2.1 with h3 | h3
    ·rcases gc.2 with h4 | h4
     ·have:=gcw (by omega) h4;omega
     ·have:=gcl (by omega) (by omega);omega
    ·have:=(gcz (by omega)).2 hn;omega
   rcases hy with ⟨hb,hm,hyi⟩ | ⟨hb,hno⟩
   rotate_left
   ·obtain ⟨x,hm,hxi⟩:=g.lc (.inr (.inl hc.2.2))
    exact absurd hxi (hno x hm)
   simp only at hb hm hyi
   subst hb
   obtain ⟨ey,_⟩:=g.lg y hm hyi
   have hry:=(iv.lr y hm).2
   have hall:∀v,ndP v→∃h∈hel s,h.1=v∧h.2.1=y.1∧h.2.2.2=true:=by
    intro v hv
    have hwz:=g.wz (by omega) (by omega)
    have hnum:(hOf s v w.1).2.2.1=(cOf s w.1).2.1:=by
     rcases g.wh (.inr (.inl hc.2.2)) v hv with h5 | h5
     ·rw [hwz] at h5;cases h5
     ·exact h5
    have hon:(hOf s v w.1).2.2.2=true:=by
     rcases g.he v hv hc.1 hnum with h5 | h5
     ·exact h5.1
     ·omega
    rcases zdx (κ:=hK) (hel s) (v*8+w.1) (zH v w.1) with ⟨h6,_⟩ | ⟨h6,_⟩
    ·have:=zCE iv.sh (n:=v) hid
     exact ⟨hOf s v w.1,h6,this.1,by rw [this.2,hyi],hon⟩
    ·have:(hOf s v w.1).2.2.2=false:=by rw [show hOf s v w.1=zH v w.1 from h6]
     rw [this] at hon;cases hon
   refine zg rfl ?_
   rw [zvJ iv.sh.fab (by omega) hry hall,zG]
   refine zg rfl ?_
   have ey2:w.2.2.2.1=y:=ey.symm
   rw [show vz (((y,(true,())):qv×(Bool×Unit)).1,(w.2.2.2.1,()))=some (true,()) from by rw [ey2];exact zEy hry,zG]
   exact zg rfl (zd ⟨rfl,rfl⟩)
  ·rintro ⟨j,⟨b,⟨⟩⟩,⟨⟩⟩ ⟨h1,h2⟩
   simp only at h1 h2
   subst h1 h2
   exact zh rfl (zd (qR (congrArg (fun z=>((s,(false,(z,()))),())) (qO (by omega)))))
 ·rintro _ rfl
  exact zg (zZ (show ¬(((wis s).length:Nat):Int) < (((wis s).length:Nat):Int) by omega)) (zd (zD ⟨rfl,rfl⟩))
 rintro ⟨j,⟨q,b,n,⟨⟩⟩,⟨⟩⟩ ⟨h1,h2⟩
 simp only at h1 h2
 subst h1 h2
 refine zh rfl ?_
 refine zp (J:=fun x=>x.1=0) (qt (hel q).length (fun i st=>st=((q,(b,((i:Int),()))),())) (by omega) rfl ?_ ?_) ?_
 ·rintro i _ hi rfl
  have hx:(hel q)[i]?=some (hel q)[i]:=List.getElem?_eq_getElem hi
  generalize (hel q)[i]=a at hx
  have ha:=kI hx
  have hid:=(iv.sh.bH a ha).2
  have g:=iv.g a.2.1 hid
  have ea:=zGU iv.sh ha
  refine zh (qq (show (i:Int) < (((hel q).length:Nat):Int) by omega)) (zn (zQ (n:=i) hx ?_))
  refine zp (zu9 (s:=q) (by omega) a.2.1) ?_
  rintro ⟨y,b',⟨⟩⟩ hy
  refine zp (J:=fun x=>x.1=0∧x.2.1.1=b) ?_ ?_
  ·refine zr (fun h=>?_) (fun h=>zd ⟨rfl,rfl⟩)
   have h:a.2.2.2=true:=h
   have hst:=g.ho a.1 (iv.sh.bH a ha).1 (show (hOf q a.1 a.2.1).2.2.2=true by rw [ea];exact h)
   obtain ⟨x,hm,hxi⟩:=g.lc hst
   rcases hy with ⟨hb,_⟩ | ⟨hb,hno⟩
   ·simp only at hb
    subst hb
    exact zg rfl (zd ⟨rfl,rfl⟩)
   ·exact absurd hxi (hno x hm)
  ·rintro ⟨j,⟨b2,⟨⟩⟩,⟨⟩⟩ ⟨h1,h2⟩
   simp only at h1 h2
   subst h1 h2
   exact zh rfl (zd (qR (congrArg (fun z=>((q,(_,(z,()))),())) (qO (by omega)))))
 ·rintro _ rfl
  exact zg (zZ (show ¬(((hel q).length:Nat):Int) < (((hel q).length:Nat):Int) by omega)) (zd (zD rfl))
 ·rintro ⟨j,⟨q,b,n,⟨⟩⟩,⟨⟩⟩ h
  have h:j=0:=h
  subst h
  exact zh rfl (zd rfl)
abbrev Mov:=qN
structure moP (m:Mov):Prop where
 k:0≤m.1∧m.1≤255
 i:0≤m.2.1∧m.2.1≤255
 a:0≤m.2.2.1∧m.2.2.1≤255
theorem id6 {i:Int} (h:0≤i∧i≤255):idP (wrF .i64 (1+wrF .i64 (Int.tmod i 6))):=by
 have e:Int.tmod i 6=i % 6:=Int.tmod_eq_emod_of_nonneg h.1
 rw [e,qT (z:=i % 6) (by omega) (by omega),qT (by omega) (by omega)]
 unfold idP
 omega
theorem zF4 {m:Mov} (h:moP m):qu (kn (m,())) fun r=>idP r.1.1∧zaU r.1:=by
 rw [ziH];unfold KM
 refine zp (J:=fun x=>idP x.2.1.1.1∧zaU x.2.1.1) (zr (fun hb=>zd ⟨id6 h.i,.inr rfl⟩) (fun hb=>zd ⟨id6 h.i,.inl rfl⟩)) ?_
 rintro ⟨j,⟨x,⟨⟩⟩,⟨⟩⟩ hx
 exact zd hx
theorem zF5 {m:Mov} (h:moP m) (s:Sig):qu (Qm (m,(s,()))) fun r=>mvP r.1:=by
 rw [zlX];unfold zaN
 refine zp (J:=fun x=>idP x.2.1.1.2.1) ?_ ?_
 ·refine zr (fun h0=>zr (fun h1=>zr (fun h2=>?_) (fun h2=>?_)) (fun h1=>?_)) (fun h0=>?_)
  ·have:=yn h0;have:=jo h2;omega
  ·exact zd (id6 h.i)
  ·exact zd (id6 h.i)
  ·exact zd (id6 h.i)
 rintro ⟨j,⟨a,⟨⟩⟩,⟨⟩⟩ ha
 simp only at ha
 refine zp (J:=fun x=>mvP x.2.1.2.1) ?_ ?_
 ·refine zr (fun h1=>?_) (fun h1=>zd ⟨ha,fun e=>absurd e (jG h1)⟩)
  exact zp (zF4 h) fun r hr=>zd ⟨ha,fun _=>hr⟩
 ·rintro ⟨j,⟨b,c,⟨⟩⟩,⟨⟩⟩ hb
  exact zd hb
def s0:Sig:=(zhc,([],([],([],([],[])))))
theorem zHm:Iv 0 s0 where
 sh:=⟨rfl,zua,zua,zua,fun w h=>(by cases h),fun w h=>(by cases h),fun w h=>(by cases h),by decide⟩
 hold:=zCD
 lr:=fun x h=>by cases h
 g
  :=fun id hid=>{
  n0:=⟨Int.le_refl _,Int.le_refl _⟩,z:=fun _=>⟨rfl,rfl⟩,st:=fun h=>absurd (show (1:Int)≤0 from h) (by decide),c0:=⟨Int.le_refl _,.inl rfl⟩,
  cz:=fun _=>⟨rfl,fun h=>absurd (show (1:Int)≤0 from h) (by decide)⟩,cw:=fun h=>absurd (show (1:Int)≤0 from h) (by decide),cl:=fun h=>absurd (show (1:Int)≤0 from h) (by decide),
  lg:=fun x h=>(by cases h),lc:=fun h=>by
   have h:(0:Int)=1∨(0:Int)=2∨(0:Int)=4:=h
   omega
  hn:=fun v _=>⟨Int.le_refl _,Int.le_refl _⟩,he:=fun v _ h=>absurd (show (1:Int)≤0 from h) (by decide),ho:=fun v _ h=>absurd (show false=true from h) (by decide),
  wn:=fun h=>by
   have h:(0:Int)=1∨(0:Int)=4:=h
   omega
  wz:=fun _ _=>rfl,wr:=fun v h=>(by cases h),wd:=List.nodup_nil,wh:=fun h=>by
   have h:(0:Int)=1∨(0:Int)=2∨(0:Int)=4:=h
   omega}
 l:=fun l h=>by cases h
theorem zCL {l:List Mov} (h:∀m∈l,moP m) {most:Nat} (hm:most≤1000) (hl:l.length≤1000000000000000000):qu (Ju (l,((most:Int),()))) fun r=>(∃k:Int,k≤(most:Int)∧Iv k r.1)∧r.2.1=true:=by
 rw [zqF];unfold zeY
 rw [zFT,zG,zFU,zG]
 have ec:VI ((l.length:Nat):Int) (most:Int)=((min l.length most:Nat):Int):=by rw [ztU];omega
 rw [ec,zzp l _ (Nat.min_le_left _ _),zG]
 have hlt:(l.take (min l.length most)).length=min l.length most:=by rw [List.length_take];omega
 have hmem:∀m∈l.take (min l.length most),moP m:=fun m hm=>h m (List.mem_of_mem_take hm)
 generalize l.take (min l.length most)=L at hlt hmem
 refine zp (J:=fun x=>(∃k:Int,k≤(most:Int)∧Iv k x.2.1.1)∧x.2.1.2.1=true) (qt L.length (fun i st=>∃q,st=((q,(true,((i:Int),()))),())∧Iv (i:Int) q) (by omega) ⟨s0,rfl,zHm⟩ ?_ ?_) ?_
 ·rintro i _ hi ⟨q,rfl,iv⟩
  have hx:L[i]?=some L[i]:=List.getElem?_eq_getElem hi
  have hmo:=hmem _ (List.getElem_mem hi)
  generalize L[i]=m at hx hmo
  have lift:Iv ((i+1:Nat):Int) q:=⟨iv.sh,iv.hold,iv.lr,fun id hid=>(iv.g id hid).mono (by omega),iv.l⟩
  refine zh (qq (show (i:Int) < ((L.length:Nat):Int) by omega)) (zn (zQ (n:=i) hx ?_))
  refine zp (zF5 hmo q) fun a ha=>?_
  refine zp (zGV iv (by omega) ha) fun r hr=>?_
  refine zp (J:=fun x=>Iv ((i+1:Nat):Int) x.2.1.1∧x.2.1.2.1=true) ?_ ?_
  ·refine zr (fun h0=>?_) (fun h0=>zd ⟨lift,rfl⟩)
   have iv':Iv ((i+1:Nat):Int) r.1:=hr (jo h0)
   refine zh rfl ?_
   rw [zEz iv',zG]
   exact zd ⟨iv',rfl⟩
  ·rintro ⟨j,⟨q',b,⟨⟩⟩,⟨⟩⟩ ⟨h1,h2⟩
   simp only at h1 h2
   subst h2
   exact zd (qR ⟨q',congrArg (fun z=>((q',(true,(z,()))),())) (qO (by omega)),h1⟩)
 ·rintro _ ⟨q,rfl,iv⟩
  refine zg (zZ (show ¬((L.length:Nat):Int) < ((L.length:Nat):Int) by omega)) (zd (zD ⟨⟨_,by omega,iv⟩,rfl⟩))
 ·rintro ⟨j,⟨q,b,n,⟨⟩⟩,⟨⟩⟩ hq
  exact zd hq
theorem zEA {G:Unit→Option (Bool×Unit)} (hw:G ()=some (true,())) {l:List Mov} (h:∀m∈l,moP m) (hl:l.length≤1000000000000000000):YE G Ju l=some (true,()):=by
 unfold YE
 rw [hw,zG]
 exact yN (zg rfl (zp (zCL h (most:=60) (by omega) hl) fun r hr=>zd (by rw [hr.2])))
end Go.Proofs.YtleloebnggepoaaGreat.sg
end
