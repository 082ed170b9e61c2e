/- Parts of a proof, joined. -/
import Derived.Test.YtleloebnggepoaaGreatS26
set_option linter.unusedSectionVars false
set_option linter.unusedVariables false
set_option linter.unusedSimpArgs false
set_option maxHeartbeats 0
set_option maxRecDepth 100000
noncomputable section
namespace Go.Proofs.YtleloebnggepoaaGreat.sg
open Go Go.Fz Go.Fz.Sy
def xb (l:List (Int×Int)):Int×Int:=((l.map (·.1)).sum,(l.map (·.2)).sum)
theorem zDr {l:List (Int×Int)} {i:Nat} {b:Int×Int} (h:l[i]?=some b):xb (l.take (i+1))=((xb (l.take i)).1+b.1,(xb (l.take i)).2+b.2):=by
 unfold xb;rw [List.take_add_one,h];simp
theorem zuR:∀{l:List (Int×Int)},(∀b∈l,vQ b)→(l.length:Int)≤(xb l).1∧(xb l).1≤1048576*l.length∧(l.length:Int)≤(xb l).2∧(xb l).2≤2097152*l.length
 |[],_=>by simp [xb]
 |b::l,h=>by
  have ih:=zuR (l:=l) fun x hx=>h x (by simp [hx])
  obtain ⟨⟨h1,h2⟩,h3,h4⟩:=h b (by simp)
  unfold xb at *
  simp only [List.map_cons,List.sum_cons,List.length_cons]
  omega
noncomputable def Ux (l:List (Int×Int)):(Int×Int)×Int:=bif tv (vQ (xb l)) then (xb l,0) else ((0,0),6)
theorem zuS {l:List (Int×Int)} (h0:l≠[]) (h12:l.length≤12) (hb:∀b∈l,vQ b):uQ (l,())=some ((Ux l).1,(Ux l).2,()):=by
 have hl:0 < l.length:=List.length_pos_iff.2 h0
 rw [zsO];unfold zho
 refine xd (zg (ji (show (l.length:Int)≠0 by omega)) (zg (qa (show ¬12 < (l.length:Int) by omega)) ?_))
 refine zn (J:=fun x=>x.1=0∧x.2.1.2.1=xb l) (qz l.length (fun i s=>s=(((0,0),(xb (l.take i),(0,((i:Int),())))),())) (by omega) rfl ?_ ?_) ?_
 ·rintro i _ hi rfl
  have hx:l[i]?=some l[i]:=List.getElem?_eq_getElem hi
  have hm:=List.getElem_mem hi
  generalize l[i]=b at hx hm
  have hbb:=hb b hm
  have hbd:=zuR (l:=l.take i) fun x hx=>hb x (List.mem_of_mem_take hx)
  have hlt:(l.take i).length=i:=by simp;omega
  refine zh (qx (show (i:Int) < (l.length:Int) by omega)) (zo (zP (n:=i) hx ?_))
  rw [Yc,zN hbb,zF,cond_true]
  refine zg rfl (zd (qR ?_))
  obtain ⟨⟨b1,b2⟩,b3,b4⟩:=hbb
  show (((0,0),(((wrF .i64 ((xb (l.take i)).1+b.1)),(wrF .i64 ((xb (l.take i)).2+b.2))),(0,((wrF .i64 ((i:Int)+1)),())))),())=_
  rw [zDr hx,qQ (by omega),qU (z:=(xb (l.take i)).1+b.1) (by omega) (by omega),qU (by omega) (by omega)]
 ·rintro _ rfl
  refine zg (qa (show ¬(l.length:Int) < (l.length:Int) by omega)) (zd (zE ⟨rfl,?_⟩))
  show xb (l.take l.length)=_
  rw [List.take_length]
 ·rintro ⟨j,⟨a1,a2,a3,a4,⟨⟩⟩,⟨⟩⟩ ⟨h1,h2⟩
  simp only at h1 h2
  subst h1 h2
  refine zh rfl ?_
  rw [Yc,zF]
  unfold Ux
  by_cases h:vQ (xb l)
  ·rw [zN h];exact zg rfl (zd rfl)
  ·rw [qu h];exact zh rfl (zd rfl)
theorem wru {z:Int} (h1:0≤z) (h2:z < 18446744073709551616):wrF .u64 z=z:=by
 rw [zca]
 have e:IntKind.u64.wrap z=z % 18446744073709551616:=by
  unfold IntKind.wrap
  show (if (false&&decide (z % 18446744073709551616≥9223372036854775808))=true then z % 18446744073709551616 - 18446744073709551616 else z % 18446744073709551616)=_
  simp
 rw [e];omega
theorem ztb (x:Int):yK .u64 x 32=x / 4294967296:=by
 show x.fdiv (2 ^ (min (32:Int).toNat 64))=x / 4294967296
 rw [show (2:Int) ^ (min (32:Int).toNat 64)=4294967296 from rfl]
 exact Int.fdiv_eq_ediv_of_nonneg x (by omega)
theorem zBO {x:Int} (h0:0≤x) (h1:x < 4294967296):Ze .and .u64 x 4294967295=x:=by
 obtain ⟨n,rfl⟩:=Int.eq_ofNat_of_zero_le h0
 show IntKind.u64.wrap (((BitVec.ofInt 64 (n:Int)&&& BitVec.ofInt 64 4294967295).toNat:Nat):Int)=_
 have e:(BitVec.ofInt 64 (n:Int)&&& BitVec.ofInt 64 4294967295).toNat=n:=by
  rw [BitVec.toNat_and,BitVec.toNat_ofInt,BitVec.toNat_ofInt]
  have e1:((n:Int) % ((2 ^ 64:Nat):Int)).toNat=n:=by
   rw [show ((2 ^ 64:Nat):Int)=18446744073709551616 from rfl];omega
  have e2:((4294967295:Int) % ((2 ^ 64:Nat):Int)).toNat=2 ^ 32 - 1:=rfl
  rw [e1,e2,Nat.and_two_pow_sub_one_of_lt_two_pow (by omega)]
 rw [e,←zca]
 exact wru (by omega) (by omega)
theorem ziL {l:List Int} (hn:l.length≤1000) (h:∀x∈l,-1125899906842624≤x∧x≤1125899906842624):kZ (l,())=some (true,()):=by
 rw [zq7];unfold zfn
 refine gr (zn (J:=fun x=>x.1=0) (uR l.length (fun _=>True) (by omega) ?_ ?_) ?_)
 ·intro i hi _
  have hx:l[i]?=some l[i]:=List.getElem?_eq_getElem hi
  obtain ⟨h1,h2⟩:=h _ (List.getElem_mem hi)
  generalize l[i]=x at hx h1 h2
  refine zh (qx (show (i:Int) < (l.length:Int) by omega)) (zo (zP (n:=i) hx ?_))
  refine zn (J:=fun r=>r.1=0∧r.2.1.1=false) (zg (qa (by omega)) (zg (qa (by omega)) (zd ⟨rfl,rfl⟩))) ?_
  rintro ⟨j,⟨v,⟨⟩⟩,⟨⟩⟩ ⟨rfl,rfl⟩
  exact zh rfl (zd (Zl (by omega) trivial))
 ·intro _
  exact zg (qa (show ¬(l.length:Int) < (l.length:Int) by omega)) (zd (zE rfl))
 ·rintro ⟨j,⟨v,w,⟨⟩⟩,⟨⟩⟩ h1
  simp only at h1
  subst h1
  exact zh rfl (zd rfl)
theorem ztc {x:Int} (h1 : -1125899906842624≤x) (h2:x≤1125899906842624):YN (x,())=some (x,true,()):=by
 rw [zra];unfold zfo
 rw [ziL (by simp) (by simp;omega)];rfl
theorem zmI {a b:Int} (a0:0≤a) (a1:a < 4294967296) (b0:0≤b) (b1:b < 4294967296):ZD (a,b,())=some (0,a*b,()):=by
 have hm:=zko a0 (show a≤4294967295 by omega) b0 (show b≤4294967295 by omega)
 rw [zlp];unfold zao
 rw [ztb a,ztb b,zBO a0 a1,zBO b0 b1,show a / 4294967296=0 by omega,show b / 4294967296=0 by omega,Int.zero_mul,Int.zero_mul,Int.mul_zero]
 rw [show wrF .u64 0=0 from rfl,wru (z:=a*b) (by omega) (by omega),ztb (a*b),Int.zero_add (a*b / 4294967296)]
 have h1:0≤a*b / 4294967296:=by omega
 have h2:a*b / 4294967296 < 4294967296:=by omega
 rw [wru (z:=a*b / 4294967296) h1 (by omega),ztb (a*b / 4294967296),show a*b / 4294967296 / 4294967296=0 by omega,zBO h1 h2,Int.add_zero (a*b / 4294967296),wru (z:=a*b / 4294967296) h1 (by omega),ztb (a*b / 4294967296),show a*b / 4294967296 / 4294967296=0 by omega]
 rfl
theorem zmJ {a c:Int} (a0:0≤a) (a1:a < 18446744073709551616) (c0:0 < c):ZI (0,a,c,())=some (a / c,a % c,()):=by
 rw [zls];unfold zap
 have hq:0≤a / c:=Int.ediv_nonneg a0 (by omega)
 have hq2:a / c≤a:=Int.ediv_le_self _ a0
 rw [ji (show c≠0 by omega),qx (show 0 < c by omega),Int.tdiv_eq_ediv_of_nonneg a0,Int.tmod_eq_emod_of_nonneg a0,wru hq (by omega)]
 rfl
theorem zkp {a b c:Int} (a0:0≤a) (a1:a < 4294967296) (b0:0≤b) (b1:b < 4294967296) (c0:0 < c) (c1:c≤4294967296) (hm:a*b≤1125899906842000):kN (a,b,c,())=some (cl c (a*b),()):=by
 have hm0:0≤a*b:=Int.mul_nonneg a0 b0
 have hq:0≤a*b / c:=Int.ediv_nonneg hm0 (by omega)
 have hq2:a*b / c≤a*b:=Int.ediv_le_self _ hm0
 have hr:=Int.emod_nonneg (a*b) (show c≠0 by omega)
 have hr2:=Int.emod_lt_of_pos (a*b) c0
 have hde:=Int.emod_add_mul_ediv (a*b) c
 rw [zsS];unfold zhs
 rw [qU (z:=0 - a) (by omega) (by omega)]
 have hM:Zj (0 - a,())=some (a,()):=by
  rw [zeT];unfold UJ
  rcases Int.lt_or_le (0 - a) 0 with h | h
  ·rw [qx h,cond_true,show 0 - (0 - a)=a by omega,qU (z:=a) (by omega) (by omega),wru (z:=a) (by omega) (by omega)]
  ·rw [qa (by omega),cond_false,show 0 - a=a by omega,wru (z:=a) (by omega) (by omega)]
 have hM2:Zj (b,())=some (b,()):=by
  rw [zeT];unfold UJ
  rw [qa (by omega),cond_false,wru (z:=b) (by omega) (by omega)]
 have hcl:cl c (a*b)=if a*b % c=0 then a*b / c else a*b / c+1:=by
  unfold cl
  split
  ·rename_i h
   have e:a*b+c - 1=(c - 1)+(a*b / c)*c:=by rw [Int.mul_comm _ c];omega
   rw [e,Int.add_mul_ediv_right _ _ (by omega),Int.ediv_eq_zero_of_lt (by omega) (by omega)];omega
  ·rename_i h
   have e:a*b+c - 1=(a*b % c - 1)+(a*b / c+1)*c:=by rw [Int.add_mul,Int.mul_comm _ c];omega
   rw [e,Int.add_mul_ediv_right _ _ (by omega),Int.ediv_eq_zero_of_lt (by omega) (by omega)];omega
 have key:qp (VA (0 - a,b,c,())) fun r=>r.1 = -cl c (a*b):=by
  rw [zsR];unfold zhr
  rw [ziL (by simp) (by simp;omega)]
  refine zn (J:=fun x=>x.1=0) (zg (qa (show ¬c < 1 by omega)) (zd rfl)) ?_
  rintro ⟨j,⟨v,w,⟨⟩⟩,⟨⟩⟩ h1
  simp only at h1
  subst h1
  refine zh rfl ?_
  rw [hM,zF,hM2,zF,zmI a0 a1 b0 b1,zF,wru (z:=c) (by omega) (by omega)]
  refine zg (by rw [qx (show (0:Int) < c by omega)];rfl) ?_
  rw [zmJ hm0 (by omega) c0,zF]
  refine zg (qa (show ¬1125899906842624 < a*b / c by omega)) ?_
  refine zn (J:=fun x=>x.2.1.1 = -cl c (a*b)) ?_ ?_
  ·rw [qa (show ¬b < 0 by omega),hcl]
   rcases Int.lt_or_le (0 - a) 0 with h | h
   ·rw [qx h]
    refine zh rfl (zn (J:=fun x=>x.2.1.1 = -(if a*b % c=0 then a*b / c else a*b / c+1)) ?_ ?_)
    ·rw [qU (z:=a*b / c) (by omega) (by omega),qU (z:=0 - a*b / c) (by omega) (by omega),qU (z:=0 - a*b / c - 1) (by omega) (by omega)]
     refine zq (fun h2=>?_) (fun h2=>?_)
     ·have h2:(!zj (a*b % c) 0)=true:=h2
      have:=jO (show zj (a*b % c) 0=false by simpa using h2)
      refine zd ?_
      rw [if_neg this]
      show 0 - a*b / c - 1=_
      omega
     ·have h2:(!zj (a*b % c) 0)=false:=h2
      have:=jg (show zj (a*b % c) 0=true by simpa using h2)
      refine zd ?_
      rw [if_pos this]
      show 0 - a*b / c=_
      omega
    ·rintro ⟨j,⟨v,⟨⟩⟩,⟨⟩⟩ h1
     exact zd h1
   ·have ha:a=0:=by omega
    rw [qa (by omega),ha]
    refine zg rfl (zd ?_)
    rw [Int.zero_mul,Int.zero_ediv,Int.zero_emod,if_pos rfl]
    rfl
  ·rintro ⟨j,⟨v,⟨⟩⟩,⟨⟩⟩ h1
   simp only at h1
   subst h1
   have:0≤cl c (a*b):=by rw [hcl];split<;>omega
   have:cl c (a*b)≤a*b / c+1:=by rw [hcl];split<;>omega
   rw [ztc (x:=-cl c (a*b)) (by omega) (by omega)]
   exact zd rfl
 obtain ⟨⟨r,w,⟨⟩⟩,e,h⟩:=key
 rw [e,zF]
 simp only at h
 subst h
 have:0≤cl c (a*b):=by rw [hcl];split<;>omega
 have:cl c (a*b)≤a*b / c+1:=by rw [hcl];split<;>omega
 show some (wrF .i64 (0 - -cl c (a*b)),())=_
 rw [qU (by omega) (by omega),show 0 - -cl c (a*b)=cl c (a*b) by omega]
def zd8 (s:Int×Int):Prop:=1≤s.1∧s.1≤2097152∧0≤s.2∧s.2≤268435456
theorem zpg.ok {v:Int×Int} (h:zpg v):zd8 v:=⟨h.1,by have:=h.2.1;omega,h.2.2.1,h.2.2.2⟩
theorem ziM {s:Int×Int} (h:zd8 s):kY (s,())=some (0,()):=by
 obtain ⟨h1,h2,h3,h4⟩:=h
 rw [zq6];unfold zfm
 rw [qa (by omega),qa (by omega),qa (by omega),qa (by omega)];rfl
theorem zFX {d w M:Int} (hd:0 < d) (h0:0≤w) (h1:w≤M):0≤cl d w∧cl d w≤M+1:=by
 unfold cl
 refine ⟨Int.ediv_nonneg (by omega) (by omega),?_⟩
 have:(w+d - 1) / d≤(w*d+d) / d:=by
  refine Int.ediv_le_ediv hd ?_
  have:=Int.mul_le_mul_of_nonneg_left (show 1≤d by omega) h0
  omega
 have e:(w*d+d) / d=w+1:=by
  rw [show w*d+d=(w+1)*d by rw [Int.add_mul,Int.one_mul]];exact Int.mul_ediv_cancel _ (by omega)
 omega
theorem zBP {b s:Int×Int} (hb:vQ b) (hs:zd8 s):kN (b.1,1048576,s.1,())=some (cl s.1 (b.1*1048576),()):=by
 obtain ⟨⟨b1,b2⟩,b3,b4⟩:=hb
 obtain ⟨h1,h2,h3,h4⟩:=hs
 exact zkp (by omega) (by omega) (by omega) (by omega) (by omega) (by omega) (by omega)
theorem zyY {b s:Int×Int} (hb:vQ b) (hs:zd8 s):0≤cl s.1 (b.1*1048576)∧cl s.1 (b.1*1048576)≤1099511627777:=by
 obtain ⟨⟨b1,b2⟩,b3,b4⟩:=hb
 obtain ⟨h1,h2,h3,h4⟩:=hs
 exact zFX (M:=1099511627776) (by omega) (by omega) (by omega)
theorem ztd {b s:Int×Int} (hb:vQ b) (hs:zd8 s):vX ([b],s,())=some (bif tv (b.2≤s.1) then (s.2+cl s.1 (b.1*1048576),0,()) else (0,141,())):=by
 have hd:=zyY hb hs
 have hcl:QK ([b],s.1,())=some (bif tv (b.2≤s.1) then (cl s.1 (b.1*1048576),true,()) else (0,false,())):=by
  rw [zmy];unfold zbp
  refine xd ?_
  by_cases h:b.2≤s.1
  ·rw [zN h,cond_true]
   refine zn (J:=fun x=>x.2.1.1=cl s.1 (b.1*1048576)∧x.2.1.2.1=true) (qz 1 (fun i st=>(i=0∧st=((0,(false,(0,()))),((),((),()))))∨(i=1∧st=((cl s.1 (b.1*1048576),(true,(1,()))),((),((),()))))) (by omega) (.inl ⟨rfl,rfl⟩) ?_ ?_) ?_
   ·rintro i _ hi (⟨rfl,rfl⟩ | ⟨rfl,rfl⟩)
    ·refine zh rfl (zo (ve (a:=b) rfl (zg (qa (by omega)) ?_)))
     rw [zBP hb hs,zF]
     refine zn (J:=fun x=>x.2.1.1=cl s.1 (b.1*1048576)∧x.2.1.2.1=true) (zh rfl (zd ⟨rfl,rfl⟩)) ?_
     rintro ⟨j,⟨a1,a2,⟨⟩⟩,⟨⟩,⟨⟩⟩ ⟨h1,h2⟩
     simp only at h1 h2
     subst h1 h2
     refine zn (J:=fun x=>x.1=0∧x.2.1.1=cl s.1 (b.1*1048576)∧x.2.1.2.1=true) (qz 1 (fun i st=>(i=0∧st=((cl s.1 (b.1*1048576),(true,(0,()))),((),((),()))))∨(i=1∧st=((cl s.1 (b.1*1048576),(true,(1,()))),((),((),()))))) (by omega) (.inl ⟨rfl,rfl⟩) ?_ ?_) ?_
     ·rintro i _ hi (⟨rfl,rfl⟩ | ⟨rfl,rfl⟩)
      ·refine zh rfl (zo (ve (a:=b) rfl (zh (by rw [qa (by omega)];rfl) ?_)))
       exact zd (qR (.inr ⟨rfl,rfl⟩))
      ·omega
     ·rintro _ (⟨h1,rfl⟩ | ⟨_,rfl⟩)
      ·omega
      ·exact zg rfl (zd (zE ⟨rfl,rfl,rfl⟩))
     ·rintro ⟨j,⟨a1,a2,a3,⟨⟩⟩,⟨⟩,⟨⟩,⟨⟩⟩ ⟨h1,h2,h3⟩
      simp only at h1 h2 h3
      subst h1 h2 h3
      exact zh rfl (zd (qR (.inr ⟨rfl,rfl⟩)))
    ·omega
   ·rintro _ (⟨h1,rfl⟩ | ⟨_,rfl⟩)
    ·omega
    ·exact zg rfl (zd (zE ⟨rfl,rfl⟩))
   ·rintro ⟨j,⟨a1,a2,a3,⟨⟩⟩,⟨⟩,⟨⟩,⟨⟩⟩ ⟨h1,h2⟩
    simp only at h1 h2
    subst h1 h2
    refine zq (fun _=>?_) (fun _=>?_)<;>exact zd rfl
  ·rw [qu h,cond_false]
   refine zn (J:=fun x=>x.2.1.1=0∧x.2.1.2.1=false) (qz 1 (fun i st=>(i=0∧st=((0,(false,(0,()))),((),((),()))))∨(i=1∧st=((0,(false,(1,()))),((),((),()))))) (by omega) (.inl ⟨rfl,rfl⟩) ?_ ?_) ?_
   ·rintro i _ hi (⟨rfl,rfl⟩ | ⟨rfl,rfl⟩)
    ·exact zh rfl (zo (ve (a:=b) rfl (zh (qx (by omega)) (zd (qR (.inr ⟨rfl,rfl⟩))))))
    ·omega
   ·rintro _ (⟨h1,rfl⟩ | ⟨_,rfl⟩)
    ·omega
    ·exact zg rfl (zd (zE ⟨rfl,rfl⟩))
   ·rintro ⟨j,⟨a1,a2,a3,⟨⟩⟩,⟨⟩,⟨⟩,⟨⟩⟩ ⟨h1,h2⟩
    simp only at h1 h2
    subst h1 h2
    refine zq (fun _=>?_) (fun _=>?_)<;>exact zd rfl
 rw [zrd];unfold zfp
 refine xd (zg rfl (zg rfl (zn (J:=fun x=>x.1=0∧x.2.1.1=0) (uR 1 (fun _=>True) (by omega) ?_ ?_) ?_)))
 ·intro i hi _
  have:i=0:=by omega
  subst this
  refine zh rfl (zo (ve (a:=b) rfl ?_))
  rw [Yc,zN hb,zF]
  exact zg rfl (zd (Zl (by omega) trivial))
 ·intro _
  exact zg rfl (zd (zE ⟨rfl,rfl⟩))
 ·rintro ⟨j,⟨v,w,⟨⟩⟩,⟨⟩⟩ ⟨h1,h2⟩
  simp only at h1 h2
  subst h1 h2
  refine zh rfl ?_
  rw [ziM hs,zF]
  refine zg rfl ?_
  rw [hcl,zF]
  by_cases h:b.2≤s.1
  ·rw [zN h,cond_true,cond_true]
   refine zg rfl (zd ?_)
   obtain ⟨h1,h2,h3,h4⟩:=hs
   show ((wrF .i64 (s.2+cl s.1 (b.1*1048576))),_)=_
   rw [qU (by omega) (by omega)]
  ·rw [qu h]
   exact zh rfl (zd rfl)
theorem zGR {b s:Int×Int} (hb:vQ b) (hs:zd8 s):0≤b.2*s.2∧b.2*s.2≤562949953421312∧0≤cl 1048576 (b.2*s.2)∧cl 1048576 (b.2*s.2)≤562949953421313:=by
 obtain ⟨s1,s2,s3,s4⟩:=hs
 obtain ⟨⟨b1,b2⟩,b3,b4⟩:=hb
 have:=zko (show 0≤b.2 by omega) b4 s3 s4
 have:=zFX (d:=1048576) (w:=b.2*s.2) (M:=562949953421312) (by omega) (by omega) (by omega)
 omega
theorem zpM {b s:Int×Int} (hb:vQ b) (hs:zd8 s) (h:b.2≤s.1):xZ (b,s,())=some (b.1+cl 1048576 (b.2*s.2),0,()):=by
 have hbb:=zGR hb hs
 obtain ⟨s1,s2,s3,s4⟩:=id hs
 obtain ⟨⟨b1,b2⟩,b3,b4⟩:=id hb
 rw [zn9];unfold zcJ
 have e:ZL (b,s,())=some (0,()):=by
  rw [zlu];unfold zaq
  rw [Yc,zN hb,zF,cond_true,ziM hs,zF,qa (by omega)];rfl
 rw [e,zF]
 refine xd (zg rfl ?_)
 rw [zkp (by omega) (by omega) s3 (by omega) (by omega) (by omega) (by omega)]
 refine zd ?_
 show ((wrF .i64 (b.1+cl 1048576 (b.2*s.2))),_)=_
 rw [qU (by omega) (by omega)]
abbrev Bnd:=(Int×Int)×(Int×Int)×Int×Int
def zB:Bnd:=((0,0),((0,0),(0,0)))
def zbV (s:qj) (p:Int):Prop:=∃r∈s.2.2.2.2.2.2.2.2,p∈r
noncomputable def load (l:List qj) (p:Int):List (Int×Int):=(l.filter fun s=>tv (zbV s p)).map fun s=>s.2.2.2.2.2.2.1
structure okP (n:Fab) (l:List qj):Prop where
 f:zok n
 a:zuM n.1 l
 n12:l.length≤12
 d:zrt l
 c:∀s∈l,s.2.2.2.1=6∧s.2.2.2.2.1≤n.2.2.2
noncomputable def ofS (g:Gts) (per most:Int):(Int×Int)×Int:=match xY (g,per,most,()) with
 |some (v,e,())=>(v,e)
 |none=>((0,0),0)
theorem zBQ {g:Gts} (hg:yG g) {per most:Int} (p0:1≤per) (p1:per≤1000) (m0:84≤most) (m1:most≤1542):xY (g,per,most,())=some ((ofS g per most).1,(ofS g per most).2,())∧(((ofS g per most).2=0∧zpg (ofS g per most).1)∨((ofS g per most).2=4∧(ofS g per most).1=(0,0))):=by
 obtain ⟨v,e,h1,h3⟩:=zIm hg p0 p1 m0 m1
 have e1:ofS g per most=(v,e):=by unfold ofS;rw [h1]
 rw [e1]
 exact ⟨h1,h3⟩
noncomputable def zBR (b v:Int×Int):Bnd:=(b,(v,(v.2+cl v.1 (b.1*1048576),b.1+cl 1048576 (b.2*v.2))))
noncomputable def wJ (n:Fab) (l:List qj) (p:Int):Bnd×Int:=
 bif tv (load l p=[]) then (zB,4)
 else bif tv ((ofS ((n.2.2.1[p.toNat]?).getD ([],0)) (lnk n.1 p).2.2.1 n.2.2.2).2=0) then
  bif tv ((Ux (load l p)).2=0) then
   bif tv ((Ux (load l p)).1.2≤(ofS ((n.2.2.1[p.toNat]?).getD ([],0)) (lnk n.1 p).2.2.1 n.2.2.2).1.1) then (zBR (Ux (load l p)).1 (ofS ((n.2.2.1[p.toNat]?).getD ([],0)) (lnk n.1 p).2.2.1 n.2.2.2).1,0)
   else (zB,141)
  else (zB,6)
 else (zB,411)
theorem zvQ {l:List qj} {i:Nat} {s:qj} (h:l[i]?=some s) (p:Int):load (l.take (i+1)) p=bif tv (zbV s p) then load (l.take i) p++[s.2.2.2.2.2.2.1] else load (l.take i) p:=by
 unfold load
 rw [List.take_add_one,h,Option.toList,List.filter_append,List.map_append]
 cases e:tv (zbV s p) with
 |true=>simp [e]
 |false=>simp [e]
theorem zuT {n:Fab} {l:List qj} (h:okP n l) (p:Int):(load l p).length≤12∧∀b∈load l p,vQ b:=by
 unfold load
 refine ⟨?_,fun b hb=>?_⟩
 ·rw [List.length_map]
  have:=List.length_filter_le (fun s=>tv (zbV s p)) l
  have:=h.n12
  omega
 ·obtain ⟨s,hs,rfl⟩:=List.mem_map.1 hb
  have hs:=(List.mem_filter.1 hs).1
  have h1:=h.a s hs
  have h2:=(h.c s hs).1
  rcases h1.cl with ⟨h3,_⟩ | ⟨_,_,h4,h5⟩
  ·omega
  ·have:=h1.sz
   exact ⟨⟨by omega,h4.2⟩,h5⟩
theorem zom {n:Fab} (h:zok n) {p:Int} (hp:QZ n.1 p):∃g,n.2.2.1[p.toNat]?=some g∧(n.2.2.1[p.toNat]?).getD ([],0)=g∧yG g∧1≤(lnk n.1 p).2.2.1∧(lnk n.1 p).2.2.1≤1000:=by
 have:=hp.1;have:=hp.2
 have hf:=h.f.1
 have hx:n.2.2.1[p.toNat]?=some (n.2.2.1[p.toNat]'(by omega)):=List.getElem?_eq_getElem (by omega)
 have hl:=(h.t.ls _ _ (zd5 hp)).1
 exact ⟨_,hx,by rw [hx];rfl,h.g _ (List.getElem_mem _),hl.2.2.2.2.1,hl.2.2.2.2.2.1⟩
abbrev za1:=List (Int×Bnd×Int)
def ZN (n:Fab) (l:List qj) (m:za1):Prop:=∀q z,mpH m q=true→mpD m q z=wJ n l q
theorem zDs (n:Fab) (l:List qj):ZN n l []:=fun q z h=>by cases h
theorem zvR {n:Fab} {l:List qj} {m:za1} (h:ZN n l m) (p:Int) {r:Bnd×Int} (hr:r=wJ n l p):ZN n l (mpP m p r):=fun q z hq=>by
 rw [zAf]
 split
 ·rename_i e;rw [←e,hr]
 ·rename_i e
  rw [zGJ] at hq
  refine h q z ?_
  simpa [e] using hq
noncomputable def zHL (n:Fab) (l:List qj) (m:za1) (p:Int):Option (Nat×(((Bnd×Int)×Unit)×(za1×Unit))):=
 (bif (!(mpH (α:=(((Int×Int)×((Int×Int)×(Int×Int)))×Int)) (m) (p))) then opt (qd (fun s7:((Int×Unit)×(((List (Int×Int))×Unit)×(Unit×(Unit×Unit))))=>
         bif (zt (s7.1.1) ((((l).length:Nat):Int))) then opt (atI (l) (s7.1.1)) fun x8=>
          opt (qd (fun s9:((Int×(Int×Unit))×(((List (Int×Int))×Unit)×(Unit×(Unit×Unit))))=>
           bif (zt (s9.1.2.1) ((((x8.2.2.2.2.2.2.2.2).length:Nat):Int))) then opt (atI (x8.2.2.2.2.2.2.2.2) (s9.1.2.1)) fun x10=>
            opt (jG ((x10,(p,())))) fun x11=>
            bif x11.1 then some (.inl (1,((s9.1.2.1,(s9.1.2.1,())),((s9.2.1.1,()),((),((),()))))))
            else some (.inr ((s9.1.1,((wrF .i64 ((s9.1.2.1+1))),())),((s9.2.1.1,()),((),((),())))))
           else some (.inl (0,((s9.1.1,(s9.1.2.1,())),((s9.2.1.1,()),((),((),()))))))) qC ((0,(0,())),((s7.2.1.1,()),((),((),()))))) fun x12=>
          bif (Nat.beq x12.1 0) then some (.inr (((wrF .i64 ((s7.1.1+1))),()),((x12.2.2.1.1,()),((),((),())))))
          else bif (!(zt (x12.2.1.1) (0))) then bif (xE ((x12.2.2.1.1).length) (((x8.2.2.2.2.2.2.1::[])).length) (16)) then some (.inr (((wrF .i64 ((s7.1.1+1))),()),(((x12.2.2.1.1++(x8.2.2.2.2.2.2.1::[])),()),((),((),())))))
            else none
           else some (.inr (((wrF .i64 ((s7.1.1+1))),()),((x12.2.2.1.1,()),((),((),())))))
         else some (.inl (0,((s7.1.1,()),((s7.2.1.1,()),((),((),()))))))) qC ((0,()),(([],()),((),((),()))))) fun x13=>
        bif (Nat.beq x13.1 0) then bif (zj ((((x13.2.2.1.1).length:Nat):Int)) (0)) then some (0,(((((0,0),((0,0),(0,0))),4),()),((mpP (α:=(((Int×Int)×((Int×Int)×(Int×Int)))×Int)) (m) (p) ((((0,0),((0,0),(0,0))),4))),())))
         else opt (Zi ((n.1,(p,())))) fun x14=>
          bif (!(zj (x14.2.1) (0))) then some (0,(((((0,0),((0,0),(0,0))),x14.2.1),()),((mpP (α:=(((Int×Int)×((Int×Int)×(Int×Int)))×Int)) (m) (p) ((((0,0),((0,0),(0,0))),x14.2.1))),())))
          else opt (atI (n.2.2.1) (p)) fun x15=>
           opt (xY ((x15,(x14.1,(n.2.2.2,()))))) fun x16=>
           bif (!(zj (x16.2.1) (0))) then some (0,(((((0,0),((0,0),(0,0))),411),()),((mpP (α:=(((Int×Int)×((Int×Int)×(Int×Int)))×Int)) (m) (p) ((((0,0),((0,0),(0,0))),411))),())))
           else opt (uQ ((x13.2.2.1.1,()))) fun x17=>
            bif (!(zj (x17.2.1) (0))) then some (0,(((((0,0),((0,0),(0,0))),x17.2.1),()),((mpP (α:=(((Int×Int)×((Int×Int)×(Int×Int)))×Int)) (m) (p) ((((0,0),((0,0),(0,0))),x17.2.1))),())))
            else opt (vX (((x17.1::[]),(x16.1,())))) fun x18=>
             bif (!(zj (x18.2.1) (0))) then some (0,(((((0,0),((0,0),(0,0))),x18.2.1),()),((mpP (α:=(((Int×Int)×((Int×Int)×(Int×Int)))×Int)) (m) (p) ((((0,0),((0,0),(0,0))),x18.2.1))),())))
             else opt (xZ ((x17.1,(x16.1,())))) fun x19=>
              bif (!(zj (x19.2.1) (0))) then some (0,(((((0,0),((0,0),(0,0))),x19.2.1),()),((mpP (α:=(((Int×Int)×((Int×Int)×(Int×Int)))×Int)) (m) (p) ((((0,0),((0,0),(0,0))),x19.2.1))),())))
              else some (0,((((x17.1,(x16.1,(x18.1,x19.1))),0),()),((mpP (α:=(((Int×Int)×((Int×Int)×(Int×Int)))×Int)) (m) (p) (((x17.1,(x16.1,(x18.1,x19.1))),0))),())))
        else bif (zj ((((x13.2.2.1.1).length:Nat):Int)) (0)) then some (0,(((((0,0),((0,0),(0,0))),4),()),((mpP (α:=(((Int×Int)×((Int×Int)×(Int×Int)))×Int)) (m) (p) ((((0,0),((0,0),(0,0))),4))),())))
         else opt (Zi ((n.1,(p,())))) fun x20=>
          bif (!(zj (x20.2.1) (0))) then some (0,(((((0,0),((0,0),(0,0))),x20.2.1),()),((mpP (α:=(((Int×Int)×((Int×Int)×(Int×Int)))×Int)) (m) (p) ((((0,0),((0,0),(0,0))),x20.2.1))),())))
          else opt (atI (n.2.2.1) (p)) fun x21=>
           opt (xY ((x21,(x20.1,(n.2.2.2,()))))) fun x22=>
           bif (!(zj (x22.2.1) (0))) then some (0,(((((0,0),((0,0),(0,0))),411),()),((mpP (α:=(((Int×Int)×((Int×Int)×(Int×Int)))×Int)) (m) (p) ((((0,0),((0,0),(0,0))),411))),())))
           else opt (uQ ((x13.2.2.1.1,()))) fun x23=>
            bif (!(zj (x23.2.1) (0))) then some (0,(((((0,0),((0,0),(0,0))),x23.2.1),()),((mpP (α:=(((Int×Int)×((Int×Int)×(Int×Int)))×Int)) (m) (p) ((((0,0),((0,0),(0,0))),x23.2.1))),())))
            else opt (vX (((x23.1::[]),(x22.1,())))) fun x24=>
             bif (!(zj (x24.2.1) (0))) then some (0,(((((0,0),((0,0),(0,0))),x24.2.1),()),((mpP (α:=(((Int×Int)×((Int×Int)×(Int×Int)))×Int)) (m) (p) ((((0,0),((0,0),(0,0))),x24.2.1))),())))
             else opt (xZ ((x23.1,(x22.1,())))) fun x25=>
              bif (!(zj (x25.2.1) (0))) then some (0,(((((0,0),((0,0),(0,0))),x25.2.1),()),((mpP (α:=(((Int×Int)×((Int×Int)×(Int×Int)))×Int)) (m) (p) ((((0,0),((0,0),(0,0))),x25.2.1))),())))
              else some (0,((((x23.1,(x22.1,(x24.1,x25.1))),0),()),((mpP (α:=(((Int×Int)×((Int×Int)×(Int×Int)))×Int)) (m) (p) (((x23.1,(x22.1,(x24.1,x25.1))),0))),())))
       else some (0,(((mpD (α:=(((Int×Int)×((Int×Int)×(Int×Int)))×Int)) (m) (p) ((((0,0),((0,0),(0,0))),0))),()),(m,()))))
theorem zAk {n:Fab} {l:List qj} (h:okP n l) {p:Int} (hp:QZ n.1 p) {m:za1} {c:List (Int×Int)} (hc:c=load l p) {X:Option (Nat×(((Bnd×Int)×Unit)×(za1×Unit)))}
  (hX:X=bif (zj ((((c).length:Nat):Int)) (0)) then some (0,(((zB,4),()),((mpP m p (zB,4)),())))
   else opt (Zi (n.1,(p,()))) fun x14=>bif (!(zj (x14.2.1) (0))) then some (0,(((zB,x14.2.1),()),((mpP m p (zB,x14.2.1)),())))
    else opt (atI (n.2.2.1) p) fun x15=>opt (xY (x15,(x14.1,(n.2.2.2,())))) fun x16=>bif (!(zj (x16.2.1) (0))) then some (0,(((zB,411),()),((mpP m p (zB,411)),())))
     else opt (uQ (c,())) fun x17=>bif (!(zj (x17.2.1) (0))) then some (0,(((zB,x17.2.1),()),((mpP m p (zB,x17.2.1)),())))
      else opt (vX ((x17.1::[]),(x16.1,()))) fun x18=>bif (!(zj (x18.2.1) (0))) then some (0,(((zB,x18.2.1),()),((mpP m p (zB,x18.2.1)),())))
       else opt (xZ (x17.1,(x16.1,()))) fun x19=>bif (!(zj (x19.2.1) (0))) then some (0,(((zB,x19.2.1),()),((mpP m p (zB,x19.2.1)),())))
        else some (0,((((x17.1,(x16.1,(x18.1,x19.1))),0),()),((mpP m p (((x17.1,(x16.1,(x18.1,x19.1))),0))),())))) :
  qp X fun x=>x.2.1.1=wJ n l p∧x.2.2.1=mpP m p (wJ n l p):=by
 obtain ⟨lb1,lb2⟩:=zuT h p
 obtain ⟨g,hx,hge,hg,p0,p1⟩:=zom h.f hp
 obtain ⟨o1,o3⟩:=zBQ hg p0 p1 h.f.f.2.1 h.f.f.2.2
 have fin:∀{r:Bnd×Int},r=wJ n l p→qp (some ((0:Nat),((r,()),((mpP m p r),())))) fun x=>x.2.1.1=wJ n l p∧x.2.2.1=mpP m p (wJ n l p):=fun e=>zd ⟨e,by rw [e]⟩
 subst hX hc
 unfold wJ at fin
 rw [hge] at fin
 unfold wJ
 rw [hge]
 by_cases hne:load l p=[]
 ·rw [zN hne,cond_true] at fin ⊢
  rw [hne]
  exact zh rfl (fin rfl)
 have hlen:(load l p).length≠0:=fun e=>hne (List.length_eq_zero_iff.1 e)
 rw [qu hne,cond_false] at fin ⊢
 refine zg (ji (show ((load l p).length:Int)≠0 by omega)) ?_
 rw [zyO h.f.t hp,zF]
 refine zg rfl (zo (ve (a:=g) (by rw [show p=((p.toNat:Nat):Int) from (by have:=hp.1;omega),Qx (n:=p.toNat)];exact hx) ?_))
 rw [o1,zF]
 rcases o3 with ⟨o4,o5⟩ | ⟨o4,o5⟩
 ·rw [o4,zN rfl,cond_true] at fin ⊢
  refine zg rfl ?_
  rw [zuS hne lb1 lb2,zF]
  have hs2:(Ux (load l p)).2=0∧vQ (Ux (load l p)).1∨(Ux (load l p)).2=6:=by
   unfold Ux
   by_cases hb:vQ (xb (load l p))
   ·rw [zN hb];exact .inl ⟨rfl,hb⟩
   ·rw [qu hb];exact .inr rfl
  rcases hs2 with ⟨hs2,hb⟩ | hs2
  ·rw [hs2,zN rfl,cond_true] at fin ⊢
   refine zg rfl ?_
   rw [ztd hb o5.ok,zF]
   by_cases hle:(Ux (load l p)).1.2≤(ofS g (lnk n.1 p).2.2.1 n.2.2.2).1.1
   ·rw [zN hle,cond_true] at fin ⊢
    rw [cond_true]
    refine zg rfl ?_
    rw [zpM hb o5.ok hle,zF]
    exact zg rfl (fin rfl)
   ·rw [qu hle,cond_false] at fin ⊢
    rw [cond_false]
    exact zh rfl (fin rfl)
  ·rw [hs2,qu (by simp)] at fin ⊢
   exact zh rfl (fin rfl)
 ·rw [o4,qu (by simp)] at fin ⊢
  exact zh rfl (fin rfl)
theorem zDt {n:Fab} {l:List qj} (h:okP n l) {p:Int} (hp:QZ n.1 p) {m:za1} (hm:ZN n l m):qp (zHL n l m p) fun x=>x.2.1.1=wJ n l p∧ZN n l x.2.2.1:=by
 have h12:=h.n12
 unfold zHL
 refine zq (fun hk=>?_) (fun hk=>?_)
 rotate_left
 ·have hk:mpH m p=true:=by simpa using hk
  exact zd ⟨hm p _ hk,hm⟩
 refine zn (J:=fun x=>x.2.2.1.1=load l p) (qz l.length (fun i s=>s=(((i:Int),()),((load (l.take i) p,()),((),((),()))))) (by omega) rfl ?_ ?_) ?_
 ·rintro i _ hi rfl
  have hy:l[i]?=some l[i]:=List.getElem?_eq_getElem hi
  have hmm:=List.getElem_mem hi
  generalize l[i]=s at hy hmm
  have hs:=h.a s hmm
  have rn:=hs.rn
  have hll:(load (l.take i) p).length≤12:=by
   unfold load;rw [List.length_map]
   have:=List.length_filter_le (fun s=>tv (zbV s p)) (l.take i)
   simp only [List.length_take] at this;omega
  refine zh (qx (show (i:Int) < (l.length:Int) by omega)) (zo (zP (n:=i) hy ?_))
  refine zn (J:=fun x=>(x.1=0∧x.2.2.1.1=load (l.take i) p∧¬zbV s p)∨(x.1=1∧0≤x.2.1.1∧x.2.2.1.1=load (l.take i) p∧zbV s p))
   (qz s.2.2.2.2.2.2.2.2.length (fun k st=>st=((0,((k:Int),())),((load (l.take i) p,()),((),((),()))))∧∀k',k' < k→∀r,s.2.2.2.2.2.2.2.2[k']?=some r→¬p∈r) (by omega) ⟨rfl,fun k' hk'=>by omega⟩ ?_ ?_) ?_
  ·rintro k _ hk ⟨rfl,hpk⟩
   have hx:s.2.2.2.2.2.2.2.2[k]?=some s.2.2.2.2.2.2.2.2[k]:=List.getElem?_eq_getElem hk
   have hmr:=List.getElem_mem hk
   generalize s.2.2.2.2.2.2.2.2[k]=r at hx hmr
   have hr8:=(hs.rt r hmr).1.n1
   refine zh (qx (show (k:Int) < (s.2.2.2.2.2.2.2.2.length:Int) by omega)) (zo (zP (n:=k) hx ?_))
   rw [zaO (by omega),zF]
   refine zq (fun hc=>?_) (fun hc=>?_)
   ·exact zd (zE (.inr ⟨rfl,by show (0:Int)≤(k:Int);omega,rfl,r,hmr,zer hc⟩))
   ·refine zd (qR ⟨congrArg (fun z=>(((0:Int),(z,())),_)) (qQ (by omega)),fun k' hk' r' hr'=>?_⟩)
    rcases Nat.lt_or_ge k' k with h1 | h1
    ·exact hpk k' h1 r' hr'
    ·have:k'=k:=by omega
     subst this
     rw [hx] at hr';cases hr'
     exact zaM hc
  ·rintro _ ⟨rfl,hpk⟩
   refine zg (qa (show ¬(s.2.2.2.2.2.2.2.2.length:Int) < (s.2.2.2.2.2.2.2.2.length:Int) by omega)) (zd (zE (.inl ⟨rfl,rfl,fun ⟨r,h1,h2⟩=>?_⟩)))
   obtain ⟨k,hk1,hk2⟩:=gS h1
   exact hpk k hk1 r hk2 h2
  ·rintro ⟨j,⟨v,w,⟨⟩⟩,⟨c,⟨⟩⟩,⟨⟩,⟨⟩,⟨⟩⟩ (⟨rfl,hc,hq⟩ | ⟨rfl,hv,hc,hq⟩)
   ·simp only at hc
    subst hc
    refine zh rfl (zd (qR ?_))
    rw [zvQ hy,qu hq,cond_false]
    exact congrArg (fun z=>((z,()),_)) (qQ (by omega))
   ·simp only at hc hv
    subst hc
    refine zg rfl (zh (by rw [qa (show ¬v < 0 by omega)];rfl) (zh (QR (by show ((load (l.take i) p).length+1)*16≤_;omega) (by show (load (l.take i) p).length+1≤_;omega)) (zd (qR ?_))))
    rw [zvQ hy,zN hq,cond_true]
    exact congrArg (fun z=>((z,()),_)) (qQ (by omega))
 ·rintro _ rfl
  refine zg (qa (show ¬(l.length:Int) < (l.length:Int) by omega)) (zd (zE ?_))
  show load (l.take l.length) p=_
  rw [List.take_length]
 ·rintro ⟨j,⟨z,⟨⟩⟩,⟨c,⟨⟩⟩,⟨⟩,⟨⟩,⟨⟩⟩ hc
  simp only at hc
  refine zq (fun _=>?_) (fun _=>?_)
  ·exact zvJ (zAk h hp (m:=m) hc rfl) fun x hx=>⟨hx.1,by rw [hx.2];exact zvR hm p rfl⟩
  ·exact zvJ (zAk h hp (m:=m) hc rfl) fun x hx=>⟨hx.1,by rw [hx.2];exact zvR hm p rfl⟩
def zyZ (n:Fab) (l:List qj):Prop:=∀s∈l,s.2.2.2.1=6∧s.2.2.2.2.1≤n.2.2.2
noncomputable def ziN (n:Fab) (l:List qj):Int:=bif tv (zby n=0) then bif tv (zd6 n.1 l=0) then bif tv (zyZ n l) then 0 else 2 else zd6 n.1 l else zby n
theorem zDu {t:jm} {l:List qj} (h:zd6 t l=0):l.length≤12∧zuM t l∧zrt l:=by
 unfold zd6 at h
 by_cases h1:l.length≤12
 ·by_cases h2:zuM t l
  ·by_cases h3:zrt l
   ·exact ⟨h1,h2,h3⟩
   ·rw [zN h1,zN h2,qu h3] at h;cases h
  ·rw [zN h1,qu h2] at h;cases h
 ·rw [qu h1] at h;cases h
theorem zGS {n:Fab} {l:List qj} (h:ziN n l=0):okP n l:=by
 unfold ziN at h
 by_cases h1:zby n=0
 ·by_cases h2:zd6 n.1 l=0
  ·by_cases h3:zyZ n l
   ·obtain ⟨a,b,c⟩:=zDu h2
    exact ⟨zDg h1,b,a,c,h3⟩
   ·rw [zN h1,zN h2,qu h3] at h;cases h
  ·rw [zN h1,qu h2] at h;exact absurd h h2
 ·rw [qu h1] at h;exact absurd h h1
theorem zFm
      {n:Fab} {s:qj}:qp (bif (!(zj (s.2.2.2.1) (6))) then some ((1:Nat),(((),((2:Int),())),()))
      else bif (zt (n.2.2.2) (s.2.2.2.2.1)) then some (1,(((),(2,())),()))
       else some (0,(((),(0,())),()))) fun x=>(x.1=0∧x.2.1.2.1=0∧s.2.2.2.1=6∧s.2.2.2.2.1≤n.2.2.2)∨(x.1=1∧x.2.1.2.1=2∧¬(s.2.2.2.1=6∧s.2.2.2.2.1≤n.2.2.2)):=by
 refine zq (fun h=>zd (.inr ⟨rfl,rfl,fun hs=>?_⟩)) fun h1=>zq (fun h=>zd (.inr ⟨rfl,rfl,fun hs=>?_⟩)) fun h2=>zd (.inl ⟨rfl,rfl,jg (by simpa using h1),wX h2⟩)
 ·rw [wa hs.1] at h;cases h
 ·have:=yF h;omega
theorem zFn {n:Fab} {l:List qj} (h12:l.length≤12) {B:((Unit×(Int×(Int×Unit)))×Unit)→Option ((Nat×((Unit×(Int×(Int×Unit)))×Unit)) ⊕ ((Unit×(Int×(Int×Unit)))×Unit))}
  (hB :
     B=fun s4=>bif (zt (s4.1.2.2.1) ((((l).length:Nat):Int))) then opt (atI (l) (s4.1.2.2.1)) fun x5=>
     opt (bif (!(zj (x5.2.2.2.1) (6))) then some (1,(((),(2,())),()))
      else bif (zt (n.2.2.2) (x5.2.2.2.2.1)) then some (1,(((),(2,())),()))
       else some (0,(((),(s4.1.2.1,())),()))) fun x6=>
     bif (Nat.beq x6.1 0) then some (.inr (((),(x6.2.1.2.1,((wrF .i64 ((s4.1.2.2.1+1))),()))),()))
     else some (.inl (1,(((),(x6.2.1.2.1,(s4.1.2.2.1,()))),())))
    else some (.inl (0,(((),(s4.1.2.1,(s4.1.2.2.1,()))),())))) :
  qp (qd B qC (((),(0,(0,()))),())) fun x=>(x.1=0∧x.2.1.2.1=0∧zyZ n l)∨(x.1=1∧x.2.1.2.1=2∧¬zyZ n l):=by
 subst hB
 refine qz l.length (fun i st=>st=(((),(0,((i:Int),()))),())∧∀(k:Nat),k < i→∀s,l[k]?=some s→s.2.2.2.1=6∧s.2.2.2.2.1≤n.2.2.2) (by omega) ⟨rfl,fun k hk=>by omega⟩ ?_ ?_
 ·rintro i _ hi ⟨rfl,hp⟩
  have hx:l[i]?=some l[i]:=List.getElem?_eq_getElem hi
  have hm:=List.getElem_mem hi
  generalize l[i]=s at hx hm
  refine zh (qx (show (i:Int) < (l.length:Int) by omega)) (zo (zP (n:=i) hx (zn zFm ?_)))
  rintro ⟨j,⟨⟨⟩,v,⟨⟩⟩,⟨⟩⟩ (⟨rfl,rfl,hq⟩ | ⟨rfl,rfl,hq⟩)
  ·refine zh rfl (zd (qR ⟨congrArg (fun z=>(((),((0:Int),(z,()))),())) (qQ (by omega)),fun k hk r' hr'=>?_⟩))
   rcases Nat.lt_or_ge k i with h1 | h1
   ·exact hp k h1 r' hr'
   ·have:k=i:=by omega
    subst this
    rw [hx] at hr';cases hr';exact hq
  ·exact zg rfl (zd (zE (.inr ⟨rfl,rfl,fun h=>hq (h s hm)⟩)))
 ·rintro _ ⟨rfl,hp⟩
  refine zg (qa (show ¬(l.length:Int) < (l.length:Int) by omega)) (zd (zE (.inl ⟨rfl,rfl,fun r hr=>?_⟩)))
  obtain ⟨k,hk,hk2⟩:=gS hr
  exact hp k hk r hk2
theorem zBS {n:Fab} {l:List qj} (h:okP n l) {p:Int} (hp:QZ n.1 p) :
  (∃b v,(wJ n l p)=(zBR b v,0)∧vQ b∧zpg v∧b.2≤v.1∧load l p≠[]∧b=xb (load l p))∨((wJ n l p).1=zB∧(wJ n l p).2≠0):=by
 obtain ⟨g,hx,hge,hg,p0,p1⟩:=zom h.f hp
 obtain ⟨o1,o3⟩:=zBQ hg p0 p1 h.f.f.2.1 h.f.f.2.2
 unfold wJ
 rw [hge]
 by_cases hne:load l p=[]
 ·rw [zN hne];exact .inr ⟨rfl,by show (4:Int)≠0;decide⟩
 rw [qu hne,cond_false]
 rcases o3 with ⟨o4,o5⟩ | ⟨o4,o5⟩
 ·rw [o4,zN rfl,cond_true]
  unfold Ux
  by_cases hb:vQ (xb (load l p))
  ·rw [zN hb,cond_true,zN rfl,cond_true]
   by_cases hle:(xb (load l p)).2≤(ofS g (lnk n.1 p).2.2.1 n.2.2.2).1.1
   ·rw [zN hle];exact .inl ⟨_,_,rfl,hb,o5,hle,hne,rfl⟩
   ·rw [qu hle];exact .inr ⟨rfl,by show (141:Int)≠0;decide⟩
  ·rw [qu hb,cond_false,qu (by simp)];exact .inr ⟨rfl,by show (6:Int)≠0;decide⟩
 ·rw [o4,qu (by simp)];exact .inr ⟨rfl,by show (411:Int)≠0;decide⟩
theorem zHM {n:Fab} {l:List qj} (h:okP n l) {p:Int} (hp:QZ n.1 p):0≤(wJ n l p).1.2.2.1∧(wJ n l p).1.2.2.1≤1099780063233:=by
 rcases zBS h hp with ⟨b,v,e,hb,hv,_⟩ | ⟨e,_⟩
 ·rw [e]
  have hd:=zyY hb hv.ok
  have h1:=hv.2.2.1;have h2:=hv.2.2.2
  show 0≤v.2+cl v.1 (b.1*1048576)∧v.2+cl v.1 (b.1*1048576)≤_
  omega
 ·rw [e];exact ⟨Int.le_refl _,by show (0:Int)≤_;decide⟩
noncomputable def zgw (n:Fab) (l:List qj):List Int→Int→Int×Int
 |[],s=>(s,0)
 |p::r,s=>bif tv ((wJ n l p).2=0) then zgw n l r (s+((wJ n l p).1.2.2.1+(lnk n.1 p).2.2.2+n.2.1.2.2.1)) else (0,(wJ n l p).2)
noncomputable def XP (n:Fab) (l:List qj) (r:List Int):Int×Int:=zgw n l r 0
theorem zDv {n:Fab} (h:zok n) {p:Int} (hp:QZ n.1 p):0≤(lnk n.1 p).2.2.2∧(lnk n.1 p).2.2.2≤10000:=by
 have hl:=(h.t.ls _ _ (zd5 hp)).1
 exact ⟨hl.2.2.2.2.2.2.1,hl.2.2.2.2.2.2.2⟩
noncomputable def zFY (n:Fab) (l:List qj) (m:za1) (r:List Int):Option (Nat×((Int×(Int×(Int×(Int×Unit))))×(za1×Unit))):=
 qd (fun s32:((Int×(Int×(Int×(Int×Unit))))×((List (Int×(((Int×Int)×((Int×Int)×(Int×Int)))×Int)))×Unit))=>
          bif (zt (s32.1.2.2.2.1) ((((r).length:Nat):Int))) then opt (atI (r) (s32.1.2.2.2.1)) fun x33=>
           opt (bif (!(mpH (α:=(((Int×Int)×((Int×Int)×(Int×Int)))×Int)) (s32.2.1) (x33))) then opt (qd (fun s34:((Int×Unit)×(((List (Int×Int))×Unit)×(Unit×(Unit×Unit))))=>
              bif (zt (s34.1.1) ((((l).length:Nat):Int))) then opt (atI (l) (s34.1.1)) fun x35=>
               opt (qd (fun s36:((Int×(Int×Unit))×(((List (Int×Int))×Unit)×(Unit×(Unit×Unit))))=>
                bif (zt (s36.1.2.1) ((((x35.2.2.2.2.2.2.2.2).length:Nat):Int))) then opt (atI (x35.2.2.2.2.2.2.2.2) (s36.1.2.1)) fun x37=>
                 opt (jG ((x37,(x33,())))) fun x38=>
                 bif x38.1 then some (.inl (1,((s36.1.2.1,(s36.1.2.1,())),((s36.2.1.1,()),((),((),()))))))
                 else some (.inr ((s36.1.1,((wrF .i64 ((s36.1.2.1+1))),())),((s36.2.1.1,()),((),((),())))))
                else some (.inl (0,((s36.1.1,(s36.1.2.1,())),((s36.2.1.1,()),((),((),()))))))) qC ((0,(0,())),((s34.2.1.1,()),((),((),()))))) fun x39=>
               bif (Nat.beq x39.1 0) then some (.inr (((wrF .i64 ((s34.1.1+1))),()),((x39.2.2.1.1,()),((),((),())))))
               else bif (!(zt (x39.2.1.1) (0))) then bif (xE ((x39.2.2.1.1).length) (((x35.2.2.2.2.2.2.1::[])).length) (16)) then some (.inr (((wrF .i64 ((s34.1.1+1))),()),(((x39.2.2.1.1++(x35.2.2.2.2.2.2.1::[])),()),((),((),())))))
                 else none
                else some (.inr (((wrF .i64 ((s34.1.1+1))),()),((x39.2.2.1.1,()),((),((),())))))
              else some (.inl (0,((s34.1.1,()),((s34.2.1.1,()),((),((),()))))))) qC ((0,()),(([],()),((),((),()))))) fun x40=>
             bif (Nat.beq x40.1 0) then bif (zj ((((x40.2.2.1.1).length:Nat):Int)) (0)) then some (0,(((((0,0),((0,0),(0,0))),4),()),((mpP (α:=(((Int×Int)×((Int×Int)×(Int×Int)))×Int)) (s32.2.1) (x33) ((((0,0),((0,0),(0,0))),4))),())))
              else opt (Zi ((n.1,(x33,())))) fun x41=>
               bif (!(zj (x41.2.1) (0))) then some (0,(((((0,0),((0,0),(0,0))),x41.2.1),()),((mpP (α:=(((Int×Int)×((Int×Int)×(Int×Int)))×Int)) (s32.2.1) (x33) ((((0,0),((0,0),(0,0))),x41.2.1))),())))
               else opt (atI (n.2.2.1) (x33)) fun x42=>
                opt (xY ((x42,(x41.1,(n.2.2.2,()))))) fun x43=>
                bif (!(zj (x43.2.1) (0))) then some (0,(((((0,0),((0,0),(0,0))),411),()),((mpP (α:=(((Int×Int)×((Int×Int)×(Int×Int)))×Int)) (s32.2.1) (x33) ((((0,0),((0,0),(0,0))),411))),())))
                else opt (uQ ((x40.2.2.1.1,()))) fun x44=>
                 bif (!(zj (x44.2.1) (0))) then some (0,(((((0,0),((0,0),(0,0))),x44.2.1),()),((mpP (α:=(((Int×Int)×((Int×Int)×(Int×Int)))×Int)) (s32.2.1) (x33) ((((0,0),((0,0),(0,0))),x44.2.1))),())))
                 else opt (vX (((x44.1::[]),(x43.1,())))) fun x45=>
                  bif (!(zj (x45.2.1) (0))) then some (0,(((((0,0),((0,0),(0,0))),x45.2.1),()),((mpP (α:=(((Int×Int)×((Int×Int)×(Int×Int)))×Int)) (s32.2.1) (x33) ((((0,0),((0,0),(0,0))),x45.2.1))),())))
                  else opt (xZ ((x44.1,(x43.1,())))) fun x46=>
                   bif (!(zj (x46.2.1) (0))) then some (0,(((((0,0),((0,0),(0,0))),x46.2.1),()),((mpP (α:=(((Int×Int)×((Int×Int)×(Int×Int)))×Int)) (s32.2.1) (x33) ((((0,0),((0,0),(0,0))),x46.2.1))),())))
                   else some (0,((((x44.1,(x43.1,(x45.1,x46.1))),0),()),((mpP (α:=(((Int×Int)×((Int×Int)×(Int×Int)))×Int)) (s32.2.1) (x33) (((x44.1,(x43.1,(x45.1,x46.1))),0))),())))
             else bif (zj ((((x40.2.2.1.1).length:Nat):Int)) (0)) then some (0,(((((0,0),((0,0),(0,0))),4),()),((mpP (α:=(((Int×Int)×((Int×Int)×(Int×Int)))×Int)) (s32.2.1) (x33) ((((0,0),((0,0),(0,0))),4))),())))
              else opt (Zi ((n.1,(x33,())))) fun x47=>
               bif (!(zj (x47.2.1) (0))) then some (0,(((((0,0),((0,0),(0,0))),x47.2.1),()),((mpP (α:=(((Int×Int)×((Int×Int)×(Int×Int)))×Int)) (s32.2.1) (x33) ((((0,0),((0,0),(0,0))),x47.2.1))),())))
               else opt (atI (n.2.2.1) (x33)) fun x48=>
                opt (xY ((x48,(x47.1,(n.2.2.2,()))))) fun x49=>
                bif (!(zj (x49.2.1) (0))) then some (0,(((((0,0),((0,0),(0,0))),411),()),((mpP (α:=(((Int×Int)×((Int×Int)×(Int×Int)))×Int)) (s32.2.1) (x33) ((((0,0),((0,0),(0,0))),411))),())))
                else opt (uQ ((x40.2.2.1.1,()))) fun x50=>
                 bif (!(zj (x50.2.1) (0))) then some (0,(((((0,0),((0,0),(0,0))),x50.2.1),()),((mpP (α:=(((Int×Int)×((Int×Int)×(Int×Int)))×Int)) (s32.2.1) (x33) ((((0,0),((0,0),(0,0))),x50.2.1))),())))
                 else opt (vX (((x50.1::[]),(x49.1,())))) fun x51=>
                  bif (!(zj (x51.2.1) (0))) then some (0,(((((0,0),((0,0),(0,0))),x51.2.1),()),((mpP (α:=(((Int×Int)×((Int×Int)×(Int×Int)))×Int)) (s32.2.1) (x33) ((((0,0),((0,0),(0,0))),x51.2.1))),())))
                  else opt (xZ ((x50.1,(x49.1,())))) fun x52=>
                   bif (!(zj (x52.2.1) (0))) then some (0,(((((0,0),((0,0),(0,0))),x52.2.1),()),((mpP (α:=(((Int×Int)×((Int×Int)×(Int×Int)))×Int)) (s32.2.1) (x33) ((((0,0),((0,0),(0,0))),x52.2.1))),())))
                   else some (0,((((x50.1,(x49.1,(x51.1,x52.1))),0),()),((mpP (α:=(((Int×Int)×((Int×Int)×(Int×Int)))×Int)) (s32.2.1) (x33) (((x50.1,(x49.1,(x51.1,x52.1))),0))),())))
            else some (0,(((mpD (α:=(((Int×Int)×((Int×Int)×(Int×Int)))×Int)) (s32.2.1) (x33) ((((0,0),((0,0),(0,0))),0))),()),(s32.2.1,())))) fun x53=>
           bif (!(zj (x53.2.1.1.2) (0))) then some (.inl (1,((0,(x53.2.1.1.2,(s32.1.2.2.1,(s32.1.2.2.2.1,())))),(x53.2.2.1,()))))
           else opt (WU ((n.1,(x33,())))) fun x54=>
            bif (!(zj (x54.2.1) (0))) then some (.inl (1,((0,(x54.2.1,(s32.1.2.2.1,(s32.1.2.2.2.1,())))),(x53.2.2.1,()))))
            else some (.inr ((s32.1.1,(s32.1.2.1,((wrF .i64 ((s32.1.2.2.1+(wrF .i64 (((wrF .i64 ((x53.2.1.1.1.2.2.1+x54.1)))+n.2.1.2.2.1)))))),((wrF .i64 ((s32.1.2.2.2.1+1))),())))),(x53.2.2.1,())))
          else some (.inl (0,((s32.1.1,(s32.1.2.1,(s32.1.2.2.1,(s32.1.2.2.2.1,())))),(s32.2.1,()))))) qC ((0,(0,(0,(0,())))),(m,()))
theorem zGT {n:Fab} {l:List qj} (h:okP n l) {r:List Int} (hr:xm n.1 r) {m:za1} (hm:ZN n l m) :
  qp (zFY n l m r) fun x=>ZN n l x.2.2.1∧((x.1=0∧x.2.1.2.2.1=(XP n l r).1∧(XP n l r).2=0)∨(x.1=1∧x.2.1.1=0∧x.2.1.2.1=(XP n l r).2∧(XP n l r).2≠0∧(XP n l r).1=0)):=by
 have r8:=hr.n1
 have hu:=h.f.u.2.2.1
 unfold zFY
 refine qz r.length (fun i st=>∃s m',st=((0,(0,(s,((i:Int),())))),(m',()))∧ZN n l m'∧XP n l r=zgw n l (r.drop i) s∧0≤s∧s≤1099780083233*(i:Int)) (by omega) ⟨0,m,rfl,hm,rfl,Int.le_refl _,by omega⟩ ?_ ?_
 ·rintro i _ hi ⟨s,m',rfl,hk,ht,s0,s1⟩
  have hx:r[i]?=some r[i]:=List.getElem?_eq_getElem hi
  have hpt:=hr.pt _ (List.getElem_mem hi)
  have hdr:r.drop i=r[i]::r.drop (i+1):=List.drop_eq_getElem_cons hi
  generalize r[i]=p at hx hpt hdr
  have hb:=zHM h hpt
  have hd:=zDv h.f hpt
  rw [hdr] at ht
  unfold zgw at ht
  refine zh (qx (show (i:Int) < (r.length:Int) by omega)) (zo (zP (n:=i) hx (zn (zDt h hpt hk) ?_)))
  rintro ⟨j,⟨v,⟨⟩⟩,c,⟨⟩⟩ ⟨hv,hk2⟩
  simp only at hv hk2
  subst hv
  by_cases he:(wJ n l p).2=0
  ·rw [zN he,cond_true] at ht
   refine zg (show (!zj (wJ n l p).2 0)=false by rw [he];rfl) ?_
   rw [zuK h.f.t hpt,zF]
   refine zg rfl (zd (qR ⟨_,c,?_,hk2,ht,by omega,by omega⟩))
   show ((0,(0,((wrF .i64 (s+(wrF .i64 ((wrF .i64 ((wJ n l p).1.2.2.1+(lnk n.1 p).2.2.2))+n.2.1.2.2.1)))),((wrF .i64 ((i:Int)+1)),())))),(c,()))=_
   rw [qQ (by omega),qU (z:=(wJ n l p).1.2.2.1+(lnk n.1 p).2.2.2) (by omega) (by omega),qU (z:=(wJ n l p).1.2.2.1+(lnk n.1 p).2.2.2+n.2.1.2.2.1) (by omega) (by omega),qU (by omega) (by omega)]
  ·rw [qu he,cond_false] at ht
   refine zh (show (!zj (wJ n l p).2 0)=true by rw [ji he];rfl) (zd (zE ⟨hk2,.inr ⟨rfl,rfl,?_,?_,?_⟩⟩))
   ·rw [ht]
   ·rw [ht];exact he
   ·rw [ht]
 ·rintro _ ⟨s,m',rfl,hk,ht,s0,s1⟩
  rw [List.drop_length] at ht
  refine zg (qa (show ¬(r.length:Int) < (r.length:Int) by omega)) (zd (zE ⟨hk,.inl ⟨rfl,?_,?_⟩⟩))
  ·rw [ht];rfl
  ·rw [ht];rfl
noncomputable def zfE (l:List qj) (id:Int):Int×Int:=match xO (l,id,()) with
 |some (v,e,())=>(v,e)
 |none=>(0,0)
theorem zy0 {l:List qj} (hn:l.length≤1000000000000000000) (id:Int):xO (l,id,())=some ((zfE l id).1,(zfE l id).2,())∧(((zfE l id).2=0∧∃(i:Nat) (s:qj),(zfE l id).1=(i:Int)∧l[i]?=some s∧s.1=id∧∀(k:Nat) b,k < i→l[k]?=some b→b.1≠id)∨((zfE l id).2=4∧(zfE l id).1=0∧∀s∈l,s.1≠id)):=by
 obtain ⟨v,e,h1,h3⟩:=zGK hn id
 have e1:zfE l id=(v,e):=by unfold zfE;rw [h1]
 rw [e1]
 exact ⟨h1,h3⟩
def kg {α:Type} (f:α→Int):List α→Int
 |[]=>0
 |x::l=>if f x=0 then kg f l else f x
theorem Xx {α:Type} {f:α→Int}:∀{l:List α},kg f l=0↔∀x∈l,f x=0
 |[]=>by simp [kg]
 |x::l=>by
  unfold kg
  split
  ·rename_i h
   rw [Xx];simp [h]
  ·rename_i h
   simp [h]
theorem ziO {α:Type} {f:α→Int}:∀{l:List α} {i:Nat} {x:α},l[i]?=some x→(∀(k:Nat) y,k < i→l[k]?=some y→f y=0)→f x≠0→kg f l=f x
 |[],i,x,h,_,_=>by simp at h
 |a::l,0,x,h,_,hx=>by
  simp at h;subst h
  unfold kg;rw [if_neg hx]
 |a::l,i+1,x,h,hk,hx=>by
  unfold kg
  rw [if_pos (hk 0 a (by omega) rfl)]
  exact ziO (l:=l) (i:=i) (by simpa using h) (fun k y hk' hy=>hk (k+1) y (by omega) (by simpa using hy)) hx
noncomputable def JL (n:Fab) (l:List qj) (p:Nat):Int:=bif tv ((wJ n l p).2=4) then 0 else bif tv ((wJ n l p).2=0) then bif tv (n.2.1.2.2.2 < (wJ n l p).1.2.2.2) then 7 else 0 else (wJ n l p).2
noncomputable def ze7 (n:Fab) (l:List qj) (s:qj) (r:List Int):Int:=bif tv ((XP n l r).2=0) then bif tv (s.2.2.2.2.2.2.2.1 < (XP n l r).1) then 412 else 0 else (XP n l r).2
noncomputable def zfF (n:Fab) (l:List qj) (s:qj):Int:=kg (ze7 n l s) s.2.2.2.2.2.2.2.2
noncomputable def xc (n:Fab) (l:List qj):Int:=
 bif tv (ziN n l=0) then bif tv (kg (JL n l) (List.range n.2.2.1.length)=0) then kg (zfF n l) l else kg (JL n l) (List.range n.2.2.1.length) else ziN n l
theorem zAl {n:Fab} (h:zok n) {i:Nat} (hi:i < n.2.2.1.length):QZ n.1 (i:Int):=⟨by omega,by have:=h.f.1;omega⟩
theorem UR {n:Fab} (hn:n.2.2.1.length≤1000000000000000000) (l:List qj):vr (n,l,())=some (xc n l,()):=by
 rw [zrg];unfold zfq xc ziN
 rw [zbU hn,zF]
 by_cases h1:zby n=0
 rotate_left
 ·rw [qu h1,cond_false]
  refine gr (zh (show (!zj (zby n) 0)=true by rw [ji h1];rfl) (zh (show (!zj (zby n) 0)=true by rw [ji h1];rfl) (zd ?_)))
  rw [qu h1];rfl
 have hf:=zDg h1
 refine gr (zg (show (!zj (zby n) 0)=false by rw [h1];rfl) ?_)
 rw [zmH hf.t,zF,zN h1,cond_true]
 by_cases h2:zd6 n.1 l=0
 rotate_left
 ·rw [qu h2,cond_false]
  refine zh (show (!zj (zd6 n.1 l) 0)=true by rw [ji h2];rfl) (zh (show (!zj (zd6 n.1 l) 0)=true by rw [ji h2];rfl) (zd ?_))
  rw [qu h2];rfl
 obtain ⟨h12,ha,hd⟩:=zDu h2
 refine zg (show (!zj (zd6 n.1 l) 0)=false by rw [h2];rfl) (zn (zFn (n:=n) h12 rfl) ?_)
 rw [zN h2,cond_true]
 rintro ⟨j,⟨⟨⟩,v,w,⟨⟩⟩,⟨⟩⟩ (⟨rfl,rfl,hc⟩ | ⟨rfl,rfl,hc⟩)
 rotate_left
 ·rw [qu hc,cond_false,qu (by simp)]
  exact zg rfl (zh rfl (zd rfl))
 rw [zN hc,cond_true,zN rfl,cond_true]
 have ok:okP n l:=⟨hf,ha,h12,hd,hc⟩
 have hfg:=ok.f.f.1
 have hls:=ok.f.t.sz.ls
 refine zh rfl (zn (J:=fun x=>ZN n l x.2.2.1∧x.2.1.1=kg (JL n l) (List.range n.2.2.1.length)) (qz n.2.2.1.length (fun i st=>∃m,st=((0,((i:Int),())),(m,()))∧ZN n l m∧∀(k:Nat),k < i→JL n l k=0) (by omega) ⟨[],rfl,zDs n l,fun k hk=>by omega⟩ ?_ ?_) ?_)
 ·rintro i _ hi ⟨m,rfl,hm,hp⟩
  have hpt:=zAl ok.f hi
  have at_:JL n l i≠0→kg (JL n l) (List.range n.2.2.1.length)=JL n l i:=fun hne=>ziO (i:=i) (by simp [hi]) (fun k y hk hy=>by
   rw [List.getElem?_range (by omega)] at hy;cases hy;exact hp k hk) hne
  have go:JL n l i=0→∀c,ZN n l c→qp (some (Sum.inr (((0:Int),((wrF .i64 ((i:Int)+1)),())),(c,())):(Nat×((Int×(Int×Unit))×(za1×Unit))) ⊕ ((Int×(Int×Unit))×(za1×Unit)))) (Nxt (fun x=>ZN n l x.2.2.1∧x.2.1.1=kg (JL n l) (List.range n.2.2.1.length)) fun st=>∃m,st=((0,(((i+1:Nat):Int),())),(m,()))∧ZN n l m∧∀(k:Nat),k < i+1→JL n l k=0):=fun h0 c hk=>by
   refine zd (qR ⟨c,congrArg (fun z=>((0,(z,())),(c,()))) (qQ (by omega)),hk,fun k hk'=>?_⟩)
   rcases Nat.lt_or_ge k i with h | h
   ·exact hp k h
   ·have:k=i:=by omega
    rw [this];exact h0
  refine zh (qx (show (i:Int) < (n.2.2.1.length:Int) by omega)) (zn (zDt ok hpt hm) ?_)
  rintro ⟨j,⟨v,⟨⟩⟩,c,⟨⟩⟩ ⟨hv,hk⟩
  simp only at hv hk
  subst hv
  unfold JL at at_ go
  by_cases h4:(wJ n l (i:Int)).2=4
  ·rw [zN h4] at go
   exact zh (wa h4) (go rfl c hk)
  rw [qu h4,cond_false] at at_ go
  refine zg (ji h4) ?_
  by_cases h0:(wJ n l (i:Int)).2=0
  ·rw [zN h0,cond_true] at at_ go
   refine zg (show (!zj (wJ n l (i:Int)).2 0)=false by rw [h0];rfl) ?_
   by_cases hcc:n.2.1.2.2.2 < (wJ n l (i:Int)).1.2.2.2
   ·rw [zN hcc,cond_true] at at_
    exact zh (qx hcc) (zd (zE ⟨hk,(at_ (by decide)).symm⟩))
   ·rw [qu hcc] at go
    exact zg (qa hcc) (go rfl c hk)
  ·rw [qu h0,cond_false] at at_
   exact zh (show (!zj (wJ n l (i:Int)).2 0)=true by rw [ji h0];rfl) (zd (zE ⟨hk,(at_ h0).symm⟩))
 ·rintro _ ⟨m,rfl,hm,hp⟩
  exact zg (qa (show ¬(n.2.2.1.length:Int) < (n.2.2.1.length:Int) by omega)) (zd (zE ⟨hm,(Xx.2 fun x hx=>hp x (List.mem_range.1 hx)).symm⟩))
 rintro ⟨j,⟨v,w,⟨⟩⟩,c,⟨⟩⟩ ⟨hk,hv⟩
 simp only at hk hv
 subst hv
 by_cases h0:kg (JL n l) (List.range n.2.2.1.length)=0
 rotate_left
 ·rw [qu h0]
  exact zh (show (!zj (kg (JL n l) (List.range n.2.2.1.length)) 0)=true by rw [ji h0];rfl) (zd rfl)
 rw [zN h0,cond_true]
 refine zg (show (!zj (kg (JL n l) (List.range n.2.2.1.length)) 0)=false by rw [h0];rfl) ?_
 refine zn (J:=fun x=>(x.1=0∧kg (zfF n l) l=0)∨(x.1=1∧x.2.1.1=kg (zfF n l) l∧kg (zfF n l) l≠0)) (qz l.length (fun i st=>∃m,st=((0,((i:Int),())),(m,()))∧ZN n l m∧∀(k:Nat),k < i→∀s,l[k]?=some s→zfF n l s=0) (by omega) ⟨c,rfl,hk,fun k hk=>by omega⟩ ?_ ?_) ?_
 ·rintro i _ hi ⟨m,rfl,hm,hp⟩
  have hx:l[i]?=some l[i]:=List.getElem?_eq_getElem hi
  have hmm:=List.getElem_mem hi
  generalize l[i]=s at hx hmm
  have hs:=ok.a s hmm
  have rn:=hs.rn
  have at_:zfF n l s≠0→kg (zfF n l) l=zfF n l s:=fun hne=>ziO hx (fun k y hk hy=>hp k hk y hy) hne
  refine zh (qx (show (i:Int) < (l.length:Int) by omega)) (zo (zP (n:=i) hx ?_))
  refine zn (J:=fun x=>ZN n l x.2.2.1∧((x.1=0∧x.2.1.1=0∧zfF n l s=0)∨(x.1=1∧x.2.1.1=zfF n l s∧zfF n l s≠0))) (qz s.2.2.2.2.2.2.2.2.length (fun k st=>∃m,st=((0,((k:Int),())),(m,()))∧ZN n l m∧∀(k':Nat),k' < k→∀r,s.2.2.2.2.2.2.2.2[k']?=some r→ze7 n l s r=0) (by omega) ⟨m,rfl,hm,fun k hk=>by omega⟩ ?_ ?_) ?_
  ·rintro k _ hk ⟨m,rfl,hm,hpk⟩
   have hy:s.2.2.2.2.2.2.2.2[k]?=some s.2.2.2.2.2.2.2.2[k]:=List.getElem?_eq_getElem hk
   have hmr:=List.getElem_mem hk
   generalize s.2.2.2.2.2.2.2.2[k]=r at hy hmr
   have atr:ze7 n l s r≠0→zfF n l s=ze7 n l s r:=fun hne=>ziO hy (fun k' y hk hy=>hpk k' hk y hy) hne
   refine zh (qx (show (k:Int) < (s.2.2.2.2.2.2.2.2.length:Int) by omega)) (zo (zP (n:=k) hy (zn (zGT ok (hs.rt r hmr).1 hm) ?_)))
   unfold ze7 at atr
   rintro ⟨j,⟨a1,a2,a3,a4,⟨⟩⟩,c,⟨⟩⟩ ⟨hkc,⟨rfl,h1,h2⟩ | ⟨rfl,h1,h2,h3,h4⟩⟩
   ·simp only at h1 hkc
    subst h1
    rw [zN h2,cond_true] at atr
    refine zh rfl ?_
    by_cases hcc:s.2.2.2.2.2.2.2.1 < (XP n l r).1
    ·rw [zN hcc,cond_true] at atr
     exact zh (qx hcc) (zd (zE ⟨hkc,.inr ⟨rfl,(atr (by decide)).symm,by rw [atr (by decide)];decide⟩⟩))
    ·refine zg (qa hcc) (zd (qR ⟨c,congrArg (fun z=>(((0:Int),(z,())),(c,()))) (qQ (by omega)),hkc,fun k' hk' r' hr'=>?_⟩))
     rcases Nat.lt_or_ge k' k with h | h
     ·exact hpk k' h r' hr'
     ·have:k'=k:=by omega
      subst this
      rw [hy] at hr';cases hr'
      unfold ze7;rw [zN h2,qu hcc];rfl
   ·simp only at h1 h2 hkc
    subst h1 h2
    rw [qu h3,cond_false] at atr
    exact zg rfl (zh (show (!zj (XP n l r).2 0)=true by rw [ji h3];rfl) (zd (zE ⟨hkc,.inr ⟨rfl,(atr h3).symm,by rw [atr h3];exact h3⟩⟩)))
  ·rintro _ ⟨m,rfl,hm,hpk⟩
   refine zg (qa (show ¬(s.2.2.2.2.2.2.2.2.length:Int) < (s.2.2.2.2.2.2.2.2.length:Int) by omega)) (zd (zE ⟨hm,.inl ⟨rfl,rfl,Xx.2 fun r hr=>?_⟩⟩))
   obtain ⟨k,hk,hk2⟩:=gS hr
   exact hpk k hk r hk2
  ·rintro ⟨j,⟨v,w,⟨⟩⟩,c,⟨⟩⟩ ⟨hkc,⟨rfl,h1,hq⟩ | ⟨rfl,h1,hq⟩⟩
   ·simp only at h1 hkc
    subst h1
    refine zh rfl (zd (qR ⟨c,congrArg (fun z=>(((0:Int),(z,())),(c,()))) (qQ (by omega)),hkc,fun k' hk' s' hs'=>?_⟩))
    rcases Nat.lt_or_ge k' i with h | h
    ·exact hp k' h s' hs'
    ·have:k'=i:=by omega
     subst this
     rw [hx] at hs';cases hs';exact hq
   ·simp only at h1
    subst h1
    exact zg rfl (zd (zE (.inr ⟨rfl,(at_ hq).symm,by rw [at_ hq];exact hq⟩)))
 ·rintro _ ⟨m,rfl,hm,hp⟩
  refine zg (qa (show ¬(l.length:Int) < (l.length:Int) by omega)) (zd (zE (.inl ⟨rfl,Xx.2 fun s hs=>?_⟩)))
  obtain ⟨k,hk,hk2⟩:=gS hs
  exact hp k hk s hk2
 ·rintro ⟨j,⟨v,w,⟨⟩⟩,c,⟨⟩⟩ (⟨rfl,hq⟩ | ⟨rfl,h1,hq⟩)
  ·rw [hq];exact zh rfl (zd rfl)
  ·exact zg rfl (zd h1)
theorem zhQ {n:Fab} {l:List qj} (h:xc n l=0):okP n l:=by
 unfold xc at h
 by_cases h1:ziN n l=0
 ·exact zGS h1
 ·rw [qu h1] at h;exact absurd h h1
noncomputable def gT (n:Fab) (l:List qj) (s:qj):List qj×Int:=
 bif tv (xc n l=0) then bif tv (Un n.1 s) then bif tv (xc n (l++[s])=0) then (l++[s],0) else ([],xc n (l++[s])) else ([],321) else ([],xc n l)
theorem ziP {n:Fab} (hn:n.2.2.1.length≤1000000000000000000) (l:List qj) (s:qj):uV (n,l,s,())=some ((gT n l s).1,(gT n l s).2,()):=by
 rw [zrh];unfold zfr gT
 rw [UR hn,zF]
 by_cases h:xc n l=0
 rotate_left
 ·rw [qu h,ji h];rfl
 have ok:=zhQ h
 have h12:=ok.n12
 rw [zN h,h,cond_true,show (!zj 0 0)=false from rfl,cond_false,zru ok.f.t,zF]
 by_cases hs:Un n.1 s
 rotate_left
 ·rw [qu hs];rfl
 rw [zN hs,cond_true,cond_true,show (!zj 0 0)=false from rfl,cond_false,zyL,zF]
 refine xd (zh (QR (by show (l.length+1)*96≤_;omega) (by show l.length+1≤_;omega)) ?_)
 rw [UR hn,zF]
 by_cases h2:xc n (l++[s])=0
 ·rw [zN h2]
  exact zg (show (!zj (xc n (l++[s])) 0)=false by rw [h2];rfl) (zd rfl)
 ·rw [qu h2]
  exact zh (show (!zj (xc n (l++[s])) 0)=true by rw [ji h2];rfl) (zd rfl)
noncomputable def zd9 (n:Fab) (l:List qj) (id:Int):List qj×Int:=
 bif tv (xc n l=0) then bif tv ((zfE l id).2=0) then (l.take (zfE l id).1.toNat++l.drop ((zfE l id).1.toNat+1),0) else ([],(zfE l id).2) else ([],xc n l)
theorem zpN {n:Fab} (hn:n.2.2.1.length≤1000000000000000000) (l:List qj) (id:Int):Zk (n,l,id,())=some ((zd9 n l id).1,(zd9 n l id).2,()):=by
 rw [zod];unfold zcM zd9
 rw [UR hn,zF]
 by_cases h:xc n l=0
 rotate_left
 ·rw [qu h,ji h];rfl
 have ok:=zhQ h
 have h12:=ok.n12
 obtain ⟨i1,i3⟩:=zy0 (l:=l) (by omega) id
 rw [zN h,h,cond_true,show (!zj 0 0)=false from rfl,cond_false,i1,zF]
 rcases i3 with ⟨e0,i,s,ei,hx,_⟩ | ⟨e4,_⟩
 ·have hil:i < l.length:=by grind
  rw [e0,zN rfl,cond_true,ei,show (!zj 0 0)=false from rfl,cond_false,zlB l i (by omega),zF,qQ (by omega),ze4 l (i+1) (by omega),zF,Int.toNat_natCast]
  refine xd (zh (QR (by simp;omega) (by simp;omega)) (zd rfl))
 ·rw [e4,qu (by simp)];rfl
theorem zon (b:Int×Int) (l:List (Int×Int)):xb (b::l)=(b.1+(xb l).1,b.2+(xb l).2):=by
 unfold xb;simp
theorem zFo {a b:List (Int×Int)} (h:a.Sublist b) (hb:∀x∈b,vQ x):(xb a).1≤(xb b).1∧(xb a).2≤(xb b).2:=by
 induction h with
 |slnil=>exact ⟨Int.le_refl _,Int.le_refl _⟩
 |cons x _ ih=>
  obtain ⟨⟨h1,_⟩,h2,_⟩:=hb x (by simp)
  have:=ih fun y hy=>hb y (by simp [hy])
  rw [zon]
  exact ⟨by show _≤x.1+_;omega,by show _≤x.2+_;omega⟩
 |cons_cons x _ ih=>
  have:=ih fun y hy=>hb y (by simp [hy])
  rw [zon,zon]
  exact ⟨by show x.1+_≤x.1+_;omega,by show x.2+_≤x.2+_;omega⟩
theorem zy1 {l m:List qj} (h:l.Sublist m) (p:Int):(load l p).Sublist (load m p):=by
 unfold load;exact (h.filter _).map _
theorem zy2 {l:List qj}:zrt l↔l.Pairwise fun a b=>a.1≠b.1:=by
 rw [List.pairwise_iff_getElem]
 constructor
 ·intro h i j hi hj hij
  exact h j i _ _ hij (List.getElem?_eq_getElem hj) (List.getElem?_eq_getElem hi)
 ·intro h i k a b hki ha hb
  obtain ⟨hi,rfl⟩:=List.getElem?_eq_some_iff.1 ha
  obtain ⟨hk,rfl⟩:=List.getElem?_eq_some_iff.1 hb
  exact h k i hk hi hki
theorem zDw {n:Fab} {l m:List qj} (h:m.Sublist l) (hl:okP n l):okP n m:=
 ⟨hl.f,fun s hs=>hl.a s (h.mem hs),by have:=hl.n12;have:=h.length_le;omega,zy2.2 ((zy2.1 hl.d).sublist h),fun s hs=>hl.c s (h.mem hs)⟩
theorem zGU {n:Fab} (h:zok n):zby n=0:=by
 unfold zby;rw [zN h.t,zN h.u,zN h.g,zN h.f];rfl
theorem zy3 {n:Fab} {l:List qj} (h:okP n l):ziN n l=0:=by
 have e:zd6 n.1 l=0:=by unfold zd6;rw [zN h.n12,zN h.a,zN h.d];rfl
 unfold ziN
 rw [zN (zGU h.f),zN e,zN (show zyZ n l from h.c)];rfl
theorem zoo {n:Fab} {l:List qj}:xc n l=0↔okP n l∧(∀p < n.2.2.1.length,JL n l p=0)∧∀s∈l,∀r∈s.2.2.2.2.2.2.2.2,ze7 n l s r=0:=by
 constructor
 ·intro h
  have ho:=zhQ h
  unfold xc at h
  rw [zN (zy3 ho),cond_true] at h
  by_cases h1:kg (JL n l) (List.range n.2.2.1.length)=0
  ·rw [zN h1,cond_true] at h
   exact ⟨ho,fun p hp=>Xx.1 h1 p (List.mem_range.2 hp),fun s hs r hr=>Xx.1 (Xx.1 h s hs) r hr⟩
  ·rw [qu h1,cond_false] at h;exact absurd h h1
 ·rintro ⟨ho,h1,h2⟩
  unfold xc
  rw [zN (zy3 ho),cond_true,zN (Xx.2 fun p hp=>h1 p (List.mem_range.1 hp)),cond_true]
  exact Xx.2 fun s hs=>Xx.2 fun r hr=>h2 s hs r hr
theorem zHN {n:Fab} {l:List qj} {p:Int} (h:(wJ n l p).2=0):∃v,load l p≠[]∧ofS ((n.2.2.1[p.toNat]?).getD ([],0)) (lnk n.1 p).2.2.1 n.2.2.2=(v,0)∧vQ (xb (load l p))∧(xb (load l p)).2≤v.1∧wJ n l p=(zBR (xb (load l p)) v,0):=by
 unfold wJ at h ⊢
 generalize ofS ((n.2.2.1[p.toNat]?).getD ([],0)) (lnk n.1 p).2.2.1 n.2.2.2=o at h ⊢
 obtain ⟨v,e⟩:=o
 by_cases h1:load l p=[]
 ·rw [zN h1,cond_true] at h;cases h
 rw [qu h1,cond_false] at h ⊢
 by_cases h2:e=0
 ·subst h2
  rw [zN rfl,cond_true] at h ⊢
  by_cases h3:vQ (xb (load l p))
  ·have e:Ux (load l p)=(xb (load l p),0):=by unfold Ux;rw [zN h3];rfl
   rw [e,zN rfl,cond_true] at h ⊢
   by_cases h4:(xb (load l p)).2≤v.1
   ·rw [zN h4,cond_true] at h ⊢
    exact ⟨v,h1,rfl,h3,h4,rfl⟩
   ·rw [qu h4,cond_false] at h;cases h
  ·have e:Ux (load l p)=((0,0),6):=by unfold Ux;rw [qu h3];rfl
   rw [e,qu (by decide),cond_false] at h;cases h
 ·rw [qu h2,cond_false] at h;cases h
theorem zHO {n:Fab} {l:List qj} {p:Int} {v:Int×Int} (h1:load l p≠[]) (h2:ofS ((n.2.2.1[p.toNat]?).getD ([],0)) (lnk n.1 p).2.2.1 n.2.2.2=(v,0)) (h3:vQ (xb (load l p))) (h4:(xb (load l p)).2≤v.1):wJ n l p=(zBR (xb (load l p)) v,0):=by
 have e:Ux (load l p)=(xb (load l p),0):=by unfold Ux;rw [zN h3];rfl
 unfold wJ
 rw [h2,e,qu h1,cond_false,zN rfl,cond_true,cond_true,zN h4,cond_true]
theorem zAm {n:Fab} {l m:List qj} (ho:okP n l) (hs:m.Sublist l) {p:Int} (hp:QZ n.1 p) (h:(wJ n l p).2=0) (hm:load m p≠[]) :
  (wJ n m p).2=0∧(wJ n m p).1.2.2.1≤(wJ n l p).1.2.2.1∧(wJ n m p).1.2.2.2≤(wJ n l p).1.2.2.2:=by
 obtain ⟨v,h1,h2,h3,h4,h5⟩:=zHN h
 obtain ⟨lb1,lb2⟩:=zuT ho p
 obtain ⟨mb1,mb2⟩:=zuT (zDw hs ho) p
 obtain ⟨s1,s2⟩:=zFo (zy1 hs p) lb2
 obtain ⟨m1,m2,m3,m4⟩:=zuR mb2
 have m0:1≤(load m p).length:=by
  rcases Nat.eq_zero_or_pos (load m p).length with h0 | h0
  ·exact absurd (List.length_eq_zero_iff.1 h0) hm
  ·exact h0
 obtain ⟨⟨b1,b2⟩,b3,b4⟩:=h3
 obtain ⟨g,hx,hge,hg,p0,p1⟩:=zom ho.f hp
 have hv:zpg v:=by
  obtain ⟨_,o3⟩:=zBQ hg p0 p1 ho.f.f.2.1 ho.f.f.2.2
  rw [hge] at h2
  rw [h2] at o3
  rcases o3 with ⟨_,h⟩ | ⟨h,_⟩
  ·exact h
  ·cases h
 obtain ⟨v1,_,v3,_⟩:=hv
 have em:=zHO (n:=n) (l:=m) (p:=p) hm h2 ⟨⟨by omega,by omega⟩,by omega,by omega⟩ (by omega)
 rw [em,h5]
 refine ⟨rfl,?_,?_⟩
 ·show v.2+cl v.1 ((xb (load m p)).1*1048576)≤v.2+cl v.1 ((xb (load l p)).1*1048576)
  have:=zAj (d:=v.1) (by omega) (show (xb (load m p)).1*1048576≤(xb (load l p)).1*1048576 by omega)
  omega
 ·show (xb (load m p)).1+cl 1048576 ((xb (load m p)).2*v.2)≤(xb (load l p)).1+cl 1048576 ((xb (load l p)).2*v.2)
  have:=zAj (d:=1048576) (by omega) (Int.mul_le_mul_of_nonneg_right s2 v3)
  omega
theorem zvS {n:Fab} {l m:List qj}:∀{r:List Int} {s s':Int},(∀p∈r,(wJ n l p).2=0→(wJ n m p).2=0∧(wJ n m p).1.2.2.1≤(wJ n l p).1.2.2.1)→(zgw n l r s).2=0→s'≤s→(zgw n m r s').2=0∧(zgw n m r s').1≤(zgw n l r s).1
 |[],s,s',_,_,h=>⟨rfl,h⟩
 |p::r,s,s',hp,h,hs=>by
  unfold zgw at h ⊢
  by_cases h1:(wJ n l p).2=0
  ·obtain ⟨h2,h3⟩:=hp p (by simp) h1
   rw [zN h1,cond_true] at h ⊢
   rw [zN h2,cond_true]
   exact zvS (fun q hq=>hp q (by simp [hq])) h (by omega)
  ·rw [qu h1,cond_false] at h;exact absurd h h1
theorem zFp {l:List qj} {s:qj} {r:List Int} {p:Int} (hs:s∈l) (hr:r∈s.2.2.2.2.2.2.2.2) (hp:p∈r):load l p≠[]:=by
 unfold load
 intro h
 have:=List.map_eq_nil_iff.1 h
 have hm:s∈l.filter fun s=>tv (zbV s p):=List.mem_filter.2 ⟨hs,zN ⟨r,hr,hp⟩⟩
 rw [this] at hm;cases hm
theorem zFq (b1 b2 b3:Bool) (x:Bnd):(bif b1 then bif b2 then bif b3 then (x,(0:Int)) else (zB,141) else (zB,6) else (zB,411)).2≠4:=by
 cases b1<;>cases b2<;>cases b3<;>simp
theorem zDx {n:Fab} {l m:List qj} (hs:m.Sublist l) (hl:xc n l=0):xc n m=0:=by
 obtain ⟨ho,h1,h2⟩:=zoo.1 hl
 refine zoo.2 ⟨zDw hs ho,fun p hp=>?_,fun s hsm r hr=>?_⟩
 ·have hpp:=zAl ho.f hp
  by_cases hm:load m (p:Int)=[]
  ·have e:wJ n m (p:Int)=(zB,4):=by unfold wJ;rw [zN hm];rfl
   unfold JL
   rw [e,zN rfl];rfl
  have h3:=h1 p hp
  have h4:(wJ n l (p:Int)).2=0:=by
   by_cases h0:(wJ n l (p:Int)).2=0
   ·exact h0
   ·unfold JL at h3
    by_cases h44:(wJ n l (p:Int)).2=4
    ·exfalso
     unfold wJ at h44
     by_cases hle:load l (p:Int)=[]
     ·have:=(zy1 hs (p:Int)).length_le
      rw [hle] at this
      exact hm (List.length_eq_zero_iff.1 (by simpa using this))
     ·rw [qu hle,cond_false] at h44
      exact absurd h44 (zFq _ _ _ _)
    ·rw [qu h44,cond_false,qu h0,cond_false] at h3;exact h3
  obtain ⟨e1,e2,e3⟩:=zAm ho hs hpp h4 hm
  unfold JL at h3 ⊢
  rw [h4,qu (by decide),cond_false,zN rfl,cond_true] at h3
  rw [e1,qu (by decide),cond_false,zN rfl,cond_true]
  by_cases h5:n.2.1.2.2.2 < (wJ n l (p:Int)).1.2.2.2
  ·rw [zN h5] at h3;cases h3
  ·rw [qu (by omega)];rfl
 ·have hsl:=hs.mem hsm
  have h3:=h2 s hsl r hr
  have hrt:=((ho.a s hsl).rt r hr).1
  unfold ze7 at h3 ⊢
  by_cases h0:(XP n l r).2=0
  ·rw [zN h0,cond_true] at h3
   obtain ⟨e1,e2⟩:=zvS (n:=n) (l:=l) (m:=m) (r:=r) (s:=0) (s':=0) (fun p hp h=>by
    obtain ⟨a,b,_⟩:=zAm ho hs (hrt.pt p hp) h (zFp hsm hr hp)
    exact ⟨a,b⟩) h0 (Int.le_refl _)
   have e1:(XP n m r).2=0:=e1
   have e2:(XP n m r).1≤(XP n l r).1:=e2
   rw [zN e1,cond_true]
   by_cases h5:s.2.2.2.2.2.2.2.1 < (XP n l r).1
   ·rw [zN h5] at h3;cases h3
   ·rw [qu (by omega)];rfl
  ·rw [qu h0,cond_false] at h3;exact absurd h3 h0
end Go.Proofs.YtleloebnggepoaaGreat.sg
namespace Go.Fz.Sy
section
variable {α:Type} (κ:α→Int)
def Srt (l:List α):Prop:=l.Pairwise fun a b=>κ a < κ b
def lo (k:Int) (l:List α):List α:=l.filter fun a=>decide (κ a < k)
def hi (k:Int) (l:List α):List α:=l.filter fun a=>decide (k < κ a)
def ins (x:α) (l:List α):List α:=lo κ (κ x) l++x::hi κ (κ x) l
variable {κ}
theorem zte {k:Int} {l:List α} {x:α}:x∈lo κ k l↔x∈l∧κ x < k:=by unfold lo;simp
theorem zy4 {k:Int} {l:List α} {x:α}:x∈hi κ k l↔x∈l∧k < κ x:=by unfold hi;simp
theorem zgC {x y:α} {l:List α}:y∈ins κ x l↔y=x∨(y∈l∧κ y≠κ x):=by
 unfold ins
 rw [List.mem_append,List.mem_cons,zte,zy4]
 constructor
 ·rintro (⟨h1,h2⟩ | h | ⟨h1,h2⟩)
  ·exact .inr ⟨h1,by omega⟩
  ·exact .inl h
  ·exact .inr ⟨h1,by omega⟩
 ·rintro (h | ⟨h1,h2⟩)
  ·exact .inr (.inl h)
  ·rcases Int.lt_or_lt_of_ne h2 with h | h
   ·exact .inl ⟨h1,h⟩
   ·exact .inr (.inr ⟨h1,h⟩)
theorem zkq {x:α} {l:List α} (h:Srt κ l):Srt κ (ins κ x l):=by
 unfold Srt ins
 refine List.pairwise_append.2 ⟨h.filter _,List.pairwise_cons.2 ⟨fun y hy=>(zy4.1 hy).2,h.filter _⟩,fun a ha b hb=>?_⟩
 have h1:=(zte.1 ha).2
 rcases List.mem_cons.1 hb with rfl | hb
 ·exact h1
 ·have:=(zy4.1 hb).2;omega
theorem zGV {l:List α} (h:Srt κ l) {a b:α} (ha:a∈l) (hb:b∈l) (e:κ a=κ b):a=b:=by
 unfold Srt at h
 induction l with
 |nil=>cases ha
 |cons x l ih=>
  obtain ⟨h1,h2⟩:=List.pairwise_cons.1 h
  rcases List.mem_cons.1 ha with ea | ha2
  ·rcases List.mem_cons.1 hb with eb | hb2
   ·rw [ea,eb]
   ·have:=h1 _ hb2;subst ea;omega
  ·rcases List.mem_cons.1 hb with eb | hb2
   ·have:=h1 _ ha2;subst eb;omega
   ·exact ih h2 ha2 hb2
theorem zuU:Srt κ ([]:List α):=List.Pairwise.nil
theorem zDy {k:Int} {l:List α} (h:∀a∈l,κ a < k):lo κ k l=l:=List.filter_eq_self.2 fun a ha=>decide_eq_true (h a ha)
theorem zAn {k:Int} {l:List α} (h:∀a∈l,¬κ a < k):lo κ k l=[]:=List.filter_eq_nil_iff.2 fun a ha=>by simp;have:=h a ha;omega
theorem zDz {k:Int} {l:List α} (h:∀a∈l,k < κ a):hi κ k l=l:=List.filter_eq_self.2 fun a ha=>decide_eq_true (h a ha)
theorem zAo {k:Int} {l:List α} (h:∀a∈l,¬k < κ a):hi κ k l=[]:=List.filter_eq_nil_iff.2 fun a ha=>by simp;have:=h a ha;omega
theorem zHP {k:Int} {l m:List α}:lo κ k (l++m)=lo κ k l++lo κ k m:=List.filter_append _ _
theorem zDA {k:Int} {l m:List α}:hi κ k (l++m)=hi κ k l++hi κ k m:=List.filter_append _ _
theorem zFr {l:List α} (h:Srt κ l) {i:Nat} {k:Int} (h1:∀j a,j < i→l[j]?=some a→κ a < k) (h2:∀a,l[i]?=some a→k≤κ a) (hi':i≤l.length) :
  l.take i=lo κ k l∧(∀a∈l.drop i,k≤κ a):=by
 have ht:∀a∈l.take i,κ a < k:=fun a ha=>by
  obtain ⟨j,hj,rfl⟩:=List.mem_iff_getElem.1 ha
  have hj':j < i:=by simp at hj;omega
  exact h1 j _ hj' (by simp)
 have hd:∀a∈l.drop i,k≤κ a:=fun a ha=>by
  rcases Nat.lt_or_ge i l.length with hlt | hge
  ·have hx:l[i]?=some l[i]:=List.getElem?_eq_getElem hlt
   have e:l.drop i=l[i]::l.drop (i+1):=List.drop_eq_getElem_cons hlt
   have hk:=h2 _ hx
   have hp:Srt κ (l.drop i):=List.Pairwise.sublist (List.drop_sublist i l) h
   rw [e] at ha hp
   rcases List.mem_cons.1 ha with rfl | ha
   ·exact hk
   ·have:=(List.pairwise_cons.1 hp).1 a ha;omega
  ·rw [List.drop_eq_nil_of_le hge] at ha;cases ha
 refine ⟨?_,hd⟩
 have e:l=l.take i++l.drop i:=(List.take_append_drop i l).symm
 conv=>rhs;rw [e,zHP]
 rw [zDy ht,zAn fun a ha=>by have:=hd a ha;omega,List.append_nil]
theorem zFs {l:List α} (h:Srt κ l) {i:Nat} {k:Int} (h1:∀a∈l.take i,κ a < k) (h2:∀a∈l.drop i,k≤κ a) (h3:∀a∈l,κ a≠k):l.drop i=hi κ k l:=by
 have e:l=l.take i++l.drop i:=(List.take_append_drop i l).symm
 conv=>rhs;rw [e,zDA]
 rw [zAo fun a ha=>by have:=h1 a ha;omega,zDz fun a ha=>by have:=h2 a ha;have:=h3 a (List.mem_of_mem_drop ha);omega];rfl
theorem zGW {l:List α} (h:Srt κ l) {i:Nat} {k:Int} {x:α} (hx:l[i]?=some x) (hk:κ x=k):l.drop (i+1)=hi κ k l:=by
 have hlt:i < l.length:=by
  rcases Nat.lt_or_ge i l.length with h | h
  ·exact h
  ·rw [List.getElem?_eq_none h] at hx;cases hx
 have hx':l[i]=x:=by rw [List.getElem?_eq_getElem hlt] at hx;exact Option.some.inj hx
 have e:l=l.take i++(x::l.drop (i+1)):=by
  conv=>lhs;rw [←List.take_append_drop i l]
  rw [List.drop_eq_getElem_cons hlt,hx']
 have hs:Srt κ (l.take i++(x::l.drop (i+1))):=e▸h
 obtain ⟨a1,a2,a3⟩:=List.pairwise_append.1 hs
 obtain ⟨b1,b2⟩:=List.pairwise_cons.1 a2
 conv=>rhs;rw [e,zDA]
 rw [zAo fun a ha=>by have:=a3 a ha x (by simp);omega]
 have e2:hi κ k (x::l.drop (i+1))=hi κ k (l.drop (i+1)):=List.filter_cons_of_neg (by simp;omega)
 rw [List.nil_append,e2,zDz fun a ha=>by have:=b1 a ha;omega]
theorem gf {l:List α} {i:Nat} {x:α} (h:l[i]?=some x):x∈l:=List.mem_of_getElem? h
theorem zuV {l:List α} (h:Srt κ l) {a:Int} {n:Nat} (hb:∀x∈l,a≤κ x∧κ x < a+n):l.length≤n:=by
 unfold Srt at h
 induction l generalizing a n with
 |nil=>exact Nat.zero_le _
 |cons x l ih=>
  obtain ⟨h1,h2⟩:=List.pairwise_cons.1 h
  have hx:=hb x (by simp)
  cases n with
  |zero=>omega
  |succ n=>
   have:=ih (a:=κ x+1) (n:=n - (κ x - a).toNat) h2 (fun y hy=>by
    have:=h1 y hy
    have:=hb y (by simp [hy])
    omega)
   simp only [List.length_cons]
   omega
structure Fnd (l:List α) (k:Int) (z:α) (i:Int) (x:α) (b:Bool):Prop where
 ix:i=(((lo κ k l).length:Nat):Int)
 yes:b=true→x∈l∧κ x=k∧l[(lo κ k l).length]?=some x
 no:b=false→x=z∧∀a∈l,κ a≠k
theorem zGX {x:α} {l:List α} (h:Srt κ l):(ins κ x l).length≤l.length+1:=by
 unfold ins
 have h1:(lo κ (κ x) l).length+(hi κ (κ x) l).length≤l.length:=by
  clear h
  generalize κ x=k
  induction l with
  |nil=>simp [lo,hi]
  |cons a l ih=>
   unfold lo hi at *
   by_cases h1:κ a < k
   ·rw [List.filter_cons_of_pos (by simpa using h1),List.filter_cons_of_neg (by simp;omega)]
    simp only [List.length_cons];omega
   ·rw [List.filter_cons_of_neg (by simpa using h1)]
    by_cases h2:k < κ a
    ·rw [List.filter_cons_of_pos (by simpa using h2)]
     simp only [List.length_cons];omega
    ·rw [List.filter_cons_of_neg (by simpa using h2)]
     simp only [List.length_cons];omega
 rw [List.length_append,List.length_cons];omega
end
theorem zop {α:Type} {κ:α→Int} {sz:Nat} {l:List α} (h:Srt κ l) {z x y:α} {b:Bool} {i k:Int} (hf:Fnd (κ:=κ) l k z i x b) (hy:κ y=k) (hn:(l.length+1)*sz≤140737488355328) (hn2:l.length+1≤1000000000000) :
  (opt (uz l (some i) none none) fun x0=>
   opt (bif b then opt (uz l (some (wrF .i64 (i+1))) none none) fun x1=>some (0,((x1,()),()))
    else some (0,((x0,()),()))) fun (x2:Nat×((List α×Unit)×Unit))=>
   opt (uz l none (some i) (some i)) fun x3=>
   bif xE x3.length (y::[]).length sz then bif xE (x3++(y::[])).length x2.2.1.1.length sz then some (((x3++(y::[]))++x2.2.1.1),())
    else none
   else none)=some (ins κ y l,()):=by
 obtain ⟨ix,hyes,hno⟩:=hf
 subst hy
 have hlo:(lo κ (κ y) l).length≤l.length:=List.length_filter_le _ _
 have hle:l.take (lo κ (κ y) l).length=lo κ (κ y) l∧∀a∈l.drop (lo κ (κ y) l).length,κ y≤κ a:=by
  have:∀(l:List α),Srt κ l→l.take (lo κ (κ y) l).length=lo κ (κ y) l∧∀a∈l.drop (lo κ (κ y) l).length,κ y≤κ a:=by
   intro l
   induction l with
   |nil=>intro _;exact ⟨rfl,fun a ha=>by simp [lo] at ha⟩
   |cons a l ih=>
    intro h
    obtain ⟨h1,h2⟩:=List.pairwise_cons.1 h
    by_cases ha:κ a < κ y
    ·have e:lo κ (κ y) (a::l)=a::lo κ (κ y) l:=List.filter_cons_of_pos (by simpa using ha)
     rw [e]
     obtain ⟨i1,i2⟩:=ih h2
     exact ⟨by simp [i1],fun c hc=>i2 c (by simpa using hc)⟩
    ·have e:lo κ (κ y) (a::l)=[]:=zAn fun c hc=>by
      rcases List.mem_cons.1 hc with rfl | hc
      ·exact ha
      ·have:=h1 c hc;omega
     rw [e]
     refine ⟨rfl,fun c hc=>?_⟩
     rcases List.mem_cons.1 (show c∈a::l from hc) with rfl | hc
     ·omega
     ·have:=h1 c hc;omega
  exact this l h
 obtain ⟨h1,h2⟩:=hle
 have ht:∀a∈l.take (lo κ (κ y) l).length,κ a < κ y:=fun a ha=>by rw [h1] at ha;exact (zte.1 ha).2
 rw [ix,ze4 l _ hlo,zlB l _ hlo,h1]
 simp only [zF]
 have ha1:xE (lo κ (κ y) l).length (y::[]).length sz=true:=QR (by simp only [List.length_cons,List.length_nil];exact Nat.le_trans (Nat.mul_le_mul_right _ (by omega)) hn) (by simp only [List.length_cons,List.length_nil];omega)
 have hil:=zGX (κ:=κ) (x:=y) h
 unfold ins at hil
 rw [List.length_append,List.length_cons] at hil
 have ha2:xE (lo κ (κ y) l++(y::[])).length (hi κ (κ y) l).length sz=true:=QR (by
   rw [List.length_append];simp only [List.length_cons,List.length_nil];exact Nat.le_trans (Nat.mul_le_mul_right _ (by omega)) hn) (by rw [List.length_append];simp only [List.length_cons,List.length_nil];omega)
 cases b with
 |true=>
  obtain ⟨m1,m2,m3⟩:=hyes rfl
  have hlt:(lo κ (κ y) l).length < l.length:=by
   rcases Nat.lt_or_ge (lo κ (κ y) l).length l.length with h | h
   ·exact h
   ·rw [List.getElem?_eq_none h] at m3;cases m3
  rw [show wrF .i64 ((((lo κ (κ y) l).length:Nat):Int)+1)=(((lo κ (κ y) l).length+1:Nat):Int) from qQ (by omega),ze4 l _ (by omega),zGW h m3 m2]
  simp only [cond_true,zF,ha1,ha2]
  unfold ins
  simp
 |false=>
  obtain ⟨_,m2⟩:=hno rfl
  rw [zFs h ht h2 m2]
  simp only [cond_false,cond_true,zF,ha1,ha2]
  unfold ins
  simp
end Go.Fz.Sy
namespace Go.Proofs.YtleloebnggepoaaGreat.sg
open Go Go.Fz Go.Fz.Sy
abbrev Wi:=qD
abbrev Ca:=qE
abbrev He:=xU
abbrev Le:=zJ
abbrev Sig:=zK
def zS:qj:=(0,(0,(0,(0,(0,(0,((0,0),(0,[]))))))))
abbrev wK (w:Wi):Int:=w.1
abbrev cK (c:Ca):Int:=c.1
abbrev hK (h:He):Int:=h.1*8+h.2.1
abbrev zW (id:Int):Wi:=(id,(0,(0,(zS,0))))
abbrev zC (id:Int):Ca:=(id,(0,(0,(0,[]))))
abbrev zH (n id:Int):He:=(n,(id,(0,false)))
abbrev led (s:Sig):List qj:=s.2.1
abbrev wis (s:Sig):List Wi:=s.2.2.1
abbrev cas (s:Sig):List Ca:=s.2.2.2.1
abbrev hel (s:Sig):List He:=s.2.2.2.2.1
abbrev wir (s:Sig):List Le:=s.2.2.2.2.2
abbrev upL (s:Sig) (x:List qj):Sig:=(s.1,(x,s.2.2))
abbrev upW (s:Sig) (x:List Wi):Sig:=(s.1,(s.2.1,(x,s.2.2.2)))
abbrev upC (s:Sig) (x:List Ca):Sig:=(s.1,(s.2.1,(s.2.2.1,(x,s.2.2.2.2))))
abbrev upH (s:Sig) (x:List He):Sig:=(s.1,(s.2.1,(s.2.2.1,(s.2.2.2.1,(x,s.2.2.2.2.2)))))
abbrev upX (s:Sig) (x:List Le):Sig:=(s.1,(s.2.1,(s.2.2.1,(s.2.2.2.1,(s.2.2.2.2.1,x)))))
section
variable {α:Type} {κ:α→Int}
def lk (κ:α→Int) (l:List α) (k:Int) (z:α):α:=(l.find? fun a=>decide (κ a=k)).getD z
theorem zkr {l:List α} (h:Srt κ l) {a:α} (ha:a∈l) {k:Int} (hk:κ a=k) (z:α):lk κ l k z=a:=by
 unfold lk
 cases e:l.find? fun a=>decide (κ a=k) with
 |none=>exact absurd hk (by simpa using List.find?_eq_none.1 e a ha)
 |some b=>
  have h1:=List.mem_of_find?_eq_some e
  have h2:=List.find?_some e
  exact zGV h h1 ha (by show κ b=κ a;rw [of_decide_eq_true h2,hk])
theorem zph {l:List α} {k:Int} (h:∀a∈l,κ a≠k) (z:α):lk κ l k z=z:=by
 unfold lk
 rw [List.find?_eq_none.2 fun a ha=>by simpa using h a ha];rfl
theorem GC (l:List α) (k:Int) (z:α):(lk κ l k z∈l∧κ (lk κ l k z)=k)∨(lk κ l k z=z∧∀a∈l,κ a≠k):=by
 unfold lk
 cases e:l.find? fun a=>decide (κ a=k) with
 |none=>exact .inr ⟨rfl,fun a ha=>by simpa using List.find?_eq_none.1 e a ha⟩
 |some b=>exact .inl ⟨List.mem_of_find?_eq_some e,by have:=List.find?_some e;simpa using this⟩
theorem zy5 {l:List α} (h:Srt κ l) (x:α) (k:Int) (z:α):lk κ (ins κ x l) k z=if k=κ x then x else lk κ l k z:=by
 by_cases hk:k=κ x
 ·rw [if_pos hk]
  exact zkr (zkq h) (zgC.2 (.inl rfl)) hk.symm z
 ·rw [if_neg hk]
  rcases GC (κ:=κ) l k z with ⟨h1,h2⟩ | ⟨h1,h2⟩
  ·exact zkr (zkq h) (zgC.2 (.inr ⟨h1,by omega⟩)) h2 z
  ·rw [h1]
   refine zph (fun a ha=>?_) z
   rcases zgC.1 ha with rfl | ⟨h3,_⟩
   ·exact fun e=>hk e.symm
   ·exact h2 a h3
theorem zbz {l:List α} (h:Srt κ l) {k:Int} {z:α} {i:Int} {x:α} {b:Bool} (hf:Fnd (κ:=κ) l k z i x b):x=lk κ l k z∧(b=true↔∃a∈l,κ a=k):=by
 obtain ⟨_,h1,h2⟩:=hf
 cases b with
 |true=>
  obtain ⟨m1,m2,_⟩:=h1 rfl
  exact ⟨(zkr h m1 m2 z).symm,fun _=>⟨x,m1,m2⟩,fun _=>rfl⟩
 |false=>
  obtain ⟨m1,m2⟩:=h2 rfl
  exact ⟨by rw [zph m2,m1],fun h=>(by cases h),fun ⟨a,ha,e⟩=>absurd e (m2 a ha)⟩
theorem zrx {l:List α} (h:Srt κ l) {k:Int} {z:α} {i:Nat} {a:α} (hx:l[i]?=some a) (hge:k≤κ a) (hb:∀j b,j < i→l[j]?=some b→κ b < k):Fnd (κ:=κ) l k z (i:Int) (bif decide (κ a=k) then a else z) (decide (κ a=k)):=by
 have hil:i < l.length:=by
  rcases Nat.lt_or_ge i l.length with h | h
  ·exact h
  ·rw [List.getElem?_eq_none h] at hx;cases hx
 obtain ⟨h1,h2⟩:=zFr h hb (fun c hc=>by rw [hx] at hc;cases hc;exact hge) (Nat.le_of_lt hil)
 have hl:(lo κ k l).length=i:=by rw [←h1,List.length_take];omega
 refine ⟨by rw [hl],fun hd=>?_,fun hd=>?_⟩
 ·have hd:=of_decide_eq_true hd
  rw [decide_eq_true hd,cond_true,hl]
  exact ⟨gf hx,hd,hx⟩
 ·have hd:=of_decide_eq_false hd
  rw [decide_eq_false hd,cond_false]
  refine ⟨rfl,fun c hc e=>?_⟩
  have e2:l=l.take i++l.drop i:=(List.take_append_drop i l).symm
  rw [e2] at hc
  rcases List.mem_append.1 hc with hc | hc
  ·rw [h1] at hc;have:=(zte.1 hc).2;omega
  ·rw [List.drop_eq_getElem_cons hil] at hc h2
   rw [List.getElem?_eq_getElem hil] at hx
   have hx:=Option.some.inj hx
   rcases List.mem_cons.1 hc with h3 | h3
   ·subst h3;rw [hx] at e;exact hd e
   ·have hp:Srt κ (l.drop i):=List.Pairwise.sublist (List.drop_sublist i l) h
    rw [List.drop_eq_getElem_cons hil] at hp
    have:=(List.pairwise_cons.1 hp).1 c h3
    rw [hx] at this
    omega
theorem zoq {l:List α} {k:Int} {z:α} (hb:∀j b,j < l.length→l[j]?=some b→κ b < k):Fnd (κ:=κ) l k z ((l.length:Nat):Int) z false:=by
 have hm:∀a∈l,κ a < k:=fun a ha=>by
  obtain ⟨j,hj,rfl⟩:=List.mem_iff_getElem.1 ha
  exact hb j _ hj (List.getElem?_eq_getElem hj)
 exact ⟨by rw [zDy hm],fun h=>(by cases h),fun _=>⟨rfl,fun a ha=>by have:=hm a ha;omega⟩⟩
end
theorem zuW {α:Type} {κ:α→Int} {l:List α} {k:Int} {i:Nat} {a:α} (hb:∀j b,j < i→l[j]?=some b→κ b < k) (hx:l[i]?=some a) (h:κ a < k):∀j b,j < i+1→l[j]?=some b→κ b < k:=fun j b hj hb2=>by
 rcases Nat.lt_or_ge j i with h2 | h2
 ·exact hb j b h2 hb2
 ·have:j=i:=by omega
  subst this
  rw [hx] at hb2;cases hb2;exact h
def Qk (a b:Int):Int:=if a < b then -1 else if b < a then 1 else 0
theorem Ym (a b:Int):js (a,b,())=some (Qk a b,()):=by
 rw [zli];unfold zak Qk
 rw [zeI,zeI];unfold zcu
 simp only [zF,wM,beq_self_eq_true,Bool.not_true,cond_false,kB]
 by_cases h:a < b
 ·rw [if_pos h,decide_eq_true h,cond_true]
 ·rw [if_neg h,decide_eq_false h,cond_false]
  by_cases h2:b < a
  ·rw [if_pos h2,decide_eq_true h2,cond_true]
  ·rw [if_neg h2,decide_eq_false h2,cond_false]
theorem zea {a b:Int}:Qk a b < 0↔a < b:=by unfold Qk;split<;>(try split)<;>omega
theorem Wn {a b:Int}:Qk a b=0↔a=b:=by unfold Qk;split<;>(try split)<;>omega
def orS (a b:Int):Int:=if a=0 then b else a
theorem zuX (a b:Int):Jm ((a::(b::[])),())=some (orS a b,()):=by
 have key:qp (Jm ((a::(b::[])),())) fun r=>r.1=orS a b:=by
  rw [zsZ];unfold zhy
  refine zn (J:=fun x=>(x.1=0∧a=0∧b=0)∨(x.1=1∧x.2.1.1=orS a b)) (qz 2 (fun i st=>st=((0,((i:Int),())),())∧(1≤i→a=0)∧(2≤i→b=0)) (by omega) ⟨rfl,fun h=>by omega,fun h=>by omega⟩ ?_ ?_) ?_
  ·rintro i _ hi ⟨rfl,h1,h2⟩
   rcases (show i=0∨i=1 by omega) with rfl | rfl
   ·refine zh (qx (by simp)) (zo (zP (n:=0) (x:=a) rfl (zq (fun h=>?_) (fun h=>?_))))
    ·have:a≠0:=jO (by simpa using h)
     exact zd (zE (.inr ⟨rfl,by unfold orS;rw [if_neg this]⟩))
    ·have:a=0:=jg (by simpa using h)
     exact zd (qR ⟨by rw [qQ (by omega)],fun _=>this,fun h=>by omega⟩)
   ·have ha:=h1 (Nat.le_refl _)
    refine zh (qx (by simp)) (zo (zP (n:=1) (x:=b) rfl (zq (fun h=>?_) (fun h=>?_))))
    ·exact zd (zE (.inr ⟨rfl,by unfold orS;rw [if_pos ha]⟩))
    ·have:b=0:=jg (by simpa using h)
     exact zd (qR ⟨by rw [qQ (by omega)],fun _=>ha,fun _=>this⟩)
  ·rintro _ ⟨rfl,h1,h2⟩
   exact zg (qa (by simp)) (zd (zE (.inl ⟨rfl,h1 (by omega),h2 (Nat.le_refl _)⟩)))
  ·rintro ⟨j,⟨v,w,⟨⟩⟩,⟨⟩⟩ (⟨rfl,h1,h2⟩ | ⟨rfl,h1⟩)
   ·exact zh rfl (zd (by subst h1 h2;rfl))
   ·exact zg rfl (zd h1)
 exact gr key
theorem Zm {s:Sig} (h:Srt wK (wis s)) (hn:(wis s).length≤1000000000) (id:Int):∃i x b,qJ s (id,())=some (s,(i,(x,(b,()))))∧Fnd (κ:=wK) (wis s) id (zW id) i x b:=by
 have key:qp (qJ s (id,())) fun r=>r.1=s∧Fnd (κ:=wK) (wis s) id (zW id) r.2.1 r.2.2.1 r.2.2.2.1:=by
  rw [zgq];unfold Xu
  refine zn (J:=fun x=>(x.1=0∧x.2.1.1=id∧∀j b,j < (wis s).length→(wis s)[j]?=some b→wK b < id)∨(x.1=1∧x.2.1.1=id∧∃(i:Nat) (a:Wi),x.2.1.2.1=(i:Int)∧(wis s)[i]?=some a∧id≤wK a∧x.2.1.2.2.1=decide (wK a=id)∧∀j b,j < i→(wis s)[j]?=some b→wK b < id))
   (qz (wis s).length (fun i st=>st=((id,(0,(false,((i:Int),())))),())∧∀j b,j < i→(wis s)[j]?=some b→wK b < id) (by omega) ⟨rfl,fun j b hj=>by omega⟩ ?_ ?_) ?_
  ·rintro i _ hi ⟨rfl,hb⟩
   have hx:(wis s)[i]?=some (wis s)[i]:=List.getElem?_eq_getElem hi
   generalize (wis s)[i]=a at hx
   refine zh (qx (show (i:Int) < (((wis s).length:Nat):Int) by omega)) (zo (zP (n:=i) hx ?_))
   rw [show js (a.1,(((id,(0,(false,((i:Int),())))),()):(Int×(Int×(Bool×(Int×Unit))))×Unit).1.1,())=_ from Ym a.1 id,zF]
   refine zq (fun hc=>?_) (fun hc=>?_)
   ·have hge:¬Qk a.1 id < 0:=by have:=wX (show zt (Qk a.1 id) 0=false by simpa using hc);omega
    rw [zea] at hge
    refine zd (zE (.inr ⟨rfl,rfl,i,a,rfl,hx,by show id≤a.1;omega,?_,hb⟩))
    show zj (Qk a.1 id) 0=_
    by_cases he:a.1=id
    ·rw [wa (Wn.2 he),decide_eq_true (show wK a=id from he)]
    ·rw [ji (fun e=>he (Wn.1 e)),decide_eq_false (show ¬wK a=id from he)]
   ·have hlt:Qk a.1 id < 0:=yF (by simpa using hc)
    exact zd (qR ⟨congrArg (fun z=>((id,((0:Int),(false,(z,())))),())) (qQ (by omega)),zuW hb hx (zea.1 hlt)⟩)
  ·rintro _ ⟨rfl,hb⟩
   exact zg (qa (show ¬(((wis s).length:Nat):Int) < (((wis s).length:Nat):Int) by omega)) (zd (zE (.inl ⟨rfl,rfl,hb⟩)))
  ·rintro ⟨j,⟨v,w,b,z,⟨⟩⟩,⟨⟩⟩ (⟨rfl,hv,hb⟩ | ⟨rfl,hv,i,a,hw,hx,hge,hd,hb⟩)
   ·simp only at hv
    subst hv
    exact zh rfl (zd ⟨rfl,zoq hb⟩)
   ·simp only at hv hw hd
    subst hv hw hd
    have hf:=zrx (z:=zW v) h hx hge hb
    by_cases he:wK a=v
    ·rw [decide_eq_true he] at hf ⊢
     exact zg rfl (zg rfl (zo (zP (n:=i) hx (zd ⟨rfl,hf⟩))))
    ·rw [decide_eq_false he] at hf ⊢
     exact zg rfl (zh rfl (zd ⟨rfl,hf⟩))
 obtain ⟨⟨s',i,x,b,⟨⟩⟩,e,rfl,hf⟩:=key
 exact ⟨i,x,b,e,hf⟩
theorem Uc {s:Sig} (h:Srt cK (cas s)) (hn:(cas s).length≤1000000000) (id:Int):∃i x b,jR s (id,())=some (s,(i,(x,(b,()))))∧Fnd (κ:=cK) (cas s) id (zC id) i x b:=by
 have key:qp (jR s (id,())) fun r=>r.1=s∧Fnd (κ:=cK) (cas s) id (zC id) r.2.1 r.2.2.1 r.2.2.2.1:=by
  rw [zeM];unfold WR
  refine zn (J:=fun x=>(x.1=0∧x.2.1.1=id∧∀j b,j < (cas s).length→(cas s)[j]?=some b→cK b < id)∨(x.1=1∧x.2.1.1=id∧∃(i:Nat) (a:Ca),x.2.1.2.1=(i:Int)∧(cas s)[i]?=some a∧id≤cK a∧x.2.1.2.2.1=decide (cK a=id)∧∀j b,j < i→(cas s)[j]?=some b→cK b < id))
   (qz (cas s).length (fun i st=>st=((id,(0,(false,((i:Int),())))),())∧∀j b,j < i→(cas s)[j]?=some b→cK b < id) (by omega) ⟨rfl,fun j b hj=>by omega⟩ ?_ ?_) ?_
  ·rintro i _ hi ⟨rfl,hb⟩
   have hx:(cas s)[i]?=some (cas s)[i]:=List.getElem?_eq_getElem hi
   generalize (cas s)[i]=a at hx
   refine zh (qx (show (i:Int) < (((cas s).length:Nat):Int) by omega)) (zo (zP (n:=i) hx ?_))
   rw [show js (a.1,(((id,(0,(false,((i:Int),())))),()):(Int×(Int×(Bool×(Int×Unit))))×Unit).1.1,())=_ from Ym a.1 id,zF]
   refine zq (fun hc=>?_) (fun hc=>?_)
   ·have hge:¬Qk a.1 id < 0:=by have:=wX (show zt (Qk a.1 id) 0=false by simpa using hc);omega
    rw [zea] at hge
    refine zd (zE (.inr ⟨rfl,rfl,i,a,rfl,hx,by show id≤a.1;omega,?_,hb⟩))
    show zj (Qk a.1 id) 0=_
    by_cases he:a.1=id
    ·rw [wa (Wn.2 he),decide_eq_true (show cK a=id from he)]
    ·rw [ji (fun e=>he (Wn.1 e)),decide_eq_false (show ¬cK a=id from he)]
   ·have hlt:Qk a.1 id < 0:=yF (by simpa using hc)
    exact zd (qR ⟨congrArg (fun z=>((id,((0:Int),(false,(z,())))),())) (qQ (by omega)),zuW hb hx (zea.1 hlt)⟩)
  ·rintro _ ⟨rfl,hb⟩
   exact zg (qa (show ¬(((cas s).length:Nat):Int) < (((cas s).length:Nat):Int) by omega)) (zd (zE (.inl ⟨rfl,rfl,hb⟩)))
  ·rintro ⟨j,⟨v,w,b,z,⟨⟩⟩,⟨⟩⟩ (⟨rfl,hv,hb⟩ | ⟨rfl,hv,i,a,hw,hx,hge,hd,hb⟩)
   ·simp only at hv
    subst hv
    exact zh rfl (zd ⟨rfl,zoq hb⟩)
   ·simp only at hv hw hd
    subst hv hw hd
    have hf:=zrx (z:=zC v) h hx hge hb
    by_cases he:cK a=v
    ·rw [decide_eq_true he] at hf ⊢
     exact zg rfl (zg rfl (zo (zP (n:=i) hx (zd ⟨rfl,hf⟩))))
    ·rw [decide_eq_false he] at hf ⊢
     exact zg rfl (zh rfl (zd ⟨rfl,hf⟩))
 obtain ⟨⟨s',i,x,b,⟨⟩⟩,e,rfl,hf⟩:=key
 exact ⟨i,x,b,e,hf⟩
theorem zfG {s:Sig} (h:Srt hK (hel s)) (hn:(hel s).length≤1000000000) (hr:∀a∈hel s,1≤a.2.1∧a.2.1≤6) {n id:Int} (hi:1≤id∧id≤6):∃i x b,xl s (n,(id,()))=some (s,(i,(x,(b,()))))∧Fnd (κ:=hK) (hel s) (n*8+id) (zH n id) i x b:=by
 have key:qp (xl s (n,(id,()))) fun r=>r.1=s∧Fnd (κ:=hK) (hel s) (n*8+id) (zH n id) r.2.1 r.2.2.1 r.2.2.2.1:=by
  rw [zeW];unfold WX
  refine zn (J:=fun x=>(x.1=0∧x.2.1.1=n∧x.2.1.2.1=id∧∀j b,j < (hel s).length→(hel s)[j]?=some b→hK b < n*8+id)∨(x.1=1∧x.2.1.1=n∧x.2.1.2.1=id∧∃(i:Nat) (a:He),x.2.1.2.2.1=(i:Int)∧(hel s)[i]?=some a∧n*8+id≤hK a∧x.2.1.2.2.2.1=decide (hK a=n*8+id)∧∀j b,j < i→(hel s)[j]?=some b→hK b < n*8+id))
   (qz (hel s).length (fun i st=>st=((n,(id,(0,(false,((i:Int),()))))),())∧∀j b,j < i→(hel s)[j]?=some b→hK b < n*8+id) (by omega) ⟨rfl,fun j b hj=>by omega⟩ ?_ ?_) ?_
  ·rintro i _ hi ⟨rfl,hb⟩
   have hx:(hel s)[i]?=some (hel s)[i]:=List.getElem?_eq_getElem hi
   generalize (hel s)[i]=a at hx
   refine zh (qx (show (i:Int) < (((hel s).length:Nat):Int) by omega)) (zo (zP (n:=i) hx ?_))
   rw [show js (a.1,(((n,(id,(0,(false,((i:Int),()))))),()):(Int×(Int×(Int×(Bool×(Int×Unit)))))×Unit).1.1,())=_ from Ym a.1 n,zF]
   rw [show js (a.2.1,(((n,(id,(0,(false,((i:Int),()))))),()):(Int×(Int×(Int×(Bool×(Int×Unit)))))×Unit).1.2.1,())=_ from Ym a.2.1 id,zF]
   rw [show Jm ((((Qk a.1 n,()):Int×Unit).1::(((Qk a.2.1 id,()):Int×Unit).1::[])),())=_ from zuX _ _,zF]
   have hra:=hr a (gf hx)
   have o1:orS (Qk a.1 n) (Qk a.2.1 id) < 0↔hK a < n*8+id:=by
    unfold orS
    split
    ·rename_i h0
     rw [Wn] at h0
     rw [zea]
     show _↔a.1*8+a.2.1 < _
     omega
    ·rename_i h0
     rw [Wn] at h0
     rw [zea]
     show _↔a.1*8+a.2.1 < _
     omega
   have o2:orS (Qk a.1 n) (Qk a.2.1 id)=0↔hK a=n*8+id:=by
    unfold orS
    split
    ·rename_i h0
     rw [Wn] at h0
     rw [Wn]
     show _↔a.1*8+a.2.1=_
     omega
    ·rename_i h0
     rw [Wn]
     rw [Wn] at h0
     show _↔a.1*8+a.2.1=_
     omega
   refine zq (fun hc=>?_) (fun hc=>?_)
   ·have hge:¬orS (Qk a.1 n) (Qk a.2.1 id) < 0:=by have:=wX (show zt (orS (Qk a.1 n) (Qk a.2.1 id)) 0=false by simpa using hc);omega
    rw [o1] at hge
    refine zd (zE (.inr ⟨rfl,rfl,rfl,i,a,rfl,hx,by omega,?_,hb⟩))
    show zj (orS (Qk a.1 n) (Qk a.2.1 id)) 0=_
    by_cases he:hK a=n*8+id
    ·rw [wa (o2.2 he),decide_eq_true he]
    ·rw [ji (fun e=>he (o2.1 e)),decide_eq_false he]
   ·have hlt:orS (Qk a.1 n) (Qk a.2.1 id) < 0:=yF (by simpa using hc)
    exact zd (qR ⟨congrArg (fun z=>((n,(id,((0:Int),(false,(z,()))))),())) (qQ (by omega)),zuW hb hx (o1.1 hlt)⟩)
  ·rintro _ ⟨rfl,hb⟩
   exact zg (qa (show ¬(((hel s).length:Nat):Int) < (((hel s).length:Nat):Int) by omega)) (zd (zE (.inl ⟨rfl,rfl,rfl,hb⟩)))
  ·rintro ⟨j,⟨v,v2,w,b,z,⟨⟩⟩,⟨⟩⟩ (⟨rfl,hv,hv2,hb⟩ | ⟨rfl,hv,hv2,i,a,hw,hx,hge,hd,hb⟩)
   ·simp only at hv hv2
    subst hv hv2
    exact zh rfl (zd ⟨rfl,zoq hb⟩)
   ·simp only at hv hv2 hw hd
    subst hv hv2 hw hd
    have hf:=zrx (z:=zH v v2) h hx hge hb
    by_cases he:hK a=v*8+v2
    ·rw [decide_eq_true he] at hf ⊢
     exact zg rfl (zg rfl (zo (zP (n:=i) hx (zd ⟨rfl,hf⟩))))
    ·rw [decide_eq_false he] at hf ⊢
     exact zg rfl (zh rfl (zd ⟨rfl,hf⟩))
 obtain ⟨⟨s',i,x,b,⟨⟩⟩,e,rfl,hf⟩:=key
 exact ⟨i,x,b,e,hf⟩
theorem Yy {l:List Wi} (h:Srt wK l) (hn:l.length≤1000000) {k:Int} {z x y:Wi} {b:Bool} {i:Int} (hf:Fnd (κ:=wK) l k z i x b) (hy:wK y=k):qM (l,i,b,y,())=some (ins wK y l,()):=by
 rw [zg9];unfold Vg
 exact zop (sz:=128) h hf hy (by omega) (by omega)
theorem zag {l:List Ca} (h:Srt cK l) (hn:l.length≤1000000) {k:Int} {z x y:Ca} {b:Bool} {i:Int} (hf:Fnd (κ:=cK) l k z i x b) (hy:cK y=k):wj (l,i,b,y,())=some (ins cK y l,()):=by
 rw [zhx];unfold VF
 exact zop (sz:=56) h hf hy (by omega) (by omega)
theorem zia {l:List He} (h:Srt hK l) (hn:l.length≤1000000) {k:Int} {z x y:He} {b:Bool} {i:Int} (hf:Fnd (κ:=hK) l k z i x b) (hy:hK y=k):vC (l,i,b,y,())=some (ins hK y l,()):=by
 rw [zhC];unfold VG
 exact zop (sz:=32) h hf hy (by omega) (by omega)
end Go.Proofs.YtleloebnggepoaaGreat.sg
namespace Go.Proofs.YtleloebnggepoaaGreat.sg
open Go Go.Fz Go.Fz.Sy
def zeb (x:List Le) (l:Le):List Le:=if x.length < 1024 then x++[l] else x
def Yd (x:List Le) (ls:List Le):List Le:=ls.foldl zeb x
theorem zFt (x:List Le):Yd x []=x:=rfl
theorem zFu (x a b:List Le):Yd x (a++b)=Yd (Yd x a) b:=List.foldl_append
theorem zFv {x:List Le} {l:Le} (h:x.length≤1024):(zeb x l).length≤1024:=by
 unfold zeb
 split
 ·rw [List.length_append];simp;omega
 ·exact h
theorem zFw (ls:List Le):∀{x:List Le},x.length≤1024→(Yd x ls).length≤1024:=by
 induction ls with
 |nil=>intro x h;exact h
 |cons l ls ih=>intro x h;exact ih (x:=zeb x l) (zFv h)
theorem zlG (ls:List Le):∀{x:List Le} {l:Le},l∈Yd x ls→l∈x∨l∈ls:=by
 induction ls with
 |nil=>intro x l h;exact .inl h
 |cons a ls ih=>
  intro x l h
  rcases ih (x:=zeb x a) h with h | h
  ·unfold zeb at h
   split at h
   ·rcases List.mem_append.1 h with h | h
    ·exact .inl h
    ·exact .inr (by rw [List.mem_singleton.1 h];simp)
   ·exact .inl h
  ·exact .inr (by simp [h])
theorem Xy (ls:List Le):∀{x:List Le},x.length+ls.length≤1024→Yd x ls=x++ls:=by
 induction ls with
 |nil=>intro x h;simp [zFt]
 |cons a ls ih=>
  intro x h
  simp only [List.length_cons] at h
  show Yd (zeb x a) ls=_
  have e:zeb x a=x++[a]:=by unfold zeb;rw [if_pos (by omega)]
  rw [e,ih (by simp;omega)]
  simp
def snds (s:Sig) (ls:List Le):Sig:=upX s (Yd (wir s) ls)
theorem zFx (s:Sig):snds s []=s:=rfl
theorem zlH (s:Sig) (a b:List Le):snds s (a++b)=snds (snds s a) b:=by unfold snds;rw [zFu]
theorem zhR (s:Sig) (l:Le):ql s (l,())=some (snds s [l],()):=by
 rw [zgr];unfold Xv
 have e:snds s [l]=upX s (if (wir s).length < 1024 then wir s++[l] else wir s):=rfl
 rw [e]
 by_cases h:(wir s).length < 1024
 ·rw [if_pos h]
  refine xd (zo (zh (qx (show (((wir s).length:Nat):Int) < 1024 by omega)) ?_))
  rw [zyL,zF]
  have h':s.2.2.2.2.2.length < 1024:=h
  exact zh (QR (by simp;omega) (by simp;omega)) (zd (zd rfl))
 ·rw [if_neg h]
  exact xd (zo (zg (qa (show ¬(((wir s).length:Nat):Int) < 1024 by omega)) (zd (zd rfl))))
def Yz (w:Wi):List Le:=if w.2.2.1=1 then [(1,(w.1,(w.2.1,(0,(true,(w.2.2.2.1,0))))))] else if w.2.2.1=4 then [(1,(w.1,(w.2.1,(0,(false,(zS,0))))))] else []
theorem zjn (s:Sig) (w:Wi):qP s (w,())=some (snds s (Yz w),()):=by
 rw [zdQ];unfold Wg Yz
 simp only [zhR,zF]
 by_cases h1:w.2.2.1=1
 ·rw [if_pos h1]
  exact xd (zh (wa h1) (zd rfl))
 ·rw [if_neg h1]
  by_cases h4:w.2.2.1=4
  ·rw [if_pos h4]
   exact xd (zg (ji h1) (zh (wa h4) (zd rfl)))
  ·rw [if_neg h4]
   exact xd (zg (ji h1) (zg (ji h4) (zd rfl)))
def vl (c:Ca):List Le:=
 if c.2.2.1=2 then [(5,(c.1,(c.2.1,(0,(false,(zS,0))))))]
 else if c.2.2.1=3 then [(6,(c.1,(c.2.1,(0,(false,(zS,c.2.2.2.1))))))]
 else if c.2.2.1=5 then [(7,(c.1,(c.2.1,(0,(false,(zS,0))))))] else []
theorem zlI (s:Sig) (c:Ca):jB s (c,())=some (snds s (vl c),()):=by
 rw [zeN];unfold WS vl
 simp only [zhR,zF]
 by_cases h2:c.2.2.1=2
 ·rw [if_pos h2]
  exact xd (zh (wa h2) (zd rfl))
 rw [if_neg h2]
 by_cases h3:c.2.2.1=3
 ·rw [if_pos h3]
  exact xd (zg (ji h2) (zh (wa h3) (zd rfl)))
 rw [if_neg h3]
 by_cases h5:c.2.2.1=5
 ·rw [if_pos h5]
  exact xd (zg (ji h2) (zg (ji h3) (zh (wa h5) (zd rfl))))
 rw [if_neg h5]
 exact xd (zg (ji h2) (zg (ji h3) (zg (ji h5) (zd rfl))))
def Wh (c:Ca):List Le:=
 if c.2.2.1=1 then c.2.2.2.2.map fun n=>(2,(c.1,(c.2.1,(n,(false,(zS,0))))))
 else if c.2.2.1=4 then c.2.2.2.2.map fun n=>(3,(c.1,(c.2.1,(n,(false,(zS,0)))))) else []
theorem ztf {s:Sig} {k id num:Int} {l:List Int} (hn:l.length≤1000000000) (m:Int) :
  qp (opt (qd (fun s1:((Le×(Sig×(Int×Unit)))×Unit)=>
   bif (zt (s1.1.2.2.1) (((l.length:Nat):Int))) then opt (atI l (s1.1.2.2.1)) fun x2=>
    opt (ql (s1.1.2.1) (((s1.1.1.1,(s1.1.1.2.1,(s1.1.1.2.2.1,(x2,s1.1.1.2.2.2.2)))),()))) fun x3=>
    some (.inr (((s1.1.1.1,(s1.1.1.2.1,(s1.1.1.2.2.1,(x2,s1.1.1.2.2.2.2)))),(x3.1,((wrF .i64 ((s1.1.2.2.1+1))),()))),()))
   else some (.inl (0,((s1.1.1,(s1.1.2.1,(s1.1.2.2.1,()))),())))) qC (((k,(id,(num,(m,(false,(zS,0)))))),(s,(0,()))),())) fun (x4:Nat×((Le×(Sig×(Int×Unit)))×Unit))=>
  some (x4.2.1.2.1,())) fun r=>r.1=snds s (l.map fun n=>(k,(id,(num,(n,(false,(zS,0))))))):=by
 refine zn (J:=fun x=>x.2.1.2.1=snds s (l.map fun n=>(k,(id,(num,(n,(false,(zS,0)))))))) (qz l.length (fun i st=>∃m,st=(((k,(id,(num,(m,(false,(zS,0)))))),(snds s ((l.take i).map fun n=>(k,(id,(num,(n,(false,(zS,0))))))),((i:Int),()))),())) (by omega) ⟨m,rfl⟩ ?_ ?_) ?_
 ·rintro i _ hi ⟨m,rfl⟩
  have hx:l[i]?=some l[i]:=List.getElem?_eq_getElem hi
  have ht:l.take (i+1)=l.take i++[l[i]]:=List.take_succ_eq_append_getElem hi
  generalize l[i]=v at hx ht
  refine zh (qx (show (i:Int) < ((l.length:Nat):Int) by omega)) (zo (zP (n:=i) hx ?_))
  simp only [zhR,zF]
  refine zd (qR ⟨v,?_⟩)
  rw [qQ (by omega),ht,List.map_append,zlH]
  rfl
 ·rintro _ ⟨m,rfl⟩
  rw [List.take_length]
  exact zg (qa (show ¬((l.length:Nat):Int) < ((l.length:Nat):Int) by omega)) (zd (zE rfl))
 ·rintro ⟨j,⟨v,w,z,⟨⟩⟩,⟨⟩⟩ h
  exact zd h
theorem zor (s:Sig) {c:Ca} (hn:c.2.2.2.2.length≤1000000000):jD s (c,())=some (snds s (Wh c),()):=by
 rw [zdd];unfold JZ Wh
 by_cases h1:c.2.2.1=1
 ·rw [if_pos h1]
  exact gr (zo (zh (wa h1) (zd (zh rfl (ztf hn 0)))))
 rw [if_neg h1]
 by_cases h4:c.2.2.1=4
 ·rw [if_pos h4]
  exact gr (zo (zg (ji h1) (zh (wa h4) (zd (zh rfl (ztf hn 0))))))
 rw [if_neg h4]
 exact gr (zo (zg (ji h1) (zg (ji h4) (zd (zg rfl (zd rfl))))))
def gv:jm:=(4,((true::(false::(false::(true::[])))),((0,(1,(8,5)))::((1,(2,(8,5)))::((2,(3,(8,5)))::[])))))
def zBT:Gts:=(((127,100)::[]),100)
def Uy:Fab:=(gv,((100,(2,(10,8000))),(List.replicate 6 zBT,200)))
theorem zGY:Ui ()=some (Uy,()):=by
 rw [zug];unfold zi7
 refine gr (zn (J:=fun x=>x.2.2.1=(gv,((100,(2,(10,8000))),(List.replicate 6 zBT,(200,()))))) (qz 6 (fun i st=>st=(((),((i:Int),())),((gv,((100,(2,(10,8000))),(List.replicate i zBT,(200,())))),()))) (by omega) rfl ?_ ?_) ?_)
 ·rintro i _ hi rfl
  refine zh (qx (show (i:Int) < 6 by omega)) (zh (QR (by simp;omega) (by simp;omega)) (zd (qR ?_)))
  rw [qQ (by omega),List.replicate_succ']
  rfl
 ·rintro _ rfl
  exact zg (qa (by simp)) (zd (zE rfl))
 ·rintro ⟨j,⟨⟨⟩,w,⟨⟩⟩,f,⟨⟩⟩ h
  simp only at h
  subst h
  exact zd rfl
theorem zy6:ug gv where
 sz:=⟨by decide,by decide,by decide,by decide⟩
 ls:=by
  intro i l h
  rcases (show i=0∨i=1∨i=2∨3≤i by omega) with rfl | rfl | rfl | h3
  ·cases h
   exact ⟨by unfold zrp kz;decide,fun k o hk=>by omega⟩
  ·cases h
   refine ⟨by unfold zrp kz;decide,fun k o hk ho=>?_⟩
   have:k=0:=by omega
   subst this
   cases ho
   unfold zcR;decide
  ·cases h
   refine ⟨by unfold zrp kz;decide,fun k o hk ho=>?_⟩
   rcases (show k=0∨k=1 by omega) with rfl | rfl<;>cases ho<;>unfold zcR<;>decide
  ·rw [List.getElem?_eq_none (by show 3≤i;exact h3)] at h;cases h
 re:=by
  intro n hn
  have hn:(n:Int) < 4:=hn
  rcases (show n=0∨n=1∨n=2∨n=3 by omega) with rfl | rfl | rfl | rfl<;>decide
 ct:=by
  intro n hn
  have hn:(n:Int) < 4:=hn
  rcases (show n=0∨n=1∨n=2∨n=3 by omega) with rfl | rfl | rfl | rfl<;>decide
theorem zAp:zok Uy where
 t:=zy6
 u:=by unfold GB;decide
 g
  :=by
  intro g hg
  have e:g=zBT:=List.eq_of_mem_replicate hg
  subst e
  exact ⟨by decide,by decide,fun e he=>by
   have:e=(127,100):=List.mem_singleton.1 he
   subst this
   unfold zcX;decide,by decide,by decide⟩
 f:=by unfold zkm;decide
theorem zDB:xc Uy []=0:=by
 refine zoo.2 ⟨⟨zAp,fun s h=>(by cases h),by simp,fun i k a b _ h=>by simp at h,fun s h=>(by cases h)⟩,fun p hp=>?_,fun s h=>by cases h⟩
 have e:(wJ Uy [] p).2=4:=by
  unfold wJ
  rw [zN (show load ([]:List qj) (p:Int)=[] from rfl)];rfl
 unfold JL
 rw [e,zN rfl];rfl
theorem zks:Uy.2.2.1.length≤1000000000000000000:=by decide
theorem zGZ:Vf (Uy,())=some ((Uy,([],([],([],([],[]))))),(0,())):=by
 rw [zsv];unfold zg7
 rw [zbU zks,zHH zAp]
 rfl
def N4:List Int:=0::1::2::3::[]
def Uz (x:qj):Prop:=x.2.2.2.2.2.2.2.2=[[0,2,4]]∨x.2.2.2.2.2.2.2.2=[[5,3,1]]
theorem zy7 {p:Int} (h0:0≤p) (h1:p < 6):QZ gv p:=⟨h0,h1⟩
theorem zG0:xm gv [0,2,4] where
 n0:=by decide
 n1:=by decide
 pt:=by
  intro p hp
  simp at hp
  rcases hp with rfl | rfl | rfl<;>exact zy7 (by decide) (by decide)
 st:=by
  intro i p h
  rcases (show i=0∨i=1∨i=2∨3≤i by omega) with rfl | rfl | rfl | h3
  ·cases h;unfold ziH;decide
  ·cases h;unfold ziH;decide
  ·cases h;unfold ziH;decide
  ·rw [List.getElem?_eq_none (by show 3≤i;exact h3)] at h;cases h
theorem zG1:xm gv [5,3,1] where
 n0:=by decide
 n1:=by decide
 pt:=by
  intro p hp
  simp at hp
  rcases hp with rfl | rfl | rfl<;>exact zy7 (by decide) (by decide)
 st:=by
  intro i p h
  rcases (show i=0∨i=1∨i=2∨3≤i by omega) with rfl | rfl | rfl | h3
  ·cases h;unfold ziH;decide
  ·cases h;unfold ziH;decide
  ·cases h;unfold ziH;decide
  ·rw [List.getElem?_eq_none (by show 3≤i;exact h3)] at h;cases h
theorem zAq {x:qj} (h:Uz x):∃r,x.2.2.2.2.2.2.2.2=[r]∧xm gv r∧(zY gv r=[0,1,2,3]∨zY gv r=[3,2,1,0]):=by
 rcases h with h | h
 ·exact ⟨_,h,zG0,.inl (by decide)⟩
 ·exact ⟨_,h,zG1,.inr (by decide)⟩
theorem zqf {r:List Int} (h:xm gv r):yM (gv,(r,()))=some (zY gv r,(0,())):=by
 rw [ziK zy6,zN h];rfl
theorem zIb {l m:List Int} (h:l.Perm m) (hl:l.Pairwise fun a b=>a≤b) (hm:m.Pairwise fun a b=>a≤b):l=m:=h.eq_of_pairwise (le:=fun a b=>a≤b) (fun a b _ _ h1 h2=>Int.le_antisymm h1 h2) hl hm
theorem zHQ {l:List Int} (h:l=[0,1,2,3]∨l=[3,2,1,0]):Xq l=[0,1,2,3]:=by
 unfold Xq
 refine zIb ((List.mergeSort_perm _ _).trans (by rcases h with rfl | rfl<;>decide)) ?_ (by decide)
 have:=List.pairwise_mergeSort (le:=fun x y:Int=>decide (x≤y)) (fun a b c h1 h2=>by simp at *;omega) (fun a b=>by simp;omega) l
 exact this.imp (by simp)
theorem zos {s:Sig} (hs:s.1=Uy) {x:qj} (hx:Uz x):yP s (x,())=some (s,(N4,())):=by
 obtain ⟨r,hr,hp,hn⟩:=zAq hx
 rw [zfs];unfold Yw
 rw [hr]
 have hlen:(zY gv r).length=4:=by rcases hn with h | h<;>rw [h]<;>rfl
 refine xd (zn (J:=fun x4=>x4.2.1.1=s∧x4.2.2.1=zY gv r) (qz 1 (fun i st=>st=((s,((i:Int),())),((if i=0 then [] else zY gv r),()))) (by omega) rfl ?_ ?_) ?_)
 ·rintro i _ hi rfl
  have:i=0:=by omega
  subst this
  refine zh (qx (by simp)) (zo (zP (n:=0) (x:=r) rfl ?_))
  rw [show yM (((((s,(((0:Nat):Int),())),((if (0:Nat)=0 then [] else zY gv r),())):(Sig×(Int×Unit))×((List Int)×Unit)).1.1.1.1),(r,()))=some (zY gv r,(0,())) from by rw [hs];exact zqf hp,zF]
  refine zo (zh (wa rfl) (zh (QR (by rw [hlen];simp) (by rw [hlen];simp)) (zd (zd (qR ?_)))))
  rw [qQ (by omega)];rfl
 ·rintro _ rfl
  exact zg (qa (by simp)) (zd (zE ⟨rfl,rfl⟩))
 ·rintro ⟨j,⟨s',w,⟨⟩⟩,l,⟨⟩⟩ ⟨h1,h2⟩
  simp only at h1 h2
  subst h1 h2
  have e:Xq (zY gv r)=[0,1,2,3]:=zHQ hn
  have q1:zqL (zY gv r)=true:=by unfold zqL;rw [hlen];rfl
  rw [e]
  exact zh q1 (zh rfl (zd rfl))
abbrev wOf (s:Sig) (id:Int):Wi:=lk wK (wis s) id (zW id)
abbrev cOf (s:Sig) (id:Int):Ca:=lk cK (cas s) id (zC id)
abbrev hOf (s:Sig) (n id:Int):He:=lk hK (hel s) (n*8+id) (zH n id)
def setW (s:Sig) (w:Wi):Sig:=upW s (ins wK w (wis s))
def setC (s:Sig) (c:Ca):Sig:=upC s (ins cK c (cas s))
def setH (s:Sig) (h:He):Sig:=upH s (ins hK h (hel s))
def idP (i:Int):Prop:=1≤i∧i≤6
def ndP (v:Int):Prop:=0≤v∧v≤3
structure Shp (s:Sig):Prop where
 fab:s.1=Uy
 sW:Srt wK (wis s)
 sC:Srt cK (cas s)
 sH:Srt hK (hel s)
 bW:∀w∈wis s,idP w.1
 bC:∀c∈cas s,idP c.1∧c.2.2.2.2.length≤4
 bH:∀h∈hel s,ndP h.1∧idP h.2.1
 x:(wir s).length≤1024
theorem Shp.lW {s:Sig} (h:Shp s):(wis s).length≤6:=zuV (a:=1) h.sW fun w hw=>by have:=h.bW w hw;unfold idP at this;show 1≤w.1∧w.1 < _;omega
theorem Shp.lC {s:Sig} (h:Shp s):(cas s).length≤6:=zuV (a:=1) h.sC fun w hw=>by have:=(h.bC w hw).1;unfold idP at this;show 1≤w.1∧w.1 < _;omega
theorem Shp.lH {s:Sig} (h:Shp s):(hel s).length≤32:=zuV (a:=0) h.sH fun w hw=>by have:=(h.bH w hw).1;have:=(h.bH w hw).2;unfold idP ndP at *;show 0≤w.1*8+w.2.1∧w.1*8+w.2.1 < _;omega
theorem ztg (s:Sig) (id:Int):(wOf s id).1=id:=by
 rcases GC (κ:=wK) (wis s) id (zW id) with ⟨_,h⟩ | ⟨h,_⟩
 ·exact h
 ·rw [show wOf s id=zW id from h]
theorem zot (s:Sig) (id:Int):(cOf s id).1=id:=by
 rcases GC (κ:=cK) (cas s) id (zC id) with ⟨_,h⟩ | ⟨h,_⟩
 ·exact h
 ·rw [show cOf s id=zC id from h]
theorem zFZ {s:Sig} (h:Shp s) (id:Int):(cOf s id).2.2.2.2.length≤4:=by
 rcases GC (κ:=cK) (cas s) id (zC id) with ⟨h1,_⟩ | ⟨h1,_⟩
 ·exact (h.bC _ h1).2
 ·rw [show cOf s id=zC id from h1];simp
theorem zDC {s:Sig} (hs:Shp s) {n id:Int} (hi:idP id):(hOf s n id).1=n∧(hOf s n id).2.1=id:=by
 rcases GC (κ:=hK) (hel s) (n*8+id) (zH n id) with ⟨h1,h⟩ | ⟨h,_⟩
 ·have:=(hs.bH _ h1).2
  unfold idP at *
  have h:(hOf s n id).1*8+(hOf s n id).2.1=n*8+id:=h
  have h':1≤(hOf s n id).2.1∧(hOf s n id).2.1≤6:=this
  omega
 ·rw [show hOf s n id=zH n id from h];exact ⟨rfl,rfl⟩
theorem Ud {s:Sig} (h:Shp s) (c:Ca) (j:Int):cOf (setC s c) j=if j=c.1 then c else cOf s j:=zy5 h.sC c j _
theorem zth {s:Sig} (h:Shp s) (w:Wi) (j:Int):wOf (setW s w) j=if j=w.1 then w else wOf s j:=zy5 h.sW w j _
theorem zHR {s:Sig} (hs:Shp s) (h:He) (v j:Int) (hj:idP j) (hi:idP h.2.1):hOf (setH s h) v j=if v=h.1∧j=h.2.1 then h else hOf s v j:=by
 have e:hOf (setH s h) v j=if v*8+j=hK h then h else hOf s v j:=zy5 hs.sH h _ _
 rw [e]
 unfold idP at *
 by_cases hq:v=h.1∧j=h.2.1
 ·rw [if_pos hq,if_pos (by rw [hq.1,hq.2])]
 ·rw [if_neg hq,if_neg (fun e=>hq (by have e:v*8+j=h.1*8+h.2.1:=e;omega))]
theorem Shp.snds {s:Sig} (h:Shp s) (ls:List Le):Shp (snds s ls):=⟨h.fab,h.sW,h.sC,h.sH,h.bW,h.bC,h.bH,zFw ls h.x⟩
theorem Shp.setC {s:Sig} (h:Shp s) {c:Ca} (hc:idP c.1∧c.2.2.2.2.length≤4):Shp (setC s c):=⟨h.fab,h.sW,zkq h.sC,h.sH,h.bW,fun d hd=>by
 rcases zgC.1 hd with rfl | ⟨hd,_⟩
 ·exact hc
 ·exact h.bC d hd,h.bH,h.x⟩
theorem Shp.setW {s:Sig} (h:Shp s) {w:Wi} (hw:idP w.1):Shp (setW s w):=⟨h.fab,zkq h.sW,h.sC,h.sH,fun d hd=>by
 rcases zgC.1 hd with rfl | ⟨hd,_⟩
 ·exact hw
 ·exact h.bW d hd,h.bC,h.bH,h.x⟩
theorem Shp.setH {s:Sig} (h:Shp s) {a:He} (ha:ndP a.1∧idP a.2.1):Shp (setH s a):=⟨h.fab,h.sW,h.sC,zkq h.sH,h.bW,h.bC,fun d hd=>by
 rcases zgC.1 hd with rfl | ⟨hd,_⟩
 ·exact ha
 ·exact h.bH d hd,h.x⟩
theorem Shp.upL {s:Sig} (h:Shp s) (l:List qj):Shp (upL s l):=⟨h.fab,h.sW,h.sC,h.sH,h.bW,h.bC,h.bH,h.x⟩
theorem Shp.upX {s:Sig} (h:Shp s) {x:List Le} (hx:x.length≤1024):Shp (upX s x):=⟨h.fab,h.sW,h.sC,h.sH,h.bW,h.bC,h.bH,hx⟩
structure Gd (k id:Int) (w:Wi) (c:Ca) (h:Int→He) (L:List qj):Prop where
 n0:0≤w.2.1∧w.2.1≤k
 z:w.2.1=0→w.2.2.1=0∧c.2.1=0
 st:1≤w.2.1→(1≤w.2.2.1∧w.2.2.1≤5)∧w.2.2.2.1.1=id∧Uz w.2.2.2.1
 c0:0≤c.2.1∧(c.2.1=w.2.1∨c.2.1+1=w.2.1)
 cz:c.2.1=0→c.2.2.1=0∧(1≤w.2.1→w.2.2.1=1)
 cw:1≤c.2.1→c.2.1=w.2.1→(c.2.2.1=1∧w.2.2.1=1)∨(c.2.2.1=2∧(w.2.2.1=1∨w.2.2.1=2))∨(c.2.2.1=3∧(w.2.2.1=1∨w.2.2.1=3))∨(c.2.2.1=4∧w.2.2.1=4)∨(c.2.2.1=5∧(w.2.2.1=4∨w.2.2.1=5))
 cl:1≤c.2.1→c.2.1 < w.2.1→(w.2.2.1=1∧(c.2.2.1=3∨c.2.2.1=5))∨(w.2.2.1=4∧c.2.2.1=2)
 lg:∀x∈L,x.1=id→x=w.2.2.2.1∧(c.2.2.1=1∨c.2.2.1=2∨c.2.2.1=4)
 lc:(c.2.2.1=1∨c.2.2.1=2∨c.2.2.1=4)→∃x∈L,x.1=id
 hn:∀v,ndP v→0≤(h v).2.2.1∧(h v).2.2.1≤c.2.1
 he:∀v,ndP v→1≤c.2.1→(h v).2.2.1=c.2.1→((h v).2.2.2=true∧(c.2.2.1=1∨c.2.2.1=2))∨((h v).2.2.2=false∧(c.2.2.1=4∨c.2.2.1=5))
 ho:∀v,ndP v→(h v).2.2.2=true→(c.2.2.1=1∨c.2.2.1=2∨c.2.2.1=4)
 wn:c.2.2.1=1∨c.2.2.1=4→c.2.2.2.2≠[]
 wz:c.2.2.1≠1→c.2.2.1≠4→c.2.2.2.2=[]
 wr:∀v∈c.2.2.2.2,ndP v
 wd:c.2.2.2.2.Nodup
 wh:(c.2.2.1=1∨c.2.2.1=2∨c.2.2.1=4)→∀v,ndP v→v∈c.2.2.2.2∨(h v).2.2.1=c.2.1
def LOk (w:Wi) (c:Ca) (h:Int→He) (l:Le):Prop:=
 (l.1=1∧1≤l.2.2.1∧l.2.2.1≤w.2.1∧(l.2.2.1=w.2.1→(l.2.2.2.2.1=true∧(w.2.2.1=1∨w.2.2.1=2∨w.2.2.1=3)∧l.2.2.2.2.2.1=w.2.2.2.1)∨(l.2.2.2.2.1=false∧(w.2.2.1=4∨w.2.2.1=5))))∨
 (l.1=2∧ndP l.2.2.2.1∧1≤l.2.2.1∧l.2.2.1≤c.2.1∧((l.2.2.1=c.2.1∧(c.2.2.1=1∨c.2.2.1=2))∨(l.2.2.1 < c.2.1∧c.2.2.1=4)∨l.2.2.1 < (h l.2.2.2.1).2.2.1))∨
 (l.1=3∧ndP l.2.2.2.1∧1≤l.2.2.1∧l.2.2.1≤c.2.1∧(l.2.2.1=c.2.1→c.2.2.1=4∨c.2.2.1=5))∨
 (l.1=4∧ndP l.2.2.2.1∧1≤l.2.2.1∧l.2.2.1≤(h l.2.2.2.1).2.2.1)∨
 (l.1=5∧1≤l.2.2.1∧l.2.2.1≤c.2.1∧(l.2.2.1=c.2.1→c.2.2.1=2))∨
 (l.1=6∧1≤l.2.2.1∧l.2.2.1≤c.2.1∧(l.2.2.1=c.2.1→c.2.2.1=3))∨
 (l.1=7∧1≤l.2.2.1∧l.2.2.1≤c.2.1∧(l.2.2.1=c.2.1→c.2.2.1=5))
abbrev za2 (s:Sig) (l:Le):Prop:=idP l.2.1∧LOk (wOf s l.2.1) (cOf s l.2.1) (fun v=>hOf s v l.2.1) l
structure Iv (k:Int) (s:Sig):Prop where
 sh:Shp s
 hold:xc s.1 (led s)=0
 lr:∀x∈led s,idP x.1∧Uz x
 g:∀id,idP id→Gd k id (wOf s id) (cOf s id) (fun v=>hOf s v id) (led s)
 l:∀l∈wir s,za2 s l
theorem Gd.led {k id:Int} {w:Wi} {c:Ca} {h:Int→He} {L M:List qj} (g:Gd k id w c h L) (e:∀x,x.1=id→(x∈M↔x∈L)):Gd k id w c h M:=
 {
  g with
  lg:=fun x hx hi=>g.lg x ((e x hi).1 hx) hi
  lc:=fun hc=>by obtain ⟨x,hx,hi⟩:=g.lc hc;exact ⟨x,(e x hi).2 hx,hi⟩}
theorem Gd.mono {k k' id:Int} {w:Wi} {c:Ca} {h:Int→He} {L:List qj} (g:Gd k id w c h L) (e:k≤k'):Gd k' id w c h L:={g with n0:=⟨g.n0.1,by have:=g.n0.2;omega⟩}
theorem zBU {k k':Int} {s s':Sig} (iv:Iv k s) (id:Int) (hid:idP id) (hk:k≤k') (sh:Shp s') (hold:xc s'.1 (led s')=0) (lr:∀x∈led s',x∈led s∨(x.1=id∧Uz x))
  (same:∀j,idP j→j≠id→wOf s' j=wOf s j∧cOf s' j=cOf s j∧∀v,hOf s' v j=hOf s v j) (ls:∀x,x.1≠id→(x∈led s'↔x∈led s))
  (g:Gd k' id (wOf s' id) (cOf s' id) (fun v=>hOf s' v id) (led s'))
  (keep:∀l,l.2.1=id→LOk (wOf s id) (cOf s id) (fun v=>hOf s v id) l→LOk (wOf s' id) (cOf s' id) (fun v=>hOf s' v id) l)
  (new:∀l∈wir s',l∈wir s∨(l.2.1=id∧LOk (wOf s' id) (cOf s' id) (fun v=>hOf s' v id) l)):Iv k' s' where
 sh:=sh
 hold:=hold
 lr:=fun x hx=>by
  rcases lr x hx with h | ⟨rfl,h⟩
  ·exact iv.lr x h
  ·exact ⟨hid,h⟩
 g
  :=fun j hj=>by
  by_cases e:j=id
  ·subst e;exact g
  ·obtain ⟨e1,e2,e3⟩:=same j hj e
   rw [e1,e2,show (fun v=>hOf s' v j)=fun v=>hOf s v j from funext e3]
   exact ((iv.g j hj).mono hk).led fun x hx=>ls x (by rw [hx];exact e)
 l
  :=fun l hl=>by
  rcases new l hl with h | ⟨rfl,h⟩
  ·have hl:=iv.l l h
   by_cases e:l.2.1=id
   ·subst e;exact ⟨hl.1,keep l rfl hl.2⟩
   ·obtain ⟨e1,e2,e3⟩:=same l.2.1 hl.1 e
    refine ⟨hl.1,?_⟩
    rw [e1,e2,show (fun v=>hOf s' v l.2.1)=fun v=>hOf s v l.2.1 from funext e3]
    exact hl.2
  ·exact ⟨hid,h⟩
theorem Iv.less {k:Int} {s:Sig} (iv:Iv k s) {x:List Le} (hx:x.length≤1024) (hm:∀l∈x,l∈wir s):Iv k (upX s x):=⟨iv.sh.upX hx,iv.hold,iv.lr,iv.g,fun l hl=>iv.l l (hm l hl)⟩
theorem Iv.send {k:Int} {s:Sig} (iv:Iv k s) (ls:List Le) (h:∀l∈ls,za2 s l):Iv k (snds s ls):=⟨iv.sh.snds ls,iv.hold,iv.lr,iv.g,fun l hl=>by
 rcases zlG ls hl with h2 | h2
 ·exact iv.l l h2
 ·exact h l h2⟩
inductive Xz (s:Sig) (l:Le):Sig→Prop
 |old (h:l.2.2.1 < (cOf s l.2.1).2.1):Xz s l s
 |same (h:l.2.2.1=(cOf s l.2.1).2.1):Xz s l (snds s (vl (cOf s l.2.1)))
 |fail (h:(cOf s l.2.1).2.1 < l.2.2.1) (hw:l.2.2.2.2.1=true) (e:Int) (he:e≠0) (ha:(gT s.1 (led s) l.2.2.2.2.2.1).2=e) :
   Xz s l (snds (setC s (l.2.1,(l.2.2.1,(3,(e,[]))))) (vl (l.2.1,(l.2.2.1,(3,(e,[]))))))
 |put (h:(cOf s l.2.1).2.1 < l.2.2.1) (hw:l.2.2.2.2.1=true) (ha:gT s.1 (led s) l.2.2.2.2.2.1=(led s++[l.2.2.2.2.2.1],0)) (hh:xc s.1 (led s++[l.2.2.2.2.2.1])=0) :
   Xz s l (snds (setC (upL s (led s++[l.2.2.2.2.2.1])) (l.2.1,(l.2.2.1,(1,(0,N4))))) (Wh (l.2.1,(l.2.2.1,(1,(0,N4))))))
 |gone (h:(cOf s l.2.1).2.1 < l.2.2.1) (hw:l.2.2.2.2.1=false) (hx:∀x∈led s,x.1≠l.2.1) :
   Xz s l (snds (setC s (l.2.1,(l.2.2.1,(5,(0,[]))))) (vl (l.2.1,(l.2.2.1,(5,(0,[]))))))
 |drop (h:(cOf s l.2.1).2.1 < l.2.2.1) (hw:l.2.2.2.2.1=false) (x:qj) (hx:x∈led s) (hi:x.1=l.2.1) :
   Xz s l (snds (setC s (l.2.1,(l.2.2.1,(4,(0,N4))))) (Wh (l.2.1,(l.2.2.1,(4,(0,N4))))))
inductive zuY (s:Sig) (l:Le):Sig→Prop
 |old (h:l.2.2.1 < (hOf s l.2.2.2.1 l.2.1).2.2.1):zuY s l s
 |new (h:(hOf s l.2.2.2.1 l.2.1).2.2.1≤l.2.2.1):zuY s l (snds (setH s (l.2.2.2.1,(l.2.1,(l.2.2.1,decide (l.1=2))))) [(4,(l.2.1,(l.2.2.1,(l.2.2.2.1,(false,(zS,0))))))])
inductive XQ (s:Sig) (l:Le):Sig→Prop
 |old (h:(cOf s l.2.1).2.1≠l.2.2.1∨((cOf s l.2.1).2.2.1≠1∧(cOf s l.2.1).2.2.1≠4)):XQ s l s
 |wait (h:(cOf s l.2.1).2.1=l.2.2.1) (hs:(cOf s l.2.1).2.2.1=1∨(cOf s l.2.1).2.2.1=4) (hw:(cOf s l.2.1).2.2.2.2.erase l.2.2.2.1≠[]) :
   XQ s l (setC s (l.2.1,(l.2.2.1,((cOf s l.2.1).2.2.1,((cOf s l.2.1).2.2.2.1,(cOf s l.2.1).2.2.2.2.erase l.2.2.2.1)))))
 |ready (h:(cOf s l.2.1).2.1=l.2.2.1) (hs:(cOf s l.2.1).2.2.1=1) (hw:(cOf s l.2.1).2.2.2.2.erase l.2.2.2.1=[]) :
   XQ s l (snds (setC s (l.2.1,(l.2.2.1,(2,((cOf s l.2.1).2.2.2.1,[]))))) (vl (l.2.1,(l.2.2.1,(2,((cOf s l.2.1).2.2.2.1,[]))))))
 |gone (h:(cOf s l.2.1).2.1=l.2.2.1) (hs:(cOf s l.2.1).2.2.1=4) (hw:(cOf s l.2.1).2.2.2.2.erase l.2.2.2.1=[]) (M:List qj) (hM:M.Sublist (led s)) (hm:∀x,x∈M↔x∈led s∧x.1≠l.2.1) :
   XQ s l (snds (setC (upL s M) (l.2.1,(l.2.2.1,(5,((cOf s l.2.1).2.2.2.1,[]))))) (vl (l.2.1,(l.2.2.1,(5,((cOf s l.2.1).2.2.2.1,[]))))))
inductive UA (s:Sig) (l:Le):Sig→Prop
 |old (h:(wOf s l.2.1).2.1≠l.2.2.1∨¬(((wOf s l.2.1).2.2.1=1∧(l.1=5∨l.1=6))∨((wOf s l.2.1).2.2.1=4∧l.1=7))):UA s l s
 |ready (h:(wOf s l.2.1).2.1=l.2.2.1) (hs:(wOf s l.2.1).2.2.1=1) (hk:l.1=5):UA s l (setW s (l.2.1,((wOf s l.2.1).2.1,(2,(wOf s l.2.1).2.2.2))))
 |fail (h:(wOf s l.2.1).2.1=l.2.2.1) (hs:(wOf s l.2.1).2.2.1=1) (hk:l.1=6):UA s l (setW s (l.2.1,((wOf s l.2.1).2.1,(3,((wOf s l.2.1).2.2.2.1,l.2.2.2.2.2.2)))))
 |gone (h:(wOf s l.2.1).2.1=l.2.2.1) (hs:(wOf s l.2.1).2.2.1=4) (hk:l.1=7):UA s l (setW s (l.2.1,((wOf s l.2.1).2.1,(5,(wOf s l.2.1).2.2.2))))
theorem zzI (n:Fab) (l:List qj) (x:qj):(gT n l x=(l++[x],0)∧xc n (l++[x])=0)∨((gT n l x).2≠0∧(gT n l x).1=[]):=by
 unfold gT
 by_cases h1:xc n l=0
 ·rw [zN h1,cond_true]
  by_cases h2:Un n.1 x
  ·rw [zN h2,cond_true]
   by_cases h3:xc n (l++[x])=0
   ·rw [zN h3,cond_true];exact .inl ⟨rfl,h3⟩
   ·rw [qu h3,cond_false];exact .inr ⟨h3,rfl⟩
  ·rw [qu h2,cond_false];exact .inr ⟨by decide,rfl⟩
 ·rw [qu h1,cond_false];exact .inr ⟨h1,rfl⟩
theorem zDD {s:Sig} (sh:Shp s) (lr:∀x∈led s,Uz x) {l:Le} (hid:idP l.2.1) (hl:(cOf s l.2.1).2.1 < l.2.2.1→l.2.2.2.2.1=true→Uz l.2.2.2.2.2.1) (hn:(led s).length≤1000000000000000000):qp (vP s (l,())) fun r=>Xz s l r.1:=by
 obtain ⟨i,c,b,e,hf⟩:=Uc sh.sC (by have:=sh.lC;omega) l.2.1
 obtain ⟨hc,hb⟩:=zbz sh.sC hf
 have hc:c=cOf s l.2.1:=hc
 have hfab:s.1.2.2.1.length≤1000000000000000000:=by rw [sh.fab];exact zks
 rw [zfv];unfold Yx
 rw [e,zF]
 refine zq (fun h=>?_) (fun h=>?_)
 ·have h:¬c.2.1 < l.2.2.1:=by have:=wX (show zt c.2.1 l.2.2.1=false by simpa using h);omega
  refine zn (J:=fun x=>Xz s l x.2.1.1) ?_ ?_
  ·refine zq (fun h2=>?_) (fun h2=>?_)
   ·have h2:l.2.2.1=c.2.1:=jg h2
    rw [zlI,zF]
    refine zd ?_
    show Xz s l (snds s (vl c))
    rw [hc]
    exact .same (by rw [←hc];exact h2)
   ·have h2:l.2.2.1≠c.2.1:=jO h2
    exact zd (.old (by rw [←hc];omega))
  ·rintro ⟨j,⟨v,⟨⟩⟩,⟨⟩⟩ hv
   exact zd hv
 have h:c.2.1 < l.2.2.1:=yF (by simpa using h)
 have h':(cOf s l.2.1).2.1 < l.2.2.1:=by rw [←hc];exact h
 have tail:∀(q:Sig) (d:Ca),q.2.2.2.1=cas s→d.1=l.2.1→d.2.2.2.2.length≤1000000000→Xz s l (snds (setC q d) (vl d++Wh d))→
   qp (opt (wj ((q.2.2.2.1,(i,(b,(d,())))))) fun x11=>
    opt (jB ((q.1,(q.2.1,(q.2.2.1,(x11.1,q.2.2.2.2))))) ((d,()))) fun x12=>
    opt (jD (x12.1) ((d,()))) fun x13=>
    some (x13.1,())) fun r=>Xz s l r.1:=by
  intro q d hq hd hw hh
  rw [hq,zag sh.sC (by have:=sh.lC;omega) hf hd,zF]
  rw [zlI,zF,zor _ hw,zF]
  refine zd ?_
  rw [zlH] at hh
  unfold setC at hh
  rw [show cas q=cas s from hq] at hh
  exact hh
 cases hw:l.2.2.2.2.1 with
 |true=>
  refine zn (J:=fun x=>∃d:Ca,d.1=l.2.1∧d.2.2.2.2.length≤1000000000∧x.2.1.2.2.1=d∧(x.2.1.2.1).2.2.2.1=cas s∧Xz s l (snds (setC x.2.1.2.1 d) (vl d++Wh d))) ?_ ?_
  ·refine zh rfl ?_
   rw [ziP hfab,zF]
   refine zn (J:=fun x=>∃d:Ca,d.1=l.2.1∧d.2.2.2.2.length≤1000000000∧x.2.1.2.2.1=d∧(x.2.1.1).2.2.2.1=cas s∧Xz s l (snds (setC x.2.1.1 d) (vl d++Wh d))) ?_ ?_
   ·rcases zzI s.1 (led s) l.2.2.2.2.2.1 with ⟨ha,hh⟩ | ⟨ha,_⟩
    ·rw [ha]
     refine zg rfl ?_
     have hnodes:yP (upL s (led s++[l.2.2.2.2.2.1])) (l.2.2.2.2.2.1,())=some (upL s (led s++[l.2.2.2.2.2.1]),(N4,())):=zos (s:=upL s (led s++[l.2.2.2.2.2.1])) (x:=l.2.2.2.2.2.1) sh.fab (hl h' hw)
     refine zo (ve hnodes (zd ⟨_,rfl,?_,rfl,rfl,Xz.put h' hw ha hh⟩))
     show N4.length≤_
     decide
    ·refine zh (by rw [ji ha];rfl) (zd ⟨_,rfl,?_,rfl,rfl,Xz.fail h' hw _ ha rfl⟩)
     show ([]:List Int).length≤_
     decide
   ·rintro ⟨j,⟨q,a,d,⟨⟩⟩,⟨⟩⟩ ⟨d',h1,h2,h3,h4,h5⟩
    exact zd ⟨d',h1,h2,h3,h4,h5⟩
  ·rintro ⟨j,⟨a,q,d,⟨⟩⟩,⟨⟩⟩ ⟨d',h1,h2,rfl,h4,h5⟩
   exact tail q _ h4 h1 h2 h5
 |false=>
  refine zn (J:=fun x=>∃d:Ca,d.1=l.2.1∧d.2.2.2.2.length≤1000000000∧x.2.1.2.2.1=d∧(x.2.1.2.1).2.2.2.1=cas s∧Xz s l (snds (setC x.2.1.2.1 d) (vl d++Wh d))) ?_ ?_
  ·refine zg rfl ?_
   obtain ⟨i1,i3⟩:=zy0 hn l.2.1
   rw [i1,zF]
   refine zn (J:=fun x=>∃d:Ca,d.1=l.2.1∧d.2.2.2.2.length≤1000000000∧x.2.1.2.1=d∧(x.2.1.1).2.2.2.1=cas s∧Xz s l (snds (setC x.2.1.1 d) (vl d++Wh d))) ?_ ?_
   ·rcases i3 with ⟨e0,k,x,ei,hx,hxi,_⟩ | ⟨e4,_,hno⟩
    ·rw [e0,ei]
     refine zg rfl (zo (zP (n:=k) hx ?_))
     rw [zos sh.fab (lr x (gf hx)),zF]
     refine zd ⟨_,rfl,?_,rfl,rfl,Xz.drop h' hw x (gf hx) hxi⟩
     show N4.length≤_
     decide
    ·rw [e4]
     refine zh rfl (zd ⟨_,rfl,?_,rfl,rfl,Xz.gone h' hw hno⟩)
     show ([]:List Int).length≤_
     decide
   ·rintro ⟨j,⟨q,d,⟨⟩⟩,⟨⟩⟩ ⟨d',h1,h2,h3,h4,h5⟩
    exact zd ⟨d',h1,h2,h3,h4,h5⟩
  ·rintro ⟨j,⟨a,q,d,⟨⟩⟩,⟨⟩⟩ ⟨d',h1,h2,rfl,h4,h5⟩
   exact tail q _ h4 h1 h2 h5
theorem Shp.hr {s:Sig} (sh:Shp s):∀a∈hel s,1≤a.2.1∧a.2.1≤6:=fun a ha=>(sh.bH a ha).2
theorem zDE {s:Sig} (sh:Shp s) {l:Le} (hid:idP l.2.1):qp (wA s (l,())) fun r=>zuY s l r.1:=by
 obtain ⟨i,c,b,e,hf⟩:=zfG (n:=l.2.2.2.1) sh.sH (by have:=sh.lH;omega) sh.hr hid
 obtain ⟨hc,hb⟩:=zbz sh.sH hf
 have hc:c=hOf s l.2.2.2.1 l.2.1:=hc
 have hi:=zDC sh (n:=l.2.2.2.1) hid
 rw [←hc] at hi
 rw [zas];unfold gZ
 rw [e,zF]
 refine zq (fun h=>?_) (fun h=>?_)
 ·have h:l.2.2.1 < c.2.2.1:=yF h
  exact zd (.old (by rw [←hc];exact h))
 ·have h:c.2.2.1≤l.2.2.1:=wX h
  have hk:hK (c.1,(c.2.1,(l.2.2.1,zj l.1 2)))=l.2.2.2.1*8+l.2.1:=by show c.1*8+c.2.1=_;rw [hi.1,hi.2]
  rw [show vC (((s,(i,(c,(b,())))):Sig×(Int×(He×(Bool×Unit)))).1.2.2.2.2.1,(i,(b,((c.1,(c.2.1,(l.2.2.1,zj l.1 2))),()))))=_ from zia sh.sH (by have:=sh.lH;omega) hf hk,zF,zhR,zF]
  refine zd ?_
  have e2:(c.1,(c.2.1,(l.2.2.1,zj l.1 2)))=((l.2.2.2.1,(l.2.1,(l.2.2.1,decide (l.1=2)))):He):=by
   rw [hi.1,hi.2,wM];rfl
  rw [e2]
  exact zuY.new (by rw [←hc];exact h)
theorem zG2 {l:List Int} (hn:l.length≤1000000000000000000) (b:Int):qp (qT (l,b,())) fun r=>(∃i:Nat,r.1=(i:Int)∧l[i]?=some b∧∀j,j < i→l[j]?≠some b)∨(r.1 = -1∧¬b∈l):=by
 rw [Kf];unfold Zh
 refine zn (J:=fun x=>(x.1=0∧∀j,j < l.length→l[j]?≠some b)∨(x.1=1∧∃i:Nat,x.2.1.1=(i:Int)∧l[i]?=some b∧∀j,j < i→l[j]?≠some b))
  (qz l.length (fun i s=>s=((0,((i:Int),())),())∧∀j,j < i→l[j]?≠some b) (zyK hn) ⟨rfl,fun j hj=>by omega⟩ ?_ ?_) ?_
 ·rintro i _ hi ⟨rfl,hp⟩
  have hx:l[i]?=some l[i]:=List.getElem?_eq_getElem hi
  generalize l[i]=s at hx
  refine zh (qx (show (i:Int) < (l.length:Int) by omega)) (zo (zP (n:=i) hx ?_))
  refine zq (fun h=>?_) (fun h=>?_)
  ·have h:b=s:=jg h
   subst h
   exact zd (zE (.inr ⟨rfl,i,rfl,hx,hp⟩))
  ·have h:b≠s:=jO h
   refine zd (qR ⟨congrArg (fun z=>(((0:Int),(z,())),())) (qQ (by omega)),fun j hj hb=>?_⟩)
   rcases Nat.lt_or_ge j i with hji | hji
   ·exact hp j hji hb
   ·have:j=i:=by omega
    subst this
    rw [hx] at hb
    exact h (Option.some.inj hb).symm
 ·rintro _ ⟨rfl,hp⟩
  exact zg (qa (show ¬(l.length:Int) < (l.length:Int) by omega)) (zd (zE (.inl ⟨rfl,hp⟩)))
 ·rintro ⟨j,⟨v,w,⟨⟩⟩,⟨⟩⟩ (⟨rfl,hq⟩ | ⟨rfl,hq⟩)
  ·refine zh rfl (zd (.inr ⟨rfl,fun hb=>?_⟩))
   obtain ⟨k,hk,e⟩:=List.mem_iff_getElem.1 hb
   exact hq k hk (by rw [List.getElem?_eq_getElem hk,e])
  ·exact zg rfl (zd (.inl hq))
theorem zy8:∀(l:List Int) (i:Nat) (b:Int),l[i]?=some b→(∀j,j < i→l[j]?≠some b)→l.take i++l.drop (i+1)=l.erase b
 |[],i,b,h,_=>by simp at h
 |a::l,0,b,h,_=>by
  simp at h;subst h
  simp
 |a::l,i+1,b,h,h2=>by
  have hne:a≠b:=fun e=>h2 0 (by omega) (by simp [e])
  rw [List.erase_cons_tail (by simpa using hne)]
  have:=zy8 l i b (by simpa using h) (fun j hj=>by have:=h2 (j+1) (by omega);simpa using this)
  simp only [List.take_succ_cons,List.drop_succ_cons,List.cons_append]
  rw [this]
theorem zHS {l:List Int} {i:Nat} (hi:i < l.length) (hn:l.length≤1000000000):vW (l,((i:Int),()))=some (l.take i++l.drop (i+1),()):=by
 rw [zh9];unfold KG
 rw [zlB l i (by omega),zF,show wrF .i64 ((i:Int)+1)=((i+1:Nat):Int) from qQ (by omega),ze4 l (i+1) (by omega),zF]
 exact xd (zh (QR (by simp;omega) (by simp;omega)) (zd rfl))
theorem zG3 {l:List Le} {i:Nat} (hi:i < l.length) (hn:l.length≤1000000000):yv (l,((i:Int),()))=some (l.take i++l.drop (i+1),()):=by
 rw [zcw];unfold Jf
 rw [zlB l i (by omega),zF,show wrF .i64 ((i:Int)+1)=((i+1:Nat):Int) from qQ (by omega),ze4 l (i+1) (by omega),zF]
 exact xd (zh (QR (by simp;omega) (by simp;omega)) (zd rfl))
theorem zy9 {q:Ca} (hq:q.2.2.2.2.length≤4) (v:Int):qp (opt (qT ((q.2.2.2.2,(v,())))) fun x1=>
   opt
     (bif (!(zt (x1.1) (0))) then opt (vW ((q.2.2.2.2,(x1.1,())))) fun x2=>
     some (0,(((q.1,(q.2.1,(q.2.2.1,(q.2.2.2.1,x2.1)))),()),()))
    else some (0,((q,()),()))) fun (x3:Nat×((Ca×Unit)×Unit))=>some x3.2.1.1) fun r=>r=(q.1,(q.2.1,(q.2.2.1,(q.2.2.2.1,q.2.2.2.2.erase v)))):=by
 refine zn (zG2 (by omega) v) ?_
 rintro ⟨i,⟨⟩⟩ (⟨k,hk,hx,hp⟩ | ⟨hk,hn⟩)
 ·simp only at hk
  subst hk
  have hlt:k < q.2.2.2.2.length:=by
   rcases Nat.lt_or_ge k q.2.2.2.2.length with h | h
   ·exact h
   ·rw [List.getElem?_eq_none h] at hx;cases hx
  refine zo (zh (show (!zt (k:Int) 0)=true by rw [qa (by omega)];rfl) ?_)
  rw [zHS hlt (by omega),zF]
  refine zd (zd ?_)
  rw [zy8 _ _ _ hx hp]
 ·simp only at hk
  subst hk
  refine zo (zg rfl (zd (zd ?_)))
  rw [List.erase_of_not_mem hn]
theorem zDF {n:Fab} {l:List qj} (h:xc n l=0) {id:Int} (hx:∃x∈l,x.1=id):∃M,zd9 n l id=(M,0)∧M.Sublist l∧∀x,x∈M↔x∈l∧x.1≠id:=by
 have ok:=zhQ h
 obtain ⟨_,i3⟩:=zy0 (l:=l) (by have:=ok.n12;omega) id
 rcases i3 with ⟨e0,k,y,ek,hk,hy,_⟩ | ⟨_,_,hno⟩
 rotate_left
 ·obtain ⟨x,hm,hi⟩:=hx
  exact absurd hi (hno x hm)
 refine ⟨l.eraseIdx k,?_,List.eraseIdx_sublist _ _,fun x=>?_⟩
 ·unfold zd9
  rw [zN h,cond_true,e0,zN rfl,cond_true,ek,Int.toNat_natCast,List.eraseIdx_eq_take_drop_succ]
 ·rw [List.mem_eraseIdx_iff_getElem?]
  constructor
  ·rintro ⟨j,hj,e⟩
   refine ⟨gf e,fun hi=>?_⟩
   rcases Nat.lt_or_gt_of_ne hj with h1 | h1
   ·exact ok.d k j y x h1 hk e (by rw [hi,hy])
   ·exact ok.d j k x y h1 e hk (by rw [hi,hy])
  ·rintro ⟨hm,hne⟩
   obtain ⟨j,hj,e⟩:=List.mem_iff_getElem.1 hm
   have hx2:l[j]?=some x:=by rw [List.getElem?_eq_getElem hj,e]
   refine ⟨j,fun e2=>?_,hx2⟩
   subst e2
   rw [hx2] at hk
   cases hk
   exact hne hy
theorem zqg {s:Sig} (sh:Shp s) {l:Le} (hid:idP l.2.1) (hold:xc s.1 (led s)=0) {i:Int} {c:Ca} {b:Bool} (hf:Fnd (κ:=cK) (cas s) l.2.1 (zC l.2.1) i c b) (hc:c=cOf s l.2.1) (hn:c.2.1=l.2.2.1) (hst:c.2.2.1=1∨c.2.2.1=4) (hlc:c.2.2.1=4→∃x∈led s,x.1=l.2.1) (hw:c.2.2.2.2.length≤4)
  {d:Ca} (hd:d=(c.1,(c.2.1,(c.2.2.1,(c.2.2.2.1,c.2.2.2.2.erase l.2.2.2.1))))) :
  qp (opt (bif (zj ((((d.2.2.2.2).length:Nat):Int)) (0)) then opt (bif (zj (d.2.2.1) (1)) then some (0,(((d.1,(d.2.1,(2,d.2.2.2))),(s,())),()))
        else opt (Zk ((s.1,(s.2.1,(d.1,()))))) fun x4=>
         opt (bif (zj (x4.2.1) (0)) then some (0,(((s.1,(x4.1,s.2.2)),()),()))
          else some (0,((s,()),()))) fun (x5:Nat×((Sig×Unit)×Unit))=>
         some (0,(((d.1,(d.2.1,(5,d.2.2.2))),(x5.2.1.1,())),()))) fun (x6:Nat×((Ca×(Sig×Unit))×Unit))=>
       some (0,((x6.2.1.1,(x6.2.1.2.1,())),()))
      else some (0,((d,(s,())),()))) fun (x7:Nat×((Ca×(Sig×Unit))×Unit))=>
     opt (wj ((x7.2.1.2.1.2.2.2.1,(i,(true,(x7.2.1.1,())))))) fun x8=>
     opt (jB ((x7.2.1.2.1.1,(x7.2.1.2.1.2.1,(x7.2.1.2.1.2.2.1,(x8.1,x7.2.1.2.1.2.2.2.2))))) ((x7.2.1.1,()))) fun x9=>
     some (x9.1,())) fun r=>b=true→XQ s l r.1:=by
 have hci:c.1=l.2.1:=by rw [hc];exact zot s _
 have hfab:s.1.2.2.1.length≤1000000000000000000:=by rw [sh.fab];exact zks
 cases b with
 |false=>
  exact (fun hno=>(by
   obtain ⟨_,_,h2⟩:=hf
   have h3:=(h2 rfl).1
   rw [h3] at hst
   rcases hst with h | h
   ·exact absurd (show (0:Int)=1 from h) (by decide)
   ·exact absurd (show (0:Int)=4 from h) (by decide))) ()
 |true=>
 have hn':(cOf s l.2.1).2.1=l.2.2.1:=by rw [←hc];exact hn
 refine zn (J:=fun x=>(x.2.1.2.1).2.2.2.1=cas s∧(x.2.1.1).1=l.2.1∧XQ s l (snds (setC x.2.1.2.1 x.2.1.1) (vl x.2.1.1))) ?_ ?_
 ·refine zq (fun h=>?_) (fun h=>?_)
  ·have he:c.2.2.2.2.erase l.2.2.2.1=[]:=by
    have h:=jg h
    rw [hd] at h
    exact List.length_eq_zero_iff.1 (by simpa using h)
   have he':(cOf s l.2.1).2.2.2.2.erase l.2.2.2.1=[]:=by rw [←hc];exact he
   refine zn (J:=fun x=>(x.2.1.2.1).2.2.2.1=cas s∧(x.2.1.1).1=l.2.1∧XQ s l (snds (setC x.2.1.2.1 x.2.1.1) (vl x.2.1.1))) ?_ ?_
   ·refine zq (fun h1=>?_) (fun h1=>?_)
    ·have h1:c.2.2.1=1:=by have:=jg h1;rw [hd] at this;exact this
     refine zd ⟨rfl,by rw [hd];exact hci,?_⟩
     show XQ s l (snds (setC s (d.1,(d.2.1,(2,d.2.2.2)))) (vl (d.1,(d.2.1,(2,d.2.2.2)))))
     have e:(d.1,(d.2.1,(2,d.2.2.2)))=((l.2.1,(l.2.2.1,(2,((cOf s l.2.1).2.2.2.1,[])))):Ca):=by rw [hd];simp only;rw [he,hci,hn,hc]
     rw [e]
     exact XQ.ready hn' (by rw [←hc];exact h1) he'
    ·have h1:c.2.2.1=4:=by
      have:=jO h1
      rw [hd] at this
      rcases hst with h | h
      ·exact absurd h this
      ·exact h
     obtain ⟨M,hM,hs,hm⟩:=zDF hold (hlc h1)
     have ed1:d.1=l.2.1:=by rw [hd];exact hci
     rw [zpN hfab,ed1,show zd9 s.1 s.2.1 l.2.1=(M,0) from hM,zF]
     refine zo (zh (wa rfl) (zd (zd ⟨rfl,rfl,?_⟩)))
     show XQ s l (snds (setC (upL s M) (l.2.1,(d.2.1,(5,d.2.2.2)))) (vl (l.2.1,(d.2.1,(5,d.2.2.2)))))
     have e:(l.2.1,(d.2.1,(5,d.2.2.2)))=((l.2.1,(l.2.2.1,(5,((cOf s l.2.1).2.2.2.1,[])))):Ca):=by rw [hd];simp only;rw [he,hn,hc]
     rw [e]
     exact XQ.gone hn' (by rw [←hc];exact h1) he' M hs hm
   ·rintro ⟨j,⟨a,q,⟨⟩⟩,⟨⟩⟩ h2
    exact zd h2
  ·have he:c.2.2.2.2.erase l.2.2.2.1≠[]:=by
    have h:=jO h
    rw [hd] at h
    intro e
    exact h (by simp only;rw [e];rfl)
   refine zd ⟨rfl,by rw [hd];exact hci,?_⟩
   show XQ s l (snds (setC s d) (vl d))
   have e0:vl d=[]:=by
    unfold vl
    have:d.2.2.1=c.2.2.1:=by rw [hd]
    rw [this]
    rcases hst with h | h<;>rw [h]<;>rfl
   have e:d=((l.2.1,(l.2.2.1,((cOf s l.2.1).2.2.1,((cOf s l.2.1).2.2.2.1,(cOf s l.2.1).2.2.2.2.erase l.2.2.2.1)))):Ca):=by rw [hd,←hc,hci,hn]
   rw [e0,zFx,e]
   exact XQ.wait hn' (by rw [←hc];exact hst) (by rw [←hc];exact he)
 ·rintro ⟨j,⟨a,q,⟨⟩⟩,⟨⟩⟩ ⟨h1,h2,h3⟩
  simp only at h1 h2 h3
  simp only
  rw [h1,zag sh.sC (by have:=sh.lC;omega) hf h2,zF,zlI,zF]
  refine zd fun _=>?_
  unfold setC at h3
  rw [show cas q=cas s from h1] at h3
  exact h3
theorem zBV {s:Sig} (sh:Shp s) {l:Le} (hid:idP l.2.1) (hold:xc s.1 (led s)=0) (hlc:(cOf s l.2.1).2.2.1=4→∃x∈led s,x.1=l.2.1):qp (vD s (l,())) fun r=>XQ s l r.1:=by
 obtain ⟨i,c,b,e,hf⟩:=Uc sh.sC (by have:=sh.lC;omega) l.2.1
 obtain ⟨hc,hb⟩:=zbz sh.sC hf
 have hc:c=cOf s l.2.1:=hc
 have hw:c.2.2.2.2.length≤4:=by rw [hc];exact zFZ sh _
 rw [zeY];unfold WZ
 rw [e,zF]
 cases b with
 |false=>
  refine zh rfl (zd (.old (.inr ?_)))
  have h3:=(hf.no rfl).1
  rw [←hc,h3]
  exact ⟨show (0:Int)≠1 by decide,show (0:Int)≠4 by decide⟩
 |true=>
 refine zg rfl (zq (fun h=>?_) (fun h=>?_))
 ·have h:c.2.1≠l.2.2.1:=jO (by simpa using h)
  exact zd (.old (.inl (by rw [←hc];exact h)))
 have hn:c.2.1=l.2.2.1:=jg (by simpa using h)
 refine zq (fun h1=>?_) (fun h1=>?_)
 ·have h1:c.2.2.1≠1:=jO (by simpa using h1)
  refine zq (fun h4=>?_) (fun h4=>?_)
  ·have h4:c.2.2.1≠4:=jO (by simpa using h4)
   exact zd (.old (.inr (by rw [←hc];exact ⟨h1,h4⟩)))
  ·have h4:c.2.2.1=4:=jg (by simpa using h4)
   obtain ⟨r,hr,hd⟩:=zy9 hw l.2.2.2.1
   have T:=zqg sh hid hold hf hc hn (.inr h4) (by rw [hc];exact hlc) hw hd
   revert hr
   simp only
   cases qT (c.2.2.2.2,(l.2.2.2.1,())) with
   |none=>intro hr;cases hr
   |some x1=>
    rw [zF,zF]
    generalize (bif !zt x1.1 0 then _ else _:Option (Nat×((Ca×Unit)×Unit)))=o
    cases o with
    |none=>intro hr;cases hr
    |some x3=>
     intro hr
     rw [zF] at hr
     cases hr
     rw [zF]
     exact T.imp fun r h=>⟨h.1,h.2 rfl⟩
 ·have h1:c.2.2.1=1:=jg (by simpa using h1)
  obtain ⟨r,hr,hd⟩:=zy9 hw l.2.2.2.1
  have T:=zqg sh hid hold hf hc hn (.inl h1) (by rw [hc];exact hlc) hw hd
  revert hr
  simp only
  cases qT (c.2.2.2.2,(l.2.2.2.1,())) with
  |none=>intro hr;cases hr
  |some x1=>
   rw [zF,zF]
   generalize (bif !zt x1.1 0 then _ else _:Option (Nat×((Ca×Unit)×Unit)))=o
   cases o with
   |none=>intro hr;cases hr
   |some x3=>
    intro hr
    rw [zF] at hr
    cases hr
    rw [zF]
    exact T.imp fun r h=>⟨h.1,h.2 rfl⟩
theorem zDG {s:Sig} (sh:Shp s) {l:Le} (hid:idP l.2.1):qp (yN s (l,())) fun r=>UA s l r.1:=by
 obtain ⟨i,w,b,e,hf⟩:=Zm sh.sW (by have:=sh.lW;omega) l.2.1
 obtain ⟨hw,hb⟩:=zbz sh.sW hf
 have hw:w=wOf s l.2.1:=hw
 have hwi:w.1=l.2.1:=by rw [hw];exact ztg s _
 rw [zdf];unfold Wa
 rw [e,zF]
 cases b with
 |false=>
  refine zh rfl (zd (.old (.inr ?_)))
  have h3:=(hf.no rfl).1
  rw [←hw,h3]
  rintro (⟨h,_⟩ | ⟨h,_⟩)
  ·exact absurd (show (0:Int)=1 from h) (by decide)
  ·exact absurd (show (0:Int)=4 from h) (by decide)
 |true=>
 refine zg rfl (zq (fun h=>?_) (fun h=>?_))
 ·have h:w.2.1≠l.2.2.1:=jO (by simpa using h)
  exact zd (.old (.inl (by rw [←hw];exact h)))
 have hn:w.2.1=l.2.2.1:=jg (by simpa using h)
 have hn':(wOf s l.2.1).2.1=l.2.2.1:=by rw [←hw];exact hn
 refine zn (J:=fun x=>(x.1=0∧(x.2.1.1).1=l.2.1∧UA s l (setW s x.2.1.1))∨(x.1≠0∧UA s l s)) ?_ ?_
 ·by_cases h1:w.2.2.1=1
  ·have h1':(wOf s l.2.1).2.2.1=1:=by rw [←hw];exact h1
   refine zh (wa h1) (zq (fun h5=>?_) (fun h5=>?_))
   ·have h5:l.1=5:=jg h5
    refine zd (.inl ⟨rfl,hwi,?_⟩)
    show UA s l (setW s (w.1,(w.2.1,(2,w.2.2.2))))
    rw [hwi,hw]
    exact .ready hn' h1' h5
   have h5:l.1≠5:=jO h5
   refine zn (J:=fun x=>(x.1=0∧(x.2.1.1).1=l.2.1∧UA s l (setW s x.2.1.1))∨(x.1≠0∧UA s l s)) ?_ ?_
   ·refine zh (wa h1) (zq (fun h6=>?_) (fun h6=>?_))
    ·have h6:l.1=6:=jg h6
     refine zd (.inl ⟨rfl,hwi,?_⟩)
     show UA s l (setW s (w.1,(w.2.1,(3,(w.2.2.2.1,l.2.2.2.2.2.2)))))
     rw [hwi,hw]
     exact .fail hn' h1' h6
    have h6:l.1≠6:=jO h6
    refine zo (zg (ji (show w.2.2.1≠4 by omega)) (zd ?_))
    exact zg rfl (zd (.inr ⟨show (1:Nat)≠0 by decide,.old (.inr (by rw [h1'];rintro (⟨_,h | h⟩ | ⟨h,_⟩)<;>omega))⟩))
   ·rintro ⟨j,⟨a,⟨⟩⟩,⟨⟩⟩ (⟨h2,h3,h4⟩ | ⟨h2,h4⟩)
    ·simp only at h2
     subst h2
     exact zh rfl (zd (.inl ⟨rfl,h3,h4⟩))
    ·simp only at h2
     refine zg (by cases j with
      |zero=>exact absurd rfl h2
      |succ n=>rfl) (zd (.inr ⟨show (1:Nat)≠0 by decide,h4⟩))
  ·refine zg (ji h1) ?_
   refine zn (J:=fun x=>(x.1=0∧(x.2.1.1).1=l.2.1∧UA s l (setW s x.2.1.1))∨(x.1≠0∧UA s l s)) ?_ ?_
   ·refine zg (ji h1) ?_
    refine zn (J:=fun x=>(x.1=0∧(x.2.1.1).1=l.2.1∧UA s l (setW s x.2.1.1))∨(x.1≠0∧UA s l s)) ?_ ?_
    ·refine zq (fun h4=>?_) (fun h4=>?_)
     ·have h4:w.2.2.1=4:=jg h4
      have h4':(wOf s l.2.1).2.2.1=4:=by rw [←hw];exact h4
      refine zq (fun h7=>?_) (fun h7=>?_)
      ·have h7:l.1=7:=jg h7
       refine zd (.inl ⟨rfl,hwi,?_⟩)
       show UA s l (setW s (w.1,(w.2.1,(5,w.2.2.2))))
       rw [hwi,hw]
       exact .gone hn' h4' h7
      ·have h7:l.1≠7:=jO h7
       exact zd (.inr ⟨show (1:Nat)≠0 by decide,.old (.inr (by rw [h4'];rintro (⟨h,_⟩ | ⟨_,h⟩)<;>omega))⟩)
     ·have h4:w.2.2.1≠4:=jO h4
      exact zd (.inr ⟨show (1:Nat)≠0 by decide,.old (.inr (by rw [←hw];rintro (⟨h,_⟩ | ⟨h,_⟩)<;>omega))⟩)
    ·rintro ⟨j,⟨a,⟨⟩⟩,⟨⟩⟩ (⟨h2,h3,h4⟩ | ⟨h2,h4⟩)
     ·simp only at h2
      subst h2
      exact zh rfl (zd (.inl ⟨rfl,h3,h4⟩))
     ·simp only at h2
      refine zg (by cases j with
       |zero=>exact absurd rfl h2
       |succ n=>rfl) (zd (.inr ⟨show (1:Nat)≠0 by decide,h4⟩))
   ·rintro ⟨j,⟨a,⟨⟩⟩,⟨⟩⟩ (⟨h2,h3,h4⟩ | ⟨h2,h4⟩)
    ·simp only at h2
     subst h2
     exact zh rfl (zd (.inl ⟨rfl,h3,h4⟩))
    ·simp only at h2
     refine zg (by cases j with
      |zero=>exact absurd rfl h2
      |succ n=>rfl) (zd (.inr ⟨show (1:Nat)≠0 by decide,h4⟩))
 ·rintro ⟨j,⟨a,⟨⟩⟩,⟨⟩⟩ (⟨h2,h3,h4⟩ | ⟨h2,h4⟩)
  ·simp only at h2 h3 h4
   subst h2
   refine zh rfl ?_
   rw [show qM (s.2.2.1,(i,(true,(a,()))))=_ from Yy sh.sW (by have:=sh.lW;omega) hf h3,zF]
   exact zd h4
  ·simp only at h2
   refine zg (by cases j with
    |zero=>exact absurd rfl h2
    |succ n=>rfl) (zd h4)
inductive Yn (s:Sig) (l:Le):Sig→Prop
 |ask (h:l.1=1) {s'} (hs:Xz s l s'):Yn s l s'
 |ins (h:l.1=2∨l.1=3) {s'} (hs:zuY s l s'):Yn s l s'
 |done (h:l.1=4) {s'} (hs:XQ s l s'):Yn s l s'
 |ans (h:l.1=5∨l.1=6∨l.1=7) {s'} (hs:UA s l s'):Yn s l s'
theorem zuZ {k:Int} {s:Sig} (iv:Iv k s) {c:Ca} (hid:idP c.1) (hcl:c.2.2.2.2.length≤4) {M:List qj} (hold:xc s.1 M=0) (lr:∀x∈M,x∈led s∨(x.1=c.1∧Uz x)) (ls:∀x,x.1≠c.1→(x∈M↔x∈led s))
  (g:Gd k c.1 (wOf s c.1) c (fun v=>hOf s v c.1) M) (keep:∀l,LOk (wOf s c.1) (cOf s c.1) (fun v=>hOf s v c.1) l→LOk (wOf s c.1) c (fun v=>hOf s v c.1) l)
  (X:List Le) (new:∀l∈X,l.2.1=c.1∧LOk (wOf s c.1) c (fun v=>hOf s v c.1) l):Iv k (snds (setC (upL s M) c) X):=by
 have e:∀j,cOf (snds (setC (upL s M) c) X) j=if j=c.1 then c else cOf s j:=fun j=>Ud (iv.sh.upL M) c j
 have e1:cOf (snds (setC (upL s M) c) X) c.1=c:=by rw [e,if_pos rfl]
 refine zBU iv c.1 hid (Int.le_refl k) (((iv.sh.upL M).setC ⟨hid,hcl⟩).snds X) hold lr (fun j hj hne=>⟨rfl,by rw [e,if_neg hne],fun v=>rfl⟩) ls ?_ ?_ ?_
 ·rw [e1];exact g
 ·rw [e1];exact fun l _ h=>keep l h
 ·rw [e1]
  intro l hl
  rcases zlG X hl with h | h
  ·exact .inl h
  ·exact .inr (new l h)
theorem zlJ {k:Int} {s:Sig} (iv:Iv k s) {c:Ca} (hid:idP c.1) (hcl:c.2.2.2.2.length≤4)
  (g:Gd k c.1 (wOf s c.1) c (fun v=>hOf s v c.1) (led s)) (keep:∀l,LOk (wOf s c.1) (cOf s c.1) (fun v=>hOf s v c.1) l→LOk (wOf s c.1) c (fun v=>hOf s v c.1) l)
  (X:List Le) (new:∀l∈X,l.2.1=c.1∧LOk (wOf s c.1) c (fun v=>hOf s v c.1) l):Iv k (snds (setC s c) X):=
 zuZ iv hid hcl (M:=led s) iv.hold (fun x hx=>.inl hx) (fun x _=>Iff.rfl) g keep X new
theorem zG4 {k:Int} {s:Sig} (iv:Iv k s) {a:He} (hid:idP a.2.1) (hn:ndP a.1)
  (g:Gd k a.2.1 (wOf s a.2.1) (cOf s a.2.1) (fun v=>if v=a.1 then a else hOf s v a.2.1) (led s)) (keep:∀l,LOk (wOf s a.2.1) (cOf s a.2.1) (fun v=>hOf s v a.2.1) l→LOk (wOf s a.2.1) (cOf s a.2.1) (fun v=>if v=a.1 then a else hOf s v a.2.1) l)
  (X:List Le) (new:∀l∈X,l.2.1=a.2.1∧LOk (wOf s a.2.1) (cOf s a.2.1) (fun v=>if v=a.1 then a else hOf s v a.2.1) l):Iv k (snds (setH s a) X):=by
 have e:∀v j,idP j→hOf (snds (setH s a) X) v j=if v=a.1∧j=a.2.1 then a else hOf s v j:=fun v j hj=>zHR iv.sh a v j hj hid
 have e1:(fun v=>hOf (snds (setH s a) X) v a.2.1)=fun v=>if v=a.1 then a else hOf s v a.2.1:=by
  funext v
  rw [e v _ hid]
  by_cases h:v=a.1
  ·rw [if_pos ⟨h,rfl⟩,if_pos h]
  ·rw [if_neg (fun q=>h q.1),if_neg h]
 refine zBU iv a.2.1 hid (Int.le_refl k) ((iv.sh.setH ⟨hn,hid⟩).snds X) iv.hold (fun x hx=>.inl hx) (fun j hj hne=>⟨rfl,rfl,fun v=>by rw [e v j hj,if_neg (fun q=>hne q.2)]⟩) (fun x _=>Iff.rfl) ?_ ?_ ?_
 ·rw [e1];exact g
 ·rw [e1];exact fun l _ h=>keep l h
 ·rw [e1]
  intro l hl
  rcases zlG X hl with h | h
  ·exact .inl h
  ·exact .inr (new l h)
theorem zkt {k k':Int} {s:Sig} (iv:Iv k s) (hk:k≤k') {w:Wi} (hid:idP w.1)
  (g:Gd k' w.1 w (cOf s w.1) (fun v=>hOf s v w.1) (led s)) (keep:∀l,LOk (wOf s w.1) (cOf s w.1) (fun v=>hOf s v w.1) l→LOk w (cOf s w.1) (fun v=>hOf s v w.1) l)
  (X:List Le) (new:∀l∈X,l.2.1=w.1∧LOk w (cOf s w.1) (fun v=>hOf s v w.1) l):Iv k' (snds (setW s w) X):=by
 have e:∀j,wOf (snds (setW s w) X) j=if j=w.1 then w else wOf s j:=fun j=>zth iv.sh w j
 have e1:wOf (snds (setW s w) X) w.1=w:=by rw [e,if_pos rfl]
 refine zBU iv w.1 hid hk ((iv.sh.setW hid).snds X) iv.hold (fun x hx=>.inl hx) (fun j hj hne=>⟨by rw [e,if_neg hne],rfl,fun v=>rfl⟩) (fun x _=>Iff.rfl) ?_ ?_ ?_
 ·rw [e1];exact g
 ·rw [e1];exact fun l _ h=>keep l h
 ·rw [e1]
  intro l hl
  rcases zlG X hl with h | h
  ·exact .inl h
  ·exact .inr (new l h)
theorem zku {c:Ca} {l:Le} (h:l∈vl c):l.2.1=c.1∧l.2.2.1=c.2.1∧((c.2.2.1=2∧l.1=5)∨(c.2.2.1=3∧l.1=6)∨(c.2.2.1=5∧l.1=7)):=by
 unfold vl at h
 by_cases h2:c.2.2.1=2
 ·rw [if_pos h2] at h;rw [List.mem_singleton.1 h];exact ⟨rfl,rfl,.inl ⟨h2,rfl⟩⟩
 rw [if_neg h2] at h
 by_cases h3:c.2.2.1=3
 ·rw [if_pos h3] at h;rw [List.mem_singleton.1 h];exact ⟨rfl,rfl,.inr (.inl ⟨h3,rfl⟩)⟩
 rw [if_neg h3] at h
 by_cases h5:c.2.2.1=5
 ·rw [if_pos h5] at h;rw [List.mem_singleton.1 h];exact ⟨rfl,rfl,.inr (.inr ⟨h5,rfl⟩)⟩
 rw [if_neg h5] at h;cases h
theorem zhS {c:Ca} {l:Le} (h:l∈Wh c):l.2.1=c.1∧l.2.2.1=c.2.1∧l.2.2.2.1∈c.2.2.2.2∧((c.2.2.1=1∧l.1=2)∨(c.2.2.1=4∧l.1=3)):=by
 unfold Wh at h
 by_cases h1:c.2.2.1=1
 ·rw [if_pos h1] at h
  obtain ⟨n,hn,rfl⟩:=List.mem_map.1 h
  exact ⟨rfl,rfl,hn,.inl ⟨h1,rfl⟩⟩
 rw [if_neg h1] at h
 by_cases h4:c.2.2.1=4
 ·rw [if_pos h4] at h
  obtain ⟨n,hn,rfl⟩:=List.mem_map.1 h
  exact ⟨rfl,rfl,hn,.inr ⟨h4,rfl⟩⟩
 rw [if_neg h4] at h;cases h
theorem zpi {w:Wi} {c:Ca} {h:Int→He} {l:Le} (h1:1≤c.2.1) (hl:l∈vl c):LOk w c h l:=by
 obtain ⟨_,e2,e3⟩:=zku hl
 unfold LOk
 rcases e3 with ⟨a,b⟩ | ⟨a,b⟩ | ⟨a,b⟩
 ·exact .inr (.inr (.inr (.inr (.inl ⟨b,by omega,by omega,fun _=>a⟩))))
 ·exact .inr (.inr (.inr (.inr (.inr (.inl ⟨b,by omega,by omega,fun _=>a⟩)))))
 ·exact .inr (.inr (.inr (.inr (.inr (.inr ⟨b,by omega,by omega,fun _=>a⟩)))))
theorem zu0 {w:Wi} {c:Ca} {h:Int→He} {l:Le} (h1:1≤c.2.1) (hr:∀v∈c.2.2.2.2,ndP v) (hl:l∈Wh c):LOk w c h l:=by
 obtain ⟨_,e2,e3,e4⟩:=zhS hl
 unfold LOk
 rcases e4 with ⟨a,b⟩ | ⟨a,b⟩
 ·exact .inr (.inl ⟨b,hr _ e3,by omega,by omega,.inl ⟨e2,.inl a⟩⟩)
 ·exact .inr (.inr (.inl ⟨b,hr _ e3,by omega,by omega,fun _=>.inl a⟩))
theorem zBW:∀v∈N4,ndP v:=by unfold N4 ndP;decide
theorem zHT:N4.Nodup:=by unfold N4;decide
theorem zDH {v:Int} (h:ndP v):v∈N4:=by
 unfold ndP at h
 rcases (show v=0∨v=1∨v=2∨v=3 by omega) with rfl | rfl | rfl | rfl<;>decide
theorem zry {w:Wi} {c c':Ca} {h:Int→He} (hlt:c.2.1 < c'.2.1) (hp:c'.2.2.1=4∨(c.2.2.1≠1∧c.2.2.1≠2∧c.2.2.1≠4)):∀l,LOk w c h l→LOk w c' h l:=by
 intro l hl
 unfold LOk at hl ⊢
 rcases hl with hl | ⟨e,hn,h1,h2,h3⟩ | ⟨e,hn,h1,h2,h3⟩ | hl | ⟨e,h1,h2,h3⟩ | ⟨e,h1,h2,h3⟩ | ⟨e,h1,h2,h3⟩
 ·exact .inl hl
 ·refine .inr (.inl ⟨e,hn,h1,by omega,?_⟩)
  rcases hp with hp | hp
  ·exact .inr (.inl ⟨by omega,hp⟩)
  ·rcases h3 with ⟨_,h4⟩ | ⟨_,h4⟩ | h4
   ·omega
   ·omega
   ·exact .inr (.inr h4)
 ·exact .inr (.inr (.inl ⟨e,hn,h1,by omega,fun h=>by omega⟩))
 ·exact .inr (.inr (.inr (.inl hl)))
 ·exact .inr (.inr (.inr (.inr (.inl ⟨e,h1,by omega,fun h=>by omega⟩))))
 ·exact .inr (.inr (.inr (.inr (.inr (.inl ⟨e,h1,by omega,fun h=>by omega⟩)))))
 ·exact .inr (.inr (.inr (.inr (.inr (.inr ⟨e,h1,by omega,fun h=>by omega⟩)))))
theorem Wz {k id:Int} {w:Wi} {c:Ca} {h:Int→He} {L:List qj} {l:Le} (g:Gd k id w c h L) (hl:LOk w c h l) (hk:l.1=1) (hlt:c.2.1 < l.2.2.1) :
  l.2.2.1=w.2.1∧1≤l.2.2.1∧((l.2.2.2.2.1=true∧w.2.2.1=1∧l.2.2.2.2.2.1=w.2.2.2.1∧(c.2.2.1=0∨c.2.2.1=3∨c.2.2.1=5))∨(l.2.2.2.2.1=false∧w.2.2.1=4∧c.2.2.1=2)):=by
 unfold LOk at hl
 rcases hl with ⟨e,h1,h2,h3⟩ | ⟨e,_⟩ | ⟨e,_⟩ | ⟨e,_⟩ | ⟨e,_⟩ | ⟨e,_⟩ | ⟨e,_⟩
 rotate_left
 all_goals try (rw [hk] at e;exact absurd e (by decide))
 have c0:=g.c0
 have hnum:l.2.2.1=w.2.1:=by omega
 refine ⟨hnum,h1,?_⟩
 have hst:(w.2.2.1=1∧(c.2.2.1=0∨c.2.2.1=3∨c.2.2.1=5))∨(w.2.2.1=4∧c.2.2.1=2):=by
  rcases Int.lt_or_le 0 c.2.1 with h4 | h4
  ·have:=g.cl (by omega) (by omega)
   omega
  ·have:=g.cz (by omega)
   have:=this.2 (by omega)
   omega
 rcases h3 hnum with ⟨a1,a2,a3⟩ | ⟨a1,a2⟩
 ·rcases hst with ⟨b1,b2⟩ | ⟨b1,b2⟩
  ·exact .inl ⟨a1,b1,a3,b2⟩
  ·omega
 ·rcases hst with ⟨b1,b2⟩ | ⟨b1,b2⟩
  ·omega
  ·exact .inr ⟨a1,b1,b2⟩
theorem Iv.ask {k:Int} {s:Sig} (iv:Iv k s) {l:Le} (hl:za2 s l) (hk:l.1=1) {s':Sig} (hs:Xz s l s'):Iv k s':=by
 obtain ⟨hid,hl⟩:=hl
 have g:=iv.g l.2.1 hid
 have n1:1≤l.2.2.1:=by
  unfold LOk at hl
  rcases hl with ⟨e,h1,h2,h3⟩ | ⟨e,_⟩ | ⟨e,_⟩ | ⟨e,_⟩ | ⟨e,_⟩ | ⟨e,_⟩ | ⟨e,_⟩
  ·exact h1
  all_goals (rw [hk] at e;exact absurd e (by decide))
 have hci:=zot s l.2.1
 cases hs with
 |old h=>exact iv
 |same h=>
  refine iv.send _ fun a ha=>?_
  have e1:a.2.1=l.2.1:=by rw [(zku ha).1,hci]
  refine ⟨by rw [e1];exact hid,?_⟩
  rw [e1]
  exact zpi (by omega) ha
 |fail h hw e he ha=>
  obtain ⟨a1,a2,⟨_,a3,a4,a5⟩ | ⟨a3,_⟩⟩:=Wz g hl hk h
  rotate_left
  ·rw [hw] at a3;cases a3
  have c1:=g.c0
  have a6:(cOf s l.2.1).2.2.1≠1∧(cOf s l.2.1).2.2.1≠2∧(cOf s l.2.1).2.2.1≠4:=by omega
  refine zlJ iv (c:=(l.2.1,(l.2.2.1,(3,(e,[]))))) hid (by simp) ?_ (zry (c':=(l.2.1,(l.2.2.1,(3,(e,[]))))) h (.inr a6)) _ (fun a ha=>⟨(zku ha).1,zpi a2 ha⟩)
  show Gd k l.2.1 (wOf s l.2.1) (l.2.1,(l.2.2.1,(3,(e,[])))) (fun v=>hOf s v l.2.1) (led s)
  exact {
      n0:=g.n0,z:=fun hz=>by omega,st:=g.st,c0:=⟨by simp only;omega,.inl a1⟩,cz:=fun hz=>absurd (show l.2.2.1=0 from hz) (by omega),cw:=fun _ _=>.inr (.inr (.inl ⟨rfl,.inl a3⟩)),cl:=fun _ hlt=>by simp only at hlt;omega,
      lg:=fun x hx hi=>by have:=(g.lg x hx hi).2;omega,lc:=fun hc=>by simp only at hc;omega,hn:=fun v hv=>by have:=g.hn v hv;simp only;omega,
      he:=fun v hv _ hq=>by have:=g.hn v hv;simp only at hq;omega,ho:=fun v hv ho=>by have:=g.ho v hv ho;omega,
      wn:=fun hc=>by simp only at hc;omega,wz:=fun _ _=>rfl,wr:=fun v hv=>(by cases hv),wd:=List.nodup_nil,wh:=fun hc=>by simp only at hc;omega}
 |put h hw ha hh=>
  obtain ⟨a1,a2,⟨_,a3,a4,a5⟩ | ⟨a3,_⟩⟩:=Wz g hl hk h
  rotate_left
  ·rw [hw] at a3;cases a3
  have c1:=g.c0
  have a6:(cOf s l.2.1).2.2.1≠1∧(cOf s l.2.1).2.2.1≠2∧(cOf s l.2.1).2.2.1≠4:=by omega
  have hst:=g.st (by omega)
  have hsi:l.2.2.2.2.2.1.1=l.2.1:=by rw [a4];exact hst.2.1
  refine zuZ iv (c:=(l.2.1,(l.2.2.1,(1,(0,N4))))) hid (by simp [N4]) hh (fun x hx=>?_) (fun x hne=>?_) ?_ (zry (c':=(l.2.1,(l.2.2.1,(1,(0,N4))))) h (.inr a6)) _ (fun a ha=>⟨(zhS ha).1,zu0 a2 zBW ha⟩)
  ·rcases List.mem_append.1 hx with hx | hx
   ·exact .inl hx
   ·rw [List.mem_singleton.1 hx]
    exact .inr ⟨hsi,by rw [a4];exact hst.2.2⟩
  ·rw [List.mem_append,List.mem_singleton]
   refine ⟨fun hx=>?_,.inl⟩
   rcases hx with hx | hx
   ·exact hx
   ·rw [hx] at hne;exact absurd hsi hne
  show Gd k l.2.1 (wOf s l.2.1) (l.2.1,(l.2.2.1,(1,(0,N4)))) (fun v=>hOf s v l.2.1) (led s++[l.2.2.2.2.2.1])
  exact {
      n0:=g.n0,z:=fun hz=>by omega,st:=g.st,c0:=⟨by simp only;omega,.inl a1⟩,cz:=fun hz=>absurd (show l.2.2.1=0 from hz) (by omega),cw:=fun _ _=>.inl ⟨rfl,a3⟩,cl:=fun _ hlt=>by simp only at hlt;omega,
      lg:=fun x hx hi=>by
       rcases List.mem_append.1 hx with hx | hx
       ·have:=(g.lg x hx hi).2;omega
       ·rw [List.mem_singleton.1 hx];exact ⟨a4,.inl rfl⟩
      lc:=fun _=>⟨_,List.mem_append.2 (.inr (List.mem_singleton.2 rfl)),hsi⟩,hn:=fun v hv=>by have:=g.hn v hv;simp only;omega,
      he:=fun v hv _ hq=>by have:=g.hn v hv;simp only at hq;omega,ho:=fun v hv ho=>.inl rfl,
      wn:=fun _=>by simp [N4],wz:=fun hc=>absurd rfl hc,wr:=zBW,wd:=zHT,wh:=fun _ v hv=>.inl (zDH hv)}
 |gone h hw hx=>
  obtain ⟨a1,a2,⟨a3,_⟩ | ⟨_,a3,a4⟩⟩:=Wz g hl hk h
  ·rw [hw] at a3;cases a3
  obtain ⟨x,hm,hi⟩:=g.lc (.inr (.inl a4))
  exact absurd hi (hx x hm)
 |drop h hw x hx hi=>
  obtain ⟨a1,a2,⟨a3,_⟩ | ⟨_,a3,a4⟩⟩:=Wz g hl hk h
  ·rw [hw] at a3;cases a3
  have c1:=g.c0
  refine zlJ iv (c:=(l.2.1,(l.2.2.1,(4,(0,N4))))) hid (by simp [N4]) ?_ (zry (c':=(l.2.1,(l.2.2.1,(4,(0,N4))))) h (.inl rfl)) _ (fun a ha=>⟨(zhS ha).1,zu0 a2 zBW ha⟩)
  show Gd k l.2.1 (wOf s l.2.1) (l.2.1,(l.2.2.1,(4,(0,N4)))) (fun v=>hOf s v l.2.1) (led s)
  exact {
      n0:=g.n0,z:=fun hz=>by omega,st:=g.st,c0:=⟨by simp only;omega,.inl a1⟩,cz:=fun hz=>absurd (show l.2.2.1=0 from hz) (by omega),cw:=fun _ _=>.inr (.inr (.inr (.inl ⟨rfl,a3⟩))),cl:=fun _ hlt=>by simp only at hlt;omega,
      lg:=fun y hy hi=>⟨(g.lg y hy hi).1,.inr (.inr rfl)⟩,lc:=fun _=>⟨x,hx,hi⟩,hn:=fun v hv=>by have:=g.hn v hv;simp only;omega,
      he:=fun v hv _ hq=>by have:=g.hn v hv;simp only at hq;omega,ho:=fun v hv ho=>.inr (.inr rfl),
      wn:=fun _=>by simp [N4],wz:=fun _ hc=>absurd rfl hc,wr:=zBW,wd:=zHT,wh:=fun _ v hv=>.inl (zDH hv)}
theorem zDI {w:Wi} {c:Ca} {h:Int→He} {l:Le} (hl:LOk w c h l) (hk:l.1=2∨l.1=3) :
  ndP l.2.2.2.1∧1≤l.2.2.1∧l.2.2.1≤c.2.1∧((l.1=2∧((l.2.2.1=c.2.1∧(c.2.2.1=1∨c.2.2.1=2))∨(l.2.2.1 < c.2.1∧c.2.2.1=4)∨l.2.2.1 < (h l.2.2.2.1).2.2.1))∨(l.1=3∧(l.2.2.1=c.2.1→c.2.2.1=4∨c.2.2.1=5))):=by
 unfold LOk at hl
 rcases hl with ⟨e,_⟩ | ⟨e,hn,h1,h2,h3⟩ | ⟨e,hn,h1,h2,h3⟩ | ⟨e,_⟩ | ⟨e,_⟩ | ⟨e,_⟩ | ⟨e,_⟩
 ·omega
 ·exact ⟨hn,h1,h2,.inl ⟨e,h3⟩⟩
 ·exact ⟨hn,h1,h2,.inr ⟨e,h3⟩⟩
 all_goals omega
theorem zG5 {w:Wi} {c:Ca} {h h':Int→He} (hle:∀v,(h v).2.2.1≤(h' v).2.2.1):∀l,LOk w c h l→LOk w c h' l:=by
 intro l hl
 unfold LOk at hl ⊢
 rcases hl with hl | ⟨e,hn,h1,h2,h3⟩ | hl | ⟨e,hn,h1,h2⟩ | hl
 ·exact .inl hl
 ·refine .inr (.inl ⟨e,hn,h1,h2,?_⟩)
  rcases h3 with h4 | h4 | h4
  ·exact .inl h4
  ·exact .inr (.inl h4)
  ·have:=hle l.2.2.2.1
   exact .inr (.inr (by omega))
 ·exact .inr (.inr (.inl hl))
 ·have:=hle l.2.2.2.1
  exact .inr (.inr (.inr (.inl ⟨e,hn,h1,by omega⟩)))
 ·exact .inr (.inr (.inr (.inr hl)))
theorem Iv.ins {k:Int} {s:Sig} (iv:Iv k s) {l:Le} (hl:za2 s l) (hk:l.1=2∨l.1=3) {s':Sig} (hs:zuY s l s'):Iv k s':=by
 obtain ⟨hid,hl⟩:=hl
 have g:=iv.g l.2.1 hid
 obtain ⟨hn,n1,n2,hcase⟩:=zDI hl hk
 cases hs with
 |old h=>exact iv
 |new h=>
  have hup:∀v,(hOf s v l.2.1).2.2.1≤(if v=l.2.2.2.1 then ((l.2.2.2.1,(l.2.1,(l.2.2.1,decide (l.1=2)))):He) else hOf s v l.2.1).2.2.1:=fun v=>by
   by_cases hv:v=l.2.2.2.1
   ·rw [if_pos hv,hv];exact h
   ·rw [if_neg hv];exact Int.le_refl _
  have gn:=g.hn
  have ge:=g.he
  have go:=g.ho
  have gh:=g.wh
  refine zG4 iv (a:=(l.2.2.2.1,(l.2.1,(l.2.2.1,decide (l.1=2))))) hid hn ?_ (zG5 hup) _ (fun a ha=>?_)
  ·show Gd k l.2.1 (wOf s l.2.1) (cOf s l.2.1) (fun v=>if v=l.2.2.2.1 then ((l.2.2.2.1,(l.2.1,(l.2.2.1,decide (l.1=2)))):He) else hOf s v l.2.1) (led s)
   exact {g with
    hn:=fun v hv=>by
     by_cases e:v=l.2.2.2.1
     ·simp only [if_pos e];omega
     ·simp only [if_neg e];exact gn v hv
    he:=fun v hv h1=>by
     by_cases e:v=l.2.2.2.1
     ·simp only [if_pos e]
      intro h2
      rcases hcase with ⟨hk2,h3 | h3 | h3⟩ | ⟨hk3,h3⟩
      ·exact .inl ⟨decide_eq_true hk2,h3.2⟩
      ·omega
      ·have h3:l.2.2.1 < (hOf s l.2.2.2.1 l.2.1).2.2.1:=h3
       omega
      ·exact .inr ⟨decide_eq_false (by omega),h3 h2⟩
     ·simp only [if_neg e];exact ge v hv h1
    ho:=fun v hv=>by
     by_cases e:v=l.2.2.2.1
     ·simp only [if_pos e]
      intro h2
      have h2:=of_decide_eq_true h2
      rcases hcase with ⟨hk2,h3 | h3 | h3⟩ | ⟨hk3,h3⟩
      ·omega
      ·omega
      ·have h3:l.2.2.1 < (hOf s l.2.2.2.1 l.2.1).2.2.1:=h3
       omega
      ·omega
     ·simp only [if_neg e];exact go v hv
    wh:=fun hc v hv=>by
     rcases gh hc v hv with h2 | h2
     ·exact .inl h2
     ·refine .inr ?_
      by_cases e:v=l.2.2.2.1
      ·simp only [if_pos e]
       have h2:(hOf s v l.2.1).2.2.1=(cOf s l.2.1).2.1:=h2
       rw [e] at h2
       omega
      ·simp only [if_neg e];exact h2}
  ·rw [List.mem_singleton.1 ha]
   refine ⟨rfl,?_⟩
   unfold LOk
   refine .inr (.inr (.inr (.inl ⟨rfl,hn,n1,?_⟩)))
   simp only [if_pos]
   exact Int.le_refl _
theorem zti {l:List Int} (hd:l.Nodup) {a b:Int}:a∈l.erase b↔a≠b∧a∈l:=hd.mem_erase_iff
theorem Iv.done {k:Int} {s:Sig} (iv:Iv k s) {l:Le} (hl:za2 s l) (hk:l.1=4) {s':Sig} (hs:XQ s l s'):Iv k s':=by
 obtain ⟨hid,hl⟩:=hl
 have g:=iv.g l.2.1 hid
 have hci:=zot s l.2.1
 obtain ⟨hn,n1,n2⟩:ndP l.2.2.2.1∧1≤l.2.2.1∧l.2.2.1≤(hOf s l.2.2.2.1 l.2.1).2.2.1:=by
  unfold LOk at hl
  rcases hl with ⟨e,_⟩ | ⟨e,_⟩ | ⟨e,_⟩ | ⟨e,hn,h1,h2⟩ | ⟨e,_⟩ | ⟨e,_⟩ | ⟨e,_⟩
  ·omega
  ·omega
  ·omega
  ·exact ⟨hn,h1,h2⟩
  all_goals omega
 have hnn:=g.hn l.2.2.2.1 hn
 have hwl:=zFZ iv.sh l.2.1
 have gw:=g.wh
 have ge:=g.he
 have go:=g.ho
 have gcw:=g.cw
 have gcl:=g.cl
 have gc0:=g.c0
 cases hs with
 |old h=>exact iv
 |wait h hs hw=>
  have e1:l.2.2.1=(cOf s l.2.1).2.1:=h.symm
  refine zlJ iv (c:=(l.2.1,(l.2.2.1,((cOf s l.2.1).2.2.1,((cOf s l.2.1).2.2.2.1,(cOf s l.2.1).2.2.2.2.erase l.2.2.2.1))))) hid (Nat.le_trans (List.length_erase_le) hwl) ?_ (fun a ha=>?_) [] (fun a ha=>by cases ha)
  ·show Gd k l.2.1 (wOf s l.2.1) (l.2.1,(l.2.2.1,((cOf s l.2.1).2.2.1,((cOf s l.2.1).2.2.2.1,(cOf s l.2.1).2.2.2.2.erase l.2.2.2.1)))) (fun v=>hOf s v l.2.1) (led s)
   rw [e1]
   exact {g with
    wn:=fun _=>hw
    wz:=fun h1 h4=>by
     rcases hs with h5 | h5
     ·exact absurd h5 h1
     ·exact absurd h5 h4
    wr:=fun v hv=>g.wr v (List.mem_of_mem_erase hv)
    wd:=g.wd.erase _
    wh:=fun hc v hv=>by
     by_cases e:v=l.2.2.2.1
     ·refine .inr ?_
      rw [e]
      show (hOf s l.2.2.2.1 l.2.1).2.2.1=(cOf s l.2.1).2.1
      have hnn:0≤(hOf s l.2.2.2.1 l.2.1).2.2.1∧(hOf s l.2.2.2.1 l.2.1).2.2.1≤(cOf s l.2.1).2.1:=hnn
      omega
     ·rcases gw hc v hv with h2 | h2
      ·exact .inl ((zti g.wd).2 ⟨e,h2⟩)
      ·exact .inr h2}
  ·have:LOk (wOf s l.2.1) (l.2.1,(l.2.2.1,((cOf s l.2.1).2.2.1,((cOf s l.2.1).2.2.2.1,(cOf s l.2.1).2.2.2.2.erase l.2.2.2.1)))) (fun v=>hOf s v l.2.1) a:=by
    rw [e1]
    exact ha
   exact this
 |ready h hs hw=>
  have e1:l.2.2.1=(cOf s l.2.1).2.1:=h.symm
  have hall:∀v,ndP v→(hOf s v l.2.1).2.2.1=(cOf s l.2.1).2.1:=fun v hv=>by
   have hnn:0≤(hOf s l.2.2.2.1 l.2.1).2.2.1∧(hOf s l.2.2.2.1 l.2.1).2.2.1≤(cOf s l.2.1).2.1:=hnn
   rcases gw (.inl hs) v hv with h2 | h2
   ·by_cases e:v=l.2.2.2.1
    ·rw [e];omega
    ·have:v∈(cOf s l.2.1).2.2.2.2.erase l.2.2.2.1:=(zti g.wd).2 ⟨e,h2⟩
     rw [hw] at this;cases this
   ·exact h2
  refine zlJ iv (c:=(l.2.1,(l.2.2.1,(2,((cOf s l.2.1).2.2.2.1,[]))))) hid (by simp) ?_ (fun a ha=>?_) _ (fun a ha=>⟨(zku ha).1,zpi n1 ha⟩)
  ·show Gd k l.2.1 (wOf s l.2.1) (l.2.1,(l.2.2.1,(2,((cOf s l.2.1).2.2.2.1,[])))) (fun v=>hOf s v l.2.1) (led s)
   rw [e1]
   exact {g with
    cz:=fun hz=>absurd (show (cOf s l.2.1).2.1=0 from hz) (by omega)
    cw:=fun h1 h2=>by
     have:=gcw h1 h2
     exact .inr (.inl ⟨rfl,.inl (by omega)⟩)
    cl:=fun h1 h2=>by
     have:=gcl h1 h2
     omega
    lg:=fun x hx hi=>⟨(g.lg x hx hi).1,.inr (.inl rfl)⟩
    lc:=fun _=>g.lc (.inl hs)
    he:=fun v hv h1 h2=>by
     rcases ge v hv h1 h2 with h3 | h3
     ·exact .inl ⟨h3.1,.inr rfl⟩
     ·omega
    ho:=fun v hv _=>.inr (.inl rfl)
    wn:=fun hc=>by simp only at hc;omega
    wz:=fun _ _=>rfl
    wr:=fun v hv=>(by cases hv)
    wd:=List.nodup_nil
    wh:=fun _ v hv=>.inr (hall v hv)}
  ·have:LOk (wOf s l.2.1) (l.2.1,(l.2.2.1,(2,((cOf s l.2.1).2.2.2.1,[])))) (fun v=>hOf s v l.2.1) a:=by
    rw [e1]
    have ha:LOk (wOf s l.2.1) (cOf s l.2.1) (fun v=>hOf s v l.2.1) a:=ha
    unfold LOk at ha ⊢
    rcases ha with ha | ⟨e,hn,h1,h2,h3⟩ | ⟨e,hn,h1,h2,h3⟩ | ha | ⟨e,h1,h2,h3⟩ | ⟨e,h1,h2,h3⟩ | ⟨e,h1,h2,h3⟩
    ·exact .inl ha
    ·refine .inr (.inl ⟨e,hn,h1,h2,?_⟩)
     rcases h3 with h4 | h4 | h4
     ·exact .inl ⟨h4.1,.inr rfl⟩
     ·omega
     ·exact .inr (.inr h4)
    ·exact .inr (.inr (.inl ⟨e,hn,h1,h2,fun h5=>by have:=h3 h5;omega⟩))
    ·exact .inr (.inr (.inr (.inl ha)))
    ·exact .inr (.inr (.inr (.inr (.inl ⟨e,h1,h2,fun h5=>rfl⟩))))
    ·exact .inr (.inr (.inr (.inr (.inr (.inl ⟨e,h1,h2,fun h5=>by have:=h3 h5;omega⟩)))))
    ·exact .inr (.inr (.inr (.inr (.inr (.inr ⟨e,h1,h2,fun h5=>by have:=h3 h5;omega⟩)))))
   exact this
 |gone h hs hw M hM hm=>
  have e1:l.2.2.1=(cOf s l.2.1).2.1:=h.symm
  have hall:∀v,ndP v→(hOf s v l.2.1).2.2.1=(cOf s l.2.1).2.1:=fun v hv=>by
   have hnn:0≤(hOf s l.2.2.2.1 l.2.1).2.2.1∧(hOf s l.2.2.2.1 l.2.1).2.2.1≤(cOf s l.2.1).2.1:=hnn
   rcases gw (.inr (.inr hs)) v hv with h2 | h2
   ·by_cases e:v=l.2.2.2.1
    ·rw [e];omega
    ·have:v∈(cOf s l.2.1).2.2.2.2.erase l.2.2.2.1:=(zti g.wd).2 ⟨e,h2⟩
     rw [hw] at this;cases this
   ·exact h2
  have hoff:∀v,ndP v→(hOf s v l.2.1).2.2.2=false:=fun v hv=>by
   rcases ge v hv (by omega) (hall v hv) with h3 | h3
   ·omega
   ·exact h3.1
  refine zuZ iv (c:=(l.2.1,(l.2.2.1,(5,((cOf s l.2.1).2.2.2.1,[]))))) hid (by simp) (zDx hM iv.hold) (fun x hx=>.inl (hM.subset hx)) (fun x hne=>⟨fun hx=>((hm x).1 hx).1,fun hx=>(hm x).2 ⟨hx,hne⟩⟩) ?_ (fun a ha=>?_) _ (fun a ha=>⟨(zku ha).1,zpi n1 ha⟩)
  ·show Gd k l.2.1 (wOf s l.2.1) (l.2.1,(l.2.2.1,(5,((cOf s l.2.1).2.2.2.1,[])))) (fun v=>hOf s v l.2.1) M
   rw [e1]
   exact {g with
    cz:=fun hz=>absurd (show (cOf s l.2.1).2.1=0 from hz) (by omega)
    cw:=fun h1 h2=>by
     have:=gcw h1 h2
     exact .inr (.inr (.inr (.inr ⟨rfl,.inl (by omega)⟩)))
    cl:=fun h1 h2=>by
     have:=gcl h1 h2
     omega
    lg:=fun x hx hi=>absurd hi ((hm x).1 hx).2
    lc:=fun hc=>by simp only at hc;omega
    he:=fun v hv h1 h2=>by
     rcases ge v hv h1 h2 with h3 | h3
     ·omega
     ·exact .inr ⟨h3.1,.inr rfl⟩
    ho:=fun v hv ho=>by
     have:=hoff v hv
     rw [this] at ho;cases ho
    wn:=fun hc=>by simp only at hc;omega
    wz:=fun _ _=>rfl
    wr:=fun v hv=>(by cases hv)
    wd:=List.nodup_nil
    wh:=fun hc=>by simp only at hc;omega}
  ·have:LOk (wOf s l.2.1) (l.2.1,(l.2.2.1,(5,((cOf s l.2.1).2.2.2.1,[])))) (fun v=>hOf s v l.2.1) a:=by
    rw [e1]
    have ha:LOk (wOf s l.2.1) (cOf s l.2.1) (fun v=>hOf s v l.2.1) a:=ha
    unfold LOk at ha ⊢
    rcases ha with ha | ⟨e,hn,h1,h2,h3⟩ | ⟨e,hn,h1,h2,h3⟩ | ha | ⟨e,h1,h2,h3⟩ | ⟨e,h1,h2,h3⟩ | ⟨e,h1,h2,h3⟩
    ·exact .inl ha
    ·refine .inr (.inl ⟨e,hn,h1,h2,.inr (.inr ?_)⟩)
     have:=hall _ hn
     show a.2.2.1 < (hOf s a.2.2.2.1 l.2.1).2.2.1
     rcases h3 with h4 | h4 | h4
     ·omega
     ·omega
     ·exact h4
    ·exact .inr (.inr (.inl ⟨e,hn,h1,h2,fun h5=>.inr rfl⟩))
    ·exact .inr (.inr (.inr (.inl ha)))
    ·exact .inr (.inr (.inr (.inr (.inl ⟨e,h1,h2,fun h5=>by have:=h3 h5;omega⟩))))
    ·exact .inr (.inr (.inr (.inr (.inr (.inl ⟨e,h1,h2,fun h5=>by have:=h3 h5;omega⟩)))))
    ·exact .inr (.inr (.inr (.inr (.inr (.inr ⟨e,h1,h2,fun h5=>rfl⟩)))))
   exact this
theorem zDJ {w:Wi} {c:Ca} {h:Int→He} {l:Le} (hl:LOk w c h l) (hk:l.1=5∨l.1=6∨l.1=7):1≤l.2.2.1∧l.2.2.1≤c.2.1∧(l.2.2.1=c.2.1→(l.1=5∧c.2.2.1=2)∨(l.1=6∧c.2.2.1=3)∨(l.1=7∧c.2.2.1=5)):=by
 unfold LOk at hl
 rcases hl with ⟨e,_⟩ | ⟨e,_⟩ | ⟨e,_⟩ | ⟨e,_⟩ | ⟨e,h1,h2,h3⟩ | ⟨e,h1,h2,h3⟩ | ⟨e,h1,h2,h3⟩
 all_goals omega
theorem zza {w w':Wi} {c:Ca} {h:Int→He} (hn:w'.2.1=w.2.1) (hx:w'.2.2.2.1=w.2.2.2.1) (hs:(w.2.2.1=1∧(w'.2.2.1=2∨w'.2.2.1=3))∨(w.2.2.1=4∧w'.2.2.1=5)):∀l,LOk w c h l→LOk w' c h l:=by
 intro l hl
 unfold LOk at hl ⊢
 rcases hl with ⟨e,h1,h2,h3⟩ | hl
 ·refine .inl ⟨e,h1,by omega,fun h4=>?_⟩
  rcases h3 (by omega) with ⟨a1,a2,a3⟩ | ⟨a1,a2⟩
  ·exact .inl ⟨a1,by omega,by rw [hx];exact a3⟩
  ·exact .inr ⟨a1,by omega⟩
 ·exact .inr hl
theorem zAr {w w':Wi} {c:Ca} {h:Int→He} (hn:w.2.1 < w'.2.1):∀l,LOk w c h l→LOk w' c h l:=by
 intro l hl
 unfold LOk at hl ⊢
 rcases hl with ⟨e,h1,h2,h3⟩ | hl
 ·exact .inl ⟨e,h1,by omega,fun h4=>by omega⟩
 ·exact .inr hl
theorem Iv.ans {k:Int} {s:Sig} (iv:Iv k s) {l:Le} (hl:za2 s l) (hk:l.1=5∨l.1=6∨l.1=7) {s':Sig} (hs:UA s l s'):Iv k s':=by
 obtain ⟨hid,hl⟩:=hl
 have g:=iv.g l.2.1 hid
 obtain ⟨n1,n2,n3⟩:=zDJ hl hk
 have hwi:=ztg s l.2.1
 have gc0:=g.c0
 have gcw:=g.cw
 have gst:=g.st
 have gn0:=g.n0
 cases hs with
 |old h=>exact iv
 |ready h hs hk5=>
  have hc:(cOf s l.2.1).2.2.1=2:=by have:=n3 (by omega);omega
  have e:snds (setW s (l.2.1,((wOf s l.2.1).2.1,(2,(wOf s l.2.1).2.2.2)))) []=setW s (l.2.1,((wOf s l.2.1).2.1,(2,(wOf s l.2.1).2.2.2))):=rfl
  rw [←e]
  refine zkt iv (Int.le_refl k) (w:=(l.2.1,((wOf s l.2.1).2.1,(2,(wOf s l.2.1).2.2.2)))) hid ?_ (zza rfl rfl (.inl ⟨hs,.inl rfl⟩)) [] (fun a ha=>by cases ha)
  show Gd k l.2.1 (l.2.1,((wOf s l.2.1).2.1,(2,(wOf s l.2.1).2.2.2))) (cOf s l.2.1) (fun v=>hOf s v l.2.1) (led s)
  exact {g with
   z:=fun hz=>absurd (show (wOf s l.2.1).2.1=0 from hz) (by omega)
   st:=fun h1=>⟨by simp only;omega,(gst h1).2⟩
   cz:=fun hz=>by omega
   cw:=fun h1 h2=>.inr (.inl ⟨hc,.inr rfl⟩)
   cl:=fun h1 h2=>by simp only at h2;omega}
 |fail h hs hk6=>
  have hc:(cOf s l.2.1).2.2.1=3:=by have:=n3 (by omega);omega
  have e:snds (setW s (l.2.1,((wOf s l.2.1).2.1,(3,((wOf s l.2.1).2.2.2.1,l.2.2.2.2.2.2))))) []=setW s (l.2.1,((wOf s l.2.1).2.1,(3,((wOf s l.2.1).2.2.2.1,l.2.2.2.2.2.2)))):=rfl
  rw [←e]
  refine zkt iv (Int.le_refl k) (w:=(l.2.1,((wOf s l.2.1).2.1,(3,((wOf s l.2.1).2.2.2.1,l.2.2.2.2.2.2))))) hid ?_ (zza rfl rfl (.inl ⟨hs,.inr rfl⟩)) [] (fun a ha=>by cases ha)
  show Gd k l.2.1 (l.2.1,((wOf s l.2.1).2.1,(3,((wOf s l.2.1).2.2.2.1,l.2.2.2.2.2.2)))) (cOf s l.2.1) (fun v=>hOf s v l.2.1) (led s)
  exact {g with
   z:=fun hz=>absurd (show (wOf s l.2.1).2.1=0 from hz) (by omega)
   st:=fun h1=>⟨by simp only;omega,(gst h1).2⟩
   cz:=fun hz=>by omega
   cw:=fun h1 h2=>.inr (.inr (.inl ⟨hc,.inr rfl⟩))
   cl:=fun h1 h2=>by simp only at h2;omega}
 |gone h hs hk7=>
  have hc:(cOf s l.2.1).2.2.1=5:=by have:=n3 (by omega);omega
  have e:snds (setW s (l.2.1,((wOf s l.2.1).2.1,(5,(wOf s l.2.1).2.2.2)))) []=setW s (l.2.1,((wOf s l.2.1).2.1,(5,(wOf s l.2.1).2.2.2))):=rfl
  rw [←e]
  refine zkt iv (Int.le_refl k) (w:=(l.2.1,((wOf s l.2.1).2.1,(5,(wOf s l.2.1).2.2.2)))) hid ?_ (zza rfl rfl (.inr ⟨hs,rfl⟩)) [] (fun a ha=>by cases ha)
  show Gd k l.2.1 (l.2.1,((wOf s l.2.1).2.1,(5,(wOf s l.2.1).2.2.2))) (cOf s l.2.1) (fun v=>hOf s v l.2.1) (led s)
  exact {g with
   z:=fun hz=>absurd (show (wOf s l.2.1).2.1=0 from hz) (by omega)
   st:=fun h1=>⟨by simp only;omega,(gst h1).2⟩
   cz:=fun hz=>by omega
   cw:=fun h1 h2=>.inr (.inr (.inr (.inr ⟨hc,.inr rfl⟩)))
   cl:=fun h1 h2=>by simp only at h2;omega}
theorem Iv.step {k:Int} {s:Sig} (iv:Iv k s) {l:Le} (hl:za2 s l) {s':Sig} (hs:Yn s l s'):Iv k s':=by
 cases hs with
 |ask h hs=>exact iv.ask hl h hs
 |ins h hs=>exact iv.ins hl h hs
 |done h hs=>exact iv.done hl h hs
 |ans h hs=>exact iv.ans hl h hs
theorem zFy {w:Wi} {c:Ca} {h:Int→He} {l:Le} (hl:LOk w c h l):l.1=1∨l.1=2∨l.1=3∨l.1=4∨l.1=5∨l.1=6∨l.1=7:=by
 unfold LOk at hl
 rcases hl with ⟨e,_⟩ | ⟨e,_⟩ | ⟨e,_⟩ | ⟨e,_⟩ | ⟨e,_⟩ | ⟨e,_⟩ | ⟨e,_⟩<;>omega
theorem Iv.led12 {k:Int} {s:Sig} (iv:Iv k s):(led s).length≤12:=(zhQ iv.hold).n12
theorem zBX {k:Int} {s:Sig} (iv:Iv k s) {l:Le} (hl:za2 s l):qp (vE s (l,())) fun r=>Yn s l r.1:=by
 obtain ⟨hid,hl2⟩:=hl
 have g:=iv.g l.2.1 hid
 have hn:=iv.led12
 rw [ze0];unfold Ya
 have ins:l.1=2∨l.1=3→qp (opt (opt (wA s (l,())) fun x2=>some (0,((x2.1,(l,())),()))) fun (x3:Nat×((Sig×(Le×Unit))×Unit))=>some (x3.2.1.1,())) fun r=>Yn s l r.1:=fun hk=>
  zo (zn (zDE iv.sh hid) fun r hr=>zd (zd (Yn.ins hk hr)))
 have ans:l.1=5∨l.1=6∨l.1=7→qp (opt (opt (yN s (l,())) fun x2=>some (0,((x2.1,(l,())),()))) fun (x3:Nat×((Sig×(Le×Unit))×Unit))=>some (x3.2.1.1,())) fun r=>Yn s l r.1:=fun hk=>
  zo (zn (zDG iv.sh hid) fun r hr=>zd (zd (Yn.ans hk hr)))
 have ne:∀a b:Int,a≠b→zj a b=false:=fun a b h=>ji h
 rcases zFy hl2 with h | h | h | h | h | h | h
 ·refine zh (wa h.symm) (zo (zn (zDD iv.sh (fun x hx=>(iv.lr x hx).2) hid (fun hlt hw=>?_) (by omega)) fun r hr=>zd (zd (Yn.ask h hr))))
  obtain ⟨a1,a2,⟨_,a3,a4,a5⟩ | ⟨a3,_⟩⟩:=Wz g hl2 h hlt
  ·rw [a4];exact (g.st (by omega)).2.2
  ·rw [hw] at a3;cases a3
 ·exact zg (ne _ _ (by omega)) (zh (wa h.symm) (ins (.inl h)))
 ·exact zg (ne _ _ (by omega)) (zg (ne _ _ (by omega)) (zh (wa h.symm) (ins (.inr h))))
 ·exact zg (ne _ _ (by omega)) (zg (ne _ _ (by omega)) (zg (ne _ _ (by omega)) (zh (wa h.symm) (zo (zn (zBV iv.sh hid iv.hold (fun h4=>g.lc (.inr (.inr h4)))) fun r hr=>zd (zd (Yn.done h hr)))))))
 ·exact zg (ne _ _ (by omega)) (zg (ne _ _ (by omega)) (zg (ne _ _ (by omega)) (zg (ne _ _ (by omega)) (zh (wa h.symm) (ans (.inl h))))))
 ·exact zg (ne _ _ (by omega)) (zg (ne _ _ (by omega)) (zg (ne _ _ (by omega)) (zg (ne _ _ (by omega)) (zg (ne _ _ (by omega)) (zh (wa h.symm) (ans (.inr (.inl h))))))))
 ·exact zg (ne _ _ (by omega)) (zg (ne _ _ (by omega)) (zg (ne _ _ (by omega)) (zg (ne _ _ (by omega)) (zg (ne _ _ (by omega)) (zg (ne _ _ (by omega)) (zh (wa h.symm) (ans (.inr (.inr h)))))))))
inductive HTr (s:Sig) (kd n:Int):Sig×Int×Unit→Prop
 |bad (h:n < 0∨((wir s).length:Int)≤n):HTr s kd n (s,2,())
 |copy (l:Le) (hl:l∈wir s) (h:kd=5):HTr s kd n (snds s [l],0,())
 |lose (i:Nat) (hi:i < (wir s).length) (h:n=(i:Int)) (h:kd≠5) (h:kd≠3):HTr s kd n (upX s ((wir s).take i++(wir s).drop (i+1)),0,())
 |deliver (i:Nat) (h:n=(i:Int)) (h:kd=3) (l:Le) (hl:(wir s)[i]?=some l) (s':Sig) (hs:Yn (upX s ((wir s).take i++(wir s).drop (i+1))) l s'):HTr s kd n (s',0,())
theorem zFz {x:List Le} {i:Nat} {l:Le} (h:l∈x.take i++x.drop (i+1)):l∈x:=by
 rcases List.mem_append.1 h with h | h
 ·exact List.mem_of_mem_take h
 ·exact List.mem_of_mem_drop h
theorem Iv.rest {k:Int} {s:Sig} (iv:Iv k s) (i:Nat):Iv k (upX s ((wir s).take i++(wir s).drop (i+1))):=by
 have:=iv.sh.x
 exact iv.less (by rw [List.length_append,List.length_take,List.length_drop];omega) fun l hl=>zFz hl
theorem zDK {k:Int} {s:Sig} (iv:Iv k s) (kd n:Int):qp (jh s (kd,(n,()))) (HTr s kd n):=by
 have hx:=iv.sh.x
 rw [zcO];unfold Jn
 by_cases h0:n < 0
 ·exact zo (zh (qx h0) (zd (zg rfl (zd (.bad (.inl h0))))))
 by_cases h1:n < ((wir s).length:Int)
 rotate_left
 ·exact zo (zg (qa h0) (zh (by rw [qa h1];rfl) (zd (zg rfl (zd (.bad (.inr (by omega))))))))
 obtain ⟨i,rfl⟩:∃i:Nat,n=(i:Int):=⟨n.toNat,by omega⟩
 have hi:i < (wir s).length:=by omega
 have hl:(wir s)[i]?=some (wir s)[i]:=List.getElem?_eq_getElem hi
 generalize (wir s)[i]=l at hl
 refine zo (zg (qa h0) (zg (by rw [qx h1];rfl) (zd (zh rfl (zo (zP (n:=i) hl ?_))))))
 refine zq (fun h=>?_) (fun h=>?_)
 ·rw [zhR,zF]
  exact zd (.copy l (gf hl) (jg h))
 have hne:=jO h
 rw [show yv (s.2.2.2.2.2,((i:Int),()))=_ from zG3 hi (by show (wir s).length≤_;omega),zF]
 refine zn (J:=fun x=>(x.2.1.1,(0,()))=(x.2.1.1,(0,()))∧HTr s kd i (x.2.1.1,(0,()))) ?_ (fun x hx=>zd hx.2)
 refine zq (fun h=>?_) (fun h=>?_)
 ·have hlo:=iv.l l (gf hl)
  refine zn (zBX (iv.rest i) (l:=l) hlo) fun r hr=>zd ⟨rfl,.deliver i rfl (jg h) l hl _ hr⟩
 ·exact zd ⟨rfl,.lose i hi rfl hne (jO h)⟩
theorem Iv.tr {k:Int} {s:Sig} (iv:Iv k s) {kd n:Int} {r:Sig×Int×Unit} (h:HTr s kd n r):Iv k r.1:=by
 cases h with
 |bad h=>exact iv
 |copy l hl h=>exact iv.send _ fun a ha=>by rw [List.mem_singleton.1 ha];exact iv.l l hl
 |lose i hi h h2 h3=>exact iv.rest i
 |deliver i h h2 l hl s' hs=>exact (iv.rest i).step (l:=l) (iv.l l (gf hl)) hs
def US (s:Sig):List Le:=(wis s).flatMap Yz++(cas s).flatMap Wh
theorem zvT {α β:Type} {l:List α} {f:α→List β} {i:Nat} {a:α} (h:l[i]?=some a):(l.take (i+1)).flatMap f=(l.take i).flatMap f++f a:=by
 have hi:i < l.length:=by
  rcases Nat.lt_or_ge i l.length with h2 | h2
  ·exact h2
  ·rw [List.getElem?_eq_none h2] at h;cases h
 rw [List.take_succ_eq_append_getElem hi,List.flatMap_append]
 rw [List.getElem?_eq_getElem hi] at h
 rw [Option.some.inj h]
 simp
theorem zrz {s:Sig} (sh:Shp s):wG s ()=some (snds s (US s),()):=by
 have hw:=sh.lW
 have hc:=sh.lC
 rw [zgv];unfold Xw
 refine xd (zn (J:=fun x=>x.2.1.1=snds s ((wis s).flatMap Yz)) (qz (wis s).length (fun i st=>st=((snds s (((wis s).take i).flatMap Yz),((i:Int),())),())) (by omega) rfl ?_ ?_) ?_)
 ·rintro i _ hi rfl
  have hx:(wis s)[i]?=some (wis s)[i]:=List.getElem?_eq_getElem hi
  generalize (wis s)[i]=w at hx
  refine zh (qx (show (i:Int) < (((wis s).length:Nat):Int) by omega)) (zo (zP (n:=i) hx ?_))
  rw [zjn,zF]
  refine zd (qR ?_)
  rw [qQ (by omega),zvT hx,zlH]
 ·rintro _ rfl
  rw [List.take_length]
  exact zg (qa (show ¬(((wis s).length:Nat):Int) < (((wis s).length:Nat):Int) by omega)) (zd (zE rfl))
 rintro ⟨j,⟨q,n,⟨⟩⟩,⟨⟩⟩ hq
 simp only at hq
 subst hq
 refine zn (J:=fun x=>x.2.1.1=snds s (US s)) (qz (cas s).length (fun i st=>st=((snds s ((wis s).flatMap Yz++((cas s).take i).flatMap Wh),((i:Int),())),())) (by omega) ?_ ?_ ?_) ?_
 ·show _=((snds s ((wis s).flatMap Yz++[]),_),_)
  rw [List.append_nil];rfl
 ·rintro i _ hi rfl
  have hx:(cas s)[i]?=some (cas s)[i]:=List.getElem?_eq_getElem hi
  generalize (cas s)[i]=c at hx
  have hwl:=(sh.bC c (gf hx)).2
  refine zh (qx (show (i:Int) < (((cas s).length:Nat):Int) by omega)) (zo (zP (n:=i) hx ?_))
  rw [zor _ (by omega),zF]
  refine zd (qR ?_)
  rw [qQ (by omega),zvT hx,←List.append_assoc,zlH _ ((wis s).flatMap Yz++_)]
 ·rintro _ rfl
  rw [List.take_length]
  exact zg (qa (show ¬(((cas s).length:Nat):Int) < (((cas s).length:Nat):Int) by omega)) (zd (zE rfl))
 ·rintro ⟨j,⟨q,n,⟨⟩⟩,⟨⟩⟩ hq
  simp only at hq
  subst hq
  exact zd rfl
theorem zgD {w:Wi} {l:Le} (h:l∈Yz w):l.1=1∧l.2.1=w.1∧l.2.2.1=w.2.1∧((w.2.2.1=1∧l.2.2.2.2.1=true∧l.2.2.2.2.2.1=w.2.2.2.1)∨(w.2.2.1=4∧l.2.2.2.2.1=false)):=by
 unfold Yz at h
 by_cases h1:w.2.2.1=1
 ·rw [if_pos h1] at h;rw [List.mem_singleton.1 h];exact ⟨rfl,rfl,rfl,.inl ⟨h1,rfl,rfl⟩⟩
 rw [if_neg h1] at h
 by_cases h4:w.2.2.1=4
 ·rw [if_pos h4] at h;rw [List.mem_singleton.1 h];exact ⟨rfl,rfl,rfl,.inr ⟨h4,rfl⟩⟩
 rw [if_neg h4] at h;cases h
theorem zu1 {w:Wi} {c:Ca} {h:Int→He} {l:Le} (h1:1≤w.2.1) (hl:l∈Yz w):LOk w c h l:=by
 obtain ⟨e1,e2,e3,e4⟩:=zgD hl
 unfold LOk
 refine .inl ⟨e1,by omega,by omega,fun _=>?_⟩
 rcases e4 with ⟨a,b,c⟩ | ⟨a,b⟩
 ·exact .inl ⟨b,.inl a,c⟩
 ·exact .inr ⟨b,.inl a⟩
theorem zzb {s:Sig} (sh:Shp s) {w:Wi} (hw:w∈wis s):wOf s w.1=w:=zkr sh.sW hw rfl _
theorem zDL {s:Sig} (sh:Shp s) {c:Ca} (hc:c∈cas s):cOf s c.1=c:=zkr sh.sC hc rfl _
theorem zHU {s:Sig} (sh:Shp s) {h:He} (hh:h∈hel s):hOf s h.1 h.2.1=h:=zkr sh.sH hh rfl _
theorem zG6 {k:Int} {s:Sig} (iv:Iv k s):∀l∈US s,za2 s l:=by
 intro l hl
 rcases List.mem_append.1 hl with hl | hl
 ·obtain ⟨w,hw,hl⟩:=List.mem_flatMap.1 hl
  have e:=(zgD hl).2.1
  have hid:=iv.sh.bW w hw
  have g:=iv.g w.1 hid
  rw [zzb iv.sh hw] at g
  have hn:1≤w.2.1:=by
   have:=g.n0;have:=g.z
   rcases (zgD hl).2.2.2 with ⟨a,_⟩ | ⟨a,_⟩<;>omega
  refine ⟨by rw [e];exact hid,?_⟩
  rw [e,zzb iv.sh hw]
  exact zu1 hn hl
 ·obtain ⟨c,hc,hl⟩:=List.mem_flatMap.1 hl
  have e:=(zhS hl).1
  have hid:=(iv.sh.bC c hc).1
  have g:=iv.g c.1 hid
  rw [zDL iv.sh hc] at g
  have hn:1≤c.2.1:=by
   have:=g.c0;have:=g.cz
   rcases (zhS hl).2.2.2 with ⟨a,_⟩ | ⟨a,_⟩<;>omega
  refine ⟨by rw [e];exact hid,?_⟩
  rw [e,zDL iv.sh hc]
  exact zu0 hn g.wr hl
theorem Iv.tick {k:Int} {s:Sig} (iv:Iv k s):Iv k (snds s (US s)):=iv.send _ (zG6 iv)
inductive HAs (s:Sig) (x:qj):Sig×Int×Unit→Prop
 |bad (h:x.1 < 1∨4095 < x.1):HAs s x (s,2,())
 |twice (h:(wOf s x.1).2.2.1=1∨(wOf s x.1).2.2.1=2∨(wOf s x.1).2.2.1=4):HAs s x (s,322,())
 |ok (h:(wOf s x.1).2.2.1≠1∧(wOf s x.1).2.2.1≠2∧(wOf s x.1).2.2.1≠4):HAs s x (snds (setW s (x.1,((wOf s x.1).2.1+1,(1,(x,0))))) (Yz (x.1,((wOf s x.1).2.1+1,(1,(x,0))))),0,())
theorem zAs {s:Sig} (sh:Shp s) (x:qj) (hk:0≤(wOf s x.1).2.1∧(wOf s x.1).2.1≤1000000):qp (uB s (x,())) (HAs s x):=by
 rw [zhb];unfold Vh
 by_cases h0:x.1 < 1
 ·exact zo (zh (qx h0) (zd (zg rfl (zd (.bad (.inl h0))))))
 by_cases h1:4095 < x.1
 ·exact zo (zg (qa h0) (zh (qx h1) (zd (zg rfl (zd (.bad (.inr h1)))))))
 refine zo (zg (qa h0) (zg (qa h1) (zd (zh rfl ?_))))
 obtain ⟨i,w,b,e,hf⟩:=Zm sh.sW (by have:=sh.lW;omega) x.1
 obtain ⟨hw,hb⟩:=zbz sh.sW hf
 have hw:w=wOf s x.1:=hw
 rw [e,zF]
 have fin:w.2.2.1≠1∧w.2.2.1≠2∧w.2.2.1≠4→qp (opt (qM ((s.2.2.1,(i,(b,((x.1,((wrF .i64 ((w.2.1+1))),(1,(x,0)))),())))))) fun x4=>
    opt (qP ((s.1,(s.2.1,(x4.1,s.2.2.2)))) (((x.1,((wrF .i64 ((w.2.1+1))),(1,(x,0)))),()))) fun x5=>
    some (x5.1,(0,()))) (HAs s x):=by
  intro hst
  rw [show wrF .i64 (w.2.1+1)=(wOf s x.1).2.1+1 from by rw [hw,qU (by omega) (by omega)]]
  rw [show qM (s.2.2.1,(i,(b,((x.1,((wOf s x.1).2.1+1,(1,(x,0)))),()))))=_ from Yy sh.sW (by have:=sh.lW;omega) hf rfl,zF,zjn,zF]
  exact zd (.ok (by rw [←hw];exact hst))
 have l24:¬¬(((wis s).length:Nat):Int) < 24:=by have:=sh.lW;omega
 cases b with
 |true=>
  by_cases h1:w.2.2.1=1
  ·exact zo (zh rfl (zh (wa h1) (zd (zg rfl (zd (.twice (.inl (by rw [←hw];exact h1))))))))
  by_cases h2:w.2.2.1=2
  ·exact zo (zh rfl (zg (ji h1) (zh (wa h2) (zd (zg rfl (zd (.twice (.inr (.inl (by rw [←hw];exact h2))))))))))
  by_cases h4:w.2.2.1=4
  ·exact zo (zh rfl (zg (ji h1) (zg (ji h2) (zh (wa h4) (zd (zg rfl (zd (.twice (.inr (.inr (by rw [←hw];exact h4)))))))))))
  exact zo (zh rfl (zg (ji h1) (zg (ji h2) (zg (ji h4) (zd (zh rfl (zo (zg rfl (zd (zh rfl (fin ⟨h1,h2,h4⟩)))))))))))
 |false=>
  have h3:=(hf.no rfl).1
  have hst:w.2.2.1≠1∧w.2.2.1≠2∧w.2.2.1≠4:=by rw [h3];exact ⟨show (0:Int)≠1 by decide,show (0:Int)≠2 by decide,show (0:Int)≠4 by decide⟩
  refine zo (zg rfl (zd (zh rfl (zo (zh rfl (zg ?_ (zd (zh rfl (fin hst)))))))))
  show (!zt (((wis s).length:Nat):Int) 24)=false
  rw [qx (by have:=sh.lW;omega)];rfl
theorem Iv.as {k:Int} {s:Sig} (iv:Iv k s) {x:qj} (hx:idP x.1∧Uz x) {r:Sig×Int×Unit} (h:HAs s x r):Iv (k+1) r.1:=by
 have g:=iv.g x.1 hx.1
 have lift:Iv (k+1) s:=⟨iv.sh,iv.hold,iv.lr,fun id hid=>(iv.g id hid).mono (by omega),iv.l⟩
 cases h with
 |bad h=>exact lift
 |twice h=>exact lift
 |ok h=>
  have gn:=g.n0;have gz:=g.z;have gst:=g.st;have gc:=g.c0;have gcz:=g.cz;have gcw:=g.cw;have gcl:=g.cl
  have hst:(wOf s x.1).2.1=0∨((wOf s x.1).2.2.1=3∨(wOf s x.1).2.2.1=5):=by
   by_cases hz:(wOf s x.1).2.1=0
   ·exact .inl hz
   ·have:=(gst (by omega)).1
    omega
  have hcc:(cOf s x.1).2.1=(wOf s x.1).2.1∧((cOf s x.1).2.2.1=0∨(cOf s x.1).2.2.1=3∨(cOf s x.1).2.2.1=5):=by
   rcases hst with hz | hz
   ·have:=gz hz
    have:=gcz this.2
    omega
   ·have hn:1≤(wOf s x.1).2.1:=by
     rcases Int.lt_or_le 0 (wOf s x.1).2.1 with h2 | h2
     ·omega
     ·have:=gz (by omega);omega
    rcases Int.lt_or_le 0 (cOf s x.1).2.1 with h2 | h2
    ·rcases gc.2 with h3 | h3
     ·have:=gcw (by omega) h3;omega
     ·have:=gcl (by omega) (by omega);omega
    ·have:=(gcz (by omega)).2 hn;omega
  refine zkt iv (k':=k+1) (by omega) (w:=(x.1,((wOf s x.1).2.1+1,(1,(x,0))))) hx.1 ?_ (zAr (w':=(x.1,((wOf s x.1).2.1+1,(1,(x,0))))) (by show (wOf s x.1).2.1 < (wOf s x.1).2.1+1;omega)) _ (fun a ha=>⟨(zgD ha).2.1,zu1 (by show 1≤(wOf s x.1).2.1+1;omega) ha⟩)
  show Gd (k+1) x.1 (x.1,((wOf s x.1).2.1+1,(1,(x,0)))) (cOf s x.1) (fun v=>hOf s v x.1) (led s)
  exact {g with
   n0:=⟨by simp only;omega,by simp only;omega⟩
   z:=fun hz=>absurd (show (wOf s x.1).2.1+1=0 from hz) (by omega)
   st:=fun _=>⟨by simp only;omega,rfl,hx.2⟩
   c0:=⟨gc.1,.inr (by simp only;omega)⟩
   cz:=fun hz=>⟨(gcz hz).1,fun _=>rfl⟩
   cw:=fun h1 h2=>by simp only at h2;omega
   cl:=fun h1 h2=>.inl ⟨rfl,by have:=gst;have:=gcw;omega⟩
   lg:=fun y hy hi=>by have:=(g.lg y hy hi).2;omega}
inductive HCa (s:Sig) (id:Int):Sig×Int×Unit→Prop
 |none (h:(wOf s id).2.2.1≠2):HCa s id (s,4,())
 |ok (h:(wOf s id).2.2.1=2):HCa s id (snds (setW s (id,((wOf s id).2.1+1,(4,(wOf s id).2.2.2)))) (Yz (id,((wOf s id).2.1+1,(4,(wOf s id).2.2.2)))),0,())
theorem zBY {s:Sig} (sh:Shp s) (id:Int) (hk:0≤(wOf s id).2.1∧(wOf s id).2.1≤1000000):qp (vz s (id,())) (HCa s id):=by
 rw [zeK];unfold WQ
 obtain ⟨i,w,b,e,hf⟩:=Zm sh.sW (by have:=sh.lW;omega) id
 obtain ⟨hw,hb⟩:=zbz sh.sW hf
 have hw:w=wOf s id:=hw
 have hwi:w.1=id:=by rw [hw];exact ztg s id
 rw [e,zF]
 cases b with
 |false=>
  have h3:=(hf.no rfl).1
  refine zo (zh rfl (zd (zg rfl (zd (.none ?_)))))
  rw [←hw,h3];exact show (0:Int)≠2 by decide
 |true=>
  by_cases h2:w.2.2.1=2
  ·refine zo (zg rfl (zg (by rw [wa h2];rfl) (zd (zh rfl ?_))))
   rw [show wrF .i64 (((s,(i,(w,(true,())))):Sig×(Int×(Wi×(Bool×Unit)))).2.2.1.2.1+1)=(wOf s id).2.1+1 from by show wrF .i64 (w.2.1+1)=_;rw [hw,qU (by omega) (by omega)]]
   rw [show qM (s.2.2.1,(i,(true,((w.1,((wOf s id).2.1+1,(4,w.2.2.2))),()))))=_ from Yy sh.sW (by have:=sh.lW;omega) hf hwi,zF,zjn,zF]
   refine zd ?_
   show HCa s id (snds (setW s (w.1,((wOf s id).2.1+1,(4,w.2.2.2)))) (Yz (w.1,((wOf s id).2.1+1,(4,w.2.2.2)))),0,())
   rw [hwi,show w.2.2.2=(wOf s id).2.2.2 from by rw [hw]]
   exact .ok (by rw [←hw];exact h2)
  ·exact zo (zg rfl (zh (by rw [ji h2];rfl) (zd (zg rfl (zd (.none (by rw [←hw];exact h2)))))))
theorem Iv.ca {k:Int} {s:Sig} (iv:Iv k s) {id:Int} (hid:idP id) {r:Sig×Int×Unit} (h:HCa s id r):Iv (k+1) r.1:=by
 have g:=iv.g id hid
 have lift:Iv (k+1) s:=⟨iv.sh,iv.hold,iv.lr,fun id hid=>(iv.g id hid).mono (by omega),iv.l⟩
 cases h with
 |none h=>exact lift
 |ok h=>
  have gn:=g.n0;have gz:=g.z;have gst:=g.st;have gc:=g.c0;have gcz:=g.cz;have gcw:=g.cw;have gcl:=g.cl
  have hn:1≤(wOf s id).2.1:=by
   rcases Int.lt_or_le 0 (wOf s id).2.1 with h2 | h2
   ·omega
   ·have:=gz (by omega);omega
  have hcc:(cOf s id).2.1=(wOf s id).2.1∧(cOf s id).2.2.1=2:=by
   rcases Int.lt_or_le 0 (cOf s id).2.1 with h2 | h2
   ·rcases gc.2 with h3 | h3
    ·have:=gcw (by omega) h3;omega
    ·have:=gcl (by omega) (by omega);omega
   ·have:=(gcz (by omega)).2 hn;omega
  refine zkt iv (k':=k+1) (by omega) (w:=(id,((wOf s id).2.1+1,(4,(wOf s id).2.2.2)))) hid ?_ (zAr (w':=(id,((wOf s id).2.1+1,(4,(wOf s id).2.2.2)))) (by show (wOf s id).2.1 < (wOf s id).2.1+1;omega)) _ (fun a ha=>⟨(zgD ha).2.1,zu1 (by show 1≤(wOf s id).2.1+1;omega) ha⟩)
  show Gd (k+1) id (id,((wOf s id).2.1+1,(4,(wOf s id).2.2.2))) (cOf s id) (fun v=>hOf s v id) (led s)
  exact {g with
   n0:=⟨by simp only;omega,by simp only;omega⟩
   z:=fun hz=>absurd (show (wOf s id).2.1+1=0 from hz) (by omega)
   st:=fun _=>⟨by simp only;omega,(gst hn).2⟩
   c0:=⟨gc.1,.inr (by simp only;omega)⟩
   cz:=fun hz=>by omega
   cw:=fun h1 h2=>by simp only at h2;omega
   cl:=fun h1 h2=>.inr ⟨rfl,hcc.2⟩}
def mvP (a:yn):Prop:=idP a.2.1∧(a.1=1→idP a.2.2.2.1∧Uz a.2.2.2)
theorem zG7 {k:Int} {s:Sig} (iv:Iv k s) (hk:k≤1000000) {a:yn} (ha:mvP a):qp (uC s (a,())) fun r=>Iv (k+1) r.1:=by
 have lift:∀{q:Sig},Iv k q→Iv (k+1) q:=fun iv=>⟨iv.sh,iv.hold,iv.lr,fun id hid=>(iv.g id hid).mono (by omega),iv.l⟩
 have num:∀id,idP id→0≤(wOf s id).2.1∧(wOf s id).2.1≤1000000:=fun id hid=>by have:=(iv.g id hid).n0;omega
 rw [Gy];unfold JG
 have tr:qp (opt (jh s (a.1,(a.2.2.1,()))) fun x2=>some (x2.1,(x2.2.1,()))) fun r=>Iv (k+1) r.1:=zn (zDK iv a.1 a.2.2.1) fun r hr=>zd (lift (iv.tr hr))
 have tk:qp (opt (wG s ()) fun x3=>some (x3.1,((0:Int),()))) fun r=>Iv (k+1) r.1:=by
  rw [zrz iv.sh,zF]
  exact zd (lift iv.tick)
 have en:qp (some (s,((2:Int),()))) fun r=>Iv (k+1) r.1:=zd (lift iv)
 refine zq (fun h=>?_) (fun h=>?_)
 ·have hx:=ha.2 (jg h)
  exact zn (zAs iv.sh _ (num _ hx.1)) fun r hr=>zd (iv.as hx hr)
 refine zq (fun h=>?_) (fun h=>?_)
 ·exact zn (zBY iv.sh _ (num _ ha.1)) fun r hr=>zd (iv.ca ha.1 hr)
 refine zq (fun h=>?_) (fun h=>?_)
 ·exact zq (fun h=>tr) (fun h=>zq (fun h=>tk) (fun h=>en))
 refine zq (fun h=>?_) (fun h=>?_)
 ·exact zq (fun h=>tr) (fun h=>zq (fun h=>tk) (fun h=>en))
 exact zq (fun h=>tr) (fun h=>zq (fun h=>tk) (fun h=>en))
theorem zHV {k:Int} {s:Sig} (iv:Iv k s) (hk:k≤1000000) {a:yn} (ha:mvP a):qp (kQ (s,(a,()))) fun r=>r.2.1=0→Iv (k+1) r.1:=by
 rw [zke];unfold zeq
 refine zn (zG7 iv hk ha) fun r hr=>?_
 refine zq (fun h=>zd fun h0=>?_) (fun h=>zd fun _=>hr)
 have h:=jO (show zj r.2.1 0=false by simpa using h)
 exact absurd h0 h
theorem zvU {s:Sig} (hn:(led s).length≤1000000000) (id:Int):qp (YQ (s,(id,()))) fun r=>(r.2.1=true∧r.1∈led s∧r.1.1=id)∨(r.2.1=false∧∀x∈led s,x.1≠id):=by
 rw [zrl];unfold zfB
 refine zn (J:=fun x=>(x.1=0∧∀y∈led s,y.1≠id)∨(x.1=1∧∃(i:Nat) (y:qj),x.2.1.2.1=(i:Int)∧(led s)[i]?=some y∧y.1=id))
  (qz (led s).length (fun i st=>st=((id,(0,((i:Int),()))),())∧∀(k:Nat) b,k < i→(led s)[k]?=some b→b.1≠id) (by omega) ⟨rfl,fun k b hk=>by omega⟩ ?_ ?_) ?_
 ·rintro i _ hi ⟨rfl,hp⟩
  have hx:(led s)[i]?=some (led s)[i]:=List.getElem?_eq_getElem hi
  generalize (led s)[i]=y at hx
  refine zh (qx (show (i:Int) < (((led s).length:Nat):Int) by omega)) (zo (zP (n:=i) hx ?_))
  refine zq (fun h=>?_) (fun h=>?_)
  ·exact zd (zE (.inr ⟨rfl,i,y,rfl,hx,jg h⟩))
  ·refine zd (qR ⟨congrArg (fun z=>((id,((0:Int),(z,()))),())) (qQ (by omega)),fun k b hk hb=>?_⟩)
   rcases Nat.lt_or_ge k i with hki | hki
   ·exact hp k b hki hb
   ·have:k=i:=by omega
    subst this
    rw [hx] at hb;cases hb
    exact jO h
 ·rintro _ ⟨rfl,hp⟩
  refine zg (qa (show ¬(((led s).length:Nat):Int) < (((led s).length:Nat):Int) by omega)) (zd (zE (.inl ⟨rfl,fun y hy=>?_⟩)))
  obtain ⟨k,hk,hk2⟩:=gS hy
  exact hp k y hk hk2
 ·rintro ⟨j,⟨v,w,z,⟨⟩⟩,⟨⟩⟩ (⟨rfl,hq⟩ | ⟨rfl,i,y,hw,hx,hy⟩)
  ·exact zh rfl (zd (.inr ⟨rfl,hq⟩))
  ·simp only at hw
   subst hw
   exact zg rfl (zg (qa (show ¬(i:Int) < 0 by omega)) (zo (zP (n:=i) hx (zd (.inl ⟨rfl,gf hx,hy⟩)))))
theorem zzc {l:List Int} (hn:l.length≤1000000000):QQ (l,(l,()))=some (true,()):=by
 rw [zmF];unfold zbw
 refine xd (zg (by rw [wa rfl];rfl) (zn (J:=fun x=>x.1=0) (qz l.length (fun i st=>st=((false,((i:Int),())),())) (by omega) rfl ?_ ?_) ?_))
 ·rintro i _ hi rfl
  have hx:l[i]?=some l[i]:=List.getElem?_eq_getElem hi
  generalize l[i]=y at hx
  refine zh (qx (show (i:Int) < ((l.length:Nat):Int) by omega)) (zo (zP (n:=i) hx (zo (zP (n:=i) hx ?_))))
  exact zg (by rw [wa rfl];rfl) (zd (qR (congrArg (fun z=>((false,(z,())),())) (qQ (by omega)))))
 ·rintro _ rfl
  exact zg (qa (show ¬((l.length:Nat):Int) < ((l.length:Nat):Int) by omega)) (zd (zE rfl))
 ·rintro ⟨j,⟨v,w,⟨⟩⟩,⟨⟩⟩ h
  have h:j=0:=h
  subst h
  exact zh rfl (zd rfl)
theorem zFA {x:qj} (hn:x.2.2.2.2.2.2.2.2.length≤1000000000) (hl:∀r∈x.2.2.2.2.2.2.2.2,r.length≤1000000000):wS (x,(x,()))=some (true,()):=by
 rw [zkf];unfold Gz
 have t:∀a:Int,(!zj a a)=false:=fun a=>by rw [wa rfl];rfl
 refine xd (zo (zg (t _) (zg (t _) (zg (t _) (zg (t _) (zg (t _) (zg (t _) (zg (by rw [wa rfl,wa rfl];rfl) (zg (t _) (zg (t _) (zd (zh rfl ?_))))))))))))
 generalize x.2.2.2.2.2.2.2.2=R at hn hl
 refine zn (J:=fun x=>x.1=0) (qz R.length (fun i st=>st=((false,((i:Int),())),())) (by omega) rfl ?_ ?_) ?_
 ·rintro i _ hi rfl
  have hx:R[i]?=some R[i]:=List.getElem?_eq_getElem hi
  have hm:=hl _ (List.getElem_mem hi)
  generalize R[i]=y at hx hm
  refine zh (qx (show (i:Int) < ((R.length:Nat):Int) by omega)) (zo (zP (n:=i) hx (zo (zP (n:=i) hx ?_))))
  rw [zzc hm,zF]
  exact zg rfl (zd (qR (congrArg (fun z=>((false,(z,())),())) (qQ (by omega)))))
 ·rintro _ rfl
  exact zg (qa (show ¬((R.length:Nat):Int) < ((R.length:Nat):Int) by omega)) (zd (zE rfl))
 ·rintro ⟨j,⟨v,w,⟨⟩⟩,⟨⟩⟩ h
  have h:j=0:=h
  subst h
  exact zh rfl (zd rfl)
theorem zzd {x:qj} (h:Uz x):wS (x,(x,()))=some (true,()):=by
 refine zFA ?_ ?_
 ·rcases h with h | h<;>rw [h]<;>simp
 ·rcases h with h | h<;>rw [h]<;>intro r hr<;>rw [List.mem_singleton.1 hr]<;>simp
theorem zww {s:Sig} (hs:s.1=Uy) (hn:(hel s).length≤1000000) {x:qj} (hx:Uz x) (hall:∀v,ndP v→∃h∈hel s,h.1=v∧h.2.1=x.1∧h.2.2.2=true):ZM (s,(x,()))=some (true,()):=by
 obtain ⟨r,hr,hp,hnd⟩:=zAq hx
 rw [zlA];unfold zav
 rw [hr]
 have hlen:(zY gv r).length=4:=by rcases hnd with h | h<;>rw [h]<;>rfl
 have hmem:∀v∈zY gv r,ndP v:=by rcases hnd with h | h<;>rw [h]<;>unfold ndP<;>decide
 refine xd (zn (J:=fun x=>x.1=0) (qz 1 (fun i st=>st=((s,(false,((i:Int),()))),())) (by omega) rfl ?_ ?_) ?_)
 ·rintro i _ hi rfl
  have:i=0:=by omega
  subst this
  refine zh (qx (by simp)) (zo (zP (n:=0) (x:=r) rfl ?_))
  rw [show yM (((((s,(false,(((0:Nat):Int),()))),()):(Sig×(Bool×(Int×Unit)))×Unit).1.1.1.1),(r,()))=some (zY gv r,(0,())) from by rw [hs];exact zqf hp,zF]
  refine zo (zg (by rw [wa rfl];rfl) (zg (ji (show (((zY gv r).length:Nat):Int)≠0 by rw [hlen];decide)) (zd (zh rfl ?_))))
  refine zn (J:=fun x=>x.1=0∧x.2.1.1=s∧x.2.1.2.1=false) (qz (zY gv r).length (fun i st=>st=((s,(false,((i:Int),()))),())) (by omega) rfl ?_ ?_) ?_
  ·rintro k _ hk rfl
   have hy:(zY gv r)[k]?=some (zY gv r)[k]:=List.getElem?_eq_getElem hk
   have hm:=hmem _ (List.getElem_mem hk)
   generalize (zY gv r)[k]=v at hy hm
   refine zh (qx (show (k:Int) < (((zY gv r).length:Nat):Int) by omega)) (zo (zP (n:=k) hy ?_))
   refine zn (J:=fun x=>x.1=1∧0≤x.2.1.2.1) (qz (hel s).length (fun i st=>st=((v,(0,((i:Int),()))),())∧∀(j:Nat) b,j < i→(hel s)[j]?=some b→¬(b.1=v∧b.2.1=x.1∧b.2.2.2=true)) (by omega) ⟨rfl,fun j b hj=>by omega⟩ ?_ ?_) ?_
   ·rintro i _ hi ⟨rfl,hq⟩
    have hx:(hel s)[i]?=some (hel s)[i]:=List.getElem?_eq_getElem hi
    generalize (hel s)[i]=a at hx
    have on:¬(a.1=v∧a.2.1=x.1∧a.2.2.2=true)→∀(j:Nat) b,j < i+1→(hel s)[j]?=some b→¬(b.1=v∧b.2.1=x.1∧b.2.2.2=true):=fun hn j b hj hb=>by
     rcases Nat.lt_or_ge j i with h2 | h2
     ·exact hq j b h2 hb
     ·have:j=i:=by omega
      subst this
      rw [hx] at hb;cases hb;exact hn
    refine zh (qx (show (i:Int) < (((hel s).length:Nat):Int) by omega)) (zo (zP (n:=i) hx ?_))
    refine zq (fun h1=>zq (fun h2=>zq (fun h3=>?_) (fun h3=>?_)) (fun h2=>?_)) (fun h1=>?_)
    ·exact zd (zE ⟨rfl,by simp only;omega⟩)
    ·exact zd (qR ⟨congrArg (fun z=>((v,((0:Int),(z,()))),())) (qQ (by omega)),on fun q=>by rw [q.2.2] at h3;cases h3⟩)
    ·exact zd (qR ⟨congrArg (fun z=>((v,((0:Int),(z,()))),())) (qQ (by omega)),on fun q=>jO h2 q.2.1⟩)
    ·exact zd (qR ⟨congrArg (fun z=>((v,((0:Int),(z,()))),())) (qQ (by omega)),on fun q=>jO h1 q.1⟩)
   ·rintro _ ⟨rfl,hq⟩
    exfalso
    obtain ⟨a,ha,q⟩:=hall v hm
    obtain ⟨j,hj,hb⟩:=gS ha
    exact hq j a hj hb q
   ·rintro ⟨j,⟨a,b,c,⟨⟩⟩,⟨⟩⟩ ⟨h1,h2⟩
    simp only at h1 h2
    subst h1
    exact zg rfl (zg (by rw [qa (show ¬b < 0 by omega)];rfl) (zd (qR (congrArg (fun z=>((s,(false,(z,()))),())) (qQ (by omega))))))
  ·rintro _ rfl
   exact zg (qa (show ¬(((zY gv r).length:Nat):Int) < (((zY gv r).length:Nat):Int) by omega)) (zd (zE ⟨rfl,rfl,rfl⟩))
  ·rintro ⟨j,⟨q,b,c,⟨⟩⟩,⟨⟩⟩ ⟨h1,h2,h3⟩
   simp only at h1 h2 h3
   subst h1 h2 h3
   exact zh rfl (zd (qR (congrArg (fun z=>((q,(false,(z,()))),())) (qQ (by omega)))))
 ·rintro _ rfl
  exact zg (qa (by simp)) (zd (zE rfl))
 ·rintro ⟨j,⟨q,b,c,⟨⟩⟩,⟨⟩⟩ h
  have h:j=0:=h
  subst h
  exact zh rfl (zd rfl)
theorem zFB {k:Int} {s:Sig} (iv:Iv k s):VJ (s,())=some (true,()):=by
 have hfab:s.1.2.2.1.length≤1000000000000000000:=by rw [iv.sh.fab];exact zks
 have hlw:=iv.sh.lW
 have hlh:=iv.sh.lH
 have hl12:=iv.led12
 rw [zs3];unfold zhL
 rw [UR hfab,zF]
 refine xd (zg (by show (!zj (xc s.1 (led s)) 0)=false;rw [iv.hold];rfl) ?_)
 refine zn (J:=fun x=>x.1=0∧x.2.1.1=s) (qz (wis s).length (fun i st=>st=((s,(false,((i:Int),()))),())) (by omega) rfl ?_ ?_) ?_
 ·rintro i _ hi rfl
  have hx:(wis s)[i]?=some (wis s)[i]:=List.getElem?_eq_getElem hi
  generalize (wis s)[i]=w at hx
  have hw:=gf hx
  have hid:=iv.sh.bW w hw
  have g:=iv.g w.1 hid
  rw [zzb iv.sh hw] at g
  refine zh (qx (show (i:Int) < (((wis s).length:Nat):Int) by omega)) (zo (zP (n:=i) hx ?_))
  refine zn (zvU (s:=s) (by omega) w.1) ?_
  rintro ⟨y,b,⟨⟩⟩ hy
  refine zn (J:=fun x=>x.1=0∧x.2.1.1=false) ?_ ?_
  ·refine zq (fun h=>?_) (fun h=>zd ⟨rfl,rfl⟩)
   have h2:w.2.2.1=2:=jg h
   have hc:1≤(cOf s w.1).2.1∧(cOf s w.1).2.1=w.2.1∧(cOf s w.1).2.2.1=2:=by
    have gc:=g.c0;have gz:=g.z;have gcz:=g.cz;have gcw:=g.cw;have gcl:=g.cl;have gn:=g.n0
    have hn:1≤w.2.1:=by
     rcases Int.lt_or_le 0 w.2.1 with h3 | h3
     ·omega
     ·have:=gz (by omega);omega
    rcases Int.lt_or_le 0 (cOf s w.1).2.1 with h3 | h3
    ·rcases gc.2 with h4 | h4
     ·have:=gcw (by omega) h4;omega
     ·have:=gcl (by omega) (by omega);omega
    ·have:=(gcz (by omega)).2 hn;omega
   rcases hy with ⟨hb,hm,hyi⟩ | ⟨hb,hno⟩
   rotate_left
   ·obtain ⟨x,hm,hxi⟩:=g.lc (.inr (.inl hc.2.2))
    exact absurd hxi (hno x hm)
   simp only at hb hm hyi
   subst hb
   obtain ⟨ey,_⟩:=g.lg y hm hyi
   have hry:=(iv.lr y hm).2
   have hall:∀v,ndP v→∃h∈hel s,h.1=v∧h.2.1=y.1∧h.2.2.2=true:=by
    intro v hv
    have hwz:=g.wz (by omega) (by omega)
    have hnum:(hOf s v w.1).2.2.1=(cOf s w.1).2.1:=by
     rcases g.wh (.inr (.inl hc.2.2)) v hv with h5 | h5
     ·rw [hwz] at h5;cases h5
     ·exact h5
    have hon:(hOf s v w.1).2.2.2=true:=by
     rcases g.he v hv hc.1 hnum with h5 | h5
     ·exact h5.1
     ·omega
    rcases GC (κ:=hK) (hel s) (v*8+w.1) (zH v w.1) with ⟨h6,_⟩ | ⟨h6,_⟩
    ·have:=zDC iv.sh (n:=v) hid
     exact ⟨hOf s v w.1,h6,this.1,by rw [this.2,hyi],hon⟩
    ·have:(hOf s v w.1).2.2.2=false:=by rw [show hOf s v w.1=zH v w.1 from h6]
     rw [this] at hon;cases hon
   refine zg rfl ?_
   rw [zww iv.sh.fab (by omega) hry hall,zF]
   refine zg rfl ?_
   have ey2:w.2.2.2.1=y:=ey.symm
   rw [show wS (((y,(true,())):qj×(Bool×Unit)).1,(w.2.2.2.1,()))=some (true,()) from by rw [ey2];exact zzd hry,zF]
   exact zg rfl (zd ⟨rfl,rfl⟩)
  ·rintro ⟨j,⟨b,⟨⟩⟩,⟨⟩⟩ ⟨h1,h2⟩
   simp only at h1 h2
   subst h1 h2
   exact zh rfl (zd (qR (congrArg (fun z=>((s,(false,(z,()))),())) (qQ (by omega)))))
 ·rintro _ rfl
  exact zg (qa (show ¬(((wis s).length:Nat):Int) < (((wis s).length:Nat):Int) by omega)) (zd (zE ⟨rfl,rfl⟩))
 rintro ⟨j,⟨q,b,n,⟨⟩⟩,⟨⟩⟩ ⟨h1,h2⟩
 simp only at h1 h2
 subst h1 h2
 refine zh rfl ?_
 refine zn (J:=fun x=>x.1=0) (qz (hel q).length (fun i st=>st=((q,(b,((i:Int),()))),())) (by omega) rfl ?_ ?_) ?_
 ·rintro i _ hi rfl
  have hx:(hel q)[i]?=some (hel q)[i]:=List.getElem?_eq_getElem hi
  generalize (hel q)[i]=a at hx
  have ha:=gf hx
  have hid:=(iv.sh.bH a ha).2
  have g:=iv.g a.2.1 hid
  have ea:=zHU iv.sh ha
  refine zh (qx (show (i:Int) < (((hel q).length:Nat):Int) by omega)) (zo (zP (n:=i) hx ?_))
  refine zn (zvU (s:=q) (by omega) a.2.1) ?_
  rintro ⟨y,b',⟨⟩⟩ hy
  refine zn (J:=fun x=>x.1=0∧x.2.1.1=b) ?_ ?_
  ·refine zq (fun h=>?_) (fun h=>zd ⟨rfl,rfl⟩)
   have h:a.2.2.2=true:=h
   have hst:=g.ho a.1 (iv.sh.bH a ha).1 (show (hOf q a.1 a.2.1).2.2.2=true by rw [ea];exact h)
   obtain ⟨x,hm,hxi⟩:=g.lc hst
   rcases hy with ⟨hb,_⟩ | ⟨hb,hno⟩
   ·simp only at hb
    subst hb
    exact zg rfl (zd ⟨rfl,rfl⟩)
   ·exact absurd hxi (hno x hm)
  ·rintro ⟨j,⟨b2,⟨⟩⟩,⟨⟩⟩ ⟨h1,h2⟩
   simp only at h1 h2
   subst h1 h2
   exact zh rfl (zd (qR (congrArg (fun z=>((q,(_,(z,()))),())) (qQ (by omega)))))
 ·rintro _ rfl
  exact zg (qa (show ¬(((hel q).length:Nat):Int) < (((hel q).length:Nat):Int) by omega)) (zd (zE rfl))
 ·rintro ⟨j,⟨q,b,n,⟨⟩⟩,⟨⟩⟩ h
  have h:j=0:=h
  subst h
  exact zh rfl (zd rfl)
abbrev Mov:=qt
structure moP (m:Mov):Prop where
 k:0≤m.1∧m.1≤255
 i:0≤m.2.1∧m.2.1≤255
 a:0≤m.2.2.1∧m.2.2.1≤255
theorem id6 {i:Int} (h:0≤i∧i≤255):idP (wrF .i64 (1+wrF .i64 (Int.tmod i 6))):=by
 have e:Int.tmod i 6=i % 6:=Int.tmod_eq_emod_of_nonneg h.1
 rw [e,qU (z:=i % 6) (by omega) (by omega),qU (by omega) (by omega)]
 unfold idP
 omega
theorem zAt {m:Mov} (h:moP m):qp (yJ (m,())) fun r=>idP r.1.1∧Uz r.1:=by
 rw [zjl];unfold Uw
 refine zn (J:=fun x=>idP x.2.1.1.1∧Uz x.2.1.1) (zq (fun hb=>zd ⟨id6 h.i,.inr rfl⟩) (fun hb=>zd ⟨id6 h.i,.inl rfl⟩)) ?_
 rintro ⟨j,⟨x,⟨⟩⟩,⟨⟩⟩ hx
 exact zd hx
theorem zG8 {m:Mov} (h:moP m) (s:Sig):qp (QP (m,(s,()))) fun r=>mvP r.1:=by
 rw [zmD];unfold zbs
 refine zn (J:=fun x=>idP x.2.1.1.2.1) ?_ ?_
 ·refine zq (fun h0=>zq (fun h1=>zq (fun h2=>?_) (fun h2=>?_)) (fun h1=>?_)) (fun h0=>?_)
  ·have:=yF h0;have:=jg h2;omega
  ·exact zd (id6 h.i)
  ·exact zd (id6 h.i)
  ·exact zd (id6 h.i)
 rintro ⟨j,⟨a,⟨⟩⟩,⟨⟩⟩ ha
 simp only at ha
 refine zn (J:=fun x=>mvP x.2.1.2.1) ?_ ?_
 ·refine zq (fun h1=>?_) (fun h1=>zd ⟨ha,fun e=>absurd e (jO h1)⟩)
  exact zn (zAt h) fun r hr=>zd ⟨ha,fun _=>hr⟩
 ·rintro ⟨j,⟨b,c,⟨⟩⟩,⟨⟩⟩ hb
  exact zd hb
def s0:Sig:=(Uy,([],([],([],([],[])))))
theorem zIn:Iv 0 s0 where
 sh:=⟨rfl,zuU,zuU,zuU,fun w h=>(by cases h),fun w h=>(by cases h),fun w h=>(by cases h),by decide⟩
 hold:=zDB
 lr:=fun x h=>by cases h
 g
  :=fun id hid=>{
  n0:=⟨Int.le_refl _,Int.le_refl _⟩,z:=fun _=>⟨rfl,rfl⟩,st:=fun h=>absurd (show (1:Int)≤0 from h) (by decide),c0:=⟨Int.le_refl _,.inl rfl⟩,
  cz:=fun _=>⟨rfl,fun h=>absurd (show (1:Int)≤0 from h) (by decide)⟩,cw:=fun h=>absurd (show (1:Int)≤0 from h) (by decide),cl:=fun h=>absurd (show (1:Int)≤0 from h) (by decide),
  lg:=fun x h=>(by cases h),lc:=fun h=>by
   have h:(0:Int)=1∨(0:Int)=2∨(0:Int)=4:=h
   omega
  hn:=fun v _=>⟨Int.le_refl _,Int.le_refl _⟩,he:=fun v _ h=>absurd (show (1:Int)≤0 from h) (by decide),ho:=fun v _ h=>absurd (show false=true from h) (by decide),
  wn:=fun h=>by
   have h:(0:Int)=1∨(0:Int)=4:=h
   omega
  wz:=fun _ _=>rfl,wr:=fun v h=>(by cases h),wd:=List.nodup_nil,wh:=fun h=>by
   have h:(0:Int)=1∨(0:Int)=2∨(0:Int)=4:=h
   omega}
 l:=fun l h=>by cases h
theorem zDM {l:List Mov} (h:∀m∈l,moP m) {most:Nat} (hm:most≤1000) (hl:l.length≤1000000000000000000):qp (Wb (l,((most:Int),()))) fun r=>(∃k:Int,k≤(most:Int)∧Iv k r.1)∧r.2.1=true:=by
 rw [zro];unfold zfC
 rw [zGY,zF,zGZ,zF]
 have ec:Ks ((l.length:Nat):Int) (most:Int)=((min l.length most:Nat):Int):=by rw [zuE];omega
 rw [ec,zAc l _ (Nat.min_le_left _ _),zF]
 have hlt:(l.take (min l.length most)).length=min l.length most:=by rw [List.length_take];omega
 have hmem:∀m∈l.take (min l.length most),moP m:=fun m hm=>h m (List.mem_of_mem_take hm)
 generalize l.take (min l.length most)=L at hlt hmem
 refine zn (J:=fun x=>(∃k:Int,k≤(most:Int)∧Iv k x.2.1.1)∧x.2.1.2.1=true) (qz L.length (fun i st=>∃q,st=((q,(true,((i:Int),()))),())∧Iv (i:Int) q) (by omega) ⟨s0,rfl,zIn⟩ ?_ ?_) ?_
 ·rintro i _ hi ⟨q,rfl,iv⟩
  have hx:L[i]?=some L[i]:=List.getElem?_eq_getElem hi
  have hmo:=hmem _ (List.getElem_mem hi)
  generalize L[i]=m at hx hmo
  have lift:Iv ((i+1:Nat):Int) q:=⟨iv.sh,iv.hold,iv.lr,fun id hid=>(iv.g id hid).mono (by omega),iv.l⟩
  refine zh (qx (show (i:Int) < ((L.length:Nat):Int) by omega)) (zo (zP (n:=i) hx ?_))
  refine zn (zG8 hmo q) fun a ha=>?_
  refine zn (zHV iv (by omega) ha) fun r hr=>?_
  refine zn (J:=fun x=>Iv ((i+1:Nat):Int) x.2.1.1∧x.2.1.2.1=true) ?_ ?_
  ·refine zq (fun h0=>?_) (fun h0=>zd ⟨lift,rfl⟩)
   have iv':Iv ((i+1:Nat):Int) r.1:=hr (jg h0)
   refine zh rfl ?_
   rw [zFB iv',zF]
   exact zd ⟨iv',rfl⟩
  ·rintro ⟨j,⟨q',b,⟨⟩⟩,⟨⟩⟩ ⟨h1,h2⟩
   simp only at h1 h2
   subst h2
   exact zd (qR ⟨q',congrArg (fun z=>((q',(true,(z,()))),())) (qQ (by omega)),h1⟩)
 ·rintro _ ⟨q,rfl,iv⟩
  refine zg (qa (show ¬((L.length:Nat):Int) < ((L.length:Nat):Int) by omega)) (zd (zE ⟨⟨_,by omega,iv⟩,rfl⟩))
 ·rintro ⟨j,⟨q,b,n,⟨⟩⟩,⟨⟩⟩ hq
  exact zd hq
def wt (l:Le):Nat:=if l.1=1 then 13 else if l.1=2∨l.1=3 then 3 else if l.1=4 then 2 else 1
def phi (x:List Le):Nat:=(x.map wt).sum
theorem zc0 (l:Le):1≤wt l:=by unfold wt;split<;>(try split)<;>(try split)<;>omega
theorem zHW (l:Le):wt l≤13:=by unfold wt;split<;>(try split)<;>(try split)<;>omega
theorem zac:phi []=0:=rfl
theorem zec (l:Le) (x:List Le):phi (l::x)=wt l+phi x:=by unfold phi;rw [List.map_cons,List.sum_cons]
theorem zAu (x y:List Le):phi (x++y)=phi x+phi y:=by unfold phi;rw [List.map_append,List.sum_append]
theorem ZO (x:List Le):x.length≤phi x:=by
 induction x with
 |nil=>exact Nat.le_refl _
 |cons l x ih=>rw [zec,List.length_cons];have:=zc0 l;omega
theorem zAv (x:List Le):phi x≤13*x.length:=by
 induction x with
 |nil=>exact Nat.le_refl _
 |cons l x ih=>rw [zec,List.length_cons];have:=zHW l;omega
theorem zFC (ls:List Le):∀x:List Le,phi (Yd x ls)≤phi x+phi ls:=by
 induction ls with
 |nil=>intro x;exact Nat.le_refl _
 |cons l ls ih=>
  intro x
  have h1:=ih (zeb x l)
  have h2:phi (zeb x l)≤phi x+wt l:=by
   unfold zeb
   split
   ·rw [zAu,zec,zac];omega
   ·omega
  show phi (Yd (zeb x l) ls)≤_
  rw [zec]
  omega
theorem Up (c:Ca):phi (vl c)≤1:=by
 unfold vl
 split
 ·exact Nat.le_refl _
 split
 ·exact Nat.le_refl _
 split
 ·exact Nat.le_refl _
 ·exact Nat.zero_le _
theorem zvV {s:Sig} {l:Le} {s':Sig} (h:Yn s l s'):∃X,wir s'=Yd (wir s) X∧phi X+1≤wt l:=by
 cases h with
 |ask hk hs=>
  have e:wt l=13:=by unfold wt;rw [if_pos hk]
  rw [e]
  cases hs with
  |old h=>exact ⟨[],rfl,by rw [zac];omega⟩
  |same h=>exact ⟨_,rfl,by have:=Up (cOf s l.2.1);omega⟩
  |fail h hw e he ha=>exact ⟨_,rfl,by have:=Up (l.2.1,(l.2.2.1,(3,(e,[]))));omega⟩
  |put h hw ha hh=>exact ⟨_,rfl,Nat.le_refl _⟩
  |gone h hw hx=>exact ⟨_,rfl,by have:=Up (l.2.1,(l.2.2.1,(5,(0,[]))));omega⟩
  |drop h hw x hx hi=>exact ⟨_,rfl,Nat.le_refl _⟩
 |ins hk hs=>
  have e:wt l=3:=by unfold wt;rw [if_neg (by omega),if_pos hk]
  rw [e]
  cases hs with
  |old h=>exact ⟨[],rfl,by rw [zac];omega⟩
  |new h=>exact ⟨_,rfl,Nat.le_refl _⟩
 |done hk hs=>
  have e:wt l=2:=by unfold wt;rw [if_neg (by omega),if_neg (by omega),if_pos hk]
  rw [e]
  cases hs with
  |old h=>exact ⟨[],rfl,by rw [zac];omega⟩
  |wait h hs hw=>exact ⟨[],rfl,by rw [zac];omega⟩
  |ready h hs hw=>exact ⟨_,rfl,by have:=Up (l.2.1,(l.2.2.1,(2,((cOf s l.2.1).2.2.2.1,[]))));omega⟩
  |gone h hs hw M hM hm=>exact ⟨_,rfl,by have:=Up (l.2.1,(l.2.2.1,(5,((cOf s l.2.1).2.2.2.1,[]))));omega⟩
 |ans hk hs=>
  have:=zc0 l
  cases hs with
  |old h=>exact ⟨[],rfl,by rw [zac];omega⟩
  |ready h hs hk=>exact ⟨[],rfl,by rw [zac];omega⟩
  |fail h hs hk=>exact ⟨[],rfl,by rw [zac];omega⟩
  |gone h hs hk=>exact ⟨[],rfl,by rw [zac];omega⟩
theorem zes {J:Sig→Prop} {k:Int} (hJ:∀s,J s→Iv k s) (step:∀s l X s',J s→wir s=l::X→Yn (upX s X) l s'→J s') {s:Sig} (h:J s):qp (xh s ()) fun r=>J r.1∧wir r.1=[]:=by
 rw [zb6];unfold QO
 refine zn (J:=fun x=>J x.2.1.1∧wir x.2.1.1=[]) (zDb (fun st=>J st.1.1) _ (fun st=>phi (wir st.1.1)) h ?_ ?_) ?_
 ·have:=(hJ s h).sh.x
  have:=zAv (wir s)
  show phi (wir s) < _
  omega
 ·rintro ⟨⟨q,⟨⟩⟩,⟨⟩⟩ hq
  have hq:J q:=hq
  refine zn (zDK (hJ q hq) 3 0) ?_
  intro r hr
  cases hr with
  |bad hb=>
   have he:wir q=[]:=List.length_eq_zero_iff.1 (by omega)
   exact zh rfl (zd (zDa ⟨hq,he⟩))
  |copy l hl h5=>exact absurd h5 (by decide)
  |lose i hi h0 h5 h3=>exact absurd rfl h3
  |deliver i h0 h3 l hl s' hs=>
   have h0:i=0:=by omega
   subst h0
   cases hw:wir q with
   |nil=>rw [hw] at hl;cases hl
   |cons a X=>
    rw [hw] at hl
    cases hl
    have e:(wir q).take 0++(wir q).drop (0+1)=X:=by rw [hw];rfl
    rw [e] at hs
    refine zg rfl (zd (zFe (step q l X s' hq hw hs) ?_))
    obtain ⟨Y,e1,e2⟩:=zvV hs
    show phi (wir s') < phi (wir q)
    rw [e1,hw,zec]
    have:=zFC Y X
    have e3:wir (upX q X)=X:=rfl
    rw [e3]
    omega
 ·rintro ⟨j,⟨q,⟨⟩⟩,⟨⟩⟩ hq
  exact zd hq
end Go.Proofs.YtleloebnggepoaaGreat.sg
end
