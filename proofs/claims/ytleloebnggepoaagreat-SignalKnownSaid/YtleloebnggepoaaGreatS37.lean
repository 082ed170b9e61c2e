/- Parts of a proof, joined. -/
import Derived.Test.YtleloebnggepoaaGreatS36
set_option linter.unusedSectionVars false
set_option linter.unusedVariables false
set_option linter.unusedSimpArgs false
set_option maxHeartbeats 0
set_option maxRecDepth 100000
noncomputable section
namespace Go.Proofs.YtleloebnggepoaaGreat.sg
open Go Go.Fz Go.Fz.Sy
def yK (l:List (Int×Int)):Int×Int:=((l.map (·.1)).sum,(l.map (·.2)).sum)
theorem zCT {l:List (Int×Int)} {i:Nat} {b:Int×Int} (h:l[i]?=some b):yK (l.take (i+1))=((yK (l.take i)).1+b.1,(yK (l.take i)).2+b.2):=by
 unfold yK;rw [List.take_add_one,h];simp
theorem zuj:∀{l:List (Int×Int)},(∀b∈l,vI b)→(l.length:Int)≤(yK l).1∧(yK l).1≤1048576*l.length∧(l.length:Int)≤(yK l).2∧(yK l).2≤2097152*l.length
 |[],_=>by simp [yK]
 |b::l,h=>by
  have ih:=zuj (l:=l) fun x hx=>h x (by simp [hx])
  obtain ⟨⟨h1,h2⟩,h3,h4⟩:=h b (by simp)
  unfold yK at *
  simp only [List.map_cons,List.sum_cons,List.length_cons]
  omega
noncomputable def Um (l:List (Int×Int)):(Int×Int)×Int:=bif tv (vI (yK l)) then (yK l,0) else ((0,0),6)
theorem zuk {l:List (Int×Int)} (h0:l≠[]) (h12:l.length≤12) (hb:∀b∈l,vI b):uF (l,())=some ((Um l).1,(Um l).2,()):=by
 have hl:0 < l.length:=List.length_pos_iff.2 h0
 rw [zsg];unfold zgQ
 refine xr (zg (jx (show (l.length:Int)≠0 by omega)) (zg (qm (show ¬12 < (l.length:Int) by omega)) ?_))
 refine zq (J:=fun x=>x.1=0∧x.2.1.2.1=yK l) (qG l.length (fun i s=>s=(((0,0),(yK (l.take i),(0,((i:Int),())))),())) (by omega) rfl ?_ ?_) ?_
 ·rintro i _ hi rfl
  have hx:l[i]?=some l[i]:=List.getElem?_eq_getElem hi
  have hm:=List.getElem_mem hi
  generalize l[i]=b at hx hm
  have hbb:=hb b hm
  have hbd:=zuj (l:=l.take i) fun x hx=>hb x (List.mem_of_mem_take hx)
  have hlt:(l.take i).length=i:=by simp;omega
  refine zi (qD (show (i:Int) < (l.length:Int) by omega)) (zn (qh (n:=i) hx ?_))
  rw [WT,zO hbb,zK,cond_true]
  refine zg rfl (zd (ji ?_))
  obtain ⟨⟨b1,b2⟩,b3,b4⟩:=hbb
  show (((0,0),(((wrF .i64 ((yK (l.take i)).1+b.1)),(wrF .i64 ((yK (l.take i)).2+b.2))),(0,((wrF .i64 ((i:Int)+1)),())))),())=_
  rw [zCT hx,qX (by omega),qR (z:=(yK (l.take i)).1+b.1) (by omega) (by omega),qR (by omega) (by omega)]
 ·rintro _ rfl
  refine zg (qm (show ¬(l.length:Int) < (l.length:Int) by omega)) (zd (zE ⟨rfl,?_⟩))
  show yK (l.take l.length)=_
  rw [List.take_length]
 ·rintro ⟨j,⟨a1,a2,a3,a4,⟨⟩⟩,⟨⟩⟩ ⟨h1,h2⟩
  simp only at h1 h2
  subst h1 h2
  refine zi rfl ?_
  rw [WT,zK]
  unfold Um
  by_cases h:vI (yK l)
  ·rw [zO h];exact zg rfl (zd rfl)
  ·rw [qo h];exact zi rfl (zd rfl)
theorem wru {z:Int} (h1:0≤z) (h2:z < 18446744073709551616):wrF .u64 z=z:=by
 rw [zbG]
 have e:IntKind.u64.wrap z=z % 18446744073709551616:=by
  unfold IntKind.wrap
  show (if (false&&decide (z % 18446744073709551616≥9223372036854775808))=true then z % 18446744073709551616 - 18446744073709551616 else z % 18446744073709551616)=_
  simp
 rw [e];omega
theorem zsF (x:Int):yu .u64 x 32=x / 4294967296:=by
 show x.fdiv (2 ^ (min (32:Int).toNat 64))=x / 4294967296
 rw [show (2:Int) ^ (min (32:Int).toNat 64)=4294967296 from rfl]
 exact Int.fdiv_eq_ediv_of_nonneg x (by omega)
theorem zBj {x:Int} (h0:0≤x) (h1:x < 4294967296):gP .and .u64 x 4294967295=x:=by
 obtain ⟨n,rfl⟩:=Int.eq_ofNat_of_zero_le h0
 show IntKind.u64.wrap (((BitVec.ofInt 64 (n:Int)&&& BitVec.ofInt 64 4294967295).toNat:Nat):Int)=_
 have e:(BitVec.ofInt 64 (n:Int)&&& BitVec.ofInt 64 4294967295).toNat=n:=by
  rw [BitVec.toNat_and,BitVec.toNat_ofInt,BitVec.toNat_ofInt]
  have e1:((n:Int) % ((2 ^ 64:Nat):Int)).toNat=n:=by
   rw [show ((2 ^ 64:Nat):Int)=18446744073709551616 from rfl];omega
  have e2:((4294967295:Int) % ((2 ^ 64:Nat):Int)).toNat=2 ^ 32 - 1:=rfl
  rw [e1,e2,Nat.and_two_pow_sub_one_of_lt_two_pow (by omega)]
 rw [e,←zbG]
 exact wru (by omega) (by omega)
theorem zid {l:List Int} (hn:l.length≤1000) (h:∀x∈l,-1125899906842624≤x∧x≤1125899906842624):kL (l,())=some (true,()):=by
 rw [zqy];unfold zeS
 refine kV (zq (J:=fun x=>x.1=0) (uG l.length (fun _=>True) (by omega) ?_ ?_) ?_)
 ·intro i hi _
  have hx:l[i]?=some l[i]:=List.getElem?_eq_getElem hi
  obtain ⟨h1,h2⟩:=h _ (List.getElem_mem hi)
  generalize l[i]=x at hx h1 h2
  refine zi (qD (show (i:Int) < (l.length:Int) by omega)) (zn (qh (n:=i) hx ?_))
  refine zq (J:=fun r=>r.1=0∧r.2.1.1=false) (zg (qm (by omega)) (zg (qm (by omega)) (zd ⟨rfl,rfl⟩))) ?_
  rintro ⟨j,⟨v,⟨⟩⟩,⟨⟩⟩ ⟨rfl,rfl⟩
  exact zi rfl (zd (Zc (by omega) trivial))
 ·intro _
  exact zg (qm (show ¬(l.length:Int) < (l.length:Int) by omega)) (zd (zE rfl))
 ·rintro ⟨j,⟨v,w,⟨⟩⟩,⟨⟩⟩ h1
  simp only at h1
  subst h1
  exact zi rfl (zd rfl)
theorem zsG {x:Int} (h1 : -1125899906842624≤x) (h2:x≤1125899906842624):YE (x,())=some (x,true,()):=by
 rw [zqB];unfold zeT
 rw [zid (by simp) (by simp;omega)];rfl
theorem zl6 {a b:Int} (a0:0≤a) (a1:a < 4294967296) (b0:0≤b) (b1:b < 4294967296):Zt (a,b,())=some (0,a*b,()):=by
 have hm:=zjO a0 (show a≤4294967295 by omega) b0 (show b≤4294967295 by omega)
 rw [zkO];unfold GZ
 rw [zsF a,zsF b,zBj a0 a1,zBj b0 b1,show a / 4294967296=0 by omega,show b / 4294967296=0 by omega,Int.zero_mul,Int.zero_mul,Int.mul_zero]
 rw [show wrF .u64 0=0 from rfl,wru (z:=a*b) (by omega) (by omega),zsF (a*b),Int.zero_add (a*b / 4294967296)]
 have h1:0≤a*b / 4294967296:=by omega
 have h2:a*b / 4294967296 < 4294967296:=by omega
 rw [wru (z:=a*b / 4294967296) h1 (by omega),zsF (a*b / 4294967296),show a*b / 4294967296 / 4294967296=0 by omega,zBj h1 h2,Int.add_zero (a*b / 4294967296),wru (z:=a*b / 4294967296) h1 (by omega),zsF (a*b / 4294967296),show a*b / 4294967296 / 4294967296=0 by omega]
 rfl
theorem zl7 {a c:Int} (a0:0≤a) (a1:a < 18446744073709551616) (c0:0 < c):Zy (0,a,c,())=some (a / c,a % c,()):=by
 rw [zkR];unfold zaa
 have hq:0≤a / c:=Int.ediv_nonneg a0 (by omega)
 have hq2:a / c≤a:=Int.ediv_le_self _ a0
 rw [jx (show c≠0 by omega),qD (show 0 < c by omega),Int.tdiv_eq_ediv_of_nonneg a0,Int.tmod_eq_emod_of_nonneg a0,wru hq (by omega)]
 rfl
theorem zjP {a b c:Int} (a0:0≤a) (a1:a < 4294967296) (b0:0≤b) (b1:b < 4294967296) (c0:0 < c) (c1:c≤4294967296) (hm:a*b≤1125899906842000):kB (a,b,c,())=some (cl c (a*b),()):=by
 have hm0:0≤a*b:=Int.mul_nonneg a0 b0
 have hq:0≤a*b / c:=Int.ediv_nonneg hm0 (by omega)
 have hq2:a*b / c≤a*b:=Int.ediv_le_self _ hm0
 have hr:=Int.emod_nonneg (a*b) (show c≠0 by omega)
 have hr2:=Int.emod_lt_of_pos (a*b) c0
 have hde:=Int.emod_add_mul_ediv (a*b) c
 rw [zsk];unfold zgU
 rw [qR (z:=0 - a) (by omega) (by omega)]
 have hM:gY (0 - a,())=some (a,()):=by
  rw [zen];unfold Uw
  rcases Int.lt_or_le (0 - a) 0 with h | h
  ·rw [qD h,cond_true,show 0 - (0 - a)=a by omega,qR (z:=a) (by omega) (by omega),wru (z:=a) (by omega) (by omega)]
  ·rw [qm (by omega),cond_false,show 0 - a=a by omega,wru (z:=a) (by omega) (by omega)]
 have hM2:gY (b,())=some (b,()):=by
  rw [zen];unfold Uw
  rw [qm (by omega),cond_false,wru (z:=b) (by omega) (by omega)]
 have hcl:cl c (a*b)=if a*b % c=0 then a*b / c else a*b / c+1:=by
  unfold cl
  split
  ·rename_i h
   have e:a*b+c - 1=(c - 1)+(a*b / c)*c:=by rw [Int.mul_comm _ c];omega
   rw [e,Int.add_mul_ediv_right _ _ (by omega),Int.ediv_eq_zero_of_lt (by omega) (by omega)];omega
  ·rename_i h
   have e:a*b+c - 1=(a*b % c - 1)+(a*b / c+1)*c:=by rw [Int.add_mul,Int.mul_comm _ c];omega
   rw [e,Int.add_mul_ediv_right _ _ (by omega),Int.ediv_eq_zero_of_lt (by omega) (by omega)];omega
 have key:qB (Vw (0 - a,b,c,())) fun r=>r.1 = -cl c (a*b):=by
  rw [zsj];unfold zgT
  rw [zid (by simp) (by simp;omega)]
  refine zq (J:=fun x=>x.1=0) (zg (qm (show ¬c < 1 by omega)) (zd rfl)) ?_
  rintro ⟨j,⟨v,w,⟨⟩⟩,⟨⟩⟩ h1
  simp only at h1
  subst h1
  refine zi rfl ?_
  rw [hM,zK,hM2,zK,zl6 a0 a1 b0 b1,zK,wru (z:=c) (by omega) (by omega)]
  refine zg (by rw [qD (show (0:Int) < c by omega)];rfl) ?_
  rw [zl7 hm0 (by omega) c0,zK]
  refine zg (qm (show ¬1125899906842624 < a*b / c by omega)) ?_
  refine zq (J:=fun x=>x.2.1.1 = -cl c (a*b)) ?_ ?_
  ·rw [qm (show ¬b < 0 by omega),hcl]
   rcases Int.lt_or_le (0 - a) 0 with h | h
   ·rw [qD h]
    refine zi rfl (zq (J:=fun x=>x.2.1.1 = -(if a*b % c=0 then a*b / c else a*b / c+1)) ?_ ?_)
    ·rw [qR (z:=a*b / c) (by omega) (by omega),qR (z:=0 - a*b / c) (by omega) (by omega),qR (z:=0 - a*b / c - 1) (by omega) (by omega)]
     refine zt (fun h2=>?_) (fun h2=>?_)
     ·have h2:(!zj (a*b % c) 0)=true:=h2
      have:=wH (show zj (a*b % c) 0=false by simpa using h2)
      refine zd ?_
      rw [if_neg this]
      show 0 - a*b / c - 1=_
      omega
     ·have h2:(!zj (a*b % c) 0)=false:=h2
      have:=jJ (show zj (a*b % c) 0=true by simpa using h2)
      refine zd ?_
      rw [if_pos this]
      show 0 - a*b / c=_
      omega
    ·rintro ⟨j,⟨v,⟨⟩⟩,⟨⟩⟩ h1
     exact zd h1
   ·have ha:a=0:=by omega
    rw [qm (by omega),ha]
    refine zg rfl (zd ?_)
    rw [Int.zero_mul,Int.zero_ediv,Int.zero_emod,if_pos rfl]
    rfl
  ·rintro ⟨j,⟨v,⟨⟩⟩,⟨⟩⟩ h1
   simp only at h1
   subst h1
   have:0≤cl c (a*b):=by rw [hcl];split<;>omega
   have:cl c (a*b)≤a*b / c+1:=by rw [hcl];split<;>omega
   rw [zsG (x:=-cl c (a*b)) (by omega) (by omega)]
   exact zd rfl
 obtain ⟨⟨r,w,⟨⟩⟩,e,h⟩:=key
 rw [e,zK]
 simp only at h
 subst h
 have:0≤cl c (a*b):=by rw [hcl];split<;>omega
 have:cl c (a*b)≤a*b / c+1:=by rw [hcl];split<;>omega
 show some (wrF .i64 (0 - -cl c (a*b)),())=_
 rw [qR (by omega) (by omega),show 0 - -cl c (a*b)=cl c (a*b) by omega]
def zdD (s:Int×Int):Prop:=1≤s.1∧s.1≤2097152∧0≤s.2∧s.2≤268435456
theorem zoJ.ok {v:Int×Int} (h:zoJ v):zdD v:=⟨h.1,by have:=h.2.1;omega,h.2.2.1,h.2.2.2⟩
theorem zie {s:Int×Int} (h:zdD s):kK (s,())=some (0,()):=by
 obtain ⟨h1,h2,h3,h4⟩:=h
 rw [zqx];unfold zeR
 rw [qm (by omega),qm (by omega),qm (by omega),qm (by omega)];rfl
theorem zFq {d w M:Int} (hd:0 < d) (h0:0≤w) (h1:w≤M):0≤cl d w∧cl d w≤M+1:=by
 unfold cl
 refine ⟨Int.ediv_nonneg (by omega) (by omega),?_⟩
 have:(w+d - 1) / d≤(w*d+d) / d:=by
  refine Int.ediv_le_ediv hd ?_
  have:=Int.mul_le_mul_of_nonneg_left (show 1≤d by omega) h0
  omega
 have e:(w*d+d) / d=w+1:=by
  rw [show w*d+d=(w+1)*d by rw [Int.add_mul,Int.one_mul]];exact Int.mul_ediv_cancel _ (by omega)
 omega
theorem zBk {b s:Int×Int} (hb:vI b) (hs:zdD s):kB (b.1,1048576,s.1,())=some (cl s.1 (b.1*1048576),()):=by
 obtain ⟨⟨b1,b2⟩,b3,b4⟩:=hb
 obtain ⟨h1,h2,h3,h4⟩:=hs
 exact zjP (by omega) (by omega) (by omega) (by omega) (by omega) (by omega) (by omega)
theorem zyo {b s:Int×Int} (hb:vI b) (hs:zdD s):0≤cl s.1 (b.1*1048576)∧cl s.1 (b.1*1048576)≤1099511627777:=by
 obtain ⟨⟨b1,b2⟩,b3,b4⟩:=hb
 obtain ⟨h1,h2,h3,h4⟩:=hs
 exact zFq (M:=1099511627776) (by omega) (by omega) (by omega)
theorem zsH {b s:Int×Int} (hb:vI b) (hs:zdD s):vO ([b],s,())=some (bif tv (b.2≤s.1) then (s.2+cl s.1 (b.1*1048576),0,()) else (0,141,())):=by
 have hd:=zyo hb hs
 have hcl:Qy ([b],s.1,())=some (bif tv (b.2≤s.1) then (cl s.1 (b.1*1048576),true,()) else (0,false,())):=by
  rw [zlZ];unfold za0
  refine xr ?_
  by_cases h:b.2≤s.1
  ·rw [zO h,cond_true]
   refine zq (J:=fun x=>x.2.1.1=cl s.1 (b.1*1048576)∧x.2.1.2.1=true) (qG 1 (fun i st=>(i=0∧st=((0,(false,(0,()))),((),((),()))))∨(i=1∧st=((cl s.1 (b.1*1048576),(true,(1,()))),((),((),()))))) (by omega) (.inl ⟨rfl,rfl⟩) ?_ ?_) ?_
   ·rintro i _ hi (⟨rfl,rfl⟩ | ⟨rfl,rfl⟩)
    ·refine zi rfl (zn (qF (a:=b) rfl (zg (qm (by omega)) ?_)))
     rw [zBk hb hs,zK]
     refine zq (J:=fun x=>x.2.1.1=cl s.1 (b.1*1048576)∧x.2.1.2.1=true) (zi rfl (zd ⟨rfl,rfl⟩)) ?_
     rintro ⟨j,⟨a1,a2,⟨⟩⟩,⟨⟩,⟨⟩⟩ ⟨h1,h2⟩
     simp only at h1 h2
     subst h1 h2
     refine zq (J:=fun x=>x.1=0∧x.2.1.1=cl s.1 (b.1*1048576)∧x.2.1.2.1=true) (qG 1 (fun i st=>(i=0∧st=((cl s.1 (b.1*1048576),(true,(0,()))),((),((),()))))∨(i=1∧st=((cl s.1 (b.1*1048576),(true,(1,()))),((),((),()))))) (by omega) (.inl ⟨rfl,rfl⟩) ?_ ?_) ?_
     ·rintro i _ hi (⟨rfl,rfl⟩ | ⟨rfl,rfl⟩)
      ·refine zi rfl (zn (qF (a:=b) rfl (zi (by rw [qm (by omega)];rfl) ?_)))
       exact zd (ji (.inr ⟨rfl,rfl⟩))
      ·omega
     ·rintro _ (⟨h1,rfl⟩ | ⟨_,rfl⟩)
      ·omega
      ·exact zg rfl (zd (zE ⟨rfl,rfl,rfl⟩))
     ·rintro ⟨j,⟨a1,a2,a3,⟨⟩⟩,⟨⟩,⟨⟩,⟨⟩⟩ ⟨h1,h2,h3⟩
      simp only at h1 h2 h3
      subst h1 h2 h3
      exact zi rfl (zd (ji (.inr ⟨rfl,rfl⟩)))
    ·omega
   ·rintro _ (⟨h1,rfl⟩ | ⟨_,rfl⟩)
    ·omega
    ·exact zg rfl (zd (zE ⟨rfl,rfl⟩))
   ·rintro ⟨j,⟨a1,a2,a3,⟨⟩⟩,⟨⟩,⟨⟩,⟨⟩⟩ ⟨h1,h2⟩
    simp only at h1 h2
    subst h1 h2
    refine zt (fun _=>?_) (fun _=>?_)<;>exact zd rfl
  ·rw [qo h,cond_false]
   refine zq (J:=fun x=>x.2.1.1=0∧x.2.1.2.1=false) (qG 1 (fun i st=>(i=0∧st=((0,(false,(0,()))),((),((),()))))∨(i=1∧st=((0,(false,(1,()))),((),((),()))))) (by omega) (.inl ⟨rfl,rfl⟩) ?_ ?_) ?_
   ·rintro i _ hi (⟨rfl,rfl⟩ | ⟨rfl,rfl⟩)
    ·exact zi rfl (zn (qF (a:=b) rfl (zi (qD (by omega)) (zd (ji (.inr ⟨rfl,rfl⟩))))))
    ·omega
   ·rintro _ (⟨h1,rfl⟩ | ⟨_,rfl⟩)
    ·omega
    ·exact zg rfl (zd (zE ⟨rfl,rfl⟩))
   ·rintro ⟨j,⟨a1,a2,a3,⟨⟩⟩,⟨⟩,⟨⟩,⟨⟩⟩ ⟨h1,h2⟩
    simp only at h1 h2
    subst h1 h2
    refine zt (fun _=>?_) (fun _=>?_)<;>exact zd rfl
 rw [zqE];unfold zeU
 refine xr (zg rfl (zg rfl (zq (J:=fun x=>x.1=0∧x.2.1.1=0) (uG 1 (fun _=>True) (by omega) ?_ ?_) ?_)))
 ·intro i hi _
  have:i=0:=by omega
  subst this
  refine zi rfl (zn (qF (a:=b) rfl ?_))
  rw [WT,zO hb,zK]
  exact zg rfl (zd (Zc (by omega) trivial))
 ·intro _
  exact zg rfl (zd (zE ⟨rfl,rfl⟩))
 ·rintro ⟨j,⟨v,w,⟨⟩⟩,⟨⟩⟩ ⟨h1,h2⟩
  simp only at h1 h2
  subst h1 h2
  refine zi rfl ?_
  rw [zie hs,zK]
  refine zg rfl ?_
  rw [hcl,zK]
  by_cases h:b.2≤s.1
  ·rw [zO h,cond_true,cond_true]
   refine zg rfl (zd ?_)
   obtain ⟨h1,h2,h3,h4⟩:=hs
   show ((wrF .i64 (s.2+cl s.1 (b.1*1048576))),_)=_
   rw [qR (by omega) (by omega)]
  ·rw [qo h]
   exact zi rfl (zd rfl)
theorem zGl {b s:Int×Int} (hb:vI b) (hs:zdD s):0≤b.2*s.2∧b.2*s.2≤562949953421312∧0≤cl 1048576 (b.2*s.2)∧cl 1048576 (b.2*s.2)≤562949953421313:=by
 obtain ⟨s1,s2,s3,s4⟩:=hs
 obtain ⟨⟨b1,b2⟩,b3,b4⟩:=hb
 have:=zjO (show 0≤b.2 by omega) b4 s3 s4
 have:=zFq (d:=1048576) (w:=b.2*s.2) (M:=562949953421312) (by omega) (by omega) (by omega)
 omega
theorem zpc {b s:Int×Int} (hb:vI b) (hs:zdD s) (h:b.2≤s.1):xN (b,s,())=some (b.1+cl 1048576 (b.2*s.2),0,()):=by
 have hbb:=zGl hb hs
 obtain ⟨s1,s2,s3,s4⟩:=id hs
 obtain ⟨⟨b1,b2⟩,b3,b4⟩:=id hb
 rw [znB];unfold zcf
 have e:ZB (b,s,())=some (0,()):=by
  rw [zkT];unfold zab
  rw [WT,zO hb,zK,cond_true,zie hs,zK,qm (by omega)];rfl
 rw [e,zK]
 refine xr (zg rfl ?_)
 rw [zjP (by omega) (by omega) s3 (by omega) (by omega) (by omega) (by omega)]
 refine zd ?_
 show ((wrF .i64 (b.1+cl 1048576 (b.2*s.2))),_)=_
 rw [qR (by omega) (by omega)]
abbrev Bnd:=(Int×Int)×(Int×Int)×Int×Int
def zB:Bnd:=((0,0),((0,0),(0,0)))
def zbr (s:qx) (p:Int):Prop:=∃r∈s.2.2.2.2.2.2.2.2,p∈r
noncomputable def load (l:List qx) (p:Int):List (Int×Int):=(l.filter fun s=>tv (zbr s p)).map fun s=>s.2.2.2.2.2.2.1
structure okP (n:Fab) (l:List qx):Prop where
 f:znN n
 a:zue n.1 l
 n12:l.length≤12
 d:zqS l
 c:∀s∈l,s.2.2.2.1=6∧s.2.2.2.2.1≤n.2.2.2
noncomputable def ofS (g:Gts) (per most:Int):(Int×Int)×Int:=match xM (g,per,most,()) with
 |some (v,e,())=>(v,e)
 |none=>((0,0),0)
theorem zBl {g:Gts} (hg:yp g) {per most:Int} (p0:1≤per) (p1:per≤1000) (m0:84≤most) (m1:most≤1542):xM (g,per,most,())=some ((ofS g per most).1,(ofS g per most).2,())∧(((ofS g per most).2=0∧zoJ (ofS g per most).1)∨((ofS g per most).2=4∧(ofS g per most).1=(0,0))):=by
 obtain ⟨v,e,h1,h3⟩:=zIh hg p0 p1 m0 m1
 have e1:ofS g per most=(v,e):=by unfold ofS;rw [h1]
 rw [e1]
 exact ⟨h1,h3⟩
noncomputable def zBm (b v:Int×Int):Bnd:=(b,(v,(v.2+cl v.1 (b.1*1048576),b.1+cl 1048576 (b.2*v.2))))
noncomputable def wk (n:Fab) (l:List qx) (p:Int):Bnd×Int:=
 bif tv (load l p=[]) then (zB,4)
 else bif tv ((ofS ((n.2.2.1[p.toNat]?).getD ([],0)) (lnk n.1 p).2.2.1 n.2.2.2).2=0) then
  bif tv ((Um (load l p)).2=0) then
   bif tv ((Um (load l p)).1.2≤(ofS ((n.2.2.1[p.toNat]?).getD ([],0)) (lnk n.1 p).2.2.1 n.2.2.2).1.1) then (zBm (Um (load l p)).1 (ofS ((n.2.2.1[p.toNat]?).getD ([],0)) (lnk n.1 p).2.2.1 n.2.2.2).1,0)
   else (zB,141)
  else (zB,6)
 else (zB,411)
theorem zvj {l:List qx} {i:Nat} {s:qx} (h:l[i]?=some s) (p:Int):load (l.take (i+1)) p=bif tv (zbr s p) then load (l.take i) p++[s.2.2.2.2.2.2.1] else load (l.take i) p:=by
 unfold load
 rw [List.take_add_one,h,Option.toList,List.filter_append,List.map_append]
 cases e:tv (zbr s p) with
 |true=>simp [e]
 |false=>simp [e]
theorem zul {n:Fab} {l:List qx} (h:okP n l) (p:Int):(load l p).length≤12∧∀b∈load l p,vI b:=by
 unfold load
 refine ⟨?_,fun b hb=>?_⟩
 ·rw [List.length_map]
  have:=List.length_filter_le (fun s=>tv (zbr s p)) l
  have:=h.n12
  omega
 ·obtain ⟨s,hs,rfl⟩:=List.mem_map.1 hb
  have hs:=(List.mem_filter.1 hs).1
  have h1:=h.a s hs
  have h2:=(h.c s hs).1
  rcases h1.cl with ⟨h3,_⟩ | ⟨_,_,h4,h5⟩
  ·omega
  ·have:=h1.sz
   exact ⟨⟨by omega,h4.2⟩,h5⟩
theorem znP {n:Fab} (h:znN n) {p:Int} (hp:QM n.1 p):∃g,n.2.2.1[p.toNat]?=some g∧(n.2.2.1[p.toNat]?).getD ([],0)=g∧yp g∧1≤(lnk n.1 p).2.2.1∧(lnk n.1 p).2.2.1≤1000:=by
 have:=hp.1;have:=hp.2
 have hf:=h.f.1
 have hx:n.2.2.1[p.toNat]?=some (n.2.2.1[p.toNat]'(by omega)):=List.getElem?_eq_getElem (by omega)
 have hl:=(h.t.ls _ _ (zdA hp)).1
 exact ⟨_,hx,by rw [hx];rfl,h.g _ (List.getElem_mem _),hl.2.2.2.2.1,hl.2.2.2.2.2.1⟩
abbrev zaE:=List (Int×Bnd×Int)
def ZE (n:Fab) (l:List qx) (m:zaE):Prop:=∀q z,mpH m q=true→mpD m q z=wk n l q
theorem zCU (n:Fab) (l:List qx):ZE n l []:=fun q z h=>by cases h
theorem zvk {n:Fab} {l:List qx} {m:zaE} (h:ZE n l m) (p:Int) {r:Bnd×Int} (hr:r=wk n l p):ZE n l (mpP m p r):=fun q z hq=>by
 rw [zzM]
 split
 ·rename_i e;rw [←e,hr]
 ·rename_i e
  rw [zGd] at hq
  refine h q z ?_
  simpa [e] using hq
noncomputable def zHq (n:Fab) (l:List qx) (m:zaE) (p:Int):Option (Nat×(((Bnd×Int)×Unit)×(zaE×Unit))):=
 (bif (!(mpH (α:=(((Int×Int)×((Int×Int)×(Int×Int)))×Int)) (m) (p))) then opt (qb (fun s7:((Int×Unit)×(((List (Int×Int))×Unit)×(Unit×(Unit×Unit))))=>
         bif (zr (s7.1.1) ((((l).length:Nat):Int))) then opt (atI (l) (s7.1.1)) fun x8=>
          opt (qb (fun s9:((Int×(Int×Unit))×(((List (Int×Int))×Unit)×(Unit×(Unit×Unit))))=>
           bif (zr (s9.1.2.1) ((((x8.2.2.2.2.2.2.2.2).length:Nat):Int))) then opt (atI (x8.2.2.2.2.2.2.2.2) (s9.1.2.1)) fun x10=>
            opt (jm ((x10,(p,())))) fun x11=>
            bif x11.1 then some (.inl (1,((s9.1.2.1,(s9.1.2.1,())),((s9.2.1.1,()),((),((),()))))))
            else some (.inr ((s9.1.1,((wrF .i64 ((s9.1.2.1+1))),())),((s9.2.1.1,()),((),((),())))))
           else some (.inl (0,((s9.1.1,(s9.1.2.1,())),((s9.2.1.1,()),((),((),()))))))) qw ((0,(0,())),((s7.2.1.1,()),((),((),()))))) fun x12=>
          bif (Nat.beq x12.1 0) then some (.inr (((wrF .i64 ((s7.1.1+1))),()),((x12.2.2.1.1,()),((),((),())))))
          else bif (!(zr (x12.2.1.1) (0))) then bif (yS ((x12.2.2.1.1).length) (((x8.2.2.2.2.2.2.1::[])).length) (16)) then some (.inr (((wrF .i64 ((s7.1.1+1))),()),(((x12.2.2.1.1++(x8.2.2.2.2.2.2.1::[])),()),((),((),())))))
            else none
           else some (.inr (((wrF .i64 ((s7.1.1+1))),()),((x12.2.2.1.1,()),((),((),())))))
         else some (.inl (0,((s7.1.1,()),((s7.2.1.1,()),((),((),()))))))) qw ((0,()),(([],()),((),((),()))))) fun x13=>
        bif (Nat.beq x13.1 0) then bif (zj ((((x13.2.2.1.1).length:Nat):Int)) (0)) then some (0,(((((0,0),((0,0),(0,0))),4),()),((mpP (α:=(((Int×Int)×((Int×Int)×(Int×Int)))×Int)) (m) (p) ((((0,0),((0,0),(0,0))),4))),())))
         else opt (gX ((n.1,(p,())))) fun x14=>
          bif (!(zj (x14.2.1) (0))) then some (0,(((((0,0),((0,0),(0,0))),x14.2.1),()),((mpP (α:=(((Int×Int)×((Int×Int)×(Int×Int)))×Int)) (m) (p) ((((0,0),((0,0),(0,0))),x14.2.1))),())))
          else opt (atI (n.2.2.1) (p)) fun x15=>
           opt (xM ((x15,(x14.1,(n.2.2.2,()))))) fun x16=>
           bif (!(zj (x16.2.1) (0))) then some (0,(((((0,0),((0,0),(0,0))),411),()),((mpP (α:=(((Int×Int)×((Int×Int)×(Int×Int)))×Int)) (m) (p) ((((0,0),((0,0),(0,0))),411))),())))
           else opt (uF ((x13.2.2.1.1,()))) fun x17=>
            bif (!(zj (x17.2.1) (0))) then some (0,(((((0,0),((0,0),(0,0))),x17.2.1),()),((mpP (α:=(((Int×Int)×((Int×Int)×(Int×Int)))×Int)) (m) (p) ((((0,0),((0,0),(0,0))),x17.2.1))),())))
            else opt (vO (((x17.1::[]),(x16.1,())))) fun x18=>
             bif (!(zj (x18.2.1) (0))) then some (0,(((((0,0),((0,0),(0,0))),x18.2.1),()),((mpP (α:=(((Int×Int)×((Int×Int)×(Int×Int)))×Int)) (m) (p) ((((0,0),((0,0),(0,0))),x18.2.1))),())))
             else opt (xN ((x17.1,(x16.1,())))) fun x19=>
              bif (!(zj (x19.2.1) (0))) then some (0,(((((0,0),((0,0),(0,0))),x19.2.1),()),((mpP (α:=(((Int×Int)×((Int×Int)×(Int×Int)))×Int)) (m) (p) ((((0,0),((0,0),(0,0))),x19.2.1))),())))
              else some (0,((((x17.1,(x16.1,(x18.1,x19.1))),0),()),((mpP (α:=(((Int×Int)×((Int×Int)×(Int×Int)))×Int)) (m) (p) (((x17.1,(x16.1,(x18.1,x19.1))),0))),())))
        else bif (zj ((((x13.2.2.1.1).length:Nat):Int)) (0)) then some (0,(((((0,0),((0,0),(0,0))),4),()),((mpP (α:=(((Int×Int)×((Int×Int)×(Int×Int)))×Int)) (m) (p) ((((0,0),((0,0),(0,0))),4))),())))
         else opt (gX ((n.1,(p,())))) fun x20=>
          bif (!(zj (x20.2.1) (0))) then some (0,(((((0,0),((0,0),(0,0))),x20.2.1),()),((mpP (α:=(((Int×Int)×((Int×Int)×(Int×Int)))×Int)) (m) (p) ((((0,0),((0,0),(0,0))),x20.2.1))),())))
          else opt (atI (n.2.2.1) (p)) fun x21=>
           opt (xM ((x21,(x20.1,(n.2.2.2,()))))) fun x22=>
           bif (!(zj (x22.2.1) (0))) then some (0,(((((0,0),((0,0),(0,0))),411),()),((mpP (α:=(((Int×Int)×((Int×Int)×(Int×Int)))×Int)) (m) (p) ((((0,0),((0,0),(0,0))),411))),())))
           else opt (uF ((x13.2.2.1.1,()))) fun x23=>
            bif (!(zj (x23.2.1) (0))) then some (0,(((((0,0),((0,0),(0,0))),x23.2.1),()),((mpP (α:=(((Int×Int)×((Int×Int)×(Int×Int)))×Int)) (m) (p) ((((0,0),((0,0),(0,0))),x23.2.1))),())))
            else opt (vO (((x23.1::[]),(x22.1,())))) fun x24=>
             bif (!(zj (x24.2.1) (0))) then some (0,(((((0,0),((0,0),(0,0))),x24.2.1),()),((mpP (α:=(((Int×Int)×((Int×Int)×(Int×Int)))×Int)) (m) (p) ((((0,0),((0,0),(0,0))),x24.2.1))),())))
             else opt (xN ((x23.1,(x22.1,())))) fun x25=>
              bif (!(zj (x25.2.1) (0))) then some (0,(((((0,0),((0,0),(0,0))),x25.2.1),()),((mpP (α:=(((Int×Int)×((Int×Int)×(Int×Int)))×Int)) (m) (p) ((((0,0),((0,0),(0,0))),x25.2.1))),())))
              else some (0,((((x23.1,(x22.1,(x24.1,x25.1))),0),()),((mpP (α:=(((Int×Int)×((Int×Int)×(Int×Int)))×Int)) (m) (p) (((x23.1,(x22.1,(x24.1,x25.1))),0))),())))
       else some (0,(((mpD (α:=(((Int×Int)×((Int×Int)×(Int×Int)))×Int)) (m) (p) ((((0,0),((0,0),(0,0))),0))),()),(m,()))))
theorem zzR {n:Fab} {l:List qx} (h:okP n l) {p:Int} (hp:QM n.1 p) {m:zaE} {c:List (Int×Int)} (hc:c=load l p) {X:Option (Nat×(((Bnd×Int)×Unit)×(zaE×Unit)))}
  (hX:X=bif (zj ((((c).length:Nat):Int)) (0)) then some (0,(((zB,4),()),((mpP m p (zB,4)),())))
   else opt (gX (n.1,(p,()))) fun x14=>bif (!(zj (x14.2.1) (0))) then some (0,(((zB,x14.2.1),()),((mpP m p (zB,x14.2.1)),())))
    else opt (atI (n.2.2.1) p) fun x15=>opt (xM (x15,(x14.1,(n.2.2.2,())))) fun x16=>bif (!(zj (x16.2.1) (0))) then some (0,(((zB,411),()),((mpP m p (zB,411)),())))
     else opt (uF (c,())) fun x17=>bif (!(zj (x17.2.1) (0))) then some (0,(((zB,x17.2.1),()),((mpP m p (zB,x17.2.1)),())))
      else opt (vO ((x17.1::[]),(x16.1,()))) fun x18=>bif (!(zj (x18.2.1) (0))) then some (0,(((zB,x18.2.1),()),((mpP m p (zB,x18.2.1)),())))
       else opt (xN (x17.1,(x16.1,()))) fun x19=>bif (!(zj (x19.2.1) (0))) then some (0,(((zB,x19.2.1),()),((mpP m p (zB,x19.2.1)),())))
        else some (0,((((x17.1,(x16.1,(x18.1,x19.1))),0),()),((mpP m p (((x17.1,(x16.1,(x18.1,x19.1))),0))),())))) :
  qB X fun x=>x.2.1.1=wk n l p∧x.2.2.1=mpP m p (wk n l p):=by
 obtain ⟨lb1,lb2⟩:=zul h p
 obtain ⟨g,hx,hge,hg,p0,p1⟩:=znP h.f hp
 obtain ⟨o1,o3⟩:=zBl hg p0 p1 h.f.f.2.1 h.f.f.2.2
 have fin:∀{r:Bnd×Int},r=wk n l p→qB (some ((0:Nat),((r,()),((mpP m p r),())))) fun x=>x.2.1.1=wk n l p∧x.2.2.1=mpP m p (wk n l p):=fun e=>zd ⟨e,by rw [e]⟩
 subst hX hc
 unfold wk at fin
 rw [hge] at fin
 unfold wk
 rw [hge]
 by_cases hne:load l p=[]
 ·rw [zO hne,cond_true] at fin ⊢
  rw [hne]
  exact zi rfl (fin rfl)
 have hlen:(load l p).length≠0:=fun e=>hne (List.length_eq_zero_iff.1 e)
 rw [qo hne,cond_false] at fin ⊢
 refine zg (jx (show ((load l p).length:Int)≠0 by omega)) ?_
 rw [zye h.f.t hp,zK]
 refine zg rfl (zn (qF (a:=g) (by rw [show p=((p.toNat:Nat):Int) from (by have:=hp.1;omega),Ql (n:=p.toNat)];exact hx) ?_))
 rw [o1,zK]
 rcases o3 with ⟨o4,o5⟩ | ⟨o4,o5⟩
 ·rw [o4,zO rfl,cond_true] at fin ⊢
  refine zg rfl ?_
  rw [zuk hne lb1 lb2,zK]
  have hs2:(Um (load l p)).2=0∧vI (Um (load l p)).1∨(Um (load l p)).2=6:=by
   unfold Um
   by_cases hb:vI (yK (load l p))
   ·rw [zO hb];exact .inl ⟨rfl,hb⟩
   ·rw [qo hb];exact .inr rfl
  rcases hs2 with ⟨hs2,hb⟩ | hs2
  ·rw [hs2,zO rfl,cond_true] at fin ⊢
   refine zg rfl ?_
   rw [zsH hb o5.ok,zK]
   by_cases hle:(Um (load l p)).1.2≤(ofS g (lnk n.1 p).2.2.1 n.2.2.2).1.1
   ·rw [zO hle,cond_true] at fin ⊢
    rw [cond_true]
    refine zg rfl ?_
    rw [zpc hb o5.ok hle,zK]
    exact zg rfl (fin rfl)
   ·rw [qo hle,cond_false] at fin ⊢
    rw [cond_false]
    exact zi rfl (fin rfl)
  ·rw [hs2,qo (by simp)] at fin ⊢
   exact zi rfl (fin rfl)
 ·rw [o4,qo (by simp)] at fin ⊢
  exact zi rfl (fin rfl)
theorem zCV {n:Fab} {l:List qx} (h:okP n l) {p:Int} (hp:QM n.1 p) {m:zaE} (hm:ZE n l m):qB (zHq n l m p) fun x=>x.2.1.1=wk n l p∧ZE n l x.2.2.1:=by
 have h12:=h.n12
 unfold zHq
 refine zt (fun hk=>?_) (fun hk=>?_)
 rotate_left
 ·have hk:mpH m p=true:=by simpa using hk
  exact zd ⟨hm p _ hk,hm⟩
 refine zq (J:=fun x=>x.2.2.1.1=load l p) (qG l.length (fun i s=>s=(((i:Int),()),((load (l.take i) p,()),((),((),()))))) (by omega) rfl ?_ ?_) ?_
 ·rintro i _ hi rfl
  have hy:l[i]?=some l[i]:=List.getElem?_eq_getElem hi
  have hmm:=List.getElem_mem hi
  generalize l[i]=s at hy hmm
  have hs:=h.a s hmm
  have rn:=hs.rn
  have hll:(load (l.take i) p).length≤12:=by
   unfold load;rw [List.length_map]
   have:=List.length_filter_le (fun s=>tv (zbr s p)) (l.take i)
   simp only [List.length_take] at this;omega
  refine zi (qD (show (i:Int) < (l.length:Int) by omega)) (zn (qh (n:=i) hy ?_))
  refine zq (J:=fun x=>(x.1=0∧x.2.2.1.1=load (l.take i) p∧¬zbr s p)∨(x.1=1∧0≤x.2.1.1∧x.2.2.1.1=load (l.take i) p∧zbr s p))
   (qG s.2.2.2.2.2.2.2.2.length (fun k st=>st=((0,((k:Int),())),((load (l.take i) p,()),((),((),()))))∧∀k',k' < k→∀r,s.2.2.2.2.2.2.2.2[k']?=some r→¬p∈r) (by omega) ⟨rfl,fun k' hk'=>by omega⟩ ?_ ?_) ?_
  ·rintro k _ hk ⟨rfl,hpk⟩
   have hx:s.2.2.2.2.2.2.2.2[k]?=some s.2.2.2.2.2.2.2.2[k]:=List.getElem?_eq_getElem hk
   have hmr:=List.getElem_mem hk
   generalize s.2.2.2.2.2.2.2.2[k]=r at hx hmr
   have hr8:=(hs.rt r hmr).1.n1
   refine zi (qD (show (k:Int) < (s.2.2.2.2.2.2.2.2.length:Int) by omega)) (zn (qh (n:=k) hx ?_))
   rw [zat (by omega),zK]
   refine zt (fun hc=>?_) (fun hc=>?_)
   ·exact zd (zE (.inr ⟨rfl,by show (0:Int)≤(k:Int);omega,rfl,r,hmr,zdV hc⟩))
   ·refine zd (ji ⟨congrArg (fun z=>(((0:Int),(z,())),_)) (qX (by omega)),fun k' hk' r' hr'=>?_⟩)
    rcases Nat.lt_or_ge k' k with h1 | h1
    ·exact hpk k' h1 r' hr'
    ·have:k'=k:=by omega
     subst this
     rw [hx] at hr';cases hr'
     exact zar hc
  ·rintro _ ⟨rfl,hpk⟩
   refine zg (qm (show ¬(s.2.2.2.2.2.2.2.2.length:Int) < (s.2.2.2.2.2.2.2.2.length:Int) by omega)) (zd (zE (.inl ⟨rfl,rfl,fun ⟨r,h1,h2⟩=>?_⟩)))
   obtain ⟨k,hk1,hk2⟩:=QE h1
   exact hpk k hk1 r hk2 h2
  ·rintro ⟨j,⟨v,w,⟨⟩⟩,⟨c,⟨⟩⟩,⟨⟩,⟨⟩,⟨⟩⟩ (⟨rfl,hc,hq⟩ | ⟨rfl,hv,hc,hq⟩)
   ·simp only at hc
    subst hc
    refine zi rfl (zd (ji ?_))
    rw [zvj hy,qo hq,cond_false]
    exact congrArg (fun z=>((z,()),_)) (qX (by omega))
   ·simp only at hc hv
    subst hc
    refine zg rfl (zi (by rw [qm (show ¬v < 0 by omega)];rfl) (zi (kW (by show ((load (l.take i) p).length+1)*16≤_;omega) (by show (load (l.take i) p).length+1≤_;omega)) (zd (ji ?_))))
    rw [zvj hy,zO hq,cond_true]
    exact congrArg (fun z=>((z,()),_)) (qX (by omega))
 ·rintro _ rfl
  refine zg (qm (show ¬(l.length:Int) < (l.length:Int) by omega)) (zd (zE ?_))
  show load (l.take l.length) p=_
  rw [List.take_length]
 ·rintro ⟨j,⟨z,⟨⟩⟩,⟨c,⟨⟩⟩,⟨⟩,⟨⟩,⟨⟩⟩ hc
  simp only at hc
  refine zt (fun _=>?_) (fun _=>?_)
  ·exact zva (zzR h hp (m:=m) hc rfl) fun x hx=>⟨hx.1,by rw [hx.2];exact zvk hm p rfl⟩
  ·exact zva (zzR h hp (m:=m) hc rfl) fun x hx=>⟨hx.1,by rw [hx.2];exact zvk hm p rfl⟩
def zyp (n:Fab) (l:List qx):Prop:=∀s∈l,s.2.2.2.1=6∧s.2.2.2.2.1≤n.2.2.2
noncomputable def zif (n:Fab) (l:List qx):Int:=bif tv (Gk n=0) then bif tv (zdB n.1 l=0) then bif tv (zyp n l) then 0 else 2 else zdB n.1 l else Gk n
theorem zCW {t:qZ} {l:List qx} (h:zdB t l=0):l.length≤12∧zue t l∧zqS l:=by
 unfold zdB at h
 by_cases h1:l.length≤12
 ·by_cases h2:zue t l
  ·by_cases h3:zqS l
   ·exact ⟨h1,h2,h3⟩
   ·rw [zO h1,zO h2,qo h3] at h;cases h
  ·rw [zO h1,qo h2] at h;cases h
 ·rw [qo h1] at h;cases h
theorem zGm {n:Fab} {l:List qx} (h:zif n l=0):okP n l:=by
 unfold zif at h
 by_cases h1:Gk n=0
 ·by_cases h2:zdB n.1 l=0
  ·by_cases h3:zyp n l
   ·obtain ⟨a,b,c⟩:=zCW h2
    exact ⟨zCI h1,b,a,c,h3⟩
   ·rw [zO h1,zO h2,qo h3] at h;cases h
  ·rw [zO h1,qo h2] at h;exact absurd h h2
 ·rw [qo h1] at h;exact absurd h h1
theorem zEN
      {n:Fab} {s:qx}:qB (bif (!(zj (s.2.2.2.1) (6))) then some ((1:Nat),(((),((2:Int),())),()))
      else bif (zr (n.2.2.2) (s.2.2.2.2.1)) then some (1,(((),(2,())),()))
       else some (0,(((),(0,())),()))) fun x=>(x.1=0∧x.2.1.2.1=0∧s.2.2.2.1=6∧s.2.2.2.2.1≤n.2.2.2)∨(x.1=1∧x.2.1.2.1=2∧¬(s.2.2.2.1=6∧s.2.2.2.2.1≤n.2.2.2)):=by
 refine zt (fun h=>zd (.inr ⟨rfl,rfl,fun hs=>?_⟩)) fun h1=>zt (fun h=>zd (.inr ⟨rfl,rfl,fun hs=>?_⟩)) fun h2=>zd (.inl ⟨rfl,rfl,jJ (by simpa using h1),wA h2⟩)
 ·rw [yJ hs.1] at h;cases h
 ·have:=yn h;omega
theorem zEO {n:Fab} {l:List qx} (h12:l.length≤12) {B:((Unit×(Int×(Int×Unit)))×Unit)→Option ((Nat×((Unit×(Int×(Int×Unit)))×Unit)) ⊕ ((Unit×(Int×(Int×Unit)))×Unit))}
  (hB :
     B=fun s4=>bif (zr (s4.1.2.2.1) ((((l).length:Nat):Int))) then opt (atI (l) (s4.1.2.2.1)) fun x5=>
     opt (bif (!(zj (x5.2.2.2.1) (6))) then some (1,(((),(2,())),()))
      else bif (zr (n.2.2.2) (x5.2.2.2.2.1)) then some (1,(((),(2,())),()))
       else some (0,(((),(s4.1.2.1,())),()))) fun x6=>
     bif (Nat.beq x6.1 0) then some (.inr (((),(x6.2.1.2.1,((wrF .i64 ((s4.1.2.2.1+1))),()))),()))
     else some (.inl (1,(((),(x6.2.1.2.1,(s4.1.2.2.1,()))),())))
    else some (.inl (0,(((),(s4.1.2.1,(s4.1.2.2.1,()))),())))) :
  qB (qb B qw (((),(0,(0,()))),())) fun x=>(x.1=0∧x.2.1.2.1=0∧zyp n l)∨(x.1=1∧x.2.1.2.1=2∧¬zyp n l):=by
 subst hB
 refine qG l.length (fun i st=>st=(((),(0,((i:Int),()))),())∧∀(k:Nat),k < i→∀s,l[k]?=some s→s.2.2.2.1=6∧s.2.2.2.2.1≤n.2.2.2) (by omega) ⟨rfl,fun k hk=>by omega⟩ ?_ ?_
 ·rintro i _ hi ⟨rfl,hp⟩
  have hx:l[i]?=some l[i]:=List.getElem?_eq_getElem hi
  have hm:=List.getElem_mem hi
  generalize l[i]=s at hx hm
  refine zi (qD (show (i:Int) < (l.length:Int) by omega)) (zn (qh (n:=i) hx (zq zEN ?_)))
  rintro ⟨j,⟨⟨⟩,v,⟨⟩⟩,⟨⟩⟩ (⟨rfl,rfl,hq⟩ | ⟨rfl,rfl,hq⟩)
  ·refine zi rfl (zd (ji ⟨congrArg (fun z=>(((),((0:Int),(z,()))),())) (qX (by omega)),fun k hk r' hr'=>?_⟩))
   rcases Nat.lt_or_ge k i with h1 | h1
   ·exact hp k h1 r' hr'
   ·have:k=i:=by omega
    subst this
    rw [hx] at hr';cases hr';exact hq
  ·exact zg rfl (zd (zE (.inr ⟨rfl,rfl,fun h=>hq (h s hm)⟩)))
 ·rintro _ ⟨rfl,hp⟩
  refine zg (qm (show ¬(l.length:Int) < (l.length:Int) by omega)) (zd (zE (.inl ⟨rfl,rfl,fun r hr=>?_⟩)))
  obtain ⟨k,hk,hk2⟩:=QE hr
  exact hp k hk r hk2
theorem zBn {n:Fab} {l:List qx} (h:okP n l) {p:Int} (hp:QM n.1 p) :
  (∃b v,(wk n l p)=(zBm b v,0)∧vI b∧zoJ v∧b.2≤v.1∧load l p≠[]∧b=yK (load l p))∨((wk n l p).1=zB∧(wk n l p).2≠0):=by
 obtain ⟨g,hx,hge,hg,p0,p1⟩:=znP h.f hp
 obtain ⟨o1,o3⟩:=zBl hg p0 p1 h.f.f.2.1 h.f.f.2.2
 unfold wk
 rw [hge]
 by_cases hne:load l p=[]
 ·rw [zO hne];exact .inr ⟨rfl,by show (4:Int)≠0;decide⟩
 rw [qo hne,cond_false]
 rcases o3 with ⟨o4,o5⟩ | ⟨o4,o5⟩
 ·rw [o4,zO rfl,cond_true]
  unfold Um
  by_cases hb:vI (yK (load l p))
  ·rw [zO hb,cond_true,zO rfl,cond_true]
   by_cases hle:(yK (load l p)).2≤(ofS g (lnk n.1 p).2.2.1 n.2.2.2).1.1
   ·rw [zO hle];exact .inl ⟨_,_,rfl,hb,o5,hle,hne,rfl⟩
   ·rw [qo hle];exact .inr ⟨rfl,by show (141:Int)≠0;decide⟩
  ·rw [qo hb,cond_false,qo (by simp)];exact .inr ⟨rfl,by show (6:Int)≠0;decide⟩
 ·rw [o4,qo (by simp)];exact .inr ⟨rfl,by show (411:Int)≠0;decide⟩
theorem zHr {n:Fab} {l:List qx} (h:okP n l) {p:Int} (hp:QM n.1 p):0≤(wk n l p).1.2.2.1∧(wk n l p).1.2.2.1≤1099780063233:=by
 rcases zBn h hp with ⟨b,v,e,hb,hv,_⟩ | ⟨e,_⟩
 ·rw [e]
  have hd:=zyo hb hv.ok
  have h1:=hv.2.2.1;have h2:=hv.2.2.2
  show 0≤v.2+cl v.1 (b.1*1048576)∧v.2+cl v.1 (b.1*1048576)≤_
  omega
 ·rw [e];exact ⟨Int.le_refl _,by show (0:Int)≤_;decide⟩
noncomputable def zf1 (n:Fab) (l:List qx):List Int→Int→Int×Int
 |[],s=>(s,0)
 |p::r,s=>bif tv ((wk n l p).2=0) then zf1 n l r (s+((wk n l p).1.2.2.1+(lnk n.1 p).2.2.2+n.2.1.2.2.1)) else (0,(wk n l p).2)
noncomputable def XM (n:Fab) (l:List qx) (r:List Int):Int×Int:=zf1 n l r 0
theorem zCX {n:Fab} (h:znN n) {p:Int} (hp:QM n.1 p):0≤(lnk n.1 p).2.2.2∧(lnk n.1 p).2.2.2≤10000:=by
 have hl:=(h.t.ls _ _ (zdA hp)).1
 exact ⟨hl.2.2.2.2.2.2.1,hl.2.2.2.2.2.2.2⟩
noncomputable def zFr (n:Fab) (l:List qx) (m:zaE) (r:List Int):Option (Nat×((Int×(Int×(Int×(Int×Unit))))×(zaE×Unit))):=
 qb (fun s32:((Int×(Int×(Int×(Int×Unit))))×((List (Int×(((Int×Int)×((Int×Int)×(Int×Int)))×Int)))×Unit))=>
          bif (zr (s32.1.2.2.2.1) ((((r).length:Nat):Int))) then opt (atI (r) (s32.1.2.2.2.1)) fun x33=>
           opt (bif (!(mpH (α:=(((Int×Int)×((Int×Int)×(Int×Int)))×Int)) (s32.2.1) (x33))) then opt (qb (fun s34:((Int×Unit)×(((List (Int×Int))×Unit)×(Unit×(Unit×Unit))))=>
              bif (zr (s34.1.1) ((((l).length:Nat):Int))) then opt (atI (l) (s34.1.1)) fun x35=>
               opt (qb (fun s36:((Int×(Int×Unit))×(((List (Int×Int))×Unit)×(Unit×(Unit×Unit))))=>
                bif (zr (s36.1.2.1) ((((x35.2.2.2.2.2.2.2.2).length:Nat):Int))) then opt (atI (x35.2.2.2.2.2.2.2.2) (s36.1.2.1)) fun x37=>
                 opt (jm ((x37,(x33,())))) fun x38=>
                 bif x38.1 then some (.inl (1,((s36.1.2.1,(s36.1.2.1,())),((s36.2.1.1,()),((),((),()))))))
                 else some (.inr ((s36.1.1,((wrF .i64 ((s36.1.2.1+1))),())),((s36.2.1.1,()),((),((),())))))
                else some (.inl (0,((s36.1.1,(s36.1.2.1,())),((s36.2.1.1,()),((),((),()))))))) qw ((0,(0,())),((s34.2.1.1,()),((),((),()))))) fun x39=>
               bif (Nat.beq x39.1 0) then some (.inr (((wrF .i64 ((s34.1.1+1))),()),((x39.2.2.1.1,()),((),((),())))))
               else bif (!(zr (x39.2.1.1) (0))) then bif (yS ((x39.2.2.1.1).length) (((x35.2.2.2.2.2.2.1::[])).length) (16)) then some (.inr (((wrF .i64 ((s34.1.1+1))),()),(((x39.2.2.1.1++(x35.2.2.2.2.2.2.1::[])),()),((),((),())))))
                 else none
                else some (.inr (((wrF .i64 ((s34.1.1+1))),()),((x39.2.2.1.1,()),((),((),())))))
              else some (.inl (0,((s34.1.1,()),((s34.2.1.1,()),((),((),()))))))) qw ((0,()),(([],()),((),((),()))))) fun x40=>
             bif (Nat.beq x40.1 0) then bif (zj ((((x40.2.2.1.1).length:Nat):Int)) (0)) then some (0,(((((0,0),((0,0),(0,0))),4),()),((mpP (α:=(((Int×Int)×((Int×Int)×(Int×Int)))×Int)) (s32.2.1) (x33) ((((0,0),((0,0),(0,0))),4))),())))
              else opt (gX ((n.1,(x33,())))) fun x41=>
               bif (!(zj (x41.2.1) (0))) then some (0,(((((0,0),((0,0),(0,0))),x41.2.1),()),((mpP (α:=(((Int×Int)×((Int×Int)×(Int×Int)))×Int)) (s32.2.1) (x33) ((((0,0),((0,0),(0,0))),x41.2.1))),())))
               else opt (atI (n.2.2.1) (x33)) fun x42=>
                opt (xM ((x42,(x41.1,(n.2.2.2,()))))) fun x43=>
                bif (!(zj (x43.2.1) (0))) then some (0,(((((0,0),((0,0),(0,0))),411),()),((mpP (α:=(((Int×Int)×((Int×Int)×(Int×Int)))×Int)) (s32.2.1) (x33) ((((0,0),((0,0),(0,0))),411))),())))
                else opt (uF ((x40.2.2.1.1,()))) fun x44=>
                 bif (!(zj (x44.2.1) (0))) then some (0,(((((0,0),((0,0),(0,0))),x44.2.1),()),((mpP (α:=(((Int×Int)×((Int×Int)×(Int×Int)))×Int)) (s32.2.1) (x33) ((((0,0),((0,0),(0,0))),x44.2.1))),())))
                 else opt (vO (((x44.1::[]),(x43.1,())))) fun x45=>
                  bif (!(zj (x45.2.1) (0))) then some (0,(((((0,0),((0,0),(0,0))),x45.2.1),()),((mpP (α:=(((Int×Int)×((Int×Int)×(Int×Int)))×Int)) (s32.2.1) (x33) ((((0,0),((0,0),(0,0))),x45.2.1))),())))
                  else opt (xN ((x44.1,(x43.1,())))) fun x46=>
                   bif (!(zj (x46.2.1) (0))) then some (0,(((((0,0),((0,0),(0,0))),x46.2.1),()),((mpP (α:=(((Int×Int)×((Int×Int)×(Int×Int)))×Int)) (s32.2.1) (x33) ((((0,0),((0,0),(0,0))),x46.2.1))),())))
                   else some (0,((((x44.1,(x43.1,(x45.1,x46.1))),0),()),((mpP (α:=(((Int×Int)×((Int×Int)×(Int×Int)))×Int)) (s32.2.1) (x33) (((x44.1,(x43.1,(x45.1,x46.1))),0))),())))
             else bif (zj ((((x40.2.2.1.1).length:Nat):Int)) (0)) then some (0,(((((0,0),((0,0),(0,0))),4),()),((mpP (α:=(((Int×Int)×((Int×Int)×(Int×Int)))×Int)) (s32.2.1) (x33) ((((0,0),((0,0),(0,0))),4))),())))
              else opt (gX ((n.1,(x33,())))) fun x47=>
               bif (!(zj (x47.2.1) (0))) then some (0,(((((0,0),((0,0),(0,0))),x47.2.1),()),((mpP (α:=(((Int×Int)×((Int×Int)×(Int×Int)))×Int)) (s32.2.1) (x33) ((((0,0),((0,0),(0,0))),x47.2.1))),())))
               else opt (atI (n.2.2.1) (x33)) fun x48=>
                opt (xM ((x48,(x47.1,(n.2.2.2,()))))) fun x49=>
                bif (!(zj (x49.2.1) (0))) then some (0,(((((0,0),((0,0),(0,0))),411),()),((mpP (α:=(((Int×Int)×((Int×Int)×(Int×Int)))×Int)) (s32.2.1) (x33) ((((0,0),((0,0),(0,0))),411))),())))
                else opt (uF ((x40.2.2.1.1,()))) fun x50=>
                 bif (!(zj (x50.2.1) (0))) then some (0,(((((0,0),((0,0),(0,0))),x50.2.1),()),((mpP (α:=(((Int×Int)×((Int×Int)×(Int×Int)))×Int)) (s32.2.1) (x33) ((((0,0),((0,0),(0,0))),x50.2.1))),())))
                 else opt (vO (((x50.1::[]),(x49.1,())))) fun x51=>
                  bif (!(zj (x51.2.1) (0))) then some (0,(((((0,0),((0,0),(0,0))),x51.2.1),()),((mpP (α:=(((Int×Int)×((Int×Int)×(Int×Int)))×Int)) (s32.2.1) (x33) ((((0,0),((0,0),(0,0))),x51.2.1))),())))
                  else opt (xN ((x50.1,(x49.1,())))) fun x52=>
                   bif (!(zj (x52.2.1) (0))) then some (0,(((((0,0),((0,0),(0,0))),x52.2.1),()),((mpP (α:=(((Int×Int)×((Int×Int)×(Int×Int)))×Int)) (s32.2.1) (x33) ((((0,0),((0,0),(0,0))),x52.2.1))),())))
                   else some (0,((((x50.1,(x49.1,(x51.1,x52.1))),0),()),((mpP (α:=(((Int×Int)×((Int×Int)×(Int×Int)))×Int)) (s32.2.1) (x33) (((x50.1,(x49.1,(x51.1,x52.1))),0))),())))
            else some (0,(((mpD (α:=(((Int×Int)×((Int×Int)×(Int×Int)))×Int)) (s32.2.1) (x33) ((((0,0),((0,0),(0,0))),0))),()),(s32.2.1,())))) fun x53=>
           bif (!(zj (x53.2.1.1.2) (0))) then some (.inl (1,((0,(x53.2.1.1.2,(s32.1.2.2.1,(s32.1.2.2.2.1,())))),(x53.2.2.1,()))))
           else opt (WK ((n.1,(x33,())))) fun x54=>
            bif (!(zj (x54.2.1) (0))) then some (.inl (1,((0,(x54.2.1,(s32.1.2.2.1,(s32.1.2.2.2.1,())))),(x53.2.2.1,()))))
            else some (.inr ((s32.1.1,(s32.1.2.1,((wrF .i64 ((s32.1.2.2.1+(wrF .i64 (((wrF .i64 ((x53.2.1.1.1.2.2.1+x54.1)))+n.2.1.2.2.1)))))),((wrF .i64 ((s32.1.2.2.2.1+1))),())))),(x53.2.2.1,())))
          else some (.inl (0,((s32.1.1,(s32.1.2.1,(s32.1.2.2.1,(s32.1.2.2.2.1,())))),(s32.2.1,()))))) qw ((0,(0,(0,(0,())))),(m,()))
theorem zGn {n:Fab} {l:List qx} (h:okP n l) {r:List Int} (hr:yZ n.1 r) {m:zaE} (hm:ZE n l m) :
  qB (zFr n l m r) fun x=>ZE n l x.2.2.1∧((x.1=0∧x.2.1.2.2.1=(XM n l r).1∧(XM n l r).2=0)∨(x.1=1∧x.2.1.1=0∧x.2.1.2.1=(XM n l r).2∧(XM n l r).2≠0∧(XM n l r).1=0)):=by
 have r8:=hr.n1
 have hu:=h.f.u.2.2.1
 unfold zFr
 refine qG r.length (fun i st=>∃s m',st=((0,(0,(s,((i:Int),())))),(m',()))∧ZE n l m'∧XM n l r=zf1 n l (r.drop i) s∧0≤s∧s≤1099780083233*(i:Int)) (by omega) ⟨0,m,rfl,hm,rfl,Int.le_refl _,by omega⟩ ?_ ?_
 ·rintro i _ hi ⟨s,m',rfl,hk,ht,s0,s1⟩
  have hx:r[i]?=some r[i]:=List.getElem?_eq_getElem hi
  have hpt:=hr.pt _ (List.getElem_mem hi)
  have hdr:r.drop i=r[i]::r.drop (i+1):=List.drop_eq_getElem_cons hi
  generalize r[i]=p at hx hpt hdr
  have hb:=zHr h hpt
  have hd:=zCX h.f hpt
  rw [hdr] at ht
  unfold zf1 at ht
  refine zi (qD (show (i:Int) < (r.length:Int) by omega)) (zn (qh (n:=i) hx (zq (zCV h hpt hk) ?_)))
  rintro ⟨j,⟨v,⟨⟩⟩,c,⟨⟩⟩ ⟨hv,hk2⟩
  simp only at hv hk2
  subst hv
  by_cases he:(wk n l p).2=0
  ·rw [zO he,cond_true] at ht
   refine zg (show (!zj (wk n l p).2 0)=false by rw [he];rfl) ?_
   rw [zuc h.f.t hpt,zK]
   refine zg rfl (zd (ji ⟨_,c,?_,hk2,ht,by omega,by omega⟩))
   show ((0,(0,((wrF .i64 (s+(wrF .i64 ((wrF .i64 ((wk n l p).1.2.2.1+(lnk n.1 p).2.2.2))+n.2.1.2.2.1)))),((wrF .i64 ((i:Int)+1)),())))),(c,()))=_
   rw [qX (by omega),qR (z:=(wk n l p).1.2.2.1+(lnk n.1 p).2.2.2) (by omega) (by omega),qR (z:=(wk n l p).1.2.2.1+(lnk n.1 p).2.2.2+n.2.1.2.2.1) (by omega) (by omega),qR (by omega) (by omega)]
  ·rw [qo he,cond_false] at ht
   refine zi (show (!zj (wk n l p).2 0)=true by rw [jx he];rfl) (zd (zE ⟨hk2,.inr ⟨rfl,rfl,?_,?_,?_⟩⟩))
   ·rw [ht]
   ·rw [ht];exact he
   ·rw [ht]
 ·rintro _ ⟨s,m',rfl,hk,ht,s0,s1⟩
  rw [List.drop_length] at ht
  refine zg (qm (show ¬(r.length:Int) < (r.length:Int) by omega)) (zd (zE ⟨hk,.inl ⟨rfl,?_,?_⟩⟩))
  ·rw [ht];rfl
  ·rw [ht];rfl
noncomputable def ze6 (l:List qx) (id:Int):Int×Int:=match xB (l,id,()) with
 |some (v,e,())=>(v,e)
 |none=>(0,0)
theorem zyq {l:List qx} (hn:l.length≤1000000000000000000) (id:Int):xB (l,id,())=some ((ze6 l id).1,(ze6 l id).2,())∧(((ze6 l id).2=0∧∃(i:Nat) (s:qx),(ze6 l id).1=(i:Int)∧l[i]?=some s∧s.1=id∧∀(k:Nat) b,k < i→l[k]?=some b→b.1≠id)∨((ze6 l id).2=4∧(ze6 l id).1=0∧∀s∈l,s.1≠id)):=by
 obtain ⟨v,e,h1,h3⟩:=zGe hn id
 have e1:ze6 l id=(v,e):=by unfold ze6;rw [h1]
 rw [e1]
 exact ⟨h1,h3⟩
def uV {α:Type} (f:α→Int):List α→Int
 |[]=>0
 |x::l=>if f x=0 then uV f l else f x
theorem Xw {α:Type} {f:α→Int}:∀{l:List α},uV f l=0↔∀x∈l,f x=0
 |[]=>by simp [uV]
 |x::l=>by
  unfold uV
  split
  ·rename_i h
   rw [Xw];simp [h]
  ·rename_i h
   simp [h]
theorem zig {α:Type} {f:α→Int}:∀{l:List α} {i:Nat} {x:α},l[i]?=some x→(∀(k:Nat) y,k < i→l[k]?=some y→f y=0)→f x≠0→uV f l=f x
 |[],i,x,h,_,_=>by simp at h
 |a::l,0,x,h,_,hx=>by
  simp at h;subst h
  unfold uV;rw [if_neg hx]
 |a::l,i+1,x,h,hk,hx=>by
  unfold uV
  rw [if_pos (hk 0 a (by omega) rfl)]
  exact zig (l:=l) (i:=i) (by simpa using h) (fun k y hk' hy=>hk (k+1) y (by omega) (by simpa using hy)) hx
noncomputable def Jx (n:Fab) (l:List qx) (p:Nat):Int:=bif tv ((wk n l p).2=4) then 0 else bif tv ((wk n l p).2=0) then bif tv (n.2.1.2.2.2 < (wk n l p).1.2.2.2) then 7 else 0 else (wk n l p).2
noncomputable def zeA (n:Fab) (l:List qx) (s:qx) (r:List Int):Int:=bif tv ((XM n l r).2=0) then bif tv (s.2.2.2.2.2.2.2.1 < (XM n l r).1) then 412 else 0 else (XM n l r).2
noncomputable def ze7 (n:Fab) (l:List qx) (s:qx):Int:=uV (zeA n l s) s.2.2.2.2.2.2.2.2
noncomputable def xa (n:Fab) (l:List qx):Int:=
 bif tv (zif n l=0) then bif tv (uV (Jx n l) (List.range n.2.2.1.length)=0) then uV (ze7 n l) l else uV (Jx n l) (List.range n.2.2.1.length) else zif n l
theorem zzS {n:Fab} (h:znN n) {i:Nat} (hi:i < n.2.2.1.length):QM n.1 (i:Int):=⟨by omega,by have:=h.f.1;omega⟩
theorem zcw {n:Fab} (hn:n.2.2.1.length≤1000000000000000000) (l:List qx):uM (n,l,())=some (xa n l,()):=by
 rw [zqH];unfold zeV xa zif
 rw [VG hn,zK]
 by_cases h1:Gk n=0
 rotate_left
 ·rw [qo h1,cond_false]
  refine kV (zi (show (!zj (Gk n) 0)=true by rw [jx h1];rfl) (zi (show (!zj (Gk n) 0)=true by rw [jx h1];rfl) (zd ?_)))
  rw [qo h1];rfl
 have hf:=zCI h1
 refine kV (zg (show (!zj (Gk n) 0)=false by rw [h1];rfl) ?_)
 rw [zl5 hf.t,zK,zO h1,cond_true]
 by_cases h2:zdB n.1 l=0
 rotate_left
 ·rw [qo h2,cond_false]
  refine zi (show (!zj (zdB n.1 l) 0)=true by rw [jx h2];rfl) (zi (show (!zj (zdB n.1 l) 0)=true by rw [jx h2];rfl) (zd ?_))
  rw [qo h2];rfl
 obtain ⟨h12,ha,hd⟩:=zCW h2
 refine zg (show (!zj (zdB n.1 l) 0)=false by rw [h2];rfl) (zq (zEO (n:=n) h12 rfl) ?_)
 rw [zO h2,cond_true]
 rintro ⟨j,⟨⟨⟩,v,w,⟨⟩⟩,⟨⟩⟩ (⟨rfl,rfl,hc⟩ | ⟨rfl,rfl,hc⟩)
 rotate_left
 ·rw [qo hc,cond_false,qo (by simp)]
  exact zg rfl (zi rfl (zd rfl))
 rw [zO hc,cond_true,zO rfl,cond_true]
 have ok:okP n l:=⟨hf,ha,h12,hd,hc⟩
 have hfg:=ok.f.f.1
 have hls:=ok.f.t.sz.ls
 refine zi rfl (zq (J:=fun x=>ZE n l x.2.2.1∧x.2.1.1=uV (Jx n l) (List.range n.2.2.1.length)) (qG n.2.2.1.length (fun i st=>∃m,st=((0,((i:Int),())),(m,()))∧ZE n l m∧∀(k:Nat),k < i→Jx n l k=0) (by omega) ⟨[],rfl,zCU n l,fun k hk=>by omega⟩ ?_ ?_) ?_)
 ·rintro i _ hi ⟨m,rfl,hm,hp⟩
  have hpt:=zzS ok.f hi
  have at_:Jx n l i≠0→uV (Jx n l) (List.range n.2.2.1.length)=Jx n l i:=fun hne=>zig (i:=i) (by simp [hi]) (fun k y hk hy=>by
   rw [List.getElem?_range (by omega)] at hy;cases hy;exact hp k hk) hne
  have go:Jx n l i=0→∀c,ZE n l c→qB (some (Sum.inr (((0:Int),((wrF .i64 ((i:Int)+1)),())),(c,())):(Nat×((Int×(Int×Unit))×(zaE×Unit))) ⊕ ((Int×(Int×Unit))×(zaE×Unit)))) (Nxt (fun x=>ZE n l x.2.2.1∧x.2.1.1=uV (Jx n l) (List.range n.2.2.1.length)) fun st=>∃m,st=((0,(((i+1:Nat):Int),())),(m,()))∧ZE n l m∧∀(k:Nat),k < i+1→Jx n l k=0):=fun h0 c hk=>by
   refine zd (ji ⟨c,congrArg (fun z=>((0,(z,())),(c,()))) (qX (by omega)),hk,fun k hk'=>?_⟩)
   rcases Nat.lt_or_ge k i with h | h
   ·exact hp k h
   ·have:k=i:=by omega
    rw [this];exact h0
  refine zi (qD (show (i:Int) < (n.2.2.1.length:Int) by omega)) (zq (zCV ok hpt hm) ?_)
  rintro ⟨j,⟨v,⟨⟩⟩,c,⟨⟩⟩ ⟨hv,hk⟩
  simp only at hv hk
  subst hv
  unfold Jx at at_ go
  by_cases h4:(wk n l (i:Int)).2=4
  ·rw [zO h4] at go
   exact zi (yJ h4) (go rfl c hk)
  rw [qo h4,cond_false] at at_ go
  refine zg (jx h4) ?_
  by_cases h0:(wk n l (i:Int)).2=0
  ·rw [zO h0,cond_true] at at_ go
   refine zg (show (!zj (wk n l (i:Int)).2 0)=false by rw [h0];rfl) ?_
   by_cases hcc:n.2.1.2.2.2 < (wk n l (i:Int)).1.2.2.2
   ·rw [zO hcc,cond_true] at at_
    exact zi (qD hcc) (zd (zE ⟨hk,(at_ (by decide)).symm⟩))
   ·rw [qo hcc] at go
    exact zg (qm hcc) (go rfl c hk)
  ·rw [qo h0,cond_false] at at_
   exact zi (show (!zj (wk n l (i:Int)).2 0)=true by rw [jx h0];rfl) (zd (zE ⟨hk,(at_ h0).symm⟩))
 ·rintro _ ⟨m,rfl,hm,hp⟩
  exact zg (qm (show ¬(n.2.2.1.length:Int) < (n.2.2.1.length:Int) by omega)) (zd (zE ⟨hm,(Xw.2 fun x hx=>hp x (List.mem_range.1 hx)).symm⟩))
 rintro ⟨j,⟨v,w,⟨⟩⟩,c,⟨⟩⟩ ⟨hk,hv⟩
 simp only at hk hv
 subst hv
 by_cases h0:uV (Jx n l) (List.range n.2.2.1.length)=0
 rotate_left
 ·rw [qo h0]
  exact zi (show (!zj (uV (Jx n l) (List.range n.2.2.1.length)) 0)=true by rw [jx h0];rfl) (zd rfl)
 rw [zO h0,cond_true]
 refine zg (show (!zj (uV (Jx n l) (List.range n.2.2.1.length)) 0)=false by rw [h0];rfl) ?_
 refine zq (J:=fun x=>(x.1=0∧uV (ze7 n l) l=0)∨(x.1=1∧x.2.1.1=uV (ze7 n l) l∧uV (ze7 n l) l≠0)) (qG l.length (fun i st=>∃m,st=((0,((i:Int),())),(m,()))∧ZE n l m∧∀(k:Nat),k < i→∀s,l[k]?=some s→ze7 n l s=0) (by omega) ⟨c,rfl,hk,fun k hk=>by omega⟩ ?_ ?_) ?_
 ·rintro i _ hi ⟨m,rfl,hm,hp⟩
  have hx:l[i]?=some l[i]:=List.getElem?_eq_getElem hi
  have hmm:=List.getElem_mem hi
  generalize l[i]=s at hx hmm
  have hs:=ok.a s hmm
  have rn:=hs.rn
  have at_:ze7 n l s≠0→uV (ze7 n l) l=ze7 n l s:=fun hne=>zig hx (fun k y hk hy=>hp k hk y hy) hne
  refine zi (qD (show (i:Int) < (l.length:Int) by omega)) (zn (qh (n:=i) hx ?_))
  refine zq (J:=fun x=>ZE n l x.2.2.1∧((x.1=0∧x.2.1.1=0∧ze7 n l s=0)∨(x.1=1∧x.2.1.1=ze7 n l s∧ze7 n l s≠0))) (qG s.2.2.2.2.2.2.2.2.length (fun k st=>∃m,st=((0,((k:Int),())),(m,()))∧ZE n l m∧∀(k':Nat),k' < k→∀r,s.2.2.2.2.2.2.2.2[k']?=some r→zeA n l s r=0) (by omega) ⟨m,rfl,hm,fun k hk=>by omega⟩ ?_ ?_) ?_
  ·rintro k _ hk ⟨m,rfl,hm,hpk⟩
   have hy:s.2.2.2.2.2.2.2.2[k]?=some s.2.2.2.2.2.2.2.2[k]:=List.getElem?_eq_getElem hk
   have hmr:=List.getElem_mem hk
   generalize s.2.2.2.2.2.2.2.2[k]=r at hy hmr
   have atr:zeA n l s r≠0→ze7 n l s=zeA n l s r:=fun hne=>zig hy (fun k' y hk hy=>hpk k' hk y hy) hne
   refine zi (qD (show (k:Int) < (s.2.2.2.2.2.2.2.2.length:Int) by omega)) (zn (qh (n:=k) hy (zq (zGn ok (hs.rt r hmr).1 hm) ?_)))
   unfold zeA at atr
   rintro ⟨j,⟨a1,a2,a3,a4,⟨⟩⟩,c,⟨⟩⟩ ⟨hkc,⟨rfl,h1,h2⟩ | ⟨rfl,h1,h2,h3,h4⟩⟩
   ·simp only at h1 hkc
    subst h1
    rw [zO h2,cond_true] at atr
    refine zi rfl ?_
    by_cases hcc:s.2.2.2.2.2.2.2.1 < (XM n l r).1
    ·rw [zO hcc,cond_true] at atr
     exact zi (qD hcc) (zd (zE ⟨hkc,.inr ⟨rfl,(atr (by decide)).symm,by rw [atr (by decide)];decide⟩⟩))
    ·refine zg (qm hcc) (zd (ji ⟨c,congrArg (fun z=>(((0:Int),(z,())),(c,()))) (qX (by omega)),hkc,fun k' hk' r' hr'=>?_⟩))
     rcases Nat.lt_or_ge k' k with h | h
     ·exact hpk k' h r' hr'
     ·have:k'=k:=by omega
      subst this
      rw [hy] at hr';cases hr'
      unfold zeA;rw [zO h2,qo hcc];rfl
   ·simp only at h1 h2 hkc
    subst h1 h2
    rw [qo h3,cond_false] at atr
    exact zg rfl (zi (show (!zj (XM n l r).2 0)=true by rw [jx h3];rfl) (zd (zE ⟨hkc,.inr ⟨rfl,(atr h3).symm,by rw [atr h3];exact h3⟩⟩)))
  ·rintro _ ⟨m,rfl,hm,hpk⟩
   refine zg (qm (show ¬(s.2.2.2.2.2.2.2.2.length:Int) < (s.2.2.2.2.2.2.2.2.length:Int) by omega)) (zd (zE ⟨hm,.inl ⟨rfl,rfl,Xw.2 fun r hr=>?_⟩⟩))
   obtain ⟨k,hk,hk2⟩:=QE hr
   exact hpk k hk r hk2
  ·rintro ⟨j,⟨v,w,⟨⟩⟩,c,⟨⟩⟩ ⟨hkc,⟨rfl,h1,hq⟩ | ⟨rfl,h1,hq⟩⟩
   ·simp only at h1 hkc
    subst h1
    refine zi rfl (zd (ji ⟨c,congrArg (fun z=>(((0:Int),(z,())),(c,()))) (qX (by omega)),hkc,fun k' hk' s' hs'=>?_⟩))
    rcases Nat.lt_or_ge k' i with h | h
    ·exact hp k' h s' hs'
    ·have:k'=i:=by omega
     subst this
     rw [hx] at hs';cases hs';exact hq
   ·simp only at h1
    subst h1
    exact zg rfl (zd (zE (.inr ⟨rfl,(at_ hq).symm,by rw [at_ hq];exact hq⟩)))
 ·rintro _ ⟨m,rfl,hm,hp⟩
  refine zg (qm (show ¬(l.length:Int) < (l.length:Int) by omega)) (zd (zE (.inl ⟨rfl,Xw.2 fun s hs=>?_⟩)))
  obtain ⟨k,hk,hk2⟩:=QE hs
  exact hp k hk s hk2
 ·rintro ⟨j,⟨v,w,⟨⟩⟩,c,⟨⟩⟩ (⟨rfl,hq⟩ | ⟨rfl,h1,hq⟩)
  ·rw [hq];exact zi rfl (zd rfl)
  ·exact zg rfl (zd h1)
theorem zhc {n:Fab} {l:List qx} (h:xa n l=0):okP n l:=by
 unfold xa at h
 by_cases h1:zif n l=0
 ·exact zGm h1
 ·rw [qo h1] at h;exact absurd h h1
noncomputable def JU (n:Fab) (l:List qx) (s:qx):List qx×Int:=
 bif tv (xa n l=0) then bif tv (Ud n.1 s) then bif tv (xa n (l++[s])=0) then (l++[s],0) else ([],xa n (l++[s])) else ([],321) else ([],xa n l)
theorem zsI {n:Fab} (hn:n.2.2.1.length≤1000000000000000000) (l:List qx) (s:qx):YI (n,l,s,())=some ((JU n l s).1,(JU n l s).2,()):=by
 rw [zqJ];unfold zeW JU
 rw [zcw hn,zK]
 by_cases h:xa n l=0
 rotate_left
 ·rw [qo h,jx h];rfl
 have ok:=zhc h
 have h12:=ok.n12
 rw [zO h,h,cond_true,show (!zj 0 0)=false from rfl,cond_false,zqT ok.f.t,zK]
 by_cases hs:Ud n.1 s
 rotate_left
 ·rw [qo hs];rfl
 rw [zO hs,cond_true,cond_true,show (!zj 0 0)=false from rfl,cond_false,zyb,zK]
 refine xr (zi (kW (by show (l.length+1)*96≤_;omega) (by show l.length+1≤_;omega)) ?_)
 rw [zcw hn,zK]
 by_cases h2:xa n (l++[s])=0
 ·rw [zO h2]
  exact zg (show (!zj (xa n (l++[s])) 0)=false by rw [h2];rfl) (zd rfl)
 ·rw [qo h2]
  exact zi (show (!zj (xa n (l++[s])) 0)=true by rw [jx h2];rfl) (zd rfl)
noncomputable def zdE (n:Fab) (l:List qx) (id:Int):List qx×Int:=
 bif tv (xa n l=0) then bif tv ((ze6 l id).2=0) then (l.take (ze6 l id).1.toNat++l.drop ((ze6 l id).1.toNat+1),0) else ([],(ze6 l id).2) else ([],xa n l)
theorem zpd {n:Fab} (hn:n.2.2.1.length≤1000000000000000000) (l:List qx) (id:Int):gZ (n,l,id,())=some ((zdE n l id).1,(zdE n l id).2,()):=by
 rw [znF];unfold zci zdE
 rw [zcw hn,zK]
 by_cases h:xa n l=0
 rotate_left
 ·rw [qo h,jx h];rfl
 have ok:=zhc h
 have h12:=ok.n12
 obtain ⟨i1,i3⟩:=zyq (l:=l) (by omega) id
 rw [zO h,h,cond_true,show (!zj 0 0)=false from rfl,cond_false,i1,zK]
 rcases i3 with ⟨e0,i,s,ei,hx,_⟩ | ⟨e4,_⟩
 ·have hil:i < l.length:=by grind
  rw [e0,zO rfl,cond_true,ei,show (!zj 0 0)=false from rfl,cond_false,zkW l i (by omega),zK,qX (by omega),zex l (i+1) (by omega),zK,Int.toNat_natCast]
  refine xr (zi (kW (by simp;omega) (by simp;omega)) (zd rfl))
 ·rw [e4,qo (by simp)];rfl
theorem znQ (b:Int×Int) (l:List (Int×Int)):yK (b::l)=(b.1+(yK l).1,b.2+(yK l).2):=by
 unfold yK;simp
theorem zEP {a b:List (Int×Int)} (h:a.Sublist b) (hb:∀x∈b,vI x):(yK a).1≤(yK b).1∧(yK a).2≤(yK b).2:=by
 induction h with
 |slnil=>exact ⟨Int.le_refl _,Int.le_refl _⟩
 |cons x _ ih=>
  obtain ⟨⟨h1,_⟩,h2,_⟩:=hb x (by simp)
  have:=ih fun y hy=>hb y (by simp [hy])
  rw [znQ]
  exact ⟨by show _≤x.1+_;omega,by show _≤x.2+_;omega⟩
 |cons_cons x _ ih=>
  have:=ih fun y hy=>hb y (by simp [hy])
  rw [znQ,znQ]
  exact ⟨by show x.1+_≤x.1+_;omega,by show x.2+_≤x.2+_;omega⟩
theorem zyr {l m:List qx} (h:l.Sublist m) (p:Int):(load l p).Sublist (load m p):=by
 unfold load;exact (h.filter _).map _
theorem zys {l:List qx}:zqS l↔l.Pairwise fun a b=>a.1≠b.1:=by
 rw [List.pairwise_iff_getElem]
 constructor
 ·intro h i j hi hj hij
  exact h j i _ _ hij (List.getElem?_eq_getElem hj) (List.getElem?_eq_getElem hi)
 ·intro h i k a b hki ha hb
  obtain ⟨hi,rfl⟩:=List.getElem?_eq_some_iff.1 ha
  obtain ⟨hk,rfl⟩:=List.getElem?_eq_some_iff.1 hb
  exact h k i hk hi hki
theorem zCY {n:Fab} {l m:List qx} (h:m.Sublist l) (hl:okP n l):okP n m:=
 ⟨hl.f,fun s hs=>hl.a s (h.mem hs),by have:=hl.n12;have:=h.length_le;omega,zys.2 ((zys.1 hl.d).sublist h),fun s hs=>hl.c s (h.mem hs)⟩
theorem zGo {n:Fab} (h:znN n):Gk n=0:=by
 unfold Gk;rw [zO h.t,zO h.u,zO h.g,zO h.f];rfl
theorem zyt {n:Fab} {l:List qx} (h:okP n l):zif n l=0:=by
 have e:zdB n.1 l=0:=by unfold zdB;rw [zO h.n12,zO h.a,zO h.d];rfl
 unfold zif
 rw [zO (zGo h.f),zO e,zO (show zyp n l from h.c)];rfl
theorem znR {n:Fab} {l:List qx}:xa n l=0↔okP n l∧(∀p < n.2.2.1.length,Jx n l p=0)∧∀s∈l,∀r∈s.2.2.2.2.2.2.2.2,zeA n l s r=0:=by
 constructor
 ·intro h
  have ho:=zhc h
  unfold xa at h
  rw [zO (zyt ho),cond_true] at h
  by_cases h1:uV (Jx n l) (List.range n.2.2.1.length)=0
  ·rw [zO h1,cond_true] at h
   exact ⟨ho,fun p hp=>Xw.1 h1 p (List.mem_range.2 hp),fun s hs r hr=>Xw.1 (Xw.1 h s hs) r hr⟩
  ·rw [qo h1,cond_false] at h;exact absurd h h1
 ·rintro ⟨ho,h1,h2⟩
  unfold xa
  rw [zO (zyt ho),cond_true,zO (Xw.2 fun p hp=>h1 p (List.mem_range.1 hp)),cond_true]
  exact Xw.2 fun s hs=>Xw.2 fun r hr=>h2 s hs r hr
theorem zHs {n:Fab} {l:List qx} {p:Int} (h:(wk n l p).2=0):∃v,load l p≠[]∧ofS ((n.2.2.1[p.toNat]?).getD ([],0)) (lnk n.1 p).2.2.1 n.2.2.2=(v,0)∧vI (yK (load l p))∧(yK (load l p)).2≤v.1∧wk n l p=(zBm (yK (load l p)) v,0):=by
 unfold wk at h ⊢
 generalize ofS ((n.2.2.1[p.toNat]?).getD ([],0)) (lnk n.1 p).2.2.1 n.2.2.2=o at h ⊢
 obtain ⟨v,e⟩:=o
 by_cases h1:load l p=[]
 ·rw [zO h1,cond_true] at h;cases h
 rw [qo h1,cond_false] at h ⊢
 by_cases h2:e=0
 ·subst h2
  rw [zO rfl,cond_true] at h ⊢
  by_cases h3:vI (yK (load l p))
  ·have e:Um (load l p)=(yK (load l p),0):=by unfold Um;rw [zO h3];rfl
   rw [e,zO rfl,cond_true] at h ⊢
   by_cases h4:(yK (load l p)).2≤v.1
   ·rw [zO h4,cond_true] at h ⊢
    exact ⟨v,h1,rfl,h3,h4,rfl⟩
   ·rw [qo h4,cond_false] at h;cases h
  ·have e:Um (load l p)=((0,0),6):=by unfold Um;rw [qo h3];rfl
   rw [e,qo (by decide),cond_false] at h;cases h
 ·rw [qo h2,cond_false] at h;cases h
theorem zHt {n:Fab} {l:List qx} {p:Int} {v:Int×Int} (h1:load l p≠[]) (h2:ofS ((n.2.2.1[p.toNat]?).getD ([],0)) (lnk n.1 p).2.2.1 n.2.2.2=(v,0)) (h3:vI (yK (load l p))) (h4:(yK (load l p)).2≤v.1):wk n l p=(zBm (yK (load l p)) v,0):=by
 have e:Um (load l p)=(yK (load l p),0):=by unfold Um;rw [zO h3];rfl
 unfold wk
 rw [h2,e,qo h1,cond_false,zO rfl,cond_true,cond_true,zO h4,cond_true]
theorem zzT {n:Fab} {l m:List qx} (ho:okP n l) (hs:m.Sublist l) {p:Int} (hp:QM n.1 p) (h:(wk n l p).2=0) (hm:load m p≠[]) :
  (wk n m p).2=0∧(wk n m p).1.2.2.1≤(wk n l p).1.2.2.1∧(wk n m p).1.2.2.2≤(wk n l p).1.2.2.2:=by
 obtain ⟨v,h1,h2,h3,h4,h5⟩:=zHs h
 obtain ⟨lb1,lb2⟩:=zul ho p
 obtain ⟨mb1,mb2⟩:=zul (zCY hs ho) p
 obtain ⟨s1,s2⟩:=zEP (zyr hs p) lb2
 obtain ⟨m1,m2,m3,m4⟩:=zuj mb2
 have m0:1≤(load m p).length:=by
  rcases Nat.eq_zero_or_pos (load m p).length with h0 | h0
  ·exact absurd (List.length_eq_zero_iff.1 h0) hm
  ·exact h0
 obtain ⟨⟨b1,b2⟩,b3,b4⟩:=h3
 obtain ⟨g,hx,hge,hg,p0,p1⟩:=znP ho.f hp
 have hv:zoJ v:=by
  obtain ⟨_,o3⟩:=zBl hg p0 p1 ho.f.f.2.1 ho.f.f.2.2
  rw [hge] at h2
  rw [h2] at o3
  rcases o3 with ⟨_,h⟩ | ⟨h,_⟩
  ·exact h
  ·cases h
 obtain ⟨v1,_,v3,_⟩:=hv
 have em:=zHt (n:=n) (l:=m) (p:=p) hm h2 ⟨⟨by omega,by omega⟩,by omega,by omega⟩ (by omega)
 rw [em,h5]
 refine ⟨rfl,?_,?_⟩
 ·show v.2+cl v.1 ((yK (load m p)).1*1048576)≤v.2+cl v.1 ((yK (load l p)).1*1048576)
  have:=zzQ (d:=v.1) (by omega) (show (yK (load m p)).1*1048576≤(yK (load l p)).1*1048576 by omega)
  omega
 ·show (yK (load m p)).1+cl 1048576 ((yK (load m p)).2*v.2)≤(yK (load l p)).1+cl 1048576 ((yK (load l p)).2*v.2)
  have:=zzQ (d:=1048576) (by omega) (Int.mul_le_mul_of_nonneg_right s2 v3)
  omega
theorem zvl {n:Fab} {l m:List qx}:∀{r:List Int} {s s':Int},(∀p∈r,(wk n l p).2=0→(wk n m p).2=0∧(wk n m p).1.2.2.1≤(wk n l p).1.2.2.1)→(zf1 n l r s).2=0→s'≤s→(zf1 n m r s').2=0∧(zf1 n m r s').1≤(zf1 n l r s).1
 |[],s,s',_,_,h=>⟨rfl,h⟩
 |p::r,s,s',hp,h,hs=>by
  unfold zf1 at h ⊢
  by_cases h1:(wk n l p).2=0
  ·obtain ⟨h2,h3⟩:=hp p (by simp) h1
   rw [zO h1,cond_true] at h ⊢
   rw [zO h2,cond_true]
   exact zvl (fun q hq=>hp q (by simp [hq])) h (by omega)
  ·rw [qo h1,cond_false] at h;exact absurd h h1
theorem zEQ {l:List qx} {s:qx} {r:List Int} {p:Int} (hs:s∈l) (hr:r∈s.2.2.2.2.2.2.2.2) (hp:p∈r):load l p≠[]:=by
 unfold load
 intro h
 have:=List.map_eq_nil_iff.1 h
 have hm:s∈l.filter fun s=>tv (zbr s p):=List.mem_filter.2 ⟨hs,zO ⟨r,hr,hp⟩⟩
 rw [this] at hm;cases hm
theorem zER (b1 b2 b3:Bool) (x:Bnd):(bif b1 then bif b2 then bif b3 then (x,(0:Int)) else (zB,141) else (zB,6) else (zB,411)).2≠4:=by
 cases b1<;>cases b2<;>cases b3<;>simp
theorem zCZ {n:Fab} {l m:List qx} (hs:m.Sublist l) (hl:xa n l=0):xa n m=0:=by
 obtain ⟨ho,h1,h2⟩:=znR.1 hl
 refine znR.2 ⟨zCY hs ho,fun p hp=>?_,fun s hsm r hr=>?_⟩
 ·have hpp:=zzS ho.f hp
  by_cases hm:load m (p:Int)=[]
  ·have e:wk n m (p:Int)=(zB,4):=by unfold wk;rw [zO hm];rfl
   unfold Jx
   rw [e,zO rfl];rfl
  have h3:=h1 p hp
  have h4:(wk n l (p:Int)).2=0:=by
   by_cases h0:(wk n l (p:Int)).2=0
   ·exact h0
   ·unfold Jx at h3
    by_cases h44:(wk n l (p:Int)).2=4
    ·exfalso
     unfold wk at h44
     by_cases hle:load l (p:Int)=[]
     ·have:=(zyr hs (p:Int)).length_le
      rw [hle] at this
      exact hm (List.length_eq_zero_iff.1 (by simpa using this))
     ·rw [qo hle,cond_false] at h44
      exact absurd h44 (zER _ _ _ _)
    ·rw [qo h44,cond_false,qo h0,cond_false] at h3;exact h3
  obtain ⟨e1,e2,e3⟩:=zzT ho hs hpp h4 hm
  unfold Jx at h3 ⊢
  rw [h4,qo (by decide),cond_false,zO rfl,cond_true] at h3
  rw [e1,qo (by decide),cond_false,zO rfl,cond_true]
  by_cases h5:n.2.1.2.2.2 < (wk n l (p:Int)).1.2.2.2
  ·rw [zO h5] at h3;cases h3
  ·rw [qo (by omega)];rfl
 ·have hsl:=hs.mem hsm
  have h3:=h2 s hsl r hr
  have hrt:=((ho.a s hsl).rt r hr).1
  unfold zeA at h3 ⊢
  by_cases h0:(XM n l r).2=0
  ·rw [zO h0,cond_true] at h3
   obtain ⟨e1,e2⟩:=zvl (n:=n) (l:=l) (m:=m) (r:=r) (s:=0) (s':=0) (fun p hp h=>by
    obtain ⟨a,b,_⟩:=zzT ho hs (hrt.pt p hp) h (zEQ hsm hr hp)
    exact ⟨a,b⟩) h0 (Int.le_refl _)
   have e1:(XM n m r).2=0:=e1
   have e2:(XM n m r).1≤(XM n l r).1:=e2
   rw [zO e1,cond_true]
   by_cases h5:s.2.2.2.2.2.2.2.1 < (XM n l r).1
   ·rw [zO h5] at h3;cases h3
   ·rw [qo (by omega)];rfl
  ·rw [qo h0,cond_false] at h3;exact absurd h3 h0
end Go.Proofs.YtleloebnggepoaaGreat.sg
namespace Go.Fz.Sy
section
variable {α:Type} (κ:α→Int)
def Srt (l:List α):Prop:=l.Pairwise fun a b=>κ a < κ b
def lo (k:Int) (l:List α):List α:=l.filter fun a=>decide (κ a < k)
def hi (k:Int) (l:List α):List α:=l.filter fun a=>decide (k < κ a)
def ins (x:α) (l:List α):List α:=lo κ (κ x) l++x::hi κ (κ x) l
variable {κ}
theorem zsJ {k:Int} {l:List α} {x:α}:x∈lo κ k l↔x∈l∧κ x < k:=by unfold lo;simp
theorem zyu {k:Int} {l:List α} {x:α}:x∈hi κ k l↔x∈l∧k < κ x:=by unfold hi;simp
theorem zf7 {x y:α} {l:List α}:y∈ins κ x l↔y=x∨(y∈l∧κ y≠κ x):=by
 unfold ins
 rw [List.mem_append,List.mem_cons,zsJ,zyu]
 constructor
 ·rintro (⟨h1,h2⟩ | h | ⟨h1,h2⟩)
  ·exact .inr ⟨h1,by omega⟩
  ·exact .inl h
  ·exact .inr ⟨h1,by omega⟩
 ·rintro (h | ⟨h1,h2⟩)
  ·exact .inr (.inl h)
  ·rcases Int.lt_or_lt_of_ne h2 with h | h
   ·exact .inl ⟨h1,h⟩
   ·exact .inr (.inr ⟨h1,h⟩)
theorem zjQ {x:α} {l:List α} (h:Srt κ l):Srt κ (ins κ x l):=by
 unfold Srt ins
 refine List.pairwise_append.2 ⟨h.filter _,List.pairwise_cons.2 ⟨fun y hy=>(zyu.1 hy).2,h.filter _⟩,fun a ha b hb=>?_⟩
 have h1:=(zsJ.1 ha).2
 rcases List.mem_cons.1 hb with rfl | hb
 ·exact h1
 ·have:=(zyu.1 hb).2;omega
theorem zGp {l:List α} (h:Srt κ l) {a b:α} (ha:a∈l) (hb:b∈l) (e:κ a=κ b):a=b:=by
 unfold Srt at h
 induction l with
 |nil=>cases ha
 |cons x l ih=>
  obtain ⟨h1,h2⟩:=List.pairwise_cons.1 h
  rcases List.mem_cons.1 ha with ea | ha2
  ·rcases List.mem_cons.1 hb with eb | hb2
   ·rw [ea,eb]
   ·have:=h1 _ hb2;subst ea;omega
  ·rcases List.mem_cons.1 hb with eb | hb2
   ·have:=h1 _ ha2;subst eb;omega
   ·exact ih h2 ha2 hb2
theorem zzU:Srt κ ([]:List α):=List.Pairwise.nil
theorem zC0 {k:Int} {l:List α} (h:∀a∈l,κ a < k):lo κ k l=l:=List.filter_eq_self.2 fun a ha=>decide_eq_true (h a ha)
theorem zzV {k:Int} {l:List α} (h:∀a∈l,¬κ a < k):lo κ k l=[]:=List.filter_eq_nil_iff.2 fun a ha=>by simp;have:=h a ha;omega
theorem zC1 {k:Int} {l:List α} (h:∀a∈l,k < κ a):hi κ k l=l:=List.filter_eq_self.2 fun a ha=>decide_eq_true (h a ha)
theorem zzW {k:Int} {l:List α} (h:∀a∈l,¬k < κ a):hi κ k l=[]:=List.filter_eq_nil_iff.2 fun a ha=>by simp;have:=h a ha;omega
theorem zHu {k:Int} {l m:List α}:lo κ k (l++m)=lo κ k l++lo κ k m:=List.filter_append _ _
theorem zC2 {k:Int} {l m:List α}:hi κ k (l++m)=hi κ k l++hi κ k m:=List.filter_append _ _
theorem zES {l:List α} (h:Srt κ l) {i:Nat} {k:Int} (h1:∀j a,j < i→l[j]?=some a→κ a < k) (h2:∀a,l[i]?=some a→k≤κ a) (hi':i≤l.length) :
  l.take i=lo κ k l∧(∀a∈l.drop i,k≤κ a):=by
 have ht:∀a∈l.take i,κ a < k:=fun a ha=>by
  obtain ⟨j,hj,rfl⟩:=List.mem_iff_getElem.1 ha
  have hj':j < i:=by simp at hj;omega
  exact h1 j _ hj' (by simp)
 have hd:∀a∈l.drop i,k≤κ a:=fun a ha=>by
  rcases Nat.lt_or_ge i l.length with hlt | hge
  ·have hx:l[i]?=some l[i]:=List.getElem?_eq_getElem hlt
   have e:l.drop i=l[i]::l.drop (i+1):=List.drop_eq_getElem_cons hlt
   have hk:=h2 _ hx
   have hp:Srt κ (l.drop i):=List.Pairwise.sublist (List.drop_sublist i l) h
   rw [e] at ha hp
   rcases List.mem_cons.1 ha with rfl | ha
   ·exact hk
   ·have:=(List.pairwise_cons.1 hp).1 a ha;omega
  ·rw [List.drop_eq_nil_of_le hge] at ha;cases ha
 refine ⟨?_,hd⟩
 have e:l=l.take i++l.drop i:=(List.take_append_drop i l).symm
 conv=>rhs;rw [e,zHu]
 rw [zC0 ht,zzV fun a ha=>by have:=hd a ha;omega,List.append_nil]
theorem zET {l:List α} (h:Srt κ l) {i:Nat} {k:Int} (h1:∀a∈l.take i,κ a < k) (h2:∀a∈l.drop i,k≤κ a) (h3:∀a∈l,κ a≠k):l.drop i=hi κ k l:=by
 have e:l=l.take i++l.drop i:=(List.take_append_drop i l).symm
 conv=>rhs;rw [e,zC2]
 rw [zzW fun a ha=>by have:=h1 a ha;omega,zC1 fun a ha=>by have:=h2 a ha;have:=h3 a (List.mem_of_mem_drop ha);omega];rfl
theorem zGq {l:List α} (h:Srt κ l) {i:Nat} {k:Int} {x:α} (hx:l[i]?=some x) (hk:κ x=k):l.drop (i+1)=hi κ k l:=by
 have hlt:i < l.length:=by
  rcases Nat.lt_or_ge i l.length with h | h
  ·exact h
  ·rw [List.getElem?_eq_none h] at hx;cases hx
 have hx':l[i]=x:=by rw [List.getElem?_eq_getElem hlt] at hx;exact Option.some.inj hx
 have e:l=l.take i++(x::l.drop (i+1)):=by
  conv=>lhs;rw [←List.take_append_drop i l]
  rw [List.drop_eq_getElem_cons hlt,hx']
 have hs:Srt κ (l.take i++(x::l.drop (i+1))):=e▸h
 obtain ⟨a1,a2,a3⟩:=List.pairwise_append.1 hs
 obtain ⟨b1,b2⟩:=List.pairwise_cons.1 a2
 conv=>rhs;rw [e,zC2]
 rw [zzW fun a ha=>by have:=a3 a ha x (by simp);omega]
 have e2:hi κ k (x::l.drop (i+1))=hi κ k (l.drop (i+1)):=List.filter_cons_of_neg (by simp;omega)
 rw [List.nil_append,e2,zC1 fun a ha=>by have:=b1 a ha;omega]
theorem QN {l:List α} {i:Nat} {x:α} (h:l[i]?=some x):x∈l:=List.mem_of_getElem? h
theorem zum {l:List α} (h:Srt κ l) {a:Int} {n:Nat} (hb:∀x∈l,a≤κ x∧κ x < a+n):l.length≤n:=by
 unfold Srt at h
 induction l generalizing a n with
 |nil=>exact Nat.zero_le _
 |cons x l ih=>
  obtain ⟨h1,h2⟩:=List.pairwise_cons.1 h
  have hx:=hb x (by simp)
  cases n with
  |zero=>omega
  |succ n=>
   have:=ih (a:=κ x+1) (n:=n - (κ x - a).toNat) h2 (fun y hy=>by
    have:=h1 y hy
    have:=hb y (by simp [hy])
    omega)
   simp only [List.length_cons]
   omega
theorem lohi_len {l:List α} {k:Int} (h:∀a∈l,κ a≠k):(lo κ k l).length+(hi κ k l).length=l.length:=by
 induction l with
 |nil=>rfl
 |cons a l ih=>
  have h1:=ih fun b hb=>h b (by simp [hb])
  have h2:=h a (by simp)
  unfold lo hi at *
  by_cases h3:κ a < k
  ·rw [List.filter_cons_of_pos (by simpa using h3),List.filter_cons_of_neg (by simp;omega)]
   simp only [List.length_cons];omega
  ·rw [List.filter_cons_of_neg (by simpa using h3),List.filter_cons_of_pos (by simp;omega)]
   simp only [List.length_cons];omega
structure Fnd (l:List α) (k:Int) (z:α) (i:Int) (x:α) (b:Bool):Prop where
 ix:i=(((lo κ k l).length:Nat):Int)
 yes:b=true→x∈l∧κ x=k∧l[(lo κ k l).length]?=some x
 no:b=false→x=z∧∀a∈l,κ a≠k
theorem zGr {x:α} {l:List α} (h:Srt κ l):(ins κ x l).length≤l.length+1:=by
 unfold ins
 have h1:(lo κ (κ x) l).length+(hi κ (κ x) l).length≤l.length:=by
  clear h
  generalize κ x=k
  induction l with
  |nil=>simp [lo,hi]
  |cons a l ih=>
   unfold lo hi at *
   by_cases h1:κ a < k
   ·rw [List.filter_cons_of_pos (by simpa using h1),List.filter_cons_of_neg (by simp;omega)]
    simp only [List.length_cons];omega
   ·rw [List.filter_cons_of_neg (by simpa using h1)]
    by_cases h2:k < κ a
    ·rw [List.filter_cons_of_pos (by simpa using h2)]
     simp only [List.length_cons];omega
    ·rw [List.filter_cons_of_neg (by simpa using h2)]
     simp only [List.length_cons];omega
 rw [List.length_append,List.length_cons];omega
end
theorem znS {α:Type} {κ:α→Int} {sz:Nat} {l:List α} (h:Srt κ l) {z x y:α} {b:Bool} {i k:Int} (hf:Fnd (κ:=κ) l k z i x b) (hy:κ y=k) (hn:(l.length+1)*sz≤140737488355328) (hn2:l.length+1≤1000000000000) :
  (opt (ux l (some i) none none) fun x0=>
   opt (bif b then opt (ux l (some (wrF .i64 (i+1))) none none) fun x1=>some (0,((x1,()),()))
    else some (0,((x0,()),()))) fun (x2:Nat×((List α×Unit)×Unit))=>
   opt (ux l none (some i) (some i)) fun x3=>
   bif yS x3.length (y::[]).length sz then bif yS (x3++(y::[])).length x2.2.1.1.length sz then some (((x3++(y::[]))++x2.2.1.1),())
    else none
   else none)=some (ins κ y l,()):=by
 obtain ⟨ix,hyes,hno⟩:=hf
 subst hy
 have hlo:(lo κ (κ y) l).length≤l.length:=List.length_filter_le _ _
 have hle:l.take (lo κ (κ y) l).length=lo κ (κ y) l∧∀a∈l.drop (lo κ (κ y) l).length,κ y≤κ a:=by
  have:∀(l:List α),Srt κ l→l.take (lo κ (κ y) l).length=lo κ (κ y) l∧∀a∈l.drop (lo κ (κ y) l).length,κ y≤κ a:=by
   intro l
   induction l with
   |nil=>intro _;exact ⟨rfl,fun a ha=>by simp [lo] at ha⟩
   |cons a l ih=>
    intro h
    obtain ⟨h1,h2⟩:=List.pairwise_cons.1 h
    by_cases ha:κ a < κ y
    ·have e:lo κ (κ y) (a::l)=a::lo κ (κ y) l:=List.filter_cons_of_pos (by simpa using ha)
     rw [e]
     obtain ⟨i1,i2⟩:=ih h2
     exact ⟨by simp [i1],fun c hc=>i2 c (by simpa using hc)⟩
    ·have e:lo κ (κ y) (a::l)=[]:=zzV fun c hc=>by
      rcases List.mem_cons.1 hc with rfl | hc
      ·exact ha
      ·have:=h1 c hc;omega
     rw [e]
     refine ⟨rfl,fun c hc=>?_⟩
     rcases List.mem_cons.1 (show c∈a::l from hc) with rfl | hc
     ·omega
     ·have:=h1 c hc;omega
  exact this l h
 obtain ⟨h1,h2⟩:=hle
 have ht:∀a∈l.take (lo κ (κ y) l).length,κ a < κ y:=fun a ha=>by rw [h1] at ha;exact (zsJ.1 ha).2
 rw [ix,zex l _ hlo,zkW l _ hlo,h1]
 simp only [zK]
 have ha1:yS (lo κ (κ y) l).length (y::[]).length sz=true:=kW (by simp only [List.length_cons,List.length_nil];exact Nat.le_trans (Nat.mul_le_mul_right _ (by omega)) hn) (by simp only [List.length_cons,List.length_nil];omega)
 have hil:=zGr (κ:=κ) (x:=y) h
 unfold ins at hil
 rw [List.length_append,List.length_cons] at hil
 have ha2:yS (lo κ (κ y) l++(y::[])).length (hi κ (κ y) l).length sz=true:=kW (by
   rw [List.length_append];simp only [List.length_cons,List.length_nil];exact Nat.le_trans (Nat.mul_le_mul_right _ (by omega)) hn) (by rw [List.length_append];simp only [List.length_cons,List.length_nil];omega)
 cases b with
 |true=>
  obtain ⟨m1,m2,m3⟩:=hyes rfl
  have hlt:(lo κ (κ y) l).length < l.length:=by
   rcases Nat.lt_or_ge (lo κ (κ y) l).length l.length with h | h
   ·exact h
   ·rw [List.getElem?_eq_none h] at m3;cases m3
  rw [show wrF .i64 ((((lo κ (κ y) l).length:Nat):Int)+1)=(((lo κ (κ y) l).length+1:Nat):Int) from qX (by omega),zex l _ (by omega),zGq h m3 m2]
  simp only [cond_true,zK,ha1,ha2]
  unfold ins
  simp
 |false=>
  obtain ⟨_,m2⟩:=hno rfl
  rw [zET h ht h2 m2]
  simp only [cond_false,cond_true,zK,ha1,ha2]
  unfold ins
  simp
end Go.Fz.Sy
namespace Go.Proofs.YtleloebnggepoaaGreat.sg
open Go Go.Fz Go.Fz.Sy
abbrev Wi:=wc
abbrev Ca:=qy
abbrev He:=xI
abbrev Le:=zI
abbrev Sig:=zL
def zS:qx:=(0,(0,(0,(0,(0,(0,((0,0),(0,[]))))))))
abbrev wK (w:Wi):Int:=w.1
abbrev cK (c:Ca):Int:=c.1
abbrev hK (h:He):Int:=h.1*32+h.2.1
abbrev zW (id:Int):Wi:=(id,(0,(0,(zS,0))))
abbrev zC (id:Int):Ca:=(id,(0,(0,(0,[]))))
abbrev zH (n id:Int):He:=(n,(id,(0,false)))
abbrev led (s:Sig):List qx:=s.2.1
abbrev wis (s:Sig):List Wi:=s.2.2.1
abbrev cas (s:Sig):List Ca:=s.2.2.2.1
abbrev hel (s:Sig):List He:=s.2.2.2.2.1
abbrev wir (s:Sig):List Le:=s.2.2.2.2.2
abbrev upL (s:Sig) (x:List qx):Sig:=(s.1,(x,s.2.2))
abbrev upW (s:Sig) (x:List Wi):Sig:=(s.1,(s.2.1,(x,s.2.2.2)))
abbrev upC (s:Sig) (x:List Ca):Sig:=(s.1,(s.2.1,(s.2.2.1,(x,s.2.2.2.2))))
abbrev upH (s:Sig) (x:List He):Sig:=(s.1,(s.2.1,(s.2.2.1,(s.2.2.2.1,(x,s.2.2.2.2.2)))))
abbrev upX (s:Sig) (x:List Le):Sig:=(s.1,(s.2.1,(s.2.2.1,(s.2.2.2.1,(s.2.2.2.2.1,x)))))
section
variable {α:Type} {κ:α→Int}
def lk (κ:α→Int) (l:List α) (k:Int) (z:α):α:=(l.find? fun a=>decide (κ a=k)).getD z
theorem znT {l:List α} (h:Srt κ l) {a:α} (ha:a∈l) {k:Int} (hk:κ a=k) (z:α):lk κ l k z=a:=by
 unfold lk
 cases e:l.find? fun a=>decide (κ a=k) with
 |none=>exact absurd hk (by simpa using List.find?_eq_none.1 e a ha)
 |some b=>
  have h1:=List.mem_of_find?_eq_some e
  have h2:=List.find?_some e
  exact zGp h h1 ha (by show κ b=κ a;rw [of_decide_eq_true h2,hk])
theorem zzX {l:List α} {k:Int} (h:∀a∈l,κ a≠k) (z:α):lk κ l k z=z:=by
 unfold lk
 rw [List.find?_eq_none.2 fun a ha=>by simpa using h a ha];rfl
theorem za4 (l:List α) (k:Int) (z:α):(lk κ l k z∈l∧κ (lk κ l k z)=k)∨(lk κ l k z=z∧∀a∈l,κ a≠k):=by
 unfold lk
 cases e:l.find? fun a=>decide (κ a=k) with
 |none=>exact .inr ⟨rfl,fun a ha=>by simpa using List.find?_eq_none.1 e a ha⟩
 |some b=>exact .inl ⟨List.mem_of_find?_eq_some e,by have:=List.find?_some e;simpa using this⟩
theorem zyv {l:List α} (h:Srt κ l) (x:α) (k:Int) (z:α):lk κ (ins κ x l) k z=if k=κ x then x else lk κ l k z:=by
 by_cases hk:k=κ x
 ·rw [if_pos hk]
  exact znT (zjQ h) (zf7.2 (.inl rfl)) hk.symm z
 ·rw [if_neg hk]
  rcases za4 (κ:=κ) l k z with ⟨h1,h2⟩ | ⟨h1,h2⟩
  ·exact znT (zjQ h) (zf7.2 (.inr ⟨h1,by omega⟩)) h2 z
  ·rw [h1]
   refine zzX (fun a ha=>?_) z
   rcases zf7.1 ha with rfl | ⟨h3,_⟩
   ·exact fun e=>hk e.symm
   ·exact h2 a h3
theorem zk1 {l:List α} (h:Srt κ l) {k:Int} {z:α} {i:Int} {x:α} {b:Bool} (hf:Fnd (κ:=κ) l k z i x b):x=lk κ l k z∧(b=true↔∃a∈l,κ a=k):=by
 obtain ⟨_,h1,h2⟩:=hf
 cases b with
 |true=>
  obtain ⟨m1,m2,_⟩:=h1 rfl
  exact ⟨(znT h m1 m2 z).symm,fun _=>⟨x,m1,m2⟩,fun _=>rfl⟩
 |false=>
  obtain ⟨m1,m2⟩:=h2 rfl
  exact ⟨by rw [zzX m2,m1],fun h=>(by cases h),fun ⟨a,ha,e⟩=>absurd e (m2 a ha)⟩
theorem zqW {l:List α} (h:Srt κ l) {k:Int} {z:α} {i:Nat} {a:α} (hx:l[i]?=some a) (hge:k≤κ a) (hb:∀j b,j < i→l[j]?=some b→κ b < k):Fnd (κ:=κ) l k z (i:Int) (bif decide (κ a=k) then a else z) (decide (κ a=k)):=by
 have hil:i < l.length:=by
  rcases Nat.lt_or_ge i l.length with h | h
  ·exact h
  ·rw [List.getElem?_eq_none h] at hx;cases hx
 obtain ⟨h1,h2⟩:=zES h hb (fun c hc=>by rw [hx] at hc;cases hc;exact hge) (Nat.le_of_lt hil)
 have hl:(lo κ k l).length=i:=by rw [←h1,List.length_take];omega
 refine ⟨by rw [hl],fun hd=>?_,fun hd=>?_⟩
 ·have hd:=of_decide_eq_true hd
  rw [decide_eq_true hd,cond_true,hl]
  exact ⟨QN hx,hd,hx⟩
 ·have hd:=of_decide_eq_false hd
  rw [decide_eq_false hd,cond_false]
  refine ⟨rfl,fun c hc e=>?_⟩
  have e2:l=l.take i++l.drop i:=(List.take_append_drop i l).symm
  rw [e2] at hc
  rcases List.mem_append.1 hc with hc | hc
  ·rw [h1] at hc;have:=(zsJ.1 hc).2;omega
  ·rw [List.drop_eq_getElem_cons hil] at hc h2
   rw [List.getElem?_eq_getElem hil] at hx
   have hx:=Option.some.inj hx
   rcases List.mem_cons.1 hc with h3 | h3
   ·subst h3;rw [hx] at e;exact hd e
   ·have hp:Srt κ (l.drop i):=List.Pairwise.sublist (List.drop_sublist i l) h
    rw [List.drop_eq_getElem_cons hil] at hp
    have:=(List.pairwise_cons.1 hp).1 c h3
    rw [hx] at this
    omega
theorem znU {l:List α} {k:Int} {z:α} (hb:∀j b,j < l.length→l[j]?=some b→κ b < k):Fnd (κ:=κ) l k z ((l.length:Nat):Int) z false:=by
 have hm:∀a∈l,κ a < k:=fun a ha=>by
  obtain ⟨j,hj,rfl⟩:=List.mem_iff_getElem.1 ha
  exact hb j _ hj (List.getElem?_eq_getElem hj)
 exact ⟨by rw [zC0 hm],fun h=>(by cases h),fun _=>⟨rfl,fun a ha=>by have:=hm a ha;omega⟩⟩
end
theorem zun {α:Type} {κ:α→Int} {l:List α} {k:Int} {i:Nat} {a:α} (hb:∀j b,j < i→l[j]?=some b→κ b < k) (hx:l[i]?=some a) (h:κ a < k):∀j b,j < i+1→l[j]?=some b→κ b < k:=fun j b hj hb2=>by
 rcases Nat.lt_or_ge j i with h2 | h2
 ·exact hb j b h2 hb2
 ·have:j=i:=by omega
  subst this
  rw [hx] at hb2;cases hb2;exact h
def ZZ (a b:Int):Int:=if a < b then -1 else if b < a then 1 else 0
theorem Yf (a b:Int):jb (a,b,())=some (ZZ a b,()):=by
 rw [zkH];unfold GV ZZ
 rw [zed,zed];unfold zb0
 simp only [zK,wo,beq_self_eq_true,Bool.not_true,cond_false,km]
 by_cases h:a < b
 ·rw [if_pos h,decide_eq_true h,cond_true]
 ·rw [if_neg h,decide_eq_false h,cond_false]
  by_cases h2:b < a
  ·rw [if_pos h2,decide_eq_true h2,cond_true]
  ·rw [if_neg h2,decide_eq_false h2,cond_false]
theorem zdF {a b:Int}:ZZ a b < 0↔a < b:=by unfold ZZ;split<;>(try split)<;>omega
theorem Wc {a b:Int}:ZZ a b=0↔a=b:=by unfold ZZ;split<;>(try split)<;>omega
def orS (a b:Int):Int:=if a=0 then b else a
theorem zuo (a b:Int):Ja ((a::(b::[])),())=some (orS a b,()):=by
 have key:qB (Ja ((a::(b::[])),())) fun r=>r.1=orS a b:=by
  rw [zsr];unfold zgZ
  refine zq (J:=fun x=>(x.1=0∧a=0∧b=0)∨(x.1=1∧x.2.1.1=orS a b)) (qG 2 (fun i st=>st=((0,((i:Int),())),())∧(1≤i→a=0)∧(2≤i→b=0)) (by omega) ⟨rfl,fun h=>by omega,fun h=>by omega⟩ ?_ ?_) ?_
  ·rintro i _ hi ⟨rfl,h1,h2⟩
   rcases (show i=0∨i=1 by omega) with rfl | rfl
   ·refine zi (qD (by simp)) (zn (qh (n:=0) (x:=a) rfl (zt (fun h=>?_) (fun h=>?_))))
    ·have:a≠0:=wH (by simpa using h)
     exact zd (zE (.inr ⟨rfl,by unfold orS;rw [if_neg this]⟩))
    ·have:a=0:=jJ (by simpa using h)
     exact zd (ji ⟨by rw [qX (by omega)],fun _=>this,fun h=>by omega⟩)
   ·have ha:=h1 (Nat.le_refl _)
    refine zi (qD (by simp)) (zn (qh (n:=1) (x:=b) rfl (zt (fun h=>?_) (fun h=>?_))))
    ·exact zd (zE (.inr ⟨rfl,by unfold orS;rw [if_pos ha]⟩))
    ·have:b=0:=jJ (by simpa using h)
     exact zd (ji ⟨by rw [qX (by omega)],fun _=>ha,fun _=>this⟩)
  ·rintro _ ⟨rfl,h1,h2⟩
   exact zg (qm (by simp)) (zd (zE (.inl ⟨rfl,h1 (by omega),h2 (Nat.le_refl _)⟩)))
  ·rintro ⟨j,⟨v,w,⟨⟩⟩,⟨⟩⟩ (⟨rfl,h1,h2⟩ | ⟨rfl,h1⟩)
   ·exact zi rfl (zd (by subst h1 h2;rfl))
   ·exact zg rfl (zd h1)
 exact kV key
theorem zhd {s:Sig} (h:Srt wK (wis s)) (hn:(wis s).length≤1000000000) (id:Int):∃i x b,we s (id,())=some (s,(i,(x,(b,()))))∧Fnd (κ:=wK) (wis s) id (zW id) i x b:=by
 have key:qB (we s (id,())) fun r=>r.1=s∧Fnd (κ:=wK) (wis s) id (zW id) r.2.1 r.2.2.1 r.2.2.2.1:=by
  rw [zfU];unfold Xr
  refine zq (J:=fun x=>(x.1=0∧x.2.1.1=id∧∀j b,j < (wis s).length→(wis s)[j]?=some b→wK b < id)∨(x.1=1∧x.2.1.1=id∧∃(i:Nat) (a:Wi),x.2.1.2.1=(i:Int)∧(wis s)[i]?=some a∧id≤wK a∧x.2.1.2.2.1=decide (wK a=id)∧∀j b,j < i→(wis s)[j]?=some b→wK b < id))
   (qG (wis s).length (fun i st=>st=((id,(0,(false,((i:Int),())))),())∧∀j b,j < i→(wis s)[j]?=some b→wK b < id) (by omega) ⟨rfl,fun j b hj=>by omega⟩ ?_ ?_) ?_
  ·rintro i _ hi ⟨rfl,hb⟩
   have hx:(wis s)[i]?=some (wis s)[i]:=List.getElem?_eq_getElem hi
   generalize (wis s)[i]=a at hx
   refine zi (qD (show (i:Int) < (((wis s).length:Nat):Int) by omega)) (zn (qh (n:=i) hx ?_))
   rw [show jb (a.1,(((id,(0,(false,((i:Int),())))),()):(Int×(Int×(Bool×(Int×Unit))))×Unit).1.1,())=_ from Yf a.1 id,zK]
   refine zt (fun hc=>?_) (fun hc=>?_)
   ·have hge:¬ZZ a.1 id < 0:=by have:=wA (show zr (ZZ a.1 id) 0=false by simpa using hc);omega
    rw [zdF] at hge
    refine zd (zE (.inr ⟨rfl,rfl,i,a,rfl,hx,by show id≤a.1;omega,?_,hb⟩))
    show zj (ZZ a.1 id) 0=_
    by_cases he:a.1=id
    ·rw [yJ (Wc.2 he),decide_eq_true (show wK a=id from he)]
    ·rw [jx (fun e=>he (Wc.1 e)),decide_eq_false (show ¬wK a=id from he)]
   ·have hlt:ZZ a.1 id < 0:=yn (by simpa using hc)
    exact zd (ji ⟨congrArg (fun z=>((id,((0:Int),(false,(z,())))),())) (qX (by omega)),zun hb hx (zdF.1 hlt)⟩)
  ·rintro _ ⟨rfl,hb⟩
   exact zg (qm (show ¬(((wis s).length:Nat):Int) < (((wis s).length:Nat):Int) by omega)) (zd (zE (.inl ⟨rfl,rfl,hb⟩)))
  ·rintro ⟨j,⟨v,w,b,z,⟨⟩⟩,⟨⟩⟩ (⟨rfl,hv,hb⟩ | ⟨rfl,hv,i,a,hw,hx,hge,hd,hb⟩)
   ·simp only at hv
    subst hv
    exact zi rfl (zd ⟨rfl,znU hb⟩)
   ·simp only at hv hw hd
    subst hv hw hd
    have hf:=zqW (z:=zW v) h hx hge hb
    by_cases he:wK a=v
    ·rw [decide_eq_true he] at hf ⊢
     exact zg rfl (zg rfl (zn (qh (n:=i) hx (zd ⟨rfl,hf⟩))))
    ·rw [decide_eq_false he] at hf ⊢
     exact zg rfl (zi rfl (zd ⟨rfl,hf⟩))
 obtain ⟨⟨s',i,x,b,⟨⟩⟩,e,rfl,hf⟩:=key
 exact ⟨i,x,b,e,hf⟩
theorem KS {s:Sig} (h:Srt cK (cas s)) (hn:(cas s).length≤1000000000) (id:Int):∃i x b,jC s (id,())=some (s,(i,(x,(b,()))))∧Fnd (κ:=cK) (cas s) id (zC id) i x b:=by
 have key:qB (jC s (id,())) fun r=>r.1=s∧Fnd (κ:=cK) (cas s) id (zC id) r.2.1 r.2.2.1 r.2.2.2.1:=by
  rw [zeg];unfold WH
  refine zq (J:=fun x=>(x.1=0∧x.2.1.1=id∧∀j b,j < (cas s).length→(cas s)[j]?=some b→cK b < id)∨(x.1=1∧x.2.1.1=id∧∃(i:Nat) (a:Ca),x.2.1.2.1=(i:Int)∧(cas s)[i]?=some a∧id≤cK a∧x.2.1.2.2.1=decide (cK a=id)∧∀j b,j < i→(cas s)[j]?=some b→cK b < id))
   (qG (cas s).length (fun i st=>st=((id,(0,(false,((i:Int),())))),())∧∀j b,j < i→(cas s)[j]?=some b→cK b < id) (by omega) ⟨rfl,fun j b hj=>by omega⟩ ?_ ?_) ?_
  ·rintro i _ hi ⟨rfl,hb⟩
   have hx:(cas s)[i]?=some (cas s)[i]:=List.getElem?_eq_getElem hi
   generalize (cas s)[i]=a at hx
   refine zi (qD (show (i:Int) < (((cas s).length:Nat):Int) by omega)) (zn (qh (n:=i) hx ?_))
   rw [show jb (a.1,(((id,(0,(false,((i:Int),())))),()):(Int×(Int×(Bool×(Int×Unit))))×Unit).1.1,())=_ from Yf a.1 id,zK]
   refine zt (fun hc=>?_) (fun hc=>?_)
   ·have hge:¬ZZ a.1 id < 0:=by have:=wA (show zr (ZZ a.1 id) 0=false by simpa using hc);omega
    rw [zdF] at hge
    refine zd (zE (.inr ⟨rfl,rfl,i,a,rfl,hx,by show id≤a.1;omega,?_,hb⟩))
    show zj (ZZ a.1 id) 0=_
    by_cases he:a.1=id
    ·rw [yJ (Wc.2 he),decide_eq_true (show cK a=id from he)]
    ·rw [jx (fun e=>he (Wc.1 e)),decide_eq_false (show ¬cK a=id from he)]
   ·have hlt:ZZ a.1 id < 0:=yn (by simpa using hc)
    exact zd (ji ⟨congrArg (fun z=>((id,((0:Int),(false,(z,())))),())) (qX (by omega)),zun hb hx (zdF.1 hlt)⟩)
  ·rintro _ ⟨rfl,hb⟩
   exact zg (qm (show ¬(((cas s).length:Nat):Int) < (((cas s).length:Nat):Int) by omega)) (zd (zE (.inl ⟨rfl,rfl,hb⟩)))
  ·rintro ⟨j,⟨v,w,b,z,⟨⟩⟩,⟨⟩⟩ (⟨rfl,hv,hb⟩ | ⟨rfl,hv,i,a,hw,hx,hge,hd,hb⟩)
   ·simp only at hv
    subst hv
    exact zi rfl (zd ⟨rfl,znU hb⟩)
   ·simp only at hv hw hd
    subst hv hw hd
    have hf:=zqW (z:=zC v) h hx hge hb
    by_cases he:cK a=v
    ·rw [decide_eq_true he] at hf ⊢
     exact zg rfl (zg rfl (zn (qh (n:=i) hx (zd ⟨rfl,hf⟩))))
    ·rw [decide_eq_false he] at hf ⊢
     exact zg rfl (zi rfl (zd ⟨rfl,hf⟩))
 obtain ⟨⟨s',i,x,b,⟨⟩⟩,e,rfl,hf⟩:=key
 exact ⟨i,x,b,e,hf⟩
theorem ze8 {s:Sig} (h:Srt hK (hel s)) (hn:(hel s).length≤1000000000) (hr:∀a∈hel s,1≤a.2.1∧a.2.1≤24) {n id:Int} (hi:1≤id∧id≤24):∃i x b,yY s (n,(id,()))=some (s,(i,(x,(b,()))))∧Fnd (κ:=hK) (hel s) (n*32+id) (zH n id) i x b:=by
 have key:qB (yY s (n,(id,()))) fun r=>r.1=s∧Fnd (κ:=hK) (hel s) (n*32+id) (zH n id) r.2.1 r.2.2.1 r.2.2.2.1:=by
  rw [zeq];unfold WN
  refine zq (J:=fun x=>(x.1=0∧x.2.1.1=n∧x.2.1.2.1=id∧∀j b,j < (hel s).length→(hel s)[j]?=some b→hK b < n*32+id)∨(x.1=1∧x.2.1.1=n∧x.2.1.2.1=id∧∃(i:Nat) (a:He),x.2.1.2.2.1=(i:Int)∧(hel s)[i]?=some a∧n*32+id≤hK a∧x.2.1.2.2.2.1=decide (hK a=n*32+id)∧∀j b,j < i→(hel s)[j]?=some b→hK b < n*32+id))
   (qG (hel s).length (fun i st=>st=((n,(id,(0,(false,((i:Int),()))))),())∧∀j b,j < i→(hel s)[j]?=some b→hK b < n*32+id) (by omega) ⟨rfl,fun j b hj=>by omega⟩ ?_ ?_) ?_
  ·rintro i _ hi ⟨rfl,hb⟩
   have hx:(hel s)[i]?=some (hel s)[i]:=List.getElem?_eq_getElem hi
   generalize (hel s)[i]=a at hx
   refine zi (qD (show (i:Int) < (((hel s).length:Nat):Int) by omega)) (zn (qh (n:=i) hx ?_))
   rw [show jb (a.1,(((n,(id,(0,(false,((i:Int),()))))),()):(Int×(Int×(Int×(Bool×(Int×Unit)))))×Unit).1.1,())=_ from Yf a.1 n,zK]
   rw [show jb (a.2.1,(((n,(id,(0,(false,((i:Int),()))))),()):(Int×(Int×(Int×(Bool×(Int×Unit)))))×Unit).1.2.1,())=_ from Yf a.2.1 id,zK]
   rw [show Ja ((((ZZ a.1 n,()):Int×Unit).1::(((ZZ a.2.1 id,()):Int×Unit).1::[])),())=_ from zuo _ _,zK]
   have hra:=hr a (QN hx)
   have o1:orS (ZZ a.1 n) (ZZ a.2.1 id) < 0↔hK a < n*32+id:=by
    unfold orS
    split
    ·rename_i h0
     rw [Wc] at h0
     rw [zdF]
     show _↔a.1*32+a.2.1 < _
     omega
    ·rename_i h0
     rw [Wc] at h0
     rw [zdF]
     show _↔a.1*32+a.2.1 < _
     omega
   have o2:orS (ZZ a.1 n) (ZZ a.2.1 id)=0↔hK a=n*32+id:=by
    unfold orS
    split
    ·rename_i h0
     rw [Wc] at h0
     rw [Wc]
     show _↔a.1*32+a.2.1=_
     omega
    ·rename_i h0
     rw [Wc]
     rw [Wc] at h0
     show _↔a.1*32+a.2.1=_
     omega
   refine zt (fun hc=>?_) (fun hc=>?_)
   ·have hge:¬orS (ZZ a.1 n) (ZZ a.2.1 id) < 0:=by have:=wA (show zr (orS (ZZ a.1 n) (ZZ a.2.1 id)) 0=false by simpa using hc);omega
    rw [o1] at hge
    refine zd (zE (.inr ⟨rfl,rfl,rfl,i,a,rfl,hx,by omega,?_,hb⟩))
    show zj (orS (ZZ a.1 n) (ZZ a.2.1 id)) 0=_
    by_cases he:hK a=n*32+id
    ·rw [yJ (o2.2 he),decide_eq_true he]
    ·rw [jx (fun e=>he (o2.1 e)),decide_eq_false he]
   ·have hlt:orS (ZZ a.1 n) (ZZ a.2.1 id) < 0:=yn (by simpa using hc)
    exact zd (ji ⟨congrArg (fun z=>((n,(id,((0:Int),(false,(z,()))))),())) (qX (by omega)),zun hb hx (o1.1 hlt)⟩)
  ·rintro _ ⟨rfl,hb⟩
   exact zg (qm (show ¬(((hel s).length:Nat):Int) < (((hel s).length:Nat):Int) by omega)) (zd (zE (.inl ⟨rfl,rfl,rfl,hb⟩)))
  ·rintro ⟨j,⟨v,v2,w,b,z,⟨⟩⟩,⟨⟩⟩ (⟨rfl,hv,hv2,hb⟩ | ⟨rfl,hv,hv2,i,a,hw,hx,hge,hd,hb⟩)
   ·simp only at hv hv2
    subst hv hv2
    exact zi rfl (zd ⟨rfl,znU hb⟩)
   ·simp only at hv hv2 hw hd
    subst hv hv2 hw hd
    have hf:=zqW (z:=zH v v2) h hx hge hb
    by_cases he:hK a=v*32+v2
    ·rw [decide_eq_true he] at hf ⊢
     exact zg rfl (zg rfl (zn (qh (n:=i) hx (zd ⟨rfl,hf⟩))))
    ·rw [decide_eq_false he] at hf ⊢
     exact zg rfl (zi rfl (zd ⟨rfl,hf⟩))
 obtain ⟨⟨s',i,x,b,⟨⟩⟩,e,rfl,hf⟩:=key
 exact ⟨i,x,b,e,hf⟩
theorem zhA {l:List Wi} (h:Srt wK l) (hn:l.length≤1000000) {k:Int} {z x y:Wi} {b:Bool} {i:Int} (hf:Fnd (κ:=wK) l k z i x b) (hy:wK y=k):ym (l,i,b,y,())=some (ins wK y l,()):=by
 rw [zgD];unfold Vc
 exact znS (sz:=128) h hf hy (by omega) (by omega)
theorem GQ {l:List Ca} (h:Srt cK l) (hn:l.length≤1000000) {k:Int} {z x y:Ca} {b:Bool} {i:Int} (hf:Fnd (κ:=cK) l k z i x b) (hy:cK y=k):jS (l,i,b,y,())=some (ins cK y l,()):=by
 rw [zgY];unfold VB
 exact znS (sz:=56) h hf hy (by omega) (by omega)
theorem zhB {l:List He} (h:Srt hK l) (hn:l.length≤1000000) {k:Int} {z x y:He} {b:Bool} {i:Int} (hf:Fnd (κ:=hK) l k z i x b) (hy:hK y=k):vo (l,i,b,y,())=some (ins hK y l,()):=by
 rw [zg3];unfold VC
 exact znS (sz:=32) h hf hy (by omega) (by omega)
end Go.Proofs.YtleloebnggepoaaGreat.sg
namespace Go.Proofs.YtleloebnggepoaaGreat.sg
open Go Go.Fz Go.Fz.Sy
def za5 (x:List Le) (l:Le):List Le:=if x.length < 1024 then x++[l] else x
def JR (x:List Le) (ls:List Le):List Le:=ls.foldl za5 x
theorem zEU (x:List Le):JR x []=x:=rfl
theorem zEV (x a b:List Le):JR x (a++b)=JR (JR x a) b:=List.foldl_append
theorem zEW {x:List Le} {l:Le} (h:x.length≤1024):(za5 x l).length≤1024:=by
 unfold za5
 split
 ·rw [List.length_append];simp;omega
 ·exact h
theorem zyw (ls:List Le):∀{x:List Le},x.length≤1024→(JR x ls).length≤1024:=by
 induction ls with
 |nil=>intro x h;exact h
 |cons l ls ih=>intro x h;exact ih (x:=za5 x l) (zEW h)
theorem zk2 (ls:List Le):∀{x:List Le} {l:Le},l∈JR x ls→l∈x∨l∈ls:=by
 induction ls with
 |nil=>intro x l h;exact .inl h
 |cons a ls ih=>
  intro x l h
  rcases ih (x:=za5 x a) h with h | h
  ·unfold za5 at h
   split at h
   ·rcases List.mem_append.1 h with h | h
    ·exact .inl h
    ·exact .inr (by rw [List.mem_singleton.1 h];simp)
   ·exact .inl h
  ·exact .inr (by simp [h])
theorem WU (ls:List Le):∀{x:List Le},x.length+ls.length≤1024→JR x ls=x++ls:=by
 induction ls with
 |nil=>intro x h;simp [zEU]
 |cons a ls ih=>
  intro x h
  simp only [List.length_cons] at h
  show JR (za5 x a) ls=_
  have e:za5 x a=x++[a]:=by unfold za5;rw [if_pos (by omega)]
  rw [e,ih (by simp;omega)]
  simp
def snds (s:Sig) (ls:List Le):Sig:=upX s (JR (wir s) ls)
theorem zEX (s:Sig):snds s []=s:=rfl
theorem zk3 (s:Sig) (a b:List Le):snds s (a++b)=snds (snds s a) b:=by unfold snds;rw [zEV]
theorem zhe (s:Sig) (l:Le):ql s (l,())=some (snds s [l],()):=by
 rw [zfV];unfold Xt
 have e:snds s [l]=upX s (if (wir s).length < 1024 then wir s++[l] else wir s):=rfl
 rw [e]
 by_cases h:(wir s).length < 1024
 ·rw [if_pos h]
  refine xr (zn (zi (qD (show (((wir s).length:Nat):Int) < 1024 by omega)) ?_))
  rw [zyb,zK]
  have h':s.2.2.2.2.2.length < 1024:=h
  exact zi (kW (by simp;omega) (by simp;omega)) (zd (zd rfl))
 ·rw [if_neg h]
  exact xr (zn (zg (qm (show ¬(((wir s).length:Nat):Int) < 1024 by omega)) (zd (zd rfl))))
def Yq (w:Wi):List Le:=if w.2.2.1=1 then [(1,(w.1,(w.2.1,(0,(true,(w.2.2.2.1,0))))))] else if w.2.2.1=4 then [(1,(w.1,(w.2.1,(0,(false,(zS,0))))))] else []
theorem zzc (s:Sig) (w:Wi):wO s (w,())=some (snds s (Yq w),()):=by
 rw [zdm];unfold JV Yq
 simp only [zhe,zK]
 by_cases h1:w.2.2.1=1
 ·rw [if_pos h1]
  exact xr (zi (yJ h1) (zd rfl))
 ·rw [if_neg h1]
  by_cases h4:w.2.2.1=4
  ·rw [if_pos h4]
   exact xr (zg (jx h1) (zi (yJ h4) (zd rfl)))
  ·rw [if_neg h4]
   exact xr (zg (jx h1) (zg (jx h4) (zd rfl)))
def xT (c:Ca):List Le:=
 if c.2.2.1=2 then [(5,(c.1,(c.2.1,(0,(false,(zS,0))))))]
 else if c.2.2.1=3 then [(6,(c.1,(c.2.1,(0,(false,(zS,c.2.2.2.1))))))]
 else if c.2.2.1=5 then [(7,(c.1,(c.2.1,(0,(false,(zS,0))))))] else []
theorem zk4 (s:Sig) (c:Ca):jh s (c,())=some (snds s (xT c),()):=by
 rw [zeh];unfold WI xT
 simp only [zhe,zK]
 by_cases h2:c.2.2.1=2
 ·rw [if_pos h2]
  exact xr (zi (yJ h2) (zd rfl))
 rw [if_neg h2]
 by_cases h3:c.2.2.1=3
 ·rw [if_pos h3]
  exact xr (zg (jx h2) (zi (yJ h3) (zd rfl)))
 rw [if_neg h3]
 by_cases h5:c.2.2.1=5
 ·rw [if_pos h5]
  exact xr (zg (jx h2) (zg (jx h3) (zi (yJ h5) (zd rfl))))
 rw [if_neg h5]
 exact xr (zg (jx h2) (zg (jx h3) (zg (jx h5) (zd rfl))))
def QF (c:Ca):List Le:=
 if c.2.2.1=1 then c.2.2.2.2.map fun n=>(2,(c.1,(c.2.1,(n,(false,(zS,0))))))
 else if c.2.2.1=4 then c.2.2.2.2.map fun n=>(3,(c.1,(c.2.1,(n,(false,(zS,0)))))) else []
theorem zsK {s:Sig} {k id num:Int} {l:List Int} (hn:l.length≤1000000000) (m:Int) :
  qB (opt (qb (fun s1:((Le×(Sig×(Int×Unit)))×Unit)=>
   bif (zr (s1.1.2.2.1) (((l.length:Nat):Int))) then opt (atI l (s1.1.2.2.1)) fun x2=>
    opt (ql (s1.1.2.1) (((s1.1.1.1,(s1.1.1.2.1,(s1.1.1.2.2.1,(x2,s1.1.1.2.2.2.2)))),()))) fun x3=>
    some (.inr (((s1.1.1.1,(s1.1.1.2.1,(s1.1.1.2.2.1,(x2,s1.1.1.2.2.2.2)))),(x3.1,((wrF .i64 ((s1.1.2.2.1+1))),()))),()))
   else some (.inl (0,((s1.1.1,(s1.1.2.1,(s1.1.2.2.1,()))),())))) qw (((k,(id,(num,(m,(false,(zS,0)))))),(s,(0,()))),())) fun (x4:Nat×((Le×(Sig×(Int×Unit)))×Unit))=>
  some (x4.2.1.2.1,())) fun r=>r.1=snds s (l.map fun n=>(k,(id,(num,(n,(false,(zS,0))))))):=by
 refine zq (J:=fun x=>x.2.1.2.1=snds s (l.map fun n=>(k,(id,(num,(n,(false,(zS,0)))))))) (qG l.length (fun i st=>∃m,st=(((k,(id,(num,(m,(false,(zS,0)))))),(snds s ((l.take i).map fun n=>(k,(id,(num,(n,(false,(zS,0))))))),((i:Int),()))),())) (by omega) ⟨m,rfl⟩ ?_ ?_) ?_
 ·rintro i _ hi ⟨m,rfl⟩
  have hx:l[i]?=some l[i]:=List.getElem?_eq_getElem hi
  have ht:l.take (i+1)=l.take i++[l[i]]:=List.take_succ_eq_append_getElem hi
  generalize l[i]=v at hx ht
  refine zi (qD (show (i:Int) < ((l.length:Nat):Int) by omega)) (zn (qh (n:=i) hx ?_))
  simp only [zhe,zK]
  refine zd (ji ⟨v,?_⟩)
  rw [qX (by omega),ht,List.map_append,zk3]
  rfl
 ·rintro _ ⟨m,rfl⟩
  rw [List.take_length]
  exact zg (qm (show ¬((l.length:Nat):Int) < ((l.length:Nat):Int) by omega)) (zd (zE rfl))
 ·rintro ⟨j,⟨v,w,z,⟨⟩⟩,⟨⟩⟩ h
  exact zd h
theorem znV (s:Sig) {c:Ca} (hn:c.2.2.2.2.length≤1000000000):jk s (c,())=some (snds s (QF c),()):=by
 rw [zcK];unfold JN QF
 by_cases h1:c.2.2.1=1
 ·rw [if_pos h1]
  exact kV (zn (zi (yJ h1) (zd (zi rfl (zsK hn 0)))))
 rw [if_neg h1]
 by_cases h4:c.2.2.1=4
 ·rw [if_pos h4]
  exact kV (zn (zg (jx h1) (zi (yJ h4) (zd (zi rfl (zsK hn 0))))))
 rw [if_neg h4]
 exact kV (zn (zg (jx h1) (zg (jx h4) (zd (zg rfl (zd rfl))))))
def VH:qZ:=(4,((true::(false::(false::(true::[])))),((0,(1,(8,5)))::((1,(2,(8,5)))::((2,(3,(8,5)))::[])))))
def zBo:Gts:=(((127,100)::[]),100)
def Un:Fab:=(VH,((100,(2,(10,8000))),(List.replicate 6 zBo,200)))
theorem zGs:Xq ()=some (Un,()):=by
 rw [ztJ];unfold ziA
 refine kV (zq (J:=fun x=>x.2.2.1=(VH,((100,(2,(10,8000))),(List.replicate 6 zBo,(200,()))))) (qG 6 (fun i st=>st=(((),((i:Int),())),((VH,((100,(2,(10,8000))),(List.replicate i zBo,(200,())))),()))) (by omega) rfl ?_ ?_) ?_)
 ·rintro i _ hi rfl
  refine zi (qD (show (i:Int) < 6 by omega)) (zi (kW (by simp;omega) (by simp;omega)) (zd (ji ?_)))
  rw [qX (by omega),List.replicate_succ']
  rfl
 ·rintro _ rfl
  exact zg (qm (by simp)) (zd (zE rfl))
 ·rintro ⟨j,⟨⟨⟩,w,⟨⟩⟩,f,⟨⟩⟩ h
  simp only at h
  subst h
  exact zd rfl
theorem zyx:vT VH where
 sz:=⟨by decide,by decide,by decide,by decide⟩
 ls:=by
  intro i l h
  rcases (show i=0∨i=1∨i=2∨3≤i by omega) with rfl | rfl | rfl | h3
  ·cases h
   exact ⟨by unfold zqO kh;decide,fun k o hk=>by omega⟩
  ·cases h
   refine ⟨by unfold zqO kh;decide,fun k o hk ho=>?_⟩
   have:k=0:=by omega
   subst this
   cases ho
   unfold zcn;decide
  ·cases h
   refine ⟨by unfold zqO kh;decide,fun k o hk ho=>?_⟩
   rcases (show k=0∨k=1 by omega) with rfl | rfl<;>cases ho<;>unfold zcn<;>decide
  ·rw [List.getElem?_eq_none (by show 3≤i;exact h3)] at h;cases h
 re:=by
  intro n hn
  have hn:(n:Int) < 4:=hn
  rcases (show n=0∨n=1∨n=2∨n=3 by omega) with rfl | rfl | rfl | rfl<;>decide
 ct:=by
  intro n hn
  have hn:(n:Int) < 4:=hn
  rcases (show n=0∨n=1∨n=2∨n=3 by omega) with rfl | rfl | rfl | rfl<;>decide
theorem zzY:znN Un where
 t:=zyx
 u:=by unfold Gj;decide
 g
  :=by
  intro g hg
  have e:g=zBo:=List.eq_of_mem_replicate hg
  subst e
  exact ⟨by decide,by decide,fun e he=>by
   have:e=(127,100):=List.mem_singleton.1 he
   subst this
   unfold zct;decide,by decide,by decide⟩
 f:=by unfold zjM;decide
theorem zC3:xa Un []=0:=by
 refine znR.2 ⟨⟨zzY,fun s h=>(by cases h),by simp,fun i k a b _ h=>by simp at h,fun s h=>(by cases h)⟩,fun p hp=>?_,fun s h=>by cases h⟩
 have e:(wk Un [] p).2=4:=by
  unfold wk
  rw [zO (show load ([]:List qx) (p:Int)=[] from rfl)];rfl
 unfold Jx
 rw [e,zO rfl];rfl
theorem zup:Un.2.2.1.length≤1000000000000000000:=by decide
theorem zGt:QS (Un,())=some ((Un,([],([],([],([],[]))))),(0,())):=by
 rw [zh0];unfold zbY
 rw [VG zup,zHm zzY]
 rfl
def N4:List Int:=0::1::2::3::[]
def ziQ (x:qx):Prop:=x.2.2.2.2.2.2.2.2=[[0,2,4]]∨x.2.2.2.2.2.2.2.2=[[5,3,1]]
theorem zyy {p:Int} (h0:0≤p) (h1:p < 6):QM VH p:=⟨h0,h1⟩
theorem zGu:yZ VH [0,2,4] where
 n0:=by decide
 n1:=by decide
 pt:=by
  intro p hp
  simp at hp
  rcases hp with rfl | rfl | rfl<;>exact zyy (by decide) (by decide)
 st:=by
  intro i p h
  rcases (show i=0∨i=1∨i=2∨3≤i by omega) with rfl | rfl | rfl | h3
  ·cases h;unfold zh9;decide
  ·cases h;unfold zh9;decide
  ·cases h;unfold zh9;decide
  ·rw [List.getElem?_eq_none (by show 3≤i;exact h3)] at h;cases h
theorem zGv:yZ VH [5,3,1] where
 n0:=by decide
 n1:=by decide
 pt:=by
  intro p hp
  simp at hp
  rcases hp with rfl | rfl | rfl<;>exact zyy (by decide) (by decide)
 st:=by
  intro i p h
  rcases (show i=0∨i=1∨i=2∨3≤i by omega) with rfl | rfl | rfl | h3
  ·cases h;unfold zh9;decide
  ·cases h;unfold zh9;decide
  ·cases h;unfold zh9;decide
  ·rw [List.getElem?_eq_none (by show 3≤i;exact h3)] at h;cases h
theorem zGw {x:qx} (h:ziQ x):∃r,x.2.2.2.2.2.2.2.2=[r]∧yZ VH r∧(qi VH r=[0,1,2,3]∨qi VH r=[3,2,1,0]):=by
 rcases h with h | h
 ·exact ⟨_,h,zGu,.inl (by decide)⟩
 ·exact ⟨_,h,zGv,.inr (by decide)⟩
theorem zzd {r:List Int} (h:yZ VH r):xX (VH,(r,()))=some (qi VH r,(0,())):=by
 rw [zic zyx,zO h];rfl
theorem zHY {l m:List Int} (h:l.Perm m) (hl:l.Pairwise fun a b=>a≤b) (hm:m.Pairwise fun a b=>a≤b):l=m:=h.eq_of_pairwise (le:=fun a b=>a≤b) (fun a b _ _ h1 h2=>Int.le_antisymm h1 h2) hl hm
theorem zHv {l:List Int} (h:l=[0,1,2,3]∨l=[3,2,1,0]):Xn l=[0,1,2,3]:=by
 unfold Xn
 refine zHY ((List.mergeSort_perm _ _).trans (by rcases h with rfl | rfl<;>decide)) ?_ (by decide)
 have:=List.pairwise_mergeSort (le:=fun x y:Int=>decide (x≤y)) (fun a b c h1 h2=>by simp at *;omega) (fun a b=>by simp;omega) l
 exact this.imp (by simp)
theorem znW {s:Sig} (hs:s.1=Un) {x:qx} (hx:ziQ x):yy s (x,())=some (s,(N4,())):=by
 obtain ⟨r,hr,hp,hn⟩:=zGw hx
 rw [zeY];unfold Yo
 rw [hr]
 have hlen:(qi VH r).length=4:=by rcases hn with h | h<;>rw [h]<;>rfl
 refine xr (zq (J:=fun x4=>x4.2.1.1=s∧x4.2.2.1=qi VH r) (qG 1 (fun i st=>st=((s,((i:Int),())),((if i=0 then [] else qi VH r),()))) (by omega) rfl ?_ ?_) ?_)
 ·rintro i _ hi rfl
  have:i=0:=by omega
  subst this
  refine zi (qD (by simp)) (zn (qh (n:=0) (x:=r) rfl ?_))
  rw [show xX (((((s,(((0:Nat):Int),())),((if (0:Nat)=0 then [] else qi VH r),())):(Sig×(Int×Unit))×((List Int)×Unit)).1.1.1.1),(r,()))=some (qi VH r,(0,())) from by rw [hs];exact zzd hp,zK]
  refine zn (zi (yJ rfl) (zi (kW (by rw [hlen];simp) (by rw [hlen];simp)) (zd (zd (ji ?_)))))
  rw [qX (by omega)];rfl
 ·rintro _ rfl
  exact zg (qm (by simp)) (zd (zE ⟨rfl,rfl⟩))
 ·rintro ⟨j,⟨s',w,⟨⟩⟩,l,⟨⟩⟩ ⟨h1,h2⟩
  simp only at h1 h2
  subst h1 h2
  have e:Xn (qi VH r)=[0,1,2,3]:=zHv hn
  have q1:zqb (qi VH r)=true:=by unfold zqb;rw [hlen];rfl
  rw [e]
  exact zi q1 (zi rfl (zd rfl))
abbrev wOf (s:Sig) (id:Int):Wi:=lk wK (wis s) id (zW id)
abbrev cOf (s:Sig) (id:Int):Ca:=lk cK (cas s) id (zC id)
abbrev hOf (s:Sig) (n id:Int):He:=lk hK (hel s) (n*32+id) (zH n id)
def setW (s:Sig) (w:Wi):Sig:=upW s (ins wK w (wis s))
def setC (s:Sig) (c:Ca):Sig:=upC s (ins cK c (cas s))
def setH (s:Sig) (h:He):Sig:=upH s (ins hK h (hel s))
def idP (i:Int):Prop:=1≤i∧i≤24
def ndP (v:Int):Prop:=0≤v∧v≤3
structure Shp (s:Sig):Prop where
 fab:s.1=Un
 sW:Srt wK (wis s)
 sC:Srt cK (cas s)
 sH:Srt hK (hel s)
 bW:∀w∈wis s,idP w.1
 bC:∀c∈cas s,idP c.1∧c.2.2.2.2.length≤4
 bH:∀h∈hel s,ndP h.1∧idP h.2.1
 x:(wir s).length≤1024
theorem Shp.lW {s:Sig} (h:Shp s):(wis s).length≤24:=zum (a:=1) h.sW fun w hw=>by have:=h.bW w hw;unfold idP at this;show 1≤w.1∧w.1 < _;omega
theorem Shp.lC {s:Sig} (h:Shp s):(cas s).length≤24:=zum (a:=1) h.sC fun w hw=>by have:=(h.bC w hw).1;unfold idP at this;show 1≤w.1∧w.1 < _;omega
theorem Shp.lH {s:Sig} (h:Shp s):(hel s).length≤128:=zum (a:=0) h.sH fun w hw=>by have:=(h.bH w hw).1;have:=(h.bH w hw).2;unfold idP ndP at *;show 0≤w.1*32+w.2.1∧w.1*32+w.2.1 < _;omega
theorem zyz (s:Sig) (id:Int):(wOf s id).1=id:=by
 rcases za4 (κ:=wK) (wis s) id (zW id) with ⟨_,h⟩ | ⟨h,_⟩
 ·exact h
 ·rw [show wOf s id=zW id from h]
theorem znX (s:Sig) (id:Int):(cOf s id).1=id:=by
 rcases za4 (κ:=cK) (cas s) id (zC id) with ⟨_,h⟩ | ⟨h,_⟩
 ·exact h
 ·rw [show cOf s id=zC id from h]
theorem zFs {s:Sig} (h:Shp s) (id:Int):(cOf s id).2.2.2.2.length≤4:=by
 rcases za4 (κ:=cK) (cas s) id (zC id) with ⟨h1,_⟩ | ⟨h1,_⟩
 ·exact (h.bC _ h1).2
 ·rw [show cOf s id=zC id from h1];simp
theorem zHw {s:Sig} (hs:Shp s) {n id:Int} (hi:idP id):(hOf s n id).1=n∧(hOf s n id).2.1=id:=by
 rcases za4 (κ:=hK) (hel s) (n*32+id) (zH n id) with ⟨h1,h⟩ | ⟨h,_⟩
 ·have:=(hs.bH _ h1).2
  unfold idP at *
  have h:(hOf s n id).1*32+(hOf s n id).2.1=n*32+id:=h
  have h':1≤(hOf s n id).2.1∧(hOf s n id).2.1≤24:=this
  omega
 ·rw [show hOf s n id=zH n id from h];exact ⟨rfl,rfl⟩
theorem KT {s:Sig} (h:Shp s) (c:Ca) (j:Int):cOf (setC s c) j=if j=c.1 then c else cOf s j:=zyv h.sC c j _
theorem zyA {s:Sig} (h:Shp s) (w:Wi) (j:Int):wOf (setW s w) j=if j=w.1 then w else wOf s j:=zyv h.sW w j _
theorem zHx {s:Sig} (hs:Shp s) (h:He) (v j:Int) (hj:idP j) (hi:idP h.2.1):hOf (setH s h) v j=if v=h.1∧j=h.2.1 then h else hOf s v j:=by
 have e:hOf (setH s h) v j=if v*32+j=hK h then h else hOf s v j:=zyv hs.sH h _ _
 rw [e]
 unfold idP at *
 by_cases hq:v=h.1∧j=h.2.1
 ·rw [if_pos hq,if_pos (by rw [hq.1,hq.2])]
 ·rw [if_neg hq,if_neg (fun e=>hq (by have e:v*32+j=h.1*32+h.2.1:=e;omega))]
theorem Shp.snds {s:Sig} (h:Shp s) (ls:List Le):Shp (snds s ls):=⟨h.fab,h.sW,h.sC,h.sH,h.bW,h.bC,h.bH,zyw ls h.x⟩
theorem Shp.setC {s:Sig} (h:Shp s) {c:Ca} (hc:idP c.1∧c.2.2.2.2.length≤4):Shp (setC s c):=⟨h.fab,h.sW,zjQ h.sC,h.sH,h.bW,fun d hd=>by
 rcases zf7.1 hd with rfl | ⟨hd,_⟩
 ·exact hc
 ·exact h.bC d hd,h.bH,h.x⟩
theorem Shp.setW {s:Sig} (h:Shp s) {w:Wi} (hw:idP w.1):Shp (setW s w):=⟨h.fab,zjQ h.sW,h.sC,h.sH,fun d hd=>by
 rcases zf7.1 hd with rfl | ⟨hd,_⟩
 ·exact hw
 ·exact h.bW d hd,h.bC,h.bH,h.x⟩
theorem Shp.setH {s:Sig} (h:Shp s) {a:He} (ha:ndP a.1∧idP a.2.1):Shp (setH s a):=⟨h.fab,h.sW,h.sC,zjQ h.sH,h.bW,h.bC,fun d hd=>by
 rcases zf7.1 hd with rfl | ⟨hd,_⟩
 ·exact ha
 ·exact h.bH d hd,h.x⟩
theorem Shp.upL {s:Sig} (h:Shp s) (l:List qx):Shp (upL s l):=⟨h.fab,h.sW,h.sC,h.sH,h.bW,h.bC,h.bH,h.x⟩
theorem Shp.upX {s:Sig} (h:Shp s) {x:List Le} (hx:x.length≤1024):Shp (upX s x):=⟨h.fab,h.sW,h.sC,h.sH,h.bW,h.bC,h.bH,hx⟩
structure Gd (k id:Int) (w:Wi) (c:Ca) (h:Int→He) (L:List qx):Prop where
 n0:0≤w.2.1∧w.2.1≤k
 z:w.2.1=0→w.2.2.1=0∧c.2.1=0
 st:1≤w.2.1→(1≤w.2.2.1∧w.2.2.1≤5)∧w.2.2.2.1.1=id∧ziQ w.2.2.2.1
 c0:0≤c.2.1∧(c.2.1=w.2.1∨c.2.1+1=w.2.1)
 cz:c.2.1=0→c.2.2.1=0∧(1≤w.2.1→w.2.2.1=1)
 cw:1≤c.2.1→c.2.1=w.2.1→(c.2.2.1=1∧w.2.2.1=1)∨(c.2.2.1=2∧(w.2.2.1=1∨w.2.2.1=2))∨(c.2.2.1=3∧(w.2.2.1=1∨w.2.2.1=3))∨(c.2.2.1=4∧w.2.2.1=4)∨(c.2.2.1=5∧(w.2.2.1=4∨w.2.2.1=5))
 cl:1≤c.2.1→c.2.1 < w.2.1→(w.2.2.1=1∧(c.2.2.1=3∨c.2.2.1=5))∨(w.2.2.1=4∧c.2.2.1=2)
 lg:∀x∈L,x.1=id→x=w.2.2.2.1∧(c.2.2.1=1∨c.2.2.1=2∨c.2.2.1=4)
 lc:(c.2.2.1=1∨c.2.2.1=2∨c.2.2.1=4)→∃x∈L,x.1=id
 hn:∀v,ndP v→0≤(h v).2.2.1∧(h v).2.2.1≤c.2.1
 he:∀v,ndP v→1≤c.2.1→(h v).2.2.1=c.2.1→((h v).2.2.2=true∧(c.2.2.1=1∨c.2.2.1=2))∨((h v).2.2.2=false∧(c.2.2.1=4∨c.2.2.1=5))
 ho:∀v,ndP v→(h v).2.2.2=true→(c.2.2.1=1∨c.2.2.1=2∨c.2.2.1=4)
 wn:c.2.2.1=1∨c.2.2.1=4→c.2.2.2.2≠[]
 wz:c.2.2.1≠1→c.2.2.1≠4→c.2.2.2.2=[]
 wr:∀v∈c.2.2.2.2,ndP v
 wd:c.2.2.2.2.Nodup
 wh:(c.2.2.1=1∨c.2.2.1=2∨c.2.2.1=4)→∀v,ndP v→v∈c.2.2.2.2∨(h v).2.2.1=c.2.1
def LOk (w:Wi) (c:Ca) (h:Int→He) (l:Le):Prop:=
 (l.1=1∧1≤l.2.2.1∧l.2.2.1≤w.2.1∧(l.2.2.1=w.2.1→(l.2.2.2.2.1=true∧(w.2.2.1=1∨w.2.2.1=2∨w.2.2.1=3)∧l.2.2.2.2.2.1=w.2.2.2.1)∨(l.2.2.2.2.1=false∧(w.2.2.1=4∨w.2.2.1=5))))∨
 (l.1=2∧ndP l.2.2.2.1∧1≤l.2.2.1∧l.2.2.1≤c.2.1∧((l.2.2.1=c.2.1∧(c.2.2.1=1∨c.2.2.1=2))∨(l.2.2.1 < c.2.1∧c.2.2.1=4)∨l.2.2.1 < (h l.2.2.2.1).2.2.1))∨
 (l.1=3∧ndP l.2.2.2.1∧1≤l.2.2.1∧l.2.2.1≤c.2.1∧(l.2.2.1=c.2.1→c.2.2.1=4∨c.2.2.1=5))∨
 (l.1=4∧ndP l.2.2.2.1∧1≤l.2.2.1∧l.2.2.1≤(h l.2.2.2.1).2.2.1)∨
 (l.1=5∧1≤l.2.2.1∧l.2.2.1≤c.2.1∧(l.2.2.1=c.2.1→c.2.2.1=2))∨
 (l.1=6∧1≤l.2.2.1∧l.2.2.1≤c.2.1∧(l.2.2.1=c.2.1→c.2.2.1=3))∨
 (l.1=7∧1≤l.2.2.1∧l.2.2.1≤c.2.1∧(l.2.2.1=c.2.1→c.2.2.1=5))
abbrev zcx (s:Sig) (l:Le):Prop:=idP l.2.1∧LOk (wOf s l.2.1) (cOf s l.2.1) (fun v=>hOf s v l.2.1) l
structure Iv (k:Int) (s:Sig):Prop where
 sh:Shp s
 hold:xa s.1 (led s)=0
 lr:∀x∈led s,idP x.1∧ziQ x
 g:∀id,idP id→Gd k id (wOf s id) (cOf s id) (fun v=>hOf s v id) (led s)
 l:∀l∈wir s,zcx s l
theorem Gd.led {k id:Int} {w:Wi} {c:Ca} {h:Int→He} {L M:List qx} (g:Gd k id w c h L) (e:∀x,x.1=id→(x∈M↔x∈L)):Gd k id w c h M:=
 {
  g with
  lg:=fun x hx hi=>g.lg x ((e x hi).1 hx) hi
  lc:=fun hc=>by obtain ⟨x,hx,hi⟩:=g.lc hc;exact ⟨x,(e x hi).2 hx,hi⟩}
theorem Gd.mono {k k' id:Int} {w:Wi} {c:Ca} {h:Int→He} {L:List qx} (g:Gd k id w c h L) (e:k≤k'):Gd k' id w c h L:={g with n0:=⟨g.n0.1,by have:=g.n0.2;omega⟩}
theorem zBp {k k':Int} {s s':Sig} (iv:Iv k s) (id:Int) (hid:idP id) (hk:k≤k') (sh:Shp s') (hold:xa s'.1 (led s')=0) (lr:∀x∈led s',x∈led s∨(x.1=id∧ziQ x))
  (same:∀j,idP j→j≠id→wOf s' j=wOf s j∧cOf s' j=cOf s j∧∀v,hOf s' v j=hOf s v j) (ls:∀x,x.1≠id→(x∈led s'↔x∈led s))
  (g:Gd k' id (wOf s' id) (cOf s' id) (fun v=>hOf s' v id) (led s'))
  (keep:∀l,l.2.1=id→LOk (wOf s id) (cOf s id) (fun v=>hOf s v id) l→LOk (wOf s' id) (cOf s' id) (fun v=>hOf s' v id) l)
  (new:∀l∈wir s',l∈wir s∨(l.2.1=id∧LOk (wOf s' id) (cOf s' id) (fun v=>hOf s' v id) l)):Iv k' s' where
 sh:=sh
 hold:=hold
 lr:=fun x hx=>by
  rcases lr x hx with h | ⟨rfl,h⟩
  ·exact iv.lr x h
  ·exact ⟨hid,h⟩
 g
  :=fun j hj=>by
  by_cases e:j=id
  ·subst e;exact g
  ·obtain ⟨e1,e2,e3⟩:=same j hj e
   rw [e1,e2,show (fun v=>hOf s' v j)=fun v=>hOf s v j from funext e3]
   exact ((iv.g j hj).mono hk).led fun x hx=>ls x (by rw [hx];exact e)
 l
  :=fun l hl=>by
  rcases new l hl with h | ⟨rfl,h⟩
  ·have hl:=iv.l l h
   by_cases e:l.2.1=id
   ·subst e;exact ⟨hl.1,keep l rfl hl.2⟩
   ·obtain ⟨e1,e2,e3⟩:=same l.2.1 hl.1 e
    refine ⟨hl.1,?_⟩
    rw [e1,e2,show (fun v=>hOf s' v l.2.1)=fun v=>hOf s v l.2.1 from funext e3]
    exact hl.2
  ·exact ⟨hid,h⟩
theorem Iv.less {k:Int} {s:Sig} (iv:Iv k s) {x:List Le} (hx:x.length≤1024) (hm:∀l∈x,l∈wir s):Iv k (upX s x):=⟨iv.sh.upX hx,iv.hold,iv.lr,iv.g,fun l hl=>iv.l l (hm l hl)⟩
theorem Iv.send {k:Int} {s:Sig} (iv:Iv k s) (ls:List Le) (h:∀l∈ls,zcx s l):Iv k (snds s ls):=⟨iv.sh.snds ls,iv.hold,iv.lr,iv.g,fun l hl=>by
 rcases zk2 ls hl with h2 | h2
 ·exact iv.l l h2
 ·exact h l h2⟩
inductive Xx (s:Sig) (l:Le):Sig→Prop
 |old (h:l.2.2.1 < (cOf s l.2.1).2.1):Xx s l s
 |same (h:l.2.2.1=(cOf s l.2.1).2.1):Xx s l (snds s (xT (cOf s l.2.1)))
 |fail (h:(cOf s l.2.1).2.1 < l.2.2.1) (hw:l.2.2.2.2.1=true) (e:Int) (he:e≠0) (ha:(JU s.1 (led s) l.2.2.2.2.2.1).2=e) :
   Xx s l (snds (setC s (l.2.1,(l.2.2.1,(3,(e,[]))))) (xT (l.2.1,(l.2.2.1,(3,(e,[]))))))
 |put (h:(cOf s l.2.1).2.1 < l.2.2.1) (hw:l.2.2.2.2.1=true) (ha:JU s.1 (led s) l.2.2.2.2.2.1=(led s++[l.2.2.2.2.2.1],0)) (hh:xa s.1 (led s++[l.2.2.2.2.2.1])=0) :
   Xx s l (snds (setC (upL s (led s++[l.2.2.2.2.2.1])) (l.2.1,(l.2.2.1,(1,(0,N4))))) (QF (l.2.1,(l.2.2.1,(1,(0,N4))))))
 |gone (h:(cOf s l.2.1).2.1 < l.2.2.1) (hw:l.2.2.2.2.1=false) (hx:∀x∈led s,x.1≠l.2.1) :
   Xx s l (snds (setC s (l.2.1,(l.2.2.1,(5,(0,[]))))) (xT (l.2.1,(l.2.2.1,(5,(0,[]))))))
 |drop (h:(cOf s l.2.1).2.1 < l.2.2.1) (hw:l.2.2.2.2.1=false) (x:qx) (hx:x∈led s) (hi:x.1=l.2.1) :
   Xx s l (snds (setC s (l.2.1,(l.2.2.1,(4,(0,N4))))) (QF (l.2.1,(l.2.2.1,(4,(0,N4))))))
inductive zuq (s:Sig) (l:Le):Sig→Prop
 |old (h:l.2.2.1 < (hOf s l.2.2.2.1 l.2.1).2.2.1):zuq s l s
 |new (h:(hOf s l.2.2.2.1 l.2.1).2.2.1≤l.2.2.1):zuq s l (snds (setH s (l.2.2.2.1,(l.2.1,(l.2.2.1,decide (l.1=2))))) [(4,(l.2.1,(l.2.2.1,(l.2.2.2.1,(false,(zS,0))))))])
inductive XN (s:Sig) (l:Le):Sig→Prop
 |old (h:(cOf s l.2.1).2.1≠l.2.2.1∨((cOf s l.2.1).2.2.1≠1∧(cOf s l.2.1).2.2.1≠4)):XN s l s
 |wait (h:(cOf s l.2.1).2.1=l.2.2.1) (hs:(cOf s l.2.1).2.2.1=1∨(cOf s l.2.1).2.2.1=4) (hw:(cOf s l.2.1).2.2.2.2.erase l.2.2.2.1≠[]) :
   XN s l (setC s (l.2.1,(l.2.2.1,((cOf s l.2.1).2.2.1,((cOf s l.2.1).2.2.2.1,(cOf s l.2.1).2.2.2.2.erase l.2.2.2.1)))))
 |ready (h:(cOf s l.2.1).2.1=l.2.2.1) (hs:(cOf s l.2.1).2.2.1=1) (hw:(cOf s l.2.1).2.2.2.2.erase l.2.2.2.1=[]) :
   XN s l (snds (setC s (l.2.1,(l.2.2.1,(2,((cOf s l.2.1).2.2.2.1,[]))))) (xT (l.2.1,(l.2.2.1,(2,((cOf s l.2.1).2.2.2.1,[]))))))
 |gone (h:(cOf s l.2.1).2.1=l.2.2.1) (hs:(cOf s l.2.1).2.2.1=4) (hw:(cOf s l.2.1).2.2.2.2.erase l.2.2.2.1=[]) (M:List qx) (hM:M.Sublist (led s)) (hm:∀x,x∈M↔x∈led s∧x.1≠l.2.1) :
   XN s l (snds (setC (upL s M) (l.2.1,(l.2.2.1,(5,((cOf s l.2.1).2.2.2.1,[]))))) (xT (l.2.1,(l.2.2.1,(5,((cOf s l.2.1).2.2.2.1,[]))))))
inductive Uo (s:Sig) (l:Le):Sig→Prop
 |old (h:(wOf s l.2.1).2.1≠l.2.2.1∨¬(((wOf s l.2.1).2.2.1=1∧(l.1=5∨l.1=6))∨((wOf s l.2.1).2.2.1=4∧l.1=7))):Uo s l s
 |ready (h:(wOf s l.2.1).2.1=l.2.2.1) (hs:(wOf s l.2.1).2.2.1=1) (hk:l.1=5):Uo s l (setW s (l.2.1,((wOf s l.2.1).2.1,(2,(wOf s l.2.1).2.2.2))))
 |fail (h:(wOf s l.2.1).2.1=l.2.2.1) (hs:(wOf s l.2.1).2.2.1=1) (hk:l.1=6):Uo s l (setW s (l.2.1,((wOf s l.2.1).2.1,(3,((wOf s l.2.1).2.2.2.1,l.2.2.2.2.2.2)))))
 |gone (h:(wOf s l.2.1).2.1=l.2.2.1) (hs:(wOf s l.2.1).2.2.1=4) (hk:l.1=7):Uo s l (setW s (l.2.1,((wOf s l.2.1).2.1,(5,(wOf s l.2.1).2.2.2))))
theorem zze (n:Fab) (l:List qx) (x:qx):(JU n l x=(l++[x],0)∧xa n (l++[x])=0)∨((JU n l x).2≠0∧(JU n l x).1=[]):=by
 unfold JU
 by_cases h1:xa n l=0
 ·rw [zO h1,cond_true]
  by_cases h2:Ud n.1 x
  ·rw [zO h2,cond_true]
   by_cases h3:xa n (l++[x])=0
   ·rw [zO h3,cond_true];exact .inl ⟨rfl,h3⟩
   ·rw [qo h3,cond_false];exact .inr ⟨h3,rfl⟩
  ·rw [qo h2,cond_false];exact .inr ⟨by decide,rfl⟩
 ·rw [qo h1,cond_false];exact .inr ⟨h1,rfl⟩
theorem zC4 {s:Sig} (sh:Shp s) (lr:∀x∈led s,ziQ x) {l:Le} (hid:idP l.2.1) (hl:(cOf s l.2.1).2.1 < l.2.2.1→l.2.2.2.2.1=true→ziQ l.2.2.2.2.2.1) (hn:(led s).length≤1000000000000000000):qB (vH s (l,())) fun r=>Xx s l r.1:=by
 obtain ⟨i,c,b,e,hf⟩:=KS sh.sC (by have:=sh.lC;omega) l.2.1
 obtain ⟨hc,hb⟩:=zk1 sh.sC hf
 have hc:c=cOf s l.2.1:=hc
 have hfab:s.1.2.2.1.length≤1000000000000000000:=by rw [sh.fab];exact zup
 rw [ze1];unfold Yp
 rw [e,zK]
 refine zt (fun h=>?_) (fun h=>?_)
 ·have h:¬c.2.1 < l.2.2.1:=by have:=wA (show zr c.2.1 l.2.2.1=false by simpa using h);omega
  refine zq (J:=fun x=>Xx s l x.2.1.1) ?_ ?_
  ·refine zt (fun h2=>?_) (fun h2=>?_)
   ·have h2:l.2.2.1=c.2.1:=jJ h2
    rw [zk4,zK]
    refine zd ?_
    show Xx s l (snds s (xT c))
    rw [hc]
    exact .same (by rw [←hc];exact h2)
   ·have h2:l.2.2.1≠c.2.1:=wH h2
    exact zd (.old (by rw [←hc];omega))
  ·rintro ⟨j,⟨v,⟨⟩⟩,⟨⟩⟩ hv
   exact zd hv
 have h:c.2.1 < l.2.2.1:=yn (by simpa using h)
 have h':(cOf s l.2.1).2.1 < l.2.2.1:=by rw [←hc];exact h
 have tail:∀(q:Sig) (d:Ca),q.2.2.2.1=cas s→d.1=l.2.1→d.2.2.2.2.length≤1000000000→Xx s l (snds (setC q d) (xT d++QF d))→
   qB (opt (jS ((q.2.2.2.1,(i,(b,(d,())))))) fun x11=>
    opt (jh ((q.1,(q.2.1,(q.2.2.1,(x11.1,q.2.2.2.2))))) ((d,()))) fun x12=>
    opt (jk (x12.1) ((d,()))) fun x13=>
    some (x13.1,())) fun r=>Xx s l r.1:=by
  intro q d hq hd hw hh
  rw [hq,GQ sh.sC (by have:=sh.lC;omega) hf hd,zK]
  rw [zk4,zK,znV _ hw,zK]
  refine zd ?_
  rw [zk3] at hh
  unfold setC at hh
  rw [show cas q=cas s from hq] at hh
  exact hh
 cases hw:l.2.2.2.2.1 with
 |true=>
  refine zq (J:=fun x=>∃d:Ca,d.1=l.2.1∧d.2.2.2.2.length≤1000000000∧x.2.1.2.2.1=d∧(x.2.1.2.1).2.2.2.1=cas s∧Xx s l (snds (setC x.2.1.2.1 d) (xT d++QF d))) ?_ ?_
  ·refine zi rfl ?_
   rw [zsI hfab,zK]
   refine zq (J:=fun x=>∃d:Ca,d.1=l.2.1∧d.2.2.2.2.length≤1000000000∧x.2.1.2.2.1=d∧(x.2.1.1).2.2.2.1=cas s∧Xx s l (snds (setC x.2.1.1 d) (xT d++QF d))) ?_ ?_
   ·rcases zze s.1 (led s) l.2.2.2.2.2.1 with ⟨ha,hh⟩ | ⟨ha,_⟩
    ·rw [ha]
     refine zg rfl ?_
     have hnodes:yy (upL s (led s++[l.2.2.2.2.2.1])) (l.2.2.2.2.2.1,())=some (upL s (led s++[l.2.2.2.2.2.1]),(N4,())):=znW (s:=upL s (led s++[l.2.2.2.2.2.1])) (x:=l.2.2.2.2.2.1) sh.fab (hl h' hw)
     refine zn (qF hnodes (zd ⟨_,rfl,?_,rfl,rfl,Xx.put h' hw ha hh⟩))
     show N4.length≤_
     decide
    ·refine zi (by rw [jx ha];rfl) (zd ⟨_,rfl,?_,rfl,rfl,Xx.fail h' hw _ ha rfl⟩)
     show ([]:List Int).length≤_
     decide
   ·rintro ⟨j,⟨q,a,d,⟨⟩⟩,⟨⟩⟩ ⟨d',h1,h2,h3,h4,h5⟩
    exact zd ⟨d',h1,h2,h3,h4,h5⟩
  ·rintro ⟨j,⟨a,q,d,⟨⟩⟩,⟨⟩⟩ ⟨d',h1,h2,rfl,h4,h5⟩
   exact tail q _ h4 h1 h2 h5
 |false=>
  refine zq (J:=fun x=>∃d:Ca,d.1=l.2.1∧d.2.2.2.2.length≤1000000000∧x.2.1.2.2.1=d∧(x.2.1.2.1).2.2.2.1=cas s∧Xx s l (snds (setC x.2.1.2.1 d) (xT d++QF d))) ?_ ?_
  ·refine zg rfl ?_
   obtain ⟨i1,i3⟩:=zyq hn l.2.1
   rw [i1,zK]
   refine zq (J:=fun x=>∃d:Ca,d.1=l.2.1∧d.2.2.2.2.length≤1000000000∧x.2.1.2.1=d∧(x.2.1.1).2.2.2.1=cas s∧Xx s l (snds (setC x.2.1.1 d) (xT d++QF d))) ?_ ?_
   ·rcases i3 with ⟨e0,k,x,ei,hx,hxi,_⟩ | ⟨e4,_,hno⟩
    ·rw [e0,ei]
     refine zg rfl (zn (qh (n:=k) hx ?_))
     rw [znW sh.fab (lr x (QN hx)),zK]
     refine zd ⟨_,rfl,?_,rfl,rfl,Xx.drop h' hw x (QN hx) hxi⟩
     show N4.length≤_
     decide
    ·rw [e4]
     refine zi rfl (zd ⟨_,rfl,?_,rfl,rfl,Xx.gone h' hw hno⟩)
     show ([]:List Int).length≤_
     decide
   ·rintro ⟨j,⟨q,d,⟨⟩⟩,⟨⟩⟩ ⟨d',h1,h2,h3,h4,h5⟩
    exact zd ⟨d',h1,h2,h3,h4,h5⟩
  ·rintro ⟨j,⟨a,q,d,⟨⟩⟩,⟨⟩⟩ ⟨d',h1,h2,rfl,h4,h5⟩
   exact tail q _ h4 h1 h2 h5
theorem Shp.hr {s:Sig} (sh:Shp s):∀a∈hel s,1≤a.2.1∧a.2.1≤24:=fun a ha=>(sh.bH a ha).2
theorem zC5 {s:Sig} (sh:Shp s) {l:Le} (hid:idP l.2.1):qB (jY s (l,())) fun r=>zuq s l r.1:=by
 obtain ⟨i,c,b,e,hf⟩:=ze8 (n:=l.2.2.2.1) sh.sH (by have:=sh.lH;omega) sh.hr hid
 obtain ⟨hc,hb⟩:=zk1 sh.sH hf
 have hc:c=hOf s l.2.2.2.1 l.2.1:=hc
 have hi:=zHw sh (n:=l.2.2.2.1) hid
 rw [←hc] at hi
 rw [zad];unfold gK
 rw [e,zK]
 refine zt (fun h=>?_) (fun h=>?_)
 ·have h:l.2.2.1 < c.2.2.1:=yn h
  exact zd (.old (by rw [←hc];exact h))
 ·have h:c.2.2.1≤l.2.2.1:=wA h
  have hk:hK (c.1,(c.2.1,(l.2.2.1,zj l.1 2)))=l.2.2.2.1*32+l.2.1:=by show c.1*32+c.2.1=_;rw [hi.1,hi.2]
  rw [show vo (((s,(i,(c,(b,())))):Sig×(Int×(He×(Bool×Unit)))).1.2.2.2.2.1,(i,(b,((c.1,(c.2.1,(l.2.2.1,zj l.1 2))),()))))=_ from zhB sh.sH (by have:=sh.lH;omega) hf hk,zK,zhe,zK]
  refine zd ?_
  have e2:(c.1,(c.2.1,(l.2.2.1,zj l.1 2)))=((l.2.2.2.1,(l.2.1,(l.2.2.1,decide (l.1=2)))):He):=by
   rw [hi.1,hi.2,wo];rfl
  rw [e2]
  exact zuq.new (by rw [←hc];exact h)
theorem zGx {l:List Int} (hn:l.length≤1000000000000000000) (b:Int):qB (qI (l,b,())) fun r=>(∃i:Nat,r.1=(i:Int)∧l[i]?=some b∧∀j,j < i→l[j]?≠some b)∨(r.1 = -1∧¬b∈l):=by
 rw [Kb];unfold gW
 refine zq (J:=fun x=>(x.1=0∧∀j,j < l.length→l[j]?≠some b)∨(x.1=1∧∃i:Nat,x.2.1.1=(i:Int)∧l[i]?=some b∧∀j,j < i→l[j]?≠some b))
  (qG l.length (fun i s=>s=((0,((i:Int),())),())∧∀j,j < i→l[j]?≠some b) (zya hn) ⟨rfl,fun j hj=>by omega⟩ ?_ ?_) ?_
 ·rintro i _ hi ⟨rfl,hp⟩
  have hx:l[i]?=some l[i]:=List.getElem?_eq_getElem hi
  generalize l[i]=s at hx
  refine zi (qD (show (i:Int) < (l.length:Int) by omega)) (zn (qh (n:=i) hx ?_))
  refine zt (fun h=>?_) (fun h=>?_)
  ·have h:b=s:=jJ h
   subst h
   exact zd (zE (.inr ⟨rfl,i,rfl,hx,hp⟩))
  ·have h:b≠s:=wH h
   refine zd (ji ⟨congrArg (fun z=>(((0:Int),(z,())),())) (qX (by omega)),fun j hj hb=>?_⟩)
   rcases Nat.lt_or_ge j i with hji | hji
   ·exact hp j hji hb
   ·have:j=i:=by omega
    subst this
    rw [hx] at hb
    exact h (Option.some.inj hb).symm
 ·rintro _ ⟨rfl,hp⟩
  exact zg (qm (show ¬(l.length:Int) < (l.length:Int) by omega)) (zd (zE (.inl ⟨rfl,hp⟩)))
 ·rintro ⟨j,⟨v,w,⟨⟩⟩,⟨⟩⟩ (⟨rfl,hq⟩ | ⟨rfl,hq⟩)
  ·refine zi rfl (zd (.inr ⟨rfl,fun hb=>?_⟩))
   obtain ⟨k,hk,e⟩:=List.mem_iff_getElem.1 hb
   exact hq k hk (by rw [List.getElem?_eq_getElem hk,e])
  ·exact zg rfl (zd (.inl hq))
theorem zyB:∀(l:List Int) (i:Nat) (b:Int),l[i]?=some b→(∀j,j < i→l[j]?≠some b)→l.take i++l.drop (i+1)=l.erase b
 |[],i,b,h,_=>by simp at h
 |a::l,0,b,h,_=>by
  simp at h;subst h
  simp
 |a::l,i+1,b,h,h2=>by
  have hne:a≠b:=fun e=>h2 0 (by omega) (by simp [e])
  rw [List.erase_cons_tail (by simpa using hne)]
  have:=zyB l i b (by simpa using h) (fun j hj=>by have:=h2 (j+1) (by omega);simpa using this)
  simp only [List.take_succ_cons,List.drop_succ_cons,List.cons_append]
  rw [this]
theorem zHy {l:List Int} {i:Nat} (hi:i < l.length) (hn:l.length≤1000000000):vN (l,((i:Int),()))=some (l.take i++l.drop (i+1),()):=by
 rw [zhz];unfold Kz
 rw [zkW l i (by omega),zK,show wrF .i64 ((i:Int)+1)=((i+1:Nat):Int) from qX (by omega),zex l (i+1) (by omega),zK]
 exact xr (zi (kW (by simp;omega) (by simp;omega)) (zd rfl))
theorem zGy {l:List Le} {i:Nat} (hi:i < l.length) (hn:l.length≤1000000000):yc (l,((i:Int),()))=some (l.take i++l.drop (i+1),()):=by
 rw [zb2];unfold QT
 rw [zkW l i (by omega),zK,show wrF .i64 ((i:Int)+1)=((i+1:Nat):Int) from qX (by omega),zex l (i+1) (by omega),zK]
 exact xr (zi (kW (by simp;omega) (by simp;omega)) (zd rfl))
theorem zyC {q:Ca} (hq:q.2.2.2.2.length≤4) (v:Int):qB (opt (qI ((q.2.2.2.2,(v,())))) fun x1=>
   opt
     (bif (!(zr (x1.1) (0))) then opt (vN ((q.2.2.2.2,(x1.1,())))) fun x2=>
     some (0,(((q.1,(q.2.1,(q.2.2.1,(q.2.2.2.1,x2.1)))),()),()))
    else some (0,((q,()),()))) fun (x3:Nat×((Ca×Unit)×Unit))=>some x3.2.1.1) fun r=>r=(q.1,(q.2.1,(q.2.2.1,(q.2.2.2.1,q.2.2.2.2.erase v)))):=by
 refine zq (zGx (by omega) v) ?_
 rintro ⟨i,⟨⟩⟩ (⟨k,hk,hx,hp⟩ | ⟨hk,hn⟩)
 ·simp only at hk
  subst hk
  have hlt:k < q.2.2.2.2.length:=by
   rcases Nat.lt_or_ge k q.2.2.2.2.length with h | h
   ·exact h
   ·rw [List.getElem?_eq_none h] at hx;cases hx
  refine zn (zi (show (!zr (k:Int) 0)=true by rw [qm (by omega)];rfl) ?_)
  rw [zHy hlt (by omega),zK]
  refine zd (zd ?_)
  rw [zyB _ _ _ hx hp]
 ·simp only at hk
  subst hk
  refine zn (zg rfl (zd (zd ?_)))
  rw [List.erase_of_not_mem hn]
theorem zC6 {n:Fab} {l:List qx} (h:xa n l=0) {id:Int} (hx:∃x∈l,x.1=id):∃M,zdE n l id=(M,0)∧M.Sublist l∧∀x,x∈M↔x∈l∧x.1≠id:=by
 have ok:=zhc h
 obtain ⟨_,i3⟩:=zyq (l:=l) (by have:=ok.n12;omega) id
 rcases i3 with ⟨e0,k,y,ek,hk,hy,_⟩ | ⟨_,_,hno⟩
 rotate_left
 ·obtain ⟨x,hm,hi⟩:=hx
  exact absurd hi (hno x hm)
 refine ⟨l.eraseIdx k,?_,List.eraseIdx_sublist _ _,fun x=>?_⟩
 ·unfold zdE
  rw [zO h,cond_true,e0,zO rfl,cond_true,ek,Int.toNat_natCast,List.eraseIdx_eq_take_drop_succ]
 ·rw [List.mem_eraseIdx_iff_getElem?]
  constructor
  ·rintro ⟨j,hj,e⟩
   refine ⟨QN e,fun hi=>?_⟩
   rcases Nat.lt_or_gt_of_ne hj with h1 | h1
   ·exact ok.d k j y x h1 hk e (by rw [hi,hy])
   ·exact ok.d j k x y h1 e hk (by rw [hi,hy])
  ·rintro ⟨hm,hne⟩
   obtain ⟨j,hj,e⟩:=List.mem_iff_getElem.1 hm
   have hx2:l[j]?=some x:=by rw [List.getElem?_eq_getElem hj,e]
   refine ⟨j,fun e2=>?_,hx2⟩
   subst e2
   rw [hx2] at hk
   cases hk
   exact hne hy
theorem zpF {s:Sig} (sh:Shp s) {l:Le} (hid:idP l.2.1) (hold:xa s.1 (led s)=0) {i:Int} {c:Ca} {b:Bool} (hf:Fnd (κ:=cK) (cas s) l.2.1 (zC l.2.1) i c b) (hc:c=cOf s l.2.1) (hn:c.2.1=l.2.2.1) (hst:c.2.2.1=1∨c.2.2.1=4) (hlc:c.2.2.1=4→∃x∈led s,x.1=l.2.1) (hw:c.2.2.2.2.length≤4)
  {d:Ca} (hd:d=(c.1,(c.2.1,(c.2.2.1,(c.2.2.2.1,c.2.2.2.2.erase l.2.2.2.1))))) :
  qB (opt (bif (zj ((((d.2.2.2.2).length:Nat):Int)) (0)) then opt (bif (zj (d.2.2.1) (1)) then some (0,(((d.1,(d.2.1,(2,d.2.2.2))),(s,())),()))
        else opt (gZ ((s.1,(s.2.1,(d.1,()))))) fun x4=>
         opt (bif (zj (x4.2.1) (0)) then some (0,(((s.1,(x4.1,s.2.2)),()),()))
          else some (0,((s,()),()))) fun (x5:Nat×((Sig×Unit)×Unit))=>
         some (0,(((d.1,(d.2.1,(5,d.2.2.2))),(x5.2.1.1,())),()))) fun (x6:Nat×((Ca×(Sig×Unit))×Unit))=>
       some (0,((x6.2.1.1,(x6.2.1.2.1,())),()))
      else some (0,((d,(s,())),()))) fun (x7:Nat×((Ca×(Sig×Unit))×Unit))=>
     opt (jS ((x7.2.1.2.1.2.2.2.1,(i,(true,(x7.2.1.1,())))))) fun x8=>
     opt (jh ((x7.2.1.2.1.1,(x7.2.1.2.1.2.1,(x7.2.1.2.1.2.2.1,(x8.1,x7.2.1.2.1.2.2.2.2))))) ((x7.2.1.1,()))) fun x9=>
     some (x9.1,())) fun r=>b=true→XN s l r.1:=by
 have hci:c.1=l.2.1:=by rw [hc];exact znX s _
 have hfab:s.1.2.2.1.length≤1000000000000000000:=by rw [sh.fab];exact zup
 cases b with
 |false=>
  exact (fun hno=>(by
   obtain ⟨_,_,h2⟩:=hf
   have h3:=(h2 rfl).1
   rw [h3] at hst
   rcases hst with h | h
   ·exact absurd (show (0:Int)=1 from h) (by decide)
   ·exact absurd (show (0:Int)=4 from h) (by decide))) ()
 |true=>
 have hn':(cOf s l.2.1).2.1=l.2.2.1:=by rw [←hc];exact hn
 refine zq (J:=fun x=>(x.2.1.2.1).2.2.2.1=cas s∧(x.2.1.1).1=l.2.1∧XN s l (snds (setC x.2.1.2.1 x.2.1.1) (xT x.2.1.1))) ?_ ?_
 ·refine zt (fun h=>?_) (fun h=>?_)
  ·have he:c.2.2.2.2.erase l.2.2.2.1=[]:=by
    have h:=jJ h
    rw [hd] at h
    exact List.length_eq_zero_iff.1 (by simpa using h)
   have he':(cOf s l.2.1).2.2.2.2.erase l.2.2.2.1=[]:=by rw [←hc];exact he
   refine zq (J:=fun x=>(x.2.1.2.1).2.2.2.1=cas s∧(x.2.1.1).1=l.2.1∧XN s l (snds (setC x.2.1.2.1 x.2.1.1) (xT x.2.1.1))) ?_ ?_
   ·refine zt (fun h1=>?_) (fun h1=>?_)
    ·have h1:c.2.2.1=1:=by have:=jJ h1;rw [hd] at this;exact this
     refine zd ⟨rfl,by rw [hd];exact hci,?_⟩
     show XN s l (snds (setC s (d.1,(d.2.1,(2,d.2.2.2)))) (xT (d.1,(d.2.1,(2,d.2.2.2)))))
     have e:(d.1,(d.2.1,(2,d.2.2.2)))=((l.2.1,(l.2.2.1,(2,((cOf s l.2.1).2.2.2.1,[])))):Ca):=by rw [hd];simp only;rw [he,hci,hn,hc]
     rw [e]
     exact XN.ready hn' (by rw [←hc];exact h1) he'
    ·have h1:c.2.2.1=4:=by
      have:=wH h1
      rw [hd] at this
      rcases hst with h | h
      ·exact absurd h this
      ·exact h
     obtain ⟨M,hM,hs,hm⟩:=zC6 hold (hlc h1)
     have ed1:d.1=l.2.1:=by rw [hd];exact hci
     rw [zpd hfab,ed1,show zdE s.1 s.2.1 l.2.1=(M,0) from hM,zK]
     refine zn (zi (yJ rfl) (zd (zd ⟨rfl,rfl,?_⟩)))
     show XN s l (snds (setC (upL s M) (l.2.1,(d.2.1,(5,d.2.2.2)))) (xT (l.2.1,(d.2.1,(5,d.2.2.2)))))
     have e:(l.2.1,(d.2.1,(5,d.2.2.2)))=((l.2.1,(l.2.2.1,(5,((cOf s l.2.1).2.2.2.1,[])))):Ca):=by rw [hd];simp only;rw [he,hn,hc]
     rw [e]
     exact XN.gone hn' (by rw [←hc];exact h1) he' M hs hm
   ·rintro ⟨j,⟨a,q,⟨⟩⟩,⟨⟩⟩ h2
    exact zd h2
  ·have he:c.2.2.2.2.erase l.2.2.2.1≠[]:=by
    have h:=wH h
    rw [hd] at h
    intro e
    exact h (by simp only;rw [e];rfl)
   refine zd ⟨rfl,by rw [hd];exact hci,?_⟩
   show XN s l (snds (setC s d) (xT d))
   have e0:xT d=[]:=by
    unfold xT
    have:d.2.2.1=c.2.2.1:=by rw [hd]
    rw [this]
    rcases hst with h | h<;>rw [h]<;>rfl
   have e:d=((l.2.1,(l.2.2.1,((cOf s l.2.1).2.2.1,((cOf s l.2.1).2.2.2.1,(cOf s l.2.1).2.2.2.2.erase l.2.2.2.1)))):Ca):=by rw [hd,←hc,hci,hn]
   rw [e0,zEX,e]
   exact XN.wait hn' (by rw [←hc];exact hst) (by rw [←hc];exact he)
 ·rintro ⟨j,⟨a,q,⟨⟩⟩,⟨⟩⟩ ⟨h1,h2,h3⟩
  simp only at h1 h2 h3
  simp only
  rw [h1,GQ sh.sC (by have:=sh.lC;omega) hf h2,zK,zk4,zK]
  refine zd fun _=>?_
  unfold setC at h3
  rw [show cas q=cas s from h1] at h3
  exact h3
theorem zBq {s:Sig} (sh:Shp s) {l:Le} (hid:idP l.2.1) (hold:xa s.1 (led s)=0) (hlc:(cOf s l.2.1).2.2.1=4→∃x∈led s,x.1=l.2.1):qB (vp s (l,())) fun r=>XN s l r.1:=by
 obtain ⟨i,c,b,e,hf⟩:=KS sh.sC (by have:=sh.lC;omega) l.2.1
 obtain ⟨hc,hb⟩:=zk1 sh.sC hf
 have hc:c=cOf s l.2.1:=hc
 have hw:c.2.2.2.2.length≤4:=by rw [hc];exact zFs sh _
 rw [zes];unfold WQ
 rw [e,zK]
 cases b with
 |false=>
  refine zi rfl (zd (.old (.inr ?_)))
  have h3:=(hf.no rfl).1
  rw [←hc,h3]
  exact ⟨show (0:Int)≠1 by decide,show (0:Int)≠4 by decide⟩
 |true=>
 refine zg rfl (zt (fun h=>?_) (fun h=>?_))
 ·have h:c.2.1≠l.2.2.1:=wH (by simpa using h)
  exact zd (.old (.inl (by rw [←hc];exact h)))
 have hn:c.2.1=l.2.2.1:=jJ (by simpa using h)
 refine zt (fun h1=>?_) (fun h1=>?_)
 ·have h1:c.2.2.1≠1:=wH (by simpa using h1)
  refine zt (fun h4=>?_) (fun h4=>?_)
  ·have h4:c.2.2.1≠4:=wH (by simpa using h4)
   exact zd (.old (.inr (by rw [←hc];exact ⟨h1,h4⟩)))
  ·have h4:c.2.2.1=4:=jJ (by simpa using h4)
   obtain ⟨r,hr,hd⟩:=zyC hw l.2.2.2.1
   have T:=zpF sh hid hold hf hc hn (.inr h4) (by rw [hc];exact hlc) hw hd
   revert hr
   simp only
   cases qI (c.2.2.2.2,(l.2.2.2.1,())) with
   |none=>intro hr;cases hr
   |some x1=>
    rw [zK,zK]
    generalize (bif !zr x1.1 0 then _ else _:Option (Nat×((Ca×Unit)×Unit)))=o
    cases o with
    |none=>intro hr;cases hr
    |some x3=>
     intro hr
     rw [zK] at hr
     cases hr
     rw [zK]
     exact T.imp fun r h=>⟨h.1,h.2 rfl⟩
 ·have h1:c.2.2.1=1:=jJ (by simpa using h1)
  obtain ⟨r,hr,hd⟩:=zyC hw l.2.2.2.1
  have T:=zpF sh hid hold hf hc hn (.inl h1) (by rw [hc];exact hlc) hw hd
  revert hr
  simp only
  cases qI (c.2.2.2.2,(l.2.2.2.1,())) with
  |none=>intro hr;cases hr
  |some x1=>
   rw [zK,zK]
   generalize (bif !zr x1.1 0 then _ else _:Option (Nat×((Ca×Unit)×Unit)))=o
   cases o with
   |none=>intro hr;cases hr
   |some x3=>
    intro hr
    rw [zK] at hr
    cases hr
    rw [zK]
    exact T.imp fun r h=>⟨h.1,h.2 rfl⟩
theorem zC7 {s:Sig} (sh:Shp s) {l:Le} (hid:idP l.2.1):qB (yw s (l,())) fun r=>Uo s l r.1:=by
 obtain ⟨i,w,b,e,hf⟩:=zhd sh.sW (by have:=sh.lW;omega) l.2.1
 obtain ⟨hw,hb⟩:=zk1 sh.sW hf
 have hw:w=wOf s l.2.1:=hw
 have hwi:w.1=l.2.1:=by rw [hw];exact zyz s _
 rw [zcM];unfold JO
 rw [e,zK]
 cases b with
 |false=>
  refine zi rfl (zd (.old (.inr ?_)))
  have h3:=(hf.no rfl).1
  rw [←hw,h3]
  rintro (⟨h,_⟩ | ⟨h,_⟩)
  ·exact absurd (show (0:Int)=1 from h) (by decide)
  ·exact absurd (show (0:Int)=4 from h) (by decide)
 |true=>
 refine zg rfl (zt (fun h=>?_) (fun h=>?_))
 ·have h:w.2.1≠l.2.2.1:=wH (by simpa using h)
  exact zd (.old (.inl (by rw [←hw];exact h)))
 have hn:w.2.1=l.2.2.1:=jJ (by simpa using h)
 have hn':(wOf s l.2.1).2.1=l.2.2.1:=by rw [←hw];exact hn
 refine zq (J:=fun x=>(x.1=0∧(x.2.1.1).1=l.2.1∧Uo s l (setW s x.2.1.1))∨(x.1≠0∧Uo s l s)) ?_ ?_
 ·by_cases h1:w.2.2.1=1
  ·have h1':(wOf s l.2.1).2.2.1=1:=by rw [←hw];exact h1
   refine zi (yJ h1) (zt (fun h5=>?_) (fun h5=>?_))
   ·have h5:l.1=5:=jJ h5
    refine zd (.inl ⟨rfl,hwi,?_⟩)
    show Uo s l (setW s (w.1,(w.2.1,(2,w.2.2.2))))
    rw [hwi,hw]
    exact .ready hn' h1' h5
   have h5:l.1≠5:=wH h5
   refine zq (J:=fun x=>(x.1=0∧(x.2.1.1).1=l.2.1∧Uo s l (setW s x.2.1.1))∨(x.1≠0∧Uo s l s)) ?_ ?_
   ·refine zi (yJ h1) (zt (fun h6=>?_) (fun h6=>?_))
    ·have h6:l.1=6:=jJ h6
     refine zd (.inl ⟨rfl,hwi,?_⟩)
     show Uo s l (setW s (w.1,(w.2.1,(3,(w.2.2.2.1,l.2.2.2.2.2.2)))))
     rw [hwi,hw]
     exact .fail hn' h1' h6
    have h6:l.1≠6:=wH h6
    refine zn (zg (jx (show w.2.2.1≠4 by omega)) (zd ?_))
    exact zg rfl (zd (.inr ⟨show (1:Nat)≠0 by decide,.old (.inr (by rw [h1'];rintro (⟨_,h | h⟩ | ⟨h,_⟩)<;>omega))⟩))
   ·rintro ⟨j,⟨a,⟨⟩⟩,⟨⟩⟩ (⟨h2,h3,h4⟩ | ⟨h2,h4⟩)
    ·simp only at h2
     subst h2
     exact zi rfl (zd (.inl ⟨rfl,h3,h4⟩))
    ·simp only at h2
     refine zg (by cases j with
      |zero=>exact absurd rfl h2
      |succ n=>rfl) (zd (.inr ⟨show (1:Nat)≠0 by decide,h4⟩))
  ·refine zg (jx h1) ?_
   refine zq (J:=fun x=>(x.1=0∧(x.2.1.1).1=l.2.1∧Uo s l (setW s x.2.1.1))∨(x.1≠0∧Uo s l s)) ?_ ?_
   ·refine zg (jx h1) ?_
    refine zq (J:=fun x=>(x.1=0∧(x.2.1.1).1=l.2.1∧Uo s l (setW s x.2.1.1))∨(x.1≠0∧Uo s l s)) ?_ ?_
    ·refine zt (fun h4=>?_) (fun h4=>?_)
     ·have h4:w.2.2.1=4:=jJ h4
      have h4':(wOf s l.2.1).2.2.1=4:=by rw [←hw];exact h4
      refine zt (fun h7=>?_) (fun h7=>?_)
      ·have h7:l.1=7:=jJ h7
       refine zd (.inl ⟨rfl,hwi,?_⟩)
       show Uo s l (setW s (w.1,(w.2.1,(5,w.2.2.2))))
       rw [hwi,hw]
       exact .gone hn' h4' h7
      ·have h7:l.1≠7:=wH h7
       exact zd (.inr ⟨show (1:Nat)≠0 by decide,.old (.inr (by rw [h4'];rintro (⟨h,_⟩ | ⟨_,h⟩)<;>omega))⟩)
     ·have h4:w.2.2.1≠4:=wH h4
      exact zd (.inr ⟨show (1:Nat)≠0 by decide,.old (.inr (by rw [←hw];rintro (⟨h,_⟩ | ⟨h,_⟩)<;>omega))⟩)
    ·rintro ⟨j,⟨a,⟨⟩⟩,⟨⟩⟩ (⟨h2,h3,h4⟩ | ⟨h2,h4⟩)
     ·simp only at h2
      subst h2
      exact zi rfl (zd (.inl ⟨rfl,h3,h4⟩))
     ·simp only at h2
      refine zg (by cases j with
       |zero=>exact absurd rfl h2
       |succ n=>rfl) (zd (.inr ⟨show (1:Nat)≠0 by decide,h4⟩))
   ·rintro ⟨j,⟨a,⟨⟩⟩,⟨⟩⟩ (⟨h2,h3,h4⟩ | ⟨h2,h4⟩)
    ·simp only at h2
     subst h2
     exact zi rfl (zd (.inl ⟨rfl,h3,h4⟩))
    ·simp only at h2
     refine zg (by cases j with
      |zero=>exact absurd rfl h2
      |succ n=>rfl) (zd (.inr ⟨show (1:Nat)≠0 by decide,h4⟩))
 ·rintro ⟨j,⟨a,⟨⟩⟩,⟨⟩⟩ (⟨h2,h3,h4⟩ | ⟨h2,h4⟩)
  ·simp only at h2 h3 h4
   subst h2
   refine zi rfl ?_
   rw [show ym (s.2.2.1,(i,(true,(a,()))))=_ from zhA sh.sW (by have:=sh.lW;omega) hf h3,zK]
   exact zd h4
  ·simp only at h2
   refine zg (by cases j with
    |zero=>exact absurd rfl h2
    |succ n=>rfl) (zd h4)
inductive Xg (s:Sig) (l:Le):Sig→Prop
 |ask (h:l.1=1) {s'} (hs:Xx s l s'):Xg s l s'
 |ins (h:l.1=2∨l.1=3) {s'} (hs:zuq s l s'):Xg s l s'
 |done (h:l.1=4) {s'} (hs:XN s l s'):Xg s l s'
 |ans (h:l.1=5∨l.1=6∨l.1=7) {s'} (hs:Uo s l s'):Xg s l s'
theorem zur {k:Int} {s:Sig} (iv:Iv k s) {c:Ca} (hid:idP c.1) (hcl:c.2.2.2.2.length≤4) {M:List qx} (hold:xa s.1 M=0) (lr:∀x∈M,x∈led s∨(x.1=c.1∧ziQ x)) (ls:∀x,x.1≠c.1→(x∈M↔x∈led s))
  (g:Gd k c.1 (wOf s c.1) c (fun v=>hOf s v c.1) M) (keep:∀l,LOk (wOf s c.1) (cOf s c.1) (fun v=>hOf s v c.1) l→LOk (wOf s c.1) c (fun v=>hOf s v c.1) l)
  (X:List Le) (new:∀l∈X,l.2.1=c.1∧LOk (wOf s c.1) c (fun v=>hOf s v c.1) l):Iv k (snds (setC (upL s M) c) X):=by
 have e:∀j,cOf (snds (setC (upL s M) c) X) j=if j=c.1 then c else cOf s j:=fun j=>KT (iv.sh.upL M) c j
 have e1:cOf (snds (setC (upL s M) c) X) c.1=c:=by rw [e,if_pos rfl]
 refine zBp iv c.1 hid (Int.le_refl k) (((iv.sh.upL M).setC ⟨hid,hcl⟩).snds X) hold lr (fun j hj hne=>⟨rfl,by rw [e,if_neg hne],fun v=>rfl⟩) ls ?_ ?_ ?_
 ·rw [e1];exact g
 ·rw [e1];exact fun l _ h=>keep l h
 ·rw [e1]
  intro l hl
  rcases zk2 X hl with h | h
  ·exact .inl h
  ·exact .inr (new l h)
theorem zk5 {k:Int} {s:Sig} (iv:Iv k s) {c:Ca} (hid:idP c.1) (hcl:c.2.2.2.2.length≤4)
  (g:Gd k c.1 (wOf s c.1) c (fun v=>hOf s v c.1) (led s)) (keep:∀l,LOk (wOf s c.1) (cOf s c.1) (fun v=>hOf s v c.1) l→LOk (wOf s c.1) c (fun v=>hOf s v c.1) l)
  (X:List Le) (new:∀l∈X,l.2.1=c.1∧LOk (wOf s c.1) c (fun v=>hOf s v c.1) l):Iv k (snds (setC s c) X):=
 zur iv hid hcl (M:=led s) iv.hold (fun x hx=>.inl hx) (fun x _=>Iff.rfl) g keep X new
theorem zGz {k:Int} {s:Sig} (iv:Iv k s) {a:He} (hid:idP a.2.1) (hn:ndP a.1)
  (g:Gd k a.2.1 (wOf s a.2.1) (cOf s a.2.1) (fun v=>if v=a.1 then a else hOf s v a.2.1) (led s)) (keep:∀l,LOk (wOf s a.2.1) (cOf s a.2.1) (fun v=>hOf s v a.2.1) l→LOk (wOf s a.2.1) (cOf s a.2.1) (fun v=>if v=a.1 then a else hOf s v a.2.1) l)
  (X:List Le) (new:∀l∈X,l.2.1=a.2.1∧LOk (wOf s a.2.1) (cOf s a.2.1) (fun v=>if v=a.1 then a else hOf s v a.2.1) l):Iv k (snds (setH s a) X):=by
 have e:∀v j,idP j→hOf (snds (setH s a) X) v j=if v=a.1∧j=a.2.1 then a else hOf s v j:=fun v j hj=>zHx iv.sh a v j hj hid
 have e1:(fun v=>hOf (snds (setH s a) X) v a.2.1)=fun v=>if v=a.1 then a else hOf s v a.2.1:=by
  funext v
  rw [e v _ hid]
  by_cases h:v=a.1
  ·rw [if_pos ⟨h,rfl⟩,if_pos h]
  ·rw [if_neg (fun q=>h q.1),if_neg h]
 refine zBp iv a.2.1 hid (Int.le_refl k) ((iv.sh.setH ⟨hn,hid⟩).snds X) iv.hold (fun x hx=>.inl hx) (fun j hj hne=>⟨rfl,rfl,fun v=>by rw [e v j hj,if_neg (fun q=>hne q.2)]⟩) (fun x _=>Iff.rfl) ?_ ?_ ?_
 ·rw [e1];exact g
 ·rw [e1];exact fun l _ h=>keep l h
 ·rw [e1]
  intro l hl
  rcases zk2 X hl with h | h
  ·exact .inl h
  ·exact .inr (new l h)
theorem zoK {k k':Int} {s:Sig} (iv:Iv k s) (hk:k≤k') {w:Wi} (hid:idP w.1)
  (g:Gd k' w.1 w (cOf s w.1) (fun v=>hOf s v w.1) (led s)) (keep:∀l,LOk (wOf s w.1) (cOf s w.1) (fun v=>hOf s v w.1) l→LOk w (cOf s w.1) (fun v=>hOf s v w.1) l)
  (X:List Le) (new:∀l∈X,l.2.1=w.1∧LOk w (cOf s w.1) (fun v=>hOf s v w.1) l):Iv k' (snds (setW s w) X):=by
 have e:∀j,wOf (snds (setW s w) X) j=if j=w.1 then w else wOf s j:=fun j=>zyA iv.sh w j
 have e1:wOf (snds (setW s w) X) w.1=w:=by rw [e,if_pos rfl]
 refine zBp iv w.1 hid hk ((iv.sh.setW hid).snds X) iv.hold (fun x hx=>.inl hx) (fun j hj hne=>⟨by rw [e,if_neg hne],rfl,fun v=>rfl⟩) (fun x _=>Iff.rfl) ?_ ?_ ?_
 ·rw [e1];exact g
 ·rw [e1];exact fun l _ h=>keep l h
 ·rw [e1]
  intro l hl
  rcases zk2 X hl with h | h
  ·exact .inl h
  ·exact .inr (new l h)
theorem zjR {c:Ca} {l:Le} (h:l∈xT c):l.2.1=c.1∧l.2.2.1=c.2.1∧((c.2.2.1=2∧l.1=5)∨(c.2.2.1=3∧l.1=6)∨(c.2.2.1=5∧l.1=7)):=by
 unfold xT at h
 by_cases h2:c.2.2.1=2
 ·rw [if_pos h2] at h;rw [List.mem_singleton.1 h];exact ⟨rfl,rfl,.inl ⟨h2,rfl⟩⟩
 rw [if_neg h2] at h
 by_cases h3:c.2.2.1=3
 ·rw [if_pos h3] at h;rw [List.mem_singleton.1 h];exact ⟨rfl,rfl,.inr (.inl ⟨h3,rfl⟩)⟩
 rw [if_neg h3] at h
 by_cases h5:c.2.2.1=5
 ·rw [if_pos h5] at h;rw [List.mem_singleton.1 h];exact ⟨rfl,rfl,.inr (.inr ⟨h5,rfl⟩)⟩
 rw [if_neg h5] at h;cases h
theorem zhf {c:Ca} {l:Le} (h:l∈QF c):l.2.1=c.1∧l.2.2.1=c.2.1∧l.2.2.2.1∈c.2.2.2.2∧((c.2.2.1=1∧l.1=2)∨(c.2.2.1=4∧l.1=3)):=by
 unfold QF at h
 by_cases h1:c.2.2.1=1
 ·rw [if_pos h1] at h
  obtain ⟨n,hn,rfl⟩:=List.mem_map.1 h
  exact ⟨rfl,rfl,hn,.inl ⟨h1,rfl⟩⟩
 rw [if_neg h1] at h
 by_cases h4:c.2.2.1=4
 ·rw [if_pos h4] at h
  obtain ⟨n,hn,rfl⟩:=List.mem_map.1 h
  exact ⟨rfl,rfl,hn,.inr ⟨h4,rfl⟩⟩
 rw [if_neg h4] at h;cases h
theorem zoL {w:Wi} {c:Ca} {h:Int→He} {l:Le} (h1:1≤c.2.1) (hl:l∈xT c):LOk w c h l:=by
 obtain ⟨_,e2,e3⟩:=zjR hl
 unfold LOk
 rcases e3 with ⟨a,b⟩ | ⟨a,b⟩ | ⟨a,b⟩
 ·exact .inr (.inr (.inr (.inr (.inl ⟨b,by omega,by omega,fun _=>a⟩))))
 ·exact .inr (.inr (.inr (.inr (.inr (.inl ⟨b,by omega,by omega,fun _=>a⟩)))))
 ·exact .inr (.inr (.inr (.inr (.inr (.inr ⟨b,by omega,by omega,fun _=>a⟩)))))
theorem zus {w:Wi} {c:Ca} {h:Int→He} {l:Le} (h1:1≤c.2.1) (hr:∀v∈c.2.2.2.2,ndP v) (hl:l∈QF c):LOk w c h l:=by
 obtain ⟨_,e2,e3,e4⟩:=zhf hl
 unfold LOk
 rcases e4 with ⟨a,b⟩ | ⟨a,b⟩
 ·exact .inr (.inl ⟨b,hr _ e3,by omega,by omega,.inl ⟨e2,.inl a⟩⟩)
 ·exact .inr (.inr (.inl ⟨b,hr _ e3,by omega,by omega,fun _=>.inl a⟩))
theorem zBr:∀v∈N4,ndP v:=by unfold N4 ndP;decide
theorem zHz:N4.Nodup:=by unfold N4;decide
theorem zC8 {v:Int} (h:ndP v):v∈N4:=by
 unfold ndP at h
 rcases (show v=0∨v=1∨v=2∨v=3 by omega) with rfl | rfl | rfl | rfl<;>decide
theorem zqX {w:Wi} {c c':Ca} {h:Int→He} (hlt:c.2.1 < c'.2.1) (hp:c'.2.2.1=4∨(c.2.2.1≠1∧c.2.2.1≠2∧c.2.2.1≠4)):∀l,LOk w c h l→LOk w c' h l:=by
 intro l hl
 unfold LOk at hl ⊢
 rcases hl with hl | ⟨e,hn,h1,h2,h3⟩ | ⟨e,hn,h1,h2,h3⟩ | hl | ⟨e,h1,h2,h3⟩ | ⟨e,h1,h2,h3⟩ | ⟨e,h1,h2,h3⟩
 ·exact .inl hl
 ·refine .inr (.inl ⟨e,hn,h1,by omega,?_⟩)
  rcases hp with hp | hp
  ·exact .inr (.inl ⟨by omega,hp⟩)
  ·rcases h3 with ⟨_,h4⟩ | ⟨_,h4⟩ | h4
   ·omega
   ·omega
   ·exact .inr (.inr h4)
 ·exact .inr (.inr (.inl ⟨e,hn,h1,by omega,fun h=>by omega⟩))
 ·exact .inr (.inr (.inr (.inl hl)))
 ·exact .inr (.inr (.inr (.inr (.inl ⟨e,h1,by omega,fun h=>by omega⟩))))
 ·exact .inr (.inr (.inr (.inr (.inr (.inl ⟨e,h1,by omega,fun h=>by omega⟩)))))
 ·exact .inr (.inr (.inr (.inr (.inr (.inr ⟨e,h1,by omega,fun h=>by omega⟩)))))
theorem Wr {k id:Int} {w:Wi} {c:Ca} {h:Int→He} {L:List qx} {l:Le} (g:Gd k id w c h L) (hl:LOk w c h l) (hk:l.1=1) (hlt:c.2.1 < l.2.2.1) :
  l.2.2.1=w.2.1∧1≤l.2.2.1∧((l.2.2.2.2.1=true∧w.2.2.1=1∧l.2.2.2.2.2.1=w.2.2.2.1∧(c.2.2.1=0∨c.2.2.1=3∨c.2.2.1=5))∨(l.2.2.2.2.1=false∧w.2.2.1=4∧c.2.2.1=2)):=by
 unfold LOk at hl
 rcases hl with ⟨e,h1,h2,h3⟩ | ⟨e,_⟩ | ⟨e,_⟩ | ⟨e,_⟩ | ⟨e,_⟩ | ⟨e,_⟩ | ⟨e,_⟩
 rotate_left
 all_goals try (rw [hk] at e;exact absurd e (by decide))
 have c0:=g.c0
 have hnum:l.2.2.1=w.2.1:=by omega
 refine ⟨hnum,h1,?_⟩
 have hst:(w.2.2.1=1∧(c.2.2.1=0∨c.2.2.1=3∨c.2.2.1=5))∨(w.2.2.1=4∧c.2.2.1=2):=by
  rcases Int.lt_or_le 0 c.2.1 with h4 | h4
  ·have:=g.cl (by omega) (by omega)
   omega
  ·have:=g.cz (by omega)
   have:=this.2 (by omega)
   omega
 rcases h3 hnum with ⟨a1,a2,a3⟩ | ⟨a1,a2⟩
 ·rcases hst with ⟨b1,b2⟩ | ⟨b1,b2⟩
  ·exact .inl ⟨a1,b1,a3,b2⟩
  ·omega
 ·rcases hst with ⟨b1,b2⟩ | ⟨b1,b2⟩
  ·omega
  ·exact .inr ⟨a1,b1,b2⟩
theorem Iv.ask {k:Int} {s:Sig} (iv:Iv k s) {l:Le} (hl:zcx s l) (hk:l.1=1) {s':Sig} (hs:Xx s l s'):Iv k s':=by
 obtain ⟨hid,hl⟩:=hl
 have g:=iv.g l.2.1 hid
 have n1:1≤l.2.2.1:=by
  unfold LOk at hl
  rcases hl with ⟨e,h1,h2,h3⟩ | ⟨e,_⟩ | ⟨e,_⟩ | ⟨e,_⟩ | ⟨e,_⟩ | ⟨e,_⟩ | ⟨e,_⟩
  ·exact h1
  all_goals (rw [hk] at e;exact absurd e (by decide))
 have hci:=znX s l.2.1
 cases hs with
 |old h=>exact iv
 |same h=>
  refine iv.send _ fun a ha=>?_
  have e1:a.2.1=l.2.1:=by rw [(zjR ha).1,hci]
  refine ⟨by rw [e1];exact hid,?_⟩
  rw [e1]
  exact zoL (by omega) ha
 |fail h hw e he ha=>
  obtain ⟨a1,a2,⟨_,a3,a4,a5⟩ | ⟨a3,_⟩⟩:=Wr g hl hk h
  rotate_left
  ·rw [hw] at a3;cases a3
  have c1:=g.c0
  have a6:(cOf s l.2.1).2.2.1≠1∧(cOf s l.2.1).2.2.1≠2∧(cOf s l.2.1).2.2.1≠4:=by omega
  refine zk5 iv (c:=(l.2.1,(l.2.2.1,(3,(e,[]))))) hid (by simp) ?_ (zqX (c':=(l.2.1,(l.2.2.1,(3,(e,[]))))) h (.inr a6)) _ (fun a ha=>⟨(zjR ha).1,zoL a2 ha⟩)
  show Gd k l.2.1 (wOf s l.2.1) (l.2.1,(l.2.2.1,(3,(e,[])))) (fun v=>hOf s v l.2.1) (led s)
  exact {
      n0:=g.n0,z:=fun hz=>by omega,st:=g.st,c0:=⟨by simp only;omega,.inl a1⟩,cz:=fun hz=>absurd (show l.2.2.1=0 from hz) (by omega),cw:=fun _ _=>.inr (.inr (.inl ⟨rfl,.inl a3⟩)),cl:=fun _ hlt=>by simp only at hlt;omega,
      lg:=fun x hx hi=>by have:=(g.lg x hx hi).2;omega,lc:=fun hc=>by simp only at hc;omega,hn:=fun v hv=>by have:=g.hn v hv;simp only;omega,
      he:=fun v hv _ hq=>by have:=g.hn v hv;simp only at hq;omega,ho:=fun v hv ho=>by have:=g.ho v hv ho;omega,
      wn:=fun hc=>by simp only at hc;omega,wz:=fun _ _=>rfl,wr:=fun v hv=>(by cases hv),wd:=List.nodup_nil,wh:=fun hc=>by simp only at hc;omega}
 |put h hw ha hh=>
  obtain ⟨a1,a2,⟨_,a3,a4,a5⟩ | ⟨a3,_⟩⟩:=Wr g hl hk h
  rotate_left
  ·rw [hw] at a3;cases a3
  have c1:=g.c0
  have a6:(cOf s l.2.1).2.2.1≠1∧(cOf s l.2.1).2.2.1≠2∧(cOf s l.2.1).2.2.1≠4:=by omega
  have hst:=g.st (by omega)
  have hsi:l.2.2.2.2.2.1.1=l.2.1:=by rw [a4];exact hst.2.1
  refine zur iv (c:=(l.2.1,(l.2.2.1,(1,(0,N4))))) hid (by simp [N4]) hh (fun x hx=>?_) (fun x hne=>?_) ?_ (zqX (c':=(l.2.1,(l.2.2.1,(1,(0,N4))))) h (.inr a6)) _ (fun a ha=>⟨(zhf ha).1,zus a2 zBr ha⟩)
  ·rcases List.mem_append.1 hx with hx | hx
   ·exact .inl hx
   ·rw [List.mem_singleton.1 hx]
    exact .inr ⟨hsi,by rw [a4];exact hst.2.2⟩
  ·rw [List.mem_append,List.mem_singleton]
   refine ⟨fun hx=>?_,.inl⟩
   rcases hx with hx | hx
   ·exact hx
   ·rw [hx] at hne;exact absurd hsi hne
  show Gd k l.2.1 (wOf s l.2.1) (l.2.1,(l.2.2.1,(1,(0,N4)))) (fun v=>hOf s v l.2.1) (led s++[l.2.2.2.2.2.1])
  exact {
      n0:=g.n0,z:=fun hz=>by omega,st:=g.st,c0:=⟨by simp only;omega,.inl a1⟩,cz:=fun hz=>absurd (show l.2.2.1=0 from hz) (by omega),cw:=fun _ _=>.inl ⟨rfl,a3⟩,cl:=fun _ hlt=>by simp only at hlt;omega,
      lg:=fun x hx hi=>by
       rcases List.mem_append.1 hx with hx | hx
       ·have:=(g.lg x hx hi).2;omega
       ·rw [List.mem_singleton.1 hx];exact ⟨a4,.inl rfl⟩
      lc:=fun _=>⟨_,List.mem_append.2 (.inr (List.mem_singleton.2 rfl)),hsi⟩,hn:=fun v hv=>by have:=g.hn v hv;simp only;omega,
      he:=fun v hv _ hq=>by have:=g.hn v hv;simp only at hq;omega,ho:=fun v hv ho=>.inl rfl,
      wn:=fun _=>by simp [N4],wz:=fun hc=>absurd rfl hc,wr:=zBr,wd:=zHz,wh:=fun _ v hv=>.inl (zC8 hv)}
 |gone h hw hx=>
  obtain ⟨a1,a2,⟨a3,_⟩ | ⟨_,a3,a4⟩⟩:=Wr g hl hk h
  ·rw [hw] at a3;cases a3
  obtain ⟨x,hm,hi⟩:=g.lc (.inr (.inl a4))
  exact absurd hi (hx x hm)
 |drop h hw x hx hi=>
  obtain ⟨a1,a2,⟨a3,_⟩ | ⟨_,a3,a4⟩⟩:=Wr g hl hk h
  ·rw [hw] at a3;cases a3
  have c1:=g.c0
  refine zk5 iv (c:=(l.2.1,(l.2.2.1,(4,(0,N4))))) hid (by simp [N4]) ?_ (zqX (c':=(l.2.1,(l.2.2.1,(4,(0,N4))))) h (.inl rfl)) _ (fun a ha=>⟨(zhf ha).1,zus a2 zBr ha⟩)
  show Gd k l.2.1 (wOf s l.2.1) (l.2.1,(l.2.2.1,(4,(0,N4)))) (fun v=>hOf s v l.2.1) (led s)
  exact {
      n0:=g.n0,z:=fun hz=>by omega,st:=g.st,c0:=⟨by simp only;omega,.inl a1⟩,cz:=fun hz=>absurd (show l.2.2.1=0 from hz) (by omega),cw:=fun _ _=>.inr (.inr (.inr (.inl ⟨rfl,a3⟩))),cl:=fun _ hlt=>by simp only at hlt;omega,
      lg:=fun y hy hi=>⟨(g.lg y hy hi).1,.inr (.inr rfl)⟩,lc:=fun _=>⟨x,hx,hi⟩,hn:=fun v hv=>by have:=g.hn v hv;simp only;omega,
      he:=fun v hv _ hq=>by have:=g.hn v hv;simp only at hq;omega,ho:=fun v hv ho=>.inr (.inr rfl),
      wn:=fun _=>by simp [N4],wz:=fun _ hc=>absurd rfl hc,wr:=zBr,wd:=zHz,wh:=fun _ v hv=>.inl (zC8 hv)}
theorem zC9 {w:Wi} {c:Ca} {h:Int→He} {l:Le} (hl:LOk w c h l) (hk:l.1=2∨l.1=3) :
  ndP l.2.2.2.1∧1≤l.2.2.1∧l.2.2.1≤c.2.1∧((l.1=2∧((l.2.2.1=c.2.1∧(c.2.2.1=1∨c.2.2.1=2))∨(l.2.2.1 < c.2.1∧c.2.2.1=4)∨l.2.2.1 < (h l.2.2.2.1).2.2.1))∨(l.1=3∧(l.2.2.1=c.2.1→c.2.2.1=4∨c.2.2.1=5))):=by
 unfold LOk at hl
 rcases hl with ⟨e,_⟩ | ⟨e,hn,h1,h2,h3⟩ | ⟨e,hn,h1,h2,h3⟩ | ⟨e,_⟩ | ⟨e,_⟩ | ⟨e,_⟩ | ⟨e,_⟩
 ·omega
 ·exact ⟨hn,h1,h2,.inl ⟨e,h3⟩⟩
 ·exact ⟨hn,h1,h2,.inr ⟨e,h3⟩⟩
 all_goals omega
theorem zGA {w:Wi} {c:Ca} {h h':Int→He} (hle:∀v,(h v).2.2.1≤(h' v).2.2.1):∀l,LOk w c h l→LOk w c h' l:=by
 intro l hl
 unfold LOk at hl ⊢
 rcases hl with hl | ⟨e,hn,h1,h2,h3⟩ | hl | ⟨e,hn,h1,h2⟩ | hl
 ·exact .inl hl
 ·refine .inr (.inl ⟨e,hn,h1,h2,?_⟩)
  rcases h3 with h4 | h4 | h4
  ·exact .inl h4
  ·exact .inr (.inl h4)
  ·have:=hle l.2.2.2.1
   exact .inr (.inr (by omega))
 ·exact .inr (.inr (.inl hl))
 ·have:=hle l.2.2.2.1
  exact .inr (.inr (.inr (.inl ⟨e,hn,h1,by omega⟩)))
 ·exact .inr (.inr (.inr (.inr hl)))
theorem Iv.ins {k:Int} {s:Sig} (iv:Iv k s) {l:Le} (hl:zcx s l) (hk:l.1=2∨l.1=3) {s':Sig} (hs:zuq s l s'):Iv k s':=by
 obtain ⟨hid,hl⟩:=hl
 have g:=iv.g l.2.1 hid
 obtain ⟨hn,n1,n2,hcase⟩:=zC9 hl hk
 cases hs with
 |old h=>exact iv
 |new h=>
  have hup:∀v,(hOf s v l.2.1).2.2.1≤(if v=l.2.2.2.1 then ((l.2.2.2.1,(l.2.1,(l.2.2.1,decide (l.1=2)))):He) else hOf s v l.2.1).2.2.1:=fun v=>by
   by_cases hv:v=l.2.2.2.1
   ·rw [if_pos hv,hv];exact h
   ·rw [if_neg hv];exact Int.le_refl _
  have gn:=g.hn
  have ge:=g.he
  have go:=g.ho
  have gh:=g.wh
  refine zGz iv (a:=(l.2.2.2.1,(l.2.1,(l.2.2.1,decide (l.1=2))))) hid hn ?_ (zGA hup) _ (fun a ha=>?_)
  ·show Gd k l.2.1 (wOf s l.2.1) (cOf s l.2.1) (fun v=>if v=l.2.2.2.1 then ((l.2.2.2.1,(l.2.1,(l.2.2.1,decide (l.1=2)))):He) else hOf s v l.2.1) (led s)
   exact {g with
    hn:=fun v hv=>by
     by_cases e:v=l.2.2.2.1
     ·simp only [if_pos e];omega
     ·simp only [if_neg e];exact gn v hv
    he:=fun v hv h1=>by
     by_cases e:v=l.2.2.2.1
     ·simp only [if_pos e]
      intro h2
      rcases hcase with ⟨hk2,h3 | h3 | h3⟩ | ⟨hk3,h3⟩
      ·exact .inl ⟨decide_eq_true hk2,h3.2⟩
      ·omega
      ·have h3:l.2.2.1 < (hOf s l.2.2.2.1 l.2.1).2.2.1:=h3
       omega
      ·exact .inr ⟨decide_eq_false (by omega),h3 h2⟩
     ·simp only [if_neg e];exact ge v hv h1
    ho:=fun v hv=>by
     by_cases e:v=l.2.2.2.1
     ·simp only [if_pos e]
      intro h2
      have h2:=of_decide_eq_true h2
      rcases hcase with ⟨hk2,h3 | h3 | h3⟩ | ⟨hk3,h3⟩
      ·omega
      ·omega
      ·have h3:l.2.2.1 < (hOf s l.2.2.2.1 l.2.1).2.2.1:=h3
       omega
      ·omega
     ·simp only [if_neg e];exact go v hv
    wh:=fun hc v hv=>by
     rcases gh hc v hv with h2 | h2
     ·exact .inl h2
     ·refine .inr ?_
      by_cases e:v=l.2.2.2.1
      ·simp only [if_pos e]
       have h2:(hOf s v l.2.1).2.2.1=(cOf s l.2.1).2.1:=h2
       rw [e] at h2
       omega
      ·simp only [if_neg e];exact h2}
  ·rw [List.mem_singleton.1 ha]
   refine ⟨rfl,?_⟩
   unfold LOk
   refine .inr (.inr (.inr (.inl ⟨rfl,hn,n1,?_⟩)))
   simp only [if_pos]
   exact Int.le_refl _
theorem zsL {l:List Int} (hd:l.Nodup) {a b:Int}:a∈l.erase b↔a≠b∧a∈l:=hd.mem_erase_iff
theorem Iv.done {k:Int} {s:Sig} (iv:Iv k s) {l:Le} (hl:zcx s l) (hk:l.1=4) {s':Sig} (hs:XN s l s'):Iv k s':=by
 obtain ⟨hid,hl⟩:=hl
 have g:=iv.g l.2.1 hid
 have hci:=znX s l.2.1
 obtain ⟨hn,n1,n2⟩:ndP l.2.2.2.1∧1≤l.2.2.1∧l.2.2.1≤(hOf s l.2.2.2.1 l.2.1).2.2.1:=by
  unfold LOk at hl
  rcases hl with ⟨e,_⟩ | ⟨e,_⟩ | ⟨e,_⟩ | ⟨e,hn,h1,h2⟩ | ⟨e,_⟩ | ⟨e,_⟩ | ⟨e,_⟩
  ·omega
  ·omega
  ·omega
  ·exact ⟨hn,h1,h2⟩
  all_goals omega
 have hnn:=g.hn l.2.2.2.1 hn
 have hwl:=zFs iv.sh l.2.1
 have gw:=g.wh
 have ge:=g.he
 have go:=g.ho
 have gcw:=g.cw
 have gcl:=g.cl
 have gc0:=g.c0
 cases hs with
 |old h=>exact iv
 |wait h hs hw=>
  have e1:l.2.2.1=(cOf s l.2.1).2.1:=h.symm
  refine zk5 iv (c:=(l.2.1,(l.2.2.1,((cOf s l.2.1).2.2.1,((cOf s l.2.1).2.2.2.1,(cOf s l.2.1).2.2.2.2.erase l.2.2.2.1))))) hid (Nat.le_trans (List.length_erase_le) hwl) ?_ (fun a ha=>?_) [] (fun a ha=>by cases ha)
  ·show Gd k l.2.1 (wOf s l.2.1) (l.2.1,(l.2.2.1,((cOf s l.2.1).2.2.1,((cOf s l.2.1).2.2.2.1,(cOf s l.2.1).2.2.2.2.erase l.2.2.2.1)))) (fun v=>hOf s v l.2.1) (led s)
   rw [e1]
   exact {g with
    wn:=fun _=>hw
    wz:=fun h1 h4=>by
     rcases hs with h5 | h5
     ·exact absurd h5 h1
     ·exact absurd h5 h4
    wr:=fun v hv=>g.wr v (List.mem_of_mem_erase hv)
    wd:=g.wd.erase _
    wh:=fun hc v hv=>by
     by_cases e:v=l.2.2.2.1
     ·refine .inr ?_
      rw [e]
      show (hOf s l.2.2.2.1 l.2.1).2.2.1=(cOf s l.2.1).2.1
      have hnn:0≤(hOf s l.2.2.2.1 l.2.1).2.2.1∧(hOf s l.2.2.2.1 l.2.1).2.2.1≤(cOf s l.2.1).2.1:=hnn
      omega
     ·rcases gw hc v hv with h2 | h2
      ·exact .inl ((zsL g.wd).2 ⟨e,h2⟩)
      ·exact .inr h2}
  ·have:LOk (wOf s l.2.1) (l.2.1,(l.2.2.1,((cOf s l.2.1).2.2.1,((cOf s l.2.1).2.2.2.1,(cOf s l.2.1).2.2.2.2.erase l.2.2.2.1)))) (fun v=>hOf s v l.2.1) a:=by
    rw [e1]
    exact ha
   exact this
 |ready h hs hw=>
  have e1:l.2.2.1=(cOf s l.2.1).2.1:=h.symm
  have hall:∀v,ndP v→(hOf s v l.2.1).2.2.1=(cOf s l.2.1).2.1:=fun v hv=>by
   have hnn:0≤(hOf s l.2.2.2.1 l.2.1).2.2.1∧(hOf s l.2.2.2.1 l.2.1).2.2.1≤(cOf s l.2.1).2.1:=hnn
   rcases gw (.inl hs) v hv with h2 | h2
   ·by_cases e:v=l.2.2.2.1
    ·rw [e];omega
    ·have:v∈(cOf s l.2.1).2.2.2.2.erase l.2.2.2.1:=(zsL g.wd).2 ⟨e,h2⟩
     rw [hw] at this;cases this
   ·exact h2
  refine zk5 iv (c:=(l.2.1,(l.2.2.1,(2,((cOf s l.2.1).2.2.2.1,[]))))) hid (by simp) ?_ (fun a ha=>?_) _ (fun a ha=>⟨(zjR ha).1,zoL n1 ha⟩)
  ·show Gd k l.2.1 (wOf s l.2.1) (l.2.1,(l.2.2.1,(2,((cOf s l.2.1).2.2.2.1,[])))) (fun v=>hOf s v l.2.1) (led s)
   rw [e1]
   exact {g with
    cz:=fun hz=>absurd (show (cOf s l.2.1).2.1=0 from hz) (by omega)
    cw:=fun h1 h2=>by
     have:=gcw h1 h2
     exact .inr (.inl ⟨rfl,.inl (by omega)⟩)
    cl:=fun h1 h2=>by
     have:=gcl h1 h2
     omega
    lg:=fun x hx hi=>⟨(g.lg x hx hi).1,.inr (.inl rfl)⟩
    lc:=fun _=>g.lc (.inl hs)
    he:=fun v hv h1 h2=>by
     rcases ge v hv h1 h2 with h3 | h3
     ·exact .inl ⟨h3.1,.inr rfl⟩
     ·omega
    ho:=fun v hv _=>.inr (.inl rfl)
    wn:=fun hc=>by simp only at hc;omega
    wz:=fun _ _=>rfl
    wr:=fun v hv=>(by cases hv)
    wd:=List.nodup_nil
    wh:=fun _ v hv=>.inr (hall v hv)}
  ·have:LOk (wOf s l.2.1) (l.2.1,(l.2.2.1,(2,((cOf s l.2.1).2.2.2.1,[])))) (fun v=>hOf s v l.2.1) a:=by
    rw [e1]
    have ha:LOk (wOf s l.2.1) (cOf s l.2.1) (fun v=>hOf s v l.2.1) a:=ha
    unfold LOk at ha ⊢
    rcases ha with ha | ⟨e,hn,h1,h2,h3⟩ | ⟨e,hn,h1,h2,h3⟩ | ha | ⟨e,h1,h2,h3⟩ | ⟨e,h1,h2,h3⟩ | ⟨e,h1,h2,h3⟩
    ·exact .inl ha
    ·refine .inr (.inl ⟨e,hn,h1,h2,?_⟩)
     rcases h3 with h4 | h4 | h4
     ·exact .inl ⟨h4.1,.inr rfl⟩
     ·omega
     ·exact .inr (.inr h4)
    ·exact .inr (.inr (.inl ⟨e,hn,h1,h2,fun h5=>by have:=h3 h5;omega⟩))
    ·exact .inr (.inr (.inr (.inl ha)))
    ·exact .inr (.inr (.inr (.inr (.inl ⟨e,h1,h2,fun h5=>rfl⟩))))
    ·exact .inr (.inr (.inr (.inr (.inr (.inl ⟨e,h1,h2,fun h5=>by have:=h3 h5;omega⟩)))))
    ·exact .inr (.inr (.inr (.inr (.inr (.inr ⟨e,h1,h2,fun h5=>by have:=h3 h5;omega⟩)))))
   exact this
 |gone h hs hw M hM hm=>
  have e1:l.2.2.1=(cOf s l.2.1).2.1:=h.symm
  have hall:∀v,ndP v→(hOf s v l.2.1).2.2.1=(cOf s l.2.1).2.1:=fun v hv=>by
   have hnn:0≤(hOf s l.2.2.2.1 l.2.1).2.2.1∧(hOf s l.2.2.2.1 l.2.1).2.2.1≤(cOf s l.2.1).2.1:=hnn
   rcases gw (.inr (.inr hs)) v hv with h2 | h2
   ·by_cases e:v=l.2.2.2.1
    ·rw [e];omega
    ·have:v∈(cOf s l.2.1).2.2.2.2.erase l.2.2.2.1:=(zsL g.wd).2 ⟨e,h2⟩
     rw [hw] at this;cases this
   ·exact h2
  have hoff:∀v,ndP v→(hOf s v l.2.1).2.2.2=false:=fun v hv=>by
   rcases ge v hv (by omega) (hall v hv) with h3 | h3
   ·omega
   ·exact h3.1
  refine zur iv (c:=(l.2.1,(l.2.2.1,(5,((cOf s l.2.1).2.2.2.1,[]))))) hid (by simp) (zCZ hM iv.hold) (fun x hx=>.inl (hM.subset hx)) (fun x hne=>⟨fun hx=>((hm x).1 hx).1,fun hx=>(hm x).2 ⟨hx,hne⟩⟩) ?_ (fun a ha=>?_) _ (fun a ha=>⟨(zjR ha).1,zoL n1 ha⟩)
  ·show Gd k l.2.1 (wOf s l.2.1) (l.2.1,(l.2.2.1,(5,((cOf s l.2.1).2.2.2.1,[])))) (fun v=>hOf s v l.2.1) M
   rw [e1]
   exact {g with
    cz:=fun hz=>absurd (show (cOf s l.2.1).2.1=0 from hz) (by omega)
    cw:=fun h1 h2=>by
     have:=gcw h1 h2
     exact .inr (.inr (.inr (.inr ⟨rfl,.inl (by omega)⟩)))
    cl:=fun h1 h2=>by
     have:=gcl h1 h2
     omega
    lg:=fun x hx hi=>absurd hi ((hm x).1 hx).2
    lc:=fun hc=>by simp only at hc;omega
    he:=fun v hv h1 h2=>by
     rcases ge v hv h1 h2 with h3 | h3
     ·omega
     ·exact .inr ⟨h3.1,.inr rfl⟩
    ho:=fun v hv ho=>by
     have:=hoff v hv
     rw [this] at ho;cases ho
    wn:=fun hc=>by simp only at hc;omega
    wz:=fun _ _=>rfl
    wr:=fun v hv=>(by cases hv)
    wd:=List.nodup_nil
    wh:=fun hc=>by simp only at hc;omega}
  ·have:LOk (wOf s l.2.1) (l.2.1,(l.2.2.1,(5,((cOf s l.2.1).2.2.2.1,[])))) (fun v=>hOf s v l.2.1) a:=by
    rw [e1]
    have ha:LOk (wOf s l.2.1) (cOf s l.2.1) (fun v=>hOf s v l.2.1) a:=ha
    unfold LOk at ha ⊢
    rcases ha with ha | ⟨e,hn,h1,h2,h3⟩ | ⟨e,hn,h1,h2,h3⟩ | ha | ⟨e,h1,h2,h3⟩ | ⟨e,h1,h2,h3⟩ | ⟨e,h1,h2,h3⟩
    ·exact .inl ha
    ·refine .inr (.inl ⟨e,hn,h1,h2,.inr (.inr ?_)⟩)
     have:=hall _ hn
     show a.2.2.1 < (hOf s a.2.2.2.1 l.2.1).2.2.1
     rcases h3 with h4 | h4 | h4
     ·omega
     ·omega
     ·exact h4
    ·exact .inr (.inr (.inl ⟨e,hn,h1,h2,fun h5=>.inr rfl⟩))
    ·exact .inr (.inr (.inr (.inl ha)))
    ·exact .inr (.inr (.inr (.inr (.inl ⟨e,h1,h2,fun h5=>by have:=h3 h5;omega⟩))))
    ·exact .inr (.inr (.inr (.inr (.inr (.inl ⟨e,h1,h2,fun h5=>by have:=h3 h5;omega⟩)))))
    ·exact .inr (.inr (.inr (.inr (.inr (.inr ⟨e,h1,h2,fun h5=>rfl⟩)))))
   exact this
theorem zDa {w:Wi} {c:Ca} {h:Int→He} {l:Le} (hl:LOk w c h l) (hk:l.1=5∨l.1=6∨l.1=7):1≤l.2.2.1∧l.2.2.1≤c.2.1∧(l.2.2.1=c.2.1→(l.1=5∧c.2.2.1=2)∨(l.1=6∧c.2.2.1=3)∨(l.1=7∧c.2.2.1=5)):=by
 unfold LOk at hl
 rcases hl with ⟨e,_⟩ | ⟨e,_⟩ | ⟨e,_⟩ | ⟨e,_⟩ | ⟨e,h1,h2,h3⟩ | ⟨e,h1,h2,h3⟩ | ⟨e,h1,h2,h3⟩
 all_goals omega
theorem zyD {w w':Wi} {c:Ca} {h:Int→He} (hn:w'.2.1=w.2.1) (hx:w'.2.2.2.1=w.2.2.2.1) (hs:(w.2.2.1=1∧(w'.2.2.1=2∨w'.2.2.1=3))∨(w.2.2.1=4∧w'.2.2.1=5)):∀l,LOk w c h l→LOk w' c h l:=by
 intro l hl
 unfold LOk at hl ⊢
 rcases hl with ⟨e,h1,h2,h3⟩ | hl
 ·refine .inl ⟨e,h1,by omega,fun h4=>?_⟩
  rcases h3 (by omega) with ⟨a1,a2,a3⟩ | ⟨a1,a2⟩
  ·exact .inl ⟨a1,by omega,by rw [hx];exact a3⟩
  ·exact .inr ⟨a1,by omega⟩
 ·exact .inr hl
theorem zGB {w w':Wi} {c:Ca} {h:Int→He} (hn:w.2.1 < w'.2.1):∀l,LOk w c h l→LOk w' c h l:=by
 intro l hl
 unfold LOk at hl ⊢
 rcases hl with ⟨e,h1,h2,h3⟩ | hl
 ·exact .inl ⟨e,h1,by omega,fun h4=>by omega⟩
 ·exact .inr hl
theorem Iv.ans {k:Int} {s:Sig} (iv:Iv k s) {l:Le} (hl:zcx s l) (hk:l.1=5∨l.1=6∨l.1=7) {s':Sig} (hs:Uo s l s'):Iv k s':=by
 obtain ⟨hid,hl⟩:=hl
 have g:=iv.g l.2.1 hid
 obtain ⟨n1,n2,n3⟩:=zDa hl hk
 have hwi:=zyz s l.2.1
 have gc0:=g.c0
 have gcw:=g.cw
 have gst:=g.st
 have gn0:=g.n0
 cases hs with
 |old h=>exact iv
 |ready h hs hk5=>
  have hc:(cOf s l.2.1).2.2.1=2:=by have:=n3 (by omega);omega
  have e:snds (setW s (l.2.1,((wOf s l.2.1).2.1,(2,(wOf s l.2.1).2.2.2)))) []=setW s (l.2.1,((wOf s l.2.1).2.1,(2,(wOf s l.2.1).2.2.2))):=rfl
  rw [←e]
  refine zoK iv (Int.le_refl k) (w:=(l.2.1,((wOf s l.2.1).2.1,(2,(wOf s l.2.1).2.2.2)))) hid ?_ (zyD rfl rfl (.inl ⟨hs,.inl rfl⟩)) [] (fun a ha=>by cases ha)
  show Gd k l.2.1 (l.2.1,((wOf s l.2.1).2.1,(2,(wOf s l.2.1).2.2.2))) (cOf s l.2.1) (fun v=>hOf s v l.2.1) (led s)
  exact {g with
   z:=fun hz=>absurd (show (wOf s l.2.1).2.1=0 from hz) (by omega)
   st:=fun h1=>⟨by simp only;omega,(gst h1).2⟩
   cz:=fun hz=>by omega
   cw:=fun h1 h2=>.inr (.inl ⟨hc,.inr rfl⟩)
   cl:=fun h1 h2=>by simp only at h2;omega}
 |fail h hs hk6=>
  have hc:(cOf s l.2.1).2.2.1=3:=by have:=n3 (by omega);omega
  have e:snds (setW s (l.2.1,((wOf s l.2.1).2.1,(3,((wOf s l.2.1).2.2.2.1,l.2.2.2.2.2.2))))) []=setW s (l.2.1,((wOf s l.2.1).2.1,(3,((wOf s l.2.1).2.2.2.1,l.2.2.2.2.2.2)))):=rfl
  rw [←e]
  refine zoK iv (Int.le_refl k) (w:=(l.2.1,((wOf s l.2.1).2.1,(3,((wOf s l.2.1).2.2.2.1,l.2.2.2.2.2.2))))) hid ?_ (zyD rfl rfl (.inl ⟨hs,.inr rfl⟩)) [] (fun a ha=>by cases ha)
  show Gd k l.2.1 (l.2.1,((wOf s l.2.1).2.1,(3,((wOf s l.2.1).2.2.2.1,l.2.2.2.2.2.2)))) (cOf s l.2.1) (fun v=>hOf s v l.2.1) (led s)
  exact {g with
   z:=fun hz=>absurd (show (wOf s l.2.1).2.1=0 from hz) (by omega)
   st:=fun h1=>⟨by simp only;omega,(gst h1).2⟩
   cz:=fun hz=>by omega
   cw:=fun h1 h2=>.inr (.inr (.inl ⟨hc,.inr rfl⟩))
   cl:=fun h1 h2=>by simp only at h2;omega}
 |gone h hs hk7=>
  have hc:(cOf s l.2.1).2.2.1=5:=by have:=n3 (by omega);omega
  have e:snds (setW s (l.2.1,((wOf s l.2.1).2.1,(5,(wOf s l.2.1).2.2.2)))) []=setW s (l.2.1,((wOf s l.2.1).2.1,(5,(wOf s l.2.1).2.2.2))):=rfl
  rw [←e]
  refine zoK iv (Int.le_refl k) (w:=(l.2.1,((wOf s l.2.1).2.1,(5,(wOf s l.2.1).2.2.2)))) hid ?_ (zyD rfl rfl (.inr ⟨hs,rfl⟩)) [] (fun a ha=>by cases ha)
  show Gd k l.2.1 (l.2.1,((wOf s l.2.1).2.1,(5,(wOf s l.2.1).2.2.2))) (cOf s l.2.1) (fun v=>hOf s v l.2.1) (led s)
  exact {g with
   z:=fun hz=>absurd (show (wOf s l.2.1).2.1=0 from hz) (by omega)
   st:=fun h1=>⟨by simp only;omega,(gst h1).2⟩
   cz:=fun hz=>by omega
   cw:=fun h1 h2=>.inr (.inr (.inr (.inr ⟨hc,.inr rfl⟩)))
   cl:=fun h1 h2=>by simp only at h2;omega}
theorem Iv.step {k:Int} {s:Sig} (iv:Iv k s) {l:Le} (hl:zcx s l) {s':Sig} (hs:Xg s l s'):Iv k s':=by
 cases hs with
 |ask h hs=>exact iv.ask hl h hs
 |ins h hs=>exact iv.ins hl h hs
 |done h hs=>exact iv.done hl h hs
 |ans h hs=>exact iv.ans hl h hs
theorem zEY {w:Wi} {c:Ca} {h:Int→He} {l:Le} (hl:LOk w c h l):l.1=1∨l.1=2∨l.1=3∨l.1=4∨l.1=5∨l.1=6∨l.1=7:=by
 unfold LOk at hl
 rcases hl with ⟨e,_⟩ | ⟨e,_⟩ | ⟨e,_⟩ | ⟨e,_⟩ | ⟨e,_⟩ | ⟨e,_⟩ | ⟨e,_⟩<;>omega
theorem Iv.led12 {k:Int} {s:Sig} (iv:Iv k s):(led s).length≤12:=(zhc iv.hold).n12
theorem zBs {k:Int} {s:Sig} (iv:Iv k s) {l:Le} (hl:zcx s l):qB (vq s (l,())) fun r=>Xg s l r.1:=by
 obtain ⟨hid,hl2⟩:=hl
 have g:=iv.g l.2.1 hid
 have hn:=iv.led12
 rw [zeu];unfold WR
 have ins:l.1=2∨l.1=3→qB (opt (opt (jY s (l,())) fun x2=>some (0,((x2.1,(l,())),()))) fun (x3:Nat×((Sig×(Le×Unit))×Unit))=>some (x3.2.1.1,())) fun r=>Xg s l r.1:=fun hk=>
  zn (zq (zC5 iv.sh hid) fun r hr=>zd (zd (Xg.ins hk hr)))
 have ans:l.1=5∨l.1=6∨l.1=7→qB (opt (opt (yw s (l,())) fun x2=>some (0,((x2.1,(l,())),()))) fun (x3:Nat×((Sig×(Le×Unit))×Unit))=>some (x3.2.1.1,())) fun r=>Xg s l r.1:=fun hk=>
  zn (zq (zC7 iv.sh hid) fun r hr=>zd (zd (Xg.ans hk hr)))
 have ne:∀a b:Int,a≠b→zj a b=false:=fun a b h=>jx h
 rcases zEY hl2 with h | h | h | h | h | h | h
 ·refine zi (yJ h.symm) (zn (zq (zC4 iv.sh (fun x hx=>(iv.lr x hx).2) hid (fun hlt hw=>?_) (by omega)) fun r hr=>zd (zd (Xg.ask h hr))))
  obtain ⟨a1,a2,⟨_,a3,a4,a5⟩ | ⟨a3,_⟩⟩:=Wr g hl2 h hlt
  ·rw [a4];exact (g.st (by omega)).2.2
  ·rw [hw] at a3;cases a3
 ·exact zg (ne _ _ (by omega)) (zi (yJ h.symm) (ins (.inl h)))
 ·exact zg (ne _ _ (by omega)) (zg (ne _ _ (by omega)) (zi (yJ h.symm) (ins (.inr h))))
 ·exact zg (ne _ _ (by omega)) (zg (ne _ _ (by omega)) (zg (ne _ _ (by omega)) (zi (yJ h.symm) (zn (zq (zBq iv.sh hid iv.hold (fun h4=>g.lc (.inr (.inr h4)))) fun r hr=>zd (zd (Xg.done h hr)))))))
 ·exact zg (ne _ _ (by omega)) (zg (ne _ _ (by omega)) (zg (ne _ _ (by omega)) (zg (ne _ _ (by omega)) (zi (yJ h.symm) (ans (.inl h))))))
 ·exact zg (ne _ _ (by omega)) (zg (ne _ _ (by omega)) (zg (ne _ _ (by omega)) (zg (ne _ _ (by omega)) (zg (ne _ _ (by omega)) (zi (yJ h.symm) (ans (.inr (.inl h))))))))
 ·exact zg (ne _ _ (by omega)) (zg (ne _ _ (by omega)) (zg (ne _ _ (by omega)) (zg (ne _ _ (by omega)) (zg (ne _ _ (by omega)) (zg (ne _ _ (by omega)) (zi (yJ h.symm) (ans (.inr (.inr h)))))))))
inductive HTr (s:Sig) (kd n:Int):Sig×Int×Unit→Prop
 |bad (h:n < 0∨((wir s).length:Int)≤n):HTr s kd n (s,2,())
 |copy (l:Le) (hl:l∈wir s) (h:kd=5):HTr s kd n (snds s [l],0,())
 |lose (i:Nat) (hi:i < (wir s).length) (h:n=(i:Int)) (h:kd≠5) (h:kd≠3):HTr s kd n (upX s ((wir s).take i++(wir s).drop (i+1)),0,())
 |deliver (i:Nat) (h:n=(i:Int)) (h:kd=3) (l:Le) (hl:(wir s)[i]?=some l) (s':Sig) (hs:Xg (upX s ((wir s).take i++(wir s).drop (i+1))) l s'):HTr s kd n (s',0,())
theorem zEZ {x:List Le} {i:Nat} {l:Le} (h:l∈x.take i++x.drop (i+1)):l∈x:=by
 rcases List.mem_append.1 h with h | h
 ·exact List.mem_of_mem_take h
 ·exact List.mem_of_mem_drop h
theorem Iv.rest {k:Int} {s:Sig} (iv:Iv k s) (i:Nat):Iv k (upX s ((wir s).take i++(wir s).drop (i+1))):=by
 have:=iv.sh.x
 exact iv.less (by rw [List.length_append,List.length_take,List.length_drop];omega) fun l hl=>zEZ hl
theorem zDb {k:Int} {s:Sig} (iv:Iv k s) (kd n:Int):qB (jw s (kd,(n,()))) (HTr s kd n):=by
 have hx:=iv.sh.x
 rw [zck];unfold Jb
 by_cases h0:n < 0
 ·exact zn (zi (qD h0) (zd (zg rfl (zd (.bad (.inl h0))))))
 by_cases h1:n < ((wir s).length:Int)
 rotate_left
 ·exact zn (zg (qm h0) (zi (by rw [qm h1];rfl) (zd (zg rfl (zd (.bad (.inr (by omega))))))))
 obtain ⟨i,rfl⟩:∃i:Nat,n=(i:Int):=⟨n.toNat,by omega⟩
 have hi:i < (wir s).length:=by omega
 have hl:(wir s)[i]?=some (wir s)[i]:=List.getElem?_eq_getElem hi
 generalize (wir s)[i]=l at hl
 refine zn (zg (qm h0) (zg (by rw [qD h1];rfl) (zd (zi rfl (zn (qh (n:=i) hl ?_))))))
 refine zt (fun h=>?_) (fun h=>?_)
 ·rw [zhe,zK]
  exact zd (.copy l (QN hl) (jJ h))
 have hne:=wH h
 rw [show yc (s.2.2.2.2.2,((i:Int),()))=_ from zGy hi (by show (wir s).length≤_;omega),zK]
 refine zq (J:=fun x=>(x.2.1.1,(0,()))=(x.2.1.1,(0,()))∧HTr s kd i (x.2.1.1,(0,()))) ?_ (fun x hx=>zd hx.2)
 refine zt (fun h=>?_) (fun h=>?_)
 ·have hlo:=iv.l l (QN hl)
  refine zq (zBs (iv.rest i) (l:=l) hlo) fun r hr=>zd ⟨rfl,.deliver i rfl (jJ h) l hl _ hr⟩
 ·exact zd ⟨rfl,.lose i hi rfl hne (wH h)⟩
theorem Iv.tr {k:Int} {s:Sig} (iv:Iv k s) {kd n:Int} {r:Sig×Int×Unit} (h:HTr s kd n r):Iv k r.1:=by
 cases h with
 |bad h=>exact iv
 |copy l hl h=>exact iv.send _ fun a ha=>by rw [List.mem_singleton.1 ha];exact iv.l l hl
 |lose i hi h h2 h3=>exact iv.rest i
 |deliver i h h2 l hl s' hs=>exact (iv.rest i).step (l:=l) (iv.l l (QN hl)) hs
def gD (s:Sig):List Le:=(wis s).flatMap Yq++(cas s).flatMap QF
theorem zvm {α β:Type} {l:List α} {f:α→List β} {i:Nat} {a:α} (h:l[i]?=some a):(l.take (i+1)).flatMap f=(l.take i).flatMap f++f a:=by
 have hi:i < l.length:=by
  rcases Nat.lt_or_ge i l.length with h2 | h2
  ·exact h2
  ·rw [List.getElem?_eq_none h2] at h;cases h
 rw [List.take_succ_eq_append_getElem hi,List.flatMap_append]
 rw [List.getElem?_eq_getElem hi] at h
 rw [Option.some.inj h]
 simp
theorem zyE {s:Sig} (sh:Shp s):wW s ()=some (snds s (gD s),()):=by
 have hw:=sh.lW
 have hc:=sh.lC
 rw [zf0];unfold Xu
 refine xr (zq (J:=fun x=>x.2.1.1=snds s ((wis s).flatMap Yq)) (qG (wis s).length (fun i st=>st=((snds s (((wis s).take i).flatMap Yq),((i:Int),())),())) (by omega) rfl ?_ ?_) ?_)
 ·rintro i _ hi rfl
  have hx:(wis s)[i]?=some (wis s)[i]:=List.getElem?_eq_getElem hi
  generalize (wis s)[i]=w at hx
  refine zi (qD (show (i:Int) < (((wis s).length:Nat):Int) by omega)) (zn (qh (n:=i) hx ?_))
  rw [zzc,zK]
  refine zd (ji ?_)
  rw [qX (by omega),zvm hx,zk3]
 ·rintro _ rfl
  rw [List.take_length]
  exact zg (qm (show ¬(((wis s).length:Nat):Int) < (((wis s).length:Nat):Int) by omega)) (zd (zE rfl))
 rintro ⟨j,⟨q,n,⟨⟩⟩,⟨⟩⟩ hq
 simp only at hq
 subst hq
 refine zq (J:=fun x=>x.2.1.1=snds s (gD s)) (qG (cas s).length (fun i st=>st=((snds s ((wis s).flatMap Yq++((cas s).take i).flatMap QF),((i:Int),())),())) (by omega) ?_ ?_ ?_) ?_
 ·show _=((snds s ((wis s).flatMap Yq++[]),_),_)
  rw [List.append_nil];rfl
 ·rintro i _ hi rfl
  have hx:(cas s)[i]?=some (cas s)[i]:=List.getElem?_eq_getElem hi
  generalize (cas s)[i]=c at hx
  have hwl:=(sh.bC c (QN hx)).2
  refine zi (qD (show (i:Int) < (((cas s).length:Nat):Int) by omega)) (zn (qh (n:=i) hx ?_))
  rw [znV _ (by omega),zK]
  refine zd (ji ?_)
  rw [qX (by omega),zvm hx,←List.append_assoc,zk3 _ ((wis s).flatMap Yq++_)]
 ·rintro _ rfl
  rw [List.take_length]
  exact zg (qm (show ¬(((cas s).length:Nat):Int) < (((cas s).length:Nat):Int) by omega)) (zd (zE rfl))
 ·rintro ⟨j,⟨q,n,⟨⟩⟩,⟨⟩⟩ hq
  simp only at hq
  subst hq
  exact zd rfl
theorem zf8 {w:Wi} {l:Le} (h:l∈Yq w):l.1=1∧l.2.1=w.1∧l.2.2.1=w.2.1∧((w.2.2.1=1∧l.2.2.2.2.1=true∧l.2.2.2.2.2.1=w.2.2.2.1)∨(w.2.2.1=4∧l.2.2.2.2.1=false)):=by
 unfold Yq at h
 by_cases h1:w.2.2.1=1
 ·rw [if_pos h1] at h;rw [List.mem_singleton.1 h];exact ⟨rfl,rfl,rfl,.inl ⟨h1,rfl,rfl⟩⟩
 rw [if_neg h1] at h
 by_cases h4:w.2.2.1=4
 ·rw [if_pos h4] at h;rw [List.mem_singleton.1 h];exact ⟨rfl,rfl,rfl,.inr ⟨h4,rfl⟩⟩
 rw [if_neg h4] at h;cases h
theorem zut {w:Wi} {c:Ca} {h:Int→He} {l:Le} (h1:1≤w.2.1) (hl:l∈Yq w):LOk w c h l:=by
 obtain ⟨e1,e2,e3,e4⟩:=zf8 hl
 unfold LOk
 refine .inl ⟨e1,by omega,by omega,fun _=>?_⟩
 rcases e4 with ⟨a,b,c⟩ | ⟨a,b⟩
 ·exact .inl ⟨b,.inl a,c⟩
 ·exact .inr ⟨b,.inl a⟩
theorem znY {s:Sig} (sh:Shp s) {w:Wi} (hw:w∈wis s):wOf s w.1=w:=znT sh.sW hw rfl _
theorem zyF {s:Sig} (sh:Shp s) {c:Ca} (hc:c∈cas s):cOf s c.1=c:=znT sh.sC hc rfl _
theorem zGC {k:Int} {s:Sig} (iv:Iv k s):∀l∈gD s,zcx s l:=by
 intro l hl
 rcases List.mem_append.1 hl with hl | hl
 ·obtain ⟨w,hw,hl⟩:=List.mem_flatMap.1 hl
  have e:=(zf8 hl).2.1
  have hid:=iv.sh.bW w hw
  have g:=iv.g w.1 hid
  rw [znY iv.sh hw] at g
  have hn:1≤w.2.1:=by
   have:=g.n0;have:=g.z
   rcases (zf8 hl).2.2.2 with ⟨a,_⟩ | ⟨a,_⟩<;>omega
  refine ⟨by rw [e];exact hid,?_⟩
  rw [e,znY iv.sh hw]
  exact zut hn hl
 ·obtain ⟨c,hc,hl⟩:=List.mem_flatMap.1 hl
  have e:=(zhf hl).1
  have hid:=(iv.sh.bC c hc).1
  have g:=iv.g c.1 hid
  rw [zyF iv.sh hc] at g
  have hn:1≤c.2.1:=by
   have:=g.c0;have:=g.cz
   rcases (zhf hl).2.2.2 with ⟨a,_⟩ | ⟨a,_⟩<;>omega
  refine ⟨by rw [e];exact hid,?_⟩
  rw [e,zyF iv.sh hc]
  exact zus hn g.wr hl
theorem Iv.tick {k:Int} {s:Sig} (iv:Iv k s):Iv k (snds s (gD s)):=iv.send _ (zGC iv)
inductive HAs (s:Sig) (x:qx):Sig×Int×Unit→Prop
 |bad (h:x.1 < 1∨4095 < x.1):HAs s x (s,2,())
 |twice (h:(wOf s x.1).2.2.1=1∨(wOf s x.1).2.2.1=2∨(wOf s x.1).2.2.1=4):HAs s x (s,322,())
 |ok (h:(wOf s x.1).2.2.1≠1∧(wOf s x.1).2.2.1≠2∧(wOf s x.1).2.2.1≠4):HAs s x (snds (setW s (x.1,((wOf s x.1).2.1+1,(1,(x,0))))) (Yq (x.1,((wOf s x.1).2.1+1,(1,(x,0))))),0,())
theorem Iv.as {k:Int} {s:Sig} (iv:Iv k s) {x:qx} (hx:idP x.1∧ziQ x) {r:Sig×Int×Unit} (h:HAs s x r):Iv (k+1) r.1:=by
 have g:=iv.g x.1 hx.1
 have lift:Iv (k+1) s:=⟨iv.sh,iv.hold,iv.lr,fun id hid=>(iv.g id hid).mono (by omega),iv.l⟩
 cases h with
 |bad h=>exact lift
 |twice h=>exact lift
 |ok h=>
  have gn:=g.n0;have gz:=g.z;have gst:=g.st;have gc:=g.c0;have gcz:=g.cz;have gcw:=g.cw;have gcl:=g.cl
  have hst:(wOf s x.1).2.1=0∨((wOf s x.1).2.2.1=3∨(wOf s x.1).2.2.1=5):=by
   by_cases hz:(wOf s x.1).2.1=0
   ·exact .inl hz
   ·have:=(gst (by omega)).1
    omega
  have hcc:(cOf s x.1).2.1=(wOf s x.1).2.1∧((cOf s x.1).2.2.1=0∨(cOf s x.1).2.2.1=3∨(cOf s x.1).2.2.1=5):=by
   rcases hst with hz | hz
   ·have:=gz hz
    have:=gcz this.2
    omega
   ·have hn:1≤(wOf s x.1).2.1:=by
     rcases Int.lt_or_le 0 (wOf s x.1).2.1 with h2 | h2
     ·omega
     ·have:=gz (by omega);omega
    rcases Int.lt_or_le 0 (cOf s x.1).2.1 with h2 | h2
    ·rcases gc.2 with h3 | h3
     ·have:=gcw (by omega) h3;omega
     ·have:=gcl (by omega) (by omega);omega
    ·have:=(gcz (by omega)).2 hn;omega
  refine zoK iv (k':=k+1) (by omega) (w:=(x.1,((wOf s x.1).2.1+1,(1,(x,0))))) hx.1 ?_ (zGB (w':=(x.1,((wOf s x.1).2.1+1,(1,(x,0))))) (by show (wOf s x.1).2.1 < (wOf s x.1).2.1+1;omega)) _ (fun a ha=>⟨(zf8 ha).2.1,zut (by show 1≤(wOf s x.1).2.1+1;omega) ha⟩)
  show Gd (k+1) x.1 (x.1,((wOf s x.1).2.1+1,(1,(x,0)))) (cOf s x.1) (fun v=>hOf s v x.1) (led s)
  exact {g with
   n0:=⟨by simp only;omega,by simp only;omega⟩
   z:=fun hz=>absurd (show (wOf s x.1).2.1+1=0 from hz) (by omega)
   st:=fun _=>⟨by simp only;omega,rfl,hx.2⟩
   c0:=⟨gc.1,.inr (by simp only;omega)⟩
   cz:=fun hz=>⟨(gcz hz).1,fun _=>rfl⟩
   cw:=fun h1 h2=>by simp only at h2;omega
   cl:=fun h1 h2=>.inl ⟨rfl,by have:=gst;have:=gcw;omega⟩
   lg:=fun y hy hi=>by have:=(g.lg y hy hi).2;omega}
def s0:Sig:=(Un,([],([],([],([],[])))))
def wt (l:Le):Nat:=if l.1=1 then 13 else if l.1=2∨l.1=3 then 3 else if l.1=4 then 2 else 1
def phi (x:List Le):Nat:=(x.map wt).sum
theorem zcy (l:Le):1≤wt l:=by unfold wt;split<;>(try split)<;>(try split)<;>omega
theorem zHA (l:Le):wt l≤13:=by unfold wt;split<;>(try split)<;>(try split)<;>omega
theorem GM:phi []=0:=rfl
theorem za6 (l:Le) (x:List Le):phi (l::x)=wt l+phi x:=by unfold phi;rw [List.map_cons,List.sum_cons]
theorem zoM (x y:List Le):phi (x++y)=phi x+phi y:=by unfold phi;rw [List.map_append,List.sum_append]
theorem ZF (x:List Le):x.length≤phi x:=by
 induction x with
 |nil=>exact Nat.le_refl _
 |cons l x ih=>rw [za6,List.length_cons];have:=zcy l;omega
theorem zzZ (x:List Le):phi x≤13*x.length:=by
 induction x with
 |nil=>exact Nat.le_refl _
 |cons l x ih=>rw [za6,List.length_cons];have:=zHA l;omega
theorem zE0 (ls:List Le):∀x:List Le,phi (JR x ls)≤phi x+phi ls:=by
 induction ls with
 |nil=>intro x;exact Nat.le_refl _
 |cons l ls ih=>
  intro x
  have h1:=ih (za5 x l)
  have h2:phi (za5 x l)≤phi x+wt l:=by
   unfold za5
   split
   ·rw [zoM,za6,GM];omega
   ·omega
  show phi (JR (za5 x l) ls)≤_
  rw [za6]
  omega
theorem Uf (c:Ca):phi (xT c)≤1:=by
 unfold xT
 split
 ·exact Nat.le_refl _
 split
 ·exact Nat.le_refl _
 split
 ·exact Nat.le_refl _
 ·exact Nat.zero_le _
theorem zvn {s:Sig} {l:Le} {s':Sig} (h:Xg s l s'):∃X,wir s'=JR (wir s) X∧phi X+1≤wt l:=by
 cases h with
 |ask hk hs=>
  have e:wt l=13:=by unfold wt;rw [if_pos hk]
  rw [e]
  cases hs with
  |old h=>exact ⟨[],rfl,by rw [GM];omega⟩
  |same h=>exact ⟨_,rfl,by have:=Uf (cOf s l.2.1);omega⟩
  |fail h hw e he ha=>exact ⟨_,rfl,by have:=Uf (l.2.1,(l.2.2.1,(3,(e,[]))));omega⟩
  |put h hw ha hh=>exact ⟨_,rfl,Nat.le_refl _⟩
  |gone h hw hx=>exact ⟨_,rfl,by have:=Uf (l.2.1,(l.2.2.1,(5,(0,[]))));omega⟩
  |drop h hw x hx hi=>exact ⟨_,rfl,Nat.le_refl _⟩
 |ins hk hs=>
  have e:wt l=3:=by unfold wt;rw [if_neg (by omega),if_pos hk]
  rw [e]
  cases hs with
  |old h=>exact ⟨[],rfl,by rw [GM];omega⟩
  |new h=>exact ⟨_,rfl,Nat.le_refl _⟩
 |done hk hs=>
  have e:wt l=2:=by unfold wt;rw [if_neg (by omega),if_neg (by omega),if_pos hk]
  rw [e]
  cases hs with
  |old h=>exact ⟨[],rfl,by rw [GM];omega⟩
  |wait h hs hw=>exact ⟨[],rfl,by rw [GM];omega⟩
  |ready h hs hw=>exact ⟨_,rfl,by have:=Uf (l.2.1,(l.2.2.1,(2,((cOf s l.2.1).2.2.2.1,[]))));omega⟩
  |gone h hs hw M hM hm=>exact ⟨_,rfl,by have:=Uf (l.2.1,(l.2.2.1,(5,((cOf s l.2.1).2.2.2.1,[]))));omega⟩
 |ans hk hs=>
  have:=zcy l
  cases hs with
  |old h=>exact ⟨[],rfl,by rw [GM];omega⟩
  |ready h hs hk=>exact ⟨[],rfl,by rw [GM];omega⟩
  |fail h hs hk=>exact ⟨[],rfl,by rw [GM];omega⟩
  |gone h hs hk=>exact ⟨[],rfl,by rw [GM];omega⟩
theorem zpG {J:Sig→Prop} {k:Int} (hJ:∀s,J s→Iv k s) (step:∀s l X s',J s→wir s=l::X→Xg (upX s X) l s'→J s') {s:Sig} (h:J s):qB (yP s ()) fun r=>J r.1∧wir r.1=[]:=by
 rw [zbC];unfold QB
 refine zq (J:=fun x=>J x.2.1.1∧wir x.2.1.1=[]) (zvc (fun st=>J st.1.1) _ (fun st=>phi (wir st.1.1)) h ?_ ?_) ?_
 ·have:=(hJ s h).sh.x
  have:=zzZ (wir s)
  show phi (wir s) < _
  omega
 ·rintro ⟨⟨q,⟨⟩⟩,⟨⟩⟩ hq
  have hq:J q:=hq
  refine zq (zDb (hJ q hq) 3 0) ?_
  intro r hr
  cases hr with
  |bad hb=>
   have he:wir q=[]:=List.length_eq_zero_iff.1 (by omega)
   exact zi rfl (zd (zvb ⟨hq,he⟩))
  |copy l hl h5=>exact absurd h5 (by decide)
  |lose i hi h0 h5 h3=>exact absurd rfl h3
  |deliver i h0 h3 l hl s' hs=>
   have h0:i=0:=by omega
   subst h0
   cases hw:wir q with
   |nil=>rw [hw] at hl;cases hl
   |cons a X=>
    rw [hw] at hl
    cases hl
    have e:(wir q).take 0++(wir q).drop (0+1)=X:=by rw [hw];rfl
    rw [e] at hs
    refine zg rfl (zd (zxS (step q l X s' hq hw hs) ?_))
    obtain ⟨Y,e1,e2⟩:=zvn hs
    show phi (wir s') < phi (wir q)
    rw [e1,hw,za6]
    have:=zE0 Y X
    have e3:wir (upX q X)=X:=rfl
    rw [e3]
    omega
 ·rintro ⟨j,⟨q,⟨⟩⟩,⟨⟩⟩ hq
  exact zd hq
def Lv (id:Int) (w:Wi) (c:Ca) (X:List Le):Prop:=
 (w.2.2.1=1∨w.2.2.1=4)→
  (c.2.1 < w.2.1∧∃l∈X,l.1=1∧l.2.1=id∧l.2.2.1=w.2.1)∨
  (c.2.1=w.2.1∧(c.2.2.1=1∨c.2.2.1=4)∧∀v∈c.2.2.2.2,∃l∈X,l.2.1=id∧l.2.2.1=w.2.1∧l.2.2.2.1=v∧(l.1=2∨l.1=3∨l.1=4))∨
  (c.2.1=w.2.1∧(c.2.2.1=2∨c.2.2.1=3∨c.2.2.1=5)∧∃l∈X,l.2.1=id∧l.2.2.1=w.2.1∧(l.1=1∨l.1=5∨l.1=6∨l.1=7))
abbrev LvS (s:Sig):Prop:=∀id,idP id→Lv id (wOf s id) (cOf s id) (wir s)
theorem zHB {k id:Int} {w:Wi} {c:Ca} {h:Int→He} {L:List qx} (g:Gd k id w c h L) (hv:Lv id w c []):w.2.2.1≠1∧w.2.2.1≠4:=by
 apply Classical.byContradiction
 intro hn
 have hn:w.2.2.1=1∨w.2.2.1=4:=by omega
 rcases hv hn with ⟨_,l,hl,_⟩ | ⟨_,h2,h3⟩ | ⟨_,_,l,hl,_⟩
 ·cases hl
 ·have hw:=g.wn h2
  cases hc:c.2.2.2.2 with
  |nil=>exact hw hc
  |cons v r=>
   obtain ⟨l,hl,_⟩:=h3 v (by rw [hc];simp)
   cases hl
 ·cases hl
theorem Lv.mono {id:Int} {w:Wi} {c:Ca} {X Y:List Le} (hv:Lv id w c X) (h:∀l∈X,l.2.1=id→l∈Y):Lv id w c Y:=by
 intro hp
 rcases hv hp with ⟨h1,l,hl,a,b,d⟩ | ⟨h1,h2,h3⟩ | ⟨h1,h2,l,hl,a,b⟩
 ·exact .inl ⟨h1,l,h l hl b,a,b,d⟩
 ·refine .inr (.inl ⟨h1,h2,fun v hv=>?_⟩)
  obtain ⟨l,hl,a,b⟩:=h3 v hv
  exact ⟨l,h l hl a,a,b⟩
 ·exact .inr (.inr ⟨h1,h2,l,h l hl a,a,b⟩)
theorem zGD {c:Ca} (h:c.2.2.1=2∨c.2.2.1=3∨c.2.2.1=5):∃l∈xT c,l.2.1=c.1∧l.2.2.1=c.2.1∧(l.1=1∨l.1=5∨l.1=6∨l.1=7):=by
 unfold xT
 rcases h with h | h | h
 ·rw [if_pos h];exact ⟨_,List.mem_singleton.2 rfl,rfl,rfl,.inr (.inl rfl)⟩
 ·rw [if_neg (by omega),if_pos h];exact ⟨_,List.mem_singleton.2 rfl,rfl,rfl,.inr (.inr (.inl rfl))⟩
 ·rw [if_neg (by omega),if_neg (by omega),if_pos h];exact ⟨_,List.mem_singleton.2 rfl,rfl,rfl,.inr (.inr (.inr rfl))⟩
theorem zuu {c:Ca} (h:c.2.2.1=1∨c.2.2.1=4) {v:Int} (hv:v∈c.2.2.2.2):∃l∈QF c,l.2.1=c.1∧l.2.2.1=c.2.1∧l.2.2.2.1=v∧(l.1=2∨l.1=3∨l.1=4):=by
 unfold QF
 rcases h with h | h
 ·rw [if_pos h];exact ⟨_,List.mem_map.2 ⟨v,hv,rfl⟩,rfl,rfl,rfl,.inl rfl⟩
 ·rw [if_neg (by omega),if_pos h];exact ⟨_,List.mem_map.2 ⟨v,hv,rfl⟩,rfl,rfl,rfl,.inr (.inl rfl)⟩
theorem zk6 {s s':Sig} {l:Le} {X Y:List Le} {id:Int} (hne:id≠l.2.1) (hw:wir s=l::X) (e1:wOf s' id=wOf s id) (e2:cOf s' id=cOf s id) (e3:wir s'=X++Y) (hv:Lv id (wOf s id) (cOf s id) (wir s)):Lv id (wOf s' id) (cOf s' id) (wir s'):=by
 rw [e1,e2,e3]
 refine hv.mono fun a ha hi=>?_
 rw [hw] at ha
 rcases List.mem_cons.1 ha with rfl | ha
 ·exact absurd hi.symm hne
 ·exact List.mem_append.2 (.inl ha)
theorem LvS.step {k:Int} {s:Sig} {l:Le} {X:List Le} {s':Sig} (iv:Iv k s) (hp:phi (wir s)≤1024) (lv:LvS s) (hw:wir s=l::X) (hs:Xg (upX s X) l s'):LvS s'∧phi (wir s')≤1024:=by
 have hl:zcx s l:=iv.l l (by rw [hw];simp)
 obtain ⟨hid,hlo⟩:=hl
 have g:=iv.g l.2.1 hid
 have gn:=g.n0;have gc:=g.c0;have gcw:=g.cw;have gcl:=g.cl;have gcz:=g.cz;have gz:=g.z
 obtain ⟨Y,eY,hY⟩:=zvn hs
 have eX:wir (upX s X)=X:=rfl
 rw [eX] at eY
 have hlen:phi X+wt l≤1024:=by rw [hw,za6] at hp;omega
 have hall:JR X Y=X++Y:=WU Y (by have:=ZF X;have:=ZF Y;omega)
 rw [hall] at eY
 refine ⟨?_,by rw [eY,zoM];omega⟩
 have hid0:LvS s→∀id,idP id→id≠l.2.1→wOf s' id=wOf s id→cOf s' id=cOf s id→Lv id (wOf s' id) (cOf s' id) (wir s'):=fun lv id hi hne e1 e2=>zk6 hne hw e1 e2 eY (lv id hi)
 have hv:=lv l.2.1 hid
 rw [hw] at hv
 have stay:∀w c,w=wOf s l.2.1→c=cOf s l.2.1→((w.2.2.1=1∨w.2.2.1=4)→¬(l.2.2.1=w.2.1∧((c.2.1 < w.2.1∧l.1=1)∨(c.2.1=w.2.1∧(c.2.2.1=1∨c.2.2.1=4)∧l.2.2.2.1∈c.2.2.2.2∧(l.1=2∨l.1=3∨l.1=4))∨(c.2.1=w.2.1∧(c.2.2.1=2∨c.2.2.1=3∨c.2.2.1=5)∧(l.1=1∨l.1=5∨l.1=6∨l.1=7)))))→Lv l.2.1 w c (X++Y):=by
  rintro w c rfl rfl hno hpd
  have hno:=hno hpd
  rcases hv hpd with ⟨h1,a,ha,b1,b2,b3⟩ | ⟨h1,h2,h3⟩ | ⟨h1,h2,a,ha,b1,b2,b3⟩
  ·rcases List.mem_cons.1 ha with rfl | ha
   ·exact absurd ⟨b3,.inl ⟨h1,b1⟩⟩ hno
   ·exact .inl ⟨h1,a,List.mem_append.2 (.inl ha),b1,b2,b3⟩
  ·refine .inr (.inl ⟨h1,h2,fun v hv=>?_⟩)
   obtain ⟨a,ha,b1,b2,b3,b4⟩:=h3 v hv
   rcases List.mem_cons.1 ha with rfl | ha
   ·exact absurd ⟨b2,.inr (.inl ⟨h1,h2,by rw [b3];exact hv,b4⟩)⟩ hno
   ·exact ⟨a,List.mem_append.2 (.inl ha),b1,b2,b3,b4⟩
  ·rcases List.mem_cons.1 ha with rfl | ha
   ·exact absurd ⟨b2,.inr (.inr ⟨h1,h2,b3⟩)⟩ hno
   ·exact .inr (.inr ⟨h1,h2,a,List.mem_append.2 (.inl ha),b1,b2,b3⟩)
 have sh:Shp (upX s X):=iv.sh.upX (by have:=ZF X;have:=zcy l;omega)
 have setc:∀(q:Sig) (c:Ca) (Z:List Le),c.1=l.2.1→(∀j,wOf q j=wOf s j)→(∀j,cOf q j=if j=l.2.1 then c else cOf s j)→wir q=X++Y→(∀(e:wir q=X++Y),Lv l.2.1 (wOf s l.2.1) c (X++Y))→LvS q:=by
  intro q c Z hc e1 e2 e3 h id hi
  by_cases hne:id=l.2.1
  ·subst hne
   rw [e1,e2,if_pos rfl,e3]
   exact h e3
  ·exact zk6 hne hw (e1 id) (by rw [e2,if_neg hne]) e3 (lv id hi)
 have qa:wOf s'=wOf s→cOf s'=cOf s→Lv l.2.1 (wOf s l.2.1) (cOf s l.2.1) (X++Y)→LvS s':=by
  intro e1 e2 h id hi
  by_cases hne:id=l.2.1
  ·subst hne
   rw [e1,e2,eY];exact h
  ·exact zk6 hne hw (by rw [e1]) (by rw [e2]) eY (lv id hi)
 cases hs with
 |ask hk hs=>
  have n1:1≤l.2.2.1:=by
   unfold LOk at hlo
   rcases hlo with ⟨e,h1,h2,h3⟩ | ⟨e,_⟩ | ⟨e,_⟩ | ⟨e,_⟩ | ⟨e,_⟩ | ⟨e,_⟩ | ⟨e,_⟩
   ·exact h1
   all_goals (rw [hk] at e;exact absurd e (by decide))
  cases hs with
  |old h=>
   have h:l.2.2.1 < (cOf s l.2.1).2.1:=h
   exact qa rfl rfl (stay _ _ rfl rfl fun _=>by omega)
  |same h=>
   have h:l.2.2.1=(cOf s l.2.1).2.1:=h
   refine qa rfl rfl ?_
   have eA:Y=xT (cOf s l.2.1):=List.append_cancel_left (by
    rw [←eY]
    show JR X (xT (cOf s l.2.1))=_
    exact WU _ (by have:=ZF X;have:=ZF (xT (cOf s l.2.1));have:=Uf (cOf s l.2.1);have:=zcy l;omega))
   by_cases hst:(cOf s l.2.1).2.1=(wOf s l.2.1).2.1∧((cOf s l.2.1).2.2.1=2∨(cOf s l.2.1).2.2.1=3∨(cOf s l.2.1).2.2.1=5)
   ·intro _
    obtain ⟨a,ha,b1,b2,b3⟩:=zGD hst.2
    exact .inr (.inr ⟨hst.1,hst.2,a,List.mem_append.2 (.inr (by rw [eA];exact ha)),by rw [b1];exact znX s _,by rw [b2];exact hst.1,b3⟩)
   ·exact stay _ _ rfl rfl fun _=>by omega
  |fail h hw' e he ha=>
   have h:(cOf s l.2.1).2.1 < l.2.2.1:=h
   obtain ⟨a1,a2,_⟩:=Wr g hlo hk h
   refine setc _ (l.2.1,(l.2.2.1,(3,(e,[])))) [] rfl (fun j=>rfl) (fun j=>KT sh _ j) eY fun e3 _=>?_
   refine .inr (.inr ⟨a1,.inr (.inl rfl),(6,(l.2.1,(l.2.2.1,(0,(false,(zS,e)))))),?_,rfl,a1,.inr (.inr (.inl rfl))⟩)
   have e4:JR X (xT (l.2.1,(l.2.2.1,(3,(e,[])))))=X++Y:=e3
   rw [←e4,WU _ (by have:=ZF X;have:=ZF (xT (l.2.1,(l.2.2.1,(3,(e,[])))));have:=Uf (l.2.1,(l.2.2.1,(3,(e,[]))));have:=zcy l;omega)]
   exact List.mem_append.2 (.inr (List.mem_singleton.2 rfl))
  |put h hw' ha hh=>
   have h:(cOf s l.2.1).2.1 < l.2.2.1:=h
   obtain ⟨a1,a2,_⟩:=Wr g hlo hk h
   refine setc _ (l.2.1,(l.2.2.1,(1,(0,N4)))) [] rfl (fun j=>rfl) (fun j=>KT (sh.upL _) _ j) eY fun e3 _=>?_
   refine .inr (.inl ⟨a1,.inl rfl,fun v hv=>?_⟩)
   obtain ⟨a,ha,b1,b2,b3,b4⟩:=zuu (c:=(l.2.1,(l.2.2.1,(1,(0,N4))))) (.inl rfl) hv
   refine ⟨a,?_,b1,by rw [b2];exact a1,b3,b4⟩
   have e4:JR X (QF (l.2.1,(l.2.2.1,(1,(0,N4)))))=X++Y:=e3
   have ew:wt l=13:=by unfold wt;rw [if_pos hk]
   rw [←e4,WU _ (by have:=ZF X;show X.length+4≤1024;omega)]
   exact List.mem_append.2 (.inr ha)
  |gone h hw' hx=>
   have h:(cOf s l.2.1).2.1 < l.2.2.1:=h
   obtain ⟨a1,a2,_⟩:=Wr g hlo hk h
   refine setc _ (l.2.1,(l.2.2.1,(5,(0,[])))) [] rfl (fun j=>rfl) (fun j=>KT sh _ j) eY fun e3 _=>?_
   refine .inr (.inr ⟨a1,.inr (.inr rfl),(7,(l.2.1,(l.2.2.1,(0,(false,(zS,0)))))),?_,rfl,a1,.inr (.inr (.inr rfl))⟩)
   have e4:JR X (xT (l.2.1,(l.2.2.1,(5,(0,[])))))=X++Y:=e3
   rw [←e4,WU _ (by have:=ZF X;have:=ZF (xT (l.2.1,(l.2.2.1,(5,(0,[])))));have:=Uf (l.2.1,(l.2.2.1,(5,(0,[]))));have:=zcy l;omega)]
   exact List.mem_append.2 (.inr (List.mem_singleton.2 rfl))
  |drop h hw' x hx hi=>
   have h:(cOf s l.2.1).2.1 < l.2.2.1:=h
   obtain ⟨a1,a2,_⟩:=Wr g hlo hk h
   refine setc _ (l.2.1,(l.2.2.1,(4,(0,N4)))) [] rfl (fun j=>rfl) (fun j=>KT sh _ j) eY fun e3 _=>?_
   refine .inr (.inl ⟨a1,.inr rfl,fun v hv=>?_⟩)
   obtain ⟨a,ha,b1,b2,b3,b4⟩:=zuu (c:=(l.2.1,(l.2.2.1,(4,(0,N4))))) (.inr rfl) hv
   refine ⟨a,?_,b1,by rw [b2];exact a1,b3,b4⟩
   have e4:JR X (QF (l.2.1,(l.2.2.1,(4,(0,N4)))))=X++Y:=e3
   have ew:wt l=13:=by unfold wt;rw [if_pos hk]
   rw [←e4,WU _ (by have:=ZF X;show X.length+4≤1024;omega)]
   exact List.mem_append.2 (.inr ha)
 |ins hk hs=>
  obtain ⟨hn,n1,n2,hcase⟩:=zC9 hlo hk
  have hnn:=g.hn l.2.2.2.1 hn
  have hnn:0≤(hOf s l.2.2.2.1 l.2.1).2.2.1∧(hOf s l.2.2.2.1 l.2.1).2.2.1≤(cOf s l.2.1).2.1:=hnn
  cases hs with
  |old h=>
   have h:l.2.2.1 < (hOf s l.2.2.2.1 l.2.1).2.2.1:=h
   exact qa rfl rfl (stay _ _ rfl rfl fun _=>by omega)
  |new h=>
   refine qa rfl rfl fun hpd=>?_
   have e4:JR X [((4,(l.2.1,(l.2.2.1,(l.2.2.2.1,(false,(zS,0)))))):Le)]=X++Y:=eY
   have e5:X++Y=X++[((4,(l.2.1,(l.2.2.1,(l.2.2.2.1,(false,(zS,0)))))):Le)]:=by
    rw [←e4];exact WU _ (by have:=ZF X;have:=zcy l;simp only [List.length_cons,List.length_nil];omega)
   rw [e5]
   have keepM:∀a∈X,a∈X++[((4,(l.2.1,(l.2.2.1,(l.2.2.2.1,(false,(zS,0)))))):Le)]:=fun a ha=>List.mem_append.2 (.inl ha)
   rcases hv hpd with ⟨h1,a,ha,b1,b2,b3⟩ | ⟨h1,h2,h3⟩ | ⟨h1,h2,a,ha,b1,b2,b3⟩
   ·rcases List.mem_cons.1 ha with rfl | ha
    ·omega
    ·exact .inl ⟨h1,a,keepM a ha,b1,b2,b3⟩
   ·refine .inr (.inl ⟨h1,h2,fun v hv=>?_⟩)
    obtain ⟨a,ha,b1,b2,b3,b4⟩:=h3 v hv
    rcases List.mem_cons.1 ha with rfl | ha
    ·exact ⟨_,List.mem_append.2 (.inr (List.mem_singleton.2 rfl)),rfl,b2,b3,.inr (.inr rfl)⟩
    ·exact ⟨a,keepM a ha,b1,b2,b3,b4⟩
   ·rcases List.mem_cons.1 ha with rfl | ha
    ·omega
    ·exact .inr (.inr ⟨h1,h2,a,keepM a ha,b1,b2,b3⟩)
 |done hk hs=>
  obtain ⟨hn,n1,n2⟩:ndP l.2.2.2.1∧1≤l.2.2.1∧l.2.2.1≤(hOf s l.2.2.2.1 l.2.1).2.2.1:=by
   unfold LOk at hlo
   rcases hlo with ⟨e,_⟩ | ⟨e,_⟩ | ⟨e,_⟩ | ⟨e,hn,h1,h2⟩ | ⟨e,_⟩ | ⟨e,_⟩ | ⟨e,_⟩
   ·omega
   ·omega
   ·omega
   ·exact ⟨hn,h1,h2⟩
   all_goals omega
  cases hs with
  |old h=>
   have h:(cOf s l.2.1).2.1≠l.2.2.1∨((cOf s l.2.1).2.2.1≠1∧(cOf s l.2.1).2.2.1≠4):=h
   exact qa rfl rfl (stay _ _ rfl rfl fun _=>by omega)
  |wait h hs hw'=>
   have h:(cOf s l.2.1).2.1=l.2.2.1:=h
   have hs:(cOf s l.2.1).2.2.1=1∨(cOf s l.2.1).2.2.1=4:=hs
   have hcw:(cOf s l.2.1).2.1=(wOf s l.2.1).2.1:=by
    rcases gc.2 with h3 | h3
    ·exact h3
    ·have:=gcl (by omega) (by omega);omega
   refine setc _ (l.2.1,(l.2.2.1,((cOf s l.2.1).2.2.1,((cOf s l.2.1).2.2.2.1,(cOf s l.2.1).2.2.2.2.erase l.2.2.2.1)))) [] rfl (fun j=>rfl) (fun j=>KT sh _ j) eY fun e3 hpd=>?_
   refine .inr (.inl ⟨by show l.2.2.1=_;omega,hs,fun v hv'=>?_⟩)
   have hv':v∈(cOf s l.2.1).2.2.2.2.erase l.2.2.2.1:=hv'
   obtain ⟨hne,hm⟩:=(zsL g.wd).1 hv'
   rcases hv hpd with ⟨h1,_⟩ | ⟨h1,h2,h3⟩ | ⟨h1,h2,_⟩
   ·omega
   ·obtain ⟨a,ha,b1,b2,b3,b4⟩:=h3 v hm
    rcases List.mem_cons.1 ha with rfl | ha
    ·exact absurd b3.symm hne
    ·exact ⟨a,List.mem_append.2 (.inl ha),b1,b2,b3,b4⟩
   ·omega
  |ready h hs hw'=>
   have h:(cOf s l.2.1).2.1=l.2.2.1:=h
   have hs:(cOf s l.2.1).2.2.1=1:=hs
   have hcw:(cOf s l.2.1).2.1=(wOf s l.2.1).2.1:=by
    rcases gc.2 with h3 | h3
    ·exact h3
    ·have:=gcl (by omega) (by omega);omega
   have a1:l.2.2.1=(wOf s l.2.1).2.1:=by omega
   refine setc _ (l.2.1,(l.2.2.1,(2,((cOf s l.2.1).2.2.2.1,[])))) [] rfl (fun j=>rfl) (fun j=>KT sh _ j) eY fun e3 _=>?_
   refine .inr (.inr ⟨a1,.inl rfl,(5,(l.2.1,(l.2.2.1,(0,(false,(zS,0)))))),?_,rfl,a1,.inr (.inl rfl)⟩)
   have e4:JR X (xT (l.2.1,(l.2.2.1,(2,((cOf s l.2.1).2.2.2.1,[])))))=X++Y:=e3
   rw [←e4,WU _ (by have:=ZF X;have:=ZF (xT (l.2.1,(l.2.2.1,(2,((cOf s l.2.1).2.2.2.1,[])))));have:=Uf (l.2.1,(l.2.2.1,(2,((cOf s l.2.1).2.2.2.1,[]))));have:=zcy l;omega)]
   exact List.mem_append.2 (.inr (List.mem_singleton.2 rfl))
  |gone h hs hw' M hM hm=>
   have h:(cOf s l.2.1).2.1=l.2.2.1:=h
   have hs:(cOf s l.2.1).2.2.1=4:=hs
   have hcw:(cOf s l.2.1).2.1=(wOf s l.2.1).2.1:=by
    rcases gc.2 with h3 | h3
    ·exact h3
    ·have:=gcl (by omega) (by omega);omega
   have a1:l.2.2.1=(wOf s l.2.1).2.1:=by omega
   refine setc _ (l.2.1,(l.2.2.1,(5,((cOf s l.2.1).2.2.2.1,[])))) [] rfl (fun j=>rfl) (fun j=>KT (sh.upL _) _ j) eY fun e3 _=>?_
   refine .inr (.inr ⟨a1,.inr (.inr rfl),(7,(l.2.1,(l.2.2.1,(0,(false,(zS,0)))))),?_,rfl,a1,.inr (.inr (.inr rfl))⟩)
   have e4:JR X (xT (l.2.1,(l.2.2.1,(5,((cOf s l.2.1).2.2.2.1,[])))))=X++Y:=e3
   rw [←e4,WU _ (by have:=ZF X;have:=ZF (xT (l.2.1,(l.2.2.1,(5,((cOf s l.2.1).2.2.2.1,[])))));have:=Uf (l.2.1,(l.2.2.1,(5,((cOf s l.2.1).2.2.2.1,[]))));have:=zcy l;omega)]
   exact List.mem_append.2 (.inr (List.mem_singleton.2 rfl))
 |ans hk hs=>
  obtain ⟨n1,n2,n3⟩:=zDa hlo hk
  have setw:∀(w:Wi),w.1=l.2.1→(w.2.2.1≠1∧w.2.2.1≠4)→s'=setW (upX s X) w→LvS s':=by
   intro w hwi hst e id hi
   have ew:wOf s' id=if id=l.2.1 then w else wOf s id:=by rw [e,zyA sh w id,hwi]
   by_cases hne:id=l.2.1
   ·intro hpd
    rw [ew,if_pos hne] at hpd
    omega
   ·exact zk6 hne hw (by rw [ew,if_neg hne]) (by rw [e];rfl) eY (lv id hi)
  cases hs with
  |old h=>
   have h:(wOf s l.2.1).2.1≠l.2.2.1∨¬(((wOf s l.2.1).2.2.1=1∧(l.1=5∨l.1=6))∨((wOf s l.2.1).2.2.1=4∧l.1=7)):=h
   refine qa rfl rfl (stay _ _ rfl rfl fun hpd hc=>?_)
   obtain ⟨h1,⟨_,h2⟩ | ⟨_,_,_,h2⟩ | ⟨h2,h3,h4⟩⟩:=hc
   ·omega
   ·omega
   ·have:=gcw (by omega) h2
    have:=n3 (by omega)
    omega
  |ready h hs hk=>exact setw _ rfl ⟨show (2:Int)≠1 by decide,show (2:Int)≠4 by decide⟩ rfl
  |fail h hs hk=>exact setw _ rfl ⟨show (3:Int)≠1 by decide,show (3:Int)≠4 by decide⟩ rfl
  |gone h hs hk=>exact setw _ rfl ⟨show (5:Int)≠1 by decide,show (5:Int)≠4 by decide⟩ rfl
end Go.Proofs.YtleloebnggepoaaGreat.sg
end
