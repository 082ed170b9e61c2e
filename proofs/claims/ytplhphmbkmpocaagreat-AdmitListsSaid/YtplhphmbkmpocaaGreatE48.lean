/- Parts of a proof, joined. -/
import Derived.Test.YtplhphmbkmpocaaGreatE47
set_option linter.unusedSectionVars false
set_option linter.unusedVariables false
set_option linter.unusedSimpArgs false
set_option maxHeartbeats 0
set_option maxRecDepth 100000
noncomputable section
namespace Go.Proofs.YtplhphmbkmpocaaGreat.ad
open Go Go.Fz Go.Fz.Sy
def YT (t:qi) (n:Int):List Int:=((List.range (2*t.2.2.length)).map fun (p:Nat)=>(p:Int)).filter fun p=>frm t p == n
theorem zvN (t:qi) (n:Int):∀p∈YT t n,wC t p:=by
 intro p hp
 unfold YT at hp
 obtain ⟨k,hk,rfl⟩:=List.mem_map.1 (List.mem_filter.1 hp).1
 have:=List.mem_range.1 hk
 exact ⟨by omega,by omega⟩
theorem zth (t:qi) (n:Int):(YT t n).length≤2*t.2.2.length:=by
 unfold YT
 have:=List.length_filter_le (fun p=>frm t p == n) ((List.range (2*t.2.2.length)).map fun (p:Nat)=>(p:Int))
 simpa using this
theorem VI {t:qi} (hl:t.2.2.length≤24) (n:Int):JA (t,n,())=some (YT t n,()):=by
 have hll:t.2.2.length≤1000000000000000:=by omega
 rw [zpS];unfold zdF
 rw [tw t hll]
 refine wO (zk (J:=fun x=>x.2.2.1=YT t n) (zV (2*t.2.2.length) (fun i s=>s=(((i:Int),()),((((List.range i).map fun (p:Nat)=>(p:Int)).filter fun p=>frm t p == n),()))) (by omega) rfl ?_ ?_) ?_)
 ·rintro i _ hi rfl
  have hp:wC t (i:Int):=⟨by omega,by omega⟩
  refine ze (zQ (show (i:Int) < 2*(t.2.2.length:Int) by omega)) ?_
  have e:((List.range (i+1)).map fun (p:Nat)=>(p:Int)).filter (fun p=>frm t p == n)=(((List.range i).map fun (p:Nat)=>(p:Int)).filter fun p=>frm t p == n)++(if frm t (i:Int) == n then [(i:Int)] else []):=by
   rw [List.range_succ,List.map_append,List.filter_append]
   congr 1
   simp only [List.map_cons,List.map_nil,List.filter_cons,List.filter_nil]
  have hlen:(((List.range i).map fun (p:Nat)=>(p:Int)).filter fun p=>frm t p == n).length≤i:=by
   have:=List.length_filter_le (fun p=>frm t p == n) ((List.range i).map fun (p:Nat)=>(p:Int))
   simpa using this
  rw [Qv hll hp]
  refine zk (J:=fun x=>x.2.2.1=(((List.range (i+1)).map fun (p:Nat)=>(p:Int)).filter fun p=>frm t p == n)) ?_ ?_
  ·rw [e]
   refine zh (fun h=>?_) (fun h=>?_)
   ·have h:=qO h
    refine ze (yd (Nat.le_trans (Nat.mul_le_mul_right 8 (Nat.add_le_add_right hlen 1)) (by omega)) (Nat.le_trans (Nat.add_le_add_right hlen 1) (by omega))) (za ?_)
    rw [if_pos (by simpa using h)]
   ·have h:=jx h
    refine za ?_
    rw [if_neg (by simpa using h),List.append_nil]
  ·rintro ⟨j,⟨⟩,c,⟨⟩⟩ hc
   simp only at hc
   subst hc
   exact za (qj (congrArg (fun z=>((z,()),(_,()))) (qp (by omega))))
 ·rintro _ rfl
  exact zf (zG (show ¬((2*t.2.2.length:Nat):Int) < 2*(t.2.2.length:Int) by omega)) (za (zq rfl))
 ·rintro ⟨j,⟨z,⟨⟩⟩,c,⟨⟩⟩ hc
  exact za hc
noncomputable def Jr (t:qi) (ps seen:List Int):List Int:=ps.filter fun p=>!tv (too t p∈seen)
theorem zhD {t:qi} (hll:t.2.2.length≤24) {ps seen:List Int} (hps:∀p∈ps,wC t p) (hpl:ps.length≤48) (hsl:seen.length≤100)
  {B:((Int×Unit)×((List Int)×((List Int)×Unit)))→Option ((Nat×((Int×Unit)×((List Int)×((List Int)×Unit)))) ⊕ ((Int×Unit)×((List Int)×((List Int)×Unit))))}
  (hB:B=fun s2=>bif (zj (s2.1.1) ((((ps).length:Nat):Int))) then opt (opt (atI (ps) (s2.1.1)) fun x3=>
        opt (wW ((t,(x3,())))) fun x4=>
        opt (yJ ((s2.2.1,(x4.1,())))) fun x5=>
        bif (!x5.1) then opt (atI (ps) (s2.1.1)) fun x6=>
         bif (qS ((s2.2.2.1).length) (((x6::[])).length) (8)) then some (0,((),(s2.2.1,((s2.2.2.1++(x6::[])),()))))
         else none
        else some (0,((),(s2.2.1,(s2.2.2.1,()))))) fun x7=>
       some (.inr (((wrF .i64 ((s2.1.1+1))),()),(x7.2.2.1,(x7.2.2.2.1,()))))
      else some (.inl (0,((s2.1.1,()),(s2.2.1,(s2.2.2.1,())))))) :
  qu (zC B zK ((0,()),(seen,([],())))) fun x=>x.2.2.1=seen∧x.2.2.2.1=Jr t ps seen:=by
 have hl2:t.2.2.length≤1000000000000000:=by omega
 subst hB
 refine zV ps.length (fun i s=>s=(((i:Int),()),(seen,(Jr t (ps.take i) seen,())))) (by omega) rfl ?_ ?_
 ·rintro i _ hi rfl
  have hx:ps[i]?=some ps[i]:=List.getElem?_eq_getElem hi
  have hp:=hps _ (List.getElem_mem hi)
  generalize ps[i]=p at hx hp
  have hlen:(Jr t (ps.take i) seen).length≤48:=by
   unfold Jr
   have:=List.length_filter_le (fun p=>!tv (too t p∈seen)) (ps.take i)
   simp only [List.length_take] at this;omega
  have e:Jr t (ps.take (i+1)) seen=Jr t (ps.take i) seen++(if (!tv (too t p∈seen))=true then [p] else []):=by
   unfold Jr
   rw [List.take_add_one,hx,List.filter_append]
   congr 1
   simp only [Option.toList,List.filter_cons,List.filter_nil]
  refine ze (zQ (show (i:Int) < (ps.length:Int) by omega)) (zk (J:=fun x=>x.2.2.1=seen∧x.2.2.2.1=Jr t (ps.take (i+1)) seen) ?_ ?_)
  ·refine zg (zx (n:=i) hx ?_)
   rw [Jc hl2 hp,zz,zbE (by show seen.length≤_;omega),zz,e]
   refine zh (fun h=>?_) (fun h=>?_)
   ·refine zg (zx (n:=i) hx (ze (yd (by show ((Jr t (ps.take i) seen).length+1)*8≤_;omega) (by show (Jr t (ps.take i) seen).length+1≤_;omega)) (za ⟨rfl,?_⟩)))
    rw [if_pos h]
   ·refine za ⟨rfl,?_⟩
    have h:(!tv (too t p∈seen))=false:=h
    rw [h,if_neg (by simp),List.append_nil]
  ·rintro ⟨j,⟨⟩,c,c2,⟨⟩⟩ ⟨h1,h2⟩
   simp only at h1 h2
   subst h1 h2
   exact za (qj (congrArg (fun z=>((z,()),_)) (qp (by omega))))
 ·rintro _ rfl
  refine zf (zG (show ¬(ps.length:Int) < (ps.length:Int) by omega)) (za (zq ⟨rfl,?_⟩))
  show Jr t (ps.take ps.length) seen=_
  rw [List.take_length]
theorem zDm {t:qi} (ht:jG t) {a k:Int} (a0:0≤a) (a1:a≤255) (k0:0≤k) (k1:k≤255):∃r,Zs (t,a,k,())=some (r,()):=by
 have n0:=ht.sz.n0;have n1:=ht.sz.n1;have hls:=ht.sz.ls
 have hll:t.2.2.length≤1000000000000000:=by omega
 suffices key:qu (Zs (t,a,k,())) fun _=>True by
  obtain ⟨⟨r,⟨⟩⟩,e,_⟩:=key
  exact ⟨r,e⟩
 have ew:wrF .i64 a=a:=zE (by omega) (by omega)
 have em:Int.tmod a t.1=a % t.1:=Int.tmod_eq_emod_of_nonneg a0
 have m0:=Int.emod_nonneg a (show t.1≠0 by omega)
 have m1:=Int.emod_lt_of_pos a (show 0 < t.1 by omega)
 rw [zrY];unfold zfG
 rw [ew,em]
 refine zf (qU (show t.1≠0 by omega)) ?_
 have stop:∀(r:Option Int) (at_:Int) (out seen:List Int),True:=fun _ _ _ _=>trivial
 refine zk (J:=fun s=>∃r at_ out seen,s=((t,(r,(at_,()))),(out,(seen,())))∧jb t at_∧out.length≤8∧seen.length=out.length+1∧(8≤out.length∨(out≠[]∧stn t at_=true)∨Jr t (YT t at_) seen=[]))
  (zms (fun s=>∃r at_ out seen,s=((t,(r,(at_,()))),(out,(seen,())))∧jb t at_∧out.length≤8∧seen.length=out.length+1) _ (fun s=>20 - s.2.1.length) ⟨[],a % t.1,[],[a % t.1],rfl,⟨m0,m1⟩,by simp,rfl⟩ (by show 20 - 0 < _;omega) ?_) ?_
 ·rintro _ ⟨r,at_,out,seen,rfl,hn,ho,hs⟩
  have hpl:=zth t at_
  have hpo:=zvN t at_
  have fin:(8≤out.length∨(out≠[]∧stn t at_=true)∨Jr t (YT t at_) seen=[])→qu (some (.inl ((t,(r,(at_,()))),(out,(seen,()))):((qi×((List Int)×(Int×Unit)))×((List Int)×((List Int)×Unit))) ⊕ ((qi×((List Int)×(Int×Unit)))×((List Int)×((List Int)×Unit))))) (zn6 (fun s=>∃r at_ out seen,s=((t,(r,(at_,()))),(out,(seen,())))∧jb t at_∧out.length≤8∧seen.length=out.length+1) (fun s=>∃r at_ out seen,s=((t,(r,(at_,()))),(out,(seen,())))∧jb t at_∧out.length≤8∧seen.length=out.length+1∧(8≤out.length∨(out≠[]∧stn t at_=true)∨Jr t (YT t at_) seen=[])) (fun s=>20 - s.2.1.length) ((t,(r,(at_,()))),(out,(seen,())))):=fun h=>
   za (zmr ⟨r,at_,out,seen,rfl,hn,ho,hs,h⟩)
  have step:out.length < 8→∀(seen' nx:List Int),seen'=seen→nx=Jr t (YT t at_) seen→qu (bif (zm ((((nx).length:Nat):Int)) (0)) then some (.inl ((t,(r,(at_,()))),(out,(seen,()))))
     else bif (zm ((((nx).length:Nat):Int)) (0)) then none
      else opt (atI (nx) ((Int.tmod (wrF .i64 (((wrF .i64 (k))+(wrF .i64 ((3*(((out).length:Nat):Int))))))) (((nx).length:Nat):Int)))) fun x9=>
       opt (gl (nx) ((Int.toNat (Int.tmod (wrF .i64 (((wrF .i64 (k))+(wrF .i64 ((3*(((out).length:Nat):Int))))))) (((nx).length:Nat):Int))))) fun x10=>
       bif (qS ((out).length) (((x10::[])).length) (8)) then opt (wW ((t,(x10,())))) fun x11=>
        bif (qS ((seen').length) (((x11.1::[])).length) (8)) then some (.inr ((t,(r,(x11.1,()))),((out++(x10::[])),((seen'++(x11.1::[])),()))))
        else none
       else none) (zn6 (fun s=>∃r at_ out seen,s=((t,(r,(at_,()))),(out,(seen,())))∧jb t at_∧out.length≤8∧seen.length=out.length+1) (fun s=>∃r at_ out seen,s=((t,(r,(at_,()))),(out,(seen,())))∧jb t at_∧out.length≤8∧seen.length=out.length+1∧(8≤out.length∨(out≠[]∧stn t at_=true)∨Jr t (YT t at_) seen=[])) (fun s=>20 - s.2.1.length) ((t,(r,(at_,()))),(out,(seen,())))):=by
   intro h8 seen' nx e1 e2
   subst e1
   refine zh (fun h=>fin (.inr (.inr ?_))) (fun h=>?_)
   ·have h:=qO h
    rw [←e2];exact List.length_eq_zero_iff.1 (by omega)
   have hz:(nx.length:Int)≠0:=jx h
   have ek:wrF .i64 k=k:=zE (by omega) (by omega)
   have e3:wrF .i64 (3*(out.length:Int))=3*(out.length:Int):=zE (by omega) (by omega)
   have e4:wrF .i64 (k+3*(out.length:Int))=k+3*(out.length:Int):=zE (by omega) (by omega)
   rw [ek,e3,e4,Int.tmod_eq_emod_of_nonneg (by omega)]
   have i0:=Int.emod_nonneg (k+3*(out.length:Int)) hz
   have i1:=Int.emod_lt_of_pos (k+3*(out.length:Int)) (show 0 < (nx.length:Int) by omega)
   refine zf (qU hz) (zg (qC i0 i1 fun _ _=>zg (jo (by omega) fun p hp=>?_)))
   have hpt:wC t p:=by
    have:=List.mem_of_getElem? hp
    rw [e2] at this
    exact hpo p (List.mem_filter.1 this).1
   refine ze (yd (by show (out.length+1)*8≤_;omega) (by show out.length+1≤_;omega)) ?_
   rw [Jc hll hpt,zz]
   refine ze (yd (by show (seen'.length+1)*8≤_;omega) (by show seen'.length+1≤_;omega)) (za (zcu ⟨r,too t p,out++[p],seen'++[too t p],rfl,(GV ht.ls hpt).2.1,by simp;omega,by simp;omega⟩ ?_))
   show 20 - (out++[p]).length < 20 - out.length
   simp;omega
  refine zh (fun h8=>?_) (fun h8=>fin (.inl ?_))
  rotate_left
  ·have h8:(8:Int)≤(out.length:Int):=qA h8
   omega
  have h8:(out.length:Int) < 8:=qq h8
  refine zh (fun hz=>?_) (fun hz=>?_)
  ·rw [VI hls,zz]
   refine zk (zhD hls hpo (by omega) (by show seen.length≤_;omega) rfl) ?_
   rintro ⟨j,⟨z,⟨⟩⟩,c,c2,⟨⟩⟩ ⟨h1,h2⟩
   exact step (by omega) c c2 h1 h2
  ·have hz:(out.length:Int)≠0:=jx hz
   refine zg (qf (a:=stn t at_) (by show atI t.2.1 at_=_;rw [show at_=((at_.toNat:Nat):Int) from (by have:=hn.1;omega),wG (n:=at_.toNat)];exact hn.get ht.sz) ?_)
   refine zh (fun hst=>?_) (fun hst=>fin (.inr (.inl ⟨fun e=>?_,by simpa using hst⟩)))
   ·rw [VI hls,zz]
    refine zk (zhD hls hpo (by omega) (by show seen.length≤_;omega) rfl) ?_
    rintro ⟨j,⟨z,⟨⟩⟩,c,c2,⟨⟩⟩ ⟨h1,h2⟩
    exact step (by omega) c c2 h1 h2
   ·rw [e] at hz;exact hz rfl
 ·rintro _ ⟨r,at_,out,seen,rfl,hn,ho,hs,hstop⟩
  have hpl:=zth t at_
  have hpo:=zvN t at_
  refine zh (fun h8=>?_) (fun _=>za trivial)
  have h8:(out.length:Int) < 8:=qq h8
  refine zh (fun hz=>?_) (fun hz=>?_)
  ·have hz:(out.length:Int)=0:=qO hz
   have hnx:Jr t (YT t at_) seen=[]:=by
    rcases hstop with h | ⟨h,_⟩ | h
    ·omega
    ·exact absurd (List.length_eq_zero_iff.1 (by omega)) h
    ·exact h
   rw [VI hls,zz]
   refine zk (zhD hls hpo (by omega) (by show seen.length≤_;omega) rfl) ?_
   rintro ⟨j,⟨z,⟨⟩⟩,c,c2,⟨⟩⟩ ⟨h1,h2⟩
   simp only at h1 h2
   rw [hnx] at h2
   subst h2
   exact ze rfl (za trivial)
  ·refine zg (qf (a:=stn t at_) (by show atI t.2.1 at_=_;rw [show at_=((at_.toNat:Nat):Int) from (by have:=hn.1;omega),wG (n:=at_.toNat)];exact hn.get ht.sz) ?_)
   refine zh (fun hst=>?_) (fun _=>za trivial)
   have hnx:Jr t (YT t at_) seen=[]:=by
    rcases hstop with h | ⟨_,h⟩ | h
    ·omega
    ·rw [h] at hst;cases hst
    ·exact h
   rw [VI hls,zz]
   refine zk (zhD hls hpo (by omega) (by show seen.length≤_;omega) rfl) ?_
   rintro ⟨j,⟨z,⟨⟩⟩,c,c2,⟨⟩⟩ ⟨h1,h2⟩
   simp only at h1 h2
   rw [hnx] at h2
   subst h2
   exact ze rfl (za trivial)
theorem zxa (z:Int):0≤wrF .u8 z∧wrF .u8 z≤255:=by
 rw [Uj,IntKind.wrap_u8];omega
theorem zzp {t:qi} (hs:szP t) {n:Int} (hn:jb t n):atI t.2.1 n=some (stn t n):=by
 have e:n=((n.toNat:Nat):Int):=by have:=hn.1;omega
 rw [e,wG (n:=n.toNat)]
 rw [←e];exact hn.get hs
theorem zvO {α:Type} {l:List α} (h:1≤l.length):zro l=true:=by
 cases l with
 |nil=>simp at h
 |cons a b=>rfl
theorem zDn {t:qi} (ht:jG t) (nd w:Int)
  {B:(((Int×((List Bool)×(List (Int×(Int×(Int×Int))))))×((List Int)×(Int×Unit)))×Unit)→Option ((Nat×(((Int×((List Bool)×(List (Int×(Int×(Int×Int))))))×((List Int)×(Int×Unit)))×Unit)) ⊕ (((Int×((List Bool)×(List (Int×(Int×(Int×Int))))))×((List Int)×(Int×Unit)))×Unit))}
  (hB:B=fun s3:(((Int×((List Bool)×(List (Int×(Int×(Int×Int))))))×((List Int)×(Int×Unit)))×Unit)=>
   bif (zj (s3.1.2.2.1) (16)) then opt (Zs ((s3.1.1,((wrF .u8 (nd)),((wrF .u8 ((w+(wrF .u8 (s3.1.2.2.1))))),()))))) fun x4=>
    opt
      (bif (zj (0) ((((x4.1).length:Nat):Int))) then opt (vl ((s3.1.1,(x4.1,())))) fun x5=>
      bif x5.1 then opt (atI (x4.1) (0)) fun x6=>
       opt (jm ((s3.1.1,(x6,())))) fun x7=>
       opt (atI (s3.1.1.2.1) (x7.1)) fun x8=>
       bif x8 then opt (atI (x4.1) ((wrF .i64 (((((x4.1).length:Nat):Int) - 1))))) fun x9=>
        opt (wW ((s3.1.1,(x9,())))) fun x10=>
        opt (atI (s3.1.1.2.1) (x10.1)) fun x11=>
        bif x11 then some (1,((x4.1,()),()))
        else some (0,((s3.1.2.1,()),()))
       else some (0,((s3.1.2.1,()),()))
      else some (0,((s3.1.2.1,()),()))
     else some (0,((s3.1.2.1,()),()))) fun x12=>
    bif (Nat.beq x12.1 0) then some (.inr ((s3.1.1,(x12.2.1.1,((wrF .i64 ((s3.1.2.2.1+1))),()))),()))
    else some (.inl (1,((s3.1.1,(x12.2.1.1,(s3.1.2.2.1,()))),())))
   else some (.inl (0,((s3.1.1,(s3.1.2.1,(s3.1.2.2.1,()))),())))) :
  qu (zC B zK ((t,([],(0,()))),())) fun x=>x.1=0∨(x.1=1∧qR t x.2.1.2.1):=by
 have hll:t.2.2.length≤1000000000000000:=ht.ll
 subst hB
 refine zV 16 (fun i s=>s=((t,([],((i:Int),()))),())) (by omega) rfl ?_ ?_
 ·rintro i _ hi rfl
  refine ze (zQ (show (i:Int) < 16 by omega)) ?_
  obtain ⟨r,hr⟩:=zDm ht (zxa nd).1 (zxa nd).2 (zxa (w+wrF .u8 (i:Int))).1 (zxa (w+wrF .u8 (i:Int))).2
  rw [hr,zz]
  refine zk (J:=fun x=>(x.1=0∧x.2.1.1=[])∨(x.1=1∧qR t x.2.1.1)) ?_ ?_
  ·have stay:qu (some ((0:Nat),((([]:List Int),()),()))) (fun x=>(x.1=0∧x.2.1.1=[])∨(x.1=1∧qR t x.2.1.1)):=za (.inl ⟨rfl,rfl⟩)
   refine zh (fun h=>?_) (fun h=>stay)
   have h:=qq h
   rw [zhq ht,zz]
   refine zh (fun hv=>?_) (fun _=>stay)
   have hv:qR t r:=Zl hv
   have r0:=hv.n0;have r1:=hv.n1
   refine zg (qC (by omega) (by show (0:Int) < (r.length:Int);omega) fun p hp=>?_)
   have hpp:wC t p:=hv.pt p (List.mem_of_getElem? hp)
   rw [Qv hll hpp,zz]
   refine zg (qf (zzp ht.sz (GV ht.ls hpp).1) ?_)
   refine zh (fun _=>?_) (fun _=>stay)
   have e:wrF .i64 ((r.length:Int) - 1)=(r.length:Int) - 1:=zE (by omega) (by omega)
   rw [e]
   refine zg (qC (by omega) (by show (r.length:Int) - 1 < (r.length:Int);omega) fun q hq=>?_)
   have hqp:wC t q:=hv.pt q (List.mem_of_getElem? hq)
   rw [Jc hll hqp,zz]
   refine zg (qf (zzp ht.sz (GV ht.ls hqp).2.1) ?_)
   exact zh (fun _=>za (.inr ⟨rfl,hv⟩)) (fun _=>stay)
  ·rintro ⟨n,⟨r',⟨⟩⟩,⟨⟩⟩ (⟨h1,h2⟩ | ⟨h1,h2⟩)
   ·simp only at h1 h2
    subst h1 h2
    exact ze rfl (za (qj (congrArg (fun z=>((t,([],(z,()))),())) (qp (by omega)))))
   ·simp only at h1 h2
    subst h1
    exact zf rfl (za (zq (.inr ⟨rfl,h2⟩)))
 ·rintro _ rfl
  exact zf (zG (show ¬(16:Int) < 16 by omega)) (za (zq (.inl rfl)))
abbrev zti:=Bool×Bool×Int×Int×Int×Int×Int×Int
def sdP (d:zti):Prop:=(0≤d.2.2.1∧d.2.2.1≤255)∧(0≤d.2.2.2.2.2.1∧d.2.2.2.2.2.1≤255)
theorem zzZ {t:qi} (ht:jG t) {d:zti} (hd:sdP d) (id:Int):∃s b,xe (d,t,id,())=some (s,b,()):=by
 have hll:t.2.2.length≤1000000000000000:=ht.ll
 have n0:=ht.sz.n0;have n1:=ht.sz.n1
 obtain ⟨⟨d0,d1⟩,d2,d3⟩:=hd
 suffices key:qu (xe (d,t,id,())) fun _=>True by
  obtain ⟨⟨s,b,⟨⟩⟩,e,_⟩:=key
  exact ⟨s,b,e⟩
 have m0:=Int.emod_nonneg d.2.2.1 (show t.1≠0 by omega)
 have m1:=Int.emod_lt_of_pos d.2.2.1 (show 0 < t.1 by omega)
 have ew:wrF .i64 d.2.2.1=d.2.2.1:=zE (by omega) (by omega)
 rw [zgP];unfold Xz
 rw [ew,Int.tmod_eq_emod_of_nonneg d0]
 refine zf (qU (show t.1≠0 by omega)) ?_
 refine zk (J:=fun _=>True) (zV t.1.toNat (fun i s=>∃n,jb t n∧s=((n,((i:Int),())),())) (by omega) ⟨_,⟨m0,m1⟩,rfl⟩ ?_ ?_) ?_
 ·rintro i _ hi ⟨n,hn,rfl⟩
  have:=hn.1;have:=hn.2
  refine ze (zQ (show (i:Int) < t.1 by omega)) (zg (qf (zzp ht.sz hn) ?_))
  refine zh (fun _=>?_) (fun _=>za (zq trivial))
  refine zf (qU (show t.1≠0 by omega)) (za (qj ⟨(n+1) % t.1,⟨Int.emod_nonneg _ (by omega),Int.emod_lt_of_pos _ (by omega)⟩,?_⟩))
  have e1:wrF .i64 (n+1)=n+1:=zE (by omega) (by omega)
  show ((Int.tmod (wrF .i64 (n+1)) t.1,(wrF .i64 ((i:Int)+1),())),())=_
  rw [e1,Int.tmod_eq_emod_of_nonneg (by omega),qp (by omega)]
 ·rintro _ ⟨n,hn,rfl⟩
  exact zf (zG (show ¬((t.1.toNat:Nat):Int) < t.1 by omega)) (za (zq trivial))
 rintro x2 -
 refine zk (zDn ht x2.2.1.1 d.2.2.2.1 rfl) ?_
 rintro ⟨k,⟨tt,r,z,⟨⟩⟩,⟨⟩⟩ h
 rcases h with h | ⟨h,hr⟩
 ·exact ze (by show Nat.beq k 0=true;rw [show k=0 from h];rfl) (za trivial)
 have hr:qR t r:=hr
 have r0:=hr.n0;have r1:=hr.n1
 have er:wrF .i64 ((r.length:Int) - 1)=(r.length:Int) - 1:=zE (by omega) (by omega)
 refine zf (by show Nat.beq k 0=false;rw [show k=1 from h];rfl) (ze (zvO r0) ?_)
 refine zg (qC (by omega) (by show (0:Int) < (r.length:Int);omega) fun p hp=>?_)
 have hpp:wC t p:=hr.pt p (List.mem_of_getElem? hp)
 rw [Qv hll hpp,zz,er]
 refine zg (qC (by omega) (by show (r.length:Int) - 1 < (r.length:Int);omega) fun q hq=>?_)
 have hqp:wC t q:=hr.pt q (List.mem_of_getElem? hq)
 rw [Jc hll hqp,zz]
 refine zk (J:=fun _=>True) ?_ ?_
 ·refine zh (fun _=>za trivial) (fun _=>?_)
  have p0:=Int.emod_nonneg d.2.2.2.2.2.1 (show (10:Int)≠0 by omega)
  have p1:=Int.emod_lt_of_pos d.2.2.2.2.2.1 (show 0 < (10:Int) by omega)
  rw [Int.tmod_eq_emod_of_nonneg d2]
  refine zg (qC p0 p1 fun _ _=>zg (jo ?_ fun _ _=>za trivial))
  show (d.2.2.2.2.2.1 % 10).toNat < 10
  omega
 rintro x20 -
 refine zk (J:=fun x=>x.2.1.1=t) (zV 24 (fun i s=>∃F,s=((t,((),((i:Int),()))),F)) (by omega) ⟨_,rfl⟩ ?_ ?_) ?_
 ·rintro i _ hi ⟨F,rfl⟩
  refine ze (zQ (show (i:Int) < 24 by omega)) ?_
  have out:∀{k:Nat} {z:Int} {F'},qu (some (.inl (k,((t,((),(z,()))),F')):((Nat×(((Int×((List Bool)×(List (Int×(Int×(Int×Int))))))×(Unit×(Int×Unit)))×((Int×(Int×(Int×(Int×(Int×(Int×((Int×Int)×(Int×((List (List Int))×Unit)))))))))×Unit))) ⊕ (((Int×((List Bool)×(List (Int×(Int×(Int×Int))))))×(Unit×(Int×Unit)))×((Int×(Int×(Int×(Int×(Int×(Int×((Int×Int)×(Int×((List (List Int))×Unit)))))))))×Unit))))) (Nxt (fun x=>x.2.1.1=t) fun s=>∃F,s=((t,((),(((i+1:Nat):Int),()))),F)):=za (zq rfl)
  have on:∀{F'},qu (some (.inr ((t,((),(wrF .i64 ((i:Int)+1),()))),F'):((Nat×(((Int×((List Bool)×(List (Int×(Int×(Int×Int))))))×(Unit×(Int×Unit)))×((Int×(Int×(Int×(Int×(Int×(Int×((Int×Int)×(Int×((List (List Int))×Unit)))))))))×Unit))) ⊕ (((Int×((List Bool)×(List (Int×(Int×(Int×Int))))))×(Unit×(Int×Unit)))×((Int×(Int×(Int×(Int×(Int×(Int×((Int×Int)×(Int×((List (List Int))×Unit)))))))))×Unit))))) (Nxt (fun x=>x.2.1.1=t) fun s=>∃F,s=((t,((),(((i+1:Nat):Int),()))),F)):=fun {F'}=>za (qj ⟨F',congrArg (fun z=>((t,((),(z,()))),F')) (qp (by omega))⟩)
  refine zh (fun _=>zh (fun h1=>?_) (fun _=>out)) (fun _=>out)
  have h1:((F.1.2.2.2.2.2.2.2.2.1.length:Nat):Int)=1:=qO h1
  refine zk (zDn ht x2.2.1.1 (wrF .u8 (d.2.2.2.1+wrF .u8 (i:Int))) rfl) ?_
  rintro ⟨k2,⟨tt2,b,z2,⟨⟩⟩,⟨⟩⟩ h
  rcases h with h | ⟨h,hb⟩
  ·exact ze (by show Nat.beq k2 0=true;rw [show k2=0 from h];rfl) on
  have hb:qR t b:=hb
  have b0:=hb.n0;have b1:=hb.n1
  have eb:wrF .i64 ((b.length:Int) - 1)=(b.length:Int) - 1:=zE (by omega) (by omega)
  refine zf (by show Nat.beq k2 0=false;rw [show k2=1 from h];rfl) ?_
  refine zk (J:=fun _=>True) ?_ ?_
  ·refine ze (zvO b0) ?_
   rw [eb]
   refine zg (qC (by omega) (by show (b.length:Int) - 1 < (b.length:Int);omega) fun q hq=>?_)
   have hqp:wC t q:=hb.pt q (List.mem_of_getElem? hq)
   rw [Jc hll hqp,zz]
   refine zh (fun _=>?_) (fun _=>za trivial)
   rw [zhr ht hr hb,zz]
   refine zh (fun _=>?_) (fun _=>za trivial)
   exact ze (yd (by show (F.1.2.2.2.2.2.2.2.2.1.length+1)*24≤_;omega) (by show F.1.2.2.2.2.2.2.2.2.1.length+1≤_;omega)) (za trivial)
  ·rintro x36 -
   exact on
 ·rintro _ ⟨F,rfl⟩
  exact zf (zG (show ¬(24:Int) < 24 by omega)) (za (zq rfl))
 rintro ⟨k3,⟨t3,⟨⟩,z3,⟨⟩⟩,F,⟨⟩⟩ h3
 have h3:t3=t:=h3
 subst h3
 rw [zht ht,zz]
 exact za trivial
abbrev zGz:=List Int×List Int
abbrev zi8:=znI×List zGz×(Int×Int×Int)×Int×Int×List zti×List Int
structure drP (d:zi8):Prop where
 t:tdP d.1
 g:∀x∈d.2.1,u8 x.1∧u8 x.2
 u:(0≤d.2.2.1.1∧d.2.2.1.1≤255)∧(0≤d.2.2.1.2.1∧d.2.2.1.2.1≤255)∧(0≤d.2.2.1.2.2∧d.2.2.1.2.2≤255)
 cap:0≤d.2.2.2.1∧d.2.2.2.1≤255
 most:0≤d.2.2.2.2.1∧d.2.2.2.2.1≤65535
 l:∀x∈d.2.2.2.2.2.1,sdP x
 ll:d.2.2.2.2.2.1.length*10≤140737488355328
theorem zzq {d:zi8} (hd:drP d):∃l,yS (d,())=some (l,())∧l.length≤6:=by
 suffices key:qu (yS (d,())) fun r=>r.1.length≤6 by
  obtain ⟨⟨l,⟨⟩⟩,e,h⟩:=key
  exact ⟨l,e,h⟩
 have hll:=hd.ll
 have hl:=hd.l
 rw [zfP];unfold Ys
 refine zk (J:=fun x=>(∀y∈x.2.2.1,sdP y)∧x.2.2.1.length≤1000000000000000) (zV d.2.2.2.2.2.1.length (fun i s=>∃L:List zti,s=(((i:Int),()),(L,()))∧L.length=i∧∀y∈L,sdP y) (by omega) ⟨[],rfl,rfl,fun y hy=>by cases hy⟩ ?_ ?_) ?_
 ·rintro i _ hi ⟨L,rfl,hL,hs⟩
  refine ze (zQ (show (i:Int) < (d.2.2.2.2.2.1.length:Int) by omega)) (zg (qC (by show 0≤(i:Int);omega) (by show (i:Int) < (d.2.2.2.2.2.1.length:Int);omega) fun x hx=>?_))
  have hx:=hl x (List.mem_of_getElem? hx)
  refine ze (yd (by show (L.length+1)*10≤_;omega) (by show L.length+1≤_;omega)) (za (qj ⟨L++[(true,x.2)],congrArg (fun z=>((z,()),(L++[(true,x.2)],()))) (qp (by omega)),by simp [hL],fun y hy=>?_⟩))
  rcases List.mem_append.1 hy with h | h
  ·exact hs y h
  ·rw [List.mem_singleton.1 h];exact hx
 ·rintro _ ⟨L,rfl,hL,hs⟩
  exact zf (zG (show ¬((d.2.2.2.2.2.1.length:Nat):Int) < (d.2.2.2.2.2.1.length:Int) by omega)) (za (zq ⟨hs,by show L.length≤_;omega⟩))
 rintro ⟨k,⟨z,⟨⟩⟩,L,⟨⟩⟩ ⟨hs,hL⟩
 simp only at hs hL
 obtain ⟨b,c,ls,et,ht,h1⟩:=ztg hd.t
 rw [et,zz]
 generalize tOf b c ls=t at ht
 refine zk (J:=fun x=>x.2.2.2.1.length≤6) (zV L.length (fun i s=>∃out:List jU,s=((t,((i:Int),())),(L,(out,())))∧out.length≤6) (by omega) ⟨[],rfl,by simp⟩ ?_ ?_) ?_
 ·rintro i _ hi ⟨out,rfl,ho⟩
  have hx:L[i]?=some L[i]:=List.getElem?_eq_getElem hi
  have hxs:=hs _ (List.getElem_mem hi)
  generalize L[i]=x at hx hxs
  refine ze (zQ (show (i:Int) < (L.length:Int) by omega)) (zh (fun h6=>?_) (fun _=>za (zq ho)))
  have h6:(out.length:Int) < 6:=qq h6
  refine zg (zx (n:=i) hx (zg (qf (a:=x) (by show gl L (Int.toNat (i:Int))=_;rw [Int.toNat_natCast,xc];exact hx) ?_)))
  obtain ⟨s,is,es⟩:=zzZ ht hxs (wrF .i64 ((out.length:Int)+1))
  rw [es,zz]
  refine zk (J:=fun x=>x.2.2.1.length≤6) (zh (fun _=>ze (yd (by show (out.length+1)*96≤_;omega) (by show out.length+1≤_;omega)) (za ?_)) (fun _=>za ho)) ?_
  ·show (out++[s]).length≤6
   simp;omega
  ·rintro ⟨k,⟨⟩,o2,⟨⟩⟩ h2
   exact za (qj ⟨o2,congrArg (fun z=>((t,(z,())),(L,(o2,())))) (qp (by omega)),h2⟩)
 ·rintro _ ⟨out,rfl,ho⟩
  exact zf (zG (show ¬((L.length:Nat):Int) < (L.length:Int) by omega)) (za (zq ho))
 rintro ⟨k,⟨t2,z,⟨⟩⟩,L2,out,⟨⟩⟩ h6
 have h6:out.length≤6:=h6
 refine zk (J:=fun x=>x.2.2.1.length≤6) (zV out.length (fun i s=>∃o:List jU,s=(((i:Int),()),(o,()))∧o.length=out.length) (by omega) ⟨out,rfl,rfl⟩ ?_ ?_) ?_
 ·rintro i _ hi ⟨o,rfl,ho⟩
  refine ze (zQ (show (i:Int) < (o.length:Int) by omega)) (zk (J:=fun x=>x.2.2.1.length=out.length) ?_ ?_)
  ·refine zh (fun h=>?_) (fun _=>za ho)
   have h:(i:Int) < (d.2.2.2.2.2.2.length:Int):=qq h
   refine zg (qC (by show 0≤(i:Int);omega) h fun x hx=>zh (fun _=>?_) (fun _=>za ho))
   refine zg (qC (by show 0≤(i:Int);omega) h fun y hy=>zg (qC (by show 0≤(i:Int);omega) (by show (i:Int) < (o.length:Int);omega) fun y hy=>zg (jo (by show i < o.length;omega) fun y hy=>za ?_)))
   show (List.set _ _ _).length=_
   rw [List.length_set];exact ho
  ·rintro ⟨k,⟨⟩,o2,⟨⟩⟩ h2
   exact za (qj ⟨o2,congrArg (fun z=>((z,()),(o2,()))) (qp (by omega)),h2⟩)
 ·rintro _ ⟨o,rfl,ho⟩
  exact zf (zG (show ¬((out.length:Nat):Int) < (o.length:Int) by omega)) (za (zq (by show o.length≤6;omega)))
 rintro ⟨k,⟨z,⟨⟩⟩,o,⟨⟩⟩ ho
 exact za ho
def zkn (e:Int×Int):Prop:=(0≤e.1∧e.1≤255)∧(1≤e.2∧e.2≤1100)
def m40 (e:Int×Int):Int×Int:=(e.1,40*e.2)
theorem zzr (l:List (Int×Int)) (x:Int×Int):qD (l++[x])=qD l+x.2:=by
 unfold qD;simp
theorem znL {l:List (Int×Int)} (h:∀e∈l,zkn e):0≤qD l∧qD l≤1100*l.length:=by
 unfold qD
 induction l with
 |nil=>simp
 |cons a l ih=>
  obtain ⟨_,h1,h2⟩:=h a (by simp)
  have:=ih fun e he=>h e (by simp [he])
  simp only [List.map_cons,List.sum_cons,List.length_cons]
  omega
theorem zF2 (l:List (Int×Int)):qD (l.map m40)=40*qD l:=by
 unfold qD
 induction l with
 |nil=>rfl
 |cons a l ih=>
  simp only [List.map_cons,List.sum_cons,ih,m40]
  omega
theorem zF3 {l:List (Int×Int)} (h:∀e∈l,zkn e) (h0:1≤l.length) (h1:l.length≤10):qw (l,qD l):=by
 have:=znL h
 exact ⟨h0,by show l.length≤128;omega,fun e he=>by obtain ⟨⟨a,b⟩,c,d⟩:=h e he;exact ⟨a,b,c,by omega⟩,rfl,by show qD l≤9600000;omega⟩
theorem zEQ {l:List (Int×Int)} (h:∀e∈l,zkn e) (h0:1≤l.length) (h1:l.length≤10):qw (l.map m40,40*qD l):=by
 have:=znL h
 refine ⟨by simpa using h0,by show (l.map m40).length≤128;simp;omega,fun e he=>?_,zF2 l,by show 40*qD l≤9600000;omega⟩
 obtain ⟨x,hx,rfl⟩:=List.mem_map.1 he
 obtain ⟨⟨a,b⟩,c,d⟩:=h x hx
 exact ⟨a,b,by show 1≤40*x.2;omega,by show 40*x.2≤9600000;omega⟩
theorem zGA {d:zi8} (hd:drP d):∃n,vB (d,())=some (n,())∧zq0 n∧1≤n.1.2.2.length:=by
 suffices key:qu (vB (d,())) fun r=>zq0 r.1∧1≤r.1.1.2.2.length by
  obtain ⟨⟨l,⟨⟩⟩,e,h⟩:=key
  exact ⟨l,e,h⟩
 obtain ⟨⟨u0,u1⟩,⟨u2,u3⟩,u4,u5⟩:=hd.u
 obtain ⟨c0,c1⟩:=hd.cap
 obtain ⟨m0,m1⟩:=hd.most
 obtain ⟨b,c,ls,et,ht,hls⟩:=ztg hd.t
 have hl1:1≤(tOf b c ls).2.2.length:=hls
 have es:ZA (d.2.2.1.1,d.2.2.1.2.1,d.2.2.1.2.2,())=some ((100+20*d.2.2.1.1,d.2.2.1.2.1 % 40,d.2.2.1.2.2,8000),()):=by
  rw [zmy];unfold zaQ
  have e1:wrF .i64 d.2.2.1.1=d.2.2.1.1:=zE (by omega) (by omega)
  have e2:wrF .i64 (20*d.2.2.1.1)=20*d.2.2.1.1:=zE (by omega) (by omega)
  have e3:wrF .i64 (100+20*d.2.2.1.1)=100+20*d.2.2.1.1:=zE (by omega) (by omega)
  have e4:wrF .i64 (d.2.2.1.2.1 % 40)=d.2.2.1.2.1 % 40:=zE (by omega) (by omega)
  have e5:wrF .i64 d.2.2.1.2.2=d.2.2.1.2.2:=zE (by omega) (by omega)
  simp only [e1,e2,e3,Int.tmod_eq_emod_of_nonneg u2,e4,e5]
 rw [zjN];unfold KW
 rw [et,zz,es,zz]
 have hl24:=ht.sz.ls
 generalize tOf b c ls=t at ht hl1 hl24
 have e1:wrF .i64 d.2.2.2.1=d.2.2.2.1:=zE (by omega) (by omega)
 have e2:wrF .i64 (200*d.2.2.2.1)=200*d.2.2.2.1:=zE (by omega) (by omega)
 have e3:wrF .i64 (2000+200*d.2.2.2.1)=2000+200*d.2.2.2.1:=zE (by omega) (by omega)
 have e4:wrF .i64 (d.2.2.2.2.1 % 500)=d.2.2.2.2.1 % 500:=zE (by omega) (by omega)
 have e5:wrF .i64 (339+d.2.2.2.2.1 % 500)=339+d.2.2.2.2.1 % 500:=zE (by omega) (by omega)
 have e6:wrF .i64 (2*((t.2.2.length:Nat):Int))=((2*t.2.2.length:Nat):Int):=by rw [zE]<;>omega
 simp only [e1,e2,e3,Int.tmod_eq_emod_of_nonneg m0,e4,e5]
 have hu:Je (100+20*d.2.2.1.1,d.2.2.1.2.1 % 40,d.2.2.1.2.2,2000+200*d.2.2.2.1):=⟨⟨by show 1≤100+20*d.2.2.1.1;omega,by show 100+20*d.2.2.1.1≤10000;omega⟩,⟨by show 0≤d.2.2.1.2.1 % 40;omega,by show d.2.2.1.2.1 % 40≤1000;omega⟩,⟨u4,by show d.2.2.1.2.2≤10000;omega⟩,⟨by show 1542≤2000+200*d.2.2.2.1;omega,by show 2000+200*d.2.2.2.1≤65536;omega⟩⟩
 have hm:84≤339+d.2.2.2.2.1 % 500∧339+d.2.2.2.2.1 % 500≤1542:=⟨by omega,by omega⟩
 generalize 339+d.2.2.2.2.1 % 500=most at hm
 generalize hU:(100+20*d.2.2.1.1,d.2.2.1.2.1 % 40,d.2.2.1.2.2,2000+200*d.2.2.2.1)=U at hu
 refine zk (J:=fun x=>x.2.2.1.1=t∧Je x.2.2.1.2.1∧x.2.2.1.2.2.1.length=2*t.2.2.length∧(∀g∈x.2.2.1.2.2.1,qw g)∧x.2.2.1.2.2.2.1=most)
  (zV (2*t.2.2.length) (fun i s=>∃gs:List Gts,s=((d,((),((i:Int),()))),((t,(U,(gs,(most,())))),()))∧gs.length=i∧∀g∈gs,qw g) (by omega) ⟨[],by rw [←hU];rfl,rfl,fun y hy=>by cases hy⟩ ?_ ?_) ?_
 ·rintro i _ hi ⟨gs,rfl,hg,hgs⟩
  refine ze (zQ (by show (i:Int) < wrF .i64 (2*((t.2.2.length:Nat):Int));rw [e6];omega)) ?_
  refine zk (J:=fun x=>∃es cy,x.2.2.1=(es,(cy,()))∧es.length=1∧(∀e∈es,zkn e)∧cy=qD es) (zV 1 (fun k s=>∃es cy,s=(((),((k:Int),())),((es,(cy,())),()))∧es.length=k∧(∀e∈es,zkn e)∧cy=qD es) (by omega) ⟨[],0,rfl,rfl,fun y hy=>by (cases hy),rfl⟩ ?_ ?_) ?_
  ·rintro k _ hk ⟨es,cy,rfl,hl,he,hc⟩
   have:=znL he
   have hk0:k=0:=by omega
   subst hk0
   refine ze (by rw [Jy,Yn];exact zQ (by show (0:Int) < 1;decide)) ?_
   refine ze (yd (by show (es.length+1)*16≤_;omega) (by show es.length+1≤_;omega)) (za (qj ⟨es++[(127,1)],cy+1,?_,by simp [hl],fun e h=>?_,by rw [zzr,hc]⟩))
   ·have e1:wrF .i64 (cy+1)=cy+1:=zE (by omega) (by omega)
    show (((),(wrF .i64 (0+1),())),((es++[(127,1)],(wrF .i64 (cy+1),())),()))=_
    rw [e1];rfl
   ·rcases List.mem_append.1 h with h | h
    ·exact he e h
    ·rw [List.mem_singleton.1 h];exact ⟨⟨by decide,by decide⟩,by decide,by decide⟩
  ·rintro _ ⟨es,cy,rfl,hl,he,hc⟩
   refine zf (by rw [Jy,Yn];exact zG (by show ¬(1:Int) < 1;decide)) (za (zq ⟨es,cy,rfl,hl,he,hc⟩))
  rintro ⟨k6,⟨⟨⟩,z6,⟨⟩⟩,E6,⟨⟩⟩ ⟨es,cy,e,hl,he,hc⟩
  have e:E6=(es,(cy,())):=e
  subst e
  have hg6:qw (es,cy):=by rw [hc];exact zF3 he (by omega) (by omega)
  refine zk (J:=fun x=>x.2.1.1=d∧qw (x.2.2.1.1,x.2.2.1.2.1)) ?_ ?_
  ·refine zh (fun hG=>zh (fun _=>?_) (fun _=>za ⟨rfl,hg6⟩)) (fun _=>za ⟨rfl,hg6⟩)
   have hG:(0:Int) < (d.2.1.length:Int):=qq hG
   have p0:=Int.emod_nonneg (i:Int) (show (d.2.1.length:Int)≠0 by omega)
   have p1:=Int.emod_lt_of_pos (i:Int) hG
   refine zf (qU (show (d.2.1.length:Int)≠0 by omega)) (zg ?_)
   rw [Int.tmod_eq_emod_of_nonneg (by show 0≤(i:Int);omega)]
   refine qC p0 p1 fun x hx=>?_
   obtain ⟨gx1,gx2⟩:=hd.g x (List.mem_of_getElem? hx)
   have en:∃N:Nat,ud 1 (jl ((x.1.length:Nat):Int) 10)=(N:Int)∧1≤N∧N≤10:=⟨(ud 1 (jl ((x.1.length:Nat):Int) 10)).toNat,by rw [Jy,Yn];omega,by rw [Jy,Yn];omega,by rw [Jy,Yn];omega⟩
   obtain ⟨N,eN,N1,N2⟩:=en
   refine zk (J:=fun x=>∃es cy,x.2.2.1=(es,(cy,()))∧es.length=N∧(∀e∈es,zkn e)∧cy=qD es) (zV N (fun k s=>∃es cy,s=(((),((k:Int),())),((es,(cy,())),()))∧es.length=k∧(∀e∈es,zkn e)∧cy=qD es) (by omega) ⟨[],0,rfl,rfl,fun y hy=>by (cases hy),rfl⟩ ?_ ?_) ?_
   ·rintro k _ hk ⟨es,cy,rfl,hl,he,hc⟩
    have hq:=znL he
    refine ze (by show zj (k:Int) (ud 1 (jl ((x.1.length:Nat):Int) 10))=true;rw [eN];exact zQ (by omega)) ?_
    refine zk (J:=fun x=>(0≤x.2.1.1.1∧x.2.1.1.1≤255)∧x.2.1.1.2=1) ?_ ?_
    ·refine zh (fun h=>?_) (fun _=>za ⟨⟨by show (0:Int)≤127;decide,by show (127:Int)≤255;decide⟩,rfl⟩)
     have h:(k:Int) < (x.1.length:Int):=qq h
     refine zg (qC (by show 0≤(k:Int);omega) h fun y hy=>?_)
     obtain ⟨y0,y1⟩:=gx1 y (List.mem_of_getElem? hy)
     rw [Int.tmod_eq_emod_of_nonneg y0]
     have p0:=Int.emod_nonneg y (show (6:Int)≠0 by omega)
     have p1:=Int.emod_lt_of_pos y (show 0 < (6:Int) by omega)
     refine zg (qC p0 p1 fun _ _=>zg (jo (by show (y % 6).toNat < 6;omega) fun v hv=>za ⟨?_,rfl⟩))
     have:=List.mem_of_getElem? hv
     simp at this
     show 0≤v∧v≤255
     omega
    rintro ⟨k12,⟨⟨a,b⟩,⟨⟩⟩,⟨⟩⟩ ⟨h12,hb⟩
    have hb:b=1:=hb
    subst hb
    have h12:0≤a∧a≤255:=h12
    refine zk (J:=fun x=>zkn x.2.1.1) ?_ ?_
    ·refine zh (fun h=>?_) (fun _=>za ⟨h12,by show (1:Int)≤1;decide,by show (1:Int)≤1100;decide⟩)
     have h:(k:Int) < (x.2.length:Int):=qq h
     refine zg (qC (by show 0≤(k:Int);omega) h fun y hy=>?_)
     obtain ⟨y0,y1⟩:=gx2 y (List.mem_of_getElem? hy)
     have e1:wrF .i64 y=y:=zE (by omega) (by omega)
     have e2:wrF .i64 (4*y)=4*y:=zE (by omega) (by omega)
     have e3:wrF .i64 (1+4*y)=1+4*y:=zE (by omega) (by omega)
     rw [e1,e2,e3]
     exact za ⟨h12,by show 1≤1+4*y;omega,by show 1+4*y≤1100;omega⟩
    rintro ⟨k14,⟨q,⟨⟩⟩,⟨⟩⟩ hq14
    have hq14:zkn q:=hq14
    refine ze (yd (by show (es.length+1)*16≤_;omega) (by show es.length+1≤_;omega)) (za (qj ⟨es++[q],cy+q.2,?_,by simp [hl],fun e h=>?_,by rw [zzr,hc]⟩))
    ·obtain ⟨_,q0,q1⟩:=hq14
     have e1:wrF .i64 (cy+q.2)=cy+q.2:=zE (by omega) (by omega)
     show (((),(wrF .i64 ((k:Int)+1),())),((es++[q],(wrF .i64 (cy+q.2),())),()))=_
     rw [e1,qp (by omega)]
    ·rcases List.mem_append.1 h with h | h
     ·exact he e h
     ·rw [List.mem_singleton.1 h];exact hq14
   ·rintro _ ⟨es,cy,rfl,hl,he,hc⟩
    exact zf (by show zj (N:Int) (ud 1 (jl ((x.1.length:Nat):Int) 10))=false;rw [eN];exact zG (by omega)) (za (zq ⟨es,cy,rfl,hl,he,hc⟩))
   rintro ⟨k15,⟨⟨⟩,z15,⟨⟩⟩,E15,⟨⟩⟩ ⟨es,cy,e,hl,he,hc⟩
   have e:E15=(es,(cy,())):=e
   subst e
   have hq:=znL he
   refine zk (J:=fun x=>x.2.2.1=(es.map m40,(cy,()))) (zV es.length (fun k s=>∃f:List (Int×Int),s=(((),((k:Int),())),((f,(cy,())),()))∧f.length=es.length∧∀j,f[j]?=if j < k then (es[j]?).map m40 else es[j]?) (by omega) ⟨es,rfl,rfl,fun j=>by simp⟩ ?_ ?_) ?_
   ·rintro k _ hk ⟨f,rfl,hf,hj⟩
    have hx2:f[k]?=some es[k]:=by rw [hj k,if_neg (by omega)];exact List.getElem?_eq_getElem hk
    have he2:=he _ (List.getElem_mem hk)
    have hx3:es[k]?=some es[k]:=List.getElem?_eq_getElem hk
    generalize es[k]=v at hx2 he2 hx3
    have hgl:gl f (Int.toNat (k:Int))=some v:=by rw [Int.toNat_natCast,xc];exact hx2
    refine ze (zQ (by show (k:Int) < (f.length:Int);omega)) ?_
    refine zg (zx (n:=k) hx2 ?_)
    refine zg (qf hgl ?_)
    refine zg (zx (n:=k) hx2 ?_)
    refine zg (qf hgl ?_)
    refine za (qj ⟨f.set k (m40 v),?_,by simp [hf],fun j=>?_⟩)
    ·obtain ⟨_,q0,q1⟩:=he2
     have e1:wrF .i64 (40*v.2)=40*v.2:=zE (by omega) (by omega)
     show (((),(wrF .i64 ((k:Int)+1),())),((f.set (Int.toNat (k:Int)) (v.1,wrF .i64 (40*v.2)),(cy,())),()))=_
     rw [e1,qp (by omega),Int.toNat_natCast];rfl
    ·rw [List.getElem?_set,hj j]
     by_cases h1:k=j
     ·subst h1
      rw [if_pos rfl,if_pos (by omega),if_pos (by omega),hx3];rfl
     ·rw [if_neg h1]
      by_cases h2:j < k
      ·rw [if_pos h2,if_pos (by omega)]
      ·rw [if_neg h2,if_neg (by omega)]
   ·rintro _ ⟨f,rfl,hf,hj⟩
    refine zf (zG (by show ¬((es.length:Nat):Int) < (f.length:Int);omega)) (za (zq ?_))
    show (f,(cy,()))=_
    congr 1
    refine List.ext_getElem? fun j=>?_
    rw [hj j,List.getElem?_map]
    by_cases h:j < es.length
    ·rw [if_pos h]
    ·rw [if_neg h,List.getElem?_eq_none (by omega)];rfl
   rintro ⟨k21,⟨⟨⟩,z21,⟨⟩⟩,E21,⟨⟩⟩ e
   have e:E21=(es.map m40,(cy,())):=e
   subst e
   have e1:wrF .i64 (40*cy)=40*cy:=zE (by omega) (by omega)
   refine za ⟨rfl,?_⟩
   show qw (es.map m40,wrF .i64 (40*cy))
   rw [e1,hc]
   exact zEQ he (by omega) (by omega)
  rintro ⟨k22,⟨d2,z22⟩,⟨es2,cy2,⟨⟩⟩,⟨⟩⟩ ⟨h1,h2⟩
  have h1:d2=d:=h1
  subst h1
  have h2:qw (es2,cy2):=h2
  refine ze (yd (by show (gs.length+1)*32≤_;omega) (by show gs.length+1≤_;omega)) (za (qj ⟨gs++[(es2,cy2)],congrArg (fun z=>((d2,((),(z,()))),((t,(U,(gs++[(es2,cy2)],(most,())))),()))) (qp (by omega)),by simp [hg],fun g h=>?_⟩))
  rcases List.mem_append.1 h with h | h
  ·exact hgs g h
  ·rw [List.mem_singleton.1 h];exact h2
 ·rintro _ ⟨gs,rfl,hg,hgs⟩
  refine zf (zG (by show ¬((2*t.2.2.length:Nat):Int) < wrF .i64 (2*((t.2.2.length:Nat):Int));rw [e6];omega)) (za (zq ⟨rfl,hu,hg,hgs,rfl⟩))
 rintro ⟨k,z,⟨t2,u2,gs,m2,⟨⟩⟩,⟨⟩⟩ ⟨h1,h2,h3,h4,h5⟩
 have h1:t2=t:=h1
 have h5:m2=most:=h5
 subst h1 h5
 have h3:gs.length=2*t2.2.2.length:=h3
 exact za ⟨⟨ht,h2,h4,by show ((gs.length:Nat):Int)=2*(t2.2.2.length:Int);omega,hm.1,hm.2⟩,hl1⟩
abbrev zxb:=Int×Int×Int×Gts×jU
def beP (b:zxb):Prop:=0≤b.1∧(0≤b.2.1∧b.2.1≤255)
theorem zDo {b:zxb} (hb:beP b) {n:Fab} {l:List jU} (hl:l.length≤6) (hg:1≤n.2.2.1.length) (hg2:n.2.2.1.length≤48) :
  ∃m o,kD (b,n,l,())=some (m,o,())∧m.2.2.1.length≤49∧m.1.2.2.length=n.1.2.2.length∧o.length=l.length:=by
 suffices key:qu (kD (b,n,l,())) fun r=>r.1.2.2.1.length≤49∧r.1.1.2.2.length=n.1.2.2.length∧r.2.1.length=l.length by
  obtain ⟨⟨m,o,⟨⟩⟩,e,h⟩:=key
  exact ⟨m,o,e,h⟩
 obtain ⟨b0,b1,b2⟩:=hb
 rw [zmI];unfold za2
 have ec:kz b.2.2.2.1.1 none (some (jl ((b.2.2.2.1.1.length:Nat):Int) 130)) none=some (b.2.2.2.1.1.take (min b.2.2.2.1.1.length 130)):=by
  have:jl ((b.2.2.2.1.1.length:Nat):Int) 130=((min b.2.2.2.1.1.length 130:Nat):Int):=by rw [Yn];omega
  rw [this];exact zcv _ _ (by omega)
 rw [ec,zz]
 generalize b.2.2.2.1.1.take (min b.2.2.2.1.1.length 130)=en
 refine ze (yd (by show (0+l.length)*96≤_;omega) (by show 0+l.length≤_;omega)) (ze (yd (by show (0+n.2.2.1.length)*32≤_;omega) (by show 0+n.2.2.1.length≤_;omega)) ?_)
 have ew:wrF .i64 b.2.1=b.2.1:=zE (by omega) (by omega)
 rw [ew,Int.tmod_eq_emod_of_nonneg b1,Int.tmod_eq_emod_of_nonneg b1]
 have p0:=Int.emod_nonneg b.2.1 (show (n.2.2.1.length:Int)≠0 by omega)
 have p1:=Int.emod_lt_of_pos b.2.1 (show (0:Int) < (n.2.2.1.length:Int) by omega)
 refine zh (fun _=>?_) fun _=>zh (fun _=>?_) fun _=>zh (fun _=>?_) fun _=>zh (fun _=>?_) fun _=>zh (fun _=>?_) fun _=>zh (fun _=>?_) fun _=>zh (fun h=>?_) fun _=>?_
 ·refine zf (qU (by omega)) (zg (qC p0 p1 fun _ _=>zg (jo (by omega) fun _ _=>za ⟨?_,rfl,rfl⟩)))
  show (List.set _ _ _).length≤49
  rw [List.length_set];omega
 ·refine ze (yd (by show (n.2.2.1.length+1)*32≤_;omega) (by show n.2.2.1.length+1≤_;omega)) (za ⟨?_,rfl,rfl⟩)
  show (_++[_]).length≤49
  simp;omega
 ·refine zg (qf (zCZ _ 1 hg) (za ⟨?_,rfl,rfl⟩))
  show (List.drop 1 n.2.2.1).length≤49
  simp;omega
 ·exact za ⟨by show n.2.2.1.length≤49;omega,rfl,rfl⟩
 ·exact za ⟨by show n.2.2.1.length≤49;omega,rfl,rfl⟩
 ·exact za ⟨by show n.2.2.1.length≤49;omega,rfl,rfl⟩
 ·have h:(0:Int) < (l.length:Int):=qq h
  have q0:=Int.emod_nonneg b.2.1 (show (l.length:Int)≠0 by omega)
  have q1:=Int.emod_lt_of_pos b.2.1 h
  refine zf (qU (by omega)) (zg (qC q0 q1 fun _ _=>zg (jo (by omega) fun _ _=>za ⟨by show n.2.2.1.length≤49;omega,rfl,?_⟩)))
  show (List.set _ _ _).length=_
  rw [List.length_set]
 ·exact za ⟨by show n.2.2.1.length≤49;omega,rfl,rfl⟩
theorem zzs {x:Fab} (hn:x.2.2.1.length≤1000000000000000000) {l o:List jU} (hl:l.length≤6) (ho:o.length=l.length) (v:Bool)
  {B:(
     (Bool×(Int×Unit))×Unit)→Option ((Nat×((Bool×(Int×Unit))×Unit)) ⊕ ((Bool×(Int×Unit))×Unit))} (hB:B=fun s4:((Bool×(Int×Unit))×Unit)=>
     bif
       (!(zj ((((l).length:Nat):Int)) (s4.1.2.1))) then opt (opt (kz (l) none (some (s4.1.2.1)) none) fun x5=>
       opt (gv ((x,(x5,())))) fun x6=>
       opt (kz (l) none (some (s4.1.2.1)) none) fun x7=>
       opt (gw ((x,(x7,())))) fun x8=>
       bif (!(zm (x6.1) (x8.1))) then some (1,((false,()),()))
       else opt (kz (o) none (some (s4.1.2.1)) none) fun x9=>
        opt (gv ((x,(x9,())))) fun x10=>
        opt (kz (o) none (some (s4.1.2.1)) none) fun x11=>
        opt (gw ((x,(x11,())))) fun x12=>
        bif (!(zm (x10.1) (x12.1))) then some (1,((false,()),()))
        else some (0,((s4.1.1,()),()))) fun x13=>
      bif (Nat.beq x13.1 0) then some (.inr ((x13.2.1.1,((wrF .i64 ((s4.1.2.1+1))),())),()))
      else some (.inl (1,((x13.2.1.1,(s4.1.2.1,())),())))
     else some (.inl (0,((s4.1.1,(s4.1.2.1,())),())))) :
  qu (zC B zK ((v,(0,())),())) fun y=>y.1=0∧y.2.1.1=v:=by
 subst hB
 refine zV (l.length+1) (fun i s=>s=((v,((i:Int),())),())) (by omega) rfl ?_ ?_
 ·rintro i _ hi rfl
  refine ze (by show (!zj ((l.length:Nat):Int) (i:Int))=true;rw [zG (by omega)];rfl) ?_
  refine zk (J:=fun y=>y.1=0∧y.2.1.1=v) ?_ ?_
  ·refine zg (qf (zcv l i (by omega)) ?_)
   rw [zhC hn,zz]
   refine zg (qf (zcv l i (by omega)) ?_)
   rw [zhB hn,zz]
   refine zf (by show (!zm (zdx x (l.take i)) (zdx x (l.take i)))=false;rw [vu rfl];rfl) ?_
   refine zg (qf (zcv o i (by omega)) ?_)
   rw [zhC hn,zz]
   refine zg (qf (zcv o i (by omega)) ?_)
   rw [zhB hn,zz]
   refine zf (by show (!zm (zdx x (o.take i)) (zdx x (o.take i)))=false;rw [vu rfl];rfl) ?_
   exact za ⟨rfl,rfl⟩
  ·rintro ⟨k,⟨v',⟨⟩⟩,⟨⟩⟩ ⟨h1,h2⟩
   simp only at h1 h2
   subst h1 h2
   exact ze rfl (za (qj (congrArg (fun z=>((v',(z,())),())) (qp (by omega)))))
 ·rintro _ rfl
  exact zf (by show (!zj ((l.length:Nat):Int) ((l.length+1:Nat):Int))=false;rw [zQ (by omega)];rfl) (za (zq ⟨rfl,rfl⟩))
theorem zDp (hw:Qe ()=some (true,())) {d:zi8} {b:zxb} (hd:drP d) (hb:beP b):WB (d,b,())=some (true,()):=by
 obtain ⟨n,en,hn,hn1⟩:=zGA hd
 obtain ⟨l,el,hl⟩:=zzq hd
 have hg:n.2.2.1.length=2*n.1.2.2.length:=by have:=hn.f.1;omega
 have h24:=hn.t.sz.ls
 obtain ⟨m,o,eb,hm,_,ho⟩:=zDo hb hl (n:=n) (by omega) (by omega)
 rw [ziY];unfold Km
 rw [en,zz,el,zz,eb,zz]
 refine wO (zk (J:=fun y=>y.1=0) (zV 2 (fun i s=>s=((false,((i:Int),())),())) (by omega) rfl ?_ ?_) ?_)
 ·rintro i _ hi rfl
  refine ze (zQ (show (i:Int) < 2 by omega)) (zh (fun h=>?_) (fun h=>zh (fun h1=>?_) (fun h1=>?_)))
  ·refine zk (zzs (show n.2.2.1.length≤_ by omega) hl ho false rfl) ?_
   rintro ⟨k,⟨v',⟨⟩⟩,⟨⟩⟩ ⟨h1,h2⟩
   simp only at h1 h2
   subst h1 h2
   exact ze rfl (za (qj (congrArg (fun z=>((false,(z,())),())) (qp (by omega)))))
  ·refine zk (zzs (show m.2.2.1.length≤_ by omega) hl ho false rfl) ?_
   rintro ⟨k,⟨v',⟨⟩⟩,⟨⟩⟩ ⟨h1,h2⟩
   simp only at h1 h2
   subst h1 h2
   exact ze rfl (za (qj (congrArg (fun z=>((false,(z,())),())) (qp (by omega)))))
  ·have h:(i:Int)≠0:=jx h
   have h1:(i:Int)≠1:=jx h1
   exfalso;omega
 ·rintro _ rfl
  exact zf (zG (show ¬(2:Int) < 2 by omega)) (za (zq rfl))
 ·rintro ⟨k,⟨v',z,⟨⟩⟩,⟨⟩⟩ h
  have h:k=0:=h
  subst h
  refine ze rfl ?_
  rw [hw,zz]
  exact za rfl
theorem u8w {n:Int} (h:wfT (.int .u8) n):0≤n∧n≤255:=h
theorem zGX {n:Int} (h:wfT (.int .u16) n):0≤n∧n≤65535:=h
theorem u8l {l:List Int} (h:wfT (.list (.int .u8)) l):u8 l:=fun x hx=>u8w (h.2 x hx)
theorem zGL {d:zi8} (h:wfT yR d):drP d where
 t:=⟨u8w h.1.1,u8w h.1.2.1,u8l h.1.2.2.1,u8l h.1.2.2.2.1,u8l h.1.2.2.2.2.1,u8l h.1.2.2.2.2.2⟩
 g:=fun x hx=>⟨u8l (h.2.1.2 x hx).1,u8l (h.2.1.2 x hx).2⟩
 u:=⟨u8w h.2.2.1.1,u8w h.2.2.1.2.1,u8w h.2.2.1.2.2⟩
 cap:=u8w h.2.2.2.1
 most:=zGX h.2.2.2.2.1
 l:=fun x hx=>⟨u8w (h.2.2.2.2.2.1.2 x hx).2.2.1,u8w (h.2.2.2.2.2.1.2 x hx).2.2.2.2.2.1⟩
 ll:=Nat.le_trans (show d.2.2.2.2.2.1.length*10≤reachBytes from h.2.2.2.2.2.1.1.2) (by decide)
theorem zGM {b:zxb} (h:wfT kB b):beP b:=⟨(u8w h.1).1,u8w h.2.1⟩
theorem zER:Qe ()=some (true,()):=zqU
abbrev A4:=WA
abbrev K4_ok:=ziX
theorem good4 (x:T (zp A4)) (h:wfT (zp A4) x):WB x=some (true,()):=by
 obtain ⟨d,b,⟨⟩⟩:=x
 exact zDp zER (zGL h.1) (zGM h.2.1)
end Go.Proofs.YtplhphmbkmpocaaGreat.ad
end
