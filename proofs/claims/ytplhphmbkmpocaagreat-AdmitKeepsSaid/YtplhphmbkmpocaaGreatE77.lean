/- Parts of a proof, joined. -/
import Derived.Test.YtplhphmbkmpocaaGreatE76
set_option linter.unusedSectionVars false
set_option linter.unusedVariables false
set_option linter.unusedSimpArgs false
set_option maxHeartbeats 0
set_option maxRecDepth 100000
noncomputable section
namespace Go.Proofs.YtplhphmbkmpocaaGreat.ad
open Go Go.Fz Go.Fz.Sy
def zn3 (t:qm) (l:List qw):Prop:=∀s∈l,vF t s
def zif (l:List qw):Prop:=∀(i k:Nat) a b,k < i→l[i]?=some a→l[k]?=some b→b.1≠a.1
noncomputable def ZG (t:qm) (l:List qw):Int:=bif tv (l.length≤12) then bif tv (zn3 t l) then bif tv (zif l) then 0 else 322 else 321 else 3
theorem zBp {α:Type} (m:List (Int×α)) (a b:Int) (x z:α):mpD (mpP m a x) b z=if a=b then x else mpD m b z:=by
 induction m with
 |nil=>
  unfold mpP mpD
  rw [jT]
  by_cases h:a=b
  ·rw [if_pos h,h];simp
  ·rw [if_neg h,show (a == b)=false from by simpa using h];rfl
 |cons p m ih=>
  unfold mpP
  rw [jT]
  by_cases h:p.1=a
  ·rw [h];simp only [beq_self_eq_true,cond_true]
   unfold mpD
   rw [jT,jT]
   by_cases h2:a=b
   ·rw [if_pos h2,h2];simp
   ·rw [if_neg h2,h,show (a == b)=false from by simpa using h2];rfl
  ·rw [show (p.1 == a)=false from by simpa using h,cond_false]
   unfold mpD
   rw [ih,jT]
   by_cases h2:p.1=b
   ·rw [h2];simp only [beq_self_eq_true,cond_true]
    rw [if_neg (by rw [h2] at h;exact fun e=>h e.symm)]
   ·rw [show (p.1 == b)=false from by simpa using h2];rfl
theorem zG2 {α:Type} (m:List (Int×α)) (a b:Int) (x:α):mpH (mpP m a x) b=(decide (a=b)||mpH m b):=by
 induction m with
 |nil=>
  unfold mpP mpH
  rw [jT]
  by_cases h:a=b
  ·rw [h];simp
  ·rw [show (a == b)=false from by simpa using h];simp [h,mpH]
 |cons p m ih=>
  unfold mpP
  rw [jT]
  by_cases h:p.1=a
  ·rw [h];simp only [beq_self_eq_true,cond_true]
   unfold mpH
   rw [jT,jT]
   by_cases h2:a=b
   ·rw [h2];simp
   ·rw [h,show (a == b)=false from by simpa using h2];simp [h2]
  ·rw [show (p.1 == a)=false from by simpa using h,cond_false]
   unfold mpH
   rw [ih,jT]
   by_cases h2:p.1=b
   ·rw [h2];simp
   ·rw [show (p.1 == b)=false from by simpa using h2];simp
theorem VV {t:qm} (ht:jX t) (l:List qw):wm (t,l,())=some (ZG t l,()):=by
 rw [zj9];unfold Uz ZG
 simp only [QZ,zx,zA ht,cond_true]
 rw [show (!zi 0 0)=false from rfl,cond_false]
 refine ym (zk (fun h=>?_) (fun h=>?_))
 ·have h:=qn h
  rw [zM (show ¬l.length≤12 by omega)];exact za rfl
 have h12:l.length≤12:=by have:=qE h;omega
 rw [zA h12,cond_true]
 refine zj (J:=fun x=>(x.1=0∧x.2.1.1=0∧zn3 t l)∨(x.1=1∧x.2.1.1=321∧¬zn3 t l)) (qN l.length (fun i=>∀s,l[i]?=some s→vF t s) (by omega) ?_ ?_) ?_
 ·intro i hi hp
  have hx:l[i]?=some l[i]:=List.getElem?_eq_getElem hi
  have hm:=List.getElem_mem hi
  generalize l[i]=s at hx hm
  refine zd (zT (show (i:Int) < (l.length:Int) by omega)) (zg (zy (n:=i) hx ?_))
  rw [zgQ ht]
  refine zk (fun h=>?_) (fun h=>?_)
  ·exact za (zq (.inr ⟨rfl,rfl,fun hq=>yy h (hq s hm)⟩))
  ·exact za (jC (by omega) fun r' hr'=>by rw [hx] at hr';cases hr';exact xu h)
 ·intro hp
  refine zf (zF (show ¬(l.length:Int) < (l.length:Int) by omega)) (za (zq (.inl ⟨rfl,rfl,fun r hr=>?_⟩)))
  obtain ⟨k,hk,hk2⟩:=jV hr
  exact hp k hk r hk2
 rintro ⟨j,⟨v,w,⟨⟩⟩,⟨⟩⟩ (⟨rfl,rfl,hq⟩ | ⟨rfl,rfl,hq⟩)
 rotate_left
 ·rw [zM hq];exact zf rfl (za rfl)
 rw [zA hq,cond_true]
 refine zd rfl (zj (J:=fun x=>(x.1=0∧zif l)∨(x.1=1∧x.2.1.1=322∧¬zif l))
  (zW l.length (fun i s=>(∃m,s=((0,((i:Int),())),(m,()))∧∀z,mpD m z false=true↔∃(k:Nat) (b:qw),k < i∧l[k]?=some b∧b.1=z)∧∀(k' k:Nat) a b,k' < i→k < k'→l[k']?=some a→l[k]?=some b→b.1≠a.1) (by omega) ⟨⟨[],rfl,fun z=>⟨fun h=>(by cases h),fun ⟨k,b,hk,_⟩=>by omega⟩⟩,fun k' k a b hk=>by omega⟩ ?_ ?_) ?_)
 ·rintro i _ hi ⟨⟨m,rfl,hm⟩,hp⟩
  have hx:l[i]?=some l[i]:=List.getElem?_eq_getElem hi
  generalize l[i]=s at hx
  refine zd (zT (show (i:Int) < (l.length:Int) by omega)) (zg (zy (n:=i) hx ?_))
  refine zk (fun h=>?_) (fun h=>?_)
  ·obtain ⟨k,b,hk,hb,e⟩:=(hm s.1).1 h
   exact za (zq (.inr ⟨rfl,rfl,fun hd=>hd i k s b hk hx hb e⟩))
  ·have hno:¬∃(k:Nat) (b:qw),k < i∧l[k]?=some b∧b.1=s.1:=fun he=>by
    have:=(hm s.1).2 he
    have h':mpD m s.1 false=false:=h
    rw [this] at h';cases h'
   refine za (qj ⟨⟨_,congrArg (fun z=>(((0:Int),(z,())),(_,()))) (qp (by omega)),fun z=>?_⟩,fun k' k a b hk' hk ha hb=>?_⟩)
   ·show mpD (mpP m s.1 true) z false=true↔_
    rw [zBp]
    split
    ·rename_i e
     exact ⟨fun _=>⟨i,s,by omega,hx,e⟩,fun _=>rfl⟩
    ·rename_i e
     rw [hm z]
     constructor
     ·rintro ⟨k,b,h1,h2,h3⟩;exact ⟨k,b,by omega,h2,h3⟩
     ·rintro ⟨k,b,h1,h2,h3⟩
      rcases Nat.lt_or_ge k i with hk | hk
      ·exact ⟨k,b,hk,h2,h3⟩
      ·have:k=i:=by omega
       subst this
       rw [hx] at h2;cases h2
       exact absurd h3 e
   ·rcases Nat.lt_or_ge k' i with hki | hki
    ·exact hp k' k a b hki hk ha hb
    ·have:k'=i:=by omega
     subst this
     rw [hx] at ha;cases ha
     exact fun e=>hno ⟨k,b,hk,hb,e⟩
 ·rintro _ ⟨⟨m,rfl,hm⟩,hp⟩
  exact zf (zF (show ¬(l.length:Int) < (l.length:Int) by omega)) (za (zq (.inl ⟨rfl,fun i k a b hk ha hb=>hp i k a b (by grind) hk ha hb⟩)))
 ·rintro ⟨j,⟨v,w,⟨⟩⟩,c,⟨⟩⟩ (⟨rfl,hd⟩ | ⟨rfl,rfl,hd⟩)
  ·rw [zA hd];exact zd rfl (za rfl)
  ·rw [zM hd];exact zf rfl (za rfl)
theorem zn4 {t:qm} (ht:jX t) (l:List qw):JD (t,l,())=some (ZG t l,()):=by
 rw [zlP];unfold GV ZG
 simp only [zhw,zx,zA ht,Bool.not_true,cond_false]
 refine ym (zk (fun h=>?_) (fun h=>?_))
 ·have h:=qn h
  rw [zM (show ¬l.length≤12 by omega)];exact za rfl
 have h12:l.length≤12:=by have:=qE h;omega
 rw [zA h12,cond_true]
 refine zj (J:=fun x=>(x.1=0∧x.2.1.1=0∧zn3 t l)∨(x.1=1∧x.2.1.1=321∧¬zn3 t l)) (qN l.length (fun i=>∀s,l[i]?=some s→vF t s) (by omega) ?_ ?_) ?_
 ·intro i hi hp
  have hx:l[i]?=some l[i]:=List.getElem?_eq_getElem hi
  have hm:=List.getElem_mem hi
  generalize l[i]=s at hx hm
  refine zd (zT (show (i:Int) < (l.length:Int) by omega)) (zg (zy (n:=i) hx ?_))
  rw [zhA ht]
  refine zk (fun h=>?_) (fun h=>?_)
  ·exact za (zq (.inr ⟨rfl,rfl,fun hq=>yy h (hq s hm)⟩))
  ·exact za (jC (by omega) fun r' hr'=>by rw [hx] at hr';cases hr';exact xu h)
 ·intro hp
  refine zf (zF (show ¬(l.length:Int) < (l.length:Int) by omega)) (za (zq (.inl ⟨rfl,rfl,fun r hr=>?_⟩)))
  obtain ⟨k,hk,hk2⟩:=jV hr
  exact hp k hk r hk2
 rintro ⟨j,⟨v,w,⟨⟩⟩,⟨⟩⟩ (⟨rfl,rfl,hq⟩ | ⟨rfl,rfl,hq⟩)
 rotate_left
 ·rw [zM hq];exact zf rfl (za rfl)
 rw [zA hq,cond_true]
 refine zd rfl (zj (J:=fun x=>(x.1=0∧zif l)∨(x.1=1∧x.2.1.1=322∧¬zif l)) (qN l.length (fun i=>∀a,l[i]?=some a→∀(k:Nat) b,k < i→l[k]?=some b→b.1≠a.1) (by omega) ?_ ?_) ?_)
 ·intro i hi hp
  have hx:l[i]?=some l[i]:=List.getElem?_eq_getElem hi
  generalize l[i]=s at hx
  refine zd (zT (show (i:Int) < (l.length:Int) by omega)) ?_
  refine zj (J:=fun x=>(x.1=0∧x.2.1.1=0∧∀(k:Nat) b,k < i→l[k]?=some b→b.1≠s.1)∨(x.1=1∧x.2.1.1=322∧¬zif l)) (qN i (fun k=>∀b,l[k]?=some b→b.1≠s.1) (by omega) ?_ ?_) ?_
  ·intro k hk hpk
   have hy:l[k]?=some l[k]:=List.getElem?_eq_getElem (by omega)
   generalize l[k]=b at hy
   refine zd (zT (show (k:Int) < (i:Int) by omega)) (zg (zy (n:=k) hy (zg (zy (n:=i) hx ?_))))
   refine zk (fun h=>?_) (fun h=>?_)
   ·exact za (zq (.inr ⟨rfl,rfl,fun hd=>hd i k s b hk hx hy (qU h)⟩))
   ·exact za (jC (by omega) fun b' hb'=>by rw [hy] at hb';cases hb';exact jU h)
  ·intro hpk
   exact zf (zF (show ¬(i:Int) < (i:Int) by omega)) (za (zq (.inl ⟨rfl,rfl,fun k b hk=>hpk k hk b⟩)))
  ·rintro ⟨j,⟨v,w,⟨⟩⟩,⟨⟩⟩ (⟨rfl,rfl,hk⟩ | ⟨rfl,rfl,hk⟩)
   ·exact zd rfl (za (jC (by omega) fun a ha=>by rw [hx] at ha;cases ha;exact hk))
   ·exact zf rfl (za (zq (.inr ⟨rfl,rfl,hk⟩)))
 ·intro hp
  exact zf (zF (show ¬(l.length:Int) < (l.length:Int) by omega)) (za (zq (.inl ⟨rfl,fun i k a b hk ha hb=>hp i (by grind) a ha k b hk hb⟩)))
 ·rintro ⟨j,⟨v,w,⟨⟩⟩,⟨⟩⟩ (⟨rfl,hd⟩ | ⟨rfl,rfl,hd⟩)
  ·rw [zA hd];exact zd rfl (za rfl)
  ·rw [zM hd];exact zf rfl (za rfl)
theorem zrE {t:qm} (ht:jX t) (s:qw):QY (t,s,())=some (bif tv (vF t s) then 0 else 321,()):=by
 rw [zpf];unfold zcN
 simp only [QZ,zx,zA ht,cond_true,zgQ ht]
 rw [show (!zi 0 0)=false from rfl,cond_false]
 cases tv (vF t s)<;>rfl
theorem zG3 {l:List qw} (hn:l.length≤1000000000000000000) (id:Int):∃v e,xD (l,id,())=some (v,e,())∧QH (l,id,())=some (v,e,())∧((e=0∧∃(i:Nat) (s:qw),v=(i:Int)∧l[i]?=some s∧s.1=id∧∀(k:Nat) b,k < i→l[k]?=some b→b.1≠id)∨(e=4∧v=0∧∀s∈l,s.1≠id)):=by
 have key:qt (xD (l,id,())) fun r=>(r.2.1=0∧∃(i:Nat) (s:qw),r.1=(i:Int)∧l[i]?=some s∧s.1=id∧∀(k:Nat) b,k < i→l[k]?=some b→b.1≠id)∨(r.2.1=4∧r.1=0∧∀s∈l,s.1≠id):=by
  rw [zeG];unfold zcM
  refine zj (J:=fun x=>(x.1=0∧∀s∈l,s.1≠id)∨(x.1=1∧x.2.1.2.1=0∧∃(i:Nat) (s:qw),x.2.1.1=(i:Int)∧l[i]?=some s∧s.1=id∧∀(k:Nat) b,k < i→l[k]?=some b→b.1≠id))
   (zW l.length (fun i s=>s=((0,(0,((i:Int),()))),())∧∀(k:Nat) b,k < i→l[k]?=some b→b.1≠id) (zDZ hn) ⟨rfl,fun k b hk=>by omega⟩ ?_ ?_) ?_
  ·rintro i _ hi ⟨rfl,hp⟩
   have hx:l[i]?=some l[i]:=List.getElem?_eq_getElem hi
   generalize l[i]=s at hx
   refine zd (zT (show (i:Int) < (l.length:Int) by omega)) (zg (zy (n:=i) hx ?_))
   refine zk (fun h=>?_) (fun h=>?_)
   ·exact za (zq (.inr ⟨rfl,rfl,i,s,rfl,hx,qU h,hp⟩))
   ·refine za (qj ⟨congrArg (fun z=>(((0:Int),((0:Int),(z,()))),())) (qp (by omega)),fun k b hk hb=>?_⟩)
    rcases Nat.lt_or_ge k i with hki | hki
    ·exact hp k b hki hb
    ·have:k=i:=by omega
     subst this
     rw [hx] at hb;cases hb
     exact jU h
  ·rintro _ ⟨rfl,hp⟩
   refine zf (zF (show ¬(l.length:Int) < (l.length:Int) by omega)) (za (zq (.inl ⟨rfl,fun s hs=>?_⟩)))
   obtain ⟨k,hk,hk2⟩:=jV hs
   exact hp k s hk hk2
  ·rintro ⟨j,⟨v,w,z,⟨⟩⟩,⟨⟩⟩ (⟨rfl,hq⟩ | ⟨rfl,rfl,hq⟩)
   ·exact zd rfl (za (.inr ⟨rfl,rfl,hq⟩))
   ·exact zf rfl (za (.inl ⟨rfl,hq⟩))
 obtain ⟨⟨v,e,⟨⟩⟩,h1,h2⟩:=key
 refine ⟨v,e,h1,?_,h2⟩
 rw [←h1,zrl,zeG];rfl
def JK (u:Int×Int×Int×Int):Prop:=(1≤u.1∧u.1≤10000)∧(0≤u.2.1∧u.2.1≤1000)∧(0≤u.2.2.1∧u.2.2.1≤10000)∧(1542≤u.2.2.2∧u.2.2.2≤65536)
theorem ztM (u:Int×Int×Int×Int):Vu (u,())=some (tv (JK u),()):=by
 rw [zqO];unfold zdV
 simp only [zgP,zx]
 unfold JK
 refine wv (zk (fun h1=>zk (fun h2=>zk (fun h3=>?_) fun h=>?_) fun h=>?_) fun h=>?_)<;>refine za ?_
 ·exact ⟨fun h=>⟨ZO h1,ZO h2,ZO h3,ZO h⟩,fun h=>zA h.2.2.2⟩
 ·exact ⟨fun h=>(by cases h),fun h2=>absurd h2.2.2.1 (Zn h)⟩
 ·exact ⟨fun h=>(by cases h),fun h2=>absurd h2.2.1 (Zn h)⟩
 ·exact ⟨fun h=>(by cases h),fun h2=>absurd h2.1 (Zn h)⟩
theorem zjc (u:Int×Int×Int×Int):uO (u,())=some (bif tv (JK u) then 0 else 320,()):=by
 rw [zhW];unfold VP
 simp only [KR,zx]
 by_cases h1:1≤u.1∧u.1≤10000
 ·by_cases h2:0≤u.2.1∧u.2.1≤1000
  ·by_cases h3:0≤u.2.2.1∧u.2.2.1≤10000
   ·by_cases h4:1542≤u.2.2.2∧u.2.2.2≤65536
    ·rw [zA h1,zA h2,zA h3,zA h4,zA (show JK u from ⟨h1,h2,h3,h4⟩)];rfl
    ·rw [zA h1,zA h2,zA h3,zM h4,zM (fun h:JK u=>h4 h.2.2.2)];rfl
   ·rw [zA h1,zA h2,zM h3,zM (fun h:JK u=>h3 h.2.2.1)];rfl
  ·rw [zA h1,zM h2,zM (fun h:JK u=>h2 h.2.1)];rfl
 ·rw [zM h1,zM (fun h:JK u=>h1 h.1)];rfl
abbrev Gts:=List (Int×Int)×Int
def zcS (e:Int×Int):Prop:=0≤e.1∧e.1≤255∧1≤e.2∧e.2≤9600000
def qO (l:List (Int×Int)):Int:=(l.map (·.2)).sum
structure qH (g:Gts):Prop where
 n0:1≤g.1.length
 n1:g.1.length≤128
 el:∀e∈g.1,zcS e
 cy:qO g.1=g.2
 c1:g.2≤9600000
theorem ga {l:List (Int×Int)} {n:Nat} {x:Int×Int} (h:l[n]?=some x):qO (l.take (n+1))=qO (l.take n)+x.2:=by
 unfold qO;rw [List.take_add_one,h];simp
theorem Jb {l:List (Int×Int)} (h:∀e∈l,zcS e):(l.length:Int)≤qO l∧qO l≤9600000*l.length:=by
 unfold qO
 induction l with
 |nil=>simp
 |cons a l ih=>
  obtain ⟨_,_,h1,h2⟩:=h a (by simp)
  have:=ih fun e he=>h e (by simp [he])
  simp only [List.map_cons,List.sum_cons,List.length_cons]
  omega
theorem ztN {g:Gts} (n1:g.1.length≤128) {α:Type} {z bad:α} {B:((α×(Int×(Int×Unit)))×Unit)→Option ((Nat×((α×(Int×(Int×Unit)))×Unit)) ⊕ ((α×(Int×(Int×Unit)))×Unit))}
  (hB
    : B=fun s1=>bif (zh (s1.1.2.2.1) ((((g.1).length:Nat):Int))) then opt (atI (g.1) (s1.1.2.2.1)) fun x2=>
    opt (bif (zh (x2.1) (0)) then some (1,((bad,()),()))
     else bif (zh (255) (x2.1)) then some (1,((bad,()),()))
      else bif (zh (x2.2) (1)) then some (1,((bad,()),()))
       else bif (zh (9600000) (x2.2)) then some (1,((bad,()),()))
        else some (0,((s1.1.1,()),()))) fun x3=>
    bif (Nat.beq x3.1 0) then some (.inr ((x3.2.1.1,((wrF .i64 ((s1.1.2.1+x2.2))),((wrF .i64 ((s1.1.2.2.1+1))),()))),()))
    else some (.inl (1,((x3.2.1.1,(s1.1.2.1,(s1.1.2.2.1,()))),())))
   else some (.inl (0,((s1.1.1,(s1.1.2.1,(s1.1.2.2.1,()))),())))) :
  qt (zz B zL ((z,(0,(0,()))),())) fun x=>(x.1=0∧x.2.1.1=z∧x.2.1.2.1=qO g.1∧∀e∈g.1,zcS e)∨(x.1=1∧x.2.1.1=bad∧¬∀e∈g.1,zcS e):=by
 subst hB
 refine zW g.1.length (fun i s=>s=((z,(qO (g.1.take i),((i:Int),()))),())∧∀e∈g.1.take i,zcS e) (by omega) ⟨rfl,fun e he=>by simp at he⟩ ?_ ?_
 ·rintro i _ hi ⟨rfl,hp⟩
  have hx:g.1[i]?=some g.1[i]:=List.getElem?_eq_getElem hi
  have hm:=List.getElem_mem hi
  generalize g.1[i]=e at hx hm
  refine zd (zT (show (i:Int) < (g.1.length:Int) by omega)) (zg (zy (n:=i) hx ?_))
  refine zj (J:=fun x=>(x.1=0∧x.2.1.1=z∧zcS e)∨(x.1=1∧x.2.1.1=bad∧¬zcS e)) ?_ ?_
  ·refine zk (fun h=>za (.inr ⟨rfl,rfl,fun hs=>?_⟩)) fun h1=>zk (fun h=>za (.inr ⟨rfl,rfl,fun hs=>?_⟩)) fun h2=>zk (fun h=>za (.inr ⟨rfl,rfl,fun hs=>?_⟩)) fun h3=>zk (fun h=>za (.inr ⟨rfl,rfl,fun hs=>?_⟩)) fun h4=>za (.inl ⟨rfl,rfl,?_⟩)
   ·have:=qn h;have:=hs.1;omega
   ·have:=qn h;have:=hs.2.1;omega
   ·have:=qn h;have:=hs.2.2.1;omega
   ·have:=qn h;have:=hs.2.2.2;omega
   ·exact ⟨qE h1,qE h2,qE h3,qE h4⟩
  ·rintro ⟨j,⟨v,⟨⟩⟩,⟨⟩⟩ (⟨rfl,rfl,he⟩ | ⟨rfl,rfl,he⟩)
   ·have hb:=Jb hp
    have hl:(g.1.take i).length=i:=by simp;omega
    have e1:wrF .i64 (qO (g.1.take i)+e.2)=qO (g.1.take (i+1)):=by
     rw [ga hx,zG]<;>(have:=he.2.2.1;have:=he.2.2.2;omega)
    refine zd rfl (za (qj ⟨?_,fun e' he'=>?_⟩))
    ·rw [←e1,←qp (by omega)]
    ·rw [List.take_add_one,hx] at he'
     simp only [Option.toList,List.mem_append,List.mem_singleton] at he'
     rcases he' with h | rfl
     ·exact hp e' h
     ·exact he
   ·exact zf rfl (za (zq (.inr ⟨rfl,rfl,fun h=>he (h e hm)⟩)))
 ·rintro _ ⟨rfl,hp⟩
  refine zf (zF (show ¬(g.1.length:Int) < (g.1.length:Int) by omega)) (za (zq (.inl ⟨rfl,rfl,?_,?_⟩)))
  ·show qO (g.1.take g.1.length)=_
   rw [List.take_length]
  ·rw [List.take_length] at hp;exact hp
theorem zbO (g:Gts):xn (g,())=some (bif tv (qH g) then 0 else 370,()):=by
 have bad:∀{v:Int},¬qH g→v=370→v=bif tv (qH g) then 0 else 370:=fun h e=>by rw [zM h,e];rfl
 rw [zqL];unfold zdQ
 refine ym (zj (J:=fun x=>(x.1=0∧x.2.1.1=0∧1≤g.1.length∧g.1.length≤128)∨(x.1=1∧x.2.1.1=370∧¬qH g)) ?_ ?_)
 ·refine zk (fun h=>za (.inr ⟨rfl,rfl,fun hs=>?_⟩)) fun h1=>zk (fun h=>za (.inr ⟨rfl,rfl,fun hs=>?_⟩)) fun h2=>za (.inl ⟨rfl,rfl,?_⟩)
  ·have:=qn h;have:=hs.n0;omega
  ·have:=qn h;have:=hs.n1;omega
  ·have:=qE h1;have:=qE h2;omega
 rintro ⟨j,⟨v,⟨⟩⟩,⟨⟩⟩ (⟨rfl,rfl,n0,n1⟩ | ⟨rfl,rfl,hq⟩)
 rotate_left
 ·exact zf rfl (za (bad hq rfl))
 refine zd rfl (zj (ztN n1 rfl) ?_)
 rintro ⟨j,⟨v,w,z,⟨⟩⟩,⟨⟩⟩ (⟨rfl,rfl,rfl,he⟩ | ⟨rfl,rfl,he⟩)
 rotate_left
 ·exact zf rfl (za (bad (fun h=>he h.el) rfl))
 refine zd rfl (zj (J:=fun x=>(x.1=0∧qH g)∨(x.1=1∧x.2.1.1=370∧¬qH g)) ?_ ?_)
 ·refine zk (fun h=>za (.inr ⟨rfl,rfl,fun hs=>?_⟩)) fun h1=>zk (fun h=>za (.inr ⟨rfl,rfl,fun hs=>?_⟩)) fun h2=>za (.inl ⟨rfl,n0,n1,he,qU (by simpa using h1),?_⟩)
  ·rw [vH hs.cy] at h;cases h
  ·have:=qn h;have:=hs.c1;have:=hs.cy;simp only at *;omega
  ·have:=qE h2
   have:qO g.1=g.2:=qU (by simpa using h1)
   simp only at *;omega
 ·rintro ⟨j,⟨v,⟨⟩⟩,⟨⟩⟩ (⟨rfl,hq⟩ | ⟨rfl,rfl,hq⟩)
  ·rw [zA hq];exact zd rfl (za rfl)
  ·exact zf rfl (za (bad hq rfl))
theorem zhB (g:Gts):Zb (g,())=some (tv (qH g),()):=by
 rw [zqP];unfold zdY
 refine wv (zj (J:=fun x=>(x.1=0∧x.2.1.1=false∧1≤g.1.length∧g.1.length≤128)∨(x.1=1∧x.2.1.1=false∧¬qH g)) ?_ ?_)
 ·refine zk (fun h=>za (.inr ⟨rfl,rfl,fun hs=>?_⟩)) fun h1=>zk (fun h=>za (.inr ⟨rfl,rfl,fun hs=>?_⟩)) fun h2=>za (.inl ⟨rfl,rfl,?_⟩)
  ·have:=qn h;have:=hs.n0;omega
  ·have:=qn h;have:=hs.n1;omega
  ·have:=qE h1;have:=qE h2;omega
 rintro ⟨j,⟨v,⟨⟩⟩,⟨⟩⟩ (⟨rfl,rfl,n0,n1⟩ | ⟨rfl,rfl,hq⟩)
 rotate_left
 ·exact zf rfl (za ⟨fun h=>(by cases h),fun h=>absurd h hq⟩)
 refine zd rfl (zj (ztN n1 rfl) ?_)
 rintro ⟨j,⟨v,w,z,⟨⟩⟩,⟨⟩⟩ (⟨rfl,rfl,rfl,he⟩ | ⟨rfl,rfl,he⟩)
 rotate_left
 ·exact zf rfl (za ⟨fun h=>(by cases h),fun h=>absurd h.el he⟩)
 refine zd rfl (zk (fun h1=>?_) (fun h1=>?_))
 ·have h1:qO g.1=g.2:=qU h1
  refine za ⟨fun h2=>⟨n0,n1,he,h1,?_⟩,fun hs=>?_⟩
  ·have h2:(!zh 9600000 (qO g.1))=true:=h2
   have:=qE (show zh 9600000 (qO g.1)=false by simpa using h2)
   omega
  ·show (!zh 9600000 (qO g.1))=true
   rw [zF (by have:=hs.c1;omega)];rfl
 ·exact za ⟨fun h=>(by cases h),fun h=>absurd h.cy (jU h1)⟩
abbrev Fab:=qm×(Int×Int×Int×Int)×List Gts×Int
def zkr (n:Fab):Prop:=∀g∈n.2.2.1,qH g
def zn5 (n:Fab):Prop:=(n.2.2.1.length:Int)=2*(n.1.2.2.length:Int)∧84≤n.2.2.2∧n.2.2.2≤1542
noncomputable def Qb (n:Fab):Int:=bif tv (jX n.1) then bif tv (JK n.2.1) then bif tv (zkr n) then bif tv (zn5 n) then 0 else 410 else 370 else 320 else 260
structure zig (n:Fab):Prop where
 t:jX n.1
 u:JK n.2.1
 g:zkr n
 f:zn5 n
theorem zn6 {n:Fab} (h:Qb n=0):zig n:=by
 unfold Qb at h
 by_cases h1:jX n.1
 ·by_cases h2:JK n.2.1
  ·by_cases h3:zkr n
   ·by_cases h4:zn5 n
    ·exact ⟨h1,h2,h3,h4⟩
    ·rw [zA h1,zA h2,zA h3,zM h4] at h;cases h
   ·rw [zA h1,zA h2,zM h3] at h;cases h
  ·rw [zA h1,zM h2] at h;cases h
 ·rw [zM h1] at h;cases h
theorem ztO {n:Fab} (hl:n.1.2.2.length≤24):qt (bif (!(zi ((((n.2.2.1).length:Nat):Int)) ((wrF .i64 ((2*(((n.1.2.2).length:Nat):Int))))))) then some ((1:Nat),(((410:Int),()),()))
     else bif (zh (n.2.2.2) (84)) then some (1,((410,()),()))
      else bif (zh (1542) (n.2.2.2)) then some (1,((410,()),()))
       else some (0,((0,()),()))) fun x=>(x.1=0∧x.2.1.1=0∧zn5 n)∨(x.1=1∧x.2.1.1=410∧¬zn5 n):=by
 rw [tw n.1 (by omega)]
 refine zk (fun h=>za (.inr ⟨rfl,rfl,fun hs=>?_⟩)) fun h1=>zk (fun h=>za (.inr ⟨rfl,rfl,fun hs=>?_⟩)) fun h2=>zk (fun h=>za (.inr ⟨rfl,rfl,fun hs=>?_⟩)) fun h3=>za (.inl ⟨rfl,rfl,?_⟩)
 ·rw [vH hs.1] at h;cases h
 ·have:=qn h;have:=hs.2.1;omega
 ·have:=qn h;have:=hs.2.2;omega
 ·exact ⟨qU (by simpa using h1),qE h2,qE h3⟩
theorem Xr {n:Fab} (hn:n.2.2.1.length≤1000000000000000000):jB (n,())=some (Qb n,()):=by
 rw [zhX];unfold VQ Qb
 simp only [QZ,zx]
 by_cases ht:jX n.1
 rotate_left
 ·rw [zM ht];rfl
 rw [zA ht]
 simp only [cond_true,zjc,zx]
 rw [show (!zi 0 0)=false from rfl,cond_false]
 by_cases hu:JK n.2.1
 rotate_left
 ·rw [zM hu];rfl
 rw [zA hu]
 simp only [cond_true]
 rw [show (!zi 0 0)=false from rfl,cond_false]
 refine ym (zj (J:=fun x=>(x.1=0∧x.2.1.1=0∧zkr n)∨(x.1=1∧x.2.1.1=370∧¬zkr n)) (qN n.2.2.1.length (fun i=>∀g,n.2.2.1[i]?=some g→qH g) hn ?_ ?_) ?_)
 ·intro i hi hp
  have hx:n.2.2.1[i]?=some n.2.2.1[i]:=List.getElem?_eq_getElem hi
  have hm:=List.getElem_mem hi
  generalize n.2.2.1[i]=g at hx hm
  refine zd (zT (show (i:Int) < (n.2.2.1.length:Int) by omega)) (zg (zy (n:=i) hx ?_))
  rw [zbO,zx]
  by_cases hg:qH g
  ·rw [zA hg]
   exact zf rfl (za (jC (by omega) fun r' hr'=>by rw [hx] at hr';cases hr';exact hg))
  ·rw [zM hg]
   exact zd rfl (za (zq (.inr ⟨rfl,rfl,fun hq=>hg (hq g hm)⟩)))
 ·intro hp
  refine zf (zF (show ¬(n.2.2.1.length:Int) < (n.2.2.1.length:Int) by omega)) (za (zq (.inl ⟨rfl,rfl,fun r hr=>?_⟩)))
  obtain ⟨k,hk,hk2⟩:=jV hr
  exact hp k hk r hk2
 ·rintro ⟨j,⟨v,w,⟨⟩⟩,⟨⟩⟩ (⟨rfl,rfl,hq⟩ | ⟨rfl,rfl,hq⟩)
  ·rw [zA hq]
   refine zd rfl (zj (ztO ht.sz.ls) ?_)
   rintro ⟨j,⟨v,⟨⟩⟩,⟨⟩⟩ (⟨rfl,rfl,hf⟩ | ⟨rfl,rfl,hf⟩)
   ·rw [zA hf];exact zd rfl (za rfl)
   ·rw [zM hf];exact zf rfl (za rfl)
  ·rw [zM hq];exact zf rfl (za rfl)
theorem zjd {n:Fab} (hn:n.2.2.1.length≤1000000000000000000):Zo (n,())=some (Qb n,()):=by
 rw [zhY];unfold VR Qb
 simp only [zhw,zx]
 by_cases ht:jX n.1
 rotate_left
 ·rw [zM ht];rfl
 rw [zA ht]
 simp only [Bool.not_true,cond_false,cond_true,ztM,zx]
 by_cases hu:JK n.2.1
 rotate_left
 ·rw [zM hu];rfl
 rw [zA hu]
 simp only [Bool.not_true,cond_false,cond_true]
 refine ym (zj (J:=fun x=>(x.1=0∧x.2.1.1=0∧zkr n)∨(x.1=1∧x.2.1.1=370∧¬zkr n)) (qN n.2.2.1.length (fun i=>∀g,n.2.2.1[i]?=some g→qH g) hn ?_ ?_) ?_)
 ·intro i hi hp
  have hx:n.2.2.1[i]?=some n.2.2.1[i]:=List.getElem?_eq_getElem hi
  have hm:=List.getElem_mem hi
  generalize n.2.2.1[i]=g at hx hm
  refine zd (zT (show (i:Int) < (n.2.2.1.length:Int) by omega)) (zg (zy (n:=i) hx ?_))
  rw [zhB,zx]
  by_cases hg:qH g
  ·rw [zA hg]
   exact zf rfl (za (jC (by omega) fun r' hr'=>by rw [hx] at hr';cases hr';exact hg))
  ·rw [zM hg]
   exact zd rfl (za (zq (.inr ⟨rfl,rfl,fun hq=>hg (hq g hm)⟩)))
 ·intro hp
  refine zf (zF (show ¬(n.2.2.1.length:Int) < (n.2.2.1.length:Int) by omega)) (za (zq (.inl ⟨rfl,rfl,fun r hr=>?_⟩)))
  obtain ⟨k,hk,hk2⟩:=jV hr
  exact hp k hk r hk2
 ·rintro ⟨j,⟨v,w,⟨⟩⟩,⟨⟩⟩ (⟨rfl,rfl,hq⟩ | ⟨rfl,rfl,hq⟩)
  ·rw [zA hq]
   refine zd rfl (zj (ztO ht.sz.ls) ?_)
   rintro ⟨j,⟨v,⟨⟩⟩,⟨⟩⟩ (⟨rfl,rfl,hf⟩ | ⟨rfl,rfl,hf⟩)
   ·rw [zA hf];exact zd rfl (za rfl)
   ·rw [zM hf];exact zf rfl (za rfl)
  ·rw [zM hq];exact zf rfl (za rfl)
def opn (m:Int):Bool:=m / 64 % 2 == 1
theorem zHE {m:Int}:wH .i64 m 6=m / 64:=by
 show m.fdiv (2 ^ (min (6:Int).toNat 64))=m / 64
 rw [show (2:Int) ^ (min (6:Int).toNat 64)=64 from rfl]
 exact Int.fdiv_eq_ediv_of_nonneg m (by omega)
theorem xN {e:Int×Int} (h:zcS e):xV (e,())=some (opn e.1,()):=by
 rw [zb7];unfold Vc opn
 rw [zHE]
 have h0:=h.1;have h1:=h.2.1
 have:e.1 / 64=0∨e.1 / 64=1∨e.1 / 64=2∨e.1 / 64=3:=by omega
 rcases this with h | h | h | h<;>rw [h]<;>rfl
theorem Gy {m:Int} (h:0≤m):uW (m,6,())=some (opn m,()):=by
 rw [zu8];unfold zh4 opn
 rw [show wrF .u64 6=6 from rfl,zHE]
 refine ym (zf rfl (za ?_))
 show zi (Int.tmod (m / 64) 2) 1=_
 rw [jT,Int.tmod_eq_emod_of_nonneg (by omega)]
def opA:List (Int×Int)→Int→Bool
 |[],_=>false
 |e::l,r=>if r < e.2 then opn e.1 else opA l (r - e.2)
def opT (g:Gts) (t:Int):Bool:=opA g.1 (t % g.2)
theorem zz6:∀(l:List (Int×Int)),(∀e∈l,zcS e)→∀(i:Nat) (e:Int×Int) (r:Int),l[i]?=some e→qO (l.take i)≤r→r < qO (l.take i)+e.2→opA l r=opn e.1
 |[],_,i,e,r,h,_,_=>by simp at h
 |a::l,hl,0,e,r,h,h1,h2=>by
  simp at h;subst h
  simp [qO] at h1 h2
  unfold opA;rw [if_pos h2]
 |a::l,hl,i+1,e,r,h,h1,h2=>by
  have h':l[i]?=some e:=by simpa using h
  have hh:=Jb (l:=l.take i) fun e he=>hl e (by simp [List.mem_of_mem_take he])
  have ea:qO ((a::l).take (i+1))=a.2+qO (l.take i):=by simp [qO]
  rw [ea] at h1 h2
  unfold opA
  rw [if_neg (by omega)]
  exact zz6 l (fun e he=>hl e (by simp [he])) i e (r - a.2) h' (by omega) (by omega)
theorem zBq (g:Gts) (t:Int):opT g (t+g.2)=opT g t:=by unfold opT;rw [Int.add_emod_right]
theorem KS {l:List (Int×Int)} (h:∀e∈l,zcS e) {i k:Nat} (hk:i≤k):qO (l.take i)≤qO (l.take k):=by
 obtain ⟨d,rfl⟩:∃d,k=i+d:=⟨k - i,by omega⟩
 induction d with
 |zero=>exact Int.le_refl _
 |succ d ih=>
  have:=ih (by omega)
  rcases Nat.lt_or_ge (i+d) l.length with h2 | h2
  ·have hx:l[i+d]?=some l[i+d]:=List.getElem?_eq_getElem h2
   have:=ga hx
   have:=(h _ (List.getElem_mem h2)).2.2.1
   rw [show i+(d+1)=i+d+1 from rfl];omega
  ·rw [List.take_of_length_le (by omega:l.length≤i+(d+1)),←List.take_of_length_le (l:=l) (by omega:l.length≤i+d)]
   rw [List.take_of_length_le (l:=l) (by omega:l.length≤i+d)] at this ⊢
   exact this
theorem KT (l:List (Int×Int)):qO (l.take l.length)=qO l:=by rw [List.take_length]
theorem qH.pos {g:Gts} (h:qH g):1≤g.2:=by
 have:=(Jb h.el).1;have:=h.cy;have:=h.n0;omega
def tAt (g:Gts) (k:Nat):Int:=((k / g.1.length:Nat):Int)*g.2+qO (g.1.take (k % g.1.length))
theorem zz7 {g:Gts} {k:Nat} (h:k < g.1.length):tAt g k=qO (g.1.take k):=by
 unfold tAt;rw [Nat.div_eq_of_lt h,Nat.mod_eq_of_lt h];simp
theorem zBr {g:Gts} (hg:qH g) (k:Nat):tAt g (k+g.1.length)=tAt g k+g.2:=by
 have:=hg.n0
 unfold tAt
 rw [Nat.add_div_right _ (by omega),Nat.add_mod_right,Int.natCast_succ,Int.add_mul];omega
theorem zgR {g:Gts} (hg:qH g) {k:Nat} {e:Int×Int} (h:g.1[k % g.1.length]?=some e):tAt g (k+1)=tAt g k+e.2:=by
 have h0:=hg.n0
 have hm:k % g.1.length < g.1.length:=Nat.mod_lt _ (by omega)
 have hk:=Nat.div_add_mod k g.1.length
 have hs:=ga h
 unfold tAt
 rcases Nat.lt_or_ge (k % g.1.length+1) g.1.length with h1 | h1
 ·have e1:(k+1) % g.1.length=k % g.1.length+1:=by
   rw [Nat.add_mod,Nat.mod_eq_of_lt (show 1 < g.1.length by omega),Nat.mod_eq_of_lt h1]
  have e2:(k+1) / g.1.length=k / g.1.length:=by
   have a:=Nat.div_add_mod (k+1) g.1.length
   rw [e1] at a
   have b:g.1.length*((k+1) / g.1.length)=g.1.length*(k / g.1.length):=by omega
   exact Nat.eq_of_mul_eq_mul_left (by omega) b
  rw [e1,e2,hs];omega
 ·have h2:k % g.1.length+1=g.1.length:=by omega
  have e3:k+1=(k / g.1.length+1)*g.1.length:=by
   rw [Nat.add_mul,Nat.mul_comm];omega
  have e1:(k+1) % g.1.length=0:=by rw [e3];exact Nat.mul_mod_left _ _
  have e2:(k+1) / g.1.length=k / g.1.length+1:=by rw [e3];exact Nat.mul_div_left _ (by omega)
  rw [h2,KT,hg.cy] at hs
  rw [e1,e2,Int.natCast_succ,Int.add_mul]
  simp only [List.take_zero]
  have:qO []=0:=rfl
  omega
theorem zz8 {g:Gts} (hg:qH g) {k:Nat} {e:Int×Int} (h:g.1[k % g.1.length]?=some e) {t:Int} (h1:tAt g k≤t) (h2:t < tAt g k+e.2):opT g t=opn e.1:=by
 have h0:=hg.n0
 have hm:k % g.1.length < g.1.length:=Nat.mod_lt _ (by omega)
 have hs:=ga h
 have hb:=Jb (l:=g.1.take (k % g.1.length)) fun e he=>hg.el e (List.mem_of_mem_take he)
 have hle:=KS hg.el (show k % g.1.length+1≤g.1.length by omega)
 rw [KT,hg.cy] at hle
 unfold tAt at h1 h2
 have hr:t % g.2=t - ((k / g.1.length:Nat):Int)*g.2:=by
  have:t=(t - ((k / g.1.length:Nat):Int)*g.2)+((k / g.1.length:Nat):Int)*g.2:=by omega
  rw [this,Int.add_mul_emod_self_right,Int.emod_eq_of_lt (by omega) (by omega)];omega
 unfold opT
 exact zz6 g.1 hg.el (k % g.1.length) e _ h (by omega) (by omega)
theorem zG4 {g:Gts} (hg:qH g) (t:Int):∃(i:Nat) (e:Int×Int),g.1[i]?=some e∧qO (g.1.take i)≤t % g.2∧t % g.2 < qO (g.1.take i)+e.2:=by
 have hp:=hg.pos
 have h1:=Int.emod_nonneg t (show g.2≠0 by omega)
 have h2:=Int.emod_lt_of_pos t (show 0 < g.2 by omega)
 have key:∀(n:Nat),n≤g.1.length→t % g.2 < qO (g.1.take n)→∃(i:Nat) (e:Int×Int),g.1[i]?=some e∧qO (g.1.take i)≤t % g.2∧t % g.2 < qO (g.1.take i)+e.2:=by
  intro n
  induction n with
  |zero=>intro _ h;simp [qO] at h;omega
  |succ n ih=>
   intro hn h
   have hx:g.1[n]?=some g.1[n]:=List.getElem?_eq_getElem (by omega)
   rw [ga hx] at h
   rcases Int.lt_or_le (t % g.2) (qO (g.1.take n)) with h3 | h3
   ·exact ih (by omega) h3
   ·exact ⟨n,_,hx,h3,h⟩
 exact key g.1.length (Nat.le_refl _) (by rw [KT,hg.cy];exact h2)
def Xt (l:List (Int×Int)):Prop:=∀e∈l,opn e.1=true
theorem JL {g:Gts} (hg:qH g):xC (g,())=some (tv (Xt g.1),()):=by
 have h1:=hg.n1
 rw [zpa];unfold zcL
 refine wv (zj (J:=fun x=>(x.1=0∧Xt g.1)∨(x.1=1∧x.2.1.1=false∧¬Xt g.1)) (qN g.1.length (fun i=>∀e,g.1[i]?=some e→opn e.1=true) (by omega) ?_ ?_) ?_)
 ·intro i hi hp
  have hx:g.1[i]?=some g.1[i]:=List.getElem?_eq_getElem hi
  have hm:=List.getElem_mem hi
  generalize g.1[i]=e at hx hm
  refine zd (zT (show (i:Int) < (g.1.length:Int) by omega)) (zg (zy (n:=i) hx ?_))
  rw [Gy (hg.el e hm).1]
  refine zk (fun h=>?_) (fun h=>?_)
  ·have h':(!opn e.1)=true:=h
   refine za (zq (.inr ⟨rfl,rfl,fun hq=>?_⟩))
   rw [hq e hm] at h';cases h'
  ·have h':(!opn e.1)=false:=h
   exact za (jC (by omega) fun r' hr'=>by rw [hx] at hr';cases hr';simpa using h')
 ·intro hp
  refine zf (zF (show ¬(g.1.length:Int) < (g.1.length:Int) by omega)) (za (zq (.inl ⟨rfl,fun r hr=>?_⟩)))
  obtain ⟨k,hk,hk2⟩:=jV hr
  exact hp k hk r hk2
 ·rintro ⟨j,⟨v,w,⟨⟩⟩,⟨⟩⟩ (⟨rfl,hq⟩ | ⟨rfl,rfl,hq⟩)
  ·exact zd rfl (za ⟨fun _=>hq,fun _=>rfl⟩)
  ·exact zf rfl (za ⟨fun h=>(by cases h),fun h=>absurd h hq⟩)
theorem zHT {e:Int×Int} (h:zcS e):zi (gp .and .i64 (wH .i64 e.1 6) 1) 1=opn e.1:=by
 have:=xN h
 rw [zb7] at this
 unfold Vc at this
 exact congrArg (·.1) (Option.some.inj this)
theorem zvC {g:Gts} (hg:qH g) {e:Int×Int} (h:g.1[0]?=some e):Xb (g,0,())=some (0,e.2,()):=by
 have hp:=hg.pos;have hc:=hg.c1
 have he:=hg.el e (List.mem_of_getElem? h)
 have h2:=he.2.2.1;have h3:=he.2.2.2
 rw [zs0];unfold zf2
 rw [qM (show g.2≠0 by omega),cond_false,cond_false,show atI g.1 0=some e from jJ (n:=0) h]
 simp only [zx]
 rw [show Int.tmod 0 g.2=0 from Int.zero_tmod _,show wrF .i64 (0+g.2)=g.2 from by rw [zG]<;>omega,show Int.tmod g.2 g.2=0 from Int.tmod_self]
 rw [zT (show (0:Int) < e.2 by omega),show wrF .i64 (e.2 - 0)=e.2 from by rw [zG]<;>omega]
 rfl
theorem zvD {g:Gts} (hg:qH g):qt (Xc (g,6,0,())) fun r=>(r.1=1099511627776∧Xt g.1)∨(r.1 < 1099511627776∧¬Xt g.1):=by
 have h0:=hg.n0;have h1:=hg.n1;have hp:=hg.pos;have hc:=hg.c1
 have hx0:g.1[0]?=some g.1[0]:=List.getElem?_eq_getElem (by omega)
 generalize g.1[0]=e0 at hx0
 rw [zs2];unfold zf3
 rw [zvC hg hx0,zx]
 have ew:wrF .i64 ((g.1.length:Int)+1)=(g.1.length:Int)+1:=zG (by omega) (by omega)
 rw [ew]
 refine zj (J:=fun x=>(x.1=0∧x.2.1.2.1=g∧Xt g.1)∨(x.1=1∧x.2.1.2.2.1 < g.2∧¬Xt g.1))
  (zW (g.1.length+1) (fun i s=>∃e,g.1[i % g.1.length]?=some e∧s=((6,(g,(0,(tAt g i,(((i % g.1.length:Nat):Int),(e.2,((i:Int),()))))))),())∧∀(k:Nat),k < i→∀e',g.1[k % g.1.length]?=some e'→opn e'.1=true) (by omega)
   ⟨e0,by rw [Nat.zero_mod];exact hx0,by rw [zz7 (by omega),Nat.zero_mod];rfl,fun k hk=>by omega⟩ ?_ ?_) ?_
 ·rintro i _ hi ⟨e,he,rfl,hp'⟩
  have hm:i % g.1.length < g.1.length:=Nat.mod_lt _ (by omega)
  have hen:=hg.el e (List.mem_of_getElem? he)
  have hts:=zgR hg he
  have htb:0≤tAt g i∧tAt g i≤2*9600000:=by
   unfold tAt
   have hb:=Jb (l:=g.1.take (i % g.1.length)) fun e he=>hg.el e (List.mem_of_mem_take he)
   have hle:=KS hg.el (show i % g.1.length≤g.1.length by omega)
   rw [KT,hg.cy] at hle
   have hd:i / g.1.length≤1:=by
    have:i / g.1.length < 2:=Nat.div_lt_of_lt_mul (by omega)
    omega
   have:((i / g.1.length:Nat):Int)*g.2≤1*g.2:=Int.mul_le_mul_of_nonneg_right (by omega) (by omega)
   have:0≤((i / g.1.length:Nat):Int)*g.2:=Int.mul_nonneg (Int.natCast_nonneg _) (by omega)
   omega
  refine zd (zT (show (i:Int) < (g.1.length:Int)+1 by omega)) (zg (zy (n:=i % g.1.length) he ?_))
  refine zf rfl ?_
  have hb:=zHT hen
  refine zk (fun h=>?_) (fun h=>?_)
  ·have h':(!zi (gp .and .i64 (wH .i64 e.1 6) 1) 1)=true:=h
   rw [hb] at h'
   refine za (zq (.inr ⟨rfl,?_,fun ha=>?_⟩))
   ·show tAt g i < g.2
    rcases Nat.lt_or_ge i g.1.length with hi2 | hi2
    ·rw [zz7 hi2]
     have hle:=KS hg.el (show i+1≤g.1.length by omega)
     rw [KT,hg.cy] at hle
     rw [Nat.mod_eq_of_lt hi2] at he
     rw [ga he] at hle
     have:=hen.2.2.1;omega
    ·exfalso
     have hi3:i=g.1.length:=by omega
     rw [hi3,Nat.mod_self] at he
     have:=hp' 0 (by omega) e (by rw [Nat.zero_mod];exact he)
     rw [this] at h';cases h'
   ·rw [ha e (List.mem_of_getElem? he)] at h';cases h'
  ·have h':(!zi (gp .and .i64 (wH .i64 e.1 6) 1) 1)=false:=h
   rw [hb] at h'
   have hop:opn e.1=true:=by simpa using h'
   refine zf (qM (show (g.1.length:Int)≠0 by omega)) ?_
   have e1:Int.tmod (wrF .i64 (((i % g.1.length:Nat):Int)+1)) (g.1.length:Int)=(((i+1) % g.1.length:Nat):Int):=by
    rw [qp (by omega),Int.tmod_eq_emod_of_nonneg (by omega),←Int.natCast_emod,Nat.mod_add_mod]
   have hm2:(i+1) % g.1.length < g.1.length:=Nat.mod_lt _ (by omega)
   have hx2:g.1[(i+1) % g.1.length]?=some (g.1[(i+1) % g.1.length]'hm2):=List.getElem?_eq_getElem hm2
   refine zg (qk (a:=g.1[(i+1) % g.1.length]'hm2) (by show atI g.1 (Int.tmod (wrF .i64 (((i % g.1.length:Nat):Int)+1)) (g.1.length:Int))=_;rw [e1];exact jJ hx2) ?_)
   refine za (qj ⟨_,hx2,?_,fun k hk e' he'=>?_⟩)
   ·show ((6,(g,(0,((wrF .i64 (tAt g i+e.2)),((Int.tmod (wrF .i64 (((i % g.1.length:Nat):Int)+1)) (g.1.length:Int)),(_,((wrF .i64 ((i:Int)+1)),()))))))),())=_
    rw [e1,qp (by omega),hts,zG (by have:=hen.2.2.1;omega) (by have:=hen.2.2.2;omega)]
   ·rcases Nat.lt_or_ge k i with hki | hki
    ·exact hp' k hki e' he'
    ·have:k=i:=by omega
     subst this
     rw [he] at he';cases he'
     exact hop
 ·rintro _ ⟨e,he,rfl,hp'⟩
  refine zf (zF (show ¬((g.1.length+1:Nat):Int) < (g.1.length:Int)+1 by omega)) (za (zq (.inl ⟨rfl,rfl,fun e' he'=>?_⟩)))
  obtain ⟨k,hk,hk2⟩:=jV he'
  exact hp' k (by omega) e' (by rw [Nat.mod_eq_of_lt hk];exact hk2)
 ·rintro ⟨j,⟨c,q,r,n,i,l,k,⟨⟩⟩,⟨⟩⟩ (⟨rfl,hq,ha⟩ | ⟨rfl,hq,ha⟩)
  ·simp only at hq
   subst hq
   exact zd rfl (zd (vH rfl) (za (.inl ⟨rfl,ha⟩)))
  ·simp only at hq
   refine zf rfl (zf (qM (show r≠g.2 by omega)) (za (.inr ⟨?_,ha⟩)))
   show r < _
   omega
theorem zdA {g:Gts} (hg:qH g):ZC (g,())=some (tv (Xt g.1),()):=by
 rw [zlL];unfold GR
 refine wv ?_
 have e1:Wp (g,6,0,0,())=some (0,()):=by
  rw [zqY];unfold zd3
  rw [zbO,zA hg];rfl
 obtain ⟨⟨v,⟨⟩⟩,e2,hv⟩:=zvD hg
 have e3:Xd (g,6,0,())=some (v,0,()):=by
  rw [zs4];unfold zf4
  rw [e1,e2];rfl
 rw [e3]
 refine za ?_
 rcases hv with ⟨h1,h2⟩ | ⟨h1,h2⟩
 ·exact ⟨fun _=>h2,fun _=>vH h1⟩
 ·exact ⟨fun h=>by have:=qU h;simp only at h1 this;omega,fun h=>absurd h h2⟩
structure Cov (o:Int→Bool) (a b:Int) (l:List (Int×Int)):Prop where
 bd:∀p∈l,a≤p.1∧p.1 < p.2∧p.2≤b
 pw:l.Pairwise fun p q=>p.2 < q.1
 iff:∀t,a≤t→t < b→(o t=true↔∃p∈l,p.1≤t∧t < p.2)
theorem zz9 {o:Int→Bool} {a b:Int} {p:Int×Int} {l:List (Int×Int)} (h:Cov o a b (p::l)):Cov o p.2 b l:=by
 have hp:=h.bd p (by simp)
 have hpw:=List.pairwise_cons.1 h.pw
 refine ⟨fun q hq=>?_,hpw.2,fun t h1 h2=>?_⟩
 ·have:=h.bd q (by simp [hq]);have:=hpw.1 q hq;omega
 ·rw [h.iff t (by omega) h2]
  constructor
  ·rintro ⟨q,hq,h3,h4⟩
   rcases List.mem_cons.1 hq with rfl | hq
   ·omega
   ·exact ⟨q,hq,h3,h4⟩
  ·rintro ⟨q,hq,h3,h4⟩
   exact ⟨q,by simp [hq],h3,h4⟩
theorem zrF {o:Int→Bool}:∀{l m:List (Int×Int)} {a b:Int},Cov o a b l→Cov o a b m→l=m
 |[],[],_,_,_,_=>rfl
 |[],q::m,a,b,h,h'=>by
  have hq:=h'.bd q (by simp)
  have:=(h'.iff q.1 hq.1 (by omega)).2 ⟨q,by simp,by omega,hq.2.1⟩
  obtain ⟨p,hp,_⟩:=(h.iff q.1 hq.1 (by omega)).1 this
  cases hp
 |p::l,[],a,b,h,h'=>by
  have hq:=h.bd p (by simp)
  have:=(h.iff p.1 hq.1 (by omega)).2 ⟨p,by simp,by omega,hq.2.1⟩
  obtain ⟨p,hp,_⟩:=(h'.iff p.1 hq.1 (by omega)).1 this
  cases hp
 |p::l,q::m,a,b,h,h'=>by
  have hp:=h.bd p (by simp)
  have hq:=h'.bd q (by simp)
  have hpw:=List.pairwise_cons.1 h.pw
  have hqw:=List.pairwise_cons.1 h'.pw
  have e1:p.1=q.1:=by
   apply Classical.byContradiction
   intro hne
   rcases Int.lt_or_lt_of_ne hne with hlt | hlt
   ·have:=(h.iff p.1 hp.1 (by omega)).2 ⟨p,by simp,by omega,hp.2.1⟩
    obtain ⟨r,hr,h1,h2⟩:=(h'.iff p.1 hp.1 (by omega)).1 this
    rcases List.mem_cons.1 hr with rfl | hr
    ·omega
    ·have:=hqw.1 r hr;omega
   ·have:=(h'.iff q.1 hq.1 (by omega)).2 ⟨q,by simp,by omega,hq.2.1⟩
    obtain ⟨r,hr,h1,h2⟩:=(h.iff q.1 hq.1 (by omega)).1 this
    rcases List.mem_cons.1 hr with rfl | hr
    ·omega
    ·have:=hpw.1 r hr;omega
  have e2:p.2=q.2:=by
   apply Classical.byContradiction
   intro hne
   rcases Int.lt_or_lt_of_ne hne with hlt | hlt
   ·have:=(h'.iff p.2 (by omega) (by omega)).2 ⟨q,by simp,by omega,by omega⟩
    obtain ⟨r,hr,h1,h2⟩:=(h.iff p.2 (by omega) (by omega)).1 this
    rcases List.mem_cons.1 hr with rfl | hr
    ·omega
    ·have:=hpw.1 r hr;omega
   ·have:=(h.iff q.2 (by omega) (by omega)).2 ⟨p,by simp,by omega,by omega⟩
    obtain ⟨r,hr,h1,h2⟩:=(h'.iff q.2 (by omega) (by omega)).1 this
    rcases List.mem_cons.1 hr with rfl | hr
    ·omega
    ·have:=hqw.1 r hr;omega
  have e:p=q:=Prod.ext e1 e2
  subst e
  rw [zrF (zz9 h) (zz9 h')]
theorem zvE (o:Int→Bool) (a:Int):Cov o a a []:=⟨fun p h=>(by cases h),List.Pairwise.nil,fun t h1 h2=>by omega⟩
theorem zoK {o:Int→Bool} {a b c:Int} {l:List (Int×Int)} (h:Cov o a b l) (hb:b≤c) (hab:a≤b) (hg:∀t,b≤t→t < c→o t=false):Cov o a c l:=by
 refine ⟨fun p hp=>by have:=h.bd p hp;omega,h.pw,fun t h1 h2=>?_⟩
 rcases Int.lt_or_le t b with h3 | h3
 ·exact h.iff t h1 h3
 ·rw [hg t h3 h2]
  constructor
  ·intro h;cases h
  ·rintro ⟨p,hp,h4,h5⟩
   have:=h.bd p hp;omega
theorem zBs {o:Int→Bool} {a b c:Int} {l:List (Int×Int)} (h:Cov o a b l) (hb:b < c) (hab:a≤b) (hl:∀p∈l,p.2 < b) (hg:∀t,b≤t→t < c→o t=true):Cov o a c (l++[(b,c)]):=by
 refine ⟨fun p hp=>?_,?_,fun t h1 h2=>?_⟩
 ·rcases List.mem_append.1 hp with hp | hp
  ·have:=h.bd p hp;omega
  ·simp at hp;subst hp;simp only;omega
 ·rw [List.pairwise_append]
  refine ⟨h.pw,List.pairwise_singleton _ _,fun p hp q hq=>?_⟩
  simp at hq;subst hq
  exact hl p hp
 ·rcases Int.lt_or_le t b with h3 | h3
  ·rw [h.iff t h1 h3]
   constructor
   ·rintro ⟨p,hp,h4⟩;exact ⟨p,by simp [hp],h4⟩
   ·rintro ⟨p,hp,h4,h5⟩
    rcases List.mem_append.1 hp with hp | hp
    ·exact ⟨p,hp,h4,h5⟩
    ·simp at hp;subst hp;simp only at h4;omega
  ·rw [hg t h3 h2]
   exact ⟨fun _=>⟨(b,c),by simp,h3,h2⟩,fun _=>rfl⟩
theorem zFS {o:Int→Bool} {a b c x:Int} {l:List (Int×Int)} (h:Cov o a b (l++[(x,b)])) (hb:b≤c) (hg:∀t,b≤t→t < c→o t=true):Cov o a c (l++[(x,c)]):=by
 have hx:=h.bd (x,b) (by simp)
 simp only at hx
 have hpw:=List.pairwise_append.1 h.pw
 refine ⟨fun p hp=>?_,?_,fun t h1 h2=>?_⟩
 ·rcases List.mem_append.1 hp with hp | hp
  ·have:=h.bd p (by simp [hp]);omega
  ·simp at hp;subst hp;simp only;omega
 ·rw [List.pairwise_append]
  refine ⟨hpw.1,List.pairwise_singleton _ _,fun p hp q hq=>?_⟩
  simp at hq;subst hq
  exact hpw.2.2 p hp (x,b) (by simp)
 ·rcases Int.lt_or_le t b with h3 | h3
  ·rw [h.iff t h1 h3]
   constructor
   ·rintro ⟨p,hp,h4,h5⟩
    rcases List.mem_append.1 hp with hp | hp
    ·exact ⟨p,by simp [hp],h4,h5⟩
    ·simp at hp;subst hp;exact ⟨(x,c),by simp,h4,by simp only at h5 ⊢;omega⟩
   ·rintro ⟨p,hp,h4,h5⟩
    rcases List.mem_append.1 hp with hp | hp
    ·exact ⟨p,by simp [hp],h4,h5⟩
    ·simp at hp;subst hp;exact ⟨(x,b),by simp,h4,h3⟩
  ·rw [hg t h3 h2]
   exact ⟨fun _=>⟨(x,c),by simp,by simp only;omega,h2⟩,fun _=>rfl⟩
def jn (lost:Int) (l:List (Int×Int)):Int:=(l.map fun p=>max 0 (p.2 - p.1 - lost)).sum
theorem VH {lost:Int} (hl:0≤lost):∀{l:List (Int×Int)} {a b:Int},a≤b→(∀p∈l,a≤p.1∧p.1 < p.2∧p.2≤b)→l.Pairwise (fun p q=>p.2 < q.1)→0≤jn lost l∧jn lost l≤b - a∧(l.length:Int)≤b - a
 |[],a,b,hab,_,_=>by simp [jn];omega
 |p::l,a,b,hab,hb,hp=>by
  have h1:=hb p (by simp)
  have hpw:=List.pairwise_cons.1 hp
  have ih:=VH (lost:=lost) hl (l:=l) (a:=p.2) (b:=b) (by omega) (fun q hq=>by have:=hb q (by simp [hq]);have:=hpw.1 q hq;omega) hpw.2
  unfold jn at ih ⊢
  simp only [List.map_cons,List.sum_cons,List.length_cons]
  omega
theorem zlv {l:List (Int×Int)} {lost a b:Int} (hl:0≤lost) (hl2:lost≤1000000000000) (hab:a≤b) (hbd:∀p∈l,a≤p.1∧p.1 < p.2∧p.2≤b) (hpw:l.Pairwise fun p q=>p.2 < q.1) (ha : -1000000000000≤a) (hb:b≤1000000000000):QT (l,lost,())=some (jn lost l,()):=by
 have hln:=(VH (lost:=lost) hl hab hbd hpw).2.2
 rw [zvb];unfold zh7
 refine ym (zj (J:=fun x=>x.2.1.1=jn lost l) (zW l.length (fun i s=>s=((jn lost (l.take i),((i:Int),())),())) (by omega) rfl ?_ ?_) ?_)
 ·rintro i _ hi rfl
  have hx:l[i]?=some l[i]:=List.getElem?_eq_getElem hi
  have hm:=List.getElem_mem hi
  generalize l[i]=p at hx hm
  have hp:=hbd p hm
  refine zd (zT (show (i:Int) < (l.length:Int) by omega)) (zg (zy (n:=i) hx (zg (zy (n:=i) hx ?_))))
  have hgi:=VH (lost:=lost) hl (l:=l.take i) hab (fun q hq=>hbd q (List.mem_of_mem_take hq)) (List.Pairwise.sublist (List.take_sublist i l) hpw)
  have e1:jn lost (l.take (i+1))=jn lost (l.take i)+max 0 (p.2 - p.1 - lost):=by
   unfold jn;rw [List.take_add_one,hx];simp
  refine za (qj ?_)
  show (((wrF .i64 (jn lost (l.take i)+uS 0 (wrF .i64 ((wrF .i64 (p.2 - p.1)) - lost)))),((wrF .i64 ((i:Int)+1)),())),())=_
  rw [We,zG (z:=p.2 - p.1) (by omega) (by omega),zG (z:=p.2 - p.1 - lost) (by omega) (by omega),zG (z:=jn lost (l.take i)+_) (by omega) (by omega),←e1,qp (by omega)]
 ·rintro _ rfl
  refine zf (zF (show ¬(l.length:Int) < (l.length:Int) by omega)) (za (zq ?_))
  show jn lost (l.take l.length)=_
  rw [List.take_length]
 ·rintro ⟨j,⟨v,w,⟨⟩⟩,⟨⟩⟩ hv
  exact za hv
theorem zAa {g:Gts} (hg:qH g) {t:Int} (h1 : -1000000000000≤t) (h2:t≤1000000000000):∃(i:Nat) (e:Int×Int),Up (g,t,())=some ((i:Int),t % g.2 - qO (g.1.take i),())∧g.1[i]?=some e∧qO (g.1.take i)≤t % g.2∧t % g.2 < qO (g.1.take i)+e.2:=by
 have hp:=hg.pos;have hc:=hg.c1;have hn:=hg.n1
 obtain ⟨i,e,hx,hi1,hi2⟩:=zG4 hg t
 refine ⟨i,e,?_,hx,hi1,hi2⟩
 have m1:=Int.emod_nonneg t (show g.2≠0 by omega)
 have m2:=Int.emod_lt_of_pos t (show 0 < g.2 by omega)
 have a1 : -g.2 < Int.tmod t g.2:=Int.lt_tmod_of_pos t (by omega)
 have a2:Int.tmod t g.2 < g.2:=Int.tmod_lt_of_pos t (by omega)
 have em:t % g.2=if Int.tmod t g.2 < 0 then Int.tmod t g.2+g.2 else Int.tmod t g.2:=by
  have h3:=Int.tmod_eq_emod (a:=t) (b:=g.2)
  have hna:((g.2.natAbs:Nat):Int)=g.2:=by omega
  by_cases hc2:0≤t∨g.2∣t
  ·rw [if_pos hc2] at h3
   rw [if_neg (by omega)];omega
  ·rw [if_neg hc2] at h3
   rw [if_pos (by omega)];omega
 rw [zxk];unfold zkj
 rw [qM (show g.2≠0 by omega),cond_false]
 have goal:qt (opt (bif (zh ((Int.tmod t g.2)) (0)) then some ((0:Nat),(((wrF .i64 (((Int.tmod t g.2)+g.2))),()),()))
   else some (0,(((Int.tmod t g.2),()),()))) fun x0=>
  opt (zz (fun s1:((Int×(Int×Unit))×Unit)=>
   opt (atI (g.1) (s1.1.2.1)) fun x2=>
   bif (!(zh (s1.1.1) (x2.2))) then opt (atI (g.1) (s1.1.2.1)) fun x3=>
    some (.inr (((wrF .i64 ((s1.1.1 - x3.2))),((wrF .i64 ((s1.1.2.1+1))),())),()))
   else some (.inl ((0:Nat),((s1.1.1,(s1.1.2.1,())),())))) zL ((x0.2.1.1,(0,())),())) fun x4=>
  some (x4.2.1.2.1,(x4.2.1.1,()))) (fun r=>r=((i:Int),(t % g.2 - qO (g.1.take i),()))):=by
  refine zj (J:=fun x=>x.2.1.1=t % g.2) ?_ ?_
  ·rw [em]
   refine zk (fun h=>?_) (fun h=>?_)
   ·have h:=qn h
    refine za ?_
    show wrF .i64 (Int.tmod t g.2+g.2)=_
    rw [if_pos h,zG (by omega) (by omega)]
   ·have h:=qE h
    refine za ?_
    show Int.tmod t g.2=_
    rw [if_neg (by omega)]
  rintro ⟨j,⟨v,⟨⟩⟩,⟨⟩⟩ hv
  simp only at hv
  subst hv
  have hil:i < g.1.length:=by grind
  refine zj (J:=fun x=>x.2.1.2.1=(i:Int)∧x.2.1.1=t % g.2 - qO (g.1.take i)) (zW i (fun k s=>s=((t % g.2 - qO (g.1.take k),((k:Int),())),())) (by omega) (by show _=((t % g.2 - 0,_),());rw [Int.sub_zero];rfl) ?_ ?_) ?_
  ·rintro k _ hk rfl
   have hy:g.1[k]?=some g.1[k]:=List.getElem?_eq_getElem (by omega)
   generalize g.1[k]=f at hy
   have hmo:=KS hg.el (show k+1≤i by omega)
   rw [ga hy] at hmo
   have hk0:=Jb (l:=g.1.take k) fun e he=>hg.el e (List.mem_of_mem_take he)
   have hf:=hg.el f (List.mem_of_getElem? hy)
   refine zg (zy (n:=k) hy (zd (by rw [zF (show ¬t % g.2 - qO (g.1.take k) < f.2 by omega)];rfl) (zg (zy (n:=k) hy ?_))))
   refine za (qj ?_)
   show (((wrF .i64 (t % g.2 - qO (g.1.take k) - f.2)),((wrF .i64 ((k:Int)+1)),())),())=_
   have:=hf.2.2.1;have:=hf.2.2.2
   rw [qp (by omega),ga hy,zG (by omega) (by omega),Int.sub_sub]
  ·rintro _ rfl
   refine zg (zy (n:=i) hx (zf (by rw [zT (show t % g.2 - qO (g.1.take i) < e.2 by omega)];rfl) (za (zq ⟨rfl,rfl⟩))))
  ·rintro ⟨j,⟨v,w,⟨⟩⟩,⟨⟩⟩ ⟨h1,h2⟩
   simp only at h1 h2
   subst h1 h2
   exact za rfl
 obtain ⟨r,e,rfl⟩:=goal
 exact e
theorem zdB {g:Gts} (hg:qH g) {a b:Int} (hab:a≤b) (ha : -100000000000≤a) (hb:b≤100000000000):∃l,xW (g,a,b,())=some (l,())∧Cov (opT g) a b l:=by
 have hp:=hg.pos;have hc:=hg.c1
 have key:qt (xW (g,a,b,())) fun r=>Cov (opT g) a b r.1:=by
  rw [zlQ];unfold GY
  refine zj (J:=fun x=>Cov (opT g) a b x.2.2.1) (zmS (fun s=>a≤s.1.2.1∧s.1.2.1≤b∧Cov (opT g) a s.1.2.1 s.2.1∧(s.1.1=true→∃m x,s.2.1=m++[(x,s.1.2.1)])∧(s.1.1=false→∀p∈s.2.1,p.2 < s.1.2.1)) _ (fun s=>(b - s.1.2.1).toNat) ⟨Int.le_refl _,hab,zvE _ _,fun h=>(by cases h),fun _ p hp=>(by cases hp)⟩ (by show (b - a).toNat < _;omega) ?_) ?_
  ·rintro ⟨⟨op,at_,⟨⟩⟩,out,⟨⟩⟩ ⟨h1,h2,hcov,ht,hf⟩
   simp only at h1 h2 hcov ht hf
   have hlen:=(VH (lost:=0) (by omega) h1 hcov.bd hcov.pw).2.2
   refine zk (fun h=>?_) (fun h=>?_)
   rotate_left
   ·have h:=qE h
    have:at_=b:=by simp only at h;omega
    subst this
    exact za (zmR hcov)
   have h3:=qn (show zh at_ b=true from h)
   obtain ⟨i,e,eA,hx,i1,i2⟩:=zAa hg (t:=at_) (by omega) (by omega)
   have hil:i < g.1.length:=by grind
   have he:=hg.el e (List.mem_of_getElem? hx)
   have m1:=Int.emod_nonneg at_ (show g.2≠0 by omega)
   have m2:=Int.emod_lt_of_pos at_ (show 0 < g.2 by omega)
   have hs0:=Jb (l:=g.1.take i) fun e he=>hg.el e (List.mem_of_mem_take he)
   have:=he.2.2.1;have:=he.2.2.2
   have hst:∀t,at_≤t→t < at_ - (at_ % g.2 - qO (g.1.take i))+e.2→opT g t=opn e.1:=by
    intro t t1 t2
    have hle:=KS hg.el (show i+1≤g.1.length by omega)
    rw [KT,hg.cy,ga hx] at hle
    have hr:t % g.2=at_ % g.2+(t - at_):=by
     have hdm:=Int.emod_add_mul_ediv at_ g.2
     have:t=(at_ % g.2+(t - at_))+g.2*(at_ / g.2):=by omega
     rw [this,Int.add_mul_emod_self_left,Int.emod_eq_of_lt (by omega) (by omega)];omega
    unfold opT
    exact zz6 g.1 hg.el i e _ hx (by omega) (by omega)
   rw [show Up (g,((op,at_,()),out,()).1.2.1,())=_ from eA,zx]
   refine zg (zy (n:=i) hx (zg (zy (n:=i) hx ?_)))
   rw [Gy he.1,zx]
   have eEnd:jQ (wrF .i64 ((wrF .i64 (at_ - (at_ % g.2 - qO (g.1.take i))))+e.2)) b=min (at_ - (at_ % g.2 - qO (g.1.take i))+e.2) b:=by
    rw [VC,zG (z:=at_ - _) (by omega) (by omega),zG (by omega) (by omega)]
   generalize hE:min (at_ - (at_ % g.2 - qO (g.1.take i))+e.2) b=E at eEnd
   have hE1:at_ < E:=by omega
   have hE2:E≤b:=by omega
   have hst':∀t,at_≤t→t < E→opT g t=opn e.1:=fun t t1 t2=>hst t t1 (by omega)
   cases ho:opn e.1 with
   |true=>
    rw [ho] at hst'
    cases hop:op with
    |true=>
     subst hop
     obtain ⟨m,x,hm⟩:=ht rfl
     have hne:out.length=m.length+1:=by rw [hm];simp
     have eL:wrF .i64 ((out.length:Int) - 1)=((m.length:Nat):Int):=by rw [zG]<;>omega
     have hlast:out[m.length]?=some (x,at_):=by rw [hm];simp
     refine zj (J:=fun x'=>x'.2.2.1=m++[(x,E)]) ?_ ?_
     ·refine zd rfl (zd rfl ?_)
      refine zg (qk (a:=(x,at_)) (by show atI out (wrF .i64 ((out.length:Int) - 1))=_;rw [eL];exact jJ hlast) (zg (qk (a:=(x,at_)) (by show gl out (Int.toNat (wrF .i64 ((out.length:Int) - 1)))=_;rw [eL,xQ];exact hlast) ?_)))
      refine za ?_
      show out.set (Int.toNat (wrF .i64 ((out.length:Int) - 1))) (x,jQ (wrF .i64 ((wrF .i64 (at_ - (at_ % g.2 - qO (g.1.take i))))+e.2)) b)=_
      rw [eL,eEnd,Int.toNat_natCast,hm]
      simp
     rintro ⟨j,⟨⟩,c,⟨⟩⟩ hc
     simp only at hc
     subst hc
     refine zj (J:=fun x'=>x'.2.2.1=m++[(x,E)]) (zd rfl (zf rfl (za rfl))) ?_
     rintro ⟨j,⟨⟩,c,⟨⟩⟩ hc
     simp only at hc
     subst hc
     refine za (zcB ⟨?_,?_,?_,fun _=>⟨m,x,?_⟩,fun h=>(by cases h)⟩ ?_)
     ·show a≤jQ _ _;rw [eEnd];omega
     ·show jQ _ _≤b;rw [eEnd];omega
     ·show Cov _ _ (jQ _ _) _;rw [eEnd];rw [hm] at hcov;exact zFS hcov (by omega) hst'
     ·show _=m++[(x,jQ _ _)];rw [eEnd]
     ·show (b - jQ _ _).toNat < (b - at_).toNat;rw [eEnd];omega
    |false=>
     subst hop
     refine zj (J:=fun x'=>x'.2.2.1=out) (zd rfl (zf rfl (za rfl))) ?_
     rintro ⟨j,⟨⟩,c,⟨⟩⟩ hc
     simp only at hc
     subst hc
     refine zj (J:=fun x'=>x'.2.2.1=c++[(at_,E)]) (zd rfl (zd rfl (zd (xh (by show (c.length+1)*16≤_;omega) (by show c.length+1≤_;omega)) (za ?_)))) ?_
     ·show c++[(at_,jQ (wrF .i64 ((wrF .i64 (at_ - (at_ % g.2 - qO (g.1.take i))))+e.2)) b)]=_
      rw [eEnd]
     rintro ⟨j,⟨⟩,c',⟨⟩⟩ hc
     simp only at hc
     subst hc
     refine za (zcB ⟨?_,?_,?_,fun _=>⟨c,at_,?_⟩,fun h=>(by cases h)⟩ ?_)
     ·show a≤jQ _ _;rw [eEnd];omega
     ·show jQ _ _≤b;rw [eEnd];omega
     ·show Cov _ _ (jQ _ _) _;rw [eEnd];exact zBs hcov hE1 h1 (hf rfl) hst'
     ·show _=c++[(at_,jQ _ _)];rw [eEnd]
     ·show (b - jQ _ _).toNat < (b - at_).toNat;rw [eEnd];omega
   |false=>
    rw [ho] at hst'
    refine zj (J:=fun x'=>x'.2.2.1=out) (zf rfl (za rfl)) ?_
    rintro ⟨j,⟨⟩,c,⟨⟩⟩ hc
    simp only at hc
    subst hc
    refine zj (J:=fun x'=>x'.2.2.1=c) (zf rfl (za rfl)) ?_
    rintro ⟨j,⟨⟩,c',⟨⟩⟩ hc
    simp only at hc
    subst hc
    refine za (zcB ⟨?_,?_,?_,fun h=>(by cases h),fun _ p hp=>?_⟩ ?_)
    ·show a≤jQ _ _;rw [eEnd];omega
    ·show jQ _ _≤b;rw [eEnd];omega
    ·show Cov _ _ (jQ _ _) _;rw [eEnd];exact zoK hcov (by omega) h1 hst'
    ·show p.2 < jQ _ _;rw [eEnd];have:=hcov.bd p hp;omega
    ·show (b - jQ _ _).toNat < (b - at_).toNat;rw [eEnd];omega
  ·rintro ⟨j,⟨v,w,⟨⟩⟩,c,⟨⟩⟩ hc
   exact za hc
 obtain ⟨⟨l,⟨⟩⟩,e,h⟩:=key
 exact ⟨l,e,h⟩
theorem zG5 {o:Int→Bool} {a a' b:Int} {l:List (Int×Int)} (h:Cov o a b l) (hb:a'≤a) (hg:∀t,a'≤t→t < a→o t=false):Cov o a' b l:=by
 refine ⟨fun p hp=>by have:=h.bd p hp;omega,h.pw,fun t h1 h2=>?_⟩
 rcases Int.lt_or_le t a with h3 | h3
 ·rw [hg t h1 h3]
  constructor
  ·intro h;cases h
  ·rintro ⟨p,hp,h4,h5⟩
   have:=h.bd p hp;omega
 ·exact h.iff t h3 h2
def clo:List (Int×Int)→Nat
 |[]=>0
 |e::l=>if opn e.1=true then clo l+1 else 0
theorem ztP:∀l,clo l≤l.length
 |[]=>Nat.le_refl _
 |e::l=>by unfold clo;have:=ztP l;split<;>simp<;>omega
theorem zgS:∀(l:List (Int×Int)) (i:Nat) (e:Int×Int),i < clo l→l[i]?=some e→opn e.1=true
 |[],i,e,h,_=>by simp [clo] at h
 |a::l,0,e,h,h2=>by
  simp at h2;subst h2
  unfold clo at h
  split at h
  ·assumption
  ·omega
 |a::l,i+1,e,h,h2=>by
  unfold clo at h
  split at h
  ·exact zgS l i e (by omega) (by simpa using h2)
  ·omega
theorem zrG:∀(l:List (Int×Int)) (e:Int×Int),l[clo l]?=some e→opn e.1=false
 |[],e,h=>by simp [clo] at h
 |a::l,e,h=>by
  unfold clo at h
  split at h
  ·exact zrG l e (by simpa using h)
  ·rename_i h2
   simp at h;subst h
   simpa using h2
theorem zn7 {l:List (Int×Int)} (h:¬Xt l):clo l < l.length:=by
 have:=ztP l
 apply Classical.byContradiction
 intro hn
 apply h
 intro e he
 obtain ⟨k,hk,hk2⟩:=jV he
 exact zgS l k e (by omega) hk2
theorem zG6 {l:List (Int×Int)} (h:Xt l):clo l=l.length:=by
 have:=ztP l
 apply Classical.byContradiction
 intro hn
 have hx:l[clo l]?=some (l[clo l]'(by omega)):=List.getElem?_eq_getElem (by omega)
 have:=zrG l _ hx
 rw [h _ (List.getElem_mem _)] at this
 cases this
def Inv (o:Int→Bool) (A at_:Int) (now:Int×Int) (L:List (Int×Int)):Prop:=
 A≤at_∧((now.2=0∧Cov o A at_ L∧∀p∈L,p.2 < at_)∨(0 < now.2∧now.1+now.2=at_∧A≤now.1∧Cov o A now.1 L∧(∀p∈L,p.2 < now.1)∧∀t,now.1≤t→t < at_→o t=true))
theorem zAb {o:Int→Bool} {A at_ d:Int} {now:Int×Int} {L:List (Int×Int)} (h:Inv o A at_ now L) (hd:0 < d) (ho:∀t,at_≤t→t < at_+d→o t=true):Inv o A (at_+d) (if now.2=0 then (at_,d) else (now.1,now.2+d)) L:=by
 obtain ⟨hA,h⟩:=h
 refine ⟨by omega,.inr ?_⟩
 rcases h with ⟨h1,h2,h3⟩ | ⟨h1,h2,h3,h4,h5,h6⟩
 ·rw [if_pos h1]
  exact ⟨hd,rfl,hA,h2,h3,ho⟩
 ·rw [if_neg (by omega)]
  refine ⟨by simp only;omega,by simp only;omega,h3,h4,h5,fun t t1 t2=>?_⟩
  simp only at t1
  rcases Int.lt_or_le t at_ with h7 | h7
  ·exact h6 t t1 h7
  ·exact ho t h7 t2
theorem zwr {o:Int→Bool} {A at_ d:Int} {now:Int×Int} {L:List (Int×Int)} (h:Inv o A at_ now L) (hd:0 < d) (hn:now.2=0) (ho:∀t,at_≤t→t < at_+d→o t=false):Inv o A (at_+d) (0,0) L:=by
 obtain ⟨hA,h⟩:=h
 refine ⟨by omega,.inl ⟨rfl,?_⟩⟩
 rcases h with ⟨h1,h2,h3⟩ | ⟨h1,h2,h3,h4,h5,h6⟩
 ·exact ⟨zoK h2 (by omega) hA ho,fun p hp=>by have:=h3 p hp;omega⟩
 ·omega
theorem zAc {o:Int→Bool} {A at_ d:Int} {now:Int×Int} {L:List (Int×Int)} (h:Inv o A at_ now L) (hd:0 < d) (hn:0 < now.2) (ho:∀t,at_≤t→t < at_+d→o t=false):Inv o A (at_+d) (0,0) (L++[(now.1,now.1+now.2)]):=by
 obtain ⟨hA,h⟩:=h
 refine ⟨by omega,.inl ⟨rfl,?_⟩⟩
 rcases h with ⟨h1,h2,h3⟩ | ⟨h1,h2,h3,h4,h5,h6⟩
 ·omega
 ·have:=zBs (c:=now.1+now.2) h4 (by omega) h3 h5 fun t t1 t2=>h6 t t1 (by omega)
  refine ⟨zoK this (by omega) (by omega) fun t t1 t2=>ho t (by omega) t2,fun p hp=>?_⟩
  rcases List.mem_append.1 hp with hp | hp
  ·have:=h5 p hp;omega
  ·simp at hp;subst hp;simp only;omega
def at0 (g:Gts):Int:=qO (g.1.take (clo g.1))
structure Zp (g:Gts) (L:List (Int×Int)):Prop where
 cv:Cov (opT g) (at0 g) (at0 g+g.2) L
 gt:∀p∈L,at0 g < p.1
theorem zn8 {g:Gts} (hg:qH g):0≤at0 g∧at0 g≤9600000:=by
 unfold at0
 have hb:=Jb (l:=g.1.take (clo g.1)) fun e he=>hg.el e (List.mem_of_mem_take he)
 have hle:=KS hg.el (ztP g.1)
 rw [KT,hg.cy] at hle
 have:=hg.c1
 omega
theorem zoL {g:Gts} (hg:qH g) (ha:¬Xt g.1):∃e,g.1[clo g.1]?=some e∧opn e.1=false∧zcS e∧tAt g (clo g.1)=at0 g:=by
 have hl:=zn7 ha
 have hx:g.1[clo g.1]?=some (g.1[clo g.1]):=List.getElem?_eq_getElem hl
 exact ⟨_,hx,zrG _ _ hx,hg.el _ (List.getElem_mem hl),zz7 hl⟩
theorem zAd {g:Gts} (hg:qH g) (ha:¬Xt g.1) {L L':List (Int×Int)} (h:Cov (opT g) (tAt g (clo g.1+1)) (tAt g (clo g.1+1)+g.2) L) (hr:Zp g L'):L'=L:=by
 obtain ⟨e,hx,he,hen,h0⟩:=zoL hg ha
 have hm:clo g.1 % g.1.length=clo g.1:=Nat.mod_eq_of_lt (zn7 ha)
 have hts:=zgR hg (k:=clo g.1) (e:=e) (by rw [hm];exact hx)
 have hd:=hen.2.2.1
 have hp:=hg.pos
 have hcl:∀t,at0 g≤t→t < at0 g+e.2→opT g t=false:=fun t t1 t2=>by
  rw [zz8 hg (k:=clo g.1) (e:=e) (by rw [hm];exact hx) (by omega) (by omega)];exact he
 have c1:Cov (opT g) (at0 g) (at0 g+g.2+e.2) L':=zoK hr.cv (by omega) (by omega) fun t t1 t2=>by
  have:=zBq g (t - g.2)
  rw [Int.sub_add_cancel] at this
  rw [this];exact hcl _ (by omega) (by omega)
 have c2:Cov (opT g) (at0 g) (at0 g+g.2+e.2) L:=by
  rw [hts,h0] at h
  have:=zG5 h (show at0 g≤at0 g+e.2 by omega) hcl
  rwa [show at0 g+e.2+g.2=at0 g+g.2+e.2 by omega] at this
 exact zrF c1 c2
theorem ztQ {g:Gts} (hg:qH g) (ha:¬Xt g.1):∃L,vX (g,())=some (L,())∧Zp g L:=by
 have hl:=zn7 ha
 obtain ⟨e,hx,he,hen,h0⟩:=zoL hg ha
 have h0b:=zn8 hg
 have hc:=hg.c1;have hp:=hg.pos;have hn:=hg.n1
 obtain ⟨L,hL,hcv⟩:=zdB hg (a:=at0 g) (b:=at0 g+g.2) (by omega) (by omega) (by omega)
 refine ⟨L,?_,hcv,fun p hp'=>?_⟩
 ·rw [zrd];unfold zeb
  refine ym (zj (J:=fun x=>x.2.1.1=at0 g) (zW (clo g.1) (fun i s=>s=((qO (g.1.take i),((i:Int),())),())) (by omega) rfl ?_ ?_) ?_)
  ·rintro i _ hi rfl
   have hy:g.1[i]?=some g.1[i]:=List.getElem?_eq_getElem (by omega)
   have hm:=List.getElem_mem (show i < g.1.length by omega)
   generalize g.1[i]=f at hy hm
   have hf:=hg.el f hm
   have hb:=Jb (l:=g.1.take i) fun e he=>hg.el e (List.mem_of_mem_take he)
   have hbl:(g.1.take i).length≤128:=by simp;omega
   refine zd (zT (show (i:Int) < (g.1.length:Int) by omega)) (zg (zy (n:=i) hy ?_))
   rw [Gy hf.1]
   refine zd (zgS _ i f hi hy) (zg (zy (n:=i) hy (za (qj ?_))))
   show (((wrF .i64 (qO (g.1.take i)+f.2)),((wrF .i64 ((i:Int)+1)),())),())=_
   have:=hf.2.2.1;have:=hf.2.2.2
   rw [ga hy,qp (by omega),zG (by omega) (by omega)]
  ·rintro _ rfl
   refine zd (zT (show ((clo g.1:Nat):Int) < (g.1.length:Int) by omega)) (zg (zy (n:=clo g.1) hx ?_))
   rw [Gy hen.1]
   exact zf he (za (zq rfl))
  ·rintro ⟨j,⟨v,w,⟨⟩⟩,⟨⟩⟩ hv
   simp only at hv
   subst hv
   rw [show wrF .i64 (at0 g+g.2)=at0 g+g.2 from zG (by omega) (by omega),hL]
   exact za rfl
 ·have hb:=hcv.bd p hp'
  have hm:clo g.1 % g.1.length=clo g.1:=Nat.mod_eq_of_lt hl
  have hd:=hen.2.2.1
  rcases Int.lt_or_le (at0 g) p.1 with h | h
  ·exact h
  ·exfalso
   have e1:p.1=at0 g:=by omega
   have:=(hcv.iff p.1 hb.1 (by omega)).2 ⟨p,hp',by omega,hb.2.1⟩
   rw [zz8 hg (k:=clo g.1) (e:=e) (by rw [hm];exact hx) (by omega) (by omega),he] at this
   cases this
theorem ztR {g:Gts} (hg:qH g) {k:Nat} (h:k≤4*g.1.length):0≤tAt g k∧tAt g k≤5*9600000:=by
 have h0:=hg.n0;have hp:=hg.pos;have hc:=hg.c1
 unfold tAt
 have hm:k % g.1.length < g.1.length:=Nat.mod_lt _ (by omega)
 have hb:=Jb (l:=g.1.take (k % g.1.length)) fun e he=>hg.el e (List.mem_of_mem_take he)
 have hle:=KS hg.el (show k % g.1.length≤g.1.length by omega)
 rw [KT,hg.cy] at hle
 have hd:k / g.1.length≤4:=by
  have:k / g.1.length < 5:=Nat.div_lt_of_lt_mul (by omega)
  omega
 have h1:((k / g.1.length:Nat):Int)≤4:=by exact_mod_cast hd
 have:((k / g.1.length:Nat):Int)*g.2≤4*g.2:=Int.mul_le_mul_of_nonneg_right h1 (by omega)
 have:0≤((k / g.1.length:Nat):Int)*g.2:=Int.mul_nonneg (Int.natCast_nonneg _) (by omega)
 omega
theorem zBt {g:Gts} (hg:qH g) {c i:Nat} (hc:c < 1000000) (hi:i < 1000000):Int.tmod (wrF .i64 ((wrF .i64 ((c:Int)+1))+(i:Int))) (g.1.length:Int)=(((c+1+i) % g.1.length:Nat):Int):=by
 rw [qp (by omega),zG (by omega) (by omega),Int.tmod_eq_emod_of_nonneg (by omega),←Int.natCast_add,←Int.natCast_emod]
theorem zD8 {g:Gts} (hg:qH g) (k:Nat):∃e,g.1[k % g.1.length]?=some e∧zcS e∧tAt g (k+1)=tAt g k+e.2∧∀t,tAt g k≤t→t < tAt g k+e.2→opT g t=opn e.1:=by
 have h0:=hg.n0
 have hm:k % g.1.length < g.1.length:=Nat.mod_lt _ (by omega)
 have hx:g.1[k % g.1.length]?=some (g.1[k % g.1.length]):=List.getElem?_eq_getElem hm
 exact ⟨_,hx,hg.el _ (List.getElem_mem hm),zgR hg hx,fun t t1 t2=>zz8 hg hx t1 t2⟩
theorem zD9 {o:Int→Bool} {A at_:Int} {now:Int×Int} {L:List (Int×Int)} (h:Inv o A at_ now L) (hA:0≤A) (hat:at_≤5*9600000):0≤now.2∧now.2≤at_:=by
 obtain ⟨hA',h⟩:=h
 rcases h with ⟨h1,h2,h3⟩ | ⟨h1,h2,h3,h4,h5,h6⟩<;>omega
theorem zcc {g:Gts} (hg:qH g) (ha:¬Xt g.1) {L:List (Int×Int)} (hr:Zp g L) {lost:Int} (l0:0≤lost) (l1:lost≤1000000000000):uz (g,lost,())=some (jn lost L,()):=by
 have hl:=zn7 ha
 obtain ⟨e,hx,he,hen,h0⟩:=zoL hg ha
 have h0b:=zn8 hg
 have hc:=hg.c1;have hp:=hg.pos;have hn:=hg.n1;have hn0:=hg.n0
 rw [zbn];unfold Yz
 simp only [zdA hg,zx,zM ha,cond_false]
 refine ym (zj (J:=fun x=>x.2.1=(0,(at0 g,(((clo g.1:Nat):Int),())))) (zW (clo g.1) (fun i s=>s=((0,(qO (g.1.take i),((i:Int),()))),((),((),())))) (by omega) rfl ?_ ?_) ?_)
 ·rintro i _ hi rfl
  have hy:g.1[i]?=some g.1[i]:=List.getElem?_eq_getElem (by omega)
  have hm:=List.getElem_mem (show i < g.1.length by omega)
  generalize g.1[i]=f at hy hm
  have hf:=hg.el f hm
  have hb:=Jb (l:=g.1.take i) fun e he=>hg.el e (List.mem_of_mem_take he)
  have hbl:(g.1.take i).length≤128:=by simp;omega
  refine zd (zT (show (i:Int) < (g.1.length:Int) by omega)) (zg (zy (n:=i) hy ?_))
  rw [xN hf]
  refine zd (zgS _ i f hi hy) (zg (zy (n:=i) hy (za (qj ?_))))
  show ((0,((wrF .i64 (qO (g.1.take i)+f.2)),((wrF .i64 ((i:Int)+1)),()))),((),((),())))=_
  have:=hf.2.2.1;have:=hf.2.2.2
  rw [ga hy,qp (by omega),zG (by omega) (by omega)]
 ·rintro _ rfl
  refine zd (zT (show ((clo g.1:Nat):Int) < (g.1.length:Int) by omega)) (zg (zy (n:=clo g.1) hx ?_))
  rw [xN hen]
  exact zf he (za (zq rfl))
 rintro ⟨j,⟨v,w,z,⟨⟩⟩,⟨⟩,⟨⟩,⟨⟩⟩ hv
 simp only [Prod.mk.injEq,and_true] at hv
 obtain ⟨rfl,rfl,rfl⟩:=hv
 refine zf (qM (show ((clo g.1:Nat):Int)≠(g.1.length:Int) by omega)) (zg (zy (n:=clo g.1) hx ?_))
 have hm:clo g.1 % g.1.length=clo g.1:=Nat.mod_eq_of_lt hl
 have hts:=zgR hg (k:=clo g.1) (e:=e) (by rw [hm];exact hx)
 have hA:=ztR hg (k:=clo g.1+1) (by omega)
 refine zj (J:=fun x=>x.2.1.2.1=jn lost L) (zW g.1.length (fun i s=>∃now L',s=((now,(jn lost L',(tAt g (clo g.1+1+i),((i:Int),())))),((),((),())))∧Inv (opT g) (tAt g (clo g.1+1)) (tAt g (clo g.1+1+i)) now L'∧(∀f,0 < i→g.1[(clo g.1+i) % g.1.length]?=some f→opn f.1=false→now.2=0)) (by omega) ?_ ?_ ?_) ?_
 ·refine ⟨(0,0),[],?_,⟨Int.le_refl _,.inl ⟨rfl,zvE _ _,fun p hp=>(by cases hp)⟩⟩,fun f h=>by omega⟩
  show (((0,0),(0,((wrF .i64 (at0 g+e.2)),(0,())))),((),((),())))=_
  rw [Nat.add_zero,hts,h0,zG (by omega) (by have:=hen.2.2.2;omega)];rfl
 ·rintro i _ hi ⟨now,L',rfl,hinv,_⟩
  obtain ⟨f,hy,hf,hsu,hop⟩:=zD8 hg (clo g.1+1+i)
  have hB:=ztR hg (k:=clo g.1+1+i) (by omega)
  have hnb:=zD9 hinv hA.1 hB.2
  have hmm:(clo g.1+1+i) % g.1.length < g.1.length:=Nat.mod_lt _ (by omega)
  have f1:=hf.2.2.1;have f2:=hf.2.2.2
  refine zd (zT (show (i:Int) < (g.1.length:Int) by omega)) (zf (qM (show (g.1.length:Int)≠0 by omega)) ?_)
  refine zg (qk (a:=f) (by show atI g.1 (Int.tmod (wrF .i64 ((wrF .i64 (((clo g.1:Nat):Int)+1))+(i:Int))) (g.1.length:Int))=_;rw [zBt hg (by omega) (by omega)];exact jJ hy) ?_)
  rw [xN hf]
  have eat:wrF .i64 (tAt g (clo g.1+1+i)+f.2)=tAt g (clo g.1+1+(i+1)):=by
   rw [show clo g.1+1+(i+1)=clo g.1+1+i+1 from rfl,hsu,zG (by omega) (by omega)]
  have eup:wrF .i64 ((i:Int)+1)=((i+1:Nat):Int):=qp (by omega)
  have idx:∀f',0 < i+1→g.1[(clo g.1+(i+1)) % g.1.length]?=some f'→f'=f:=fun f' _ h=>by
   rw [show clo g.1+(i+1)=clo g.1+1+i by omega,hy] at h
   exact (Option.some.inj h).symm
  refine zk (fun ho=>?_) (fun ho=>?_)
  ·have ho:opn f.1=true:=ho
   rw [ho] at hop
   have hi2:=zAb hinv (show 0 < f.2 by omega) hop
   refine zj (J:=fun x=>x.2.1.1=if now.2=0 then (tAt g (clo g.1+1+i),0) else now) (zk (fun h=>?_) (fun h=>?_)) ?_
   ·have h:now.2=0:=qU h
    refine za ?_
    rw [if_pos h]
    show (tAt g (clo g.1+1+i),now.2)=_
    rw [h]
   ·have h:now.2≠0:=jU h
    exact za (by rw [if_neg h])
   ·rintro ⟨j,⟨nw,⟨⟩⟩,⟨⟩,⟨⟩,⟨⟩⟩ hnw
    simp only at hnw
    subst hnw
    refine za (qj ⟨_,L',?_,(by rw [←hsu] at hi2;exact hi2),fun f' h1 h2 h3=>?_⟩)
    ·show ((((if now.2=0 then (tAt g (clo g.1+1+i),0) else now).1,(wrF .i64 ((if now.2=0 then (tAt g (clo g.1+1+i),0) else now).2+f.2))),(jn lost L',((wrF .i64 (tAt g (clo g.1+1+i)+f.2)),((wrF .i64 ((i:Int)+1)),())))),((),((),())))=_
     rw [eat,eup]
     by_cases h:now.2=0
     ·rw [if_pos h,if_pos h]
      simp only
      rw [zG (by omega) (by omega),Int.zero_add]
     ·rw [if_neg h,if_neg h,zG (by omega) (by omega)]
    ·rw [idx f' h1 h2,ho] at h3;cases h3
  ·have ho:opn f.1=false:=ho
   rw [ho] at hop
   refine zk (fun h=>?_) (fun h=>?_)
   ·have h:0 < now.2:=qn h
    have hi2:=zAc hinv (show 0 < f.2 by omega) h hop
    have hgb:=VH (lost:=lost) l0 (l:=L'++[(now.1,now.1+now.2)]) (a:=tAt g (clo g.1+1)) (b:=tAt g (clo g.1+1+i)+f.2) hi2.1 (by
      rcases hi2.2 with ⟨_,hc,_⟩ | ⟨h',_⟩
      ·exact hc.bd
      ·simp at h') (by
      rcases hi2.2 with ⟨_,hc,_⟩ | ⟨h',_⟩
      ·exact hc.pw
      ·simp at h')
    have eg:jn lost (L'++[(now.1,now.1+now.2)])=jn lost L'+max 0 (now.2 - lost):=by
     unfold jn;simp only [List.map_append,List.sum_append,List.map_cons,List.map_nil,List.sum_cons,List.sum_nil]
     omega
    have hg1:=VH (lost:=lost) l0 (l:=L') (a:=tAt g (clo g.1+1)) (b:=tAt g (clo g.1+1+i)) hinv.1 (by
      rcases hinv.2 with ⟨_,hc,_⟩ | ⟨_,h',_,hc,_⟩
      ·exact hc.bd
      ·exact fun p hp=>by have:=hc.bd p hp;omega) (by
      rcases hinv.2 with ⟨_,hc,_⟩ | ⟨_,_,_,hc,_⟩
      ·exact hc.pw
      ·exact hc.pw)
    refine za (qj ⟨(0,0),_,?_,(by rw [←hsu] at hi2;exact hi2),fun f' h1 h2 h3=>rfl⟩)
    show (((0,0),((wrF .i64 (jn lost L'+uS 0 (wrF .i64 (now.2 - lost)))),((wrF .i64 (tAt g (clo g.1+1+i)+f.2)),((wrF .i64 ((i:Int)+1)),())))),((),((),())))=_
    rw [eat,eup,We,zG (z:=now.2 - lost) (by omega) (by omega),eg,zG (by omega) (by omega)]
   ·have h:now.2=0:=by have:now.2≤0:=qE h;omega
    have hi2:=zwr hinv (show 0 < f.2 by omega) h hop
    refine za (qj ⟨(0,0),L',?_,(by rw [←hsu] at hi2;exact hi2),fun f' h1 h2 h3=>rfl⟩)
    show (((0,0),(jn lost L',((wrF .i64 (tAt g (clo g.1+1+i)+f.2)),((wrF .i64 ((i:Int)+1)),())))),((),((),())))=_
    rw [eat,eup]
 ·rintro _ ⟨now,L',rfl,hinv,hlast⟩
  refine zf (zF (show ¬(g.1.length:Int) < (g.1.length:Int) by omega)) (za (zq ?_))
  have hz:=hlast e (by omega) (by rw [Nat.add_mod_right,hm];exact hx) he
  show jn lost L'=jn lost L
  rcases hinv.2 with ⟨_,hc,_⟩ | ⟨h',_⟩
  ·rw [zBr hg] at hc
   rw [zAd hg ha hc hr]
  ·omega
 ·rintro ⟨j,⟨nw,v,w,z,⟨⟩⟩,⟨⟩,⟨⟩,⟨⟩⟩ hv
  refine zk (fun _=>?_) (fun _=>?_)<;>exact za hv
theorem zje {g:Gts} (hg:qH g) (ha:Xt g.1) (lost:Int):uz (g,lost,())=some (g.2,()):=by
 rw [zbn];unfold Yz
 simp only [zdA hg,zx,zA ha,cond_true]
theorem zhC {g:Gts} (hg:qH g) (ha:¬Xt g.1) {L:List (Int×Int)} (hL:vX (g,())=some (L,())) (hr:Zp g L) {per most:Int} (l0:0≤most*per) (l1:most*per≤1000000000000):Wv (g,per,most,())=some (jn (most*per) L,()):=by
 have h0b:=zn8 hg;have hc:=hg.c1;have hp:=hg.pos
 rw [zgl];unfold Gq
 simp only [JL hg,zx,zM ha,cond_false,hL]
 rw [show wrF .i64 (most*per)=most*per from zG (by omega) (by omega),zlv l0 l1 (a:=at0 g) (b:=at0 g+g.2) (by omega) hr.cv.bd hr.cv.pw (by omega) (by omega)]
 rfl
theorem zpn {g:Gts} (hg:qH g) (ha:Xt g.1) (per most:Int):Wv (g,per,most,())=some (g.2,()):=by
 rw [zgl];unfold Gq
 simp only [JL hg,zx,zA ha,cond_true]
def bX (g:Gts) (L:List (Int×Int)) (q:Nat):Int:=((L[q % L.length]?).getD (0,0)).1+((q / L.length:Nat):Int)*g.2
def bY (g:Gts) (L:List (Int×Int)) (q:Nat):Int:=((L[q % L.length]?).getD (0,0)).2+((q / L.length:Nat):Int)*g.2
theorem zHU {L:List (Int×Int)} (h:0 < L.length) (q:Nat):∃p,L[q % L.length]?=some p∧p∈L∧∀g,bX g L q=p.1+((q / L.length:Nat):Int)*g.2∧bY g L q=p.2+((q / L.length:Nat):Int)*g.2:=by
 have hm:q % L.length < L.length:=Nat.mod_lt _ h
 have hx:L[q % L.length]?=some (L[q % L.length]):=List.getElem?_eq_getElem hm
 refine ⟨_,hx,List.getElem_mem hm,fun g=>?_⟩
 unfold bX bY
 rw [hx]
 exact ⟨rfl,rfl⟩
theorem ztS (g:Gts) {L:List (Int×Int)} (h:0 < L.length) (q:Nat):bX g L (q+L.length)=bX g L q+g.2∧bY g L (q+L.length)=bY g L q+g.2:=by
 unfold bX bY
 rw [Nat.add_mod_right,Nat.add_div_right _ h,Int.natCast_succ,Int.add_mul]
 omega
theorem JM {g:Gts} {L:List (Int×Int)} (hr:Zp g L) (h:0 < L.length) (q:Nat):bX g L q < bY g L q∧at0 g+((q / L.length:Nat):Int)*g.2 < bX g L q∧bY g L q≤at0 g+((q / L.length:Nat):Int)*g.2+g.2:=by
 obtain ⟨p,hx,hp,he⟩:=zHU h q
 obtain ⟨e1,e2⟩:=he g
 have:=hr.cv.bd p hp
 have:=hr.gt p hp
 omega
theorem zCO {g:Gts} {L:List (Int×Int)} (hr:Zp g L) (h:0 < L.length) (q:Nat):bY g L q < bX g L (q+1):=by
 rcases Nat.lt_or_ge (q % L.length+1) L.length with h1 | h1
 ·have e1:(q+1) % L.length=q % L.length+1:=by
   rw [Nat.add_mod,Nat.mod_eq_of_lt (show 1 < L.length by omega),Nat.mod_eq_of_lt h1]
  have e2:(q+1) / L.length=q / L.length:=by
   have a:=Nat.div_add_mod (q+1) L.length
   have a2:=Nat.div_add_mod q L.length
   rw [e1] at a
   have b:L.length*((q+1) / L.length)=L.length*(q / L.length):=by omega
   exact Nat.eq_of_mul_eq_mul_left (by omega) b
  have hx:L[q % L.length]?=some (L[q % L.length]'(by omega)):=List.getElem?_eq_getElem (by omega)
  have hy:L[q % L.length+1]?=some (L[q % L.length+1]'h1):=List.getElem?_eq_getElem h1
  have:=List.pairwise_iff_getElem.1 hr.cv.pw (q % L.length) (q % L.length+1) (by omega) h1 (by omega)
  unfold bX bY
  rw [e1,e2,hx,hy]
  simp only [Option.getD_some]
  omega
 ·have hm:=Nat.mod_lt q h
  have h2:q % L.length+1=L.length:=by omega
  have a2:=Nat.div_add_mod q L.length
  have e3:q+1=(q / L.length+1)*L.length:=by
   rw [Nat.add_mul,Nat.mul_comm];omega
  have e2:(q+1) / L.length=q / L.length+1:=by rw [e3];exact Nat.mul_div_left _ (by omega)
  have b1:=JM hr h q
  have b2:=JM hr h (q+1)
  rw [e2,Int.natCast_succ,Int.add_mul] at b2
  omega
theorem zew {g:Gts} {L:List (Int×Int)} (hr:Zp g L) (h:0 < L.length) {q r:Nat} (hq:q < r):bY g L q < bX g L r:=by
 obtain ⟨d,rfl⟩:∃d,r=q+1+d:=⟨r - q - 1,by omega⟩
 induction d with
 |zero=>exact zCO hr h q
 |succ d ih=>
  have:=ih (by omega)
  have:=JM hr h (q+1+d)
  have:=zCO hr h (q+1+d)
  rw [show q+1+(d+1)=q+1+d+1 from rfl]
  omega
theorem zG7 {g:Gts} {L:List (Int×Int)} (hr:Zp g L) (h:0 < L.length) {t:Int} (h1:at0 g≤t) (h2:t < at0 g+g.2+g.2):opT g t=true↔∃q,q < 2*L.length∧bX g L q≤t∧t < bY g L q:=by
 have lo:∀q,q < L.length→bX g L q=((L[q]?).getD (0,0)).1∧bY g L q=((L[q]?).getD (0,0)).2:=fun q hq=>by
  unfold bX bY;rw [Nat.mod_eq_of_lt hq,Nat.div_eq_of_lt hq];simp
 rcases Int.lt_or_le t (at0 g+g.2) with h3 | h3
 ·rw [hr.cv.iff t h1 h3]
  constructor
  ·rintro ⟨p,hp,h4,h5⟩
   obtain ⟨k,hk,hk2⟩:=jV hp
   obtain ⟨e1,e2⟩:=lo k hk
   rw [hk2] at e1 e2
   exact ⟨k,by omega,by rw [e1];exact h4,by rw [e2];exact h5⟩
  ·rintro ⟨q,hq,h4,h5⟩
   rcases Nat.lt_or_ge q L.length with h6 | h6
   ·obtain ⟨e1,e2⟩:=lo q h6
    have hx:L[q]?=some L[q]:=List.getElem?_eq_getElem h6
    rw [hx] at e1 e2
    exact ⟨L[q],List.getElem_mem h6,by rw [e1] at h4;exact h4,by rw [e2] at h5;exact h5⟩
   ·have:=JM hr h q
    have hd:q / L.length=1:=by
     have:q / L.length < 2:=Nat.div_lt_of_lt_mul (by omega)
     have:1≤q / L.length:=(Nat.le_div_iff_mul_le h).2 (by omega)
     omega
    rw [hd] at this
    omega
 ·have hp:=zBq g (t - g.2)
  rw [Int.sub_add_cancel] at hp
  rw [hp,hr.cv.iff (t - g.2) (by omega) (by omega)]
  constructor
  ·rintro ⟨p,hp,h4,h5⟩
   obtain ⟨k,hk,hk2⟩:=jV hp
   obtain ⟨e1,e2⟩:=lo k hk
   rw [hk2] at e1 e2
   simp only [Option.getD_some] at e1 e2
   obtain ⟨a1,a2⟩:=ztS g h k
   exact ⟨k+L.length,by omega,by omega,by omega⟩
  ·rintro ⟨q,hq,h4,h5⟩
   rcases Nat.lt_or_ge q L.length with h6 | h6
   ·have:=JM hr h q
    rw [Nat.div_eq_of_lt h6] at this
    omega
   ·obtain ⟨k,rfl⟩:∃k,q=k+L.length:=⟨q - L.length,by omega⟩
    have h7:k < L.length:=by omega
    obtain ⟨a1,a2⟩:=ztS g h k
    obtain ⟨e1,e2⟩:=lo k h7
    have hx:L[k]?=some L[k]:=List.getElem?_eq_getElem h7
    rw [hx] at e1 e2
    simp only [Option.getD_some] at e1 e2
    exact ⟨L[k],List.getElem_mem h7,by omega,by omega⟩
def mn (g:Gts) (L:List (Int×Int)) (lost:Int) (q:Nat):Int:=min (bY g L q - bX g L q) lost
def fr (g:Gts) (L:List (Int×Int)) (lost:Int) (i:Nat):Int:=bY g L i - mn g L lost i
def tt (g:Gts) (L:List (Int×Int)) (lost:Int) (j:Nat):Int:=bX g L j+mn g L lost j
def wg (g:Gts) (L:List (Int×Int)) (lost:Int) (q:Nat):Int:=max 0 (bY g L q - bX g L q - lost)
def jI (g:Gts) (L:List (Int×Int)) (lost:Int) (i:Nat):Nat→Int
 |0=>0
 |k+1=>jI g L lost i k+wg g L lost (i+1+k)
def snt (g:Gts) (L:List (Int×Int)) (lost:Int) (i j:Nat):Int:=jI g L lost i (j - i - 1)
def pcs (g:Gts) (L:List (Int×Int)) (lost:Int) (i j n:Nat):List (Int×Int):=(List.range n).map fun d=>(max (fr g L lost i) (bX g L (i+d)),min (tt g L lost j) (bY g L (i+d)))
theorem zG8 {g:Gts} {L:List (Int×Int)} (hr:Zp g L) (h:0 < L.length) {lost:Int} (hl:0 < lost) {i j:Nat} (hi:i < L.length) (hij:i≤j) (hj:j < 2*L.length) (hf:fr g L lost i < tt g L lost j):Cov (opT g) (fr g L lost i) (tt g L lost j) (pcs g L lost i j (j - i+1)):=by
 have xi:=JM hr h i;have xj:=JM hr h j
 rw [Nat.div_eq_of_lt hi] at xi
 have hdj:j / L.length≤1:=by
  have:j / L.length < 2:=Nat.div_lt_of_lt_mul (by omega)
  omega
 have hjm:((j / L.length:Nat):Int)*g.2≤g.2:=by
  have h1:j / L.length=0∨j / L.length=1:=Nat.le_one_iff_eq_zero_or_eq_one.1 hdj
  have hpos:0≤g.2:=by omega
  rcases h1 with h1 | h1<;>rw [h1]<;>simp<;>omega
 refine ⟨fun p hp=>?_,?_,fun t t1 t2=>?_⟩
 ·obtain ⟨d,hd,rfl⟩:=List.mem_map.1 hp
  have hd:=List.mem_range.1 hd
  have x:=JM hr h (i+d)
  have lo:bX g L (i+d) < tt g L lost j:=by
   rcases Nat.lt_or_ge (i+d) j with h1 | h1
   ·have:=zew hr h h1
    unfold tt mn;omega
   ·have:i+d=j:=by omega
    rw [this];unfold tt mn;omega
  have hi:fr g L lost i < bY g L (i+d):=by
   rcases Nat.eq_zero_or_pos d with h1 | h1
   ·rw [h1,Nat.add_zero];unfold fr mn;omega
   ·have:=zew hr h (show i < i+d by omega)
    unfold fr mn;omega
  simp only
  omega
 ·unfold pcs
  rw [List.pairwise_map]
  refine List.Pairwise.imp ?_ (List.pairwise_lt_range)
  intro d e hde
  have:=zew hr h (show i+d < i+e by omega)
  simp only
  omega
 ·have f1:bX g L i≤fr g L lost i:=by unfold fr mn;omega
  have g1:tt g L lost j≤bY g L j:=by unfold tt mn;omega
  rw [zG7 hr h (t:=t) (by omega) (by omega)]
  constructor
  ·rintro ⟨q,hq,h4,h5⟩
   have h6:i≤q:=by
    apply Classical.byContradiction
    intro hn
    have:=zew hr h (show q < i by omega)
    omega
   have h7:q≤j:=by
    apply Classical.byContradiction
    intro hn
    have:=zew hr h (show j < q by omega)
    omega
   refine ⟨_,List.mem_map.2 ⟨q - i,List.mem_range.2 (by omega),rfl⟩,?_,?_⟩
   ·rw [show i+(q - i)=q by omega];simp only;omega
   ·rw [show i+(q - i)=q by omega];simp only;omega
  ·rintro ⟨p,hp,h4,h5⟩
   obtain ⟨d,hd,rfl⟩:=List.mem_map.1 hp
   have hd:=List.mem_range.1 hd
   simp only at h4 h5
   exact ⟨i+d,by omega,by omega,by omega⟩
theorem zn9 (lost:Int) (l:List (Int×Int)) (p:Int×Int):jn lost (l++[p])=jn lost l+max 0 (p.2 - p.1 - lost):=by
 unfold jn;simp
theorem zFT {g:Gts} {L:List (Int×Int)} (hr:Zp g L) (h:0 < L.length) {lost:Int} (hl:0 < lost) {i j:Nat} (hij:i≤j) (hf:fr g L lost i < tt g L lost j):jn lost (pcs g L lost i j (j - i+1))=snt g L lost i j:=by
 have xi:=JM hr h i;have xj:=JM hr h j
 have first:∀d,d=0→max 0 (min (tt g L lost j) (bY g L (i+d)) - max (fr g L lost i) (bX g L (i+d)) - lost)=0:=by
  rintro d rfl
  rw [Nat.add_zero]
  unfold fr mn;omega
 have last:∀d,i+d=j→max 0 (min (tt g L lost j) (bY g L (i+d)) - max (fr g L lost i) (bX g L (i+d)) - lost)=0:=by
  intro d hd
  rw [hd]
  unfold tt mn;omega
 have mid:∀d,0 < d→i+d < j→max 0 (min (tt g L lost j) (bY g L (i+d)) - max (fr g L lost i) (bX g L (i+d)) - lost)=wg g L lost (i+d):=by
  intro d h1 h2
  have a1:=zew hr h (show i < i+d by omega)
  have a2:=zew hr h h2
  have a3:=JM hr h (i+d)
  unfold wg fr tt mn
  omega
 have key:∀n,n < j - i→jn lost (pcs g L lost i j (n+1))=jI g L lost i n:=by
  intro n
  induction n with
  |zero=>
   intro _
   unfold pcs jn jI
   simp only [Nat.zero_add,List.range_one,List.map_cons,List.map_nil,List.sum_cons,List.sum_nil]
   have:=first 0 rfl
   omega
  |succ n ih=>
   intro hn
   have e:pcs g L lost i j (n+1+1)=pcs g L lost i j (n+1)++[(max (fr g L lost i) (bX g L (i+(n+1))),min (tt g L lost j) (bY g L (i+(n+1))))]:=by
    unfold pcs;rw [List.range_succ,List.map_append];rfl
   rw [e,zn9,ih (by omega)]
   simp only
   rw [mid (n+1) (by omega) (by omega)]
   unfold jI
   rw [show i+1+n=i+(n+1) by omega]
   cases n<;>rfl
 unfold snt
 rcases Nat.eq_zero_or_pos (j - i) with h0 | h0
 ·have hj:i=j:=by omega
  rw [h0]
  unfold pcs jn jI
  simp only [Nat.zero_add,List.range_one,List.map_cons,List.map_nil,List.sum_cons,List.sum_nil,Nat.zero_sub]
  have:=first 0 rfl
  omega
 ·obtain ⟨n,hn⟩:∃n,j - i=n+1:=⟨j - i - 1,by omega⟩
  have e:pcs g L lost i j (n+1+1)=pcs g L lost i j (n+1)++[(max (fr g L lost i) (bX g L (i+(n+1))),min (tt g L lost j) (bY g L (i+(n+1))))]:=by
   unfold pcs;rw [List.range_succ,List.map_append];rfl
  rw [hn,e,zn9,key n (by omega)]
  simp only
  rw [last (n+1) (by omega)]
  rw [Nat.add_sub_cancel];omega
theorem zoa {g:Gts} (hg:qH g) {L:List (Int×Int)} (hr:Zp g L) (h:0 < L.length) {q:Nat} (hq:q < 2*L.length):0≤bX g L q∧bY g L q≤30000000:=by
 have x:=JM hr h q
 have h0b:=zn8 hg;have hc:=hg.c1;have hp:=hg.pos
 have h1:q / L.length=0∨q / L.length=1:=by
  have:q / L.length < 2:=Nat.div_lt_of_lt_mul (by omega)
  exact Nat.le_one_iff_eq_zero_or_eq_one.1 (Nat.le_of_lt_succ this)
 rcases h1 with h1 | h1<;>rw [h1] at x<;>simp at x<;>omega
theorem ztT {g:Gts} (hg:qH g) (ha:¬Xt g.1) {L:List (Int×Int)} (hr:Zp g L) (h:0 < L.length) {per most:Int} (p0:1≤per) (p1:per≤1000) (m0:84≤most) (m1:most≤1542) {i j:Nat} (hi:i < L.length) (hij:i≤j) (hj:j < 2*L.length) (hl:0 < most*per) (hl2:most*per≤1542000)
  (hf:fr g L (most*per) i < tt g L (most*per) j):Vv (g,per,most,fr g L (most*per) i,tt g L (most*per) j - fr g L (most*per) i,())=some (snt g L (most*per) i j - 127*per,()):=by
 have bi:=zoa hg hr h (show i < 2*L.length by omega);have bj:=zoa hg hr h hj
 have xi:=JM hr h i;have xj:=JM hr h j
 have f1:bX g L i≤fr g L (most*per) i:=by unfold fr mn;omega
 have g1:tt g L (most*per) j≤bY g L j:=by unfold tt mn;omega
 obtain ⟨l,e,hc⟩:=zdB hg (a:=fr g L (most*per) i) (b:=tt g L (most*per) j) (by omega) (by omega) (by omega)
 have hcv:=zG8 hr h hl hi hij hj hf
 have hgn:=zFT hr h hl hij hf
 have:=zrF hc hcv
 subst this
 have hb:=VH (lost:=most*per) (by omega) (a:=fr g L (most*per) i) (b:=tt g L (most*per) j) (by omega) hc.bd hc.pw
 rw [zre];unfold zec
 simp only [JL hg,zx,zM ha,cond_false]
 rw [show wrF .i64 (fr g L (most*per) i+(tt g L (most*per) j - fr g L (most*per) i))=tt g L (most*per) j from by rw [zG]<;>omega,e,zx,show wrF .i64 (most*per)=most*per from zG (by omega) (by omega),zlv (by omega) (by omega) (a:=fr g L (most*per) i) (b:=tt g L (most*per) j) (by omega) hc.bd hc.pw (by omega) (by omega),zx]
 rw [show wrF .i64 (127*per)=127*per from zG (by omega) (by omega),hgn]
 rw [hgn] at hb
 rw [zG (by omega) (by omega)]
def mxK (c:Nat→Bool) (V:Nat→Int):Nat→Int→Int
 |0,a=>a
 |k+1,a=>bif c k then max (mxK c V k a) (V k) else mxK c V k a
def mxN (c:Nat→Nat→Bool) (V:Nat→Nat→Int) (K:Nat):Nat→Int→Int
 |0,a=>a
 |n+1,a=>mxK (c n) (V n) K (mxN c V K n a)
theorem zEa (c:Nat→Bool) (V:Nat→Int):∀(k:Nat) (a:Int),a≤mxK c V k a∧∀q,q < k→c q=true→V q≤mxK c V k a
 |0,a=>⟨Int.le_refl _,fun q hq=>by omega⟩
 |k+1,a=>by
  obtain ⟨h1,h2⟩:=zEa c V k a
  unfold mxK
  cases hc:c k with
  |true=>
   rw [cond_true]
   refine ⟨by omega,fun q hq hcq=>?_⟩
   rcases Nat.lt_or_ge q k with h | h
   ·have:=h2 q h hcq;omega
   ·have:q=k:=by omega
    subst this;omega
  |false=>
   rw [cond_false]
   refine ⟨h1,fun q hq hcq=>?_⟩
   rcases Nat.lt_or_ge q k with h | h
   ·exact h2 q h hcq
   ·have:q=k:=by omega
    subst this;rw [hc] at hcq;cases hcq
theorem zEb (c:Nat→Bool) (V:Nat→Int):∀(k:Nat) (a:Int),mxK c V k a=a∨∃q,q < k∧c q=true∧mxK c V k a=V q
 |0,a=>.inl rfl
 |k+1,a=>by
  have ih:=zEb c V k a
  unfold mxK
  cases hc:c k with
  |true=>
   rw [cond_true]
   rcases Int.le_total (V k) (mxK c V k a) with h | h
   ·rw [show max (mxK c V k a) (V k)=mxK c V k a by omega]
    rcases ih with h1 | ⟨q,h1,h2,h3⟩
    ·exact .inl h1
    ·exact .inr ⟨q,by omega,h2,h3⟩
   ·exact .inr ⟨k,by omega,hc,by omega⟩
  |false=>
   rw [cond_false]
   rcases ih with h1 | ⟨q,h1,h2,h3⟩
   ·exact .inl h1
   ·exact .inr ⟨q,by omega,h2,h3⟩
theorem zob (c:Nat→Nat→Bool) (V:Nat→Nat→Int) (K:Nat):∀(n:Nat) (a:Int),a≤mxN c V K n a∧∀i q,i < n→q < K→c i q=true→V i q≤mxN c V K n a
 |0,a=>⟨Int.le_refl _,fun i q hi=>by omega⟩
 |n+1,a=>by
  obtain ⟨h1,h2⟩:=zob c V K n a
  obtain ⟨h3,h4⟩:=zEa (c n) (V n) K (mxN c V K n a)
  unfold mxN
  refine ⟨by omega,fun i q hi hq hc=>?_⟩
  rcases Nat.lt_or_ge i n with h | h
  ·have:=h2 i q h hq hc;omega
  ·have:i=n:=by omega
   subst this;exact h4 q hq hc
theorem zoc (c:Nat→Nat→Bool) (V:Nat→Nat→Int) (K:Nat):∀(n:Nat) (a:Int),mxN c V K n a=a∨∃i q,i < n∧q < K∧c i q=true∧mxN c V K n a=V i q
 |0,a=>.inl rfl
 |n+1,a=>by
  unfold mxN
  rcases zEb (c n) (V n) K (mxN c V K n a) with h | ⟨q,h1,h2,h3⟩
  ·rw [h]
   rcases zoc c V K n a with h | ⟨i,q,h1,h2,h3,h4⟩
   ·exact .inl h
   ·exact .inr ⟨i,q,by omega,h2,h3,h4⟩
  ·exact .inr ⟨n,q,by omega,h1,h2,h3⟩
section
variable {g:Gts} {L:List (Int×Int)} {lost:Int}
theorem zEc (h:0 < L.length) (q:Nat):wg g L lost (q+L.length)=wg g L lost q:=by
 obtain ⟨a1,a2⟩:=ztS g h q
 unfold wg;rw [a1,a2];congr 1;omega
theorem zhD (i a:Nat):∀b,jI g L lost i (a+b)=jI g L lost i a+jI g L lost (i+a) b
 |0=>by rw [Nat.add_zero];show _=_+0;omega
 |b+1=>by
  show jI g L lost i (a+b)+wg g L lost (i+1+(a+b))=_+(jI g L lost (i+a) b+wg g L lost (i+a+1+b))
  rw [zhD i a b,show i+1+(a+b)=i+a+1+b by omega];omega
theorem zEd (i:Nat):jI g L lost i 1=wg g L lost (i+1):=by show 0+wg g L lost (i+1+0)=_;rw [Nat.add_zero];omega
theorem zCP (h:0 < L.length) (i:Nat):jI g L lost (i+1) L.length=jI g L lost i L.length:=by
 have e1:=zhD (g:=g) (L:=L) (lost:=lost) i 1 L.length
 have e2:=zhD (g:=g) (L:=L) (lost:=lost) i L.length 1
 rw [Nat.add_comm 1] at e1
 rw [zEd] at e1 e2
 have:=zEc (g:=g) (L:=L) (lost:=lost) h (i+1)
 rw [show i+1+L.length=i+L.length+1 by omega] at this
 omega
theorem zEe (h:0 < L.length):∀i,jI g L lost i L.length=jn lost L:=by
 have base:jI g L lost (L.length - 1) L.length=jn lost L:=by
  have key:∀n,n≤L.length→jI g L lost (L.length - 1) n=jn lost (L.take n):=by
   intro n
   induction n with
   |zero=>intro _;rfl
   |succ n ih=>
    intro hn
    have hx:L[n]?=some L[n]:=List.getElem?_eq_getElem (by omega)
    have e:L.take (n+1)=L.take n++[L[n]]:=by rw [List.take_add_one,hx];rfl
    rw [e,zn9,←ih (by omega)]
    show jI g L lost (L.length - 1) n+wg g L lost (L.length - 1+1+n)=_
    rw [show L.length - 1+1+n=n+L.length by omega,zEc h]
    unfold wg bX bY
    rw [Nat.mod_eq_of_lt (show n < L.length by omega),hx]
    simp only [Option.getD_some]
    congr 1;congr 1;omega
  rw [key _ (Nat.le_refl _),List.take_length]
 have z:∀i,jI g L lost i L.length=jI g L lost 0 L.length:=by
  intro i
  induction i with
  |zero=>rfl
  |succ i ih=>rw [zCP h,ih]
 intro i
 rw [z,←base,z (L.length - 1)]
theorem zks (hr:Zp g L) (h:0 < L.length) (hl:0≤lost) (i:Nat):∀k,0≤jI g L lost i k∧jI g L lost i k≤bX g L (i+1+k) - bX g L (i+1)
 |0=>by rw [Nat.add_zero];show (0:Int)≤0∧(0:Int)≤_;omega
 |k+1=>by
  have ih:=zks hr h hl i k
  have x:=JM hr h (i+1+k)
  have s:=zCO hr h (i+1+k)
  rw [show i+1+(k+1)=i+1+k+1 from rfl]
  show 0≤jI g L lost i k+wg g L lost (i+1+k)∧jI g L lost i k+wg g L lost (i+1+k)≤_
  unfold wg
  omega
theorem zG9 (hr:Zp g L) (h:0 < L.length) {q r:Nat} (hq:q≤r):bX g L q≤bX g L r:=by
 rcases Nat.lt_or_ge q r with h1 | h1
 ·have:=zew hr h h1;have:=JM hr h q;omega
 ·have:q=r:=by omega
  rw [this];exact Int.le_refl _
theorem zvF (hr:Zp g L) (h:0 < L.length) (hl:0≤lost) (i:Nat) {k:Nat} (hk:k≤L.length):0≤jI g L lost i k∧jI g L lost i k≤g.2:=by
 have:=zks hr h hl i k
 have:=zG9 hr h (show i+1+k≤i+1+L.length by omega)
 have:=(ztS g h (i+1)).1
 omega
end
theorem Vn {a b:Int} (h1:0 < b) (h2:b≤1000000000000) (h3 : -1000000000000000000≤a) (h4:a≤1000000000000000000):vR (a,b,())=some (a / b,()):=by
 have a1 : -b < Int.tmod a b:=Int.lt_tmod_of_pos a h1
 have a2:Int.tmod a b < b:=Int.tmod_lt_of_pos a h1
 have m1:=Int.emod_nonneg a (show b≠0 by omega)
 have m2:=Int.emod_lt_of_pos a h1
 have em:Int.tmod (wrF .i64 (Int.tmod a b+b)) b=a % b:=by
  rw [zG (by omega) (by omega),Int.tmod_eq_emod_of_nonneg (by omega),Int.add_emod_right]
  have:=Int.tmod_add_mul_tdiv a b
  calc Int.tmod a b % b=(Int.tmod a b+b*Int.tdiv a b) % b:=by rw [Int.add_mul_emod_self_left]
   _=a % b:=by rw [this]
 have e:Wq (a,b,())=some (a % b,()):=by
  rw [zq2];unfold zd4
  rw [qM (show b≠0 by omega),em];rfl
 rw [ziV];unfold KF
 rw [e,zx,qM (show b≠0 by omega),cond_false]
 have hq:=Int.emod_add_mul_ediv a b
 have hd:a - a % b=b*(a / b):=by omega
 rw [zG (z:=a - a % b) (by omega) (by omega),hd,Int.mul_tdiv_cancel_left _ (by omega)]
 have : -1000000000000000001≤a / b:=by
  have:(-1000000000000000001)*b≤a:=by
   have:(-1000000000000000001)*b≤(-1000000000000000001)*1:=Int.mul_le_mul_of_nonpos_left (by omega) (by omega)
   omega
  exact Int.le_ediv_of_mul_le h1 this
 have:a / b≤1000000000000000000:=by
  rcases Int.le_total 0 a with h | h
  ·exact Int.le_trans (Int.ediv_le_self b h) h4
  ·have:a / b≤0:=Int.ediv_nonpos_of_nonpos_of_neg h h1
   omega
 rw [zG (by omega) (by omega)]
def cl (d w:Int):Int:=(w+d - 1) / d
theorem zfd {d a b:Int} (hd:0 < d) (h:a≤b):cl d a≤cl d b:=Int.ediv_le_ediv hd (by omega)
theorem zEf {d l z:Int} (hd:0 < d):cl d (l*d - z)=l - z / d:=by
 unfold cl
 have h:=Int.emod_add_mul_ediv z d
 have h1:=Int.emod_nonneg z (show d≠0 by omega)
 have h2:=Int.emod_lt_of_pos z hd
 have e:l*d - z+d - 1=(d - 1 - z % d)+(l - z / d)*d:=by
  rw [Int.sub_mul,Int.mul_comm (z / d) d];omega
 rw [e,Int.add_mul_ediv_right _ _ (by omega),Int.ediv_eq_zero_of_lt (by omega) (by omega)];omega
end Go.Proofs.YtplhphmbkmpocaaGreat.ad
namespace Go.Proofs.YtplhphmbkmpocaaGreat.ad
open Go Go.Fz Go.Fz.Sy
def jh (C per y:Int):Int:=y*1048576 / (C*per)
theorem zaz {a b A B:Int} (h0:0≤a) (h1:a≤A) (h2:0≤b) (h3:b≤B):0≤a*b∧a*b≤A*B:=⟨Int.mul_nonneg h0 h2,Int.mul_le_mul h1 h3 h2 (by omega)⟩
structure RtC (C per y:Int):Prop where
 c0:1≤C
 c1:C≤9600000
 p0:1≤per
 p1:per≤1000
 y0:0≤y
 y1:y≤C
theorem RtC.cp {C per y:Int} (h:RtC C per y):1≤C*per∧C*per≤9600000000:=by
 have:=zaz (show 0≤C by have:=h.c0;omega) h.c1 (show 0≤per by have:=h.p0;omega) h.p1
 have h1:1*1≤C*per:=Int.mul_le_mul h.c0 h.p0 (by omega) (by have:=h.c0;omega)
 omega
theorem RtC.rate {C per y:Int} (h:RtC C per y):wrF .i64 (Int.tdiv (wrF .i64 (y*1048576)) (wrF .i64 (C*per)))=jh C per y∧0≤jh C per y∧jh C per y*(C*per)≤y*1048576:=by
 have:=h.cp;have:=h.c1;have:=h.y0;have:=h.y1
 have h1:0≤jh C per y:=Int.ediv_nonneg (by omega) (by omega)
 have h2:jh C per y≤y*1048576:=Int.ediv_le_self _ (by omega)
 refine ⟨?_,h1,Int.ediv_mul_le _ (by omega)⟩
 rw [zG (z:=y*1048576) (by omega) (by omega),zG (z:=C*per) (by omega) (by omega),Int.tdiv_eq_ediv_of_nonneg (by omega)]
 show wrF .i64 (jh C per y)=_
 rw [zG (by omega) (by omega)]
theorem RtC.rp {C per y:Int} (h:RtC C per y) (hr:1≤jh C per y):jh C per y≤1048576∧per≤jh C per y*per∧jh C per y*per≤1048576:=by
 obtain ⟨_,_,h2⟩:=h.rate
 have hc:=h.c0;have hp:=h.p0;have hy:=h.y1
 have h3:per≤jh C per y*per:=by
  have:=Int.mul_le_mul_of_nonneg_right hr (show 0≤per by omega)
  omega
 have h4:jh C per y*per≤1048576:=by
  have e:jh C per y*(C*per)=C*(jh C per y*per):=by rw [←Int.mul_assoc,Int.mul_comm (jh C per y) C,Int.mul_assoc]
  have:C*(jh C per y*per)≤C*1048576:=by omega
  exact Int.le_of_mul_le_mul_left this (by omega)
 have h5:jh C per y≤jh C per y*per:=by
  have:=Int.mul_le_mul_of_nonneg_left hp (show 0≤jh C per y by omega)
  omega
 exact ⟨by omega,h3,h4⟩
theorem zrH {per rp:Int} (p0:1≤per) (p1:per≤1000) (h1:per≤rp) (h2:rp≤1048576):cl rp (127*per*1048576)=0 - (-127*per*1048576) / rp∧0≤cl rp (127*per*1048576)∧cl rp (127*per*1048576)≤133169152:=by
 have e:=zEf (d:=rp) (l:=0) (z:=-127*per*1048576) (by omega)
 rw [show 0*rp - -127*per*1048576=127*per*1048576 by omega] at e
 refine ⟨e,Int.ediv_nonneg (by omega) (by omega),?_⟩
 have : -133169152≤(-127*per*1048576) / rp:=Int.le_ediv_of_mul_le (by omega) (by omega)
 omega
section
variable {g:Gts} {L:List (Int×Int)} {per most:Int}
def wV (g:Gts) (L:List (Int×Int)) (lost per rate:Int) (i j:Nat):Int:=(tt g L lost j - fr g L lost i)*rate*per - (snt g L lost i j - 127*per)*1048576
def vV (g:Gts) (L:List (Int×Int)) (lost per rate:Int) (i k:Nat):Int:=tt g L lost (i+1+k) - fr g L lost i - ((jI g L lost i k - 127*per)*1048576) / (rate*per)
theorem zGk {lost rate:Int} (h:0 < rate*per) (i k:Nat):vV g L lost per rate i k=cl (rate*per) (wV g L lost per rate i (i+1+k)):=by
 unfold vV wV snt
 rw [show i+1+k - i - 1=k by omega,Int.mul_assoc,zEf h]
noncomputable def zrI (g:Gts) (L:List (Int×Int)) (lost per rate:Int):Int:=mxN (fun _ _=>true) (vV g L lost per rate) L.length L.length (cl (rate*per) (127*per*1048576))
noncomputable def UR (g:Gts) (L:List (Int×Int)) (lost per rate:Int):Int:=mxN (fun i j=>zh (fr g L lost i) (tt g L lost j)) (wV g L lost per rate) (2*L.length) L.length (127*per*1048576)
theorem zHF (hg:qH g) (hr:Zp g L) (h:0 < L.length) {lost rate:Int} (hl:0 < lost) (h0:1≤per) (hrp:0 < rate*per) (hy:rate*(g.2*per)≤jn lost L*1048576):cl (rate*per) (UR g L lost per rate)=zrI g L lost per rate:=by
 have ub1:=zob (fun _ _=>true) (vV g L lost per rate) L.length L.length (cl (rate*per) (127*per*1048576))
 have ub2:=zob (fun i j=>zh (fr g L lost i) (tt g L lost j)) (wV g L lost per rate) (2*L.length) L.length (127*per*1048576)
 have at1:=zoc (fun _ _=>true) (vV g L lost per rate) L.length L.length (cl (rate*per) (127*per*1048576))
 have at2:=zoc (fun i j=>zh (fr g L lost i) (tt g L lost j)) (wV g L lost per rate) (2*L.length) L.length (127*per*1048576)
 have fy:∀i,bX g L i≤fr g L lost i∧fr g L lost i < bY g L i:=fun i=>by have:=JM hr h i;unfold fr mn;omega
 have ty:∀i,bX g L i < tt g L lost i∧tt g L lost i≤bY g L i:=fun i=>by have:=JM hr h i;unfold tt mn;omega
 apply Int.le_antisymm
 ·show cl _ (mxN _ _ _ _ _)≤mxN _ _ _ _ _
  rcases at2 with e | ⟨i,j,hi,hj,hc,e⟩
  ·rw [e];exact ub1.1
  ·rw [e]
   have hc:=qn hc
   have hij:i≤j:=by
    apply Classical.byContradiction
    intro hn
    have:=zew hr h (show j < i by omega)
    have:=fy i;have:=ty j;omega
   have viaK:∀k,k < L.length→cl (rate*per) (wV g L lost per rate i (i+1+k))≤mxN (fun _ _=>true) (vV g L lost per rate) L.length L.length (cl (rate*per) (127*per*1048576)):=fun k hk=>by
    rw [←zGk hrp];exact ub1.2 i k hi hk rfl
   rcases Nat.lt_or_ge i j with h1 | h1
   ·rcases Nat.lt_or_ge j (i+1+L.length) with h2 | h2
    ·have:=viaK (j - i - 1) (by omega)
     rwa [show i+1+(j - i - 1)=j by omega] at this
    ·
     have:=viaK (j - i - 1 - L.length) (by omega)
     refine Int.le_trans (zfd hrp ?_) this
     obtain ⟨k,rfl⟩:∃k,j=i+1+k+L.length:=⟨j - L.length - i - 1,by omega⟩
     rw [show i+1+k+L.length - i - 1 - L.length=k by omega]
     unfold wV snt
     rw [show i+1+k+L.length - i - 1=k+L.length by omega,show i+1+k - i - 1=k by omega,zhD,zEe h]
     obtain ⟨a1,a2⟩:=ztS g h (i+1+k)
     have et:tt g L lost (i+1+k+L.length)=tt g L lost (i+1+k)+g.2:=by unfold tt mn;omega
     rw [et]
     have e1:(tt g L lost (i+1+k)+g.2 - fr g L lost i)*rate*per=(tt g L lost (i+1+k) - fr g L lost i)*rate*per+rate*(g.2*per):=by
      rw [show tt g L lost (i+1+k)+g.2 - fr g L lost i=(tt g L lost (i+1+k) - fr g L lost i)+g.2 by omega,Int.add_mul,Int.add_mul,Int.mul_comm g.2 rate,Int.mul_assoc rate]
     rw [e1]
     omega
   ·have hj':j=i:=by omega
    subst hj'
    have:=viaK 0 h
    refine Int.le_trans (zfd hrp ?_) this
    unfold wV snt
    rw [show j+1+0 - j - 1=0 by omega,show j - j - 1=0 by omega]
    have h2:tt g L lost j - fr g L lost j≤tt g L lost (j+1+0) - fr g L lost j:=by
     have:=ty j;have:=ty (j+1+0)
     have:=zew hr h (show j < j+1+0 by omega)
     omega
    have h3:(tt g L lost j - fr g L lost j)*(rate*per)≤(tt g L lost (j+1+0) - fr g L lost j)*(rate*per):=Int.mul_le_mul_of_nonneg_right h2 (by omega)
    rw [Int.mul_assoc,Int.mul_assoc]
    omega
 ·show mxN _ _ _ _ _≤cl _ (mxN _ _ _ _ _)
  rcases at1 with e | ⟨i,k,hi,hk,_,e⟩
  ·rw [e];exact zfd hrp ub2.1
  ·rw [e,zGk hrp]
   refine zfd hrp (ub2.2 i (i+1+k) hi (by omega) (zT ?_))
   have:=fy i;have:=ty (i+1+k)
   have:=zew hr h (show i < i+1+k by omega)
   omega
structure OfC (g:Gts) (L:List (Int×Int)) (per most:Int):Prop where
 hg:qH g
 ha:¬Xt g.1
 hr:Zp g L
 h0:0 < L.length
 p0:1≤per
 p1:per≤1000
 m0:84≤most
 m1:most≤1542
 rt:1≤jh g.2 per (jn (most*per) L)
theorem OfC.lost (h:OfC g L per most):84≤most*per∧most*per≤1542000:=by
 have:=zaz (show 0≤most by have:=h.m0;omega) h.m1 (show 0≤per by have:=h.p0;omega) h.p1
 have h1:84*1≤most*per:=Int.mul_le_mul h.m0 h.p0 (by omega) (by have:=h.m0;omega)
 omega
theorem OfC.rc (h:OfC g L per most):RtC g.2 per (jn (most*per) L):=by
 have hl:=h.lost
 have hb:=VH (lost:=most*per) (by omega) (a:=at0 g) (b:=at0 g+g.2) (by have:=h.hg.pos;omega) h.hr.cv.bd h.hr.cv.pw
 exact ⟨h.hg.pos,h.hg.c1,h.p0,h.p1,hb.1,by omega⟩
theorem OfC.ft (h:OfC g L per most) {q:Nat} (hq:q < 2*L.length):(0≤fr g L (most*per) q∧fr g L (most*per) q≤30000000)∧(0≤tt g L (most*per) q∧tt g L (most*per) q≤30000000)∧1≤mn g L (most*per) q∧mn g L (most*per) q≤bY g L q - bX g L q:=by
 have:=zoa h.hg h.hr h.h0 hq
 have:=JM h.hr h.h0 q
 have hl:=h.lost
 unfold fr tt mn
 omega
theorem zGl (hg:qH g) (hr:Zp g L):(L.length:Int)≤9600000:=by
 have hb:=VH (lost:=0) (by omega) (a:=at0 g) (b:=at0 g+g.2) (by have:=hg.pos;omega) hr.cv.bd hr.cv.pw
 have:=hg.c1
 omega
theorem zFU (h:OfC g L per most) {i k:Nat} (hk:k≤L.length) : -133169152000≤(jI g L (most*per) i k - 127*per)*1048576∧(jI g L (most*per) i k - 127*per)*1048576≤10066329600000∧-133169152≤((jI g L (most*per) i k - 127*per)*1048576) / (jh g.2 per (jn (most*per) L)*per)∧((jI g L (most*per) i k - 127*per)*1048576) / (jh g.2 per (jn (most*per) L)*per)≤10066329600000:=by
 have hl:=h.lost
 obtain ⟨r1,r2,r3⟩:=h.rc.rp h.rt
 have hs:=zvF h.hr h.h0 (lost:=most*per) (by omega) i hk
 have hc:=h.hg.c1;have:=h.p0;have:=h.p1
 have z1 : -133169152000≤(jI g L (most*per) i k - 127*per)*1048576:=by omega
 have z2:(jI g L (most*per) i k - 127*per)*1048576≤10066329600000:=by omega
 generalize hz:(jI g L (most*per) i k - 127*per)*1048576=z at z1 z2
 have z3 : -133169152*per≤z:=by omega
 generalize jh g.2 per (jn (most*per) L)*per=rp at r2 r3
 refine ⟨z1,z2,Int.le_ediv_of_mul_le (by omega) (by omega),?_⟩
 rcases Int.le_total 0 z with h | h
 ·exact Int.le_trans (Int.ediv_le_self _ h) z2
 ·have:z / rp≤0:=Int.ediv_nonpos_of_nonpos_of_neg h (by omega)
  omega
theorem zBu (h:OfC g L per most):0≤zrI g L (most*per) per (jh g.2 per (jn (most*per) L))∧zrI g L (most*per) per (jh g.2 per (jn (most*per) L))≤268435456:=by
 obtain ⟨r1,r2,r3⟩:=h.rc.rp h.rt
 obtain ⟨b1,b2,b3⟩:=zrH h.p0 h.p1 r2 r3
 have ub:=zob (fun _ _=>true) (vV g L (most*per) per (jh g.2 per (jn (most*per) L))) L.length L.length (cl (jh g.2 per (jn (most*per) L)*per) (127*per*1048576))
 have at1:=zoc (fun _ _=>true) (vV g L (most*per) per (jh g.2 per (jn (most*per) L))) L.length L.length (cl (jh g.2 per (jn (most*per) L)*per) (127*per*1048576))
 unfold zrI
 refine ⟨by omega,?_⟩
 rcases at1 with e | ⟨i,k,hi,hk,_,e⟩
 ·rw [e];omega
 ·rw [e]
  obtain ⟨_,_,z1,_⟩:=zFU h (i:=i) (k:=k) (by omega)
  have:=(h.ft (q:=i) (by omega)).1;have:=(h.ft (q:=i+1+k) (by omega)).2.1
  unfold vV
  omega
end
end Go.Proofs.YtplhphmbkmpocaaGreat.ad
namespace Go.Proofs.YtplhphmbkmpocaaGreat.ad
open Go Go.Fz Go.Fz.Sy
theorem UF (g:Gts) {per most:Int} (p0:1≤per) (p1:per≤1000) (m0:84≤most) (m1:most≤1542):Qm (g,per,most,())=some (bif tv (qH g) then 0 else 370,()):=by
 rw [zng];unfold zbj
 rw [zbO,zx]
 by_cases hg:qH g
 ·rw [zA hg,zF (show ¬per < 1 by omega),zF (show ¬1000 < per by omega),zF (show ¬most < 84 by omega),zF (show ¬1542 < most by omega)];rfl
 ·rw [zM hg];rfl
theorem zcT (g:Gts) {per most:Int} (p0:1≤per) (p1:per≤1000) (m0:84≤most) (m1:most≤1542):KI (g,per,most,())=some (bif tv (qH g) then 0 else 370,()):=by
 rw [ztd];unfold zgj
 rw [zhB,zx]
 by_cases hg:qH g
 ·rw [zA hg,zF (show ¬per < 1 by omega),zF (show ¬1000 < per by omega),zF (show ¬most < 84 by omega),zF (show ¬1542 < most by omega)];rfl
 ·rw [zM hg];rfl
theorem zEg {z:Nat} (h:z≤1000000000000):wrF .i64 (z:Int)=(z:Int):=by rw [zG]<;>omega
def asL (xs:List (Int×Int)):List (Int×Int):=xs.map fun p=>(p.1,p.1+p.2)
theorem zEh {g:Gts} {L xs:List (Int×Int)} (hx:asL xs=L) (h:0 < L.length) (q:Nat):∃p,xs[q % xs.length]?=some p∧bX g L q=p.1+((q / L.length:Nat):Int)*g.2∧bY g L q - bX g L q=p.2:=by
 have hl:xs.length=L.length:=by rw [←hx];unfold asL;simp
 have hm:q % xs.length < xs.length:=Nat.mod_lt _ (by omega)
 have hy:xs[q % xs.length]?=some (xs[q % xs.length]):=List.getElem?_eq_getElem hm
 refine ⟨_,hy,?_⟩
 have hL:L[q % L.length]?=some ((xs[q % xs.length]).1,(xs[q % xs.length]).1+(xs[q % xs.length]).2):=by
  rw [←hl,←hx];unfold asL
  rw [List.getElem?_map,hy];rfl
 unfold bX bY
 rw [hL]
 simp only [Option.getD_some]
 exact ⟨trivial,by omega⟩
section
variable {g:Gts} {L:List (Int×Int)} {per most:Int}
theorem zHa (h:OfC g L per most):jH (g,per,most,())=some ((jh g.2 per (jn (most*per) L),zrI g L (most*per) per (jh g.2 per (jn (most*per) L))),0,()):=by
 have hg:=h.hg;have ha:=h.ha;have hr:=h.hr;have hL0:=h.h0
 have p0:=h.p0;have p1:=h.p1;have m0:=h.m0;have m1:=h.m1
 have hlost:=h.lost
 obtain ⟨eR,r0,ry⟩:=h.rc.rate
 obtain ⟨r1,r2,r3⟩:=h.rc.rp h.rt
 obtain ⟨b1,b2,b3⟩:=zrH p0 p1 r2 r3
 have hrt:=h.rt
 have hcp:=h.rc.cp
 have hc:=hg.c1;have hp:=hg.pos;have hn:=hg.n1;have hn0:=hg.n0
 have hLC:=zGl hg hr
 have eM:wrF .i64 (most*per)=most*per:=zG (by omega) (by omega)
 have eRP:wrF .i64 (jh g.2 per (jn (most*per) L)*per)=jh g.2 per (jn (most*per) L)*per:=zG (by omega) (by omega)
 have hl:=zn7 ha
 obtain ⟨e,hx,he,hen,h0⟩:=zoL hg ha
 have h0b:=zn8 hg
 rw [zbp];unfold KG
 rw [UF g p0 p1 m0 m1,zA hg,zx,cond_true]
 refine xP ?_
 refine zf rfl ?_
 rw [eM,zcc hg ha hr (by omega) (by omega),zx]
 simp only [eR]
 refine zf (qM (show wrF .i64 (g.2*per)≠0 by rw [zG]<;>omega)) (zf (zF (by omega)) ?_)
 generalize hy:jn (most*per) L=y at *
 generalize hrate:jh g.2 per y=rate at *
 rw [show wrF .i64 ((wrF .i64 (-127*per))*1048576) = -127*per*1048576 from by rw [zG (z:=-127*per) (by omega) (by omega),zG (by omega) (by omega)],eRP,Vn (by omega) (by omega) (by omega) (by omega),zx]
 refine zj (J:=fun x=>x.2.1=(at0 g,(((clo g.1:Nat):Int),()))∧x.2.2.1.1=[]) (zW (clo g.1) (fun i s=>s=((qO (g.1.take i),((i:Int),())),(([],()),((),((),()))))) (by omega) rfl ?_ ?_) ?_
 ·rintro i _ hi rfl
  have hy':g.1[i]?=some g.1[i]:=List.getElem?_eq_getElem (by omega)
  have hm:=List.getElem_mem (show i < g.1.length by omega)
  generalize g.1[i]=f at hy' hm
  have hf:=hg.el f hm
  have hb:=Jb (l:=g.1.take i) fun e he=>hg.el e (List.mem_of_mem_take he)
  have hbl:(g.1.take i).length≤128:=by simp;omega
  refine zd (zT (show (i:Int) < (g.1.length:Int) by omega)) (zg (zy (n:=i) hy' ?_))
  rw [xN hf]
  refine zd (zgS _ i f hi hy') (zg (zy (n:=i) hy' (za (qj ?_))))
  show (((wrF .i64 (qO (g.1.take i)+f.2)),((wrF .i64 ((i:Int)+1)),())),(([],()),((),((),()))))=_
  have:=hf.2.2.1;have:=hf.2.2.2
  rw [ga hy',qp (by omega),zG (by omega) (by omega)]
 ·rintro _ rfl
  refine zd (zT (show ((clo g.1:Nat):Int) < (g.1.length:Int) by omega)) (zg (zy (n:=clo g.1) hx ?_))
  rw [xN hen]
  exact zf he (za (zq ⟨rfl,rfl⟩))
 rintro ⟨j,⟨w,z,⟨⟩⟩,⟨c,⟨⟩⟩,⟨⟩,⟨⟩,⟨⟩⟩ ⟨hv,hc'⟩
 simp only [Prod.mk.injEq,and_true] at hv hc'
 obtain ⟨rfl,rfl⟩:=hv
 subst hc'
 refine zf (qM (show ((clo g.1:Nat):Int)≠(g.1.length:Int) by omega)) (zg (zy (n:=clo g.1) hx ?_))
 have hm:clo g.1 % g.1.length=clo g.1:=Nat.mod_eq_of_lt hl
 have hts:=zgR hg (k:=clo g.1) (e:=e) (by rw [hm];exact hx)
 have hA:=ztR hg (k:=clo g.1+1) (by omega)
 refine zj (J:=fun x=>x.1=0∧asL x.2.2.1.1=L) (zW g.1.length (fun i s=>∃now xs,s=((now,(tAt g (clo g.1+1+i),((i:Int),()))),((xs,()),((),((),()))))∧xs.length≤i∧Inv (opT g) (tAt g (clo g.1+1)) (tAt g (clo g.1+1+i)) now (asL xs)∧(∀f,0 < i→g.1[(clo g.1+i) % g.1.length]?=some f→opn f.1=false→now.2=0)) (by omega) ?_ ?_ ?_) ?_
 ·refine ⟨(0,0),[],?_,by simp,⟨Int.le_refl _,.inl ⟨rfl,zvE _ _,fun p hp=>(by cases hp)⟩⟩,fun f h=>by omega⟩
  show (((0,0),((wrF .i64 (at0 g+e.2)),(0,()))),(([],()),((),((),()))))=_
  rw [Nat.add_zero,hts,h0,zG (by omega) (by have:=hen.2.2.2;omega)];rfl
 ·rintro i _ hi ⟨now,xs,rfl,hxl,hinv,_⟩
  obtain ⟨f,hy',hf,hsu,hop⟩:=zD8 hg (clo g.1+1+i)
  have hB:=ztR hg (k:=clo g.1+1+i) (by omega)
  have hnb:=zD9 hinv hA.1 hB.2
  have f1:=hf.2.2.1;have f2:=hf.2.2.2
  refine zd (zT (show (i:Int) < (g.1.length:Int) by omega)) (zf (qM (show (g.1.length:Int)≠0 by omega)) ?_)
  refine zg (qk (a:=f) (by show atI g.1 (Int.tmod (wrF .i64 ((wrF .i64 (((clo g.1:Nat):Int)+1))+(i:Int))) (g.1.length:Int))=_;rw [zBt hg (by omega) (by omega)];exact jJ hy') ?_)
  rw [xN hf]
  have eat:wrF .i64 (tAt g (clo g.1+1+i)+f.2)=tAt g (clo g.1+1+(i+1)):=by
   rw [show clo g.1+1+(i+1)=clo g.1+1+i+1 from rfl,hsu,zG (by omega) (by omega)]
  have eup:wrF .i64 ((i:Int)+1)=((i+1:Nat):Int):=qp (by omega)
  have idx:∀f',0 < i+1→g.1[(clo g.1+(i+1)) % g.1.length]?=some f'→f'=f:=fun f' _ h=>by
   rw [show clo g.1+(i+1)=clo g.1+1+i by omega,hy'] at h
   exact (Option.some.inj h).symm
  refine zk (fun ho=>?_) (fun ho=>?_)
  ·have ho:opn f.1=true:=ho
   rw [ho] at hop
   have hi2:=zAb hinv (show 0 < f.2 by omega) hop
   refine zj (J:=fun x=>x.2.1.1=if now.2=0 then (tAt g (clo g.1+1+i),0) else now) (zk (fun h=>?_) (fun h=>?_)) ?_
   ·have h:now.2=0:=qU h
    refine za ?_
    rw [if_pos h]
    show (tAt g (clo g.1+1+i),now.2)=_
    rw [h]
   ·have h:now.2≠0:=jU h
    exact za (by rw [if_neg h])
   ·rintro ⟨j,⟨nw,⟨⟩⟩,⟨⟩,⟨⟩,⟨⟩⟩ hnw
    simp only at hnw
    subst hnw
    refine za (qj ⟨_,xs,?_,by omega,(by rw [←hsu] at hi2;exact hi2),fun f' h1 h2 h3=>?_⟩)
    ·show ((((if now.2=0 then (tAt g (clo g.1+1+i),0) else now).1,(wrF .i64 ((if now.2=0 then (tAt g (clo g.1+1+i),0) else now).2+f.2))),((wrF .i64 (tAt g (clo g.1+1+i)+f.2)),((wrF .i64 ((i:Int)+1)),()))),((xs,()),((),((),()))))=_
     rw [eat,eup]
     by_cases h:now.2=0
     ·rw [if_pos h,if_pos h]
      simp only
      rw [zG (by omega) (by omega),Int.zero_add]
     ·rw [if_neg h,if_neg h,zG (by omega) (by omega)]
    ·rw [idx f' h1 h2,ho] at h3;cases h3
  ·have ho:opn f.1=false:=ho
   rw [ho] at hop
   refine zk (fun h=>?_) (fun h=>?_)
   ·have h:0 < now.2:=qn h
    have hi2:=zAc hinv (show 0 < f.2 by omega) h hop
    refine zd (xh (by show (xs.length+1)*16≤_;omega) (by show xs.length+1≤_;omega)) (za (qj ⟨(0,0),xs++[now],?_,by simp;omega,?_,fun f' h1 h2 h3=>rfl⟩))
    ·show (((0,0),((wrF .i64 (tAt g (clo g.1+1+i)+f.2)),((wrF .i64 ((i:Int)+1)),()))),((xs++[now],()),((),((),()))))=_
     rw [eat,eup]
    ·rw [←hsu] at hi2
     have:asL (xs++[now])=asL xs++[(now.1,now.1+now.2)]:=by unfold asL;simp
     rw [this];exact hi2
   ·have h:now.2=0:=by have:now.2≤0:=qE h;omega
    have hi2:=zwr hinv (show 0 < f.2 by omega) h hop
    refine za (qj ⟨(0,0),xs,?_,by omega,(by rw [←hsu] at hi2;exact hi2),fun f' h1 h2 h3=>rfl⟩)
    show (((0,0),((wrF .i64 (tAt g (clo g.1+1+i)+f.2)),((wrF .i64 ((i:Int)+1)),()))),((xs,()),((),((),()))))=_
    rw [eat,eup]
 ·rintro _ ⟨now,xs,rfl,hxl,hinv,hlast⟩
  refine zf (zF (show ¬(g.1.length:Int) < (g.1.length:Int) by omega)) (za (zq ⟨rfl,?_⟩))
  have hz:=hlast e (by omega) (by rw [Nat.add_mod_right,hm];exact hx) he
  show asL xs=L
  rcases hinv.2 with ⟨_,hc,_⟩ | ⟨h',_⟩
  ·rw [zBr hg] at hc
   exact (zAd hg ha hc hr).symm
  ·omega
 rintro ⟨j,⟨nw,v,z,⟨⟩⟩,⟨xs,⟨⟩⟩,⟨⟩,⟨⟩,⟨⟩⟩ ⟨hj,hxs⟩
 simp only at hj hxs
 subst hj
 have hxl:xs.length=L.length:=by rw [←hxs];unfold asL;simp
 refine zd rfl ?_
 refine zj (J:=fun x=>x.2.1.1=zrI g L (most*per) per rate∧x.2.1.2.1=rate)
  (zW L.length (fun i s=>s=((mxN (fun _ _=>true) (vV g L (most*per) per rate) L.length i (cl (rate*per) (127*per*1048576)),(rate,(per,((i:Int),())))),((),()))) (by omega) ?_ ?_ ?_) ?_
 ·show ((uS 0 (wrF .i64 (0 - (-127*per*1048576) / (rate*per))),(rate,(per,(0,())))),((),()))=_
  rw [←b1,zG (by omega) (by omega),We]
  show _=((cl (rate*per) (127*per*1048576),_),_)
  rw [show max 0 (cl (rate*per) (127*per*1048576))=cl (rate*per) (127*per*1048576) by omega];rfl
 ·rintro i _ hi rfl
  obtain ⟨pi,hpi,epi1,epi2⟩:=zEh (g:=g) hxs hL0 i
  rw [Nat.mod_eq_of_lt (by omega)] at hpi
  rw [Nat.div_eq_of_lt hi] at epi1
  have fti:=h.ft (q:=i) (by omega)
  refine zd (zT (show (i:Int) < (xs.length:Int) by omega)) (zg (zy (n:=i) hpi (zg (qk (a:=pi) (by show gl xs (Int.toNat (i:Int))=_;rw [Int.toNat_natCast,xQ];exact hpi) ?_))))
  refine zj (J:=fun x=>x.2.1.1=mxN (fun _ _=>true) (vV g L (most*per) per rate) L.length (i+1) (cl (rate*per) (127*per*1048576))∧x.2.1.2.1=rate∧x.2.1.2.2.1=per)
   (zW L.length (fun k s=>s=((mxK (fun _=>true) (vV g L (most*per) per rate i) k (mxN (fun _ _=>true) (vV g L (most*per) per rate) L.length i (cl (rate*per) (127*per*1048576))),(rate,(per,(jI g L (most*per) i k,((k:Int),()))))),((),()))) (by omega) rfl ?_ ?_) ?_
  ·rintro k _ hk rfl
   obtain ⟨pj,hpj,epj1,epj2⟩:=zEh (g:=g) hxs hL0 (i+1+k)
   have ftj:=h.ft (q:=i+1+k) (by omega)
   have zb:=zFU h (i:=i) (k:=k) (by omega)
   rw [hy,hrate] at zb
   have sb:=zvF hr hL0 (lost:=most*per) (by omega) i (show k≤L.length by omega)
   have sb':=zvF hr hL0 (lost:=most*per) (by omega) i (show k+1≤L.length by omega)
   have hbi:=zoa hg hr hL0 (show i < 2*L.length by omega);have hbj:=zoa hg hr hL0 (show i+1+k < 2*L.length by omega)
   have hxi:=JM hr hL0 i;have hxj:=JM hr hL0 (i+1+k)
   have ej:Int.tmod (wrF .i64 ((wrF .i64 ((i:Int)+1))+(k:Int))) (xs.length:Int)=(((i+1+k) % xs.length:Nat):Int):=by
    rw [qp (by omega),zG (by omega) (by omega),Int.tmod_eq_emod_of_nonneg (by omega),←Int.natCast_add,←Int.natCast_emod]
   have ed:wrF .i64 (Int.tdiv (wrF .i64 ((wrF .i64 ((i:Int)+1))+(k:Int))) (xs.length:Int))=(((i+1+k) / L.length:Nat):Int):=by
    rw [qp (by omega),zG (z:=((i+1:Nat):Int)+(k:Int)) (by omega) (by omega),Int.tdiv_eq_ediv_of_nonneg (by omega),hxl,←Int.natCast_add,←Int.natCast_ediv]
    exact zEg (Nat.le_trans (Nat.div_le_self _ _) (by omega))
   have hd1:(i+1+k) / L.length=0∨(i+1+k) / L.length=1:=by
    have:(i+1+k) / L.length < 2:=Nat.div_lt_of_lt_mul (by omega)
    exact Nat.le_one_iff_eq_zero_or_eq_one.1 (Nat.le_of_lt_succ this)
   have edC:0≤(((i+1+k) / L.length:Nat):Int)*g.2∧(((i+1+k) / L.length:Nat):Int)*g.2≤9600000:=by
    rcases hd1 with h1 | h1<;>rw [h1]<;>simp<;>omega
   generalize hdc:(((i+1+k) / L.length:Nat):Int)=dc at ed edC epj1
   refine zd (zT (show (k:Int) < (xs.length:Int) by omega)) (zf (qM (show (xs.length:Int)≠0 by omega)) ?_)
   refine zg (qk (a:=pj) (by show atI xs (Int.tmod (wrF .i64 ((wrF .i64 ((i:Int)+1))+(k:Int))) (xs.length:Int))=_;rw [ej];exact jJ hpj) (zg (qk (a:=pj) (by show gl xs (Int.toNat (Int.tmod (wrF .i64 ((wrF .i64 ((i:Int)+1))+(k:Int))) (xs.length:Int)))=_;rw [ej,Int.toNat_natCast,xQ];exact hpj) ?_)))
   refine zf (qM (show (xs.length:Int)≠0 by omega)) ?_
   have ez:wrF .i64 ((wrF .i64 (jI g L (most*per) i k - (wrF .i64 (127*per))))*1048576)=(jI g L (most*per) i k - 127*per)*1048576:=by
    rw [zG (z:=127*per) (by omega) (by omega),zG (z:=jI g L (most*per) i k - 127*per) (by omega) (by omega),zG (by omega) (by omega)]
   have efl:vR (wrF .i64 ((wrF .i64 (jI g L (most*per) i k - (wrF .i64 (127*per))))*1048576),wrF .i64 (rate*per),())=some (((jI g L (most*per) i k - 127*per)*1048576) / (rate*per),()):=by
    rw [ez,eRP,Vn (by omega) (by omega) (by omega) (by omega)]
   refine zg (qk efl ?_)
   refine za (qj ?_)
   have em1:jQ (most*per) pj.2=mn g L (most*per) (i+1+k):=by rw [VC,←epj2];unfold mn;omega
   have em2:jQ (most*per) pi.2=mn g L (most*per) i:=by rw [VC,←epi2];unfold mn;omega
   have eto:wrF .i64 ((wrF .i64 (pj.1+(wrF .i64 (dc*g.2))))+jQ (most*per) pj.2)=tt g L (most*per) (i+1+k):=by
    rw [em1,zG (z:=dc*g.2) (by omega) (by omega),zG (z:=pj.1+dc*g.2) (by omega) (by omega),←epj1]
    show wrF .i64 (tt g L (most*per) (i+1+k))=_
    rw [zG (by omega) (by omega)]
   have efr:wrF .i64 ((wrF .i64 (pi.1+pi.2)) - jQ (most*per) pi.2)=fr g L (most*per) i:=by
    have e1:pi.1+pi.2=bY g L i:=by simp at epi1;omega
    rw [em2,e1,zG (z:=bY g L i) (by omega) (by omega)]
    show wrF .i64 (fr g L (most*per) i)=_
    rw [zG (by omega) (by omega)]
   have ev:wrF .i64 ((wrF .i64 (tt g L (most*per) (i+1+k) - fr g L (most*per) i)) - ((jI g L (most*per) i k - 127*per)*1048576) / (rate*per))=vV g L (most*per) per rate i k:=by
    rw [zG (z:=tt g L (most*per) (i+1+k) - fr g L (most*per) i) (by omega) (by omega)]
    show wrF .i64 (vV g L (most*per) per rate i k)=_
    unfold vV
    rw [zG (by omega) (by omega)]
   have ew:wrF .i64 (jI g L (most*per) i k+uS 0 (wrF .i64 (pj.2 - most*per)))=jI g L (most*per) i (k+1):=by
    have:jI g L (most*per) i (k+1)=jI g L (most*per) i k+max 0 (pj.2 - most*per):=by
     show _+wg g L (most*per) (i+1+k)=_
     unfold wg;rw [epj2]
    rw [zG (z:=pj.2 - most*per) (by omega) (by omega),We,←this,zG (by omega) (by omega)]
   show ((uS (mxK (fun _=>true) (vV g L (most*per) per rate i) k (mxN (fun _ _=>true) (vV g L (most*per) per rate) L.length i (cl (rate*per) (127*per*1048576)))) (wrF .i64 ((wrF .i64 ((wrF .i64 ((wrF .i64 (pj.1+(wrF .i64 ((wrF .i64 (Int.tdiv (wrF .i64 ((wrF .i64 ((i:Int)+1))+(k:Int))) (xs.length:Int)))*g.2))))+jQ (most*per) pj.2)) - (wrF .i64 ((wrF .i64 (pi.1+pi.2)) - jQ (most*per) pi.2)))) - ((jI g L (most*per) i k - 127*per)*1048576) / (rate*per))),(rate,(per,((wrF .i64 (jI g L (most*per) i k+uS 0 (wrF .i64 (pj.2 - most*per)))),((wrF .i64 ((k:Int)+1)),()))))),((),()))=_
   rw [ed,eto,efr,ev,ew,qp (by omega),We]
   rfl
  ·rintro _ rfl
   exact zf (zF (show ¬((L.length:Nat):Int) < (xs.length:Int) by omega)) (za (zq ⟨rfl,rfl,rfl⟩))
  ·rintro ⟨j,⟨a1,a2,a3,a4,a5,⟨⟩⟩,⟨⟩,⟨⟩⟩ ⟨h1,h2,h3⟩
   simp only at h1 h2 h3
   subst h1 h2 h3
   exact za (qj (congrArg (fun z=>((_,(_,(_,(z,())))),((),()))) (qp (by omega))))
 ·rintro _ rfl
  exact zf (zF (show ¬((L.length:Nat):Int) < (xs.length:Int) by omega)) (za (zq ⟨rfl,rfl⟩))
 ·rintro ⟨j,⟨a1,a2,a3,a4,⟨⟩⟩,⟨⟩,⟨⟩⟩ ⟨h1,h2⟩
  simp only at h1 h2
  subst h1 h2
  exact za rfl
end
end Go.Proofs.YtplhphmbkmpocaaGreat.ad
namespace Go.Proofs.YtplhphmbkmpocaaGreat.ad
open Go Go.Fz Go.Fz.Sy
section
variable {g:Gts} {L:List (Int×Int)} {per most:Int}
theorem zFV (h:OfC g L per most):133169152≤UR g L (most*per) per (jh g.2 per (jn (most*per) L))∧UR g L (most*per) per (jh g.2 per (jn (most*per) L))≤100000000000000:=by
 have p0:=h.p0;have p1:=h.p1
 obtain ⟨r1,r2,r3⟩:=h.rc.rp h.rt
 have ub:=zob (fun i j=>zh (fr g L (most*per) i) (tt g L (most*per) j)) (wV g L (most*per) per (jh g.2 per (jn (most*per) L))) (2*L.length) L.length (127*per*1048576)
 have at2:=zoc (fun i j=>zh (fr g L (most*per) i) (tt g L (most*per) j)) (wV g L (most*per) per (jh g.2 per (jn (most*per) L))) (2*L.length) L.length (127*per*1048576)
 unfold UR
 refine ⟨by omega,?_⟩
 rcases at2 with e | ⟨i,j,hi,hj,hc,e⟩
 ·rw [e];omega
 ·rw [e]
  have hc:=qn hc
  have:=(h.ft (q:=i) (by omega)).1;have:=(h.ft (q:=j) hj).2.1
  have hm:=zaz (a:=tt g L (most*per) j - fr g L (most*per) i) (b:=jh g.2 per (jn (most*per) L)*per) (A:=30000000) (B:=1048576) (by omega) (by omega) (by omega) r3
  have hs:=(zks h.hr h.h0 (lost:=most*per) (by have:=h.lost;omega) i (j - i - 1)).1
  unfold wV snt
  rw [Int.mul_assoc]
  omega
theorem zHG (h:OfC g L per most) (hL:vX (g,())=some (L,())):Yb (g,per,most,())=some ((jh g.2 per (jn (most*per) L),zrI g L (most*per) per (jh g.2 per (jn (most*per) L))),0,()):=by
 have hg:=h.hg;have ha:=h.ha;have hr:=h.hr;have hL0:=h.h0
 have p0:=h.p0;have p1:=h.p1;have m0:=h.m0;have m1:=h.m1
 have hlost:=h.lost
 obtain ⟨eR,r0,ry⟩:=h.rc.rate
 obtain ⟨r1,r2,r3⟩:=h.rc.rp h.rt
 have hrt:=h.rt
 have hcp:=h.rc.cp
 have hc:=hg.c1;have hp:=hg.pos
 have hLC:=zGl hg hr
 have hwb:=zFV h
 have hle:=zHF hg hr hL0 (lost:=most*per) (by omega) p0 (by omega) ry
 have hlb:=zBu h
 have eM:wrF .i64 (most*per)=most*per:=zG (by omega) (by omega)
 have eRP:wrF .i64 (jh g.2 per (jn (most*per) L)*per)=jh g.2 per (jn (most*per) L)*per:=zG (by omega) (by omega)
 rw [zed];unfold zbv
 rw [zcT g p0 p1 m0 m1,zA hg,zx,cond_true]
 refine xP ?_
 refine zf rfl ?_
 rw [zhC hg ha hL hr (by omega) (by omega),zx]
 simp only [eR]
 refine zf (qM (show wrF .i64 (g.2*per)≠0 by rw [zG]<;>omega)) (zf (zF (by omega)) ?_)
 have zbs:=fun i k hk=>zFU h (i:=i) (k:=k) hk
 generalize hy:jn (most*per) L=y at *
 generalize hrate:jh g.2 per y=rate at *
 rw [JL hg,zM ha]
 simp only [zx,Bool.not_false,cond_true,hL,eM,eRP]
 refine zj (J:=fun x=>x.2.1.2.1=UR g L (most*per) per rate) ?_ ?_
 ·refine zj (J:=fun x=>x.2.1.1=UR g L (most*per) per rate)
   (zW L.length (fun i s=>s=((mxN (fun i j=>zh (fr g L (most*per) i) (tt g L (most*per) j)) (wV g L (most*per) per rate) (2*L.length) i (127*per*1048576),((i:Int),())),())) (by omega) ?_ ?_ ?_) ?_
  ·show ((wrF .i64 ((wrF .i64 (127*per))*1048576),(0,())),())=_
   rw [zG (z:=127*per) (by omega) (by omega),zG (by omega) (by omega)];rfl
  ·rintro i _ hi rfl
   have hx:L[i]?=some L[i]:=List.getElem?_eq_getElem hi
   have hbi:=zoa hg hr hL0 (show i < 2*L.length by omega)
   have hxi:=JM hr hL0 i
   have fti:=h.ft (q:=i) (by omega)
   obtain ⟨ei1,ei2⟩:bX g L i=L[i].1∧bY g L i=L[i].2:=by
    unfold bX bY;rw [Nat.mod_eq_of_lt hi,Nat.div_eq_of_lt hi,hx];simp
   generalize L[i]=pi at hx ei1 ei2
   refine zd (zT (show (i:Int) < (L.length:Int) by omega)) (zg (zy (n:=i) hx (zg (zy (n:=i) hx (zg (zy (n:=i) hx ?_))))))
   have efr:wrF .i64 (pi.2 - jQ (wrF .i64 (pi.2 - pi.1)) (most*per))=fr g L (most*per) i:=by
    rw [zG (z:=pi.2 - pi.1) (by omega) (by omega),VC,←ei1,←ei2]
    show wrF .i64 (fr g L (most*per) i)=_
    rw [zG (by omega) (by omega)]
   refine zj (J:=fun x=>x.2.1.1=mxN (fun i j=>zh (fr g L (most*per) i) (tt g L (most*per) j)) (wV g L (most*per) per rate) (2*L.length) (i+1) (127*per*1048576))
    (zW (2*L.length) (fun k s=>s=((mxK (fun j=>zh (fr g L (most*per) i) (tt g L (most*per) j)) (wV g L (most*per) per rate i) k (mxN (fun i j=>zh (fr g L (most*per) i) (tt g L (most*per) j)) (wV g L (most*per) per rate) (2*L.length) i (127*per*1048576)),((k:Int),())),())) (by omega) rfl ?_ ?_) ?_
   ·rintro k _ hk rfl
    have hm:k % L.length < L.length:=Nat.mod_lt _ hL0
    have hxk:L[k % L.length]?=some (L[k % L.length]):=List.getElem?_eq_getElem hm
    have hbk:=zoa hg hr hL0 hk
    have hxk2:=JM hr hL0 k
    have ftk:=h.ft (q:=k) hk
    obtain ⟨ek1,ek2⟩:bX g L k=(L[k % L.length]).1+((k / L.length:Nat):Int)*g.2∧bY g L k=(L[k % L.length]).2+((k / L.length:Nat):Int)*g.2:=by
     unfold bX bY;rw [hxk];exact ⟨rfl,rfl⟩
    generalize L[k % L.length]=pk at hxk ek1 ek2
    have hd1:k / L.length=0∨k / L.length=1:=by
     have:k / L.length < 2:=Nat.div_lt_of_lt_mul (by omega)
     exact Nat.le_one_iff_eq_zero_or_eq_one.1 (Nat.le_of_lt_succ this)
    have edC:0≤((k / L.length:Nat):Int)*g.2∧((k / L.length:Nat):Int)*g.2≤9600000:=by
     rcases hd1 with h1 | h1<;>rw [h1]<;>simp<;>omega
    have eI:Int.tmod (k:Int) (L.length:Int)=((k % L.length:Nat):Int):=by
     rw [Int.tmod_eq_emod_of_nonneg (by omega),←Int.natCast_emod]
    have eD:wrF .i64 (Int.tdiv (k:Int) (L.length:Int))=((k / L.length:Nat):Int):=by
     rw [Int.tdiv_eq_ediv_of_nonneg (by omega),←Int.natCast_ediv]
     exact zEg (Nat.le_trans (Nat.div_le_self _ _) (by omega))
    have ett:wrF .i64 ((wrF .i64 (pk.1+jQ (wrF .i64 (pk.2 - pk.1)) (most*per)))+(wrF .i64 ((wrF .i64 (Int.tdiv (k:Int) (L.length:Int)))*g.2)))=tt g L (most*per) k:=by
     rw [eD,zG (z:=((k / L.length:Nat):Int)*g.2) (by omega) (by omega),zG (z:=pk.2 - pk.1) (by omega) (by omega),VC]
     have e1:min (pk.2 - pk.1) (most*per)=mn g L (most*per) k:=by unfold mn;rw [ek1,ek2];congr 1;omega
     have e2:pk.1+mn g L (most*per) k+((k / L.length:Nat):Int)*g.2=tt g L (most*per) k:=by unfold tt;omega
     rw [e1,zG (z:=pk.1+mn g L (most*per) k) (by omega) (by omega),e2,zG (by omega) (by omega)]
    refine zd (zT (show (k:Int) < wrF .i64 (2*(L.length:Int)) by rw [zG]<;>omega)) (zf (qM (show (L.length:Int)≠0 by omega)) ?_)
    refine zg (qk (a:=pk) (by show atI L (Int.tmod (k:Int) (L.length:Int))=_;rw [eI];exact jJ hxk) (zf (qM (show (L.length:Int)≠0 by omega)) ?_))
    refine zj (J:=fun x=>x.2.1.1=mxK (fun j=>zh (fr g L (most*per) i) (tt g L (most*per) j)) (wV g L (most*per) per rate i) (k+1) (mxN (fun i j=>zh (fr g L (most*per) i) (tt g L (most*per) j)) (wV g L (most*per) per rate) (2*L.length) i (127*per*1048576))) ?_ ?_
    ·show qt (bif zh (wrF .i64 (pi.2 - jQ (wrF .i64 (pi.2 - pi.1)) (most*per))) (wrF .i64 ((wrF .i64 (pk.1+jQ (wrF .i64 (pk.2 - pk.1)) (most*per)))+(wrF .i64 ((wrF .i64 (Int.tdiv (k:Int) (L.length:Int)))*g.2)))) then _ else _) _
     rw [efr,ett]
     refine zk (fun hcd=>?_) (fun hcd=>?_)
     ·have hlt:=qn hcd
      have hij:i≤k:=by
       apply Classical.byContradiction
       intro hn
       have:=zew hr hL0 (show k < i by omega)
       have f1:fr g L (most*per) i=bY g L i - mn g L (most*per) i:=rfl
       have f2:tt g L (most*per) k=bX g L k+mn g L (most*per) k:=rfl
       omega
      have em:(tt g L (most*per) k - fr g L (most*per) i)*rate*per=(tt g L (most*per) k - fr g L (most*per) i)*(rate*per):=Int.mul_assoc _ _ _
      have hLe:=ztT hg ha hr hL0 p0 p1 m0 m1 hi hij hk (by omega) (by omega) hlt
      have hmul:=zaz (a:=tt g L (most*per) k - fr g L (most*per) i) (b:=rate) (A:=30000000) (B:=1048576) (by omega) (by omega) (by omega) r1
      have hmul2:=zaz (a:=tt g L (most*per) k - fr g L (most*per) i) (b:=rate*per) (A:=30000000) (B:=1048576) (by omega) (by omega) (by omega) r3
      have hs:=zks hr hL0 (lost:=most*per) (by omega) i (k - i - 1)
      have hs2:snt g L (most*per) i k≤60000000:=by
       unfold snt
       rcases Nat.eq_zero_or_pos (k - i) with hz | hz
       ·rw [show k - i - 1=0 by omega];show (0:Int)≤_;omega
       ·rw [show i+1+(k - i - 1)=k by omega] at hs
        have:=zoa hg hr hL0 (show i+1 < 2*L.length by omega)
        omega
      have hs3:0≤snt g L (most*per) i k:=hs.1
      rw [show wrF .i64 (tt g L (most*per) k - fr g L (most*per) i)=tt g L (most*per) k - fr g L (most*per) i from zG (by omega) (by omega),hLe,zx]
      refine za ?_
      show uS _ (wrF .i64 ((wrF .i64 ((wrF .i64 ((tt g L (most*per) k - fr g L (most*per) i)*rate))*per)) - (wrF .i64 ((snt g L (most*per) i k - 127*per)*1048576))))=mxK _ _ (k+1) _
      rw [zG (z:=(tt g L (most*per) k - fr g L (most*per) i)*rate) (by omega) (by omega),zG (z:=(snt g L (most*per) i k - 127*per)*1048576) (by omega) (by omega),em,zG (z:=(tt g L (most*per) k - fr g L (most*per) i)*(rate*per)) (by omega) (by omega),zG (z:=(tt g L (most*per) k - fr g L (most*per) i)*(rate*per) - _) (by omega) (by omega),We]
      have e1:mxK (fun j=>zh (fr g L (most*per) i) (tt g L (most*per) j)) (wV g L (most*per) per rate i) (k+1) (mxN (fun i j=>zh (fr g L (most*per) i) (tt g L (most*per) j)) (wV g L (most*per) per rate) (2*L.length) i (127*per*1048576))=max (mxK (fun j=>zh (fr g L (most*per) i) (tt g L (most*per) j)) (wV g L (most*per) per rate i) k (mxN (fun i j=>zh (fr g L (most*per) i) (tt g L (most*per) j)) (wV g L (most*per) per rate) (2*L.length) i (127*per*1048576))) (wV g L (most*per) per rate i k):=by
       show (bif zh (fr g L (most*per) i) (tt g L (most*per) k) then _ else _)=_
       rw [hcd];rfl
      rw [e1]
      unfold wV
      rw [em]
     ·refine za ?_
      show _=mxK _ _ (k+1) _
      have e1:mxK (fun j=>zh (fr g L (most*per) i) (tt g L (most*per) j)) (wV g L (most*per) per rate i) (k+1) (mxN (fun i j=>zh (fr g L (most*per) i) (tt g L (most*per) j)) (wV g L (most*per) per rate) (2*L.length) i (127*per*1048576))=mxK (fun j=>zh (fr g L (most*per) i) (tt g L (most*per) j)) (wV g L (most*per) per rate i) k (mxN (fun i j=>zh (fr g L (most*per) i) (tt g L (most*per) j)) (wV g L (most*per) per rate) (2*L.length) i (127*per*1048576)):=by
       show (bif zh (fr g L (most*per) i) (tt g L (most*per) k) then _ else _)=_
       rw [hcd];rfl
      rw [e1]
    ·rintro ⟨j,⟨a1,⟨⟩⟩,⟨⟩⟩ h1
     simp only at h1
     subst h1
     exact za (qj (congrArg (fun z=>((_,(z,())),())) (qp (by omega))))
   ·rintro _ rfl
    exact zf (zF (show ¬((2*L.length:Nat):Int) < wrF .i64 (2*(L.length:Int)) by rw [zG]<;>omega)) (za (zq rfl))
   ·rintro ⟨j,⟨a1,a2,⟨⟩⟩,⟨⟩⟩ h1
    simp only at h1
    subst h1
    exact za (qj (congrArg (fun z=>((_,(z,())),())) (qp (by omega))))
  ·rintro _ rfl
   exact zf (zF (show ¬((L.length:Nat):Int) < (L.length:Int) by omega)) (za (zq rfl))
  ·rintro ⟨j,⟨a1,a2,⟨⟩⟩,⟨⟩⟩ h1
   exact za h1
 ·rintro ⟨j,⟨a1,a2,⟨⟩⟩,⟨⟩⟩ h1
  simp only at h1
  subst h1
  refine zf (qM (show rate*per≠0 by omega)) (za ?_)
  show ((rate,wrF .i64 (Int.tdiv (wrF .i64 ((wrF .i64 (UR g L (most*per) per rate+rate*per)) - 1)) (rate*per))),(0,()))=_
  rw [zG (z:=UR g L (most*per) per rate+rate*per) (by omega) (by omega),zG (z:=UR g L (most*per) per rate+rate*per - 1) (by omega) (by omega),Int.tdiv_eq_ediv_of_nonneg (by omega)]
  show ((rate,wrF .i64 (cl (rate*per) (UR g L (most*per) per rate))),(0,()))=_
  rw [hle,zG (by omega) (by omega)]
end
def zoM (v:Int×Int):Prop:=1≤v.1∧v.1≤1048576∧0≤v.2∧v.2≤268435456
theorem zH5 {g:Gts} (hg:qH g) {per most:Int} (p0:1≤per) (p1:per≤1000) (m0:84≤most) (m1:most≤1542):∃v e,jH (g,per,most,())=some (v,e,())∧Yb (g,per,most,())=some (v,e,())∧((e=0∧zoM v)∨(e=4∧v=(0,0))):=by
 have hc:=hg.c1;have hp:=hg.pos;have hn:=hg.n1
 have hlost:84≤most*per∧most*per≤1542000:=by
  have:=zaz (show 0≤most by omega) m1 (show 0≤per by omega) p1
  have h1:84*1≤most*per:=Int.mul_le_mul m0 p0 (by omega) (by omega)
  omega
 have eM:wrF .i64 (most*per)=most*per:=zG (by omega) (by omega)
 by_cases ha:Xt g.1
 ·
  have hR:RtC g.2 per g.2:=⟨hp,hc,p0,p1,by omega,Int.le_refl _⟩
  obtain ⟨eR,r0,ry⟩:=hR.rate
  have hcp:=hR.cp
  have hr1:1≤jh g.2 per g.2:=by
   have:1*(g.2*per)≤g.2*1048576:=by
    have:=Int.mul_le_mul_of_nonneg_left (show per≤1048576 by omega) (show 0≤g.2 by omega)
    omega
   exact Int.le_ediv_of_mul_le (by omega) this
  obtain ⟨r1,r2,r3⟩:=hR.rp hr1
  obtain ⟨b1,b2,b3⟩:=zrH p0 p1 r2 r3
  have eRP:wrF .i64 (jh g.2 per g.2*per)=jh g.2 per g.2*per:=zG (by omega) (by omega)
  have hcl:=zG6 ha
  refine ⟨(jh g.2 per g.2,cl (jh g.2 per g.2*per) (127*per*1048576)),0,?_,?_,.inl ⟨rfl,hr1,r1,b2,by simp only;omega⟩⟩
  ·rw [zbp];unfold KG
   rw [UF g p0 p1 m0 m1,zA hg,zx,cond_true]
   refine xP ?_
   refine zf rfl ?_
   rw [eM,zje hg ha,zx]
   simp only [eR]
   refine zf (qM (show wrF .i64 (g.2*per)≠0 by rw [zG]<;>omega)) (zf (zF (by omega)) ?_)
   generalize jh g.2 per g.2=rate at *
   rw [show wrF .i64 ((wrF .i64 (-127*per))*1048576) = -127*per*1048576 from by rw [zG (z:=-127*per) (by omega) (by omega),zG (by omega) (by omega)],eRP,Vn (by omega) (by omega) (by omega) (by omega),zx]
   refine zj (J:=fun x=>x.2.1.2.1=(g.1.length:Int)∧x.2.2.1.1=[]) (zW g.1.length (fun i s=>s=((qO (g.1.take i),((i:Int),())),(([],()),((),((),()))))) (by omega) rfl ?_ ?_) ?_
   ·rintro i _ hi rfl
    have hy':g.1[i]?=some g.1[i]:=List.getElem?_eq_getElem (by omega)
    have hm:=List.getElem_mem (show i < g.1.length by omega)
    generalize g.1[i]=f at hy' hm
    have hf:=hg.el f hm
    have hb:=Jb (l:=g.1.take i) fun e he=>hg.el e (List.mem_of_mem_take he)
    have hbl:(g.1.take i).length≤128:=by simp;omega
    refine zd (zT (show (i:Int) < (g.1.length:Int) by omega)) (zg (zy (n:=i) hy' ?_))
    rw [xN hf]
    refine zd (ha f hm) (zg (zy (n:=i) hy' (za (qj ?_))))
    show (((wrF .i64 (qO (g.1.take i)+f.2)),((wrF .i64 ((i:Int)+1)),())),(([],()),((),((),()))))=_
    have:=hf.2.2.1;have:=hf.2.2.2
    rw [ga hy',qp (by omega),zG (by omega) (by omega)]
   ·rintro _ rfl
    exact zf (zF (show ¬(g.1.length:Int) < (g.1.length:Int) by omega)) (za (zq ⟨rfl,rfl⟩))
   rintro ⟨j,⟨w,z,⟨⟩⟩,⟨c,⟨⟩⟩,⟨⟩,⟨⟩,⟨⟩⟩ ⟨hv,hc'⟩
   simp only at hv hc'
   subst hv hc'
   refine zd (vH rfl) ?_
   refine zj (J:=fun x=>x.2.1.1=cl (rate*per) (127*per*1048576)∧x.2.1.2.1=rate) (zW 0 (fun _ s=>s=((uS 0 (wrF .i64 (0 - (-127*per*1048576) / (rate*per))),(rate,(per,(0,())))),((),()))) (by omega) rfl (fun i s hi=>by omega) ?_) ?_
   ·rintro _ rfl
    refine zf (zF (show ¬(0:Int) < (([]:List (Int×Int)).length:Int) by simp)) (za (zq ⟨?_,rfl⟩))
    show uS 0 (wrF .i64 (0 - (-127*per*1048576) / (rate*per)))=_
    rw [←b1,zG (by omega) (by omega),We];omega
   ·rintro ⟨j,⟨a1,a2,a3,a4,⟨⟩⟩,⟨⟩,⟨⟩⟩ ⟨h1,h2⟩
    simp only at h1 h2
    subst h1 h2
    exact za rfl
  ·rw [zed];unfold zbv
   rw [zcT g p0 p1 m0 m1,zA hg,zx,cond_true]
   refine xP ?_
   refine zf rfl ?_
   rw [zpn hg ha,zx]
   simp only [eR]
   refine zf (qM (show wrF .i64 (g.2*per)≠0 by rw [zG]<;>omega)) (zf (zF (by omega)) ?_)
   generalize jh g.2 per g.2=rate at *
   rw [JL hg,zA ha]
   simp only [zx,Bool.not_true,cond_false,eRP]
   refine zf (qM (show rate*per≠0 by omega)) (za ?_)
   rw [show wrF .i64 ((wrF .i64 (127*per))*1048576)=127*per*1048576 from by rw [zG (z:=127*per) (by omega) (by omega),zG (by omega) (by omega)]]
   rw [zG (z:=127*per*1048576+rate*per) (by omega) (by omega),zG (z:=127*per*1048576+rate*per - 1) (by omega) (by omega),Int.tdiv_eq_ediv_of_nonneg (by omega)]
   show ((rate,wrF .i64 (cl (rate*per) (127*per*1048576))),(0,()))=_
   rw [zG (by omega) (by omega)]
 ·obtain ⟨L,hL,hr⟩:=ztQ hg ha
  have hb:=VH (lost:=most*per) (by omega) (a:=at0 g) (b:=at0 g+g.2) (by omega) hr.cv.bd hr.cv.pw
  have hR:RtC g.2 per (jn (most*per) L):=⟨hp,hc,p0,p1,hb.1,by omega⟩
  obtain ⟨eR,r0,ry⟩:=hR.rate
  have hcp:=hR.cp
  by_cases hr1:1≤jh g.2 per (jn (most*per) L)
  ·have h0:0 < L.length:=by
    apply Classical.byContradiction
    intro hn
    have:L=[]:=List.length_eq_zero_iff.1 (by omega)
    rw [this] at hr1
    unfold jh jn at hr1
    simp at hr1
   have h:OfC g L per most:=⟨hg,ha,hr,h0,p0,p1,m0,m1,hr1⟩
   have hb:=zBu h
   have hrp:=h.rc.rp hr1
   exact ⟨_,_,zHa h,zHG h hL,.inl ⟨rfl,hr1,hrp.1,hb.1,hb.2⟩⟩
  ·refine ⟨(0,0),4,?_,?_,.inr ⟨rfl,rfl⟩⟩
   ·rw [zbp];unfold KG
    rw [UF g p0 p1 m0 m1,zA hg,zx,cond_true]
    refine xP (zf rfl ?_)
    rw [eM,zcc hg ha hr (by omega) (by omega),zx]
    simp only [eR]
    exact zf (qM (show wrF .i64 (g.2*per)≠0 by rw [zG]<;>omega)) (zd (zT (by omega)) (za rfl))
   ·rw [zed];unfold zbv
    rw [zcT g p0 p1 m0 m1,zA hg,zx,cond_true]
    refine xP (zf rfl ?_)
    rw [zhC hg ha hL hr (by omega) (by omega),zx]
    simp only [eR]
    exact zf (qM (show wrF .i64 (g.2*per)≠0 by rw [zG]<;>omega)) (zd (zT (by omega)) (za rfl))
end Go.Proofs.YtplhphmbkmpocaaGreat.ad
namespace Go.Proofs.YtplhphmbkmpocaaGreat.ad
open Go Go.Fz Go.Fz.Sy
theorem zbP (b:Int×Int):Ze (b,())=some (tv (wA b),()):=by
 rw [zrf];unfold zeg wA
 refine wv ?_
 repeat' first | refine zk (fun h=>?_) (fun h=>?_) | refine za ?_
 all_goals simp only [xO] at *
 all_goals grind
def ja (l:List (Int×Int)):Int×Int:=((l.map (·.1)).sum,(l.map (·.2)).sum)
theorem zws {l:List (Int×Int)} {i:Nat} {b:Int×Int} (h:l[i]?=some b):ja (l.take (i+1))=((ja (l.take i)).1+b.1,(ja (l.take i)).2+b.2):=by
 unfold ja;rw [List.take_add_one,h];simp
theorem zjf:∀{l:List (Int×Int)},(∀b∈l,wA b)→(l.length:Int)≤(ja l).1∧(ja l).1≤1048576*l.length∧(l.length:Int)≤(ja l).2∧(ja l).2≤2097152*l.length
 |[],_=>by simp [ja]
 |b::l,h=>by
  have ih:=zjf (l:=l) fun x hx=>h x (by simp [hx])
  obtain ⟨⟨h1,h2⟩,h3,h4⟩:=h b (by simp)
  unfold ja at *
  simp only [List.map_cons,List.sum_cons,List.length_cons]
  omega
noncomputable def Qc (l:List (Int×Int)):(Int×Int)×Int:=bif tv (wA (ja l)) then (ja l,0) else ((0,0),6)
theorem zvG {l:List (Int×Int)} (h0:l≠[]) (h12:l.length≤12) (hb:∀b∈l,wA b):wD (l,())=some ((Qc l).1,(Qc l).2,()):=by
 have hl:0 < l.length:=List.length_pos_iff.2 h0
 rw [zs5];unfold zf7
 refine xP (zf (qM (show (l.length:Int)≠0 by omega)) (zf (zF (show ¬12 < (l.length:Int) by omega)) ?_))
 refine zj (J:=fun x=>x.1=0∧x.2.1.2.1=ja l) (zW l.length (fun i s=>s=(((0,0),(ja (l.take i),(0,((i:Int),())))),())) (by omega) rfl ?_ ?_) ?_
 ·rintro i _ hi rfl
  have hx:l[i]?=some l[i]:=List.getElem?_eq_getElem hi
  have hm:=List.getElem_mem hi
  generalize l[i]=b at hx hm
  have hbb:=hb b hm
  have hbd:=zjf (l:=l.take i) fun x hx=>hb x (List.mem_of_mem_take hx)
  have hlt:(l.take i).length=i:=by simp;omega
  refine zd (zT (show (i:Int) < (l.length:Int) by omega)) (zg (zy (n:=i) hx ?_))
  rw [JJ,zA hbb,zx,cond_true]
  refine zf rfl (za (qj ?_))
  obtain ⟨⟨b1,b2⟩,b3,b4⟩:=hbb
  show (((0,0),(((wrF .i64 ((ja (l.take i)).1+b.1)),(wrF .i64 ((ja (l.take i)).2+b.2))),(0,((wrF .i64 ((i:Int)+1)),())))),())=_
  rw [zws hx,qp (by omega),zG (z:=(ja (l.take i)).1+b.1) (by omega) (by omega),zG (by omega) (by omega)]
 ·rintro _ rfl
  refine zf (zF (show ¬(l.length:Int) < (l.length:Int) by omega)) (za (zq ⟨rfl,?_⟩))
  show ja (l.take l.length)=_
  rw [List.take_length]
 ·rintro ⟨j,⟨a1,a2,a3,a4,⟨⟩⟩,⟨⟩⟩ ⟨h1,h2⟩
  simp only at h1 h2
  subst h1 h2
  refine zd rfl ?_
  rw [JJ,zx]
  unfold Qc
  by_cases h:wA (ja l)
  ·rw [zA h];exact zf rfl (za rfl)
  ·rw [zM h];exact zd rfl (za rfl)
theorem zxH {l:List (Int×Int)} (h0:l≠[]) (h12:l.length≤12) (hb:∀b∈l,wA b):UP (l,())=some ((Qc l).1,(Qc l).2,()):=by
 have hl:0 < l.length:=List.length_pos_iff.2 h0
 rw [zvf];unfold zh8
 refine xP (zf (qM (show (l.length:Int)≠0 by omega)) (zf (zF (show ¬12 < (l.length:Int) by omega)) ?_))
 refine zj (J:=fun x=>x.1=0∧x.2.1.2.1=ja l) (zW l.length (fun i s=>s=(((0,0),(ja (l.take i),(0,((i:Int),())))),())) (by omega) rfl ?_ ?_) ?_
 ·rintro i _ hi rfl
  have hx:l[i]?=some l[i]:=List.getElem?_eq_getElem hi
  have hm:=List.getElem_mem hi
  generalize l[i]=b at hx hm
  have hbb:=hb b hm
  have hbd:=zjf (l:=l.take i) fun x hx=>hb x (List.mem_of_mem_take hx)
  have hlt:(l.take i).length=i:=by simp;omega
  refine zd (zT (show (i:Int) < (l.length:Int) by omega)) (zg (zy (n:=i) hx ?_))
  rw [zbP,zA hbb,zx]
  refine zf rfl (zg (zy (n:=i) hx (zg (zy (n:=i) hx (za (qj ?_))))))
  obtain ⟨⟨b1,b2⟩,b3,b4⟩:=hbb
  show (((0,0),(((wrF .i64 ((ja (l.take i)).1+b.1)),(wrF .i64 ((ja (l.take i)).2+b.2))),(0,((wrF .i64 ((i:Int)+1)),())))),())=_
  rw [zws hx,qp (by omega),zG (z:=(ja (l.take i)).1+b.1) (by omega) (by omega),zG (by omega) (by omega)]
 ·rintro _ rfl
  refine zf (zF (show ¬(l.length:Int) < (l.length:Int) by omega)) (za (zq ⟨rfl,?_⟩))
  show ja (l.take l.length)=_
  rw [List.take_length]
 ·rintro ⟨j,⟨a1,a2,a3,a4,⟨⟩⟩,⟨⟩⟩ ⟨h1,h2⟩
  simp only at h1 h2
  subst h1 h2
  refine zd rfl ?_
  rw [zbP,zx]
  unfold Qc
  by_cases h:wA (ja l)
  ·rw [zA h];exact zf rfl (za rfl)
  ·rw [zM h];exact zd rfl (za rfl)
theorem wru {z:Int} (h1:0≤z) (h2:z < 18446744073709551616):wrF .u64 z=z:=by
 rw [UG]
 have e:IntKind.u64.wrap z=z % 18446744073709551616:=by
  unfold IntKind.wrap
  show (if (false&&decide (z % 18446744073709551616≥9223372036854775808))=true then z % 18446744073709551616 - 18446744073709551616 else z % 18446744073709551616)=_
  simp
 rw [e];omega
theorem ztU (x:Int):wH .u64 x 32=x / 4294967296:=by
 show x.fdiv (2 ^ (min (32:Int).toNat 64))=x / 4294967296
 rw [show (2:Int) ^ (min (32:Int).toNat 64)=4294967296 from rfl]
 exact Int.fdiv_eq_ediv_of_nonneg x (by omega)
theorem zCQ {x:Int} (h0:0≤x) (h1:x < 4294967296):gp .and .u64 x 4294967295=x:=by
 obtain ⟨n,rfl⟩:=Int.eq_ofNat_of_zero_le h0
 show IntKind.u64.wrap (((BitVec.ofInt 64 (n:Int)&&& BitVec.ofInt 64 4294967295).toNat:Nat):Int)=_
 have e:(BitVec.ofInt 64 (n:Int)&&& BitVec.ofInt 64 4294967295).toNat=n:=by
  rw [BitVec.toNat_and,BitVec.toNat_ofInt,BitVec.toNat_ofInt]
  have e1:((n:Int) % ((2 ^ 64:Nat):Int)).toNat=n:=by
   rw [show ((2 ^ 64:Nat):Int)=18446744073709551616 from rfl];omega
  have e2:((4294967295:Int) % ((2 ^ 64:Nat):Int)).toNat=2 ^ 32 - 1:=rfl
  rw [e1,e2,Nat.and_two_pow_sub_one_of_lt_two_pow (by omega)]
 rw [e,←UG]
 exact wru (by omega) (by omega)
theorem zhE {l:List Int} (hn:l.length≤1000) (h:∀x∈l,-1125899906842624≤x∧x≤1125899906842624):ky (l,())=some (true,()):=by
 rw [zq4];unfold zd6
 refine ym (zj (J:=fun x=>x.1=0) (qN l.length (fun _=>True) (by omega) ?_ ?_) ?_)
 ·intro i hi _
  have hx:l[i]?=some l[i]:=List.getElem?_eq_getElem hi
  obtain ⟨h1,h2⟩:=h _ (List.getElem_mem hi)
  generalize l[i]=x at hx h1 h2
  refine zd (zT (show (i:Int) < (l.length:Int) by omega)) (zg (zy (n:=i) hx ?_))
  refine zj (J:=fun r=>r.1=0∧r.2.1.1=false) (zf (zF (by omega)) (zf (zF (by omega)) (za ⟨rfl,rfl⟩))) ?_
  rintro ⟨j,⟨v,⟨⟩⟩,⟨⟩⟩ ⟨rfl,rfl⟩
  exact zd rfl (za (jC (by omega) trivial))
 ·intro _
  exact zf (zF (show ¬(l.length:Int) < (l.length:Int) by omega)) (za (zq rfl))
 ·rintro ⟨j,⟨v,w,⟨⟩⟩,⟨⟩⟩ h1
  simp only at h1
  subst h1
  exact zd rfl (za rfl)
theorem ztV {x:Int} (h1 : -1125899906842624≤x) (h2:x≤1125899906842624):Wt (x,())=some (x,true,()):=by
 rw [zq7];unfold zd7
 rw [zhE (by simp) (by simp;omega)];rfl
theorem zl0 {a b:Int} (a0:0≤a) (a1:a < 4294967296) (b0:0≤b) (b1:b < 4294967296):gN (a,b,())=some (0,a*b,()):=by
 have hm:=zaz a0 (show a≤4294967295 by omega) b0 (show b≤4294967295 by omega)
 rw [zkd];unfold UB
 rw [ztU a,ztU b,zCQ a0 a1,zCQ b0 b1,show a / 4294967296=0 by omega,show b / 4294967296=0 by omega,Int.zero_mul,Int.zero_mul,Int.mul_zero]
 rw [show wrF .u64 0=0 from rfl,wru (z:=a*b) (by omega) (by omega),ztU (a*b),Int.zero_add (a*b / 4294967296)]
 have h1:0≤a*b / 4294967296:=by omega
 have h2:a*b / 4294967296 < 4294967296:=by omega
 rw [wru (z:=a*b / 4294967296) h1 (by omega),ztU (a*b / 4294967296),show a*b / 4294967296 / 4294967296=0 by omega,zCQ h1 h2,Int.add_zero (a*b / 4294967296),wru (z:=a*b / 4294967296) h1 (by omega),ztU (a*b / 4294967296),show a*b / 4294967296 / 4294967296=0 by omega]
 rfl
theorem zl1 {a c:Int} (a0:0≤a) (a1:a < 18446744073709551616) (c0:0 < c):gO (0,a,c,())=some (a / c,a % c,()):=by
 rw [zkg];unfold UC
 have hq:0≤a / c:=Int.ediv_nonneg a0 (by omega)
 have hq2:a / c≤a:=Int.ediv_le_self _ a0
 rw [qM (show c≠0 by omega),zT (show 0 < c by omega),Int.tdiv_eq_ediv_of_nonneg a0,Int.tmod_eq_emod_of_nonneg a0,wru hq (by omega)]
 rfl
theorem zjg {a b c:Int} (a0:0≤a) (a1:a < 4294967296) (b0:0≤b) (b1:b < 4294967296) (c0:0 < c) (c1:c≤4294967296) (hm:a*b≤1125899906842000):uV (a,b,c,())=some (cl c (a*b),()):=by
 have hm0:0≤a*b:=Int.mul_nonneg a0 b0
 have hq:0≤a*b / c:=Int.ediv_nonneg hm0 (by omega)
 have hq2:a*b / c≤a*b:=Int.ediv_le_self _ hm0
 have hr:=Int.emod_nonneg (a*b) (show c≠0 by omega)
 have hr2:=Int.emod_lt_of_pos (a*b) c0
 have hde:=Int.emod_add_mul_ediv (a*b) c
 rw [zs9];unfold zgb
 rw [zG (z:=0 - a) (by omega) (by omega)]
 have hM:gD (0 - a,())=some (a,()):=by
  rw [zdv];unfold Kb
  rcases Int.lt_or_le (0 - a) 0 with h | h
  ·rw [zT h,cond_true,show 0 - (0 - a)=a by omega,zG (z:=a) (by omega) (by omega),wru (z:=a) (by omega) (by omega)]
  ·rw [zF (by omega),cond_false,show 0 - a=a by omega,wru (z:=a) (by omega) (by omega)]
 have hM2:gD (b,())=some (b,()):=by
  rw [zdv];unfold Kb
  rw [zF (by omega),cond_false,wru (z:=b) (by omega) (by omega)]
 have hcl:cl c (a*b)=if a*b % c=0 then a*b / c else a*b / c+1:=by
  unfold cl
  split
  ·rename_i h
   have e:a*b+c - 1=(c - 1)+(a*b / c)*c:=by rw [Int.mul_comm _ c];omega
   rw [e,Int.add_mul_ediv_right _ _ (by omega),Int.ediv_eq_zero_of_lt (by omega) (by omega)];omega
  ·rename_i h
   have e:a*b+c - 1=(a*b % c - 1)+(a*b / c+1)*c:=by rw [Int.add_mul,Int.mul_comm _ c];omega
   rw [e,Int.add_mul_ediv_right _ _ (by omega),Int.ediv_eq_zero_of_lt (by omega) (by omega)];omega
 have key:qt (Xe (0 - a,b,c,())) fun r=>r.1 = -cl c (a*b):=by
  rw [zs8];unfold zga
  rw [zhE (by simp) (by simp;omega)]
  refine zj (J:=fun x=>x.1=0) (zf (zF (show ¬c < 1 by omega)) (za rfl)) ?_
  rintro ⟨j,⟨v,w,⟨⟩⟩,⟨⟩⟩ h1
  simp only at h1
  subst h1
  refine zd rfl ?_
  rw [hM,zx,hM2,zx,zl0 a0 a1 b0 b1,zx,wru (z:=c) (by omega) (by omega)]
  refine zf (by rw [zT (show (0:Int) < c by omega)];rfl) ?_
  rw [zl1 hm0 (by omega) c0,zx]
  refine zf (zF (show ¬1125899906842624 < a*b / c by omega)) ?_
  refine zj (J:=fun x=>x.2.1.1 = -cl c (a*b)) ?_ ?_
  ·rw [zF (show ¬b < 0 by omega),hcl]
   rcases Int.lt_or_le (0 - a) 0 with h | h
   ·rw [zT h]
    refine zd rfl (zj (J:=fun x=>x.2.1.1 = -(if a*b % c=0 then a*b / c else a*b / c+1)) ?_ ?_)
    ·rw [zG (z:=a*b / c) (by omega) (by omega),zG (z:=0 - a*b / c) (by omega) (by omega),zG (z:=0 - a*b / c - 1) (by omega) (by omega)]
     refine zk (fun h2=>?_) (fun h2=>?_)
     ·have h2:(!zi (a*b % c) 0)=true:=h2
      have:=jU (show zi (a*b % c) 0=false by simpa using h2)
      refine za ?_
      rw [if_neg this]
      show 0 - a*b / c - 1=_
      omega
     ·have h2:(!zi (a*b % c) 0)=false:=h2
      have:=qU (show zi (a*b % c) 0=true by simpa using h2)
      refine za ?_
      rw [if_pos this]
      show 0 - a*b / c=_
      omega
    ·rintro ⟨j,⟨v,⟨⟩⟩,⟨⟩⟩ h1
     exact za h1
   ·have ha:a=0:=by omega
    rw [zF (by omega),ha]
    refine zf rfl (za ?_)
    rw [Int.zero_mul,Int.zero_ediv,Int.zero_emod,if_pos rfl]
    rfl
  ·rintro ⟨j,⟨v,⟨⟩⟩,⟨⟩⟩ h1
   simp only at h1
   subst h1
   have:0≤cl c (a*b):=by rw [hcl];split<;>omega
   have:cl c (a*b)≤a*b / c+1:=by rw [hcl];split<;>omega
   rw [ztV (x:=-cl c (a*b)) (by omega) (by omega)]
   exact za rfl
 obtain ⟨⟨r,w,⟨⟩⟩,e,h⟩:=key
 rw [e,zx]
 simp only at h
 subst h
 have:0≤cl c (a*b):=by rw [hcl];split<;>omega
 have:cl c (a*b)≤a*b / c+1:=by rw [hcl];split<;>omega
 show some (wrF .i64 (0 - -cl c (a*b)),())=_
 rw [zG (by omega) (by omega),show 0 - -cl c (a*b)=cl c (a*b) by omega]
theorem zjh {n d:Int} (n0:0≤n) (n1:n≤1000000000000000000) (d0:0 < d) (d1:d≤1000000000000):ZY (n,d,())=some (cl d n,()):=by
 have hq:0≤n / d:=Int.ediv_nonneg n0 (by omega)
 have hq2:n / d≤n:=Int.ediv_le_self _ n0
 have hr:=Int.emod_nonneg n (show d≠0 by omega)
 have hr2:=Int.emod_lt_of_pos n d0
 have hde:=Int.emod_add_mul_ediv n d
 have hcl:cl d n=if n % d=0 then n / d else n / d+1:=by
  unfold cl
  split
  ·rename_i h
   have e:n+d - 1=(d - 1)+(n / d)*d:=by rw [Int.mul_comm _ d];omega
   rw [e,Int.add_mul_ediv_right _ _ (by omega),Int.ediv_eq_zero_of_lt (by omega) (by omega)];omega
  ·rename_i h
   have e:n+d - 1=(n % d - 1)+(n / d+1)*d:=by rw [Int.add_mul,Int.mul_comm _ d];omega
   rw [e,Int.add_mul_ediv_right _ _ (by omega),Int.ediv_eq_zero_of_lt (by omega) (by omega)];omega
 rw [ztm];unfold zgp
 have e2:n / d*d=n - n % d:=by rw [Int.mul_comm];omega
 rw [qM (show d≠0 by omega),cond_false,Int.tdiv_eq_ediv_of_nonneg n0,zG (z:=n / d) (by omega) (by omega),e2,zG (z:=n - n % d) (by omega) (by omega),zG (z:=n / d+1) (by omega) (by omega),hcl]
 by_cases h:n % d=0
 ·rw [zF (by omega),if_pos h];rfl
 ·rw [zT (by omega),if_neg h];rfl
def VI (s:Int×Int):Prop:=1≤s.1∧s.1≤2097152∧0≤s.2∧s.2≤268435456
theorem zoM.ok {v:Int×Int} (h:zoM v):VI v:=⟨h.1,by have:=h.2.1;omega,h.2.2.1,h.2.2.2⟩
theorem zhF {s:Int×Int} (h:VI s):kr (s,())=some (0,()):=by
 obtain ⟨h1,h2,h3,h4⟩:=h
 rw [zq3];unfold zd5
 rw [zF (by omega),zF (by omega),zF (by omega),zF (by omega)];rfl
theorem ztW {s:Int×Int} (h:VI s):Vw (s,())=some (true,()):=by
 obtain ⟨h1,h2,h3,h4⟩:=h
 rw [zrg];unfold zeh
 rw [zF (by omega),zF (by omega),zF (by omega),zF (by omega)];rfl
theorem zGm {d w M:Int} (hd:0 < d) (h0:0≤w) (h1:w≤M):0≤cl d w∧cl d w≤M+1:=by
 unfold cl
 refine ⟨Int.ediv_nonneg (by omega) (by omega),?_⟩
 have:(w+d - 1) / d≤(w*d+d) / d:=by
  refine Int.ediv_le_ediv hd ?_
  have:=Int.mul_le_mul_of_nonneg_left (show 1≤d by omega) h0
  omega
 have e:(w*d+d) / d=w+1:=by
  rw [show w*d+d=(w+1)*d by rw [Int.add_mul,Int.one_mul]];exact Int.mul_ediv_cancel _ (by omega)
 omega
theorem zCR {b s:Int×Int} (hb:wA b) (hs:VI s):uV (b.1,1048576,s.1,())=some (cl s.1 (b.1*1048576),()):=by
 obtain ⟨⟨b1,b2⟩,b3,b4⟩:=hb
 obtain ⟨h1,h2,h3,h4⟩:=hs
 exact zjg (by omega) (by omega) (by omega) (by omega) (by omega) (by omega) (by omega)
theorem zrJ {b s:Int×Int} (hb:wA b) (hs:VI s):0≤cl s.1 (b.1*1048576)∧cl s.1 (b.1*1048576)≤1099511627777:=by
 obtain ⟨⟨b1,b2⟩,b3,b4⟩:=hb
 obtain ⟨h1,h2,h3,h4⟩:=hs
 exact zGm (M:=1099511627776) (by omega) (by omega) (by omega)
theorem ztX {b s:Int×Int} (hb:wA b) (hs:VI s):jM ([b],s,())=some (bif tv (b.2≤s.1) then (s.2+cl s.1 (b.1*1048576),0,()) else (0,141,())):=by
 have hd:=zrJ hb hs
 have hcl:ZE ([b],s.1,())=some (bif tv (b.2≤s.1) then (cl s.1 (b.1*1048576),true,()) else (0,false,())):=by
  rw [zlO];unfold GS
  refine xP ?_
  by_cases h:b.2≤s.1
  ·rw [zA h,cond_true]
   refine zj (J:=fun x=>x.2.1.1=cl s.1 (b.1*1048576)∧x.2.1.2.1=true) (zW 1 (fun i st=>(i=0∧st=((0,(false,(0,()))),((),((),()))))∨(i=1∧st=((cl s.1 (b.1*1048576),(true,(1,()))),((),((),()))))) (by omega) (.inl ⟨rfl,rfl⟩) ?_ ?_) ?_
   ·rintro i _ hi (⟨rfl,rfl⟩ | ⟨rfl,rfl⟩)
    ·refine zd rfl (zg (qk (a:=b) rfl (zf (zF (by omega)) ?_)))
     rw [zCR hb hs,zx]
     refine zj (J:=fun x=>x.2.1.1=cl s.1 (b.1*1048576)∧x.2.1.2.1=true) (zd rfl (za ⟨rfl,rfl⟩)) ?_
     rintro ⟨j,⟨a1,a2,⟨⟩⟩,⟨⟩,⟨⟩⟩ ⟨h1,h2⟩
     simp only at h1 h2
     subst h1 h2
     refine zj (J:=fun x=>x.1=0∧x.2.1.1=cl s.1 (b.1*1048576)∧x.2.1.2.1=true) (zW 1 (fun i st=>(i=0∧st=((cl s.1 (b.1*1048576),(true,(0,()))),((),((),()))))∨(i=1∧st=((cl s.1 (b.1*1048576),(true,(1,()))),((),((),()))))) (by omega) (.inl ⟨rfl,rfl⟩) ?_ ?_) ?_
     ·rintro i _ hi (⟨rfl,rfl⟩ | ⟨rfl,rfl⟩)
      ·refine zd rfl (zg (qk (a:=b) rfl (zd (by rw [zF (by omega)];rfl) ?_)))
       exact za (qj (.inr ⟨rfl,rfl⟩))
      ·omega
     ·rintro _ (⟨h1,rfl⟩ | ⟨_,rfl⟩)
      ·omega
      ·exact zf rfl (za (zq ⟨rfl,rfl,rfl⟩))
     ·rintro ⟨j,⟨a1,a2,a3,⟨⟩⟩,⟨⟩,⟨⟩,⟨⟩⟩ ⟨h1,h2,h3⟩
      simp only at h1 h2 h3
      subst h1 h2 h3
      exact zd rfl (za (qj (.inr ⟨rfl,rfl⟩)))
    ·omega
   ·rintro _ (⟨h1,rfl⟩ | ⟨_,rfl⟩)
    ·omega
    ·exact zf rfl (za (zq ⟨rfl,rfl⟩))
   ·rintro ⟨j,⟨a1,a2,a3,⟨⟩⟩,⟨⟩,⟨⟩,⟨⟩⟩ ⟨h1,h2⟩
    simp only at h1 h2
    subst h1 h2
    refine zk (fun _=>?_) (fun _=>?_)<;>exact za rfl
  ·rw [zM h,cond_false]
   refine zj (J:=fun x=>x.2.1.1=0∧x.2.1.2.1=false) (zW 1 (fun i st=>(i=0∧st=((0,(false,(0,()))),((),((),()))))∨(i=1∧st=((0,(false,(1,()))),((),((),()))))) (by omega) (.inl ⟨rfl,rfl⟩) ?_ ?_) ?_
   ·rintro i _ hi (⟨rfl,rfl⟩ | ⟨rfl,rfl⟩)
    ·exact zd rfl (zg (qk (a:=b) rfl (zd (zT (by omega)) (za (qj (.inr ⟨rfl,rfl⟩))))))
    ·omega
   ·rintro _ (⟨h1,rfl⟩ | ⟨_,rfl⟩)
    ·omega
    ·exact zf rfl (za (zq ⟨rfl,rfl⟩))
   ·rintro ⟨j,⟨a1,a2,a3,⟨⟩⟩,⟨⟩,⟨⟩,⟨⟩⟩ ⟨h1,h2⟩
    simp only at h1 h2
    subst h1 h2
    refine zk (fun _=>?_) (fun _=>?_)<;>exact za rfl
 rw [zq9];unfold zd8
 refine xP (zf rfl (zf rfl (zj (J:=fun x=>x.1=0∧x.2.1.1=0) (qN 1 (fun _=>True) (by omega) ?_ ?_) ?_)))
 ·intro i hi _
  have:i=0:=by omega
  subst this
  refine zd rfl (zg (qk (a:=b) rfl ?_))
  rw [JJ,zA hb,zx]
  exact zf rfl (za (jC (by omega) trivial))
 ·intro _
  exact zf rfl (za (zq ⟨rfl,rfl⟩))
 ·rintro ⟨j,⟨v,w,⟨⟩⟩,⟨⟩⟩ ⟨h1,h2⟩
  simp only at h1 h2
  subst h1 h2
  refine zd rfl ?_
  rw [zhF hs,zx]
  refine zf rfl ?_
  rw [hcl,zx]
  by_cases h:b.2≤s.1
  ·rw [zA h,cond_true,cond_true]
   refine zf rfl (za ?_)
   obtain ⟨h1,h2,h3,h4⟩:=hs
   show ((wrF .i64 (s.2+cl s.1 (b.1*1048576))),_)=_
   rw [zG (by omega) (by omega)]
  ·rw [zM h]
   exact zd rfl (za rfl)
theorem zhG {b s:Int×Int} (hb:wA b) (hs:VI s):Zf ([b],s,())=some (bif tv (b.2≤s.1) then (s.2+cl s.1 (b.1*1048576),0,()) else (0,141,())):=by
 have hd:=zrJ hb hs
 obtain ⟨s1,s2,s3,s4⟩:=id hs
 obtain ⟨⟨b1,b2⟩,b3,b4⟩:=id hb
 have hsl:KJ ([b],s.1,())=some (tv (b.2≤s.1),()):=by
  rw [ztl];unfold zgm
  refine wv (zj (J:=fun x=>(x.1=0∧¬b.2≤s.1)∨(x.1=1∧x.2.1.1=true∧b.2≤s.1)) (qN 1 (fun _=>¬b.2≤s.1) (by omega) ?_ ?_) ?_)
  ·intro i hi _
   have:i=0:=by omega
   subst this
   refine zd rfl (zg (qk (a:=b) rfl (zk (fun h=>?_) (fun h=>?_))))
   ·have:=qE (show zh s.1 b.2=false by simpa using h)
    exact za (zq (.inr ⟨rfl,rfl,this⟩))
   ·have:=qn (show zh s.1 b.2=true by simpa using h)
    exact za (jC (by omega) (by omega))
  ·intro hp
   exact zf rfl (za (zq (.inl ⟨rfl,hp 0 (by omega)⟩)))
  ·rintro ⟨j,⟨v,w,⟨⟩⟩,⟨⟩⟩ (⟨rfl,h⟩ | ⟨rfl,rfl,h⟩)
   ·exact zd rfl (za ⟨fun h=>(by cases h),fun h'=>absurd h' h⟩)
   ·exact zf rfl (za ⟨fun _=>h,fun _=>rfl⟩)
 have hcl:b.2≤s.1→JE ([b],s.1,())=some (cl s.1 (b.1*1048576),()):=by
  intro h
  rw [zlR];unfold GZ
  refine ym (zj (J:=fun x=>x.2.1.1=cl s.1 (b.1*1048576)) (zW 1 (fun i st=>(i=0∧st=((-1,(0,())),()))∨(i=1∧st=((cl s.1 (b.1*1048576),(1,())),()))) (by omega) (.inl ⟨rfl,rfl⟩) ?_ ?_) ?_)
  ·rintro i _ hi (⟨rfl,rfl⟩ | ⟨rfl,rfl⟩)
   ·refine zd rfl (zg (qk (a:=b) rfl (zf (zF (by omega)) ?_)))
    rw [show wrF .i64 (b.1*1048576)=b.1*1048576 from zG (by omega) (by omega),zjh (by omega) (by omega) (by omega) (by omega),zx]
    refine zj (J:=fun x=>x.2.1.1=cl s.1 (b.1*1048576)) (zd rfl (za rfl)) ?_
    rintro ⟨j,⟨a1,⟨⟩⟩,⟨⟩⟩ h1
    simp only at h1
    subst h1
    refine zj (J:=fun x=>x.2.1.1=cl s.1 (b.1*1048576)) (zW 1 (fun i st=>(i=0∧st=((cl s.1 (b.1*1048576),(0,())),()))∨(i=1∧st=((cl s.1 (b.1*1048576),(1,())),()))) (by omega) (.inl ⟨rfl,rfl⟩) ?_ ?_) ?_
    ·rintro i _ hi (⟨rfl,rfl⟩ | ⟨rfl,rfl⟩)
     ·refine zd rfl (zg (qk (a:=b) rfl (zj (J:=fun x=>x.2.1.1=cl s.1 (b.1*1048576)) (zf (zF (by omega)) (za rfl)) ?_)))
      rintro ⟨j,⟨a1,⟨⟩⟩,⟨⟩⟩ h1
      simp only at h1
      subst h1
      exact za (qj (.inr ⟨rfl,rfl⟩))
     ·omega
    ·rintro _ (⟨h1,rfl⟩ | ⟨_,rfl⟩)
     ·omega
     ·exact zf rfl (za (zq rfl))
    ·rintro ⟨j,⟨a1,a2,⟨⟩⟩,⟨⟩⟩ h1
     simp only at h1
     subst h1
     exact za (qj (.inr ⟨rfl,rfl⟩))
   ·omega
  ·rintro _ (⟨h1,rfl⟩ | ⟨_,rfl⟩)
   ·omega
   ·exact zf rfl (za (zq rfl))
  ·rintro ⟨j,⟨a1,a2,⟨⟩⟩,⟨⟩⟩ h1
   exact za h1
 rw [zri];unfold zek
 refine xP (zf rfl (zf rfl (zj (J:=fun x=>x.1=0) (zW 1 (fun i st=>st=((0,(0,((i:Int),()))),())) (by omega) rfl ?_ ?_) ?_)))
 ·rintro i _ hi rfl
  have:i=0:=by omega
  subst this
  refine zd rfl (zg (qk (a:=b) rfl ?_))
  rw [zbP,zA hb,zx]
  exact zf rfl (za (qj rfl))
 ·rintro _ rfl
  exact zf rfl (za (zq rfl))
 ·rintro ⟨j,⟨v,w,z,⟨⟩⟩,⟨⟩⟩ h1
  simp only at h1
  subst h1
  refine zd rfl ?_
  rw [ztW hs,zx]
  refine zf rfl ?_
  rw [hsl,zx]
  by_cases h:b.2≤s.1
  ·rw [zA h,cond_true]
   refine zf rfl ?_
   rw [hcl h,zx]
   refine za ?_
   show ((wrF .i64 (s.2+cl s.1 (b.1*1048576))),_)=_
   rw [zG (by omega) (by omega)]
  ·rw [zM h,cond_false]
   exact zd rfl (za rfl)
theorem zBv {b s:Int×Int} (hb:wA b) (hs:VI s):0≤b.2*s.2∧b.2*s.2≤562949953421312∧0≤cl 1048576 (b.2*s.2)∧cl 1048576 (b.2*s.2)≤562949953421313:=by
 obtain ⟨s1,s2,s3,s4⟩:=hs
 obtain ⟨⟨b1,b2⟩,b3,b4⟩:=hb
 have:=zaz (show 0≤b.2 by omega) b4 s3 s4
 have:=zGm (d:=1048576) (w:=b.2*s.2) (M:=562949953421312) (by omega) (by omega) (by omega)
 omega
theorem zpo {b s:Int×Int} (hb:wA b) (hs:VI s) (h:b.2≤s.1):jg (b,s,())=some (b.1+cl 1048576 (b.2*s.2),0,()):=by
 have hbb:=zBv hb hs
 obtain ⟨s1,s2,s3,s4⟩:=id hs
 obtain ⟨⟨b1,b2⟩,b3,b4⟩:=id hb
 rw [znv];unfold zbt
 have e:gP (b,s,())=some (0,()):=by
  rw [zki];unfold UD
  rw [JJ,zA hb,zx,cond_true,zhF hs,zx,zF (by omega)];rfl
 rw [e,zx]
 refine xP (zf rfl ?_)
 rw [zjg (by omega) (by omega) s3 (by omega) (by omega) (by omega) (by omega)]
 refine za ?_
 show ((wrF .i64 (b.1+cl 1048576 (b.2*s.2))),_)=_
 rw [zG (by omega) (by omega)]
theorem zpp {b s:Int×Int} (hb:wA b) (hs:VI s) (h:b.2≤s.1):Yc (b,s,())=some (b.1+cl 1048576 (b.2*s.2),0,()):=by
 have hbb:=zBv hb hs
 obtain ⟨⟨b1,b2⟩,b3,b4⟩:=id hb
 rw [znE];unfold zbx
 rw [zhG hb hs,zA h,zx,cond_true]
 refine xP (zf rfl ?_)
 rw [show wrF .i64 (b.2*s.2)=b.2*s.2 from zG (by omega) (by omega),zjh (by omega) (by omega) (by omega) (by omega)]
 refine za ?_
 show ((wrF .i64 (b.1+cl 1048576 (b.2*s.2))),_)=_
 rw [zG (by omega) (by omega)]
abbrev Bnd:=(Int×Int)×(Int×Int)×Int×Int
def zB:Bnd:=((0,0),((0,0),(0,0)))
def gQ (s:qw) (p:Int):Prop:=∃r∈s.2.2.2.2.2.2.2.2,p∈r
noncomputable def load (l:List qw) (p:Int):List (Int×Int):=(l.filter fun s=>tv (gQ s p)).map fun s=>s.2.2.2.2.2.2.1
structure okP (n:Fab) (l:List qw):Prop where
 f:zig n
 a:zn3 n.1 l
 n12:l.length≤12
 d:zif l
 c:∀s∈l,s.2.2.2.1=6∧s.2.2.2.2.1≤n.2.2.2
noncomputable def ofS (g:Gts) (per most:Int):(Int×Int)×Int:=match Yb (g,per,most,()) with
 |some (v,e,())=>(v,e)
 |none=>((0,0),0)
theorem zxZ {g:Gts} (hg:qH g) {per most:Int} (p0:1≤per) (p1:per≤1000) (m0:84≤most) (m1:most≤1542):jH (g,per,most,())=some ((ofS g per most).1,(ofS g per most).2,())∧Yb (g,per,most,())=some ((ofS g per most).1,(ofS g per most).2,())∧(((ofS g per most).2=0∧zoM (ofS g per most).1)∨((ofS g per most).2=4∧(ofS g per most).1=(0,0))):=by
 obtain ⟨v,e,h1,h2,h3⟩:=zH5 hg p0 p1 m0 m1
 have e1:ofS g per most=(v,e):=by unfold ofS;rw [h2]
 rw [e1]
 exact ⟨h1,h2,h3⟩
noncomputable def zCS (b v:Int×Int):Bnd:=(b,(v,(v.2+cl v.1 (b.1*1048576),b.1+cl 1048576 (b.2*v.2))))
noncomputable def qG (n:Fab) (l:List qw) (p:Int):Bnd×Int:=
 bif tv (load l p=[]) then (zB,4)
 else bif tv ((ofS ((n.2.2.1[p.toNat]?).getD ([],0)) (lnk n.1 p).2.2.1 n.2.2.2).2=0) then
  bif tv ((Qc (load l p)).2=0) then
   bif tv ((Qc (load l p)).1.2≤(ofS ((n.2.2.1[p.toNat]?).getD ([],0)) (lnk n.1 p).2.2.1 n.2.2.2).1.1) then (zCS (Qc (load l p)).1 (ofS ((n.2.2.1[p.toNat]?).getD ([],0)) (lnk n.1 p).2.2.1 n.2.2.2).1,0)
   else (zB,141)
  else (zB,6)
 else (zB,411)
theorem zgT {t:qm} {s:qw} (hs:vF t s) (p:Int):xB (s,p,())=some (tv (gQ s p),()):=by
 have rn:=hs.rn
 rw [zo9];unfold zcK
 refine wv (zj (J:=fun x=>(x.1=0∧¬gQ s p)∨(x.1=1∧x.2.1.1=true∧gQ s p)) (qN s.2.2.2.2.2.2.2.2.length (fun i=>∀r,s.2.2.2.2.2.2.2.2[i]?=some r→¬p∈r) (by omega) ?_ ?_) ?_)
 ·intro i hi hp
  have hx:s.2.2.2.2.2.2.2.2[i]?=some s.2.2.2.2.2.2.2.2[i]:=List.getElem?_eq_getElem hi
  have hm:=List.getElem_mem hi
  generalize s.2.2.2.2.2.2.2.2[i]=r at hx hm
  have hr8:=(hs.rt r hm).1.n1
  refine zd (zT (show (i:Int) < (s.2.2.2.2.2.2.2.2.length:Int) by omega)) ?_
  refine zj (J:=fun x=>(x.1=0∧x.2.1.1=false∧¬p∈r)∨(x.1=1∧x.2.1.1=true∧p∈r)) (qN r.length (fun k=>r[k]?≠some p) (by omega) ?_ ?_) ?_
  ·intro k hk hpk
   have hy:r[k]?=some r[k]:=List.getElem?_eq_getElem hk
   refine zg (zy (n:=i) hx (zd (zT (show (k:Int) < (r.length:Int) by omega)) (zg (zy (n:=i) hx (zg (zy (n:=k) hy ?_))))))
   refine zk (fun h=>?_) (fun h=>?_)
   ·have:r[k]=p:=qU h
    exact za (zq (.inr ⟨rfl,rfl,by rw [←this];exact List.getElem_mem hk⟩))
   ·have:r[k]≠p:=jU h
    exact za (jC (by omega) (by rw [hy];intro e;cases e;exact this rfl))
  ·intro hpk
   refine zg (zy (n:=i) hx (zf (zF (show ¬(r.length:Int) < (r.length:Int) by omega)) (za (zq (.inl ⟨rfl,rfl,fun hm=>?_⟩)))))
   obtain ⟨k,hk,hk2⟩:=jV hm
   exact hpk k hk hk2
  ·rintro ⟨j,⟨v,w,⟨⟩⟩,⟨⟩⟩ (⟨rfl,rfl,hq⟩ | ⟨rfl,rfl,hq⟩)
   ·exact zd rfl (za (jC (by omega) fun r' hr'=>by rw [hx] at hr';cases hr';exact hq))
   ·exact zf rfl (za (zq (.inr ⟨rfl,rfl,r,hm,hq⟩)))
 ·intro hp
  refine zf (zF (show ¬(s.2.2.2.2.2.2.2.2.length:Int) < (s.2.2.2.2.2.2.2.2.length:Int) by omega)) (za (zq (.inl ⟨rfl,fun ⟨r,h1,h2⟩=>?_⟩)))
  obtain ⟨k,hk,hk2⟩:=jV h1
  exact hp k hk r hk2 h2
 ·rintro ⟨j,⟨v,w,⟨⟩⟩,⟨⟩⟩ (⟨rfl,hq⟩ | ⟨rfl,rfl,hq⟩)
  ·exact zd rfl (za ⟨fun h=>(by cases h),fun h=>absurd h hq⟩)
  ·exact zf rfl (za ⟨fun _=>hq,fun _=>rfl⟩)
theorem zod {l:List qw} {i:Nat} {s:qw} (h:l[i]?=some s) (p:Int):load (l.take (i+1)) p=bif tv (gQ s p) then load (l.take i) p++[s.2.2.2.2.2.2.1] else load (l.take i) p:=by
 unfold load
 rw [List.take_add_one,h,Option.toList,List.filter_append,List.map_append]
 cases e:tv (gQ s p) with
 |true=>simp [e]
 |false=>simp [e]
theorem zji {n:Fab} {l:List qw} (h:okP n l) (p:Int):(load l p).length≤12∧∀b∈load l p,wA b:=by
 unfold load
 refine ⟨?_,fun b hb=>?_⟩
 ·rw [List.length_map]
  have:=List.length_filter_le (fun s=>tv (gQ s p)) l
  have:=h.n12
  omega
 ·obtain ⟨s,hs,rfl⟩:=List.mem_map.1 hb
  have hs:=(List.mem_filter.1 hs).1
  have h1:=h.a s hs
  have h2:=(h.c s hs).1
  rcases h1.cl with ⟨h3,_⟩ | ⟨_,_,h4,h5⟩
  ·omega
  ·have:=h1.sz
   exact ⟨⟨by omega,h4.2⟩,h5⟩
theorem zhH {n:Fab} (h:zig n) {p:Int} (hp:wu n.1 p):∃g,n.2.2.1[p.toNat]?=some g∧(n.2.2.1[p.toNat]?).getD ([],0)=g∧qH g∧1≤(lnk n.1 p).2.2.1∧(lnk n.1 p).2.2.1≤1000:=by
 have:=hp.1;have:=hp.2
 have hf:=h.f.1
 have hx:n.2.2.1[p.toNat]?=some (n.2.2.1[p.toNat]'(by omega)):=List.getElem?_eq_getElem (by omega)
 have hl:=(h.t.ls _ _ (Xp hp)).1
 exact ⟨_,hx,by rw [hx];rfl,h.g _ (List.getElem_mem _),hl.2.2.2.2.1,hl.2.2.2.2.2.1⟩
theorem zlw {n:Fab} {l:List qw} (h:okP n l) {p:Int} (hp:wu n.1 p):QU (n,l,p,())=some ((qG n l p).1,(qG n l p).2,()):=by
 have h12:=h.n12
 obtain ⟨lb1,lb2⟩:=zji h p
 obtain ⟨g,hx,hge,hg,p0,p1⟩:=zhH h.f hp
 obtain ⟨o1,o2,o3⟩:=zxZ hg p0 p1 h.f.f.2.1 h.f.f.2.2
 rw [zvi];unfold zib qG
 rw [hge]
 refine xP (zj (J:=fun x=>x.2.2.1=load l p) (zW l.length (fun i s=>s=(((i:Int),()),(load (l.take i) p,()))) (by omega) rfl ?_ ?_) ?_)
 ·rintro i _ hi rfl
  have hy:l[i]?=some l[i]:=List.getElem?_eq_getElem hi
  have hm:=List.getElem_mem hi
  generalize l[i]=s at hy hm
  have hll:(load (l.take i) p).length≤12:=by
   unfold load;rw [List.length_map]
   have:=List.length_filter_le (fun s=>tv (gQ s p)) (l.take i)
   simp only [List.length_take] at this;omega
  refine zd (zT (show (i:Int) < (l.length:Int) by omega)) ?_
  refine zj (J:=fun x=>x.2.2.1=load (l.take (i+1)) p) ?_ ?_
  ·refine zg (zy (n:=i) hy ?_)
   rw [zgT (h.a s hm),zx,zod hy]
   cases hpa:tv (gQ s p) with
   |true=>
    refine zd rfl (zg (zy (n:=i) hy (zd (xh (by show ((load (l.take i) p).length+1)*16≤_;omega) (by show (load (l.take i) p).length+1≤_;omega)) (za rfl))))
   |false=>exact zf rfl (za rfl)
  ·rintro ⟨j,⟨⟩,c,⟨⟩⟩ hc
   simp only at hc
   subst hc
   exact za (qj (congrArg (fun z=>((z,()),(_,()))) (qp (by omega))))
 ·rintro _ rfl
  refine zf (zF (show ¬(l.length:Int) < (l.length:Int) by omega)) (za (zq ?_))
  show load (l.take l.length) p=_
  rw [List.take_length]
 ·rintro ⟨j,⟨z,⟨⟩⟩,c,⟨⟩⟩ hc
  simp only at hc
  subst hc
  by_cases hne:load l p=[]
  ·rw [zA hne,cond_true,hne]
   exact zd rfl (za rfl)
  have hlen:(load l p).length≠0:=fun e=>hne (List.length_eq_zero_iff.1 e)
  rw [zM hne,cond_false]
  refine zf (qM (show ((load l p).length:Int)≠0 by omega)) (zg (qk (a:=g) (by show atI n.2.2.1 p=_;rw [show p=((p.toNat:Nat):Int) from (by have:=hp.1;omega),jJ (n:=p.toNat)];exact hx) ?_))
  rw [zxG h.f.t.ll hp,zx,o2,zx]
  rcases o3 with ⟨o4,o5⟩ | ⟨o4,o5⟩
  ·rw [o4,zA rfl,cond_true]
   refine zf rfl ?_
   rw [zxH hne lb1 lb2,zx]
   have hs2:(Qc (load l p)).2=0∧wA (Qc (load l p)).1∨(Qc (load l p)).2=6:=by
    unfold Qc
    by_cases hb:wA (ja (load l p))
    ·rw [zA hb];exact .inl ⟨rfl,hb⟩
    ·rw [zM hb];exact .inr rfl
   rcases hs2 with ⟨hs2,hb⟩ | hs2
   ·rw [hs2,zA rfl,cond_true]
    refine zf rfl ?_
    rw [zhG hb o5.ok,zx]
    by_cases hle:(Qc (load l p)).1.2≤(ofS g (lnk n.1 p).2.2.1 n.2.2.2).1.1
    ·rw [zA hle,cond_true,cond_true]
     refine zf rfl ?_
     rw [zpp hb o5.ok hle,zx]
     exact za rfl
    ·rw [zM hle,cond_false,cond_false]
     exact zd rfl (za rfl)
   ·rw [hs2,zM (by simp)]
    exact zd rfl (za rfl)
  ·rw [o4,zM (by simp)]
   exact zd rfl (za rfl)
abbrev Gz:=List (Int×Bnd×Int)
def gR (n:Fab) (l:List qw) (m:Gz):Prop:=∀q z,mpH m q=true→mpD m q z=qG n l q
theorem zoe (n:Fab) (l:List qw):gR n l []:=fun q z h=>by cases h
theorem zwt {n:Fab} {l:List qw} {m:Gz} (h:gR n l m) (p:Int) {r:Bnd×Int} (hr:r=qG n l p):gR n l (mpP m p r):=fun q z hq=>by
 rw [zBp]
 split
 ·rename_i e;rw [←e,hr]
 ·rename_i e
  rw [zG2] at hq
  refine h q z ?_
  simpa [e] using hq
noncomputable def zHH (n:Fab) (l:List qw) (m:Gz) (p:Int):Option (Nat×(((Bnd×Int)×Unit)×(Gz×Unit))):=
 (bif (!(mpH (α:=(((Int×Int)×((Int×Int)×(Int×Int)))×Int)) (m) (p))) then opt (zz (fun s7:((Int×Unit)×(((List (Int×Int))×Unit)×(Unit×(Unit×Unit))))=>
         bif (zh (s7.1.1) ((((l).length:Nat):Int))) then opt (atI (l) (s7.1.1)) fun x8=>
          opt (zz (fun s9:((Int×(Int×Unit))×(((List (Int×Int))×Unit)×(Unit×(Unit×Unit))))=>
           bif (zh (s9.1.2.1) ((((x8.2.2.2.2.2.2.2.2).length:Nat):Int))) then opt (atI (x8.2.2.2.2.2.2.2.2) (s9.1.2.1)) fun x10=>
            opt (qd ((x10,(p,())))) fun x11=>
            bif x11.1 then some (.inl (1,((s9.1.2.1,(s9.1.2.1,())),((s9.2.1.1,()),((),((),()))))))
            else some (.inr ((s9.1.1,((wrF .i64 ((s9.1.2.1+1))),())),((s9.2.1.1,()),((),((),())))))
           else some (.inl (0,((s9.1.1,(s9.1.2.1,())),((s9.2.1.1,()),((),((),()))))))) zL ((0,(0,())),((s7.2.1.1,()),((),((),()))))) fun x12=>
          bif (Nat.beq x12.1 0) then some (.inr (((wrF .i64 ((s7.1.1+1))),()),((x12.2.2.1.1,()),((),((),())))))
          else bif (!(zh (x12.2.1.1) (0))) then bif (jb ((x12.2.2.1.1).length) (((x8.2.2.2.2.2.2.1::[])).length) (16)) then some (.inr (((wrF .i64 ((s7.1.1+1))),()),(((x12.2.2.1.1++(x8.2.2.2.2.2.2.1::[])),()),((),((),())))))
            else none
           else some (.inr (((wrF .i64 ((s7.1.1+1))),()),((x12.2.2.1.1,()),((),((),())))))
         else some (.inl (0,((s7.1.1,()),((s7.2.1.1,()),((),((),()))))))) zL ((0,()),(([],()),((),((),()))))) fun x13=>
        bif (Nat.beq x13.1 0) then bif (zi ((((x13.2.2.1.1).length:Nat):Int)) (0)) then some (0,(((((0,0),((0,0),(0,0))),4),()),((mpP (α:=(((Int×Int)×((Int×Int)×(Int×Int)))×Int)) (m) (p) ((((0,0),((0,0),(0,0))),4))),())))
         else opt (xa ((n.1,(p,())))) fun x14=>
          bif (!(zi (x14.2.1) (0))) then some (0,(((((0,0),((0,0),(0,0))),x14.2.1),()),((mpP (α:=(((Int×Int)×((Int×Int)×(Int×Int)))×Int)) (m) (p) ((((0,0),((0,0),(0,0))),x14.2.1))),())))
          else opt (atI (n.2.2.1) (p)) fun x15=>
           opt (jH ((x15,(x14.1,(n.2.2.2,()))))) fun x16=>
           bif (!(zi (x16.2.1) (0))) then some (0,(((((0,0),((0,0),(0,0))),411),()),((mpP (α:=(((Int×Int)×((Int×Int)×(Int×Int)))×Int)) (m) (p) ((((0,0),((0,0),(0,0))),411))),())))
           else opt (wD ((x13.2.2.1.1,()))) fun x17=>
            bif (!(zi (x17.2.1) (0))) then some (0,(((((0,0),((0,0),(0,0))),x17.2.1),()),((mpP (α:=(((Int×Int)×((Int×Int)×(Int×Int)))×Int)) (m) (p) ((((0,0),((0,0),(0,0))),x17.2.1))),())))
            else opt (jM (((x17.1::[]),(x16.1,())))) fun x18=>
             bif (!(zi (x18.2.1) (0))) then some (0,(((((0,0),((0,0),(0,0))),x18.2.1),()),((mpP (α:=(((Int×Int)×((Int×Int)×(Int×Int)))×Int)) (m) (p) ((((0,0),((0,0),(0,0))),x18.2.1))),())))
             else opt (jg ((x17.1,(x16.1,())))) fun x19=>
              bif (!(zi (x19.2.1) (0))) then some (0,(((((0,0),((0,0),(0,0))),x19.2.1),()),((mpP (α:=(((Int×Int)×((Int×Int)×(Int×Int)))×Int)) (m) (p) ((((0,0),((0,0),(0,0))),x19.2.1))),())))
              else some (0,((((x17.1,(x16.1,(x18.1,x19.1))),0),()),((mpP (α:=(((Int×Int)×((Int×Int)×(Int×Int)))×Int)) (m) (p) (((x17.1,(x16.1,(x18.1,x19.1))),0))),())))
        else bif (zi ((((x13.2.2.1.1).length:Nat):Int)) (0)) then some (0,(((((0,0),((0,0),(0,0))),4),()),((mpP (α:=(((Int×Int)×((Int×Int)×(Int×Int)))×Int)) (m) (p) ((((0,0),((0,0),(0,0))),4))),())))
         else opt (xa ((n.1,(p,())))) fun x20=>
          bif (!(zi (x20.2.1) (0))) then some (0,(((((0,0),((0,0),(0,0))),x20.2.1),()),((mpP (α:=(((Int×Int)×((Int×Int)×(Int×Int)))×Int)) (m) (p) ((((0,0),((0,0),(0,0))),x20.2.1))),())))
          else opt (atI (n.2.2.1) (p)) fun x21=>
           opt (jH ((x21,(x20.1,(n.2.2.2,()))))) fun x22=>
           bif (!(zi (x22.2.1) (0))) then some (0,(((((0,0),((0,0),(0,0))),411),()),((mpP (α:=(((Int×Int)×((Int×Int)×(Int×Int)))×Int)) (m) (p) ((((0,0),((0,0),(0,0))),411))),())))
           else opt (wD ((x13.2.2.1.1,()))) fun x23=>
            bif (!(zi (x23.2.1) (0))) then some (0,(((((0,0),((0,0),(0,0))),x23.2.1),()),((mpP (α:=(((Int×Int)×((Int×Int)×(Int×Int)))×Int)) (m) (p) ((((0,0),((0,0),(0,0))),x23.2.1))),())))
            else opt (jM (((x23.1::[]),(x22.1,())))) fun x24=>
             bif (!(zi (x24.2.1) (0))) then some (0,(((((0,0),((0,0),(0,0))),x24.2.1),()),((mpP (α:=(((Int×Int)×((Int×Int)×(Int×Int)))×Int)) (m) (p) ((((0,0),((0,0),(0,0))),x24.2.1))),())))
             else opt (jg ((x23.1,(x22.1,())))) fun x25=>
              bif (!(zi (x25.2.1) (0))) then some (0,(((((0,0),((0,0),(0,0))),x25.2.1),()),((mpP (α:=(((Int×Int)×((Int×Int)×(Int×Int)))×Int)) (m) (p) ((((0,0),((0,0),(0,0))),x25.2.1))),())))
              else some (0,((((x23.1,(x22.1,(x24.1,x25.1))),0),()),((mpP (α:=(((Int×Int)×((Int×Int)×(Int×Int)))×Int)) (m) (p) (((x23.1,(x22.1,(x24.1,x25.1))),0))),())))
       else some (0,(((mpD (α:=(((Int×Int)×((Int×Int)×(Int×Int)))×Int)) (m) (p) ((((0,0),((0,0),(0,0))),0))),()),(m,()))))
theorem zBw {n:Fab} {l:List qw} (h:okP n l) {p:Int} (hp:wu n.1 p) {m:Gz} {c:List (Int×Int)} (hc:c=load l p) {X:Option (Nat×(((Bnd×Int)×Unit)×(Gz×Unit)))}
  (hX:X=bif (zi ((((c).length:Nat):Int)) (0)) then some (0,(((zB,4),()),((mpP m p (zB,4)),())))
   else opt (xa (n.1,(p,()))) fun x14=>bif (!(zi (x14.2.1) (0))) then some (0,(((zB,x14.2.1),()),((mpP m p (zB,x14.2.1)),())))
    else opt (atI (n.2.2.1) p) fun x15=>opt (jH (x15,(x14.1,(n.2.2.2,())))) fun x16=>bif (!(zi (x16.2.1) (0))) then some (0,(((zB,411),()),((mpP m p (zB,411)),())))
     else opt (wD (c,())) fun x17=>bif (!(zi (x17.2.1) (0))) then some (0,(((zB,x17.2.1),()),((mpP m p (zB,x17.2.1)),())))
      else opt (jM ((x17.1::[]),(x16.1,()))) fun x18=>bif (!(zi (x18.2.1) (0))) then some (0,(((zB,x18.2.1),()),((mpP m p (zB,x18.2.1)),())))
       else opt (jg (x17.1,(x16.1,()))) fun x19=>bif (!(zi (x19.2.1) (0))) then some (0,(((zB,x19.2.1),()),((mpP m p (zB,x19.2.1)),())))
        else some (0,((((x17.1,(x16.1,(x18.1,x19.1))),0),()),((mpP m p (((x17.1,(x16.1,(x18.1,x19.1))),0))),())))) :
  qt X fun x=>x.2.1.1=qG n l p∧x.2.2.1=mpP m p (qG n l p):=by
 obtain ⟨lb1,lb2⟩:=zji h p
 obtain ⟨g,hx,hge,hg,p0,p1⟩:=zhH h.f hp
 obtain ⟨o1,o2,o3⟩:=zxZ hg p0 p1 h.f.f.2.1 h.f.f.2.2
 have fin:∀{r:Bnd×Int},r=qG n l p→qt (some ((0:Nat),((r,()),((mpP m p r),())))) fun x=>x.2.1.1=qG n l p∧x.2.2.1=mpP m p (qG n l p):=fun e=>za ⟨e,by rw [e]⟩
 subst hX hc
 unfold qG at fin
 rw [hge] at fin
 unfold qG
 rw [hge]
 by_cases hne:load l p=[]
 ·rw [zA hne,cond_true] at fin ⊢
  rw [hne]
  exact zd rfl (fin rfl)
 have hlen:(load l p).length≠0:=fun e=>hne (List.length_eq_zero_iff.1 e)
 rw [zM hne,cond_false] at fin ⊢
 refine zf (qM (show ((load l p).length:Int)≠0 by omega)) ?_
 rw [zz5 h.f.t hp,zx]
 refine zf rfl (zg (qk (a:=g) (by rw [show p=((p.toNat:Nat):Int) from (by have:=hp.1;omega),jJ (n:=p.toNat)];exact hx) ?_))
 rw [o1,zx]
 rcases o3 with ⟨o4,o5⟩ | ⟨o4,o5⟩
 ·rw [o4,zA rfl,cond_true] at fin ⊢
  refine zf rfl ?_
  rw [zvG hne lb1 lb2,zx]
  have hs2:(Qc (load l p)).2=0∧wA (Qc (load l p)).1∨(Qc (load l p)).2=6:=by
   unfold Qc
   by_cases hb:wA (ja (load l p))
   ·rw [zA hb];exact .inl ⟨rfl,hb⟩
   ·rw [zM hb];exact .inr rfl
  rcases hs2 with ⟨hs2,hb⟩ | hs2
  ·rw [hs2,zA rfl,cond_true] at fin ⊢
   refine zf rfl ?_
   rw [ztX hb o5.ok,zx]
   by_cases hle:(Qc (load l p)).1.2≤(ofS g (lnk n.1 p).2.2.1 n.2.2.2).1.1
   ·rw [zA hle,cond_true] at fin ⊢
    rw [cond_true]
    refine zf rfl ?_
    rw [zpo hb o5.ok hle,zx]
    exact zf rfl (fin rfl)
   ·rw [zM hle,cond_false] at fin ⊢
    rw [cond_false]
    exact zd rfl (fin rfl)
  ·rw [hs2,zM (by simp)] at fin ⊢
   exact zd rfl (fin rfl)
 ·rw [o4,zM (by simp)] at fin ⊢
  exact zd rfl (fin rfl)
theorem zAe {n:Fab} {l:List qw} (h:okP n l) {p:Int} (hp:wu n.1 p) {m:Gz} (hm:gR n l m):qt (zHH n l m p) fun x=>x.2.1.1=qG n l p∧gR n l x.2.2.1:=by
 have h12:=h.n12
 unfold zHH
 refine zk (fun hk=>?_) (fun hk=>?_)
 rotate_left
 ·have hk:mpH m p=true:=by simpa using hk
  exact za ⟨hm p _ hk,hm⟩
 refine zj (J:=fun x=>x.2.2.1.1=load l p) (zW l.length (fun i s=>s=(((i:Int),()),((load (l.take i) p,()),((),((),()))))) (by omega) rfl ?_ ?_) ?_
 ·rintro i _ hi rfl
  have hy:l[i]?=some l[i]:=List.getElem?_eq_getElem hi
  have hmm:=List.getElem_mem hi
  generalize l[i]=s at hy hmm
  have hs:=h.a s hmm
  have rn:=hs.rn
  have hll:(load (l.take i) p).length≤12:=by
   unfold load;rw [List.length_map]
   have:=List.length_filter_le (fun s=>tv (gQ s p)) (l.take i)
   simp only [List.length_take] at this;omega
  refine zd (zT (show (i:Int) < (l.length:Int) by omega)) (zg (zy (n:=i) hy ?_))
  refine zj (J:=fun x=>(x.1=0∧x.2.2.1.1=load (l.take i) p∧¬gQ s p)∨(x.1=1∧0≤x.2.1.1∧x.2.2.1.1=load (l.take i) p∧gQ s p))
   (zW s.2.2.2.2.2.2.2.2.length (fun k st=>st=((0,((k:Int),())),((load (l.take i) p,()),((),((),()))))∧∀k',k' < k→∀r,s.2.2.2.2.2.2.2.2[k']?=some r→¬p∈r) (by omega) ⟨rfl,fun k' hk'=>by omega⟩ ?_ ?_) ?_
  ·rintro k _ hk ⟨rfl,hpk⟩
   have hx:s.2.2.2.2.2.2.2.2[k]?=some s.2.2.2.2.2.2.2.2[k]:=List.getElem?_eq_getElem hk
   have hmr:=List.getElem_mem hk
   generalize s.2.2.2.2.2.2.2.2[k]=r at hx hmr
   have hr8:=(hs.rt r hmr).1.n1
   refine zd (zT (show (k:Int) < (s.2.2.2.2.2.2.2.2.length:Int) by omega)) (zg (zy (n:=k) hx ?_))
   rw [UQ (by omega),zx]
   refine zk (fun hc=>?_) (fun hc=>?_)
   ·exact za (zq (.inr ⟨rfl,by show (0:Int)≤(k:Int);omega,rfl,r,hmr,ZO hc⟩))
   ·refine za (qj ⟨congrArg (fun z=>(((0:Int),(z,())),_)) (qp (by omega)),fun k' hk' r' hr'=>?_⟩)
    rcases Nat.lt_or_ge k' k with h1 | h1
    ·exact hpk k' h1 r' hr'
    ·have:k'=k:=by omega
     subst this
     rw [hx] at hr';cases hr'
     exact Zn hc
  ·rintro _ ⟨rfl,hpk⟩
   refine zf (zF (show ¬(s.2.2.2.2.2.2.2.2.length:Int) < (s.2.2.2.2.2.2.2.2.length:Int) by omega)) (za (zq (.inl ⟨rfl,rfl,fun ⟨r,h1,h2⟩=>?_⟩)))
   obtain ⟨k,hk1,hk2⟩:=jV h1
   exact hpk k hk1 r hk2 h2
  ·rintro ⟨j,⟨v,w,⟨⟩⟩,⟨c,⟨⟩⟩,⟨⟩,⟨⟩,⟨⟩⟩ (⟨rfl,hc,hq⟩ | ⟨rfl,hv,hc,hq⟩)
   ·simp only at hc
    subst hc
    refine zd rfl (za (qj ?_))
    rw [zod hy,zM hq,cond_false]
    exact congrArg (fun z=>((z,()),_)) (qp (by omega))
   ·simp only at hc hv
    subst hc
    refine zf rfl (zd (by rw [zF (show ¬v < 0 by omega)];rfl) (zd (xh (by show ((load (l.take i) p).length+1)*16≤_;omega) (by show (load (l.take i) p).length+1≤_;omega)) (za (qj ?_))))
    rw [zod hy,zA hq,cond_true]
    exact congrArg (fun z=>((z,()),_)) (qp (by omega))
 ·rintro _ rfl
  refine zf (zF (show ¬(l.length:Int) < (l.length:Int) by omega)) (za (zq ?_))
  show load (l.take l.length) p=_
  rw [List.take_length]
 ·rintro ⟨j,⟨z,⟨⟩⟩,⟨c,⟨⟩⟩,⟨⟩,⟨⟩,⟨⟩⟩ hc
  simp only at hc
  refine zk (fun _=>?_) (fun _=>?_)
  ·exact zwk (zBw h hp (m:=m) hc rfl) fun x hx=>⟨hx.1,by rw [hx.2];exact zwt hm p rfl⟩
  ·exact zwk (zBw h hp (m:=m) hc rfl) fun x hx=>⟨hx.1,by rw [hx.2];exact zwt hm p rfl⟩
def zrK (n:Fab) (l:List qw):Prop:=∀s∈l,s.2.2.2.1=6∧s.2.2.2.2.1≤n.2.2.2
noncomputable def JW (n:Fab) (l:List qw):Int:=bif tv (Qb n=0) then bif tv (ZG n.1 l=0) then bif tv (zrK n l) then 0 else 2 else ZG n.1 l else Qb n
theorem zof {t:qm} {l:List qw} (h:ZG t l=0):l.length≤12∧zn3 t l∧zif l:=by
 unfold ZG at h
 by_cases h1:l.length≤12
 ·by_cases h2:zn3 t l
  ·by_cases h3:zif l
   ·exact ⟨h1,h2,h3⟩
   ·rw [zA h1,zA h2,zM h3] at h;cases h
  ·rw [zA h1,zM h2] at h;cases h
 ·rw [zM h1] at h;cases h
theorem zvH {n:Fab} {l:List qw} (h:JW n l=0):okP n l:=by
 unfold JW at h
 by_cases h1:Qb n=0
 ·by_cases h2:ZG n.1 l=0
  ·by_cases h3:zrK n l
   ·obtain ⟨a,b,c⟩:=zof h2
    exact ⟨zn6 h1,b,a,c,h3⟩
   ·rw [zA h1,zA h2,zM h3] at h;cases h
  ·rw [zA h1,zM h2] at h;exact absurd h h2
 ·rw [zM h1] at h;exact absurd h h1
theorem zFW
      {n:Fab} {s:qw}:qt (bif (!(zi (s.2.2.2.1) (6))) then some ((1:Nat),(((),((2:Int),())),()))
      else bif (zh (n.2.2.2) (s.2.2.2.2.1)) then some (1,(((),(2,())),()))
       else some (0,(((),(0,())),()))) fun x=>(x.1=0∧x.2.1.2.1=0∧s.2.2.2.1=6∧s.2.2.2.2.1≤n.2.2.2)∨(x.1=1∧x.2.1.2.1=2∧¬(s.2.2.2.1=6∧s.2.2.2.2.1≤n.2.2.2)):=by
 refine zk (fun h=>za (.inr ⟨rfl,rfl,fun hs=>?_⟩)) fun h1=>zk (fun h=>za (.inr ⟨rfl,rfl,fun hs=>?_⟩)) fun h2=>za (.inl ⟨rfl,rfl,qU (by simpa using h1),qE h2⟩)
 ·rw [vH hs.1] at h;cases h
 ·have:=qn h;omega
theorem zrL {n:Fab} {l:List qw} (h12:l.length≤12) {B:((Unit×(Int×(Int×Unit)))×Unit)→Option ((Nat×((Unit×(Int×(Int×Unit)))×Unit)) ⊕ ((Unit×(Int×(Int×Unit)))×Unit))}
  (hB :
     B=fun s4=>bif (zh (s4.1.2.2.1) ((((l).length:Nat):Int))) then opt (atI (l) (s4.1.2.2.1)) fun x5=>
     opt (bif (!(zi (x5.2.2.2.1) (6))) then some (1,(((),(2,())),()))
      else bif (zh (n.2.2.2) (x5.2.2.2.2.1)) then some (1,(((),(2,())),()))
       else some (0,(((),(s4.1.2.1,())),()))) fun x6=>
     bif (Nat.beq x6.1 0) then some (.inr (((),(x6.2.1.2.1,((wrF .i64 ((s4.1.2.2.1+1))),()))),()))
     else some (.inl (1,(((),(x6.2.1.2.1,(s4.1.2.2.1,()))),())))
    else some (.inl (0,(((),(s4.1.2.1,(s4.1.2.2.1,()))),())))) :
  qt (zz B zL (((),(0,(0,()))),())) fun x=>(x.1=0∧x.2.1.2.1=0∧zrK n l)∨(x.1=1∧x.2.1.2.1=2∧¬zrK n l):=by
 subst hB
 refine zW l.length (fun i st=>st=(((),(0,((i:Int),()))),())∧∀(k:Nat),k < i→∀s,l[k]?=some s→s.2.2.2.1=6∧s.2.2.2.2.1≤n.2.2.2) (by omega) ⟨rfl,fun k hk=>by omega⟩ ?_ ?_
 ·rintro i _ hi ⟨rfl,hp⟩
  have hx:l[i]?=some l[i]:=List.getElem?_eq_getElem hi
  have hm:=List.getElem_mem hi
  generalize l[i]=s at hx hm
  refine zd (zT (show (i:Int) < (l.length:Int) by omega)) (zg (zy (n:=i) hx (zj zFW ?_)))
  rintro ⟨j,⟨⟨⟩,v,⟨⟩⟩,⟨⟩⟩ (⟨rfl,rfl,hq⟩ | ⟨rfl,rfl,hq⟩)
  ·refine zd rfl (za (qj ⟨congrArg (fun z=>(((),((0:Int),(z,()))),())) (qp (by omega)),fun k hk r' hr'=>?_⟩))
   rcases Nat.lt_or_ge k i with h1 | h1
   ·exact hp k h1 r' hr'
   ·have:k=i:=by omega
    subst this
    rw [hx] at hr';cases hr';exact hq
  ·exact zf rfl (za (zq (.inr ⟨rfl,rfl,fun h=>hq (h s hm)⟩)))
 ·rintro _ ⟨rfl,hp⟩
  refine zf (zF (show ¬(l.length:Int) < (l.length:Int) by omega)) (za (zq (.inl ⟨rfl,rfl,fun r hr=>?_⟩)))
  obtain ⟨k,hk,hk2⟩:=jV hr
  exact hp k hk r hk2
theorem zjj {n:Fab} (hn:n.2.2.1.length≤1000000000000000000) (l:List qw):ZX (n,l,())=some (JW n l,()):=by
 rw [ztb];unfold zgi JW
 rw [zjd hn,zx]
 by_cases h1:Qb n=0
 rotate_left
 ·rw [zM h1,qM h1]
  refine ym (zj (J:=fun x=>x.2.1.1=Qb n) (za rfl) ?_)
  rintro ⟨j,⟨v,⟨⟩⟩,⟨⟩⟩ hv
  simp only at hv
  subst hv
  refine zd ?_ (za rfl)
  show (!zi (Qb n) 0)=true
  rw [qM h1];rfl
 rw [zA h1,h1,cond_true]
 have hf:=zn6 h1
 rw [zn4 hf.t]
 refine ym (zj (J:=fun x=>x.2.1.1=ZG n.1 l) (zd rfl (za rfl)) ?_)
 rintro ⟨j,⟨v,⟨⟩⟩,⟨⟩⟩ hv
 simp only at hv
 subst hv
 by_cases h2:ZG n.1 l=0
 rotate_left
 ·rw [zM h2]
  refine zd ?_ (za rfl)
  show (!zi (ZG n.1 l) 0)=true
  rw [qM h2];rfl
 rw [zA h2,cond_true]
 obtain ⟨h12,ha,hd⟩:=zof h2
 refine zf (show (!zi (ZG n.1 l) 0)=false by rw [vH h2];rfl) ?_
 refine zj (J:=fun x=>(x.1=0∧zrK n l)∨(x.1=1∧x.2.1.1=2∧¬zrK n l)) (qN l.length (fun i=>∀s,l[i]?=some s→s.2.2.2.1=6∧s.2.2.2.2.1≤n.2.2.2) (by omega) ?_ ?_) ?_
 ·intro i hi hp
  have hx:l[i]?=some l[i]:=List.getElem?_eq_getElem hi
  have hm:=List.getElem_mem hi
  generalize l[i]=s at hx hm
  refine zd (zT (show (i:Int) < (l.length:Int) by omega)) ?_
  refine zj (J:=fun x=>(x.1=0∧x.2.1.1=0∧s.2.2.2.1=6∧s.2.2.2.2.1≤n.2.2.2)∨(x.1=1∧x.2.1.1=2∧¬(s.2.2.2.1=6∧s.2.2.2.2.1≤n.2.2.2))) ?_ ?_
  ·refine zg (zy (n:=i) hx ?_)
   refine zk (fun h=>za (.inr ⟨rfl,rfl,fun hs=>?_⟩)) fun h1=>zg (zy (n:=i) hx (zk (fun h=>za (.inr ⟨rfl,rfl,fun hs=>?_⟩)) fun h2=>za (.inl ⟨rfl,rfl,qU (by simpa using h1),qE h2⟩)))
   ·rw [vH hs.1] at h;cases h
   ·have:=qn h;omega
  ·rintro ⟨j,⟨v,⟨⟩⟩,⟨⟩⟩ (⟨rfl,rfl,hq⟩ | ⟨rfl,rfl,hq⟩)
   ·exact zd rfl (za (jC (by omega) fun r' hr'=>by rw [hx] at hr';cases hr';exact hq))
   ·exact zf rfl (za (zq (.inr ⟨rfl,rfl,fun h=>hq (h s hm)⟩)))
 ·intro hp
  refine zf (zF (show ¬(l.length:Int) < (l.length:Int) by omega)) (za (zq (.inl ⟨rfl,fun r hr=>?_⟩)))
  obtain ⟨k,hk,hk2⟩:=jV hr
  exact hp k hk r hk2
 ·rintro ⟨j,⟨v,w,⟨⟩⟩,⟨⟩⟩ (⟨rfl,hq⟩ | ⟨rfl,rfl,hq⟩)
  ·rw [zA hq];exact zd rfl (za rfl)
  ·rw [zM hq];exact zf rfl (za rfl)
noncomputable def zAf (n:Fab) (l:List qw) (p:Int):Bnd×Int:=bif tv (JW n l=0) then bif tv (wu n.1 p) then qG n l p else (zB,2) else (zB,JW n l)
theorem zEi {n:Fab} (hll:n.1.2.2.length≤1000000000000000) (p:Int):qt (bif (zh (p) (0)) then some ((1:Nat),((zB,((2:Int),())),()))
     else bif (!(zh (p) ((wrF .i64 ((2*(((n.1.2.2).length:Nat):Int))))))) then some (1,((zB,(2,())),()))
      else some (0,((zB,(0,())),()))) fun x=>(x.1=0∧wu n.1 p)∨(x.1=1∧x.2.1.1=zB∧x.2.1.2.1=2∧¬wu n.1 p):=by
 rw [tw n.1 hll]
 refine zk (fun h=>za (.inr ⟨rfl,rfl,rfl,fun hp=>?_⟩)) fun h1=>zk (fun h=>za (.inr ⟨rfl,rfl,rfl,fun hp=>?_⟩)) fun h2=>za (.inl ⟨rfl,qE h1,qn (by simpa using h2)⟩)
 ·have:=qn h;have:=hp.1;omega
 ·rw [zT hp.2] at h;cases h
theorem zxI {n:Fab} (hn:n.2.2.1.length≤1000000000000000000) (hll:n.1.2.2.length≤1000000000000000) (l:List qw) (p:Int):Yp (n,l,p,())=some ((zAf n l p).1,(zAf n l p).2,()):=by
 rw [zu5];unfold zh1 zAf JW
 rw [Xr hn,zx]
 by_cases h1:Qb n=0
 rotate_left
 ·rw [zM h1,cond_false]
  refine xP (zd (show (!zi (Qb n) 0)=true by rw [qM h1];rfl) (zd (show (!zi (Qb n) 0)=true by rw [qM h1];rfl) (za ?_)))
  rw [zM h1];rfl
 have hf:=zn6 h1
 refine xP (zf (show (!zi (Qb n) 0)=false by rw [h1];rfl) ?_)
 rw [VV hf.t,zx,zA h1,cond_true]
 by_cases h2:ZG n.1 l=0
 rotate_left
 ·rw [zM h2,cond_false]
  refine zd (show (!zi (ZG n.1 l) 0)=true by rw [qM h2];rfl) (zd (show (!zi (ZG n.1 l) 0)=true by rw [qM h2];rfl) (za ?_))
  rw [zM h2];rfl
 obtain ⟨h12,ha,hd⟩:=zof h2
 refine zf (show (!zi (ZG n.1 l) 0)=false by rw [h2];rfl) (zj (zrL (n:=n) h12 rfl) ?_)
 rw [zA h2,cond_true]
 rintro ⟨j,⟨⟨⟩,v,w,⟨⟩⟩,⟨⟩⟩ (⟨rfl,rfl,hc⟩ | ⟨rfl,rfl,hc⟩)
 rotate_left
 ·rw [zM hc,cond_false,zM (by simp)]
  exact zf rfl (zd rfl (za rfl))
 rw [zA hc,cond_true,zA rfl,cond_true]
 have ok:okP n l:=⟨hf,ha,h12,hd,hc⟩
 refine zd rfl (zj (zEi hll p) ?_)
 rintro ⟨j,⟨v,w,⟨⟩⟩,⟨⟩⟩ (⟨rfl,hp⟩ | ⟨rfl,h1,h2,hp⟩)
 ·refine zd rfl (zj (zAe ok hp (zoe n l)) ?_)
  rintro ⟨j,⟨v,⟨⟩⟩,c,⟨⟩⟩ ⟨hv,hk⟩
  simp only at hv
  subst hv
  rw [zA hp]
  exact za rfl
 ·simp only at h1 h2
  subst h1 h2
  rw [zM hp]
  exact zf rfl (za rfl)
end Go.Proofs.YtplhphmbkmpocaaGreat.ad
end
