/- Parts of a proof, joined. -/
import Derived.Test.YtplhphmbkmpocaaGreatE57
set_option linter.unusedSectionVars false
set_option linter.unusedVariables false
set_option linter.unusedSimpArgs false
set_option maxHeartbeats 0
set_option maxRecDepth 100000
noncomputable section
namespace Go.Proofs.YtplhphmbkmpocaaGreat.ad
open Go Go.Fz Go.Fz.Sy
theorem zy3 {i:Nat} (h1:1≤i) (h:i≤1000000):wrF .i64 ((i:Int) - 1)=((i - 1:Nat):Int):=by rw [zD]<;>omega
theorem zy4 (n:Nat):one (n:Int) n=1:=by unfold one;rw [if_pos rfl]
theorem Ut {m n:Nat} (h:m≠n):one (m:Int) n=0:=by unfold one;rw [if_neg (by omega)]
theorem zC1 {b c:Nat} {ls:List yh} (h:Dr b c ls) (hb:XK b c (b - 1) c ls) (hd:∀n,b≤n→n < b+c→1≤cnt ls n∧cnt ls n≤2):jN (tOf b c ls):=by
 have:=h.b1;have:=h.c2
 refine ⟨h.sz,h.ok,fun n hn=>zC0 h.b1 (by omega) hb n ?_,fun n hn hs=>?_⟩
 ·have hn:(n:Int) < ((b+c:Nat):Int):=hn
  omega
 ·have hn:(n:Int) < ((b+c:Nat):Int):=hn
  rw [zy2 (by omega)] at hs
  exact hd n (of_decide_eq_true hs) (by omega)
theorem zsS {d:znm} (hd:tdP d):∃b c ls,wP (d,())=some (tOf b c ls,())∧jN (tOf b c ls)∧1≤ls.length:=by
 obtain ⟨d0,d1⟩:=hd.b
 obtain ⟨e0,e1⟩:=hd.s
 have eb:wrF .i64 (1+wrF .i64 (Int.tmod d.1 6))=1+d.1 % 6:=by
  rw [Int.tmod_eq_emod_of_nonneg d0,zD (z:=d.1 % 6) (by omega) (by omega),zD (by omega) (by omega)]
 have ec:wrF .i64 (2+wrF .i64 (Int.tmod d.2.1 5))=2+d.2.1 % 5:=by
  rw [Int.tmod_eq_emod_of_nonneg e0,zD (z:=d.2.1 % 5) (by omega) (by omega),zD (by omega) (by omega)]
 obtain ⟨b,hb,b1,b6⟩:∃b:Nat,1+d.1 % 6=(b:Int)∧1≤b∧b≤6:=⟨(1+d.1 % 6).toNat,by omega,by omega,by omega⟩
 obtain ⟨c,hc,c2,c6⟩:∃c:Nat,2+d.2.1 % 5=(c:Int)∧2≤c∧c≤6:=⟨(2+d.2.1 % 5).toNat,by omega,by omega,by omega⟩
 rw [hb] at eb;rw [hc] at ec
 suffices key:qu (wP (d,())) fun r=>∃ls,r.1=tOf b c ls∧jN (tOf b c ls)∧1≤ls.length by
  obtain ⟨⟨t,⟨⟩⟩,e,ls,h1,h2,h3⟩:=key
  simp only at h1
  subst h1
  exact ⟨b,c,ls,e,h2,h3⟩
 have eN:wrF .i64 ((b:Int)+(c:Int))=((b+c:Nat):Int):=by rw [zD]<;>omega
 have bnz:zi (b:Int) 0=false:=qI (by omega)
 have dr0:Dr b c []:=⟨b1,b6,c2,c6,by simp,fun i l h=>by cases h⟩
 rw [zhZ];unfold VU
 simp only [eb,ec,eN]
 refine zk (J:=fun x=>x.2.2.1=(((b+c:Nat):Int),(sts b c,([],())))) (zW (b+c) (fun i s=>s=(((),((i:Int),())),((((b+c:Nat):Int),((sts b c).take i,([],()))),()))) (by omega) rfl ?_ ?_) ?_
 ·rintro i _ hi rfl
  have hx:(sts b c)[i]?=some (decide (b≤i)):=by unfold sts;simp [hi]
  refine zd (zR (show (i:Int) < ((b+c:Nat):Int) by omega)) (zd (yc (by show (((sts b c).take i).length+1)*1≤_;simp;omega) (by show ((sts b c).take i).length+1≤_;simp;omega)) (za (ql ?_)))
  have eo:(!zh (i:Int) (b:Int))=decide (b≤i):=by
   rw [xu]
   by_cases h:b≤i
   ·rw [decide_eq_true h,decide_eq_false (by omega)];rfl
   ·rw [decide_eq_false h,decide_eq_true (by omega)];rfl
  show (((),((wrF .i64 ((i:Int)+1)),())),((((b+c:Nat):Int),(((sts b c).take i++[(!zh (i:Int) (b:Int))]),([],()))),()))=_
  rw [eo,qq (by omega),List.take_add_one,hx];rfl
 ·rintro _ rfl
  refine ze (zG (show ¬((b+c:Nat):Int) < ((b+c:Nat):Int) by omega)) (za (zq ?_))
  show (((b+c:Nat):Int),((sts b c).take (b+c),([],())))=_
  rw [List.take_of_length_le (by rw [zAi];omega)]
 rintro ⟨j,⟨⟨⟩,w,⟨⟩⟩,⟨q,⟨⟩⟩⟩ hq
 simp only at hq
 subst hq
 refine zk (J:=fun x=>x.2.1.1=d∧∃ls,x.2.2.1=(((b+c:Nat):Int),(sts b c,(ls,())))∧Dr b c ls∧XK b c (b - 1) 0 ls∧ls.length=b - 1)
  (zW (b - 1) (fun i s=>∃ls,s=((d,((),(((i+1:Nat):Int),()))),((((b+c:Nat):Int),(sts b c,(ls,()))),()))∧Dr b c ls∧XK b c i 0 ls∧ls.length=i) (by omega) ⟨[],rfl,dr0,⟨fun i h=>by omega,fun i h=>by omega⟩,rfl⟩ ?_ ?_) ?_
 ·rintro i _ hi ⟨ls,rfl,dr,ba,hl⟩
  refine zd (zR (show ((i+1:Nat):Int) < (b:Int) by omega)) ?_
  have ep:wrF .i64 (((i+1:Nat):Int) - 1)=(i:Int):=by rw [zy3 (by omega) (by omega)];rfl
  have eq:wrF .i64 (((i+1:Nat):Int)+1)=((i+1+1:Nat):Int):=qq (by omega)
  simp only [ep,eq]
  have links:∀o∈ls,¬uR o (i:Int) ((i+1:Nat):Int):=by
   intro o ho hj
   obtain ⟨k,hk,hk2⟩:=jV ho
   obtain ⟨p,d',e⟩:=ba.ch k (by omega)
   rw [hk2] at e
   cases e
   unfold uR at hj
   simp only at hj
   omega
  refine znn (t:=tOf b c ls) dr.sz (a:=(i:Int)) (b:=((i+1:Nat):Int)) hd.p hd.e rfl rfl ?_ ?_
  ·intro x y x0 x1 y0 y1 hbad
   exfalso
   rcases hbad with h | h | ⟨o,ho,hj⟩
   ·have h:ls.length=24:=h
    omega
   ·exact h (zAj (m:=i) (n:=i+1) (by omega) (by omega) (by omega) (.inl (by omega)) x0 x1 y0 y1)
   ·exact links o ho hj
  ·intro x y x0 x1 y0 y1 h24 hlk hno
   refine za (ql ⟨ls++[_],rfl,dr.add h24 hlk hno,⟨fun k hk=>?_,fun k hk=>by omega⟩,by simp [hl]⟩)
   rcases Nat.lt_or_ge k i with h1 | h1
   ·exact (ba.app _).ch k h1
   ·have:k=i:=by omega
    subst this
    exact ⟨_,_,by rw [←hl,List.getElem?_append_right (Nat.le_refl _),Nat.sub_self];rfl⟩
 ·rintro _ ⟨ls,rfl,dr,ba,hl⟩
  exact ze (zG (show ¬((b - 1+1:Nat):Int) < (b:Int) by omega)) (za (zq ⟨rfl,ls,rfl,dr,ba,hl⟩))
 rintro ⟨j,⟨q,⟨⟩,w,⟨⟩⟩,⟨u,⟨⟩⟩⟩ ⟨hq,ls0,hu,dr,ba,hl⟩
 simp only at hq hu
 subst hq hu
 have z0:∀n,b≤n→n < b+c→cnt ls0 n=0:=by
  intro n hn hn2
  have key:∀k,k≤b - 1→cnt (ls0.take k) n=0:=by
   intro k
   induction k with
   |zero=>intro _;simp [cnt]
   |succ k ih=>
    intro hk
    obtain ⟨p,d',e⟩:=ba.ch k (by omega)
    rw [zyP e,ih (by omega),Ut (show k≠n by omega),Ut (show k+1≠n by omega)];rfl
  have:=key (b - 1) (Nat.le_refl _)
  rwa [List.take_of_length_le (by omega)] at this
 refine zk (J:=fun x=>x.2.1.1=q∧∃ls,x.2.2.1=(((b+c:Nat):Int),(sts b c,(ls,())))∧Dr b c ls∧XK b c (b - 1) c ls∧ls.length=b - 1+c∧∀n,b≤n→n < b+c→cnt ls n=1)
  (zW c (fun i s=>∃ls,s=((q,((),((i:Int),()))),((((b+c:Nat):Int),(sts b c,(ls,()))),()))∧Dr b c ls∧XK b c (b - 1) i ls∧ls.length=b - 1+i∧∀n,b≤n→n < b+c→cnt ls n=if n < b+i then 1 else 0) (by omega) ⟨ls0,rfl,dr,ba,by omega,fun n h1 h2=>by rw [z0 n h1 h2,if_neg (by omega)]⟩ ?_ ?_) ?_
 ·rintro i _ hi ⟨ls,rfl,dr,ba,hl,hcn⟩
  refine zd (zR (show (i:Int) < (c:Int) by omega)) ?_
  have e2:wrF .i64 (2*(i:Int))=((2*i:Nat):Int):=by rw [zD]<;>omega
  have e3:wrF .i64 ((b:Int)+(i:Int))=((b+i:Nat):Int):=by rw [zD]<;>omega
  have eq:wrF .i64 ((i:Int)+1)=((i+1:Nat):Int):=qq (by omega)
  obtain ⟨x,ex,x0,x1⟩:=KR hd.h (i:=((2*i:Nat):Int)) (by omega)
  simp only [e2,e3,eq,ex,zw,bnz,cond_false]
  obtain ⟨hh,ehh,hhb⟩:∃hh:Nat,Int.tmod x (b:Int)=(hh:Int)∧hh < b:=⟨(x % (b:Int)).toNat,by rw [Int.tmod_eq_emod_of_nonneg x0];have:=Int.emod_nonneg x (show (b:Int)≠0 by omega);omega,by have:=Int.emod_lt_of_pos x (show 0 < (b:Int) by omega);have:=Int.emod_nonneg x (show (b:Int)≠0 by omega);omega⟩
  simp only [ehh]
  have links:∀o∈ls,¬uR o ((b+i:Nat):Int) (hh:Int):=by
   intro o ho hj
   obtain ⟨k,hk,hk2⟩:=jV ho
   unfold uR at hj
   rcases Nat.lt_or_ge k (b - 1) with h1 | h1
   ·obtain ⟨p,d',e⟩:=ba.ch k h1
    rw [hk2] at e
    cases e
    simp only at hj
    omega
   ·obtain ⟨q',p,d',e,hqb⟩:=ba.ho (k - (b - 1)) (by omega)
    rw [show b - 1+(k - (b - 1))=k by omega,hk2] at e
    cases e
    simp only at hj
    omega
  refine znn (t:=tOf b c ls) dr.sz (a:=((b+i:Nat):Int)) (b:=(hh:Int)) hd.p hd.e rfl rfl ?_ ?_
  ·intro x y x0 x1 y0 y1 hbad
   exfalso
   rcases hbad with h | h | ⟨o,ho,hj⟩
   ·have h:ls.length=24:=h
    omega
   ·exact h (zAj (m:=b+i) (n:=hh) (by omega) (by omega) (by omega) (.inr hhb) x0 x1 y0 y1)
   ·exact links o ho hj
  ·intro x y x0 x1 y0 y1 h24 hlk hno
   refine za (ql ⟨ls++[_],rfl,dr.add h24 hlk hno,⟨fun k hk=>(ba.app _).ch k hk,fun k hk=>?_⟩,by simp [hl];omega,fun n h1 h2=>?_⟩)
   ·rcases Nat.lt_or_ge k i with h1 | h1
    ·exact (ba.app _).ho k h1
    ·have:k=i:=by omega
     subst this
     exact ⟨hh,_,_,by rw [←hl,List.getElem?_append_right (Nat.le_refl _),Nat.sub_self];rfl,hhb⟩
   ·rw [zjJ,hcn n h1 h2]
    simp only
    rw [Ut (show hh≠n by omega)]
    by_cases h:n=b+i
    ·subst h
     rw [zy4,if_neg (by omega),if_pos (by omega)];rfl
    ·rw [Ut (show b+i≠n by omega)]
     by_cases h3:n < b+i
     ·rw [if_pos h3,if_pos (by omega)];rfl
     ·rw [if_neg h3,if_neg (by omega)];rfl
 ·rintro _ ⟨ls,rfl,dr,ba,hl,hcn⟩
  exact ze (zG (show ¬(c:Int) < (c:Int) by omega)) (za (zq ⟨rfl,ls,rfl,dr,ba,hl,fun n h1 h2=>by rw [hcn n h1 h2,if_pos h2]⟩))
 clear dr ba hl z0
 rintro ⟨j,⟨q',⟨⟩,w',⟨⟩⟩,⟨u,⟨⟩⟩⟩ ⟨hq,ls0,hu,dr,ba,hl,hcn⟩
 simp only at hq hu
 subst hq hu
 refine zk (J:=fun x=>x.2.1.1=q'∧∃ls,x.2.2.1=(((b+c:Nat):Int),(sts b c,(ls,())))∧Dr b c ls∧XK b c (b - 1) c ls∧ls.length≤b+c∧∀n,b≤n→n < b+c→cnt ls n=1) ?_ ?_
 ·have keep:qu (some ((0:Nat),((q',((),())),((((b+c:Nat):Int),(sts b c,(ls0,()))),())))) fun x=>x.2.1.1=q'∧∃ls,x.2.2.1=(((b+c:Nat):Int),(sts b c,(ls,())))∧Dr b c ls∧XK b c (b - 1) c ls∧ls.length≤b+c∧∀n,b≤n→n < b+c→cnt ls n=1:=
   za ⟨rfl,ls0,rfl,dr,ba,by omega,hcn⟩
  refine zj (fun hb2=>zj (fun _=>?_) (fun _=>keep)) (fun _=>keep)
  have hb2:=qn hb2
  have ep:wrF .i64 ((b:Int) - 1)=((b - 1:Nat):Int):=zy3 (by omega) (by omega)
  simp only [ep]
  refine znn (t:=tOf b c ls0) dr.sz (a:=((b - 1:Nat):Int)) (b:=0) hd.p hd.e rfl rfl (fun x y x0 x1 y0 y1 _=>keep) ?_
  intro x y x0 x1 y0 y1 h24 hlk hno
  refine za ⟨rfl,ls0++[_],rfl,dr.add h24 hlk hno,ba.app _,by simp;omega,fun n h1 h2=>?_⟩
  rw [zjJ,hcn n h1 h2]
  simp only
  rw [Ut (show b - 1≠n by omega),show one 0 n=0 from Ut (m:=0) (by omega)];rfl
 clear dr ba hl hcn
 rintro ⟨j,⟨q,⟨⟩,⟨⟩⟩,⟨u,⟨⟩⟩⟩ ⟨hq,ls0,hu,dr,ba,hl,hcn⟩
 simp only at hq hu
 subst hq hu
 refine zk (J:=fun x=>x.2.1.1=q∧∃ls,x.2.2.1=(((b+c:Nat):Int),(sts b c,(ls,())))∧Dr b c ls∧XK b c (b - 1) c ls∧∀n,b≤n→n < b+c→1≤cnt ls n∧cnt ls n≤2)
  (zW c (fun i s=>∃ls,s=((q,((),((i:Int),()))),((((b+c:Nat):Int),(sts b c,(ls,()))),()))∧Dr b c ls∧XK b c (b - 1) c ls∧∀n,b≤n→n < b+c→1≤cnt ls n∧cnt ls n≤if n < b+i then 2 else 1) (by omega) ⟨ls0,rfl,dr,ba,fun n h1 h2=>by rw [hcn n h1 h2];split<;>omega⟩ ?_ ?_) ?_
 ·rintro i _ hi ⟨ls,rfl,dr,ba,hcn⟩
  refine zd (zR (show (i:Int) < (c:Int) by omega)) ?_
  have e2:wrF .i64 ((wrF .i64 (2*(i:Int)))+1)=((2*i+1:Nat):Int):=by rw [zD (z:=2*(i:Int)) (by omega) (by omega),zD (by omega) (by omega)];omega
  have e3:wrF .i64 ((b:Int)+(i:Int))=((b+i:Nat):Int):=by rw [zD]<;>omega
  have eq:wrF .i64 ((i:Int)+1)=((i+1:Nat):Int):=qq (by omega)
  obtain ⟨x,ex,x0,x1⟩:=KR hd.h (i:=((2*i+1:Nat):Int)) (by omega)
  simp only [e2,e3,eq,ex,zw,bnz,cond_false]
  obtain ⟨hh,ehh,hhb⟩:∃hh:Nat,Int.tmod x (b:Int)=(hh:Int)∧hh < b:=⟨(x % (b:Int)).toNat,by rw [Int.tmod_eq_emod_of_nonneg x0];have:=Int.emod_nonneg x (show (b:Int)≠0 by omega);omega,by have:=Int.emod_lt_of_pos x (show 0 < (b:Int) by omega);have:=Int.emod_nonneg x (show (b:Int)≠0 by omega);omega⟩
  simp only [ehh]
  refine zk (J:=fun x=>x.2.1.1=q∧∃ls,x.2.2.1=(((b+c:Nat):Int),(sts b c,(ls,())))∧Dr b c ls∧XK b c (b - 1) c ls∧∀n,b≤n→n < b+c→1≤cnt ls n∧cnt ls n≤if n < b+(i+1) then 2 else 1) ?_ ?_
  ·have keep:qu (some ((0:Nat),((q,((),())),((((b+c:Nat):Int),(sts b c,(ls,()))),())))) fun x=>x.2.1.1=q∧∃ls,x.2.2.1=(((b+c:Nat):Int),(sts b c,(ls,())))∧Dr b c ls∧XK b c (b - 1) c ls∧∀n,b≤n→n < b+c→1≤cnt ls n∧cnt ls n≤if n < b+(i+1) then 2 else 1:=
    za ⟨rfl,ls,rfl,dr,ba,fun n h1 h2=>by
     have:=hcn n h1 h2
     split at this<;>split<;>omega⟩
   refine zj (fun _=>?_) (fun _=>keep)
   refine znn (t:=tOf b c ls) dr.sz (a:=((b+i:Nat):Int)) (b:=(hh:Int)) hd.p hd.e rfl rfl (fun x y x0 x1 y0 y1 _=>keep) ?_
   intro x y x0 x1 y0 y1 h24 hlk hno
   refine za ⟨rfl,ls++[_],rfl,dr.add h24 hlk hno,ba.app _,fun n h1 h2=>?_⟩
   have h3:=hcn n h1 h2
   rw [zjJ]
   simp only
   rw [Ut (show hh≠n by omega)]
   by_cases h:n=b+i
   ·subst h
    rw [zy4]
    rw [if_neg (by omega)] at h3
    rw [if_pos (by omega)];omega
   ·rw [Ut (show b+i≠n by omega)]
    split at h3<;>split<;>omega
  ·rintro ⟨j,⟨q',⟨⟩,⟨⟩⟩,⟨u,⟨⟩⟩⟩ ⟨hq,ls',hu,dr,ba,hcn⟩
   simp only at hq hu
   subst hq hu
   exact za (ql ⟨ls',rfl,dr,ba,hcn⟩)
 ·rintro _ ⟨ls,rfl,dr,ba,hcn⟩
  exact ze (zG (show ¬(c:Int) < (c:Int) by omega)) (za (zq ⟨rfl,ls,rfl,dr,ba,fun n h1 h2=>by have:=hcn n h1 h2;rwa [if_pos h2] at this⟩))
 clear dr ba hl hcn
 rintro ⟨j,⟨q',⟨⟩,w',⟨⟩⟩,⟨u,⟨⟩⟩⟩ ⟨hq,ls0,hu,dr,ba,hcn⟩
 simp only at hq hu
 subst hq hu
 refine zk (J:=fun x=>∃ls,x.2.2.1=(((b+c:Nat):Int),(sts b c,(ls,())))∧Dr b c ls∧XK b c (b - 1) c ls∧∀n,b≤n→n < b+c→1≤cnt ls n∧cnt ls n≤2)
  (zl3 (fun s=>∃(i:Nat) (ls:List yh),s=((q',((),((i:Int),()))),((((b+c:Nat):Int),(sts b c,(ls,()))),()))∧i≤13∧Dr b c ls∧XK b c (b - 1) c ls∧∀n,b≤n→n < b+c→1≤cnt ls n∧cnt ls n≤2) _ (fun s=>20 - s.1.2.2.1.toNat) ⟨0,ls0,rfl,by omega,dr,ba,hcn⟩ (by show 20 - (0:Int).toNat < _;omega) ?_) ?_
 ·rintro _ ⟨i,ls,rfl,hi13,dr,ba,hcn⟩
  have eq:wrF .i64 ((i:Int)+1)=((i+1:Nat):Int):=qq (by omega)
  have eq2:wrF .i64 ((i:Int)+2)=((i+2:Nat):Int):=by rw [zD]<;>omega
  simp only [eq,eq2,bnz,cond_false]
  have out:qu (some (.inl ((0:Nat),((q',((),((i:Int),()))),((((b+c:Nat):Int),(sts b c,(ls,()))),()))):(Nat×(((znm)×(Unit×(Int×Unit)))×((Int×(List Bool×(List yh×Unit)))×Unit))) ⊕ (((znm)×(Unit×(Int×Unit)))×((Int×(List Bool×(List yh×Unit)))×Unit)))) (znL (fun s=>∃(i:Nat) (ls:List yh),s=((q',((),((i:Int),()))),((((b+c:Nat):Int),(sts b c,(ls,()))),()))∧i≤13∧Dr b c ls∧XK b c (b - 1) c ls∧∀n,b≤n→n < b+c→1≤cnt ls n∧cnt ls n≤2) (fun x=>∃ls,x.2.2.1=(((b+c:Nat):Int),(sts b c,(ls,())))∧Dr b c ls∧XK b c (b - 1) c ls∧∀n,b≤n→n < b+c→1≤cnt ls n∧cnt ls n≤2) (fun s=>20 - s.1.2.2.1.toNat) ((q',((),((i:Int),()))),((((b+c:Nat):Int),(sts b c,(ls,()))),()))):=
   za (zl2 ⟨ls,rfl,dr,ba,hcn⟩)
  refine zj (fun h1=>zj (fun h2=>?_) (fun _=>out)) (fun _=>out)
  have h1:=qn h1
  have h2:=qn (show zh (i:Int) 12=true from h2)
  have hx:q'.2.2.1[i]?=some (q'.2.2.1[i]'(by omega)):=List.getElem?_eq_getElem (by omega)
  have hy:q'.2.2.1[i+1]?=some (q'.2.2.1[i+1]'(by omega)):=List.getElem?_eq_getElem (by omega)
  have bx:=hd.c _ (List.getElem_mem (show i < q'.2.2.1.length by omega))
  have hyb:=hd.c _ (List.getElem_mem (show i+1 < q'.2.2.1.length by omega))
  generalize (q'.2.2.1[i]'(by omega))=x at hx bx
  generalize (q'.2.2.1[i+1]'(by omega))=y at hy hyb
  refine zg (zx (n:=i) hx (zg (zx (n:=i+1) hy ?_)))
  have ex:wrF .i64 x=x:=zD (by omega) (by omega)
  have ey:wrF .i64 y=y:=zD (by omega) (by omega)
  simp only [ex,ey]
  obtain ⟨m,em,hmb⟩:∃hh:Nat,Int.tmod x (b:Int)=(hh:Int)∧hh < b:=⟨(x % (b:Int)).toNat,by rw [Int.tmod_eq_emod_of_nonneg bx.1];have:=Int.emod_nonneg x (show (b:Int)≠0 by omega);omega,by have:=Int.emod_lt_of_pos x (show 0 < (b:Int) by omega);have:=Int.emod_nonneg x (show (b:Int)≠0 by omega);omega⟩
  obtain ⟨n,en,hnb⟩:∃hh:Nat,Int.tmod y (b:Int)=(hh:Int)∧hh < b:=⟨(y % (b:Int)).toNat,by rw [Int.tmod_eq_emod_of_nonneg hyb.1];have:=Int.emod_nonneg y (show (b:Int)≠0 by omega);omega,by have:=Int.emod_lt_of_pos y (show 0 < (b:Int) by omega);have:=Int.emod_nonneg y (show (b:Int)≠0 by omega);omega⟩
  simp only [em,en]
  refine znn (t:=tOf b c ls) dr.sz (a:=(m:Int)) (b:=(n:Int)) hd.p hd.e rfl rfl (fun x y x0 x1 y0 y1 _=>?_) ?_
  ·refine za (zb9 ⟨i+2,ls,rfl,by omega,dr,ba,hcn⟩ ?_)
   show 20 - (((i+2:Nat):Int)).toNat < 20 - ((i:Int)).toNat
   omega
  ·intro x y x0 x1 y0 y1 h24 hlk hno
   refine za (zb9 ⟨i+2,ls++[_],rfl,by omega,dr.add h24 hlk hno,ba.app _,fun k h1 h2=>?_⟩ ?_)
   ·rw [zjJ]
    simp only
    rw [Ut (show m≠k by omega),Ut (show n≠k by omega)]
    have:=hcn k h1 h2
    omega
   ·show 20 - (((i+2:Nat):Int)).toNat < 20 - ((i:Int)).toNat
    omega
 ·rintro ⟨j,⟨q,⟨⟩,w',⟨⟩⟩,⟨u,⟨⟩⟩⟩ ⟨ls,hu,dr,ba,hcn⟩
  simp only at hu
  subst hu
  refine za ⟨ls,rfl,zC1 dr ba hcn,?_⟩
  obtain ⟨h,p,d',e,_⟩:=ba.ho 0 (by omega)
  have:b - 1+0 < ls.length:=by grind
  omega
def YP (t:qi) (n:Int):List Int:=((List.range (2*t.2.2.length)).map fun (p:Nat)=>(p:Int)).filter fun p=>frm t p == n
theorem zvs (t:qi) (n:Int):∀p∈YP t n,jG t p:=by
 intro p hp
 unfold YP at hp
 obtain ⟨k,hk,rfl⟩:=List.mem_map.1 (List.mem_filter.1 hp).1
 have:=List.mem_range.1 hk
 exact ⟨by omega,by omega⟩
theorem zsT (t:qi) (n:Int):(YP t n).length≤2*t.2.2.length:=by
 unfold YP
 have:=List.length_filter_le (fun p=>frm t p == n) ((List.range (2*t.2.2.length)).map fun (p:Nat)=>(p:Int))
 simpa using this
theorem VD {t:qi} (hl:t.2.2.length≤24) (n:Int):JD (t,n,())=some (YP t n,()):=by
 have hll:t.2.2.length≤1000000000000000:=by omega
 rw [zpE];unfold zdf
 rw [tw t hll]
 refine yb (zk (J:=fun x=>x.2.2.1=YP t n) (zW (2*t.2.2.length) (fun i s=>s=(((i:Int),()),((((List.range i).map fun (p:Nat)=>(p:Int)).filter fun p=>frm t p == n),()))) (by omega) rfl ?_ ?_) ?_)
 ·rintro i _ hi rfl
  have hp:jG t (i:Int):=⟨by omega,by omega⟩
  refine zd (zR (show (i:Int) < 2*(t.2.2.length:Int) by omega)) ?_
  have e:((List.range (i+1)).map fun (p:Nat)=>(p:Int)).filter (fun p=>frm t p == n)=(((List.range i).map fun (p:Nat)=>(p:Int)).filter fun p=>frm t p == n)++(if frm t (i:Int) == n then [(i:Int)] else []):=by
   rw [List.range_succ,List.map_append,List.filter_append]
   congr 1
   simp only [List.map_cons,List.map_nil,List.filter_cons,List.filter_nil]
  have hlen:(((List.range i).map fun (p:Nat)=>(p:Int)).filter fun p=>frm t p == n).length≤i:=by
   have:=List.length_filter_le (fun p=>frm t p == n) ((List.range i).map fun (p:Nat)=>(p:Int))
   simpa using this
  rw [Qu hll hp]
  refine zk (J:=fun x=>x.2.2.1=(((List.range (i+1)).map fun (p:Nat)=>(p:Int)).filter fun p=>frm t p == n)) ?_ ?_
  ·rw [e]
   refine zj (fun h=>?_) (fun h=>?_)
   ·have h:=qL h
    refine zd (yc (Nat.le_trans (Nat.mul_le_mul_right 8 (Nat.add_le_add_right hlen 1)) (by omega)) (Nat.le_trans (Nat.add_le_add_right hlen 1) (by omega))) (za ?_)
    rw [if_pos (by simpa using h)]
   ·have h:=jR h
    refine za ?_
    rw [if_neg (by simpa using h),List.append_nil]
  ·rintro ⟨j,⟨⟩,c,⟨⟩⟩ hc
   simp only at hc
   subst hc
   exact za (ql (congrArg (fun z=>((z,()),(_,()))) (qq (by omega))))
 ·rintro _ rfl
  exact ze (zG (show ¬((2*t.2.2.length:Nat):Int) < 2*(t.2.2.length:Int) by omega)) (za (zq rfl))
 ·rintro ⟨j,⟨z,⟨⟩⟩,c,⟨⟩⟩ hc
  exact za hc
noncomputable def Jt (t:qi) (ps seen:List Int):List Int:=ps.filter fun p=>!tv (too t p∈seen)
theorem zg3 {t:qi} (hll:t.2.2.length≤24) {ps seen:List Int} (hps:∀p∈ps,jG t p) (hpl:ps.length≤48) (hsl:seen.length≤100)
  {B:((Int×Unit)×((List Int)×((List Int)×Unit)))→Option ((Nat×((Int×Unit)×((List Int)×((List Int)×Unit)))) ⊕ ((Int×Unit)×((List Int)×((List Int)×Unit))))}
  (hB:B=fun s2=>bif (zh (s2.1.1) ((((ps).length:Nat):Int))) then opt (opt (atI (ps) (s2.1.1)) fun x3=>
        opt (yj ((t,(x3,())))) fun x4=>
        opt (yW ((s2.2.1,(x4.1,())))) fun x5=>
        bif (!x5.1) then opt (atI (ps) (s2.1.1)) fun x6=>
         bif (qT ((s2.2.2.1).length) (((x6::[])).length) (8)) then some (0,((),(s2.2.1,((s2.2.2.1++(x6::[])),()))))
         else none
        else some (0,((),(s2.2.1,(s2.2.2.1,()))))) fun x7=>
       some (.inr (((wrF .i64 ((s2.1.1+1))),()),(x7.2.2.1,(x7.2.2.2.1,()))))
      else some (.inl (0,((s2.1.1,()),(s2.2.1,(s2.2.2.1,())))))) :
  qu (zC B zK ((0,()),(seen,([],())))) fun x=>x.2.2.1=seen∧x.2.2.2.1=Jt t ps seen:=by
 have hl2:t.2.2.length≤1000000000000000:=by omega
 subst hB
 refine zW ps.length (fun i s=>s=(((i:Int),()),(seen,(Jt t (ps.take i) seen,())))) (by omega) rfl ?_ ?_
 ·rintro i _ hi rfl
  have hx:ps[i]?=some ps[i]:=List.getElem?_eq_getElem hi
  have hp:=hps _ (List.getElem_mem hi)
  generalize ps[i]=p at hx hp
  have hlen:(Jt t (ps.take i) seen).length≤48:=by
   unfold Jt
   have:=List.length_filter_le (fun p=>!tv (too t p∈seen)) (ps.take i)
   simp only [List.length_take] at this;omega
  have e:Jt t (ps.take (i+1)) seen=Jt t (ps.take i) seen++(if (!tv (too t p∈seen))=true then [p] else []):=by
   unfold Jt
   rw [List.take_add_one,hx,List.filter_append]
   congr 1
   simp only [Option.toList,List.filter_cons,List.filter_nil]
  refine zd (zR (show (i:Int) < (ps.length:Int) by omega)) (zk (J:=fun x=>x.2.2.1=seen∧x.2.2.2.1=Jt t (ps.take (i+1)) seen) ?_ ?_)
  ·refine zg (zx (n:=i) hx ?_)
   rw [Je hl2 hp,zw,zbg (by show seen.length≤_;omega),zw,e]
   refine zj (fun h=>?_) (fun h=>?_)
   ·refine zg (zx (n:=i) hx (zd (yc (by show ((Jt t (ps.take i) seen).length+1)*8≤_;omega) (by show (Jt t (ps.take i) seen).length+1≤_;omega)) (za ⟨rfl,?_⟩)))
    rw [if_pos h]
   ·refine za ⟨rfl,?_⟩
    have h:(!tv (too t p∈seen))=false:=h
    rw [h,if_neg (by simp),List.append_nil]
  ·rintro ⟨j,⟨⟩,c,c2,⟨⟩⟩ ⟨h1,h2⟩
   simp only at h1 h2
   subst h1 h2
   exact za (ql (congrArg (fun z=>((z,()),_)) (qq (by omega))))
 ·rintro _ rfl
  refine ze (zG (show ¬(ps.length:Int) < (ps.length:Int) by omega)) (za (zq ⟨rfl,?_⟩))
  show Jt t (ps.take ps.length) seen=_
  rw [List.take_length]
theorem zC2 {t:qi} (ht:jN t) {a k:Int} (a0:0≤a) (a1:a≤255) (k0:0≤k) (k1:k≤255):∃r,Zs (t,a,k,())=some (r,()):=by
 have n0:=ht.sz.n0;have n1:=ht.sz.n1;have hls:=ht.sz.ls
 have hll:t.2.2.length≤1000000000000000:=by omega
 suffices key:qu (Zs (t,a,k,())) fun _=>True by
  obtain ⟨⟨r,⟨⟩⟩,e,_⟩:=key
  exact ⟨r,e⟩
 have ew:wrF .i64 a=a:=zD (by omega) (by omega)
 have em:Int.tmod a t.1=a % t.1:=Int.tmod_eq_emod_of_nonneg a0
 have m0:=Int.emod_nonneg a (show t.1≠0 by omega)
 have m1:=Int.emod_lt_of_pos a (show 0 < t.1 by omega)
 rw [zrC];unfold zfd
 rw [ew,em]
 refine ze (qI (show t.1≠0 by omega)) ?_
 have stop:∀(r:Option Int) (at_:Int) (out seen:List Int),True:=fun _ _ _ _=>trivial
 refine zk (J:=fun s=>∃r at_ out seen,s=((t,(r,(at_,()))),(out,(seen,())))∧jf t at_∧out.length≤8∧seen.length=out.length+1∧(8≤out.length∨(out≠[]∧stn t at_=true)∨Jt t (YP t at_) seen=[]))
  (zl3 (fun s=>∃r at_ out seen,s=((t,(r,(at_,()))),(out,(seen,())))∧jf t at_∧out.length≤8∧seen.length=out.length+1) _ (fun s=>20 - s.2.1.length) ⟨[],a % t.1,[],[a % t.1],rfl,⟨m0,m1⟩,by simp,rfl⟩ (by show 20 - 0 < _;omega) ?_) ?_
 ·rintro _ ⟨r,at_,out,seen,rfl,hn,ho,hs⟩
  have hpl:=zsT t at_
  have hpo:=zvs t at_
  have fin:(8≤out.length∨(out≠[]∧stn t at_=true)∨Jt t (YP t at_) seen=[])→qu (some (.inl ((t,(r,(at_,()))),(out,(seen,()))):((qi×((List Int)×(Int×Unit)))×((List Int)×((List Int)×Unit))) ⊕ ((qi×((List Int)×(Int×Unit)))×((List Int)×((List Int)×Unit))))) (znL (fun s=>∃r at_ out seen,s=((t,(r,(at_,()))),(out,(seen,())))∧jf t at_∧out.length≤8∧seen.length=out.length+1) (fun s=>∃r at_ out seen,s=((t,(r,(at_,()))),(out,(seen,())))∧jf t at_∧out.length≤8∧seen.length=out.length+1∧(8≤out.length∨(out≠[]∧stn t at_=true)∨Jt t (YP t at_) seen=[])) (fun s=>20 - s.2.1.length) ((t,(r,(at_,()))),(out,(seen,())))):=fun h=>
   za (zl2 ⟨r,at_,out,seen,rfl,hn,ho,hs,h⟩)
  have step:out.length < 8→∀(seen' nx:List Int),seen'=seen→nx=Jt t (YP t at_) seen→qu (bif (zi ((((nx).length:Nat):Int)) (0)) then some (.inl ((t,(r,(at_,()))),(out,(seen,()))))
     else bif (zi ((((nx).length:Nat):Int)) (0)) then none
      else opt (atI (nx) ((Int.tmod (wrF .i64 (((wrF .i64 (k))+(wrF .i64 ((3*(((out).length:Nat):Int))))))) (((nx).length:Nat):Int)))) fun x9=>
       opt (gl (nx) ((Int.toNat (Int.tmod (wrF .i64 (((wrF .i64 (k))+(wrF .i64 ((3*(((out).length:Nat):Int))))))) (((nx).length:Nat):Int))))) fun x10=>
       bif (qT ((out).length) (((x10::[])).length) (8)) then opt (yj ((t,(x10,())))) fun x11=>
        bif (qT ((seen').length) (((x11.1::[])).length) (8)) then some (.inr ((t,(r,(x11.1,()))),((out++(x10::[])),((seen'++(x11.1::[])),()))))
        else none
       else none) (znL (fun s=>∃r at_ out seen,s=((t,(r,(at_,()))),(out,(seen,())))∧jf t at_∧out.length≤8∧seen.length=out.length+1) (fun s=>∃r at_ out seen,s=((t,(r,(at_,()))),(out,(seen,())))∧jf t at_∧out.length≤8∧seen.length=out.length+1∧(8≤out.length∨(out≠[]∧stn t at_=true)∨Jt t (YP t at_) seen=[])) (fun s=>20 - s.2.1.length) ((t,(r,(at_,()))),(out,(seen,())))):=by
   intro h8 seen' nx e1 e2
   subst e1
   refine zj (fun h=>fin (.inr (.inr ?_))) (fun h=>?_)
   ·have h:=qL h
    rw [←e2];exact List.length_eq_zero_iff.1 (by omega)
   have hz:(nx.length:Int)≠0:=jR h
   have ek:wrF .i64 k=k:=zD (by omega) (by omega)
   have e3:wrF .i64 (3*(out.length:Int))=3*(out.length:Int):=zD (by omega) (by omega)
   have e4:wrF .i64 (k+3*(out.length:Int))=k+3*(out.length:Int):=zD (by omega) (by omega)
   rw [ek,e3,e4,Int.tmod_eq_emod_of_nonneg (by omega)]
   have i0:=Int.emod_nonneg (k+3*(out.length:Int)) hz
   have i1:=Int.emod_lt_of_pos (k+3*(out.length:Int)) (show 0 < (nx.length:Int) by omega)
   refine ze (qI hz) (zg (qK i0 i1 fun _ _=>zg (jQ (by omega) fun p hp=>?_)))
   have hpt:jG t p:=by
    have:=List.mem_of_getElem? hp
    rw [e2] at this
    exact hpo p (List.mem_filter.1 this).1
   refine zd (yc (by show (out.length+1)*8≤_;omega) (by show out.length+1≤_;omega)) ?_
   rw [Je hll hpt,zw]
   refine zd (yc (by show (seen'.length+1)*8≤_;omega) (by show seen'.length+1≤_;omega)) (za (zb9 ⟨r,too t p,out++[p],seen'++[too t p],rfl,(GB ht.ls hpt).2.1,by simp;omega,by simp;omega⟩ ?_))
   show 20 - (out++[p]).length < 20 - out.length
   simp;omega
  refine zj (fun h8=>?_) (fun h8=>fin (.inl ?_))
  rotate_left
  ·have h8:(8:Int)≤(out.length:Int):=qw h8
   omega
  have h8:(out.length:Int) < 8:=qn h8
  refine zj (fun hz=>?_) (fun hz=>?_)
  ·rw [VD hls,zw]
   refine zk (zg3 hls hpo (by omega) (by show seen.length≤_;omega) rfl) ?_
   rintro ⟨j,⟨z,⟨⟩⟩,c,c2,⟨⟩⟩ ⟨h1,h2⟩
   exact step (by omega) c c2 h1 h2
  ·have hz:(out.length:Int)≠0:=jR hz
   refine zg (qj (a:=stn t at_) (by show atI t.2.1 at_=_;rw [show at_=((at_.toNat:Nat):Int) from (by have:=hn.1;omega),wR (n:=at_.toNat)];exact hn.get ht.sz) ?_)
   refine zj (fun hst=>?_) (fun hst=>fin (.inr (.inl ⟨fun e=>?_,by simpa using hst⟩)))
   ·rw [VD hls,zw]
    refine zk (zg3 hls hpo (by omega) (by show seen.length≤_;omega) rfl) ?_
    rintro ⟨j,⟨z,⟨⟩⟩,c,c2,⟨⟩⟩ ⟨h1,h2⟩
    exact step (by omega) c c2 h1 h2
   ·rw [e] at hz;exact hz rfl
 ·rintro _ ⟨r,at_,out,seen,rfl,hn,ho,hs,hstop⟩
  have hpl:=zsT t at_
  have hpo:=zvs t at_
  refine zj (fun h8=>?_) (fun _=>za trivial)
  have h8:(out.length:Int) < 8:=qn h8
  refine zj (fun hz=>?_) (fun hz=>?_)
  ·have hz:(out.length:Int)=0:=qL hz
   have hnx:Jt t (YP t at_) seen=[]:=by
    rcases hstop with h | ⟨h,_⟩ | h
    ·omega
    ·exact absurd (List.length_eq_zero_iff.1 (by omega)) h
    ·exact h
   rw [VD hls,zw]
   refine zk (zg3 hls hpo (by omega) (by show seen.length≤_;omega) rfl) ?_
   rintro ⟨j,⟨z,⟨⟩⟩,c,c2,⟨⟩⟩ ⟨h1,h2⟩
   simp only at h1 h2
   rw [hnx] at h2
   subst h2
   exact zd rfl (za trivial)
  ·refine zg (qj (a:=stn t at_) (by show atI t.2.1 at_=_;rw [show at_=((at_.toNat:Nat):Int) from (by have:=hn.1;omega),wR (n:=at_.toNat)];exact hn.get ht.sz) ?_)
   refine zj (fun hst=>?_) (fun _=>za trivial)
   have hnx:Jt t (YP t at_) seen=[]:=by
    rcases hstop with h | ⟨_,h⟩ | h
    ·omega
    ·rw [h] at hst;cases hst
    ·exact h
   rw [VD hls,zw]
   refine zk (zg3 hls hpo (by omega) (by show seen.length≤_;omega) rfl) ?_
   rintro ⟨j,⟨z,⟨⟩⟩,c,c2,⟨⟩⟩ ⟨h1,h2⟩
   simp only at h1 h2
   rw [hnx] at h2
   subst h2
   exact zd rfl (za trivial)
theorem zwQ (z:Int):0≤wrF .u8 z∧wrF .u8 z≤255:=by
 rw [Ug,IntKind.wrap_u8];omega
theorem zy5 {t:qi} (hs:szP t) {n:Int} (hn:jf t n):atI t.2.1 n=some (stn t n):=by
 have e:n=((n.toNat:Nat):Int):=by have:=hn.1;omega
 rw [e,wR (n:=n.toNat)]
 rw [←e];exact hn.get hs
theorem zvt {α:Type} {l:List α} (h:1≤l.length):zq2 l=true:=by
 cases l with
 |nil=>simp at h
 |cons a b=>rfl
theorem zC3 {t:qi} (ht:jN t) (nd w:Int)
  {B:(((Int×((List Bool)×(List (Int×(Int×(Int×Int))))))×((List Int)×(Int×Unit)))×Unit)→Option ((Nat×(((Int×((List Bool)×(List (Int×(Int×(Int×Int))))))×((List Int)×(Int×Unit)))×Unit)) ⊕ (((Int×((List Bool)×(List (Int×(Int×(Int×Int))))))×((List Int)×(Int×Unit)))×Unit))}
  (hB:B=fun s3:(((Int×((List Bool)×(List (Int×(Int×(Int×Int))))))×((List Int)×(Int×Unit)))×Unit)=>
   bif (zh (s3.1.2.2.1) (16)) then opt (Zs ((s3.1.1,((wrF .u8 (nd)),((wrF .u8 ((w+(wrF .u8 (s3.1.2.2.1))))),()))))) fun x4=>
    opt
      (bif (zh (0) ((((x4.1).length:Nat):Int))) then opt (vB ((s3.1.1,(x4.1,())))) fun x5=>
      bif x5.1 then opt (atI (x4.1) (0)) fun x6=>
       opt (jt ((s3.1.1,(x6,())))) fun x7=>
       opt (atI (s3.1.1.2.1) (x7.1)) fun x8=>
       bif x8 then opt (atI (x4.1) ((wrF .i64 (((((x4.1).length:Nat):Int) - 1))))) fun x9=>
        opt (yj ((s3.1.1,(x9,())))) fun x10=>
        opt (atI (s3.1.1.2.1) (x10.1)) fun x11=>
        bif x11 then some (1,((x4.1,()),()))
        else some (0,((s3.1.2.1,()),()))
       else some (0,((s3.1.2.1,()),()))
      else some (0,((s3.1.2.1,()),()))
     else some (0,((s3.1.2.1,()),()))) fun x12=>
    bif (Nat.beq x12.1 0) then some (.inr ((s3.1.1,(x12.2.1.1,((wrF .i64 ((s3.1.2.2.1+1))),()))),()))
    else some (.inl (1,((s3.1.1,(x12.2.1.1,(s3.1.2.2.1,()))),())))
   else some (.inl (0,((s3.1.1,(s3.1.2.1,(s3.1.2.2.1,()))),())))) :
  qu (zC B zK ((t,([],(0,()))),())) fun x=>x.1=0∨(x.1=1∧qV t x.2.1.2.1):=by
 have hll:t.2.2.length≤1000000000000000:=ht.ll
 subst hB
 refine zW 16 (fun i s=>s=((t,([],((i:Int),()))),())) (by omega) rfl ?_ ?_
 ·rintro i _ hi rfl
  refine zd (zR (show (i:Int) < 16 by omega)) ?_
  obtain ⟨r,hr⟩:=zC2 ht (zwQ nd).1 (zwQ nd).2 (zwQ (w+wrF .u8 (i:Int))).1 (zwQ (w+wrF .u8 (i:Int))).2
  rw [hr,zw]
  refine zk (J:=fun x=>(x.1=0∧x.2.1.1=[])∨(x.1=1∧qV t x.2.1.1)) ?_ ?_
  ·have stay:qu (some ((0:Nat),((([]:List Int),()),()))) (fun x=>(x.1=0∧x.2.1.1=[])∨(x.1=1∧qV t x.2.1.1)):=za (.inl ⟨rfl,rfl⟩)
   refine zj (fun h=>?_) (fun h=>stay)
   have h:=qn h
   rw [zgS ht,zw]
   refine zj (fun hv=>?_) (fun _=>stay)
   have hv:qV t r:=Zk hv
   have r0:=hv.n0;have r1:=hv.n1
   refine zg (qK (by omega) (by show (0:Int) < (r.length:Int);omega) fun p hp=>?_)
   have hpp:jG t p:=hv.pt p (List.mem_of_getElem? hp)
   rw [Qu hll hpp,zw]
   refine zg (qj (zy5 ht.sz (GB ht.ls hpp).1) ?_)
   refine zj (fun _=>?_) (fun _=>stay)
   have e:wrF .i64 ((r.length:Int) - 1)=(r.length:Int) - 1:=zD (by omega) (by omega)
   rw [e]
   refine zg (qK (by omega) (by show (r.length:Int) - 1 < (r.length:Int);omega) fun q hq=>?_)
   have hqp:jG t q:=hv.pt q (List.mem_of_getElem? hq)
   rw [Je hll hqp,zw]
   refine zg (qj (zy5 ht.sz (GB ht.ls hqp).2.1) ?_)
   exact zj (fun _=>za (.inr ⟨rfl,hv⟩)) (fun _=>stay)
  ·rintro ⟨n,⟨r',⟨⟩⟩,⟨⟩⟩ (⟨h1,h2⟩ | ⟨h1,h2⟩)
   ·simp only at h1 h2
    subst h1 h2
    exact zd rfl (za (ql (congrArg (fun z=>((t,([],(z,()))),())) (qq (by omega)))))
   ·simp only at h1 h2
    subst h1
    exact ze rfl (za (zq (.inr ⟨rfl,h2⟩)))
 ·rintro _ rfl
  exact ze (zG (show ¬(16:Int) < 16 by omega)) (za (zq (.inl rfl)))
abbrev zsU:=Bool×Bool×Int×Int×Int×Int×Int×Int
def sdP (d:zsU):Prop:=(0≤d.2.2.1∧d.2.2.1≤255)∧(0≤d.2.2.2.2.2.1∧d.2.2.2.2.2.1≤255)
theorem zzI {t:qi} (ht:jN t) {d:zsU} (hd:sdP d) (id:Int):∃s b,xy (d,t,id,())=some (s,b,()):=by
 have hll:t.2.2.length≤1000000000000000:=ht.ll
 have n0:=ht.sz.n0;have n1:=ht.sz.n1
 obtain ⟨⟨d0,d1⟩,d2,d3⟩:=hd
 suffices key:qu (xy (d,t,id,())) fun _=>True by
  obtain ⟨⟨s,b,⟨⟩⟩,e,_⟩:=key
  exact ⟨s,b,e⟩
 have m0:=Int.emod_nonneg d.2.2.1 (show t.1≠0 by omega)
 have m1:=Int.emod_lt_of_pos d.2.2.1 (show 0 < t.1 by omega)
 have ew:wrF .i64 d.2.2.1=d.2.2.1:=zD (by omega) (by omega)
 rw [zgg];unfold Xv
 rw [ew,Int.tmod_eq_emod_of_nonneg d0]
 refine ze (qI (show t.1≠0 by omega)) ?_
 refine zk (J:=fun _=>True) (zW t.1.toNat (fun i s=>∃n,jf t n∧s=((n,((i:Int),())),())) (by omega) ⟨_,⟨m0,m1⟩,rfl⟩ ?_ ?_) ?_
 ·rintro i _ hi ⟨n,hn,rfl⟩
  have:=hn.1;have:=hn.2
  refine zd (zR (show (i:Int) < t.1 by omega)) (zg (qj (zy5 ht.sz hn) ?_))
  refine zj (fun _=>?_) (fun _=>za (zq trivial))
  refine ze (qI (show t.1≠0 by omega)) (za (ql ⟨(n+1) % t.1,⟨Int.emod_nonneg _ (by omega),Int.emod_lt_of_pos _ (by omega)⟩,?_⟩))
  have e1:wrF .i64 (n+1)=n+1:=zD (by omega) (by omega)
  show ((Int.tmod (wrF .i64 (n+1)) t.1,(wrF .i64 ((i:Int)+1),())),())=_
  rw [e1,Int.tmod_eq_emod_of_nonneg (by omega),qq (by omega)]
 ·rintro _ ⟨n,hn,rfl⟩
  exact ze (zG (show ¬((t.1.toNat:Nat):Int) < t.1 by omega)) (za (zq trivial))
 rintro x2 -
 refine zk (zC3 ht x2.2.1.1 d.2.2.2.1 rfl) ?_
 rintro ⟨k,⟨tt,r,z,⟨⟩⟩,⟨⟩⟩ h
 rcases h with h | ⟨h,hr⟩
 ·exact zd (by show Nat.beq k 0=true;rw [show k=0 from h];rfl) (za trivial)
 have hr:qV t r:=hr
 have r0:=hr.n0;have r1:=hr.n1
 have er:wrF .i64 ((r.length:Int) - 1)=(r.length:Int) - 1:=zD (by omega) (by omega)
 refine ze (by show Nat.beq k 0=false;rw [show k=1 from h];rfl) (zd (zvt r0) ?_)
 refine zg (qK (by omega) (by show (0:Int) < (r.length:Int);omega) fun p hp=>?_)
 have hpp:jG t p:=hr.pt p (List.mem_of_getElem? hp)
 rw [Qu hll hpp,zw,er]
 refine zg (qK (by omega) (by show (r.length:Int) - 1 < (r.length:Int);omega) fun q hq=>?_)
 have hqp:jG t q:=hr.pt q (List.mem_of_getElem? hq)
 rw [Je hll hqp,zw]
 refine zk (J:=fun _=>True) ?_ ?_
 ·refine zj (fun _=>za trivial) (fun _=>?_)
  have p0:=Int.emod_nonneg d.2.2.2.2.2.1 (show (10:Int)≠0 by omega)
  have p1:=Int.emod_lt_of_pos d.2.2.2.2.2.1 (show 0 < (10:Int) by omega)
  rw [Int.tmod_eq_emod_of_nonneg d2]
  refine zg (qK p0 p1 fun _ _=>zg (jQ ?_ fun _ _=>za trivial))
  show (d.2.2.2.2.2.1 % 10).toNat < 10
  omega
 rintro x20 -
 refine zk (J:=fun x=>x.2.1.1=t) (zW 24 (fun i s=>∃F,s=((t,((),((i:Int),()))),F)) (by omega) ⟨_,rfl⟩ ?_ ?_) ?_
 ·rintro i _ hi ⟨F,rfl⟩
  refine zd (zR (show (i:Int) < 24 by omega)) ?_
  have out:∀{k:Nat} {z:Int} {F'},qu (some (.inl (k,((t,((),(z,()))),F')):((Nat×(((Int×((List Bool)×(List (Int×(Int×(Int×Int))))))×(Unit×(Int×Unit)))×((Int×(Int×(Int×(Int×(Int×(Int×((Int×Int)×(Int×((List (List Int))×Unit)))))))))×Unit))) ⊕ (((Int×((List Bool)×(List (Int×(Int×(Int×Int))))))×(Unit×(Int×Unit)))×((Int×(Int×(Int×(Int×(Int×(Int×((Int×Int)×(Int×((List (List Int))×Unit)))))))))×Unit))))) (Nxt (fun x=>x.2.1.1=t) fun s=>∃F,s=((t,((),(((i+1:Nat):Int),()))),F)):=za (zq rfl)
  have on:∀{F'},qu (some (.inr ((t,((),(wrF .i64 ((i:Int)+1),()))),F'):((Nat×(((Int×((List Bool)×(List (Int×(Int×(Int×Int))))))×(Unit×(Int×Unit)))×((Int×(Int×(Int×(Int×(Int×(Int×((Int×Int)×(Int×((List (List Int))×Unit)))))))))×Unit))) ⊕ (((Int×((List Bool)×(List (Int×(Int×(Int×Int))))))×(Unit×(Int×Unit)))×((Int×(Int×(Int×(Int×(Int×(Int×((Int×Int)×(Int×((List (List Int))×Unit)))))))))×Unit))))) (Nxt (fun x=>x.2.1.1=t) fun s=>∃F,s=((t,((),(((i+1:Nat):Int),()))),F)):=fun {F'}=>za (ql ⟨F',congrArg (fun z=>((t,((),(z,()))),F')) (qq (by omega))⟩)
  refine zj (fun _=>zj (fun h1=>?_) (fun _=>out)) (fun _=>out)
  have h1:((F.1.2.2.2.2.2.2.2.2.1.length:Nat):Int)=1:=qL h1
  refine zk (zC3 ht x2.2.1.1 (wrF .u8 (d.2.2.2.1+wrF .u8 (i:Int))) rfl) ?_
  rintro ⟨k2,⟨tt2,b,z2,⟨⟩⟩,⟨⟩⟩ h
  rcases h with h | ⟨h,hb⟩
  ·exact zd (by show Nat.beq k2 0=true;rw [show k2=0 from h];rfl) on
  have hb:qV t b:=hb
  have b0:=hb.n0;have b1:=hb.n1
  have eb:wrF .i64 ((b.length:Int) - 1)=(b.length:Int) - 1:=zD (by omega) (by omega)
  refine ze (by show Nat.beq k2 0=false;rw [show k2=1 from h];rfl) ?_
  refine zk (J:=fun _=>True) ?_ ?_
  ·refine zd (zvt b0) ?_
   rw [eb]
   refine zg (qK (by omega) (by show (b.length:Int) - 1 < (b.length:Int);omega) fun q hq=>?_)
   have hqp:jG t q:=hb.pt q (List.mem_of_getElem? hq)
   rw [Je hll hqp,zw]
   refine zj (fun _=>?_) (fun _=>za trivial)
   rw [zgT ht hr hb,zw]
   refine zj (fun _=>?_) (fun _=>za trivial)
   exact zd (yc (by show (F.1.2.2.2.2.2.2.2.2.1.length+1)*24≤_;omega) (by show F.1.2.2.2.2.2.2.2.2.1.length+1≤_;omega)) (za trivial)
  ·rintro x36 -
   exact on
 ·rintro _ ⟨F,rfl⟩
  exact ze (zG (show ¬(24:Int) < 24 by omega)) (za (zq rfl))
 rintro ⟨k3,⟨t3,⟨⟩,z3,⟨⟩⟩,F,⟨⟩⟩ h3
 have h3:t3=t:=h3
 subst h3
 rw [zgV ht,zw]
 exact za trivial
abbrev zGp:=List Int×List Int
abbrev ziA:=znm×List zGp×(Int×Int×Int)×Int×Int×List zsU×List Int
structure drP (d:ziA):Prop where
 t:tdP d.1
 g:∀x∈d.2.1,u8 x.1∧u8 x.2
 u:(0≤d.2.2.1.1∧d.2.2.1.1≤255)∧(0≤d.2.2.1.2.1∧d.2.2.1.2.1≤255)∧(0≤d.2.2.1.2.2∧d.2.2.1.2.2≤255)
 cap:0≤d.2.2.2.1∧d.2.2.2.1≤255
 most:0≤d.2.2.2.2.1∧d.2.2.2.2.1≤65535
 l:∀x∈d.2.2.2.2.2.1,sdP x
 ll:d.2.2.2.2.2.1.length*10≤140737488355328
theorem zy6 {d:ziA} (hd:drP d):∃l,xe (d,())=some (l,())∧l.length≤6:=by
 suffices key:qu (xe (d,())) fun r=>r.1.length≤6 by
  obtain ⟨⟨l,⟨⟩⟩,e,h⟩:=key
  exact ⟨l,e,h⟩
 have hll:=hd.ll
 have hl:=hd.l
 rw [zfl];unfold Ys
 refine zk (J:=fun x=>(∀y∈x.2.2.1,sdP y)∧x.2.2.1.length≤1000000000000000) (zW d.2.2.2.2.2.1.length (fun i s=>∃L:List zsU,s=(((i:Int),()),(L,()))∧L.length=i∧∀y∈L,sdP y) (by omega) ⟨[],rfl,rfl,fun y hy=>by cases hy⟩ ?_ ?_) ?_
 ·rintro i _ hi ⟨L,rfl,hL,hs⟩
  refine zd (zR (show (i:Int) < (d.2.2.2.2.2.1.length:Int) by omega)) (zg (qK (by show 0≤(i:Int);omega) (by show (i:Int) < (d.2.2.2.2.2.1.length:Int);omega) fun x hx=>?_))
  have hx:=hl x (List.mem_of_getElem? hx)
  refine zd (yc (by show (L.length+1)*10≤_;omega) (by show L.length+1≤_;omega)) (za (ql ⟨L++[(true,x.2)],congrArg (fun z=>((z,()),(L++[(true,x.2)],()))) (qq (by omega)),by simp [hL],fun y hy=>?_⟩))
  rcases List.mem_append.1 hy with h | h
  ·exact hs y h
  ·rw [List.mem_singleton.1 h];exact hx
 ·rintro _ ⟨L,rfl,hL,hs⟩
  exact ze (zG (show ¬((d.2.2.2.2.2.1.length:Nat):Int) < (d.2.2.2.2.2.1.length:Int) by omega)) (za (zq ⟨hs,by show L.length≤_;omega⟩))
 rintro ⟨k,⟨z,⟨⟩⟩,L,⟨⟩⟩ ⟨hs,hL⟩
 simp only at hs hL
 obtain ⟨b,c,ls,et,ht,h1⟩:=zsS hd.t
 rw [et,zw]
 generalize tOf b c ls=t at ht
 refine zk (J:=fun x=>x.2.2.2.1.length≤6) (zW L.length (fun i s=>∃out:List qO,s=((t,((i:Int),())),(L,(out,())))∧out.length≤6) (by omega) ⟨[],rfl,by simp⟩ ?_ ?_) ?_
 ·rintro i _ hi ⟨out,rfl,ho⟩
  have hx:L[i]?=some L[i]:=List.getElem?_eq_getElem hi
  have hxs:=hs _ (List.getElem_mem hi)
  generalize L[i]=x at hx hxs
  refine zd (zR (show (i:Int) < (L.length:Int) by omega)) (zj (fun h6=>?_) (fun _=>za (zq ho)))
  have h6:(out.length:Int) < 6:=qn h6
  refine zg (zx (n:=i) hx (zg (qj (a:=x) (by show gl L (Int.toNat (i:Int))=_;rw [Int.toNat_natCast,xw];exact hx) ?_)))
  obtain ⟨s,is,es⟩:=zzI ht hxs (wrF .i64 ((out.length:Int)+1))
  rw [es,zw]
  refine zk (J:=fun x=>x.2.2.1.length≤6) (zj (fun _=>zd (yc (by show (out.length+1)*96≤_;omega) (by show out.length+1≤_;omega)) (za ?_)) (fun _=>za ho)) ?_
  ·show (out++[s]).length≤6
   simp;omega
  ·rintro ⟨k,⟨⟩,o2,⟨⟩⟩ h2
   exact za (ql ⟨o2,congrArg (fun z=>((t,(z,())),(L,(o2,())))) (qq (by omega)),h2⟩)
 ·rintro _ ⟨out,rfl,ho⟩
  exact ze (zG (show ¬((L.length:Nat):Int) < (L.length:Int) by omega)) (za (zq ho))
 rintro ⟨k,⟨t2,z,⟨⟩⟩,L2,out,⟨⟩⟩ h6
 have h6:out.length≤6:=h6
 refine zk (J:=fun x=>x.2.2.1.length≤6) (zW out.length (fun i s=>∃o:List qO,s=(((i:Int),()),(o,()))∧o.length=out.length) (by omega) ⟨out,rfl,rfl⟩ ?_ ?_) ?_
 ·rintro i _ hi ⟨o,rfl,ho⟩
  refine zd (zR (show (i:Int) < (o.length:Int) by omega)) (zk (J:=fun x=>x.2.2.1.length=out.length) ?_ ?_)
  ·refine zj (fun h=>?_) (fun _=>za ho)
   have h:(i:Int) < (d.2.2.2.2.2.2.length:Int):=qn h
   refine zg (qK (by show 0≤(i:Int);omega) h fun x hx=>zj (fun _=>?_) (fun _=>za ho))
   refine zg (qK (by show 0≤(i:Int);omega) h fun y hy=>zg (qK (by show 0≤(i:Int);omega) (by show (i:Int) < (o.length:Int);omega) fun y hy=>zg (jQ (by show i < o.length;omega) fun y hy=>za ?_)))
   show (List.set _ _ _).length=_
   rw [List.length_set];exact ho
  ·rintro ⟨k,⟨⟩,o2,⟨⟩⟩ h2
   exact za (ql ⟨o2,congrArg (fun z=>((z,()),(o2,()))) (qq (by omega)),h2⟩)
 ·rintro _ ⟨o,rfl,ho⟩
  exact ze (zG (show ¬((out.length:Nat):Int) < (o.length:Int) by omega)) (za (zq (by show o.length≤6;omega)))
 rintro ⟨k,⟨z,⟨⟩⟩,o,⟨⟩⟩ ho
 exact za ho
def zjK (e:Int×Int):Prop:=(0≤e.1∧e.1≤255)∧(1≤e.2∧e.2≤1100)
def m40 (e:Int×Int):Int×Int:=(e.1,40*e.2)
theorem zy7 (l:List (Int×Int)) (x:Int×Int):qG (l++[x])=qG l+x.2:=by
 unfold qG;simp
theorem znp {l:List (Int×Int)} (h:∀e∈l,zjK e):0≤qG l∧qG l≤1100*l.length:=by
 unfold qG
 induction l with
 |nil=>simp
 |cons a l ih=>
  obtain ⟨_,h1,h2⟩:=h a (by simp)
  have:=ih fun e he=>h e (by simp [he])
  simp only [List.map_cons,List.sum_cons,List.length_cons]
  omega
theorem zFS (l:List (Int×Int)):qG (l.map m40)=40*qG l:=by
 unfold qG
 induction l with
 |nil=>rfl
 |cons a l ih=>
  simp only [List.map_cons,List.sum_cons,ih,m40]
  omega
theorem zFT {l:List (Int×Int)} (h:∀e∈l,zjK e) (h0:1≤l.length) (h1:l.length≤10):qx (l,qG l):=by
 have:=znp h
 exact ⟨h0,by show l.length≤128;omega,fun e he=>by obtain ⟨⟨a,b⟩,c,d⟩:=h e he;exact ⟨a,b,c,by omega⟩,rfl,by show qG l≤9600000;omega⟩
theorem zEB {l:List (Int×Int)} (h:∀e∈l,zjK e) (h0:1≤l.length) (h1:l.length≤10):qx (l.map m40,40*qG l):=by
 have:=znp h
 refine ⟨by simpa using h0,by show (l.map m40).length≤128;simp;omega,fun e he=>?_,zFS l,by show 40*qG l≤9600000;omega⟩
 obtain ⟨x,hx,rfl⟩:=List.mem_map.1 he
 obtain ⟨⟨a,b⟩,c,d⟩:=h x hx
 exact ⟨a,b,by show 1≤40*x.2;omega,by show 40*x.2≤9600000;omega⟩
theorem zGq {d:ziA} (hd:drP d):∃n,vN (d,())=some (n,())∧zjH n∧1≤n.1.2.2.length:=by
 suffices key:qu (vN (d,())) fun r=>zjH r.1∧1≤r.1.1.2.2.length by
  obtain ⟨⟨l,⟨⟩⟩,e,h⟩:=key
  exact ⟨l,e,h⟩
 obtain ⟨⟨u0,u1⟩,⟨u2,u3⟩,u4,u5⟩:=hd.u
 obtain ⟨c0,c1⟩:=hd.cap
 obtain ⟨m0,m1⟩:=hd.most
 obtain ⟨b,c,ls,et,ht,hls⟩:=zsS hd.t
 have hl1:1≤(tOf b c ls).2.2.length:=hls
 have es:ZC (d.2.2.1.1,d.2.2.1.2.1,d.2.2.1.2.2,())=some ((100+20*d.2.2.1.1,d.2.2.1.2.1 % 40,d.2.2.1.2.2,8000),()):=by
  rw [zl9];unfold zaA
  have e1:wrF .i64 d.2.2.1.1=d.2.2.1.1:=zD (by omega) (by omega)
  have e2:wrF .i64 (20*d.2.2.1.1)=20*d.2.2.1.1:=zD (by omega) (by omega)
  have e3:wrF .i64 (100+20*d.2.2.1.1)=100+20*d.2.2.1.1:=zD (by omega) (by omega)
  have e4:wrF .i64 (d.2.2.1.2.1 % 40)=d.2.2.1.2.1 % 40:=zD (by omega) (by omega)
  have e5:wrF .i64 d.2.2.1.2.2=d.2.2.1.2.2:=zD (by omega) (by omega)
  simp only [e1,e2,e3,Int.tmod_eq_emod_of_nonneg u2,e4,e5]
 rw [zjf];unfold KW
 rw [et,zw,es,zw]
 have hl24:=ht.sz.ls
 generalize tOf b c ls=t at ht hl1 hl24
 have e1:wrF .i64 d.2.2.2.1=d.2.2.2.1:=zD (by omega) (by omega)
 have e2:wrF .i64 (200*d.2.2.2.1)=200*d.2.2.2.1:=zD (by omega) (by omega)
 have e3:wrF .i64 (2000+200*d.2.2.2.1)=2000+200*d.2.2.2.1:=zD (by omega) (by omega)
 have e4:wrF .i64 (d.2.2.2.2.1 % 500)=d.2.2.2.2.1 % 500:=zD (by omega) (by omega)
 have e5:wrF .i64 (339+d.2.2.2.2.1 % 500)=339+d.2.2.2.2.1 % 500:=zD (by omega) (by omega)
 have e6:wrF .i64 (2*((t.2.2.length:Nat):Int))=((2*t.2.2.length:Nat):Int):=by rw [zD]<;>omega
 simp only [e1,e2,e3,Int.tmod_eq_emod_of_nonneg m0,e4,e5]
 have hu:Jh (100+20*d.2.2.1.1,d.2.2.1.2.1 % 40,d.2.2.1.2.2,2000+200*d.2.2.2.1):=⟨⟨by show 1≤100+20*d.2.2.1.1;omega,by show 100+20*d.2.2.1.1≤10000;omega⟩,⟨by show 0≤d.2.2.1.2.1 % 40;omega,by show d.2.2.1.2.1 % 40≤1000;omega⟩,⟨u4,by show d.2.2.1.2.2≤10000;omega⟩,⟨by show 1542≤2000+200*d.2.2.2.1;omega,by show 2000+200*d.2.2.2.1≤65536;omega⟩⟩
 have hm:84≤339+d.2.2.2.2.1 % 500∧339+d.2.2.2.2.1 % 500≤1542:=⟨by omega,by omega⟩
 generalize 339+d.2.2.2.2.1 % 500=most at hm
 generalize hU:(100+20*d.2.2.1.1,d.2.2.1.2.1 % 40,d.2.2.1.2.2,2000+200*d.2.2.2.1)=U at hu
 refine zk (J:=fun x=>x.2.2.1.1=t∧Jh x.2.2.1.2.1∧x.2.2.1.2.2.1.length=2*t.2.2.length∧(∀g∈x.2.2.1.2.2.1,qx g)∧x.2.2.1.2.2.2.1=most)
  (zW (2*t.2.2.length) (fun i s=>∃gs:List Gts,s=((d,((),((i:Int),()))),((t,(U,(gs,(most,())))),()))∧gs.length=i∧∀g∈gs,qx g) (by omega) ⟨[],by rw [←hU];rfl,rfl,fun y hy=>by cases hy⟩ ?_ ?_) ?_
 ·rintro i _ hi ⟨gs,rfl,hg,hgs⟩
  refine zd (zR (by show (i:Int) < wrF .i64 (2*((t.2.2.length:Nat):Int));rw [e6];omega)) ?_
  refine zk (J:=fun x=>∃es cy,x.2.2.1=(es,(cy,()))∧es.length=1∧(∀e∈es,zjK e)∧cy=qG es) (zW 1 (fun k s=>∃es cy,s=(((),((k:Int),())),((es,(cy,())),()))∧es.length=k∧(∀e∈es,zjK e)∧cy=qG es) (by omega) ⟨[],0,rfl,rfl,fun y hy=>by (cases hy),rfl⟩ ?_ ?_) ?_
  ·rintro k _ hk ⟨es,cy,rfl,hl,he,hc⟩
   have:=znp he
   have hk0:k=0:=by omega
   subst hk0
   refine zd (by rw [JB,XY];exact zR (by show (0:Int) < 1;decide)) ?_
   refine zd (yc (by show (es.length+1)*16≤_;omega) (by show es.length+1≤_;omega)) (za (ql ⟨es++[(127,1)],cy+1,?_,by simp [hl],fun e h=>?_,by rw [zy7,hc]⟩))
   ·have e1:wrF .i64 (cy+1)=cy+1:=zD (by omega) (by omega)
    show (((),(wrF .i64 (0+1),())),((es++[(127,1)],(wrF .i64 (cy+1),())),()))=_
    rw [e1];rfl
   ·rcases List.mem_append.1 h with h | h
    ·exact he e h
    ·rw [List.mem_singleton.1 h];exact ⟨⟨by decide,by decide⟩,by decide,by decide⟩
  ·rintro _ ⟨es,cy,rfl,hl,he,hc⟩
   refine ze (by rw [JB,XY];exact zG (by show ¬(1:Int) < 1;decide)) (za (zq ⟨es,cy,rfl,hl,he,hc⟩))
  rintro ⟨k6,⟨⟨⟩,z6,⟨⟩⟩,E6,⟨⟩⟩ ⟨es,cy,e,hl,he,hc⟩
  have e:E6=(es,(cy,())):=e
  subst e
  have hg6:qx (es,cy):=by rw [hc];exact zFT he (by omega) (by omega)
  refine zk (J:=fun x=>x.2.1.1=d∧qx (x.2.2.1.1,x.2.2.1.2.1)) ?_ ?_
  ·refine zj (fun hG=>zj (fun _=>?_) (fun _=>za ⟨rfl,hg6⟩)) (fun _=>za ⟨rfl,hg6⟩)
   have hG:(0:Int) < (d.2.1.length:Int):=qn hG
   have p0:=Int.emod_nonneg (i:Int) (show (d.2.1.length:Int)≠0 by omega)
   have p1:=Int.emod_lt_of_pos (i:Int) hG
   refine ze (qI (show (d.2.1.length:Int)≠0 by omega)) (zg ?_)
   rw [Int.tmod_eq_emod_of_nonneg (by show 0≤(i:Int);omega)]
   refine qK p0 p1 fun x hx=>?_
   obtain ⟨gx1,gx2⟩:=hd.g x (List.mem_of_getElem? hx)
   have en:∃N:Nat,ur 1 (jB ((x.1.length:Nat):Int) 10)=(N:Int)∧1≤N∧N≤10:=⟨(ur 1 (jB ((x.1.length:Nat):Int) 10)).toNat,by rw [JB,XY];omega,by rw [JB,XY];omega,by rw [JB,XY];omega⟩
   obtain ⟨N,eN,N1,N2⟩:=en
   refine zk (J:=fun x=>∃es cy,x.2.2.1=(es,(cy,()))∧es.length=N∧(∀e∈es,zjK e)∧cy=qG es) (zW N (fun k s=>∃es cy,s=(((),((k:Int),())),((es,(cy,())),()))∧es.length=k∧(∀e∈es,zjK e)∧cy=qG es) (by omega) ⟨[],0,rfl,rfl,fun y hy=>by (cases hy),rfl⟩ ?_ ?_) ?_
   ·rintro k _ hk ⟨es,cy,rfl,hl,he,hc⟩
    have hq:=znp he
    refine zd (by show zh (k:Int) (ur 1 (jB ((x.1.length:Nat):Int) 10))=true;rw [eN];exact zR (by omega)) ?_
    refine zk (J:=fun x=>(0≤x.2.1.1.1∧x.2.1.1.1≤255)∧x.2.1.1.2=1) ?_ ?_
    ·refine zj (fun h=>?_) (fun _=>za ⟨⟨by show (0:Int)≤127;decide,by show (127:Int)≤255;decide⟩,rfl⟩)
     have h:(k:Int) < (x.1.length:Int):=qn h
     refine zg (qK (by show 0≤(k:Int);omega) h fun y hy=>?_)
     obtain ⟨y0,y1⟩:=gx1 y (List.mem_of_getElem? hy)
     rw [Int.tmod_eq_emod_of_nonneg y0]
     have p0:=Int.emod_nonneg y (show (6:Int)≠0 by omega)
     have p1:=Int.emod_lt_of_pos y (show 0 < (6:Int) by omega)
     refine zg (qK p0 p1 fun _ _=>zg (jQ (by show (y % 6).toNat < 6;omega) fun v hv=>za ⟨?_,rfl⟩))
     have:=List.mem_of_getElem? hv
     simp at this
     show 0≤v∧v≤255
     omega
    rintro ⟨k12,⟨⟨a,b⟩,⟨⟩⟩,⟨⟩⟩ ⟨h12,hb⟩
    have hb:b=1:=hb
    subst hb
    have h12:0≤a∧a≤255:=h12
    refine zk (J:=fun x=>zjK x.2.1.1) ?_ ?_
    ·refine zj (fun h=>?_) (fun _=>za ⟨h12,by show (1:Int)≤1;decide,by show (1:Int)≤1100;decide⟩)
     have h:(k:Int) < (x.2.length:Int):=qn h
     refine zg (qK (by show 0≤(k:Int);omega) h fun y hy=>?_)
     obtain ⟨y0,y1⟩:=gx2 y (List.mem_of_getElem? hy)
     have e1:wrF .i64 y=y:=zD (by omega) (by omega)
     have e2:wrF .i64 (4*y)=4*y:=zD (by omega) (by omega)
     have e3:wrF .i64 (1+4*y)=1+4*y:=zD (by omega) (by omega)
     rw [e1,e2,e3]
     exact za ⟨h12,by show 1≤1+4*y;omega,by show 1+4*y≤1100;omega⟩
    rintro ⟨k14,⟨q,⟨⟩⟩,⟨⟩⟩ hq14
    have hq14:zjK q:=hq14
    refine zd (yc (by show (es.length+1)*16≤_;omega) (by show es.length+1≤_;omega)) (za (ql ⟨es++[q],cy+q.2,?_,by simp [hl],fun e h=>?_,by rw [zy7,hc]⟩))
    ·obtain ⟨_,q0,q1⟩:=hq14
     have e1:wrF .i64 (cy+q.2)=cy+q.2:=zD (by omega) (by omega)
     show (((),(wrF .i64 ((k:Int)+1),())),((es++[q],(wrF .i64 (cy+q.2),())),()))=_
     rw [e1,qq (by omega)]
    ·rcases List.mem_append.1 h with h | h
     ·exact he e h
     ·rw [List.mem_singleton.1 h];exact hq14
   ·rintro _ ⟨es,cy,rfl,hl,he,hc⟩
    exact ze (by show zh (N:Int) (ur 1 (jB ((x.1.length:Nat):Int) 10))=false;rw [eN];exact zG (by omega)) (za (zq ⟨es,cy,rfl,hl,he,hc⟩))
   rintro ⟨k15,⟨⟨⟩,z15,⟨⟩⟩,E15,⟨⟩⟩ ⟨es,cy,e,hl,he,hc⟩
   have e:E15=(es,(cy,())):=e
   subst e
   have hq:=znp he
   refine zk (J:=fun x=>x.2.2.1=(es.map m40,(cy,()))) (zW es.length (fun k s=>∃f:List (Int×Int),s=(((),((k:Int),())),((f,(cy,())),()))∧f.length=es.length∧∀j,f[j]?=if j < k then (es[j]?).map m40 else es[j]?) (by omega) ⟨es,rfl,rfl,fun j=>by simp⟩ ?_ ?_) ?_
   ·rintro k _ hk ⟨f,rfl,hf,hj⟩
    have hx2:f[k]?=some es[k]:=by rw [hj k,if_neg (by omega)];exact List.getElem?_eq_getElem hk
    have he2:=he _ (List.getElem_mem hk)
    have hx3:es[k]?=some es[k]:=List.getElem?_eq_getElem hk
    generalize es[k]=v at hx2 he2 hx3
    have hgl:gl f (Int.toNat (k:Int))=some v:=by rw [Int.toNat_natCast,xw];exact hx2
    refine zd (zR (by show (k:Int) < (f.length:Int);omega)) ?_
    refine zg (zx (n:=k) hx2 ?_)
    refine zg (qj hgl ?_)
    refine zg (zx (n:=k) hx2 ?_)
    refine zg (qj hgl ?_)
    refine za (ql ⟨f.set k (m40 v),?_,by simp [hf],fun j=>?_⟩)
    ·obtain ⟨_,q0,q1⟩:=he2
     have e1:wrF .i64 (40*v.2)=40*v.2:=zD (by omega) (by omega)
     show (((),(wrF .i64 ((k:Int)+1),())),((f.set (Int.toNat (k:Int)) (v.1,wrF .i64 (40*v.2)),(cy,())),()))=_
     rw [e1,qq (by omega),Int.toNat_natCast];rfl
    ·rw [List.getElem?_set,hj j]
     by_cases h1:k=j
     ·subst h1
      rw [if_pos rfl,if_pos (by omega),if_pos (by omega),hx3];rfl
     ·rw [if_neg h1]
      by_cases h2:j < k
      ·rw [if_pos h2,if_pos (by omega)]
      ·rw [if_neg h2,if_neg (by omega)]
   ·rintro _ ⟨f,rfl,hf,hj⟩
    refine ze (zG (by show ¬((es.length:Nat):Int) < (f.length:Int);omega)) (za (zq ?_))
    show (f,(cy,()))=_
    congr 1
    refine List.ext_getElem? fun j=>?_
    rw [hj j,List.getElem?_map]
    by_cases h:j < es.length
    ·rw [if_pos h]
    ·rw [if_neg h,List.getElem?_eq_none (by omega)];rfl
   rintro ⟨k21,⟨⟨⟩,z21,⟨⟩⟩,E21,⟨⟩⟩ e
   have e:E21=(es.map m40,(cy,())):=e
   subst e
   have e1:wrF .i64 (40*cy)=40*cy:=zD (by omega) (by omega)
   refine za ⟨rfl,?_⟩
   show qx (es.map m40,wrF .i64 (40*cy))
   rw [e1,hc]
   exact zEB he (by omega) (by omega)
  rintro ⟨k22,⟨d2,z22⟩,⟨es2,cy2,⟨⟩⟩,⟨⟩⟩ ⟨h1,h2⟩
  have h1:d2=d:=h1
  subst h1
  have h2:qx (es2,cy2):=h2
  refine zd (yc (by show (gs.length+1)*32≤_;omega) (by show gs.length+1≤_;omega)) (za (ql ⟨gs++[(es2,cy2)],congrArg (fun z=>((d2,((),(z,()))),((t,(U,(gs++[(es2,cy2)],(most,())))),()))) (qq (by omega)),by simp [hg],fun g h=>?_⟩))
  rcases List.mem_append.1 h with h | h
  ·exact hgs g h
  ·rw [List.mem_singleton.1 h];exact h2
 ·rintro _ ⟨gs,rfl,hg,hgs⟩
  refine ze (zG (by show ¬((2*t.2.2.length:Nat):Int) < wrF .i64 (2*((t.2.2.length:Nat):Int));rw [e6];omega)) (za (zq ⟨rfl,hu,hg,hgs,rfl⟩))
 rintro ⟨k,z,⟨t2,u2,gs,m2,⟨⟩⟩,⟨⟩⟩ ⟨h1,h2,h3,h4,h5⟩
 have h1:t2=t:=h1
 have h5:m2=most:=h5
 subst h1 h5
 have h3:gs.length=2*t2.2.2.length:=h3
 exact za ⟨⟨ht,h2,h4,by show ((gs.length:Nat):Int)=2*(t2.2.2.length:Int);omega,hm.1,hm.2⟩,hl1⟩
theorem zEC (a:Int):zi a a=true:=uh rfl
theorem GY (b:Int×Int) (l:List (Int×Int)):jv (b::l)=(b.1+(jv l).1,b.2+(jv l).2):=by
 unfold jv;simp
theorem zC4 {a b:List (Int×Int)} (h:a.Perm b):jv a=jv b:=by
 induction h with
 |nil=>rfl
 |cons x _ ih=>rw [GY,GY,ih]
 |swap x y l=>simp only [GY];congr 1<;>omega
 |trans _ _ h1 h2=>exact h1.trans h2
theorem zED {a b:List (Int×Int)} (h:a.Sublist b) (hb:∀x∈b,wc x):(jv a).1≤(jv b).1∧(jv a).2≤(jv b).2:=by
 induction h with
 |slnil=>exact ⟨Int.le_refl _,Int.le_refl _⟩
 |cons x _ ih=>
  obtain ⟨⟨h1,_⟩,h2,_⟩:=hb x (by simp)
  have:=ih fun y hy=>hb y (by simp [hy])
  rw [GY]
  exact ⟨by show _≤x.1+_;omega,by show _≤x.2+_;omega⟩
 |cons_cons x _ ih=>
  have:=ih fun y hy=>hb y (by simp [hy])
  rw [GY,GY]
  exact ⟨by show x.1+_≤x.1+_;omega,by show x.2+_≤x.2+_;omega⟩
theorem znq {l m:List qO} (h:l.Perm m) (p:Int):(load l p).Perm (load m p):=by
 unfold load;exact (h.filter _).map _
theorem zy8 {l m:List qO} (h:l.Sublist m) (p:Int):(load l p).Sublist (load m p):=by
 unfold load;exact (h.filter _).map _
theorem zy9 {n:Fab} {l m:List qO} (h:l.Perm m) (p:Int):qD n l p=qD n m p:=by
 have e:kV (load l p)=kV (load m p):=by unfold kV;rw [zC4 (znq h p)]
 have e2:tv (load l p=[])=tv (load m p=[]):=zEs ⟨fun h0=>by
  have:=(znq h p).length_eq
  rw [h0] at this;exact List.length_eq_zero_iff.1 this.symm,fun h0=>by
  have:=(znq h p).length_eq
  rw [h0] at this;exact List.length_eq_zero_iff.1 this⟩
 unfold qD
 rw [e,e2]
theorem zge {l:List qO}:zhy l↔l.Pairwise fun a b=>a.1≠b.1:=by
 rw [List.pairwise_iff_getElem]
 constructor
 ·intro h i j hi hj hij
  exact h j i _ _ hij (List.getElem?_eq_getElem hj) (List.getElem?_eq_getElem hi)
 ·intro h i k a b hki ha hb
  obtain ⟨hi,rfl⟩:=List.getElem?_eq_some_iff.1 ha
  obtain ⟨hk,rfl⟩:=List.getElem?_eq_some_iff.1 hb
  exact h k i hk hi hki
theorem zuA {n:Fab} {l m:List qO} (h:l.Perm m) (hl:okP n l):okP n m:=
 ⟨hl.f,fun s hs=>hl.a s (h.mem_iff.2 hs),by have:=hl.n12;have:=h.length_eq;omega,zge.2 ((h.pairwise_iff fun hab=>Ne.symm hab).1 (zge.1 hl.d)),fun s hs=>hl.c s (h.mem_iff.2 hs)⟩
theorem zC5 {n:Fab} {l m:List qO} (h:m.Sublist l) (hl:okP n l):okP n m:=
 ⟨hl.f,fun s hs=>hl.a s (h.mem hs),by have:=hl.n12;have:=h.length_le;omega,zge.2 ((zge.1 hl.d).sublist h),fun s hs=>hl.c s (h.mem hs)⟩
theorem zFU {n:Fab} (h:zjH n):Jz n=0:=by
 unfold Jz;rw [zF h.t,zF h.u,zF h.g,zF h.f];rfl
theorem zjL {n:Fab} {l:List qO} (h:okP n l):Qj n l=0:=by
 have e:Jg n.1 l=0:=by unfold Jg;rw [zF h.n12,zF h.a,zF h.d];rfl
 unfold Qj
 rw [zF (zFU h.f),zF e,zF (show zqK n l from h.c)];rfl
theorem zBD {n:Fab} {l m:List qO} (h:∀p,qD n l p=qD n m p) (r:List Int) (s:Int):VB n l r s=VB n m r s:=by
 induction r generalizing s with
 |nil=>rfl
 |cons p r ih=>unfold VB;rw [h p,ih]
theorem zc7 {n:Fab} {l:List qO}:vK n l=0↔okP n l∧(∀p < n.2.2.1.length,xZ n l p=0)∧∀s∈l,∀r∈s.2.2.2.2.2.2.2.2,WE n l s r=0:=by
 constructor
 ·intro h
  have ho:=zEA h
  unfold vK at h
  rw [zF (zjL ho),cond_true] at h
  by_cases h1:yu (xZ n l) (List.range n.2.2.1.length)=0
  ·rw [zF h1,cond_true] at h
   exact ⟨ho,fun p hp=>Zd.1 h1 p (List.mem_range.2 hp),fun s hs r hr=>Zd.1 (Zd.1 h s hs) r hr⟩
  ·rw [zQ h1,cond_false] at h;exact absurd h h1
 ·rintro ⟨ho,h1,h2⟩
  unfold vK
  rw [zF (zjL ho),cond_true,zF (Zd.2 fun p hp=>h1 p (List.mem_range.1 hp)),cond_true]
  exact Zd.2 fun s hs=>Zd.2 fun r hr=>h2 s hs r hr
theorem zsV {n:Fab} {l m:List qO} (h:l.Perm m) (hl:vK n l=0):vK n m=0:=by
 obtain ⟨ho,h1,h2⟩:=zc7.1 hl
 have e:∀p,qD n m p=qD n l p:=fun p=>(zy9 h p).symm
 refine zc7.2 ⟨zuA h ho,fun p hp=>?_,fun s hs r hr=>?_⟩
 ·have:=h1 p hp
  unfold xZ at *;rw [e];exact this
 ·have:=h2 s (h.mem_iff.2 hs) r hr
  unfold WE vj at *;rw [zBD e];exact this
theorem zC6 {n:Fab} {l:List qO} {p:Int} (h:(qD n l p).2=0):∃v,load l p≠[]∧ofS ((n.2.2.1[p.toNat]?).getD ([],0)) (lnk n.1 p).2.2.1 n.2.2.2=(v,0)∧wc (jv (load l p))∧(jv (load l p)).2≤v.1∧qD n l p=(zBB (jv (load l p)) v,0):=by
 unfold qD at h ⊢
 generalize ofS ((n.2.2.1[p.toNat]?).getD ([],0)) (lnk n.1 p).2.2.1 n.2.2.2=o at h ⊢
 obtain ⟨v,e⟩:=o
 by_cases h1:load l p=[]
 ·rw [zF h1,cond_true] at h;cases h
 rw [zQ h1,cond_false] at h ⊢
 by_cases h2:e=0
 ·subst h2
  rw [zF rfl,cond_true] at h ⊢
  by_cases h3:wc (jv (load l p))
  ·have e:kV (load l p)=(jv (load l p),0):=by unfold kV;rw [zF h3];rfl
   rw [e,zF rfl,cond_true] at h ⊢
   by_cases h4:(jv (load l p)).2≤v.1
   ·rw [zF h4,cond_true] at h ⊢
    exact ⟨v,h1,rfl,h3,h4,rfl⟩
   ·rw [zQ h4,cond_false] at h;cases h
  ·have e:kV (load l p)=((0,0),6):=by unfold kV;rw [zQ h3];rfl
   rw [e,zQ (by decide),cond_false] at h;cases h
 ·rw [zQ h2,cond_false] at h;cases h
theorem zGr {n:Fab} {l:List qO} {p:Int} {v:Int×Int} (h1:load l p≠[]) (h2:ofS ((n.2.2.1[p.toNat]?).getD ([],0)) (lnk n.1 p).2.2.1 n.2.2.2=(v,0)) (h3:wc (jv (load l p))) (h4:(jv (load l p)).2≤v.1):qD n l p=(zBB (jv (load l p)) v,0):=by
 have e:kV (load l p)=(jv (load l p),0):=by unfold kV;rw [zF h3];rfl
 unfold qD
 rw [h2,e,zQ h1,cond_false,zF rfl,cond_true,cond_true,zF h4,cond_true]
theorem zuB {n:Fab} {l m:List qO} (ho:okP n l) (hs:m.Sublist l) {p:Int} (hp:jG n.1 p) (h:(qD n l p).2=0) (hm:load m p≠[]) :
  (qD n m p).2=0∧(qD n m p).1.2.2.1≤(qD n l p).1.2.2.1∧(qD n m p).1.2.2.2≤(qD n l p).1.2.2.2:=by
 obtain ⟨v,h1,h2,h3,h4,h5⟩:=zC6 h
 obtain ⟨lb1,lb2⟩:=znT ho p
 obtain ⟨mb1,mb2⟩:=znT (zC5 hs ho) p
 obtain ⟨s1,s2⟩:=zED (zy8 hs p) lb2
 obtain ⟨m1,m2,m3,m4⟩:=znS mb2
 have m0:1≤(load m p).length:=by
  rcases Nat.eq_zero_or_pos (load m p).length with h0 | h0
  ·exact absurd (List.length_eq_zero_iff.1 h0) hm
  ·exact h0
 obtain ⟨⟨b1,b2⟩,b3,b4⟩:=h3
 obtain ⟨g,hx,hge,hg,p0,p1⟩:=zg2 ho.f hp
 have hv:znR v:=by
  obtain ⟨_,_,o3⟩:=zwP hg p0 p1 ho.f.f.2.1 ho.f.f.2.2
  rw [hge] at h2
  rw [h2] at o3
  rcases o3 with ⟨_,h⟩ | ⟨h,_⟩
  ·exact h
  ·cases h
 obtain ⟨v1,_,v3,_⟩:=hv
 have em:=zGr (n:=n) (l:=m) (p:=p) hm h2 ⟨⟨by omega,by omega⟩,by omega,by omega⟩ (by omega)
 rw [em,h5]
 refine ⟨rfl,?_,?_⟩
 ·show v.2+cl v.1 ((jv (load m p)).1*1048576)≤v.2+cl v.1 ((jv (load l p)).1*1048576)
  have:=zeF (d:=v.1) (by omega) (show (jv (load m p)).1*1048576≤(jv (load l p)).1*1048576 by omega)
  omega
 ·show (jv (load m p)).1+cl 1048576 ((jv (load m p)).2*v.2)≤(jv (load l p)).1+cl 1048576 ((jv (load l p)).2*v.2)
  have:=zeF (d:=1048576) (by omega) (Int.mul_le_mul_of_nonneg_right s2 v3)
  omega
theorem zvu {n:Fab} {l m:List qO}:∀{r:List Int} {s s':Int},(∀p∈r,(qD n l p).2=0→(qD n m p).2=0∧(qD n m p).1.2.2.1≤(qD n l p).1.2.2.1)→(VB n l r s).2=0→s'≤s→(VB n m r s').2=0∧(VB n m r s').1≤(VB n l r s).1
 |[],s,s',_,_,h=>⟨rfl,h⟩
 |p::r,s,s',hp,h,hs=>by
  unfold VB at h ⊢
  by_cases h1:(qD n l p).2=0
  ·obtain ⟨h2,h3⟩:=hp p (by simp) h1
   rw [zF h1,cond_true] at h ⊢
   rw [zF h2,cond_true]
   exact zvu (fun q hq=>hp q (by simp [hq])) h (by omega)
  ·rw [zQ h1,cond_false] at h;exact absurd h h1
theorem zEE {l:List qO} {s:qO} {r:List Int} {p:Int} (hs:s∈l) (hr:r∈s.2.2.2.2.2.2.2.2) (hp:p∈r):load l p≠[]:=by
 unfold load
 intro h
 have:=List.map_eq_nil_iff.1 h
 have hm:s∈l.filter fun s=>tv (Qw s p):=List.mem_filter.2 ⟨hs,zF ⟨r,hr,hp⟩⟩
 rw [this] at hm;cases hm
theorem zEF (b1 b2 b3:Bool) (x:Bnd):(bif b1 then bif b2 then bif b3 then (x,(0:Int)) else (zB,141) else (zB,6) else (zB,411)).2≠4:=by
 cases b1<;>cases b2<;>cases b3<;>simp
theorem zC7 {n:Fab} {l m:List qO} (hs:m.Sublist l) (hl:vK n l=0):vK n m=0:=by
 obtain ⟨ho,h1,h2⟩:=zc7.1 hl
 refine zc7.2 ⟨zC5 hs ho,fun p hp=>?_,fun s hsm r hr=>?_⟩
 ·have hpp:=zuz ho.f hp
  by_cases hm:load m (p:Int)=[]
  ·have e:qD n m (p:Int)=(zB,4):=by unfold qD;rw [zF hm];rfl
   unfold xZ
   rw [e,zF rfl];rfl
  have h3:=h1 p hp
  have h4:(qD n l (p:Int)).2=0:=by
   by_cases h0:(qD n l (p:Int)).2=0
   ·exact h0
   ·unfold xZ at h3
    by_cases h44:(qD n l (p:Int)).2=4
    ·exfalso
     unfold qD at h44
     by_cases hle:load l (p:Int)=[]
     ·have:=(zy8 hs (p:Int)).length_le
      rw [hle] at this
      exact hm (List.length_eq_zero_iff.1 (by simpa using this))
     ·rw [zQ hle,cond_false] at h44
      exact absurd h44 (zEF _ _ _ _)
    ·rw [zQ h44,cond_false,zQ h0,cond_false] at h3;exact h3
  obtain ⟨e1,e2,e3⟩:=zuB ho hs hpp h4 hm
  unfold xZ at h3 ⊢
  rw [h4,zQ (by decide),cond_false,zF rfl,cond_true] at h3
  rw [e1,zQ (by decide),cond_false,zF rfl,cond_true]
  by_cases h5:n.2.1.2.2.2 < (qD n l (p:Int)).1.2.2.2
  ·rw [zF h5] at h3;cases h3
  ·rw [zQ (by omega)];rfl
 ·have hsl:=hs.mem hsm
  have h3:=h2 s hsl r hr
  have hrt:=((ho.a s hsl).rt r hr).1
  unfold WE at h3 ⊢
  by_cases h0:(vj n l r).2=0
  ·rw [zF h0,cond_true] at h3
   obtain ⟨e1,e2⟩:=zvu (n:=n) (l:=l) (m:=m) (r:=r) (s:=0) (s':=0) (fun p hp h=>by
    obtain ⟨a,b,_⟩:=zuB ho hs (hrt.pt p hp) h (zEE hsm hr hp)
    exact ⟨a,b⟩) h0 (Int.le_refl _)
   have e1:(vj n m r).2=0:=e1
   have e2:(vj n m r).1≤(vj n l r).1:=e2
   rw [zF e1,cond_true]
   by_cases h5:s.2.2.2.2.2.2.2.1 < (vj n l r).1
   ·rw [zF h5] at h3;cases h3
   ·rw [zQ (by omega)];rfl
  ·rw [zQ h0,cond_false] at h3;exact absurd h3 h0
theorem u8w {n:Int} (h:wfT (.int .u8) n):0≤n∧n≤255:=h
theorem zGN {n:Int} (h:wfT (.int .u16) n):0≤n∧n≤65535:=h
theorem u8l {l:List Int} (h:wfT (.list (.int .u8)) l):u8 l:=fun x hx=>u8w (h.2 x hx)
theorem zGC {d:ziA} (h:wfT xd d):drP d where
 t:=⟨u8w h.1.1,u8w h.1.2.1,u8l h.1.2.2.1,u8l h.1.2.2.2.1,u8l h.1.2.2.2.2.1,u8l h.1.2.2.2.2.2⟩
 g:=fun x hx=>⟨u8l (h.2.1.2 x hx).1,u8l (h.2.1.2 x hx).2⟩
 u:=⟨u8w h.2.2.1.1,u8w h.2.2.1.2.1,u8w h.2.2.1.2.2⟩
 cap:=u8w h.2.2.2.1
 most:=zGN h.2.2.2.2.1
 l:=fun x hx=>⟨u8w (h.2.2.2.2.2.1.2 x hx).2.2.1,u8w (h.2.2.2.2.2.1.2 x hx).2.2.2.2.2.1⟩
 ll:=Nat.le_trans (show d.2.2.2.2.2.1.length*10≤reachBytes from h.2.2.2.2.2.1.1.2) (by decide)
theorem zEG:Qf ()=some (true,()):=zqz
theorem zC8 {n:Fab} (h:zjH n):vK n []=0:=
 zc7.2 ⟨⟨h,fun s hs=>(by cases hs),by simp,zge.2 List.Pairwise.nil,fun s hs=>(by cases hs)⟩,fun p hp=>by
  have e:qD n [] (p:Int)=(zB,4):=by unfold qD;rw [zF (show load [] (p:Int)=[] from rfl)];rfl
  unfold xZ
  rw [e,zF rfl];rfl,fun s hs=>(by cases hs)⟩
theorem zza {n:Fab} {l:List qO} {p:Int} (h:(Zy n l p).2=0):okP n l∧jG n.1 p∧Zy n l p=qD n l p:=by
 unfold Zy at h ⊢
 by_cases h1:Qj n l=0
 ·rw [zF h1,cond_true] at h ⊢
  by_cases h2:jG n.1 p
  ·rw [zF h2,cond_true];exact ⟨ziz h1,h2,rfl⟩
  ·rw [zQ h2,cond_false] at h;cases h
 ·rw [zQ h1,cond_false] at h;exact absurd h h1
theorem zEH {n:Fab} {l m:List qO} (h:l.Perm m) (p:Int):(Zy n l p).1=(Zy n m p).1∧(zi (Zy n l p).2 0=zi (Zy n m p).2 0):=by
 unfold Zy
 by_cases h1:Qj n l=0
 ·have h2:=zjL (zuA h (ziz h1))
  rw [zF h1,zF h2,cond_true,cond_true,zy9 h p];exact ⟨rfl,rfl⟩
 ·have h2:Qj n m≠0:=fun e=>h1 (zjL (zuA h.symm (ziz e)))
  rw [zQ h1,zQ h2,cond_false,cond_false]
  exact ⟨rfl,by show zi (Qj n l) 0=zi (Qj n m) 0;rw [qI h1,qI h2]⟩
theorem zEI {n:Fab} {l m:List qO} (h:m.Sublist l) {p:Int} (h1:(Zy n l p).2=0) (h2:(Zy n m p).2=0):(Zy n m p).1.2.2.1≤(Zy n l p).1.2.2.1∧(Zy n m p).1.2.2.2≤(Zy n l p).1.2.2.2:=by
 obtain ⟨ho,hp,e⟩:=zza h1
 obtain ⟨_,_,e2⟩:=zza h2
 rw [e] at h1
 rw [e2] at h2
 obtain ⟨v,hl,_⟩:=zC6 h2
 obtain ⟨_,b,c⟩:=zuB ho h hp h1 hl
 rw [e,e2];exact ⟨b,c⟩
theorem zC9 (hw:Qf ()=some (true,())) {d:ziA} (hd:drP d) {a1 a2:Int} (h1:0≤a1∧a1≤255) (h2:0≤a2∧a2≤255):WC (d,a1,a2,())=some (true,()):=by
 obtain ⟨n,en,hn,hn1⟩:=zGq hd
 obtain ⟨l,el,hl⟩:=zy6 hd
 have hg:n.2.2.1.length=2*n.1.2.2.length:=by have:=hn.f.1;omega
 have h24:=hn.t.sz.ls
 have n1:n.2.2.1.length≤1000000000000000000:=by omega
 have n2:n.1.2.2.length≤1000000000000000:=by omega
 rw [ziq];unfold Kk
 rw [hw,zw]
 refine yb (ze rfl ?_)
 rw [en,zw,el,zw]
 refine zj (fun h=>?_) (fun h=>?_)
 ·have h:(l.length:Int)=0:=qL h
  have:l=[]:=List.length_eq_zero_iff.1 (by omega)
  subst this
  rw [VC n1,zw]
  refine za ?_
  show zi (vK n []) 0=true
  rw [zC8 hn];rfl
 have h0:(l.length:Int)≠0:=jR h
 refine ze (qI h0) (ze (qI h0) ?_)
 have e1:wrF .i64 a1=a1:=zD (by omega) (by omega)
 have e2:wrF .i64 a2=a2:=zD (by omega) (by omega)
 rw [e1,e2,Int.tmod_eq_emod_of_nonneg h1.1,Int.tmod_eq_emod_of_nonneg h2.1]
 have p0:=Int.emod_nonneg a1 h0
 have p1:=Int.emod_lt_of_pos a1 (show (0:Int) < (l.length:Int) by omega)
 have q0:=Int.emod_nonneg a2 h0
 have q1:=Int.emod_lt_of_pos a2 (show (0:Int) < (l.length:Int) by omega)
 obtain ⟨i,hi⟩:=Int.eq_ofNat_of_zero_le p0
 obtain ⟨j,hj⟩:=Int.eq_ofNat_of_zero_le q0
 have hi:a1 % (l.length:Int)=(i:Int):=hi
 have hj:a2 % (l.length:Int)=(j:Int):=hj
 rw [hi,hj]
 have hil:i < l.length:=by omega
 have hjl:j < l.length:=by omega
 have ej:wrF .i64 ((j:Int)+1)=((j+1:Nat):Int):=qq (by omega)
 rw [ej]
 refine zg (qj (zve l i (by omega)) ?_)
 refine zd (yc (by simp only [List.length_drop];omega) (by simp only [List.length_drop];omega)) ?_
 refine zg (qj (znM l i (by omega)) ?_)
 refine zd (yc (by simp only [List.length_drop,List.length_take];omega) (by simp only [List.length_drop,List.length_take];omega)) ?_
 refine zg (qj (znM l j (by omega)) ?_)
 refine zd (yc (by simp only [List.length_take];omega) (by simp only [List.length_take];omega)) ?_
 refine zg (qj (zve l (j+1) (by omega)) ?_)
 refine zd (yc (by simp only [List.length_drop,List.length_take];omega) (by simp only [List.length_drop,List.length_take];omega)) ?_
 have hperm:l.Perm (l.drop i++l.take i):=by
  have:=List.perm_append_comm (l₁:=l.take i) (l₂:=l.drop i)
  rwa [List.take_append_drop] at this
 have hsub:(l.take j++l.drop (j+1)).Sublist l:=by
  rw [←List.eraseIdx_eq_take_drop_succ];exact List.eraseIdx_sublist _ _
 generalize l.drop i++l.take i=tu at hperm
 generalize l.take j++l.drop (j+1)=pa at hsub
 rw [VC n1,zw]
 refine zk (J:=fun y=>y.1=0∧y.2.1.1=false∧y.2.2.1=tu∧y.2.2.2.1=pa) ?_ ?_
 ·rw [VC n1,zw]
  have eb:(zi (vK n l) 0 == zi (vK n tu) 0)=true:=by
   by_cases h:vK n l=0
   ·rw [h,zsV hperm h];rfl
   ·rw [qI h,qI fun e=>h (zsV hperm.symm e)];rfl
  refine ze (by show (!(zi (vK n l) 0 == zi (vK n tu) 0))=false;rw [eb];rfl) (zj (fun h=>?_) (fun _=>za ⟨rfl,rfl,rfl,rfl⟩))
  have h:vK n l=0:=qL h
  rw [VC n1,zw]
  exact ze (by show (!zi (vK n pa) 0)=false;rw [zC7 hsub h];rfl) (za ⟨rfl,rfl,rfl,rfl⟩)
 rintro ⟨k,⟨v,⟨⟩⟩,t2,p2,⟨⟩⟩ ⟨g1,g2,g3,g4⟩
 simp only at g1 g2 g3 g4
 subst g1 g2 g3 g4
 refine zd rfl (zk (J:=fun y=>y.1=0) (zW n.2.2.1.length (fun i s=>s=((false,((i:Int),())),(p2,(t2,())))) (by omega) rfl ?_ ?_) ?_)
 ·rintro i _ hi rfl
  refine zd (zR (show (i:Int) < (n.2.2.1.length:Int) by omega)) ?_
  rw [zd1 n1 n2,zw,zd1 n1 n2,zw,zd1 n1 n2,zw]
  obtain ⟨c1,c2⟩:=zEH (n:=n) hperm (i:Int)
  have c3:=zEI (n:=n) (p:=(i:Int)) hsub
  show qu (opt (bif (!(((zi (Zy n l (i:Int)).1.1.1 (Zy n t2 (i:Int)).1.1.1)&&_)&&_)) then _ else _) _) _
  rw [←c1]
  refine zk (J:=fun y=>y.1=0∧y.2.1.1=false) (ze (by simp only [zEC];rfl) (ze (by show (!(zi (Zy n l (i:Int)).2 0 == zi (Zy n t2 (i:Int)).2 0))=false;rw [c2];cases zi (Zy n t2 (i:Int)).2 0<;>rfl) (zj (fun h=>zj (fun h'=>?_) (fun _=>za ⟨rfl,rfl⟩)) (fun _=>za ⟨rfl,rfl⟩)))) ?_
  ·obtain ⟨c4,c5⟩:=c3 (qL h) (qL h')
   exact ze (zG (show ¬(Zy n l (i:Int)).1.2.2.1 < (Zy n p2 (i:Int)).1.2.2.1 by omega)) (ze (zG (show ¬(Zy n l (i:Int)).1.2.2.2 < (Zy n p2 (i:Int)).1.2.2.2 by omega)) (za ⟨rfl,rfl⟩))
  rintro ⟨k,⟨v',⟨⟩⟩,⟨⟩⟩ ⟨g1,g2⟩
  simp only at g1 g2
  subst g1 g2
  exact zd rfl (za (ql (congrArg (fun z=>((false,(z,())),(p2,(t2,())))) (qq (by omega)))))
 ·rintro _ rfl
  exact ze (zG (show ¬(n.2.2.1.length:Int) < (n.2.2.1.length:Int) by omega)) (za (zq rfl))
 ·rintro ⟨k,z,w⟩ g1
  have g1:k=0:=g1
  subst g1
  exact zd rfl (za rfl)
abbrev A5:=WB
abbrev K5_ok:=zio
theorem good5 (x:T (zo A5)) (h:wfT (zo A5) x):WC x=some (true,()):=by
 obtain ⟨d,a1,a2,⟨⟩⟩:=x
 exact zC9 zEG (zGC h.1) (u8w h.2.1) (u8w h.2.2.1)
end Go.Proofs.YtplhphmbkmpocaaGreat.ad
end
