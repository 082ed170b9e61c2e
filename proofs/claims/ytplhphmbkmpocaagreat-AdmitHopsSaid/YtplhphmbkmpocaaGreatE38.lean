/- Parts of a proof, joined. -/
import Derived.Test.YtplhphmbkmpocaaGreatE37
set_option linter.unusedSectionVars false
set_option linter.unusedVariables false
set_option linter.unusedSimpArgs false
set_option maxHeartbeats 0
set_option maxRecDepth 100000
noncomputable section
namespace Go.Proofs.YtplhphmbkmpocaaGreat.ad
open Go Go.Fz Go.Fz.Sy
def u8 (l:List Int):Prop:=∀x∈l,0≤x∧x≤255
abbrev zn6:=Int×Int×List Int×List Int×List Int×List Int
structure tdP (d:zn6):Prop where
 b:0≤d.1∧d.1≤255
 s:0≤d.2.1∧d.2.1≤255
 c:u8 d.2.2.1
 h:u8 d.2.2.2.1
 p:u8 d.2.2.2.2.1
 e:u8 d.2.2.2.2.2
theorem Uf {l:List Int} (hl:u8 l) {i:Int} (h0:0≤i):∃v,kX (l,i,())=some (v,())∧0≤v∧v≤255:=by
 have key:qp (kX (l,i,())) fun r=>0≤r.1∧r.1≤255:=by
  rw [zse];unfold zfQ
  refine zj (fun h=>?_) (fun h=>?_)
  ·have h:=qi h
   refine zi (qH h0 (by omega) fun x hx=>za ?_)
   have hm:=hl x (List.mem_of_getElem? hx)
   show 0≤wrF .i64 x∧wrF .i64 x≤255
   rw [zE (by omega) (by omega)];exact hm
  ·exact za ⟨Int.le_refl _,by show (0:Int)≤255;decide⟩
 obtain ⟨⟨v,⟨⟩⟩,e,h⟩:=key
 exact ⟨v,e,h⟩
theorem zn7 {R:Type} {Q:R→Prop} {pers delays:List Int} {t:qm} (hs:szP t) {a b:Int} (hp:u8 pers) (hd:u8 delays) {KEEP KEEP2 KEEP3:Option R} {ADD:(Int×Unit)→(Int×Unit)→Option R}
  (e2:KEEP2=KEEP) (e3:KEEP3=KEEP)
  (hk:∀x y:Int,0≤x→x≤255→0≤y→y≤255→(t.2.2.length=24∨¬zcX t (a,(b,((wrF .i64 (1+(Int.tmod x 20))),(Int.tmod y 50))))∨∃o∈t.2.2,uY o a b)→qp KEEP Q)
  (ha:∀x y:Int,0≤x→x≤255→0≤y→y≤255→t.2.2.length≠24→zcX t (a,(b,((wrF .i64 (1+(Int.tmod x 20))),(Int.tmod y 50))))→(∀o∈t.2.2,¬uY o a b)→qp (ADD (x,()) (y,())) Q) :
  qp (opt (kX ((pers,((((t.2.2).length:Nat):Int),())))) fun x3=>
   opt (kX ((delays,((((t.2.2).length:Nat):Int),())))) fun x4=>
   bif (zg ((((t.2.2).length:Nat):Int)) (24)) then KEEP
   else opt (ux (((t.1,(t.2.1,t.2.2)),((a,(b,((wrF .i64 ((1+(Int.tmod x3.1 20)))),(Int.tmod x4.1 50)))),())))) fun x5=>
    bif (!x5.1) then KEEP2
    else opt (zy (fun s6:(((Int×((List Bool)×(List (Int×(Int×(Int×Int))))))×(Int×Unit))×Unit)=>
      bif (zh (s6.1.2.1) ((((t.2.2).length:Nat):Int))) then opt (atI (t.2.2) (s6.1.2.1)) fun x7=>
       opt (gl (t.2.2) ((Int.toNat s6.1.2.1))) fun x8=>
       opt (xH ((x8,(a,(b,()))))) fun x9=>
       bif x9.1 then some (.inl s6)
       else some (.inr ((s6.1.1,((wrF .i64 ((s6.1.2.1+1))),())),()))
      else some (.inl s6)) zH (((0,([],[])),(0,())),())) fun x10=>
     bif (zh (x10.1.2.1) ((((t.2.2).length:Nat):Int))) then opt (atI (t.2.2) (x10.1.2.1)) fun x11=>
      opt (gl (t.2.2) ((Int.toNat x10.1.2.1))) fun x12=>
      opt (xH ((x12,(a,(b,()))))) fun x13=>
      bif x13.1 then KEEP3
      else none
     else bif (qW ((t.2.2).length) ((((a,(b,((wrF .i64 ((1+(Int.tmod x3.1 20)))),(Int.tmod x4.1 50))))::[])).length) (32)) then ADD x3 x4
      else none) Q:=by
 subst e2 e3
 have hl:=hs.ls
 obtain ⟨x,ex,x0,x1⟩:=Uf hp (i:=(t.2.2.length:Int)) (by omega)
 obtain ⟨y,ey,y0,y1⟩:=Uf hd (i:=(t.2.2.length:Int)) (by omega)
 rw [ex,zw,ey,zw]
 refine zj (fun h24=>hk x y x0 x1 y0 y1 (.inl (by have:=qR h24;omega))) (fun h24=>?_)
 have h24:t.2.2.length≠24:=fun e=>qX h24 (by rw [e];rfl)
 rw [show ((t.1,(t.2.1,t.2.2)):qm)=t from rfl,zjo hs,zw]
 refine zj (fun hlk=>hk x y x0 x1 y0 y1 (.inr (.inl (yn hlk)))) (fun hlk=>?_)
 have hlk:=xg hlk
 refine zm (J:=fun s=>∃(i:Nat),s=(((0,([],[])),((i:Int),())),())∧((i=t.2.2.length∧∀o∈t.2.2,¬uY o a b)∨∃o,t.2.2[i]?=some o∧uY o a b)) (zT t.2.2.length (fun i s=>s=(((0,([],[])),((i:Int),())),())∧∀(k:Nat) o,k < i→t.2.2[k]?=some o→¬uY o a b) (by omega) ⟨rfl,fun k o hk=>by omega⟩ ?_ ?_) ?_
 ·rintro i _ hi ⟨rfl,hp⟩
  have hx:t.2.2[i]?=some t.2.2[i]:=List.getElem?_eq_getElem hi
  generalize t.2.2[i]=o at hx
  refine ze (zQ (show (i:Int) < (t.2.2.length:Int) by omega)) (zi (zC (n:=i) hx (zi (qf (a:=o) (by show gl t.2.2 (Int.toNat (i:Int))=_;rw [Int.toNat_natCast,xA];exact hx) ?_))))
  rw [zbR,zw]
  refine zj (fun h=>?_) (fun h=>?_)
  ·exact za (zr ⟨i,rfl,.inr ⟨o,hx,Zy h⟩⟩)
  ·refine za (qj ⟨congrArg (fun z=>((_,(z,())),())) (qu (by omega)),fun k o' hk ho=>?_⟩)
   rcases Nat.lt_or_ge k i with h1 | h1
   ·exact hp k o' h1 ho
   ·have:k=i:=by omega
    subst this
    rw [hx] at ho;cases ho
    exact gS h
 ·rintro _ ⟨rfl,hp⟩
  refine zf (zJ (show ¬(t.2.2.length:Int) < (t.2.2.length:Int) by omega)) (za (zr ⟨t.2.2.length,rfl,.inl ⟨rfl,fun o ho=>?_⟩⟩))
  obtain ⟨k,hk,hk2⟩:=wL ho
  exact hp k o hk hk2
 ·rintro _ ⟨i,rfl,⟨rfl,hno⟩ | ⟨o,hx,hj⟩⟩
  ·exact zf (zJ (show ¬(t.2.2.length:Int) < (t.2.2.length:Int) by omega)) (ze (yx (by show (t.2.2.length+1)*32≤_;omega) (by show t.2.2.length+1≤_;omega)) (ha x y x0 x1 y0 y1 h24 hlk hno))
  ·have hil:i < t.2.2.length:=by grind
   refine ze (zQ (show (i:Int) < (t.2.2.length:Int) by omega)) (zi (zC (n:=i) hx (zi (qf (a:=o) (by show gl t.2.2 (Int.toNat (i:Int))=_;rw [Int.toNat_natCast,xA];exact hx) ?_))))
   rw [zbR,zw,zU hj]
   exact ze rfl (hk x y x0 x1 y0 y1 (.inr (.inr ⟨o,List.mem_of_getElem? hx,hj⟩)))
def sts (b c:Nat):List Bool:=(List.range (b+c)).map fun n=>decide (b≤n)
def tOf (b c:Nat) (ls:List wP):qm:=(((b+c:Nat):Int),sts b c,ls)
theorem zBh (b c:Nat):(sts b c).length=b+c:=by simp [sts]
theorem zz1 {b c:Nat} {ls:List wP} {n:Nat} (h:n < b+c):stn (tOf b c ls) (n:Int)=decide (b≤n):=by
 unfold stn tOf sts
 simp [h]
structure Dr (b c:Nat) (ls:List wP):Prop where
 b1:1≤b
 b6:b≤6
 c2:2≤c
 c6:c≤6
 n24:ls.length≤24
 ok:zdo (tOf b c ls)
theorem Dr.sz {b c:Nat} {ls:List wP} (h:Dr b c ls):szP (tOf b c ls):=by
 have:=h.b1;have:=h.b6;have:=h.c2;have:=h.c6
 refine ⟨?_,?_,?_,h.n24⟩
 ·show 2≤((b+c:Nat):Int);omega
 ·show ((b+c:Nat):Int)≤12;omega
 ·show (((sts b c).length:Nat):Int)=((b+c:Nat):Int);rw [zBh]
theorem Dr.add {b c:Nat} {ls:List wP} (h:Dr b c ls) {l:wP} (h24:ls.length≠24) (hl:zcX (tOf b c ls) l) (hj:∀o∈ls,¬uY o l.1 l.2.1):Dr b c (ls++[l]):=by
 refine ⟨h.b1,h.b6,h.c2,h.c6,by have:=h.n24;simp;omega,fun i l' hi=>?_⟩
 have hi:(ls++[l])[i]?=some l':=hi
 rcases Nat.lt_or_ge i ls.length with h1 | h1
 ·rw [List.getElem?_append_left h1] at hi
  obtain ⟨h2,h3⟩:=h.ok i l' hi
  refine ⟨h2,fun k o hk ho=>h3 k o hk ?_⟩
  have ho:(ls++[l])[k]?=some o:=ho
  rw [List.getElem?_append_left (by omega)] at ho
  exact ho
 ·have hil:i=ls.length:=by
   have:i < (ls++[l]).length:=by grind
   simp at this;omega
  subst hil
  rw [List.getElem?_append_right (Nat.le_refl _),Nat.sub_self] at hi
  simp at hi;subst hi
  refine ⟨hl,fun k o hk ho=>?_⟩
  have ho:(ls++[l])[k]?=some o:=ho
  rw [List.getElem?_append_left hk] at ho
  exact hj o (List.mem_of_getElem? ho)
theorem zkK (ls:List wP) (l:wP) (n:Nat):cnt (ls++[l]) n=cnt ls n+(one l.1 n+one l.2.1 n):=by
 unfold cnt;simp
theorem zBi {b c:Nat} {ls:List wP} {m n:Nat} {x y:Int} (hm:m < b+c) (hn:n < b+c) (hne:m≠n) (hs:m < b∨n < b) (x0:0≤x) (x1:x≤255) (y0:0≤y) (y1:y≤255) :
  zcX (tOf b c ls) ((m:Int),((n:Int),((wrF .i64 (1+(Int.tmod x 20))),(Int.tmod y 50)))):=by
 have ex:Int.tmod x 20=x % 20:=Int.tmod_eq_emod_of_nonneg x0
 have ey:Int.tmod y 50=y % 50:=Int.tmod_eq_emod_of_nonneg y0
 have ew:wrF .i64 (1+x % 20)=1+x % 20:=zE (by omega) (by omega)
 unfold zcX jg
 rw [ex,ey,ew]
 simp only
 refine ⟨⟨by omega,by show (m:Int) < ((b+c:Nat):Int);omega⟩,⟨by omega,by show (n:Int) < ((b+c:Nat):Int);omega⟩,by omega,?_,by omega,by omega,by omega,by omega⟩
 rw [zz1 hm,zz1 hn]
 simp only [decide_eq_true_eq]
 omega
structure Vn (b c k s:Nat) (ls:List wP):Prop where
 ch:∀i,i < k→∃p d,ls[i]?=some ((i:Int),((i+1:Nat):Int),p,d)
 ho:∀i,i < s→∃(h:Nat) (p d:Int),ls[k+i]?=some (((b+i:Nat):Int),(h:Int),p,d)∧h < b
theorem Vn.app {b c k s:Nat} {ls:List wP} (h:Vn b c k s ls) (l:List wP):Vn b c k s (ls++l):=by
 refine ⟨fun i hi=>?_,fun i hi=>?_⟩
 ·obtain ⟨p,d,e⟩:=h.ch i hi
  exact ⟨p,d,by rw [List.getElem?_append_left (by grind)];exact e⟩
 ·obtain ⟨q,p,d,e,h2⟩:=h.ho i hi
  exact ⟨q,p,d,by rw [List.getElem?_append_left (by grind)];exact e,h2⟩
theorem zrx {r:List Bool} {l:wP} {n:Nat} (h:r[n]?=some true):(stp r l)[n]?=some true:=by
 unfold stp
 cases (r[l.1.toNat]?).getD false||(r[l.2.1.toNat]?).getD false with
 |false=>exact h
 |true=>
  have hn:n < r.length:=by grind
  show ((r.set l.1.toNat true).set l.2.1.toNat true)[n]?=some true
  rw [List.getElem?_set,List.getElem?_set]
  grind
theorem zn8 {n:Nat}:∀(ls:List wP) {r:List Bool},r[n]?=some true→(ls.foldl stp r)[n]?=some true
 |[],r,h=>h
 |l::ls,r,h=>zn8 ls (zrx h)
theorem zwk {ls:List wP} {n:Nat}:∀(k:Nat) {r:List Bool},r[n]?=some true→(Uu ls k r)[n]?=some true
 |0,r,h=>h
 |k+1,r,h=>zwk k (zn8 ls h)
theorem zBj {r:List Bool} {l:wP} {m n:Nat} (hm:r[m]?=some true) (hn:n < r.length) (h:(l.1.toNat=m∧l.2.1.toNat=n)∨(l.1.toNat=n∧l.2.1.toNat=m)):(stp r l)[n]?=some true:=by
 have hml:m < r.length:=by grind
 have e:((r[l.1.toNat]?).getD false||(r[l.2.1.toNat]?).getD false)=true:=by
  rcases h with ⟨h1,h2⟩ | ⟨h1,h2⟩
  ·rw [h1,hm];rfl
  ·rw [h2,hm,Option.getD_some,Bool.or_true]
 unfold stp
 rw [e,cond_true,List.getElem?_set,List.getElem?_set]
 grind
theorem zwl {ls:List wP} {i:Nat} {l:wP} (h:ls[i]?=some l) (r:List Bool):(ls.take (i+1)).foldl stp r=stp ((ls.take i).foldl stp r) l:=by
 rw [List.take_add_one,h,List.foldl_append];rfl
theorem zD4 {b c:Nat} {ls:List wP} (hb:1≤b) (hc:1≤c) (h:Vn b c (b - 1) c ls) (n:Nat) (hn:n < b+c):(reachS (tOf b c ls) 0)[n]?=some true:=by
 have hN:(tOf b c ls).1.toNat=b+c:=by show (((b+c:Nat):Int)).toNat=_;omega
 unfold reachS
 rw [hN]
 obtain ⟨k,hk⟩:∃k,b+c=k+1:=⟨b+c - 1,by omega⟩
 rw [show Uu (tOf b c ls).2.2 (b+c)=Uu ls (k+1) from by rw [hk];rfl]
 show (Uu ls k (ls.foldl stp ((List.replicate (b+c) false).set 0 true)))[n]?=some true
 refine zwk k ?_
 generalize hr:(List.replicate (b+c) false).set 0 true=r0
 have hl:r0.length=b+c:=by rw [←hr];simp
 have h00:r0[0]?=some true:=by
  rw [←hr]
  exact List.getElem?_set_self (by rw [List.length_replicate];omega)
 have chain:∀i,i≤b - 1→∀j,j≤i→((ls.take i).foldl stp r0)[j]?=some true:=by
  intro i
  induction i with
  |zero=>
       intro _ j hj;have:j=0:=by omega
       subst this;exact h00
  |succ i ih=>
   intro hi j hj
   obtain ⟨p,d,e⟩:=h.ch i (by omega)
   rw [zwl e]
   rcases Nat.lt_or_ge j (i+1) with h1 | h1
   ·exact zrx (ih (by omega) j (by omega))
   ·have:j=i+1:=by omega
    subst this
    exact zBj (m:=i) (ih (by omega) i (Nat.le_refl _)) (by rw [zg5,hl];omega) (.inl ⟨by simp,by simp⟩)
 have home:∀i,i≤c→∀j,j < b+i→((ls.take (b - 1+i)).foldl stp r0)[j]?=some true:=by
  intro i
  induction i with
  |zero=>intro _ j hj;exact chain (b - 1) (Nat.le_refl _) j (by omega)
  |succ i ih=>
   intro hi j hj
   obtain ⟨q,p,d,e,hq⟩:=h.ho i (by omega)
   rw [show b - 1+(i+1)=b - 1+i+1 from rfl,zwl e]
   rcases Nat.lt_or_ge j (b+i) with h1 | h1
   ·exact zrx (ih (by omega) j h1)
   ·have:j=b+i:=by omega
    subst this
    exact zBj (m:=q) (ih (by omega) q (by omega)) (by rw [zg5,hl];omega) (.inr ⟨by show (((b+i:Nat):Int)).toNat=b+i;exact Int.toNat_natCast _,by simp⟩)
 have:=home c (Nat.le_refl _) n hn
 have e:ls.foldl stp r0=(ls.drop (b - 1+c)).foldl stp ((ls.take (b - 1+c)).foldl stp r0):=by
  rw [←List.foldl_append,List.take_append_drop]
 rw [e]
 exact zn8 _ this
theorem zz2 {i:Nat} (h1:1≤i) (h:i≤1000000):wrF .i64 ((i:Int) - 1)=((i - 1:Nat):Int):=by rw [zE]<;>omega
theorem zz3 (n:Nat):one (n:Int) n=1:=by unfold one;rw [if_pos rfl]
theorem UJ {m n:Nat} (h:m≠n):one (m:Int) n=0:=by unfold one;rw [if_neg (by omega)]
theorem zD5 {b c:Nat} {ls:List wP} (h:Dr b c ls) (hb:Vn b c (b - 1) c ls) (hd:∀n,b≤n→n < b+c→1≤cnt ls n∧cnt ls n≤2):jP (tOf b c ls):=by
 have:=h.b1;have:=h.c2
 refine ⟨h.sz,h.ok,fun n hn=>zD4 h.b1 (by omega) hb n ?_,fun n hn hs=>?_⟩
 ·have hn:(n:Int) < ((b+c:Nat):Int):=hn
  omega
 ·have hn:(n:Int) < ((b+c:Nat):Int):=hn
  rw [zz1 (by omega)] at hs
  exact hd n (of_decide_eq_true hs) (by omega)
theorem ztJ {d:zn6} (hd:tdP d):∃b c ls,wQ (d,())=some (tOf b c ls,())∧jP (tOf b c ls)∧1≤ls.length:=by
 obtain ⟨d0,d1⟩:=hd.b
 obtain ⟨e0,e1⟩:=hd.s
 have eb:wrF .i64 (1+wrF .i64 (Int.tmod d.1 6))=1+d.1 % 6:=by
  rw [Int.tmod_eq_emod_of_nonneg d0,zE (z:=d.1 % 6) (by omega) (by omega),zE (by omega) (by omega)]
 have ec:wrF .i64 (2+wrF .i64 (Int.tmod d.2.1 5))=2+d.2.1 % 5:=by
  rw [Int.tmod_eq_emod_of_nonneg e0,zE (z:=d.2.1 % 5) (by omega) (by omega),zE (by omega) (by omega)]
 obtain ⟨b,hb,b1,b6⟩:∃b:Nat,1+d.1 % 6=(b:Int)∧1≤b∧b≤6:=⟨(1+d.1 % 6).toNat,by omega,by omega,by omega⟩
 obtain ⟨c,hc,c2,c6⟩:∃c:Nat,2+d.2.1 % 5=(c:Int)∧2≤c∧c≤6:=⟨(2+d.2.1 % 5).toNat,by omega,by omega,by omega⟩
 rw [hb] at eb;rw [hc] at ec
 suffices key:qp (wQ (d,())) fun r=>∃ls,r.1=tOf b c ls∧jP (tOf b c ls)∧1≤ls.length by
  obtain ⟨⟨t,⟨⟩⟩,e,ls,h1,h2,h3⟩:=key
  simp only at h1
  subst h1
  exact ⟨b,c,ls,e,h2,h3⟩
 have eN:wrF .i64 ((b:Int)+(c:Int))=((b+c:Nat):Int):=by rw [zE]<;>omega
 have bnz:zg (b:Int) 0=false:=jf (by omega)
 have dr0:Dr b c []:=⟨b1,b6,c2,c6,by simp,fun i l h=>by cases h⟩
 rw [ziX];unfold Ks
 simp only [eb,ec,eN]
 refine zm (J:=fun x=>x.2.2.1=(((b+c:Nat):Int),(sts b c,([],())))) (zT (b+c) (fun i s=>s=(((),((i:Int),())),((((b+c:Nat):Int),((sts b c).take i,([],()))),()))) (by omega) rfl ?_ ?_) ?_
 ·rintro i _ hi rfl
  have hx:(sts b c)[i]?=some (decide (b≤i)):=by unfold sts;simp [hi]
  refine ze (zQ (show (i:Int) < ((b+c:Nat):Int) by omega)) (ze (yx (by show (((sts b c).take i).length+1)*1≤_;simp;omega) (by show ((sts b c).take i).length+1≤_;simp;omega)) (za (qj ?_)))
  have eo:(!zh (i:Int) (b:Int))=decide (b≤i):=by
   rw [xz]
   by_cases h:b≤i
   ·rw [decide_eq_true h,decide_eq_false (by omega)];rfl
   ·rw [decide_eq_false h,decide_eq_true (by omega)];rfl
  show (((),((wrF .i64 ((i:Int)+1)),())),((((b+c:Nat):Int),(((sts b c).take i++[(!zh (i:Int) (b:Int))]),([],()))),()))=_
  rw [eo,qu (by omega),List.take_add_one,hx];rfl
 ·rintro _ rfl
  refine zf (zJ (show ¬((b+c:Nat):Int) < ((b+c:Nat):Int) by omega)) (za (zr ?_))
  show (((b+c:Nat):Int),((sts b c).take (b+c),([],())))=_
  rw [List.take_of_length_le (by rw [zBh];omega)]
 rintro ⟨j,⟨⟨⟩,w,⟨⟩⟩,⟨q,⟨⟩⟩⟩ hq
 simp only at hq
 subst hq
 refine zm (J:=fun x=>x.2.1.1=d∧∃ls,x.2.2.1=(((b+c:Nat):Int),(sts b c,(ls,())))∧Dr b c ls∧Vn b c (b - 1) 0 ls∧ls.length=b - 1)
  (zT (b - 1) (fun i s=>∃ls,s=((d,((),(((i+1:Nat):Int),()))),((((b+c:Nat):Int),(sts b c,(ls,()))),()))∧Dr b c ls∧Vn b c i 0 ls∧ls.length=i) (by omega) ⟨[],rfl,dr0,⟨fun i h=>by omega,fun i h=>by omega⟩,rfl⟩ ?_ ?_) ?_
 ·rintro i _ hi ⟨ls,rfl,dr,ba,hl⟩
  refine ze (zQ (show ((i+1:Nat):Int) < (b:Int) by omega)) ?_
  have ep:wrF .i64 (((i+1:Nat):Int) - 1)=(i:Int):=by rw [zz2 (by omega) (by omega)];rfl
  have eq:wrF .i64 (((i+1:Nat):Int)+1)=((i+1+1:Nat):Int):=qu (by omega)
  simp only [ep,eq]
  have links:∀o∈ls,¬uY o (i:Int) ((i+1:Nat):Int):=by
   intro o ho hj
   obtain ⟨k,hk,hk2⟩:=wL ho
   obtain ⟨p,d',e⟩:=ba.ch k (by omega)
   rw [hk2] at e
   cases e
   unfold uY at hj
   simp only at hj
   omega
  refine zn7 (t:=tOf b c ls) dr.sz (a:=(i:Int)) (b:=((i+1:Nat):Int)) hd.p hd.e rfl rfl ?_ ?_
  ·intro x y x0 x1 y0 y1 hbad
   exfalso
   rcases hbad with h | h | ⟨o,ho,hj⟩
   ·have h:ls.length=24:=h
    omega
   ·exact h (zBi (m:=i) (n:=i+1) (by omega) (by omega) (by omega) (.inl (by omega)) x0 x1 y0 y1)
   ·exact links o ho hj
  ·intro x y x0 x1 y0 y1 h24 hlk hno
   refine za (qj ⟨ls++[_],rfl,dr.add h24 hlk hno,⟨fun k hk=>?_,fun k hk=>by omega⟩,by simp [hl]⟩)
   rcases Nat.lt_or_ge k i with h1 | h1
   ·exact (ba.app _).ch k h1
   ·have:k=i:=by omega
    subst this
    exact ⟨_,_,by rw [←hl,List.getElem?_append_right (Nat.le_refl _),Nat.sub_self];rfl⟩
 ·rintro _ ⟨ls,rfl,dr,ba,hl⟩
  exact zf (zJ (show ¬((b - 1+1:Nat):Int) < (b:Int) by omega)) (za (zr ⟨rfl,ls,rfl,dr,ba,hl⟩))
 rintro ⟨j,⟨q,⟨⟩,w,⟨⟩⟩,⟨u,⟨⟩⟩⟩ ⟨hq,ls0,hu,dr,ba,hl⟩
 simp only at hq hu
 subst hq hu
 have z0:∀n,b≤n→n < b+c→cnt ls0 n=0:=by
  intro n hn hn2
  have key:∀k,k≤b - 1→cnt (ls0.take k) n=0:=by
   intro k
   induction k with
   |zero=>intro _;simp [cnt]
   |succ k ih=>
    intro hk
    obtain ⟨p,d',e⟩:=ba.ch k (by omega)
    rw [zzP e,ih (by omega),UJ (show k≠n by omega),UJ (show k+1≠n by omega)];rfl
  have:=key (b - 1) (Nat.le_refl _)
  rwa [List.take_of_length_le (by omega)] at this
 refine zm (J:=fun x=>x.2.1.1=q∧∃ls,x.2.2.1=(((b+c:Nat):Int),(sts b c,(ls,())))∧Dr b c ls∧Vn b c (b - 1) c ls∧ls.length=b - 1+c∧∀n,b≤n→n < b+c→cnt ls n=1)
  (zT c (fun i s=>∃ls,s=((q,((),((i:Int),()))),((((b+c:Nat):Int),(sts b c,(ls,()))),()))∧Dr b c ls∧Vn b c (b - 1) i ls∧ls.length=b - 1+i∧∀n,b≤n→n < b+c→cnt ls n=if n < b+i then 1 else 0) (by omega) ⟨ls0,rfl,dr,ba,by omega,fun n h1 h2=>by rw [z0 n h1 h2,if_neg (by omega)]⟩ ?_ ?_) ?_
 ·rintro i _ hi ⟨ls,rfl,dr,ba,hl,hcn⟩
  refine ze (zQ (show (i:Int) < (c:Int) by omega)) ?_
  have e2:wrF .i64 (2*(i:Int))=((2*i:Nat):Int):=by rw [zE]<;>omega
  have e3:wrF .i64 ((b:Int)+(i:Int))=((b+i:Nat):Int):=by rw [zE]<;>omega
  have eq:wrF .i64 ((i:Int)+1)=((i+1:Nat):Int):=qu (by omega)
  obtain ⟨x,ex,x0,x1⟩:=Uf hd.h (i:=((2*i:Nat):Int)) (by omega)
  simp only [e2,e3,eq,ex,zw,bnz,cond_false]
  obtain ⟨hh,ehh,hhb⟩:∃hh:Nat,Int.tmod x (b:Int)=(hh:Int)∧hh < b:=⟨(x % (b:Int)).toNat,by rw [Int.tmod_eq_emod_of_nonneg x0];have:=Int.emod_nonneg x (show (b:Int)≠0 by omega);omega,by have:=Int.emod_lt_of_pos x (show 0 < (b:Int) by omega);have:=Int.emod_nonneg x (show (b:Int)≠0 by omega);omega⟩
  simp only [ehh]
  have links:∀o∈ls,¬uY o ((b+i:Nat):Int) (hh:Int):=by
   intro o ho hj
   obtain ⟨k,hk,hk2⟩:=wL ho
   unfold uY at hj
   rcases Nat.lt_or_ge k (b - 1) with h1 | h1
   ·obtain ⟨p,d',e⟩:=ba.ch k h1
    rw [hk2] at e
    cases e
    simp only at hj
    omega
   ·obtain ⟨q',p,d',e,hqb⟩:=ba.ho (k - (b - 1)) (by omega)
    rw [show b - 1+(k - (b - 1))=k by omega,hk2] at e
    cases e
    simp only at hj
    omega
  refine zn7 (t:=tOf b c ls) dr.sz (a:=((b+i:Nat):Int)) (b:=(hh:Int)) hd.p hd.e rfl rfl ?_ ?_
  ·intro x y x0 x1 y0 y1 hbad
   exfalso
   rcases hbad with h | h | ⟨o,ho,hj⟩
   ·have h:ls.length=24:=h
    omega
   ·exact h (zBi (m:=b+i) (n:=hh) (by omega) (by omega) (by omega) (.inr hhb) x0 x1 y0 y1)
   ·exact links o ho hj
  ·intro x y x0 x1 y0 y1 h24 hlk hno
   refine za (qj ⟨ls++[_],rfl,dr.add h24 hlk hno,⟨fun k hk=>(ba.app _).ch k hk,fun k hk=>?_⟩,by simp [hl];omega,fun n h1 h2=>?_⟩)
   ·rcases Nat.lt_or_ge k i with h1 | h1
    ·exact (ba.app _).ho k h1
    ·have:k=i:=by omega
     subst this
     exact ⟨hh,_,_,by rw [←hl,List.getElem?_append_right (Nat.le_refl _),Nat.sub_self];rfl,hhb⟩
   ·rw [zkK,hcn n h1 h2]
    simp only
    rw [UJ (show hh≠n by omega)]
    by_cases h:n=b+i
    ·subst h
     rw [zz3,if_neg (by omega),if_pos (by omega)];rfl
    ·rw [UJ (show b+i≠n by omega)]
     by_cases h3:n < b+i
     ·rw [if_pos h3,if_pos (by omega)];rfl
     ·rw [if_neg h3,if_neg (by omega)];rfl
 ·rintro _ ⟨ls,rfl,dr,ba,hl,hcn⟩
  exact zf (zJ (show ¬(c:Int) < (c:Int) by omega)) (za (zr ⟨rfl,ls,rfl,dr,ba,hl,fun n h1 h2=>by rw [hcn n h1 h2,if_pos h2]⟩))
 clear dr ba hl z0
 rintro ⟨j,⟨q',⟨⟩,w',⟨⟩⟩,⟨u,⟨⟩⟩⟩ ⟨hq,ls0,hu,dr,ba,hl,hcn⟩
 simp only at hq hu
 subst hq hu
 refine zm (J:=fun x=>x.2.1.1=q'∧∃ls,x.2.2.1=(((b+c:Nat):Int),(sts b c,(ls,())))∧Dr b c ls∧Vn b c (b - 1) c ls∧ls.length≤b+c∧∀n,b≤n→n < b+c→cnt ls n=1) ?_ ?_
 ·have keep:qp (some ((0:Nat),((q',((),())),((((b+c:Nat):Int),(sts b c,(ls0,()))),())))) fun x=>x.2.1.1=q'∧∃ls,x.2.2.1=(((b+c:Nat):Int),(sts b c,(ls,())))∧Dr b c ls∧Vn b c (b - 1) c ls∧ls.length≤b+c∧∀n,b≤n→n < b+c→cnt ls n=1:=
   za ⟨rfl,ls0,rfl,dr,ba,by omega,hcn⟩
  refine zj (fun hb2=>zj (fun _=>?_) (fun _=>keep)) (fun _=>keep)
  have hb2:=qi hb2
  have ep:wrF .i64 ((b:Int) - 1)=((b - 1:Nat):Int):=zz2 (by omega) (by omega)
  simp only [ep]
  refine zn7 (t:=tOf b c ls0) dr.sz (a:=((b - 1:Nat):Int)) (b:=0) hd.p hd.e rfl rfl (fun x y x0 x1 y0 y1 _=>keep) ?_
  intro x y x0 x1 y0 y1 h24 hlk hno
  refine za ⟨rfl,ls0++[_],rfl,dr.add h24 hlk hno,ba.app _,by simp;omega,fun n h1 h2=>?_⟩
  rw [zkK,hcn n h1 h2]
  simp only
  rw [UJ (show b - 1≠n by omega),show one 0 n=0 from UJ (m:=0) (by omega)];rfl
 clear dr ba hl hcn
 rintro ⟨j,⟨q,⟨⟩,⟨⟩⟩,⟨u,⟨⟩⟩⟩ ⟨hq,ls0,hu,dr,ba,hl,hcn⟩
 simp only at hq hu
 subst hq hu
 refine zm (J:=fun x=>x.2.1.1=q∧∃ls,x.2.2.1=(((b+c:Nat):Int),(sts b c,(ls,())))∧Dr b c ls∧Vn b c (b - 1) c ls∧∀n,b≤n→n < b+c→1≤cnt ls n∧cnt ls n≤2)
  (zT c (fun i s=>∃ls,s=((q,((),((i:Int),()))),((((b+c:Nat):Int),(sts b c,(ls,()))),()))∧Dr b c ls∧Vn b c (b - 1) c ls∧∀n,b≤n→n < b+c→1≤cnt ls n∧cnt ls n≤if n < b+i then 2 else 1) (by omega) ⟨ls0,rfl,dr,ba,fun n h1 h2=>by rw [hcn n h1 h2];split<;>omega⟩ ?_ ?_) ?_
 ·rintro i _ hi ⟨ls,rfl,dr,ba,hcn⟩
  refine ze (zQ (show (i:Int) < (c:Int) by omega)) ?_
  have e2:wrF .i64 ((wrF .i64 (2*(i:Int)))+1)=((2*i+1:Nat):Int):=by rw [zE (z:=2*(i:Int)) (by omega) (by omega),zE (by omega) (by omega)];omega
  have e3:wrF .i64 ((b:Int)+(i:Int))=((b+i:Nat):Int):=by rw [zE]<;>omega
  have eq:wrF .i64 ((i:Int)+1)=((i+1:Nat):Int):=qu (by omega)
  obtain ⟨x,ex,x0,x1⟩:=Uf hd.h (i:=((2*i+1:Nat):Int)) (by omega)
  simp only [e2,e3,eq,ex,zw,bnz,cond_false]
  obtain ⟨hh,ehh,hhb⟩:∃hh:Nat,Int.tmod x (b:Int)=(hh:Int)∧hh < b:=⟨(x % (b:Int)).toNat,by rw [Int.tmod_eq_emod_of_nonneg x0];have:=Int.emod_nonneg x (show (b:Int)≠0 by omega);omega,by have:=Int.emod_lt_of_pos x (show 0 < (b:Int) by omega);have:=Int.emod_nonneg x (show (b:Int)≠0 by omega);omega⟩
  simp only [ehh]
  refine zm (J:=fun x=>x.2.1.1=q∧∃ls,x.2.2.1=(((b+c:Nat):Int),(sts b c,(ls,())))∧Dr b c ls∧Vn b c (b - 1) c ls∧∀n,b≤n→n < b+c→1≤cnt ls n∧cnt ls n≤if n < b+(i+1) then 2 else 1) ?_ ?_
  ·have keep:qp (some ((0:Nat),((q,((),())),((((b+c:Nat):Int),(sts b c,(ls,()))),())))) fun x=>x.2.1.1=q∧∃ls,x.2.2.1=(((b+c:Nat):Int),(sts b c,(ls,())))∧Dr b c ls∧Vn b c (b - 1) c ls∧∀n,b≤n→n < b+c→1≤cnt ls n∧cnt ls n≤if n < b+(i+1) then 2 else 1:=
    za ⟨rfl,ls,rfl,dr,ba,fun n h1 h2=>by
     have:=hcn n h1 h2
     split at this<;>split<;>omega⟩
   refine zj (fun _=>?_) (fun _=>keep)
   refine zn7 (t:=tOf b c ls) dr.sz (a:=((b+i:Nat):Int)) (b:=(hh:Int)) hd.p hd.e rfl rfl (fun x y x0 x1 y0 y1 _=>keep) ?_
   intro x y x0 x1 y0 y1 h24 hlk hno
   refine za ⟨rfl,ls++[_],rfl,dr.add h24 hlk hno,ba.app _,fun n h1 h2=>?_⟩
   have h3:=hcn n h1 h2
   rw [zkK]
   simp only
   rw [UJ (show hh≠n by omega)]
   by_cases h:n=b+i
   ·subst h
    rw [zz3]
    rw [if_neg (by omega)] at h3
    rw [if_pos (by omega)];omega
   ·rw [UJ (show b+i≠n by omega)]
    split at h3<;>split<;>omega
  ·rintro ⟨j,⟨q',⟨⟩,⟨⟩⟩,⟨u,⟨⟩⟩⟩ ⟨hq,ls',hu,dr,ba,hcn⟩
   simp only at hq hu
   subst hq hu
   exact za (qj ⟨ls',rfl,dr,ba,hcn⟩)
 ·rintro _ ⟨ls,rfl,dr,ba,hcn⟩
  exact zf (zJ (show ¬(c:Int) < (c:Int) by omega)) (za (zr ⟨rfl,ls,rfl,dr,ba,fun n h1 h2=>by have:=hcn n h1 h2;rwa [if_pos h2] at this⟩))
 clear dr ba hl hcn
 rintro ⟨j,⟨q',⟨⟩,w',⟨⟩⟩,⟨u,⟨⟩⟩⟩ ⟨hq,ls0,hu,dr,ba,hcn⟩
 simp only at hq hu
 subst hq hu
 refine zm (J:=fun x=>∃ls,x.2.2.1=(((b+c:Nat):Int),(sts b c,(ls,())))∧Dr b c ls∧Vn b c (b - 1) c ls∧∀n,b≤n→n < b+c→1≤cnt ls n∧cnt ls n≤2)
  (zmQ (fun s=>∃(i:Nat) (ls:List wP),s=((q',((),((i:Int),()))),((((b+c:Nat):Int),(sts b c,(ls,()))),()))∧i≤13∧Dr b c ls∧Vn b c (b - 1) c ls∧∀n,b≤n→n < b+c→1≤cnt ls n∧cnt ls n≤2) _ (fun s=>20 - s.1.2.2.1.toNat) ⟨0,ls0,rfl,by omega,dr,ba,hcn⟩ (by show 20 - (0:Int).toNat < _;omega) ?_) ?_
 ·rintro _ ⟨i,ls,rfl,hi13,dr,ba,hcn⟩
  have eq:wrF .i64 ((i:Int)+1)=((i+1:Nat):Int):=qu (by omega)
  have eq2:wrF .i64 ((i:Int)+2)=((i+2:Nat):Int):=by rw [zE]<;>omega
  simp only [eq,eq2,bnz,cond_false]
  have out:qp (some (.inl ((0:Nat),((q',((),((i:Int),()))),((((b+c:Nat):Int),(sts b c,(ls,()))),()))):(Nat×(((zn6)×(Unit×(Int×Unit)))×((Int×(List Bool×(List wP×Unit)))×Unit))) ⊕ (((zn6)×(Unit×(Int×Unit)))×((Int×(List Bool×(List wP×Unit)))×Unit)))) (zou (fun s=>∃(i:Nat) (ls:List wP),s=((q',((),((i:Int),()))),((((b+c:Nat):Int),(sts b c,(ls,()))),()))∧i≤13∧Dr b c ls∧Vn b c (b - 1) c ls∧∀n,b≤n→n < b+c→1≤cnt ls n∧cnt ls n≤2) (fun x=>∃ls,x.2.2.1=(((b+c:Nat):Int),(sts b c,(ls,())))∧Dr b c ls∧Vn b c (b - 1) c ls∧∀n,b≤n→n < b+c→1≤cnt ls n∧cnt ls n≤2) (fun s=>20 - s.1.2.2.1.toNat) ((q',((),((i:Int),()))),((((b+c:Nat):Int),(sts b c,(ls,()))),()))):=
   za (zmP ⟨ls,rfl,dr,ba,hcn⟩)
  refine zj (fun h1=>zj (fun h2=>?_) (fun _=>out)) (fun _=>out)
  have h1:=qi h1
  have h2:=qi (show zh (i:Int) 12=true from h2)
  have hx:q'.2.2.1[i]?=some (q'.2.2.1[i]'(by omega)):=List.getElem?_eq_getElem (by omega)
  have hy:q'.2.2.1[i+1]?=some (q'.2.2.1[i+1]'(by omega)):=List.getElem?_eq_getElem (by omega)
  have bx:=hd.c _ (List.getElem_mem (show i < q'.2.2.1.length by omega))
  have hyb:=hd.c _ (List.getElem_mem (show i+1 < q'.2.2.1.length by omega))
  generalize (q'.2.2.1[i]'(by omega))=x at hx bx
  generalize (q'.2.2.1[i+1]'(by omega))=y at hy hyb
  refine zi (zC (n:=i) hx (zi (zC (n:=i+1) hy ?_)))
  have ex:wrF .i64 x=x:=zE (by omega) (by omega)
  have ey:wrF .i64 y=y:=zE (by omega) (by omega)
  simp only [ex,ey]
  obtain ⟨m,em,hmb⟩:∃hh:Nat,Int.tmod x (b:Int)=(hh:Int)∧hh < b:=⟨(x % (b:Int)).toNat,by rw [Int.tmod_eq_emod_of_nonneg bx.1];have:=Int.emod_nonneg x (show (b:Int)≠0 by omega);omega,by have:=Int.emod_lt_of_pos x (show 0 < (b:Int) by omega);have:=Int.emod_nonneg x (show (b:Int)≠0 by omega);omega⟩
  obtain ⟨n,en,hnb⟩:∃hh:Nat,Int.tmod y (b:Int)=(hh:Int)∧hh < b:=⟨(y % (b:Int)).toNat,by rw [Int.tmod_eq_emod_of_nonneg hyb.1];have:=Int.emod_nonneg y (show (b:Int)≠0 by omega);omega,by have:=Int.emod_lt_of_pos y (show 0 < (b:Int) by omega);have:=Int.emod_nonneg y (show (b:Int)≠0 by omega);omega⟩
  simp only [em,en]
  refine zn7 (t:=tOf b c ls) dr.sz (a:=(m:Int)) (b:=(n:Int)) hd.p hd.e rfl rfl (fun x y x0 x1 y0 y1 _=>?_) ?_
  ·refine za (zcI ⟨i+2,ls,rfl,by omega,dr,ba,hcn⟩ ?_)
   show 20 - (((i+2:Nat):Int)).toNat < 20 - ((i:Int)).toNat
   omega
  ·intro x y x0 x1 y0 y1 h24 hlk hno
   refine za (zcI ⟨i+2,ls++[_],rfl,by omega,dr.add h24 hlk hno,ba.app _,fun k h1 h2=>?_⟩ ?_)
   ·rw [zkK]
    simp only
    rw [UJ (show m≠k by omega),UJ (show n≠k by omega)]
    have:=hcn k h1 h2
    omega
   ·show 20 - (((i+2:Nat):Int)).toNat < 20 - ((i:Int)).toNat
    omega
 ·rintro ⟨j,⟨q,⟨⟩,w',⟨⟩⟩,⟨u,⟨⟩⟩⟩ ⟨ls,hu,dr,ba,hcn⟩
  simp only at hu
  subst hu
  refine za ⟨ls,rfl,zD5 dr ba hcn,?_⟩
  obtain ⟨h,p,d',e,_⟩:=ba.ho 0 (by omega)
  have:b - 1+0 < ls.length:=by grind
  omega
def Xq (t:qm) (n:Int):List Int:=((List.range (2*t.2.2.length)).map fun (p:Nat)=>(p:Int)).filter fun p=>frm t p == n
theorem zwm (t:qm) (n:Int):∀p∈Xq t n,wa t p:=by
 intro p hp
 unfold Xq at hp
 obtain ⟨k,hk,rfl⟩:=List.mem_map.1 (List.mem_filter.1 hp).1
 have:=List.mem_range.1 hk
 exact ⟨by omega,by omega⟩
theorem ztK (t:qm) (n:Int):(Xq t n).length≤2*t.2.2.length:=by
 unfold Xq
 have:=List.length_filter_le (fun p=>frm t p == n) ((List.range (2*t.2.2.length)).map fun (p:Nat)=>(p:Int))
 simpa using this
theorem Kb {t:qm} (hl:t.2.2.length≤24) (n:Int):JR (t,n,())=some (Xq t n,()):=by
 have hll:t.2.2.length≤1000000000000000:=by omega
 rw [zqm];unfold zd0
 rw [tw t hll]
 refine xf (zm (J:=fun x=>x.2.2.1=Xq t n) (zT (2*t.2.2.length) (fun i s=>s=(((i:Int),()),((((List.range i).map fun (p:Nat)=>(p:Int)).filter fun p=>frm t p == n),()))) (by omega) rfl ?_ ?_) ?_)
 ·rintro i _ hi rfl
  have hp:wa t (i:Int):=⟨by omega,by omega⟩
  refine ze (zQ (show (i:Int) < 2*(t.2.2.length:Int) by omega)) ?_
  have e:((List.range (i+1)).map fun (p:Nat)=>(p:Int)).filter (fun p=>frm t p == n)=(((List.range i).map fun (p:Nat)=>(p:Int)).filter fun p=>frm t p == n)++(if frm t (i:Int) == n then [(i:Int)] else []):=by
   rw [List.range_succ,List.map_append,List.filter_append]
   congr 1
   simp only [List.map_cons,List.map_nil,List.filter_cons,List.filter_nil]
  have hlen:(((List.range i).map fun (p:Nat)=>(p:Int)).filter fun p=>frm t p == n).length≤i:=by
   have:=List.length_filter_le (fun p=>frm t p == n) ((List.range i).map fun (p:Nat)=>(p:Int))
   simpa using this
  rw [QP hll hp]
  refine zm (J:=fun x=>x.2.2.1=(((List.range (i+1)).map fun (p:Nat)=>(p:Int)).filter fun p=>frm t p == n)) ?_ ?_
  ·rw [e]
   refine zj (fun h=>?_) (fun h=>?_)
   ·have h:=qR h
    refine ze (yx (Nat.le_trans (Nat.mul_le_mul_right 8 (Nat.add_le_add_right hlen 1)) (by omega)) (Nat.le_trans (Nat.add_le_add_right hlen 1) (by omega))) (za ?_)
    rw [if_pos (by simpa using h)]
   ·have h:=qX h
    refine za ?_
    rw [if_neg (by simpa using h),List.append_nil]
  ·rintro ⟨j,⟨⟩,c,⟨⟩⟩ hc
   simp only at hc
   subst hc
   exact za (qj (congrArg (fun z=>((z,()),(_,()))) (qu (by omega))))
 ·rintro _ rfl
  exact zf (zJ (show ¬((2*t.2.2.length:Nat):Int) < 2*(t.2.2.length:Int) by omega)) (za (zr rfl))
 ·rintro ⟨j,⟨z,⟨⟩⟩,c,⟨⟩⟩ hc
  exact za hc
noncomputable def JI (t:qm) (ps seen:List Int):List Int:=ps.filter fun p=>!tv (too t p∈seen)
theorem zhZ {t:qm} (hll:t.2.2.length≤24) {ps seen:List Int} (hps:∀p∈ps,wa t p) (hpl:ps.length≤48) (hsl:seen.length≤100)
  {B:((Int×Unit)×((List Int)×((List Int)×Unit)))→Option ((Nat×((Int×Unit)×((List Int)×((List Int)×Unit)))) ⊕ ((Int×Unit)×((List Int)×((List Int)×Unit))))}
  (hB:B=fun s2=>bif (zh (s2.1.1) ((((ps).length:Nat):Int))) then opt (opt (atI (ps) (s2.1.1)) fun x3=>
        opt (yk ((t,(x3,())))) fun x4=>
        opt (yZ ((s2.2.1,(x4.1,())))) fun x5=>
        bif (!x5.1) then opt (atI (ps) (s2.1.1)) fun x6=>
         bif (qW ((s2.2.2.1).length) (((x6::[])).length) (8)) then some (0,((),(s2.2.1,((s2.2.2.1++(x6::[])),()))))
         else none
        else some (0,((),(s2.2.1,(s2.2.2.1,()))))) fun x7=>
       some (.inr (((wrF .i64 ((s2.1.1+1))),()),(x7.2.2.1,(x7.2.2.2.1,()))))
      else some (.inl (0,((s2.1.1,()),(s2.2.1,(s2.2.2.1,())))))) :
  qp (zy B zH ((0,()),(seen,([],())))) fun x=>x.2.2.1=seen∧x.2.2.2.1=JI t ps seen:=by
 have hl2:t.2.2.length≤1000000000000000:=by omega
 subst hB
 refine zT ps.length (fun i s=>s=(((i:Int),()),(seen,(JI t (ps.take i) seen,())))) (by omega) rfl ?_ ?_
 ·rintro i _ hi rfl
  have hx:ps[i]?=some ps[i]:=List.getElem?_eq_getElem hi
  have hp:=hps _ (List.getElem_mem hi)
  generalize ps[i]=p at hx hp
  have hlen:(JI t (ps.take i) seen).length≤48:=by
   unfold JI
   have:=List.length_filter_le (fun p=>!tv (too t p∈seen)) (ps.take i)
   simp only [List.length_take] at this;omega
  have e:JI t (ps.take (i+1)) seen=JI t (ps.take i) seen++(if (!tv (too t p∈seen))=true then [p] else []):=by
   unfold JI
   rw [List.take_add_one,hx,List.filter_append]
   congr 1
   simp only [Option.toList,List.filter_cons,List.filter_nil]
  refine ze (zQ (show (i:Int) < (ps.length:Int) by omega)) (zm (J:=fun x=>x.2.2.1=seen∧x.2.2.2.1=JI t (ps.take (i+1)) seen) ?_ ?_)
  ·refine zi (zC (n:=i) hx ?_)
   rw [Jw hl2 hp,zw,zbS (by show seen.length≤_;omega),zw,e]
   refine zj (fun h=>?_) (fun h=>?_)
   ·refine zi (zC (n:=i) hx (ze (yx (by show ((JI t (ps.take i) seen).length+1)*8≤_;omega) (by show (JI t (ps.take i) seen).length+1≤_;omega)) (za ⟨rfl,?_⟩)))
    rw [if_pos h]
   ·refine za ⟨rfl,?_⟩
    have h:(!tv (too t p∈seen))=false:=h
    rw [h,if_neg (by simp),List.append_nil]
  ·rintro ⟨j,⟨⟩,c,c2,⟨⟩⟩ ⟨h1,h2⟩
   simp only at h1 h2
   subst h1 h2
   exact za (qj (congrArg (fun z=>((z,()),_)) (qu (by omega))))
 ·rintro _ rfl
  refine zf (zJ (show ¬(ps.length:Int) < (ps.length:Int) by omega)) (za (zr ⟨rfl,?_⟩))
  show JI t (ps.take ps.length) seen=_
  rw [List.take_length]
theorem zD6 {t:qm} (ht:jP t) {a k:Int} (a0:0≤a) (a1:a≤255) (k0:0≤k) (k1:k≤255):∃r,ZJ (t,a,k,())=some (r,()):=by
 have n0:=ht.sz.n0;have n1:=ht.sz.n1;have hls:=ht.sz.ls
 have hll:t.2.2.length≤1000000000000000:=by omega
 suffices key:qp (ZJ (t,a,k,())) fun _=>True by
  obtain ⟨⟨r,⟨⟩⟩,e,_⟩:=key
  exact ⟨r,e⟩
 have ew:wrF .i64 a=a:=zE (by omega) (by omega)
 have em:Int.tmod a t.1=a % t.1:=Int.tmod_eq_emod_of_nonneg a0
 have m0:=Int.emod_nonneg a (show t.1≠0 by omega)
 have m1:=Int.emod_lt_of_pos a (show 0 < t.1 by omega)
 rw [zsn];unfold zfZ
 rw [ew,em]
 refine zf (jf (show t.1≠0 by omega)) ?_
 have stop:∀(r:Option Int) (at_:Int) (out seen:List Int),True:=fun _ _ _ _=>trivial
 refine zm (J:=fun s=>∃r at_ out seen,s=((t,(r,(at_,()))),(out,(seen,())))∧jg t at_∧out.length≤8∧seen.length=out.length+1∧(8≤out.length∨(out≠[]∧stn t at_=true)∨JI t (Xq t at_) seen=[]))
  (zmQ (fun s=>∃r at_ out seen,s=((t,(r,(at_,()))),(out,(seen,())))∧jg t at_∧out.length≤8∧seen.length=out.length+1) _ (fun s=>20 - s.2.1.length) ⟨[],a % t.1,[],[a % t.1],rfl,⟨m0,m1⟩,by simp,rfl⟩ (by show 20 - 0 < _;omega) ?_) ?_
 ·rintro _ ⟨r,at_,out,seen,rfl,hn,ho,hs⟩
  have hpl:=ztK t at_
  have hpo:=zwm t at_
  have fin:(8≤out.length∨(out≠[]∧stn t at_=true)∨JI t (Xq t at_) seen=[])→qp (some (.inl ((t,(r,(at_,()))),(out,(seen,()))):((qm×((List Int)×(Int×Unit)))×((List Int)×((List Int)×Unit))) ⊕ ((qm×((List Int)×(Int×Unit)))×((List Int)×((List Int)×Unit))))) (zou (fun s=>∃r at_ out seen,s=((t,(r,(at_,()))),(out,(seen,())))∧jg t at_∧out.length≤8∧seen.length=out.length+1) (fun s=>∃r at_ out seen,s=((t,(r,(at_,()))),(out,(seen,())))∧jg t at_∧out.length≤8∧seen.length=out.length+1∧(8≤out.length∨(out≠[]∧stn t at_=true)∨JI t (Xq t at_) seen=[])) (fun s=>20 - s.2.1.length) ((t,(r,(at_,()))),(out,(seen,())))):=fun h=>
   za (zmP ⟨r,at_,out,seen,rfl,hn,ho,hs,h⟩)
  have step:out.length < 8→∀(seen' nx:List Int),seen'=seen→nx=JI t (Xq t at_) seen→qp (bif (zg ((((nx).length:Nat):Int)) (0)) then some (.inl ((t,(r,(at_,()))),(out,(seen,()))))
     else bif (zg ((((nx).length:Nat):Int)) (0)) then none
      else opt (atI (nx) ((Int.tmod (wrF .i64 (((wrF .i64 (k))+(wrF .i64 ((3*(((out).length:Nat):Int))))))) (((nx).length:Nat):Int)))) fun x9=>
       opt (gl (nx) ((Int.toNat (Int.tmod (wrF .i64 (((wrF .i64 (k))+(wrF .i64 ((3*(((out).length:Nat):Int))))))) (((nx).length:Nat):Int))))) fun x10=>
       bif (qW ((out).length) (((x10::[])).length) (8)) then opt (yk ((t,(x10,())))) fun x11=>
        bif (qW ((seen').length) (((x11.1::[])).length) (8)) then some (.inr ((t,(r,(x11.1,()))),((out++(x10::[])),((seen'++(x11.1::[])),()))))
        else none
       else none) (zou (fun s=>∃r at_ out seen,s=((t,(r,(at_,()))),(out,(seen,())))∧jg t at_∧out.length≤8∧seen.length=out.length+1) (fun s=>∃r at_ out seen,s=((t,(r,(at_,()))),(out,(seen,())))∧jg t at_∧out.length≤8∧seen.length=out.length+1∧(8≤out.length∨(out≠[]∧stn t at_=true)∨JI t (Xq t at_) seen=[])) (fun s=>20 - s.2.1.length) ((t,(r,(at_,()))),(out,(seen,())))):=by
   intro h8 seen' nx e1 e2
   subst e1
   refine zj (fun h=>fin (.inr (.inr ?_))) (fun h=>?_)
   ·have h:=qR h
    rw [←e2];exact List.length_eq_zero_iff.1 (by omega)
   have hz:(nx.length:Int)≠0:=qX h
   have ek:wrF .i64 k=k:=zE (by omega) (by omega)
   have e3:wrF .i64 (3*(out.length:Int))=3*(out.length:Int):=zE (by omega) (by omega)
   have e4:wrF .i64 (k+3*(out.length:Int))=k+3*(out.length:Int):=zE (by omega) (by omega)
   rw [ek,e3,e4,Int.tmod_eq_emod_of_nonneg (by omega)]
   have i0:=Int.emod_nonneg (k+3*(out.length:Int)) hz
   have i1:=Int.emod_lt_of_pos (k+3*(out.length:Int)) (show 0 < (nx.length:Int) by omega)
   refine zf (jf hz) (zi (qH i0 i1 fun _ _=>zi (jy (by omega) fun p hp=>?_)))
   have hpt:wa t p:=by
    have:=List.mem_of_getElem? hp
    rw [e2] at this
    exact hpo p (List.mem_filter.1 this).1
   refine ze (yx (by show (out.length+1)*8≤_;omega) (by show out.length+1≤_;omega)) ?_
   rw [Jw hll hpt,zw]
   refine ze (yx (by show (seen'.length+1)*8≤_;omega) (by show seen'.length+1≤_;omega)) (za (zcI ⟨r,too t p,out++[p],seen'++[too t p],rfl,(zah ht.ls hpt).2.1,by simp;omega,by simp;omega⟩ ?_))
   show 20 - (out++[p]).length < 20 - out.length
   simp;omega
  refine zj (fun h8=>?_) (fun h8=>fin (.inl ?_))
  rotate_left
  ·have h8:(8:Int)≤(out.length:Int):=qz h8
   omega
  have h8:(out.length:Int) < 8:=qi h8
  refine zj (fun hz=>?_) (fun hz=>?_)
  ·rw [Kb hls,zw]
   refine zm (zhZ hls hpo (by omega) (by show seen.length≤_;omega) rfl) ?_
   rintro ⟨j,⟨z,⟨⟩⟩,c,c2,⟨⟩⟩ ⟨h1,h2⟩
   exact step (by omega) c c2 h1 h2
  ·have hz:(out.length:Int)≠0:=qX hz
   refine zi (qf (a:=stn t at_) (by show atI t.2.1 at_=_;rw [show at_=((at_.toNat:Nat):Int) from (by have:=hn.1;omega),jx (n:=at_.toNat)];exact hn.get ht.sz) ?_)
   refine zj (fun hst=>?_) (fun hst=>fin (.inr (.inl ⟨fun e=>?_,by simpa using hst⟩)))
   ·rw [Kb hls,zw]
    refine zm (zhZ hls hpo (by omega) (by show seen.length≤_;omega) rfl) ?_
    rintro ⟨j,⟨z,⟨⟩⟩,c,c2,⟨⟩⟩ ⟨h1,h2⟩
    exact step (by omega) c c2 h1 h2
   ·rw [e] at hz;exact hz rfl
 ·rintro _ ⟨r,at_,out,seen,rfl,hn,ho,hs,hstop⟩
  have hpl:=ztK t at_
  have hpo:=zwm t at_
  refine zj (fun h8=>?_) (fun _=>za trivial)
  have h8:(out.length:Int) < 8:=qi h8
  refine zj (fun hz=>?_) (fun hz=>?_)
  ·have hz:(out.length:Int)=0:=qR hz
   have hnx:JI t (Xq t at_) seen=[]:=by
    rcases hstop with h | ⟨h,_⟩ | h
    ·omega
    ·exact absurd (List.length_eq_zero_iff.1 (by omega)) h
    ·exact h
   rw [Kb hls,zw]
   refine zm (zhZ hls hpo (by omega) (by show seen.length≤_;omega) rfl) ?_
   rintro ⟨j,⟨z,⟨⟩⟩,c,c2,⟨⟩⟩ ⟨h1,h2⟩
   simp only at h1 h2
   rw [hnx] at h2
   subst h2
   exact ze rfl (za trivial)
  ·refine zi (qf (a:=stn t at_) (by show atI t.2.1 at_=_;rw [show at_=((at_.toNat:Nat):Int) from (by have:=hn.1;omega),jx (n:=at_.toNat)];exact hn.get ht.sz) ?_)
   refine zj (fun hst=>?_) (fun _=>za trivial)
   have hnx:JI t (Xq t at_) seen=[]:=by
    rcases hstop with h | ⟨_,h⟩ | h
    ·omega
    ·rw [h] at hst;cases hst
    ·exact h
   rw [Kb hls,zw]
   refine zm (zhZ hls hpo (by omega) (by show seen.length≤_;omega) rfl) ?_
   rintro ⟨j,⟨z,⟨⟩⟩,c,c2,⟨⟩⟩ ⟨h1,h2⟩
   simp only at h1 h2
   rw [hnx] at h2
   subst h2
   exact ze rfl (za trivial)
theorem zxL (z:Int):0≤wrF .u8 z∧wrF .u8 z≤255:=by
 rw [Uw,IntKind.wrap_u8];omega
theorem zz4 {t:qm} (hs:szP t) {n:Int} (hn:jg t n):atI t.2.1 n=some (stn t n):=by
 have e:n=((n.toNat:Nat):Int):=by have:=hn.1;omega
 rw [e,jx (n:=n.toNat)]
 rw [←e];exact hn.get hs
theorem zwn {α:Type} {l:List α} (h:1≤l.length):zrO l=true:=by
 cases l with
 |nil=>simp at h
 |cons a b=>rfl
theorem zD7 {t:qm} (ht:jP t) (nd w:Int)
  {B:(((Int×((List Bool)×(List (Int×(Int×(Int×Int))))))×((List Int)×(Int×Unit)))×Unit)→Option ((Nat×(((Int×((List Bool)×(List (Int×(Int×(Int×Int))))))×((List Int)×(Int×Unit)))×Unit)) ⊕ (((Int×((List Bool)×(List (Int×(Int×(Int×Int))))))×((List Int)×(Int×Unit)))×Unit))}
  (hB:B=fun s3:(((Int×((List Bool)×(List (Int×(Int×(Int×Int))))))×((List Int)×(Int×Unit)))×Unit)=>
   bif (zh (s3.1.2.2.1) (16)) then opt (ZJ ((s3.1.1,((wrF .u8 (nd)),((wrF .u8 ((w+(wrF .u8 (s3.1.2.2.1))))),()))))) fun x4=>
    opt
      (bif (zh (0) ((((x4.1).length:Nat):Int))) then opt (vG ((s3.1.1,(x4.1,())))) fun x5=>
      bif x5.1 then opt (atI (x4.1) (0)) fun x6=>
       opt (ju ((s3.1.1,(x6,())))) fun x7=>
       opt (atI (s3.1.1.2.1) (x7.1)) fun x8=>
       bif x8 then opt (atI (x4.1) ((wrF .i64 (((((x4.1).length:Nat):Int) - 1))))) fun x9=>
        opt (yk ((s3.1.1,(x9,())))) fun x10=>
        opt (atI (s3.1.1.2.1) (x10.1)) fun x11=>
        bif x11 then some (1,((x4.1,()),()))
        else some (0,((s3.1.2.1,()),()))
       else some (0,((s3.1.2.1,()),()))
      else some (0,((s3.1.2.1,()),()))
     else some (0,((s3.1.2.1,()),()))) fun x12=>
    bif (Nat.beq x12.1 0) then some (.inr ((s3.1.1,(x12.2.1.1,((wrF .i64 ((s3.1.2.2.1+1))),()))),()))
    else some (.inl (1,((s3.1.1,(x12.2.1.1,(s3.1.2.2.1,()))),())))
   else some (.inl (0,((s3.1.1,(s3.1.2.1,(s3.1.2.2.1,()))),())))) :
  qp (zy B zH ((t,([],(0,()))),())) fun x=>x.1=0∨(x.1=1∧qV t x.2.1.2.1):=by
 have hll:t.2.2.length≤1000000000000000:=ht.ll
 subst hB
 refine zT 16 (fun i s=>s=((t,([],((i:Int),()))),())) (by omega) rfl ?_ ?_
 ·rintro i _ hi rfl
  refine ze (zQ (show (i:Int) < 16 by omega)) ?_
  obtain ⟨r,hr⟩:=zD6 ht (zxL nd).1 (zxL nd).2 (zxL (w+wrF .u8 (i:Int))).1 (zxL (w+wrF .u8 (i:Int))).2
  rw [hr,zw]
  refine zm (J:=fun x=>(x.1=0∧x.2.1.1=[])∨(x.1=1∧qV t x.2.1.1)) ?_ ?_
  ·have stay:qp (some ((0:Nat),((([]:List Int),()),()))) (fun x=>(x.1=0∧x.2.1.1=[])∨(x.1=1∧qV t x.2.1.1)):=za (.inl ⟨rfl,rfl⟩)
   refine zj (fun h=>?_) (fun h=>stay)
   have h:=qi h
   rw [zhP ht,zw]
   refine zj (fun hv=>?_) (fun _=>stay)
   have hv:qV t r:=Zy hv
   have r0:=hv.n0;have r1:=hv.n1
   refine zi (qH (by omega) (by show (0:Int) < (r.length:Int);omega) fun p hp=>?_)
   have hpp:wa t p:=hv.pt p (List.mem_of_getElem? hp)
   rw [QP hll hpp,zw]
   refine zi (qf (zz4 ht.sz (zah ht.ls hpp).1) ?_)
   refine zj (fun _=>?_) (fun _=>stay)
   have e:wrF .i64 ((r.length:Int) - 1)=(r.length:Int) - 1:=zE (by omega) (by omega)
   rw [e]
   refine zi (qH (by omega) (by show (r.length:Int) - 1 < (r.length:Int);omega) fun q hq=>?_)
   have hqp:wa t q:=hv.pt q (List.mem_of_getElem? hq)
   rw [Jw hll hqp,zw]
   refine zi (qf (zz4 ht.sz (zah ht.ls hqp).2.1) ?_)
   exact zj (fun _=>za (.inr ⟨rfl,hv⟩)) (fun _=>stay)
  ·rintro ⟨n,⟨r',⟨⟩⟩,⟨⟩⟩ (⟨h1,h2⟩ | ⟨h1,h2⟩)
   ·simp only at h1 h2
    subst h1 h2
    exact ze rfl (za (qj (congrArg (fun z=>((t,([],(z,()))),())) (qu (by omega)))))
   ·simp only at h1 h2
    subst h1
    exact zf rfl (za (zr (.inr ⟨rfl,h2⟩)))
 ·rintro _ rfl
  exact zf (zJ (show ¬(16:Int) < 16 by omega)) (za (zr (.inl rfl)))
abbrev ztL:=Bool×Bool×Int×Int×Int×Int×Int×Int
def sdP (d:ztL):Prop:=(0≤d.2.2.1∧d.2.2.1≤255)∧(0≤d.2.2.2.2.2.1∧d.2.2.2.2.2.1≤255)
theorem zAF {t:qm} (ht:jP t) {d:ztL} (hd:sdP d) (id:Int):∃s b,xC (d,t,id,())=some (s,b,()):=by
 have hll:t.2.2.length≤1000000000000000:=ht.ll
 have n0:=ht.sz.n0;have n1:=ht.sz.n1
 obtain ⟨⟨d0,d1⟩,d2,d3⟩:=hd
 suffices key:qp (xC (d,t,id,())) fun _=>True by
  obtain ⟨⟨s,b,⟨⟩⟩,e,_⟩:=key
  exact ⟨s,b,e⟩
 have m0:=Int.emod_nonneg d.2.2.1 (show t.1≠0 by omega)
 have m1:=Int.emod_lt_of_pos d.2.2.1 (show 0 < t.1 by omega)
 have ew:wrF .i64 d.2.2.1=d.2.2.1:=zE (by omega) (by omega)
 rw [zhb];unfold XV
 rw [ew,Int.tmod_eq_emod_of_nonneg d0]
 refine zf (jf (show t.1≠0 by omega)) ?_
 refine zm (J:=fun _=>True) (zT t.1.toNat (fun i s=>∃n,jg t n∧s=((n,((i:Int),())),())) (by omega) ⟨_,⟨m0,m1⟩,rfl⟩ ?_ ?_) ?_
 ·rintro i _ hi ⟨n,hn,rfl⟩
  have:=hn.1;have:=hn.2
  refine ze (zQ (show (i:Int) < t.1 by omega)) (zi (qf (zz4 ht.sz hn) ?_))
  refine zj (fun _=>?_) (fun _=>za (zr trivial))
  refine zf (jf (show t.1≠0 by omega)) (za (qj ⟨(n+1) % t.1,⟨Int.emod_nonneg _ (by omega),Int.emod_lt_of_pos _ (by omega)⟩,?_⟩))
  have e1:wrF .i64 (n+1)=n+1:=zE (by omega) (by omega)
  show ((Int.tmod (wrF .i64 (n+1)) t.1,(wrF .i64 ((i:Int)+1),())),())=_
  rw [e1,Int.tmod_eq_emod_of_nonneg (by omega),qu (by omega)]
 ·rintro _ ⟨n,hn,rfl⟩
  exact zf (zJ (show ¬((t.1.toNat:Nat):Int) < t.1 by omega)) (za (zr trivial))
 rintro x2 -
 refine zm (zD7 ht x2.2.1.1 d.2.2.2.1 rfl) ?_
 rintro ⟨k,⟨tt,r,z,⟨⟩⟩,⟨⟩⟩ h
 rcases h with h | ⟨h,hr⟩
 ·exact ze (by show Nat.beq k 0=true;rw [show k=0 from h];rfl) (za trivial)
 have hr:qV t r:=hr
 have r0:=hr.n0;have r1:=hr.n1
 have er:wrF .i64 ((r.length:Int) - 1)=(r.length:Int) - 1:=zE (by omega) (by omega)
 refine zf (by show Nat.beq k 0=false;rw [show k=1 from h];rfl) (ze (zwn r0) ?_)
 refine zi (qH (by omega) (by show (0:Int) < (r.length:Int);omega) fun p hp=>?_)
 have hpp:wa t p:=hr.pt p (List.mem_of_getElem? hp)
 rw [QP hll hpp,zw,er]
 refine zi (qH (by omega) (by show (r.length:Int) - 1 < (r.length:Int);omega) fun q hq=>?_)
 have hqp:wa t q:=hr.pt q (List.mem_of_getElem? hq)
 rw [Jw hll hqp,zw]
 refine zm (J:=fun _=>True) ?_ ?_
 ·refine zj (fun _=>za trivial) (fun _=>?_)
  have p0:=Int.emod_nonneg d.2.2.2.2.2.1 (show (10:Int)≠0 by omega)
  have p1:=Int.emod_lt_of_pos d.2.2.2.2.2.1 (show 0 < (10:Int) by omega)
  rw [Int.tmod_eq_emod_of_nonneg d2]
  refine zi (qH p0 p1 fun _ _=>zi (jy ?_ fun _ _=>za trivial))
  show (d.2.2.2.2.2.1 % 10).toNat < 10
  omega
 rintro x20 -
 refine zm (J:=fun x=>x.2.1.1=t) (zT 24 (fun i s=>∃F,s=((t,((),((i:Int),()))),F)) (by omega) ⟨_,rfl⟩ ?_ ?_) ?_
 ·rintro i _ hi ⟨F,rfl⟩
  refine ze (zQ (show (i:Int) < 24 by omega)) ?_
  have out:∀{k:Nat} {z:Int} {F'},qp (some (.inl (k,((t,((),(z,()))),F')):((Nat×(((Int×((List Bool)×(List (Int×(Int×(Int×Int))))))×(Unit×(Int×Unit)))×((Int×(Int×(Int×(Int×(Int×(Int×((Int×Int)×(Int×((List (List Int))×Unit)))))))))×Unit))) ⊕ (((Int×((List Bool)×(List (Int×(Int×(Int×Int))))))×(Unit×(Int×Unit)))×((Int×(Int×(Int×(Int×(Int×(Int×((Int×Int)×(Int×((List (List Int))×Unit)))))))))×Unit))))) (Nxt (fun x=>x.2.1.1=t) fun s=>∃F,s=((t,((),(((i+1:Nat):Int),()))),F)):=za (zr rfl)
  have on:∀{F'},qp (some (.inr ((t,((),(wrF .i64 ((i:Int)+1),()))),F'):((Nat×(((Int×((List Bool)×(List (Int×(Int×(Int×Int))))))×(Unit×(Int×Unit)))×((Int×(Int×(Int×(Int×(Int×(Int×((Int×Int)×(Int×((List (List Int))×Unit)))))))))×Unit))) ⊕ (((Int×((List Bool)×(List (Int×(Int×(Int×Int))))))×(Unit×(Int×Unit)))×((Int×(Int×(Int×(Int×(Int×(Int×((Int×Int)×(Int×((List (List Int))×Unit)))))))))×Unit))))) (Nxt (fun x=>x.2.1.1=t) fun s=>∃F,s=((t,((),(((i+1:Nat):Int),()))),F)):=fun {F'}=>za (qj ⟨F',congrArg (fun z=>((t,((),(z,()))),F')) (qu (by omega))⟩)
  refine zj (fun _=>zj (fun h1=>?_) (fun _=>out)) (fun _=>out)
  have h1:((F.1.2.2.2.2.2.2.2.2.1.length:Nat):Int)=1:=qR h1
  refine zm (zD7 ht x2.2.1.1 (wrF .u8 (d.2.2.2.1+wrF .u8 (i:Int))) rfl) ?_
  rintro ⟨k2,⟨tt2,b,z2,⟨⟩⟩,⟨⟩⟩ h
  rcases h with h | ⟨h,hb⟩
  ·exact ze (by show Nat.beq k2 0=true;rw [show k2=0 from h];rfl) on
  have hb:qV t b:=hb
  have b0:=hb.n0;have b1:=hb.n1
  have eb:wrF .i64 ((b.length:Int) - 1)=(b.length:Int) - 1:=zE (by omega) (by omega)
  refine zf (by show Nat.beq k2 0=false;rw [show k2=1 from h];rfl) ?_
  refine zm (J:=fun _=>True) ?_ ?_
  ·refine ze (zwn b0) ?_
   rw [eb]
   refine zi (qH (by omega) (by show (b.length:Int) - 1 < (b.length:Int);omega) fun q hq=>?_)
   have hqp:wa t q:=hb.pt q (List.mem_of_getElem? hq)
   rw [Jw hll hqp,zw]
   refine zj (fun _=>?_) (fun _=>za trivial)
   rw [zhQ ht hr hb,zw]
   refine zj (fun _=>?_) (fun _=>za trivial)
   exact ze (yx (by show (F.1.2.2.2.2.2.2.2.2.1.length+1)*24≤_;omega) (by show F.1.2.2.2.2.2.2.2.2.1.length+1≤_;omega)) (za trivial)
  ·rintro x36 -
   exact on
 ·rintro _ ⟨F,rfl⟩
  exact zf (zJ (show ¬(24:Int) < 24 by omega)) (za (zr rfl))
 rintro ⟨k3,⟨t3,⟨⟩,z3,⟨⟩⟩,F,⟨⟩⟩ h3
 have h3:t3=t:=h3
 subst h3
 rw [zhS ht,zw]
 exact za trivial
abbrev zHj:=List Int×List Int
abbrev zjv:=zn6×List zHj×(Int×Int×Int)×Int×Int×List ztL×List Int
structure drP (d:zjv):Prop where
 t:tdP d.1
 g:∀x∈d.2.1,u8 x.1∧u8 x.2
 u:(0≤d.2.2.1.1∧d.2.2.1.1≤255)∧(0≤d.2.2.1.2.1∧d.2.2.1.2.1≤255)∧(0≤d.2.2.1.2.2∧d.2.2.1.2.2≤255)
 cap:0≤d.2.2.2.1∧d.2.2.2.1≤255
 most:0≤d.2.2.2.2.1∧d.2.2.2.2.1≤65535
 l:∀x∈d.2.2.2.2.2.1,sdP x
 ll:d.2.2.2.2.2.1.length*10≤140737488355328
theorem zz5 {d:zjv} (hd:drP d):∃l,xk (d,())=some (l,())∧l.length≤6:=by
 suffices key:qp (xk (d,())) fun r=>r.1.length≤6 by
  obtain ⟨⟨l,⟨⟩⟩,e,h⟩:=key
  exact ⟨l,e,h⟩
 have hll:=hd.ll
 have hl:=hd.l
 rw [zf8];unfold YN
 refine zm (J:=fun x=>(∀y∈x.2.2.1,sdP y)∧x.2.2.1.length≤1000000000000000) (zT d.2.2.2.2.2.1.length (fun i s=>∃L:List ztL,s=(((i:Int),()),(L,()))∧L.length=i∧∀y∈L,sdP y) (by omega) ⟨[],rfl,rfl,fun y hy=>by cases hy⟩ ?_ ?_) ?_
 ·rintro i _ hi ⟨L,rfl,hL,hs⟩
  refine ze (zQ (show (i:Int) < (d.2.2.2.2.2.1.length:Int) by omega)) (zi (qH (by show 0≤(i:Int);omega) (by show (i:Int) < (d.2.2.2.2.2.1.length:Int);omega) fun x hx=>?_))
  have hx:=hl x (List.mem_of_getElem? hx)
  refine ze (yx (by show (L.length+1)*10≤_;omega) (by show L.length+1≤_;omega)) (za (qj ⟨L++[(true,x.2)],congrArg (fun z=>((z,()),(L++[(true,x.2)],()))) (qu (by omega)),by simp [hL],fun y hy=>?_⟩))
  rcases List.mem_append.1 hy with h | h
  ·exact hs y h
  ·rw [List.mem_singleton.1 h];exact hx
 ·rintro _ ⟨L,rfl,hL,hs⟩
  exact zf (zJ (show ¬((d.2.2.2.2.2.1.length:Nat):Int) < (d.2.2.2.2.2.1.length:Int) by omega)) (za (zr ⟨hs,by show L.length≤_;omega⟩))
 rintro ⟨k,⟨z,⟨⟩⟩,L,⟨⟩⟩ ⟨hs,hL⟩
 simp only at hs hL
 obtain ⟨b,c,ls,et,ht,h1⟩:=ztJ hd.t
 rw [et,zw]
 generalize tOf b c ls=t at ht
 refine zm (J:=fun x=>x.2.2.2.1.length≤6) (zT L.length (fun i s=>∃out:List jl,s=((t,((i:Int),())),(L,(out,())))∧out.length≤6) (by omega) ⟨[],rfl,by simp⟩ ?_ ?_) ?_
 ·rintro i _ hi ⟨out,rfl,ho⟩
  have hx:L[i]?=some L[i]:=List.getElem?_eq_getElem hi
  have hxs:=hs _ (List.getElem_mem hi)
  generalize L[i]=x at hx hxs
  refine ze (zQ (show (i:Int) < (L.length:Int) by omega)) (zj (fun h6=>?_) (fun _=>za (zr ho)))
  have h6:(out.length:Int) < 6:=qi h6
  refine zi (zC (n:=i) hx (zi (qf (a:=x) (by show gl L (Int.toNat (i:Int))=_;rw [Int.toNat_natCast,xA];exact hx) ?_)))
  obtain ⟨s,is,es⟩:=zAF ht hxs (wrF .i64 ((out.length:Int)+1))
  rw [es,zw]
  refine zm (J:=fun x=>x.2.2.1.length≤6) (zj (fun _=>ze (yx (by show (out.length+1)*96≤_;omega) (by show out.length+1≤_;omega)) (za ?_)) (fun _=>za ho)) ?_
  ·show (out++[s]).length≤6
   simp;omega
  ·rintro ⟨k,⟨⟩,o2,⟨⟩⟩ h2
   exact za (qj ⟨o2,congrArg (fun z=>((t,(z,())),(L,(o2,())))) (qu (by omega)),h2⟩)
 ·rintro _ ⟨out,rfl,ho⟩
  exact zf (zJ (show ¬((L.length:Nat):Int) < (L.length:Int) by omega)) (za (zr ho))
 rintro ⟨k,⟨t2,z,⟨⟩⟩,L2,out,⟨⟩⟩ h6
 have h6:out.length≤6:=h6
 refine zm (J:=fun x=>x.2.2.1.length≤6) (zT out.length (fun i s=>∃o:List jl,s=(((i:Int),()),(o,()))∧o.length=out.length) (by omega) ⟨out,rfl,rfl⟩ ?_ ?_) ?_
 ·rintro i _ hi ⟨o,rfl,ho⟩
  refine ze (zQ (show (i:Int) < (o.length:Int) by omega)) (zm (J:=fun x=>x.2.2.1.length=out.length) ?_ ?_)
  ·refine zj (fun h=>?_) (fun _=>za ho)
   have h:(i:Int) < (d.2.2.2.2.2.2.length:Int):=qi h
   refine zi (qH (by show 0≤(i:Int);omega) h fun x hx=>zj (fun _=>?_) (fun _=>za ho))
   refine zi (qH (by show 0≤(i:Int);omega) h fun y hy=>zi (qH (by show 0≤(i:Int);omega) (by show (i:Int) < (o.length:Int);omega) fun y hy=>zi (jy (by show i < o.length;omega) fun y hy=>za ?_)))
   show (List.set _ _ _).length=_
   rw [List.length_set];exact ho
  ·rintro ⟨k,⟨⟩,o2,⟨⟩⟩ h2
   exact za (qj ⟨o2,congrArg (fun z=>((z,()),(o2,()))) (qu (by omega)),h2⟩)
 ·rintro _ ⟨o,rfl,ho⟩
  exact zf (zJ (show ¬((out.length:Nat):Int) < (o.length:Int) by omega)) (za (zr (by show o.length≤6;omega)))
 rintro ⟨k,⟨z,⟨⟩⟩,o,⟨⟩⟩ ho
 exact za ho
def zkL (e:Int×Int):Prop:=(0≤e.1∧e.1≤255)∧(1≤e.2∧e.2≤1100)
def m40 (e:Int×Int):Int×Int:=(e.1,40*e.2)
theorem zz6 (l:List (Int×Int)) (x:Int×Int):qI (l++[x])=qI l+x.2:=by
 unfold qI;simp
theorem zn9 {l:List (Int×Int)} (h:∀e∈l,zkL e):0≤qI l∧qI l≤1100*l.length:=by
 unfold qI
 induction l with
 |nil=>simp
 |cons a l ih=>
  obtain ⟨_,h1,h2⟩:=h a (by simp)
  have:=ih fun e he=>h e (by simp [he])
  simp only [List.map_cons,List.sum_cons,List.length_cons]
  omega
theorem zGN (l:List (Int×Int)):qI (l.map m40)=40*qI l:=by
 unfold qI
 induction l with
 |nil=>rfl
 |cons a l ih=>
  simp only [List.map_cons,List.sum_cons,ih,m40]
  omega
theorem zGO {l:List (Int×Int)} (h:∀e∈l,zkL e) (h0:1≤l.length) (h1:l.length≤10):qB (l,qI l):=by
 have:=zn9 h
 exact ⟨h0,by show l.length≤128;omega,fun e he=>by obtain ⟨⟨a,b⟩,c,d⟩:=h e he;exact ⟨a,b,c,by omega⟩,rfl,by show qI l≤9600000;omega⟩
theorem zFz {l:List (Int×Int)} (h:∀e∈l,zkL e) (h0:1≤l.length) (h1:l.length≤10):qB (l.map m40,40*qI l):=by
 have:=zn9 h
 refine ⟨by simpa using h0,by show (l.map m40).length≤128;simp;omega,fun e he=>?_,zGN l,by show 40*qI l≤9600000;omega⟩
 obtain ⟨x,hx,rfl⟩:=List.mem_map.1 he
 obtain ⟨⟨a,b⟩,c,d⟩:=h x hx
 exact ⟨a,b,by show 1≤40*x.2;omega,by show 40*x.2≤9600000;omega⟩
theorem zHk {d:zjv} (hd:drP d):∃n,vS (d,())=some (n,())∧zvn n∧1≤n.1.2.2.length:=by
 suffices key:qp (vS (d,())) fun r=>zvn r.1∧1≤r.1.1.2.2.length by
  obtain ⟨⟨l,⟨⟩⟩,e,h⟩:=key
  exact ⟨l,e,h⟩
 obtain ⟨⟨u0,u1⟩,⟨u2,u3⟩,u4,u5⟩:=hd.u
 obtain ⟨c0,c1⟩:=hd.cap
 obtain ⟨m0,m1⟩:=hd.most
 obtain ⟨b,c,ls,et,ht,hls⟩:=ztJ hd.t
 have hl1:1≤(tOf b c ls).2.2.length:=hls
 have es:ZR (d.2.2.1.1,d.2.2.1.2.1,d.2.2.1.2.2,())=some ((100+20*d.2.2.1.1,d.2.2.1.2.1 % 40,d.2.2.1.2.2,8000),()):=by
  rw [zmW];unfold za2
  have e1:wrF .i64 d.2.2.1.1=d.2.2.1.1:=zE (by omega) (by omega)
  have e2:wrF .i64 (20*d.2.2.1.1)=20*d.2.2.1.1:=zE (by omega) (by omega)
  have e3:wrF .i64 (100+20*d.2.2.1.1)=100+20*d.2.2.1.1:=zE (by omega) (by omega)
  have e4:wrF .i64 (d.2.2.1.2.1 % 40)=d.2.2.1.2.1 % 40:=zE (by omega) (by omega)
  have e5:wrF .i64 d.2.2.1.2.2=d.2.2.1.2.2:=zE (by omega) (by omega)
  simp only [e1,e2,e3,Int.tmod_eq_emod_of_nonneg u2,e4,e5]
 rw [zka];unfold Uk
 rw [et,zw,es,zw]
 have hl24:=ht.sz.ls
 generalize tOf b c ls=t at ht hl1 hl24
 have e1:wrF .i64 d.2.2.2.1=d.2.2.2.1:=zE (by omega) (by omega)
 have e2:wrF .i64 (200*d.2.2.2.1)=200*d.2.2.2.1:=zE (by omega) (by omega)
 have e3:wrF .i64 (2000+200*d.2.2.2.1)=2000+200*d.2.2.2.1:=zE (by omega) (by omega)
 have e4:wrF .i64 (d.2.2.2.2.1 % 500)=d.2.2.2.2.1 % 500:=zE (by omega) (by omega)
 have e5:wrF .i64 (339+d.2.2.2.2.1 % 500)=339+d.2.2.2.2.1 % 500:=zE (by omega) (by omega)
 have e6:wrF .i64 (2*((t.2.2.length:Nat):Int))=((2*t.2.2.length:Nat):Int):=by rw [zE]<;>omega
 simp only [e1,e2,e3,Int.tmod_eq_emod_of_nonneg m0,e4,e5]
 have hu:Jy (100+20*d.2.2.1.1,d.2.2.1.2.1 % 40,d.2.2.1.2.2,2000+200*d.2.2.2.1):=⟨⟨by show 1≤100+20*d.2.2.1.1;omega,by show 100+20*d.2.2.1.1≤10000;omega⟩,⟨by show 0≤d.2.2.1.2.1 % 40;omega,by show d.2.2.1.2.1 % 40≤1000;omega⟩,⟨u4,by show d.2.2.1.2.2≤10000;omega⟩,⟨by show 1542≤2000+200*d.2.2.2.1;omega,by show 2000+200*d.2.2.2.1≤65536;omega⟩⟩
 have hm:84≤339+d.2.2.2.2.1 % 500∧339+d.2.2.2.2.1 % 500≤1542:=⟨by omega,by omega⟩
 generalize 339+d.2.2.2.2.1 % 500=most at hm
 generalize hU:(100+20*d.2.2.1.1,d.2.2.1.2.1 % 40,d.2.2.1.2.2,2000+200*d.2.2.2.1)=U at hu
 refine zm (J:=fun x=>x.2.2.1.1=t∧Jy x.2.2.1.2.1∧x.2.2.1.2.2.1.length=2*t.2.2.length∧(∀g∈x.2.2.1.2.2.1,qB g)∧x.2.2.1.2.2.2.1=most)
  (zT (2*t.2.2.length) (fun i s=>∃gs:List Gts,s=((d,((),((i:Int),()))),((t,(U,(gs,(most,())))),()))∧gs.length=i∧∀g∈gs,qB g) (by omega) ⟨[],by rw [←hU];rfl,rfl,fun y hy=>by cases hy⟩ ?_ ?_) ?_
 ·rintro i _ hi ⟨gs,rfl,hg,hgs⟩
  refine ze (zQ (by show (i:Int) < wrF .i64 (2*((t.2.2.length:Nat):Int));rw [e6];omega)) ?_
  refine zm (J:=fun x=>∃es cy,x.2.2.1=(es,(cy,()))∧es.length=1∧(∀e∈es,zkL e)∧cy=qI es) (zT 1 (fun k s=>∃es cy,s=(((),((k:Int),())),((es,(cy,())),()))∧es.length=k∧(∀e∈es,zkL e)∧cy=qI es) (by omega) ⟨[],0,rfl,rfl,fun y hy=>by (cases hy),rfl⟩ ?_ ?_) ?_
  ·rintro k _ hk ⟨es,cy,rfl,hl,he,hc⟩
   have:=zn9 he
   have hk0:k=0:=by omega
   subst hk0
   refine ze (by rw [JP,YI];exact zQ (by show (0:Int) < 1;decide)) ?_
   refine ze (yx (by show (es.length+1)*16≤_;omega) (by show es.length+1≤_;omega)) (za (qj ⟨es++[(127,1)],cy+1,?_,by simp [hl],fun e h=>?_,by rw [zz6,hc]⟩))
   ·have e1:wrF .i64 (cy+1)=cy+1:=zE (by omega) (by omega)
    show (((),(wrF .i64 (0+1),())),((es++[(127,1)],(wrF .i64 (cy+1),())),()))=_
    rw [e1];rfl
   ·rcases List.mem_append.1 h with h | h
    ·exact he e h
    ·rw [List.mem_singleton.1 h];exact ⟨⟨by decide,by decide⟩,by decide,by decide⟩
  ·rintro _ ⟨es,cy,rfl,hl,he,hc⟩
   refine zf (by rw [JP,YI];exact zJ (by show ¬(1:Int) < 1;decide)) (za (zr ⟨es,cy,rfl,hl,he,hc⟩))
  rintro ⟨k6,⟨⟨⟩,z6,⟨⟩⟩,E6,⟨⟩⟩ ⟨es,cy,e,hl,he,hc⟩
  have e:E6=(es,(cy,())):=e
  subst e
  have hg6:qB (es,cy):=by rw [hc];exact zGO he (by omega) (by omega)
  refine zm (J:=fun x=>x.2.1.1=d∧qB (x.2.2.1.1,x.2.2.1.2.1)) ?_ ?_
  ·refine zj (fun hG=>zj (fun _=>?_) (fun _=>za ⟨rfl,hg6⟩)) (fun _=>za ⟨rfl,hg6⟩)
   have hG:(0:Int) < (d.2.1.length:Int):=qi hG
   have p0:=Int.emod_nonneg (i:Int) (show (d.2.1.length:Int)≠0 by omega)
   have p1:=Int.emod_lt_of_pos (i:Int) hG
   refine zf (jf (show (d.2.1.length:Int)≠0 by omega)) (zi ?_)
   rw [Int.tmod_eq_emod_of_nonneg (by show 0≤(i:Int);omega)]
   refine qH p0 p1 fun x hx=>?_
   obtain ⟨gx1,gx2⟩:=hd.g x (List.mem_of_getElem? hx)
   have en:∃N:Nat,uv 1 (jt ((x.1.length:Nat):Int) 10)=(N:Int)∧1≤N∧N≤10:=⟨(uv 1 (jt ((x.1.length:Nat):Int) 10)).toNat,by rw [JP,YI];omega,by rw [JP,YI];omega,by rw [JP,YI];omega⟩
   obtain ⟨N,eN,N1,N2⟩:=en
   refine zm (J:=fun x=>∃es cy,x.2.2.1=(es,(cy,()))∧es.length=N∧(∀e∈es,zkL e)∧cy=qI es) (zT N (fun k s=>∃es cy,s=(((),((k:Int),())),((es,(cy,())),()))∧es.length=k∧(∀e∈es,zkL e)∧cy=qI es) (by omega) ⟨[],0,rfl,rfl,fun y hy=>by (cases hy),rfl⟩ ?_ ?_) ?_
   ·rintro k _ hk ⟨es,cy,rfl,hl,he,hc⟩
    have hq:=zn9 he
    refine ze (by show zh (k:Int) (uv 1 (jt ((x.1.length:Nat):Int) 10))=true;rw [eN];exact zQ (by omega)) ?_
    refine zm (J:=fun x=>(0≤x.2.1.1.1∧x.2.1.1.1≤255)∧x.2.1.1.2=1) ?_ ?_
    ·refine zj (fun h=>?_) (fun _=>za ⟨⟨by show (0:Int)≤127;decide,by show (127:Int)≤255;decide⟩,rfl⟩)
     have h:(k:Int) < (x.1.length:Int):=qi h
     refine zi (qH (by show 0≤(k:Int);omega) h fun y hy=>?_)
     obtain ⟨y0,y1⟩:=gx1 y (List.mem_of_getElem? hy)
     rw [Int.tmod_eq_emod_of_nonneg y0]
     have p0:=Int.emod_nonneg y (show (6:Int)≠0 by omega)
     have p1:=Int.emod_lt_of_pos y (show 0 < (6:Int) by omega)
     refine zi (qH p0 p1 fun _ _=>zi (jy (by show (y % 6).toNat < 6;omega) fun v hv=>za ⟨?_,rfl⟩))
     have:=List.mem_of_getElem? hv
     simp at this
     show 0≤v∧v≤255
     omega
    rintro ⟨k12,⟨⟨a,b⟩,⟨⟩⟩,⟨⟩⟩ ⟨h12,hb⟩
    have hb:b=1:=hb
    subst hb
    have h12:0≤a∧a≤255:=h12
    refine zm (J:=fun x=>zkL x.2.1.1) ?_ ?_
    ·refine zj (fun h=>?_) (fun _=>za ⟨h12,by show (1:Int)≤1;decide,by show (1:Int)≤1100;decide⟩)
     have h:(k:Int) < (x.2.length:Int):=qi h
     refine zi (qH (by show 0≤(k:Int);omega) h fun y hy=>?_)
     obtain ⟨y0,y1⟩:=gx2 y (List.mem_of_getElem? hy)
     have e1:wrF .i64 y=y:=zE (by omega) (by omega)
     have e2:wrF .i64 (4*y)=4*y:=zE (by omega) (by omega)
     have e3:wrF .i64 (1+4*y)=1+4*y:=zE (by omega) (by omega)
     rw [e1,e2,e3]
     exact za ⟨h12,by show 1≤1+4*y;omega,by show 1+4*y≤1100;omega⟩
    rintro ⟨k14,⟨q,⟨⟩⟩,⟨⟩⟩ hq14
    have hq14:zkL q:=hq14
    refine ze (yx (by show (es.length+1)*16≤_;omega) (by show es.length+1≤_;omega)) (za (qj ⟨es++[q],cy+q.2,?_,by simp [hl],fun e h=>?_,by rw [zz6,hc]⟩))
    ·obtain ⟨_,q0,q1⟩:=hq14
     have e1:wrF .i64 (cy+q.2)=cy+q.2:=zE (by omega) (by omega)
     show (((),(wrF .i64 ((k:Int)+1),())),((es++[q],(wrF .i64 (cy+q.2),())),()))=_
     rw [e1,qu (by omega)]
    ·rcases List.mem_append.1 h with h | h
     ·exact he e h
     ·rw [List.mem_singleton.1 h];exact hq14
   ·rintro _ ⟨es,cy,rfl,hl,he,hc⟩
    exact zf (by show zh (N:Int) (uv 1 (jt ((x.1.length:Nat):Int) 10))=false;rw [eN];exact zJ (by omega)) (za (zr ⟨es,cy,rfl,hl,he,hc⟩))
   rintro ⟨k15,⟨⟨⟩,z15,⟨⟩⟩,E15,⟨⟩⟩ ⟨es,cy,e,hl,he,hc⟩
   have e:E15=(es,(cy,())):=e
   subst e
   have hq:=zn9 he
   refine zm (J:=fun x=>x.2.2.1=(es.map m40,(cy,()))) (zT es.length (fun k s=>∃f:List (Int×Int),s=(((),((k:Int),())),((f,(cy,())),()))∧f.length=es.length∧∀j,f[j]?=if j < k then (es[j]?).map m40 else es[j]?) (by omega) ⟨es,rfl,rfl,fun j=>by simp⟩ ?_ ?_) ?_
   ·rintro k _ hk ⟨f,rfl,hf,hj⟩
    have hx2:f[k]?=some es[k]:=by rw [hj k,if_neg (by omega)];exact List.getElem?_eq_getElem hk
    have he2:=he _ (List.getElem_mem hk)
    have hx3:es[k]?=some es[k]:=List.getElem?_eq_getElem hk
    generalize es[k]=v at hx2 he2 hx3
    have hgl:gl f (Int.toNat (k:Int))=some v:=by rw [Int.toNat_natCast,xA];exact hx2
    refine ze (zQ (by show (k:Int) < (f.length:Int);omega)) ?_
    refine zi (zC (n:=k) hx2 ?_)
    refine zi (qf hgl ?_)
    refine zi (zC (n:=k) hx2 ?_)
    refine zi (qf hgl ?_)
    refine za (qj ⟨f.set k (m40 v),?_,by simp [hf],fun j=>?_⟩)
    ·obtain ⟨_,q0,q1⟩:=he2
     have e1:wrF .i64 (40*v.2)=40*v.2:=zE (by omega) (by omega)
     show (((),(wrF .i64 ((k:Int)+1),())),((f.set (Int.toNat (k:Int)) (v.1,wrF .i64 (40*v.2)),(cy,())),()))=_
     rw [e1,qu (by omega),Int.toNat_natCast];rfl
    ·rw [List.getElem?_set,hj j]
     by_cases h1:k=j
     ·subst h1
      rw [if_pos rfl,if_pos (by omega),if_pos (by omega),hx3];rfl
     ·rw [if_neg h1]
      by_cases h2:j < k
      ·rw [if_pos h2,if_pos (by omega)]
      ·rw [if_neg h2,if_neg (by omega)]
   ·rintro _ ⟨f,rfl,hf,hj⟩
    refine zf (zJ (by show ¬((es.length:Nat):Int) < (f.length:Int);omega)) (za (zr ?_))
    show (f,(cy,()))=_
    congr 1
    refine List.ext_getElem? fun j=>?_
    rw [hj j,List.getElem?_map]
    by_cases h:j < es.length
    ·rw [if_pos h]
    ·rw [if_neg h,List.getElem?_eq_none (by omega)];rfl
   rintro ⟨k21,⟨⟨⟩,z21,⟨⟩⟩,E21,⟨⟩⟩ e
   have e:E21=(es.map m40,(cy,())):=e
   subst e
   have e1:wrF .i64 (40*cy)=40*cy:=zE (by omega) (by omega)
   refine za ⟨rfl,?_⟩
   show qB (es.map m40,wrF .i64 (40*cy))
   rw [e1,hc]
   exact zFz he (by omega) (by omega)
  rintro ⟨k22,⟨d2,z22⟩,⟨es2,cy2,⟨⟩⟩,⟨⟩⟩ ⟨h1,h2⟩
  have h1:d2=d:=h1
  subst h1
  have h2:qB (es2,cy2):=h2
  refine ze (yx (by show (gs.length+1)*32≤_;omega) (by show gs.length+1≤_;omega)) (za (qj ⟨gs++[(es2,cy2)],congrArg (fun z=>((d2,((),(z,()))),((t,(U,(gs++[(es2,cy2)],(most,())))),()))) (qu (by omega)),by simp [hg],fun g h=>?_⟩))
  rcases List.mem_append.1 h with h | h
  ·exact hgs g h
  ·rw [List.mem_singleton.1 h];exact h2
 ·rintro _ ⟨gs,rfl,hg,hgs⟩
  refine zf (zJ (by show ¬((2*t.2.2.length:Nat):Int) < wrF .i64 (2*((t.2.2.length:Nat):Int));rw [e6];omega)) (za (zr ⟨rfl,hu,hg,hgs,rfl⟩))
 rintro ⟨k,z,⟨t2,u2,gs,m2,⟨⟩⟩,⟨⟩⟩ ⟨h1,h2,h3,h4,h5⟩
 have h1:t2=t:=h1
 have h5:m2=most:=h5
 subst h1 h5
 have h3:gs.length=2*t2.2.2.length:=h3
 exact za ⟨⟨ht,h2,h4,by show ((gs.length:Nat):Int)=2*(t2.2.2.length:Int);omega,hm.1,hm.2⟩,hl1⟩
abbrev zxM:=Int×Int×Int×Gts×jl
def beP (b:zxM):Prop:=0≤b.1∧(0≤b.2.1∧b.2.1≤255)
theorem zD8 {b:zxM} (hb:beP b) {n:Fab} {l:List jl} (hl:l.length≤6) (hg:1≤n.2.2.1.length) (hg2:n.2.2.1.length≤48) :
  ∃m o,kY (b,n,l,())=some (m,o,())∧m.2.2.1.length≤49∧m.1.2.2.length=n.1.2.2.length∧o.length=l.length:=by
 suffices key:qp (kY (b,n,l,())) fun r=>r.1.2.2.1.length≤49∧r.1.1.2.2.length=n.1.2.2.length∧r.2.1.length=l.length by
  obtain ⟨⟨m,o,⟨⟩⟩,e,h⟩:=key
  exact ⟨m,o,e,h⟩
 obtain ⟨b0,b1,b2⟩:=hb
 rw [zm6];unfold zbe
 have ec:Kk b.2.2.2.1.1 none (some (jt ((b.2.2.2.1.1.length:Nat):Int) 130)) none=some (b.2.2.2.1.1.take (min b.2.2.2.1.1.length 130)):=by
  have:jt ((b.2.2.2.1.1.length:Nat):Int) 130=((min b.2.2.2.1.1.length 130:Nat):Int):=by rw [YI];omega
  rw [this];exact zun _ _ (by omega)
 rw [ec,zw]
 generalize b.2.2.2.1.1.take (min b.2.2.2.1.1.length 130)=en
 refine ze (yx (by show (0+l.length)*96≤_;omega) (by show 0+l.length≤_;omega)) (ze (yx (by show (0+n.2.2.1.length)*32≤_;omega) (by show 0+n.2.2.1.length≤_;omega)) ?_)
 have ew:wrF .i64 b.2.1=b.2.1:=zE (by omega) (by omega)
 rw [ew,Int.tmod_eq_emod_of_nonneg b1,Int.tmod_eq_emod_of_nonneg b1]
 have p0:=Int.emod_nonneg b.2.1 (show (n.2.2.1.length:Int)≠0 by omega)
 have p1:=Int.emod_lt_of_pos b.2.1 (show (0:Int) < (n.2.2.1.length:Int) by omega)
 refine zj (fun _=>?_) fun _=>zj (fun _=>?_) fun _=>zj (fun _=>?_) fun _=>zj (fun _=>?_) fun _=>zj (fun _=>?_) fun _=>zj (fun _=>?_) fun _=>zj (fun h=>?_) fun _=>?_
 ·refine zf (jf (by omega)) (zi (qH p0 p1 fun _ _=>zi (jy (by omega) fun _ _=>za ⟨?_,rfl,rfl⟩)))
  show (List.set _ _ _).length≤49
  rw [List.length_set];omega
 ·refine ze (yx (by show (n.2.2.1.length+1)*32≤_;omega) (by show n.2.2.1.length+1≤_;omega)) (za ⟨?_,rfl,rfl⟩)
  show (_++[_]).length≤49
  simp;omega
 ·refine zi (qf (zDI _ 1 hg) (za ⟨?_,rfl,rfl⟩))
  show (List.drop 1 n.2.2.1).length≤49
  simp;omega
 ·exact za ⟨by show n.2.2.1.length≤49;omega,rfl,rfl⟩
 ·exact za ⟨by show n.2.2.1.length≤49;omega,rfl,rfl⟩
 ·exact za ⟨by show n.2.2.1.length≤49;omega,rfl,rfl⟩
 ·have h:(0:Int) < (l.length:Int):=qi h
  have q0:=Int.emod_nonneg b.2.1 (show (l.length:Int)≠0 by omega)
  have q1:=Int.emod_lt_of_pos b.2.1 h
  refine zf (jf (by omega)) (zi (qH q0 q1 fun _ _=>zi (jy (by omega) fun _ _=>za ⟨by show n.2.2.1.length≤49;omega,rfl,?_⟩)))
  show (List.set _ _ _).length=_
  rw [List.length_set]
 ·exact za ⟨by show n.2.2.1.length≤49;omega,rfl,rfl⟩
theorem zc4 (a:Int):zg a a=true:=kK rfl
abbrev zxN:=((Bool×(Int×Unit))×Unit)→Option ((Nat×((Bool×(Int×Unit))×Unit)) ⊕ ((Bool×(Int×Unit))×Unit))
theorem zBk {x:Fab} (hn:x.2.2.1.length≤1000000000000000000) (hll:x.1.2.2.length≤1000000000000000) (l:List jl) {lk:List wP} (hk:lk.length≤24) (port:Int) (v:Bool)
  {B:zxN} (hB
         : B=fun s7:((Bool×(Int×Unit))×Unit)=>
         bif
           (zh (s7.1.2.1) ((wrF .i64 ((2*(((lk).length:Nat):Int)))))) then opt (bif (zh (s7.1.2.1) (0)) then some (0,((port,()),()))
           else some (0,((s7.1.2.1,()),()))) fun x8=>
          opt (ZD ((x,(l,(x8.2.1.1,()))))) fun x9=>
          opt (ZG ((x,(l,(x8.2.1.1,()))))) fun x10=>
          opt (bif (!(((zg (x9.1.1.1) (x10.1.1.1))&&((zg (x9.1.1.2) (x10.1.1.2))&&true))&&(((zg (x9.1.2.1.1) (x10.1.2.1.1))&&((zg (x9.1.2.1.2) (x10.1.2.1.2))&&true))&&((zg (x9.1.2.2.1) (x10.1.2.2.1))&&((zg (x9.1.2.2.2) (x10.1.2.2.2))&&true))))) then some (1,((false,()),()))
           else bif (!(zg (x9.2.1) (x10.2.1))) then some (1,((false,()),()))
            else some (0,((s7.1.1,()),()))) fun x11=>
          bif (Nat.beq x11.1 0) then some (.inr ((x11.2.1.1,((wrF .i64 ((s7.1.2.1+1))),())),()))
          else some (.inl (1,((x11.2.1.1,(s7.1.2.1,())),())))
         else some (.inl (0,((s7.1.1,(s7.1.2.1,())),())))) :
  qp (zy B zH ((v,((-1),())),())) fun y=>y.1=0∧y.2.1.1=v:=by
 subst hB
 have e6:wrF .i64 (2*((lk.length:Nat):Int))=2*((lk.length:Nat):Int):=zE (by omega) (by omega)
 refine zT (2*lk.length+1) (fun i s=>s=((v,((i:Int) - 1,())),())) (by omega) rfl ?_ ?_
 ·rintro i _ hi rfl
  refine ze (by show zh ((i:Int) - 1) (wrF .i64 (2*((lk.length:Nat):Int)))=true;rw [e6];exact zQ (by omega)) ?_
  refine zm (J:=fun _=>True) (zj (fun _=>za trivial) (fun _=>za trivial)) ?_
  rintro x8 -
  rw [zxu hn hll,zw,zxt hn,zw]
  refine zm (J:=fun y=>y.1=0∧y.2.1.1=v) (zf (by simp only [zc4];rfl) (zf (by simp only [zc4];rfl) (za ⟨rfl,rfl⟩))) ?_
  rintro ⟨k,⟨v',⟨⟩⟩,⟨⟩⟩ ⟨h1,h2⟩
  simp only at h1 h2
  subst h1 h2
  refine ze rfl (za (qj (congrArg (fun z=>((v',(z,())),())) ?_)))
  show wrF .i64 ((i:Int) - 1+1)=((i+1:Nat):Int) - 1
  rw [zE (by omega) (by omega)];omega
 ·rintro _ rfl
  exact zf (by show zh (((2*lk.length+1:Nat):Int) - 1) (wrF .i64 (2*((lk.length:Nat):Int)))=false;rw [e6];exact zJ (by omega)) (za (zr ⟨rfl,rfl⟩))
theorem zFA {x:Fab} (hn:x.2.2.1.length≤1000000000000000000) {l:List jl} (hl:l.length≤6) (idd kk:Int) (v:Bool) {j:Int} (hj:0≤j)
  {B:zxN} (hB:B =
            fun s14:((Bool×(Int×Unit))×Unit)=>
            bif (zh
                (s14.1.2.1) (3)) then bif (zg (s14.1.2.1) (0)) then opt (bif (zh (j) ((((l).length:Nat):Int))) then opt (atI (l) (j)) fun x15=>
                some (0,((x15.1,()),()))
               else some (0,((idd,()),()))) fun x16=>
              opt (jL ((x,(l,(x16.2.1.1,(0,())))))) fun x17=>
              opt (jM ((x,(l,(x16.2.1.1,(0,())))))) fun x18=>
              opt (bif (!(zg (x17.1) (x18.1))) then some (1,((false,()),()))
               else bif (!(zg (x17.2.1) (x18.2.1))) then some (1,((false,()),()))
                else some (0,((s14.1.1,()),()))) fun x19=>
              bif (Nat.beq x19.1 0) then some (.inr ((x19.2.1.1,((wrF .i64 ((s14.1.2.1+1))),())),()))
              else some (.inl (1,((x19.2.1.1,(s14.1.2.1,())),())))
             else bif (zg (s14.1.2.1) (1)) then opt (bif (zh (j) ((((l).length:Nat):Int))) then opt (atI (l) (j)) fun x20=>
                 some (0,((x20.1,()),()))
                else some (0,((idd,()),()))) fun x21=>
               opt (jL ((x,(l,(x21.2.1.1,(1,())))))) fun x22=>
               opt (jM ((x,(l,(x21.2.1.1,(1,())))))) fun x23=>
               opt (bif (!(zg (x22.1) (x23.1))) then some (1,((false,()),()))
                else bif (!(zg (x22.2.1) (x23.2.1))) then some (1,((false,()),()))
                 else some (0,((s14.1.1,()),()))) fun x24=>
               bif (Nat.beq x24.1 0) then some (.inr ((x24.2.1.1,((wrF .i64 ((s14.1.2.1+1))),())),()))
               else some (.inl (1,((x24.2.1.1,(s14.1.2.1,())),())))
              else bif (zg (s14.1.2.1) (2)) then opt (bif (zh (j) ((((l).length:Nat):Int))) then opt (atI (l) (j)) fun x25=>
                  some (0,((x25.1,()),()))
                 else some (0,((idd,()),()))) fun x26=>
                opt (jL ((x,(l,(x26.2.1.1,(kk,())))))) fun x27=>
                opt (jM ((x,(l,(x26.2.1.1,(kk,())))))) fun x28=>
                opt (bif (!(zg (x27.1) (x28.1))) then some (1,((false,()),()))
                 else bif (!(zg (x27.2.1) (x28.2.1))) then some (1,((false,()),()))
                  else some (0,((s14.1.1,()),()))) fun x29=>
                bif (Nat.beq x29.1 0) then some (.inr ((x29.2.1.1,((wrF .i64 ((s14.1.2.1+1))),())),()))
                else some (.inl (1,((x29.2.1.1,(s14.1.2.1,())),())))
               else none
            else some (.inl (0,((s14.1.1,(s14.1.2.1,())),())))) :
  qp (zy B zH ((v,(0,())),())) fun y=>y.1=0∧y.2.1.1=v:=by
 subst hB
 have hln:l.length≤1000000000000000000:=by omega
 refine zT 3 (fun i s=>s=((v,((i:Int),())),())) (by omega) rfl ?_ ?_
 ·rintro i _ hi rfl
  have who:∀{R:Type} {Q:R→Prop} {f:(Nat×((Int×Unit)×Unit))→Option R},(∀w,qp (f w) Q)→qp (opt (bif (zh j ((l.length:Nat):Int)) then opt (atI l j) fun x15=>some ((0:Nat),(((x15.1,()),()):(Int×Unit)×Unit)) else some (0,((idd,()),()))) f) Q:=fun {R Q f} h=>by
   refine zm (J:=fun _=>True) (zj (fun hlt=>?_) (fun _=>za trivial)) fun w _=>h w
   exact zi (qH hj (qi hlt) fun _ _=>za trivial)
  have fin:∀{a b:Int},qp (opt (bif (!(zg a a)) then some ((1:Nat),(((false,()),()):(Bool×Unit)×Unit)) else bif (!(zg b b)) then some (1,((false,()),())) else some (0,((v,()),()))) fun x19=>
    bif (Nat.beq x19.1 0) then some (.inr ((x19.2.1.1,((wrF .i64 (((i:Int)+1))),())),())) else some (.inl (1,((x19.2.1.1,((i:Int),())),())))) (Nxt (fun y:Nat×((Bool×(Int×Unit))×Unit)=>y.1=0∧y.2.1.1=v) fun s=>s=((v,(((i+1:Nat):Int),())),())):=fun {a b}=>by
   refine zm (J:=fun y=>y.1=0∧y.2.1.1=v) (zf (by simp only [zc4];rfl) (zf (by simp only [zc4];rfl) (za ⟨rfl,rfl⟩))) ?_
   rintro ⟨k,⟨v',⟨⟩⟩,⟨⟩⟩ ⟨h1,h2⟩
   simp only at h1 h2
   subst h1 h2
   exact ze rfl (za (qj (congrArg (fun z=>((v',(z,())),())) (qu (by omega)))))
  refine ze (zQ (show (i:Int) < 3 by omega)) (zj (fun h=>?_) (fun h=>zj (fun h1=>?_) (fun h1=>zj (fun h2=>?_) (fun h2=>?_))))
  ·refine who fun w=>?_
   rw [zc3 hn hln,zw,zc2 hn,zw]
   exact fin
  ·refine who fun w=>?_
   rw [zc3 hn hln,zw,zc2 hn,zw]
   exact fin
  ·refine who fun w=>?_
   rw [zc3 hn hln,zw,zc2 hn,zw]
   exact fin
  ·have h:(i:Int)≠0:=qX h
   have h1:(i:Int)≠1:=qX h1
   have h2:(i:Int)≠2:=qX h2
   exfalso;omega
 ·rintro _ rfl
  exact zf (zJ (show ¬(3:Int) < 3 by omega)) (za (zr ⟨rfl,rfl⟩))
theorem zBl {x:Fab} (hn:x.2.2.1.length≤1000000000000000000) {l:List jl} (hl:l.length≤6) (idd kk:Int) (v:Bool)
  {B:zxN} (hB :
          B=fun s13:((Bool×(Int×Unit))×Unit)=>
          bif
            (!(zh ((((l).length:Nat):Int)) (s13.1.2.1))) then opt (zy (fun s14:((Bool×(Int×Unit))×Unit)=>
            bif (zh
                (s14.1.2.1) (3)) then bif (zg (s14.1.2.1) (0)) then opt (bif (zh (s13.1.2.1) ((((l).length:Nat):Int))) then opt (atI (l) (s13.1.2.1)) fun x15=>
                some (0,((x15.1,()),()))
               else some (0,((idd,()),()))) fun x16=>
              opt (jL ((x,(l,(x16.2.1.1,(0,())))))) fun x17=>
              opt (jM ((x,(l,(x16.2.1.1,(0,())))))) fun x18=>
              opt (bif (!(zg (x17.1) (x18.1))) then some (1,((false,()),()))
               else bif (!(zg (x17.2.1) (x18.2.1))) then some (1,((false,()),()))
                else some (0,((s14.1.1,()),()))) fun x19=>
              bif (Nat.beq x19.1 0) then some (.inr ((x19.2.1.1,((wrF .i64 ((s14.1.2.1+1))),())),()))
              else some (.inl (1,((x19.2.1.1,(s14.1.2.1,())),())))
             else bif (zg (s14.1.2.1) (1)) then opt (bif (zh (s13.1.2.1) ((((l).length:Nat):Int))) then opt (atI (l) (s13.1.2.1)) fun x20=>
                 some (0,((x20.1,()),()))
                else some (0,((idd,()),()))) fun x21=>
               opt (jL ((x,(l,(x21.2.1.1,(1,())))))) fun x22=>
               opt (jM ((x,(l,(x21.2.1.1,(1,())))))) fun x23=>
               opt (bif (!(zg (x22.1) (x23.1))) then some (1,((false,()),()))
                else bif (!(zg (x22.2.1) (x23.2.1))) then some (1,((false,()),()))
                 else some (0,((s14.1.1,()),()))) fun x24=>
               bif (Nat.beq x24.1 0) then some (.inr ((x24.2.1.1,((wrF .i64 ((s14.1.2.1+1))),())),()))
               else some (.inl (1,((x24.2.1.1,(s14.1.2.1,())),())))
              else bif (zg (s14.1.2.1) (2)) then opt (bif (zh (s13.1.2.1) ((((l).length:Nat):Int))) then opt (atI (l) (s13.1.2.1)) fun x25=>
                  some (0,((x25.1,()),()))
                 else some (0,((idd,()),()))) fun x26=>
                opt (jL ((x,(l,(x26.2.1.1,(kk,())))))) fun x27=>
                opt (jM ((x,(l,(x26.2.1.1,(kk,())))))) fun x28=>
                opt (bif (!(zg (x27.1) (x28.1))) then some (1,((false,()),()))
                 else bif (!(zg (x27.2.1) (x28.2.1))) then some (1,((false,()),()))
                  else some (0,((s14.1.1,()),()))) fun x29=>
                bif (Nat.beq x29.1 0) then some (.inr ((x29.2.1.1,((wrF .i64 ((s14.1.2.1+1))),())),()))
                else some (.inl (1,((x29.2.1.1,(s14.1.2.1,())),())))
               else none
            else some (.inl (0,((s14.1.1,(s14.1.2.1,())),())))) zH ((s13.1.1,(0,())),())) fun x30=>
           bif (Nat.beq x30.1 0) then some (.inr ((x30.2.1.1,((wrF .i64 ((s13.1.2.1+1))),())),()))
           else some (.inl (1,((x30.2.1.1,(s13.1.2.1,())),())))
          else some (.inl (0,((s13.1.1,(s13.1.2.1,())),())))) :
  qp (zy B zH ((v,(0,())),())) fun y=>y.1=0∧y.2.1.1=v:=by
 subst hB
 refine zT (l.length+1) (fun i s=>s=((v,((i:Int),())),())) (by omega) rfl ?_ ?_
 ·rintro i _ hi rfl
  refine ze (by show (!zh ((l.length:Nat):Int) (i:Int))=true;rw [zJ (by omega)];rfl) ?_
  refine zm (zFA hn hl idd kk v (j:=(i:Int)) (by omega) rfl) ?_
  rintro ⟨k,⟨v',⟨⟩⟩,⟨⟩⟩ ⟨h1,h2⟩
  simp only at h1 h2
  subst h1 h2
  exact ze rfl (za (qj (congrArg (fun z=>((v',(z,())),())) (qu (by omega)))))
 ·rintro _ rfl
  exact zf (by show (!zh ((l.length:Nat):Int) ((l.length+1:Nat):Int))=false;rw [zQ (by omega)];rfl) (za (zr ⟨rfl,rfl⟩))
theorem zD9 {x:Fab} (hn:x.2.2.1.length≤1000000000000000000) (hll:x.1.2.2.length≤1000000000000000) {l o:List jl} (hl:l.length≤6) (ho:o.length≤6) {lk:List wP} (hk:lk.length≤24) (port idd kk:Int) (v:Bool)
  {B:zxN} (hB:B=fun s6:((Bool×(Int×Unit))×Unit)=>
      bif (zh (s6.1.2.1) (2)) then bif (zg (s6.1.2.1) (0)) then opt (zy (fun s7:((Bool×(Int×Unit))×Unit)=>
         bif
           (zh (s7.1.2.1) ((wrF .i64 ((2*(((lk).length:Nat):Int)))))) then opt (bif (zh (s7.1.2.1) (0)) then some (0,((port,()),()))
           else some (0,((s7.1.2.1,()),()))) fun x8=>
          opt (ZD ((x,(l,(x8.2.1.1,()))))) fun x9=>
          opt (ZG ((x,(l,(x8.2.1.1,()))))) fun x10=>
          opt (bif (!(((zg (x9.1.1.1) (x10.1.1.1))&&((zg (x9.1.1.2) (x10.1.1.2))&&true))&&(((zg (x9.1.2.1.1) (x10.1.2.1.1))&&((zg (x9.1.2.1.2) (x10.1.2.1.2))&&true))&&((zg (x9.1.2.2.1) (x10.1.2.2.1))&&((zg (x9.1.2.2.2) (x10.1.2.2.2))&&true))))) then some (1,((false,()),()))
           else bif (!(zg (x9.2.1) (x10.2.1))) then some (1,((false,()),()))
            else some (0,((s7.1.1,()),()))) fun x11=>
          bif (Nat.beq x11.1 0) then some (.inr ((x11.2.1.1,((wrF .i64 ((s7.1.2.1+1))),())),()))
          else some (.inl (1,((x11.2.1.1,(s7.1.2.1,())),())))
         else some (.inl (0,((s7.1.1,(s7.1.2.1,())),())))) zH ((s6.1.1,((-1),())),())) fun x12=>
        bif
          (Nat.beq x12.1 0) then opt (zy (fun s13:((Bool×(Int×Unit))×Unit)=>
          bif
            (!(zh ((((l).length:Nat):Int)) (s13.1.2.1))) then opt (zy (fun s14:((Bool×(Int×Unit))×Unit)=>
            bif (zh
                (s14.1.2.1) (3)) then bif (zg (s14.1.2.1) (0)) then opt (bif (zh (s13.1.2.1) ((((l).length:Nat):Int))) then opt (atI (l) (s13.1.2.1)) fun x15=>
                some (0,((x15.1,()),()))
               else some (0,((idd,()),()))) fun x16=>
              opt (jL ((x,(l,(x16.2.1.1,(0,())))))) fun x17=>
              opt (jM ((x,(l,(x16.2.1.1,(0,())))))) fun x18=>
              opt (bif (!(zg (x17.1) (x18.1))) then some (1,((false,()),()))
               else bif (!(zg (x17.2.1) (x18.2.1))) then some (1,((false,()),()))
                else some (0,((s14.1.1,()),()))) fun x19=>
              bif (Nat.beq x19.1 0) then some (.inr ((x19.2.1.1,((wrF .i64 ((s14.1.2.1+1))),())),()))
              else some (.inl (1,((x19.2.1.1,(s14.1.2.1,())),())))
             else bif (zg (s14.1.2.1) (1)) then opt (bif (zh (s13.1.2.1) ((((l).length:Nat):Int))) then opt (atI (l) (s13.1.2.1)) fun x20=>
                 some (0,((x20.1,()),()))
                else some (0,((idd,()),()))) fun x21=>
               opt (jL ((x,(l,(x21.2.1.1,(1,())))))) fun x22=>
               opt (jM ((x,(l,(x21.2.1.1,(1,())))))) fun x23=>
               opt (bif (!(zg (x22.1) (x23.1))) then some (1,((false,()),()))
                else bif (!(zg (x22.2.1) (x23.2.1))) then some (1,((false,()),()))
                 else some (0,((s14.1.1,()),()))) fun x24=>
               bif (Nat.beq x24.1 0) then some (.inr ((x24.2.1.1,((wrF .i64 ((s14.1.2.1+1))),())),()))
               else some (.inl (1,((x24.2.1.1,(s14.1.2.1,())),())))
              else bif (zg (s14.1.2.1) (2)) then opt (bif (zh (s13.1.2.1) ((((l).length:Nat):Int))) then opt (atI (l) (s13.1.2.1)) fun x25=>
                  some (0,((x25.1,()),()))
                 else some (0,((idd,()),()))) fun x26=>
                opt (jL ((x,(l,(x26.2.1.1,(kk,())))))) fun x27=>
                opt (jM ((x,(l,(x26.2.1.1,(kk,())))))) fun x28=>
                opt (bif (!(zg (x27.1) (x28.1))) then some (1,((false,()),()))
                 else bif (!(zg (x27.2.1) (x28.2.1))) then some (1,((false,()),()))
                  else some (0,((s14.1.1,()),()))) fun x29=>
                bif (Nat.beq x29.1 0) then some (.inr ((x29.2.1.1,((wrF .i64 ((s14.1.2.1+1))),())),()))
                else some (.inl (1,((x29.2.1.1,(s14.1.2.1,())),())))
               else none
            else some (.inl (0,((s14.1.1,(s14.1.2.1,())),())))) zH ((s13.1.1,(0,())),())) fun x30=>
           bif (Nat.beq x30.1 0) then some (.inr ((x30.2.1.1,((wrF .i64 ((s13.1.2.1+1))),())),()))
           else some (.inl (1,((x30.2.1.1,(s13.1.2.1,())),())))
          else some (.inl (0,((s13.1.1,(s13.1.2.1,())),())))) zH ((x12.2.1.1,(0,())),())) fun x31=>
         bif (Nat.beq x31.1 0) then some (.inr ((x31.2.1.1,((wrF .i64 ((s6.1.2.1+1))),())),()))
         else some (.inl (1,((x31.2.1.1,(s6.1.2.1,())),())))
        else some (.inl (1,((x12.2.1.1,(s6.1.2.1,())),())))
       else bif (zg (s6.1.2.1) (1)) then opt (zy (fun s32:((Bool×(Int×Unit))×Unit)=>
          bif
            (zh (s32.1.2.1) ((wrF .i64 ((2*(((lk).length:Nat):Int)))))) then opt (bif (zh (s32.1.2.1) (0)) then some (0,((port,()),()))
            else some (0,((s32.1.2.1,()),()))) fun x33=>
           opt (ZD ((x,(o,(x33.2.1.1,()))))) fun x34=>
           opt (ZG ((x,(o,(x33.2.1.1,()))))) fun x35=>
           opt (bif (!(((zg (x34.1.1.1) (x35.1.1.1))&&((zg (x34.1.1.2) (x35.1.1.2))&&true))&&(((zg (x34.1.2.1.1) (x35.1.2.1.1))&&((zg (x34.1.2.1.2) (x35.1.2.1.2))&&true))&&((zg (x34.1.2.2.1) (x35.1.2.2.1))&&((zg (x34.1.2.2.2) (x35.1.2.2.2))&&true))))) then some (1,((false,()),()))
            else bif (!(zg (x34.2.1) (x35.2.1))) then some (1,((false,()),()))
             else some (0,((s32.1.1,()),()))) fun x36=>
           bif (Nat.beq x36.1 0) then some (.inr ((x36.2.1.1,((wrF .i64 ((s32.1.2.1+1))),())),()))
           else some (.inl (1,((x36.2.1.1,(s32.1.2.1,())),())))
          else some (.inl (0,((s32.1.1,(s32.1.2.1,())),())))) zH ((s6.1.1,((-1),())),())) fun x37=>
         bif
           (Nat.beq x37.1 0) then opt (zy (fun s38:((Bool×(Int×Unit))×Unit)=>
           bif
             (!(zh ((((o).length:Nat):Int)) (s38.1.2.1))) then opt (zy (fun s39:((Bool×(Int×Unit))×Unit)=>
             bif (zh
                 (s39.1.2.1) (3)) then bif (zg (s39.1.2.1) (0)) then opt (bif (zh (s38.1.2.1) ((((o).length:Nat):Int))) then opt (atI (o) (s38.1.2.1)) fun x40=>
                 some (0,((x40.1,()),()))
                else some (0,((idd,()),()))) fun x41=>
               opt (jL ((x,(o,(x41.2.1.1,(0,())))))) fun x42=>
               opt (jM ((x,(o,(x41.2.1.1,(0,())))))) fun x43=>
               opt (bif (!(zg (x42.1) (x43.1))) then some (1,((false,()),()))
                else bif (!(zg (x42.2.1) (x43.2.1))) then some (1,((false,()),()))
                 else some (0,((s39.1.1,()),()))) fun x44=>
               bif (Nat.beq x44.1 0) then some (.inr ((x44.2.1.1,((wrF .i64 ((s39.1.2.1+1))),())),()))
               else some (.inl (1,((x44.2.1.1,(s39.1.2.1,())),())))
              else bif (zg (s39.1.2.1) (1)) then opt (bif (zh (s38.1.2.1) ((((o).length:Nat):Int))) then opt (atI (o) (s38.1.2.1)) fun x45=>
                  some (0,((x45.1,()),()))
                 else some (0,((idd,()),()))) fun x46=>
                opt (jL ((x,(o,(x46.2.1.1,(1,())))))) fun x47=>
                opt (jM ((x,(o,(x46.2.1.1,(1,())))))) fun x48=>
                opt (bif (!(zg (x47.1) (x48.1))) then some (1,((false,()),()))
                 else bif (!(zg (x47.2.1) (x48.2.1))) then some (1,((false,()),()))
                  else some (0,((s39.1.1,()),()))) fun x49=>
                bif (Nat.beq x49.1 0) then some (.inr ((x49.2.1.1,((wrF .i64 ((s39.1.2.1+1))),())),()))
                else some (.inl (1,((x49.2.1.1,(s39.1.2.1,())),())))
               else bif (zg (s39.1.2.1) (2)) then opt (bif (zh (s38.1.2.1) ((((o).length:Nat):Int))) then opt (atI (o) (s38.1.2.1)) fun x50=>
                   some (0,((x50.1,()),()))
                  else some (0,((idd,()),()))) fun x51=>
                 opt (jL ((x,(o,(x51.2.1.1,(kk,())))))) fun x52=>
                 opt (jM ((x,(o,(x51.2.1.1,(kk,())))))) fun x53=>
                 opt (bif (!(zg (x52.1) (x53.1))) then some (1,((false,()),()))
                  else bif (!(zg (x52.2.1) (x53.2.1))) then some (1,((false,()),()))
                   else some (0,((s39.1.1,()),()))) fun x54=>
                 bif (Nat.beq x54.1 0) then some (.inr ((x54.2.1.1,((wrF .i64 ((s39.1.2.1+1))),())),()))
                 else some (.inl (1,((x54.2.1.1,(s39.1.2.1,())),())))
                else none
             else some (.inl (0,((s39.1.1,(s39.1.2.1,())),())))) zH ((s38.1.1,(0,())),())) fun x55=>
            bif (Nat.beq x55.1 0) then some (.inr ((x55.2.1.1,((wrF .i64 ((s38.1.2.1+1))),())),()))
            else some (.inl (1,((x55.2.1.1,(s38.1.2.1,())),())))
           else some (.inl (0,((s38.1.1,(s38.1.2.1,())),())))) zH ((x37.2.1.1,(0,())),())) fun x56=>
          bif (Nat.beq x56.1 0) then some (.inr ((x56.2.1.1,((wrF .i64 ((s6.1.2.1+1))),())),()))
          else some (.inl (1,((x56.2.1.1,(s6.1.2.1,())),())))
         else some (.inl (1,((x37.2.1.1,(s6.1.2.1,())),())))
        else none
      else some (.inl (0,((s6.1.1,(s6.1.2.1,())),())))) :
  qp (zy B zH ((v,(0,())),())) fun y=>y.1=0∧y.2.1.1=v:=by
 subst hB
 refine zT 2 (fun i s=>s=((v,((i:Int),())),())) (by omega) rfl ?_ ?_
 ·rintro i _ hi rfl
  refine ze (zQ (show (i:Int) < 2 by omega)) (zj (fun h=>?_) (fun h=>zj (fun h1=>?_) (fun h1=>?_)))
  ·refine zm (zBk hn hll l hk port v rfl) ?_
   rintro ⟨k,⟨v',⟨⟩⟩,⟨⟩⟩ ⟨h1,h2⟩
   simp only at h1 h2
   subst h1 h2
   refine ze rfl (zm (zBl hn hl idd kk v' rfl) ?_)
   rintro ⟨k,⟨v2,⟨⟩⟩,⟨⟩⟩ ⟨h1,h2⟩
   simp only at h1 h2
   subst h1 h2
   exact ze rfl (za (qj (congrArg (fun z=>((v2,(z,())),())) (qu (by omega)))))
  ·refine zm (zBk hn hll o hk port v rfl) ?_
   rintro ⟨k,⟨v',⟨⟩⟩,⟨⟩⟩ ⟨h1,h2⟩
   simp only at h1 h2
   subst h1 h2
   refine ze rfl (zm (zBl hn ho idd kk v' rfl) ?_)
   rintro ⟨k,⟨v2,⟨⟩⟩,⟨⟩⟩ ⟨h1,h2⟩
   simp only at h1 h2
   subst h1 h2
   exact ze rfl (za (qj (congrArg (fun z=>((v2,(z,())),())) (qu (by omega)))))
  ·have h:(i:Int)≠0:=qX h
   have h1:(i:Int)≠1:=qX h1
   exfalso;omega
 ·rintro _ rfl
  exact zf (zJ (show ¬(2:Int) < 2 by omega)) (za (zr ⟨rfl,rfl⟩))
theorem zFB (hw:QA ()=some (true,())) {d:zjv} {b:zxM} (hd:drP d) (hb:beP b) (port idd kk:Int):Yx (d,b,port,idd,kk,())=some (true,()):=by
 obtain ⟨n,en,hn,hn1⟩:=zHk hd
 obtain ⟨l,el,hl⟩:=zz5 hd
 have hg:n.2.2.1.length=2*n.1.2.2.length:=by have:=hn.f.1;omega
 have h24:=hn.t.sz.ls
 obtain ⟨m,o,eb,hm,hm2,ho⟩:=zD8 hb hl (n:=n) (by omega) (by omega)
 rw [zkE];unfold Ut
 rw [en,zw,el,zw,eb,zw]
 have n1:n.2.2.1.length≤1000000000000000000:=by omega
 have m1:m.2.2.1.length≤1000000000000000000:=by omega
 refine xf (zm (J:=fun y=>y.1=0) (zT 2 (fun i s=>s=((false,((i:Int),())),())) (by omega) rfl ?_ ?_) ?_)
 ·rintro i _ hi rfl
  refine ze (zQ (show (i:Int) < 2 by omega)) (zj (fun h=>?_) (fun h=>zj (fun h1=>?_) (fun h1=>?_)))
  ·rw [Qa n1,zw,Xm n1,zw]
   refine zf (by show (!zg (QF n) (QF n))=false;rw [zc4];rfl) ?_
   refine zm (zD9 n1 (show n.1.2.2.length≤_ by omega) hl (show o.length≤6 by omega) (lk:=n.1.2.2) h24 port idd kk false rfl) ?_
   rintro ⟨k,⟨v',⟨⟩⟩,⟨⟩⟩ ⟨h1,h2⟩
   simp only at h1 h2
   subst h1 h2
   exact ze rfl (za (qj (congrArg (fun z=>((false,(z,())),())) (qu (by omega)))))
  ·rw [Qa m1,zw,Xm m1,zw]
   refine zf (by show (!zg (QF m) (QF m))=false;rw [zc4];rfl) ?_
   refine zm (zD9 m1 (show m.1.2.2.length≤_ by omega) hl (show o.length≤6 by omega) (lk:=n.1.2.2) h24 port idd kk false rfl) ?_
   rintro ⟨k,⟨v',⟨⟩⟩,⟨⟩⟩ ⟨h1,h2⟩
   simp only at h1 h2
   subst h1 h2
   exact ze rfl (za (qj (congrArg (fun z=>((false,(z,())),())) (qu (by omega)))))
  ·have h:(i:Int)≠0:=qX h
   have h1:(i:Int)≠1:=qX h1
   exfalso;omega
 ·rintro _ rfl
  exact zf (zJ (show ¬(2:Int) < 2 by omega)) (za (zr rfl))
 ·rintro ⟨k,⟨v',z,⟨⟩⟩,⟨⟩⟩ h
  have h:k=0:=h
  subst h
  refine ze rfl ?_
  rw [hw,zw]
  exact za rfl
theorem u8w {n:Int} (h:wfT (.int .u8) n):0≤n∧n≤255:=h
theorem zHH {n:Int} (h:wfT (.int .u16) n):0≤n∧n≤65535:=h
theorem u8l {l:List Int} (h:wfT (.list (.int .u8)) l):u8 l:=fun x hx=>u8w (h.2 x hx)
theorem zHv {d:zjv} (h:wfT xh d):drP d where
 t:=⟨u8w h.1.1,u8w h.1.2.1,u8l h.1.2.2.1,u8l h.1.2.2.2.1,u8l h.1.2.2.2.2.1,u8l h.1.2.2.2.2.2⟩
 g:=fun x hx=>⟨u8l (h.2.1.2 x hx).1,u8l (h.2.1.2 x hx).2⟩
 u:=⟨u8w h.2.2.1.1,u8w h.2.2.1.2.1,u8w h.2.2.1.2.2⟩
 cap:=u8w h.2.2.2.1
 most:=zHH h.2.2.2.2.1
 l:=fun x hx=>⟨u8w (h.2.2.2.2.2.1.2 x hx).2.2.1,u8w (h.2.2.2.2.2.1.2 x hx).2.2.2.2.2.1⟩
 ll:=Nat.le_trans (show d.2.2.2.2.2.1.length*10≤reachBytes from h.2.2.2.2.2.1.1.2) (by decide)
theorem zHw {b:zxM} (h:wfT kW b):beP b:=⟨(u8w h.1).1,u8w h.2.1⟩
theorem zFC:QA ()=some (true,()):=zrn
abbrev A3:=Yw
abbrev K3_ok:=zkD
theorem good3 (x:T (zp A3)) (h:wfT (zp A3) x):Yx x=some (true,()):=by
 obtain ⟨d,b,port,idd,kk,⟨⟩⟩:=x
 exact zFB zFC (zHv h.1) (zHw h.2.1) port idd kk
end Go.Proofs.YtplhphmbkmpocaaGreat.ad
end
