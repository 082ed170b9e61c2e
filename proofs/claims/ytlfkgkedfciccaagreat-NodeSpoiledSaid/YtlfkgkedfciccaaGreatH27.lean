/- Parts of a proof, joined. -/
import Derived.Test.YtlfkgkedfciccaaGreatH26
set_option linter.unusedSectionVars false
set_option linter.unusedVariables false
set_option linter.unusedSimpArgs false
set_option maxHeartbeats 0
set_option maxRecDepth 100000
noncomputable section
namespace Go.Proofs.YtlfkgkedfciccaaGreat.ad
open Go Go.Fz Go.Fz.Sy Go.Proofs.YtlfkgkedfciccaaGreat.nd
def Yw(t:qT)(l:List wI):Prop:=∀s∈l,ZA t s
def ON(l:List wI):Prop:=∀(i k:Nat) a b,k < i->l[i]?=some a->l[k]?=some b->b.1≠a.1
noncomputable def iw (t:qT) (l:List wI):Int:=bif tv (l.length≤12) then bif tv (Yw t l) then bif tv (ON l) then 0 else 322 else 321 else 3
theorem bk{t:qT}(ht:ya t)(l:List wI):gR (t,l,())=some (iw t l,()):=by
 rw[BF];unfold eI iw;simp only[WH,zq,qX ht,zsC,zqD];refine Zb (zd (fun h=>?_) (fun h=>?_))
 ·have h:=zZ h;grind[wj,za]
 have h12:l.length<=12:=by have:=zP h;omega
 rw[qX h12,zqJ];refine zk (J:=fun x=>(x.1=0∧x.2.1.1=0∧Yw t l)∨(x.1=1∧x.2.1.1=321∧¬Yw t l)) (wK l.length (fun i=>∀s,l[i]?=some s->ZA t s) (by omega) ?_ ?_) ?_
 ·intro i hi hp;have hx:l[i]?=some l[i]:=FL hi;have hm:=zqq hi;generalize l[i]=s at hx hm;refine zf (zL (show(i:Int) < (l.length:Int) by omega)) (zb (zm (n:=i) hx ?_));rw[UI ht];refine zd (fun h=>?_) (fun h=>?_)
  ·exact za (zw (.inr ⟨rfl,rfl,fun hq=>jZ h (hq s hm)⟩))
  ·exact za (vG (by omega) fun r' hr'=>by grind[wD])
 ·intro hp;refine zi (zE (show ¬(l.length:Int) < (l.length:Int) by omega)) (za (zw (.inl ⟨rfl,rfl,fun r hr=>?_⟩)));grind[uz]
 rintro⟨j,⟨v,w,⟨⟩⟩,⟨⟩⟩ (⟨rfl,rfl,hq⟩ | ⟨rfl,rfl,hq⟩);rotate_left
 ·rw[wj hq];exact zi rfl (za rfl)
 rw[qX hq,zqJ];refine zf rfl (zk (J:=fun x=>(x.1=0∧ON l)∨(x.1=1∧x.2.1.1=322∧¬ON l)) (wK l.length (fun i=>∀a,l[i]?=some a->∀(k:Nat) b,k < i->l[k]?=some b->b.1≠a.1) (by omega) ?_ ?_) ?_)
 ·intro i hi hp;have hx:l[i]?=some l[i]:=FL hi;generalize l[i]=s at hx;refine zf (zL (show(i:Int) < (l.length:Int) by omega)) ?_;refine zk (J:=fun x=>(x.1=0∧x.2.1.1=0∧∀(k:Nat) b,k < i->l[k]?=some b->b.1≠s.1)∨(x.1=1∧x.2.1.1=322∧¬ON l)) (wK i (fun k=>∀b,l[k]?=some b->b.1≠s.1) (by omega) ?_ ?_) ?_
  ·intro k hk hpk;have hy:l[k]?=some l[k]:=FL (by omega);generalize l[k]=b at hy;refine zf (zL (show(k:Int) < (i:Int) by omega)) (zb (zm (n:=k) hy (zb (zm (n:=i) hx ?_))));refine zd (fun h=>?_) (fun h=>?_)
   ·exact za (zw (.inr ⟨rfl,rfl,fun hd=>hd i k s b hk hx hy (ql h)⟩))
   ·exact za (vG (by omega) fun b' hb'=>by grind[qt])
  ·grind[zE,za,zw]
  ·rintro⟨j,⟨v,w,⟨⟩⟩,⟨⟩⟩ (⟨rfl,rfl,hk⟩ | ⟨rfl,rfl,hk⟩)
   ·exact zf rfl (za (vG (by omega) fun a ha=>by grind))
   ·exact zi rfl (za (zw (.inr ⟨rfl,rfl,hk⟩)))
 ·intro hp;exact zi (zE (show ¬(l.length:Int) < (l.length:Int) by omega)) (za (zw (.inl ⟨rfl,fun i k a b hk ha hb=>hp i (by grind) a ha k b hk hb⟩)))
 ·rintro⟨j,⟨v,w,⟨⟩⟩,⟨⟩⟩ (⟨rfl,hd⟩ | ⟨rfl,rfl,hd⟩)
  ·rw[qX hd];exact zf rfl (za rfl)
  ·rw[wj hd];exact zi rfl (za rfl)
theorem Tk{t:qT}(ht:ya t)(s:wI):Vk (t,s,())=some (bif tv (ZA t s)then 0 else 321,()):=by grind[NQ,Aw,WH,zq,qX,Bool.not_true,UI,tv]
def kO(u:Int×Int×Int×Int):Prop:=(1<=u.1∧u.1<=10000)∧(0<=u.2.1∧u.2.1<=1000)∧(0<=u.2.2.1∧u.2.2.1<=10000)∧(1542<=u.2.2.2∧u.2.2.2<=65536)
theorem mz(u:Int×Int×Int×Int):JD (u,())=some (tv (kO u),()):=by rw[Nq];grind[tG,iv,zq,kO,jj,za,aE,qX,il]
abbrev Gts:=List (Int×Int)×Int
def OO(e:Int×Int):Prop:=0<=e.1∧e.1<=255∧1<=e.2∧e.2<=9600000
def vo(l:List (Int×Int)):Int:=(l.map (·.2)).sum
structure kP(g:Gts):Prop where
 n0:1<=g.1.length
 n1:g.1.length<=128
 el:∀e∈g.1,OO e
 cy:vo g.1=g.2
 c1:g.2<=9600000
theorem mA{l:List (Int×Int)}{n:Nat}{x:Int×Int}(h:l[n]?=some x):vo (l.take (n+1))=vo (l.take n)+x.2:=by unfold vo;rw[zrk,h];simp
theorem HG{l:List (Int×Int)}(h:∀e∈l,OO e):(l.length:Int)<=vo l∧vo l<=9600000*l.length:=by
 unfold vo;induction l with
 |nil=>simp
 |cons a l ih=>
  obtain⟨_,_,h1,h2⟩:=h a (by simp);grind
theorem zjb{g:Gts}(n1:g.1.length<=128){α:Type}{z bad:α}{B:((α×(Int×(Int×Unit)))×Unit)->Option ((Nat×((α×(Int×(Int×Unit)))×Unit)) ⊕ ((α×(Int×(Int×Unit)))×Unit))}(hB : B=fun s1=>bif(zg (s1.1.2.2.1) ((((g.1).length:Nat):Int)))then opt (atI (g.1) (s1.1.2.2.1)) fun x2=>opt (bif(zg (x2.1) (0))then some (1,((bad,()),()))else bif(zg (255) (x2.1))then some (1,((bad,()),()))else bif(zg (x2.2) (1))then some (1,((bad,()),()))else bif(zg (9600000) (x2.2))then some (1,((bad,()),()))else some (0,((s1.1.1,()),()))) fun x3=>bif(Nat.beq x3.1 0)then some (.inr ((x3.2.1.1,((wrF .i64 ((s1.1.2.1+x2.2))),((wrF .i64 ((s1.1.2.2.1+1))),()))),()))else some (.inl (1,((x3.2.1.1,(s1.1.2.1,(s1.1.2.2.1,()))),())))else some (.inl (0,((s1.1.1,(s1.1.2.1,(s1.1.2.2.1,()))),())))) : zt (zJ B zR ((z,(0,(0,()))),())) fun x=>(x.1=0∧x.2.1.1=z∧x.2.1.2.1=vo g.1∧∀e∈g.1,OO e)∨(x.1=1∧x.2.1.1=bad∧¬∀e∈g.1,OO e):=by
 subst hB;refine qb g.1.length (fun i s=>s=((z,(vo (g.1.take i),((i:Int),()))),())∧∀e∈g.1.take i,OO e) (by omega) ⟨rfl,fun e he=>by simp at he⟩ ?_ ?_
 ·rintro i _ hi ⟨rfl,hp⟩;have hx:g.1[i]?=some g.1[i]:=FL hi;have hm:=zqq hi;generalize g.1[i]=e at hx hm;refine zf (zL (show(i:Int) < (g.1.length:Int) by omega)) (zb (zm (n:=i) hx ?_));refine zk (J:=fun x=>(x.1=0∧x.2.1.1=z∧OO e)∨(x.1=1∧x.2.1.1=bad∧¬OO e)) ?_ ?_
  ·refine zd (fun h=>za (.inr ⟨rfl,rfl,fun hs=>?_⟩)) fun h1=>zd (fun h=>za (.inr ⟨rfl,rfl,fun hs=>?_⟩)) fun h2=>zd (fun h=>za (.inr ⟨rfl,rfl,fun hs=>?_⟩)) fun h3=>zd (fun h=>za (.inr ⟨rfl,rfl,fun hs=>?_⟩)) fun h4=>za (.inl ⟨rfl,rfl,?_⟩)
   ·have:=zZ h;have:=hs.1;omega
   ·have:=zZ h;have:=hs.2.1;omega
   ·have:=zZ h;have:=hs.2.2.1;omega
   ·have:=zZ h;have:=hs.2.2.2;omega
   ·exact⟨zP h1,zP h2,zP h3,zP h4⟩
  ·rintro⟨j,⟨v,⟨⟩⟩,⟨⟩⟩ (⟨rfl,rfl,he⟩ | ⟨rfl,rfl,he⟩)
   ·have hb:=HG hp;have hl:(g.1.take i).length=i:=by simp;omega
    have e1:wrF .i64 (vo (g.1.take i)+e.2)=vo (g.1.take (i+1)):=by rw[mA hx,zU]<;>(have:=he.2.2.1;have:=he.2.2.2;omega)
    refine zf rfl (za (qn ⟨?_,fun e' he'=>?_⟩))
    ·rw[<-e1,<-zQ (by omega)]
    ·rw[zrk,hx]at he';simp only[Option.toList,zqS,zqU]at he';rcases he' with h | rfl
     ·exact hp e' h
     ·exact he
   ·exact zi rfl (za (zw (.inr ⟨rfl,rfl,fun h=>he (h e hm)⟩)))
 grind[zE,za,zw,vo,List.take_length]
theorem mB(g:Gts):JH (g,())=some (tv (kP g),()):=by
 rw[ND];unfold tX;refine jj (zk (J:=fun x=>(x.1=0∧x.2.1.1=false∧1<=g.1.length∧g.1.length<=128)∨(x.1=1∧x.2.1.1=false∧¬kP g)) ?_ ?_)
 ·refine zd (fun h=>za (.inr ⟨rfl,rfl,fun hs=>?_⟩)) fun h1=>zd (fun h=>za (.inr ⟨rfl,rfl,fun hs=>?_⟩)) fun h2=>za (.inl ⟨rfl,rfl,?_⟩)
  ·have:=zZ h;have:=hs.n0;omega
  ·have:=zZ h;have:=hs.n1;omega
  ·have:=zP h1;have:=zP h2;omega
 rintro⟨j,⟨v,⟨⟩⟩,⟨⟩⟩ (⟨rfl,rfl,n0,n1⟩ | ⟨rfl,rfl,hq⟩);rotate_left
 ·exact zi rfl (za ⟨fun h=>(by cases h),fun h=>absurd h hq⟩)
 refine zf rfl (zk (zjb n1 rfl) ?_);rintro⟨j,⟨v,w,z,⟨⟩⟩,⟨⟩⟩ (⟨rfl,rfl,rfl,he⟩ | ⟨rfl,rfl,he⟩);rotate_left
 ·exact zi rfl (za ⟨fun h=>(by cases h),fun h=>absurd h.el he⟩)
 refine zf rfl (zd (fun h1=>?_) (fun h1=>?_))
 ·have h1:vo g.1=g.2:=ql h1;refine za ⟨fun h2=>⟨n0,n1,he,h1,?_⟩,fun hs=>?_⟩
  ·have h2:(!zg 9600000 (vo g.1))=true:=h2;have:=zP (show zg 9600000 (vo g.1)=false by simpa using h2);omega
  ·show(!zg 9600000 (vo g.1))=true;rw[zE (by have:=hs.c1;omega)];rfl
 ·exact za ⟨fun h=>(by cases h),fun h=>absurd h.cy (qt h1)⟩
abbrev Fab:=qT×(Int×Int×Int×Int)×List Gts×Int
def Tl(n:Fab):Prop:=∀g∈n.2.2.1,kP g
def FI(n:Fab):Prop:=(n.2.2.1.length:Int)=2*(n.1.2.2.length:Int)∧84<=n.2.2.2∧n.2.2.2<=1542
noncomputable def ny (n:Fab):Int:=bif tv (ya n.1) then bif tv (kO n.2.1) then bif tv (Tl n) then bif tv (FI n) then 0 else 410 else 370 else 320 else 260
structure zmZ(n:Fab):Prop where
 t:ya n.1
 u:kO n.2.1
 g:Tl n
 f:FI n
theorem zkP{n:Fab}(h:ny n=0):zmZ n:=by
 unfold ny at h;by_cases h1:ya n.1
 ·by_cases h2:kO n.2.1
  ·by_cases h3:Tl n
   ·by_cases h4:FI n
    ·exact⟨h1,h2,h3,h4⟩
    ·rw[qX h1,qX h2,qX h3,wj h4]at h;cases h
   ·rw[qX h1,qX h2,wj h3]at h;cases h
  ·rw[qX h1,wj h2]at h;cases h
 grind[wj]
theorem zjc{n:Fab}(hl:n.1.2.2.length<=24):zt (bif(!(zj ((((n.2.2.1).length:Nat):Int)) ((wrF .i64 ((2*(((n.1.2.2).length:Nat):Int)))))))then some ((1:Nat),(((410:Int),()),()))else bif(zg (n.2.2.2) (84))then some (1,((410,()),()))else bif(zg (1542) (n.2.2.2))then some (1,((410,()),()))else some (0,((0,()),()))) fun x=>(x.1=0∧x.2.1.1=0∧FI n)∨(x.1=1∧x.2.1.1=410∧¬FI n):=by
 rw[tw n.1 (by omega)];refine zd (fun h=>za (.inr ⟨rfl,rfl,fun hs=>?_⟩)) fun h1=>zd (fun h=>za (.inr ⟨rfl,rfl,fun hs=>?_⟩)) fun h2=>zd (fun h=>za (.inr ⟨rfl,rfl,fun hs=>?_⟩)) fun h3=>za (.inl ⟨rfl,rfl,?_⟩)
 ·rw[wZ hs.1]at h;cases h
 ·have:=zZ h;have:=hs.2.1;omega
 ·have:=zZ h;have:=hs.2.2;omega
 ·exact⟨ql (by simpa using h1),zP h2,zP h3⟩
theorem pC{n:Fab}(hn:n.2.2.1.length<=1000000000000000000):Zg (n,())=some (ny n,()):=by
 rw[ng];unfold UZ ny;simp only[WH,zq];by_cases ht:ya n.1;rotate_left
 ·rw[wj ht];rfl
 rw[qX ht];simp only[zsC,zqD,zqJ,mz,zq];by_cases hu:kO n.2.1;rotate_left
 ·rw[wj hu];rfl
 rw[qX hu];simp only[zsC,zqD,zqJ];refine Zb (zk (J:=fun x=>(x.1=0∧x.2.1.1=0∧Tl n)∨(x.1=1∧x.2.1.1=370∧¬Tl n)) (wK n.2.2.1.length (fun i=>∀g,n.2.2.1[i]?=some g->kP g) hn ?_ ?_) ?_)
 ·intro i hi hp;have hx:n.2.2.1[i]?=some n.2.2.1[i]:=FL hi;have hm:=zqq hi;generalize n.2.2.1[i]=g at hx hm;refine zf (zL (show(i:Int) < (n.2.2.1.length:Int) by omega)) (zb (zm (n:=i) hx ?_));rw[mB,zq];by_cases hg:kP g
  ·rw[qX hg];exact zi rfl (za (vG (by omega) fun r' hr'=>by grind))
  ·rw[wj hg];exact zf rfl (za (zw (.inr ⟨rfl,rfl,fun hq=>hg (hq g hm)⟩)))
 ·intro hp;refine zi (zE (show ¬(n.2.2.1.length:Int) < (n.2.2.1.length:Int) by omega)) (za (zw (.inl ⟨rfl,rfl,fun r hr=>?_⟩)));grind[uz]
 ·rintro⟨j,⟨v,w,⟨⟩⟩,⟨⟩⟩ (⟨rfl,rfl,hq⟩ | ⟨rfl,rfl,hq⟩)
  ·rw[qX hq];refine zf rfl (zk (zjc ht.sz.ls) ?_);rintro⟨j,⟨v,⟨⟩⟩,⟨⟩⟩ (⟨rfl,rfl,hf⟩ | ⟨rfl,rfl,hf⟩)
   ·grind[qX,za]
   ·rw[wj hf];exact zi rfl (za rfl)
  ·rw[wj hq];exact zi rfl (za rfl)
end Go.Proofs.YtlfkgkedfciccaaGreat.ad
namespace Go.Fz.Sy
theorem zx{α:Type}{x y:Option α}{Q:α->Prop}(h:zt x Q):zt (bif Nat.beq 0 0 then x else y) Q:=h
theorem zv{α:Type}{x y:Option α}{Q:α->Prop}(h:zt y Q):zt (bif Nat.beq 1 0 then x else y) Q:=h
theorem vH{a b:Int}:(zg a b=true)↔a < b:=by grind[wO]
theorem vI{a b:Int}:(zg a b=false)↔b<=a:=by rw[wO,zrC];omega
theorem XW{a b:Int}:(zj a b=true)↔a=b:=⟨ql,wZ⟩
theorem bm{a b:Int}:(zj a b=false)↔a≠b:=⟨qt,jm⟩
theorem dt{p:Prop}:(tv p=false)↔¬p:=⟨il,wj⟩
theorem qN{b:Bool}:((!b)=true)↔b=false:=by cases b<;>simp
theorem qE{b:Bool}:((!b)=false)↔b=true:=by cases b<;>simp
theorem zkQ{a b:Bool}:((a&&b)=true)↔a=true∧b=true:=by grind
theorem zkR{a b:Bool}:((a&&b)=false)↔a=false∨b=false:=by grind
theorem gk:(false=true)↔False:=by simp
theorem sy:(true=false)↔False:=by simp
theorem Qh{o:Option (Int×Unit)}{p:Prop}{e:Int}(he:e≠0)(h:zt o fun r=>(p∧r.1=0)∨(¬p∧r.1=e)):o=some (bif tv p then 0 else e,()):=by obtain⟨⟨b,⟨⟩⟩,e1,h⟩:=h;grind[qX,wj]
theorem pD{p:Prop}{e:Int}(he:e≠0):zj (bif tv p then 0 else e) 0=tv p:=by
 by_cases h:p
 ·rw[qX h];rfl
 ·rw[wj h];exact jm he
theorem jS{V:Type}{B:((V×(Int×Unit))×Unit)->Option ((Nat×((V×(Int×Unit))×Unit)) ⊕ ((V×(Int×Unit))×Unit))}{v:V}(e:V)(n:Nat)(P:Nat->Prop)(hn:n<=1000000000000000000)(h:∀i,i < n->zt (B ((v,((i:Int),())),())) fun r=>(P i∧r=.inr ((v,(((i+1:Nat):Int),())),()))∨(¬P i∧∃z,r=.inl (1,((e,z),()))))(he:zt (B ((v,((n:Int),())),())) fun r=>∃z,r=.inl (0,((v,z),()))) : zt (zJ B zR ((v,(0,())),())) fun x=>(x.1=0∧x.2.1.1=v∧∀k,k < n->P k)∨(x.1=1∧x.2.1.1=e∧¬∀k,k < n->P k):=by
 refine wK n P hn (fun i hi hp=>?_) fun hp=>?_
 ·obtain⟨r,e1,h1⟩:=h i hi;refine⟨r,e1,?_⟩;grind[qn,zw]
 ·obtain⟨r,e1,z,rfl⟩:=he;exact⟨_,e1,zw (.inl ⟨rfl,rfl,hp⟩)⟩
theorem za3{S R:Type}{B:S->Option (S ⊕ S)}{s:S}{f:S->Option R}{Q:R->Prop}(n:Nat)(I:Nat->S->Prop)(hn:n<=1000000000000000000)(h0:I 0 s)(h:∀k s,k<=n->I k s->zt (B s) fun r=>(∃s',r=.inr s'∧k < n∧I (k+1) s')∨(r=.inl s∧zt (f s) Q)):zt (opt (zJ B zR s) f) Q:=by
 refine zk (J:=fun x=>zt (f x) Q) (qb n I (zfX hn) h0 (fun k s hk hI=>?_) fun s hI=>?_) fun a ha=>ha
 ·obtain⟨r,e,h1⟩:=h k s (by omega) hI;refine⟨r,e,?_⟩;grind[qn,zw]
 ·obtain⟨r,e,h1⟩:=h n s (FW _) hI;refine⟨r,e,?_⟩;grind[zw]
theorem yk{α:Type}{l:List α}{P:Nat->α->Prop}:(∀k,k < l.length->∃x,l[k]?=some x∧P k x)↔∀k x,l[k]?=some x->P k x:=by
 constructor
 ·intro h k x hx;obtain⟨hk,_⟩:=zqr.1 hx;obtain⟨y,hy,hp⟩:=h k hk;rw[hx]at hy;cases hy;exact hp
 simp_all
theorem ix{α V:Type}(l:List α)(i:Nat)(hi:i<=l.length)(hn:i<=1000000000000000000)(S:α->Prop){B:((V×(Int×Unit))×Unit)->Option ((Nat×((V×(Int×Unit))×Unit)) ⊕ ((V×(Int×Unit))×Unit))}{v:V}(e:V)(h:∀(j:Nat) b,j < i->l[j]?=some b->zt (B ((v,((j:Int),())),())) fun r=>(¬S b∧r=.inr ((v,(((j+1:Nat):Int),())),()))∨(S b∧∃z,r=.inl (1,((e,z),()))))(he:zt (B ((v,((i:Int),())),())) fun r=>∃z,r=.inl (0,((v,z),()))) : zt (zJ B zR ((v,(0,())),())) fun x=>(x.1=0∧x.2.1.1=v∧∀(j:Nat) b,j < i->l[j]?=some b->¬S b)∨(x.1=1∧x.2.1.1=e∧¬∀(j:Nat) b,j < i->l[j]?=some b->¬S b):=by
 refine zkH (jS e i (fun k=>∃b,l[k]?=some b∧¬S b) hn (fun j hj=>?_) he) ?_
 ·have hx:l[j]?=some l[j]:=FL (by omega);grind
 ·rintro x (⟨h1,h0,h2⟩ | ⟨h1,h2,h3⟩)
  ·grind
  ·refine .inr ⟨h1,h2,fun h4=>h3 fun k hk=>?_⟩;exact⟨l[k],FL (by omega),h4 k _ hk (FL (by omega))⟩
end Go.Fz.Sy
namespace Go.Proofs.YtlfkgkedfciccaaGreat.ad
open Go Go.Fz Go.Fz.Sy Go.Proofs.YtlfkgkedfciccaaGreat.nd
theorem QE{a b A B:Int}(h0:0<=a)(h1:a<=A)(h2:0<=b)(h3:b<=B):0<=a*b∧a*b<=A*B:=⟨Int.mul_nonneg h0 h2,Int.mul_le_mul h1 h3 h2 (by omega)⟩
def cl(d w:Int):Int:=(w+d - 1) / d
def opn(m:Int):Bool:=m / 64 % 2 == 1
theorem zqi{m:Int}:wG .i64 m 6=m / 64:=by show m.fdiv (2 ^ (min (6:Int).toNat 64))=m / 64;grind
theorem bS{m:Int}(h:0<=m):Wa (m,6,())=some (opn m,()):=by rw[zat];unfold Ly opn;rw[show wrF .u64 6=6 from rfl,zqi];refine Zb (zi rfl (za ?_));grind[zj,Int.tmod,yB,Int.tmod_eq_emod_of_nonneg]
theorem kP.pos{g:Gts}(h:kP g):1<=g.2:=by have h1:=(HG h.el).1;have:=h.n0;have:=h.cy;omega
theorem OP{g:Gts}(hg:kP g):∃b,uk (g,())=some (b,()):=by
 have hn:=hg.n1;suffices key:zt (uk (g,())) fun _=>True by obtain⟨⟨b,⟨⟩⟩,e,_⟩:=key;exact⟨b,e⟩
 rw[HM];unfold ox;refine zk (J:=fun x=>x.1=0∨x.1=1) (qb g.1.length (fun i s=>∃b:Bool,s=((b,((i:Int),())),())) (by omega) ⟨_,rfl⟩ ?_ ?_) ?_
 ·rintro i _ hi ⟨b,rfl⟩;have hx:g.1[i]?=some g.1[i]:=FL hi;have he:=hg.el _ (zqq hi);generalize g.1[i]=e at hx he;refine zf (zL (show(i:Int) < (g.1.length:Int) by omega)) (zb (zm hx ?_));rw[bS he.1,zq];exact zd (fun _=>za (zw (.inr rfl))) fun _=>za (qn ⟨b,zqR (fun z=>((b,(z,())),())) (zQ (by omega))⟩)
 all_goals grind[zE,za,zw]
theorem zpn{g:Gts}(hg:kP g)(t:Int):∃(i:Nat) (e:Int×Int) (z:Int),YT (g,t,())=some ((i:Int),z,())∧g.1[i]?=some e∧0<=z∧z < e.2:=by
 have hp:=hg.pos;have hc:=hg.c1;have hn:=hg.n1;have hcy:=hg.cy;have key:zt (YT (g,t,())) fun r=>∃(i:Nat) (e:Int×Int),r.1=(i:Int)∧g.1[i]?=some e∧0<=r.2.1∧r.2.1 < e.2:=by
  have a1 : -g.2 < Int.tmod t g.2:=Int.lt_tmod_of_pos t (by omega);have a2:Int.tmod t g.2 < g.2:=Int.tmod_lt_of_pos t (by omega);rw[zcO];unfold Sh;refine zi (jm (by omega)) (zk (J:=fun x=>0<=x.2.1.1∧x.2.1.1 < g.2) (zd (fun h=>za ?_) fun h=>za ?_) ?_)
  ·have h:=zZ h;show 0<=wrF .i64 (Int.tmod t g.2+g.2)∧wrF .i64 (Int.tmod t g.2+g.2) < g.2;rw[zU (by omega) (by omega)];omega
  ·exact⟨zP h,a2⟩
  rintro⟨j,⟨r,⟨⟩⟩,⟨⟩⟩ ⟨r0,r1⟩;dsimp only at r0 r1;refine zk (J:=fun x=>∃(i:Nat) (e:Int×Int),x.2.1.2.1=(i:Int)∧g.1[i]?=some e∧0<=x.2.1.1∧x.2.1.1 < e.2) (qb g.1.length (fun k s=>s=((r - vo (g.1.take k),((k:Int),())),())∧vo (g.1.take k)<=r) (by omega) ⟨by show _=((r - 0,_),());rw[Int.sub_zero];rfl,r0⟩ ?_ ?_) ?_
  ·rintro k _ hk ⟨rfl,hs⟩;have hy:g.1[k]?=some g.1[k]:=FL hk;have hf:=hg.el _ (zqq hk);generalize g.1[k]=f at hy hf;have hk0:=HG (l:=g.1.take k) fun e he=>hg.el e (zsY he);have hf2:=hf.2.2.1;have hf3:=hf.2.2.2;refine zb (zm hy (zd (fun h=>zb (zm hy ?_)) fun h=>za (zw ⟨k,f,rfl,hy,by show 0<=r - vo (g.1.take k);omega,zZ (qE.1 h)⟩)));have h:=zP (qN.1 h);refine za (qn ⟨?_,by rw[mA hy];dsimp only at h;omega⟩);dsimp only at h;show(((wrF .i64 (r - vo (g.1.take k) - f.2)),((wrF .i64 ((k:Int)+1)),())),())=_;rw[zQ (by omega),mA hy,zU (by omega) (by omega),Int.sub_sub]
  ·rintro _ ⟨rfl,hs⟩;rw[zrU]at hs;omega
  rintro⟨j,⟨z,w,⟨⟩⟩,⟨⟩⟩ ⟨i,e,h1,h2,h3,h4⟩;exact za ⟨i,e,h1,h2,h3,h4⟩
 obtain⟨⟨i',z,⟨⟩⟩,e,i,en,h1,h2,h3,h4⟩:=key;grind
theorem Tm{g:Gts}(hg:kP g){a b:Int}(ha : -100000000000<=a∧a<=100000000000)(hb : -100000000000<=b∧b<=100000000000) : ∃l:List (Int×Int),xT (g,a,b,())=some (l,())∧(∀p∈l,a<=p.1∧p.1 < p.2∧p.2<=b)∧l.length<=(b - a).toNat:=by
 have hc:=hg.c1;have key:zt (xT (g,a,b,())) fun r=>(∀p∈r.1,a<=p.1∧p.1 < p.2∧p.2<=b)∧r.1.length<=(b - a).toNat:=by
  rw[BJ];unfold eU;refine zk (J:=fun x=>(∀p∈x.2.2.1,a<=p.1∧p.1 < p.2∧p.2<=b)∧x.2.2.1.length<=(b - a).toNat)
   (qb (b - a).toNat (fun i s=>∃(o:Bool) (t:Int) (L:List (Int×Int)),s=((o,(t,())),(L,()))∧a+i<=t∧(t=a∨t<=b)∧L.length<=i∧(o=true->0 < L.length)∧∀p∈L,a<=p.1∧p.1 < p.2∧p.2<=t∧p.2<=b) (by omega) ⟨false,a,[],rfl,by omega,.inl rfl,by simp,(fun h=>by cases h),fun p h=>by cases h⟩ ?_ ?_) ?_
  ·rintro i _ hi ⟨o,t,L,rfl,ht,htb,hL,ho,hp⟩;refine zd (fun h=>?_) fun _=>za (zw ⟨fun p h=>⟨(hp p h).1,(hp p h).2.1,(hp p h).2.2.2⟩,by show L.length<=_;omega⟩);have h:t < b:=zZ h;obtain⟨k,e,z,ea,hx,z0,z1⟩:=zpn hg t;have he:=hg.el e (zqy hx);have he3:=he.2.2.2;show zt (opt (YT (g,t,())) _) _;rw[ea,zq];refine zb (zm hx (zb (zm hx ?_)));rw[bS he.1,zq];have em:∃m,wN (wrF .i64 (wrF .i64 (t - z)+e.2)) b=m∧t < m∧m<=b:=⟨_,rfl,by rw[Km,zU (z:=t - z) (by omega) (by omega),zU (by omega) (by omega)];omega,by rw[Km];omega⟩;obtain⟨m,em,m0,m1⟩:=em;dsimp only;rw[em];refine zk (J:=fun x=>x.2.2.1.length=L.length∧∀p∈x.2.2.1,a<=p.1∧p.1 < p.2∧p.2<=m∧p.2<=b) (zd (fun _=>zd (fun ho1=>?_) fun _=>za ⟨rfl,fun p h=>?_⟩) fun _=>za ⟨rfl,fun p h=>?_⟩) ?_
   ·have h0:=ho ho1;have e1:wrF .i64 ((L.length:Int) - 1)=((L.length - 1:Nat):Int):=by rw[zU (by omega) (by omega)];omega
    rw[e1];have hy:L[L.length - 1]?=some L[L.length - 1]:=FL (by omega);have hm:=hp _ (zqq (show L.length - 1 < L.length by omega));generalize L[L.length - 1]=q at hy hm;refine zb (zm hy (zb (jR (a:=q) (by rw[zqO,xk];exact hy) (za ⟨by show(List.set _ _ _).length=_;rw[zrX],fun p h=>?_⟩))));rcases List.mem_or_eq_of_mem_set h with h | rfl
    ·have:=hp p h;omega
    ·exact⟨hm.1,by show q.1 < m;omega,by show m<=m;omega,m1⟩
   ·have:=hp p h;omega
   ·have:=hp p h;omega
   rintro⟨c,⟨⟩,L1,⟨⟩⟩ ⟨hl1,hp1⟩;dsimp only at hl1 hp1;refine zk (J:=fun x=>x.2.2.1.length<=i+1∧(opn e.1=true->0 < x.2.2.1.length)∧∀p∈x.2.2.1,a<=p.1∧p.1 < p.2∧p.2<=m∧p.2<=b) (zd (fun _=>zd (fun _=>zf (qF (by show(L1.length+1)*16<=_;omega) (by show L1.length+1<=_;omega)) (za ⟨by show(L1++_).length<=_;simp;omega,fun _=>by show 0 < (L1++_).length;simp,fun p h=>?_⟩)) fun h2=>za ⟨by show L1.length<=_;omega,fun _=>by show 0 < L1.length;have:=ho (qE.1 h2);omega,hp1⟩) fun h2=>za ⟨by show L1.length<=_;omega,fun h3=>absurd h3 (by have h2:opn e.1=false:=h2;rw[h2];decide),hp1⟩) ?_
   ·rcases zqS.1 h with h | h
    ·exact hp1 p h
    ·rw[zqU.1 h];exact⟨by show a<=t;omega,m0,by show m<=m;omega,m1⟩
   rintro⟨c2,⟨⟩,L2,⟨⟩⟩ ⟨hl2,ho2,hp2⟩;exact za (qn ⟨_,m,L2,rfl,by omega,.inr m1,hl2,ho2,hp2⟩)
  all_goals grind[zE,za,zw]
 obtain⟨⟨l,⟨⟩⟩,e,h⟩:=key;exact⟨l,e,h⟩
theorem znJ(l:List (Int×Int))(hl:l.length<=1000000000)(lost:Int):∃v,Wb (l,lost,())=some (v,()):=by
 suffices key:zt (Wb (l,lost,())) fun _=>True by obtain⟨⟨b,⟨⟩⟩,e,_⟩:=key;exact⟨b,e⟩
 rw[zav];unfold LB;refine zk (J:=fun _=>True) (qb l.length (fun i s=>∃v:Int,s=((v,((i:Int),())),())) (by omega) ⟨_,rfl⟩ ?_ ?_) fun _ _=>za trivial
 ·rintro i _ hi ⟨v,rfl⟩;have hx:l[i]?=some l[i]:=FL hi;exact zf (zL (show(i:Int) < (l.length:Int) by omega)) (zb (zm hx (zb (zm hx (za (qn ⟨_,zqR (fun z=>((_,(z,())),())) (zQ (by omega))⟩))))))
 grind[zE,za,zw]
theorem zhq{g:Gts}(hg:kP g):∃L:List (Int×Int),Zt (g,())=some (L,())∧(∀p∈L,0<=p.1∧p.1 < p.2∧p.2<=20000000)∧L.length<=20000000:=by
 have hc:=hg.c1;have hn:=hg.n1;have hcy:=hg.cy;have hpo:=hg.pos;have key:zt (Zt (g,())) fun r=>(∀p∈r.1,0<=p.1∧p.1 < p.2∧p.2<=20000000)∧r.1.length<=20000000:=by
  rw[NG];unfold Aa;refine zk (J:=fun x=>0<=x.2.1.1∧x.2.1.1<=9600000) (qb g.1.length (fun i s=>s=((vo (g.1.take i),((i:Int),())),())∧0<=vo (g.1.take i)∧vo (g.1.take i)<=g.2) (by omega) ⟨rfl,by show(0:Int)<=0;omega,by show(0:Int)<=g.2;omega⟩ ?_ ?_) ?_
  ·rintro i _ hi ⟨rfl,h0,h1⟩;have hx:g.1[i]?=some g.1[i]:=FL hi;have he:=hg.el _ (zqq hi);generalize g.1[i]=e at hx he;have he2:=he.2.2.1;have he3:=he.2.2.2;have hsum:vo (g.1.take (i+1))+vo (g.1.drop (i+1))=vo g.1:=by unfold vo;rw[<-List.sum_append,<-zrJ,zsa]
   have hd:=HG (l:=g.1.drop (i+1)) fun e he=>hg.el e (List.mem_of_mem_drop he);have hs:=mA hx;refine zf (zL (show(i:Int) < (g.1.length:Int) by omega)) (zb (zm hx ?_));rw[bS he.1,zq];refine zd (fun _=>zb (zm hx (za (qn ⟨?_,by omega,by omega⟩)))) fun _=>za (zw ⟨h0,by show vo (g.1.take i)<=_;omega⟩);show(((wrF .i64 (vo (g.1.take i)+e.2)),((wrF .i64 ((i:Int)+1)),())),())=_;rw[zQ (by omega),hs,zU (by omega) (by omega)]
  ·rintro _ ⟨rfl,h0,h1⟩;exact zi (zE (show ¬(g.1.length:Int) < (g.1.length:Int) by omega)) (za (zw ⟨h0,by show vo (g.1.take g.1.length)<=_;omega⟩))
  rintro⟨c,⟨t,n,⟨⟩⟩,⟨⟩⟩ ⟨t0,t1⟩;dsimp only at t0 t1;have ew:wrF .i64 (t+g.2)=t+g.2:=zU (by omega) (by omega);obtain⟨l,el,hl,hl2⟩:=Tm hg (a:=t) (b:=t+g.2) (by omega) (by omega);grind[zt,opt,xT,wrF,zq,za]
 obtain⟨⟨l,⟨⟩⟩,e,h⟩:=key;exact⟨l,e,h⟩
theorem zoC{g:Gts}(hg:kP g)(per most:Int):∃v,Vi (g,per,most,())=some (v,()):=by obtain⟨b,eb⟩:=OP hg;obtain⟨L,eL,_,hL⟩:=zhq hg;obtain⟨v,ev⟩:=znJ L (by omega) (wrF .i64 (most*per));grind[NI,Ad,zq]
theorem zoD{g:Gts}(hg:kP g)(per most:Int){t n:Int}(h0:0<=t∧t<=1000000000)(h1:0<=n∧n<=1000000000):∃v,Vj (g,per,most,t,n,())=some (v,()):=by obtain⟨b,eb⟩:=OP hg;obtain⟨L,eL,_,hL⟩:=Tm hg (a:=t) (b:=t+n) (by omega) (by omega);obtain⟨v,ev⟩:=znJ L (by omega) (wrF .i64 (most*per));grind[NK,Ah,zq,zU]
theorem za4(g:Gts){per most:Int}(p0:1<=per)(p1:per<=1000)(m0:84<=most)(m1:most<=1542):KQ (g,per,most,())=some (bif tv (kP g)then 0 else 370,()):=by grind[Se,Ew,mB,zq,qX,zE,wj]
theorem zpo{g:Gts}(hg:kP g){per most:Int}(p0:1<=per)(p1:per<=1000)(m0:84<=most)(m1:most<=1542):∃v e,KR (g,per,most,())=some (v,e,()):=by
 suffices key:zt (KR (g,per,most,())) fun _=>True by obtain⟨⟨v,e,⟨⟩⟩,h,_⟩:=key;exact⟨v,e,h⟩
 have hc:=hg.c1;have hpo:=hg.pos;obtain⟨x,ex⟩:=zoC hg per most;obtain⟨b,eb⟩:=OP hg;obtain⟨L,eL,hL,hL2⟩:=zhq hg;have hCp:=QE (show 0<=g.2 by omega) hc (show 0<=per by omega) p1;have hCp1:per<=g.2*per:=by have:=Int.mul_le_mul_of_nonneg_right (show 1<=g.2 by omega) (show 0<=per by omega);omega
 have hlost:=QE (show 0<=most by omega) m1 (show 0<=per by omega) p1;have eC:wrF .i64 (g.2*per)=g.2*per:=zU (by omega) (by omega);have elo:wrF .i64 (most*per)=most*per:=zU (by omega) (by omega);rw[zcT];unfold Sl;rw[za4 g p0 p1 m0 m1,qX hg,zq];refine zi rfl ?_;rw[ex,zq,eC,elo];refine zi (jm (by omega)) (zd (fun _=>za trivial) fun hr=>?_);dsimp only at hr;have hr:=zP hr;have hrate:wrF .i64 (wrF .i64 (Int.tdiv (wrF .i64 (x*1048576)) (g.2*per))*per)≠0:=by
  have hw : -9223372036854775808<=wrF .i64 (x*1048576)∧wrF .i64 (x*1048576)<=9223372036854775807:=by rw[ZB,IntKind.wrap_i64];omega
  generalize wrF .i64 (x*1048576)=w at hr hw;by_cases hw0:0<=w
  ·rw[zre hw0]at hr ⊢;have q0:0<=w / (g.2*per):=zrO hw0 (by omega);have q1:w / (g.2*per)<=w:=zsi _ hw0;rw[zU (z:=w / (g.2*per)) (by omega) (by omega)]at hr ⊢;have q2:w / (g.2*per)*(g.2*per)<=w:=Int.ediv_mul_le w (by omega);have q3:=Int.mul_le_mul_of_nonneg_left hCp1 q0;have q4:=Int.mul_le_mul hr p0 (by omega) q0;rw[zU (by omega) (by omega)];omega
  ·have q0:0<=(-w) / (g.2*per):=zrO (by omega) (by omega);have q1:(-w) / (g.2*per)<=-w:=zsi _ (by omega);have e1:Int.tdiv w (g.2*per) = -((-w) / (g.2*per)):=by rw[<-zre (show 0<=-w by omega),Int.neg_tdiv,Int.neg_neg]
   rw[e1,ZB,IntKind.wrap_i64]at hr;omega
 refine zk (J:=fun _=>True) ?_ fun z _=>zi (jm hrate) (za trivial);rw[eb,zq];refine zd (fun _=>?_) fun _=>za trivial;rw[eL,zq];refine zk (J:=fun _=>True) (qb L.length (fun i s=>∃v:Int,s=((v,((i:Int),())),())) (by omega) ⟨_,rfl⟩ ?_ ?_) fun _ _=>za trivial
 ·rintro i _ hi ⟨v,rfl⟩;have hx:L[i]?=some L[i]:=FL hi;have hp:=hL _ (zqq hi);generalize L[i]=p at hx hp;refine zf (zL (show(i:Int) < (L.length:Int) by omega)) (zb (zm hx (zb (zm hx (zb (zm hx ?_))))));have e2:wrF .i64 (2*(L.length:Int))=((2*L.length:Nat):Int):=by rw[zU (by omega) (by omega)];omega
  refine zk (J:=fun _=>True) (qb (2*L.length) (fun k s=>∃v:Int,s=((v,((k:Int),())),())) (by omega) ⟨_,rfl⟩ ?_ ?_) ?_
  ·rintro k _ hk ⟨v,rfl⟩;refine zf (by rw[e2];exact zL (by show(k:Int) < _;omega)) (zi (jm (show(L.length:Int)≠0 by omega)) ?_);have hkm:k % L.length < L.length:=Nat.mod_lt _ (by omega);have hy:L[k % L.length]?=some L[k % L.length]:=FL hkm;have hq:=hL _ (zqq hkm);generalize L[k % L.length]=q at hy hq;have et:Int.tmod (k:Int) (L.length:Int)=((k % L.length:Nat):Int):=by rw[zqx (by omega)];omega
   have ed:Int.tdiv (k:Int) (L.length:Int)=((k / L.length:Nat):Int):=by rw[zre (by omega)];omega
   have hkd:k / L.length<=1:=by have:=Nat.div_lt_of_lt_mul (show k < L.length*2 by omega);omega
   generalize k / L.length=dd at ed hkd;show zt (opt (atI L (Int.tmod (k:Int) (L.length:Int))) _) _;rw[et];refine zb (zm hy (zi (jm (show(L.length:Int)≠0 by omega)) (zk (J:=fun _=>True) (zd (fun h=>?_) fun _=>za trivial) ?_)))
   ·have h:=zZ h;have hcd:=QE (show(0:Int)<=(dd:Int) by omega) (show(dd:Int)<=1 by omega) (show 0<=g.2 by omega) hc;have f1:∃f,wrF .i64 (p.2 - wN (wrF .i64 (p.2 - p.1)) (most*per))=f∧0<=f∧f<=20000000:=⟨_,rfl,by rw[Km,zU (z:=p.2 - p.1) (by omega) (by omega),zU (by omega) (by omega)];omega,by rw[Km,zU (z:=p.2 - p.1) (by omega) (by omega),zU (by omega) (by omega)];omega⟩;have f2:∃f,wrF .i64 (wrF .i64 (q.1+wN (wrF .i64 (q.2 - q.1)) (most*per))+wrF .i64 (wrF .i64 (Int.tdiv (k:Int) (L.length:Int))*g.2))=f∧0<=f∧f<=100000000:=by refine⟨_,rfl,?_⟩;rw[ed,zU (z:=(dd:Int)) (by omega) (by omega),zU (z:=(dd:Int)*g.2) (by omega) (by omega),Km,zU (z:=q.2 - q.1) (by omega) (by omega),zU (z:=q.1+min (q.2 - q.1) (most*per)) (by omega) (by omega),zU (by omega) (by omega)];omega
    obtain⟨f,ef,f0,f3⟩:=f1;obtain⟨t,et2,t0,t1⟩:=f2;dsimp only at h ⊢;rw[ef,et2]at h ⊢;obtain⟨y,ey⟩:=zoD hg per most (t:=f) (n:=t - f) (by omega) (by omega);rw[zU (z:=t - f) (by omega) (by omega),ey,zq];exact za trivial
   rintro⟨j,⟨v2,⟨⟩⟩,⟨⟩⟩ -;exact za (qn ⟨v2,zqR (fun z=>((v2,(z,())),())) (zQ (by omega))⟩)
  ·rintro _ ⟨v,rfl⟩;exact zi (by rw[e2];exact zE (by show ¬((2*L.length:Nat):Int) < _;omega)) (za (zw trivial))
  rintro⟨j,⟨v2,w,⟨⟩⟩,⟨⟩⟩ -;exact za (qn ⟨v2,zqR (fun z=>((v2,(z,())),())) (zQ (by omega))⟩)
 grind[zE,za,zw]
theorem WI(b:Int×Int):yb (b,())=some (tv (kj b),()):=by rw[eW];unfold bC kj;refine jj ?_;grind[za,wO]
def Wl(l:List (Int×Int)):Int×Int:=((l.map (·.1)).sum,(l.map (·.2)).sum)
theorem zkS{l:List (Int×Int)}{i:Nat}{b:Int×Int}(h:l[i]?=some b):Wl (l.take (i+1))=((Wl (l.take i)).1+b.1,(Wl (l.take i)).2+b.2):=by unfold Wl;rw[zrk,h];simp
theorem zhr:∀{l:List (Int×Int)},(∀b∈l,kj b)->(l.length:Int)<=(Wl l).1∧(Wl l).1<=1048576*l.length∧(l.length:Int)<=(Wl l).2∧(Wl l).2<=2097152*l.length
 |[],_=>by simp[Wl]
 |b::l,h=>by have ih:=zhr (l:=l) fun x hx=>h x (by simp[hx]);obtain⟨⟨h1,h2⟩,h3,h4⟩:=h b (by simp);grind[Wl,List.length_cons]
noncomputable def OQ (l:List (Int×Int)):(Int×Int)×Int:=bif tv (kj (Wl l)) then (Wl l,0) else ((0,0),6)
theorem zdl{l:List (Int×Int)}(h0:l≠[])(h12:l.length<=12)(hb:∀b∈l,kj b):aB (l,())=some ((OQ l).1,(OQ l).2,()):=by
 have hl:0 < l.length:=zrT.2 h0;rw[zax];unfold LF;refine qI (zi (jm (show(l.length:Int)≠0 by omega)) (zi (zE (show ¬12 < (l.length:Int) by omega)) ?_));refine zk (J:=fun x=>x.1=0∧x.2.1.2.1=Wl l) (qb l.length (fun i s=>s=(((0,0),(Wl (l.take i),(0,((i:Int),())))),())) (by omega) rfl ?_ ?_) ?_
 ·rintro i _ hi rfl;have hx:l[i]?=some l[i]:=FL hi;have hm:=zqq hi;generalize l[i]=b at hx hm;have hbb:=hb b hm;have hbd:=zhr (l:=l.take i) fun x hx=>hb x (zsY hx);have hlt:(l.take i).length=i:=by simp;omega
  refine zf (zL (show(i:Int) < (l.length:Int) by omega)) (zb (zm (n:=i) hx ?_));rw[WI,qX hbb,zq];refine zi rfl (zb (zm (n:=i) hx (zb (zm (n:=i) hx (za (qn ?_))))));obtain⟨⟨b1,b2⟩,b3,b4⟩:=hbb;grind[wrF,Wl,zkS,zQ,zU]
 ·grind[zE,za,zw,Wl,List.take_length]
 ·rintro⟨j,⟨a1,a2,a3,a4,⟨⟩⟩,⟨⟩⟩ ⟨h1,h2⟩;simp only at h1 h2;subst h1 h2;refine zf rfl ?_;grind[WI,zq,OQ,kj,Wl,qX,za,wj]
theorem wru{z:Int}(h1:0<=z)(h2:z < 18446744073709551616):wrF .u64 z=z:=by
 rw[ZB];have e:IntKind.u64.wrap z=z % 18446744073709551616:=by unfold IntKind.wrap;show(if(false&&decide (z % 18446744073709551616>=9223372036854775808))=true then z % 18446744073709551616 - 18446744073709551616 else z % 18446744073709551616)=_;simp
 rw[e];omega
theorem zjd(x:Int):wG .u64 x 32=x / 4294967296:=by show x.fdiv (2 ^ (min (32:Int).toNat 64))=x / 4294967296;grind
theorem zje{x:Int}(h0:0<=x)(h1:x < 4294967296):wR .and .u64 x 4294967295=x:=by
 obtain⟨n,rfl⟩:=Int.eq_ofNat_of_zero_le h0;show IntKind.u64.wrap (((BitVec.ofInt 64 (n:Int)&&& BitVec.ofInt 64 4294967295).toNat:Nat):Int)=_;have e:(BitVec.ofInt 64 (n:Int)&&& BitVec.ofInt 64 4294967295).toNat=n:=by
  rw[ztp,BitVec.toNat_ofInt,BitVec.toNat_ofInt];have e1:((n:Int) % ((2 ^ 64:Nat):Int)).toNat=n:=by rw[show((2 ^ 64:Nat):Int)=18446744073709551616 from rfl];omega
  have e2:((4294967295:Int) % ((2 ^ 64:Nat):Int)).toNat=2 ^ 32 - 1:=rfl;rw[e1,e2,Nat.and_two_pow_sub_one_of_lt_two_pow (by omega)]
 rw[e,<-ZB];grind[wru]
theorem mC{l:List Int}(hn:l.length<=1000)(h:∀x∈l,-1125899906842624<=x∧x<=1125899906842624):JQ (l,())=some (true,()):=by
 rw[Oo];unfold Bd;refine Zb (zk (J:=fun x=>x.1=0) (wK l.length (fun _=>True) (by omega) ?_ ?_) ?_)
 ·intro i hi _;have hx:l[i]?=some l[i]:=FL hi;obtain⟨h1,h2⟩:=h _ (zqq hi);generalize l[i]=x at hx h1 h2;refine zf (zL (show(i:Int) < (l.length:Int) by omega)) (zb (zm (n:=i) hx ?_));refine zk (J:=fun r=>r.1=0∧r.2.1.1=false) (zi (zE (by omega)) (zi (zE (by omega)) (za ⟨rfl,rfl⟩))) ?_;rintro⟨j,⟨v,⟨⟩⟩,⟨⟩⟩ ⟨rfl,rfl⟩;exact zf rfl (za (vG (by omega) trivial))
 ·grind[zE,za,zw]
 ·rintro⟨j,⟨v,w,⟨⟩⟩,⟨⟩⟩ h1;simp only at h1;subst h1;exact zf rfl (za rfl)
theorem mD{x:Int}(h1 : -1125899906842624<=x)(h2:x<=1125899906842624):Zw (x,())=some (x,true,()):=by rw[Ot];unfold Bg;rw[mC (by simp) (by simp;omega)];rfl
theorem Cm{a b:Int}(a0:0<=a)(a1:a < 4294967296)(b0:0<=b)(b1:b < 4294967296):Qo (a,b,())=some (0,a*b,()):=by have hm:=QE a0 (show a<=4294967295 by omega) b0 (show b<=4294967295 by omega);rw[sk];unfold cu;rw[zjd a,zjd b,zje a0 a1,zje b0 b1,show a / 4294967296=0 by omega,show b / 4294967296=0 by omega,Int.zero_mul,Int.zero_mul,Int.mul_zero];grind[wrF,wru,zjd,zje]
theorem Cn{a c:Int}(a0:0<=a)(a1:a < 18446744073709551616)(c0:0 < c):Qp (0,a,c,())=some (a / c,a % c,()):=by rw[sq];unfold cC;have hq:0<=a / c:=zrO a0 (by omega);have hq2:a / c<=a:=zsi _ a0;rw[jm (show c≠0 by omega),zL (show 0 < c by omega),zre a0,zqx a0,wru hq (by omega)];rfl
theorem GU{n d:Int}(n0:0<=n)(n1:n<=1000000000000000000)(d0:0 < d)(d1:d<=1000000000000):uO (n,d,())=some (cl d n,()):=by
 have hq:0<=n / d:=zrO n0 (by omega);have hq2:n / d<=n:=zsi _ n0;have hr:=zrc n (show d≠0 by omega);have hr2:=zqV n d0;have hde:=zse n d;have hcl:cl d n=if n % d=0 then n / d else n / d+1:=by
  unfold cl;split
  ·rename_i h;have e:n+d - 1=(d - 1)+(n / d)*d:=by grind
   rw[e,zsp _ _ (by omega),zrV (by omega) (by omega)];omega
  ·rename_i h;have e:n+d - 1=(n % d - 1)+(n / d+1)*d:=by grind
   rw[e,zsp _ _ (by omega),zrV (by omega) (by omega)];omega
 rw[Sp];unfold EE;have e2:n / d*d=n - n % d:=by grind
 rw[jm (show d≠0 by omega),zqD,zre n0,zU (z:=n / d) (by omega) (by omega),e2,zU (z:=n - n % d) (by omega) (by omega),zU (z:=n / d+1) (by omega) (by omega),hcl];by_cases h:n % d=0
 ·rw[zE (by omega),zqI h];rfl
 ·rw[zL (by omega),zqu h];rfl
def Kn(s:Int×Int):Prop:=1<=s.1∧s.1<=2097152∧0<=s.2∧s.2<=268435456
theorem Tn{s:Int×Int}(h:Kn s):Zu (s,())=some (true,()):=by obtain⟨h1,h2,h3,h4⟩:=h;grind[eX,bD,zE]
theorem zdG{d w M:Int}(hd:0 < d)(h0:0<=w)(h1:w<=M):0<=cl d w∧cl d w<=M+1:=by
 unfold cl;refine⟨zrO (by omega) (by omega),?_⟩;have:(w+d - 1) / d<=(w*d+d) / d:=by refine Int.ediv_le_ediv hd ?_;have:=Int.mul_le_mul_of_nonneg_left (show 1<=d by omega) h0;omega
 have e:(w*d+d) / d=w+1:=by rw[show w*d+d=(w+1)*d by grind];exact Int.mul_ediv_cancel _ (by omega)
 omega
theorem zm0{b s:Int×Int}(hb:kj b)(hs:Kn s):0<=cl s.1 (b.1*1048576)∧cl s.1 (b.1*1048576)<=1099511627777:=by obtain⟨⟨b1,b2⟩,b3,b4⟩:=hb;obtain⟨h1,h2,h3,h4⟩:=hs;exact zdG (M:=1099511627776) (by omega) (by omega) (by omega)
theorem mE{b s:Int×Int}(hb:kj b)(hs:Kn s):Zv ([b],s,())=some (bif tv (b.2<=s.1)then(s.2+cl s.1 (b.1*1048576),0,())else(0,141,())):=by
 have hd:=zm0 hb hs;obtain⟨s1,s2,s3,s4⟩:=id hs;obtain⟨⟨b1,b2⟩,b3,b4⟩:=id hb;have hsl:KS ([b],s.1,())=some (tv (b.2<=s.1),()):=by
  rw[So];unfold EA;refine jj (zk (J:=fun x=>(x.1=0∧¬b.2<=s.1)∨(x.1=1∧x.2.1.1=true∧b.2<=s.1)) (wK 1 (fun _=>¬b.2<=s.1) (by omega) ?_ ?_) ?_)
  ·intro i hi _;have:i=0:=by omega
   subst this;refine zf rfl (zb (jR (a:=b) rfl (zd (fun h=>?_) (fun h=>?_))))
   ·grind[zP,zg,za,zw]
   ·have:=zZ (show zg s.1 b.2=true by simpa using h);exact za (vG (by omega) (by omega))
  ·intro hp;exact zi rfl (za (zw (.inl ⟨rfl,hp 0 (by omega)⟩)))
  ·rintro⟨j,⟨v,w,⟨⟩⟩,⟨⟩⟩ (⟨rfl,h⟩ | ⟨rfl,rfl,h⟩)
   ·exact zf rfl (za ⟨fun h=>(by cases h),fun h'=>absurd h' h⟩)
   ·exact zi rfl (za ⟨fun _=>h,fun _=>rfl⟩)
 have hcl:b.2<=s.1->Jd ([b],s.1,())=some (cl s.1 (b.1*1048576),()):=by
  intro h;rw[BL];unfold fa;refine Zb (zk (J:=fun x=>x.2.1.1=cl s.1 (b.1*1048576)) (qb 1 (fun i st=>(i=0∧st=((-1,(0,())),()))∨(i=1∧st=((cl s.1 (b.1*1048576),(1,())),()))) (by omega) (.inl ⟨rfl,rfl⟩) ?_ ?_) ?_)
  ·rintro i _ hi (⟨rfl,rfl⟩ | ⟨rfl,rfl⟩)
   ·refine zf rfl (zb (jR (a:=b) rfl (zi (zE (by omega)) ?_)));rw[show wrF .i64 (b.1*1048576)=b.1*1048576 from zU (by omega) (by omega),GU (by omega) (by omega) (by omega) (by omega),zq];refine zk (J:=fun x=>x.2.1.1=cl s.1 (b.1*1048576)) (zf rfl (za rfl)) ?_;rintro⟨j,⟨a1,⟨⟩⟩,⟨⟩⟩ h1;simp only at h1;subst h1;refine zk (J:=fun x=>x.2.1.1=cl s.1 (b.1*1048576)) (qb 1 (fun i st=>(i=0∧st=((cl s.1 (b.1*1048576),(0,())),()))∨(i=1∧st=((cl s.1 (b.1*1048576),(1,())),()))) (by omega) (.inl ⟨rfl,rfl⟩) ?_ ?_) ?_
    ·rintro i _ hi (⟨rfl,rfl⟩ | ⟨rfl,rfl⟩)
     ·refine zf rfl (zb (jR (a:=b) rfl (zk (J:=fun x=>x.2.1.1=cl s.1 (b.1*1048576)) (zi (zE (by omega)) (za rfl)) ?_)));rintro⟨j,⟨a1,⟨⟩⟩,⟨⟩⟩ h1;simp only at h1;subst h1;exact za (qn (.inr ⟨rfl,rfl⟩))
     ·omega
    ·rintro _ (⟨h1,rfl⟩ | ⟨_,rfl⟩)
     ·omega
     ·exact zi rfl (za (zw rfl))
    ·rintro⟨j,⟨a1,a2,⟨⟩⟩,⟨⟩⟩ h1;simp only at h1;subst h1;exact za (qn (.inr ⟨rfl,rfl⟩))
   ·omega
  ·rintro _ (⟨h1,rfl⟩ | ⟨_,rfl⟩)
   ·omega
   ·exact zi rfl (za (zw rfl))
  grind[za]
 rw[fe];unfold bE;refine qI (zi rfl (zi rfl (zk (J:=fun x=>x.1=0) (qb 1 (fun i st=>st=((0,(0,((i:Int),()))),())) (by omega) rfl ?_ ?_) ?_)))
 ·rintro i _ hi rfl;have:i=0:=by omega
  subst this;refine zf rfl (zb (jR (a:=b) rfl ?_));rw[WI,qX hb,zq];exact zi rfl (za (qn rfl))
 ·rintro _ rfl;exact zi rfl (za (zw rfl))
 ·rintro⟨j,⟨v,w,z,⟨⟩⟩,⟨⟩⟩ h1;simp only at h1;subst h1;refine zf rfl ?_;grind[Tn,zq,qX,za,wrF,cl,zU,wj]
theorem zoE{b s:Int×Int}(hb:kj b)(hs:Kn s):0<=b.2*s.2∧b.2*s.2<=562949953421312∧0<=cl 1048576 (b.2*s.2)∧cl 1048576 (b.2*s.2)<=562949953421313:=by obtain⟨s1,s2,s3,s4⟩:=hs;obtain⟨⟨b1,b2⟩,b3,b4⟩:=hb;have:=QE (show 0<=b.2 by omega) b4 s3 s4;have:=zdG (d:=1048576) (w:=b.2*s.2) (M:=562949953421312) (by omega) (by omega) (by omega);omega
theorem It{b s:Int×Int}(hb:kj b)(hs:Kn s)(h:b.2<=s.1):Wv (b,s,())=some (b.1+cl 1048576 (b.2*s.2),0,()):=by have hbb:=zoE hb hs;obtain⟨⟨b1,b2⟩,b3,b4⟩:=id hb;rw[EG];unfold lX;rw[mE hb hs,qX h,zq,zqJ];refine qI (zi rfl ?_);rw[show wrF .i64 (b.2*s.2)=b.2*s.2 from zU (by omega) (by omega),GU (by omega) (by omega) (by omega) (by omega)];refine za ?_;grind[wrF,cl,zU]
def Xd(s:wI)(p:Int):Prop:=∃r∈s.2.2.2.2.2.2.2.2,p∈r
noncomputable def load (l:List wI) (p:Int):List (Int×Int):=(l.filter fun s=>tv (Xd s p)).map fun s=>s.2.2.2.2.2.2.1
structure okP(n:Fab)(l:List wI):Prop where
 f:zmZ n
 a:Yw n.1 l
 n12:l.length<=12
 d:ON l
 c:∀s∈l,s.2.2.2.1=6∧s.2.2.2.2.1<=n.2.2.2
theorem OR{t:qT}{s:wI}(hs:ZA t s)(p:Int):YR (s,p,())=some (tv (Xd s p),()):=by
 have rn:=hs.rn;rw[HL];unfold ot;refine jj (zk (J:=fun x=>(x.1=0∧¬Xd s p)∨(x.1=1∧x.2.1.1=true∧Xd s p)) (wK s.2.2.2.2.2.2.2.2.length (fun i=>∀r,s.2.2.2.2.2.2.2.2[i]?=some r->¬p∈r) (by omega) ?_ ?_) ?_)
 ·intro i hi hp;have hx:s.2.2.2.2.2.2.2.2[i]?=some s.2.2.2.2.2.2.2.2[i]:=FL hi;have hm:=zqq hi;generalize s.2.2.2.2.2.2.2.2[i]=r at hx hm;have hr8:=(hs.rt r hm).1.n1;refine zf (zL (show(i:Int) < (s.2.2.2.2.2.2.2.2.length:Int) by omega)) ?_;refine zk (J:=fun x=>(x.1=0∧x.2.1.1=false∧¬p∈r)∨(x.1=1∧x.2.1.1=true∧p∈r)) (wK r.length (fun k=>r[k]?≠some p) (by omega) ?_ ?_) ?_
  ·intro k hk hpk;have hy:r[k]?=some r[k]:=FL hk;refine zb (zm (n:=i) hx (zf (zL (show(k:Int) < (r.length:Int) by omega)) (zb (zm (n:=i) hx (zb (zm (n:=k) hy ?_))))));refine zd (fun h=>?_) (fun h=>?_)
   ·grind[ql,za,zw,List.getElem_mem]
   ·have:r[k]≠p:=qt h;exact za (vG (by omega) (by grind))
  ·grind[zb,zm,zE,za,zw,uz]
  ·rintro⟨j,⟨v,w,⟨⟩⟩,⟨⟩⟩ (⟨rfl,rfl,hq⟩ | ⟨rfl,rfl,hq⟩)
   ·exact zf rfl (za (vG (by omega) fun r' hr'=>by grind))
   ·exact zi rfl (za (zw (.inr ⟨rfl,rfl,r,hm,hq⟩)))
 ·intro hp;refine zi (zE (show ¬(s.2.2.2.2.2.2.2.2.length:Int) < (s.2.2.2.2.2.2.2.2.length:Int) by omega)) (za (zw (.inl ⟨rfl,fun⟨r,h1,h2⟩=>?_⟩)));grind[uz]
 ·rintro⟨j,⟨v,w,⟨⟩⟩,⟨⟩⟩ (⟨rfl,hq⟩ | ⟨rfl,rfl,hq⟩)
  ·exact zf rfl (za ⟨fun h=>(by cases h),fun h=>absurd h hq⟩)
  ·exact zi rfl (za ⟨fun _=>hq,fun _=>rfl⟩)
theorem zkT{l:List wI}{i:Nat}{s:wI}(h:l[i]?=some s)(p:Int):load (l.take (i+1)) p=bif tv (Xd s p)then load (l.take i) p++[s.2.2.2.2.2.2.1]else load (l.take i) p:=by grind[load,List.take_add_one,Option.toList,tv,Xd]
theorem zoF{n:Fab}{l:List wI}(h:okP n l)(p:Int):(load l p).length<=12∧∀b∈load l p,kj b:=by
 unfold load;refine⟨?_,fun b hb=>?_⟩
 ·rw[zsm];have:=zrf (fun s=>tv (Xd s p)) l;have:=h.n12;omega
 ·obtain⟨s,hs,rfl⟩:=zrQ.1 hb;have hs:=(zty.1 hs).1;have h1:=h.a s hs;have h2:=(h.c s hs).1;rcases h1.cl with⟨h3,_⟩ | ⟨_,_,h4,h5⟩
  ·omega
  ·have:=h1.sz;exact⟨⟨by omega,h4.2⟩,h5⟩
theorem zkU{n:Fab}(h:zmZ n){p:Int}(hp:yx n.1 p):∃g,n.2.2.1[p.toNat]?=some g∧(n.2.2.1[p.toNat]?).getD ([],0)=g∧kP g∧1<=(lnk n.1 p).2.2.1∧(lnk n.1 p).2.2.1<=1000:=by have:=hp.1;have:=hp.2;have hf:=h.f.1;have hx:n.2.2.1[p.toNat]?=some (n.2.2.1[p.toNat]'(by omega)):=FL (by omega);have hl:=(h.t.ls _ _ (GS hp)).1;exact⟨_,hx,by rw[hx];rfl,h.g _ (zqq _),hl.2.2.2.2.1,hl.2.2.2.2.2.1⟩
def zjf(n:Fab)(l:List wI):Prop:=∀s∈l,s.2.2.2.1=6∧s.2.2.2.2.1<=n.2.2.2
noncomputable def zdH (n:Fab) (l:List wI):Int:=bif tv (ny n=0) then bif tv (iw n.1 l=0) then bif tv (zjf n l) then 0 else 2 else iw n.1 l else ny n
theorem zfZ{t:qT}{l:List wI}(h:iw t l=0):l.length<=12∧Yw t l∧ON l:=by grind[iw,Yw,ON,qX,wj]
theorem za5{n:Fab}{l:List wI}(h:zdH n l=0):okP n l:=by
 unfold zdH at h;by_cases h1:ny n=0
 ·by_cases h2:iw n.1 l=0
  ·by_cases h3:zjf n l
   ·obtain⟨a,b,c⟩:=zfZ h2;exact⟨zkP h1,b,a,c,h3⟩
   ·rw[qX h1,qX h2,wj h3]at h;cases h
  ·rw[qX h1,wj h2]at h;exact absurd h h2
 grind[wj]
theorem pE{n:Fab}(hn:n.2.2.1.length<=1000000000000000000)(l:List wI):Ym (n,l,())=some (zdH n l,()):=by
 rw[Sc];unfold Es zdH;rw[pC hn,zq];by_cases h1:ny n=0;rotate_left
 ·rw[wj h1,jm h1];refine Zb (zk (J:=fun x=>x.2.1.1=ny n) (za rfl) ?_);grind[za,zj,ny,jm]
 rw[qX h1,h1,zqJ];have hf:=zkP h1;rw[bk hf.t];refine Zb (zk (J:=fun x=>x.2.1.1=iw n.1 l) (zf rfl (za rfl)) ?_);rintro⟨j,⟨v,⟨⟩⟩,⟨⟩⟩ hv;simp only at hv;subst hv;by_cases h2:iw n.1 l=0;rotate_left
 ·grind[wj,za,zj,iw,jm]
 rw[qX h2,zqJ];obtain⟨h12,ha,hd⟩:=zfZ h2;refine zi (show(!zj (iw n.1 l) 0)=false by rw[wZ h2];rfl) ?_;refine zk (J:=fun x=>(x.1=0∧zjf n l)∨(x.1=1∧x.2.1.1=2∧¬zjf n l)) (wK l.length (fun i=>∀s,l[i]?=some s->s.2.2.2.1=6∧s.2.2.2.2.1<=n.2.2.2) (by omega) ?_ ?_) ?_
 ·intro i hi hp;have hx:l[i]?=some l[i]:=FL hi;have hm:=zqq hi;generalize l[i]=s at hx hm;refine zf (zL (show(i:Int) < (l.length:Int) by omega)) ?_;refine zk (J:=fun x=>(x.1=0∧x.2.1.1=0∧s.2.2.2.1=6∧s.2.2.2.2.1<=n.2.2.2)∨(x.1=1∧x.2.1.1=2∧¬(s.2.2.2.1=6∧s.2.2.2.2.1<=n.2.2.2))) ?_ ?_
  ·refine zb (zm (n:=i) hx ?_);refine zd (fun h=>za (.inr ⟨rfl,rfl,fun hs=>?_⟩)) fun h1=>zb (zm (n:=i) hx (zd (fun h=>za (.inr ⟨rfl,rfl,fun hs=>?_⟩)) fun h2=>za (.inl ⟨rfl,rfl,ql (by simpa using h1),zP h2⟩)))
   ·grind[wZ]
   ·have:=zZ h;omega
  ·rintro⟨j,⟨v,⟨⟩⟩,⟨⟩⟩ (⟨rfl,rfl,hq⟩ | ⟨rfl,rfl,hq⟩)
   ·exact zf rfl (za (vG (by omega) fun r' hr'=>by grind))
   ·exact zi rfl (za (zw (.inr ⟨rfl,rfl,fun h=>hq (h s hm)⟩)))
 ·intro hp;refine zi (zE (show ¬(l.length:Int) < (l.length:Int) by omega)) (za (zw (.inl ⟨rfl,fun r hr=>?_⟩)));grind[uz]
 ·rintro⟨j,⟨v,w,⟨⟩⟩,⟨⟩⟩ (⟨rfl,hq⟩ | ⟨rfl,rfl,hq⟩)
  ·rw[qX hq];exact zf rfl (za rfl)
  ·rw[wj hq];exact zi rfl (za rfl)
theorem zkV{s:Int×Int}(h:¬Kn s):Zu (s,())=some (false,()):=by
 have key:zt (Zu (s,())) fun r=>r.1=false:=by
  rw[eX];unfold bD;refine zd (fun h1=>zd (fun h2=>zd (fun h3=>za ?_) fun _=>za rfl) fun _=>za rfl) fun _=>za rfl;have h1:=zP (qN.1 h1);have h2:=zP (qN.1 h2);have h3:=zP (qN.1 h3);by_cases h4:s.2<=268435456
  ·exact absurd ⟨h1,h2,h3,h4⟩ h
  ·show(!zg 268435456 s.2)=false;rw[zL (by omega)];rfl
 obtain⟨⟨b,⟨⟩⟩,e,h⟩:=key;grind
theorem zoG{b s:Int×Int}(hb:kj b)(h:¬Kn s):Zv ([b],s,())=some (0,140,()):=by
 rw[fe];unfold bE;refine qI (zi rfl (zi rfl (zk (J:=fun x=>x.1=0) (qb 1 (fun i s=>s=((0,(0,((i:Int),()))),())) (by omega) rfl ?_ ?_) ?_)))
 ·rintro i _ hi rfl;have:i=0:=by omega
  subst this;refine zf rfl (zb (zm (n:=0) (x:=b) rfl ?_));rw[WI,qX hb,zq];exact zi rfl (za (qn rfl))
 ·rintro _ rfl;exact zi rfl (za (zw rfl))
 rintro⟨j,⟨v,w,z,⟨⟩⟩,⟨⟩⟩ hj;have hj:j=0:=hj;subst hj;refine zx ?_;rw[zkV h,zq];exact za rfl
theorem zjg{n:Fab}{l:List wI}(h:okP n l){p:Int}(hp:yx n.1 p):∃r e,uE (n,l,p,())=some (r,e,()):=by
 suffices key:zt (uE (n,l,p,())) fun _=>True by obtain⟨⟨r,e,⟨⟩⟩,h,_⟩:=key;exact⟨r,e,h⟩
 have h12:=h.n12;obtain⟨lb1,lb2⟩:=zoF h p;obtain⟨g,hx,hge,hg,p0,p1⟩:=zkU h.f hp;obtain⟨v,ev,eo⟩:=zpo hg p0 p1 h.f.f.2.1 h.f.f.2.2;rw[zay];unfold LK;refine(zk (J:=fun x=>x.2.2.1=load l p) (qb l.length (fun i s=>s=(((i:Int),()),(load (l.take i) p,()))) (by omega) rfl ?_ ?_) ?_)
 ·rintro i _ hi rfl;have hy:l[i]?=some l[i]:=FL hi;have hm:=zqq hi;generalize l[i]=s at hy hm;have hll:(load (l.take i) p).length<=12:=by unfold load;rw[zsm];have:=zrf (fun s=>tv (Xd s p)) (l.take i);simp only[zsh]at this;omega
  refine zf (zL (show(i:Int) < (l.length:Int) by omega)) ?_;refine zk (J:=fun x=>x.2.2.1=load (l.take (i+1)) p) ?_ ?_
  ·refine zb (zm (n:=i) hy ?_);rw[OR (h.a s hm),zq,zkT hy];cases hpa:tv (Xd s p)with
   |true=>
    refine zf rfl (zb (zm (n:=i) hy (zf (qF (by show((load (l.take i) p).length+1)*16<=_;omega) (by show(load (l.take i) p).length+1<=_;omega)) (za rfl))))
   |false=>exact zi rfl (za rfl)
  grind[za,qn,zQ]
 ·grind[zE,za,zw,load,List.take_length]
 ·rintro⟨j,⟨z,⟨⟩⟩,c,⟨⟩⟩ hc;simp only at hc;subst hc;by_cases hne:load l p=[]
  ·rw[hne];exact zf rfl (za trivial)
  have hlen:(load l p).length≠0:=fun e=>hne (zrh.1 e);refine zi (jm (show((load l p).length:Int)≠0 by omega)) (zb (jR (a:=g) (by show atI n.2.2.1 p=_;rw[show p=((p.toNat:Nat):Int) from(by have:=hp.1;omega),gz (n:=p.toNat)];exact hx) ?_));rw[bR h.f.t.ll hp,zq,eo,zq];refine zd (fun _=>za trivial) fun _=>?_;rw[zdl hne lb1 lb2,zq];refine zd (fun _=>za trivial) fun h6=>?_;have h6:(OQ (load l p)).2=0:=ql (qE.1 h6);have hb:kj (OQ (load l p)).1:=by grind[OQ,kj,Wl,load,qX,wj]
  by_cases hv:Kn v
  ·rw[mE hb hv,zq];by_cases hle:(OQ (load l p)).1.2<=v.1
   ·grind[qX,It,zq,za]
   ·rw[wj hle,zqD];exact zf rfl (za trivial)
  ·rw[zoG hb hv,zq];exact zf rfl (za trivial)
theorem zpp{n:Fab}{l:List wI}(h:okP n l){r:List Int}(hr:xb n.1 r):∃v e,Qy (n,l,r,())=some (v,e,()):=by
 suffices key:zt (Qy (n,l,r,())) fun _=>True by obtain⟨⟨r,e,⟨⟩⟩,h,_⟩:=key;exact⟨r,e,h⟩
 have r8:=hr.n1;rw[Ss];unfold EJ;refine zk (J:=fun x=>x.1=0∨x.1=1) (qb r.length (fun i st=>∃s:Int,st=((0,(0,(s,((i:Int),())))),())) (by omega) ⟨0,rfl⟩ ?_ ?_) ?_
 ·rintro i _ hi ⟨s,rfl⟩;have hx:r[i]?=some r[i]:=FL hi;have hpt:=hr.pt _ (zqq hi);generalize r[i]=p at hx hpt;obtain⟨y,e,ey⟩:=zjg h hpt;refine zf (zL (show(i:Int) < (r.length:Int) by omega)) (zb (zm hx ?_));show zt (opt (uE (n,l,p,())) _) _;rw[ey,zq];refine zd (fun _=>za (zw (.inr rfl))) fun _=>zb (zm hx ?_);rw[UG h.f.t.ll hpt,zq];exact za (qn ⟨_,zqR (fun z=>((0,(0,(_,(z,())))),())) (zQ (by omega))⟩)
 all_goals grind[zE,za,zw]
theorem zhs{n:Fab}(hn:n.2.2.1.length<=1000000000000000000)(l:List wI):∃e,kC (n,l,())=some (e,())∧(e=0->okP n l):=by
 have key:zt (kC (n,l,())) fun r=>r.1=0->okP n l:=by
  rw[NO];unfold As;rw[pE hn,zq];refine zd (fun h=>za fun h2=>za5 h2) fun h=>?_;have ok:=za5 (ql (qE.1 h));have h12:=ok.n12;have hf:=ok.f.f.1;have hls:=ok.f.t.sz.ls;have fin:∀x:Int,zt (some (x,())) fun r=>r.1=0->okP n l:=fun x=>za fun _=>ok;refine zk (J:=fun x=>x.1=0∨x.1=1) (qb n.2.2.1.length (fun i s=>∃v:Int,s=((v,((i:Int),())),())) (by omega) ⟨_,rfl⟩ ?_ ?_) ?_
  ·rintro i _ hi ⟨v,rfl⟩;have hpt:yx n.1 (i:Int):=⟨by omega,by omega⟩;obtain⟨y,e,ey⟩:=zjg ok hpt;have on:zt (some (.inr ((v,(wrF .i64 ((i:Int)+1),())),())):Option ((Nat×((Int×(Int×Unit))×Unit)) ⊕ ((Int×(Int×Unit))×Unit))) (Nxt (fun x=>x.1=0∨x.1=1) fun s=>∃v:Int,s=((v,(((i+1:Nat):Int),())),())):=za (qn ⟨v,by rw[zQ (by omega)]⟩);refine zf (zL (show(i:Int) < (n.2.2.1.length:Int) by omega)) ?_;show zt (opt (uE (n,l,(i:Int),())) _) _;rw[ey,zq];exact zd (fun _=>on) fun _=>zd (fun _=>za (zw (.inr rfl))) fun _=>zd (fun _=>za (zw (.inr rfl))) fun _=>on
  ·rintro _ ⟨v,rfl⟩;exact zi (zE (show ¬(n.2.2.1.length:Int) < (n.2.2.1.length:Int) by omega)) (za (zw (.inl rfl)))
  rintro⟨j,⟨v,w,⟨⟩⟩,⟨⟩⟩ (h | h);rotate_left
  ·have h:j=1:=h;subst h;exact zi rfl (fin _)
  have h:j=0:=h;subst h;refine zf rfl (zk (J:=fun x=>x.1=0∨x.1=1) (qb l.length (fun i s=>∃v:Int,s=((v,((i:Int),())),())) (by omega) ⟨_,rfl⟩ ?_ ?_) ?_)
  ·rintro i _ hi ⟨v,rfl⟩;have hx:l[i]?=some l[i]:=FL hi;have hs:=ok.a _ (zqq hi);generalize l[i]=s at hx hs;have rn:=hs.rn;refine zf (zL (show(i:Int) < (l.length:Int) by omega)) (zk (J:=fun x=>x.1=0∨x.1=1) (qb s.2.2.2.2.2.2.2.2.length (fun k s=>∃v:Int,s=((v,((k:Int),())),())) (by omega) ⟨_,rfl⟩ ?_ ?_) ?_)
   ·rintro k _ hk ⟨v,rfl⟩;have hy:s.2.2.2.2.2.2.2.2[k]?=some s.2.2.2.2.2.2.2.2[k]:=FL hk;have hr:=(hs.rt _ (zqq hk)).1;generalize s.2.2.2.2.2.2.2.2[k]=r at hy hr;obtain⟨y,e,ey⟩:=zpp ok hr;refine zb (zm hx (zf (zL (show(k:Int) < (s.2.2.2.2.2.2.2.2.length:Int) by omega)) (zb (zm hx (zb (zm hy ?_))))));show zt (opt (Qy (n,l,r,())) _) _;rw[ey,zq];exact zd (fun _=>za (zw (.inr rfl))) fun _=>zb (zm hx (zd (fun _=>za (zw (.inr rfl))) fun _=>za (qn ⟨v,zqR (fun z=>((v,(z,())),())) (zQ (by omega))⟩)))
   ·rintro _ ⟨v,rfl⟩;exact zb (zm hx (zi (zE (show ¬(s.2.2.2.2.2.2.2.2.length:Int) < (s.2.2.2.2.2.2.2.2.length:Int) by omega)) (za (zw (.inl rfl)))))
   rintro⟨j,⟨v2,w2,⟨⟩⟩,⟨⟩⟩ (h | h)
   ·have h:j=0:=h;subst h;exact zf rfl (za (qn ⟨v2,zqR (fun z=>((v2,(z,())),())) (zQ (by omega))⟩))
   ·have h:j=1:=h;subst h;exact zi rfl (za (zw (.inr rfl)))
  all_goals grind[zE,za,zw]
 obtain⟨⟨e,⟨⟩⟩,h1,h2⟩:=key;exact⟨e,h1,h2⟩
theorem zm1{n:Fab}(hn:n.2.2.1.length<=1000000000000000000)(l:List wI)(s:wI):∃r e,xi (n,l,s,())=some (r,e,())∧(e=0->r=l++[s]∧okP n r):=by
 have key:zt (xi (n,l,s,())) fun z=>z.2.1=0->z.1=l++[s]∧okP n z.1:=by
  obtain⟨e,he,ho⟩:=zhs hn l;rw[NS];unfold Ay;rw[he,zq];refine zk (J:=fun x=>x.2.1.1=0->e=0) (zd (fun h=>?_) fun h=>za fun h2=>h2) ?_
  ·rw[Tk (ho (ql h)).f.t,zq];exact za fun _=>ql h
  rintro⟨j,⟨v,⟨⟩⟩,⟨⟩⟩ hv;refine zd (fun h=>za fun h2=>absurd h2 (qt (qN.1 h))) fun h=>?_;have ok:=ho (hv (ql (qE.1 h)));have h12:=ok.n12;refine zf (qF (by omega) (by omega)) (zf (qF (by show(l.length+1)*96<=_;omega) (by show l.length+1<=_;omega)) ?_);obtain⟨e2,he2,ho2⟩:=zhs hn (l++[s]);show zt (opt (kC (n,l++[s],())) _) _;rw[he2,zq];exact zd (fun h=>za fun h2=>absurd h2 (qt (qN.1 h))) fun h=>za fun _=>⟨rfl,ho2 (ql (qE.1 h))⟩
 obtain⟨⟨r,e,⟨⟩⟩,h1,h2⟩:=key;grind
theorem zpU{n:Fab}(hn:n.2.2.1.length<=1000000000000000000)(l:List wI)(p:Int):∃r e,Wc (n,l,p,())=some (r,e,()):=by
 suffices key:zt (Wc (n,l,p,())) fun _=>True by obtain⟨⟨r,e,⟨⟩⟩,h,_⟩:=key;exact⟨r,e,h⟩
 rw[zaB];unfold LO;rw[pE hn,zq];refine zd (fun _=>za trivial) fun h=>?_;have ok:=za5 (ql (qE.1 h));have hf:=ok.f.f.1;refine zk (J:=fun x=>(x.1=0∧yx n.1 p)∨x.1=1) (zd (fun _=>za (.inr rfl)) fun h1=>zd (fun _=>za (.inr rfl)) fun h2=>za (.inl ⟨rfl,zP h1,?_⟩)) ?_
 ·have:=zZ (show zg p (n.2.2.1.length:Int)=true by simpa using h2);omega
 ·rintro⟨j,⟨v,w,⟨⟩⟩,⟨⟩⟩ (⟨h,hp⟩ | h)
  ·grind[zjg,zq,za]
  ·have h:j=1:=h;subst h;exact zi rfl (za trivial)
def u8(l:List Int):Prop:=∀x∈l,0<=x∧x<=255
abbrev FJ:=Int×Int×List Int×List Int×List Int×List Int
structure tdP(d:FJ):Prop where
 b:0<=d.1∧d.1<=255
 s:0<=d.2.1∧d.2.1<=255
 c:u8 d.2.2.1
 h:u8 d.2.2.2.1
 p:u8 d.2.2.2.2.1
 e:u8 d.2.2.2.2.2
theorem Xe{l:List Int}(hl:u8 l){i:Int}(h0:0<=i):∃v,jJ (l,i,())=some (v,())∧0<=v∧v<=255:=by
 have key:zt (jJ (l,i,())) fun r=>0<=r.1∧r.1<=255:=by
  rw[Rs];unfold DF;refine zd (fun h=>?_) (fun h=>?_)
  ·have h:=zZ h;refine zb (wJ h0 (by omega) fun x hx=>za ?_);have hm:=hl x (zqy hx);show 0<=wrF .i64 x∧wrF .i64 x<=255;rw[zU (by omega) (by omega)];exact hm
  grind[za]
 obtain⟨⟨v,⟨⟩⟩,e,h⟩:=key;exact⟨v,e,h⟩
theorem FK{R:Type}{Q:R->Prop}{pers delays:List Int}{t:qT}(hs:szP t){a b:Int}(hp:u8 pers)(hd:u8 delays){KEEP KEEP2 KEEP3:Option R}{ADD:(Int×Unit)->(Int×Unit)->Option R}(e2:KEEP2=KEEP)(e3:KEEP3=KEEP)(hk:∀x y:Int,0<=x->x<=255->0<=y->y<=255->(t.2.2.length=24∨¬im t (a,(b,((wrF .i64 (1+(Int.tmod x 20))),(Int.tmod y 50))))∨∃o∈t.2.2,ZX o a b)->zt KEEP Q)(ha:∀x y:Int,0<=x->x<=255->0<=y->y<=255->t.2.2.length≠24->im t (a,(b,((wrF .i64 (1+(Int.tmod x 20))),(Int.tmod y 50))))->(∀o∈t.2.2,¬ZX o a b)->zt (ADD (x,()) (y,())) Q) : zt (opt (jJ ((pers,((((t.2.2).length:Nat):Int),())))) fun x3=>opt (jJ ((delays,((((t.2.2).length:Nat):Int),())))) fun x4=>bif(zj ((((t.2.2).length:Nat):Int)) (24))then KEEP else opt (xK (((t.1,(t.2.1,t.2.2)),((a,(b,((wrF .i64 ((1+(Int.tmod x3.1 20)))),(Int.tmod x4.1 50)))),())))) fun x5=>bif(!x5.1)then KEEP2 else opt (zJ (fun s6:(((Int×((List Bool)×(List (Int×(Int×(Int×Int))))))×(Int×Unit))×Unit)=>bif(zg (s6.1.2.1) ((((t.2.2).length:Nat):Int)))then opt (atI (t.2.2) (s6.1.2.1)) fun x7=>opt (gl (t.2.2) ((Int.toNat s6.1.2.1))) fun x8=>opt (wb ((x8,(a,(b,()))))) fun x9=>bif x9.1 then some (.inl s6)else some (.inr ((s6.1.1,((wrF .i64 ((s6.1.2.1+1))),())),()))else some (.inl s6)) zR (((0,([],[])),(0,())),())) fun x10=>bif(zg (x10.1.2.1) ((((t.2.2).length:Nat):Int)))then opt (atI (t.2.2) (x10.1.2.1)) fun x11=>opt (gl (t.2.2) ((Int.toNat x10.1.2.1))) fun x12=>opt (wb ((x12,(a,(b,()))))) fun x13=>bif x13.1 then KEEP3 else none else bif(zX ((t.2.2).length) ((((a,(b,((wrF .i64 ((1+(Int.tmod x3.1 20)))),(Int.tmod x4.1 50))))::[])).length) (32))then ADD x3 x4 else none) Q:=by
 subst e2 e3;have hl:=hs.ls;obtain⟨x,ex,x0,x1⟩:=Xe hp (i:=(t.2.2.length:Int)) (by omega);obtain⟨y,ey,y0,y1⟩:=Xe hd (i:=(t.2.2.length:Int)) (by omega);rw[ex,zq,ey,zq];refine zd (fun h24=>hk x y x0 x1 y0 y1 (.inl (by have:=ql h24;omega))) (fun h24=>?_);have h24:t.2.2.length≠24:=fun e=>qt h24 (by rw[e];rfl);rw[show((t.1,(t.2.1,t.2.2)):qT)=t from rfl,pA hs,zq];refine zd (fun hlk=>hk x y x0 x1 y0 y1 (.inr (.inl (jZ hlk)))) (fun hlk=>?_);have hlk:=wD hlk;refine zk (J:=fun s=>∃(i:Nat),s=(((0,([],[])),((i:Int),())),())∧((i=t.2.2.length∧∀o∈t.2.2,¬ZX o a b)∨∃o,t.2.2[i]?=some o∧ZX o a b)) (qb t.2.2.length (fun i s=>s=(((0,([],[])),((i:Int),())),())∧∀(k:Nat) o,k < i->t.2.2[k]?=some o->¬ZX o a b) (by omega) ⟨rfl,fun k o hk=>by omega⟩ ?_ ?_) ?_
 ·rintro i _ hi ⟨rfl,hp⟩;have hx:t.2.2[i]?=some t.2.2[i]:=FL hi;generalize t.2.2[i]=o at hx;refine zf (zL (show(i:Int) < (t.2.2.length:Int) by omega)) (zb (zm (n:=i) hx (zb (jR (a:=o) (by grind[gl,Int.toNat,Int.toNat_natCast,xk]) ?_))));rw[UE,zq];refine zd (fun h=>?_) (fun h=>?_)
  ·exact za (zw ⟨i,rfl,.inr ⟨o,hx,aE h⟩⟩)
  ·refine za (qn ⟨zqR (fun z=>((_,(z,())),())) (zQ (by omega)),fun k o' hk ho=>?_⟩);grind
 ·rintro _ ⟨rfl,hp⟩;refine zi (zE (show ¬(t.2.2.length:Int) < (t.2.2.length:Int) by omega)) (za (zw ⟨t.2.2.length,rfl,.inl ⟨rfl,fun o ho=>?_⟩⟩));obtain⟨k,hk,hk2⟩:=uz ho;exact hp k o hk hk2
 ·rintro _ ⟨i,rfl,⟨rfl,hno⟩ | ⟨o,hx,hj⟩⟩
  ·exact zi (zE (show ¬(t.2.2.length:Int) < (t.2.2.length:Int) by omega)) (zf (qF (by show(t.2.2.length+1)*32<=_;omega) (by show t.2.2.length+1<=_;omega)) (ha x y x0 x1 y0 y1 h24 hlk hno))
  ·have hil:i < t.2.2.length:=by grind
   refine zf (zL (show(i:Int) < (t.2.2.length:Int) by omega)) (zb (zm (n:=i) hx (zb (jR (a:=o) (by grind[gl,Int.toNat,Int.toNat_natCast,xk]) ?_))));rw[UE,zq,qX hj];exact zf rfl (hk x y x0 x1 y0 y1 (.inr (.inr ⟨o,zqy hx,hj⟩)))
def sts(b c:Nat):List Bool:=(List.range (b+c)).map fun n=>decide (b<=n)
def tOf(b c:Nat)(ls:List wT):qT:=(((b+c:Nat):Int),sts b c,ls)
theorem zht(b c:Nat):(sts b c).length=b+c:=by simp[sts]
theorem zkW{b c:Nat}{ls:List wT}{n:Nat}(h:n < b+c):stn (tOf b c ls) (n:Int)=decide (b<=n):=by unfold stn tOf sts;simp[h]
structure Dr(b c:Nat)(ls:List wT):Prop where
 b1:1<=b
 b6:b<=6
 c2:2<=c
 c6:c<=6
 n24:ls.length<=24
 ok:HB (tOf b c ls)
theorem Dr.sz{b c:Nat}{ls:List wT}(h:Dr b c ls):szP (tOf b c ls):=by
 have:=h.b1;have:=h.b6;have:=h.c2;have:=h.c6;refine⟨?_,?_,?_,h.n24⟩
 ·show 2<=((b+c:Nat):Int);omega
 ·show((b+c:Nat):Int)<=12;omega
 ·show(((sts b c).length:Nat):Int)=((b+c:Nat):Int);rw[zht]
theorem Dr.add{b c:Nat}{ls:List wT}(h:Dr b c ls){l:wT}(h24:ls.length≠24)(hl:im (tOf b c ls) l)(hj:∀o∈ls,¬ZX o l.1 l.2.1):Dr b c (ls++[l]):=by
 refine⟨h.b1,h.b6,h.c2,h.c6,by have:=h.n24;simp;omega,fun i l' hi=>?_⟩;have hi:(ls++[l])[i]?=some l':=hi;rcases zry i ls.length with h1 | h1
 ·rw[zqT h1]at hi;obtain⟨h2,h3⟩:=h.ok i l' hi;refine⟨h2,fun k o hk ho=>h3 k o hk ?_⟩;have ho:(ls++[l])[k]?=some o:=ho;rw[zqT (by omega)]at ho;exact ho
 ·have hil:i=ls.length:=by
   have:i < (ls++[l]).length:=by grind
   simp at this;omega
  subst hil;rw[zrd (FW _),ztx]at hi;simp at hi;subst hi;refine⟨hl,fun k o hk ho=>?_⟩;have ho:(ls++[l])[k]?=some o:=ho;grind
theorem sA(ls:List wT)(l:wT)(n:Nat):cnt (ls++[l]) n=cnt ls n+(one l.1 n+one l.2.1 n):=by unfold cnt;simp
theorem zhu{b c:Nat}{ls:List wT}{m n:Nat}{x y:Int}(hm:m < b+c)(hn:n < b+c)(hne:m≠n)(hs:m < b∨n < b)(x0:0<=x)(x1:x<=255)(y0:0<=y)(y1:y<=255) : im (tOf b c ls) ((m:Int),((n:Int),((wrF .i64 (1+(Int.tmod x 20))),(Int.tmod y 50)))):=by have ex:Int.tmod x 20=x % 20:=zqx x0;have ey:Int.tmod y 50=y % 50:=zqx y0;have ew:wrF .i64 (1+x % 20)=1+x % 20:=zU (by omega) (by omega);unfold im jW;rw[ex,ey,ew];simp only;refine⟨⟨by omega,by show(m:Int) < ((b+c:Nat):Int);omega⟩,⟨by omega,by show(n:Int) < ((b+c:Nat):Int);omega⟩,by omega,?_,by omega,by omega,by omega,by omega⟩;grind[zkW]
structure Jp(b c k s:Nat)(ls:List wT):Prop where
 ch:∀i,i < k->∃p d,ls[i]?=some ((i:Int),((i+1:Nat):Int),p,d)
 ho:∀i,i < s->∃(h:Nat) (p d:Int),ls[k+i]?=some (((b+i:Nat):Int),(h:Int),p,d)∧h < b
theorem Jp.app{b c k s:Nat}{ls:List wT}(h:Jp b c k s ls)(l:List wT):Jp b c k s (ls++l):=by
 refine⟨fun i hi=>?_,fun i hi=>?_⟩
 ·obtain⟨p,d,e⟩:=h.ch i hi;grind
 ·obtain⟨q,p,d,e,h2⟩:=h.ho i hi;grind
theorem OT{r:List Bool}{l:wT}{n:Nat}(h:r[n]?=some true):(stp r l)[n]?=some true:=by grind[stp,set]
theorem FM{n:Nat}:∀(ls:List wT) {r:List Bool},r[n]?=some true->(ls.foldl stp r)[n]?=some true
 |[],r,h=>h
 |l::ls,r,h=>FM ls (OT h)
theorem zb4{ls:List wT}{n:Nat}:∀(k:Nat) {r:List Bool},r[n]?=some true->(UD ls k r)[n]?=some true
 |0,r,h=>h
 |k+1,r,h=>zb4 k (FM ls h)
theorem zhv{r:List Bool}{l:wT}{m n:Nat}(hm:r[m]?=some true)(hn:n < r.length)(h:(l.1.toNat=m∧l.2.1.toNat=n)∨(l.1.toNat=n∧l.2.1.toNat=m)):(stp r l)[n]?=some true:=by grind[stp]
theorem zb5{ls:List wT}{i:Nat}{l:wT}(h:ls[i]?=some l)(r:List Bool):(ls.take (i+1)).foldl stp r=stp ((ls.take i).foldl stp r) l:=by rw[zrk,h,List.foldl_append];rfl
theorem zkX{b c:Nat}{ls:List wT}(hb:1<=b)(hc:1<=c)(h:Jp b c (b - 1) c ls)(n:Nat)(hn:n < b+c):(reachS (tOf b c ls) 0)[n]?=some true:=by
 have hN:(tOf b c ls).1.toNat=b+c:=by show(((b+c:Nat):Int)).toNat=_;omega
 unfold reachS;rw[hN];obtain⟨k,hk⟩:∃k,b+c=k+1:=⟨b+c - 1,by omega⟩;rw[show UD (tOf b c ls).2.2 (b+c)=UD ls (k+1) from by rw[hk];rfl];show(UD ls k (ls.foldl stp ((List.replicate (b+c) false).set 0 true)))[n]?=some true;refine zb4 k ?_;generalize hr:(List.replicate (b+c) false).set 0 true=r0;have hl:r0.length=b+c:=by rw[<-hr];simp
 have h00:r0[0]?=some true:=by rw[<-hr];exact List.getElem?_set_self (by rw[zsV];omega)
 have chain:∀i,i<=b - 1->∀j,j<=i->((ls.take i).foldl stp r0)[j]?=some true:=by
  intro i;induction i with
  |zero=>
       intro _ j hj;have:j=0:=by omega
       subst this;exact h00
  |succ i ih=>
   intro hi j hj;obtain⟨p,d,e⟩:=h.ch i (by omega);rw[zb5 e];rcases zry j (i+1)with h1 | h1
   ·exact OT (ih (by omega) j (by omega))
   ·have:j=i+1:=by omega
    subst this;exact zhv (m:=i) (ih (by omega) i (FW _)) (by rw[sw,hl];omega) (.inl ⟨by simp,by simp⟩)
 have home:∀i,i<=c->∀j,j < b+i->((ls.take (b - 1+i)).foldl stp r0)[j]?=some true:=by
  intro i;induction i with
  |zero=>intro _ j hj;exact chain (b - 1) (FW _) j (by omega)
  |succ i ih=>
   intro hi j hj;obtain⟨q,p,d,e,hq⟩:=h.ho i (by omega);rw[show b - 1+(i+1)=b - 1+i+1 from rfl,zb5 e];rcases zry j (b+i)with h1 | h1
   ·exact OT (ih (by omega) j h1)
   ·have:j=b+i:=by omega
    subst this;exact zhv (m:=q) (ih (by omega) q (by omega)) (by rw[sw,hl];omega) (.inr ⟨by show(((b+i:Nat):Int)).toNat=b+i;exact zqO _,by simp⟩)
 have:=home c (FW _) n hn;grind[stp,List.take_append_drop,FM]
theorem zf0{i:Nat}(h1:1<=i)(h:i<=1000000):wrF .i64 ((i:Int) - 1)=((i - 1:Nat):Int):=by rw[zU]<;>omega
theorem zf1(n:Nat):one (n:Int) n=1:=by grind[one]
theorem UJ{m n:Nat}(h:m≠n):one (m:Int) n=0:=by grind[one]
theorem zkY{b c:Nat}{ls:List wT}(h:Dr b c ls)(hb:Jp b c (b - 1) c ls)(hd:∀n,b<=n->n < b+c->1<=cnt ls n∧cnt ls n<=2):ya (tOf b c ls):=by
 have:=h.b1;have:=h.c2;refine⟨h.sz,h.ok,fun n hn=>zkX h.b1 (by omega) hb n ?_,fun n hn hs=>?_⟩
 ·have hn:(n:Int) < ((b+c:Nat):Int):=hn;omega
 ·have hn:(n:Int) < ((b+c:Nat):Int):=hn;rw[zkW (by omega)]at hs;exact hd n (zsP hs) (by omega)
theorem zjh{d:FJ}(hd:tdP d):∃b c ls,yW (d,())=some (tOf b c ls,())∧ya (tOf b c ls)∧1<=ls.length:=by
 obtain⟨d0,d1⟩:=hd.b;obtain⟨e0,e1⟩:=hd.s;have eb:wrF .i64 (1+wrF .i64 (Int.tmod d.1 6))=1+d.1 % 6:=by grind[Int.tmod_eq_emod_of_nonneg,zU]
 have ec:wrF .i64 (2+wrF .i64 (Int.tmod d.2.1 5))=2+d.2.1 % 5:=by grind[Int.tmod_eq_emod_of_nonneg,zU]
 obtain⟨b,hb,b1,b6⟩:∃b:Nat,1+d.1 % 6=(b:Int)∧1<=b∧b<=6:=⟨(1+d.1 % 6).toNat,by omega,by omega,by omega⟩;obtain⟨c,hc,c2,c6⟩:∃c:Nat,2+d.2.1 % 5=(c:Int)∧2<=c∧c<=6:=⟨(2+d.2.1 % 5).toNat,by omega,by omega,by omega⟩;rw[hb]at eb;rw[hc]at ec;suffices key:zt (yW (d,())) fun r=>∃ls,r.1=tOf b c ls∧ya (tOf b c ls)∧1<=ls.length by obtain⟨⟨t,⟨⟩⟩,e,ls,h1,h2,h3⟩:=key;grind
 have eN:wrF .i64 ((b:Int)+(c:Int))=((b+c:Nat):Int):=by rw[zU]<;>omega
 have bnz:zj (b:Int) 0=false:=jm (by omega);have dr0:Dr b c []:=⟨b1,b6,c2,c6,by simp,fun i l h=>by cases h⟩;rw[oi];unfold aU;simp only[eb,ec,eN];refine zk (J:=fun x=>x.2.2.1=(((b+c:Nat):Int),(sts b c,([],())))) (qb (b+c) (fun i s=>s=(((),((i:Int),())),((((b+c:Nat):Int),((sts b c).take i,([],()))),()))) (by omega) rfl ?_ ?_) ?_
 ·rintro i _ hi rfl;have hx:(sts b c)[i]?=some (decide (b<=i)):=by unfold sts;simp[hi]
  refine zf (zL (show(i:Int) < ((b+c:Nat):Int) by omega)) (zf (qF (by show(((sts b c).take i).length+1)*1<=_;simp;omega) (by show((sts b c).take i).length+1<=_;simp;omega)) (za (qn ?_)));grind[zg,decide,wO,decide_eq_true,decide_eq_false,wrF,sts,zQ,List.take_add_one]
 ·grind[zE,za,zw,sts,List.take_of_length_le,zht]
 rintro⟨j,⟨⟨⟩,w,⟨⟩⟩,⟨q,⟨⟩⟩⟩ hq;simp only at hq;subst hq;refine zk (J:=fun x=>x.2.1.1=d∧∃ls,x.2.2.1=(((b+c:Nat):Int),(sts b c,(ls,())))∧Dr b c ls∧Jp b c (b - 1) 0 ls∧ls.length=b - 1)
  (qb (b - 1) (fun i s=>∃ls,s=((d,((),(((i+1:Nat):Int),()))),((((b+c:Nat):Int),(sts b c,(ls,()))),()))∧Dr b c ls∧Jp b c i 0 ls∧ls.length=i) (by omega) ⟨[],rfl,dr0,⟨fun i h=>by omega,fun i h=>by omega⟩,rfl⟩ ?_ ?_) ?_
 ·rintro i _ hi ⟨ls,rfl,dr,ba,hl⟩;refine zf (zL (show((i+1:Nat):Int) < (b:Int) by omega)) ?_;have ep:wrF .i64 (((i+1:Nat):Int) - 1)=(i:Int):=by rw[zf0 (by omega) (by omega)];rfl
  have eq:wrF .i64 (((i+1:Nat):Int)+1)=((i+1+1:Nat):Int):=zQ (by omega);simp only[ep,eq];have links:∀o∈ls,¬ZX o (i:Int) ((i+1:Nat):Int):=by intro o ho hj;obtain⟨k,hk,hk2⟩:=uz ho;obtain⟨p,d',e⟩:=ba.ch k (by omega);grind[ZX]
  refine FK (t:=tOf b c ls) dr.sz (a:=(i:Int)) (b:=((i+1:Nat):Int)) hd.p hd.e rfl rfl ?_ ?_
  ·intro x y x0 x1 y0 y1 hbad;exfalso;rcases hbad with h | h | ⟨o,ho,hj⟩
   ·have h:ls.length=24:=h;omega
   ·exact h (zhu (m:=i) (n:=i+1) (by omega) (by omega) (by omega) (.inl (by omega)) x0 x1 y0 y1)
   ·exact links o ho hj
  ·intro x y x0 x1 y0 y1 h24 hlk hno;refine za (qn ⟨ls++[_],rfl,dr.add h24 hlk hno,⟨fun k hk=>?_,fun k hk=>by omega⟩,by simp[hl]⟩);rcases zry k i with h1 | h1
   ·exact(ba.app _).ch k h1
   grind
 ·grind[ls,zE,za,zw]
 rintro⟨j,⟨q,⟨⟩,w,⟨⟩⟩,⟨u,⟨⟩⟩⟩ ⟨hq,ls0,hu,dr,ba,hl⟩;simp only at hq hu;subst hq hu;have z0:∀n,b<=n->n < b+c->cnt ls0 n=0:=by
  intro n hn hn2;have key:∀k,k<=b - 1->cnt (ls0.take k) n=0:=by
   intro k;induction k with
   |zero=>intro _;simp[cnt]
   |succ k ih=>
    intro hk;obtain⟨p,d',e⟩:=ba.ch k (by omega);rw[zfY e,ih (by omega),UJ (show k≠n by omega),UJ (show k+1≠n by omega)];rfl
  have:=key (b - 1) (FW _);grind
 refine zk (J:=fun x=>x.2.1.1=q∧∃ls,x.2.2.1=(((b+c:Nat):Int),(sts b c,(ls,())))∧Dr b c ls∧Jp b c (b - 1) c ls∧ls.length=b - 1+c∧∀n,b<=n->n < b+c->cnt ls n=1)
  (qb c (fun i s=>∃ls,s=((q,((),((i:Int),()))),((((b+c:Nat):Int),(sts b c,(ls,()))),()))∧Dr b c ls∧Jp b c (b - 1) i ls∧ls.length=b - 1+i∧∀n,b<=n->n < b+c->cnt ls n=if n < b+i then 1 else 0) (by omega) ⟨ls0,rfl,dr,ba,by omega,fun n h1 h2=>by grind⟩ ?_ ?_) ?_
 ·rintro i _ hi ⟨ls,rfl,dr,ba,hl,hcn⟩;refine zf (zL (show(i:Int) < (c:Int) by omega)) ?_;have e2:wrF .i64 (2*(i:Int))=((2*i:Nat):Int):=by rw[zU]<;>omega
  have e3:wrF .i64 ((b:Int)+(i:Int))=((b+i:Nat):Int):=by rw[zU]<;>omega
  have eq:wrF .i64 ((i:Int)+1)=((i+1:Nat):Int):=zQ (by omega);obtain⟨x,ex,x0,x1⟩:=Xe hd.h (i:=((2*i:Nat):Int)) (by omega);simp only[e2,e3,eq,ex,zq,bnz,zqD];obtain⟨hh,ehh,hhb⟩:∃hh:Nat,Int.tmod x (b:Int)=(hh:Int)∧hh < b:=⟨(x % (b:Int)).toNat,by rw[zqx x0];have:=zrc x (show(b:Int)≠0 by omega);omega,by have:=zqV x (show 0 < (b:Int) by omega);omega⟩;simp only[ehh];have links:∀o∈ls,¬ZX o ((b+i:Nat):Int) (hh:Int):=by
   intro o ho hj;obtain⟨k,hk,hk2⟩:=uz ho;unfold ZX at hj;rcases zry k (b - 1)with h1 | h1
   ·obtain⟨p,d',e⟩:=ba.ch k h1;grind
   ·obtain⟨q',p,d',e,hqb⟩:=ba.ho (k - (b - 1)) (by omega);grind
  refine FK (t:=tOf b c ls) dr.sz (a:=((b+i:Nat):Int)) (b:=(hh:Int)) hd.p hd.e rfl rfl ?_ ?_
  ·intro x y x0 x1 y0 y1 hbad;exfalso;rcases hbad with h | h | ⟨o,ho,hj⟩
   ·have h:ls.length=24:=h;omega
   ·exact h (zhu (m:=b+i) (n:=hh) (by omega) (by omega) (by omega) (.inr hhb) x0 x1 y0 y1)
   ·exact links o ho hj
  ·intro x y x0 x1 y0 y1 h24 hlk hno;refine za (qn ⟨ls++[_],rfl,dr.add h24 hlk hno,⟨fun k hk=>(ba.app _).ch k hk,fun k hk=>?_⟩,by simp[hl];omega,fun n h1 h2=>?_⟩)
   ·rcases zry k i with h1 | h1
    ·exact(ba.app _).ho k h1
    grind
   ·rw[sA,hcn n h1 h2];simp only;rw[UJ (show hh≠n by omega)];by_cases h:n=b+i
    ·grind[zf1]
    ·rw[UJ (show b+i≠n by omega)];omega
 ·grind[ls,zE,za,zw]
 clear dr ba hl z0;rintro⟨j,⟨q',⟨⟩,w',⟨⟩⟩,⟨u,⟨⟩⟩⟩ ⟨hq,ls0,hu,dr,ba,hl,hcn⟩;simp only at hq hu;subst hq hu;refine zk (J:=fun x=>x.2.1.1=q'∧∃ls,x.2.2.1=(((b+c:Nat):Int),(sts b c,(ls,())))∧Dr b c ls∧Jp b c (b - 1) c ls∧ls.length<=b+c∧∀n,b<=n->n < b+c->cnt ls n=1) ?_ ?_
 ·have keep:zt (some ((0:Nat),((q',((),())),((((b+c:Nat):Int),(sts b c,(ls0,()))),())))) fun x=>x.2.1.1=q'∧∃ls,x.2.2.1=(((b+c:Nat):Int),(sts b c,(ls,())))∧Dr b c ls∧Jp b c (b - 1) c ls∧ls.length<=b+c∧∀n,b<=n->n < b+c->cnt ls n=1:=
   za ⟨rfl,ls0,rfl,dr,ba,by omega,hcn⟩
  refine zd (fun hb2=>zd (fun _=>?_) (fun _=>keep)) (fun _=>keep);have hb2:=zZ hb2;have ep:wrF .i64 ((b:Int) - 1)=((b - 1:Nat):Int):=zf0 (by omega) (by omega);simp only[ep];refine FK (t:=tOf b c ls0) dr.sz (a:=((b - 1:Nat):Int)) (b:=0) hd.p hd.e rfl rfl (fun x y x0 x1 y0 y1 _=>keep) ?_;intro x y x0 x1 y0 y1 h24 hlk hno;refine za ⟨rfl,ls0++[_],rfl,dr.add h24 hlk hno,ba.app _,by simp;omega,fun n h1 h2=>?_⟩;grind[sA,UJ,one]
 clear dr ba hl hcn;rintro⟨j,⟨q,⟨⟩,⟨⟩⟩,⟨u,⟨⟩⟩⟩ ⟨hq,ls0,hu,dr,ba,hl,hcn⟩;simp only at hq hu;subst hq hu;refine zk (J:=fun x=>x.2.1.1=q∧∃ls,x.2.2.1=(((b+c:Nat):Int),(sts b c,(ls,())))∧Dr b c ls∧Jp b c (b - 1) c ls∧∀n,b<=n->n < b+c->1<=cnt ls n∧cnt ls n<=2)
  (qb c (fun i s=>∃ls,s=((q,((),((i:Int),()))),((((b+c:Nat):Int),(sts b c,(ls,()))),()))∧Dr b c ls∧Jp b c (b - 1) c ls∧∀n,b<=n->n < b+c->1<=cnt ls n∧cnt ls n<=if n < b+i then 2 else 1) (by omega) ⟨ls0,rfl,dr,ba,fun n h1 h2=>by grind⟩ ?_ ?_) ?_
 ·rintro i _ hi ⟨ls,rfl,dr,ba,hcn⟩;refine zf (zL (show(i:Int) < (c:Int) by omega)) ?_;have e2:wrF .i64 ((wrF .i64 (2*(i:Int)))+1)=((2*i+1:Nat):Int):=by grind[zU]
  have e3:wrF .i64 ((b:Int)+(i:Int))=((b+i:Nat):Int):=by rw[zU]<;>omega
  have eq:wrF .i64 ((i:Int)+1)=((i+1:Nat):Int):=zQ (by omega);obtain⟨x,ex,x0,x1⟩:=Xe hd.h (i:=((2*i+1:Nat):Int)) (by omega);simp only[e2,e3,eq,ex,zq,bnz,zqD];obtain⟨hh,ehh,hhb⟩:∃hh:Nat,Int.tmod x (b:Int)=(hh:Int)∧hh < b:=⟨(x % (b:Int)).toNat,by rw[zqx x0];have:=zrc x (show(b:Int)≠0 by omega);omega,by have:=zqV x (show 0 < (b:Int) by omega);omega⟩;simp only[ehh];refine zk (J:=fun x=>x.2.1.1=q∧∃ls,x.2.2.1=(((b+c:Nat):Int),(sts b c,(ls,())))∧Dr b c ls∧Jp b c (b - 1) c ls∧∀n,b<=n->n < b+c->1<=cnt ls n∧cnt ls n<=if n < b+(i+1)then 2 else 1) ?_ ?_
  ·have keep:zt (some ((0:Nat),((q,((),())),((((b+c:Nat):Int),(sts b c,(ls,()))),())))) fun x=>x.2.1.1=q∧∃ls,x.2.2.1=(((b+c:Nat):Int),(sts b c,(ls,())))∧Dr b c ls∧Jp b c (b - 1) c ls∧∀n,b<=n->n < b+c->1<=cnt ls n∧cnt ls n<=if n < b+(i+1)then 2 else 1:=
    za ⟨rfl,ls,rfl,dr,ba,fun n h1 h2=>by
     grind⟩
   refine zd (fun _=>?_) (fun _=>keep);refine FK (t:=tOf b c ls) dr.sz (a:=((b+i:Nat):Int)) (b:=(hh:Int)) hd.p hd.e rfl rfl (fun x y x0 x1 y0 y1 _=>keep) ?_;intro x y x0 x1 y0 y1 h24 hlk hno;refine za ⟨rfl,ls++[_],rfl,dr.add h24 hlk hno,ba.app _,fun n h1 h2=>?_⟩;have h3:=hcn n h1 h2;rw[sA];simp only;rw[UJ (show hh≠n by omega)];by_cases h:n=b+i
   ·grind[zf1]
   ·rw[UJ (show b+i≠n by omega)];omega
  ·rintro⟨j,⟨q',⟨⟩,⟨⟩⟩,⟨u,⟨⟩⟩⟩ ⟨hq,ls',hu,dr,ba,hcn⟩;grind[za,qn]
 ·grind[ls,zE,za,zw]
 clear dr ba hl hcn;rintro⟨j,⟨q',⟨⟩,w',⟨⟩⟩,⟨u,⟨⟩⟩⟩ ⟨hq,ls0,hu,dr,ba,hcn⟩;simp only at hq hu;subst hq hu;refine zk (J:=fun x=>∃ls,x.2.2.1=(((b+c:Nat):Int),(sts b c,(ls,())))∧Dr b c ls∧Jp b c (b - 1) c ls∧∀n,b<=n->n < b+c->1<=cnt ls n∧cnt ls n<=2)
  (aS (fun s=>∃(i:Nat) (ls:List wT),s=((q',((),((i:Int),()))),((((b+c:Nat):Int),(sts b c,(ls,()))),()))∧i<=13∧Dr b c ls∧Jp b c (b - 1) c ls∧∀n,b<=n->n < b+c->1<=cnt ls n∧cnt ls n<=2) _ (fun s=>20 - s.1.2.2.1.toNat) ⟨0,ls0,rfl,by omega,dr,ba,hcn⟩ (by omega) ?_) ?_
 ·rintro _ ⟨i,ls,rfl,hi13,dr,ba,hcn⟩;have eq:wrF .i64 ((i:Int)+1)=((i+1:Nat):Int):=zQ (by omega);have eq2:wrF .i64 ((i:Int)+2)=((i+2:Nat):Int):=by rw[zU]<;>omega
  simp only[eq,eq2,bnz,zqD];have out:zt (some (.inl ((0:Nat),((q',((),((i:Int),()))),((((b+c:Nat):Int),(sts b c,(ls,()))),()))):(Nat×(((FJ)×(Unit×(Int×Unit)))×((Int×(List Bool×(List wT×Unit)))×Unit))) ⊕ (((FJ)×(Unit×(Int×Unit)))×((Int×(List Bool×(List wT×Unit)))×Unit)))) (Round (fun s=>∃(i:Nat) (ls:List wT),s=((q',((),((i:Int),()))),((((b+c:Nat):Int),(sts b c,(ls,()))),()))∧i<=13∧Dr b c ls∧Jp b c (b - 1) c ls∧∀n,b<=n->n < b+c->1<=cnt ls n∧cnt ls n<=2) (fun x=>∃ls,x.2.2.1=(((b+c:Nat):Int),(sts b c,(ls,())))∧Dr b c ls∧Jp b c (b - 1) c ls∧∀n,b<=n->n < b+c->1<=cnt ls n∧cnt ls n<=2) (fun s=>20 - s.1.2.2.1.toNat) ((q',((),((i:Int),()))),((((b+c:Nat):Int),(sts b c,(ls,()))),()))):=
   za (Yk ⟨ls,rfl,dr,ba,hcn⟩)
  refine zd (fun h1=>zd (fun h2=>?_) (fun _=>out)) (fun _=>out);have h1:=zZ h1;have h2:=zZ (show zg (i:Int) 12=true from h2);have hx:q'.2.2.1[i]?=some (q'.2.2.1[i]'(by omega)):=FL (by omega);have hy:q'.2.2.1[i+1]?=some (q'.2.2.1[i+1]'(by omega)):=FL (by omega);have bx:=hd.c _ (zqq (show i < q'.2.2.1.length by omega));have hyb:=hd.c _ (zqq (show i+1 < q'.2.2.1.length by omega));generalize (q'.2.2.1[i]'(by omega))=x at hx bx;generalize (q'.2.2.1[i+1]'(by omega))=y at hy hyb;refine zb (zm (n:=i) hx (zb (zm (n:=i+1) hy ?_)));have ex:wrF .i64 x=x:=zU (by omega) (by omega);have ey:wrF .i64 y=y:=zU (by omega) (by omega);simp only[ex,ey];obtain⟨m,em,hmb⟩:∃hh:Nat,Int.tmod x (b:Int)=(hh:Int)∧hh < b:=⟨(x % (b:Int)).toNat,by rw[zqx bx.1];have:=zrc x (show(b:Int)≠0 by omega);omega,by have:=zqV x (show 0 < (b:Int) by omega);omega⟩;obtain⟨n,en,hnb⟩:∃hh:Nat,Int.tmod y (b:Int)=(hh:Int)∧hh < b:=⟨(y % (b:Int)).toNat,by rw[zqx hyb.1];have:=zrc y (show(b:Int)≠0 by omega);omega,by have:=zqV y (show 0 < (b:Int) by omega);omega⟩;simp only[em,en];refine FK (t:=tOf b c ls) dr.sz (a:=(m:Int)) (b:=(n:Int)) hd.p hd.e rfl rfl (fun x y x0 x1 y0 y1 _=>?_) ?_
  ·refine za (GK ⟨i+2,ls,rfl,by omega,dr,ba,hcn⟩ ?_);grind
  ·intro x y x0 x1 y0 y1 h24 hlk hno;refine za (GK ⟨i+2,ls++[_],rfl,by omega,dr.add h24 hlk hno,ba.app _,fun k h1 h2=>?_⟩ ?_)
   ·rw[sA];simp only;rw[UJ (show m≠k by omega),UJ (show n≠k by omega)];have:=hcn k h1 h2;omega
   grind
 ·rintro⟨j,⟨q,⟨⟩,w',⟨⟩⟩,⟨u,⟨⟩⟩⟩ ⟨ls,hu,dr,ba,hcn⟩;simp only at hu;subst hu;refine za ⟨ls,rfl,zkY dr ba hcn,?_⟩;obtain⟨h,p,d',e,_⟩:=ba.ho 0 (by omega);grind
def QF(t:qT)(n:Int):List Int:=((List.range (2*t.2.2.length)).map fun(p:Nat)=>(p:Int)).filter fun p=>frm t p == n
theorem zb6(t:qT)(n:Int):∀p∈QF t n,yx t p:=by intro p hp;unfold QF at hp;obtain⟨k,hk,rfl⟩:=zrQ.1 (zty.1 hp).1;have:=List.mem_range.1 hk;exact⟨by omega,by omega⟩
theorem To(t:qT)(n:Int):(QF t n).length<=2*t.2.2.length:=by grind[QF,List.length_filter_le,frm,List.range]
theorem WJ{t:qT}(hl:t.2.2.length<=24)(n:Int):kr (t,n,())=some (QF t n,()):=by
 have hll:t.2.2.length<=1000000000000000:=by omega
 rw[Ni];unfold sY;rw[tw t hll];refine Zb (zk (J:=fun x=>x.2.2.1=QF t n) (qb (2*t.2.2.length) (fun i s=>s=(((i:Int),()),((((List.range i).map fun(p:Nat)=>(p:Int)).filter fun p=>frm t p == n),()))) (by omega) rfl ?_ ?_) ?_)
 ·rintro i _ hi rfl;have hp:yx t (i:Int):=⟨by omega,by omega⟩;refine zf (zL (show(i:Int) < 2*(t.2.2.length:Int) by omega)) ?_;have e:((List.range (i+1)).map fun(p:Nat)=>(p:Int)).filter (fun p=>frm t p == n)=(((List.range i).map fun(p:Nat)=>(p:Int)).filter fun p=>frm t p == n)++(if frm t (i:Int) == n then[(i:Int)]else[]):=by rw[List.range_succ,zrJ,ztk];congr 1;simp only[zrG,ztu,List.filter_cons,List.filter_nil]
  have hlen:(((List.range i).map fun(p:Nat)=>(p:Int)).filter fun p=>frm t p == n).length<=i:=by have:=zrf (fun p=>frm t p == n) ((List.range i).map fun(p:Nat)=>(p:Int));simpa using this
  rw[ux hll hp];refine zk (J:=fun x=>x.2.2.1=(((List.range (i+1)).map fun(p:Nat)=>(p:Int)).filter fun p=>frm t p == n)) ?_ ?_
  ·rw[e];refine zd (fun h=>?_) (fun h=>?_)
   ·have h:=ql h;refine zf (qF (zqw (zrD 8 (Nat.add_le_add_right hlen 1)) (by omega)) (zqw (Nat.add_le_add_right hlen 1) (by omega))) (za ?_);rw[zqI (by simpa using h)]
   ·have h:=qt h;refine za ?_;rw[zqu (by simpa using h),zri]
  ·rintro⟨j,⟨⟩,c,⟨⟩⟩ hc;simp only at hc;subst hc;exact za (qn (zqR (fun z=>((z,()),(_,()))) (zQ (by omega))))
 ·rintro _ rfl;exact zi (zE (show ¬((2*t.2.2.length:Nat):Int) < 2*(t.2.2.length:Int) by omega)) (za (zw rfl))
 grind[za]
noncomputable def Zi (t:qT) (ps seen:List Int):List Int:=ps.filter fun p=>!tv (too t p∈seen)
theorem mF{t:qT}(hll:t.2.2.length<=24){ps seen:List Int}(hps:∀p∈ps,yx t p)(hpl:ps.length<=48)(hsl:seen.length<=100){B:((Int×Unit)×((List Int)×((List Int)×Unit)))->Option ((Nat×((Int×Unit)×((List Int)×((List Int)×Unit)))) ⊕ ((Int×Unit)×((List Int)×((List Int)×Unit))))}(hB:B=fun s2=>bif(zg (s2.1.1) ((((ps).length:Nat):Int)))then opt (opt (atI (ps) (s2.1.1)) fun x3=>opt (jQ ((t,(x3,())))) fun x4=>opt (vB ((s2.2.1,(x4.1,())))) fun x5=>bif(!x5.1)then opt (atI (ps) (s2.1.1)) fun x6=>bif(zX ((s2.2.2.1).length) (((x6::[])).length) (8))then some (0,((),(s2.2.1,((s2.2.2.1++(x6::[])),()))))else none else some (0,((),(s2.2.1,(s2.2.2.1,()))))) fun x7=>some (.inr (((wrF .i64 ((s2.1.1+1))),()),(x7.2.2.1,(x7.2.2.2.1,()))))else some (.inl (0,((s2.1.1,()),(s2.2.1,(s2.2.2.1,())))))) : zt (zJ B zR ((0,()),(seen,([],())))) fun x=>x.2.2.1=seen∧x.2.2.2.1=Zi t ps seen:=by
 have hl2:t.2.2.length<=1000000000000000:=by omega
 subst hB;refine qb ps.length (fun i s=>s=(((i:Int),()),(seen,(Zi t (ps.take i) seen,())))) (by omega) rfl ?_ ?_
 ·rintro i _ hi rfl;have hx:ps[i]?=some ps[i]:=FL hi;have hp:=hps _ (zqq hi);generalize ps[i]=p at hx hp;have hlen:(Zi t (ps.take i) seen).length<=48:=by unfold Zi;have:=zrf (fun p=>!tv (too t p∈seen)) (ps.take i);simp only[zsh]at this;omega
  have e:Zi t (ps.take (i+1)) seen=Zi t (ps.take i) seen++(if(!tv (too t p∈seen))=true then[p]else[]):=by unfold Zi;rw[zrk,hx,ztk];congr 1;simp only[Option.toList,List.filter_cons,List.filter_nil]
  refine zf (zL (show(i:Int) < (ps.length:Int) by omega)) (zk (J:=fun x=>x.2.2.1=seen∧x.2.2.2.1=Zi t (ps.take (i+1)) seen) ?_ ?_)
  ·refine zb (zm (n:=i) hx ?_);rw[uS hl2 hp,zq,UF (by show seen.length<=_;omega),zq,e];refine zd (fun h=>?_) (fun h=>?_)
   ·refine zb (zm (n:=i) hx (zf (qF (by show((Zi t (ps.take i) seen).length+1)*8<=_;omega) (by show(Zi t (ps.take i) seen).length+1<=_;omega)) (za ⟨rfl,?_⟩)));rw[zqI h]
   ·refine za ⟨rfl,?_⟩;have h:(!tv (too t p∈seen))=false:=h;rw[h,zqu (by simp),zri]
  ·rintro⟨j,⟨⟩,c,c2,⟨⟩⟩ ⟨h1,h2⟩;simp only at h1 h2;subst h1 h2;exact za (qn (zqR (fun z=>((z,()),_)) (zQ (by omega))))
 grind[zE,za,zw,Zi,List.take_length]
theorem zkZ{t:qT}(ht:ya t){a k:Int}(a0:0<=a)(a1:a<=255)(k0:0<=k)(k1:k<=255):∃r,gQ (t,a,k,())=some (r,()):=by
 have n0:=ht.sz.n0;have n1:=ht.sz.n1;have hls:=ht.sz.ls;have hll:t.2.2.length<=1000000000000000:=by omega
 suffices key:zt (gQ (t,a,k,())) fun _=>True by obtain⟨⟨r,⟨⟩⟩,e,_⟩:=key;exact⟨r,e⟩
 have ew:wrF .i64 a=a:=zU (by omega) (by omega);have em:Int.tmod a t.1=a % t.1:=zqx a0;have m0:=zrc a (show t.1≠0 by omega);have m1:=zqV a (show 0 < t.1 by omega);rw[RF];unfold DX;rw[ew,em];refine zi (jm (show t.1≠0 by omega)) ?_;have stop:∀(r:Option Int) (at_:Int) (out seen:List Int),True:=fun _ _ _ _=>trivial;refine zk (J:=fun s=>∃r at_ out seen,s=((t,(r,(at_,()))),(out,(seen,())))∧jW t at_∧out.length<=8∧seen.length=out.length+1∧(8<=out.length∨(out≠[]∧stn t at_=true)∨Zi t (QF t at_) seen=[]))
  (aS (fun s=>∃r at_ out seen,s=((t,(r,(at_,()))),(out,(seen,())))∧jW t at_∧out.length<=8∧seen.length=out.length+1) _ (fun s=>20 - s.2.1.length) ⟨[],a % t.1,[],[a % t.1],rfl,⟨m0,m1⟩,by simp,rfl⟩ (by omega) ?_) ?_
 ·rintro _ ⟨r,at_,out,seen,rfl,hn,ho,hs⟩;have hpl:=To t at_;have hpo:=zb6 t at_;have fin:(8<=out.length∨(out≠[]∧stn t at_=true)∨Zi t (QF t at_) seen=[])->zt (some (.inl ((t,(r,(at_,()))),(out,(seen,()))):((qT×((List Int)×(Int×Unit)))×((List Int)×((List Int)×Unit))) ⊕ ((qT×((List Int)×(Int×Unit)))×((List Int)×((List Int)×Unit))))) (Round (fun s=>∃r at_ out seen,s=((t,(r,(at_,()))),(out,(seen,())))∧jW t at_∧out.length<=8∧seen.length=out.length+1) (fun s=>∃r at_ out seen,s=((t,(r,(at_,()))),(out,(seen,())))∧jW t at_∧out.length<=8∧seen.length=out.length+1∧(8<=out.length∨(out≠[]∧stn t at_=true)∨Zi t (QF t at_) seen=[])) (fun s=>20 - s.2.1.length) ((t,(r,(at_,()))),(out,(seen,())))):=fun h=>
   za (Yk ⟨r,at_,out,seen,rfl,hn,ho,hs,h⟩)
  have step:out.length < 8->∀(seen' nx:List Int),seen'=seen->nx=Zi t (QF t at_) seen->zt (bif(zj ((((nx).length:Nat):Int)) (0))then some (.inl ((t,(r,(at_,()))),(out,(seen,()))))
     else bif(zj ((((nx).length:Nat):Int)) (0))then none
      else opt (atI (nx) ((Int.tmod (wrF .i64 (((wrF .i64 (k))+(wrF .i64 ((3*(((out).length:Nat):Int))))))) (((nx).length:Nat):Int)))) fun x9=>
       opt (gl (nx) ((Int.toNat (Int.tmod (wrF .i64 (((wrF .i64 (k))+(wrF .i64 ((3*(((out).length:Nat):Int))))))) (((nx).length:Nat):Int))))) fun x10=>
       bif(zX ((out).length) (((x10::[])).length) (8))then opt (jQ ((t,(x10,())))) fun x11=>
        bif(zX ((seen').length) (((x11.1::[])).length) (8))then some (.inr ((t,(r,(x11.1,()))),((out++(x10::[])),((seen'++(x11.1::[])),()))))
        else none
       else none) (Round (fun s=>∃r at_ out seen,s=((t,(r,(at_,()))),(out,(seen,())))∧jW t at_∧out.length<=8∧seen.length=out.length+1) (fun s=>∃r at_ out seen,s=((t,(r,(at_,()))),(out,(seen,())))∧jW t at_∧out.length<=8∧seen.length=out.length+1∧(8<=out.length∨(out≠[]∧stn t at_=true)∨Zi t (QF t at_) seen=[])) (fun s=>20 - s.2.1.length) ((t,(r,(at_,()))),(out,(seen,())))):=by
   intro h8 seen' nx e1 e2
   subst e1
   refine zd (fun h=>fin (.inr (.inr ?_))) (fun h=>?_)
   ·have h:=ql h
    rw[<-e2];exact zrh.1 (by omega)
   have hz:(nx.length:Int)≠0:=qt h
   have ek:wrF .i64 k=k:=zU (by omega) (by omega)
   have e3:wrF .i64 (3*(out.length:Int))=3*(out.length:Int):=zU (by omega) (by omega)
   have e4:wrF .i64 (k+3*(out.length:Int))=k+3*(out.length:Int):=zU (by omega) (by omega)
   rw[ek,e3,e4,zqx (by omega)]
   have i0:=zrc (k+3*(out.length:Int)) hz
   have i1:=zqV (k+3*(out.length:Int)) (show 0 < (nx.length:Int) by omega)
   refine zi (jm hz) (zb (wJ i0 i1 fun _ _=>zb (jM (by omega) fun p hp=>?_)))
   have hpt:yx t p:=by have:=zqy hp;rw[e2]at this;exact hpo p (zty.1 this).1
   refine zf (qF (by show(out.length+1)*8<=_;omega) (by show out.length+1<=_;omega)) ?_
   rw[uS hll hpt,zq]
   refine zf (qF (by show(seen'.length+1)*8<=_;omega) (by show seen'.length+1<=_;omega)) (za (GK ⟨r,too t p,out++[p],seen'++[too t p],rfl,(iu ht.ls hpt).2.1,by simp;omega,by simp;omega⟩ ?_))
   grind
  refine zd (fun h8=>?_) (fun h8=>fin (.inl ?_));rotate_left
  ·have h8:(8:Int)<=(out.length:Int):=zP h8;omega
  have h8:(out.length:Int) < 8:=zZ h8;refine zd (fun hz=>?_) (fun hz=>?_)
  ·rw[WJ hls,zq];refine zk (mF hls hpo (by omega) (by show seen.length<=_;omega) rfl) ?_;grind
  ·have hz:(out.length:Int)≠0:=qt hz;refine zb (jR (a:=stn t at_) (by show atI t.2.1 at_=_;rw[show at_=((at_.toNat:Nat):Int) from(by have:=hn.1;omega),gz (n:=at_.toNat)];exact hn.get ht.sz) ?_);refine zd (fun hst=>?_) (fun hst=>fin (.inr (.inl ⟨fun e=>?_,by simpa using hst⟩)))
   ·rw[WJ hls,zq];refine zk (mF hls hpo (by omega) (by show seen.length<=_;omega) rfl) ?_;rintro⟨j,⟨z,⟨⟩⟩,c,c2,⟨⟩⟩ ⟨h1,h2⟩;exact step (by omega) c c2 h1 h2
   grind
 ·rintro _ ⟨r,at_,out,seen,rfl,hn,ho,hs,hstop⟩;have hpl:=To t at_;have hpo:=zb6 t at_;refine zd (fun h8=>?_) (fun _=>za trivial);have h8:(out.length:Int) < 8:=zZ h8;refine zd (fun hz=>?_) (fun hz=>?_)
  ·have hz:(out.length:Int)=0:=ql hz;have hnx:Zi t (QF t at_) seen=[]:=by
    rcases hstop with h | ⟨h,_⟩ | h
    ·omega
    ·exact absurd (zrh.1 (by omega)) h
    ·exact h
   rw[WJ hls,zq];grind[zk,mF,za]
  ·refine zb (jR (a:=stn t at_) (by show atI t.2.1 at_=_;rw[show at_=((at_.toNat:Nat):Int) from(by have:=hn.1;omega),gz (n:=at_.toNat)];exact hn.get ht.sz) ?_);refine zd (fun hst=>?_) (fun _=>za trivial);have hnx:Zi t (QF t at_) seen=[]:=by grind
   rw[WJ hls,zq];refine zk (mF hls hpo (by omega) (by grind) rfl) ?_;rintro⟨j,⟨z,⟨⟩⟩,c,c2,⟨⟩⟩ ⟨h1,h2⟩;simp only at h1 h2;rw[hnx]at h2;subst h2;exact zf rfl (za trivial)
theorem zdI(z:Int):0<=wrF .u8 z∧wrF .u8 z<=255:=by rw[ZB,IntKind.wrap_u8];omega
theorem zf2{t:qT}(hs:szP t){n:Int}(hn:jW t n):atI t.2.1 n=some (stn t n):=by
 have e:n=((n.toNat:Nat):Int):=by have:=hn.1;omega
 rw[e,gz (n:=n.toNat)];rw[<-e];exact hn.get hs
theorem zb7{α:Type}{l:List α}(h:1<=l.length):dQ l=true:=by
 cases l with
 |nil=>simp at h
 |cons a b=>rfl
theorem zk0{t:qT}(ht:ya t)(nd w:Int){B:(((Int×((List Bool)×(List (Int×(Int×(Int×Int))))))×((List Int)×(Int×Unit)))×Unit)->Option ((Nat×(((Int×((List Bool)×(List (Int×(Int×(Int×Int))))))×((List Int)×(Int×Unit)))×Unit)) ⊕ (((Int×((List Bool)×(List (Int×(Int×(Int×Int))))))×((List Int)×(Int×Unit)))×Unit))}(hB:B=fun s3:(((Int×((List Bool)×(List (Int×(Int×(Int×Int))))))×((List Int)×(Int×Unit)))×Unit)=>bif(zg (s3.1.2.2.1) (16))then opt (gQ ((s3.1.1,((wrF .u8 (nd)),((wrF .u8 ((w+(wrF .u8 (s3.1.2.2.1))))),()))))) fun x4=>opt (bif(zg (0) ((((x4.1).length:Nat):Int)))then opt (ku ((s3.1.1,(x4.1,())))) fun x5=>bif x5.1 then opt (atI (x4.1) (0)) fun x6=>opt (yg ((s3.1.1,(x6,())))) fun x7=>opt (atI (s3.1.1.2.1) (x7.1)) fun x8=>bif x8 then opt (atI (x4.1) ((wrF .i64 (((((x4.1).length:Nat):Int) - 1))))) fun x9=>opt (jQ ((s3.1.1,(x9,())))) fun x10=>opt (atI (s3.1.1.2.1) (x10.1)) fun x11=>bif x11 then some (1,((x4.1,()),()))else some (0,((s3.1.2.1,()),()))else some (0,((s3.1.2.1,()),()))else some (0,((s3.1.2.1,()),()))else some (0,((s3.1.2.1,()),()))) fun x12=>bif(Nat.beq x12.1 0)then some (.inr ((s3.1.1,(x12.2.1.1,((wrF .i64 ((s3.1.2.2.1+1))),()))),()))else some (.inl (1,((s3.1.1,(x12.2.1.1,(s3.1.2.2.1,()))),())))else some (.inl (0,((s3.1.1,(s3.1.2.1,(s3.1.2.2.1,()))),())))) : zt (zJ B zR ((t,([],(0,()))),())) fun x=>x.1=0∨(x.1=1∧xb t x.2.1.2.1):=by
 have hll:t.2.2.length<=1000000000000000:=ht.ll;subst hB;refine qb 16 (fun i s=>s=((t,([],((i:Int),()))),())) (by omega) rfl ?_ ?_
 ·rintro i _ hi rfl;refine zf (zL (show(i:Int) < 16 by omega)) ?_;obtain⟨r,hr⟩:=zkZ ht (zdI nd).1 (zdI nd).2 (zdI (w+wrF .u8 (i:Int))).1 (zdI (w+wrF .u8 (i:Int))).2;rw[hr,zq];refine zk (J:=fun x=>(x.1=0∧x.2.1.1=[])∨(x.1=1∧xb t x.2.1.1)) ?_ ?_
  ·have stay:zt (some ((0:Nat),((([]:List Int),()),()))) (fun x=>(x.1=0∧x.2.1.1=[])∨(x.1=1∧xb t x.2.1.1)):=za (.inl ⟨rfl,rfl⟩);refine zd (fun h=>?_) (fun h=>stay);have h:=zZ h;rw[mw ht,zq];refine zd (fun hv=>?_) (fun _=>stay);have hv:xb t r:=aE hv;have r0:=hv.n0;have r1:=hv.n1;refine zb (wJ (by omega) (by show(0:Int) < (r.length:Int);omega) fun p hp=>?_);have hpp:yx t p:=hv.pt p (zqy hp);rw[ux hll hpp,zq];refine zb (jR (zf2 ht.sz (iu ht.ls hpp).1) ?_);refine zd (fun _=>?_) (fun _=>stay);have e:wrF .i64 ((r.length:Int) - 1)=(r.length:Int) - 1:=zU (by omega) (by omega);rw[e];refine zb (wJ (by omega) (by show(r.length:Int) - 1 < (r.length:Int);omega) fun q hq=>?_);have hqp:yx t q:=hv.pt q (zqy hq);rw[uS hll hqp,zq];refine zb (jR (zf2 ht.sz (iu ht.ls hqp).2.1) ?_);exact zd (fun _=>za (.inr ⟨rfl,hv⟩)) (fun _=>stay)
  ·rintro⟨n,⟨r',⟨⟩⟩,⟨⟩⟩ (⟨h1,h2⟩ | ⟨h1,h2⟩)
   ·simp only at h1 h2;subst h1 h2;exact zf rfl (za (qn (zqR (fun z=>((t,([],(z,()))),())) (zQ (by omega)))))
   ·simp only at h1 h2;subst h1;exact zi rfl (za (zw (.inr ⟨rfl,h2⟩)))
 grind[zE,za,zw]
abbrev iy:=Bool×Bool×Int×Int×Int×Int×Int×Int
def sdP(d:iy):Prop:=(0<=d.2.2.1∧d.2.2.1<=255)∧(0<=d.2.2.2.2.2.1∧d.2.2.2.2.2.1<=255)
theorem zgT{t:qT}(ht:ya t){d:iy}(hd:sdP d)(id:Int):∃s b,xp (d,t,id,())=some (s,b,()):=by
 have hll:t.2.2.length<=1000000000000000:=ht.ll;have n0:=ht.sz.n0;have n1:=ht.sz.n1;obtain⟨⟨d0,d1⟩,d2,d3⟩:=hd;suffices key:zt (xp (d,t,id,())) fun _=>True by obtain⟨⟨s,b,⟨⟩⟩,e,_⟩:=key;exact⟨s,b,e⟩
 have m0:=zrc d.2.2.1 (show t.1≠0 by omega);have m1:=zqV d.2.2.1 (show 0 < t.1 by omega);have ew:wrF .i64 d.2.2.1=d.2.2.1:=zU (by omega) (by omega);rw[iE];unfold KN;rw[ew,zqx d0];refine zi (jm (show t.1≠0 by omega)) ?_;refine zk (J:=fun _=>True) (qb t.1.toNat (fun i s=>∃n,jW t n∧s=((n,((i:Int),())),())) (by omega) ⟨_,⟨m0,m1⟩,rfl⟩ ?_ ?_) ?_
 ·rintro i _ hi ⟨n,hn,rfl⟩;have:=hn.1;have:=hn.2;refine zf (zL (show(i:Int) < t.1 by omega)) (zb (jR (zf2 ht.sz hn) ?_));refine zd (fun _=>?_) (fun _=>za (zw trivial));refine zi (jm (show t.1≠0 by omega)) (za (qn ⟨(n+1) % t.1,⟨zrc _ (by omega),zqV _ (by omega)⟩,?_⟩));grind[wrF,zU,Int.tmod,Int.tmod_eq_emod_of_nonneg,zQ]
 ·grind[zE,za,zw]
 rintro x2 -;refine zk (zk0 ht x2.2.1.1 d.2.2.2.1 rfl) ?_;rintro⟨k,⟨tt,r,z,⟨⟩⟩,⟨⟩⟩ h;rcases h with h | ⟨h,hr⟩
 ·grind[Nat.beq,za]
 have hr:xb t r:=hr;have r0:=hr.n0;have r1:=hr.n1;have er:wrF .i64 ((r.length:Int) - 1)=(r.length:Int) - 1:=zU (by omega) (by omega);refine zi (by grind[Nat.beq]) (zf (zb7 r0) ?_);refine zb (wJ (by omega) (by grind) fun p hp=>?_);have hpp:yx t p:=hr.pt p (zqy hp);rw[ux hll hpp,zq,er];refine zb (wJ (by omega) (by grind) fun q hq=>?_);have hqp:yx t q:=hr.pt q (zqy hq);rw[uS hll hqp,zq];refine zk (J:=fun _=>True) ?_ ?_
 ·refine zd (fun _=>za trivial) (fun _=>?_);have p0:=zrc d.2.2.2.2.2.1 (show(10:Int)≠0 by omega);have p1:=zqV d.2.2.2.2.2.1 (show 0 < (10:Int) by omega);rw[zqx d2];refine zb (wJ p0 p1 fun _ _=>zb (jM ?_ fun _ _=>za trivial));grind
 rintro x20 -;refine zk (J:=fun x=>x.2.1.1=t) (qb 24 (fun i s=>∃F,s=((t,((),((i:Int),()))),F)) (by omega) ⟨_,rfl⟩ ?_ ?_) ?_
 ·rintro i _ hi ⟨F,rfl⟩;refine zf (zL (show(i:Int) < 24 by omega)) ?_;have out:∀{k:Nat} {z:Int} {F'},zt (some (.inl (k,((t,((),(z,()))),F')):((Nat×(((Int×((List Bool)×(List (Int×(Int×(Int×Int))))))×(Unit×(Int×Unit)))×((Int×(Int×(Int×(Int×(Int×(Int×((Int×Int)×(Int×((List (List Int))×Unit)))))))))×Unit))) ⊕ (((Int×((List Bool)×(List (Int×(Int×(Int×Int))))))×(Unit×(Int×Unit)))×((Int×(Int×(Int×(Int×(Int×(Int×((Int×Int)×(Int×((List (List Int))×Unit)))))))))×Unit))))) (Nxt (fun x=>x.2.1.1=t) fun s=>∃F,s=((t,((),(((i+1:Nat):Int),()))),F)):=za (zw rfl);have on:∀{F'},zt (some (.inr ((t,((),(wrF .i64 ((i:Int)+1),()))),F'):((Nat×(((Int×((List Bool)×(List (Int×(Int×(Int×Int))))))×(Unit×(Int×Unit)))×((Int×(Int×(Int×(Int×(Int×(Int×((Int×Int)×(Int×((List (List Int))×Unit)))))))))×Unit))) ⊕ (((Int×((List Bool)×(List (Int×(Int×(Int×Int))))))×(Unit×(Int×Unit)))×((Int×(Int×(Int×(Int×(Int×(Int×((Int×Int)×(Int×((List (List Int))×Unit)))))))))×Unit))))) (Nxt (fun x=>x.2.1.1=t) fun s=>∃F,s=((t,((),(((i+1:Nat):Int),()))),F)):=fun{F'}=>za (qn ⟨F',zqR (fun z=>((t,((),(z,()))),F')) (zQ (by omega))⟩);refine zd (fun _=>zd (fun h1=>?_) (fun _=>out)) (fun _=>out);have h1:((F.1.2.2.2.2.2.2.2.2.1.length:Nat):Int)=1:=ql h1;refine zk (zk0 ht x2.2.1.1 (wrF .u8 (d.2.2.2.1+wrF .u8 (i:Int))) rfl) ?_;rintro⟨k2,⟨tt2,b,z2,⟨⟩⟩,⟨⟩⟩ h;rcases h with h | ⟨h,hb⟩
  ·exact zf (by show Nat.beq k2 0=true;rw[show k2=0 from h];rfl) on
  have hb:xb t b:=hb;have b0:=hb.n0;have b1:=hb.n1;have eb:wrF .i64 ((b.length:Int) - 1)=(b.length:Int) - 1:=zU (by omega) (by omega);refine zi (by show Nat.beq k2 0=false;rw[show k2=1 from h];rfl) ?_;refine zk (J:=fun _=>True) ?_ ?_
  ·refine zf (zb7 b0) ?_;rw[eb];refine zb (wJ (by omega) (by grind) fun q hq=>?_);have hqp:yx t q:=hb.pt q (zqy hq);rw[uS hll hqp,zq];refine zd (fun _=>?_) (fun _=>za trivial);rw[my ht hr hb,zq];refine zd (fun _=>?_) (fun _=>za trivial);exact zf (qF (by show(F.1.2.2.2.2.2.2.2.2.1.length+1)*24<=_;omega) (by show F.1.2.2.2.2.2.2.2.2.1.length+1<=_;omega)) (za trivial)
  ·rintro x36 -;exact on
 ·rintro _ ⟨F,rfl⟩;exact zi (zE (show ¬(24:Int) < 24 by omega)) (za (zw rfl))
 rintro⟨k3,⟨t3,⟨⟩,z3,⟨⟩⟩,F,⟨⟩⟩ h3;have h3:t3=t:=h3;subst h3;rw[UI ht,zq];exact za trivial
end Go.Proofs.YtlfkgkedfciccaaGreat.ad
namespace Go.Proofs.YtlfkgkedfciccaaGreat.dd
open Go Go.Fz Go.Fz.Sy Go.Proofs.YtlfkgkedfciccaaGreat.nd Go.Proofs.YtlfkgkedfciccaaGreat.ad
theorem zdJ(n:Int){m:Int}(hm:m≠0):∃v,vq (n,m,())=some (v,()):=by
 have key:zt (vq (n,m,())) fun _=>True:=by grind[zai,Le,jm,zb,za]
 obtain⟨⟨v,⟨⟩⟩,e,_⟩:=key;exact⟨v,e⟩
theorem zhw(n:Int){m:Int}(hm:m≠0):∃v,JE (n,m,())=some (v,()):=by obtain⟨v,e⟩:=zdJ n hm;grind[Nu,tM,zq,jm]
theorem zpV{u:Int×Int×Int×Int}(i:Int){per:Int}(h:Int×Int×Int×Int×Int)(hu:u.1≠0)(hp:per≠0):∃f l,XG (u,i,per,h,())=some ((i,h.1,f,l),()):=by obtain⟨v1,e1⟩:=zhw h.2.1 hu;obtain⟨v2,e2⟩:=zhw (wrF .i64 (0 - wrF .i64 (h.2.2.2.1+h.2.2.2.2))) hu;obtain⟨v3,e3⟩:=zdJ v1 hp;grind[zak,Lh,zq]
theorem zpW{a b:Int}(ha:a<=1000000):∃v,1<=v∧XI (a,b,())=some (v,()):=by
 have key:zt (XI (a,b,())) fun r=>1<=r.1:=by
  rw[zap];unfold Lr;refine zk (J:=fun x=>x.1=0∨(x.1=1∧1<=x.2.1.1)) (aS (fun s=>s.1.2.1<=1000000) _ (fun s=>s.1.2.1.toNat) ha (by grind) ?_) ?_
  ·rintro⟨⟨v,n,⟨⟩⟩,⟨⟩⟩ hn;have hn:n<=1000000:=hn;refine zd (fun h1=>?_) fun h1=>za (Yk (.inl rfl));have h1:1 < n:=zZ h1;have go:Round (fun s:((Int×(Int×Unit))×Unit)=>s.1.2.1<=1000000) (fun x:Nat×((Int×(Int×Unit))×Unit)=>x.1=0∨(x.1=1∧1<=x.2.1.1)) (fun s=>s.1.2.1.toNat) ((v,n,()),()) (.inr ((v,wrF .i64 (n - 1),()),())):=by grind[zU,GK]
   refine zb (zi (jm (by show n≠0;omega)) (zd (fun _=>zi (jm (by show n≠0;omega)) (zd (fun _=>za (zv (za (Yk (.inr ⟨rfl,by show 1<=n;omega⟩))))) fun _=>za (zx (za go)))) fun _=>za (zx (za go))))
  ·rintro⟨c,⟨v,n,⟨⟩⟩,⟨⟩⟩ (h | ⟨h,h2⟩)
   ·have h:c=0:=h;subst h;exact zx (za (by decide))
   grind[za]
 obtain⟨⟨v,⟨⟩⟩,e,h⟩:=key;exact⟨v,h,e⟩
theorem zpX{a b:Int×Int×Int}(ha:a.1<=1000000)(hl:a.2.2<=1000000)(h0 : -1000000<=b.2.2)(h1:b.2.2<=1000000):∃v,uj (a,b,())=some (v,()):=by
 obtain⟨g,hg,eg⟩:=zpW (a:=a.1) (b:=b.1) ha;have key:zt (uj (a,b,())) fun _=>True:=by
  rw[BH];unfold eM;rw[eg,zq];refine zk (J:=fun x=>x.1=0∨x.1=1) (aS (fun s=>-1000000<=s.1.2.1∧s.1.2.1<=1000001) _ (fun s=>(1000001 - s.1.2.1).toNat) ?_ ?_ ?_) ?_
  ·show -1000000<=wrF .i64 (1 - b.2.2)∧wrF .i64 (1 - b.2.2)<=1000001;rw[zU (by omega) (by omega)];omega
  ·show(1000001 - wrF .i64 (1 - b.2.2)).toNat < _;rw[zU (by omega) (by omega)];omega
  ·rintro⟨⟨v,n,⟨⟩⟩,⟨⟩⟩ ⟨hn,hn2⟩;have hn : -1000000<=n:=hn;have hn2:n<=1000001:=hn2;refine zd (fun h1=>?_) fun h1=>za (Yk (.inl rfl));have h1:n < a.2.2:=zZ h1;obtain⟨w,ew⟩:=zdJ (wrF .i64 (wrF .i64 (b.2.1 - a.2.1) - n)) (m:=g) (by omega);show zt (opt (vq (wrF .i64 (wrF .i64 (b.2.1 - a.2.1) - n),g,())) _) _;rw[ew,zq];refine zd (fun _=>za (Yk (.inr rfl))) fun _=>za ?_;show Round _ _ _ _ (.inr ((v,wrF .i64 (n+1),()),()));rw[zU (by omega) (by omega)];exact GK ⟨by show -1000000<=n+1;omega,by show n+1<=_;omega⟩ (by show(1000001 - (n+1)).toNat < (1000001 - n).toNat;omega)
  grind[za]
 obtain⟨⟨v,⟨⟩⟩,e,h⟩:=key;exact⟨v,e⟩
abbrev sB:=List Int×List (Int×Int×Int×Int)
structure aF(p:sB):Prop where
 n:p.1.length<=12
 m:p.2.length<=192
 per:∀x∈p.1,1<=x∧x<=240
 use:∀x∈p.2,0<=x.1∧x.1 < (p.1.length:Int)∧1<=x.2.2.2∧x.2.2.2<=240
theorem zpq{p:sB}(h:aF p){u:Int×Int×Int×Int}(hu:u∈p.2):∃x,atI p.1 u.1=some x∧p.1[u.1.toNat]?=some x∧1<=x∧x<=240:=by obtain⟨h0,h1,_,_⟩:=h.use u hu;obtain⟨x,e,e2⟩:=Rp h0 h1;exact⟨x,e,e2,h.per x (zqy e2)⟩
theorem zpr{p:sB}(h:aF p){k:Nat}{u:Int×Int×Int×Int}(hk:p.2[k]?=some u)(x:Int):∃n f,Jc (p,(k:Int),x,())=some ((n,f,u.2.2.2),())∧1<=n∧n<=240:=by obtain⟨n,e,_,n1,n2⟩:=zpq h (zqy hk);grind[zcF,RS,gz,zq,jm]
theorem zhx{p:sB}(h:aF p)(i a j b:Int):∃v,kA (p,i,a,j,b,())=some (v,()):=by
 have hm:=h.m;have key:zt (kA (p,i,a,j,b,())) fun _=>True:=by
  rw[Nz];unfold tS;refine zk (J:=fun x=>x.1=0∨x.1=1) (qb p.2.length (fun k s=>∃v:Bool,s=((v,((k:Int),())),())) (by omega) ⟨_,rfl⟩ ?_ ?_) ?_
  ·rintro k _ hk ⟨v,rfl⟩;have hx:p.2[k]?=some p.2[k]:=FL hk;generalize p.2[k]=x at hx;refine zf (zL (show(k:Int) < (p.2.length:Int) by omega)) (zk (J:=fun x=>x.1=0∨x.1=1) (qb p.2.length (fun m s=>∃v:Bool,s=((v,((m:Int),())),())) (by omega) ⟨_,rfl⟩ ?_ ?_) ?_)
   ·rintro m _ hm2 ⟨v,rfl⟩;have hy:p.2[m]?=some p.2[m]:=FL hm2;generalize p.2[m]=y at hy;refine zf (zL (show(m:Int) < (p.2.length:Int) by omega)) ?_;have on:zt (some (.inr ((v,(wrF .i64 ((m:Int)+1),())),())):Option ((Nat×((Bool×(Int×Unit))×Unit)) ⊕ ((Bool×(Int×Unit))×Unit))) (Nxt (fun x=>x.1=0∨x.1=1) fun s=>∃v:Bool,s=((v,(((m+1:Nat):Int),())),())):=za (qn ⟨v,by rw[zQ (by omega)]⟩);obtain⟨n1,f1,e1,q1,q2⟩:=zpr h hx a;obtain⟨n2,f2,e2,q3,q4⟩:=zpr h hy b;obtain⟨_,_,l1,l2⟩:=h.use x (zqy hx);obtain⟨_,_,l3,l4⟩:=h.use y (zqy hy);obtain⟨w,ew⟩:=zpX (a:=(n1,f1,x.2.2.2)) (b:=(n2,f2,y.2.2.2)) (by show n1<=_;omega) (by show x.2.2.2<=_;omega) (by show _<=y.2.2.2;omega) (by show y.2.2.2<=_;omega);refine zb (zd (fun _=>zb (zm hx (zd (fun _=>zb (zm hy (zd (fun _=>zb (zm hx (zb (zm hy (zd (fun _=>?_) fun _=>za (zx on)))))) fun _=>za (zx on)))) fun _=>za (zx on)))) fun _=>za (zx on));show zt (opt (Jc (p,(k:Int),a,())) _) _;rw[e1,zq];show zt (opt (Jc (p,(m:Int),b,())) _) _;rw[e2,zq];show zt (opt (uj ((n1,f1,x.2.2.2),(n2,f2,y.2.2.2),())) _) _;rw[ew,zq];exact zd (fun _=>za (zv (za (zw (.inr rfl))))) fun _=>za (zx on)
   ·rintro _ ⟨v,rfl⟩;exact zi (zE (show ¬(p.2.length:Int) < (p.2.length:Int) by omega)) (za (zw (.inl rfl)))
   ·rintro⟨c,⟨v,n,⟨⟩⟩,⟨⟩⟩ (h | h)
    ·have h:c=0:=h;subst h;exact zx (za (qn ⟨v,by rw[zQ (by omega)]⟩))
    ·have h:c=1:=h;subst h;exact zv (za (zw (.inr rfl)))
  all_goals grind[zE,za,zw]
 obtain⟨⟨v,⟨⟩⟩,e,_⟩:=key;exact⟨v,e⟩
theorem zps{p:sB}(h:aF p){g:List Int}(hg:g.length<=1000)(x:Int):∃v,xQ (p,g,x,())=some (v,()):=by
 have key:zt (xQ (p,g,x,())) fun _=>True:=by
  rw[zcH];unfold RU;refine zk (J:=fun x=>x.1=0∨x.1=1) (qb g.length (fun k s=>s=((0,((k:Int),())),())) (by omega) rfl ?_ ?_) ?_
  ·rintro k _ hk rfl;have hx:g[k]?=some g[k]:=FL hk;generalize g[k]=y at hx;refine zf (zL (show(k:Int) < (g.length:Int) by omega)) (zb (zm hx ?_));obtain⟨w,ew⟩:=zhx h (g.length:Int) x (k:Int) y;grind[zt,opt,kA,zq,za,zw,qn,zQ]
  ·grind[zE,za,zw]
  ·rintro⟨c,⟨v,n,⟨⟩⟩,⟨⟩⟩ (hc | hc)
   ·have hc:c=0:=hc;subst hc;obtain⟨w,ew⟩:=zhx h (g.length:Int) x (g.length:Int) x;grind[zq,za]
   ·have hc:c=1:=hc;subst hc;exact zv (za trivial)
 obtain⟨⟨v,⟨⟩⟩,e,_⟩:=key;exact⟨v,e⟩
theorem zji{l:List Int}(hl:l.length<=1000)(h:∀x∈l,x≠0):∃v,xg (l,())=some (v,())∧0<=v∧v<=960:=by
 have key:zt (xg (l,())) fun r=>0<=r.1∧r.1<=960:=by
  rw[zan];unfold Ln;refine zk (J:=fun x=>x.1=0∨(x.1=1∧0<=x.2.1.1∧x.2.1.1<=960)) (qb 960 (fun k s=>s=((0,(((k+1:Nat):Int),())),())) (by omega) rfl ?_ ?_) ?_
  ·rintro k _ hk rfl;refine zf (by grind[zE]) (zk (J:=fun _=>True) (qb l.length (fun m s=>∃v:Bool,s=((v,((m:Int),())),())) (by omega) ⟨_,rfl⟩ ?_ ?_) ?_)
   ·rintro m _ hm ⟨v,rfl⟩;have hx:l[m]?=some l[m]:=FL hm;grind[List.getElem_mem,zL,zb,zm,jm,za,qn,zQ]
   ·grind[zE,za,zw]
   ·rintro⟨c,⟨v,n,⟨⟩⟩,⟨⟩⟩ _;refine zd (fun _=>za (zw (.inr ⟨rfl,by grind,by grind⟩))) fun _=>za (qn ?_);rw[zQ (by omega)]
  ·grind[zL,za,zw]
  ·rintro⟨c,⟨v,n,⟨⟩⟩,⟨⟩⟩ (hc | ⟨hc,h1,h2⟩)
   ·have hc:c=0:=hc;subst hc;exact zx (za ⟨by decide,by decide⟩)
   grind[za]
 obtain⟨⟨v,⟨⟩⟩,e,h1⟩:=key;exact⟨v,e,h1⟩
theorem zk1{p:sB}:∃b,kz (p,())=some (b,())∧(b=true->aF p):=by
 have key:zt (kz (p,())) fun r=>r.1=true->aF p:=by
  rw[Nw];unfold tO;refine zb (zd (fun _=>za (zv (za fun h=>by cases h))) fun h1=>zd (fun _=>za (zv (za fun h=>by cases h))) fun h2=>za (zx ?_));have h1:=zP h1;have h2:=zP h2;refine zk (J:=fun x=>(x.1=0∧∀x∈p.1,1<=x∧x<=240)∨(x.1=1∧x.2.1.1=false)) (wK p.1.length (fun k=>∀x,p.1[k]?=some x->1<=x∧x<=240) (by omega) ?_ ?_) ?_
  ·intro k hk _;have hx:p.1[k]?=some p.1[k]:=FL hk;generalize p.1[k]=x at hx;refine zf (zL (show(k:Int) < (p.1.length:Int) by omega)) (zb (zb (zm hx (zd (fun h3=>za (zv (za (zw (.inr ⟨rfl,rfl⟩))))) fun h3=>zb (zm hx (zd (fun h4=>za (zv (za (zw (.inr ⟨rfl,rfl⟩))))) fun h4=>za (zx (za (vG (by omega) fun y hy=>?_)))))))));rw[hx]at hy;cases hy;exact⟨zP h3,zP h4⟩
  ·grind[zE,za,zw,List.getElem?_of_mem,List.getElem?_eq_some_iff]
  rintro⟨c,⟨y1,y2,⟨⟩⟩,⟨⟩⟩ (⟨hc,hA⟩ | ⟨hc,hA⟩);rotate_left
  ·simp only at hc hA;subst hc hA;exact zv (za fun h=>by cases h)
  simp only at hc;subst hc;refine zx (zk (J:=fun x=>(x.1=0∧∀x∈p.2,0<=x.1∧x.1 < (p.1.length:Int)∧1<=x.2.2.2∧x.2.2.2<=240)∨(x.1=1∧x.2.1.1=false)) (wK p.2.length (fun k=>∀x,p.2[k]?=some x->0<=x.1∧x.1 < (p.1.length:Int)∧1<=x.2.2.2∧x.2.2.2<=240) (by omega) ?_ ?_) ?_)
  ·intro k hk _;have hx:p.2[k]?=some p.2[k]:=FL hk;generalize p.2[k]=x at hx;have no:Nxt (fun x:Nat×((Bool×(Int×Unit))×Unit)=>(x.1=0∧∀x∈p.2,0<=x.1∧x.1 < (p.1.length:Int)∧1<=x.2.2.2∧x.2.2.2<=240)∨(x.1=1∧x.2.1.1=false)) (fun s:((Bool×(Int×Unit))×Unit)=>s=((y1,(((k+1:Nat):Int),())),())∧∀x,p.2[k]?=some x->0<=x.1∧x.1 < (p.1.length:Int)∧1<=x.2.2.2∧x.2.2.2<=240) (.inl (1,((false,((k:Int),())),()))):=zw (.inr ⟨rfl,rfl⟩);refine zf (zL (show(k:Int) < (p.2.length:Int) by omega)) (zb (zm hx (zb (zd (fun _=>za (zv (za no))) fun h3=>zd (fun _=>za (zv (za no))) fun h4=>zd (fun _=>za (zv (za no))) fun h5=>zd (fun _=>za (zv (za no))) fun h6=>za (zx ?_)))));have h3:=zP h3;have h4:=zZ (qE.1 h4);obtain⟨n,en,en2⟩:=Rp h3 h4;have hn:=hA n (zqy en2);refine zb (zd (fun _=>za (zv (za no))) fun h7=>zb (dy en (zd (fun _=>za (zv (za no))) fun h8=>zd (fun _=>za (zv (za no))) fun h9=>zb (dy en (zd (fun _=>za (zv (za no))) fun h10=>za (zx (za (vG (by omega) fun y hy=>?_))))))));rw[hx]at hy;cases hy;have h9:=zP h9;have h10:=zP h10;omega
  ·grind[zE,za,zw,List.getElem?_of_mem,List.getElem?_eq_some_iff]
  rintro⟨c,⟨y3,y4,⟨⟩⟩,⟨⟩⟩ (⟨hc,hB⟩ | ⟨hc,hB⟩);rotate_left
  ·simp only at hc hB;subst hc hB;exact zv (za fun h=>by cases h)
  simp only at hc;subst hc;obtain⟨v,ev,_⟩:=zji (l:=p.1) (by omega) fun x hx=>by grind
  refine zx ?_;rw[ev,zq];exact za fun _=>⟨by omega,by omega,hA,hB⟩
 obtain⟨⟨v,⟨⟩⟩,e,h⟩:=key;exact⟨v,e,h⟩
abbrev Arm:=Int×Int×Int×Int
abbrev Chc:=Int×List Arm
theorem zk2{X:Type}{Q:(Nat×(Unit×(List Arm×Unit)))->Prop}{l:List Arm}{x y:Int}(hl:l.length<=1000)(hq:∀l':List Arm,l'.length<=l.length+1->Q (0,((),(l',())))) : zt (bif(zg (0) ((((l).length:Nat):Int)))then opt (atI (l) ((wrF .i64 (((((l).length:Nat):Int) - 1))))) fun x5=>opt (gl (l) ((Int.toNat (wrF .i64 (((((l).length:Nat):Int) - 1)))))) fun x6=>bif(zj (x6.2.2.1) (y))then opt (atI (l) ((wrF .i64 (((((l).length:Nat):Int) - 1))))) fun x7=>opt (gl (l) ((Int.toNat (wrF .i64 (((((l).length:Nat):Int) - 1)))))) fun x8=>some (0,((),(((l).set ((Int.toNat (wrF .i64 (((((l).length:Nat):Int) - 1))))) ((x8.1,((wrF .i64 ((x+1))),x8.2.2)))),())))else bif(zX ((l).length) ((((x,((wrF .i64 ((x+1))),(y,0)))::[])).length) (32))then some (0,((),((l++((x,((wrF .i64 ((x+1))),(y,0)))::[])),())))else none else bif(zX ((l).length) ((((x,((wrF .i64 ((x+1))),(y,0)))::[])).length) (32))then some (0,((),((l++((x,((wrF .i64 ((x+1))),(y,0)))::[])),())))else none) Q:=by
 have app:zX l.length (((x,((wrF .i64 ((x+1))),(y,0)))::[]:List Arm)).length 32=true:=qF (by show(l.length+1)*32<=_;omega) (by show l.length+1<=_;omega);have qa:Q (0,((),((l++((x,((wrF .i64 ((x+1))),(y,0)))::[])),()))):=hq _ (by simp);refine zd (fun h=>?_) fun _=>zf app (za qa);have h:0 < l.length:=by have:=zZ h;omega
 have e:wrF .i64 ((l.length:Int) - 1)=((l.length - 1:Nat):Int):=by rw[zU (by omega) (by omega)];omega
 have hx:l[l.length - 1]?=some (l[l.length - 1]'(by omega)):=FL (by omega);rw[e];refine zb (zm hx (zb (jM (by rw[zqO];omega) fun _ _=>zd (fun _=>zb (zm hx (zb (jM (by rw[zqO];omega) fun _ _=>za (hq _ ?_))))) fun _=>zf app (za qa))));grind
def znK(p:sB)(l:List Chc)(r:List Chc×(List Int×Int)):Prop:=l.length<=r.1.length∧r.1.length<=61∧(r.2.2=1->r.2.1.length=p.1.length)
theorem zhy{p:sB}(h:aF p):∀(n:Nat) (l:List Chc) (y:List Int×Int) (g:List Int),g.length < p.1.length->p.1.length<=g.length+n->l.length<=61->y.2=0->zt (xZ n (p,()) l y (g,60,())) (znK p l)
 |0,l,y,g,h1,h2,_,_=>by omega
 |n+1,l,y,g,h1,h2,h3,h4=>by
  have ih:=zhy h n;have hn:=h.n;rw[HJ];unfold bw;refine zd (fun _=>za ⟨FW _,h3,fun e=>absurd e (show(2:Int)≠1 by decide)⟩) fun h5=>?_;have h5:=zP h5;have hgx:p.1[g.length]?=some (p.1[g.length]'h1):=FL h1;have hper:=h.per _ (zqq h1);generalize (p.1[g.length]'h1)=per at hgx hper;have hP0:∃x,p.1[0]?=some x:=⟨_,FL (show 0 < p.1.length by omega)⟩;obtain⟨per0,hP0⟩:=hP0;refine zf (qF (by omega) (by omega)) ?_;refine za3 240 (fun k s=>∃(Pf:List Chc) (yy:List Int×Int) (zz:List Chc×(((List Int)×Int)×Unit)) (arms:List Arm),s=((p,((),((),((k:Int),())))),((Pf,(yy,())),(zz,(arms,()))))∧l.length+1<=Pf.length∧Pf.length<=61∧yy.2=0∧arms.length<=k) (by omega) ⟨_,y,_,[],rfl,by simp,by simp;omega,h4,by simp⟩ ?_;rintro k _ hk ⟨Pf,yy,zz,arms,rfl,hP1,hP2,hy,ha⟩;have hPx:Pf[l.length]?=some (Pf[l.length]'(by omega)):=FL (by omega);have fin:∀arms':List Arm,zt (opt (atI Pf (l.length:Int)) fun x22=>opt (gl Pf (Int.toNat (l.length:Int))) fun x23=>some ((Pf.set (Int.toNat (l.length:Int)) (x23.1,arms')),yy)) (znK p l):=fun arms'=>by refine zb (zm hPx (zb (jM (by rw[zqO];omega) fun _ _=>za ⟨?_,?_,fun e=>?_⟩)));all_goals grind
  by_cases c1:(k:Int) < per;rotate_left
  ·exact zb (zm hgx (zi (zE c1) (za (.inr ⟨rfl,zb (zm hgx (zi (zE c1) (fin arms)))⟩))))
  have hk':k < 240:=by omega
  have app:∀z:Arm,zX arms.length ([z]:List Arm).length 32=true:=fun z=>qF (by grind) (by grind);by_cases c2:g.length=0∧k=1
  ·obtain⟨c2,c3⟩:=c2;have q1:zj (g.length:Int) 0=true:=wZ (by omega);have q2:zj (k:Int) 1=true:=wZ (by omega);refine zb (zm hgx (zf (zL c1) (zb (zf q1 (zf q2 (zb (zm (n:=0) hP0 (zf (app (1,(per0,(-2,0)))) (za (zv (za (.inr ⟨rfl,?_⟩))))))))))));exact zb (zm hgx (zf (zL c1) (zb (zf q1 (zf q2 (zb (zm (n:=0) hP0 (zf (app (1,(per0,(-2,0)))) (za (zv (fin _)))))))))))
  have jn:∀
        {R:Type} {Q:R->Prop} {F:(Nat×(Unit×(List Arm×Unit)))->Option R},zt (F (0,((),(arms,())))) Q->zt (opt (bif(zj ((((g).length:Nat):Int)) (0))then bif(zj (k:Int) (1))then opt (atI (p.1) (0)) fun x2=>
        bif(zX (arms.length) ((((1,(x2,((-2),0)))::[]:List Arm)).length) (32))then some (1,((),((arms++((1,(x2,((-2),0)))::[])),())))
        else none
       else some (0,((),(arms,())))
      else some (0,((),(arms,())))) F) Q:=fun hF=>zb (zd (fun q1=>zd (fun q2=>absurd ⟨by have:=ql q1;omega,by have:=ql q2;omega⟩ c2) fun _=>za hF) fun _=>za hF)
  obtain⟨w,ew⟩:=zps h (g:=g) (by omega) (k:Int);have ew2:∀{R:Type} {Q:R->Prop} {F:(Int×Unit)->Option R},zt (F (w,())) Q->zt (opt (xQ (p,(g,((k:Int),())))) F) Q:=fun hF=>by rw[ew];exact hF
  by_cases c4:w = -1;rotate_left
  ·have q3:(!zj w (-1))=true:=by rw[jm c4];rfl
   refine zb (zm hgx (zf (zL c1) (jn (zx (ew2 (zf q3 (zb (zk2 (X:=Unit) (l:=arms) (x:=(k:Int)) (y:=w) (by omega) fun l' hl'=>za (.inl ⟨_,rfl,hk',Pf,yy,zz,l',?_,hP1,hP2,hy,by omega⟩)))))))));grind[wrF,zQ]
  have q3:(!zj w (-1))=false:=by rw[wZ c4];rfl
  have ap1:zX 0 g.length 8=true:=qF (by omega) (by omega);have ap2:zX g.length ([(k:Int)]:List Int).length 8=true:=qF (by grind) (by grind);have hlen:(((g++[(k:Int)]).length:Nat):Int)=((g.length+1:Nat):Int):=by simp
  by_cases c5:g.length+1=p.1.length
  ·have q4:zj (((g++[(k:Int)]).length:Nat):Int) ((p.1.length:Nat):Int)=true:=wZ (by omega);refine zb (zm hgx (zf (zL c1) (jn (zx (ew2 (zi q3 (zf ap1 (zf ap2 (zf q4 (za (.inr ⟨rfl,?_⟩)))))))))));refine zb (zm hgx (zf (zL c1) (jn (zx (ew2 (zi q3 (zf ap1 (zf ap2 (zf q4 (za ⟨?_,?_,fun _=>?_⟩))))))))));all_goals grind
  have q4:zj (((g++[(k:Int)]).length:Nat):Int) ((p.1.length:Nat):Int)=false:=jm (by omega);obtain⟨r,er,r1,r2,r3⟩:=ih Pf yy (g++[(k:Int)]) (by simp;omega) (by simp;omega) hP2 hy;have er2:∀{R:Type} {Q:R->Prop} {F:(List Chc×(List Int×Int))->Option R},zt (F r) Q->zt (opt (xZ n (p,()) Pf yy ((g++[(k:Int)]),((60:Int),()))) F) Q:=fun hF=>by rw[er];exact hF
  by_cases c6:r.2.2=0
  ·have q5:(!zj r.2.2 0)=false:=by rw[wZ c6];rfl
   refine zb (zm hgx (zf (zL c1) (jn (zx (ew2 (zi q3 (zf ap1 (zf ap2 (zi q4 (zf (app ((k:Int),(wrF .i64 ((k:Int)+1),(-1,((Pf.length:Nat):Int))))) (er2 (zi q5 (za (.inl ⟨_,rfl,hk',r.1,r.2,zz,arms++[((k:Int),(wrF .i64 ((k:Int)+1),(-1,((Pf.length:Nat):Int))))],?_,by omega,r2,c6,?_⟩))))))))))))));all_goals grind[wrF,zQ]
  ·have q5:(!zj r.2.2 0)=true:=by rw[jm c6];rfl
   refine zb (zm hgx (zf (zL c1) (jn (zx (ew2 (zi q3 (zf ap1 (zf ap2 (zi q4 (zf (app ((k:Int),(wrF .i64 ((k:Int)+1),(-1,((Pf.length:Nat):Int))))) (er2 (zf q5 (za (.inr ⟨rfl,?_⟩))))))))))))));exact zb (zm hgx (zf (zL c1) (jn (zx (ew2 (zi q3 (zf ap1 (zf ap2 (zi q4 (zf (app ((k:Int),(wrF .i64 ((k:Int)+1),(-1,((Pf.length:Nat):Int))))) (er2 (zf q5 (za ⟨by omega,r2,r3⟩)))))))))))))
theorem zoH{p:sB}:∃o pr e,xh (p,60,())=some (o,pr,e,())∧(e=0->aF p∧o.length=p.1.length):=by
 have key:zt (xh (p,60,())) fun r=>r.2.2.1=0->aF p∧r.1.length=p.1.length:=by
  obtain⟨b,eb,hb⟩:=zk1 (p:=p);rw[NC];unfold bz;rw[eb,zq];cases b with
  |false=>exact zf rfl (za fun e=>absurd e (show(340:Int)≠0 by decide))
  |true=>
  have h:=hb rfl;have hn:=h.n;refine zi rfl (zb (zi (zE (by decide)) (zi (by rw[zL (by decide)];rfl) (za (zx (zd (fun h0=>za fun _=>⟨h,?_⟩) fun h0=>?_))))))
  ·have:=ql h0;show 0=p.1.length;omega
  have h0:=qt h0;have h1:0 < p.1.length:=by omega
  have hgx:p.1[0]?=some (p.1[0]'h1):=FL h1;have hper:=h.per _ (zqq h1);generalize (p.1[0]'h1)=per at hgx hper;refine zi (zE (by decide)) (zf (qF (by omega) (by omega)) ?_);refine za3 240 (fun k s=>∃(Pf:List Chc) (yy:List Int×Int) (zz:List Chc×(((List Int)×Int)×Unit)) (arms:List Arm),s=((p,((),((),((k:Int),())))),((Pf,(yy,())),(zz,(arms,()))))∧1<=Pf.length∧Pf.length<=61∧yy.2=0∧arms.length<=k) (by omega) ⟨_,([],0),_,[],rfl,by simp,by simp,rfl,by simp⟩ ?_;rintro k _ hk ⟨Pf,yy,zz,arms,rfl,hP1,hP2,hy,ha⟩;have hPx:Pf[0]?=some (Pf[0]'(by omega)):=FL (by omega);have fin:∀arms':List Arm,zt (opt (atI Pf 0) fun x24=>
        opt (gl Pf (Int.toNat 0)) fun x25=>
        bif(zj (yy.2) (1))then some (yy.1,(([]:List Chc),((0:Int),())))
        else bif(zj (yy.2) (2))then some ([],([],(8,())))
         else some ([],((Pf.set (Int.toNat 0) (x25.1,arms')),(4,())))) (fun r=>r.2.2.1=0->aF p∧r.1.length=p.1.length):=fun arms'=>
   zb (zm (n:=0) hPx (zb (jM (by show 0 < Pf.length;omega) fun _ _=>zi (jm (by omega)) (zi (jm (by omega)) (za fun e=>absurd e (show(4:Int)≠0 by decide))))))
  by_cases c1:(k:Int) < per;rotate_left
  ·exact zb (zm (n:=0) hgx (zi (zE c1) (za (.inr ⟨rfl,zb (zm (n:=0) hgx (zi (zE c1) (fin arms)))⟩))))
  have hk':k < 240:=by omega
  have app:∀z:Arm,zX arms.length ([z]:List Arm).length 32=true:=fun z=>qF (by show(arms.length+1)*32<=_;omega) (by show arms.length+1<=_;omega);by_cases c2:k=1
  ·have q2:zj (k:Int) 1=true:=wZ (by omega);refine zb (zm (n:=0) hgx (zf (zL c1) (zb (zf q2 (zb (zm (n:=0) hgx (zf (app (1,(per,(-2,0)))) (za (zv (za (.inr ⟨rfl,?_⟩)))))))))));exact zb (zm (n:=0) hgx (zf (zL c1) (zb (zf q2 (zb (zm (n:=0) hgx (zf (app (1,(per,(-2,0)))) (za (zv (fin _))))))))))
  have jn:∀
        {R:Type} {Q:R->Prop} {F:(Nat×(Unit×(List Arm×Unit)))->Option R},zt (F (0,((),(arms,())))) Q->zt (opt (bif(zj (k:Int) (1))then opt (atI (p.1) (0)) fun x2=>
        bif(zX (arms.length) ((((1,(x2,((-2),0)))::[]:List Arm)).length) (32))then some (1,((),((arms++((1,(x2,((-2),0)))::[])),())))
        else none
       else some (0,((),(arms,())))) F) Q:=fun hF=>zb (zi (jm (by omega)) (za hF))
  obtain⟨w,ew⟩:=zps h (g:=[]) (by simp) (k:Int);have ew2:∀{R:Type} {Q:R->Prop} {F:(Int×Unit)->Option R},zt (F (w,())) Q->zt (opt (xQ (p,([],((k:Int),())))) F) Q:=fun hF=>by rw[ew];exact hF
  by_cases c4:w = -1;rotate_left
  ·have q3:(!zj w (-1))=true:=by rw[jm c4];rfl
   refine zb (zm (n:=0) hgx (zf (zL c1) (jn (zx (ew2 (zf q3 (zb (zk2 (X:=Unit) (l:=arms) (x:=(k:Int)) (y:=w) (by omega) fun l' hl'=>za (.inl ⟨_,rfl,hk',Pf,yy,zz,l',?_,hP1,hP2,hy,by omega⟩)))))))));show((p,((),((),(wrF .i64 ((k:Int)+1),())))),((Pf,(yy,())),((zz.1,(zz.2.1,())),(l',()))))=_;rw[zQ (by omega)]
  have q3:(!zj w (-1))=false:=by rw[wZ c4];rfl
  have ap1:zX 0 0 8=true:=qF (by omega) (by omega);have ap2:zX 0 ([(k:Int)]:List Int).length 8=true:=qF (by show(0+1)*8<=_;omega) (by show 0+1<=_;omega);by_cases c5:1=p.1.length
  ·have q4:zj ((([(k:Int)].length:Nat)):Int) ((p.1.length:Nat):Int)=true:=wZ (by show((1:Nat):Int)=_;omega);refine zb (zm (n:=0) hgx (zf (zL c1) (jn (zx (ew2 (zi q3 (zf ap1 (zf ap2 (zf q4 (za (.inr ⟨rfl,?_⟩)))))))))));exact zb (zm (n:=0) hgx (zf (zL c1) (jn (zx (ew2 (zi q3 (zf ap1 (zf ap2 (zf q4 (za fun _=>⟨h,c5⟩))))))))))
  have q4:zj ((([(k:Int)].length:Nat)):Int) ((p.1.length:Nat):Int)=false:=jm (by show((1:Nat):Int)≠_;omega);obtain⟨r,er,r1,r2,r3⟩:=zhy h 30 Pf yy [(k:Int)] (by show 1 < _;omega) (by show _<=1+30;omega) hP2 hy;have er2:∀{R:Type} {Q:R->Prop} {F:(List Chc×(List Int×Int))->Option R},zt (F r) Q->zt (opt (Zs (p,()) Pf yy ([(k:Int)],((60:Int),()))) F) Q:=fun hF=>by have er3:Zs (p,()) Pf yy ([(k:Int)],((60:Int),()))=some r:=er;rw[er3];exact hF
  have q6:zg 0 ((Pf.length:Nat):Int)=true:=zL (by omega);have q7:zg 0 ((r.1.length:Nat):Int)=true:=zL (by omega);have ap3:=app ((k:Int),(wrF .i64 ((k:Int)+1),(-1,((Pf.length:Nat):Int))));by_cases c6:r.2.2=0
  ·have q5:(!zj r.2.2 0)=false:=by rw[wZ c6];rfl
   refine zb (zm (n:=0) hgx (zf (zL c1) (jn (zx (ew2 (zi q3 (zf ap1 (zf ap2 (zi q4 (zf ap3 (zf q6 (er2 (zf q7 (zi q5 (za (.inl ⟨_,rfl,hk',r.1,r.2,zz,arms++[((k:Int),(wrF .i64 ((k:Int)+1),(-1,((Pf.length:Nat):Int))))],?_,by omega,r2,c6,?_⟩))))))))))))))))
   ·show((p,((),((),(wrF .i64 ((k:Int)+1),())))),((r.1,(r.2,())),((zz.1,(zz.2.1,())),(arms++[((k:Int),(wrF .i64 ((k:Int)+1),(-1,((Pf.length:Nat):Int))))],()))))=_;rw[zQ (by omega)]
   ·simp;omega
  ·have q5:(!zj r.2.2 0)=true:=by rw[jm c6];rfl
   refine zb (zm (n:=0) hgx (zf (zL c1) (jn (zx (ew2 (zi q3 (zf ap1 (zf ap2 (zi q4 (zf ap3 (zf q6 (er2 (zf q7 (zf q5 (za (.inr ⟨rfl,?_⟩))))))))))))))));refine zb (zm (n:=0) hgx (zf (zL c1) (jn (zx (ew2 (zi q3 (zf ap1 (zf ap2 (zi q4 (zf ap3 (zf q6 (er2 (zf q7 (zf q5 ?_))))))))))))));refine zd (fun q=>za fun _=>⟨h,r3 (ql q)⟩) fun _=>zd (fun _=>za fun e=>absurd e (show(8:Int)≠0 by decide)) fun _=>za fun e=>absurd e (show(4:Int)≠0 by decide)
 obtain⟨⟨o,pr,e,⟨⟩⟩,e1,h⟩:=key;grind
abbrev zf3:=Int×Int×Int×Int
abbrev zm2:=Int×Int×Int×Int×Int
theorem zf4{t:qT}(ht:ya t){p:Int}(hp:yx t p):(1<=(lnk t p).2.2.1∧(lnk t p).2.2.1<=1000)∧(0<=(lnk t p).2.2.2∧(lnk t p).2.2.2<=10000):=by obtain⟨_,_,_,_,h1,h2,h3,h4⟩:=(ht.ls _ _ (GS hp)).1;omega
def zqj(i:Nat)(h:zm2):Prop:=0<=h.2.2.2.1∧h.2.2.2.1<=2000000*i∧0<=h.2.2.2.2∧h.2.2.2.2<=1542000
theorem zdK{t:qT}(ht:ya t){u:zf3}(hu:kO u){s:wI}(hs:84<=s.2.2.2.2.1∧s.2.2.2.2.1<=1542){r:List Int}(hr:xb t r) : ∃hops:List zm2,xL (t,u,s,r,())=some (hops,())∧hops.map (·.1)=r:=by
 have hll:=ht.ll;have n0:=hr.n0;have n1:=hr.n1;obtain⟨⟨g0,g1⟩,⟨k0,k1⟩,⟨p0,p1⟩,_⟩:=hu;have key:zt (xL (t,u,s,r,())) fun x=>x.1.map (·.1)=r:=by
  rw[zah];unfold La;have hx0:r[0]?=some (r[0]'(by omega)):=FL (by omega);have hp0:=hr.pt _ (zqq (show 0 < r.length by omega));generalize hq0:(r[0]'(by omega))=q0 at hx0 hp0;refine zb (zm (n:=0) hx0 (zb (zm (n:=0) hx0 ?_)));rw[bR hll hp0,zq];have hb0:=(zf4 ht hp0).1;have m0:=QE (show 0<=s.2.2.2.2.1 by omega) hs.2 (show 0<=(lnk t q0).2.2.1 by omega) hb0.2;have e0:wrF .i64 (s.2.2.2.2.1*(lnk t q0).2.2.1)=s.2.2.2.2.1*(lnk t q0).2.2.1:=zU (by omega) (by omega);refine zk (J:=fun x=>x.2.2.1.map (·.1)=r) (qb (r.length - 1) (fun k st=>∃L:List zm2,st=((((k+1:Nat):Int),()),(L,()))∧L.map (·.1)=r.take (k+1)∧∀(j:Nat) h,L[j]?=some h->zqj j h) (by omega) ⟨_,rfl,?_,?_⟩ ?_ ?_) ?_
  ·cases hr2:r with
   |nil=>rw[hr2]at n0;simp at n0
   |cons a r'=>
    rw[hr2]at hx0;simp at hx0;subst hx0;rfl
  ·intro j h hj;cases j with
   |succ j=>simp at hj
   |zero=>
    simp at hj;subst hj;refine⟨by show(0:Int)<=0;omega,by show(0:Int)<=2000000*((0:Nat):Int);omega,?_,?_⟩
    ·show 0<=wrF .i64 (s.2.2.2.2.1*(lnk t q0).2.2.1);rw[e0];omega
    ·show wrF .i64 (s.2.2.2.2.1*(lnk t q0).2.2.1)<=_;rw[e0];omega
  ·rintro k _ hk ⟨L,rfl,hL,hB⟩;have hLl:L.length=k+1:=by have:=zqR List.length hL;simpa[zsd (show k+1<=r.length by omega)]using this
   have hlast:L[k]?=some (L[k]'(by omega)):=FL (by omega);obtain⟨b1,b2,b3,b4⟩:=hB k _ hlast;have hpl:(L[k]'(by omega)).1=r[k]'(by omega):=by
    have h1:(L.map (·.1))[k]?=some (L[k]'(by omega)).1:=by simp[hlast]
    rw[hL,zti,zqI (by omega),FL (by omega)]at h1;exact(zsc h1).symm
   have hpk:=hr.pt _ (zqq (show k < r.length by omega));rw[<-hpl]at hpk;generalize (L[k]'(by omega))=x5 at hlast b1 b2 b3 b4 hpk;have hx:r[k+1]?=some (r[k+1]'(by omega)):=FL (by omega);have hp1:=hr.pt _ (zqq (show k+1 < r.length by omega));have htk:r.take (k+1+1)=r.take (k+1)++[r[k+1]'(by omega)]:=by rw[zrk,hx];rfl
   generalize (r[k+1]'(by omega))=q at hx hp1 htk;have e1:wrF .i64 (((k+1:Nat):Int) - 1)=(k:Int):=by rw[zU (by omega) (by omega)];omega
   obtain⟨_,d0,d1⟩:=zf4 ht hpk;have hb1:=(zf4 ht hp1).1;have m1:=QE (show 0<=s.2.2.2.2.1 by omega) hs.2 (show 0<=(lnk t q).2.2.1 by omega) hb1.2;refine zf (zL (show((k+1:Nat):Int) < (r.length:Int) by omega)) ?_;show zt (opt (atI L (wrF .i64 (((k+1:Nat):Int) - 1))) fun _=>opt (gl L (Int.toNat (wrF .i64 (((k+1:Nat):Int) - 1)))) _) _;rw[e1];refine zb (zm hlast (zb (jM (by rw[zqO];omega) fun y hy=>?_)));rw[zqO,hlast]at hy;cases hy;show zt (opt (ky (t,x5.1,())) _) _;rw[UG hll hpk,zq];refine zb (zm hx (zb (zm hx ?_)));rw[bR hll hp1,zq];have w1:wrF .i64 (x5.2.2.2.1+x5.2.2.2.2)=x5.2.2.2.1+x5.2.2.2.2:=zU (by omega) (by omega);have w2:wrF .i64 (x5.2.2.2.1+x5.2.2.2.2+(lnk t x5.1).2.2.2)=x5.2.2.2.1+x5.2.2.2.2+(lnk t x5.1).2.2.2:=zU (by omega) (by omega);have w3:wrF .i64 (x5.2.2.2.1+x5.2.2.2.2+(lnk t x5.1).2.2.2+u.2.2.1)=x5.2.2.2.1+x5.2.2.2.2+(lnk t x5.1).2.2.2+u.2.2.1:=zU (by omega) (by omega);have w4:wrF .i64 (2*u.2.1)=2*u.2.1:=zU (by omega) (by omega);have w5:wrF .i64 (x5.2.2.2.1+x5.2.2.2.2+(lnk t x5.1).2.2.2+u.2.2.1+2*u.2.1)=x5.2.2.2.1+x5.2.2.2.2+(lnk t x5.1).2.2.2+u.2.2.1+2*u.2.1:=zU (by omega) (by omega);have w6:wrF .i64 (s.2.2.2.2.1*(lnk t q).2.2.1)=s.2.2.2.2.1*(lnk t q).2.2.1:=zU (by omega) (by omega);simp only[w1,w2,w3,w4,w5,w6];generalize hlate:x5.2.2.2.1+x5.2.2.2.2+(lnk t x5.1).2.2.2+u.2.2.1+2*u.2.1=late;generalize s.2.2.2.2.1*(lnk t q).2.2.1=long at m1;generalize wrF .i64 (x5.2.2.2.1+x5.2.2.2.2+(lnk t x5.1).2.2.2+u.2.2.1 - 2*u.2.1)=early;have hl0:0<=late∧late<=2000000*k+1564000:=by omega
   refine zk (J:=fun x=>∃o:Int,x.2.1.1=(q,(early,(late,(o,long))))∧0<=o∧o<=late+10000) (aS (fun st=>∃o:Int,st=(((q,(early,(late,(o,long)))),()),())∧0<=o∧o<=late+10000) _ (fun st=>(late+10001 - st.1.1.2.2.2.1).toNat) ⟨0,rfl,by omega,by omega⟩ (by show(late+10001 - 0).toNat < _;omega) ?_) ?_
   ·rintro _ ⟨o,rfl,o0,o1⟩;refine zd (fun h=>za ?_) fun h=>za (Yk ⟨o,rfl,o0,o1⟩);have h:o < late:=zZ h;show Round _ _ _ _ (.inr (((q,(early,(late,(wrF .i64 (o+u.1),long)))),()),()));rw[zU (z:=o+u.1) (by omega) (by omega)];exact GK ⟨o+u.1,rfl,by omega,by omega⟩ (by show(late+10001 - (o+u.1)).toNat < (late+10001 - o).toNat;omega)
   ·rintro⟨c,⟨y1,⟨⟩⟩,⟨⟩⟩ ⟨o,ho,o0,o1⟩;simp only at ho;subst ho;refine zf (qF (by show(L.length+1)*40<=_;omega) (by show L.length+1<=_;omega)) (za (qn ⟨L++[(q,(early,(late,(o,long))))],?_,?_,?_⟩))
    ·rw[zQ (by omega)]
    ·rw[zrJ,hL,htk];rfl
    ·intro j h hj;by_cases hjl:j < L.length
     ·rw[zqT hjl]at hj;exact hB j h hj
     ·rw[zrd (by omega)]at hj;have hj0:j - L.length=0:=by
       cases hz:j - L.length with
       |zero=>rfl
       |succ z=>rw[hz]at hj;simp at hj
      rw[hj0]at hj;simp at hj;subst hj;have:j=k+1:=by omega
      subst this;exact⟨o0,by show o<=2000000*((k+1:Nat):Int);omega,by show 0<=long;omega,by show long<=1542000;omega⟩
  ·rintro _ ⟨L,rfl,hL,_⟩;refine zi (zE (show ¬((r.length - 1+1:Nat):Int) < (r.length:Int) by omega)) (za (zw ?_));show L.map (·.1)=r;rw[hL,zqW (by omega)]
  ·rintro⟨c,⟨y1,⟨⟩⟩,y2,⟨⟩⟩ hy;exact za hy
 obtain⟨⟨hops,⟨⟩⟩,e,h⟩:=key;grind
theorem zpY{t:qT}(ht:ya t){u:zf3}(hu:kO u){s:wI}(hs:84<=s.2.2.2.2.1∧s.2.2.2.2.1<=1542){r:List Int}(hr:xb t r):∃v,XH (t,u,s,r,())=some (v,()):=by
 obtain⟨hops,e,hm⟩:=zdK ht hu hs hr;have hlen:hops.length=r.length:=by grind
 have n0:=hr.n0;have n1:=hr.n1;rw[zam];unfold Ll;rw[e,zq];have e1:wrF .i64 ((hops.length:Int) - 1)=((hops.length - 1:Nat):Int):=by grind[zU]
 have hx:hops[hops.length - 1]?=some (hops[hops.length - 1]'(by omega)):=FL (by omega);have hp:yx t (hops[hops.length - 1]'(by omega)).1:=by refine hr.pt _ ?_;grind
 show ∃v,opt (atI hops (wrF .i64 ((hops.length:Int) - 1))) _=some (v,());rw[e1,gz hx,zq,UG ht.ll hp];exact⟨_,rfl⟩
def wU(l:List wI):Nat:=(l.filter fun s=>decide (s.2.2.2.1=7)).length
theorem mG{l:List wI}{i:Nat}{s:wI}(h:l[i]?=some s):wU (l.take (i+1))=wU (l.take i)+(if s.2.2.2.1=7 then 1 else 0):=by unfold wU;rw[zrk,h,ztk,zrt];grind
abbrev Use:=Int×Int×Int×Int
theorem zqk{t:qT}(ht:ya t){u:zf3}(hu:kO u)(l:List wI):∃p e,vC (t,u,l,())=some (p,e,())∧(e=0->Yw t l∧l.length<=12∧p.1.length=wU l∧∀x∈p.1,1<=x∧x<=240):=by
 have key:zt (vC (t,u,l,())) fun r=>r.2.1=0->Yw t l∧l.length<=12∧r.1.1.length=wU l∧∀x∈r.1.1,1<=x∧x<=240:=by
  have hg:u.1≠0:=by have:=hu.1.1;omega
  rw[zcC];unfold RO;rw[WH,qX ht,zq];refine zi rfl ?_;rw[mz,qX hu,zq];refine zi rfl ?_;rw[bk ht,zq];refine zd (fun h=>za fun e=>absurd e (qt (qN.1 h))) fun h=>?_;obtain⟨h12,hall,_⟩:=zfZ (ql (qE.1 h));refine zk (J:=fun x=>∃(late:Bool) (i:Int) (Per:List Int) (Us:List Use),x.2=((t,(u,((),(late,(i,()))))),((Per,(Us,())),()))∧Per.length=wU l∧(∀x∈Per,1<=x∧x<=240)∧(∀x∈Us,0<=x.1∧x.1 < (Per.length:Int))∧Us.length<=1000)
   (qb l.length (fun i s=>∃(late:Bool) (Per:List Int) (Us:List Use),s=((t,(u,((),(late,((i:Int),()))))),((Per,(Us,())),()))∧Per.length=wU (l.take i)∧(∀x∈Per,1<=x∧x<=240)∧(∀x∈Us,0<=x.1∧x.1 < (Per.length:Int))∧Us.length<=16*i) (by omega) ⟨_,[],[],rfl,rfl,by simp,by simp,by simp⟩ ?_ ?_) ?_
  ·rintro i _ hi ⟨late,Per,Us,rfl,hP,hPb,hU,hUl⟩;have hx:l[i]?=some l[i]:=FL hi;have hss:=hall _ (zqq hi);generalize l[i]=s at hx hss;have hc:=mG hx;refine zf (zL (show(i:Int) < (l.length:Int) by omega)) (zb (zm hx (zd (fun h7=>za (qn ⟨late,Per,Us,?_,?_,hPb,hU,by omega⟩)) fun h7=>?_)))
   ·rw[zQ (by omega)]
   ·have:=qt (qN.1 h7);rw[hc,zqu this,hP];rfl
   have h7:=ql (qE.1 h7);have hper:1<=s.2.2.2.2.2.1∧s.2.2.2.2.2.1<=240:=by
    rcases hss.cl with h | h
    ·exact h.2.1
    ·omega
   have hPl:Per.length<=l.length:=by rw[hP];unfold wU;refine zqw (zrf _ _) ?_;rw[zsh];omega
   have hrn:=hss.rn;refine zk (J:=fun x=>∃(late:Bool) (j:Int) (Us:List Use),x.2=((t,(u,((),(late,(j,()))))),((Per,(Us,())),()))∧(∀x∈Us,0<=x.1∧x.1 < (Per.length:Int)+1)∧Us.length<=16*(i+1))
    (qb s.2.2.2.2.2.2.2.2.length (fun k st=>∃(late:Bool) (Us:List Use),st=((t,(u,((),(late,((k:Int),()))))),((Per,(Us,())),()))∧(∀x∈Us,0<=x.1∧x.1 < (Per.length:Int)+1)∧Us.length<=16*i+8*k) (by omega) ⟨late,Us,rfl,fun x hx=>by have:=hU x hx;omega,by omega⟩ ?_ ?_) ?_
   ·rintro k _ hk ⟨late,Us,rfl,hU,hUl⟩;have hy:s.2.2.2.2.2.2.2.2[k]?=some s.2.2.2.2.2.2.2.2[k]:=FL hk;have hr:=(hss.rt _ (zqq hk)).1;generalize s.2.2.2.2.2.2.2.2[k]=r at hy hr;obtain⟨hops,eh,hm⟩:=zdK ht hu hss.sz hr;have hlen:hops.length=r.length:=by rw[<-hm,zsm]
    have hr8:=hr.n1;refine zb (zm hx (zf (zL (show(k:Int) < (s.2.2.2.2.2.2.2.2.length:Int) by omega)) (zb (zm hx (zb (zm hx (zb (zm hy ?_))))))));show zt (opt (xL (t,u,s,r,())) _) _;rw[eh,zq];refine zk (J:=fun x=>∃(j:Int) (Us:List Use),x.2=(((),(j,())),((Per,(Us,())),()))∧(∀x∈Us,0<=x.1∧x.1 < (Per.length:Int)+1)∧Us.length<=16*i+8*(k+1))
     (qb hops.length (fun h st=>∃(Us:List Use),st=(((),((h:Int),())),((Per,(Us,())),()))∧(∀x∈Us,0<=x.1∧x.1 < (Per.length:Int)+1)∧Us.length<=16*i+8*k+h) (by omega) ⟨Us,rfl,hU,by omega⟩ ?_ ?_) ?_
    ·rintro h _ hh ⟨Us,rfl,hU,hUl⟩;have hz:hops[h]?=some hops[h]:=FL hh;generalize hops[h]=z at hz;obtain⟨f,lo,eu⟩:=zpV (u:=u) ((Per.length:Nat):Int) (per:=s.2.2.2.2.2.1) z hg (by omega);refine zf (zL (show(h:Int) < (hops.length:Int) by omega)) (zb (zm hx (zb (zm hz ?_))));show zt (opt (XG (u,((Per.length:Nat):Int),s.2.2.2.2.2.1,z,())) _) _;rw[eu,zq];refine zf (qF (by show(Us.length+1)*32<=_;omega) (by show Us.length+1<=_;omega)) (za (qn ⟨Us++[(((Per.length:Nat):Int),z.1,f,lo)],?_,?_,by simp;omega⟩))
     ·rw[zQ (by omega)]
     ·intro x hx2;rcases zqS.1 hx2 with h2 | h2
      ·exact hU x h2
      ·rw[zqU.1 h2];exact⟨by show(0:Int)<=((Per.length:Nat):Int);omega,by show((Per.length:Nat):Int) < _;omega⟩
    ·rintro _ ⟨Us,rfl,hU,hUl⟩;exact zi (zE (show ¬(hops.length:Int) < (hops.length:Int) by omega)) (za (zw ⟨_,Us,rfl,hU,by omega⟩))
    rintro⟨c,st⟩ ⟨j,Us,hst,hU,hUl⟩;have hst:st=_:=hst;subst hst;obtain⟨v,ev⟩:=zpY ht hu hss.sz hr;refine zd (fun _=>za (qn ⟨true,Us,?_,hU,by omega⟩)) fun _=>zb (zm hx (zb (zm hx (zb (zm hy ?_)))))
    ·rw[zQ (by omega)]
    show zt (opt (XH (t,u,s,r,())) _) _;rw[ev,zq];refine zb (zm hx (za (qn ⟨_,Us,zqR (fun z=>((t,(u,((),(_,(z,()))))),((Per,(Us,())),()))) (zQ (by omega)),hU,by omega⟩)))
   ·rintro _ ⟨late,Us,rfl,hU,hUl⟩;exact zb (zm hx (zi (zE (show ¬(s.2.2.2.2.2.2.2.2.length:Int) < (s.2.2.2.2.2.2.2.2.length:Int) by omega)) (za (zw ⟨late,_,Us,rfl,hU,by omega⟩))))
   rintro⟨c,st⟩ ⟨late,j,Us,hst,hU,hUl⟩;have hst:st=_:=hst;subst hst;refine zb (zm hx (zf (qF (by show(Per.length+1)*8<=_;omega) (by show Per.length+1<=_;omega)) (za (qn ⟨late,Per++[s.2.2.2.2.2.1],Us,?_,?_,?_,?_,hUl⟩))))
   ·rw[zQ (by omega)]
   ·rw[hc,zqI h7,zrt,hP];rfl
   ·intro x hx2;rcases zqS.1 hx2 with h2 | h2
    ·exact hPb x h2
    ·rw[zqU.1 h2];exact hper
   ·intro x hx2;have:=hU x hx2;rw[zrt];exact⟨this.1,by show x.1 < ((Per.length+1:Nat):Int);omega⟩
  ·rintro _ ⟨late,Per,Us,rfl,hP,hPb,hU,hUl⟩;refine zi (zE (show ¬(l.length:Int) < (l.length:Int) by omega)) (za (zw ⟨late,_,Per,Us,rfl,?_,hPb,hU,by omega⟩));rw[hP,zrU]
  rintro⟨c,st⟩ ⟨late,j,Per,Us,hst,hP,hPb,hU,hUl⟩;have hst:st=_:=hst;subst hst;have hPl:Per.length<=12:=by rw[hP];unfold wU;exact zqw (zrf _ _) h12
  have hat:∀x∈Us,∃y,atI Per x.1=some y∧Per[x.1.toNat]?=some y∧y≠0:=fun x hx=>by obtain⟨q0,q1⟩:=hU x hx;obtain⟨y,e1,e2⟩:=Rp q0 q1;exact⟨y,e1,e2,by have:=hPb y (zqy e2);omega⟩
  obtain⟨v,ev,v0,v1⟩:=zji (l:=Per) (by omega) fun x hx=>by have:=hPb x hx;omega
  show zt (opt (xg (Per,())) _) _;rw[ev,zq];refine zd (fun _=>za fun e=>absurd e (show(6:Int)≠0 by decide)) fun _=>?_;have hls:=ht.sz.ls;refine zk (J:=fun x=>x.1=0∨(x.1=1∧x.2.1.2.1=7)) (qb (2*t.2.2.length) (fun k st=>st=((([],[]),(0,((k:Int),()))),())) (by omega) rfl ?_ ?_) ?_
  ·rintro k _ hk rfl;refine zf (zL (show(k:Int) < wrF .i64 (2*((t.2.2.length:Nat):Int)) by rw[zU (by omega) (by omega)];omega)) (zk (J:=fun _=>True) (qb Us.length (fun m st=>∃n:Int,st=((n,((m:Int),())),())) (by omega) ⟨0,rfl⟩ ?_ ?_) ?_)
   ·rintro m _ hm ⟨n,rfl⟩;have hx:Us[m]?=some Us[m]:=FL hm;have hxm:=hat _ (zqq hm);generalize Us[m]=x at hx hxm;obtain⟨y,y1,y2,y3⟩:=hxm;have hgm:∀{R:Type} {Q:R->Prop} {F:Use->Option R},zt (F x) Q->zt (opt (gl Us (Int.toNat (m:Int))) F) Q:=fun hF=>zb (jM (by rw[zqO];omega) fun z hz=>by
     rw[zqO,hx]at hz;cases hz;exact hF)
    refine zf (zL (show(m:Int) < (Us.length:Int) by omega)) (zb (zb (zm hx (hgm (zd (fun _=>?_) fun _=>?_)))))
    ·exact zb (zm hx (hgm (zb (dy y1 (zb (dy (show gl Per (Int.toNat x.1)=some y by rw[xk];exact y2) (zi (jm y3) (za (za (qn ⟨_,zqR (fun z=>((_,(z,())),())) (zQ (by omega))⟩))))))))))
    ·exact za (za (qn ⟨_,zqR (fun z=>((_,(z,())),())) (zQ (by omega))⟩))
   ·rintro _ ⟨n,rfl⟩;exact zi (zE (show ¬(Us.length:Int) < (Us.length:Int) by omega)) (za (zw trivial))
   ·rintro⟨c2,⟨n,m,⟨⟩⟩,⟨⟩⟩ _;refine zd (fun _=>za (zw (.inr ⟨rfl,rfl⟩))) fun _=>za (qn ?_);rw[zQ (by omega)]
  ·rintro _ rfl;exact zi (zE (show ¬((2*t.2.2.length:Nat):Int) < wrF .i64 (2*((t.2.2.length:Nat):Int)) by rw[zU (by omega) (by omega)];omega)) (za (zw (.inl rfl)))
  rintro⟨c2,⟨⟨z1,z2⟩,z3,z4,⟨⟩⟩,⟨⟩⟩ (hc | ⟨hc,h7⟩);rotate_left
  ·simp only at hc h7;subst hc h7;exact zv (za fun e=>absurd e (show(7:Int)≠0 by decide))
  simp only at hc;subst hc;refine zx (zk (J:=fun _=>True) (qb Us.length (fun m st=>∃n:Bool,st=((n,((m:Int),())),())) (by omega) ⟨false,rfl⟩ ?_ ?_) ?_)
  ·rintro m _ hm ⟨n,rfl⟩;have hx:Us[m]?=some Us[m]:=FL hm;have hxm:=hat _ (zqq hm);generalize Us[m]=x at hx hxm;obtain⟨y,y1,y2,y3⟩:=hxm;have hgm:∀{R:Type} {Q:R->Prop} {F:Use->Option R},zt (F x) Q->zt (opt (gl Us (Int.toNat (m:Int))) F) Q:=fun hF=>zb (jM (by rw[zqO];omega) fun z hz=>by
    rw[zqO,hx]at hz;cases hz;exact hF)
   refine zf (zL (show(m:Int) < (Us.length:Int) by omega)) (zd (fun _=>za (qn ⟨_,zqR (fun z=>((_,(z,())),())) (zQ (by omega))⟩)) fun _=>zb (zm hx (hgm (zb (zm hx (hgm (zb (dy y1 (zb (dy (show gl Per (Int.toNat x.1)=some y by rw[xk];exact y2) (za (qn ⟨_,zqR (fun z=>((_,(z,())),())) (zQ (by omega))⟩))))))))))))
  ·rintro _ ⟨n,rfl⟩;exact zi (zE (show ¬(Us.length:Int) < (Us.length:Int) by omega)) (za (zw trivial))
  rintro⟨c2,⟨n,m,⟨⟩⟩,⟨⟩⟩ _;exact zd (fun _=>za fun e=>absurd e (show(341:Int)≠0 by decide)) fun _=>zd (fun _=>za fun e=>absurd e (show(342:Int)≠0 by decide)) fun _=>za fun _=>⟨hall,h12,hP,hPb⟩
 obtain⟨⟨p,e,⟨⟩⟩,e1,h⟩:=key;grind
abbrev Win:=Int×Int×Int×Int×Int×Int
theorem za6(l:List wI)(i:Nat):wU (l.take i)<=wU l:=by grind[wU,List.take_sublist]
theorem zk3{t:qT}(ht:ya t){u:zf3}(hu:kO u){l:List wI}(hall:Yw t l)(h12:l.length<=12){o:List Int}(ho:o.length=wU l) : ∃w:List Win,ZP (t,u,l,o,())=some (w,())∧(∀x∈w,x.2.2.2.1≠0)∧w.length<=1000:=by
 have hg:=hu.1;have key:zt (ZP (t,u,l,o,())) fun r=>(∀x∈r.1,x.2.2.2.1≠0)∧r.1.length<=1000:=by
  rw[Ek];unfold lS;refine zk (J:=fun x=>(∀y∈x.2.2.1,y.2.2.2.1≠0)∧x.2.2.1.length<=1000)
   (qb l.length (fun i s=>∃(w:List Win),s=((t,(u,(((wU (l.take i):Nat):Int),((i:Int),())))),(w,()))∧(∀y∈w,y.2.2.2.1≠0)∧w.length<=16*i) (by omega) ⟨[],rfl,by simp,by simp⟩ ?_ ?_) ?_
  ·rintro i _ hi ⟨w,rfl,hw,hwl⟩;have hx:l[i]?=some l[i]:=FL hi;have hss:=hall _ (zqq hi);generalize l[i]=s at hx hss;have hc:=mG hx;have hcl:=za6 l (i+1);refine zf (zL (show(i:Int) < (l.length:Int) by omega)) (zb (zm hx (zd (fun h7=>za (qn ⟨w,?_,hw,by omega⟩)) fun h7=>?_)))
   ·have:=qt (qN.1 h7);rw[zQ (by omega),hc,zqu this];rfl
   have h7:s.2.2.2.1=7:=ql (qE.1 h7);rw[zqI h7]at hc;have hper:1<=s.2.2.2.2.2.1∧s.2.2.2.2.2.1<=240:=by
    rcases hss.cl with h | h
    ·exact h.2.1
    ·omega
   have hrn:=hss.rn;have hcnt:wU (l.take i) < o.length:=by omega
   have hon:o[wU (l.take i)]?=some (o[wU (l.take i)]'hcnt):=FL hcnt;generalize (o[wU (l.take i)]'hcnt)=off at hon;refine zk (J:=fun x=>∃(j:Int) (w:List Win),x.2=((t,(u,(j,()))),(w,()))∧(∀y∈w,y.2.2.2.1≠0)∧w.length<=16*(i+1))
    (qb s.2.2.2.2.2.2.2.2.length (fun k st=>∃(w:List Win),st=((t,(u,((k:Int),()))),(w,()))∧(∀y∈w,y.2.2.2.1≠0)∧w.length<=16*i+8*k) (by omega) ⟨w,rfl,hw,by omega⟩ ?_ ?_) ?_
   ·rintro k _ hk ⟨w,rfl,hw,hwl⟩;have hy:s.2.2.2.2.2.2.2.2[k]?=some s.2.2.2.2.2.2.2.2[k]:=FL hk;have hr:=(hss.rt _ (zqq hk)).1;generalize s.2.2.2.2.2.2.2.2[k]=r at hy hr;obtain⟨hops,eh,hm⟩:=zdK ht hu hss.sz hr;have hlen:hops.length=r.length:=by rw[<-hm,zsm]
    have hr8:=hr.n1;refine zb (zm hx (zf (zL (show(k:Int) < (s.2.2.2.2.2.2.2.2.length:Int) by omega)) (zb (zm hx (zb (zm hx (zb (zm hy ?_))))))));show zt (opt (xL (t,u,s,r,())) _) _;rw[eh,zq];refine zk (J:=fun x=>∃(j:Int) (w:List Win),x.2=((j,()),(w,()))∧(∀y∈w,y.2.2.2.1≠0)∧w.length<=16*i+8*(k+1))
     (qb hops.length (fun h st=>∃(w:List Win),st=(((h:Int),()),(w,()))∧(∀y∈w,y.2.2.2.1≠0)∧w.length<=16*i+8*k+h) (by omega) ⟨w,rfl,hw,by omega⟩ ?_ ?_) ?_
    ·rintro h _ hh ⟨w,rfl,hw,hwl⟩;have hz:hops[h]?=some hops[h]:=FL hh;generalize hops[h]=z at hz;refine zf (zL (show(h:Int) < (hops.length:Int) by omega)) (zb (zm hz (zi (jm (show u.1≠0 by omega)) (zb (zm hx (zb (zm hz (zb (zm hz (zb (zm hon (zb (zm hx (zb (zm hz (zf (qF (by show(w.length+1)*48<=_;omega) (by show w.length+1<=_;omega)) (za (qn ⟨w++[_],zqR (fun z=>((z,()),(w++[_],()))) (zQ (by omega)),?_,by simp;omega⟩))))))))))))))))));intro y hy2;rcases zqS.1 hy2 with h2 | h2
     ·exact hw y h2
     ·rw[zqU.1 h2];show wrF .i64 (s.2.2.2.2.2.1*u.1)≠0;have m:=QE (show 0<=s.2.2.2.2.2.1 by omega) hper.2 (show 0<=u.1 by omega) hg.2;have m1:1*1<=s.2.2.2.2.2.1*u.1:=Int.mul_le_mul hper.1 hg.1 (by omega) (by omega);rw[zU (by omega) (by omega)];omega
    ·rintro _ ⟨w,rfl,hw,hwl⟩;exact zi (zE (show ¬(hops.length:Int) < (hops.length:Int) by omega)) (za (zw ⟨_,w,rfl,hw,by omega⟩))
    rintro⟨c,st⟩ ⟨j,w,hst,hw,hwl⟩;have hst:st=_:=hst;subst hst;refine za (qn ⟨w,?_,hw,by omega⟩);rw[zQ (by omega)]
   ·rintro _ ⟨w,rfl,hw,hwl⟩;exact zb (zm hx (zi (zE (show ¬(s.2.2.2.2.2.2.2.2.length:Int) < (s.2.2.2.2.2.2.2.2.length:Int) by omega)) (za (zw ⟨_,w,rfl,hw,by omega⟩))))
   rintro⟨c,st⟩ ⟨j,w,hst,hw,hwl⟩;have hst:st=_:=hst;subst hst;refine za (qn ⟨w,?_,hw,by omega⟩);have hcn:wU l<=l.length:=by unfold wU;exact zrf _ _
   show((t,(u,(wrF .i64 (((wU (l.take i):Nat):Int)+1),(wrF .i64 ((i:Int)+1),())))),(w,()))=_;rw[zQ (by omega),zQ (by omega),hc]
  all_goals grind[zE,za,zw]
 obtain⟨⟨w,⟨⟩⟩,e,h⟩:=key;exact⟨w,e,h⟩
theorem zql{w:List Win}(hw:∀x∈w,x.2.2.2.1≠0)(hl:w.length<=1000)(port at':Int):∃v,YQ (w,port,at',())=some (v,()):=by
 have key:zt (YQ (w,port,at',())) fun _=>True:=by
  rw[zcL];unfold RY;refine zk (J:=fun x=>x.1=0∨x.1=1) (qb w.length (fun m s=>∃v:Bool,s=((v,((m:Int),())),())) (by omega) ⟨_,rfl⟩ ?_ ?_) ?_
  ·rintro m _ hm ⟨v,rfl⟩;have hx:w[m]?=some w[m]:=FL hm;have hne:=hw _ (zqq hm);generalize w[m]=x at hx hne;have on:zt (some (.inr ((v,(wrF .i64 ((m:Int)+1),())),())):Option ((Nat×((Bool×(Int×Unit))×Unit)) ⊕ ((Bool×(Int×Unit))×Unit))) (Nxt (fun x=>x.1=0∨x.1=1) fun s=>∃v:Bool,s=((v,(((m+1:Nat):Int),())),())):=za (qn ⟨v,by rw[zQ (by omega)]⟩);obtain⟨z,ez⟩:=zdJ (wrF .i64 (at' - x.2.2.1)) hne;refine zf (zL (show(m:Int) < (w.length:Int) by omega)) (zb (zb (zm hx (zd (fun _=>zb (zm hx (zb (zm hx ?_)))) fun _=>za (zx on)))));show zt (opt (vq (wrF .i64 (at' - x.2.2.1),x.2.2.2.1,())) _) _;rw[ez,zq];exact zb (zm hx (zd (fun _=>za (zv (za (zw (.inr rfl))))) fun _=>za (zx on)))
  all_goals grind[zE,za,zw]
 obtain⟨⟨v,⟨⟩⟩,e,_⟩:=key;exact⟨v,e⟩
theorem zpt{w:List Win}(hw:∀x∈w,x.2.2.2.1≠0)(hl:w.length<=1000)(port:Int){cycle:Int}(c0:0<=cycle)(c1:cycle<=960)(grid:Int):∃g,Qx (w,port,cycle,grid,())=some (g,()):=by
 have key:zt (Qx (w,port,cycle,grid,())) fun _=>True:=by
  rw[Sb];unfold En;refine zk (J:=fun _=>True) (qb cycle.toNat (fun i s=>∃(L:List (Int×Int)) (z:Int),s=(((),((i:Int),())),((L,(z,())),()))∧L.length<=i) (by omega) ⟨[],_,rfl,by simp⟩ ?_ ?_) ?_
  ·rintro i _ hi ⟨L,z,rfl,hL⟩;obtain⟨v,ev⟩:=zql hw hl port (wrF .i64 ((i:Int)*grid));refine zf (zL (show(i:Int) < cycle by omega)) (zb ?_);show zt (opt (YQ (w,port,wrF .i64 ((i:Int)*grid),())) _) _;rw[ev,zq];have app:∀y:Int×Int,zX L.length ([y]:List (Int×Int)).length 16=true:=fun y=>qF (by show(L.length+1)*16<=_;omega) (by show L.length+1<=_;omega);have rest:∀mask:Int,zt (opt (bif(zg (0) ((((L).length:Nat):Int)))then opt (atI (L) ((wrF .i64 (((((L).length:Nat):Int) - 1))))) fun x3=>
     opt (gl (L) ((Int.toNat (wrF .i64 (((((L).length:Nat):Int) - 1)))))) fun x4=>
     bif(zj (x4.1) (mask))then opt (atI (L) ((wrF .i64 (((((L).length:Nat):Int) - 1))))) fun x5=>
      opt (gl (L) ((Int.toNat (wrF .i64 (((((L).length:Nat):Int) - 1)))))) fun x6=>
      opt (atI (L) ((wrF .i64 (((((L).length:Nat):Int) - 1))))) fun x7=>
      opt (gl (L) ((Int.toNat (wrF .i64 (((((L).length:Nat):Int) - 1)))))) fun x8=>
      some ((0:Nat),(((),()),((((L).set ((Int.toNat (wrF .i64 (((((L).length:Nat):Int) - 1))))) ((x8.1,(wrF .i64 ((x6.2+grid)))))),(z,())),())))
     else bif(zX ((L).length) ((((mask,grid)::[]:List (Int×Int))).length) (16))then some (0,(((),()),(((L++((mask,grid)::[])),(z,())),())))
      else none
    else bif(zX ((L).length) ((((mask,grid)::[]:List (Int×Int))).length) (16))then some (0,(((),()),(((L++((mask,grid)::[])),(z,())),())))
     else none) fun x9=>some (.inr (((),(wrF .i64 ((i:Int)+1),())),((x9.2.2.1.1,(x9.2.2.1.2.1,())),())):(Nat×((Unit×(Int×Unit))×(((List (Int×Int))×(Int×Unit))×Unit))) ⊕ ((Unit×(Int×Unit))×(((List (Int×Int))×(Int×Unit))×Unit)))) (Nxt (fun _=>True) fun s=>∃(L:List (Int×Int)) (z:Int),s=(((),(((i+1:Nat):Int),())),((L,(z,())),()))∧L.length<=i+1):=fun mask=>by
    have qa:∀L':List (Int×Int),L'.length<=i+1->zt (some (.inr (((),(wrF .i64 ((i:Int)+1),())),((L',(z,())),())):(Nat×((Unit×(Int×Unit))×(((List (Int×Int))×(Int×Unit))×Unit))) ⊕ ((Unit×(Int×Unit))×(((List (Int×Int))×(Int×Unit))×Unit)))) (Nxt (fun _=>True) fun s=>∃(L:List (Int×Int)) (z:Int),s=(((),(((i+1:Nat):Int),())),((L,(z,())),()))∧L.length<=i+1):=fun L' h=>za (qn ⟨L',z,by rw[zQ (by omega)],h⟩)
    refine zb (zd (fun h=>?_) fun _=>zf (app _) (za (qa _ (by simp;omega))))
    have h:0 < L.length:=by have:=zZ h;omega
    have e:wrF .i64 ((L.length:Int) - 1)=((L.length - 1:Nat):Int):=by rw[zU (by omega) (by omega)];omega
    have hx:L[L.length - 1]?=some (L[L.length - 1]'(by omega)):=FL (by omega)
    have hgl:Int.toNat ((L.length - 1:Nat):Int) < L.length:=by rw[zqO];omega
    rw[e]
    refine zb (zm hx (zb (jM hgl fun _ _=>zd (fun _=>zb (zm hx (zb (jM hgl fun _ _=>zb (zm hx (zb (jM hgl fun _ _=>za (qa _ ?_)))))))) fun _=>zf (app _) (za (qa _ (by simp;omega))))))
    rw[zrX];omega
   exact zd (fun _=>za (rest 128)) fun _=>za (rest 127)
  all_goals grind[zE,za,zw]
 obtain⟨⟨v,⟨⟩⟩,e,_⟩:=key;exact⟨v,e⟩
theorem zpu{t:qT}(ht:ya t){u:zf3}(hu:kO u){l:List wI}(hall:Yw t l)(h12:l.length<=12){o:List Int}(ho:o.length=wU l){cycle:Int}(c0:0<=cycle)(c1:cycle<=960) : ∃gs:List Gts,uD (t,u,l,o,cycle,())=some (gs,())∧gs.length<=48:=by
 obtain⟨w,ew,hw,hwl⟩:=zk3 ht hu hall h12 ho;have hls:=ht.sz.ls;have key:zt (uD (t,u,l,o,cycle,())) fun r=>r.1.length<=48:=by
  rw[zar];unfold Lu;rw[ew,zq];refine zk (J:=fun x=>x.2.2.1.length<=48) (qb (2*t.2.2.length) (fun i s=>∃(L:List Gts),s=((u,((i:Int),())),(L,()))∧L.length=i) (by omega) ⟨[],rfl,rfl⟩ ?_ ?_) ?_
  ·rintro i _ hi ⟨L,rfl,hL⟩;obtain⟨g,eg⟩:=zpt hw hwl (i:Int) c0 c1 u.1;refine zf (zL (show(i:Int) < wrF .i64 (2*((t.2.2.length:Nat):Int)) by rw[zU (by omega) (by omega)];omega)) ?_;show zt (opt (Qx (w,(i:Int),cycle,u.1,())) _) _;rw[eg,zq];refine zf (qF (by show(L.length+1)*32<=_;omega) (by show L.length+1<=_;omega)) (za (qn ⟨L++[g],?_,by simp[hL]⟩));rw[zQ (by omega)]
  all_goals grind[zE,wrF,zU,za,zw]
 obtain⟨⟨gs,⟨⟩⟩,e,h⟩:=key;exact⟨gs,e,h⟩
abbrev Pol:=Int×(Int×Int)×Int×Int
abbrev Cfg:=Fab×List wI×List Int×List Int×List Pol×Int×Int
theorem zoI{a b c:Int}(ha:0<=a∧a<=255)(hb:0<=b∧b<=255)(hc:0<=c∧c<=255):∃u,uY (a,b,c,())=some (u,())∧kO u∧∀k:Int,0 < k->k<=1000->kO (u.1,k,u.2.2):=by refine⟨(100+20*a,b % 40,c,8000),?_,⟨⟨by show 1<=100+20*a;omega,by show 100+20*a<=10000;omega⟩,⟨by show 0<=b % 40;omega,by show b % 40<=1000;omega⟩,⟨by show 0<=c;omega,by show c<=10000;omega⟩,by show(1542:Int)<=8000;omega,by show(8000:Int)<=65536;omega⟩,fun k k0 k1=>⟨⟨by show 1<=100+20*a;omega,by show 100+20*a<=10000;omega⟩,⟨by show 0<=k;omega,k1⟩,⟨by show 0<=c;omega,by show c<=10000;omega⟩,by show(1542:Int)<=8000;omega,by show(8000:Int)<=65536;omega⟩⟩;grind[DQ,lE,zU,Int.tmod_eq_emod_of_nonneg]
theorem zb8{t:qT}(ht:ya t){L:List iy}(hs:∀y∈L,sdP y)(hL:L.length<=1000000000000000):∃l,xA (t,L,())=some (l,())∧l.length<=6:=by
 suffices key:zt (xA (t,L,())) fun r=>r.1.length<=6 by obtain⟨⟨l,⟨⟩⟩,e,h⟩:=key;exact⟨l,e,h⟩
 rw[Ei];unfold lO;refine zk (J:=fun x=>x.2.2.1.length<=6) (qb L.length (fun i s=>∃out:List wI,s=((t,((i:Int),())),(out,()))∧out.length<=6) (by omega) ⟨[],rfl,by simp⟩ ?_ ?_) ?_
 ·rintro i _ hi ⟨out,rfl,ho⟩;have hx:L[i]?=some L[i]:=FL hi;have hxs:=hs _ (zqq hi);generalize L[i]=x at hx hxs;refine zf (zL (show(i:Int) < (L.length:Int) by omega)) (zd (fun h6=>?_) (fun _=>za (zw ho)));have h6:(out.length:Int) < 6:=zZ h6;obtain⟨s,is,es⟩:=zgT ht hxs (wrF .i64 ((out.length:Int)+1));refine zb (zm (n:=i) hx ?_);show zt (opt (xp (x,t,wrF .i64 ((out.length:Int)+1),())) _) _;rw[es,zq];refine zk (J:=fun x=>x.2.2.1.length<=6) (zd (fun _=>zf (qF (by show(out.length+1)*96<=_;omega) (by show out.length+1<=_;omega)) (za ?_)) (fun _=>za ho)) ?_
  ·show(out++[s]).length<=6;simp;omega
  ·rintro⟨k,⟨⟩,o2,⟨⟩⟩ h2;exact za (qn ⟨o2,zqR (fun z=>((t,(z,())),(o2,()))) (zQ (by omega)),h2⟩)
 all_goals grind[zE,za,zw]
structure OU(c:Cfg):Prop where
 t:ya c.1.1
 l1:1<=c.1.1.2.2.length
 u:kO c.1.2.1
 g:c.1.2.2.1.length<=48
 st:Yw c.1.1 c.2.1
 n6:c.2.1.length<=6
 of:c.2.2.1.length=wU c.2.1
 sh:(c.2.2.2.1.length:Int)=c.1.1.1
 po:c.2.2.2.2.1=[]∨c.2.2.2.2.1=[(0,(400,1000),800,2000)]
 lr:c.2.2.2.2.2=(16,1099511627776)
theorem zm3(a b:List wI):wU (a++b)=wU a+wU b:=by unfold wU;grind
theorem zpv{b:List wI}(h:∀s∈b,s.2.2.2.1=6):wU b=0:=by grind[wU,List.length_eq_zero_iff,List.filter_eq_nil_iff]
theorem zoJ{n:Fab}(hn:n.2.2.1.length<=48)(l:List wI)(s:wI):∃r e,xi (n,l,s,())=some (r,e,())∧(e=0->Yw n.1 r∧(∀x∈r,x.2.2.2.1=6)∧r.length=l.length+1):=by obtain⟨r,e,h1,h2⟩:=zm1 (n:=n) (by omega) l s;refine⟨r,e,h1,fun he=>?_⟩;obtain⟨rfl,ok⟩:=h2 he;exact⟨ok.a,fun x hx=>(ok.c x hx).1,by simp⟩
theorem zk4{t:qT}(ht:ya t)(l1:1<=t.2.2.length){u:Int×Int×Int×Int}(hu:kO u){gs:List Gts}(hg:gs.length<=48){S:List wI}(hS:Yw t S)(hS3:S.length<=3){o:List Int}(ho:o.length=wU S){dl:List iy}(hdl:∀x∈dl,sdP x)(hll:dl.length*10<=140737488355328)(sh:List Int)(meter:Bool)(mo:Int){sz:List Int}(hz:sz=[]){pz:List Pol×Int×Int}(hp:pz=([],16,1099511627776)) : zt (opt (zJ (fun s23:((Int×Unit)×((List (Bool×(Bool×(Int×(Int×(Int×(Int×(Int×Int))))))))×Unit))=>bif(zg (s23.1.1) ((((dl).length:Nat):Int)))then opt (opt (atI (dl) (s23.1.1)) fun x24=>bif x24.1 then opt (atI (dl) (s23.1.1)) fun x25=>bif(zX ((s23.2.1).length) (((x25::[])).length) (10))then some (0,((),((s23.2.1++(x25::[])),())))else none else some (0,((),(s23.2.1,())))) fun x26=>some (.inr (((wrF .i64 ((s23.1.1+1))),()),(x26.2.2.1,())))else some (.inl (0,((s23.1.1,()),(s23.2.1,()))))) zR ((0,()),([],()))) fun x27=>opt (xA ((t,(x27.2.2.1,())))) fun x28=>opt (zJ (fun s29:((Unit×((List (Int×(Int×(Int×(Int×(Int×(Int×((Int×Int)×(Int×(List (List Int)))))))))))×(Int×Unit)))×((((Int×((List Bool)×(List (Int×(Int×(Int×Int))))))×((Int×(Int×(Int×Int)))×((List ((List (Int×Int))×Int))×Int)))×((List (Int×(Int×(Int×(Int×(Int×(Int×((Int×Int)×(Int×(List (List Int)))))))))))×((List Int)×((List Int)×(((List (Int×((Int×Int)×(Int×Int))))×(Int×Int))×Unit)))))×Unit))=>bif(zg (s29.1.2.2.1) ((((x28.1).length:Nat):Int)))then bif(zg ((((s29.1.2.1).length:Nat):Int)) (3))then opt (atI (x28.1) (s29.1.2.2.1)) fun x30=>opt (xi ((s29.2.1.1,(s29.1.2.1,(((wrF .i64 ((100+s29.1.2.2.1))),x30.2),()))))) fun x31=>opt (bif(zj (x31.2.1) (0))then some (0,((x31.1,()),()))else some (0,((s29.1.2.1,()),()))) fun x32=>some (.inr (((),(x32.2.1.1,((wrF .i64 ((s29.1.2.2.1+1))),()))),((s29.2.1.1,(s29.2.1.2.1,(s29.2.1.2.2.1,(s29.2.1.2.2.2.1,(s29.2.1.2.2.2.2.1,()))))),())))else some (.inl (0,(((),(s29.1.2.1,(s29.1.2.2.1,()))),((s29.2.1.1,(s29.2.1.2.1,(s29.2.1.2.2.1,(s29.2.1.2.2.2.1,(s29.2.1.2.2.2.2.1,()))))),()))))else some (.inl (0,(((),(s29.1.2.1,(s29.1.2.2.1,()))),((s29.2.1.1,(s29.2.1.2.1,(s29.2.1.2.2.1,(s29.2.1.2.2.2.1,(s29.2.1.2.2.2.2.1,()))))),()))))) zR (((),([],(0,()))),(((t,(u,(gs,mo))),(S,(o,(sz,(pz,()))))),()))) fun x33=>bif(zX (0) ((x33.2.2.1.2.1).length) (96))then bif(zX ((x33.2.2.1.2.1).length) ((x33.2.1.2.1).length) (96))then opt (zJ (fun s34:((Unit×(Int×Unit))×((((Int×((List Bool)×(List (Int×(Int×(Int×Int))))))×((Int×(Int×(Int×Int)))×((List ((List (Int×Int))×Int))×Int)))×((List (Int×(Int×(Int×(Int×(Int×(Int×((Int×Int)×(Int×(List (List Int)))))))))))×((List Int)×((List Int)×(((List (Int×((Int×Int)×(Int×Int))))×(Int×Int))×Unit)))))×Unit))=>bif(zg (s34.1.2.1) (s34.2.1.1.1.1))then opt (bif(zg (s34.1.2.1) ((((sh).length:Nat):Int)))then opt (atI (sh) (s34.1.2.1)) fun x35=>some (0,(((jY ((wrF .i64 ((0 - s34.2.1.1.2.1.2.1)))) ((wN ((wrF .i64 (x35))) (s34.2.1.1.2.1.2.1)))),()),()))else some (0,((0,()),()))) fun x36=>bif(zX ((s34.2.1.2.2.2.1).length) (((x36.2.1.1::[])).length) (8))then some (.inr (((),((wrF .i64 ((s34.1.2.1+1))),())),((s34.2.1.1,(s34.2.1.2.1,(s34.2.1.2.2.1,((s34.2.1.2.2.2.1++(x36.2.1.1::[])),(s34.2.1.2.2.2.2.1,()))))),())))else none else some (.inl (0,(((),(s34.1.2.1,())),((s34.2.1.1,(s34.2.1.2.1,(s34.2.1.2.2.1,(s34.2.1.2.2.2.1,(s34.2.1.2.2.2.2.1,()))))),()))))) zR (((),(0,())),((x33.2.2.1.1,((x33.2.2.1.2.1++x33.2.1.2.1),(x33.2.2.1.2.2.1,(x33.2.2.1.2.2.2.1,(x33.2.2.1.2.2.2.2.1,()))))),()))) fun x37=>opt (bif meter then some (0,(((x37.2.2.1.1,(x37.2.2.1.2.1,(x37.2.2.1.2.2.1,(x37.2.2.1.2.2.2.1,(((0,((400,1000),(800,2000)))::[]),x37.2.2.1.2.2.2.2.1.2))))),()),()))else some (0,(((x37.2.2.1.1,(x37.2.2.1.2.1,(x37.2.2.1.2.2.1,(x37.2.2.1.2.2.2.1,x37.2.2.1.2.2.2.2.1)))),()),()))) fun x38=>some (x38.2.1.1,())else none else none:Option (Cfg×Unit)) fun r=>OU r.1:=by
 have n0:=ht.sz.n0;have n1:=ht.sz.n1;refine zk (J:=fun x=>(∀y∈x.2.2.1,sdP y)∧x.2.2.1.length<=1000000000000000) (qb dl.length (fun i s=>∃L:List iy,s=(((i:Int),()),(L,()))∧L.length<=i∧∀y∈L,sdP y) (by omega) ⟨[],rfl,by simp,fun y hy=>by cases hy⟩ ?_ ?_) ?_
 ·rintro i _ hi ⟨L,rfl,hL,hs⟩;have hx:dl[i]?=some dl[i]:=FL hi;have hxs:=hdl _ (zqq hi);generalize dl[i]=x at hx hxs;refine zf (zL (show(i:Int) < (dl.length:Int) by omega)) (zk (J:=fun z=>z.2.2.1.length<=i+1∧∀y∈z.2.2.1,sdP y) (zb (zm hx (zd (fun _=>zb (zm hx (zf (qF (by show(L.length+1)*10<=_;omega) (by show L.length+1<=_;omega)) (za ⟨by show(L++[x]).length<=_;simp;omega,fun y hy=>?_⟩)))) fun _=>za ⟨by show L.length<=_;omega,hs⟩))) ?_)
  ·rcases zqS.1 hy with h | h
   ·exact hs y h
   ·rw[zqU.1 h];exact hxs
  ·rintro⟨k,⟨⟩,L2,⟨⟩⟩ ⟨h1,h2⟩;exact za (qn ⟨L2,zqR (fun z=>((z,()),(L2,()))) (zQ (by omega)),h1,h2⟩)
 ·rintro _ ⟨L,rfl,hL,hs⟩;exact zi (zE (show ¬(dl.length:Int) < (dl.length:Int) by omega)) (za (zw ⟨hs,by show L.length<=_;omega⟩))
 rintro⟨k,⟨z,⟨⟩⟩,L,⟨⟩⟩ ⟨hs,hL⟩;simp only at hs hL;obtain⟨l,el,hl6⟩:=zb8 ht hs hL;rw[el,zq];refine zk (J:=fun x=>∃b:List wI,Yw t b∧(∀s∈b,s.2.2.2.1=6)∧b.length<=3∧x.2.1.2.1=b∧x.2.2.1=((t,(u,(gs,mo))),(S,(o,(sz,(pz,())))))) (qb l.length (fun i s=>∃b:List wI,Yw t b∧(∀s∈b,s.2.2.2.1=6)∧b.length<=3∧s=(((),(b,((i:Int),()))),(((t,(u,(gs,mo))),(S,(o,(sz,(pz,()))))),()))) (by omega) ⟨[],(fun s h=>by cases h),(fun s h=>by cases h),by simp,rfl⟩ ?_ ?_) ?_
 ·rintro i _ hi ⟨b,hb,hb6,hb3,rfl⟩;have hx:l[i]?=some l[i]:=FL hi;generalize l[i]=x at hx;refine zf (zL (show(i:Int) < (l.length:Int) by omega)) (zd (fun h3=>zb (zm hx ?_)) fun _=>za (zw ⟨b,hb,hb6,hb3,rfl,rfl⟩));have h3:(b.length:Int) < 3:=zZ h3;obtain⟨r,e,er,hr⟩:=zoJ (n:=(t,u,gs,mo)) hg b (wrF .i64 (100+(i:Int)),x.2);show zt (opt (xi ((t,u,gs,mo),b,(wrF .i64 (100+(i:Int)),x.2),())) _) _;rw[er,zq];refine zk (J:=fun z=>Yw t z.2.1.1∧(∀s∈z.2.1.1,s.2.2.2.1=6)∧z.2.1.1.length<=3) (zd (fun h=>za ?_) fun _=>za ⟨hb,hb6,hb3⟩) ?_
  ·obtain⟨q1,q2,q3⟩:=hr (ql h);exact⟨q1,q2,by show r.length<=3;omega⟩
  ·rintro⟨k,⟨b2,⟨⟩⟩,⟨⟩⟩ ⟨q1,q2,q3⟩;exact za (qn ⟨b2,q1,q2,q3,zqR (fun z=>(((),(b2,(z,()))),(((t,(u,(gs,mo))),(S,(o,(sz,(pz,()))))),()))) (zQ (by omega))⟩)
 ·rintro _ ⟨b,hb,hb6,hb3,rfl⟩;exact zi (zE (show ¬(l.length:Int) < (l.length:Int) by omega)) (za (zw ⟨b,hb,hb6,hb3,rfl,rfl⟩))
 rintro⟨k,⟨⟨⟩,b,z2,⟨⟩⟩,F,⟨⟩⟩ ⟨b',hb,hb6,hb3,rfl,hF⟩;have hF:F=_:=hF;subst hF;dsimp only at hb hb6 hb3;have hap:Yw t (S++b):=fun s hs=>by
  rcases zqS.1 hs with h | h
  ·exact hS s h
  ·exact hb s h
 refine zf (qF (by show(0+S.length)*96<=_;omega) (by show 0+S.length<=_;omega)) (zf (qF (by show(S.length+b.length)*96<=_;omega) (by show S.length+b.length<=_;omega)) ?_);refine zk (J:=fun x=>∃s2:List Int,s2.length=t.1.toNat∧x.2.2.1=((t,(u,(gs,mo))),(S++b,(o,(s2,(pz,())))))) (qb t.1.toNat (fun i s=>∃s2:List Int,s2.length=i∧s=(((),((i:Int),())),(((t,(u,(gs,mo))),(S++b,(o,(s2,(pz,()))))),()))) (by omega) ⟨sz,by rw[hz];rfl,rfl⟩ ?_ ?_) ?_
 ·rintro i _ hi ⟨s2,h2,rfl⟩;refine zf (zL (show(i:Int) < t.1 by omega)) (zk (J:=fun _=>True) (zd (fun h=>zb (wJ (by show 0<=(i:Int);omega) (zZ h) fun _ _=>za trivial)) fun _=>za trivial) ?_);rintro⟨k,⟨v,⟨⟩⟩,⟨⟩⟩ -;refine zf (qF (by show(s2.length+1)*8<=_;omega) (by show s2.length+1<=_;omega)) (za (qn ⟨s2++[v],by simp[h2],?_⟩));exact zqR (fun z=>(((),(z,())),(((t,(u,(gs,mo))),(S++b,(o,(s2++[v],(pz,()))))),()))) (zQ (by omega))
 ·rintro _ ⟨s2,h2,rfl⟩;exact zi (zE (show ¬((t.1.toNat:Nat):Int) < t.1 by omega)) (za (zw ⟨s2,h2,rfl⟩))
 rintro⟨k,st,F,⟨⟩⟩ ⟨s2,h2,hF⟩;have hF:F=_:=hF;subst hF;have fin:∀pl:List Pol,(pl=[]∨pl=[(0,(400,1000),800,2000)])->OU ((t,u,gs,mo),S++b,o,s2,pl,16,1099511627776):=fun pl hpl=>⟨ht,l1,hu,hg,hap,by show(S++b).length<=6;simp;omega,by show o.length=wU (S++b);rw[zm3,zpv hb6,ho];rfl,by show(s2.length:Int)=t.1;omega,hpl,rfl⟩;subst hp;refine zk (J:=fun x=>OU x.2.1.1) (zd (fun _=>za (fin _ (.inr rfl))) fun _=>za (fin _ (.inl rfl))) ?_;grind[za]
abbrev HH:=FJ×(Int×Int×Int)×List iy×List Int×Bool×Int
structure zm4(d:HH):Prop where
 t:tdP d.1
 u:(0<=d.2.1.1∧d.2.1.1<=255)∧(0<=d.2.1.2.1∧d.2.1.2.1<=255)∧(0<=d.2.1.2.2∧d.2.1.2.2<=255)
 l:∀x∈d.2.2.1,sdP x
 ll:d.2.2.1.length*10<=140737488355328
abbrev StC:=(Unit×Unit×Int×Unit)×(Fab×List wI×List Int×List Int×(List Pol×Int×Int)×Unit)×(Fab×List wI×List Int×List Int×(List Pol×Int×Int)×Unit)×Unit
abbrev stC(t:qT)(u:Int×Int×Int×Int)(z:Int):StC:=(((),((),(z,()))),(((t,(u,([],339))),([],([],([],(([],(16,1099511627776)),()))))),((((0,([],[])),((0,(0,(0,0))),([],0))),([],([],([],(([],(0,0)),()))))),())))
theorem zm5{d:HH}(hd:zm4 d):∃c,yq (d,())=some (c,())∧OU c:=by
 suffices key:zt (yq (d,())) fun r=>OU r.1 by obtain⟨⟨c,⟨⟩⟩,e,h⟩:=key;exact⟨c,e,h⟩
 have hll:=hd.ll;have hl:=hd.l;obtain⟨b,c,ls,et,ht,hls⟩:=zjh hd.t;have l1:1<=(tOf b c ls).2.2.length:=hls;generalize tOf b c ls=t at et ht l1;obtain⟨u0,eu,hu0,huk⟩:=zoI hd.u.1 hd.u.2.1 hd.u.2.2;rw[iG];unfold Je;rw[et,zq,eu,zq];refine zk (J:=fun x=>∃u,kO u∧x.2.2.1=(((t,(u,([],339))),([],([],([],(([],(16,1099511627776)),()))))))) (zd (fun h=>zd (fun h2=>za ⟨_,huk _ (zZ h) (zP (qN.1 h2)),rfl⟩) fun _=>za ⟨_,hu0,rfl⟩) fun _=>za ⟨_,hu0,rfl⟩) ?_;rintro⟨k,⟨⟨⟩,⟨⟩⟩,F,⟨⟩⟩ ⟨u,hu,hF⟩;have hF:F=_:=hF;subst hF;refine zk (J:=fun x=>(∀y∈x.2.2.1,sdP y)∧x.2.2.1.length<=1000000000000000) (qb d.2.2.1.length (fun i s=>∃L:List iy,s=(((i:Int),()),(L,()))∧L.length<=i∧∀y∈L,sdP y) (by omega) ⟨[],rfl,by simp,fun y hy=>by cases hy⟩ ?_ ?_) ?_
 ·rintro i _ hi ⟨L,rfl,hL,hs⟩;have hx:d.2.2.1[i]?=some d.2.2.1[i]:=FL hi;have hxs:=hl _ (zqq hi);generalize d.2.2.1[i]=x at hx hxs;refine zf (zL (show(i:Int) < (d.2.2.1.length:Int) by omega)) (zk (J:=fun z=>z.2.2.1.length<=i+1∧∀y∈z.2.2.1,sdP y) (zb (zm hx (zd (fun _=>zb (zm hx (zf (qF (by show(L.length+1)*10<=_;omega) (by show L.length+1<=_;omega)) (za ⟨by show(L++[x]).length<=_;simp;omega,fun y hy=>?_⟩)))) fun _=>za ⟨by show L.length<=_;omega,hs⟩))) ?_);all_goals grind[List.mem_singleton,za,qn,zQ]
 ·grind[zE,za,zw]
 rintro⟨k2,⟨z,⟨⟩⟩,L,⟨⟩⟩ ⟨hs,hL⟩;simp only at hs hL;obtain⟨l,el,hl6⟩:=zb8 ht hs hL;rw[el,zq];obtain⟨m,hm,hm3,hml⟩:∃m:Nat,wN 3 (l.length:Int)=(m:Int)∧m<=3∧m<=l.length:=by rw[Km];exact⟨min 3 l.length,by omega,by omega,by omega⟩
 have none_t:=zk4 ht l1 hu (gs:=[]) (by simp) (S:=[]) (fun s h=>by cases h) (by simp) (o:=[]) rfl hl hll d.2.2.2.1 d.2.2.2.2.1 339 (sz:=[]) rfl rfl;refine za3 (m+1) (fun k s=>s=stC t u ((m:Int) - (k:Int))) (by omega) ?_ ?_
 ·grind
 ·rintro k _ hk rfl;by_cases hkm:k=m+1
  ·subst hkm;have e0:zg ((m:Int) - ((m+1:Nat):Int)) 0=true:=zL (by omega);refine zi (by show(!zg ((m:Int) - ((m+1:Nat):Int)) 0)=false;rw[e0];rfl) (za (.inr ⟨rfl,zi (by show(!zg ((m:Int) - ((m+1:Nat):Int)) 0)=false;rw[e0];rfl) ?_⟩));exact none_t
  obtain⟨n,hn,hn2⟩:∃n:Nat,(m:Int) - (k:Int)=(n:Int)∧n<=m:=⟨m - k,by omega,by omega⟩;rw[hn];have e0:(!zg (n:Int) 0)=true:=by rw[zE (by omega)];rfl
  have ecut:Yc l none (some (n:Int)) none=some (l.take n):=zho l n (by omega);obtain⟨p,e,ep,hp⟩:=zqk ht hu (l.take n);have step:∀X:Type,(∃s',(Sum.inr (stC t u (wrF .i64 ((n:Int) - 1))):X ⊕ StC)=.inr s'∧k < m+1∧s'=stC t u ((m:Int) - ((k+1:Nat):Int))):=fun X=>⟨_,rfl,by omega,by rw[zU (by omega) (by omega)];exact zqR (stC t u) (by omega)⟩;by_cases he:e=0;rotate_left
  ·refine zf e0 (zb (jR ecut ?_));show zt (opt (vC (t,u,l.take n,())) _) _;rw[ep,zq];exact zf (by show(!zj e 0)=true;rw[jm he];rfl) (za (.inl (step _)))
  subst he;obtain⟨q1,q2,q3,q4⟩:=hp rfl;obtain⟨o,pr,e2,es,hs2⟩:=zoH (p:=p);by_cases he:e2=0;rotate_left
  ·refine zf e0 (zb (jR ecut ?_));show zt (opt (vC (t,u,l.take n,())) _) _;rw[ep,zq];refine zi rfl ?_;show zt (opt (xh (p,60,())) _) _;rw[es,zq];exact zi (jm he) (za (.inl (step _)))
  subst he;obtain⟨hpr,hol⟩:=hs2 rfl;have hcl:wU (l.take n)<=(l.take n).length:=by unfold wU;exact zrf _ _
  obtain⟨cy,ec,c0,c1⟩:=zji (l:=p.1) (by omega) fun x hx=>by have:=q4 x hx;omega
  obtain⟨gs,eg,hg⟩:=zpu ht hu q1 q2 (o:=o) (by rw[hol,q3]) c0 c1;have rest:=zk4 ht l1 hu hg q1 (by simp;omega) (o:=o) (by rw[hol,q3]) hl hll d.2.2.2.1 d.2.2.2.2.1 339 (sz:=[]) rfl rfl;refine zf e0 (zb (jR ecut ?_));show zt (opt (vC (t,u,l.take n,())) _) _;rw[ep,zq];refine zi rfl ?_;show zt (opt (xh (p,60,())) _) _;rw[es,zq];refine zf rfl (zb (jR ecut ?_));show zt (opt (xg (p.1,())) _) _;rw[ec,zq];show zt (opt (uD (t,u,l.take n,o,cy,())) _) _;rw[eg,zq];refine za (.inr ⟨rfl,?_⟩);refine zf e0 (zb (jR ecut ?_));show zt (opt (vC (t,u,l.take n,())) _) _;rw[ep,zq];refine zi rfl ?_;show zt (opt (xh (p,60,())) _) _;rw[es,zq];refine zf rfl (zb (jR ecut ?_));grind[zt,opt,xg,zq,uD]
end Go.Proofs.YtlfkgkedfciccaaGreat.dd
namespace Go.Proofs.YtlfkgkedfciccaaGreat.nd
open Go Go.Fz Go.Fz.Sy
def inP(n a b:Int):Prop:=a<=n∧n<=b
def yK(b:Int×Int):Prop:=inP b.1 1 1048576∧inP b.2 1 2097152
theorem GV(n a b:Int):qZ (n,a,b,())=some (tv (inP n a b),()):=by rw[EM];unfold lZ;refine jj (zd (fun h=>?_) fun h=>?_)<;>refine za ?_<;>simp only[inP,qN,qE,vH,vI,gk]at *<;>grind
theorem zk5(n a b:Int):vf (n,a,b,())=some (tv (inP n a b),()):=by rw[Ij];unfold pd;refine jj (zd (fun h=>?_) fun h=>?_)<;>refine za ?_<;>simp only[inP,qN,qE,vH,vI,gk]at *<;>grind
theorem zm6(n a b:Int):vU (n,a,b,())=some (tv (inP n a b),()):=by rw[nm];unfold Ge;refine jj (zd (fun h=>?_) fun h=>?_)<;>refine za ?_<;>simp only[inP,qN,qE,vH,vI,gk]at *<;>grind
theorem zk6(n a b:Int):vF (n,a,b,())=some (tv (inP n a b),()):=by rw[zc1];unfold Sw;refine jj (zd (fun h=>?_) fun h=>?_)<;>refine za ?_<;>simp only[inP,qN,qE,vH,vI,gk]at *<;>grind
theorem zf5(n a b:Int):ZQ (n,a,b,())=some (tv (inP n a b),()):=by rw[zc2];unfold SA;refine jj (zd (fun h=>?_) fun h=>?_)<;>refine za ?_<;>simp only[inP,qN,qE,vH,vI,gk]at *<;>grind
theorem mH(b:Int×Int):yb (b,())=some (tv (yK b),()):=by rw[eW];unfold bC yK inP;refine jj ?_;grind[za,qN,qE,vH,vI,gk]
theorem OV(b:Int×Int):uq (b,())=some (bif tv (yK b)then 0 else 130,()):=by
 rw[HW];unfold oP;simp only[zm6,zq];refine Qh (by decide) ?_;unfold yK;repeat' first | with_reducible refine zx ?_ | with_reducible refine zv ?_ | refine zd (fun h=>?_) (fun h=>?_) | refine za ?_ | refine zb ?_
 all_goals grind[qN,qE,QD,dt]
def Yx(c p:Int×Int):(Int×Int×Int)×Int:=bif tv (yK c∧yK p)then(bif zg p.2 c.2 then((0,0,0),2)else((0,c.1*1048576,p.1*1048576),0))else((0,0,0),130)
theorem zk7(c p:Int×Int):XL (c,p,())=some ((Yx c p).1,(Yx c p).2,()):=by
 rw[zaN];unfold Ml Yx;simp only[OV,zq,pD (e:=130) (by decide)];by_cases hc:yK c
 ·by_cases hp:yK p
  ·have e1:wrF .i64 (c.1*1048576)=c.1*1048576:=by obtain⟨⟨h1,h2⟩,_⟩:=hc;exact zU (by omega) (by omega)
   have e2:wrF .i64 (p.1*1048576)=p.1*1048576:=by obtain⟨⟨h1,h2⟩,_⟩:=hp;exact zU (by omega) (by omega)
   rw[md];unfold fo;rw[qX hc,qX hp,qX ⟨hc,hp⟩,e1,e2];cases zg p.2 c.2<;>rfl
  ·rw[qX hc,wj hp,wj (p:=yK c∧yK p) fun h=>hp h.2];rfl
 grind[wj,yK]
theorem zhz(c p:Int×Int):Wd (c,p,())=some ((Yx c p).1,(Yx c p).2,()):=by
 rw[zaI];unfold Me Yx;simp only[mH,zq];by_cases hc:yK c
 ·by_cases hp:yK p
  ·have e1:wrF .i64 (c.1*1048576)=c.1*1048576:=by obtain⟨⟨h1,h2⟩,_⟩:=hc;exact zU (by omega) (by omega)
   have e2:wrF .i64 (p.1*1048576)=p.1*1048576:=by obtain⟨⟨h1,h2⟩,_⟩:=hp;exact zU (by omega) (by omega)
   rw[qX hc,qX hp,qX ⟨hc,hp⟩,e1,e2];show(bif zg p.2 c.2 then _ else _)=_;grind
  ·rw[qX hc,wj hp,wj (p:=yK c∧yK p) fun h=>hp h.2];rfl
 ·rw[wj hc,wj (p:=yK c∧yK p) fun h=>hc h.1];rfl
def zjj(c p:Int×Int)(m:Int×Int×Int):Prop:=inP m.1 0 1099511627776∧inP m.2.1 0 (Yx c p).1.2.1∧inP m.2.2 0 (Yx c p).1.2.2
def UK(c p:Int×Int)(m:Int×Int×Int):Int:=bif zj (Yx c p).2 0 then(bif tv (zjj c p m)then 0 else 420)else(Yx c p).2
theorem zf6(c p:Int×Int)(m:Int×Int×Int):kF (c,p,m,())=some (UK c p m,()):=by
 rw[NX];unfold AM UK;simp only[zk7,zq];cases he:zj (Yx c p).2 0 with
 |false=>rfl
 |true=>
  refine Qh (by decide) ?_;unfold zjj inP;repeat' first | with_reducible refine zx ?_ | with_reducible refine zv ?_ | refine zd (fun h=>?_) (fun h=>?_) | refine za ?_ | refine zb ?_
  all_goals grind[qN,qE,vH,vI,sy]
theorem zb9(c p:Int×Int)(m:Int×Int×Int):JI (c,p,m,())=some (UK c p m,()):=by
 rw[NV];unfold AI UK;simp only[zhz,zf5,zq];cases he:zj (Yx c p).2 0 with
 |false=>rfl
 |true=>
  refine Qh (by decide) ?_;unfold zjj;repeat' first | with_reducible refine zx ?_ | with_reducible refine zv ?_ | refine zd (fun h=>?_) (fun h=>?_) | refine za ?_ | refine zb ?_
  all_goals grind[qN,qE,QD,dt,sy]
def GW(a:qu):Prop:=inP a.1 0 47∧inP a.2.1 1 4095∧inP a.2.2.2.1 84 1542∧((a.2.2.1=6∧a.2.2.2.2.1=0∧a.2.2.2.2.2.1=0∧a.2.2.2.2.2.2=0)∨(a.2.2.1=7∧inP a.2.2.2.2.1 1 2400000∧inP a.2.2.2.2.2.1 (-1099511627776) 1099511627776∧inP a.2.2.2.2.2.2 (-1099511627776) 1099511627776∧a.2.2.2.2.2.1<=a.2.2.2.2.2.2∧a.2.2.2.2.2.2 - a.2.2.2.2.2.1 < a.2.2.2.2.1))
theorem zk8(a:qu):gb (a,())=some (tv (GW a),()):=by
 rw[iI];unfold Ua;simp only[GV,zq];refine jj ?_;unfold GW;repeat' first | with_reducible refine zx ?_ | with_reducible refine zv ?_ | refine zd (fun h=>?_) (fun h=>?_) | refine za ?_ | refine zb ?_
 all_goals simp only[qN,qE,QD,dt,vH,vI,XW,bm,zkQ,inP,gk,sy]at *
 all_goals grind[zU]
theorem zjk(a:qu):YV (a,())=some (tv (GW a),()):=by
 rw[HV];unfold oL;simp only[zk6,zq];refine jj ?_;unfold GW;repeat' first | with_reducible refine zx ?_ | with_reducible refine zv ?_ | refine zd (fun h=>?_) (fun h=>?_) | refine za ?_ | refine zb ?_
 all_goals simp only[qN,qE,QD,dt,vH,vI,XW,bm,zkQ,inP,gk,sy]at *
 all_goals grind[zU]
def iz(b s:Int×Int):Prop:=inP s.1 0 1099511627776∧inP s.2 0 (b.1*1048576)
def sC(b s:Int×Int):Int:=bif tv (yK b)then(bif tv (iz b s)then 0 else 440)else 130
def sD(b:Int×Int):(Int×Int)×Int:=bif tv (yK b)then((0,b.1*1048576),0)else((0,0),130)
theorem GX{b:Int×Int}(h:yK b):wrF .i64 (b.1*1048576)=b.1*1048576:=by obtain⟨⟨h1,h2⟩,_⟩:=h;grind[zU]
theorem zpw(b:Int×Int):aD (b,())=some ((sD b).1,(sD b).2,()):=by rw[zaP];unfold Mo sD;simp only[OV,zq,pD (e:=130) (by decide)];grind[yK,qX,GX,wj]
theorem zoK(b:Int×Int):XJ (b,())=some ((sD b).1,(sD b).2,()):=by grind[zaD,LS,sD,mH,zq,yK,qX,GX,wj]
theorem zf7(b s:Int×Int):JK (b,s,())=some (sC b s,()):=by
 rw[NY];unfold AR sC;simp only[zpw,zq];unfold sD;by_cases h:yK b
 ·rw[qX h];simp only[zqJ];refine Qh (by decide) (zi rfl ?_);obtain⟨⟨q1,q2⟩,_⟩:=h;grind[iz,inP,HA,Km,za,qN,qE,zkR,XW,bm]
 ·rw[wj h];rfl
theorem zca(b s:Int×Int):JL (b,s,())=some (sC b s,()):=by
 rw[Ob];unfold AU sC;simp only[mH,zq];by_cases h:yK b
 ·rw[qX h,GX h];simp only[zqJ];refine Qh (by decide) (zi rfl ?_);unfold iz inP;repeat' first | with_reducible refine zx ?_ | with_reducible refine zv ?_ | refine zd (fun h=>?_) (fun h=>?_) | refine za ?_ | refine zb ?_
  all_goals grind[qN,qE,vH,vI,sy]
 ·rw[wj h];rfl
def FN(a:qu)(o:jl):Prop:=inP o.1 0 47∧((a.2.2.1≠6∧o.2.1.1=0∧o.2.1.2=0∧o.2.2.1=0∧o.2.2.2.1=0∧o.2.2.2.2=0)∨(a.2.2.1=6∧yK o.2.1∧a.2.2.2.1<=o.2.1.1∧inP o.2.2.1 0 1099511627776∧iz o.2.1 o.2.2.2))
theorem zoL(b s:Int×Int):(zj (sC b s) 0=true)↔yK b∧iz b s:=by
 unfold sC;by_cases h:yK b
 ·rw[qX h,zqJ,pD (by decide),QD];exact⟨fun h2=>⟨h,h2⟩,fun h2=>h2.2⟩
 grind[wj,jm]
theorem zk9(b s:Int×Int):(sC b s=0)↔yK b∧iz b s:=by rw[<-zoL,XW]
theorem zla(a:qu)(o:jl):Qj (a,o,())=some (tv (FN a o),()):=by
 rw[rY];unfold bY;simp only[OV,zf7,zq,pD (e:=130) (by decide)];refine jj ?_;unfold FN;repeat' first | with_reducible refine zx ?_ | with_reducible refine zv ?_ | refine zd (fun h=>?_) (fun h=>?_) | refine za ?_ | refine zb ?_
 all_goals grind[qN,qE,QD,dt,vH,vI,XW,bm,zk9,inP,gk,sy]
 all_goals grind
theorem GY(n:Int):Qz (n,())=some (tv (inP n 0 47),()):=by rw[SG];unfold EV;refine jj (zd (fun h=>?_) fun h=>?_)<;>refine za ?_<;>simp only[inP,qN,qE,vH,vI,gk]at *<;>grind
theorem zjl(a:qu)(o:jl):Xa (a,o,())=some (tv (FN a o),()):=by
 rw[Ie];unfold oZ;simp only[mH,zca,GY,zq];refine jj ?_;unfold FN;repeat' first | with_reducible refine zx ?_ | with_reducible refine zv ?_ | refine zd (fun h=>?_) (fun h=>?_) | refine za ?_ | refine zb ?_
 all_goals grind[qN,qE,QD,dt,vH,vI,XW,bm,zk9,inP,gk,sy]
 all_goals grind
def OW(x:yf)(n:Nat):Prop:=inP x.1 0 47∧inP x.2.1 1 4095∧(x.2.2.1=7∨x.2.2.1=6)∧0<=x.2.2.2∧x.2.2.2 < n
theorem zpx(x:yf)(n:Nat):YZ (x,(n:Int),())=some (tv (OW x n),()):=by rw[Ib];unfold oV OW inP;refine jj ?_;grind[za,qN,qE,vH,vI,XW,bm,gk]
def Xf(x:zM):Prop:=inP x.1 0 1099511627776∧inP x.2.1 0 1099511627776∧inP x.2.2.1 0 7∧inP x.2.2.2.1 84 1542∧inP x.2.2.2.2 0 1099511627776
theorem za7(x:zM):vL (x,())=some (bif tv (Xf x)then 0 else 460,()):=by
 rw[sf];unfold cg;simp only[zk5,zq];refine Qh (by decide) ?_;unfold Xf;repeat' first | with_reducible refine zx ?_ | with_reducible refine zv ?_ | refine zd (fun h=>?_) (fun h=>?_) | refine za ?_ | refine zb ?_
 all_goals grind[qN,qE,QD,dt]
theorem zhA(x:zM):yY (x,())=some (tv (Xf x),()):=by rw[ph];unfold aZ;simp only[GV,zq];grind[jj,Xf,za,zb,qN,qE,QD,dt,gk]
theorem zm7(n:Int):Zx (n,())=some (tv (inP n 0 1099511627776),()):=by rw[OB];unfold Bo;refine jj (zd (fun h=>?_) fun h=>?_)<;>refine za ?_<;>simp only[inP,qN,qE,vH,vI,gk]at *<;>grind
theorem OX(x:zM):UA (x,())=some (tv (Xf x),()):=by rw[Ta];unfold Fm;simp only[zm7,zq];grind[jj,Xf,za,qN,qE,QD,dt,vH,vI,inP,gk]
def WK(a b:qu):Prop:=b.1=a.1∧b.2.1=a.2.1
def UL(a b:jP):Prop:=b.1=a.1
def OY(p:jP):Prop:=inP p.1 0 47∧(Yx p.2.1 p.2.2).2=0
theorem zlb(p:jP):gf (p,())=some (tv (OY p),()):=by grind[iK,Uf,zk7,GV,zq,jj,za,XW,OY,aE,il]
def znL(l:List qu):Prop:=∀(k:Nat) a,l[k]?=some a->GW a∧∀(j:Nat) b,j < k->l[j]?=some b->¬WK a b
def zpZ(l:List jP):Prop:=∀(k:Nat) a,l[k]?=some a->OY a∧∀(j:Nat) b,j < k->l[j]?=some b->¬UL a b
def zhB(l:List qu)(m:List jP):Prop:=l.length<=64∧m.length<=64∧znL l∧zpZ m
theorem zm8(l:List qu)(m:List jP)(hl:l.length<=1000000000000000000)(hm:m.length<=1000000000000000000):Wy (l,m,())=some (tv (zhB l m),()):=by
 rw[ER];unfold mg;simp only[zk8,zlb,zq];refine jj (zb (zd (fun h1=>za (zv (za ?_))) fun h1=>zd (fun h2=>za (zv (za ?_))) fun h2=>za (zx ?_)))
 ·exact⟨fun h=>(by cases h),fun h=>absurd h.1 (by have:=zZ h1;omega)⟩
 ·exact⟨fun h=>(by cases h),fun h=>absurd h.2.1 (by have:=zZ h2;omega)⟩
 have h1:=zP h1;have h2:=zP h2;refine zk (jS false l.length (fun k=>∃a,l[k]?=some a∧GW a∧∀(j:Nat) b,j < k->l[j]?=some b->¬WK a b) hl ?_ ?_) ?_
 ·intro i hi;refine zf (zL (show(i:Int) < (l.length:Int) by omega)) (zb ?_);have hx:l[i]?=some l[i]:=FL hi;generalize l[i]=a at hx;refine zm hx (zb (zd (fun h3=>za (zv (za (.inr ⟨?_,_,rfl⟩)))) fun h3=>?_))
  ·grind[jZ]
  have ha:=wD h3;refine zk (J:=fun x=>∃k:Nat,k<=i∧x.1=1∧x.2.1.2.1=(k:Int)∧(∃b,l[k]?=some b∧WK a b)∧∀(j:Nat) b,j < k->l[j]?=some b->¬WK a b)
   (qb i (fun j s=>s=((a,(0,((j:Int),()))),())∧∀(k:Nat) b,k < j->l[k]?=some b->¬WK a b) (by omega) ⟨rfl,fun k b hk=>by omega⟩ ?_ ?_) ?_
  ·rintro j _ hj ⟨rfl,hp⟩;have hjl:j < l.length:=by omega
   have hy:l[j]?=some l[j]:=FL hjl;generalize l[j]=b at hy;have go:¬WK a b->Nxt (fun x:Nat×((qu×(Int×(Int×Unit)))×Unit)=>∃k:Nat,k<=i∧x.1=1∧x.2.1.2.1=(k:Int)∧(∃b,l[k]?=some b∧WK a b)∧∀(j:Nat) b,j < k->l[j]?=some b->¬WK a b) (fun s=>s=((a,((0:Int),(((j+1:Nat):Int),()))),())∧∀(k:Nat) b,k < j+1->l[k]?=some b->¬WK a b) (.inr ((a,(0,(wrF .i64 ((j:Int)+1),()))),())):=fun h=>qn ⟨by rw[zQ (by omega)],fun k c hk hc=>by
    grind⟩
   refine zf (zL (show(j:Int) < (l.length:Int) by omega)) (zb (zm hy (zd (fun h4=>zd (fun h5=>za (zw ⟨j,by omega,rfl,rfl,⟨b,hy,ql h4,ql h5⟩,hp⟩)) fun h5=>za (go fun h=>qt h5 h.2)) fun h4=>za (go fun h=>qt h4 h.1))))
  ·rintro _ ⟨rfl,hp⟩;refine zf (zL (show(i:Int) < (l.length:Int) by omega)) (zb (zm hx ?_));exact zf (wZ rfl) (zf (wZ rfl) (za (zw ⟨i,FW _,rfl,rfl,⟨a,hx,rfl,rfl⟩,hp⟩)))
  ·rintro⟨c,⟨y1,y2,y3,⟨⟩⟩,⟨⟩⟩ ⟨k,hki,hc,hy,⟨b,hb1,hb2⟩,hp⟩;simp only at hc hy;subst hc hy;refine zv (zd (fun h4=>za (zv (za (.inr ⟨?_,_,rfl⟩)))) fun h4=>za (zx (za (.inl ⟨?_,?_⟩))));all_goals grind[qt,qN,ql,qE,zQ]
 ·grind[zE,za]
 rintro⟨c,⟨y1,y2,⟨⟩⟩,⟨⟩⟩ (⟨rfl,rfl,hA⟩ | ⟨rfl,rfl,hA⟩);rotate_left
 ·refine zv (za ⟨fun h=>(by cases h),fun h=>absurd ?_ hA⟩);exact yk.2 fun k a hk=>h.2.2.1 k a hk
 have hA:znL l:=fun k a hk=>yk.1 hA k a hk;refine zx (zk (jS false m.length (fun k=>∃a,m[k]?=some a∧OY a∧∀(j:Nat) b,j < k->m[j]?=some b->¬UL a b) hm ?_ ?_) ?_)
 ·intro i hi;refine zf (zL (show(i:Int) < (m.length:Int) by omega)) (zb ?_);have hx:m[i]?=some m[i]:=FL hi;generalize m[i]=a at hx;refine zm hx (zb (zd (fun h3=>za (zv (za (.inr ⟨?_,_,rfl⟩)))) fun h3=>?_))
  ·grind[jZ]
  have ha:=wD h3;refine zk (J:=fun x=>∃k:Nat,k<=i∧x.1=1∧x.2.1.2.1=(k:Int)∧(∃b,m[k]?=some b∧UL a b)∧∀(j:Nat) b,j < k->m[j]?=some b->¬UL a b)
   (qb i (fun j s=>s=((a,(0,((j:Int),()))),())∧∀(k:Nat) b,k < j->m[k]?=some b->¬UL a b) (by omega) ⟨rfl,fun k b hk=>by omega⟩ ?_ ?_) ?_
  ·rintro j _ hj ⟨rfl,hp⟩;have hjl:j < m.length:=by omega
   have hy:m[j]?=some m[j]:=FL hjl;generalize m[j]=b at hy;refine zf (zL (show(j:Int) < (m.length:Int) by omega)) (zb (zm hy (zd (fun h4=>za (zw ⟨j,by omega,rfl,rfl,⟨b,hy,ql h4⟩,hp⟩)) fun h4=>za (qn ⟨by rw[zQ (by omega)],fun k c hk hc=>?_⟩))));rcases zry k j with h5 | h5
   ·exact hp k c h5 hc
   ·have:k=j:=by omega
    subst this;rw[hy]at hc;cases hc;exact qt h4
  ·rintro _ ⟨rfl,hp⟩;refine zf (zL (show(i:Int) < (m.length:Int) by omega)) (zb (zm hx ?_));exact zf (wZ rfl) (za (zw ⟨i,FW _,rfl,rfl,⟨a,hx,rfl⟩,hp⟩))
  ·rintro⟨c,⟨y1,y2,y3,⟨⟩⟩,⟨⟩⟩ ⟨k,hki,hc,hy,⟨b,hb1,hb2⟩,hp⟩;simp only at hc hy;subst hc hy;refine zv (zd (fun h4=>za (zv (za (.inr ⟨?_,_,rfl⟩)))) fun h4=>za (zx (za (.inl ⟨?_,?_⟩))));all_goals grind[qt,qN,ql,qE,zQ]
 ·grind[zE,za]
 rintro⟨c,⟨y1,y2,⟨⟩⟩,⟨⟩⟩ (⟨rfl,rfl,hB⟩ | ⟨rfl,rfl,hB⟩)
 ·refine zx (za ⟨fun _=>⟨by omega,by omega,hA,fun k a hk=>yk.1 hB k a hk⟩,fun _=>rfl⟩)
 ·refine zv (za ⟨fun h=>(by cases h),fun h=>absurd ?_ hB⟩);exact yk.2 fun k a hk=>h.2.2.2 k a hk
def za8(f:zH)(k:Nat)(a:qu):Prop:=∃z,f.2.2.2.1[k]?=some z∧-1<=z∧(a.2.2.1=6->z = -1)
def zf8(f:zH)(k:Nat)(p:jP):Prop:=∃m,f.2.2.2.2[k]?=some m∧UK p.2.1 p.2.2 m=0∧m.1<=f.2.2.1+1000
def Zd(f:zH):Prop:=zhB f.1 f.2.1∧inP f.2.2.1 (-1000) 549755813888∧f.2.2.2.1.length=f.1.length∧f.2.2.2.2.length=f.2.1.length∧(∀(k:Nat) a,f.1[k]?=some a->za8 f k a)∧(∀(k:Nat) p,f.2.1[k]?=some p->zf8 f k p)
theorem zf9{c p:Int×Int}{m:Int×Int×Int}(h:UK c p m=0):(Yx c p).2=0:=by grind[UK,zj,Yx,ql]
theorem OZ(f:zH)(hl:f.1.length<=1000000000000000000)(hm:f.2.1.length<=1000000000000000000):ve (f,())=some (bif tv (Zd f)then 0 else 430,()):=by
 rw[HY];unfold oR;simp only[zm8 _ _ hl hm,GV,zf6,zq];refine Qh (by decide) (zb (zd (fun h1=>za (zv (za (.inr ⟨fun h=>jZ h1 h.1,rfl⟩)))) fun h1=>zd (fun h2=>za (zv (za (.inr ⟨fun h=>jZ h2 h.2.1,rfl⟩)))) fun h2=>za (zx ?_)));have h1:=wD h1;have h2:=wD h2;refine zb (zd (fun h3=>za (zv (za (.inr ⟨fun h=>qt (qN.1 h3) (by have:=h.2.2.1;omega),rfl⟩)))) fun h3=>zd (fun h4=>za (zv (za (.inr ⟨fun h=>qt (qN.1 h4) (by have:=h.2.2.2.1;omega),rfl⟩)))) fun h4=>za (zx ?_));have h3:=ql (qE.1 h3);have h4:=ql (qE.1 h4);refine zk (jS (430:Int) f.1.length (fun k=>∃a,f.1[k]?=some a∧za8 f k a) hl ?_ ?_) ?_
 ·intro i hi;have hx:f.1[i]?=some f.1[i]:=FL hi;generalize f.1[i]=a at hx;have hj:i < f.2.2.2.1.length:=by omega
  have hy:f.2.2.2.1[i]?=some f.2.2.2.1[i]:=FL hj;generalize f.2.2.2.1[i]=z at hy;have no:¬(-1<=z∧(a.2.2.1=6->z = -1))->¬∃a,f.1[i]?=some a∧za8 f i a:=by rintro h ⟨a',e,z',e2,h5⟩;grind
  refine zf (zL (show(i:Int) < (f.1.length:Int) by omega)) (zb (zm hx (zb (zb (zm hy (zd (fun h5=>za (zv (za (.inr ⟨no fun h=>?_,_,rfl⟩)))) fun h5=>zd (fun h6=>zb (zm hy (zd (fun h7=>za (zv (za (.inr ⟨no fun h=>?_,_,rfl⟩)))) fun h7=>za (zx (za (.inl ⟨⟨a,hx,z,hy,?_⟩,?_⟩)))))) fun h6=>za (zx (za (.inl ⟨⟨a,hx,z,hy,?_⟩,?_⟩)))))))))
  ·have:=zZ h5;omega
  ·exact qt (qN.1 h7) (h.2 (ql h6))
  ·grind[zP,ql,qE]
  ·rw[zQ (by omega)]
  ·exact⟨by have:=zP h5;omega,fun h=>absurd h (qt h6)⟩
  ·rw[zQ (by omega)]
 ·grind[zE,za]
 rintro⟨c,⟨y1,y2,⟨⟩⟩,⟨⟩⟩ (⟨rfl,rfl,hA⟩ | ⟨rfl,rfl,hA⟩);rotate_left
 ·exact zv (za (.inr ⟨fun h=>hA (yk.2 h.2.2.2.2.1),rfl⟩))
 have hA:=yk.1 hA;refine zx (zk (jS (430:Int) f.2.1.length (fun k=>∃p,f.2.1[k]?=some p∧zf8 f k p) hm ?_ ?_) ?_)
 ·intro i hi;have hx:f.2.1[i]?=some f.2.1[i]:=FL hi;generalize f.2.1[i]=p at hx;have hj:i < f.2.2.2.2.length:=by omega
  have hy:f.2.2.2.2[i]?=some f.2.2.2.2[i]:=FL hj;generalize f.2.2.2.2[i]=m at hy;have no:¬(UK p.2.1 p.2.2 m=0∧m.1<=f.2.2.1+1000)->¬∃p,f.2.1[i]?=some p∧zf8 f i p:=by rintro h ⟨a',e,z',e2,h5⟩;grind
  have e1:wrF .i64 (f.2.2.1+1000)=f.2.2.1+1000:=by obtain⟨q1,q2⟩:=h2;grind[zU]
  refine zf (zL (show(i:Int) < (f.2.1.length:Int) by omega)) (zb (zm hx (zb (zm hy (zb (zd (fun h5=>za (zv (za (.inr ⟨no fun h=>qt (qN.1 h5) h.1,_,rfl⟩)))) fun h5=>?_))))));rw[e1];refine zd (fun h6=>za (zv (za (.inr ⟨no fun h=>?_,_,rfl⟩)))) fun h6=>za (zx (za (.inl ⟨⟨p,hx,m,hy,ql (qE.1 h5),zP h6⟩,?_⟩)))
  ·have:=zZ h6;omega
  ·rw[zQ (by omega)]
 ·grind[zE,za]
 rintro⟨c,⟨y1,y2,⟨⟩⟩,⟨⟩⟩ (⟨rfl,rfl,hB⟩ | ⟨rfl,rfl,hB⟩)
 ·exact zx (za (.inl ⟨⟨h1,h2,by omega,by omega,hA,yk.1 hB⟩,rfl⟩))
 ·exact zv (za (.inr ⟨fun h=>hB (yk.2 h.2.2.2.2.2),rfl⟩))
theorem zcb(f:zH):JJ (f,())=some (tv (Zd f),()):=by
 rw[NW];unfold AL;simp only[zk6,zjk,zb9,zq];refine jj (zb (zd (fun h1=>za (zv (za ?_))) fun h1=>zd (fun h2=>za (zv (za ?_))) fun h2=>zd (fun h3=>za (zv (za ?_))) fun h3=>zd (fun h4=>za (zv (za ?_))) fun h4=>zd (fun h5=>za (zv (za ?_))) fun h5=>za (zx ?_)))
 ·exact⟨fun h=>(by cases h),fun h=>absurd h.1.1 (by have:=zZ h1;omega)⟩
 ·exact⟨fun h=>(by cases h),fun h=>absurd h.1.2.1 (by have:=zZ h2;omega)⟩
 ·exact⟨fun h=>(by cases h),fun h=>absurd h.2.2.1 (by have:=qt (qN.1 h3);omega)⟩
 ·exact⟨fun h=>(by cases h),fun h=>absurd h.2.2.2.1 (by have:=qt (qN.1 h4);omega)⟩
 ·exact⟨fun h=>(by cases h),fun h=>absurd h.2.1 (jZ h5)⟩
 have h1:=zP h1;have h2:=zP h2;have h3:=ql (qE.1 h3);have h4:=ql (qE.1 h4);have h5:=wD h5;refine zk (jS false f.1.length (fun k=>∃a,f.1[k]?=some a∧(GW a∧∀(j:Nat) b,j < k->f.1[j]?=some b->¬WK a b)∧za8 f k a) (by omega) ?_ ?_) ?_
 ·intro i hi;have hx:f.1[i]?=some f.1[i]:=FL hi;generalize f.1[i]=a at hx;have hj:i < f.2.2.2.1.length:=by omega
  have hy:f.2.2.2.1[i]?=some f.2.2.2.1[i]:=FL hj;generalize f.2.2.2.1[i]=z at hy;have no:¬(GW a∧(∀(j:Nat) b,j < i->f.1[j]?=some b->¬WK a b)∧-1<=z∧(a.2.2.1=6->z = -1))->¬∃a,f.1[i]?=some a∧(GW a∧∀(j:Nat) b,j < i->f.1[j]?=some b->¬WK a b)∧za8 f i a:=by rintro h ⟨a',e,⟨h6,h7⟩,z',e2,h8⟩;grind
  refine zf (zL (show(i:Int) < (f.1.length:Int) by omega)) (zb (zm hx (zb (zd (fun h6=>za (zv (za (.inr ⟨no fun h=>jZ h6 h.1,_,rfl⟩)))) fun h6=>zb (zm hy (zd (fun h7=>za (zv (za (.inr ⟨no fun h=>?_,_,rfl⟩)))) fun h7=>zd (fun h8=>zb (zm hy (zd (fun h9=>za (zv (za (.inr ⟨no fun h=>qt (qN.1 h9) (h.2.2.2 (ql h8)),_,rfl⟩)))) fun h9=>za (zx ?_)))) fun h8=>za (zx ?_)))))))
  ·have:=zZ h7;omega
  ·have ha:=wD h6;have hz1:=zP h7;have hz2:a.2.2.1=6->z = -1:=fun _=>ql (qE.1 h9);refine zk (ix f.1 i (by omega) (by omega) (WK a) false (fun j b hj hb=>?_) ?_) ?_
   ·refine zf (zL (show(j:Int) < (i:Int) by omega)) (zb (zb (zm hb (zd (fun q1=>zb (zm hb (zd (fun q2=>za (zv (za (.inr ⟨⟨ql q1,ql q2⟩,_,rfl⟩)))) fun q2=>za (zx (za (.inl ⟨fun h=>qt q2 h.2,?_⟩)))))) fun q1=>za (zx (za (.inl ⟨fun h=>qt q1 h.1,?_⟩)))))));all_goals rw[zQ (by omega)]
   ·grind[zE,za]
   ·rintro⟨c,⟨y1,y2,⟨⟩⟩,⟨⟩⟩ (⟨rfl,rfl,hQ⟩ | ⟨rfl,rfl,hQ⟩)
    ·refine zx (za (.inl ⟨⟨a,hx,⟨ha,hQ⟩,z,hy,hz1,hz2⟩,?_⟩));rw[zQ (by omega)]
    ·exact zv (za (.inr ⟨no fun h=>hQ h.2.1,_,rfl⟩))
  ·have ha:=wD h6;have hz1:=zP h7;have hz2:a.2.2.1=6->z = -1:=fun h=>absurd h (qt h8);refine zk (ix f.1 i (by omega) (by omega) (WK a) false (fun j b hj hb=>?_) ?_) ?_
   ·refine zf (zL (show(j:Int) < (i:Int) by omega)) (zb (zb (zm hb (zd (fun q1=>zb (zm hb (zd (fun q2=>za (zv (za (.inr ⟨⟨ql q1,ql q2⟩,_,rfl⟩)))) fun q2=>za (zx (za (.inl ⟨fun h=>qt q2 h.2,?_⟩)))))) fun q1=>za (zx (za (.inl ⟨fun h=>qt q1 h.1,?_⟩)))))));all_goals rw[zQ (by omega)]
   ·grind[zE,za]
   ·rintro⟨c,⟨y1,y2,⟨⟩⟩,⟨⟩⟩ (⟨rfl,rfl,hQ⟩ | ⟨rfl,rfl,hQ⟩)
    ·refine zx (za (.inl ⟨⟨a,hx,⟨ha,hQ⟩,z,hy,hz1,hz2⟩,?_⟩));rw[zQ (by omega)]
    ·exact zv (za (.inr ⟨no fun h=>hQ h.2.1,_,rfl⟩))
 ·grind[zE,za]
 rintro⟨c,⟨y1,y2,⟨⟩⟩,⟨⟩⟩ (⟨rfl,rfl,hA⟩ | ⟨rfl,rfl,hA⟩);rotate_left
 ·refine zv (za ⟨fun h=>(by cases h),fun h=>absurd (yk.2 fun k a hk=>?_) hA⟩);exact⟨h.1.2.2.1 k a hk,h.2.2.2.2.1 k a hk⟩
 have hA:=yk.1 hA;refine zx (zk (jS false f.2.1.length (fun k=>∃p,f.2.1[k]?=some p∧(OY p∧∀(j:Nat) b,j < k->f.2.1[j]?=some b->¬UL p b)∧zf8 f k p) (by omega) ?_ ?_) ?_)
 ·intro i hi;have hx:f.2.1[i]?=some f.2.1[i]:=FL hi;generalize f.2.1[i]=p at hx;have hj:i < f.2.2.2.2.length:=by omega
  have hy:f.2.2.2.2[i]?=some f.2.2.2.2[i]:=FL hj;generalize f.2.2.2.2[i]=m at hy;have no:¬(OY p∧(∀(j:Nat) b,j < i->f.2.1[j]?=some b->¬UL p b)∧UK p.2.1 p.2.2 m=0∧m.1<=f.2.2.1+1000)->¬∃p,f.2.1[i]?=some p∧(OY p∧∀(j:Nat) b,j < i->f.2.1[j]?=some b->¬UL p b)∧zf8 f i p:=by rintro h ⟨a',e,⟨h6,h7⟩,z',e2,h8⟩;grind
  have e1:wrF .i64 (f.2.2.1+1000)=f.2.2.1+1000:=by obtain⟨q1,q2⟩:=h5;grind[zU]
  refine zf (zL (show(i:Int) < (f.2.1.length:Int) by omega)) (zb (zm hx (zb (zd (fun h6=>za (zv (za (.inr ⟨no fun h=>jZ h6 h.1.1,_,rfl⟩)))) fun h6=>zb (zm hy (zd (fun h7=>za (zv (za (.inr ⟨no fun h=>qt (qN.1 h7) h.2.2.1,_,rfl⟩)))) fun h7=>zb (zm hy ?_)))))));rw[e1];refine zd (fun h8=>za (zv (za (.inr ⟨no fun h=>?_,_,rfl⟩)))) fun h8=>za (zx ?_)
  ·have:=zZ h8;omega
  ·skip;refine zk (ix f.2.1 i (by omega) (by omega) (UL p) false (fun j b hj hb=>?_) ?_) ?_
   ·refine zf (zL (show(j:Int) < (i:Int) by omega)) (zb (zm hb (zd (fun q1=>za (.inr ⟨ql q1,_,rfl⟩)) fun q1=>za (.inl ⟨fun h=>qt q1 h,?_⟩))));rw[zQ (by omega)]
   ·grind[zE,za]
   ·rintro⟨c,⟨y1,y2,⟨⟩⟩,⟨⟩⟩ (⟨rfl,rfl,hQ⟩ | ⟨rfl,rfl,hQ⟩)
    ·refine zx (za (.inl ⟨⟨p,hx,⟨⟨wD h6,zf9 (ql (qE.1 h7))⟩,hQ⟩,m,hy,ql (qE.1 h7),zP h8⟩,?_⟩));rw[zQ (by omega)]
    ·exact zv (za (.inr ⟨no fun h=>hQ h.2.1,_,rfl⟩))
 ·grind[zE,za]
 rintro⟨c,⟨y1,y2,⟨⟩⟩,⟨⟩⟩ (⟨rfl,rfl,hB⟩ | ⟨rfl,rfl,hB⟩)
 ·have hB:=yk.1 hB;exact zx (za ⟨fun _=>⟨⟨by omega,by omega,fun k a hk=>(hA k a hk).1,fun k p hk=>(hB k p hk).1⟩,h5,by omega,by omega,fun k a hk=>(hA k a hk).2,fun k p hk=>(hB k p hk).2⟩,fun _=>rfl⟩)
 ·refine zv (za ⟨fun h=>(by cases h),fun h=>absurd (yk.2 fun k p hk=>?_) hB⟩);exact⟨h.1.2.2.2 k p hk,h.2.2.2.2.2 k p hk⟩
end Go.Proofs.YtlfkgkedfciccaaGreat.nd
end
