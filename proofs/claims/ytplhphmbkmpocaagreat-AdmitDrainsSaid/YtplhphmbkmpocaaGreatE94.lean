/- Parts of a proof, joined. -/
import Derived.ChangeArms
import Derived.ChangeSlices
import Derived.DataReads
import Derived.KernelRfl
import Derived.OpenShut
import Derived.SizedLaws
import Derived.Test.YtplhphmbkmpocaaGreatProg
import Derived.Test.YtplhphmbkmpocaaGreatE93
set_option linter.unusedSectionVars false
set_option linter.unusedVariables false
set_option linter.unusedSimpArgs false
set_option maxHeartbeats 0
set_option maxRecDepth 100000
noncomputable section
namespace Go.Fz.Sy
variable {P:Program} {φ:Ren} {K:Nat→Prop} {w:World} {R:Type}
inductive CK where
 |d (t:Ty)
 |o (c:Nat) (nn:Bool) (t:Ty)
@[reducible] def CK.T:CK→Type
 |.d t=>Sy.T t
 |.o _ _ t=>List (Sy.T t)
@[reducible] def CS (l:List CK):Type:=List.rec (motive:=fun _=>Type) Unit (fun a _ ih=>a.T×ih) l
inductive DPl where
 |tmp (i:Nat) (vt:VT)
 |blk (b:Nat) (t:Ty)
 |frz (b:Nat) (ks:List CK)
 |npt (i:Nat)
inductive OPl where
 |otmp (i c:Nat) (nn:Bool) (t:Ty)
 |sblk (b:Nat) (ks:List CK)
 |arr (b:Nat) (nn:Bool) (t:Ty)
 |lp (l:Nat) (L:SL)
 |dfd (b:Nat)
 |mpl (b:Nat) (k:IntKind) (ag:Bool) (t:Ty)
@[reducible] def DPl.T:DPl→Type
 |.tmp _ vt=>Sy.T vt.ty
 |.blk _ t=>Sy.T t
 |.frz _ _=>Unit
 |.npt _=>Unit
@[reducible] def OPl.T:OPl→Type
 |.otmp _ _ _ t=>List (Sy.T t)
 |.sblk _ ks=>CS ks
 |.arr _ _ t=>List (Sy.T t)
 |.lp _ _=>Unit
 |.dfd _=>Unit
 |.mpl _ _ _ t=>List (Int×Sy.T t)
@[reducible] def DS (l:List DPl):Type:=List.rec (motive:=fun _=>Type) Unit (fun a _ ih=>a.T×ih) l
@[reducible] def OS (l:List OPl):Type:=List.rec (motive:=fun _=>Type) Unit (fun a _ ih=>a.T×ih) l
abbrev LSt:=LoopState×Option Code
def tmD:(dl:List DPl)→DS dl→List SV→List SV
 |[],_,tm=>tm
 |.tmp i vt::r,x,tm=>tmD r (p2 x) (lsS tm i (mkV vt (p1 x)))
 |.blk _ _::r,x,tm=>tmD r (p2 x) tm
 |.frz _ _::r,x,tm=>tmD r (p2 x) tm
 |.npt i::r,x,tm=>tmD r (p2 x) (lsS tm i .nilp)
def tmO:(ol:List OPl)→OS ol→List SV→List SV
 |[],_,tm=>tm
 |.otmp i c _ _::r,y,tm=>tmO r (p2 y) (lsS tm i (.own c))
 |.sblk _ _::r,y,tm=>tmO r (p2 y) tm
 |.arr _ _ _::r,y,tm=>tmO r (p2 y) tm
 |.lp _ _::r,y,tm=>tmO r (p2 y) tm
 |.dfd _::r,y,tm=>tmO r (p2 y) tm
 |.mpl _ _ _ _::r,y,tm=>tmO r (p2 y) tm
def hpD:(dl:List DPl)→DS dl→SH
 |[],_=>[]
 |.tmp _ _::r,x=>hpD r (p2 x)
 |.blk b t::r,x=>(b,.vars (yp t (p1 x)))::hpD r (p2 x)
 |.frz _ _::r,x=>hpD r (p2 x)
 |.npt _::r,x=>hpD r (p2 x)
def zby:(ks:List CK)→CS ks→List SV
 |[],_=>[]
 |.d t::r,x=>yp t (p1 x)++zby r (p2 x)
 |.o c _ _::r,x=>.own c::zby r (p2 x)
def Za:(ks:List CK)→CS ks→SH
 |[],_=>[]
 |.d _::r,x=>Za r (p2 x)
 |.o c nn t::r,x=>(c,.arr nn t (p1 x))::Za r (p2 x)
def stO (L:SL):List LSt→SL
 |[]=>L
 |s::_=>{L with st:=s.1,pend:=s.2}
def hpO:(ol:List OPl)→List LSt→OS ol→SH
 |[],_,_=>[]
 |.otmp _ c nn t::r,vs,y=>(c,.arr nn t (p1 y))::hpO r vs (p2 y)
 |.sblk b ks::r,vs,y=>(b,.vars (zby ks (p1 y)))::(Za ks (p1 y)++hpO r vs (p2 y))
 |.arr b nn t::r,vs,y=>(b,.arr nn t (p1 y))::hpO r vs (p2 y)
 |.lp l L::r,vs,y=>(l,.loop (stO L vs))::hpO r vs.tail (p2 y)
 |.dfd b::r,vs,y=>(b,.defd)::hpO r vs (p2 y)
 |.mpl b k ag t::r,vs,y=>(b,.mpb k ag t (p1 y))::hpO r vs (p2 y)
def zk7:(ks:List CK)→List SV→SH→Option SH
 |[],_,H=>some H
 |.d t::r,us,H=>match cvC t us H with
  |some (_,us1,H1)=>zk7 r us1 H1
  |none=>none
 |.o _ _ _::r,_::us,H=>zk7 r us H
 |.o _ _ _::_,[],_=>none
theorem zil:∀{ks:List CK} {us:List SV} {H H1:SH},zk7 ks us H=some H1→xc H H1
 |[],us,H,H1,h=>by simp only [zk7] at h;cases h;exact xc.refl _
 |.d t::r,us,H,H1,h=>by
  simp only [zk7] at h
  split at h
  ·rename_i x us1 H2 h2
   obtain ⟨cs,_,g,_⟩:=GM t h2
   exact g.trans (zil h)
  ·cases h
 |.o _ _ _::r,u::us,H,H1,h=>by
  simp only [zk7] at h
  exact zil h
 |.o _ _ _::_,[],_,_,h=>by simp [zk7] at h
def pcC:(t:Ty)→List SV→SH→Option (T t×List SV)
 |.unit,l,H=>some ((),l)
 |.bool,l,H=>match l with
  |.bool b::r=>some (b,r)
  |_=>none
 |.int k,l,H=>match l with
  |.int k' n::r=>bif Wd k k' then some (n,r) else none
  |_=>none
 |.str,l,H=>match l with
  |.str s::r=>some (s,r)
  |_=>none
 |.list t,l,H=>match l with
  |.lst t' x _::r=>if h:t'=t then some (JK h x,r) else none
  |.nils::r=>some (([]:List (T t)),r)
  |.own b::r=>match zm H b with
   |some (.fro _ t' x)=>if h:t'=t then bif Nat.blt 0 (sz t) then some (JK h x,r) else none else none
   |_=>none
  |_=>none
 |.pair a b,l,H=>match pcC a l H with
  |some (x,l1)=>match pcC b l1 H with
   |some (y,l2)=>some ((x,y),l2)
   |none=>none
  |none=>none
theorem zwS:∀(t:Ty) {l r:List SV} {H:SH} {x:T t},pcC t l H=some (x,r)→cvC t l H=some (x,r,H)
 |.unit,l,r,H,x,h=>by simp only [pcC] at h;cases h;rfl
 |.bool,l,r,H,x,h=>by
  simp only [pcC] at h
  split at h
  ·cases h;rfl
  ·cases h
 |.int k,l,r,H,x,h=>by
  simp only [pcC] at h
  split at h
  ·rename_i k' n r'
   obtain ⟨hk,h2⟩:=zA h
   cases h2
   simp only [cvC,hk,cond_true]
  ·cases h
 |.str,l,r,H,x,h=>by
  simp only [pcC] at h
  split at h
  ·cases h;rfl
  ·cases h
 |.list t,l,r,H,x,h=>by
  simp only [pcC] at h
  split at h
  ·split at h
   ·rename_i ht;cases h;simp only [cvC,ht,dif_pos]
   ·cases h
  ·cases h;rfl
  ·split at h
   ·rename_i hb
    split at h
    ·rename_i ht
     obtain ⟨hp,h⟩:=zA h
     cases h
     simp only [cvC,hb,ht,dif_pos,hp,cond_true]
    ·cases h
   ·cases h
  ·cases h
 |.pair a b,l,r,H,x,h=>by
  simp only [pcC] at h
  split at h
  case h_2=>cases h
  rename_i h1
  split at h
  case h_2=>cases h
  rename_i h2
  cases h
  simp only [cvC,zwS a h1,zwS b h2]
def bkD:(dl:List DPl)→List SV→SH→Option (DS dl×SH)
 |[],_,H=>some ((),H)
 |.tmp i vt::r,tm,H=>match gl tm i with
  |some u=>match u with
   |.junk=>none
   |u=>match cvV vt u H with
    |some (x,H1)=>match bkD r tm H1 with
     |some (y,H2)=>some ((x,y),H2)
     |none=>none
    |none=>none
  |none=>none
 |.blk b t::r,tm,H=>match zm H b with
  |some (.vars cs)=>match cvE t (cvC t cs H) with
   |some (x,H1)=>match bkD r tm H1 with
    |some (y,H2)=>some ((x,y),H2)
    |none=>none
   |none=>none
  |_=>none
 |.frz b ks::r,tm,H=>match zm H b with
  |some (.vars us)=>match zk7 ks us H with
   |some H1=>match bkD r tm H1 with
    |some (y,H2)=>some (((),y),H2)
    |none=>none
   |none=>none
  |_=>none
 |.npt i::r,tm,H=>match gl tm i with
  |some .nilp=>match bkD r tm H with
   |some (y,H2)=>some (((),y),H2)
   |none=>none
  |_=>none
def zFs {a b:Ty} (h:a=b) (x:List (Int×T a)):List (Int×T b):=Eq.rec (motive:=fun b _=>List (Int×T b)) x h
def zz6 (a b:Bool):Bool:=bif a then b else !b
theorem zhj {a b:Bool} (h:zz6 a b=true):a=b:=by cases a<;>cases b<;>first | rfl | cases h
def rdO (nn:Bool) (t:Ty) (H:SH) (c:Nat):SV→Option (List (T t)×List (Nat×Nat))
 |.nils=>bif nn then none else some ([],[])
 |.own c'=>match zm H c' with
  |some (.arr nn' t' l)=>if h:t'=t then bif zz6 nn' nn then some (JK h l,[(c,c')]) else none else none
  |_=>none
 |_=>none
def rdK:(ks:List CK)→List SV→SH→Option (CS ks×List (Nat×Nat))
 |[],[],_=>some ((),[])
 |.d t::r,us,H=>match pcC t us H with
  |some (x,us1)=>match rdK r us1 H with
   |some (y,s)=>some ((x,y),s)
   |none=>none
  |none=>none
 |.o c nn t::r,u::us,H=>match rdO nn t H c u with
  |some (x,s1)=>match rdK r us H with
   |some (y,s)=>some ((x,y),s1++s)
   |none=>none
  |none=>none
 |_,_,_=>none
def zz7:Option Code→Option Code→Bool
 |none,none=>true
 |some .ret,some .ret=>true
 |some (.exit i),some (.exit j)=>Nat.beq i j
 |some (.goto i),some (.goto j)=>Nat.beq i j
 |_,_=>false
theorem zC2 {a b:Option Code} (h:zz7 a b=true):a=b:=by
 unfold zz7 at h
 split at h<;>first | rfl | (rw [Nat.eq_of_beq_eq_true h]) | cases h
def zwT:LoopState→LoopState→Bool
 |.ready,.ready=>true
 |.busy,.busy=>true
 |.done,.done=>true
 |_,_=>false
theorem zBv {a b:LoopState} (h:zwT a b=true):a=b:=by
 unfold zwT at h
 split at h<;>first | rfl | cases h
def stQ (L:SL):List LSt→Bool
 |[]=>false
 |s::_=>zwT L.st s.1&&zz7 L.pend s.2
def bkO:(ol:List OPl)→List LSt→List SV→SH→Option (OS ol×List (Nat×Nat))
 |[],_,_,_=>some ((),[])
 |.otmp i c nn t::r,vs,tm,H=>match gl tm i with
  |some u=>match rdO nn t H c u with
   |some (x,s)=>match bkO r vs tm H with
    |some (y,σ)=>some ((x,y),s++σ)
    |none=>none
   |none=>none
  |none=>none
 |.sblk b ks::r,vs,tm,H=>match zm H b with
  |some (.vars us)=>match rdK ks us H with
   |some (x,s)=>match bkO r vs tm H with
    |some (y,σ)=>some ((x,y),(b,b)::(s++σ))
    |none=>none
   |none=>none
  |_=>none
 |.arr b nn t::r,vs,tm,H=>match zm H b with
  |some (.arr nn' t' l)=>if h:t'=t then bif zz6 nn' nn then match bkO r vs tm H with
    |some (y,σ)=>some ((JK h l,y),(b,b)::σ)
    |none=>none
   else none
   else none
  |_=>none
 |.lp l _::r,vs,tm,H=>match zm H l with
  |some (.loop L')=>bif stQ L' vs then match bkO r vs.tail tm H with
    |some (y,σ)=>some (((),y),(l,l)::σ)
    |none=>none
   else none
  |_=>none
 |.dfd b::r,vs,tm,H=>match zm H b with
  |some .defd=>match bkO r vs tm H with
   |some (y,σ)=>some (((),y),(b,b)::σ)
   |none=>none
  |_=>none
 |.mpl b k ag t::r,vs,tm,H=>match zm H b with
  |some (.mpb k' ag' t' l)=>if h:t'=t then bif Wd k' k&&zz6 ag' ag then match bkO r vs tm H with
    |some (y,σ)=>some ((zFs h l,y),(b,b)::σ)
    |none=>none
   else none
   else none
  |_=>none
theorem kU:∀{dl:List DPl} {tm:List SV} {H H':SH} {x:DS dl},bkD dl tm H=some (x,H')→xc H H'
 |[],tm,H,H',x,h=>by simp only [bkD] at h;cases h;exact xc.refl _
 |.tmp i vt::r,tm,H,H',x,h=>by
  simp only [bkD] at h
  split at h
  case h_2=>cases h
  split at h
  ·cases h
  ·split at h
   case h_2=>cases h
   rename_i h1
   split at h
   case h_2=>cases h
   rename_i h2
   cases h
   exact (zp0 h1).1.trans (kU h2)
 |.blk b t::r,tm,H,H',x,h=>by
  simp only [bkD] at h
  split at h
  case h_2=>cases h
  split at h
  case h_2=>cases h
  rename_i h1
  split at h
  case h_2=>cases h
  rename_i h2
  cases h
  obtain ⟨cs1,he,g1,r1⟩:=GM _ (zic h1)
  exact g1.trans (kU h2)
 |.frz b ks::r,tm,H,H',x,h=>by
  simp only [bkD] at h
  split at h
  case h_2=>cases h
  split at h
  case h_2=>cases h
  rename_i h1
  split at h
  case h_2=>cases h
  rename_i h2
  cases h
  exact (zil h1).trans (kU h2)
 |.npt i::r,tm,H,H',x,h=>by
  simp only [bkD] at h
  split at h
  case h_2=>cases h
  split at h
  case h_2=>cases h
  rename_i h2
  cases h
  exact kU h2
theorem zss {tm:List Value} {ts:Array Value} {i:Nat} {v v':Value} (h:qI φ tm ts) (h1:ts[i]?=some v') (h2:zr φ v v'):qI φ (tm.set i v) ts:=by
 refine ⟨by simpa using h.1,fun j u hu=>?_⟩
 rw [List.getElem?_set] at hu
 by_cases hij:i=j
 ·subst hij
  rw [if_pos rfl] at hu
  split at hu
  ·cases hu;exact .inr ⟨v',h1,h2⟩
  ·cases hu
 ·rw [if_neg hij] at hu
  exact h.2 j u hu
theorem zey {φ2 φ3:Ren} {ν:Nat→Bool} {G:SH} {nx:Nat} {ρ3:Nat→Value} {ts:Array Value} (g:zF φ2 (zE ν G) K w) (hv:VN ν nx G) (hF:∀b L,φ2 (FZ+b)=some L→φ3 (FZ+b)=some L) :
  ∀{dl:List DPl} {tm:List SV} {H H':SH} {x:DS dl},bkD dl tm H=some (x,H')→GLe H' G→qI φ2 (zt (rho ν G) tm) ts→∀{tm0:List SV},qI φ3 (zt ρ3 tm0) ts→qI φ3 (zt ρ3 (tmD dl x tm0)) ts
 |[],tm,H,H',x,h,hG,ht,tm0,h0=>by simpa only [tmD] using h0
 |.tmp i vt::r,tm,H,H',x,h,hG,ht,tm0,h0=>by
  simp only [bkD] at h
  split at h
  case h_2=>cases h
  rename_i u hu
  split at h
  ·cases h
  ·rename_i hj
   split at h
   case h_2=>cases h
   rename_i x1 H1 h1
   split at h
   case h_2=>cases h
   rename_i y H2 h2
   cases h
   simp only [tmD]
   refine zey g hv hF h2 hG ht ?_
   obtain ⟨g1,r1⟩:=zp0 h1
   have g2:=kU h2
   rw [yJ] at hu
   have hH:rho ν H=rho ν G:=by rw [hG.rho ν,g2.1.rho ν,g1.1.rho ν]
   rcases ht.2 i (den (rho ν G) u) (by rw [wB,hu];rfl) with hq | ⟨v',q1,q2⟩
   ·exact absurd (zd5 hq) hj
   ·have key:=zt3 (ρ:=ρ3) hF vt x1 (r1 ν G (g2.1.trans hG) φ2 K w nx v' g hv (by rw [hH];exact q2) ρ3)
    rw [gm]
    have:zt ρ3 (tm0.set i (mkV vt x1))=(zt ρ3 tm0).set i (den ρ3 (mkV vt x1)):=by simp [qt,List.map_set]
    rw [this]
    exact zss h0 q1 key
 |.blk b t::r,tm,H,H',x,h,hG,ht,tm0,h0=>by
  simp only [bkD] at h
  split at h
  case h_2=>cases h
  split at h
  case h_2=>cases h
  rename_i h1
  split at h
  case h_2=>cases h
  rename_i h2
  cases h
  simp only [tmD]
  exact zey g hv hF h2 hG ht h0
 |.frz b ks::r,tm,H,H',x,h,hG,ht,tm0,h0=>by
  simp only [bkD] at h
  split at h
  case h_2=>cases h
  split at h
  case h_2=>cases h
  split at h
  case h_2=>cases h
  rename_i h2
  cases h
  simp only [tmD]
  exact zey g hv hF h2 hG ht h0
 |.npt i::r,tm,H,H',x,h,hG,ht,tm0,h0=>by
  simp only [bkD] at h
  split at h
  case h_2=>cases h
  rename_i hu
  split at h
  case h_2=>cases h
  rename_i h2
  cases h
  simp only [tmD]
  refine zey g hv hF h2 hG ht ?_
  rw [yJ] at hu
  rcases ht.2 i (den (rho ν G) .nilp) (by rw [wB,hu];rfl) with hq | ⟨v',q1,q2⟩
  ·have:=zd5 hq
   cases this
  ·rw [gm]
   have:zt ρ3 (tm0.set i .nilp)=(zt ρ3 tm0).set i (den ρ3 .nilp):=by simp [qt,List.map_set]
   rw [this]
   refine zss h0 q1 ?_
   simp only [den] at q2 ⊢
   cases q2
   exact .ptrN
theorem zbz {ν:Nat→Bool} {G:SH}:∀{dl:List DPl} {tm:List SV} {H H':SH} {x:DS dl},bkD dl tm H=some (x,H')→GLe H' G→∀{b:Nat} {k:SB},zm (hpD dl x) b=some k→
   ∃(t:Ty) (y:T t) (cs:List SV),k=.vars (yp t y)∧zm G b=some (.vars cs)∧∀(φ:Ren) (K:Nat→Prop) (w:World) (nx:Nat) (us:List Value),zF φ (zE ν G) K w→VN ν nx G→zw φ (zt (rho ν G) cs) us→zw φ (ql t y) us
 |[],tm,H,H',x,h,hG,b,k,hk=>by simp [hpD,Vf] at hk
 |.tmp i vt::r,tm,H,H',x,h,hG,b,k,hk=>by
  simp only [bkD] at h
  split at h
  case h_2=>cases h
  split at h
  ·cases h
  ·split at h
   case h_2=>cases h
   split at h
   case h_2=>cases h
   rename_i h2
   cases h
   simp only [hpD] at hk
   exact zbz h2 hG hk
 |.blk b0 t::r,tm,H,H',x,h,hG,b,k,hk=>by
  simp only [bkD] at h
  split at h
  case h_2=>cases h
  rename_i cs hcs
  split at h
  case h_2=>cases h
  rename_i x1 H1 h1
  split at h
  case h_2=>cases h
  rename_i y H2 h2
  cases h
  simp only [hpD] at hk
  rw [zH] at hk
  by_cases hb:b0=b
  ·subst hb
   simp only [if_true,Option.some.injEq] at hk
   subst hk
   obtain ⟨cs1,he,g1,r1⟩:=GM _ (zic h1)
   simp only [List.append_nil] at he
   subst he
   have g2:=kU h2
   have hg:=(g1.1.trans g2.1).trans hG
   refine ⟨t,x1,cs,rfl,?_,fun φ K w nx us g hv hr=>?_⟩
   ·rcases hg b0 with h3 | ⟨nn,t',l,h3,_⟩
    ·rw [h3];exact hcs
    ·rw [hcs] at h3;cases h3
   ·exact r1 ν G (g2.1.trans hG) φ K w nx us g hv (by rw [←hg.rho ν];exact hr)
  ·rw [if_neg hb] at hk
   exact zbz h2 hG hk
 |.frz b0 ks::r,tm,H,H',x,h,hG,b,k,hk=>by
  simp only [bkD] at h
  split at h
  case h_2=>cases h
  split at h
  case h_2=>cases h
  split at h
  case h_2=>cases h
  rename_i h2
  cases h
  simp only [hpD] at hk
  exact zbz h2 hG hk
 |.npt i::r,tm,H,H',x,h,hG,b,k,hk=>by
  simp only [bkD] at h
  split at h
  case h_2=>cases h
  split at h
  case h_2=>cases h
  rename_i h2
  cases h
  simp only [hpD] at hk
  exact zbz h2 hG hk
def nmD:List DPl→List Nat
 |[]=>[]
 |.tmp _ _::r=>nmD r
 |.blk b _::r=>b::nmD r
 |.frz _ _::r=>nmD r
 |.npt _::r=>nmD r
def nmK:List CK→List Nat
 |[]=>[]
 |.d _::r=>nmK r
 |.o c _ _::r=>c::nmK r
def nmO:List OPl→List Nat
 |[]=>[]
 |.otmp _ c _ _::r=>c::nmO r
 |.sblk b ks::r=>b::(nmK ks++nmO r)
 |.arr b _ _::r=>b::nmO r
 |.lp l _::r=>l::nmO r
 |.dfd b::r=>b::nmO r
 |.mpl b _ _ _::r=>b::nmO r
theorem gr {n:Nat}:∀{dl:List DPl} {x:DS dl},n∉nmD dl→zm (hpD dl x) n=none
 |[],x,h=>rfl
 |.tmp _ _::r,x,h=>gr (dl:=r) (x:=x.2) h
 |.blk b t::r,x,h=>by
  simp only [nmD,List.mem_cons,not_or] at h
  simp only [hpD]
  rw [zH,if_neg (Ne.symm h.1)]
  exact gr h.2
 |.frz b ks::r,x,h=>gr (dl:=r) (x:=x.2) h
 |.npt _::r,x,h=>gr (dl:=r) (x:=x.2) h
theorem GR {n:Nat}:∀{ks:List CK} {x:CS ks},n∉nmK ks→zm (Za ks x) n=none
 |[],x,h=>rfl
 |.d t::r,x,h=>GR (ks:=r) (x:=x.2) h
 |.o c nn t::r,x,h=>by
  simp only [nmK,List.mem_cons,not_or] at h
  simp only [Za]
  rw [zH,if_neg (Ne.symm h.1)]
  exact GR h.2
theorem Zs {n:Nat}:∀{ol:List OPl} {vs:List LSt} {y:OS ol},n∉nmO ol→zm (hpO ol vs y) n=none
 |[],vs,y,h=>rfl
 |.otmp _ c nn t::r,vs,y,h=>by
  simp only [nmO,List.mem_cons,not_or] at h
  simp only [hpO]
  rw [zH,if_neg (Ne.symm h.1)]
  exact Zs h.2
 |.sblk b ks::r,vs,y,h=>by
  simp only [nmO,List.mem_cons,List.mem_append,not_or] at h
  simp only [hpO]
  rw [zH,if_neg (Ne.symm h.1),zP,GR h.2.1]
  exact Zs h.2.2
 |.arr b nn t::r,vs,y,h=>by
  simp only [nmO,List.mem_cons,not_or] at h
  simp only [hpO]
  rw [zH,if_neg (Ne.symm h.1)]
  exact Zs h.2
 |.lp b L::r,vs,y,h=>by
  simp only [nmO,List.mem_cons,not_or] at h
  simp only [hpO]
  rw [zH,if_neg (Ne.symm h.1)]
  exact Zs h.2
 |.dfd b::r,vs,y,h=>by
  simp only [nmO,List.mem_cons,not_or] at h
  simp only [hpO]
  rw [zH,if_neg (Ne.symm h.1)]
  exact Zs h.2
 |.mpl b _ _ _::r,vs,y,h=>by
  simp only [nmO,List.mem_cons,not_or] at h
  simp only [hpO]
  rw [zH,if_neg (Ne.symm h.1)]
  exact Zs h.2
def zst (HT:SH):(ks:List CK)→CS ks→Prop
 |[],_=>True
 |.d _::r,x=>zst HT r x.2
 |.o c nn t::r,x=>zm HT c=some (.arr nn t x.1)∧zst HT r x.2
theorem zsu:∀(ks:List CK) (x:CS ks) (pre post:SH),(nmK ks).Nodup→(∀n∈nmK ks,zm pre n=none)→zst (pre++(Za ks x++post)) ks x
 |[],x,pre,post,hn,hp=>trivial
 |.d t::r,x,pre,post,hn,hp=>zsu r x.2 pre post hn hp
 |.o c nn t::r,x,pre,post,hn,hp=>by
  simp only [nmK,List.nodup_cons] at hn
  simp only [nmK,List.mem_cons,forall_eq_or_imp] at hp
  refine ⟨?_,?_⟩
  ·simp only [Za]
   rw [zP,hp.1]
   simp [zH]
  ·have:=zsu r x.2 (pre++[(c,.arr nn t x.1)]) post hn.2 (fun n hm=>by
    rw [zP,hp.2 n hm]
    show zm [(c,_)] n=none
    rw [zH,if_neg (fun e=>hn.1 (by rw [e];exact hm))];rfl)
   have e:pre++[(c,SB.arr nn t x.1)]++(Za r x.2++post)=pre++(Za (.o c nn t::r) x++post):=by simp [Za]
   rw [e] at this;exact this
def JP (HT:SH):(ol:List OPl)→OS ol→Prop
 |[],_=>True
 |.otmp _ c nn t::r,y=>zm HT c=some (.arr nn t y.1)∧JP HT r y.2
 |.sblk _ ks::r,y=>zst HT ks y.1∧JP HT r y.2
 |.arr b nn t::r,y=>zm HT b=some (.arr nn t y.1)∧JP HT r y.2
 |.lp _ _::r,y=>JP HT r y.2
 |.dfd _::r,y=>JP HT r y.2
 |.mpl _ _ _ _::r,y=>JP HT r y.2
theorem Vj:∀(ol:List OPl) (vs:List LSt) (y:OS ol) (pre post:SH),(nmO ol).Nodup→(∀n∈nmO ol,zm pre n=none)→JP (pre++(hpO ol vs y++post)) ol y
 |[],vs,y,pre,post,hn,hp=>trivial
 |.otmp i c nn t::r,vs,y,pre,post,hn,hp=>by
  simp only [nmO,List.nodup_cons] at hn
  simp only [nmO,List.mem_cons,forall_eq_or_imp] at hp
  refine ⟨?_,?_⟩
  ·simp only [hpO]
   rw [zP,hp.1]
   simp [zH]
  ·have:=Vj r vs y.2 (pre++[(c,.arr nn t y.1)]) post hn.2 (fun n hm=>by
    rw [zP,hp.2 n hm]
    show zm [(c,_)] n=none
    rw [zH,if_neg (fun e=>hn.1 (by rw [e];exact hm))];rfl)
   have e:pre++[(c,SB.arr nn t y.1)]++(hpO r vs y.2++post)=pre++(hpO (.otmp i c nn t::r) vs y++post):=by simp [hpO]
   rw [e] at this;exact this
 |.sblk b ks::r,vs,y,pre,post,hn,hp=>by
  simp only [nmO,List.nodup_cons,List.mem_append,not_or,List.nodup_append] at hn
  simp only [nmO,List.mem_cons,List.mem_append,forall_eq_or_imp] at hp
  refine ⟨?_,?_⟩
  ·have:=zsu ks y.1 (pre++[(b,.vars (zby ks y.1))]) (hpO r vs y.2++post) hn.2.1 (fun n hm=>by
    rw [zP,hp.2 n (.inl hm)]
    show zm [(b,_)] n=none
    rw [zH,if_neg (fun e=>hn.1.1 (by rw [e];exact hm))];rfl)
   have e:(pre++[(b,SB.vars (zby ks y.1))])++(Za ks y.1++(hpO r vs y.2++post))=pre++(hpO (.sblk b ks::r) vs y++post):=by
    simp [hpO]
   rw [e] at this;exact this
  ·have:=Vj r vs y.2 (pre++(b,.vars (zby ks y.1))::Za ks y.1) post hn.2.2.1 (fun n hm=>by
    rw [zP,hp.2 n (.inr hm)]
    show zm ((b,_)::_) n=none
    rw [zH,if_neg (fun e=>hn.1.2 (by rw [e];exact hm))]
    exact GR (fun h=>hn.2.2.2 n h n hm rfl))
   have e:(pre++(b,.vars (zby ks y.1))::Za ks y.1)++(hpO r vs y.2++post)=pre++(hpO (.sblk b ks::r) vs y++post):=by
    simp [hpO]
   rw [e] at this;exact this
 |.arr b nn t::r,vs,y,pre,post,hn,hp=>by
  simp only [nmO,List.nodup_cons] at hn
  simp only [nmO,List.mem_cons,forall_eq_or_imp] at hp
  refine ⟨?_,?_⟩
  ·simp only [hpO]
   rw [zP,hp.1]
   simp [zH]
  ·have:=Vj r vs y.2 (pre++[(b,.arr nn t y.1)]) post hn.2 (fun n hm=>by
    rw [zP,hp.2 n hm]
    show zm [(b,_)] n=none
    rw [zH,if_neg (fun e=>hn.1 (by rw [e];exact hm))];rfl)
   have e:(pre++[(b,SB.arr nn t y.1)])++(hpO r vs y.2++post)=pre++(hpO (.arr b nn t::r) vs y++post):=by simp [hpO]
   rw [e] at this;exact this
 |.lp b L::r,vs,y,pre,post,hn,hp=>by
  simp only [nmO,List.nodup_cons] at hn
  simp only [nmO,List.mem_cons,forall_eq_or_imp] at hp
  have:=Vj r vs.tail y.2 (pre++[(b,.loop (stO L vs))]) post hn.2 (fun n hm=>by
    rw [zP,hp.2 n hm]
    show zm [(b,_)] n=none
    rw [zH,if_neg (fun e=>hn.1 (by rw [e];exact hm))];rfl)
  have e:(pre++[(b,SB.loop (stO L vs))])++(hpO r vs.tail y.2++post)=pre++(hpO (.lp b L::r) vs y++post):=by simp [hpO]
  rw [e] at this;exact this
 |.dfd b::r,vs,y,pre,post,hn,hp=>by
  simp only [nmO,List.nodup_cons] at hn
  simp only [nmO,List.mem_cons,forall_eq_or_imp] at hp
  have:=Vj r vs y.2 (pre++[(b,.defd)]) post hn.2 (fun n hm=>by
    rw [zP,hp.2 n hm]
    show zm [(b,_)] n=none
    rw [zH,if_neg (fun e=>hn.1 (by rw [e];exact hm))];rfl)
  have e:(pre++[(b,SB.defd)])++(hpO r vs y.2++post)=pre++(hpO (.dfd b::r) vs y++post):=by simp [hpO]
  rw [e] at this;exact this
 |.mpl b k ag t::r,vs,y,pre,post,hn,hp=>by
  simp only [nmO,List.nodup_cons] at hn
  simp only [nmO,List.mem_cons,forall_eq_or_imp] at hp
  have:=Vj r vs y.2 (pre++[(b,.mpb k ag t y.1)]) post hn.2 (fun n hm=>by
    rw [zP,hp.2 n hm]
    show zm [(b,_)] n=none
    rw [zH,if_neg (fun e=>hn.1 (by rw [e];exact hm))];rfl)
  have e:(pre++[(b,SB.mpb k ag t y.1)])++(hpO r vs y.2++post)=pre++(hpO (.mpl b k ag t::r) vs y++post):=by simp [hpO]
  rw [e] at this;exact this
theorem zz8 {φ2 φ3:Ren} {b b' o n c:Nat} (h:φ3 b=φ2 b') {v':Value} (hv:zr φ2 (.slice (some ⟨b',o,none⟩) n c) v'):zr φ3 (.slice (some ⟨b,o,none⟩) n c) v':=by
 cases hv with
 |sl _ _ _ _ L hL hc=>exact .sl _ _ _ _ L (by rw [h];exact hL) hc
 |slO _ _ _ _ c' L hL hc hn hl=>exact .slO _ _ _ _ c' L (by rw [h];exact hL) hc hn hl
 |slE _ _ _ a' L hL hc=>exact .slE _ _ _ a' L (by rw [h];exact hL) hc
theorem zyT {φ2 φ3:Ren} {ν:Nat→Bool} {nx c:Nat} {nn:Bool} {t:Ty} {H HT:SH} {u:SV} {x:List (T t)} {s:List (Nat×Nat)} (h:rdO nn t H c u=some (x,s)) (hv:VN ν nx H) (hv3:∀b,qY (zm HT b)=true→ν b=false)
  (hs:∀p∈s,φ3 p.1=φ2 p.2) (hT:zm HT c=some (.arr nn t x)) {v':Value} (hr:zr φ2 (den (rho ν H) u) v'):zr φ3 (den (rho ν HT) (.own c)) v':=by
 unfold rdO at h
 simp only [den]
 rw [WH ν (nn:=nn) (t:=t) (l:=x) (by rw [hT];rfl)]
 split at h
 ·cases nn with
  |true=>cases h
  |false=>cases h;simp only [den] at hr;cases hr;exact .slN _ _
 ·rename_i c'
  split at h
  ·rename_i nn' t' l hc'
   split at h
   ·rename_i ht
    subst ht
    have h6:=zA h
    clear h
    obtain ⟨hq,h⟩:=h6
    have:=zhj hq
    subst this
    cases h
    simp only [den] at hr
    rw [WH ν (nn:=nn') (t:=t') (l:=l) (by rw [hc'];rfl)] at hr
    have he:JK rfl l=l:=rfl
    rw [he]
    cases hn:jD nn' l with
    |true=>rw [hn] at hr;cases hr;exact .slN _ _
    |false=>rw [hn] at hr;exact zz8 (hs (c,c') (by simp)) hr
   ·cases h
  ·cases h
 ·cases h
theorem zsv {φ2 φ3:Ren} {ν:Nat→Bool} {nx:Nat} {H HT:SH} (g:zF φ2 (zE ν H) K w) (hv:VN ν nx H) (hv3:∀b,qY (zm HT b)=true→ν b=false) (hF:∀b L,φ2 (FZ+b)=some L→φ3 (FZ+b)=some L) :
  ∀{ks:List CK} {us:List SV} {x:CS ks} {s:List (Nat×Nat)},rdK ks us H=some (x,s)→(∀p∈s,φ3 p.1=φ2 p.2)→zst HT ks x→∀{vs:List Value},zw φ2 (zt (rho ν H) us) vs→zw φ3 (zt (rho ν HT) (zby ks x)) vs
 |[],[],x,s,h,hs,hT,vs,hr=>by
  match vs,hr with
  |[],_=>trivial
  |_::_,hr=>simp [zt,zw] at hr
 |.d t::r,us,x,s,h,hs,hT,vs,hr=>by
  simp only [rdK] at h
  split at h
  case h_2=>cases h
  rename_i z us1 h1
  split at h
  case h_2=>cases h
  rename_i y s' h2
  cases h
  obtain ⟨cs,rfl,_,hc⟩:=GM t (zwS t h1)
  rw [qt,List.map_append] at hr
  have hlen:=hr.length
  obtain ⟨u1,u2,rfl,hl1⟩:∃u1 u2,vs=u1++u2∧u1.length=cs.length:=⟨vs.take cs.length,vs.drop cs.length,by simp,by simp at hlen ⊢;omega⟩
  have hsplit:zw φ2 (cs.map (den (rho ν H))) u1∧zw φ2 (us1.map (den (rho ν H))) u2:=by
   have h3:=hr.take (cs.length)
   have h4:=hr.drop (cs.length)
   rw [List.take_append_of_le_length (by simp),List.take_append_of_le_length (by omega),List.take_of_length_le (by simp),List.take_of_length_le (by omega)] at h3
   rw [List.drop_append_of_le_length (by simp),List.drop_append_of_le_length (by omega),List.drop_eq_nil_of_le (by simp),List.drop_eq_nil_of_le (by omega)] at h4
   exact ⟨h3,h4⟩
  simp only [zby]
  rw [qt,List.map_append,yc]
  refine zw.append ?_ ?_
  ·exact zd4 hF (hc ν H (GLe.refl _) φ2 K w nx u1 g hv (by rw [qt];exact hsplit.1))
  ·have:=zsv g hv hv3 hF h2 (fun p hp=>hs p hp) hT (vs:=u2) (by rw [qt];exact hsplit.2)
   rw [qt] at this;exact this
 |.o c nn t::r,u::us,x,s,h,hs,hT,vs,hr=>by
  simp only [rdK] at h
  split at h
  case h_2=>cases h
  rename_i z s1 h1
  split at h
  case h_2=>cases h
  rename_i y s' h2
  cases h
  match vs,hr with
  |[],hr=>simp [zt,zw] at hr
  |v::vs,hr=>
   simp only [zt,zw,zby] at hr ⊢
   exact ⟨zyT h1 hv hv3 (fun p hp=>hs p (by simp [hp])) hT.1 hr.1,zsv g hv hv3 hF h2 (fun p hp=>hs p (by simp [hp])) hT.2 hr.2⟩
 |[],_::_,_,_,h,_,_,_,_=>by simp [rdK] at h
 |.o _ _ _::_,[],_,_,h,_,_,_,_=>by simp [rdK] at h
theorem zEs {nn:Bool} {t:Ty} {H:SH} {c:Nat} {x:List (T t)×List (Nat×Nat)} (h:rdO nn t H c .junk=some x):False:=by simp [rdO] at h
theorem UD {φ2 φ3:Ren} {ν:Nat→Bool} {H HT:SH} {nx:Nat} {ts:Array Value} (hv:VN ν nx H) (hv3:∀b,qY (zm HT b)=true→ν b=false) {tm:List SV} (ht:qI φ2 (zt (rho ν H) tm) ts) :
  ∀{ol:List OPl} {vs:List LSt} {y:OS ol} {σ:List (Nat×Nat)},bkO ol vs tm H=some (y,σ)→JP HT ol y→(∀p∈σ,φ3 p.1=φ2 p.2)→∀{tm0:List SV},qI φ3 (zt (rho ν HT) tm0) ts→qI φ3 (zt (rho ν HT) (tmO ol y tm0)) ts
 |[],vs,y,σ,h,hO,hσ,tm0,h0=>by simpa only [tmO] using h0
 |.otmp i c nn t::r,vs,y,σ,h,hO,hσ,tm0,h0=>by
  simp only [bkO] at h
  split at h
  case h_2=>cases h
  rename_i u hu
  split at h
  case h_2=>cases h
  rename_i x s h1
  split at h
  case h_2=>cases h
  rename_i y' σ' h2
  cases h
  simp only [tmO]
  refine UD hv hv3 ht h2 hO.2 (fun p hp=>hσ p (by simp [hp])) ?_
  rw [yJ] at hu
  rcases ht.2 i (den (rho ν H) u) (by rw [wB,hu];rfl) with hq | ⟨v',q1,q2⟩
  ·have:=zd5 hq;subst this;exact (zEs h1).elim
  ·rw [gm]
   have:zt (rho ν HT) (tm0.set i (.own c))=(zt (rho ν HT) tm0).set i (den (rho ν HT) (.own c)):=by simp [qt,List.map_set]
   rw [this]
   exact zss h0 q1 (zyT h1 hv hv3 (fun p hp=>hσ p (by simp [hp])) hO.1 q2)
 |.sblk b ks::r,vs,y,σ,h,hO,hσ,tm0,h0=>by
  simp only [bkO] at h
  split at h
  case h_2=>cases h
  split at h
  case h_2=>cases h
  split at h
  case h_2=>cases h
  rename_i h2
  cases h
  simp only [tmO]
  exact UD hv hv3 ht h2 hO.2 (fun p hp=>hσ p (by simp [hp])) h0
 |.arr b nn t::r,vs,y,σ,h,hO,hσ,tm0,h0=>by
  simp only [bkO] at h
  split at h
  case h_2=>cases h
  split at h
  case isFalse=>cases h
  obtain ⟨_,h⟩:=zA h
  split at h
  case h_2=>cases h
  rename_i h2
  cases h
  simp only [tmO]
  exact UD hv hv3 ht h2 hO.2 (fun p hp=>hσ p (by simp [hp])) h0
 |.lp b L::r,vs,y,σ,h,hO,hσ,tm0,h0=>by
  simp only [bkO] at h
  split at h
  case h_2=>cases h
  have h6:=zA h
  clear h
  obtain ⟨hq,h⟩:=h6
  split at h
  case h_2=>cases h
  rename_i h2
  cases h
  simp only [tmO]
  exact UD hv hv3 ht h2 hO (fun p hp=>hσ p (by simp [hp])) h0
 |.dfd b::r,vs,y,σ,h,hO,hσ,tm0,h0=>by
  simp only [bkO] at h
  split at h
  case h_2=>cases h
  split at h
  case h_2=>cases h
  rename_i h2
  cases h
  simp only [tmO]
  exact UD hv hv3 ht h2 hO (fun p hp=>hσ p (by simp [hp])) h0
 |.mpl b k ag t::r,vs,y,σ,h,hO,hσ,tm0,h0=>by
  simp only [bkO] at h
  split at h
  case h_2=>cases h
  split at h
  case isFalse=>cases h
  obtain ⟨_,h⟩:=zA h
  split at h
  case h_2=>cases h
  rename_i h2
  cases h
  simp only [tmO]
  exact UD hv hv3 ht h2 hO (fun p hp=>hσ p (by simp [hp])) h0
inductive zb8 (H HT:SH) (ol:List OPl) (σ:List (Nat×Nat)) (b s:Nat):SB→Prop
 |arr (nn:Bool) (t:Ty) (l:List (T t)) (h:zm H s=some (.arr nn t l)):zb8 H HT ol σ b s (.arr nn t l)
 |own (ks:List CK) (us:List SV) (x:CS ks) (s':List (Nat×Nat)) (hs:s=b) (h:zm H b=some (.vars us)) (hr:rdK ks us H=some (x,s')) (hσ:∀p∈s',p∈σ) (hT:zst HT ks x):zb8 H HT ol σ b s (.vars (zby ks x))
 |lp (L L':SL) (vs:List LSt) (hs:s=b) (hL:OPl.lp b L∈ol) (h:zm H b=some (.loop L')) (hq:stQ L' vs=true):zb8 H HT ol σ b s (.loop (stO L vs))
 |dfd (hs:s=b) (h:zm H b=some .defd):zb8 H HT ol σ b s .defd
 |mp (k:IntKind) (ag:Bool) (t:Ty) (l:List (Int×T t)) (hs:s=b) (h:zm H b=some (.mpb k ag t l)):zb8 H HT ol σ b s (.mpb k ag t l)
theorem zb8.more {H HT:SH} {ol:List OPl} {p:OPl} {σ σ':List (Nat×Nat)} (hσ:∀q∈σ,q∈σ') {b s:Nat} {k:SB} (h:zb8 H HT ol σ b s k):zb8 H HT (p::ol) σ' b s k:=by
 cases h with
 |arr nn t l h=>exact .arr nn t l h
 |own ks us x s' hs h hr h1 hT=>exact .own ks us x s' hs h hr (fun q hq=>hσ q (h1 q hq)) hT
 |lp L L' vs hs hL h hq=>exact .lp L L' vs hs (List.mem_cons_of_mem _ hL) h hq
 |dfd hs h=>exact .dfd hs h
 |mp k ag t l hs h=>exact .mp k ag t l hs h
theorem zwU {nn:Bool} {t:Ty} {H:SH} {c:Nat} {u:SV} {l:List (T t)} {s:List (Nat×Nat)} (h:rdO nn t H c u=some (l,s)):(nn=false∧l=[])∨∃c',s=[(c,c')]∧zm H c'=some (.arr nn t l):=by
 unfold rdO at h
 split at h
 ·cases nn with
  |true=>cases h
  |false=>cases h;exact .inl ⟨rfl,rfl⟩
 ·rename_i c'
  split at h
  ·rename_i nn' t' l' hc'
   split at h
   ·rename_i ht
    subst ht
    have h6:=zA h
    clear h
    obtain ⟨hq,h⟩:=h6
    have:=zhj hq
    subst this
    cases h
    exact .inr ⟨c',rfl,hc'⟩
   ·cases h
  ·cases h
 ·cases h
def zC3 (k:SB):Prop:=∃t,k=.arr false t []
theorem zsw {H:SH}:∀{ks:List CK} {us:List SV} {x:CS ks} {s:List (Nat×Nat)},rdK ks us H=some (x,s)→∀{b:Nat} {k:SB},zm (Za ks x) b=some k→zC3 k∨∃s',(b,s')∈s∧∃(nn:Bool) (t:Ty) (l:List (T t)),k=.arr nn t l∧zm H s'=some (.arr nn t l)
 |[],us,x,s,h,b,k,hk=>by simp [Za,Vf] at hk
 |.d t::r,us,x,s,h,b,k,hk=>by
  simp only [rdK] at h
  split at h
  case h_2=>cases h
  split at h
  case h_2=>cases h
  rename_i y s' h2
  cases h
  exact zsw h2 hk
 |.o c nn t::r,u::us,x,s,h,b,k,hk=>by
  simp only [rdK] at h
  split at h
  case h_2=>cases h
  rename_i z s1 h1
  split at h
  case h_2=>cases h
  rename_i y s' h2
  cases h
  simp only [Za] at hk
  rw [zH] at hk
  by_cases hb:c=b
  ·subst hb
   simp only [if_true,Option.some.injEq] at hk
   subst hk
   rcases zwU h1 with ⟨rfl,rfl⟩ | ⟨c',rfl,h3⟩
   ·exact .inl ⟨t,rfl⟩
   ·exact .inr ⟨c',by simp,nn,t,z,rfl,h3⟩
  ·rw [if_neg hb] at hk
   rcases zsw h2 hk with h3 | ⟨s2,h3,h4⟩
   ·exact .inl h3
   ·exact .inr ⟨s2,by simp [h3],h4⟩
 |.o _ _ _::_,[],_,_,h,_,_,_=>by simp [rdK] at h
theorem Vk {tm:List SV} {H HT:SH}:∀{ol:List OPl} {vs:List LSt} {y:OS ol} {σ:List (Nat×Nat)},bkO ol vs tm H=some (y,σ)→JP HT ol y→∀{b:Nat} {k:SB},zm (hpO ol vs y) b=some k→zC3 k∨∃s,(b,s)∈σ∧zb8 H HT ol σ b s k
 |[],vs,y,σ,h,hO,b,k,hk=>by simp [hpO,Vf] at hk
 |.otmp i c nn t::r,vs,y,σ,h,hO,b,k,hk=>by
  simp only [bkO] at h
  split at h
  case h_2=>cases h
  rename_i u hu
  split at h
  case h_2=>cases h
  rename_i x s h1
  split at h
  case h_2=>cases h
  rename_i y' σ' h2
  cases h
  simp only [hpO] at hk
  rw [zH] at hk
  by_cases hb:c=b
  ·subst hb
   simp only [if_true,Option.some.injEq] at hk
   subst hk
   rcases zwU h1 with ⟨rfl,rfl⟩ | ⟨c',rfl,h3⟩
   ·exact .inl ⟨t,rfl⟩
   ·exact .inr ⟨c',by simp,.arr nn t x h3⟩
  ·rw [if_neg hb] at hk
   rcases Vk h2 hO.2 hk with h3 | ⟨s',h3,h4⟩
   ·exact .inl h3
   ·exact .inr ⟨s',by simp [h3],h4.more fun q hq=>by simp [hq]⟩
 |.sblk b0 ks::r,vs,y,σ,h,hO,b,k,hk=>by
  simp only [bkO] at h
  split at h
  case h_2=>cases h
  rename_i us hu
  split at h
  case h_2=>cases h
  rename_i x s h1
  split at h
  case h_2=>cases h
  rename_i y' σ' h2
  cases h
  simp only [hpO] at hk
  have rest:zm (hpO r vs y') b=some k→zC3 k∨∃s',(b,s')∈(b0,b0)::(s++σ')∧zb8 H HT (.sblk b0 ks::r) ((b0,b0)::(s++σ')) b s' k:=fun hk=>by
   rcases Vk h2 hO.2 hk with h3 | ⟨s',h3,h4⟩
   ·exact .inl h3
   ·exact .inr ⟨s',by simp [h3],h4.more fun q hq=>by simp [hq]⟩
  rw [zH] at hk
  by_cases hb0:b0=b
  ·subst hb0
   simp only [if_true,Option.some.injEq] at hk
   subst hk
   exact .inr ⟨b0,by simp,.own ks us x s rfl hu h1 (fun p hp=>by simp [hp]) hO.1⟩
  ·rw [if_neg hb0,zP] at hk
   split at hk
   ·rename_i kk hkk
    cases hk
    rcases zsw h1 hkk with h3 | ⟨s',h3,nn,t,l,rfl,h4⟩
    ·exact .inl h3
    ·exact .inr ⟨s',by simp [h3],.arr nn t l h4⟩
   ·exact rest hk
 |.arr b0 nn t::r,vs,y,σ,h,hO,b,k,hk=>by
  simp only [bkO] at h
  split at h
  case h_2=>cases h
  rename_i nn' t' l hl
  split at h
  case isFalse=>cases h
  rename_i ht
  subst ht
  have h6:=zA h
  clear h
  obtain ⟨hq,h⟩:=h6
  have:=zhj hq
  subst this
  split at h
  case h_2=>cases h
  rename_i y' σ' h2
  cases h
  simp only [hpO] at hk
  rw [zH] at hk
  by_cases hb0:b0=b
  ·subst hb0
   simp only [if_true,Option.some.injEq] at hk
   subst hk
   exact .inr ⟨b0,by simp,.arr _ _ _ hl⟩
  ·rw [if_neg hb0] at hk
   rcases Vk h2 hO.2 hk with h3 | ⟨s',h3,h4⟩
   ·exact .inl h3
   ·exact .inr ⟨s',by simp [h3],h4.more fun q hq=>by simp [hq]⟩
 |.lp b0 L::r,vs,y,σ,h,hO,b,k,hk=>by
  simp only [bkO] at h
  split at h
  case h_2=>cases h
  rename_i L' hl
  have h6:=zA h
  clear h
  obtain ⟨hq,h⟩:=h6
  split at h
  case h_2=>cases h
  rename_i y' σ' h2
  cases h
  simp only [hpO] at hk
  rw [zH] at hk
  by_cases hb0:b0=b
  ·subst hb0
   simp only [if_true,Option.some.injEq] at hk
   subst hk
   exact .inr ⟨b0,by simp,.lp L L' vs rfl (by simp) hl hq⟩
  ·rw [if_neg hb0] at hk
   rcases Vk h2 hO hk with h3 | ⟨s',h3,h4⟩
   ·exact .inl h3
   ·exact .inr ⟨s',by simp [h3],h4.more fun q hq=>by simp [hq]⟩
 |.dfd b0::r,vs,y,σ,h,hO,b,k,hk=>by
  simp only [bkO] at h
  split at h
  case h_2=>cases h
  rename_i hl
  split at h
  case h_2=>cases h
  rename_i y' σ' h2
  cases h
  simp only [hpO] at hk
  rw [zH] at hk
  by_cases hb0:b0=b
  ·subst hb0
   simp only [if_true,Option.some.injEq] at hk
   subst hk
   exact .inr ⟨b0,by simp,.dfd rfl hl⟩
  ·rw [if_neg hb0] at hk
   rcases Vk h2 hO hk with h3 | ⟨s',h3,h4⟩
   ·exact .inl h3
   ·exact .inr ⟨s',by simp [h3],h4.more fun q hq=>by simp [hq]⟩
 |.mpl b0 k0 ag t::r,vs,y,σ,h,hO,b,k,hk=>by
  simp only [bkO] at h
  split at h
  case h_2=>cases h
  rename_i k' ag' t' l hl
  split at h
  case isFalse=>cases h
  rename_i ht
  subst ht
  have h6:=zA h
  clear h
  obtain ⟨hq,h⟩:=h6
  simp only [Bool.and_eq_true] at hq
  have:=Jh hq.1
  subst this
  have:=zhj hq.2
  subst this
  split at h
  case h_2=>cases h
  rename_i y' σ' h2
  cases h
  simp only [hpO] at hk
  rw [zH] at hk
  by_cases hb0:b0=b
  ·subst hb0
   simp only [if_true,Option.some.injEq] at hk
   subst hk
   exact .inr ⟨b0,by simp,.mp _ _ _ _ rfl hl⟩
  ·rw [if_neg hb0] at hk
   rcases Vk h2 hO hk with h3 | ⟨s',h3,h4⟩
   ·exact .inl h3
   ·exact .inr ⟨s',by simp [h3],h4.more fun q hq=>by simp [hq]⟩
def lkS (σ:List (Nat×Nat)) (b:Nat):Nat:=List.rec (motive:=fun _=>Nat) b (fun p _ ih=>bif Nat.beq p.1 b then p.2 else ih) σ
def idD (dl:List DPl):List (Nat×Nat):=(nmD dl).map fun b=>(b,b)
def UE (σ:List (Nat×Nat)):Bool:=σ.all fun p=>Nat.beq (lkS σ p.1) p.2&&σ.all fun q=>Nat.beq p.1 q.1||!Nat.beq p.2 q.2
theorem zmK {σ:List (Nat×Nat)} (h:UE σ=true) {b s:Nat} (hp:(b,s)∈σ):lkS σ b=s:=by
 unfold UE at h
 rw [List.all_eq_true] at h
 have:=h _ hp
 simp only [Bool.and_eq_true] at this
 exact Nat.eq_of_beq_eq_true this.1
theorem zC4 {σ:List (Nat×Nat)} (h:UE σ=true) {b c s:Nat} (hp:(b,s)∈σ) (hq:(c,s)∈σ):b=c:=by
 unfold UE at h
 rw [List.all_eq_true] at h
 have:=h _ hp
 simp only [Bool.and_eq_true] at this
 have h2:=this.2
 rw [List.all_eq_true] at h2
 have h3:=h2 _ hq
 simp only [Bool.or_eq_true] at h3
 rcases h3 with h3 | h3
 ·exact Nat.eq_of_beq_eq_true h3
 ·have:Nat.beq s s=true:=Nat.beq_refl s
  simp [] at h3
theorem zt5 {φ:Ren} {arr:Array Value}:∀{cs:List Value} {o:Nat},(∀(j:Nat) v,cs[j]?=some v→∃v',arr[o+j]?=some v'∧zr φ v v')→∃us,zw φ cs us∧∀(j:Nat) u,us[j]?=some u→arr[o+j]?=some u
 |[],o,h=>⟨[],trivial,fun j u hu=>by simp at hu⟩
 |c::cs,o,h=>by
  obtain ⟨v',h1,h2⟩:=h 0 c rfl
  obtain ⟨us,h3,h4⟩:=zt5 (cs:=cs) (o:=o+1) (fun j v hv=>by
   obtain ⟨u,q1,q2⟩:=h (j+1) v (by simpa using hv)
   exact ⟨u,by rw [←q1];congr 1;omega,q2⟩)
  refine ⟨v'::us,⟨h2,h3⟩,fun j u hu=>?_⟩
  cases j with
  |zero=>simp at hu;subst hu;exact h1
  |succ j=>simp at hu;have:=h4 j u hu;rw [←this];congr 1;omega
theorem GS {φ2 φ3:Ren} {L:Loc} {cs ds:List Value} {ro:Bool} (h:jo φ2 w L (.cells cs ro)) (hc:∀us,zw φ2 cs us→zw φ3 ds us):jo φ3 w L (.cells ds ro):=by
 obtain ⟨arr,el,fr,h1,h2,h3⟩:=h
 obtain ⟨us,q1,q2⟩:=zt5 h2
 refine ⟨arr,el,fr,h1,fun j v hv=>?_,h3⟩
 obtain ⟨u,e1,e2⟩:=(hc us q1).get hv
 exact ⟨u,q2 j u e1,e2⟩
theorem zz9 {φ φ0:Ren} (hF:∀b L,φ (FZ+b)=some L→φ0 (FZ+b)=some L) {t:Ty} {l:List (T t)} {us:List Value} (h:zw φ (zV t l) us):zw φ0 (zV t l) us:=by
 refine zw.of_get h.length fun i v v' hv hv'=>?_
 obtain ⟨u,h1,h2⟩:=h.get hv
 rw [hv'] at h1;cases h1
 have hm:=List.mem_of_getElem? hv
 unfold zV at hm
 rw [List.mem_flatMap] at hm
 obtain ⟨x,hx,hc⟩:=hm
 exact ZR hF t x v hc _ h2
theorem zC5 {φ φ0:Ren} (hF:∀b L,φ (FZ+b)=some L→φ0 (FZ+b)=some L) (ag:Bool) (t:Ty) (x:T t) {v':Value} (h:zr φ (mvV ag t x) v'):zr φ0 (mvV ag t x) v':=by
 cases ag with
 |true=>
  simp only [mvV,cond_true,wo] at h ⊢
  obtain ⟨ys,rfl,hl⟩:=h.agg_inv
  exact .agg' (by simpa using zd4 hF (by simpa using hl))
 |false=>
  simp only [mvV,cond_false] at h ⊢
  cases hc:ql t x with
  |nil=>rw [hc] at h;exact (by simp only [List.headD_nil,Fz.junk] at h;cases h)
  |cons a r=>
   rw [hc] at h
   simp only [List.headD_cons] at h ⊢
   exact ZR hF t x a (by rw [hc];simp) _ h
theorem zqk {φ φ0:Ren} (hF:∀b L,φ (FZ+b)=some L→φ0 (FZ+b)=some L) {k:IntKind} {ag:Bool} {t:Ty}:∀{l:List (Int×T t)} {i:Nat} {xs:List MapEntry},Zp φ (gi k ag t l i) xs→Zp φ0 (gi k ag t l i) xs
 |[],i,[],h=>trivial
 |[],i,_::_,h=>h.elim
 |p::r,i,[],h=>h.elim
 |p::r,i,e::xs,h=>⟨h.1,zC5 hF ag t p.2 h.2.1,zqk hF h.2.2⟩
theorem zEt {φ φ0:Ren} (hF:∀b L,φ (FZ+b)=some L→φ0 (FZ+b)=some L) {L:Loc} {k:IntKind} {ag:Bool} {t:Ty} {l:List (Int×T t)} {i n:Nat} (h:jo φ w L (.mp (gi k ag t l i) n)):jo φ0 w L (.mp (gi k ag t l i) n):=by
 obtain ⟨xs,h1,⟨⟨ys,q1,q2⟩,q3⟩,h3⟩:=h
 exact ⟨xs,h1,⟨⟨ys,q1,zqk hF q2⟩,q3⟩,h3⟩
section
variable {φ2 φ3:Ren} {ν:Nat→Bool} {lo nx:Nat} {KA K':Nat→Prop} {Hs:Hp} {H HS HR HT:SH} {dl:List DPl} {ol:List OPl} {vs:List LSt} {tm:List SV} {x:DS dl} {y:OS ol} {σ:List (Nat×Nat)} {ns:List Nat}
theorem zBw (eT:HT=hpD dl x++(hpO ol vs y++HR)) (gA:zF φ2 (zE ν HS) KA w) (gB:zF φ2 Hs K' w) (hv:VN ν nx HS) (hv3:∀b,qY (zm HT b)=true→ν b=false)
  (hD:bkD dl tm H=some (x,HS)) (hO:bkO ol vs tm HS=some (y,σ)) (hQ:UE (idD dl++σ)=true) (hs:∀p∈idD dl++σ,Hs.get p.2=(zE ν HS).get p.2)
  (h3:∀p∈idD dl++σ,φ3 p.1=φ2 p.2) (hφ:∀b,b < lo→φ3 b=φ2 b) (hF:∀b,φ3 (FZ+b)=φ2 (FZ+b)) (hOR:JP HT ol y)
  (hns:∀b∈ns,b < lo) (hr:∀b∈ns,reg (zm HT b)=reg (zm HS b))
  (hL:∀l L,OPl.lp l L∈ol→xG ns lo L.tm=true∧L.dfr < lo∧∀L',zm HS l=some (.loop L')→∃s p,L'={L with st:=s,pend:=p})
  (hR:∀b k,zm HR b=some k→∀kd,zU (rho ν HT) (ν b) k=some kd→kd.rw=false∧∃L,φ3 b=some L∧jo φ3 w L kd∧K' L.blk):zF φ3 (zE ν HT) K' w:=by
 have hF2:∀b L,φ2 (FZ+b)=some L→φ3 (FZ+b)=some L:=fun b L h=>by rw [hF];exact h
 have key:∀b k,zm (hpD dl x) b=some k∨zm (hpO ol vs y) b=some k→∀kd,zU (rho ν HT) (ν b) k=some kd→(qY (some k)=true→ν b=false)→∃s,(b,s)∈idD dl++σ∧kd.rw=true∧∃kd',(zE ν HS).get s=some kd'∧kd'.rw=true∧∀L,jo φ2 w L kd'→jo φ3 w L kd:=by
  intro b k hk kd hkd hnn
  rcases hk with hk | hk
  ·obtain ⟨t,z,cs,rfl,h1,h2⟩:=zbz hD (GLe.refl _) hk
   have hm:b∈nmD dl:=by
    apply Classical.byContradiction
    intro hn;rw [gr hn] at hk;cases hk
   simp only [zU,Option.some.injEq] at hkd
   subst hkd
   refine ⟨b,by simp [idD,hm],rfl,.cells (zt (rho ν HS) cs) false,by rw [zL,h1];rfl,rfl,fun L hb=>GS hb fun us hu=>?_⟩
   have:=zd4 hF2 (h2 φ2 KA w nx us gA hv hu)
   rw [←yc (rho ν HT) t z] at this
   rw [qt];exact this
  ·rcases Vk hO hOR hk with ⟨t,rfl⟩ | ⟨s,hm,hc⟩
   ·simp [zU,jD] at hkd
   refine ⟨s,by simp [hm],?_⟩
   cases hc with
   |arr nn t l h=>
    simp only [zU] at hkd
    cases e2:jD nn l with
    |true=>rw [e2] at hkd;cases hkd
    |false=>
     rw [e2] at hkd
     simp only [cond_false,Option.some.injEq] at hkd
     subst hkd
     exact ⟨rfl,.cells (zV t l) false,by rw [zL,h];simp [zU,e2],rfl,fun L hb=>GS hb fun us hu=>zz9 hF2 hu⟩
   |own ks us0 z s' hs' h hr' hσ hT=>
    subst hs'
    simp only [zU,Option.some.injEq] at hkd
    subst hkd
    exact ⟨rfl,.cells (zt (rho ν HS) us0) false,by rw [zL,h];rfl,rfl,fun L hb=>GS hb fun us hu=>zsv gA hv hv3 hF2 hr' (fun p hp=>h3 p (by simp [hσ p hp])) hT hu⟩
   |lp L L' vs' hs' hL' h hq=>
    subst hs'
    simp only [zU,Option.some.injEq] at hkd
    subst hkd
    obtain ⟨l1,l2,l3⟩:=hL _ _ hL'
    obtain ⟨s1,p1,rfl⟩:=l3 _ h
    refine ⟨rfl,.loop (wX (rho ν HS) {L with st:=s1,pend:=p1}),by rw [zL,h];rfl,rfl,fun M hb=>?_⟩
    have hst:s1=(stO L vs').st∧p1=(stO L vs').pend:=by
     cases vs' with
     |nil=>simp [stQ] at hq
     |cons v r=>
      simp only [stQ,Bool.and_eq_true] at hq
      exact ⟨zBv hq.1,zC2 hq.2⟩
    have hrest:(stO L vs').tm=L.tm∧(stO L vs').params=L.params∧(stO L vs').assign=L.assign∧(stO L vs').body=L.body∧(stO L vs').dfr=L.dfr:=by
     cases vs'<;>exact ⟨rfl,rfl,rfl,rfl,rfl⟩
    obtain ⟨l',f1,f2,f3,f4,f5,f6,f7,D,f8,f9⟩:=hb
    refine ⟨l',f1,?_,?_,?_,?_,?_,?_,D,?_,f9⟩
    ·rw [f2];exact hst.1
    ·rw [f3];exact hst.2
    ·refine ⟨?_,fun i v hv'=>?_⟩
     ·have:=f4.1
      simp only [wX,wa] at this ⊢
      rw [hrest.1];exact this
     ·simp only [wX,hrest.1] at hv'
      rw [wB,Option.map_eq_some_iff] at hv'
      obtain ⟨u,hu,rfl⟩:=hv'
      rcases f4.2 i (den (rho ν HS) u) (by simp only [wX];rw [wB,hu];rfl) with hq' | ⟨v',q1,q2⟩
      ·exact .inl (zib (ke ν HS) hq')
      ·refine .inr ⟨v',q1,zmJ hφ hF2 hns hr u v' ?_ q2⟩
       have:∀(l:List SV) (i:Nat) u,xG ns lo l=true→l[i]?=some u→UC ns lo u=true:=by
        intro l
        induction l with
        |nil=>intro i u _ h;simp at h
        |cons a l ih=>
         intro i u hl hi
         simp only [xG,Bool.and_eq_true] at hl
         cases i with
         |zero=>simp at hi;subst hi;exact hl.1
         |succ i=>exact ih i u hl.2 (by simpa using hi)
       exact this _ _ _ l1 hu
    ·simp only [wX,hrest.2.1];exact f5
    ·simp only [wX,hrest.2.2.1];exact f6
    ·simp only [wX,hrest.2.2.2.1];exact f7
    ·simp only [wX,hrest.2.2.2.2]
     rw [hφ _ l2];exact f8
   |dfd hs' h=>
    subst hs'
    simp only [zU,Option.some.injEq] at hkd
    subst hkd
    exact ⟨rfl,.defd,by rw [zL,h];rfl,rfl,fun L hb=>hb⟩
   |mp k ag t l hs' h=>
    subst hs'
    simp only [zU,Option.some.injEq] at hkd
    subst hkd
    exact ⟨rfl,.mp (gi k ag t l 0) l.length,by rw [zL,h];rfl,rfl,fun L hb=>zEt hF2 hb⟩
 have split:∀b kd,(zE ν HT).get b=some kd→(∃s,(b,s)∈idD dl++σ∧kd.rw=true∧∃kd',Hs.get s=some kd'∧kd'.rw=true∧∀L,jo φ2 w L kd'→jo φ3 w L kd)∨(kd.rw=false∧∃L,φ3 b=some L∧jo φ3 w L kd∧K' L.blk):=by
  intro b kd hb
  rw [zL] at hb
  cases hk:zm HT b with
  |none=>rw [hk] at hb;cases hb
  |some k=>
   rw [hk] at hb
   simp only [Option.bind_some] at hb
   have hnn:qY (some k)=true→ν b=false:=fun h=>hv3 b (by rw [hk];exact h)
   rw [eT,zP,zP] at hk
   have fin:(zm (hpD dl x) b=some k∨zm (hpO ol vs y) b=some k)→(∃s,(b,s)∈idD dl++σ∧kd.rw=true∧∃kd',Hs.get s=some kd'∧kd'.rw=true∧∀L,jo φ2 w L kd'→jo φ3 w L kd)∨(kd.rw=false∧∃L,φ3 b=some L∧jo φ3 w L kd∧K' L.blk):=fun h=>by
    obtain ⟨s,e1,e2,kd',e3,e4,e5⟩:=key b k h kd hb hnn
    exact Or.inl ⟨s,e1,e2,kd',by rw [hs _ e1];exact e3,e4,e5⟩
   split at hk
   ·rename_i h1;cases hk;exact fin (.inl h1)
   ·split at hk
    ·rename_i h1;cases hk;exact fin (.inr h1)
    ·exact .inr (hR b k hk kd hb)
 refine zBr gB (lkS (idD dl++σ)) (fun b k hb=>?_) (fun b c k k' hb hc hk hk' hne=>?_) (fun b k hb hk=>?_) hF
 ·rcases split b k hb with ⟨s,e1,e2,kd',e3,e4,e5⟩ | h
  ·rw [zmK hQ e1]
   exact .inl ⟨kd',e3,h3 _ e1,e4,e5⟩
  ·exact .inr h
 ·rcases split b k hb with ⟨s,e1,_⟩ | ⟨h,_⟩
  ·rcases split c k' hc with ⟨s',e1',_⟩ | ⟨h,_⟩
   ·rw [zmK hQ e1,zmK hQ e1']
    intro e;subst e
    exact hne (zC4 hQ e1 e1')
   ·rw [hk'] at h;cases h
  ·rw [hk] at h;cases h
 ·rcases split b k hb with ⟨s,e1,e2,_⟩ | ⟨_,h⟩
  ·rw [hk] at e2;cases e2
  ·exact h
end
end Go.Fz.Sy
namespace Go.Fz.Sy
variable {P:Program} {φ:Ren} {K:Nat→Prop} {w:World} {R:Type}
def zoB (pn:List Nat) (f:Nat→SB→SB):SH→SH
 |[]=>[]
 |(b,k)::r=>bif yP pn b then zoB pn f r else (b,f b k)::zoB pn f r
theorem yQ (pn:List Nat) (f:Nat→SB→SB) (n:Nat):∀H:SH,zm (zoB pn f H) n=if n∈pn then none else (zm H n).map (f n)
 |[]=>by simp [zoB,Vf]
 |(b,k)::r=>by
  have ih:=yQ pn f n r
  simp only [zoB]
  cases hm:yP pn b with
  |true=>
   rw [cond_true,ih]
   have hb:=(uD _ _).1 hm
   by_cases hn:n∈pn
   ·simp [hn]
   ·have:b≠n:=fun e=>hn (e▸hb)
    rw [if_neg hn,if_neg hn,zH,if_neg this]
  |false=>
   rw [cond_false,zH,zH]
   by_cases hbn:b=n
   ·subst hbn
    have hb:b∉pn:=fun h=>by rw [(uD _ _).2 h] at hm;cases hm
    simp [hb]
   ·rw [if_neg hbn,if_neg hbn,ih]
def wQ (ns mv:List Nat) (lo:Nat) (b:Nat):SB→SB
 |.vars cs=>bif xG ns lo cs then .ro cs else .hid
 |.ro cs=>bif xG ns lo cs then .ro cs else .hid
 |.arr nn t l=>bif yP mv b then .gone (rsz nn t l) l.length else .roa nn t l
 |.roa nn t l=>.roa nn t l
 |.fro nn t l=>.fro nn t l
 |.gone s n=>.gone s n
 |.abs=>.abs
 |_=>.hid
def zim (mv:List Nat) (b:Nat):SB→SB
 |.arr nn t l=>bif yP mv b then .gone (rsz nn t l) l.length else .arr nn t l
 |k=>k
theorem zk8 (ns mv:List Nat) (lo b:Nat) (k:SB):reg (some (wQ ns mv lo b k))=reg (some k):=by
 cases k with
 |vars cs=>simp only [wQ];cases xG ns lo cs<;>rfl
 |ro cs=>simp only [wQ];cases xG ns lo cs<;>rfl
 |arr nn t l=>simp only [wQ];cases yP mv b<;>first | rfl | exact zes _ _ _
 |_=>rfl
theorem zt6 (mv:List Nat) (b:Nat) (k:SB):reg (some (zim mv b k))=reg (some k):=by
 cases k with
 |arr nn t l=>simp only [zim];cases yP mv b<;>first | rfl | exact zes _ _ _
 |_=>rfl
def zgy:List OPl→List Nat
 |[]=>[]
 |.arr b _ _::r=>b::zgy r
 |.otmp _ _ _ _::r=>zgy r
 |.sblk _ _::r=>zgy r
 |.lp _ _::r=>zgy r
 |.dfd _::r=>zgy r
 |.mpl _ _ _ _::r=>zgy r
def VM (lo n0:Nat) (σ:List (Nat×Nat)):Bool:=σ.all fun p=>Nat.blt p.1 n0&&(Nat.ble lo p.1||Nat.beq p.1 p.2)
def zC6 (ns:List Nat) (dl:List DPl) (ol:List OPl):Bool:=ns.all fun b=>!yP (nmD dl) b&&(yP (zgy ol) b||!yP (nmO ol) b)
theorem UF {HS HT:SH} {tm:List SV}:∀{ol:List OPl} {vs:List LSt} {y:OS ol} {σ:List (Nat×Nat)},bkO ol vs tm HS=some (y,σ)→JP HT ol y→∀b∈zgy ol,reg (zm HT b)=reg (zm HS b)
 |[],vs,y,σ,h,hO,b,hb=>by cases hb
 |.otmp i c nn t::r,vs,y,σ,h,hO,b,hb=>by
  simp only [bkO] at h
  split at h
  case h_2=>cases h
  split at h
  case h_2=>cases h
  split at h
  case h_2=>cases h
  rename_i h2
  cases h
  exact UF h2 hO.2 b hb
 |.sblk b0 ks::r,vs,y,σ,h,hO,b,hb=>by
  simp only [bkO] at h
  split at h
  case h_2=>cases h
  split at h
  case h_2=>cases h
  split at h
  case h_2=>cases h
  rename_i h2
  cases h
  exact UF h2 hO.2 b hb
 |.arr b0 nn t::r,vs,y,σ,h,hO,b,hb=>by
  simp only [bkO] at h
  split at h
  case h_2=>cases h
  rename_i nn' t' l hl
  split at h
  case isFalse=>cases h
  rename_i ht
  subst ht
  have h6:=zA h
  clear h
  obtain ⟨hq,h⟩:=h6
  have:=zhj hq
  subst this
  split at h
  case h_2=>cases h
  rename_i h2
  cases h
  rcases List.mem_cons.1 hb with rfl | hb
  ·rw [hO.1,hl];rfl
  ·exact UF h2 hO.2 b hb
 |.lp b0 L::r,vs,y,σ,h,hO,b,hb=>by
  simp only [bkO] at h
  split at h
  case h_2=>cases h
  have h6:=zA h
  clear h
  obtain ⟨hq,h⟩:=h6
  split at h
  case h_2=>cases h
  rename_i h2
  cases h
  exact UF h2 hO b hb
 |.dfd b0::r,vs,y,σ,h,hO,b,hb=>by
  simp only [bkO] at h
  split at h
  case h_2=>cases h
  split at h
  case h_2=>cases h
  rename_i h2
  cases h
  exact UF h2 hO b hb
 |.mpl b0 k ag t::r,vs,y,σ,h,hO,b,hb=>by
  simp only [bkO] at h
  split at h
  case h_2=>cases h
  split at h
  case isFalse=>cases h
  obtain ⟨_,h⟩:=zA h
  split at h
  case h_2=>cases h
  rename_i h2
  cases h
  exact UF h2 hO b hb
structure Frm where
 dl:List DPl
 ol:List OPl
 tm0:List SV
 ns:List Nat
 mv:List Nat
 lo:Nat
 n0:Nat
 H1:SH
def Frm.pn (F:Frm):List Nat:=nmD F.dl++nmO F.ol
def Frm.HR (F:Frm):SH:=zoB F.pn (wQ F.ns F.mv F.lo) F.H1
def Frm.HF (F:Frm):SH:=zoB F.pn (zim F.mv) F.H1
def Frm.hp (F:Frm) (HX:SH) (vs:List LSt) (x:DS F.dl) (y:OS F.ol):SH:=hpD F.dl x++(hpO F.ol vs y++HX)
def Frm.tm (F:Frm) (x:DS F.dl) (y:OS F.ol):List SV:=tmO F.ol y (tmD F.dl x F.tm0)
structure Frm.Ok (F:Frm):Prop where
 names:F.pn.Nodup
 nsl:∀b∈F.ns,b < F.lo
 nsr:zC6 F.ns F.dl F.ol=true
 lps:∀l L,OPl.lp l L∈F.ol→xG F.ns F.lo L.tm=true∧L.dfr < F.lo∧zm F.H1 l=some (.loop L)
 tml:xG F.ns F.lo F.tm0=true
 le:F.lo≤F.n0
def Frm.KX (F:Frm) (K:Nat→Prop) (φ1:Ren) (ν:Nat→Bool):Nat→Prop:=Sy.KX K φ1 (uf ν (rho ν F.H1) F.HR)
theorem zwV {ns:List Nat} {lo:Nat}:∀{l:List SV} {i:Nat} {u:SV},xG ns lo l=true→l[i]?=some u→UC ns lo u=true
 |[],i,u,_,h=>by simp at h
 |a::l,i,u,hl,hi=>by
  simp only [xG,Bool.and_eq_true] at hl
  cases i with
  |zero=>simp at hi;subst hi;exact hl.1
  |succ i=>exact zwV (l:=l) (i:=i) hl.2 (by simpa using hi)
theorem zAa {H HT:SH} {ol:List OPl} {vs:List LSt} {y:OS ol} {σ:List (Nat×Nat)} {tm:List SV} (h:bkO ol vs tm H=some (y,σ)) (hO:JP HT ol y) {b:Nat} (hk:qY (zm (hpO ol vs y) b)=true):∃s t l,(b,s)∈σ∧zm H s=some (.arr true t l):=by
 cases hs:zm (hpO ol vs y) b with
 |none=>rw [hs] at hk;cases hk
 |some k=>
  rw [hs] at hk
  rcases Vk h hO hs with ⟨t,rfl⟩ | ⟨s,h1,h2⟩
  ·cases hk
  cases h2 with
  |arr nn t l h=>
   have hk:nn=true:=hk
   subst hk
   exact ⟨s,t,l,h1,h⟩
  |own=>cases hk
  |lp=>cases hk
  |dfd=>cases hk
  |mp=>cases hk
structure Frm.Seen (F:Frm) (K:Nat→Prop) (φ1:Ren) (wE:World) (ν:Nat→Bool) (HX:SH) (vs:List LSt) (x:DS F.dl) (y:OS F.ol) (φ3:Ren) (w:World) (ts:Array Value):Prop where
 good:zF φ3 (zE ν (F.hp HX vs x y)) (F.KX K φ1 ν) w
 tms:qI φ3 (zt (rho ν (F.hp HX vs x y)) (F.tm x y)) ts
 ext:Ext (F.KX K φ1 ν) φ1 φ3 F.lo F.n0
 vn:VN ν F.n0 (F.hp HX vs x y)
 regs:∀b∈F.ns,reg (zm (F.hp HX vs x y) b)=reg (zm F.H1 b)
 went:qw (F.KX K φ1 ν) wE w
section
variable {F:Frm} {φ1 φ2:Ren} {wE:World} {ν:Nat→Bool} {K KA:Nat→Prop} {M nx2:Nat}
theorem Gm (hF:F.Ok) (hvE:VN ν F.lo F.H1)
  {HS0 HS:SH} {tmS:List SV} {vs:List LSt} {x:DS F.dl} {y:OS F.ol} {σ:List (Nat×Nat)} (hv:VN ν nx2 HS)
  (hD:bkD F.dl tmS HS0=some (x,HS)) (hO:bkO F.ol vs tmS HS=some (y,σ)) (hN:VM F.lo F.n0 (idD F.dl++σ)=true)
  (hregs:∀b∈F.ns,reg (zm HS b)=reg (zm F.H1 b)) :
  JP (F.hp F.HR vs x y) F.ol y∧(∀b,b∉F.pn→zm (F.hp F.HR vs x y) b=(zm F.H1 b).map (wQ F.ns F.mv F.lo b))∧(∀b∈F.ns,reg (zm (F.hp F.HR vs x y) b)=reg (zm F.H1 b))∧VN ν F.n0 (F.hp F.HR vs x y):=by
 have hOR:JP (F.hp F.HR vs x y) F.ol y:=by
  have hn:=hF.names
  unfold Frm.pn at hn
  rw [List.nodup_append] at hn
  exact Vj F.ol vs y (hpD F.dl x) F.HR hn.2.1 fun n hm=>gr fun h=>hn.2.2 n h n hm rfl
 have hRget:∀b,b∉F.pn→zm F.HR b=(zm F.H1 b).map (wQ F.ns F.mv F.lo b):=fun b hb=>by
  unfold Frm.HR;rw [yQ,if_neg hb]
 have hTget:∀b,b∉F.pn→zm (F.hp F.HR vs x y) b=(zm F.H1 b).map (wQ F.ns F.mv F.lo b):=fun b hb=>by
  have h1:b∉nmD F.dl:=fun h=>hb (by simp [Frm.pn,h])
  have h2:b∉nmO F.ol:=fun h=>hb (by simp [Frm.pn,h])
  unfold Frm.hp
  rw [zP,gr h1,zP,Zs h2]
  exact hRget b hb
 have hnsq:∀b∈F.ns,b∉nmD F.dl∧(b∈zgy F.ol∨b∉nmO F.ol):=fun b hb=>by
  have:=hF.nsr
  unfold zC6 at this
  rw [List.all_eq_true] at this
  have h2:=this b hb
  simp only [Bool.and_eq_true,Bool.or_eq_true,Bool.not_eq_true'] at h2
  refine ⟨fun h=>?_,?_⟩
  ·rw [(uD _ _).2 h] at h2;cases h2.1
  ·rcases h2.2 with h3 | h3
   ·exact .inl ((uD _ _).1 h3)
   ·refine .inr fun h=>?_
    rw [(uD _ _).2 h] at h3;cases h3
 have hreg:∀b∈F.ns,reg (zm (F.hp F.HR vs x y) b)=reg (zm F.H1 b):=fun b hb=>by
  obtain ⟨h1,h2⟩:=hnsq b hb
  by_cases hm:b∈nmO F.ol
  ·have h3:b∈zgy F.ol:=by rcases h2 with h | h;exact h;exact absurd hm h
   rw [UF hO hOR b h3,hregs b hb]
  ·rw [hTget b (by simp [Frm.pn,h1,hm])]
   cases hk:zm F.H1 b with
   |none=>rfl
   |some k=>exact zk8 _ _ _ _ k
 have hnn:∀b,qY (zm (F.hp F.HR vs x y) b)=true→ν b=false:=fun b hb=>by
  by_cases hp:b∈F.pn
  ·unfold Frm.hp at hb
   rw [zP] at hb
   cases hs1:zm (hpD F.dl x) b with
   |some k=>
    rw [hs1] at hb
    obtain ⟨t,z,cs,rfl,_⟩:=zbz (ν:=ν) hD (GLe.refl _) hs1
    cases hb
   |none=>
    rw [hs1] at hb
    simp only at hb
    rw [zP] at hb
    cases hs2:zm (hpO F.ol vs y) b with
    |some k=>
     rw [hs2] at hb
     simp only at hb
     obtain ⟨s,t,l,h1,h2⟩:=zAa hO hOR (b:=b) (by rw [hs2];exact hb)
     have hN':=hN
     unfold VM at hN'
     rw [List.all_eq_true] at hN'
     have:=hN' (b,s) (by simp [h1])
     simp only [Bool.and_eq_true,Bool.or_eq_true,Nat.blt_eq,Nat.ble_eq] at this
     rcases this.2 with h3 | h3
     ·exact hvE.old b h3
     ·have:=Nat.eq_of_beq_eq_true h3
      subst this
      exact hv.nn b (by rw [h2];rfl)
    |none=>
     rw [hs2] at hb
     simp only at hb
     unfold Frm.HR at hb
     rw [yQ,if_pos hp] at hb
     cases hb
  ·rw [hTget b hp] at hb
   cases hk:zm F.H1 b with
   |none=>rw [hk] at hb;cases hb
   |some k=>
    rw [hk] at hb
    refine hvE.nn b ?_
    rw [hk]
    cases k with
    |arr nn t l=>
     simp only [Option.map_some,wQ] at hb
     cases hm:yP F.mv b with
     |true=>rw [hm] at hb;cases hb
     |false=>rw [hm] at hb;exact hb
    |roa nn t l=>exact hb
    |vars cs=>
     simp only [Option.map_some,wQ] at hb
     cases hm:xG F.ns F.lo cs<;>rw [hm] at hb<;>cases hb
    |ro cs=>
     simp only [Option.map_some,wQ] at hb
     cases hm:xG F.ns F.lo cs<;>rw [hm] at hb<;>cases hb
    |_=>cases hb
 have hvT:VN ν F.n0 (F.hp F.HR vs x y):=by
  exact ⟨fun b n hr=>UA hr,fun b hb=>hvE.old b (Nat.le_trans hF.le hb),hnn⟩
 exact ⟨hOR,hTget,hreg,hvT⟩
theorem zk9 (hF:F.Ok) (gE:zF φ1 (zE ν F.H1) K wE) (hfr:yX φ1 F.lo M) (hM:F.n0≤M) (hvE:VN ν F.lo F.H1)
  {HS0 HS:SH} {Hs:Hp} {tmS:List SV} {ts:Array Value} {vs:List LSt} {x:DS F.dl} {y:OS F.ol} {σ:List (Nat×Nat)}
  (e2:Ext (F.KX K φ1 ν) φ1 φ2 F.lo M) (hw:qw (F.KX K φ1 ν) wE w) (gA:zF φ2 (zE ν HS) KA w) (gB:zF φ2 Hs (F.KX K φ1 ν) w) (hv:VN ν nx2 HS)
  (hD:bkD F.dl tmS HS0=some (x,HS)) (hO:bkO F.ol vs tmS HS=some (y,σ)) (hQ:UE (idD F.dl++σ)=true) (hN:VM F.lo F.n0 (idD F.dl++σ)=true)
  (hs:∀p∈idD F.dl++σ,Hs.get p.2=(zE ν HS).get p.2) (hregs:∀b∈F.ns,reg (zm HS b)=reg (zm F.H1 b))
  (ht:qI φ2 (zt (rho ν HS) tmS) ts) (hlen:tmS.length=F.tm0.length) (hsame:∀(i:Nat) u,F.tm0[i]?=some u→u≠.junk→tmS[i]?=some u)
  (hlp:∀l L,OPl.lp l L∈F.ol→∀L',zm HS l=some (.loop L')→∃s p,L'={L with st:=s,pend:=p}) :
  ∃φ3,F.Seen K φ1 wE ν F.HR vs x y φ3 w ts:=by
 let σ':=idD F.dl++σ
 let φ3:Ren:=fun b=>if b < FZ then (if F.lo≤b∧b < F.n0 then φ2 (lkS σ' b) else φ1 b) else φ2 b
 have hz:F.n0≤FZ:=Nat.le_trans hM hfr.1
 have f1:∀b,φ3 (FZ+b)=φ2 (FZ+b):=fun b=>by
  have:¬FZ+b < FZ:=by omega
  simp only [φ3,this,if_false]
 have f2:∀b,b < F.lo→φ3 b=φ1 b:=fun b hb=>by
  have h1:b < FZ:=by have:=hF.le;omega
  have h2:¬(F.lo≤b∧b < F.n0):=by omega
  simp only [φ3,h1,h2,if_true,if_false]
 have f3:∀b,b < F.lo→φ3 b=φ2 b:=fun b hb=>by
  rw [f2 b hb,e2.2.1 b (by have:=hF.le;omega) (.inl hb)]
 have f4:∀p∈σ',φ3 p.1=φ2 p.2:=fun p hp=>by
  have hN':=hN
  unfold VM at hN'
  rw [List.all_eq_true] at hN'
  have:=hN' p hp
  simp only [Bool.and_eq_true,Bool.or_eq_true,Nat.blt_eq,Nat.ble_eq] at this
  obtain ⟨h1,h2⟩:=this
  by_cases hlo:F.lo≤p.1
  ·have h3:p.1 < FZ:=by omega
   simp only [φ3,h3,if_true,hlo,h1,and_self]
   rw [show lkS σ' p.1=p.2 from zmK hQ hp]
  ·have h4:p.1=p.2:=by
    rcases h2 with h2 | h2
    ·exact absurd h2 hlo
    ·exact Nat.eq_of_beq_eq_true h2
   rw [f3 _ (by omega),h4]
 have e3:Ext (F.KX K φ1 ν) φ1 φ3 F.lo F.n0:=by
  refine ⟨fun b L hL=>?_,fun b hb hb2=>?_,fun b L hL=>?_⟩
  ·by_cases hb:b < FZ
   ·have h2:¬(F.lo≤b∧b < F.n0):=fun h=>by
     rw [hfr.2 b h.1 (by omega)] at hL;cases hL
    simp only [φ3,hb,h2,if_true,if_false];exact hL
   ·simp only [φ3,hb,if_false];exact e2.1 b L hL
  ·have h2:¬(F.lo≤b∧b < F.n0):=by omega
   simp only [φ3,hb,h2,if_true,if_false]
  ·rw [f1] at hL;exact e2.2.2 b L hL
 obtain ⟨hOR,hTget,hreg,hvT⟩:=Gm hF hvE hv hD hO hN hregs
 have hnn:=hvT.nn
 have hRget:∀b,b∉F.pn→zm F.HR b=(zm F.H1 b).map (wQ F.ns F.mv F.lo b):=fun b hb=>by
  unfold Frm.HR;rw [yQ,if_neg hb]
 have hFz:∀b L,φ1 (FZ+b)=some L→φ3 (FZ+b)=some L:=fun b L h=>e3.1 _ L h
 have hlow:∀(v:SV) (v':Value),UC F.ns F.lo v=true→zr φ1 (den (rho ν F.H1) v) v'→zr φ3 (den (rho ν (F.hp F.HR vs x y)) v) v':=zmJ (fun b hb=>f2 b hb) hFz hF.nsl hreg
 have hlowL:∀(vs':List SV) (us:List Value),xG F.ns F.lo vs'=true→zw φ1 (zt (rho ν F.H1) vs') us→zw φ3 (zt (rho ν (F.hp F.HR vs x y)) vs') us:=zbx (fun b hb=>f2 b hb) hFz hF.nsl hreg
 refine ⟨φ3,?_,?_,e3,hvT,hreg,hw⟩
 ·refine zBw rfl gA gB hv hnn hD hO hQ hs f4 f3 f1 hOR hF.nsl (fun b hb=>by rw [hreg b hb,hregs b hb]) (fun l L hL=>⟨(hF.lps l L hL).1,(hF.lps l L hL).2.1,hlp l L hL⟩) ?_
  intro b k hk kd hkd
  have hp:b∉F.pn:=fun h=>by
   unfold Frm.HR at hk
   rw [yQ,if_pos h] at hk;cases hk
  rw [hRget b hp] at hk
  rw [Option.map_eq_some_iff] at hk
  obtain ⟨kH,hkH,rfl⟩:=hk
  have base:∀kE,zU (rho ν F.H1) (ν b) kH=some kE→(∃kv,zU (rho ν F.H1) (ν b) (wQ F.ns F.mv F.lo b kH)=some kv)→∃L,φ3 b=some L∧jo φ1 w L kE∧F.KX K φ1 ν L.blk:=fun kE hkE hkv=>by
   obtain ⟨kv,hkv⟩:=hkv
   obtain ⟨L,hL,hB⟩:=gE.rel b kE (by rw [zL,hkH];exact hkE)
   have hK:F.KX K φ1 ν L.blk:=.inr ⟨b,kv,L,by rw [xL,hRget b hp,hkH];exact hkv,hL,rfl⟩
   exact ⟨L,e3.1 b L hL,jo.congr (hw.kept _ hK) hB,hK⟩
  have hidE:∀kE,zU (rho ν F.H1) (ν b) kH=some kE→wQ F.ns F.mv F.lo b kH=.hid→kd.rw=false∧∃L,φ3 b=some L∧jo φ3 w L kd∧F.KX K φ1 ν L.blk:=fun kE hkE hh=>by
   rw [hh] at hkd
   simp only [zU,Option.some.injEq] at hkd
   subst hkd
   obtain ⟨L,h1,h2,h3⟩:=base kE hkE ⟨.hid,by rw [hh];rfl⟩
   exact ⟨rfl,L,h1,(jo.hid_of h2).mono e3.1,h3⟩
  cases kH with
  |vars cs=>
   cases hl:xG F.ns F.lo cs with
   |false=>exact hidE _ rfl (by simp only [wQ,hl,cond_false])
   |true=>
    simp only [wQ,hl,cond_true,zU,Option.some.injEq] at hkd
    subst hkd
    obtain ⟨L,h1,h2,h3⟩:=base _ rfl ⟨.cells (zt (rho ν F.H1) cs) true,by simp only [wQ,hl,cond_true,zU]⟩
    obtain ⟨arr,el,fr,q1,q2,q3⟩:=h2
    exact ⟨rfl,L,h1,GS (cs:=zt (rho ν F.H1) cs) ⟨arr,el,fr,q1,q2,fun h=>by cases h⟩ (fun us hu=>hlowL cs us hl hu),h3⟩
  |ro cs=>
   cases hl:xG F.ns F.lo cs with
   |false=>exact hidE _ rfl (by simp only [wQ,hl,cond_false])
   |true=>
    simp only [wQ,hl,cond_true,zU,Option.some.injEq] at hkd
    subst hkd
    obtain ⟨L,h1,h2,h3⟩:=base _ rfl ⟨.cells (zt (rho ν F.H1) cs) true,by simp only [wQ,hl,cond_true,zU]⟩
    exact ⟨rfl,L,h1,GS (cs:=zt (rho ν F.H1) cs) h2 (fun us hu=>hlowL cs us hl hu),h3⟩
  |arr nn t l=>
   cases hm:yP F.mv b with
   |true=>simp only [wQ,hm,cond_true,zU,reduceCtorEq] at hkd
   |false=>
    simp only [wQ,hm,cond_false,zU] at hkd
    cases hn:jD nn l with
    |true=>rw [hn] at hkd;cases hkd
    |false=>
     rw [hn] at hkd
     simp only [cond_false,Option.some.injEq] at hkd
     subst hkd
     obtain ⟨L,h1,h2,h3⟩:=base (.cells (zV t l) false) (by simp only [zU,hn,cond_false]) ⟨.cells (zV t l) true,by simp only [wQ,hm,cond_false,zU,hn]⟩
     obtain ⟨arr,el,fr,q1,q2,q3⟩:=h2
     exact ⟨rfl,L,h1,jo.mono e3.1 (k:=.cells (zV t l) true) ⟨arr,el,fr,q1,q2,fun h=>by cases h⟩,h3⟩
  |roa nn t l=>
   simp only [wQ,zU] at hkd
   cases hn:jD nn l with
   |true=>rw [hn] at hkd;cases hkd
   |false=>
    rw [hn] at hkd
    simp only [cond_false,Option.some.injEq] at hkd
    subst hkd
    obtain ⟨L,h1,h2,h3⟩:=base (.cells (zV t l) true) (by simp only [zU,hn,cond_false]) ⟨.cells (zV t l) true,by simp only [wQ,zU,hn,cond_false]⟩
    exact ⟨rfl,L,h1,h2.mono e3.1,h3⟩
  |fro nn t l=>
   simp only [wQ,zU] at hkd
   cases hn:jD nn l with
   |true=>rw [hn] at hkd;cases hkd
   |false=>
    rw [hn] at hkd
    simp only [cond_false,Option.some.injEq] at hkd
    subst hkd
    obtain ⟨L,h1,h2,h3⟩:=base (.fzc (zV t l)) (by simp only [zU,hn,cond_false]) ⟨.fzc (zV t l),by simp only [wQ,zU,hn,cond_false]⟩
    exact ⟨rfl,L,h1,h2.mono e3.1,h3⟩
  |gone s n=>simp only [wQ,zU,reduceCtorEq] at hkd
  |loop L=>exact hidE _ rfl rfl
  |defd=>exact hidE _ rfl rfl
  |hid=>exact hidE _ rfl rfl
  |mpb k ag t l=>exact hidE _ rfl rfl
  |abs=>simp only [wQ,zU,reduceCtorEq] at hkd
 ·have hF2:∀b L,φ2 (FZ+b)=some L→φ3 (FZ+b)=some L:=fun b L h=>by rw [f1];exact h
  have hlow2:∀(v:SV) (v':Value),UC F.ns F.lo v=true→zr φ2 (den (rho ν HS) v) v'→zr φ3 (den (rho ν (F.hp F.HR vs x y)) v) v':=zmJ f3 hF2 hF.nsl (fun b hb=>by rw [hreg b hb,hregs b hb])
  have h0:qI φ3 (zt (rho ν (F.hp F.HR vs x y)) F.tm0) ts:=by
   refine ⟨by have:=ht.1;rw [wa] at this ⊢;omega,fun i v hv'=>?_⟩
   rw [wB,Option.map_eq_some_iff] at hv'
   obtain ⟨u,hu,rfl⟩:=hv'
   by_cases hj:u=.junk
   ·subst hj;exact .inl (by simp [den])
   ·rcases ht.2 i (den (rho ν HS) u) (by rw [wB,hsame i u hu hj];rfl) with hq | ⟨v',q1,q2⟩
    ·exact absurd (zd5 hq) hj
    ·exact .inr ⟨v',q1,hlow2 u v' (zwV hF.tml hu) q2⟩
  unfold Frm.tm
  refine UD hv hnn ht hO hOR (fun p hp=>f4 p (by simp [σ',hp])) ?_
  exact zey gA hv hF2 hD (GLe.refl _) ht h0
end
end Go.Fz.Sy
namespace Go.Fz.Sy
variable {P:Program} {φ:Ren} {K:Nat→Prop} {w:World} {R:Type}
theorem zin {X S:Type} {B:S→Option (X ⊕ S)} {I:S→Prop} {J:X→Prop} (h:∀s r,B s=some r→I s→match r with | .inl x=>J x | .inr s'=>I s'):∀(N:Nat) (s:S) (x:X),zI B N s=some x→I s→J x
 |0,s,x,hi,hI=>by cases hi
 |N+1,s,x,hi,hI=>by
  rw [YJ] at hi
  split at hi
  ·rename_i y hB;cases hi;exact h s _ hB hI
  ·rename_i s' hB;exact zin h N s' x hi (h s _ hB hI)
  ·cases hi
theorem bigNS:∃n:Nat,1180591620717411303424≤n:=⟨1180591620717411303424,Nat.le_refl _⟩
def zQ:Nat:=Classical.choose bigNS
theorem zyU:1180591620717411303424≤zQ:=Classical.choose_spec bigNS
def zez (ol:List OPl) (y:OS ol) (f:OS ol→Option R):Option R:=f y
theorem YB (ol:List OPl) (y:OS ol) (f:OS ol→Option R):zez ol y f=f y:=rfl
def zio:List DPl→List Nat
 |[]=>[]
 |.tmp i _::r=>i::zio r
 |.blk _ _::r=>zio r
 |.frz _ _::r=>zio r
 |.npt i::r=>i::zio r
def zgz:List OPl→List Nat
 |[]=>[]
 |.otmp i _ _ _::r=>i::zgz r
 |.sblk _ _::r=>zgz r
 |.arr _ _ _::r=>zgz r
 |.lp _ _::r=>zgz r
 |.dfd _::r=>zgz r
 |.mpl _ _ _ _::r=>zgz r
theorem zhk {i:Nat}:∀{dl:List DPl} {x:DS dl} {tm:List SV},i∉zio dl→(tmD dl x tm)[i]?=tm[i]?
 |[],x,tm,h=>rfl
 |.tmp j vt::r,x,tm,h=>by
  simp only [zio,List.mem_cons,not_or] at h
  simp only [tmD]
  rw [zhk h.2,gm,List.getElem?_set,if_neg (Ne.symm h.1)]
 |.blk b t::r,x,tm,h=>by simp only [tmD];exact zhk (dl:=r) h
 |.frz b t::r,x,tm,h=>by simp only [tmD];exact zhk (dl:=r) h
 |.npt j::r,x,tm,h=>by
  simp only [zio,List.mem_cons,not_or] at h
  simp only [tmD]
  rw [zhk h.2,gm,List.getElem?_set,if_neg (Ne.symm h.1)]
theorem zbA {i:Nat}:∀{ol:List OPl} {y:OS ol} {tm:List SV},i∉zgz ol→(tmO ol y tm)[i]?=tm[i]?
 |[],y,tm,h=>rfl
 |.otmp j c nn t::r,y,tm,h=>by
  simp only [zgz,List.mem_cons,not_or] at h
  simp only [tmO]
  rw [zbA h.2,gm,List.getElem?_set,if_neg (Ne.symm h.1)]
 |.sblk b ks::r,y,tm,h=>by simp only [tmO];exact zbA (ol:=r) h
 |.arr b nn t::r,y,tm,h=>by simp only [tmO];exact zbA (ol:=r) h
 |.lp b t::r,y,tm,h=>by simp only [tmO];exact zbA (ol:=r) h
 |.dfd b::r,y,tm,h=>by simp only [tmO];exact zbA (ol:=r) h
 |.mpl _ _ _ _::r,y,tm,h=>by simp only [tmO];exact zbA (ol:=r) h
theorem zhl:∀{dl:List DPl} {x:DS dl} {tm:List SV},(tmD dl x tm).length=tm.length
 |[],x,tm=>rfl
 |.tmp j vt::r,x,tm=>by simp only [tmD];rw [zhl,gm];simp
 |.blk b t::r,x,tm=>by simp only [tmD];exact zhl
 |.frz b t::r,x,tm=>by simp only [tmD];exact zhl
 |.npt j::r,x,tm=>by simp only [tmD];rw [zhl,gm];simp
theorem zbB:∀{ol:List OPl} {y:OS ol} {tm:List SV},(tmO ol y tm).length=tm.length
 |[],y,tm=>rfl
 |.otmp j c nn t::r,y,tm=>by simp only [tmO];rw [zbB,gm];simp
 |.sblk b ks::r,y,tm=>by simp only [tmO];exact zbB (ol:=r)
 |.arr b nn t::r,y,tm=>by simp only [tmO];exact zbB (ol:=r)
 |.lp b t::r,y,tm=>by simp only [tmO];exact zbB (ol:=r)
 |.dfd b::r,y,tm=>by simp only [tmO];exact zbB (ol:=r)
 |.mpl _ _ _ _::r,y,tm=>by simp only [tmO];exact zbB (ol:=r)
def VO (zFL:List Nat):Nat→List SV→List SV
 |_,[]=>[]
 |i,v::r=>(bif yP zFL i then .junk else v)::VO zFL (i+1) r
theorem ZS (zFL:List Nat):∀(l:List SV) (i j:Nat),(VO zFL i l)[j]?=(l[j]?).map fun v=>if i+j∈zFL then .junk else v
 |[],i,j=>by simp [VO]
 |v::l,i,0=>by
  simp only [VO,List.getElem?_cons_zero,Option.map_some,Nat.add_zero]
  cases h:yP zFL i with
  |true=>simp [(uD _ _).1 h]
  |false=>
   have:i∉zFL:=fun e=>by rw [(uD _ _).2 e] at h;cases h
   simp [this]
 |v::l,i,j+1=>by
  simp only [VO,List.getElem?_cons_succ]
  rw [ZS zFL l (i+1) j]
  have:i+1+j=i+(j+1):=by omega
  rw [this]
theorem JQ (zFL:List Nat):∀(l:List SV) (i:Nat),(VO zFL i l).length=l.length
 |[],i=>rfl
 |v::l,i=>by simp [VO,JQ zFL l]
theorem zeA {l:Nat} {L:SL}:∀(ol:List OPl) (vs:List LSt) (y:OS ol) (pre post:SH),(nmO ol).Nodup→(∀n∈nmO ol,zm pre n=none)→OPl.lp l L∈ol→∃vs',zm (pre++(hpO ol vs y++post)) l=some (.loop (stO L vs'))
 |[],vs,y,pre,post,hn,hp,hm=>by cases hm
 |.otmp i c nn t::r,vs,y,pre,post,hn,hp,hm=>by
  simp only [nmO,List.nodup_cons] at hn
  simp only [nmO,List.mem_cons,forall_eq_or_imp] at hp
  have hm:OPl.lp l L∈r:=by simpa using hm
  have:=zeA r vs y.2 (pre++[(c,.arr nn t y.1)]) post hn.2 (fun n hm=>by
    rw [zP,hp.2 n hm]
    show zm [(c,_)] n=none
    rw [zH,if_neg (fun e=>hn.1 (by rw [e];exact hm))];rfl) hm
  have e:pre++[(c,SB.arr nn t y.1)]++(hpO r vs y.2++post)=pre++(hpO (.otmp i c nn t::r) vs y++post):=by simp [hpO]
  rw [e] at this;exact this
 |.sblk b ks::r,vs,y,pre,post,hn,hp,hm=>by
  simp only [nmO,List.nodup_cons,List.mem_append,not_or,List.nodup_append] at hn
  simp only [nmO,List.mem_cons,List.mem_append,forall_eq_or_imp] at hp
  have hm:OPl.lp l L∈r:=by simpa using hm
  have:=zeA r vs y.2 (pre++(b,.vars (zby ks y.1))::Za ks y.1) post hn.2.2.1 (fun n hm=>by
    rw [zP,hp.2 n (.inr hm)]
    show zm ((b,_)::_) n=none
    rw [zH,if_neg (fun e=>hn.1.2 (by rw [e];exact hm))]
    exact GR (fun h=>hn.2.2.2 n h n hm rfl)) hm
  have e:(pre++(b,.vars (zby ks y.1))::Za ks y.1)++(hpO r vs y.2++post)=pre++(hpO (.sblk b ks::r) vs y++post):=by
   simp [hpO]
  rw [e] at this;exact this
 |.arr b nn t::r,vs,y,pre,post,hn,hp,hm=>by
  simp only [nmO,List.nodup_cons] at hn
  simp only [nmO,List.mem_cons,forall_eq_or_imp] at hp
  have hm:OPl.lp l L∈r:=by simpa using hm
  have:=zeA r vs y.2 (pre++[(b,.arr nn t y.1)]) post hn.2 (fun n hm=>by
    rw [zP,hp.2 n hm]
    show zm [(b,_)] n=none
    rw [zH,if_neg (fun e=>hn.1 (by rw [e];exact hm))];rfl) hm
  have e:(pre++[(b,SB.arr nn t y.1)])++(hpO r vs y.2++post)=pre++(hpO (.arr b nn t::r) vs y++post):=by simp [hpO]
  rw [e] at this;exact this
 |.lp b L'::r,vs,y,pre,post,hn,hp,hm=>by
  simp only [nmO,List.nodup_cons] at hn
  simp only [nmO,List.mem_cons,forall_eq_or_imp] at hp
  rcases List.mem_cons.1 hm with he | hm
  ·cases he
   refine ⟨vs,?_⟩
   simp only [hpO]
   rw [zP,hp.1]
   simp [zH]
  ·have:=zeA r vs.tail y.2 (pre++[(b,.loop (stO L' vs))]) post hn.2 (fun n hm=>by
    rw [zP,hp.2 n hm]
    show zm [(b,_)] n=none
    rw [zH,if_neg (fun e=>hn.1 (by rw [e];exact hm))];rfl) hm
   have e:(pre++[(b,SB.loop (stO L' vs))])++(hpO r vs.tail y.2++post)=pre++(hpO (.lp b L'::r) vs y++post):=by simp [hpO]
   rw [e] at this;exact this
 |.dfd b::r,vs,y,pre,post,hn,hp,hm=>by
  simp only [nmO,List.nodup_cons] at hn
  simp only [nmO,List.mem_cons,forall_eq_or_imp] at hp
  have hm:OPl.lp l L∈r:=by simpa using hm
  have:=zeA r vs y.2 (pre++[(b,.defd)]) post hn.2 (fun n hm=>by
    rw [zP,hp.2 n hm]
    show zm [(b,_)] n=none
    rw [zH,if_neg (fun e=>hn.1 (by rw [e];exact hm))];rfl) hm
  have e:(pre++[(b,SB.defd)])++(hpO r vs y.2++post)=pre++(hpO (.dfd b::r) vs y++post):=by simp [hpO]
  rw [e] at this;exact this
 |.mpl b k ag t::r,vs,y,pre,post,hn,hp,hm=>by
  simp only [nmO,List.nodup_cons] at hn
  simp only [nmO,List.mem_cons,forall_eq_or_imp] at hp
  have hm:OPl.lp l L∈r:=by simpa using hm
  have:=zeA r vs y.2 (pre++[(b,.mpb k ag t y.1)]) post hn.2 (fun n hm=>by
    rw [zP,hp.2 n hm]
    show zm [(b,_)] n=none
    rw [zH,if_neg (fun e=>hn.1 (by rw [e];exact hm))];rfl) hm
  have e:(pre++[(b,SB.mpb k ag t y.1)])++(hpO r vs y.2++post)=pre++(hpO (.mpl b k ag t::r) vs y++post):=by simp [hpO]
  rw [e] at this;exact this
def Frm.S (F:Frm):Type:=DS F.dl×OS F.ol
def rdy:List OPl→List LSt
 |[]=>[]
 |.lp _ _::r=>(.ready,none)::rdy r
 |.otmp _ _ _ _::r=>rdy r
 |.sblk _ _::r=>rdy r
 |.arr _ _ _::r=>rdy r
 |.dfd _::r=>rdy r
 |.mpl _ _ _ _::r=>rdy r
def YK (F:Frm) (vs:List LSt) (tm:List SV) (H:SH):Option F.S:=match bkD F.dl tm H with
 |some (x,H1)=>match bkO F.ol vs tm H1 with
  |some (y,σ)=>bif UE (idD F.dl++σ)&&VM F.lo F.n0 (idD F.dl++σ) then some (x,y) else none
  |none=>none
 |none=>none
theorem zql {F:Frm} {vs:List LSt} {tm:List SV} {H:SH} {s:F.S} (h:YK F vs tm H=some s):∃H1 σ,bkD F.dl tm H=some (s.1,H1)∧bkO F.ol vs tm H1=some (s.2,σ)∧UE (idD F.dl++σ)=true∧VM F.lo F.n0 (idD F.dl++σ)=true:=by
 unfold YK at h
 split at h
 case h_2=>cases h
 rename_i x H1 h1
 split at h
 case h_2=>cases h
 rename_i y σ h2
 have h6:=zA h
 obtain ⟨hq,h3⟩:=h6
 simp only [Bool.and_eq_true] at hq
 cases h3
 exact ⟨H1,σ,h1,h2,hq.1,hq.2⟩
def zb9:Exit→Exit→Bool
 |.normal,.normal=>true
 |.ret,.ret=>true
 |.exit i,.exit j=>Nat.beq i j
 |.goto i,.goto j=>Nat.beq i j
 |_,_=>false
theorem zeB {a b:Exit} (h:zb9 a b=true):a=b:=by
 unfold zb9 at h
 split at h<;>first | rfl | (rw [Nat.eq_of_beq_eq_true h]) | cases h
def zmL:List Nat→List Nat→Bool
 |[],[]=>true
 |a::r,b::s=>Nat.beq a b&&zmL r s
 |_,_=>false
theorem ziq:∀{a b:List Nat},zmL a b=true→a=b
 |[],[],_=>rfl
 |a::r,b::s,h=>by
  simp only [zmL,Bool.and_eq_true] at h
  rw [Nat.eq_of_beq_eq_true h.1,ziq h.2]
 |[],_::_,h=>by cases h
 |_::_,[],h=>by cases h
abbrev Xs:=List (Exit×List LSt)
def zsx (F:Frm) (S:XF):Xs→Nat→Option ((Nat×F.S) ⊕ F.S)
 |[],_=>none
 |(e,vs)::r,j=>bif zb9 S.e e then match YK F vs S.tm S.H with
   |some s=>some (.inl (j,s))
   |none=>zsx F S r (j+1)
  else zsx F S r (j+1)
theorem zt7 {F:Frm} {S:XF} {r:(Nat×F.S) ⊕ F.S}:∀{xs:Xs} {j:Nat},zsx F S xs j=some r→∃i vs s,r=.inl (j+i,s)∧xs[i]?=some (S.e,vs)∧YK F vs S.tm S.H=some s
 |[],j,h=>by cases h
 |(e,vs)::xs,j,h=>by
  have rec_:zsx F S xs (j+1)=some r→∃i vs' s,r=.inl (j+i,s)∧((e,vs)::xs)[i]?=some (S.e,vs')∧YK F vs' S.tm S.H=some s:=fun h=>by
   obtain ⟨i,vs',s,h1,h2,h3⟩:=zt7 h
   exact ⟨i+1,vs',s,by rw [h1];congr 2;omega,by simpa using h2,h3⟩
  simp only [zsx] at h
  rcases yZ h with ⟨h1,h2⟩ | ⟨_,h2⟩
  ·split at h2
   ·rename_i s hs
    cases h2
    exact ⟨0,vs,s,rfl,by rw [zeB h1];rfl,hs⟩
   ·exact rec_ h2
  ·exact rec_ h2
def zeC (cont:Exit→Bool) (E:(R:Type)→EvS R) (F:Frm) (rd:Option Nat) (c:Code) (ds:List Nat) (M:Nat) (xs:Xs) (s:F.S):Option ((Nat×F.S) ⊕ F.S):=
 zez F.ol s.2 fun y=>(E _).code rd c (F.tm s.1 y) ds (F.hp F.HR (rdy F.ol) s.1 y) F.n0 fun S=>
  bif
    Nat.ble S.nx M&&zmL ds S.ds then bif cont S.e then match YK F (rdy F.ol) S.tm S.H with
    |some s'=>some (.inr s')
    |none=>none
   else zsx F S xs 0
  else none
structure Frm.OkC (F:Frm) (c:Code):Prop extends F.Ok where
 nss:∀b∈F.ns,∃x,reg (zm F.H1 b)=some x
 junk:∀i∈asg c,∀u,F.tm0[i]?=some u→u=.junk
 tmn:∀i,i∈zio F.dl∨i∈zgz F.ol→i∈asg c
theorem Frm.tm_get {F:Frm} {c:Code} (hF:F.OkC c) {x:DS F.dl} {y:OS F.ol} {i:Nat} (hi:i∉asg c):(F.tm x y)[i]?=F.tm0[i]?:=by
 unfold Frm.tm
 rw [zbA (fun h=>hi (hF.tmn i (.inr h))),zhk (fun h=>hi (hF.tmn i (.inl h)))]
theorem Frm.tm_len {F:Frm} {x:DS F.dl} {y:OS F.ol}:(F.tm x y).length=F.tm0.length:=by
 unfold Frm.tm
 rw [zbB,zhl]
def Frm.St1 (F:Frm) (ν:Nat→Bool) (vs:List LSt) (s:F.S):Prop:=VN ν F.n0 (F.hp F.HR vs s.1 s.2)∧∀b∈F.ns,reg (zm (F.hp F.HR vs s.1 s.2) b)=reg (zm F.H1 b)
theorem zt8 {φ1 φ2:Ren} (h:φ1.le φ2):∀{ds:List Nat} {xs ys:List Deferred},gb φ1 ds xs→gb φ2 ds ys→gb φ1 ds ys
 |[],[],ys,_,h2=>by cases ys<;>simp [gb] at h2 ⊢
 |d::ds,x::xs,y::ys,h1,h2=>by
  obtain ⟨⟨L,a1,a2⟩,a3⟩:=h1
  obtain ⟨⟨M,b1,b2⟩,b3⟩:=h2
  rw [h d L a1] at b1;cases b1
  exact ⟨⟨L,a1,b2⟩,zt8 h a3 b3⟩
 |[],_::_,ys,h1,_=>h1.elim
 |_::_,[],ys,h1,_=>h1.elim
 |d::ds,x::xs,[],_,h2=>h2.elim
section
variable {cont:Exit→Bool} {F:Frm} {c:Code} {rd:Option Nat} {ds:List Nat} {M:Nat} {xs:Xs} {E:(R:Type)→EvS R} {ν:Nat→Bool}
theorem zC7 (L:SL) (vs:List LSt):∃s p,stO L vs={L with st:=s,pend:=p}:=by
 cases vs with
 |nil=>exact ⟨L.st,L.pend,rfl⟩
 |cons v r=>exact ⟨v.1,v.2,rfl⟩
theorem Frm.lp_at (hF:F.OkC c) {vs:List LSt} {x:DS F.dl} {y:OS F.ol} {HX:SH} {l:Nat} {L:SL} (hl:OPl.lp l L∈F.ol):∃s p,zm (F.hp HX vs x y) l=some (.loop {L with st:=s,pend:=p}):=by
 have hn:=hF.names
 unfold Frm.pn at hn
 rw [List.nodup_append] at hn
 obtain ⟨vs',h⟩:=zeA F.ol vs y (hpD F.dl x) HX hn.2.1 (fun n hm=>gr fun h=>hn.2.2 n h n hm rfl) hl
 obtain ⟨s,p,e⟩:=zC7 L vs'
 exact ⟨s,p,by rw [←e];exact h⟩
theorem zir (hE:∀R,(E R).Ok P) (hF:F.OkC c) (hvE:VN ν F.lo F.H1) {s:F.S} {r:(Nat×F.S) ⊕ F.S} (h:zeC cont E F rd c ds M xs s=some r) :
  ∃
   S:XF,QS P rd c (F.tm s.1 s.2) ds (F.hp F.HR (rdy F.ol) s.1 s.2) F.n0 S∧S.nx≤M∧S.ds=ds∧
   ∃vs s',YK F vs S.tm S.H=some s'∧((cont S.e=true∧r=.inr s'∧vs=rdy F.ol)∨(cont S.e=false∧∃j,r=.inl (j,s')∧xs[j]?=some (S.e,vs))):=by
 unfold zeC at h
 rw [YB] at h
 obtain ⟨S,h1,h2⟩:=(hE _).code h
 have h6:=zA h2
 clear h2
 obtain ⟨hq,h2⟩:=h6
 simp only [Bool.and_eq_true,Nat.ble_eq] at hq
 refine ⟨S,h1,hq.1,(ziq hq.2).symm,?_⟩
 rcases yZ h2 with ⟨he,h2⟩ | ⟨he,h2⟩
 ·split at h2
  case h_2=>cases h2
  rename_i s' hs'
  cases h2
  exact ⟨_,s',hs',.inl ⟨he,rfl,rfl⟩⟩
 ·obtain ⟨i,vs,s',e1,e2,e3⟩:=zt7 h2
  exact ⟨vs,s',e3,.inr ⟨he,i,by rw [e1];simp,e2⟩⟩
theorem zf3 (hE:∀R,(E R).Ok P) (hF:F.OkC c) (hvE:VN ν F.lo F.H1) {s:F.S} {S:XF} (hS:QS P rd c (F.tm s.1 s.2) ds (F.hp F.HR (rdy F.ol) s.1 s.2) F.n0 S) (h0:F.St1 ν (rdy F.ol) s) {vs:List LSt} {s':F.S} (hb:YK F vs S.tm S.H=some s'):F.St1 ν vs s':=by
 obtain ⟨H1,σ,b1,b2,b3,b4⟩:=zql hb
 obtain ⟨a1,a2,a3,a4,a5⟩:=hS
 have hg:=(kU b1).1
 obtain ⟨q1,q2,q3,q4⟩:=Gm hF.toOk hvE (hg.vn (a5 ν h0.1).1) b1 b2 b4 (fun b hb=>by
  obtain ⟨z,hz⟩:=hF.nss b hb
  rw [hg.reg b,hz]
  exact a1 b z (by rw [h0.2 b hb];exact hz))
 exact ⟨q4,q3⟩
theorem zf4 (hE:∀R,(E R).Ok P) (hF:F.OkC c) {φ1:Ren} {wE:World} (gE:zF φ1 (zE ν F.H1) K wE) (hfr:yX φ1 F.lo M) (hM:F.n0≤M) (hvE:VN ν F.lo F.H1) {rc:Option Nat} (hrd:Ve φ1 rd rc)
  {s:F.S} {S:XF} (hS:QS P rd c (F.tm s.1 s.2) ds (F.hp F.HR (rdy F.ol) s.1 s.2) F.n0 S) (hnx:S.nx≤M) (hds:S.ds=ds) {vs:List LSt} {s':F.S} (hb:YK F vs S.tm S.H=some s')
  {φ:Ren} {a:Act} (hI:F.Seen K φ1 wE ν F.HR (rdy F.ol) s.1 s.2 φ w a.tmps) (hd:gb φ1 ds a.defers) :
  c.wpIn (fw rc) 0 P (fun e a' w'=>e=S.e∧∃φ',F.Seen K φ1 wE ν F.HR vs s'.1 s'.2 φ' w' a'.tmps∧gb φ1 ds a'.defers) a w:=by
 obtain ⟨H1,σ,b1,b2,b3,b4⟩:=zql hb
 obtain ⟨a1,a2,a3,a4,a5⟩:=hS
 obtain ⟨v1,o1⟩:=a5 ν hI.vn
 have hfr2:yX φ F.n0 S.nx:=⟨Nat.le_trans hnx hfr.1,fun b h1 h2=>by
  rw [hI.ext.2.1 b (by have:=hfr.1;omega) (.inr h1)]
  exact hfr.2 b (by have:=hF.le;omega) (by omega)⟩
 refine wpIn_mono (o1.2 φ w _ a rc hI.good hfr2 hI.tms (hd.mono hI.ext.1) (hrd.mono hI.ext.1)) ?_
 rintro e a' w' ⟨rfl,φ',k1,k2,k3,k4,k5⟩
 refine ⟨rfl,?_⟩
 have hg:=kU b1
 obtain ⟨φ'',m1,m2⟩:=hg.2 ν φ' _ w' k2
 have t3:qI φ'' (zt (rho ν H1) S.tm) a'.tmps:=by rw [hg.1.rho ν];exact k3.mono (m1 0).1
 have hS':jW (F.hp F.HR (rdy F.ol) s.1 s.2) H1:=a1.trans hg.1.regLe
 obtain ⟨φ3,h3⟩:=zk9 (F:=F) (K:=K) (φ1:=φ1) (φ2:=φ'') (wE:=wE) (ν:=ν) (M:=M) (vs:=vs) (x:=s'.1) (y:=s'.2) (ts:=a'.tmps) hF.toOk gE hfr hM hvE
  (((hI.ext.trans k1 hF.le a4).wide (Nat.le_refl _) hnx).comp ((m1 S.nx).wide (by have:=hF.le;omega) hnx)) (hI.went.trans k5) m2 m2 (hg.1.vn v1) b1 b2 b3 b4 (fun p _=>rfl)
  (fun b hb=>by
   obtain ⟨z,hz⟩:=hF.nss b hb
   rw [hz]
   exact hS' b z (by rw [hI.regs b hb];exact hz))
  t3 (by rw [a3.1];exact Frm.tm_len)
  (fun i u hu hj=>by
   have hi:i∉asg c:=fun h=>hj (hF.junk i h u hu)
   rw [a3.2 i hi,Frm.tm_get hF hi];exact hu)
  (fun l L hl L' hL'=>by
   obtain ⟨s0,p0,h0⟩:=Frm.lp_at hF (HX:=F.HR) (vs:=rdy F.ol) (x:=s.1) (y:=s.2) hl
   obtain ⟨s1,p1,h1⟩:=(a2.trans hg.1.lkeep) l _ h0
   rw [hL'] at h1;cases h1
   exact ⟨s1,p1,rfl⟩)
 exact ⟨φ3,h3,zt8 (Ren.le_trans hI.ext.1 k1.1) hd (by rw [←hds];exact k4)⟩
end
end Go.Fz.Sy
namespace Go.Fz.Sy
variable {P:Program} {φ:Ren} {K:Nat→Prop} {w:World} {R:Type}
theorem zla (b:Nat) (k:Blk) (r:Hp) (n:Nat):Hp.get ((b,k)::r) n=if b=n then some k else Hp.get r n:=by
 show (bif Nat.beq b n then some k else Hp.get r n)=_
 rw [zkJ]
def GU (l:List Nat):Hp→Hp
 |[]=>[]
 |(b,k)::r=>bif yP l b then (b,k)::GU l r else GU l r
theorem Gn (l:List Nat) (n:Nat):∀H:Hp,(GU l H).get n=if n∈l then H.get n else none
 |[]=>by simp [GU,Hp.get_nil]
 |(b,k)::r=>by
  have ih:=Gn l n r
  simp only [GU]
  cases hm:yP l b with
  |true=>
   have hb:=(uD _ _).1 hm
   rw [cond_true,zla,zla]
   by_cases h:b=n
   ·subst h;simp [hb]
   ·rw [if_neg h,if_neg h];exact ih
  |false=>
   have hb:b∉l:=fun h=>by rw [(uD _ _).2 h] at hm;cases hm
   rw [cond_false,zla]
   by_cases h:b=n
   ·subst h;rw [if_neg hb];simpa [hb] using ih
   ·rw [if_neg h];exact ih
theorem zis {α:Type} {A B C C':SH} {b:Nat} {f:Option SB→α} (h:f (zm C b)=f (zm C' b)):f (zm (A++(B++C)) b)=f (zm (A++(B++C')) b):=by
 cases hA:zm A b with
 |some k=>simp only [zP,hA]
 |none=>cases hB:zm B b with
  |some k=>simp only [zP,hA,hB]
  |none=>simp only [zP,hA,hB];exact h
section
variable {F:Frm} {c:Code} {rd:Option Nat} {ds:List Nat} {M:Nat} {xs:Xs} {E:(R:Type)→EvS R} {ν:Nat→Bool}
theorem zf5 {φ1:Ren} {wE:World} {l:List Nat} (gE:zF φ1 (zE ν F.H1) K wE) (hl:∀b∈l,(uf ν (rho ν F.H1) F.HR).get b=none):zF φ1 (GU l (zE ν F.H1)) (F.KX K φ1 ν) wE:=by
 have hsub:∀b k,(GU l (zE ν F.H1)).get b=some k→b∈l∧(zE ν F.H1).get b=some k:=fun b k hb=>by
  rw [Gn] at hb
  split at hb
  ·rename_i h;exact ⟨h,hb⟩
  ·cases hb
 have hR:∀b k,(uf ν (rho ν F.H1) F.HR).get b=some k→b∉l∧∃kE,(zE ν F.H1).get b=some kE:=fun b k hb=>by
  have hb0:=hb
  rw [xL] at hb
  cases hk:zm F.HR b with
  |none=>rw [hk] at hb;cases hb
  |some kv=>
   rw [hk] at hb
   refine ⟨fun h=>(by rw [hl b h] at hb0;cases hb0),?_⟩
   have hk0:=hk
   unfold Frm.HR at hk
   rw [yQ] at hk
   split at hk
   ·cases hk
   ·rw [Option.map_eq_some_iff] at hk
    obtain ⟨kH,hkH,rfl⟩:=hk
    rw [zL,hkH]
    simp only [Option.bind_some] at hb ⊢
    cases kH with
    |vars cs=>exact ⟨_,rfl⟩
    |ro cs=>exact ⟨_,rfl⟩
    |arr nn t l=>
     cases hm:yP F.mv b with
     |true=>simp [wQ,hm,zU] at hb
     |false=>simp only [wQ,hm,cond_false,zU] at hb ⊢;cases hn:jD nn l<;>rw [hn] at hb<;>first | cases hb;done | exact ⟨_,rfl⟩
    |roa nn t l=>exact ⟨k,hb⟩
    |fro nn t l=>exact ⟨k,hb⟩
    |gone s n=>simp [wQ,zU] at hb
    |loop L=>exact ⟨_,rfl⟩
    |defd=>exact ⟨_,rfl⟩
    |hid=>exact ⟨_,rfl⟩
    |mpb k ag t l=>exact ⟨_,rfl⟩
    |abs=>simp [wQ,zU] at hb
 refine ⟨fun b k hb=>gE.rel b k (hsub b k hb).2,fun b c k k' L L' hb hc hne hk hL hL'=>gE.sep b c k k' L L' (hsub b k hb).2 (hsub c k' hc).2 hne hk hL hL',fun b k L hb hk hL=>?_,fun c hc=>?_,gE.fz,fun b k L c M hb hk hL hM=>gE.fsep b k L c M (hsub b k hb).2 hk hL hM⟩
 ·obtain ⟨h1,h2⟩:=hsub b k hb
  rintro (h | ⟨b',k',L',q1,q2,q3⟩)
  ·exact gE.prot b k L h2 hk hL h
  ·obtain ⟨e1,kE,e2⟩:=hR b' k' q1
   exact gE.sep b b' k kE L L' h2 e2 (fun e=>e1 (e▸h1)) hk hL q2 q3.symm
 ·rcases hc with h | ⟨b',k',L',q1,q2,q3⟩
  ·exact gE.kin c h
  ·obtain ⟨e1,kE,e2⟩:=hR b' k' q1
   rw [←q3]
   exact (gE.at e2 q2).lt
theorem zlb {vs:List LSt} {x:DS F.dl} {y:OS F.ol} (b:Nat):reg (zm (F.hp F.HF vs x y) b)=reg (zm (F.hp F.HR vs x y) b):=by
 refine zis (f:=reg) ?_
 unfold Frm.HF Frm.HR
 rw [yQ,yQ]
 split
 ·rfl
 ·cases zm F.H1 b with
  |none=>rfl
  |some k=>simp only [Option.map_some];rw [zk8,zt6]
theorem zit (hF:F.OkC c) {φ1 φ3:Ren} {wE:World} (gE:zF φ1 (zE ν F.H1) K wE) (hvE:VN ν F.lo F.H1) {vs:List LSt} {s:F.S} {ts:Array Value} (hall:∀b x,reg (zm F.H1 b)=some x→b∈F.ns)
  (h:F.Seen K φ1 wE ν F.HR vs s.1 s.2 φ3 w ts) (hrw:∀b k,b∈F.pn→(zE ν (F.hp F.HR vs s.1 s.2)).get b=some k→k.rw=true) :
  zF φ3 (zE ν (F.hp F.HF vs s.1 s.2)) K w∧qI φ3 (zt (rho ν (F.hp F.HF vs s.1 s.2)) (F.tm s.1 s.2)) ts:=by
 have hreg:∀b,reg (zm (F.hp F.HF vs s.1 s.2) b)=reg (zm (F.hp F.HR vs s.1 s.2) b):=fun b=>by
  refine zis (f:=reg) ?_
  unfold Frm.HF Frm.HR
  rw [yQ,yQ]
  split
  ·rfl
  ·cases zm F.H1 b with
   |none=>rfl
   |some k=>simp only [Option.map_some];rw [zk8,zt6]
 have hrho:rho ν (F.hp F.HF vs s.1 s.2)=rho ν (F.hp F.HR vs s.1 s.2):=yY hreg ν
 have hle:RLe (rho ν F.H1) (rho ν (F.hp F.HR vs s.1 s.2)):=zet ν fun b x hx=>by rw [h.regs b (hall b x hx)];exact hx
 have gE':zF φ1 (uf ν (rho ν (F.hp F.HR vs s.1 s.2)) F.H1) K wE:=zwa (ke ν F.H1) hle gE
 refine ⟨?_,by rw [hrho];exact h.tms⟩
 have hKX:F.KX K φ1 ν=KX K φ1 (uf ν (rho ν F.H1) F.HR):=rfl
 refine zwR (HE:=uf ν (rho ν (F.hp F.HR vs s.1 s.2)) F.H1) (HR:=uf ν (rho ν F.H1) F.HR) (H1:=zE ν (F.hp F.HR vs s.1 s.2)) gE' h.ext.1 (fun b L hL=>h.ext.2.2 b L hL) h.went h.good ?_
 intro b k hb
 rw [zL,hrho] at hb
 by_cases hp:b∈F.pn
 ·have e:zm (F.hp F.HF vs s.1 s.2) b=zm (F.hp F.HR vs s.1 s.2) b:=by
   refine zis (f:=id) ?_
   unfold Frm.HF Frm.HR
   rw [yQ,yQ,if_pos hp,if_pos hp]
  rw [e] at hb
  have hb2:(zE ν (F.hp F.HR vs s.1 s.2)).get b=some k:=by rw [zL];exact hb
  exact .inl ⟨hb2,hrw b k hp hb2⟩
 ·have h1:b∉nmD F.dl:=fun h=>hp (by simp [Frm.pn,h])
  have h2:b∉nmO F.ol:=fun h=>hp (by simp [Frm.pn,h])
  unfold Frm.hp at hb
  rw [zP,gr h1] at hb
  simp only at hb
  rw [zP,Zs h2] at hb
  simp only at hb
  unfold Frm.HF at hb
  rw [yQ,if_neg hp] at hb
  cases hk:zm F.H1 b with
  |none=>rw [hk] at hb;cases hb
  |some kH=>
   rw [hk] at hb
   simp only [Option.map_some,Option.bind_some] at hb
   have hkb:zU (rho ν (F.hp F.HR vs s.1 s.2)) (ν b) kH=some k:=by
    cases kH with
    |arr nn t l=>
     cases hm:yP F.mv b with
     |true=>simp [zim,hm,zU] at hb
     |false=>simp only [zim,hm,cond_false] at hb;exact hb
    |_=>exact hb
   refine .inr ⟨by rw [xL,hk];exact hkb,?_⟩
   rw [xL]
   have:zm F.HR b=some (wQ F.ns F.mv F.lo b kH):=by
    unfold Frm.HR
    rw [yQ,if_neg hp,hk];rfl
   rw [this]
   simp only [Option.bind_some]
   cases kH with
   |vars cs=>simp only [wQ];cases xG F.ns F.lo cs<;>exact ⟨_,rfl⟩
   |ro cs=>simp only [wQ];cases xG F.ns F.lo cs<;>exact ⟨_,rfl⟩
   |arr nn t l=>
    cases hm:yP F.mv b with
    |true=>simp [zim,hm,zU] at hb
    |false=>
     simp only [zU] at hkb
     simp only [wQ,hm,cond_false,zU]
     cases hn:jD nn l<;>rw [hn] at hkb<;>first | cases hkb;done | exact ⟨_,rfl⟩
   |roa nn t l=>exact ⟨k,hkb⟩
   |fro nn t l=>exact ⟨k,hkb⟩
   |gone s n=>simp [zU] at hkb
   |loop L=>exact ⟨_,rfl⟩
   |defd=>exact ⟨_,rfl⟩
   |hid=>exact ⟨_,rfl⟩
   |mpb k ag t l=>exact ⟨_,rfl⟩
   |abs=>simp [zU] at hkb
theorem zvC {vs:List LSt} {x:DS F.dl} {y:OS F.ol} {b:Nat} {k:Blk} (hp:b∈F.pn) (h:(zE ν (F.hp F.HR vs x y)).get b=some k):k.rw=true:=by
 rw [zL] at h
 cases hk:zm (F.hp F.HR vs x y) b with
 |none=>rw [hk] at h;cases h
 |some kS=>
  rw [hk] at h
  simp only [Option.bind_some] at h
  have hD:∀(dl:List DPl) (x:DS dl),zm (hpD dl x) b=some kS→∃cs,kS=.vars cs:=by
   intro dl
   induction dl with
   |nil=>intro x h;cases h
   |cons p r ih=>
    intro x h
    cases p with
    |tmp i vt=>exact ih x.2 h
    |blk b0 t=>
     simp only [hpD] at h
     rw [zH] at h
     split at h
     ·cases h;exact ⟨_,rfl⟩
     ·exact ih x.2 h
    |frz b0 ks=>exact ih x.2 h
    |npt i=>exact ih x.2 h
  have hO:∀(ol:List OPl) (vs:List LSt) (y:OS ol),zm (hpO ol vs y) b=some kS→(∃cs,kS=.vars cs)∨(∃nn t l,kS=.arr nn t l)∨(∃L,kS=.loop L)∨kS=.defd∨∃k' ag t l,kS=.mpb k' ag t l:=by
   intro ol
   induction ol with
   |nil=>intro vs y h;cases h
   |cons p r ih=>
    intro vs y h
    cases p with
    |otmp i c nn t=>
     simp only [hpO] at h
     rw [zH] at h
     split at h
     ·cases h;exact .inr (.inl ⟨_,_,_,rfl⟩)
     ·exact ih _ _ h
    |sblk b0 ks=>
     simp only [hpO] at h
     rw [zH] at h
     split at h
     ·cases h;exact .inl ⟨_,rfl⟩
     ·rw [zP] at h
      split at h
      ·rename_i kk hkk
       cases h
       have hk2:∀(ks:List CK) (x:CS ks),zm (Za ks x) b=some kS→∃nn t l,kS=.arr nn t l:=fun ks=>by
        induction ks with
        |nil=>intro x h;cases h
        |cons q ks ihk=>
         intro x h
         cases q with
         |d t=>exact ihk _ h
         |o c nn t=>
          simp only [Za] at h
          rw [zH] at h
          split at h
          ·cases h;exact ⟨_,_,_,rfl⟩
          ·exact ihk _ h
       exact .inr (.inl (hk2 _ _ hkk))
      ·exact ih _ _ h
    |arr b0 nn t=>
     simp only [hpO] at h
     rw [zH] at h
     split at h
     ·cases h;exact .inr (.inl ⟨_,_,_,rfl⟩)
     ·exact ih _ _ h
    |lp b0 L=>
     simp only [hpO] at h
     rw [zH] at h
     split at h
     ·cases h;exact .inr (.inr (.inl ⟨_,rfl⟩))
     ·exact ih _ _ h
    |dfd b0=>
     simp only [hpO] at h
     rw [zH] at h
     split at h
     ·cases h;exact .inr (.inr (.inr (.inl rfl)))
     ·exact ih _ _ h
    |mpl b0 k0 ag0 t0=>
     simp only [hpO] at h
     rw [zH] at h
     split at h
     ·cases h;exact .inr (.inr (.inr (.inr ⟨_,_,_,_,rfl⟩)))
     ·exact ih _ _ h
  unfold Frm.hp at hk
  rw [zP] at hk
  have fin:((∃cs,kS=.vars cs)∨(∃nn t l,kS=.arr nn t l)∨(∃L,kS=.loop L)∨kS=.defd∨∃k' ag t l,kS=.mpb k' ag t l)→k.rw=true:=by
   rintro (⟨cs,rfl⟩ | ⟨nn,t,l,rfl⟩ | ⟨L,rfl⟩ | rfl | ⟨k',ag,t,l,rfl⟩)
   ·simp only [zU,Option.some.injEq] at h;subst h;rfl
   ·simp only [zU] at h
    cases hn:jD nn l<;>rw [hn] at h<;>cases h
    rfl
   ·simp only [zU,Option.some.injEq] at h;subst h;rfl
   ·simp only [zU,Option.some.injEq] at h;subst h;rfl
   ·simp only [zU,Option.some.injEq] at h;subst h;rfl
  split at hk
  ·rename_i h1;cases hk;exact fin (.inl (hD _ _ h1))
  ·rw [zP] at hk
   split at hk
   ·rename_i h1;cases hk;exact fin (hO _ _ _ h1)
   ·unfold Frm.HR at hk
    rw [yQ,if_pos hp] at hk;cases hk
end
end Go.Fz.Sy
namespace Go.Fz.Sy
variable {P:Program} {φ:Ren} {K:Nat→Prop} {w:World} {R:Type}
abbrev zW:=Code→List SV→SH→Nat→Option (List DPl×List OPl×Nat)
def vM (ns:List Nat) (lo:Nat) (H:SH):List Nat→List OPl
 |[]=>[]
 |l::r=>match zm H l with
  |some (.loop L)=>bif xG ns lo L.tm&&(Nat.blt L.dfr lo&&stQ L [(.ready,none)]) then .lp l L::vM ns lo H r else vM ns lo H r
  |some .defd=>.dfd l::vM ns lo H r
  |_=>vM ns lo H r
theorem Vl {ns:List Nat} {lo:Nat} {H:SH} {l:Nat} {L:SL}:∀{ls:List Nat},OPl.lp l L∈vM ns lo H ls→xG ns lo L.tm=true∧L.dfr < lo∧zm H l=some (.loop L)
 |[],h=>by cases h
 |m::r,h=>by
  simp only [vM] at h
  split at h
  ·rename_i L' hL
   rw [show (bif xG ns lo L'.tm&&(Nat.blt L'.dfr lo&&stQ L' [(.ready,none)]) then OPl.lp m L'::vM ns lo H r else vM ns lo H r)=if (xG ns lo L'.tm&&(Nat.blt L'.dfr lo&&stQ L' [(.ready,none)]))=true then OPl.lp m L'::vM ns lo H r else vM ns lo H r from by cases (xG ns lo L'.tm&&(Nat.blt L'.dfr lo&&stQ L' [(.ready,none)]))<;>rfl] at h
   split at h
   ·rename_i hq
    rcases List.mem_cons.1 h with he | h
    ·cases he
     simp only [Bool.and_eq_true,Nat.blt_eq] at hq
     exact ⟨hq.1,hq.2.1,hL⟩
    ·exact Vl h
   ·exact Vl h
  ·have h:OPl.lp l L∈vM ns lo H r:=by simpa using h
   exact Vl h
  ·exact Vl h
def vr (H:SH):List Nat→List Nat
 |[]=>[]
 |b::r=>match reg (zm H b) with
  |some _=>b::vr H r
  |none=>vr H r
theorem zbC {H:SH} {b:Nat}:∀{l:List Nat},b∈vr H l→∃x,reg (zm H b)=some x
 |[],h=>by cases h
 |c::r,h=>by
  simp only [vr] at h
  split at h
  ·rename_i x hx
   rcases List.mem_cons.1 h with he | h
   ·subst he;exact ⟨x,hx⟩
   ·exact zbC h
  ·exact zbC h
theorem zbD {H:SH} {b:Nat} {x:Nat×Nat} (hx:reg (zm H b)=some x):∀{l:List Nat},b∈l→b∈vr H l
 |[],h=>by cases h
 |c::r,h=>by
  simp only [vr]
  rcases List.mem_cons.1 h with he | h
  ·subst he;rw [hx];simp
  ·split
   ·exact List.mem_cons_of_mem _ (zbD hx h)
   ·exact zbD hx h
theorem VP {b:Nat} {k:SB}:∀{H:SH},zm H b=some k→b∈qB H
 |[],h=>by cases h
 |(c,x)::r,h=>by
  rw [zH] at h
  split at h
  ·rename_i he;simp [qB,he]
  ·simp [qB,VP h]
def zqm:List Nat→Bool
 |[]=>true
 |a::r=>!yP r a&&zqm r
theorem zt9:∀{l:List Nat},zqm l=true→l.Nodup
 |[],_=>List.nodup_nil
 |a::r,h=>by
  simp only [zqm,Bool.and_eq_true,Bool.not_eq_true'] at h
  refine List.nodup_cons.2 ⟨fun hm=>?_,zt9 h.2⟩
  rw [(uD _ _).2 hm] at h;cases h.1
def zgA:List OPl→Bool
 |[]=>true
 |.lp _ _::_=>false
 |.otmp _ _ _ _::r=>zgA r
 |.sblk _ _::r=>zgA r
 |.arr _ _ _::r=>zgA r
 |.dfd _::r=>zgA r
 |.mpl _ _ _ _::r=>zgA r
theorem VQ {l:Nat} {L:SL}:∀{ol:List OPl},zgA ol=true→OPl.lp l L∉ol
 |[],_,h=>by cases h
 |.lp _ _::r,h,_=>by simp [zgA] at h
 |.otmp _ _ _ _::r,h,hm=>VQ (ol:=r) h (by simpa using hm)
 |.sblk _ _::r,h,hm=>VQ (ol:=r) h (by simpa using hm)
 |.arr _ _ _::r,h,hm=>VQ (ol:=r) h (by simpa using hm)
 |.dfd _::r,h,hm=>VQ (ol:=r) h (by simpa using hm)
 |.mpl _ _ _ _::r,h,hm=>VQ (ol:=r) h (by simpa using hm)
def lpN:List OPl→List Nat
 |[]=>[]
 |.lp l _::r=>l::lpN r
 |.otmp _ _ _ _::r=>lpN r
 |.sblk _ _::r=>lpN r
 |.arr _ _ _::r=>lpN r
 |.dfd _::r=>lpN r
 |.mpl _ _ _ _::r=>lpN r
theorem zbE {l:Nat}:∀{ol:List OPl},l∈lpN ol→∃L,OPl.lp l L∈ol
 |[],h=>by cases h
 |.lp m L::r,h=>by
  simp only [lpN,List.mem_cons] at h
  rcases h with rfl | h
  ·exact ⟨L,by simp⟩
  ·obtain ⟨L',h'⟩:=zbE h;exact ⟨L',List.mem_cons_of_mem _ h'⟩
 |.otmp _ _ _ _::r,h=>by obtain ⟨L',h'⟩:=zbE (ol:=r) h;exact ⟨L',List.mem_cons_of_mem _ h'⟩
 |.sblk _ _::r,h=>by obtain ⟨L',h'⟩:=zbE (ol:=r) h;exact ⟨L',List.mem_cons_of_mem _ h'⟩
 |.arr _ _ _::r,h=>by obtain ⟨L',h'⟩:=zbE (ol:=r) h;exact ⟨L',List.mem_cons_of_mem _ h'⟩
 |.dfd _::r,h=>by obtain ⟨L',h'⟩:=zbE (ol:=r) h;exact ⟨L',List.mem_cons_of_mem _ h'⟩
 |.mpl _ _ _ _::r,h=>by obtain ⟨L',h'⟩:=zbE (ol:=r) h;exact ⟨L',List.mem_cons_of_mem _ h'⟩
def zwW (F:Frm) (c:Code):Bool:=
 zqm F.pn&&(F.ns.all (fun b=>Nat.blt b F.lo)&&(zC6 F.ns F.dl F.ol&&(xG F.ns F.lo F.tm0&&((zio F.dl++zgz F.ol).all (yP (asg c))&&(qB F.H1).all fun l=>match zm F.H1 l with
  |some (.loop _)=>yP (lpN F.ol) l||!yP F.pn l
  |_=>true))))
def zeD (F:Frm) (σ:List (Nat×Nat)):Bool:=σ.all fun p=>match zm F.HR p.2 with
 |none=>true
 |some (.gone _ _)=>true
 |_=>false
def zC8:List (Nat×Nat)→List Nat
 |[]=>[]
 |p::r=>bif Nat.beq p.1 p.2 then zC8 r else p.2::zC8 r
def zE0 (e:Exit) (l:List Exit):List Exit:=bif l.any (zb9 e) then l else e::l
def zC9:List Exit→List Exit→List Exit
 |[],l=>l
 |e::r,l=>zE0 e (zC9 r l)
def Vm:Code→List Exit
 |.exit i=>[.exit i]
 |.goto i=>[.goto i]
 |.ret=>[.ret]
 |.seq a b=>zC9 (Vm a) (Vm b)
 |.cond _ a b=>zC9 (Vm a) (Vm b)
 |.block i c=>(Vm c).filter fun e=>!zb9 e (.exit i)
 |.loop c=>Vm c
 |.scope c=>Vm c
 |.rangeFunc _ _ _ b=>Vm b
 |_=>[]
def zDa:List Exit→List LSt
 |[]=>[]
 |e::r=>match zh3 e with
  |some (_,s,p)=>(s,p)::zDa r
  |none=>zDa r
def zf6:List OPl→List (List LSt)
 |[]=>[[]]
 |.lp _ L::r=>match zf6 r with
  |vs=>((.ready,none)::zDa (Vm L.body)).flatMap fun s=>vs.map fun v=>s::v
 |.otmp _ _ _ _::r=>zf6 r
 |.sblk _ _::r=>zf6 r
 |.arr _ _ _::r=>zf6 r
 |.dfd _::r=>zf6 r
 |.mpl _ _ _ _::r=>zf6 r
def zDb (xq:Exit→Bool) (c:Code) (ol:List OPl):Xs:=((Vm c).filter xq).flatMap fun e=>(zf6 ol).map fun v=>(e,v)
def zqn:Xs→Nat→Nat→(Exit×List LSt→Option R)→Option R
 |[],_,_,_=>none
 |[v],_,_,f=>f v
 |v::u::r,i,j,f=>bif Nat.beq j i then f v else zqn (u::r) (i+1) j f
theorem ziu {f:Exit×List LSt→Option R} {v:Exit×List LSt}:∀{xs:Xs} {i n:Nat},xs[n]?=some v→zqn xs i (i+n) f=f v
 |[],i,n,h=>by simp at h
 |[u],i,n,h=>by
  cases n with
  |zero=>simp at h;subst h;rfl
  |succ n=>simp at h
 |a::b::r,i,n,h=>by
  simp only [zqn]
  rw [zkJ]
  cases n with
  |zero=>simp at h;subst h;simp
  |succ n=>
   rw [if_neg (by omega)]
   have:=ziu (f:=f) (xs:=b::r) (i:=i+1) (n:=n) (by simpa using h)
   rw [←this];congr 1;omega
def zqo (cont:Exit→Bool) (E:(R:Type)→EvS R) (F:Frm) (rd:Option Nat) (c:Code) (ds:List Nat) (M:Nat) (xs:Xs) (s0:F.S) (k:KC R):Option R:=
 match zI (zeC cont E F rd c ds M xs) zQ s0 with
 |some (j,s)=>zez F.ol s.2 fun y=>zqn xs 0 j fun v=>k ⟨v.1,F.tm s.1 y,ds,F.hp F.HF v.2 s.1 y,M⟩
 |none=>none
def JR (dl:List DPl) (ol:List OPl) (g:Nat) (c:Code) (tm:List SV) (nx:Nat) (H1:SH) (ns:List Nat) (σ:List (Nat×Nat)):Frm:=⟨dl,ol,VO (asg c) 0 tm,ns,zC8 σ,nx,nx+g,H1⟩
def zAb (cont:Exit→Bool) (xq:Exit→Bool) (E:(R:Type)→EvS R) (dl:List DPl) (ol0:List OPl) (g:Nat) (rd:Option Nat) (c:Code) (tm:List SV) (ds:List Nat) (nx sp:Nat) (x0:DS dl) (H1:SH) (k:KC R):Option R:=
 match vr H1 (qB H1) with
 |ns=>match vM ns nx H1 (qB H1) with
  |lps=>match bkO (ol0++lps) (rdy (ol0++lps)) tm H1 with
   |some (y0,σ)=>bif zgA ol0&&(zwW (JR dl (ol0++lps) g c tm nx H1 ns σ) c&&(UE (idD dl++σ)&&(VM nx (nx+g) (idD dl++σ)&&zeD (JR dl (ol0++lps) g c tm nx H1 ns σ) (idD dl++σ)))) then
     zqo cont E (JR dl (ol0++lps) g c tm nx H1 ns σ) rd c ds (nx+g+sp) (zDb xq c (ol0++lps)) (x0,y0) k
    else none
   |none=>none
def zmM (cont:Exit→Bool) (xq:Exit→Bool) (E:(R:Type)→EvS R) (pl:zW) (rd:Option Nat) (c:Code) (tm:List SV) (ds:List Nat) (H:SH) (nx sp:Nat) (k:KC R):Option R:=match pl c tm H nx with
 |some (dl,ol0,g)=>match bkD dl tm H with
  |some (x0,H1)=>zAb cont xq E dl ol0 g rd c tm ds nx sp x0 H1 k
  |none=>none
 |none=>none
theorem zmN {F:Frm} {c:Code} (h:zwW F c=true) (hle:F.lo≤F.n0) (hlp:∀l L,OPl.lp l L∈F.ol→xG F.ns F.lo L.tm=true∧L.dfr < F.lo∧zm F.H1 l=some (.loop L)) (hns:∀b∈F.ns,∃x,reg (zm F.H1 b)=some x) {tm:List SV} (htm:F.tm0=VO (asg c) 0 tm) :
  F.OkC c∧∀l L,zm F.H1 l=some (.loop L)→l∈F.pn→OPl.lp l L∈F.ol:=by
 unfold zwW at h
 simp only [Bool.and_eq_true] at h
 obtain ⟨h1,h2,h3,h4,h5,h6⟩:=h
 rw [List.all_eq_true] at h2 h5 h6
 refine ⟨⟨⟨zt9 h1,fun b hb=>by have:=h2 b hb;simpa using this,h3,hlp,h4,hle⟩,hns,fun i hi u hu=>?_,fun i hi=>?_⟩,fun l L hl hp=>?_⟩
 ·rw [htm,ZS] at hu
  rw [Option.map_eq_some_iff] at hu
  obtain ⟨v,hv,rfl⟩:=hu
  simp [hi]
 ·have:=h5 i (by simpa using hi)
  exact (uD _ _).1 this
 ·have:=h6 l (VP hl)
  rw [hl] at this
  simp only [Bool.or_eq_true,Bool.not_eq_true'] at this
  rcases this with h7 | h7
  ·obtain ⟨L',h8⟩:=zbE ((uD _ _).1 h7)
   have:=(hlp l L' h8).2.2
   rw [hl] at this;cases this
   exact h8
  ·rw [(uD _ _).2 hp] at h7;cases h7
def zmO:Exit→Bool
 |.goto _=>false
 |_=>true
theorem zE1 {xq:Exit→Bool} {c:Code} {ol:List OPl} {j:Nat} {e:Exit} {vs:List LSt} (h:(zDb xq c ol)[j]?=some (e,vs)):xq e=true:=by
 have:=List.mem_of_getElem? h
 unfold zDb at this
 rw [List.mem_flatMap] at this
 obtain ⟨e',h1,h2⟩:=this
 rw [List.mem_map] at h2
 obtain ⟨v,h3,h4⟩:=h2
 cases h4
 exact (List.mem_filter.1 h1).2
theorem znP {F:Fence} {c:Code} {Q Q':Exit→Act→World→Prop} (h:∀e a w,Q e a w→Q' e a w):∀(m:Nat) (a:Act) (w:World),Code.roundsIn F 0 P c Q m a w→Code.roundsIn F 0 P c Q' m a w
 |0,a,w,hq=>hq
 |m+1,a,w,hq=>by
  rw [roundsIn_succ] at hq ⊢
  refine wpIn_mono hq ?_
  intro e a2 w2 hq
  cases e<;>first | exact znP h m _ _ hq | exact h _ _ _ hq
theorem zvD {F:Frm} {ν:Nat→Bool} {M:Nat} (hvE:VN ν F.lo F.H1) (hM:F.n0≤M) {vs:List LSt} {x:DS F.dl} {y:OS F.ol} (h:VN ν F.n0 (F.hp F.HR vs x y)):VN ν M (F.hp F.HF vs x y):=by
 refine ⟨fun b n hr=>h.empty b n (by rw [←zlb];exact hr),fun b hb=>h.old b (Nat.le_trans hM hb),fun b hb=>?_⟩
 unfold Frm.hp at hb
 rw [zP] at hb
 have fin:∀k,zm (F.hp F.HR vs x y) b=some k→qY (some k)=true→ν b=false:=fun k hk hn=>h.nn b (by rw [hk];exact hn)
 unfold Frm.hp at fin
 rw [zP] at fin
 cases h1:zm (hpD F.dl x) b with
 |some k=>rw [h1] at hb fin;exact fin k rfl hb
 |none=>
  rw [h1] at hb fin
  simp only at hb fin
  rw [zP] at hb fin
  cases h2:zm (hpO F.ol vs y) b with
  |some k=>rw [h2] at hb fin;exact fin k rfl hb
  |none=>
   rw [h2] at hb
   simp only at hb
   unfold Frm.HF at hb
   rw [yQ] at hb
   split at hb
   ·cases hb
   ·refine hvE.nn b ?_
    cases hk:zm F.H1 b with
    |none=>rw [hk] at hb;cases hb
    |some k=>
     rw [hk] at hb
     simp only [Option.map_some] at hb
     cases k with
     |arr nn t l=>
      simp only [zim] at hb
      cases hm:yP F.mv b with
      |true=>rw [hm] at hb;cases hb
      |false=>rw [hm] at hb;exact hb
     |_=>exact hb
theorem zDc {cont:Exit→Bool} (hcont:∀e,cont e=true↔e=.normal) {E:(R:Type)→EvS R} (hE:∀R,(E R).Ok P) {F:Frm} {c:Code} (hF:F.OkC c) (hkeep:∀l L,zm F.H1 l=some (.loop L)→l∈F.pn→OPl.lp l L∈F.ol) (hall:∀b x,reg (zm F.H1 b)=some x→b∈F.ns)
  {rd:Option Nat} {tm:List SV} {ds:List Nat} {H:SH} {M:Nat} {xs:Xs} {k:KC R} {r:R} {x0:DS F.dl} {y0:OS F.ol} {σ:List (Nat×Nat)} (hM:F.n0≤M) (htm:F.tm0=VO (asg c) 0 tm)
  (hD:bkD F.dl tm H=some (x0,F.H1)) (hO:bkO F.ol (rdy F.ol) tm F.H1=some (y0,σ)) (hQ:UE (idD F.dl++σ)=true) (hN:VM F.lo F.n0 (idD F.dl++σ)=true) (hR:zeD F (idD F.dl++σ)=true)
  (h:zqo cont E F rd c ds M xs (x0,y0) k=some r):∃S,zqh P rd c tm ds H F.lo S∧k S=some r:=by
 unfold zqo at h
 split at h
 case h_2=>cases h
 rename_i j s hit
 rw [YB] at h
 have hg:=kU hD
 have hvE:∀ν,VN ν F.lo H→VN ν F.lo F.H1:=fun ν hv=>hg.1.vn hv
 have hst0:∀ν,VN ν F.lo F.H1→F.St1 ν (rdy F.ol) (x0,y0):=fun ν hv=>by
  obtain ⟨q1,q2,q3,q4⟩:=Gm hF.toOk hv hv hD hO hN (fun b _=>rfl)
  exact ⟨q4,q3⟩
 have hst:∀ν,VN ν F.lo F.H1→∃e vs,xs[j]?=some (e,vs)∧F.St1 ν vs s:=fun ν hv=>by
  refine zin (B:=zeC cont E F rd c ds M xs) (I:=fun s=>F.St1 ν (rdy F.ol) s) (J:=fun x=>∃e vs,xs[x.1]?=some (e,vs)∧F.St1 ν vs x.2) ?_ zQ (x0,y0) (j,s) hit (hst0 ν hv)
  intro s0 r0 hr0 hI
  obtain ⟨S,s1,s2,s3,vs,s',s4,s5⟩:=zir hE hF hv hr0
  have:=zf3 hE hF hv s1 hI s4
  rcases s5 with ⟨_,rfl,rfl⟩ | ⟨_,j',rfl,hj⟩
  ·exact this
  ·exact ⟨_,vs,hj,this⟩
 have hv0:VN (fun _=>false) F.lo F.H1:=⟨fun b n hr=>UA hr,(fun _ _=>rfl),(fun _ _=>rfl)⟩
 obtain ⟨e,vs,hj,hstf⟩:=hst _ hv0
 have hp:=ziu (f:=fun v=>k ⟨v.1,F.tm s.1 s.2,ds,F.hp F.HF v.2 s.1 s.2,M⟩) (i:=0) hj
 rw [Nat.zero_add] at hp
 rw [hp] at h
 refine ⟨⟨e,F.tm s.1 s.2,ds,F.hp F.HF vs s.1 s.2,M⟩,⟨fun b z hz=>?_,fun l L hl=>?_,⟨?_,fun i hi=>?_⟩,Nat.le_trans hF.le hM,fun ν hv=>⟨zvD (hvE ν hv) hM ?_,(show F.lo≤M from Nat.le_trans hF.le hM),zQ,fun φ w K a rc g hf ht hd hr=>?_⟩⟩,h⟩
 ·have h1:reg (zm F.H1 b)=some z:=by rw [hg.1.reg b];exact hz
  show reg (zm (F.hp F.HF vs s.1 s.2) b)=some z
  rw [zlb,hstf.2 b (hall b z h1)];exact h1
 ·obtain ⟨s0,p0,h0⟩:=hg.1.lkeep l L hl
  by_cases hpn:l∈F.pn
  ·have:=hkeep l _ h0 hpn
   obtain ⟨s1,p1,h1⟩:=Frm.lp_at hF (HX:=F.HF) (vs:=vs) (x:=s.1) (y:=s.2) this
   exact ⟨s1,p1,h1⟩
  ·have h1:l∉nmD F.dl:=fun h=>hpn (by simp [Frm.pn,h])
   have h2:l∉nmO F.ol:=fun h=>hpn (by simp [Frm.pn,h])
   refine ⟨s0,p0,?_⟩
   show zm (F.hp F.HF vs s.1 s.2) l=_
   unfold Frm.hp
   rw [zP,gr h1]
   simp only
   rw [zP,Zs h2]
   simp only
   unfold Frm.HF
   rw [yQ,if_neg hpn,h0]
   rfl
 ·show (F.tm s.1 s.2).length=tm.length
  rw [Frm.tm_len,htm,JQ]
 ·show (F.tm s.1 s.2)[i]?=tm[i]?
  rw [Frm.tm_get hF hi,htm,ZS]
  simp [hi]
 ·obtain ⟨e',vs',hj',hst'⟩:=hst ν (hvE ν hv)
  rw [hj] at hj';cases hj'
  exact hst'.1
 ·
  have hvE':=hvE ν hv
  obtain ⟨φ1,m1,g1⟩:=hg.2 ν φ K w g
  have hout:∀b,b < FZ→φ1 b=φ b:=fun b hb=>(m1 (b+1)).2.1 b hb (.inl (by omega))
  have hfr:yX φ1 F.lo M:=⟨hf.1,fun b h1 h2=>by rw [hout b (by have:=hf.1;exact Nat.lt_of_lt_of_le h2 this)];exact hf.2 b h1 h2⟩
  have hle:=(m1 0).1
  have hsrc:∀b,b∈(idD F.dl++σ).map (·.2)→(uf ν (rho ν F.H1) F.HR).get b=none:=fun b hb=>by
   rw [List.mem_map] at hb
   obtain ⟨p,hp,rfl⟩:=hb
   unfold zeD at hR
   rw [List.all_eq_true] at hR
   have:=hR p hp
   rw [xL]
   cases hk:zm F.HR p.2 with
   |none=>rfl
   |some kk=>
    rw [hk] at this
    cases kk<;>first | rfl | cases this
  have hlps:∀l L,OPl.lp l L∈F.ol→∀L',zm F.H1 l=some (.loop L')→∃s p,L'={L with st:=s,pend:=p}:=fun l L hl L' hL'=>by
   rw [(hF.lps l L hl).2.2] at hL';cases hL'
   exact ⟨L.st,L.pend,rfl⟩
  obtain ⟨φ3,hseen⟩:=zk9 (F:=F) (K:=K) (KA:=K) (φ1:=φ1) (φ2:=φ1) (wE:=w) (ν:=ν) (M:=M) (vs:=rdy F.ol) (x:=x0) (y:=y0) (ts:=a.tmps) (HS0:=H) (HS:=F.H1) (Hs:=GU ((idD F.dl++σ).map (·.2)) (zE ν F.H1)) hF.toOk g1 hfr hM hvE'
   (Ext.refl _ _ _ _) (qw.refl _ _) g1 (zf5 g1 hsrc) hvE' hD hO hQ hN
   (fun p hp=>by rw [Gn,if_pos (List.mem_map.2 ⟨p,hp,rfl⟩)]) (fun b _=>rfl) (by rw [hg.1.rho ν];exact ht.mono hle) (by rw [htm,JQ])
   (fun i u hu hj'=>by
    rw [htm,ZS,Option.map_eq_some_iff] at hu
    obtain ⟨v,hv',rfl⟩:=hu
    by_cases hi:0+i∈asg c
    ·rw [if_pos hi] at hj';exact absurd rfl hj'
    ·rw [if_neg hi];exact hv') hlps
  have hd1:gb φ1 ds a.defers:=hd.mono hle
  have hr1:Ve φ1 rd rc:=hr.mono hle
  have key:=znO (P:=P) (B:=zeC cont E F rd c ds M xs) (c:=c) (F:=fw rc)
   (Inv:=fun s a w'=>∃φ',F.Seen K φ1 w ν F.HR (rdy F.ol) s.1 s.2 φ' w' a.tmps∧gb φ1 ds a.defers)
   (Fin:=fun x e a w'=>∃vs φ',xs[x.1]?=some (e,vs)∧F.Seen K φ1 w ν F.HR vs x.2.1 x.2.2 φ' w' a.tmps∧gb φ1 ds a.defers)
   (fun s0 r0 hr0 a0 w0 hI=>by
    obtain ⟨φ',hI,hd0⟩:=hI
    obtain ⟨S,s1,s2,s3,vs',s',s4,s5⟩:=zir hE hF hvE' hr0
    refine wpIn_mono (zf4 hE hF g1 hfr hM hvE' hr1 s1 s2 s3 s4 hI hd0) ?_
    rintro e' a' w' ⟨rfl,φ'',q1,q2⟩
    rcases s5 with ⟨he,rfl,rfl⟩ | ⟨he,j',rfl,hj'⟩
    ·exact ⟨(hcont _).1 he,φ'',q1,q2⟩
    ·exact ⟨(fun e=>by rw [(hcont _).2 e] at he;cases he),vs',φ'',hj',q1,q2⟩) zQ (x0,y0) (j,s) hit a w ⟨φ3,hseen,hd1⟩
  refine znP ?_ _ _ _ key
  rintro e' a' w' ⟨vs',φ',q1,q2,q3⟩
  rw [hj] at q1;cases q1
  obtain ⟨t1,t2⟩:=zit hF g1 hvE' hall q2 (fun b kk hb hk=>zvC hb hk)
  refine ⟨rfl,φ',?_,t1,t2,q3.mono q2.ext.1,⟨q2.went.os,q2.went.tape,q2.went.output,q2.went.size,fun b hb=>q2.went.kept b (.inl hb)⟩⟩
  have e1:Ext K φ φ1 F.lo M:=(m1 F.lo).wide (Nat.le_refl _) (Nat.le_trans hF.le hM)
  have e2:Ext K φ1 φ' F.lo M:=(q2.ext.weak (fun b hb=>.inl hb)).wide (Nat.le_refl _) hM
  exact e1.comp e2
theorem zqp {X S:Type} {B:S→Option (X ⊕ S)} {C x:Code} {lb:Nat} (hfl:findLabel C lb=some x) {Inv:S→Act→World→Prop} {Fin:X→Exit→Act→World→Prop}
  (h:∀s r,B s=some r→∀a w,Inv s a w→x.wp P (fun e a' w'=>match r with | .inl y=>zmO e=true∧Fin y e a' w' | .inr s'=>e=.goto lb∧Inv s' a' w') a w) :
  ∀(N:Nat) (s:S) (y:X),zI B N s=some y→∀a w,Inv s a w→zbl P C (Fin y) N x a w
 |0,s,x,hi,a,w,hI=>by cases hi
 |N+1,s,y,hi,a,w,hI=>by
  rw [YJ] at hi
  split at hi
  ·rename_i y' hB
   cases hi
   refine Code.wp_mono ?_ (h s _ hB a w hI)
   intro e a' w' hq
   obtain ⟨he,hf⟩:=hq
   cases e<;>first | exact hf | cases he
  ·rename_i s' hB
   refine Code.wp_mono ?_ (h s _ hB a w hI)
   intro e a' w' hq
   obtain ⟨rfl,hI'⟩:=hq
   simp only [hfl]
   exact zqp hfl h N s' y hi a' w' hI'
  ·cases hi
theorem zBx {cont:Exit→Bool} {C:Code} {lb:Nat} (hcont:∀e,cont e=true→e=.goto lb) {E:(R:Type)→EvS R} (hE:∀R,(E R).Ok P) {F:Frm} {c:Code} (hF:F.OkC c) (hkeep:∀l L,zm F.H1 l=some (.loop L)→l∈F.pn→OPl.lp l L∈F.ol) (hall:∀b x,reg (zm F.H1 b)=some x→b∈F.ns)
  {tm:List SV} {ds:List Nat} {H:SH} {M:Nat} {xs:Xs} {k:KC R} {r:R} {x0:DS F.dl} {y0:OS F.ol} {σ:List (Nat×Nat)} (hM:F.n0≤M) (hfl:findLabel C lb=some c) (hasgC:∀i∈asg c,i∈asg C) (hxs:∀(j:Nat) e vs,xs[j]?=some (e,vs)→zmO e=true) (htm:F.tm0=VO (asg c) 0 tm)
  (hD:bkD F.dl tm H=some (x0,F.H1)) (hO:bkO F.ol (rdy F.ol) tm F.H1=some (y0,σ)) (hQ:UE (idD F.dl++σ)=true) (hN:VM F.lo F.n0 (idD F.dl++σ)=true) (hR:zeD F (idD F.dl++σ)=true)
  (h:zqo cont E F none c ds M xs (x0,y0) k=some r):∃S,zCZ P C c tm ds H F.lo S∧k S=some r:=by
 unfold zqo at h
 split at h
 case h_2=>cases h
 rename_i j s hit
 rw [YB] at h
 have hg:=kU hD
 have hvE:∀ν,VN ν F.lo H→VN ν F.lo F.H1:=fun ν hv=>hg.1.vn hv
 have hst0:∀ν,VN ν F.lo F.H1→F.St1 ν (rdy F.ol) (x0,y0):=fun ν hv=>by
  obtain ⟨q1,q2,q3,q4⟩:=Gm hF.toOk hv hv hD hO hN (fun b _=>rfl)
  exact ⟨q4,q3⟩
 have hst:∀ν,VN ν F.lo F.H1→∃e vs,xs[j]?=some (e,vs)∧F.St1 ν vs s:=fun ν hv=>by
  refine zin (B:=zeC cont E F none c ds M xs) (I:=fun s=>F.St1 ν (rdy F.ol) s) (J:=fun x=>∃e vs,xs[x.1]?=some (e,vs)∧F.St1 ν vs x.2) ?_ zQ (x0,y0) (j,s) hit (hst0 ν hv)
  intro s0 r0 hr0 hI
  obtain ⟨S,s1,s2,s3,vs,s',s4,s5⟩:=zir hE hF hv hr0
  have:=zf3 hE hF hv s1 hI s4
  rcases s5 with ⟨_,rfl,rfl⟩ | ⟨_,j',rfl,hj⟩
  ·exact this
  ·exact ⟨_,vs,hj,this⟩
 have hv0:VN (fun _=>false) F.lo F.H1:=⟨fun b n hr=>UA hr,(fun _ _=>rfl),(fun _ _=>rfl)⟩
 obtain ⟨e,vs,hj,hstf⟩:=hst _ hv0
 have hp:=ziu (f:=fun v=>k ⟨v.1,F.tm s.1 s.2,ds,F.hp F.HF v.2 s.1 s.2,M⟩) (i:=0) hj
 rw [Nat.zero_add] at hp
 rw [hp] at h
 refine ⟨⟨e,F.tm s.1 s.2,ds,F.hp F.HF vs s.1 s.2,M⟩,⟨fun b z hz=>?_,fun l L hl=>?_,⟨?_,fun i hi=>?_⟩,Nat.le_trans hF.le hM,fun ν hv=>⟨zvD (hvE ν hv) hM ?_,(show F.lo≤M from Nat.le_trans hF.le hM),zQ,fun φ w K a g hf ht hd=>?_⟩⟩,h⟩
 ·have h1:reg (zm F.H1 b)=some z:=by rw [hg.1.reg b];exact hz
  show reg (zm (F.hp F.HF vs s.1 s.2) b)=some z
  rw [zlb,hstf.2 b (hall b z h1)];exact h1
 ·obtain ⟨s0,p0,h0⟩:=hg.1.lkeep l L hl
  by_cases hpn:l∈F.pn
  ·have:=hkeep l _ h0 hpn
   obtain ⟨s1,p1,h1⟩:=Frm.lp_at hF (HX:=F.HF) (vs:=vs) (x:=s.1) (y:=s.2) this
   exact ⟨s1,p1,h1⟩
  ·have h1:l∉nmD F.dl:=fun h=>hpn (by simp [Frm.pn,h])
   have h2:l∉nmO F.ol:=fun h=>hpn (by simp [Frm.pn,h])
   refine ⟨s0,p0,?_⟩
   show zm (F.hp F.HF vs s.1 s.2) l=_
   unfold Frm.hp
   rw [zP,gr h1]
   simp only
   rw [zP,Zs h2]
   simp only
   unfold Frm.HF
   rw [yQ,if_neg hpn,h0]
   rfl
 ·show (F.tm s.1 s.2).length=tm.length
  rw [Frm.tm_len,htm,JQ]
 ·show (F.tm s.1 s.2)[i]?=tm[i]?
  have hi:i∉asg c:=fun h=>hi (hasgC i h)
  rw [Frm.tm_get hF hi,htm,ZS]
  simp [hi]
 ·obtain ⟨e',vs',hj',hst'⟩:=hst ν (hvE ν hv)
  rw [hj] at hj';cases hj'
  exact hst'.1
 ·
  have hvE':=hvE ν hv
  obtain ⟨φ1,m1,g1⟩:=hg.2 ν φ K w g
  have hout:∀b,b < FZ→φ1 b=φ b:=fun b hb=>(m1 (b+1)).2.1 b hb (.inl (by omega))
  have hfr:yX φ1 F.lo M:=⟨hf.1,fun b h1 h2=>by rw [hout b (by have:=hf.1;exact Nat.lt_of_lt_of_le h2 this)];exact hf.2 b h1 h2⟩
  have hle:=(m1 0).1
  have hsrc:∀b,b∈(idD F.dl++σ).map (·.2)→(uf ν (rho ν F.H1) F.HR).get b=none:=fun b hb=>by
   rw [List.mem_map] at hb
   obtain ⟨p,hp,rfl⟩:=hb
   unfold zeD at hR
   rw [List.all_eq_true] at hR
   have:=hR p hp
   rw [xL]
   cases hk:zm F.HR p.2 with
   |none=>rfl
   |some kk=>
    rw [hk] at this
    cases kk<;>first | rfl | cases this
  have hlps:∀l L,OPl.lp l L∈F.ol→∀L',zm F.H1 l=some (.loop L')→∃s p,L'={L with st:=s,pend:=p}:=fun l L hl L' hL'=>by
   rw [(hF.lps l L hl).2.2] at hL';cases hL'
   exact ⟨L.st,L.pend,rfl⟩
  obtain ⟨φ3,hseen⟩:=zk9 (F:=F) (K:=K) (KA:=K) (φ1:=φ1) (φ2:=φ1) (wE:=w) (ν:=ν) (M:=M) (vs:=rdy F.ol) (x:=x0) (y:=y0) (ts:=a.tmps) (HS0:=H) (HS:=F.H1) (Hs:=GU ((idD F.dl++σ).map (·.2)) (zE ν F.H1)) hF.toOk g1 hfr hM hvE'
   (Ext.refl _ _ _ _) (qw.refl _ _) g1 (zf5 g1 hsrc) hvE' hD hO hQ hN
   (fun p hp=>by rw [Gn,if_pos (List.mem_map.2 ⟨p,hp,rfl⟩)]) (fun b _=>rfl) (by rw [hg.1.rho ν];exact ht.mono hle) (by rw [htm,JQ])
   (fun i u hu hj'=>by
    rw [htm,ZS,Option.map_eq_some_iff] at hu
    obtain ⟨v,hv',rfl⟩:=hu
    by_cases hi:0+i∈asg c
    ·rw [if_pos hi] at hj';exact absurd rfl hj'
    ·rw [if_neg hi];exact hv') hlps
  have hd1:gb φ1 ds a.defers:=hd.mono hle
  have hr1:Ve φ1 none none:=trivial
  have key:=zqp (P:=P) (B:=zeC cont E F none c ds M xs) hfl
   (Inv:=fun s a w'=>∃φ',F.Seen K φ1 w ν F.HR (rdy F.ol) s.1 s.2 φ' w' a.tmps∧gb φ1 ds a.defers)
   (Fin:=fun x e a w'=>∃vs φ',xs[x.1]?=some (e,vs)∧F.Seen K φ1 w ν F.HR vs x.2.1 x.2.2 φ' w' a.tmps∧gb φ1 ds a.defers)
   (fun s0 r0 hr0 a0 w0 hI=>by
    obtain ⟨φ',hI,hd0⟩:=hI
    obtain ⟨S,s1,s2,s3,vs',s',s4,s5⟩:=zir hE hF hvE' hr0
    refine (wpIn_wide (n:=0)).1 (wpIn_mono (zf4 (rc:=none) hE hF g1 hfr hM hvE' hr1 s1 s2 s3 s4 hI hd0) ?_)
    rintro e' a' w' ⟨rfl,φ'',q1,q2⟩
    rcases s5 with ⟨he,rfl,rfl⟩ | ⟨he,j',rfl,hj'⟩
    ·exact ⟨hcont _ he,φ'',q1,q2⟩
    ·exact ⟨hxs _ _ _ hj',vs',φ'',hj',q1,q2⟩) zQ (x0,y0) (j,s) hit a w ⟨φ3,hseen,hd1⟩
  refine zeo ?_ _ _ _ _ key
  rintro e' a' w' ⟨vs',φ',q1,q2,q3⟩
  rw [hj] at q1;cases q1
  obtain ⟨t1,t2⟩:=zit hF g1 hvE' hall q2 (fun b kk hb hk=>zvC hb hk)
  refine ⟨rfl,φ',?_,t1,t2,q3.mono q2.ext.1,⟨q2.went.os,q2.went.tape,q2.went.output,q2.went.size,fun b hb=>q2.went.kept b (.inl hb)⟩⟩
  have e1:Ext K φ φ1 F.lo M:=(m1 F.lo).wide (Nat.le_refl _) (Nat.le_trans hF.le hM)
  have e2:Ext K φ1 φ' F.lo M:=(q2.ext.weak (fun b hb=>.inl hb)).wide (Nat.le_refl _) hM
  exact e1.comp e2
theorem zDd {cont:Exit→Bool} (hcont:∀e,cont e=true↔e=.normal) {xq:Exit→Bool} {E:(R:Type)→EvS R} (hE:∀R,(E R).Ok P) {pl:zW} {rd:Option Nat} {c:Code} {tm:List SV} {ds:List Nat} {H:SH} {nx sp:Nat} {k:KC R} {r:R} (h:zmM cont xq E pl rd c tm ds H nx sp k=some r):∃S,zqh P rd c tm ds H nx S∧k S=some r:=by
 unfold zmM at h
 split at h
 case h_2=>cases h
 rename_i dl ol0 g hpl
 split at h
 case h_2=>cases h
 rename_i x0 H1 hD
 unfold zAb at h
 dsimp only at h
 split at h
 case h_2=>cases h
 rename_i y0 σ hO
 have h6:=zA h
 clear h
 obtain ⟨hc,h⟩:=h6
 simp only [Bool.and_eq_true] at hc
 obtain ⟨c1,c2,c3,c4,c5⟩:=hc
 have hlps:∀l L,OPl.lp l L∈(ol0++vM (vr H1 (qB H1)) nx H1 (qB H1))→xG (vr H1 (qB H1)) nx L.tm=true∧L.dfr < nx∧zm H1 l=some (.loop L):=fun l L hl=>by
  rcases List.mem_append.1 hl with hl | hl
  ·exact absurd hl (VQ c1)
  ·exact Vl hl
 obtain ⟨hF,hkeep⟩:=zmN (F:=JR dl (ol0++vM (vr H1 (qB H1)) nx H1 (qB H1)) g c tm nx H1 (vr H1 (qB H1)) σ) c2 (Nat.le_add_right _ _) hlps (fun b hb=>zbC hb) (tm:=tm) rfl
 exact zDc hcont (F:=JR dl (ol0++vM (vr H1 (qB H1)) nx H1 (qB H1)) g c tm nx H1 (vr H1 (qB H1)) σ) hE hF hkeep
  (fun b x hx=>by
   have:∃k,zm H1 b=some k:=by
    cases hk:zm H1 b with
    |none=>exact absurd hx (by show reg (zm H1 b)≠_;rw [hk];simp [reg])
    |some k=>exact ⟨k,rfl⟩
   obtain ⟨k,hk⟩:=this
   exact zbD hx (VP hk)) (Nat.le_add_right _ _) rfl hD hO c3 c4 c5 h
theorem zBy {cont:Exit→Bool} {C:Code} {lb:Nat} (hcont:∀e,cont e=true→e=.goto lb) {E:(R:Type)→EvS R} (hE:∀R,(E R).Ok P) {pl:zW} {c:Code} {tm:List SV} {ds:List Nat} {H:SH} {nx sp:Nat} {k:KC R} {r:R} (hfl:findLabel C lb=some c) (hasgC:∀i∈asg c,i∈asg C) (h:zmM cont zmO E pl none c tm ds H nx sp k=some r):∃S,zCZ P C c tm ds H nx S∧k S=some r:=by
 unfold zmM at h
 split at h
 case h_2=>cases h
 rename_i dl ol0 g hpl
 split at h
 case h_2=>cases h
 rename_i x0 H1 hD
 unfold zAb at h
 dsimp only at h
 split at h
 case h_2=>cases h
 rename_i y0 σ hO
 have h6:=zA h
 clear h
 obtain ⟨hc,h⟩:=h6
 simp only [Bool.and_eq_true] at hc
 obtain ⟨c1,c2,c3,c4,c5⟩:=hc
 have hlps:∀l L,OPl.lp l L∈(ol0++vM (vr H1 (qB H1)) nx H1 (qB H1))→xG (vr H1 (qB H1)) nx L.tm=true∧L.dfr < nx∧zm H1 l=some (.loop L):=fun l L hl=>by
  rcases List.mem_append.1 hl with hl | hl
  ·exact absurd hl (VQ c1)
  ·exact Vl hl
 obtain ⟨hF,hkeep⟩:=zmN (F:=JR dl (ol0++vM (vr H1 (qB H1)) nx H1 (qB H1)) g c tm nx H1 (vr H1 (qB H1)) σ) c2 (Nat.le_add_right _ _) hlps (fun b hb=>zbC hb) (tm:=tm) rfl
 exact zBx hcont (F:=JR dl (ol0++vM (vr H1 (qB H1)) nx H1 (qB H1)) g c tm nx H1 (vr H1 (qB H1)) σ) hE hF hkeep
  (fun b x hx=>by
   have:∃k,zm H1 b=some k:=by
    cases hk:zm H1 b with
    |none=>exact absurd hx (by show reg (zm H1 b)≠_;rw [hk];simp [reg])
    |some k=>exact ⟨k,rfl⟩
   obtain ⟨k,hk⟩:=this
   exact zbD hx (VP hk)) (Nat.le_add_right _ _) hfl hasgC (fun j e vs hj=>zE1 hj) rfl hD hO c3 c4 c5 h
def zsy (F:Frm) (S:XF):Xs→Nat→Option (Nat×F.S)
 |[],_=>none
 |(e,vs)::r,j=>bif zb9 S.e e then match YK F vs S.tm S.H with
   |some s=>some (j,s)
   |none=>zsy F S r (j+1)
  else zsy F S r (j+1)
theorem zua {F:Frm} {S:XF}:∀{xs:Xs} {j:Nat} {r:Nat×F.S},zsy F S xs j=some r→∃i vs,r.1=j+i∧xs[i]?=some (S.e,vs)∧YK F vs S.tm S.H=some r.2
 |[],j,r,h=>by cases h
 |(e,vs)::xs,j,r,h=>by
  have rec_:zsy F S xs (j+1)=some r→∃i vs',r.1=j+i∧((e,vs)::xs)[i]?=some (S.e,vs')∧YK F vs' S.tm S.H=some r.2:=fun h=>by
   obtain ⟨i,vs',h1,h2,h3⟩:=zua h
   exact ⟨i+1,vs',by rw [h1];omega,by simpa using h2,h3⟩
  simp only [zsy] at h
  rcases yZ h with ⟨h1,h2⟩ | ⟨_,h2⟩
  ·split at h2
   ·rename_i s hs
    cases h2
    exact ⟨0,vs,rfl,by rw [zeB h1];rfl,hs⟩
   ·exact rec_ h2
  ·exact rec_ h2
def zwX (E:(R:Type)→EvS R) (F:Frm) (rd:Option Nat) (c:Code) (ds:List Nat) (M:Nat) (xs:Xs) (s:F.S):Option (Nat×F.S):=
 zez F.ol s.2 fun y=>(E _).code0 rd c (F.tm s.1 y) ds (F.hp F.HR (rdy F.ol) s.1 y) F.n0 fun S=>
  bif Nat.ble S.nx M&&zmL ds S.ds then zsy F S xs 0 else none
theorem zBz {E:(R:Type)→EvS R} (hE:∀R,(E R).Ok P) {F:Frm} {c:Code} {rd:Option Nat} {ds:List Nat} {M:Nat} {xs:Xs} {s:F.S} {j:Nat} {s':F.S} (h:zwX E F rd c ds M xs s=some (j,s')) :
  ∃
   S:XF,QS P rd c (F.tm s.1 s.2) ds (F.hp F.HR (rdy F.ol) s.1 s.2) F.n0 S∧S.nx≤M∧S.ds=ds∧
   ∃vs,YK F vs S.tm S.H=some s'∧xs[j]?=some (S.e,vs):=by
 unfold zwX at h
 rw [YB] at h
 obtain ⟨S,h1,h2⟩:=(hE _).code0 h
 have h6:=zA h2
 clear h2
 obtain ⟨hq,h2⟩:=h6
 simp only [Bool.and_eq_true,Nat.ble_eq] at hq
 obtain ⟨i,vs,e1,e2,e3⟩:=zua h2
 refine ⟨S,h1,hq.1,(ziq hq.2).symm,vs,e3,?_⟩
 have:j=i:=by simpa using e1
 rw [this];exact e2
def zAc (E:(R:Type)→EvS R) (F:Frm) (rd:Option Nat) (c:Code) (ds:List Nat) (M:Nat) (xs:Xs) (s0:F.S) (k:KC R):Option R:=
 match zwX E F rd c ds M xs s0 with
 |some (j,s)=>zez F.ol s.2 fun y=>zqn xs 0 j fun v=>k ⟨v.1,F.tm s.1 y,ds,F.hp F.HF v.2 s.1 y,M⟩
 |none=>none
theorem zDe {E:(R:Type)→EvS R} (hE:∀R,(E R).Ok P) {F:Frm} {c:Code} (hF:F.OkC c) (hkeep:∀l L,zm F.H1 l=some (.loop L)→l∈F.pn→OPl.lp l L∈F.ol) (hall:∀b x,reg (zm F.H1 b)=some x→b∈F.ns)
  {rd:Option Nat} {tm:List SV} {ds:List Nat} {H:SH} {M:Nat} {xs:Xs} {k:KC R} {r:R} {x0:DS F.dl} {y0:OS F.ol} {σ:List (Nat×Nat)} (hM:F.n0≤M) (htm:F.tm0=VO (asg c) 0 tm)
  (hD:bkD F.dl tm H=some (x0,F.H1)) (hO:bkO F.ol (rdy F.ol) tm F.H1=some (y0,σ)) (hQ:UE (idD F.dl++σ)=true) (hN:VM F.lo F.n0 (idD F.dl++σ)=true) (hR:zeD F (idD F.dl++σ)=true)
  (h:zAc E F rd c ds M xs (x0,y0) k=some r):∃S,QS P rd c tm ds H F.lo S∧k S=some r:=by
 unfold zAc at h
 split at h
 case h_2=>cases h
 rename_i j s hit
 rw [YB] at h
 have hg:=kU hD
 have hvE:∀ν,VN ν F.lo H→VN ν F.lo F.H1:=fun ν hv=>hg.1.vn hv
 have hst0:∀ν,VN ν F.lo F.H1→F.St1 ν (rdy F.ol) (x0,y0):=fun ν hv=>by
  obtain ⟨q1,q2,q3,q4⟩:=Gm hF.toOk hv hv hD hO hN (fun b _=>rfl)
  exact ⟨q4,q3⟩
 obtain ⟨S0,p1,p2,p3,vs0,p4,p5⟩:=zBz hE hit
 have hst:∀ν,VN ν F.lo F.H1→F.St1 ν vs0 s:=fun ν hv=>zf3 hE hF hv p1 (hst0 ν hv) p4
 have hv0:VN (fun _=>false) F.lo F.H1:=⟨fun b n hr=>UA hr,(fun _ _=>rfl),(fun _ _=>rfl)⟩
 have hstf:=hst _ hv0
 have hp:=ziu (f:=fun v=>k ⟨v.1,F.tm s.1 s.2,ds,F.hp F.HF v.2 s.1 s.2,M⟩) (i:=0) p5
 rw [Nat.zero_add] at hp
 rw [hp] at h
 refine ⟨⟨S0.e,F.tm s.1 s.2,ds,F.hp F.HF vs0 s.1 s.2,M⟩,⟨fun b z hz=>?_,fun l L hl=>?_,⟨?_,fun i hi=>?_⟩,Nat.le_trans hF.le hM,fun ν hv=>⟨zvD (hvE ν hv) hM ?_,(show F.lo≤M from Nat.le_trans hF.le hM),fun φ w K a rc g hf ht hd hr=>?_⟩⟩,h⟩
 ·have h1:reg (zm F.H1 b)=some z:=by rw [hg.1.reg b];exact hz
  show reg (zm (F.hp F.HF vs0 s.1 s.2) b)=some z
  rw [zlb,hstf.2 b (hall b z h1)];exact h1
 ·obtain ⟨s0,p0,h0⟩:=hg.1.lkeep l L hl
  by_cases hpn:l∈F.pn
  ·have:=hkeep l _ h0 hpn
   obtain ⟨s1,p1,h1⟩:=Frm.lp_at hF (HX:=F.HF) (vs:=vs0) (x:=s.1) (y:=s.2) this
   exact ⟨s1,p1,h1⟩
  ·have h1:l∉nmD F.dl:=fun h=>hpn (by simp [Frm.pn,h])
   have h2:l∉nmO F.ol:=fun h=>hpn (by simp [Frm.pn,h])
   refine ⟨s0,p0,?_⟩
   show zm (F.hp F.HF vs0 s.1 s.2) l=_
   unfold Frm.hp
   rw [zP,gr h1]
   simp only
   rw [zP,Zs h2]
   simp only
   unfold Frm.HF
   rw [yQ,if_neg hpn,h0]
   rfl
 ·show (F.tm s.1 s.2).length=tm.length
  rw [Frm.tm_len,htm,JQ]
 ·show (F.tm s.1 s.2)[i]?=tm[i]?
  rw [Frm.tm_get hF hi,htm,ZS]
  simp [hi]
 ·exact (hst ν (hvE ν hv)).1
 ·
  have hvE':=hvE ν hv
  obtain ⟨φ1,m1,g1⟩:=hg.2 ν φ K w g
  have hout:∀b,b < FZ→φ1 b=φ b:=fun b hb=>(m1 (b+1)).2.1 b hb (.inl (by omega))
  have hfr:yX φ1 F.lo M:=⟨hf.1,fun b h1 h2=>by rw [hout b (by have:=hf.1;exact Nat.lt_of_lt_of_le h2 this)];exact hf.2 b h1 h2⟩
  have hle:=(m1 0).1
  have hsrc:∀b,b∈(idD F.dl++σ).map (·.2)→(uf ν (rho ν F.H1) F.HR).get b=none:=fun b hb=>by
   rw [List.mem_map] at hb
   obtain ⟨p,hp,rfl⟩:=hb
   unfold zeD at hR
   rw [List.all_eq_true] at hR
   have:=hR p hp
   rw [xL]
   cases hk:zm F.HR p.2 with
   |none=>rfl
   |some kk=>
    rw [hk] at this
    cases kk<;>first | rfl | cases this
  have hlps:∀l L,OPl.lp l L∈F.ol→∀L',zm F.H1 l=some (.loop L')→∃s p,L'={L with st:=s,pend:=p}:=fun l L hl L' hL'=>by
   rw [(hF.lps l L hl).2.2] at hL';cases hL'
   exact ⟨L.st,L.pend,rfl⟩
  obtain ⟨φ3,hseen⟩:=zk9 (F:=F) (K:=K) (KA:=K) (φ1:=φ1) (φ2:=φ1) (wE:=w) (ν:=ν) (M:=M) (vs:=rdy F.ol) (x:=x0) (y:=y0) (ts:=a.tmps) (HS0:=H) (HS:=F.H1) (Hs:=GU ((idD F.dl++σ).map (·.2)) (zE ν F.H1)) hF.toOk g1 hfr hM hvE'
   (Ext.refl _ _ _ _) (qw.refl _ _) g1 (zf5 g1 hsrc) hvE' hD hO hQ hN
   (fun p hp=>by rw [Gn,if_pos (List.mem_map.2 ⟨p,hp,rfl⟩)]) (fun b _=>rfl) (by rw [hg.1.rho ν];exact ht.mono hle) (by rw [htm,JQ])
   (fun i u hu hj'=>by
    rw [htm,ZS,Option.map_eq_some_iff] at hu
    obtain ⟨v,hv',rfl⟩:=hu
    by_cases hi:0+i∈asg c
    ·rw [if_pos hi] at hj';exact absurd rfl hj'
    ·rw [if_neg hi];exact hv') hlps
  have hd1:gb φ1 ds a.defers:=hd.mono hle
  have hr1:Ve φ1 rd rc:=hr.mono hle
  refine wpIn_mono (zf4 hE hF g1 hfr hM hvE' hr1 p1 p2 p3 p4 hseen hd1) ?_
  rintro e' a' w' ⟨rfl,φ',q2,q3⟩
  obtain ⟨t1,t2⟩:=zit hF g1 hvE' hall q2 (fun b kk hb hk=>zvC hb hk)
  refine ⟨rfl,φ',?_,t1,t2,q3.mono q2.ext.1,⟨q2.went.os,q2.went.tape,q2.went.output,q2.went.size,fun b hb=>q2.went.kept b (.inl hb)⟩⟩
  have e1:Ext K φ φ1 F.lo M:=(m1 F.lo).wide (Nat.le_refl _) (Nat.le_trans hF.le hM)
  have e2:Ext K φ1 φ' F.lo M:=(q2.ext.weak (fun b hb=>.inl hb)).wide (Nat.le_refl _) hM
  exact e1.comp e2
def xsJ (c:Code) (ol:List OPl):Xs:=(zE0 .normal (Vm c)).flatMap fun e=>(zf6 ol).map fun v=>(e,v)
def zDK (E:(R:Type)→EvS R) (dl:List DPl) (ol0:List OPl) (g:Nat) (rd:Option Nat) (c:Code) (tm:List SV) (ds:List Nat) (nx sp:Nat) (x0:DS dl) (H1:SH) (k:KC R):Option R:=
 match vr H1 (qB H1) with
 |ns=>match vM ns nx H1 (qB H1) with
  |lps=>match bkO (ol0++lps) (rdy (ol0++lps)) tm H1 with
   |some (y0,σ)=>bif zgA ol0&&(zwW (JR dl (ol0++lps) g c tm nx H1 ns σ) c&&(UE (idD dl++σ)&&(VM nx (nx+g) (idD dl++σ)&&zeD (JR dl (ol0++lps) g c tm nx H1 ns σ) (idD dl++σ)))) then
     zAc E (JR dl (ol0++lps) g c tm nx H1 ns σ) rd c ds (nx+g+sp) (xsJ c (ol0++lps)) (x0,y0) k
    else none
   |none=>none
def zAd (E:(R:Type)→EvS R) (pl:zW) (rd:Option Nat) (c:Code) (tm:List SV) (ds:List Nat) (H:SH) (nx sp:Nat) (k:KC R):Option R:=match pl c tm H nx with
 |some (dl,ol0,g)=>match bkD dl tm H with
  |some (x0,H1)=>zDK E dl ol0 g rd c tm ds nx sp x0 H1 k
  |none=>none
 |none=>none
theorem zDf {E:(R:Type)→EvS R} (hE:∀R,(E R).Ok P) {pl:zW} {rd:Option Nat} {c:Code} {tm:List SV} {ds:List Nat} {H:SH} {nx sp:Nat} {k:KC R} {r:R} (h:zAd E pl rd c tm ds H nx sp k=some r):∃S,QS P rd c tm ds H nx S∧k S=some r:=by
 unfold zAd at h
 split at h
 case h_2=>cases h
 rename_i dl ol0 g hpl
 split at h
 case h_2=>cases h
 rename_i x0 H1 hD
 unfold zDK at h
 dsimp only at h
 split at h
 case h_2=>cases h
 rename_i y0 σ hO
 have h6:=zA h
 clear h
 obtain ⟨hc,h⟩:=h6
 simp only [Bool.and_eq_true] at hc
 obtain ⟨c1,c2,c3,c4,c5⟩:=hc
 have hlps:∀l L,OPl.lp l L∈(ol0++vM (vr H1 (qB H1)) nx H1 (qB H1))→xG (vr H1 (qB H1)) nx L.tm=true∧L.dfr < nx∧zm H1 l=some (.loop L):=fun l L hl=>by
  rcases List.mem_append.1 hl with hl | hl
  ·exact absurd hl (VQ c1)
  ·exact Vl hl
 obtain ⟨hF,hkeep⟩:=zmN (F:=JR dl (ol0++vM (vr H1 (qB H1)) nx H1 (qB H1)) g c tm nx H1 (vr H1 (qB H1)) σ) c2 (Nat.le_add_right _ _) hlps (fun b hb=>zbC hb) (tm:=tm) rfl
 exact zDe (F:=JR dl (ol0++vM (vr H1 (qB H1)) nx H1 (qB H1)) g c tm nx H1 (vr H1 (qB H1)) σ) hE hF hkeep
  (fun b x hx=>by
   have:∃k,zm H1 b=some k:=by
    cases hk:zm H1 b with
    |none=>exact absurd hx (by show reg (zm H1 b)≠_;rw [hk];simp [reg])
    |some k=>exact ⟨k,rfl⟩
   obtain ⟨k,hk⟩:=this
   exact zbD hx (VP hk)) (Nat.le_add_right _ _) rfl hD hO c3 c4 c5 h
theorem znQ {S:Type} {B:S→Option (S ⊕ S)} {c:Code} {F:Fence} {Inv:S→Act→World→Prop} {Q:Exit→Act→World→Prop}
  (hB:∀s t,B s=some (.inl t)→t=s)
  (h:∀s s',B s=some (.inr s')→∀a w,Inv s a w→c.wpIn F 0 P (fun e a' w'=>e=.normal∧Inv s' a' w') a w) :
  ∀(N:Nat) (s x:S),zI B N s=some x→(∀a w,Inv x a w→c.wpIn F 0 P (fun e a' w'=>e≠.normal∧Q e a' w') a w)→∀a w,Inv s a w→Code.roundsIn F 0 P c Q N a w
 |0,s,x,hi,hl,a,w,hI=>by cases hi
 |N+1,s,x,hi,hl,a,w,hI=>by
  rw [YJ] at hi
  rw [roundsIn_succ]
  split at hi
  ·rename_i y hy
   cases hi
   have:=hB _ _ hy
   subst this
   refine wpIn_mono (hl a w hI) ?_
   intro e a' w' hq
   obtain ⟨he,hf⟩:=hq
   cases e<;>first | exact absurd rfl he | exact hf
  ·rename_i s' hs
   refine wpIn_mono (h s _ hs a w hI) ?_
   intro e a' w' hq
   obtain ⟨rfl,hI'⟩:=hq
   exact znQ hB h N s' x hi hl a' w' hI'
  ·cases hi
def zeE (E:(R:Type)→EvS R) (F:Frm) (rd:Option Nat) (c:Code) (ds:List Nat) (M:Nat) (s:F.S):Option (F.S ⊕ F.S):=
 zez F.ol s.2 fun y=>(E _).code rd c (F.tm s.1 y) ds (F.hp F.HR (rdy F.ol) s.1 y) F.n0 fun S=>
  bif
    zb9 .normal S.e then (bif Nat.ble S.nx M&&zmL ds S.ds then match YK F (rdy F.ol) S.tm S.H with
    |some s'=>some (.inr s')
    |none=>none
   else none) else some (.inl (s.1,y))
def zwY (E:(R:Type)→EvS R) (F:Frm) (rd:Option Nat) (c:Code) (ds:List Nat) (M:Nat) (s0:F.S) (k:KC R):Option R:=
 match zI (zeE E F rd c ds M) zQ s0 with
 |some s=>zez F.ol s.2 fun y=>(E R).code rd c (F.tm s.1 y) ds (F.hp F.HF (rdy F.ol) s.1 y) M fun S=>bif zb9 .normal S.e then none else k S
 |none=>none
theorem zub {E:(R:Type)→EvS R} (hE:∀R,(E R).Ok P) {F:Frm} {rd:Option Nat} {c:Code} {ds:List Nat} {M:Nat} {s s':F.S} (h:zeE E F rd c ds M s=some (.inr s')) :
  ∃S:XF,QS P rd c (F.tm s.1 s.2) ds (F.hp F.HR (rdy F.ol) s.1 s.2) F.n0 S∧S.nx≤M∧S.ds=ds∧YK F (rdy F.ol) S.tm S.H=some s'∧S.e=.normal:=by
 unfold zeE at h
 rw [YB] at h
 obtain ⟨S,h1,h2⟩:=(hE _).code h
 rcases yZ h2 with ⟨he,h2⟩ | ⟨he,h2⟩
 ·have h6:=zA h2
  clear h2
  obtain ⟨hq,h2⟩:=h6
  simp only [Bool.and_eq_true,Nat.ble_eq] at hq
  split at h2
  case h_2=>cases h2
  rename_i s2 hs2
  cases h2
  exact ⟨S,h1,hq.1,(ziq hq.2).symm,hs2,(zeB he).symm⟩
 ·cases h2
theorem zqq {E:(R:Type)→EvS R} (hE:∀R,(E R).Ok P) {F:Frm} {rd:Option Nat} {c:Code} {ds:List Nat} {M:Nat} {s t:F.S} (h:zeE E F rd c ds M s=some (.inl t)):t=s:=by
 unfold zeE at h
 rw [YB] at h
 obtain ⟨S,h1,h2⟩:=(hE _).code h
 rcases yZ h2 with ⟨he,h2⟩ | ⟨he,h2⟩
 ·have h6:=zA h2
  clear h2
  obtain ⟨hq,h2⟩:=h6
  split at h2<;>cases h2
 ·cases h2;rfl
theorem zDg {E:(R:Type)→EvS R} (hE:∀R,(E R).Ok P) {F:Frm} {c:Code} (hF:F.OkC c) (hkeep:∀l L,zm F.H1 l=some (.loop L)→l∈F.pn→OPl.lp l L∈F.ol) (hall:∀b x,reg (zm F.H1 b)=some x→b∈F.ns)
  {rd:Option Nat} {tm:List SV} {ds:List Nat} {H:SH} {M:Nat} {k:KC R} {r:R} {x0:DS F.dl} {y0:OS F.ol} {σ:List (Nat×Nat)} (hM:F.n0≤M) (htm:F.tm0=VO (asg c) 0 tm)
  (hD:bkD F.dl tm H=some (x0,F.H1)) (hO:bkO F.ol (rdy F.ol) tm F.H1=some (y0,σ)) (hQ:UE (idD F.dl++σ)=true) (hN:VM F.lo F.n0 (idD F.dl++σ)=true) (hR:zeD F (idD F.dl++σ)=true)
  (h:zwY E F rd c ds M (x0,y0) k=some r):∃S,zqh P rd c tm ds H F.lo S∧k S=some r:=by
 unfold zwY at h
 split at h
 case h_2=>cases h
 rename_i s hit
 rw [YB] at h
 obtain ⟨S,⟨a1,a2,a3,a4,a5⟩,h1⟩:=(hE _).code h
 clear h
 rcases yZ h1 with ⟨_,h⟩ | ⟨hne,h⟩
 ·cases h
 have hne:S.e≠.normal:=fun e=>by rw [e] at hne;cases hne
 have hg:=kU hD
 have hvE:∀ν,VN ν F.lo H→VN ν F.lo F.H1:=fun ν hv=>hg.1.vn hv
 have hst0:∀ν,VN ν F.lo F.H1→F.St1 ν (rdy F.ol) (x0,y0):=fun ν hv=>by
  obtain ⟨q1,q2,q3,q4⟩:=Gm hF.toOk hv hv hD hO hN (fun b _=>rfl)
  exact ⟨q4,q3⟩
 have hst:∀ν,VN ν F.lo F.H1→F.St1 ν (rdy F.ol) s:=fun ν hv=>by
  refine zin (B:=zeE E F rd c ds M) (I:=fun s=>F.St1 ν (rdy F.ol) s) (J:=fun x=>F.St1 ν (rdy F.ol) x) ?_ zQ (x0,y0) s hit (hst0 ν hv)
  intro s0 r0 hr0 hI
  cases r0 with
  |inl t=>rw [zqq hE hr0];exact hI
  |inr s'=>
   obtain ⟨S,s1,s2,s3,s4,s5⟩:=zub hE hr0
   exact zf3 hE hF hv s1 hI s4
 have hv0:VN (fun _=>false) F.lo F.H1:=⟨fun b n hr=>UA hr,(fun _ _=>rfl),(fun _ _=>rfl)⟩
 have hstf:=hst _ hv0
 refine ⟨S,⟨fun b z hz=>?_,wk.trans (fun l L hl=>?_) a2,⟨?_,fun i hi=>?_⟩,Nat.le_trans (Nat.le_trans hF.le hM) a4,fun ν hv=>?_⟩,h⟩
 ·have h1:reg (zm F.H1 b)=some z:=by rw [hg.1.reg b];exact hz
  refine a1 b z ?_
  rw [zlb,hstf.2 b (hall b z h1)];exact h1
 ·obtain ⟨s0,p0,h0⟩:=hg.1.lkeep l L hl
  by_cases hpn:l∈F.pn
  ·have:=hkeep l _ h0 hpn
   obtain ⟨s1,p1,h1⟩:=Frm.lp_at hF (HX:=F.HF) (vs:=rdy F.ol) (x:=s.1) (y:=s.2) this
   exact ⟨s1,p1,h1⟩
  ·have h1:l∉nmD F.dl:=fun h=>hpn (by simp [Frm.pn,h])
   have h2:l∉nmO F.ol:=fun h=>hpn (by simp [Frm.pn,h])
   refine ⟨s0,p0,?_⟩
   show zm (F.hp F.HF (rdy F.ol) s.1 s.2) l=_
   unfold Frm.hp
   rw [zP,gr h1]
   simp only
   rw [zP,Zs h2]
   simp only
   unfold Frm.HF
   rw [yQ,if_neg hpn,h0]
   rfl
 ·rw [a3.1,Frm.tm_len,htm,JQ]
 ·rw [a3.2 i hi,Frm.tm_get hF hi,htm,ZS]
  simp [hi]
 ·have hvE':=hvE ν hv
  obtain ⟨v1,o1⟩:=a5 ν (zvD hvE' hM (hst ν hvE').1)
  refine ⟨v1,(show F.lo≤S.nx from Nat.le_trans (Nat.le_trans hF.le hM) a4),zQ,fun φ w K a rc g hf ht hd hr=>?_⟩
  have hfM:yX φ F.lo M:=⟨Nat.le_trans a4 hf.1,fun b h1 h2=>hf.2 b h1 (Nat.lt_of_lt_of_le h2 a4)⟩
  obtain ⟨φ1,m1,g1⟩:=hg.2 ν φ K w g
  have hout:∀b,b < FZ→φ1 b=φ b:=fun b hb=>(m1 (b+1)).2.1 b hb (.inl (by omega))
  have hfr:yX φ1 F.lo M:=⟨hfM.1,fun b h1 h2=>by rw [hout b (by have:=hfM.1;exact Nat.lt_of_lt_of_le h2 this)];exact hfM.2 b h1 h2⟩
  have hle:=(m1 0).1
  have hsrc:∀b,b∈(idD F.dl++σ).map (·.2)→(uf ν (rho ν F.H1) F.HR).get b=none:=fun b hb=>by
   rw [List.mem_map] at hb
   obtain ⟨p,hp,rfl⟩:=hb
   unfold zeD at hR
   rw [List.all_eq_true] at hR
   have:=hR p hp
   rw [xL]
   cases hk:zm F.HR p.2 with
   |none=>rfl
   |some kk=>
    rw [hk] at this
    cases kk<;>first | rfl | cases this
  have hlps:∀l L,OPl.lp l L∈F.ol→∀L',zm F.H1 l=some (.loop L')→∃s p,L'={L with st:=s,pend:=p}:=fun l L hl L' hL'=>by
   rw [(hF.lps l L hl).2.2] at hL';cases hL'
   exact ⟨L.st,L.pend,rfl⟩
  obtain ⟨φ3,hseen⟩:=zk9 (F:=F) (K:=K) (KA:=K) (φ1:=φ1) (φ2:=φ1) (wE:=w) (ν:=ν) (M:=M) (vs:=rdy F.ol) (x:=x0) (y:=y0) (ts:=a.tmps) (HS0:=H) (HS:=F.H1) (Hs:=GU ((idD F.dl++σ).map (·.2)) (zE ν F.H1)) hF.toOk g1 hfr hM hvE'
   (Ext.refl _ _ _ _) (qw.refl _ _) g1 (zf5 g1 hsrc) hvE' hD hO hQ hN
   (fun p hp=>by rw [Gn,if_pos (List.mem_map.2 ⟨p,hp,rfl⟩)]) (fun b _=>rfl) (by rw [hg.1.rho ν];exact ht.mono hle) (by rw [htm,JQ])
   (fun i u hu hj'=>by
    rw [htm,ZS,Option.map_eq_some_iff] at hu
    obtain ⟨v,hv',rfl⟩:=hu
    by_cases hi:0+i∈asg c
    ·rw [if_pos hi] at hj';exact absurd rfl hj'
    ·rw [if_neg hi];exact hv') hlps
  have hd1:gb φ1 ds a.defers:=hd.mono hle
  have hr1:Ve φ1 rd rc:=hr.mono hle
  refine znQ (P:=P) (B:=zeE E F rd c ds M) (c:=c) (F:=fw rc)
   (Inv:=fun s a w'=>∃φ',F.Seen K φ1 w ν F.HR (rdy F.ol) s.1 s.2 φ' w' a.tmps∧gb φ1 ds a.defers)
   (fun s t hs=>zqq hE hs)
   (fun s0 s' hr0 a0 w0 hI=>by
    obtain ⟨φ',hI,hd0⟩:=hI
    obtain ⟨S,s1,s2,s3,s4,s5⟩:=zub hE hr0
    refine wpIn_mono (zf4 hE hF g1 hfr hM hvE' hr1 s1 s2 s3 s4 hI hd0) ?_
    rintro e' a' w' ⟨rfl,φ'',q1,q2⟩
    exact ⟨s5,φ'',q1,q2⟩) zQ (x0,y0) s hit ?_ a w ⟨φ3,hseen,hd1⟩
  rintro a' w' ⟨φ',q2,q3⟩
  obtain ⟨t1,t2⟩:=zit hF g1 hvE' hall q2 (fun b kk hb hk=>zvC hb hk)
  have e1:Ext K φ φ1 F.lo M:=(m1 F.lo).wide (Nat.le_refl _) (Nat.le_trans hF.le hM)
  have e2:Ext K φ1 φ' F.lo M:=(q2.ext.weak (fun b hb=>.inl hb)).wide (Nat.le_refl _) hM
  have e3:=e1.comp e2
  have hw:qw K w w':=⟨q2.went.os,q2.went.tape,q2.went.output,q2.went.size,fun b hb=>q2.went.kept b (.inl hb)⟩
  have hfr2:yX φ' M S.nx:=⟨hf.1,fun b h1 h2=>by
   rw [e3.2.1 b (by have h9:S.nx≤FZ:=hf.1;omega) (.inr h1)]
   exact hf.2 b (Nat.le_trans (Nat.le_trans hF.le hM) h1) h2⟩
  refine wpIn_mono (o1.2 φ' w' K a' rc t1 hfr2 t2 (q3.mono q2.ext.1) (hr.mono e3.1)) ?_
  intro e a2 w2 hq
  refine ⟨fun h0=>hne ?_,WE.after e3 hw (Nat.le_trans hF.le hM) a4 hq⟩
  have:=hq.1
  rw [h0] at this
  exact this.symm
def zBA (E:(R:Type)→EvS R) (dl:List DPl) (ol0:List OPl) (g:Nat) (rd:Option Nat) (c:Code) (tm:List SV) (ds:List Nat) (nx sp:Nat) (x0:DS dl) (H1:SH) (k:KC R):Option R:=
 match vr H1 (qB H1) with
 |ns=>match vM ns nx H1 (qB H1) with
  |lps=>match bkO (ol0++lps) (rdy (ol0++lps)) tm H1 with
   |some (y0,σ)=>bif zgA ol0&&(zwW (JR dl (ol0++lps) g c tm nx H1 ns σ) c&&(UE (idD dl++σ)&&(VM nx (nx+g) (idD dl++σ)&&zeD (JR dl (ol0++lps) g c tm nx H1 ns σ) (idD dl++σ)))) then
     zwY E (JR dl (ol0++lps) g c tm nx H1 ns σ) rd c ds (nx+g+sp) (x0,y0) k
    else none
   |none=>none
def zwZ (E:(R:Type)→EvS R) (pl:zW) (rd:Option Nat) (c:Code) (tm:List SV) (ds:List Nat) (H:SH) (nx sp:Nat) (k:KC R):Option R:=match pl c tm H nx with
 |some (dl,ol0,g)=>match bkD dl tm H with
  |some (x0,H1)=>zBA E dl ol0 g rd c tm ds nx sp x0 H1 k
  |none=>none
 |none=>none
theorem zBB {E:(R:Type)→EvS R} (hE:∀R,(E R).Ok P) {pl:zW} {rd:Option Nat} {c:Code} {tm:List SV} {ds:List Nat} {H:SH} {nx sp:Nat} {k:KC R} {r:R} (h:zwZ E pl rd c tm ds H nx sp k=some r):∃S,zqh P rd c tm ds H nx S∧k S=some r:=by
 unfold zwZ at h
 split at h
 case h_2=>cases h
 rename_i dl ol0 g hpl
 split at h
 case h_2=>cases h
 rename_i x0 H1 hD
 unfold zBA at h
 dsimp only at h
 split at h
 case h_2=>cases h
 rename_i y0 σ hO
 have h6:=zA h
 clear h
 obtain ⟨hc,h⟩:=h6
 simp only [Bool.and_eq_true] at hc
 obtain ⟨c1,c2,c3,c4,c5⟩:=hc
 have hlps:∀l L,OPl.lp l L∈(ol0++vM (vr H1 (qB H1)) nx H1 (qB H1))→xG (vr H1 (qB H1)) nx L.tm=true∧L.dfr < nx∧zm H1 l=some (.loop L):=fun l L hl=>by
  rcases List.mem_append.1 hl with hl | hl
  ·exact absurd hl (VQ c1)
  ·exact Vl hl
 obtain ⟨hF,hkeep⟩:=zmN (F:=JR dl (ol0++vM (vr H1 (qB H1)) nx H1 (qB H1)) g c tm nx H1 (vr H1 (qB H1)) σ) c2 (Nat.le_add_right _ _) hlps (fun b hb=>zbC hb) (tm:=tm) rfl
 exact zDg (F:=JR dl (ol0++vM (vr H1 (qB H1)) nx H1 (qB H1)) g c tm nx H1 (vr H1 (qB H1)) σ) hE hF hkeep
  (fun b x hx=>by
   have:∃k,zm H1 b=some k:=by
    cases hk:zm H1 b with
    |none=>exact absurd hx (by show reg (zm H1 b)≠_;rw [hk];simp [reg])
    |some k=>exact ⟨k,rfl⟩
   obtain ⟨k,hk⟩:=this
   exact zbD hx (VP hk)) (Nat.le_add_right _ _) rfl hD hO c3 c4 c5 h
def Vn (i:Nat) (S:XF):XF:=match S.e with
 |.exit j=>bif Nat.beq j i then {S with e:=.normal} else S
 |_=>S
theorem zw0 (ν:Nat→Bool) (i:Nat) (S:XF):zbr ν (Vn i S)=(zbr ν S).inBlock i:=by
 unfold Vn Res.inBlock
 show _=(match S.e with | .exit j=>if j=i then {zbr ν S with e:=.normal} else zbr ν S | _=>zbr ν S)
 cases hE:S.e with
 |exit j=>
  simp only
  rw [zkJ]
  by_cases h:j=i
  ·simp [h,zbr]
  ·simp [h]
 |_=>rfl
def kg (P:Program) (E:EvS R) (rd:Option Nat):Code→List SV→List Nat→SH→Nat→KC R→Option R
 |.skip,tm,ds,H,nx,k=>k ⟨.normal,tm,ds,H,nx⟩
 |.label _,tm,ds,H,nx,k=>k ⟨.normal,tm,ds,H,nx⟩
 |.exit i,tm,ds,H,nx,k=>k ⟨.exit i,tm,ds,H,nx⟩
 |.goto i,tm,ds,H,nx,k=>k ⟨.goto i,tm,ds,H,nx⟩
 |.ret,tm,ds,H,nx,k=>k ⟨.ret,tm,ds,H,nx⟩
 |.seq x y,tm,ds,H,nx,k=>bif E.jq (.seq x y) tm.length then E.join rd (.seq x y) tm ds H nx k else kg P E rd x tm ds H nx fun S=>match S.e with
  |.normal=>kg P E rd y S.tm S.ds S.H S.nx k
  |_=>k S
 |.cond c x y,tm,ds,H,nx,k=>match jy tm H c with
  |some (.bool b)=>bif b then kg P E rd x tm ds H nx k else kg P E rd y tm ds H nx k
  |_=>none
 |.block i c,tm,ds,H,nx,k=>kg P E rd c tm ds H nx fun S=>k (Vn i S)
 |.loop c,tm,ds,H,nx,k=>E.loop rd c tm ds H nx k
 |.region _ ops false,tm,ds,H,nx,k=>zwy (opX P E) ops ops.toList tm H nx fun tm' H' nx'=>k ⟨.normal,tm',ds,H',nx'⟩
 |.region _ ops true,tm,ds,H,nx,k=>zz0 P (opX P E) ops tm H nx fun tm' H' nx'=>k ⟨.normal,tm',ds,H',nx'⟩
 |.rangeFunc g ps assign body,tm,ds,H,nx,k=>zwN E rd g ps assign body tm ds H nx k
 |.scope c,tm,ds,H,nx,k=>match rd with
  |some _=>none
  |none=>kg P E none c tm ds H nx fun S=>match S.e with
   |.goto l=>match findLabel c l with
    |some rest=>E.scp c l rest S.tm S.ds S.H S.nx k
    |none=>none
   |_=>k S
 |_,_,_,_,_,_=>none
theorem QS.seq {rd:Option Nat} {x y:Code} {tm:List SV} {ds:List Nat} {H:SH} {nx:Nat} {S1 S:XF} (h1:QS P rd x tm ds H nx S1) (he:S1.e=.normal) (h2:QS P rd y S1.tm S1.ds S1.H S1.nx S):QS P rd (.seq x y) tm ds H nx S:=by
 obtain ⟨a1,a2,a3,a4,a5⟩:=h1
 obtain ⟨b1,b2,b3,b4,b5⟩:=h2
 refine ⟨a1.trans b1,a2.trans b2,a3.trans b3 (fun i hi=>by simp [asg,hi]) (fun i hi=>by simp [asg,hi]),Nat.le_trans a4 b4,fun ν hv=>?_⟩
 obtain ⟨v1,o1⟩:=a5 ν hv
 obtain ⟨v2,o2⟩:=b5 ν v1
 exact ⟨v2,zzt o1 he o2⟩
theorem zuc {c rest:Code} {l:Nat} (h:findLabel c l=some rest):∀i∈asg rest,i∈asg c:=by
 induction c generalizing rest with
 |seq a b iha ihb=>
  simp only [findLabel] at h
  cases hA:findLabel a l with
  |some r=>
   rw [hA] at h
   simp only [Option.some.injEq] at h
   subst h
   intro i hi
   simp only [asg,List.mem_append] at hi ⊢
   rcases hi with hi | hi
   ·exact .inl (iha hA i hi)
   ·exact .inr hi
  |none=>
   rw [hA] at h
   simp only [] at h
   intro i hi
   simp only [asg,List.mem_append]
   exact .inr (ihb h i hi)
 |label m=>
  simp only [findLabel] at h
  split at h
  ·cases h;intro i hi;simp [asg] at hi
  ·cases h
 |_=>simp [findLabel] at h
theorem zbF {E:EvS R} (hE:E.Ok P) (hs:vK P) {rd:Option Nat}:∀(c:Code) {tm:List SV} {ds:List Nat} {H:SH} {nx:Nat} {k:KC R} {r:R},kg P E rd c tm ds H nx k=some r→∃S,QS P rd c tm ds H nx S∧k S=some r:=by
 intro c
 induction c generalizing rd with
 |skip=>intro tm ds H nx k r h;exact ⟨_,⟨jW.refl H,wk.refl H,Zr.refl _ _,Nat.le_refl _,fun ν hv=>⟨hv,zxZ⟩⟩,h⟩
 |label l=>intro tm ds H nx k r h;exact ⟨_,⟨jW.refl H,wk.refl H,Zr.refl _ _,Nat.le_refl _,fun ν hv=>⟨hv,zvS⟩⟩,h⟩
 |exit l=>intro tm ds H nx k r h;exact ⟨_,⟨jW.refl H,wk.refl H,Zr.refl _ _,Nat.le_refl _,fun ν hv=>⟨hv,zx0⟩⟩,h⟩
 |goto l=>intro tm ds H nx k r h;exact ⟨_,⟨jW.refl H,wk.refl H,Zr.refl _ _,Nat.le_refl _,fun ν hv=>⟨hv,zx1⟩⟩,h⟩
 |ret=>intro tm ds H nx k r h;exact ⟨_,⟨jW.refl H,wk.refl H,Zr.refl _ _,Nat.le_refl _,fun ν hv=>⟨hv,zzs⟩⟩,h⟩
 |seq x y ihx ihy=>
  intro tm ds H nx k r h
  simp only [kg] at h
  rcases yZ h with ⟨_,h⟩ | ⟨_,h⟩
  ·exact hE.join h
  obtain ⟨S1,s1,h1⟩:=ihx h
  split at h1
  ·rename_i he
   obtain ⟨S,s2,h2⟩:=ihy h1
   exact ⟨S,s1.seq he s2,h2⟩
  ·rename_i he
   obtain ⟨a1,a2,a3,a4,a5⟩:=s1
   exact ⟨S1,⟨a1,a2,a3.mono (fun i hi=>by simp [asg,hi]),a4,fun ν hv=>⟨(a5 ν hv).1,zha (a5 ν hv).2 he⟩⟩,h1⟩
 |cond c x y ihx ihy=>
  intro tm ds H nx k r h
  simp only [kg] at h
  split at h
  case h_2=>cases h
  rename_i b hc
  have hc':∀ν,opv (zt (rho ν H) tm) c=some (.bool b):=fun ν=>by have:=zY hc ν;simpa only [den] using this
  rcases yZ h with ⟨rfl,h⟩ | ⟨rfl,h⟩
  ·obtain ⟨S,⟨a1,a2,a3,a4,a5⟩,h2⟩:=ihx h
   exact ⟨S,⟨a1,a2,a3.mono (fun i hi=>by simp [asg,hi]),a4,fun ν hv=>⟨(a5 ν hv).1,znF (hc' ν) (by simpa using (a5 ν hv).2)⟩⟩,h2⟩
  ·obtain ⟨S,⟨a1,a2,a3,a4,a5⟩,h2⟩:=ihy h
   exact ⟨S,⟨a1,a2,a3.mono (fun i hi=>by simp [asg,hi]),a4,fun ν hv=>⟨(a5 ν hv).1,znF (hc' ν) (by simpa using (a5 ν hv).2)⟩⟩,h2⟩
 |block i c ih=>
  intro tm ds H nx k r h
  simp only [kg] at h
  obtain ⟨S,⟨a1,a2,a3,a4,a5⟩,h2⟩:=ih h
  have e1:(Vn i S).H=S.H∧(Vn i S).tm=S.tm∧(Vn i S).nx=S.nx:=by
   unfold Vn
   split
   ·cases Nat.beq _ i<;>exact ⟨rfl,rfl,rfl⟩
   ·exact ⟨rfl,rfl,rfl⟩
  refine ⟨Vn i S,⟨by rw [e1.1];exact a1,by rw [e1.1];exact a2,by rw [e1.2.1];exact a3,by rw [e1.2.2];exact a4,fun ν hv=>⟨by rw [e1.1,e1.2.2];exact (a5 ν hv).1,?_⟩⟩,h2⟩
  rw [zw0]
  exact zvT (a5 ν hv).2
 |loop c ih=>
  intro tm ds H nx k r h
  simp only [kg] at h
  obtain ⟨S,⟨b1,b2,b3,b4,b5⟩,h2⟩:=hE.loop h
  exact ⟨S,⟨b1,b2,b3,b4,fun ν hv=>⟨(b5 ν hv).1,zx3 (b5 ν hv).2⟩⟩,h2⟩
 |region id ops draw=>
  intro tm ds H nx k r h
  cases draw with
  |false=>
   simp only [kg] at h
   obtain ⟨tm',H',nx',⟨a1,a2,a3,a4,a5⟩,h2⟩:=zsl (zBm hE hs) (j:=0) (ops:=ops) (fun i=>by simp) h
   refine ⟨⟨.normal,tm',ds,H',nx'⟩,⟨a1,a2,a3,a4,fun ν hv=>⟨(a5 ν hv).1,zuv ?_⟩⟩,h2⟩
   have:=(a5 ν hv).2
   rw [List.range_eq_range']
   simpa using this
  |true=>
   simp only [kg] at h
   obtain ⟨tm',H',nx',s1,h2⟩:=zCY (id:=id) (ds:=ds) (zBm hE hs) h
   exact ⟨_,s1,h2⟩
 |rangeFunc g ps assign body iha ihb=>
  intro tm ds H nx k r h
  simp only [kg] at h
  exact zBo hE hs h
 |scope c ih=>
  intro tm ds H nx k r h
  cases rd with
  |some l=>simp [kg] at h
  |none=>
   simp only [kg] at h
   obtain ⟨S1,⟨a1,a2,a3,a4,a5⟩,h1⟩:=ih h
   split at h1
   ·rename_i l he
    split at h1
    case h_2=>cases h1
    rename_i rest hf
    obtain ⟨S,⟨b1,b2,b3,b4,b5⟩,h2⟩:=hE.scp hf (zuc hf) h1
    refine ⟨S,⟨a1.trans b1,a2.trans b2,a3.trans b3 (fun i hi=>hi) (fun i hi=>hi),Nat.le_trans a4 b4,fun ν hv=>?_⟩,h2⟩
    obtain ⟨v1,o1⟩:=a5 ν hv
    obtain ⟨v2,o2⟩:=b5 ν v1
    exact ⟨v2,zkA (zpW o1 he hf o2)⟩
   ·rename_i he
    exact ⟨S1,⟨a1,a2,a3,a4,fun ν hv=>⟨(a5 ν hv).1,zkA (ztK (a5 ν hv).2 he)⟩⟩,h1⟩
 |refuse s=>intro tm ds H nx k r h;simp [kg] at h
def zAe (P:Program) (E:EvS R) (rd:Option Nat) (c:Code) (tm:List SV) (ds:List Nat) (H:SH) (nx:Nat) (k:KC R):Option R:=match c with
 |.seq x y=>kg P E rd x tm ds H nx fun S=>match S.e with
  |.normal=>kg P E rd y S.tm S.ds S.H S.nx k
  |_=>k S
 |c=>kg P E rd c tm ds H nx k
theorem zDh {E:EvS R} (hE:E.Ok P) (hs:vK P) {rd:Option Nat} {c:Code} {tm:List SV} {ds:List Nat} {H:SH} {nx:Nat} {k:KC R} {r:R} (h:zAe P E rd c tm ds H nx k=some r):∃S,QS P rd c tm ds H nx S∧k S=some r:=by
 unfold zAe at h
 split at h
 ·rename_i x y
  obtain ⟨S1,s1,h1⟩:=zbF hE hs _ h
  split at h1
  ·rename_i he
   obtain ⟨S,s2,h2⟩:=zbF hE hs _ h1
   exact ⟨S,s1.seq he s2,h2⟩
  ·rename_i he
   obtain ⟨a1,a2,a3,a4,a5⟩:=s1
   exact ⟨S1,⟨a1,a2,a3.mono (fun i hi=>by simp [asg,hi]),a4,fun ν hv=>⟨(a5 ν hv).1,zha (a5 ν hv).2 he⟩⟩,h1⟩
 ·exact zbF hE hs _ h
abbrev Tbl:=List (FuncId×Con)
def zAf:Tbl→FuncId→Option Con:=fun t f=>List.rec (motive:=fun _=>Option Con) none (fun x _ ih=>bif Nat.beq x.1 f then some x.2 else ih) t
def ziv (P:Program) (t:Tbl):Prop:=∀x∈t,x.2.Ok P x.1
theorem zDi {t:Tbl} (h:ziv P t) {f:FuncId} {c:Con}:zAf t f=some c→c.Ok P f:=by
 induction t with
 |nil=>intro hf;cases hf
 |cons x r ih=>
  intro hf
  have hf:(bif Nat.beq x.1 f then some x.2 else zAf r f)=some c:=hf
  cases hb:Nat.beq x.1 f with
  |true=>
   rw [hb] at hf
   cases hf
   have:=Nat.eq_of_beq_eq_true hb
   subst this
   exact h x (by simp)
  |false=>
   rw [hb] at hf
   exact ih (fun y hy=>h y (List.mem_cons_of_mem _ hy)) hf
def zDL:Nat→Nat
 |0=>4096
 |n+1=>16*zDL n
def zw1 (P:Program) (t:Tbl) (pl:zW) (jq:Code→Nat→Bool) (sp:Nat) (E:(R:Type)→EvS R) (R:Type):EvS R where
 call:=fun f args H nx k=>match zAf t f with
  |some c=>zC1 c args H nx k
  |none=>zvB P (E R) f args H nx k
 code:=fun rd c tm ds H nx k=>kg P (E R) rd c tm ds H nx k
 loop:=fun rd c tm ds H nx k=>match pl c tm H nx with
  |some _=>bif jq (.scope (.loop c)) tm.length then zwZ E pl rd c tm ds H nx sp k else zmM (zb9 .normal) (fun _=>true) E pl rd c tm ds H nx sp k
  |none=>kg P (E R) rd c tm ds H nx fun S=>match S.e with
   |.normal=>(E R).loop rd c S.tm S.ds S.H S.nx k
   |_=>k S
 scp:=fun c l x tm ds H nx k=>match pl x tm H nx with
  |some _=>zmM (fun e=>zb9 e (.goto l)) zmO E pl none x tm ds H nx sp k
  |none=>kg P (E R) none x tm ds H nx fun S=>match S.e with
   |.goto l=>match findLabel c l with
    |some rest=>(E R).scp c l rest S.tm S.ds S.H S.nx k
    |none=>none
   |_=>k S
 join:=fun rd c tm ds H nx k=>zAd E pl rd c tm ds H nx sp k
 code0:=fun rd c tm ds H nx k=>zAe P (E R) rd c tm ds H nx k
 jq:=jq
theorem zEu {t:Tbl} (ht:ziv P t) {pl:zW} {jq:Code→Nat→Bool} {sp:Nat} {E:(R:Type)→EvS R} (hE:∀R,(E R).Ok P) (hs:vK P) (R:Type):(zw1 P t pl jq sp E R).Ok P:=by
 refine ⟨fun {f args H nx k r} h=>?_,fun h=>zbF (hE R) hs _ h,fun {rd c tm ds H nx k r} h=>?_,fun {c l0 x tm ds H nx k r} hl0 hx h=>?_,fun h=>zDf hE h,fun h=>zDh (hE R) hs h⟩
 ·simp only [zw1] at h
  split at h
  ·rename_i c hc;exact zEq (zDi ht hc) h
  ·exact zwQ (hE R) h
 ·simp only [zw1] at h
  split at h
  ·rcases yZ h with ⟨_,h⟩ | ⟨_,h⟩
   ·exact zBB hE h
   ·exact zDd (fun e=>⟨fun h=>(zeB h).symm,fun h=>by subst h;rfl⟩) hE h
  ·obtain ⟨S1,⟨a1,a2,a3,a4,a5⟩,h1⟩:=zbF (hE R) hs _ h
   split at h1
   ·rename_i he
    obtain ⟨S,⟨b1,b2,b3,b4,b5⟩,h2⟩:=(hE R).loop h1
    refine ⟨S,⟨a1.trans b1,a2.trans b2,a3.trans b3 (fun i hi=>hi) (fun i hi=>hi),Nat.le_trans a4 b4,fun ν hv=>?_⟩,h2⟩
    obtain ⟨v1,o1⟩:=a5 ν hv
    obtain ⟨v2,o2⟩:=b5 ν v1
    exact ⟨v2,zx2 o1 he o2⟩
   ·rename_i he
    exact ⟨S1,⟨a1,a2,a3,a4,fun ν hv=>⟨(a5 ν hv).1,zzu (a5 ν hv).2 he⟩⟩,h1⟩
 ·simp only [zw1] at h
  split at h
  ·exact zBy (fun e h=>zeB h) hE hl0 hx h
  ·obtain ⟨S1,⟨a1,a2,a3,a4,a5⟩,h1⟩:=zbF (hE R) hs _ h
   split at h1
   ·rename_i l he
    split at h1
    case h_2=>cases h1
    rename_i rest hf
    obtain ⟨S,⟨b1,b2,b3,b4,b5⟩,h2⟩:=(hE R).scp hf (zuc hf) h1
    refine ⟨S,⟨a1.trans b1,a2.trans b2,a3.trans b3 hx (fun i hi=>hi),Nat.le_trans a4 b4,fun ν hv=>?_⟩,h2⟩
    obtain ⟨v1,o1⟩:=a5 ν hv
    obtain ⟨v2,o2⟩:=b5 ν v1
    exact ⟨v2,zpW o1 he hf o2⟩
   ·rename_i he
    exact ⟨S1,⟨a1,a2,a3.mono hx,a4,fun ν hv=>⟨(a5 ν hv).1,ztK (a5 ν hv).2 he⟩⟩,h1⟩
def evS (P:Program) (t:Tbl) (pl:zW) (jq:Code→Nat→Bool):Nat→(R:Type)→EvS R
 |0=>fun _=>⟨fun _ _ _ _ _=>none,fun _ _ _ _ _ _ _=>none,fun _ _ _ _ _ _ _=>none,fun _ _ _ _ _ _ _ _=>none,fun _ _ _ _ _ _ _=>none,fun _ _ _ _ _ _ _=>none,fun _ _=>false⟩
 |n+1=>fun R=>zw1 P t pl jq (zDL n) (evS P t pl jq n) R
theorem zBC {t:Tbl} (ht:ziv P t) {pl:zW} {jq:Code→Nat→Bool} (hs:vK P):∀n R,(evS P t pl jq n R).Ok P
 |0,R=>⟨(fun h=>by cases h),(fun h=>by cases h),(fun h=>by cases h),(fun _ _ h=>by cases h),(fun h=>by cases h),(fun h=>by cases h)⟩
 |n+1,R=>zEu ht (zBC ht hs n) hs R
def KH:Code→Option Nat
 |.region i _ _=>some i
 |.seq a b=>match KH a with
  |some i=>some i
  |none=>KH b
 |.cond _ a b=>match KH a with
  |some i=>some i
  |none=>KH b
 |.block _ c=>KH c
 |.loop c=>KH c
 |.scope c=>KH c
 |_=>none
def zE2 (P:Program) (f:FuncId):Bool:=match zvI P f with
 |some fn=>fn.body.isSome
 |none=>false
def zoC (b:List VT) (v:SV):List SV:=match b with
 |[_]=>[v]
 |_=>match v with
  |.tup vs=>vs
  |_=>[.junk]
def sF (P:Program) (t:Tbl) (pl:zW) (jq:Code→Nat→Bool) (n:Nat) (f:FuncId) (a b:List VT) (x:T (zp a)):Option (T (zp b)):=
 zvB P (evS P t pl jq n (T (zp b))) f (wq a x) [] 0 fun v H nx=>bif Nat.ble nx FZ then match Vi b (zoC b v) H with
  |some (y,_)=>some y
  |none=>none
  else none
theorem zE3:∀{b:List VT} {v:SV} {H H':SH} {y:T (zp b)},Vi b (zoC b v) H=some (y,H')→
  ∀(ν:Nat→Bool) (G:SH) (φ:Ren) v',zr φ (den (rho ν G) v) v'→∃us,zw φ (zt (rho ν G) (zoC b v)) us∧∀φ0 ws,zw φ0 ws us→ws.length=b.length→zr φ0 (WG ws) v'
 |[],v,H,H',y,h=>by
  intro ν G φ v' hv
  cases v with
  |tup vs=>
   simp only [den] at hv
   obtain ⟨ys,rfl,hl⟩:=hv.tuple_inv
   refine ⟨ys.toList,by simpa [zoC] using hl,fun φ0 ws hw hlen=>?_⟩
   have:ws=[]:=List.length_eq_zero_iff.1 hlen
   subst this
   exact .tuple' (by simpa using hw)
  |_=>simp [zoC,Vi] at h
 |[a],v,H,H',y,h=>by
  intro ν G φ v' hv
  refine ⟨[v'],⟨hv,trivial⟩,fun φ0 ws hw hlen=>?_⟩
  match ws,hw with
  |[x],hw=>exact hw.1
 |a::b::r,v,H,H',y,h=>by
  intro ν G φ v' hv
  cases v with
  |tup vs=>
   simp only [den] at hv
   obtain ⟨ys,rfl,hl⟩:=hv.tuple_inv
   refine ⟨ys.toList,by simpa [zoC] using hl,fun φ0 ws hw hlen=>?_⟩
   have:WG ws=.tuple ws.toArray:=by
    match ws,hlen with
    |[],hlen=>simp at hlen
    |[x],hlen=>simp at hlen
    |_::_::_,_=>rfl
   rw [this]
   exact .tuple' (by simpa using hw)
  |_=>
   simp only [zoC,Vi] at h
   split at h<;>cases h
theorem zqr:∀(l:List VT) (x:T (zp l)),(wq l x).length=l.length
 |[],_=>rfl
 |a::r,x=>by simp [wq,zqr r x.2]
theorem zx {t:Tbl} (ht:ziv P t) (hs:vK P) {pl:zW} {jq:Code→Nat→Bool} {n:Nat} {f:FuncId} (hf:zE2 P f=true) {a b:List VT}:Con.Ok P f ⟨a,b,sF P t pl jq n f a b⟩:=by
 refine ⟨?_,fun x y h=>?_⟩
 ·unfold zE2 at hf
  split at hf
  ·rename_i fn h;rw [zyC] at h;exact ⟨fn,h,hf⟩
  ·cases hf
 ·dsimp only at x y h ⊢
  unfold sF at h
  obtain ⟨v,H',nx',⟨_,a1,a2,a3,a4⟩,h1⟩:=zwQ (zBC ht hs n _) h
  have h6:=zA h1
  clear h1
  obtain ⟨hz,h1⟩:=h6
  have hz:=Nat.le_of_ble_eq_true hz
  split at h1
  case h_2=>cases h1
  rename_i y' H2 hcv
  cases h1
  obtain ⟨hg,hr⟩:=zk4 hcv
  let ν:Nat→Bool:=fun _=>false
  have hv0:VN ν 0 []:=⟨(fun b n hb=>UA hb),(fun b _=>rfl),(fun b hb=>by cases hb)⟩
  obtain ⟨v1,o1⟩:=a4 ν hv0
  refine ⟨zE ν H2,nx',hz,a3,fun φ w K us g hfr hl=>?_⟩
  refine Calls.mono (o1.2 φ w K us g hfr (by rw [zoA a x (rho ν []) (fun _=>bad)];exact hl)) ?_
  rintro e w' ⟨v',φ',rfl,x1,x2,x3,x4⟩
  obtain ⟨φ2,e1,g2⟩:=hg.2 ν φ' K w' x3
  obtain ⟨us',hu1,hu2⟩:=zE3 hcv ν H' φ' v' x1
  have hl2:=hr ν H2 (GLe.refl _) φ2 K w' nx' us' g2 (hg.1.vn v1) (hu1.mono (e1 0).1) (fun _=>bad)
  refine ⟨v',φ2,rfl,?_,x2.trans (e1 nx') a3 (Nat.le_refl _),g2,x4⟩
  rw [zbw]
  exact hu2 φ2 _ hl2 (by rw [wa,zqr])
end Go.Fz.Sy
namespace Go.Fz.Sy
def zDj:List SV→Option Ty
 |[]=>some .unit
 |v
   ::r=>match (match v with
   |.bool _=>some .bool
   |.int k _=>some (.int k)
   |.str _=>some .str
   |.lst t _ _=>some (.list t)
   |_=>none),zDj r with
  |some a,some b=>some (match r with
   |[]=>a
   |_=>.pair a b)
  |_,_=>none
def WL:Ty→List Ty
 |.unit=>[]
 |.pair a b=>WL a++WL b
 |t=>[t]
def zFt:SV→Ty→Bool
 |.bool _,.bool=>true
 |.int k _,.int k'=>Wd k k'
 |.str _,.str=>true
 |.lst _ _ _,.list _=>true
 |.nils,.list _=>true
 |.own _,.list _=>true
 |_,_=>false
def lstTy:SV→Option Ty
 |.lst t _ _=>some t
 |_=>none
def tyQ:Ty→Ty→Bool
 |.unit,.unit=>true
 |.bool,.bool=>true
 |.int k,.int k'=>Wd k k'
 |.str,.str=>true
 |.list a,.list b=>tyQ a b
 |.pair a b,.pair c d=>tyQ a c&&tyQ b d
 |_,_=>false
def zw2:List SV→List Ty→Bool
 |[],[]=>true
 |v::r,t::s=>(zFt v t&&(match v,t with
  |.lst a _ _,.list b=>tyQ a b
  |_,_=>true))&&zw2 r s
 |_,_=>false
structure zlc where
 ty:Ty
 fl:List Ty
 gs:List Nat:=[]
def zDM (cands:List zlc) (cs:List SV):Option zlc:=match cands with
 |[]=>none
 |h::r=>bif zw2 cs h.fl then some h else zDM r cs
def zFu (gs:List Nat) (lo hi:Nat):Bool:=gs.any fun g=>Nat.ble lo g&&Nat.blt g hi
def zw3 (H:SH) (cs:List SV) (gs:List Nat):Ty→Nat→Nat→List CK×Nat
 |.pair a b,i,c=>bif zFu gs i (i+sz (.pair a b)) then match zw3 H cs gs a i c with
   |(k1,c1)=>match zw3 H cs gs b (i+sz a) c1 with
    |(k2,c2)=>(k1++k2,c2)
  else ([.d (.pair a b)],c)
 |.list e,i,c=>bif yP gs i then (match gl cs i with
   |some (.own b)=>match zm H b with
    |some (.arr nn _ _)=>([.o c nn e],c+1)
    |_=>([.d (.list e)],c)
   |some .nils=>([.o c false e],c+1)
   |_=>([.d (.list e)],c))
  else ([.d (.list e)],c)
 |t,_,c=>([.d t],c)
def zBD (cands:List zlc) (cs:List SV):Option Ty:=match cands with
 |[]=>zDj cs
 |h::r=>bif zw2 cs h.fl then some h.ty else zBD r cs
def zFG (cands:List zlc):SV→Option VT
 |.bool _=>some ⟨false,.bool⟩
 |.int k _=>some ⟨false,.int k⟩
 |.str _=>some ⟨false,.str⟩
 |.lst t _ _=>some ⟨false,.list t⟩
 |.agg cs=>match zBD cands cs with
  |some t=>some ⟨true,t⟩
  |none=>none
 |_=>none
def ziw:List Nat→List Nat
 |[]=>[]
 |a::r=>bif yP r a then ziw r else a::ziw r
def Jg:Operand→List Nat
 |.tmp t=>[t]
 |_=>[]
def zvE:Nat:=1000000
def zE4 (l:List Nat):List Nat:=l.map (·+zvE)
def zE5 (i:Nat):Nat:=bif Nat.ble zvE i then i - zvE else i
def zAg (W:List Nat) (d:Nat) (l:List Nat):List Nat:=bif yP W d then l++W else bif yP W (d+zvE) then zE4 l++W else W
def wOp (pf:List Nat) (W:List Nat) (o:Oper):List Nat:=
 match o.op with
 |.store _ a _=>Jg a++W
 |.lookup _ m _ _=>Jg m++W
 |.mapUpdate _ m _ _=>Jg m++W
 |.insert _ m _ _=>Jg m++W
 |.call c=>match c.callee with
  |.value (.func f)=>bif yP pf f then zE4 (c.args.toList.flatMap Jg)++W else c.args.toList.flatMap Jg++W
  |.value f=>Jg f++(c.args.toList.flatMap Jg++W)
  |.builtin .copy=>c.args.toList.flatMap Jg++W
  |.builtin .append=>match o.dst with
   |some d=>c.args.toList.flatMap Jg++W
   |none=>W
  |_=>W
 |.fieldAddr _ x _=>match o.dst with
  |some d=>bif yP W d then Jg x++W else W
  |none=>W
 |.indexAddr _ x _=>match o.dst with
  |some d=>bif yP W d then Jg x++W else W
  |none=>W
 |.load _ x=>match o.dst with
  |some d=>bif yP W d then Jg x++W else W
  |none=>W
 |.move x=>match o.dst with
  |some d=>zAg W d (Jg x)
  |none=>W
 |.nilCheck x=>match o.dst with
  |some d=>bif yP W d then Jg x++W else W
  |none=>W
 |.pick _ x y=>match o.dst with
  |some d=>zAg W d (Jg x++Jg y)
  |none=>W
 |.assign x=>match o.dst with
  |some d=>zAg W d (Jg x)
  |none=>W
 |_=>W
def zE6 (pf:List Nat):List Oper→List Nat→List Nat
 |[],W=>W
 |o::r,W=>wOp pf (zE6 pf r W) o
def VR (pf:List Nat):Code→List Nat→List Nat
 |.region _ ops _,W=>zE6 pf ops.toList W
 |.seq a b,W=>VR pf a (VR pf b W)
 |.cond _ a b,W=>VR pf a (VR pf b W)
 |.block _ c,W=>VR pf c W
 |.loop c,W=>VR pf c W
 |.scope c,W=>VR pf c W
 |.rangeFunc g _ a b,W=>Jg g++VR pf a (VR pf b W)
 |_,W=>W
mutual
def zDN:SV→List Nat
 |.ptr b _=>[b]
 |.own b=>[b]
 |.mp b=>[b]
 |.slv b _=>[b]
 |.agg cs=>zmP cs
 |.fn _ fs cs=>zmP fs++zmP cs
 |_=>[]
def zmP:List SV→List Nat
 |[]=>[]
 |v::r=>zDN v++zmP r
end
def zAh (tm:List SV):List Nat→List Nat
 |[]=>[]
 |i::r=>(match gl tm (zE5 i) with
  |some v=>zDN v
  |none=>[])++zAh tm r
def reachS (H:SH):Nat→List Nat→List Nat
 |0,l=>ziw l
 |n+1,l=>match ziw l with
  |l=>reachS H n (l++l.flatMap fun b=>match zm H b with
   |some (.vars cs)=>zmP cs
   |some (.ro cs)=>zmP cs
   |_=>[])
def zDO (pf:List Nat) (H:SH):List Nat→List Nat
 |[]=>[]
 |l::r=>(match zm H l with
  |some (.loop L)=>zAh L.tm (ziw (VR pf L.assign (VR pf L.body [])))
  |_=>[])++zDO pf H r
structure zoD where
 rid:Nat
 ntm:Nat
 tmp:Option Nat
 ty:Ty
 own:Bool:=true
def zoE (rid ntm:Nat) (i:Option Nat):List zoD→Option zoD
 |[]=>none
 |h::r=>bif Nat.beq h.rid rid&&(Nat.beq h.ntm ntm&&(match h.tmp,i with
  |some a,some b=>Nat.beq a b
  |none,none=>true
  |_,_=>false)) then some h else zoE rid ntm i r
def zAi (rid ntm:Nat):List (Nat×Nat)→Bool
 |[]=>false
 |p::r=>bif Nat.beq p.1 rid&&Nat.beq p.2 ntm then true else zAi rid ntm r
def zBE (cands:List zlc) (ns:List zoD) (rid:Nat) (tm:List SV) (H:SH) (nx:Nat):List Nat→List DPl×List OPl×Nat
 |[]=>([],[],0)
 |i::r=>match zBE cands ns rid tm H nx r with
  |(dl,ol,g)=>match gl tm i with
   |some (.own b)=>match zm H b with
    |some (.arr nn t _)=>match zoE rid tm.length (some i) ns with
     |some ⟨_,_,_,_,false⟩=>(.tmp i ⟨false,.list t⟩::dl,ol,g)
     |_=>(dl,.otmp i (nx+g) nn t::ol,g+1)
    |some (.fro _ t _)=>(.tmp i ⟨false,.list t⟩::dl,ol,g)
    |_=>(dl,ol,g)
   |some .nils=>match zoE rid tm.length (some i) ns with
    |some h=>bif h.own then (dl,.otmp i (nx+g) false h.ty::ol,g+1) else (.tmp i ⟨false,.list h.ty⟩::dl,ol,g)
    |none=>(dl,ol,g)
   |some .nilp=>match zoE rid tm.length (some i) ns with
    |some _=>(.npt i::dl,ol,g)
    |none=>(dl,ol,g)
   |some v=>match zFG cands v with
    |some vt=>(.tmp i vt::dl,ol,g)
    |none=>(dl,ol,g)
   |none=>(dl,ol,g)
abbrev GrT:=Nat×Nat×Nat×List Nat
def grT (rid ntm d:Nat):List GrT→List Nat
 |[]=>[]
 |h::r=>bif Nat.beq h.1 rid&&(Nat.beq h.2.1 ntm&&Nat.beq h.2.2.1 d) then h.2.2.2 else grT rid ntm d r
def zvF (b:Nat):List SV→Nat→Option Nat
 |[],_=>none
 |v::r,i=>match v with
  |.ptr c o=>bif Nat.beq c b&&Nat.beq o 0 then some i else zvF b r (i+1)
  |_=>zvF b r (i+1)
def zE7 (ns:List zoD) (rid:Nat) (tm:List SV) (b:Nat):Option zoD:=match zvF b tm 0 with
 |some d=>match zoE rid tm.length (some d) ns with
  |some h=>some h
  |none=>zoE rid tm.length none ns
 |none=>zoE rid tm.length none ns
def zBF (cands:List zlc) (ns:List zoD) (gt:List GrT) (rid:Nat) (tm:List SV) (H:SH) (nx:Nat) (own:List Nat):List Nat→List DPl×List OPl×Nat→List DPl×List OPl×Nat
 |[],x=>x
 |b::r,x=>match zBF cands ns gt rid tm H nx own r x with
  |(dl,ol,g)=>match zm H b with
   |some (.vars [.own c])=>match zm H c with
    |some (.arr nn t _)=>match zE7 ns rid tm b with
     |some ⟨_,_,some _,_,false⟩=>(.blk b (.list t)::dl,ol,g)
     |_=>(dl,.sblk b [.o (nx+g) nn t]::ol,g+1)
    |some (.fro _ t _)=>(.blk b (.list t)::dl,ol,g)
    |_=>(dl,ol,g)
   |some (.vars [.nils])=>match zE7 ns rid tm b with
    |some h=>bif h.own then (dl,.sblk b [.o (nx+g) false h.ty]::ol,g+1) else (.blk b (.list h.ty)::dl,ol,g)
    |none=>(dl,ol,g)
   |some (.vars cs)=>match zDM cands cs with
    |some h=>match zw3 H cs (match zvF b tm 0 with
      |some d=>grT rid tm.length d gt
      |none=>h.gs) h.ty 0 (nx+g) with
     |(ks,c')=>bif ks.all (fun k=>match k with
       |.d _=>true
       |.o _ _ _=>false) then (.blk b h.ty::dl,ol,g) else (.frz b ks::dl,.sblk b ks::ol,c' - nx)
    |none=>match zDj cs with
     |some t=>(.blk b t::dl,ol,g)
     |none=>(dl,ol,g)
   |some (.arr nn t _)=>bif yP own b then (dl,ol,g) else (dl,.arr b nn t::ol,g)
   |some (.mpb k ag t _)=>(dl,.mpl b k ag t::ol,g)
   |_=>(dl,ol,g)
def zAj:List SV→List Nat
 |[]=>[]
 |.own c::r=>c::zAj r
 |_::r=>zAj r
def zw4 (tm:List SV) (H:SH) (bs:List Nat):List Nat→List Nat
 |[]=>bs.flatMap fun b=>match zm H b with
  |some (.vars cs)=>zAj cs
  |_=>[]
 |i::r=>match gl tm i with
  |some (.own b)=>b::zw4 tm H bs r
  |_=>zw4 tm H bs r
def zFH (l:List Operand):List Nat:=l.flatMap Jg
def zhm (D:List Nat):List Nat→List Nat
 |[]=>[]
 |a::r=>bif yP D a then zhm D r else a::zhm D r
def zAk (D:List Nat):List Nat→List Nat
 |[]=>[]
 |a::r=>bif yP D a then a::zAk D r else zAk D r
def zDP:List Oper→List Nat→List Nat×List Nat
 |[],D=>([],D)
 |o::r,D=>match zDP r (o.dst.toList++D) with
  |(us,D')=>(zhm D (zFH o.op.operands.toList)++us,D')
def lvC:Code→List Nat→List Nat×List Nat
 |.region _ ops _,D=>zDP ops.toList D
 |.seq a b,D=>match lvC a D with
  |(ra,Da)=>match lvC b Da with
   |(rb,Db)=>(ra++rb,Db)
 |.cond c a b,D=>match lvC a D with
  |(ra,Da)=>match lvC b D with
   |(rb,Db)=>(zhm D (Jg c)++(ra++rb),zAk Da Db)
 |.block _ c,D=>lvC c D
 |.loop c,D=>lvC c D
 |.scope c,D=>lvC c D
 |.rangeFunc g _ a b,D=>match lvC a D with
  |(ra,Da)=>match lvC b Da with
   |(rb,_)=>(zhm D (Jg g)++(ra++rb),D)
 |_,D=>([],D)
def zw5:List Oper→List Nat
 |[]=>[]
 |o::r=>match o.op with
  |.assign _=>o.dst.toList++zw5 r
  |_=>zw5 r
def zld:Code→List Nat
 |.region _ ops _=>zw5 ops.toList
 |.seq a b=>zld a++zld b
 |.cond _ a b=>zld a++zld b
 |.block _ c=>zld c
 |.loop c=>zld c
 |.scope c=>zld c
 |_=>[]
def zcs:Code→Bool
 |.region _ ops _=>ops.toList.any fun o=>match o.op with
  |.call {callee:=.value _,..}=>true
  |_=>false
 |.seq a b=>zcs a||zcs b
 |.cond _ a b=>zcs a||zcs b
 |.block _ c=>zcs c
 |.loop c=>zcs c
 |.scope c=>zcs c
 |.rangeFunc _ _ _ _=>true
 |_=>false
def zE8 (tm:List SV):List Nat→Bool
 |[]=>false
 |i::r=>(match gl tm i with
  |some (.slv _ _)=>true
  |_=>false)||zE8 tm r
def zN (cands:List zlc) (un:List (Nat×Nat)) (ns:List zoD) (gt:List GrT:=[]) (pf:List Nat:=[]):zW:=fun c tm H nx=>match KH c with
 |some rid=>bif zAi rid tm.length un||zE8 tm (lvC c []).1 then none else
  match zAk (zld c++(lvC c []).1) (ziw (asg c)) with
  |aq=>match reachS H 3 (zAh tm (ziw (VR pf c (VR pf c [])))++(bif zcs c then zDO pf H (qB H) else [])) with
   |bs=>some (zBF cands ns gt rid tm H nx (zw4 tm H bs aq) bs (zBE cands ns rid tm H nx aq))
 |none=>none
def KI (i:Nat):Code→Bool
 |.exit j=>Nat.beq i j
 |.seq a b=>KI i a||KI i b
 |.cond _ a b=>KI i a||KI i b
 |.block _ c=>KI i c
 |.loop c=>KI i c
 |.scope c=>KI i c
 |.rangeFunc _ _ a b=>KI i a||KI i b
 |_=>false
def zix:Code→Bool
 |.ret=>false
 |.exit _=>false
 |.goto _=>false
 |.seq a b=>zix a&&zix b
 |.cond _ a b=>zix a||zix b
 |.block i c=>zix c||KI i c
 |.loop _=>false
 |_=>true
def zE9 (ops:Array Oper):Bool:=ops.toList.any fun o=>o.guard.isSome
def zvG:Code→Bool
 |.skip=>true
 |.exit _=>true
 |.ret=>true
 |.goto _=>true
 |_=>false
def zDQ (g:Bool):Code→Bool
 |.cond _ a b=>(zix a&&(zix b&&!(zvG a&&zvG b)))||(g&&((zix a||zix b)&&!(zvG a&&zvG b)))
 |.seq (.region _ ops _) (.cond c a b)=>zDQ (g||zE9 ops) (.cond c a b)
 |_=>false
def zM (ex:List (Nat×Nat)) (re:List (Nat×Nat):=[]) (c:Code) (ntm:Nat):Bool:=match c with
 |.scope (.loop b)=>(match KH b with
  |some rid=>zAi rid ntm re
  |none=>false)
 |_=>bif zDQ false c then (match KH c with
 |some rid=>!zAi rid ntm ex
 |none=>false) else false
end Go.Fz.Sy
namespace Go.Fz.Sy
variable {P:Program} {w:World}
open Go.RowKit Go.ChangeShapes Go.WideShapes
def alT:Ty→Nat
 |.unit=>1
 |.bool=>1
 |.int k=>k.bits / 8
 |.str=>8
 |.list _=>8
 |.pair a b=>max (alT a) (alT b)
def upT (o a:Nat):Nat:=(o+a - 1) / a*a
def zDk:Ty→Nat→Nat
 |.unit,o=>o
 |.bool,o=>o+1
 |.int k,o=>upT o (k.bits / 8)+k.bits / 8
 |.str,o=>upT o 8+16
 |.list _,o=>upT o 8+24
 |.pair a b,o=>zDk b (zDk a o)
def bsT (y:Ty):Nat:=upT (zDk y 0) (alT y)
def wfT:(t:Ty)→T t→Prop
 |.unit,_=>True
 |.bool,_=>True
 |.int k,n=>k.min≤n∧n≤k.max
 |.str,s=>s.size≤maxLen
 |.list t,l=>(List.length (α:=T t) l≤maxLen∧List.length (α:=T t) l*bsT t≤reachBytes)∧∀x:T t,List.Mem x l→wfT t x
 |.pair a b,x=>wfT a x.1∧wfT b x.2
def YL (ft:TypeId→Ty→Bool) (cz:TypeId→Nat):List Field→Nat→Ty→Bool
 |[],_,.unit=>true
 |[f],off,y=>Nat.beq f.offset off&&(ft f.type y&&Nat.beq (sz y) (cz f.type))
 |f::g::fs,off,.pair a b=>Nat.beq f.offset off&&(ft f.type a&&(Nat.beq (sz a) (cz f.type)&&YL ft cz (g::fs) (off+sz a) b))
 |_,_,_=>false
def YM (ft:Ty→Bool) (cz:Nat):Nat→Ty→Bool
 |0,.unit=>true
 |1,y=>ft y&&Nat.beq (sz y) cz
 |n+2,.pair a b=>ft a&&(Nat.beq (sz a) cz&&YM ft cz (n+1) b)
 |_,_=>false
def zoF (P:Program):Nat→TypeId→Ty→Bool
 |0,_,_=>false
 |n+1,t,y=>match P.underlying t,y with
  |some .bool,.bool=>true
  |some (.int k),.int k'=>decide (k=k')
  |some .string,.str=>true
  |some (.slice e),.list y=>zoF P n e y&&(Nat.blt 0 (sz y)&&(Nat.beq (sz y) (P.cellsOf e)&&Nat.ble (bsT y) (P.bytesOf e)))
  |some (.struct fs),y=>YL (zoF P n) P.cellsOf fs.toList 0 y&&Nat.beq (sz y) (P.cellsOf t)
  |some (.array m e),y=>YM (zoF P n e) (P.cellsOf e) m y&&Nat.beq (sz y) (P.cellsOf t)
  |_,_=>false
def vu (w:World):Ren:=fun n=>if FZ≤n then match w.heap[n - FZ]? with
 |some (.cells a _ _)=>some ⟨n - FZ,0,0,a⟩
 |_=>none else none
theorem zyc {b:Nat} {a:Array Value} {el:TypeId} {fr:Nat×Nat} (h:w.heap[b]?=some (.cells a el fr)):vu w (FZ+b)=some ⟨b,0,0,a⟩:=by
 have h1:FZ≤FZ+b:=by omega
 have h2:FZ+b - FZ=b:=by omega
 simp only [vu,h1,if_true,h2,h]
theorem zAl (w:World):zF (vu w) [] (fun c=>c < w.heap.size) w:=by
 refine ⟨fun b k h=>by simp [Hp.get_nil] at h,fun b c k k' L L' h=>by simp [Hp.get_nil] at h,fun b k L h=>by simp [Hp.get_nil] at h,fun c hc=>hc,fun b L hL=>?_,fun b k L c M h=>by simp [Hp.get_nil] at h⟩
 have h1:FZ≤FZ+b:=by omega
 have h2:FZ+b - FZ=b:=by omega
 simp only [vu,h1,if_true,h2] at hL
 split at hL
 ·rename_i a el fr ha
  cases hL
  exact ⟨rfl,rfl,a,el,fr,ha,fun j u h=>h⟩
 ·cases hL
theorem zyd (w:World) {n m:Nat} (hm:m≤FZ):yX (vu w) n m:=⟨hm,fun b h1 h2=>by
 have:¬FZ≤b:=by omega
 simp only [vu,this,if_false]⟩
theorem zAm {f:FuncId} {args:List Value} {H':Hp} {n':Nat} (hz:n'≤FZ) (hm:Qj P f args [] 0 (.bool true) H' n') {us:List Value} (hl:zw (vu w) args us) :
  Calls P f us.toArray w fun e w'=>e=.returned (.bool true)∧Below w.heap.size w w':=by
 refine Calls.mono (hm.2 (vu w) w (fun c=>c < w.heap.size) us (zAl w) (zyd w hz) hl) ?_
 rintro e w' ⟨v',φ',rfl,x1,x2,x3,x4⟩
 cases x1
 exact ⟨rfl,zuw x4⟩
section
variable {H:Type} {enc:TypeId×Value→H} {base:Nat} {spare:Nat→Bool} {held:Bool}
theorem zoG {φ:Ren}:∀{a b x y:List Value},zw φ a x→zw φ b y→zw φ (a++b) (x++y)
 |[],_,[],_,_,h=>h
 |_::_,_,_::_,_,h,k=>⟨h.1,zoG h.2 k⟩
 |[],_,_::_,_,h,_=>h.elim
 |_::_,_,[],_,h,_=>h.elim
theorem zud {α:Type} {Φ:Nat→α→Prop}:∀(n:Nat),(∀i,i < n→∃q,Φ i q)→∃l:List α,l.length=n∧∀i q,l[i]?=some q→Φ i q
 |0,_=>⟨[],rfl,fun i q h=>by simp at h⟩
 |n+1,h=>by
  obtain ⟨l,hl,hq⟩:=zud n fun i hi=>h i (by omega)
  obtain ⟨q,hn⟩:=h n (by omega)
  refine ⟨l++[q],by simp [hl],fun i q' hi=>?_⟩
  by_cases hlt:i < l.length
  ·rw [List.getElem?_append_left hlt] at hi;exact hq i q' hi
  ·rw [List.getElem?_append_right (by omega)] at hi
   have:i - l.length=0:=by
    have:=(List.getElem?_eq_some_iff.1 hi).1
    simp at this;omega
   rw [this] at hi
   simp at hi
   subst hi
   have:i=n:=by omega
   rw [this];exact hn
def zeF (w:World) (y:Ty) (cs:List Value):Prop:=∃a:T y,wfT y a∧zw (vu w) (ql y a) cs
theorem zw6 {ft:TypeId→Ty→Bool} {cz:TypeId→Nat} {cs:List Value}:∀{fs:List Field} {off:Nat} {y:Ty},YL ft cz fs off y=true→
  (∀f∈fs,∀z,ft f.type z=true→zeF w z ((cs.drop f.offset).take (cz f.type)))→off+sz y=cs.length→zeF w y (cs.drop off)
 |[],off,.unit,h,hf,hl=>⟨(),trivial,by
   have:cs.drop off=[]:=by simp [sz] at hl ⊢;omega
   rw [this];trivial⟩
 |[f],off,y,h,hf,hl=>by
  simp only [YL,Bool.and_eq_true] at h
  obtain ⟨h1,h2,h3⟩:=h
  have h1:=Nat.eq_of_beq_eq_true h1
  have h3:=Nat.eq_of_beq_eq_true h3
  have:=hf f (by simp) y h2
  rw [h1,←h3,List.take_of_length_le (by simp;omega)] at this
  exact this
 |f::g::fs,off,.pair a b,h,hf,hl=>by
  simp only [YL,Bool.and_eq_true] at h
  obtain ⟨h1,h2,h3,h4⟩:=h
  have h1:=Nat.eq_of_beq_eq_true h1
  have h3:=Nat.eq_of_beq_eq_true h3
  obtain ⟨x,wx,rx⟩:=hf f (by simp) a h2
  simp only [sz] at hl
  obtain ⟨z,wz,rz⟩:=zw6 (cs:=cs) h4 (fun q hq=>hf q (by simp only [List.mem_cons] at hq ⊢;exact .inr hq)) (by omega)
  refine ⟨(x,z),⟨wx,wz⟩,?_⟩
  rw [h1,←h3] at rx
  have e:cs.drop off=(cs.drop off).take (sz a)++cs.drop (off+sz a):=by
   rw [←List.drop_drop];exact (List.take_append_drop _ _).symm
  rw [e]
  exact zoG rx rz
 |[],_,.bool,h,_,_=>by simp [YL] at h
 |[],_,.int _,h,_,_=>by simp [YL] at h
 |[],_,.str,h,_,_=>by simp [YL] at h
 |[],_,.list _,h,_,_=>by simp [YL] at h
 |[],_,.pair _ _,h,_,_=>by simp [YL] at h
 |_::_::_,_,.unit,h,_,_=>by simp [YL] at h
 |_::_::_,_,.bool,h,_,_=>by simp [YL] at h
 |_::_::_,_,.int _,h,_,_=>by simp [YL] at h
 |_::_::_,_,.str,h,_,_=>by simp [YL] at h
 |_::_::_,_,.list _,h,_,_=>by simp [YL] at h
theorem zw7 {ft:Ty→Bool} {cz:Nat} {cs:List Value} {N:Nat} (hf:∀i,i < N→∀z,ft z=true→zeF w z ((cs.drop (i*cz)).take cz)):∀{m:Nat} {y:Ty} {i:Nat},YM ft cz m y=true→i+m=N→i*cz+sz y=cs.length→zeF w y (cs.drop (i*cz))
 |0,.unit,i,h,hN,hl=>⟨(),trivial,by
   have:cs.drop (i*cz)=[]:=by simp [sz] at hl ⊢;omega
   rw [this];trivial⟩
 |1,y,i,h,hN,hl=>by
  simp only [YM,Bool.and_eq_true] at h
  obtain ⟨h1,h2⟩:=h
  have h2:=Nat.eq_of_beq_eq_true h2
  have:=hf i (by omega) y h1
  rw [←h2,List.take_of_length_le (by simp;rw [←h2] at hl;omega)] at this
  rw [←h2];exact this
 |m+2,.pair a b,i,h,hN,hl=>by
  simp only [YM,Bool.and_eq_true] at h
  obtain ⟨h1,h2,h3⟩:=h
  have h2:=Nat.eq_of_beq_eq_true h2
  obtain ⟨x,wx,rx⟩:=hf i (by omega) a h1
  simp only [sz] at hl
  have e1:(i+1)*cz=i*cz+cz:=by rw [Nat.add_mul,Nat.one_mul]
  obtain ⟨z,wz,rz⟩:=zw7 hf (m:=m+1) (i:=i+1) h3 (by omega) (by rw [e1];omega)
  refine ⟨(x,z),⟨wx,wz⟩,?_⟩
  have e:cs.drop (i*cz)=(cs.drop (i*cz)).take cz++cs.drop ((i+1)*cz):=by
   rw [e1,←List.drop_drop];exact (List.take_append_drop _ _).symm
  rw [e]
  exact zoG rx rz
 |0,.bool,_,h,_,_=>by simp [YM] at h
 |0,.int _,_,h,_,_=>by simp [YM] at h
 |0,.str,_,h,_,_=>by simp [YM] at h
 |0,.list _,_,h,_,_=>by simp [YM] at h
 |0,.pair _ _,_,h,_,_=>by simp [YM] at h
 |_+2,.unit,_,h,_,_=>by simp [YM] at h
 |_+2,.bool,_,h,_,_=>by simp [YM] at h
 |_+2,.int _,_,h,_,_=>by simp [YM] at h
 |_+2,.str,_,h,_,_=>by simp [YM] at h
 |_+2,.list _,_,h,_,_=>by simp [YM] at h
theorem zgB {e:TypeId} {d:DataW H}:∀{l:List (DataW H)},d∈l→∀n∈d.weights P e,n∈DataW.weightsAll P e l
 |a::l,h,n,hn=>by
  simp only [DataW.weightsAll,List.mem_append]
  rcases List.mem_cons.1 h with rfl | h
  ·exact .inl hn
  ·exact .inr (zgB h n hn)
theorem zDl {e:TypeId} {y:Ty} {cs:List Value} {t:TypeId} {fuel:Nat} {x:DataW H×List MemPlace} (hu:P.underlying t=some (.slice e)) (h:DataW.trod enc P w base spare held fuel t cs=some x) (hw:∀n∈x.1.weights P t,n≤reachBytes)
  (ih:∀{fuel:Nat} {cs:List Value} {x:DataW H×List MemPlace},DataW.trod enc P w base spare held fuel e cs=some x→(∀n∈x.1.weights P e,n≤reachBytes)→zeF w y cs) (hs:0 < sz y) (hz:sz y=P.cellsOf e) (hbs:bsT y≤P.bytesOf e):zeF w (.list y) cs:=by
 rcases DataW.trod_slice hu h with ⟨rfl,_⟩ | ⟨a,len,cap,elems,rest,m,_,rfl,rfl,hb,hl,hm,hlen,hel,_,_⟩
 ·exact ⟨([]:List (T y)),⟨⟨Nat.zero_le _,by show 0*_≤_;rw [Nat.zero_mul];exact Nat.zero_le _⟩,fun x hx=>by cases hx⟩,by
   have:=zr.fz0 (φ:=vu w) (sz y) none 0
   exact ⟨this,trivial⟩⟩
 ·have hw1:(elems.length+rest.length)*P.bytesOf e≤reachBytes:=by
   have:=hw ((elems.length+rest.length)*P.bytesOf e) (by simp [DataW.weights,hu])
   exact this
  have hw2:∀z∈elems,∀n∈z.1.weights P e,n≤reachBytes:=fun z hz n hn=>hw n (by
   simp only [DataW.weights,hu]
   exact List.mem_cons_of_mem _ (List.mem_append_left _ (zgB (List.mem_map_of_mem hz) n hn)))
  have hall:∀i,i < len→∃q:T y,wfT y q∧∃us,zw (vu w) (ql y q) us∧us.length=sz y∧∀j,j < sz y→w.cell? ((a.add (i*sz y)).add j)=us[j]?:=fun i hi=>by
   have h1:=hel i hi
   obtain ⟨z,hz2⟩:∃z,elems[i]?=some z:=⟨elems[i],List.getElem?_eq_getElem (by omega)⟩
   rw [hz2,Option.bind_eq_some_iff] at h1
   obtain ⟨us,h2,h3⟩:=h1
   obtain ⟨q,q1,q2⟩:=ih h3 (hw2 z (List.mem_of_getElem? hz2))
   obtain ⟨_,h4,h5⟩:=World.cells?_some h2
   rw [←hz] at h4 h5
   exact ⟨q,q1,us,q2,h4,h5⟩
  obtain ⟨l,hll,hl2⟩:=zud len hall
  refine ⟨l,⟨⟨by show l.length≤maxLen;omega,Nat.le_trans (Nat.mul_le_mul (show l.length≤elems.length+rest.length by omega) hbs) hw1⟩,fun q hq=>?_⟩,?_⟩
  ·obtain ⟨i,hi⟩:=List.getElem?_of_mem hq
   exact (hl2 i q hi).1
  ·show zw (vu w) [fzV (sz y) false (l.map fun x=>Value.agg (ql y x).toArray)] [Value.slice (some a) len cap]
   refine ⟨?_,trivial⟩
   by_cases h0:len=0
   ·subst h0
    obtain rfl:l=[]:=List.length_eq_zero_iff.1 hll
    exact zr.fz0 _ _ _
   ·
    obtain ⟨q0,hq0⟩:∃q,l[0]?=some q:=⟨l[0],List.getElem?_eq_getElem (by omega)⟩
    obtain ⟨_,us0,r0,l0,c0⟩:=hl2 0 q0 hq0
    have c00:=c0 0 hs
    have:∃v,us0[0]?=some v:=⟨us0[0],List.getElem?_eq_getElem (by omega)⟩
    obtain ⟨v0,hv0⟩:=this
    obtain ⟨b,o,sp⟩:=a
    have e0:((⟨b,o,sp⟩:Addr).add (0*sz y)).add 0=⟨b,o,sp⟩:=by simp [Addr.add]
    rw [e0,hv0] at c00
    unfold World.cell? at c00
    cases hh:w.heap[b]? with
    |none=>rw [hh] at c00;simp at c00
    |some ob=>
     rw [hh] at c00
     cases ob with
     |cells arr el fr=>
      have hsp:sp=none:=by
       cases sp with
       |none=>rfl
       |some s=>simp at c00
      subst hsp
      have hcell:∀k,w.cell? (⟨b,k,none⟩:Addr)=arr[k]?:=fun k=>by
       unfold World.cell?
       rw [hh];rfl
      have hat:∀i (q:T y),l[i]?=some q→∃us,zw (vu w) (ql y q) us∧us.length=sz y∧∀j,j < sz y→arr[o+i*sz y+j]?=us[j]?:=fun i q hi=>by
       obtain ⟨_,us,r,hlu,hc⟩:=hl2 i q hi
       refine ⟨us,r,hlu,fun j hj=>?_⟩
       have:=hc j hj
       rw [Addr.add_none,Addr.add_none,hcell] at this
       exact this
      have hsz:∀(j:Nat) e,(l.map fun x=>Value.agg (ql y x).toArray).toArray[j]?=some e→e.cells.size=sz y:=fun j e he=>by
       simp only [List.getElem?_toArray,List.getElem?_map,Option.map_eq_some_iff] at he
       obtain ⟨q,_,rfl⟩:=he
       simp [Value.cells,jr]
      have hsize:(l.map fun x=>Value.agg (ql y x).toArray).toArray.size=len:=by simp [hll]
      have key:=zr.fz (φ:=vu w) (sz y) (l.map fun x=>Value.agg (ql y x).toArray).toArray b o cap ⟨b,0,0,arr⟩ (zyc hh) (by rw [hsize];omega) (by
        rw [hsize]
        obtain ⟨q,hq⟩:∃q,l[len - 1]?=some q:=⟨l[len - 1],List.getElem?_eq_getElem (by omega)⟩
        obtain ⟨us,r,hlu,hc⟩:=hat (len - 1) q hq
        have h1:=hc (sz y - 1) (by omega)
        have:∃v,us[sz y - 1]?=some v:=⟨us[sz y - 1],List.getElem?_eq_getElem (by omega)⟩
        obtain ⟨v,hv⟩:=this
        rw [hv] at h1
        have h2:=(Array.getElem?_eq_some_iff.1 h1).1
        have h3:len*sz y=(len - 1)*sz y+sz y:=by
         have:len=(len - 1)+1:=by omega
         rw [this,Nat.add_mul,Nat.one_mul];simp
        show o+len*sz y≤arr.size
        omega) (by rw [hsize];omega) hsz (fun j k e u u' he hu hu'=>by
        simp only [List.getElem?_toArray,List.getElem?_map,Option.map_eq_some_iff] at he
        obtain ⟨q,hq,rfl⟩:=he
        obtain ⟨us,r,hlu,hc⟩:=hat j q hq
        simp only [Value.cells,List.getElem?_toArray] at hu
        have hk:k < sz y:=by
         have:=(List.getElem?_eq_some_iff.1 hu).1
         rw [jr] at this;exact this
        obtain ⟨v',hv',hr⟩:=r.get hu
        have:arr[o+j*sz y+k]?=some u':=hu'
        rw [hc k hk,hv'] at this
        cases this
        exact hr)
      rw [hsize] at key
      exact key
     |_=>simp at c00
theorem zqs:∀(n:Nat) {t:TypeId} {y:Ty} {fuel:Nat} {cs:List Value} {x:DataW H×List MemPlace},zoF P n t y=true→DataW.trod enc P w base spare held fuel t cs=some x→(∀n∈x.1.weights P t,n≤reachBytes)→zeF w y cs
 |0,_,_,_,_,_,h,_,_=>by cases h
 |n+1,t,y,0,cs,x,_,h,_=>by cases h
 |n+1,t,y,fuel+1,cs,x,h,hx,hw=>by
  simp only [zoF] at h
  split at h
  ·rename_i hu
   simp only [DataW.trod,hu] at hx
   split at hx<;>first | (rename_i e1 e2;cases e1;done) | skip
   all_goals first | (exact ⟨_,trivial,.bool _,trivial⟩) | (simp_all;done) | cases hx
  ·rename_i k k' hu
   have hk:k=k':=of_decide_eq_true h
   subst hk
   obtain ⟨m,h1,h2,h3⟩:=DataW.trod_int hu hx
   subst h1
   simp only [Lit.wf,Bool.and_eq_true,decide_eq_true_eq] at h3
   exact ⟨m,h3,.int _ _,trivial⟩
  ·rename_i hu
   obtain ⟨s,h1,h2,h3⟩:=DataW.trod_string hu hx
   subst h1
   exact ⟨s,h3,.str _,trivial⟩
  ·rename_i e y' hu
   simp only [Bool.and_eq_true] at h
   obtain ⟨h1,h2,h3,h4⟩:=h
   exact zDl hu hx hw (fun hy hwy=>zqs n h1 hy hwy) (by simpa using h2) (Nat.eq_of_beq_eq_true h3) (Nat.le_of_ble_eq_true h4)
  ·rename_i fs hu
   simp only [Bool.and_eq_true] at h
   obtain ⟨h1,h2⟩:=h
   have h2:=Nat.eq_of_beq_eq_true h2
   obtain ⟨xs,m,_,rfl,hl,hlen,hf⟩:=DataW.trod_struct hu hx
   simp only [DataW.weights,hu] at hw
   have:=zw6 (w:=w) (cs:=cs) h1 (fun f hf2 z hz=>by
    obtain ⟨i,hi⟩:=List.getElem?_of_mem hf2
    have h4:=hf i f (by simpa using hi)
    have hlt:i < xs.length:=by
     have:=(List.getElem?_eq_some_iff.1 hi).1
     rw [hlen];simpa using this
    rw [List.getElem?_eq_getElem hlt] at h4
    exact zqs n hz h4 fun k hk=>hw k (DataW.weights_mem_each (j:=i) (t:=f.type) (d:=xs[i].1) (by rw [List.getElem?_map,hi];rfl) (by rw [List.getElem?_map,List.getElem?_eq_getElem hlt];rfl) k hk)) (by rw [hl,h2,Nat.zero_add])
   simpa using this
  ·rename_i m e hu
   simp only [Bool.and_eq_true] at h
   obtain ⟨h1,h2⟩:=h
   have h2:=Nat.eq_of_beq_eq_true h2
   obtain ⟨xs,q,_,rfl,hl,hlen,hf⟩:=DataW.trod_array hu hx
   simp only [DataW.weights,hu] at hw
   have:=zw7 (w:=w) (cs:=cs) (N:=m) (cz:=P.cellsOf e) (fun i hi z hz=>by
    have h4:=hf i hi
    have hlt:i < xs.length:=by omega
    rw [List.getElem?_eq_getElem hlt] at h4
    exact zqs n hz h4 fun k hk=>hw k (zgB (List.mem_map_of_mem (List.getElem_mem hlt)) k hk)) (m:=m) (i:=0) h1 (by omega) (by rw [hl,h2];simp)
   simpa using this
  ·cases h
def zle (P:Program) (t:TypeId):Bool:=match P.underlying t with
 |some (.struct _)=>true
 |some (.array _ _)=>true
 |_=>false
def zbG (P:Program) (n:Nat):List TypeId→List VT→Bool
 |[],[]=>true
 |t::ts,v::vs=>zoF P n t v.ty&&((bif zle P t then v.agg else !v.agg)&&zbG P n ts vs)
 |_,_=>false
theorem zDm {φ:Ren} {x v:Value} {a:List Value} (h:zw φ a [v]) (ha:a=[x]):zr φ x v:=by subst ha;exact h.1
theorem zFv {n:Nat} {t:TypeId} {vt:VT} {r:Reach} {b0:Nat} {v:Value} {d:DataW H} {ps:List MemPlace} (hf:zoF P n t vt.ty=true) (ha:(bif zle P t then vt.agg else !vt.agg)=true) (hv:Value.okWide P w r b0 t v) (hd:DataW.Trod enc P w base spare held t v d ps) (hw:∀n∈d.weights P t,n≤reachBytes) :
  ∃x:T vt.ty,wfT vt.ty x∧∀ρ,zr (vu w) (den ρ (mkV vt x)) v:=by
 obtain ⟨ag,ty⟩:=vt
 obtain ⟨fuel,hd⟩:=hd
 obtain ⟨x,wx,rx⟩:=zqs n hf hd hw
 refine ⟨x,wx,fun ρ=>?_⟩
 cases ag with
 |true=>
  have hag:zle P t=true:=by
   cases h:zle P t with
   |true=>rfl
   |false=>rw [h] at ha;cases ha
  have:∃cs,v=.agg cs:=by
   unfold zle at hag
   unfold Value.okWide at hv
   split at hv
   ·obtain ⟨cs,h1,_⟩:=hv;exact ⟨cs,h1⟩
   ·obtain ⟨cs,h1,_⟩:=hv;exact ⟨cs,h1⟩
   ·rename_i h1 h2
    split at hag
    ·rename_i h3;exact absurd h3 (h1 _)
    ·rename_i h3;exact absurd h3 (h2 _ _)
    ·cases hag
  obtain ⟨cs,rfl⟩:=this
  simp only [mkV,cond_true,den]
  refine .agg' ?_
  rw [qt,yc]
  exact rx
 |false=>
  have hag:zle P t=false:=by
   cases h:zle P t with
   |true=>rw [h] at ha;cases ha
   |false=>rfl
  have hcell:v.cells.toList=[v]:=by
   unfold zle at hag
   unfold Value.okWide at hv
   split at hv
   ·rename_i h1;simp only [h1] at hag;cases hag
   ·rename_i h1;simp only [h1] at hag;cases hag
   ·cases v with
    |agg cs=>
     unfold Cell.okWide at hv
     split at hv<;>first | (exfalso;revert hv;unfold Cell.ok;split<;>simp_all;done) | (rename_i e1 e2;cases e2)
    |_=>rfl
  rw [hcell] at rx
  have hlen:=rx.length
  have h2:=yc ρ ty x
  simp only [mkV,cond_false]
  match he:yp ty x with
  |[u]=>
   rw [he] at h2
   exact zDm rx h2.symm
  |[]=>rw [he] at h2;rw [←h2] at hlen;simp at hlen
  |_::_::_=>rw [he] at h2;rw [←h2] at hlen;simp at hlen
theorem zBG {n:Nat} {r:Reach} {b0:Nat}:∀{ts:List TypeId} {a:List VT} {us:List Value} {ds:List (DataW H)} {ps:List MemPlace},zbG P n ts a=true→
  (∀(j:Nat) t v,ts[j]?=some t→us[j]?=some v→Value.okWide P w r b0 t v)→DataW.TrodAll enc P w base spare held ts us ds ps→(∀n∈DataW.weightsEach P ts ds,n≤reachBytes)→
  ∃x:T (zp a),wfT (zp a) x∧∀ρ,zw (vu w) (zt ρ (wq a x)) us
 |[],[],us,ds,ps,_,_,h,_=>by
  obtain ⟨rfl,_,_⟩:=trodAll_nil h
  exact ⟨(),trivial,fun ρ=>trivial⟩
 |t::ts,v::a,us,ds,ps,hf,hv,h,hw=>by
  simp only [zbG,Bool.and_eq_true] at hf
  obtain ⟨f1,f2,f3⟩:=hf
  obtain ⟨u,us',d,ds',p,q,rfl,rfl,rfl,h1,h2⟩:=trodAll_cons h
  obtain ⟨x,wx,rx⟩:=zFv f1 f2 (hv 0 t u rfl rfl) h1 (fun n hn=>hw n (by simp only [DataW.weightsEach,List.mem_append];exact .inl hn))
  obtain ⟨y,wy,ry⟩:=zBG (ts:=ts) (a:=a) f3 (fun j t v ht hv2=>hv (j+1) t v (by simpa using ht) (by simpa using hv2)) h2 (fun n hn=>hw n (by simp only [DataW.weightsEach,List.mem_append];exact .inr hn))
  exact ⟨(x,y),⟨wx,wy⟩,fun ρ=>⟨rx ρ,ry ρ⟩⟩
 |[],_::_,_,_,_,hf,_,_,_=>by simp [zbG] at hf
 |_::_,[],_,_,_,hf,_,_,_=>by simp [zbG] at hf
theorem znR:∀{ts:List TypeId} {us:List Value} {ds:List (DataW H)} {ps:List MemPlace},DataW.TrodAll enc P w base spare held ts us ds ps→ds.length=ts.length
 |[],_,_,_,h=>by
  obtain ⟨_,rfl,_⟩:=trodAll_nil h
  rfl
 |t::ts,us,ds,ps,h=>by
  obtain ⟨u,us',d,ds',p,q,rfl,rfl,rfl,h1,h2⟩:=trodAll_cons h
  rw [List.length_cons,List.length_cons,znR h2]
theorem zBH {f:FuncId} {a:List VT} {G:T (zp a)→Option (T (zp [⟨false,.bool⟩]))} (hc:Con.Ok P f ⟨a,[⟨false,.bool⟩],G⟩) (hG:∀x,wfT (zp a) x→G x=some (true,())) {n:Nat} {r:Reach} {b0:Nat} {ts:List TypeId} {us:List Value} {ds:List (DataW H)} {ps:List MemPlace} (hf:zbG P n ts a=true)
  (hv:∀(j:Nat) t v,ts[j]?=some t→us[j]?=some v→Value.okWide P w r b0 t v) (h:DataW.TrodAll enc P w base spare held ts us ds ps) (hw:(DataW.weightsEach P ts ds).all (·≤reachBytes)=true) :
  Calls P f us.toArray w fun e w'=>e=.returned (.bool true)∧Below w.heap.size w w':=by
 obtain ⟨x,wx,rx⟩:=zBG hf hv h (fun n hn=>of_decide_eq_true (List.all_eq_true.1 hw n hn))
 obtain ⟨Hd,nx',hz,hcall⟩:=hc.2 x _ (hG x wx)
 exact zAm hz hcall (rx _)
end
def zqt:Ty→List Value
 |.unit=>[]
 |.bool=>[.bool false]
 |.int k=>[.int k 0]
 |.str=>[.string ByteArray.empty]
 |.list _=>[.slice none 0 0]
 |.pair a b=>zqt a++zqt b
def zFI (v:VT):Value:=bif v.agg then .agg (zqt v.ty).toArray else match zqt v.ty with
 |[u]=>u
 |_=>.nilFunc
def zFw (a:List VT):Array Value:=(a.map zFI).toArray
theorem zn:ziv P []:=fun x h=>by cases h
theorem zd {f:FuncId} {c:Con} {t:Tbl} (h:c.Ok P f) (ht:ziv P t):ziv P ((f,c)::t):=fun x hx=>by
 rcases List.mem_cons.1 hx with rfl | hx
 ·exact h
 ·exact ht x hx
end Go.Fz.Sy
namespace Go.Fz.Sy
def zsz {α:Type} (f:α→α→Bool):List α→List α→Bool
 |[],[]=>true
 |x::l,y::r=>bif f x y then zsz f l r else false
 |_,_=>false
theorem zyV {α:Type} {f:α→α→Bool} (hf:∀x y,f x y=true→x=y):∀l r:List α,zsz f l r=true→l=r
 |[],[],_=>rfl
 |[],_::_,h=>by simp [zsz] at h
 |_::_,[],h=>by simp [zsz] at h
 |x::l,y::r,h=>by
  have h:(bif f x y then zsz f l r else false)=true:=h
  cases hx:f x y with
  |false=>rw [hx] at h;cases h
  |true=>
   rw [hx] at h
   rw [hf x y hx,zyV hf l r h]
def eqT:(t:Ty)→T t→T t→Bool
 |.unit,_,_=>true
 |.bool,a,b=>bif (a:Bool) then b else !(b:Bool)
 |.int _,a,b=>zo a b
 |.str,a,b=>@decide ((a:ByteArray)=b) (inferInstanceAs (Decidable ((a:ByteArray)=b)))
 |.list t,a,b=>zsz (eqT t) a b
 |.pair s t,x,y=>bif eqT s (p1 x) (p1 y) then eqT t (p2 x) (p2 y) else false
theorem zqu:∀(t:Ty) (x y:T t),eqT t x y=true→x=y
 |.unit,x,y,_=>by cases x;cases y;rfl
 |.bool,a,b,h=>by
  have h:(bif (a:Bool) then b else !(b:Bool))=true:=h
  cases a<;>cases b<;>first | rfl | cases h
 |.int _,a,b,h=>by
  have h:zo a b=true:=h
  rw [ju] at h;exact eq_of_beq h
 |.str,a,b,h=>by
  have h:@decide ((a:ByteArray)=b) (inferInstanceAs (Decidable ((a:ByteArray)=b)))=true:=h
  exact of_decide_eq_true h
 |.list t,a,b,h=>zyV (zqu t) a b h
 |.pair s t,x,y,h=>by
  have h:(bif eqT s (p1 x) (p1 y) then eqT t (p2 x) (p2 y) else false)=true:=h
  cases h1:eqT s (p1 x) (p1 y) with
  |false=>rw [h1] at h;cases h
  |true=>
   rw [h1] at h
   have e1:=zqu s _ _ h1
   have e2:=zqu t _ _ h
   exact Prod.ext e1 e2
def Xm {a b:List VT}:List (T (zp a)×T (zp b))→T (zp a)→Option (T (zp b))
 |[],_=>none
 |p::r,x=>bif eqT (zp a) x p.1 then some p.2 else Xm r x
theorem zue {a b:List VT} {c:T (zp a)→Option (T (zp b))}:∀{l:List (T (zp a)×T (zp b))},(∀p∈l,c p.1=some p.2)→∀{x r},Xm l x=some r→c x=some r
 |[],_,_,_,h=>by cases h
 |p::l,hl,x,r,h=>by
  have h:(bif eqT (zp a) x p.1 then some p.2 else Xm l x)=some r:=h
  cases hx:eqT (zp a) x p.1 with
  |true=>
   rw [hx] at h
   cases h
   rw [zqu _ _ _ hx]
   exact hl p (by simp)
  |false=>
   rw [hx] at h
   exact zue (fun q hq=>hl q (by simp [hq])) h
theorem YC {P:Program} {f:FuncId} {a b:List VT} {c:T (zp a)→Option (T (zp b))} (h:Con.Ok P f ⟨a,b,c⟩) {l:List (T (zp a)×T (zp b))} (hl:∀p∈l,c p.1=some p.2):Con.Ok P f ⟨a,b,Xm l⟩:=
 ⟨h.1,fun x r hx=>h.2 x r (zue hl hx)⟩
theorem Vo {a b:List VT} {c:T (zp a)→Option (T (zp b))}:∀p∈([]:List (T (zp a)×T (zp b))),c p.1=some p.2:=fun p hp=>by cases hp
theorem yq {a b:List VT} {c:T (zp a)→Option (T (zp b))} {x:T (zp a)} {r:T (zp b)} {l:List (T (zp a)×T (zp b))} (h:c x=some r) (hl:∀p∈l,c p.1=some p.2):∀p∈(x,r)::l,c p.1=some p.2:=fun p hp=>by
 rcases List.mem_cons.1 hp with rfl | hp
 ·exact h
 ·exact hl p hp
theorem zy {z:Int} (h1 : -9223372036854775808≤z) (h2:z≤9223372036854775807):wrF .i64 z=z:=by
 rw [Kz]
 have e:IntKind.i64.wrap z=if z % 18446744073709551616≥9223372036854775808 then z % 18446744073709551616 - 18446744073709551616 else z % 18446744073709551616:=by
  unfold IntKind.wrap
  show (if (true&&decide (z % 18446744073709551616≥9223372036854775808))=true then z % 18446744073709551616 - 18446744073709551616 else z % 18446744073709551616)=_
  simp only [Bool.true_and,decide_eq_true_eq]
 rw [e]
 split<;>omega
theorem zD {α R:Type} (a:α) (f:α→Option R):opt (some a) f=f a:=rfl
theorem zyW {α:Type} (l:List α) (n:Nat):atI l (n:Int)=l[n]?:=by
 show gl l n=_
 exact yJ l n
theorem zFa {α:Type} {l:List α} {z:Int} (h0:0≤z) (h:z < l.length):∃x,atI l z=some x∧l[z.toNat]?=some x:=by
 obtain ⟨n,rfl⟩:=Int.eq_ofNat_of_zero_le h0
 have hn:n < l.length:=by omega
 exact ⟨l[n],by rw [zyW];simp [hn],by simp [hn]⟩
theorem yd {α:Type} {l:List α} {n:Nat} {x:α} (h:l[n]?=some x):atI l (n:Int)=some x:=by rw [zyW];exact h
theorem zuf {X S:Type} {B:S→Option (X ⊕ S)} {I:S→Prop} {J:X→Prop} {m:S→Nat} (h:∀s,I s→(∃x,B s=some (.inl x)∧J x)∨(∃s',B s=some (.inr s')∧I s'∧m s' < m s)) :
  ∀(N:Nat) (s:S),I s→m s < N→∃x,zI B N s=some x∧J x
 |0,s,_,hm=>by omega
 |N+1,s,hI,hm=>by
  rw [YJ]
  rcases h s hI with ⟨x,hx,hJ⟩ | ⟨s',hs,hI',hlt⟩
  ·exact ⟨x,by rw [hx],hJ⟩
  ·rw [hs]
   exact zuf h N s' hI' (by omega)
theorem zDn {X S:Type} {B:S→Option (X ⊕ S)} (I:S→Prop) (J:X→Prop) (m:S→Nat) (h:∀s,I s→(∃x,B s=some (.inl x)∧J x)∨(∃s',B s=some (.inr s')∧I s'∧m s' < m s)) {s:S} (hI:I s) (hm:m s < 1180591620717411303424) :
  ∃x,zI B zQ s=some x∧J x:=zuf h zQ s hI (Nat.lt_of_lt_of_le hm zyU)
def qm {α:Type} (o:Option α) (Q:α→Prop):Prop:=∃r,o=some r∧Q r
theorem za {α:Type} {a:α} {Q:α→Prop} (h:Q a):qm (some a) Q:=⟨a,rfl,h⟩
theorem zg {α R:Type} {x:Option α} {f:α→Option R} {Q:R→Prop} (h:qm x fun a=>qm (f a) Q):qm (opt x f) Q:=by
 obtain ⟨a,rfl,r,h1,h2⟩:=h
 exact ⟨r,h1,h2⟩
theorem zk {α R:Type} {x:Option α} {f:α→Option R} {J:α→Prop} {Q:R→Prop} (h:qm x J) (hf:∀a,J a→qm (f a) Q):qm (opt x f) Q:=by
 obtain ⟨a,rfl,ha⟩:=h
 exact hf a ha
theorem zj {α:Type} {b:Bool} {x y:Option α} {Q:α→Prop} (h1:b=true→qm x Q) (h2:b=false→qm y Q):qm (bif b then x else y) Q:=by
 cases b with
 |true=>exact h1 rfl
 |false=>exact h2 rfl
theorem zug {α:Type} {o:Option α} {Q Q':α→Prop} (h:qm o Q) (hq:∀a,Q a→Q' a):qm o Q':=by
 obtain ⟨a,e,ha⟩:=h
 exact ⟨a,e,hq a ha⟩
theorem kG {α:Type} {o:Option α} {a:α} (h:qm o fun r=>r=a):o=some a:=by
 obtain ⟨r,e,rfl⟩:=h
 exact e
def zmQ {X S:Type} (I:S→Prop) (J:X→Prop) (m:S→Nat) (s:S) (r:X ⊕ S):Prop:=(∀x,r=.inl x→J x)∧∀s',r=.inr s'→I s'∧m s' < m s
theorem zlf {X S:Type} {I:S→Prop} {J:X→Prop} {m:S→Nat} {s:S} {x:X} (h:J x):zmQ I J m s (.inl x):=⟨fun y e=>by cases e;exact h,fun s' e=>by cases e⟩
theorem zbH {X S:Type} {I:S→Prop} {J:X→Prop} {m:S→Nat} {s s':S} (h:I s') (hm:m s' < m s):zmQ I J m s (.inr s'):=⟨(fun y e=>by cases e),fun s'' e=>by cases e;exact ⟨h,hm⟩⟩
theorem zlg {X S:Type} {B:S→Option (X ⊕ S)} {s:S} (I:S→Prop) (J:X→Prop) (m:S→Nat) (hI:I s) (hm:m s < 1180591620717411303424) (h:∀s,I s→qm (B s) (zmQ I J m s)):qm (zI B zQ s) J:=by
 obtain ⟨x,h1,h2⟩:=zDn (B:=B) I J m (fun s hs=>by
  obtain ⟨r,e,h3,h4⟩:=h s hs
  cases r with
  |inl x=>exact .inl ⟨x,e,h3 x rfl⟩
  |inr s'=>exact .inr ⟨s',e,h4 s' rfl⟩) hI hm
 exact ⟨x,h1,h2⟩
theorem zC {α:Type} {l:List α} {n:Nat} {x:α} {Q:α→Prop} (h:l[n]?=some x) (hq:Q x):qm (atI l (n:Int)) Q:=⟨x,yd h,hq⟩
theorem jv {α:Type} {l:List α} {z:Int} {Q:α→Prop} (h0:0≤z) (h1:z < l.length) (hq:∀x,l[z.toNat]?=some x→Q x):qm (atI l z) Q:=by
 obtain ⟨x,e,e2⟩:=zFa h0 h1
 exact ⟨x,e,hq x e2⟩
theorem vO {α:Type} {l:List α} {i:Nat} {Q:α→Prop} (h1:i < l.length) (hq:∀x,l[i]?=some x→Q x):qm (gl l i) Q:=by
 have hx:l[i]?=some l[i]:=List.getElem?_eq_getElem h1
 exact ⟨l[i],by rw [yJ,hx],hq _ hx⟩
def Nxt {X S:Type} (J:X→Prop) (I:S→Prop) (r:X ⊕ S):Prop:=(∀x,r=.inl x→J x)∧∀s',r=.inr s'→I s'
theorem zu {X S:Type} {J:X→Prop} {I:S→Prop} {x:X} (h:J x):Nxt J I (.inl x:X ⊕ S):=⟨fun y e=>by cases e;exact h,fun s' e=>by cases e⟩
theorem qj {X S:Type} {J:X→Prop} {I:S→Prop} {s:S} (h:I s):Nxt J I (.inr s:X ⊕ S):=⟨fun y e=>by (cases e),fun s' e=>by cases e;exact h⟩
theorem zX {X S:Type} {B:S→Option (X ⊕ S)} {s:S} {J:X→Prop} (n:Nat) (I:Nat→S→Prop) (hn:n < 1180591620717411303424) (h0:I 0 s)
  (h:∀i s,i < n→I i s→qm (B s) (Nxt J (I (i+1)))) (he:∀s,I n s→qm (B s) (Nxt J fun _=>False)):qm (zI B zQ s) J:=by
 have key:∀(k i N:Nat) (s:S),i+k=n→k < N→I i s→qm (zI B N s) J:=by
  intro k
  induction k with
  |zero=>
   intro i N s hi hN hI
   obtain ⟨N,rfl⟩:∃M,N=M+1:=⟨N - 1,by omega⟩
   have hi':i=n:=by omega
   obtain ⟨r,e,h1,h2⟩:=he s (hi'▸hI)
   rw [YJ,e]
   cases r with
   |inl x=>exact ⟨x,rfl,h1 x rfl⟩
   |inr s'=>exact (h2 s' rfl).elim
  |succ k ih=>
   intro i N s hi hN hI
   obtain ⟨N,rfl⟩:∃M,N=M+1:=⟨N - 1,by omega⟩
   obtain ⟨r,e,h1,h2⟩:=h i s (by omega) hI
   rw [YJ,e]
   cases r with
   |inl x=>exact ⟨x,rfl,h1 x rfl⟩
   |inr s'=>exact ih (i+1) N s' (by omega) (by omega) (h2 s' rfl)
 exact key n 0 zQ s (by omega) (Nat.lt_of_lt_of_le hn zyU) h0
noncomputable def tv (p:Prop):Bool:=@decide p (Classical.propDecidable p)
theorem zqv {p:Prop}:tv p=true↔p:=@decide_eq_true_iff p (Classical.propDecidable p)
theorem qf {p:Prop} (h:p):tv p=true:=zqv.2 h
theorem qu {p:Prop} (h:¬p):tv p=false:=by
 cases e:tv p with
 |false=>rfl
 |true=>exact absurd (zqv.1 e) h
theorem zFb {p:Prop} [inst:Decidable p]:tv p=decide p:=by
 by_cases h:p
 ·rw [qf h,decide_eq_true h]
 ·rw [qu h,decide_eq_false h]
theorem wu {o:Option (Bool×Unit)} {p:Prop} (h:qm o fun r=>(r.1=true↔p)):o=some (tv p,()):=by
 obtain ⟨⟨b,⟨⟩⟩,e,h⟩:=h
 rw [e]
 by_cases hp:p
 ·rw [qf hp,show b=true from h.2 hp]
 ·rw [qu hp]
  cases b with
  |false=>rfl
  |true=>exact absurd (h.1 rfl) hp
theorem xA {α:Type} {o:Option (α×Unit)} {v:α} (h:qm o fun r=>r.1=v):o=some (v,()):=by
 obtain ⟨⟨b,⟨⟩⟩,e,rfl⟩:=h
 exact e
theorem qh {α:Type} {o:Option α} {a:α} {Q:α→Prop} (e:o=some a) (h:Q a):qm o Q:=⟨a,e,h⟩
theorem zFc {n:Nat} (h:n≤1000000000000000000):n < 1180591620717411303424:=by omega
theorem qv {i:Nat} (h:i≤1000000000000000000):wrF .i64 ((i:Int)+1)=((i+1:Nat):Int):=by rw [zy]<;>omega
theorem zZ {a b:Int} (h:a < b):zi a b=true:=by rw [xb];exact decide_eq_true h
theorem zJ {a b:Int} (h:¬a < b):zi a b=false:=by rw [xb];exact decide_eq_false h
theorem Zb {a b:Int} (h:a=b):zo a b=true:=by rw [ju,h];simp
theorem jS {a b:Int} (h:a≠b):zo a b=false:=by rw [ju];simp [h]
theorem qp {a b:Int} (h:zi a b=true):a < b:=by rw [xb] at h;exact of_decide_eq_true h
theorem qG {a b:Int} (h:zi a b=false):b≤a:=by rw [xb] at h;have:=of_decide_eq_false h;omega
theorem qO {a b:Int} (h:zo a b=true):a=b:=by rw [ju] at h;exact eq_of_beq h
theorem jM {a b:Int} (h:zo a b=false):a≠b:=by rw [ju] at h;intro e;subst e;simp at h
theorem ZV (a b:Int):vq a b=max a b:=by
 unfold vq
 rw [xb]
 by_cases h:a < b
 ·rw [decide_eq_true h,cond_true];omega
 ·rw [decide_eq_false h,cond_false];omega
theorem WM (a b:Int):jh a b=min a b:=by
 unfold jh
 rw [xb]
 by_cases h:b < a
 ·rw [decide_eq_true h,cond_true];omega
 ·rw [decide_eq_false h,cond_false];omega
theorem zf {α:Type} {b:Bool} {x y:Option α} {Q:α→Prop} (hb:b=true) (h:qm x Q):qm (bif b then x else y) Q:=by subst hb;exact h
theorem ze {α:Type} {b:Bool} {x y:Option α} {Q:α→Prop} (hb:b=false) (h:qm y Q):qm (bif b then x else y) Q:=by subst hb;exact h
theorem jn {X V:Type} {B:((V×(Int×Unit))×Unit)→Option (X ⊕ ((V×(Int×Unit))×Unit))} {v:V} {J:X→Prop} (n:Nat) (P:Nat→Prop) (hn:n≤1000000000000000000)
  (h:∀i,i < n→(∀k,k < i→P k)→qm (B ((v,((i:Int),())),())) (Nxt J fun s=>s=((v,(((i+1:Nat):Int),())),())∧P i))
  (he:(∀k,k < n→P k)→qm (B ((v,((n:Int),())),())) (Nxt J fun _=>False)):qm (zI B zQ ((v,(0,())),())) J:=by
 refine zX n (fun i s=>s=((v,((i:Int),())),())∧∀k,k < i→P k) (zFc hn) ⟨rfl,fun k hk=>by omega⟩ ?_ ?_
 ·rintro i _ hi ⟨rfl,hp⟩
  obtain ⟨r,e,h1,h2⟩:=h i hi hp
  refine ⟨r,e,h1,fun s' hs=>?_⟩
  obtain ⟨h3,h4⟩:=h2 s' hs
  refine ⟨h3,fun k hk=>?_⟩
  rcases Nat.lt_or_ge k i with hk' | hk'
  ·exact hp k hk'
  ·have:k=i:=by omega
   exact this▸h4
 ·rintro _ ⟨rfl,hp⟩
  exact he hp
theorem yr {X V:Type} {v:V} {i:Nat} {J:X→Prop} {p:Prop} (hi:i≤1000000000000000000) (hp:p):Nxt J (fun s=>s=((v,(((i+1:Nat):Int),())),())∧p) (.inr ((v,(wrF .i64 ((i:Int)+1),())),())):=qj ⟨by rw [qv hi],hp⟩
theorem Wm {p:Prop} (h:tv p=true):p:=zqv.1 h
theorem JS {p:Prop} (h:tv p=false):¬p:=fun hp=>by rw [qf hp] at h;cases h
theorem yF {p:Prop} (h:(!tv p)=true):¬p:=JS (by simpa using h)
theorem xk {p:Prop} (h:(!tv p)=false):p:=Wm (by simpa using h)
theorem zyX {α:Type} (l:List α) (lo hi mx:Option Int) (h p:Nat) (h1:hiI l.length hi=some h) (h2:loI h lo=some p) (h3:mxI h mx=true):zbp l lo hi mx=some ((l.take h).drop p):=by
 unfold zbp
 simp only [h1,h2,h3,cond_true]
theorem zyY {n q:Nat} (h:q≤n):hiI n (some (q:Int))=some q:=by
 show (bif Nat.ble q n then some q else none)=_
 rw [Nat.ble_eq_true_of_le h];rfl
theorem zEv {n q:Nat} (h:q≤n):loI n (some (q:Int))=some q:=by
 show (bif Nat.ble q n then some q else none)=_
 rw [Nat.ble_eq_true_of_le h];rfl
theorem zEw (n:Nat):mxI n (some (n:Int))=true:=by
 show Nat.beq n n=true
 exact Nat.beq_refl n
theorem zyZ {α:Type} (l:List α) (n:Nat) (h:n≤l.length):zbp l none (some (n:Int)) none=some (l.take n):=by
 rw [zyX l _ _ _ n 0 (zyY h) rfl rfl];simp
theorem zDo {α:Type} (l:List α) (m n:Nat) (h:n≤l.length) (h2:m≤n):zbp l (some (m:Int)) (some (n:Int)) (some (n:Int))=some ((l.take n).drop m):=by
 rw [zyX l _ _ _ n m (zyY h) (zEv h2) (zEw _)]
theorem zhn {a b:Int} {k:Nat} (h0:0≤a) (h1:a≤b) (h2:(k:Int)*b≤281474976710656):zeu a b k=true:=by
 unfold zeu;rw [zJ (by omega),zJ (by omega),zJ (by omega)];rfl
theorem wC {n m k:Nat} (h:(n+m)*k≤140737488355328) (h2:n+m≤9223372036854775807):qE n m k=true:=by
 unfold qE maxLen
 rw [Nat.ble_eq_true_of_le (by omega),Nat.ble_eq_true_of_le h];rfl
end Go.Fz.Sy
namespace Go.Proofs.YtplhphmbkmpocaaGreat.ad
open Go Go.Fz Go.Fz.Sy
abbrev I:Ty:=.int .i64
theorem zq:vK Tryz.prog:=zv3 (by kernel_rfl)
abbrev qc:Ty:=(.pair I (.pair I (.pair I I)))
abbrev Gp:Type:=(Int×(Int×(Int×Int)))
abbrev zG:Ty:=(.pair I (.pair (.list .bool) (.list qc)))
abbrev zO:Type:=(Int×((List Bool)×(List Gp)))
abbrev xH:Ty:=(.pair (.int .u8) (.pair (.int .u8) (.pair (.list (.int .u8)) (.pair (.list (.int .u8)) (.pair (.list (.int .u8)) (.list (.int .u8)))))))
abbrev YN:Type:=(Int×(Int×((List Int)×((List Int)×((List Int)×(List Int))))))
abbrev KJ:Ty:=(.pair I (.pair I (.pair I I)))
abbrev GV:Type:=(Int×(Int×(Int×Int)))
abbrev Zc:Ty:=(.pair (.list (.int .u8)) (.list (.int .u8)))
abbrev ziy:Type:=((List Int)×(List Int))
abbrev jX:Ty:=(.pair .bool (.pair .bool (.pair (.int .u8) (.pair (.int .u8) (.pair (.int .u8) (.pair (.int .u8) (.pair (.int .u8) (.int .u16))))))))
abbrev YO:Type:=(Bool×(Bool×(Int×(Int×(Int×(Int×(Int×Int)))))))
abbrev yR:Ty:=(.pair xH (.pair (.list Zc) (.pair (.pair (.int .u8) (.pair (.int .u8) (.int .u8))) (.pair (.int .u8) (.pair (.int .u16) (.pair (.list jX) (.list (.int .u16))))))))
abbrev jK:Type:=(YN×((List ziy)×((Int×(Int×Int))×(Int×(Int×((List YO)×(List Int)))))))
abbrev qq:Ty:=(.pair I I)
abbrev ziz:Type:=(Int×Int)
abbrev zR:Ty:=(.pair (.list qq) I)
abbrev qn:Type:=((List ziz)×Int)
abbrev wK:Ty:=(.pair zG (.pair KJ (.pair (.list zR) I)))
abbrev uV:Type:=(zO×(GV×((List qn)×Int)))
abbrev zv:Ty:=(.pair I I)
abbrev qi:Type:=(Int×Int)
abbrev zK:Ty:=(.pair I (.pair I (.pair I (.pair I (.pair I (.pair I (.pair zv (.pair I (.list (.list I))))))))))
abbrev jL:Type:=(Int×(Int×(Int×(Int×(Int×(Int×(qi×(Int×(List (List Int))))))))))
abbrev WN:Ty:=zG
abbrev Xx:Type:=zO
abbrev znS:Ty:=(.pair I (.pair I I))
abbrev zd6:Ty:=(.pair qc I)
abbrev zuh:Type:=(Gp×Int)
abbrev jm:Ty:=(.pair I I)
abbrev yb:Ty:=(.pair I I)
abbrev jx:Type:=(Int×Int)
abbrev Xy:Ty:=(.pair zv (.pair yb (.pair I I)))
abbrev GW:Type:=(qi×(jx×(Int×Int)))
abbrev zsA:Ty:=(.pair Xy I)
abbrev qL:Ty:=(.pair I I)
abbrev xx:Type:=(Int×Int)
abbrev qM:Ty:=(.pair I I)
abbrev xl:Type:=(Int×Int)
end Go.Proofs.YtplhphmbkmpocaaGreat.ad
end
