/- Parts of a proof, joined. -/
import Derived.ChangeArms
import Derived.ChangeSlices
import Derived.DataReads
import Derived.KernelRfl
import Derived.OpenShut
import Derived.SizedLaws
import Derived.Test.YtplhphmbkmpocaaGreatProg
import Derived.Test.YtplhphmbkmpocaaGreatE73
set_option linter.unusedSectionVars false
set_option linter.unusedVariables false
set_option linter.unusedSimpArgs false
set_option maxHeartbeats 0
set_option maxRecDepth 100000
noncomputable section
namespace Go.Fz.Sy
variable {P:Program} {φ:Ren} {K:Nat→Prop} {w:World} {R:Type}
inductive CK where
 |d (t:Ty)
 |o (c:Nat) (nn:Bool) (t:Ty)
@[reducible] def CK.T:CK→Type
 |.d t=>Sy.T t
 |.o _ _ t=>List (Sy.T t)
@[reducible] def CS (l:List CK):Type:=List.rec (motive:=fun _=>Type) Unit (fun a _ ih=>a.T×ih) l
inductive DPl where
 |tmp (i:Nat) (vt:VT)
 |blk (b:Nat) (t:Ty)
 |frz (b:Nat) (ks:List CK)
 |npt (i:Nat)
inductive OPl where
 |otmp (i c:Nat) (nn:Bool) (t:Ty)
 |sblk (b:Nat) (ks:List CK)
 |arr (b:Nat) (nn:Bool) (t:Ty)
 |lp (l:Nat) (L:SL)
 |dfd (b:Nat)
 |mpl (b:Nat) (k:IntKind) (ag:Bool) (t:Ty)
@[reducible] def DPl.T:DPl→Type
 |.tmp _ vt=>Sy.T vt.ty
 |.blk _ t=>Sy.T t
 |.frz _ _=>Unit
 |.npt _=>Unit
@[reducible] def OPl.T:OPl→Type
 |.otmp _ _ _ t=>List (Sy.T t)
 |.sblk _ ks=>CS ks
 |.arr _ _ t=>List (Sy.T t)
 |.lp _ _=>Unit
 |.dfd _=>Unit
 |.mpl _ _ _ t=>List (Int×Sy.T t)
@[reducible] def DS (l:List DPl):Type:=List.rec (motive:=fun _=>Type) Unit (fun a _ ih=>a.T×ih) l
@[reducible] def OS (l:List OPl):Type:=List.rec (motive:=fun _=>Type) Unit (fun a _ ih=>a.T×ih) l
abbrev LSt:=LoopState×Option Code
def tmD:(dl:List DPl)→DS dl→List SV→List SV
 |[],_,tm=>tm
 |.tmp i vt::r,x,tm=>tmD r (p2 x) (lsS tm i (mkV vt (p1 x)))
 |.blk _ _::r,x,tm=>tmD r (p2 x) tm
 |.frz _ _::r,x,tm=>tmD r (p2 x) tm
 |.npt i::r,x,tm=>tmD r (p2 x) (lsS tm i .nilp)
def tmO:(ol:List OPl)→OS ol→List SV→List SV
 |[],_,tm=>tm
 |.otmp i c _ _::r,y,tm=>tmO r (p2 y) (lsS tm i (.own c))
 |.sblk _ _::r,y,tm=>tmO r (p2 y) tm
 |.arr _ _ _::r,y,tm=>tmO r (p2 y) tm
 |.lp _ _::r,y,tm=>tmO r (p2 y) tm
 |.dfd _::r,y,tm=>tmO r (p2 y) tm
 |.mpl _ _ _ _::r,y,tm=>tmO r (p2 y) tm
def hpD:(dl:List DPl)→DS dl→SH
 |[],_=>[]
 |.tmp _ _::r,x=>hpD r (p2 x)
 |.blk b t::r,x=>(b,.vars (yR t (p1 x)))::hpD r (p2 x)
 |.frz _ _::r,x=>hpD r (p2 x)
 |.npt _::r,x=>hpD r (p2 x)
def zcs:(ks:List CK)→CS ks→List SV
 |[],_=>[]
 |.d t::r,x=>yR t (p1 x)++zcs r (p2 x)
 |.o c _ _::r,x=>.own c::zcs r (p2 x)
def Qe:(ks:List CK)→CS ks→SH
 |[],_=>[]
 |.d _::r,x=>Qe r (p2 x)
 |.o c nn t::r,x=>(c,.arr nn t (p1 x))::Qe r (p2 x)
def stO (L:SL):List LSt→SL
 |[]=>L
 |s::_=>{L with st:=s.1,pend:=s.2}
def hpO:(ol:List OPl)→List LSt→OS ol→SH
 |[],_,_=>[]
 |.otmp _ c nn t::r,vs,y=>(c,.arr nn t (p1 y))::hpO r vs (p2 y)
 |.sblk b ks::r,vs,y=>(b,.vars (zcs ks (p1 y)))::(Qe ks (p1 y)++hpO r vs (p2 y))
 |.arr b nn t::r,vs,y=>(b,.arr nn t (p1 y))::hpO r vs (p2 y)
 |.lp l L::r,vs,y=>(l,.loop (stO L vs))::hpO r vs.tail (p2 y)
 |.dfd b::r,vs,y=>(b,.defd)::hpO r vs (p2 y)
 |.mpl b k ag t::r,vs,y=>(b,.mpb k ag t (p1 y))::hpO r vs (p2 y)
def zmJ:(ks:List CK)→List SV→SH→Option SH
 |[],_,H=>some H
 |.d t::r,us,H=>match cvC t us H with
  |some (_,us1,H1)=>zmJ r us1 H1
  |none=>none
 |.o _ _ _::r,_::us,H=>zmJ r us H
 |.o _ _ _::_,[],_=>none
theorem zjL:∀{ks:List CK} {us:List SV} {H H1:SH},zmJ ks us H=some H1→xR H H1
 |[],us,H,H1,h=>by simp only [zmJ] at h;cases h;exact xR.refl _
 |.d t::r,us,H,H1,h=>by
  simp only [zmJ] at h
  split at h
  ·rename_i x us1 H2 h2
   obtain ⟨cs,_,g,_⟩:=zaM t h2
   exact g.trans (zjL h)
  ·cases h
 |.o _ _ _::r,u::us,H,H1,h=>by
  simp only [zmJ] at h
  exact zjL h
 |.o _ _ _::_,[],_,_,h=>by simp [zmJ] at h
def pcC:(t:Ty)→List SV→SH→Option (T t×List SV)
 |.unit,l,H=>some ((),l)
 |.bool,l,H=>match l with
  |.bool b::r=>some (b,r)
  |_=>none
 |.int k,l,H=>match l with
  |.int k' n::r=>bif Yi k k' then some (n,r) else none
  |_=>none
 |.str,l,H=>match l with
  |.str s::r=>some (s,r)
  |_=>none
 |.list t,l,H=>match l with
  |.lst t' x _::r=>if h:t'=t then some (WL h x,r) else none
  |.nils::r=>some (([]:List (T t)),r)
  |.own b::r=>match zn H b with
   |some (.fro _ t' x)=>if h:t'=t then bif Nat.blt 0 (sz t) then some (WL h x,r) else none else none
   |_=>none
  |_=>none
 |.pair a b,l,H=>match pcC a l H with
  |some (x,l1)=>match pcC b l1 H with
   |some (y,l2)=>some ((x,y),l2)
   |none=>none
  |none=>none
theorem zzb:∀(t:Ty) {l r:List SV} {H:SH} {x:T t},pcC t l H=some (x,r)→cvC t l H=some (x,r,H)
 |.unit,l,r,H,x,h=>by simp only [pcC] at h;cases h;rfl
 |.bool,l,r,H,x,h=>by
  simp only [pcC] at h
  split at h
  ·cases h;rfl
  ·cases h
 |.int k,l,r,H,x,h=>by
  simp only [pcC] at h
  split at h
  ·rename_i k' n r'
   obtain ⟨hk,h2⟩:=zE h
   cases h2
   simp only [cvC,hk,cond_true]
  ·cases h
 |.str,l,r,H,x,h=>by
  simp only [pcC] at h
  split at h
  ·cases h;rfl
  ·cases h
 |.list t,l,r,H,x,h=>by
  simp only [pcC] at h
  split at h
  ·split at h
   ·rename_i ht;cases h;simp only [cvC,ht,dif_pos]
   ·cases h
  ·cases h;rfl
  ·split at h
   ·rename_i hb
    split at h
    ·rename_i ht
     obtain ⟨hp,h⟩:=zE h
     cases h
     simp only [cvC,hb,ht,dif_pos,hp,cond_true]
    ·cases h
   ·cases h
  ·cases h
 |.pair a b,l,r,H,x,h=>by
  simp only [pcC] at h
  split at h
  case h_2=>cases h
  rename_i h1
  split at h
  case h_2=>cases h
  rename_i h2
  cases h
  simp only [cvC,zzb a h1,zzb b h2]
def bkD:(dl:List DPl)→List SV→SH→Option (DS dl×SH)
 |[],_,H=>some ((),H)
 |.tmp i vt::r,tm,H=>match gl tm i with
  |some u=>match u with
   |.junk=>none
   |u=>match cvV vt u H with
    |some (x,H1)=>match bkD r tm H1 with
     |some (y,H2)=>some ((x,y),H2)
     |none=>none
    |none=>none
  |none=>none
 |.blk b t::r,tm,H=>match zn H b with
  |some (.vars cs)=>match cvE t (cvC t cs H) with
   |some (x,H1)=>match bkD r tm H1 with
    |some (y,H2)=>some ((x,y),H2)
    |none=>none
   |none=>none
  |_=>none
 |.frz b ks::r,tm,H=>match zn H b with
  |some (.vars us)=>match zmJ ks us H with
   |some H1=>match bkD r tm H1 with
    |some (y,H2)=>some (((),y),H2)
    |none=>none
   |none=>none
  |_=>none
 |.npt i::r,tm,H=>match gl tm i with
  |some .nilp=>match bkD r tm H with
   |some (y,H2)=>some (((),y),H2)
   |none=>none
  |_=>none
def zHN {a b:Ty} (h:a=b) (x:List (Int×T a)):List (Int×T b):=Eq.rec (motive:=fun b _=>List (Int×T b)) x h
def zCq (a b:Bool):Bool:=bif a then b else !b
theorem ziD {a b:Bool} (h:zCq a b=true):a=b:=by cases a<;>cases b<;>first | rfl | cases h
def rdO (nn:Bool) (t:Ty) (H:SH) (c:Nat):SV→Option (List (T t)×List (Nat×Nat))
 |.nils=>bif nn then none else some ([],[])
 |.own c'=>match zn H c' with
  |some (.arr nn' t' l)=>if h:t'=t then bif zCq nn' nn then some (WL h l,[(c,c')]) else none else none
  |_=>none
 |_=>none
def rdK:(ks:List CK)→List SV→SH→Option (CS ks×List (Nat×Nat))
 |[],[],_=>some ((),[])
 |.d t::r,us,H=>match pcC t us H with
  |some (x,us1)=>match rdK r us1 H with
   |some (y,s)=>some ((x,y),s)
   |none=>none
  |none=>none
 |.o c nn t::r,u::us,H=>match rdO nn t H c u with
  |some (x,s1)=>match rdK r us H with
   |some (y,s)=>some ((x,y),s1++s)
   |none=>none
  |none=>none
 |_,_,_=>none
def zCr:Option Code→Option Code→Bool
 |none,none=>true
 |some .ret,some .ret=>true
 |some (.exit i),some (.exit j)=>Nat.beq i j
 |some (.goto i),some (.goto j)=>Nat.beq i j
 |_,_=>false
theorem zFs {a b:Option Code} (h:zCr a b=true):a=b:=by
 unfold zCr at h
 split at h<;>first | rfl | (rw [Nat.eq_of_beq_eq_true h]) | cases h
def zzc:LoopState→LoopState→Bool
 |.ready,.ready=>true
 |.busy,.busy=>true
 |.done,.done=>true
 |_,_=>false
theorem zDM {a b:LoopState} (h:zzc a b=true):a=b:=by
 unfold zzc at h
 split at h<;>first | rfl | cases h
def stQ (L:SL):List LSt→Bool
 |[]=>false
 |s::_=>zzc L.st s.1&&zCr L.pend s.2
def bkO:(ol:List OPl)→List LSt→List SV→SH→Option (OS ol×List (Nat×Nat))
 |[],_,_,_=>some ((),[])
 |.otmp i c nn t::r,vs,tm,H=>match gl tm i with
  |some u=>match rdO nn t H c u with
   |some (x,s)=>match bkO r vs tm H with
    |some (y,σ)=>some ((x,y),s++σ)
    |none=>none
   |none=>none
  |none=>none
 |.sblk b ks::r,vs,tm,H=>match zn H b with
  |some (.vars us)=>match rdK ks us H with
   |some (x,s)=>match bkO r vs tm H with
    |some (y,σ)=>some ((x,y),(b,b)::(s++σ))
    |none=>none
   |none=>none
  |_=>none
 |.arr b nn t::r,vs,tm,H=>match zn H b with
  |some (.arr nn' t' l)=>if h:t'=t then bif zCq nn' nn then match bkO r vs tm H with
    |some (y,σ)=>some ((WL h l,y),(b,b)::σ)
    |none=>none
   else none
   else none
  |_=>none
 |.lp l _::r,vs,tm,H=>match zn H l with
  |some (.loop L')=>bif stQ L' vs then match bkO r vs.tail tm H with
    |some (y,σ)=>some (((),y),(l,l)::σ)
    |none=>none
   else none
  |_=>none
 |.dfd b::r,vs,tm,H=>match zn H b with
  |some .defd=>match bkO r vs tm H with
   |some (y,σ)=>some (((),y),(b,b)::σ)
   |none=>none
  |_=>none
 |.mpl b k ag t::r,vs,tm,H=>match zn H b with
  |some (.mpb k' ag' t' l)=>if h:t'=t then bif Yi k' k&&zCq ag' ag then match bkO r vs tm H with
    |some (y,σ)=>some ((zHN h l,y),(b,b)::σ)
    |none=>none
   else none
   else none
  |_=>none
theorem gY:∀{dl:List DPl} {tm:List SV} {H H':SH} {x:DS dl},bkD dl tm H=some (x,H')→xR H H'
 |[],tm,H,H',x,h=>by simp only [bkD] at h;cases h;exact xR.refl _
 |.tmp i vt::r,tm,H,H',x,h=>by
  simp only [bkD] at h
  split at h
  case h_2=>cases h
  split at h
  ·cases h
  ·split at h
   case h_2=>cases h
   rename_i h1
   split at h
   case h_2=>cases h
   rename_i h2
   cases h
   exact (zrZ h1).1.trans (gY h2)
 |.blk b t::r,tm,H,H',x,h=>by
  simp only [bkD] at h
  split at h
  case h_2=>cases h
  split at h
  case h_2=>cases h
  rename_i h1
  split at h
  case h_2=>cases h
  rename_i h2
  cases h
  obtain ⟨cs1,he,g1,r1⟩:=zaM _ (zjC h1)
  exact g1.trans (gY h2)
 |.frz b ks::r,tm,H,H',x,h=>by
  simp only [bkD] at h
  split at h
  case h_2=>cases h
  split at h
  case h_2=>cases h
  rename_i h1
  split at h
  case h_2=>cases h
  rename_i h2
  cases h
  exact (zjL h1).trans (gY h2)
 |.npt i::r,tm,H,H',x,h=>by
  simp only [bkD] at h
  split at h
  case h_2=>cases h
  split at h
  case h_2=>cases h
  rename_i h2
  cases h
  exact gY h2
theorem zuu {tm:List Value} {ts:Array Value} {i:Nat} {v v':Value} (h:qX φ tm ts) (h1:ts[i]?=some v') (h2:zt φ v v'):qX φ (tm.set i v) ts:=by
 refine ⟨by simpa using h.1,fun j u hu=>?_⟩
 rw [List.getElem?_set] at hu
 by_cases hij:i=j
 ·subst hij
  rw [if_pos rfl] at hu
  split at hu
  ·cases hu;exact .inr ⟨v',h1,h2⟩
  ·cases hu
 ·rw [if_neg hij] at hu
  exact h.2 j u hu
theorem zft {φ2 φ3:Ren} {ν:Nat→Bool} {G:SH} {nx:Nat} {ρ3:Nat→Value} {ts:Array Value} (g:zI φ2 (zH ν G) K w) (hv:VN ν nx G) (hF:∀b L,φ2 (FZ+b)=some L→φ3 (FZ+b)=some L) :
  ∀{dl:List DPl} {tm:List SV} {H H':SH} {x:DS dl},bkD dl tm H=some (x,H')→GLe H' G→qX φ2 (zu (rho ν G) tm) ts→∀{tm0:List SV},qX φ3 (zu ρ3 tm0) ts→qX φ3 (zu ρ3 (tmD dl x tm0)) ts
 |[],tm,H,H',x,h,hG,ht,tm0,h0=>by simpa only [tmD] using h0
 |.tmp i vt::r,tm,H,H',x,h,hG,ht,tm0,h0=>by
  simp only [bkD] at h
  split at h
  case h_2=>cases h
  rename_i u hu
  split at h
  ·cases h
  ·rename_i hj
   split at h
   case h_2=>cases h
   rename_i x1 H1 h1
   split at h
   case h_2=>cases h
   rename_i y H2 h2
   cases h
   simp only [tmD]
   refine zft g hv hF h2 hG ht ?_
   obtain ⟨g1,r1⟩:=zrZ h1
   have g2:=gY h2
   rw [xQ] at hu
   have hH:rho ν H=rho ν G:=by rw [hG.rho ν,g2.1.rho ν,g1.1.rho ν]
   rcases ht.2 i (den (rho ν G) u) (by rw [wZ,hu];rfl) with hq | ⟨v',q1,q2⟩
   ·exact absurd (ze5 hq) hj
   ·have key:=zv7 (ρ:=ρ3) hF vt x1 (r1 ν G (g2.1.trans hG) φ2 K w nx v' g hv (by rw [hH];exact q2) ρ3)
    rw [Zm]
    have:zu ρ3 (tm0.set i (mkV vt x1))=(zu ρ3 tm0).set i (den ρ3 (mkV vt x1)):=by simp [qD,List.map_set]
    rw [this]
    exact zuu h0 q1 key
 |.blk b t::r,tm,H,H',x,h,hG,ht,tm0,h0=>by
  simp only [bkD] at h
  split at h
  case h_2=>cases h
  split at h
  case h_2=>cases h
  rename_i h1
  split at h
  case h_2=>cases h
  rename_i h2
  cases h
  simp only [tmD]
  exact zft g hv hF h2 hG ht h0
 |.frz b ks::r,tm,H,H',x,h,hG,ht,tm0,h0=>by
  simp only [bkD] at h
  split at h
  case h_2=>cases h
  split at h
  case h_2=>cases h
  split at h
  case h_2=>cases h
  rename_i h2
  cases h
  simp only [tmD]
  exact zft g hv hF h2 hG ht h0
 |.npt i::r,tm,H,H',x,h,hG,ht,tm0,h0=>by
  simp only [bkD] at h
  split at h
  case h_2=>cases h
  rename_i hu
  split at h
  case h_2=>cases h
  rename_i h2
  cases h
  simp only [tmD]
  refine zft g hv hF h2 hG ht ?_
  rw [xQ] at hu
  rcases ht.2 i (den (rho ν G) .nilp) (by rw [wZ,hu];rfl) with hq | ⟨v',q1,q2⟩
  ·have:=ze5 hq
   cases this
  ·rw [Zm]
   have:zu ρ3 (tm0.set i .nilp)=(zu ρ3 tm0).set i (den ρ3 .nilp):=by simp [qD,List.map_set]
   rw [this]
   refine zuu h0 q1 ?_
   simp only [den] at q2 ⊢
   cases q2
   exact .ptrN
theorem zct {ν:Nat→Bool} {G:SH}:∀{dl:List DPl} {tm:List SV} {H H':SH} {x:DS dl},bkD dl tm H=some (x,H')→GLe H' G→∀{b:Nat} {k:SB},zn (hpD dl x) b=some k→
   ∃(t:Ty) (y:T t) (cs:List SV),k=.vars (yR t y)∧zn G b=some (.vars cs)∧∀(φ:Ren) (K:Nat→Prop) (w:World) (nx:Nat) (us:List Value),zI φ (zH ν G) K w→VN ν nx G→zD φ (zu (rho ν G) cs) us→zD φ (qv t y) us
 |[],tm,H,H',x,h,hG,b,k,hk=>by simp [hpD,Ko] at hk
 |.tmp i vt::r,tm,H,H',x,h,hG,b,k,hk=>by
  simp only [bkD] at h
  split at h
  case h_2=>cases h
  split at h
  ·cases h
  ·split at h
   case h_2=>cases h
   split at h
   case h_2=>cases h
   rename_i h2
   cases h
   simp only [hpD] at hk
   exact zct h2 hG hk
 |.blk b0 t::r,tm,H,H',x,h,hG,b,k,hk=>by
  simp only [bkD] at h
  split at h
  case h_2=>cases h
  rename_i cs hcs
  split at h
  case h_2=>cases h
  rename_i x1 H1 h1
  split at h
  case h_2=>cases h
  rename_i y H2 h2
  cases h
  simp only [hpD] at hk
  rw [zK] at hk
  by_cases hb:b0=b
  ·subst hb
   simp only [if_true,Option.some.injEq] at hk
   subst hk
   obtain ⟨cs1,he,g1,r1⟩:=zaM _ (zjC h1)
   simp only [List.append_nil] at he
   subst he
   have g2:=gY h2
   have hg:=(g1.1.trans g2.1).trans hG
   refine ⟨t,x1,cs,rfl,?_,fun φ K w nx us g hv hr=>?_⟩
   ·rcases hg b0 with h3 | ⟨nn,t',l,h3,_⟩
    ·rw [h3];exact hcs
    ·rw [hcs] at h3;cases h3
   ·exact r1 ν G (g2.1.trans hG) φ K w nx us g hv (by rw [←hg.rho ν];exact hr)
  ·rw [if_neg hb] at hk
   exact zct h2 hG hk
 |.frz b0 ks::r,tm,H,H',x,h,hG,b,k,hk=>by
  simp only [bkD] at h
  split at h
  case h_2=>cases h
  split at h
  case h_2=>cases h
  split at h
  case h_2=>cases h
  rename_i h2
  cases h
  simp only [hpD] at hk
  exact zct h2 hG hk
 |.npt i::r,tm,H,H',x,h,hG,b,k,hk=>by
  simp only [bkD] at h
  split at h
  case h_2=>cases h
  split at h
  case h_2=>cases h
  rename_i h2
  cases h
  simp only [hpD] at hk
  exact zct h2 hG hk
def nmD:List DPl→List Nat
 |[]=>[]
 |.tmp _ _::r=>nmD r
 |.blk b _::r=>b::nmD r
 |.frz _ _::r=>nmD r
 |.npt _::r=>nmD r
def nmK:List CK→List Nat
 |[]=>[]
 |.d _::r=>nmK r
 |.o c _ _::r=>c::nmK r
def nmO:List OPl→List Nat
 |[]=>[]
 |.otmp _ c _ _::r=>c::nmO r
 |.sblk b ks::r=>b::(nmK ks++nmO r)
 |.arr b _ _::r=>b::nmO r
 |.lp l _::r=>l::nmO r
 |.dfd b::r=>b::nmO r
 |.mpl b _ _ _::r=>b::nmO r
theorem Zs {n:Nat}:∀{dl:List DPl} {x:DS dl},n∉nmD dl→zn (hpD dl x) n=none
 |[],x,h=>rfl
 |.tmp _ _::r,x,h=>Zs (dl:=r) (x:=x.2) h
 |.blk b t::r,x,h=>by
  simp only [nmD,List.mem_cons,not_or] at h
  simp only [hpD]
  rw [zK,if_neg (Ne.symm h.1)]
  exact Zs h.2
 |.frz b ks::r,x,h=>Zs (dl:=r) (x:=x.2) h
 |.npt _::r,x,h=>Zs (dl:=r) (x:=x.2) h
theorem zaR {n:Nat}:∀{ks:List CK} {x:CS ks},n∉nmK ks→zn (Qe ks x) n=none
 |[],x,h=>rfl
 |.d t::r,x,h=>zaR (ks:=r) (x:=x.2) h
 |.o c nn t::r,x,h=>by
  simp only [nmK,List.mem_cons,not_or] at h
  simp only [Qe]
  rw [zK,if_neg (Ne.symm h.1)]
  exact zaR h.2
theorem Qv {n:Nat}:∀{ol:List OPl} {vs:List LSt} {y:OS ol},n∉nmO ol→zn (hpO ol vs y) n=none
 |[],vs,y,h=>rfl
 |.otmp _ c nn t::r,vs,y,h=>by
  simp only [nmO,List.mem_cons,not_or] at h
  simp only [hpO]
  rw [zK,if_neg (Ne.symm h.1)]
  exact Qv h.2
 |.sblk b ks::r,vs,y,h=>by
  simp only [nmO,List.mem_cons,List.mem_append,not_or] at h
  simp only [hpO]
  rw [zK,if_neg (Ne.symm h.1),zX,zaR h.2.1]
  exact Qv h.2.2
 |.arr b nn t::r,vs,y,h=>by
  simp only [nmO,List.mem_cons,not_or] at h
  simp only [hpO]
  rw [zK,if_neg (Ne.symm h.1)]
  exact Qv h.2
 |.lp b L::r,vs,y,h=>by
  simp only [nmO,List.mem_cons,not_or] at h
  simp only [hpO]
  rw [zK,if_neg (Ne.symm h.1)]
  exact Qv h.2
 |.dfd b::r,vs,y,h=>by
  simp only [nmO,List.mem_cons,not_or] at h
  simp only [hpO]
  rw [zK,if_neg (Ne.symm h.1)]
  exact Qv h.2
 |.mpl b _ _ _::r,vs,y,h=>by
  simp only [nmO,List.mem_cons,not_or] at h
  simp only [hpO]
  rw [zK,if_neg (Ne.symm h.1)]
  exact Qv h.2
def zuv (HT:SH):(ks:List CK)→CS ks→Prop
 |[],_=>True
 |.d _::r,x=>zuv HT r x.2
 |.o c nn t::r,x=>zn HT c=some (.arr nn t x.1)∧zuv HT r x.2
theorem zuw:∀(ks:List CK) (x:CS ks) (pre post:SH),(nmK ks).Nodup→(∀n∈nmK ks,zn pre n=none)→zuv (pre++(Qe ks x++post)) ks x
 |[],x,pre,post,hn,hp=>trivial
 |.d t::r,x,pre,post,hn,hp=>zuw r x.2 pre post hn hp
 |.o c nn t::r,x,pre,post,hn,hp=>by
  simp only [nmK,List.nodup_cons] at hn
  simp only [nmK,List.mem_cons,forall_eq_or_imp] at hp
  refine ⟨?_,?_⟩
  ·simp only [Qe]
   rw [zX,hp.1]
   simp [zK]
  ·have:=zuw r x.2 (pre++[(c,.arr nn t x.1)]) post hn.2 (fun n hm=>by
    rw [zX,hp.2 n hm]
    show zn [(c,_)] n=none
    rw [zK,if_neg (fun e=>hn.1 (by rw [e];exact hm))];rfl)
   have e:pre++[(c,SB.arr nn t x.1)]++(Qe r x.2++post)=pre++(Qe (.o c nn t::r) x++post):=by simp [Qe]
   rw [e] at this;exact this
def WR (HT:SH):(ol:List OPl)→OS ol→Prop
 |[],_=>True
 |.otmp _ c nn t::r,y=>zn HT c=some (.arr nn t y.1)∧WR HT r y.2
 |.sblk _ ks::r,y=>zuv HT ks y.1∧WR HT r y.2
 |.arr b nn t::r,y=>zn HT b=some (.arr nn t y.1)∧WR HT r y.2
 |.lp _ _::r,y=>WR HT r y.2
 |.dfd _::r,y=>WR HT r y.2
 |.mpl _ _ _ _::r,y=>WR HT r y.2
theorem Ks:∀(ol:List OPl) (vs:List LSt) (y:OS ol) (pre post:SH),(nmO ol).Nodup→(∀n∈nmO ol,zn pre n=none)→WR (pre++(hpO ol vs y++post)) ol y
 |[],vs,y,pre,post,hn,hp=>trivial
 |.otmp i c nn t::r,vs,y,pre,post,hn,hp=>by
  simp only [nmO,List.nodup_cons] at hn
  simp only [nmO,List.mem_cons,forall_eq_or_imp] at hp
  refine ⟨?_,?_⟩
  ·simp only [hpO]
   rw [zX,hp.1]
   simp [zK]
  ·have:=Ks r vs y.2 (pre++[(c,.arr nn t y.1)]) post hn.2 (fun n hm=>by
    rw [zX,hp.2 n hm]
    show zn [(c,_)] n=none
    rw [zK,if_neg (fun e=>hn.1 (by rw [e];exact hm))];rfl)
   have e:pre++[(c,SB.arr nn t y.1)]++(hpO r vs y.2++post)=pre++(hpO (.otmp i c nn t::r) vs y++post):=by simp [hpO]
   rw [e] at this;exact this
 |.sblk b ks::r,vs,y,pre,post,hn,hp=>by
  simp only [nmO,List.nodup_cons,List.mem_append,not_or,List.nodup_append] at hn
  simp only [nmO,List.mem_cons,List.mem_append,forall_eq_or_imp] at hp
  refine ⟨?_,?_⟩
  ·have:=zuw ks y.1 (pre++[(b,.vars (zcs ks y.1))]) (hpO r vs y.2++post) hn.2.1 (fun n hm=>by
    rw [zX,hp.2 n (.inl hm)]
    show zn [(b,_)] n=none
    rw [zK,if_neg (fun e=>hn.1.1 (by rw [e];exact hm))];rfl)
   have e:(pre++[(b,SB.vars (zcs ks y.1))])++(Qe ks y.1++(hpO r vs y.2++post))=pre++(hpO (.sblk b ks::r) vs y++post):=by
    simp [hpO]
   rw [e] at this;exact this
  ·have:=Ks r vs y.2 (pre++(b,.vars (zcs ks y.1))::Qe ks y.1) post hn.2.2.1 (fun n hm=>by
    rw [zX,hp.2 n (.inr hm)]
    show zn ((b,_)::_) n=none
    rw [zK,if_neg (fun e=>hn.1.2 (by rw [e];exact hm))]
    exact zaR (fun h=>hn.2.2.2 n h n hm rfl))
   have e:(pre++(b,.vars (zcs ks y.1))::Qe ks y.1)++(hpO r vs y.2++post)=pre++(hpO (.sblk b ks::r) vs y++post):=by
    simp [hpO]
   rw [e] at this;exact this
 |.arr b nn t::r,vs,y,pre,post,hn,hp=>by
  simp only [nmO,List.nodup_cons] at hn
  simp only [nmO,List.mem_cons,forall_eq_or_imp] at hp
  refine ⟨?_,?_⟩
  ·simp only [hpO]
   rw [zX,hp.1]
   simp [zK]
  ·have:=Ks r vs y.2 (pre++[(b,.arr nn t y.1)]) post hn.2 (fun n hm=>by
    rw [zX,hp.2 n hm]
    show zn [(b,_)] n=none
    rw [zK,if_neg (fun e=>hn.1 (by rw [e];exact hm))];rfl)
   have e:(pre++[(b,SB.arr nn t y.1)])++(hpO r vs y.2++post)=pre++(hpO (.arr b nn t::r) vs y++post):=by simp [hpO]
   rw [e] at this;exact this
 |.lp b L::r,vs,y,pre,post,hn,hp=>by
  simp only [nmO,List.nodup_cons] at hn
  simp only [nmO,List.mem_cons,forall_eq_or_imp] at hp
  have:=Ks r vs.tail y.2 (pre++[(b,.loop (stO L vs))]) post hn.2 (fun n hm=>by
    rw [zX,hp.2 n hm]
    show zn [(b,_)] n=none
    rw [zK,if_neg (fun e=>hn.1 (by rw [e];exact hm))];rfl)
  have e:(pre++[(b,SB.loop (stO L vs))])++(hpO r vs.tail y.2++post)=pre++(hpO (.lp b L::r) vs y++post):=by simp [hpO]
  rw [e] at this;exact this
 |.dfd b::r,vs,y,pre,post,hn,hp=>by
  simp only [nmO,List.nodup_cons] at hn
  simp only [nmO,List.mem_cons,forall_eq_or_imp] at hp
  have:=Ks r vs y.2 (pre++[(b,.defd)]) post hn.2 (fun n hm=>by
    rw [zX,hp.2 n hm]
    show zn [(b,_)] n=none
    rw [zK,if_neg (fun e=>hn.1 (by rw [e];exact hm))];rfl)
  have e:(pre++[(b,SB.defd)])++(hpO r vs y.2++post)=pre++(hpO (.dfd b::r) vs y++post):=by simp [hpO]
  rw [e] at this;exact this
 |.mpl b k ag t::r,vs,y,pre,post,hn,hp=>by
  simp only [nmO,List.nodup_cons] at hn
  simp only [nmO,List.mem_cons,forall_eq_or_imp] at hp
  have:=Ks r vs y.2 (pre++[(b,.mpb k ag t y.1)]) post hn.2 (fun n hm=>by
    rw [zX,hp.2 n hm]
    show zn [(b,_)] n=none
    rw [zK,if_neg (fun e=>hn.1 (by rw [e];exact hm))];rfl)
  have e:(pre++[(b,SB.mpb k ag t y.1)])++(hpO r vs y.2++post)=pre++(hpO (.mpl b k ag t::r) vs y++post):=by simp [hpO]
  rw [e] at this;exact this
theorem zCs {φ2 φ3:Ren} {b b' o n c:Nat} (h:φ3 b=φ2 b') {v':Value} (hv:zt φ2 (.slice (some ⟨b',o,none⟩) n c) v'):zt φ3 (.slice (some ⟨b,o,none⟩) n c) v':=by
 cases hv with
 |sl _ _ _ _ L hL hc=>exact .sl _ _ _ _ L (by rw [h];exact hL) hc
 |slO _ _ _ _ c' L hL hc hn hl=>exact .slO _ _ _ _ c' L (by rw [h];exact hL) hc hn hl
 |slE _ _ _ a' L hL hc=>exact .slE _ _ _ a' L (by rw [h];exact hL) hc
theorem zBi {φ2 φ3:Ren} {ν:Nat→Bool} {nx c:Nat} {nn:Bool} {t:Ty} {H HT:SH} {u:SV} {x:List (T t)} {s:List (Nat×Nat)} (h:rdO nn t H c u=some (x,s)) (hv:VN ν nx H) (hv3:∀b,jv (zn HT b)=true→ν b=false)
  (hs:∀p∈s,φ3 p.1=φ2 p.2) (hT:zn HT c=some (.arr nn t x)) {v':Value} (hr:zt φ2 (den (rho ν H) u) v'):zt φ3 (den (rho ν HT) (.own c)) v':=by
 unfold rdO at h
 simp only [den]
 rw [YM ν (nn:=nn) (t:=t) (l:=x) (by rw [hT];rfl)]
 split at h
 ·cases nn with
  |true=>cases h
  |false=>cases h;simp only [den] at hr;cases hr;exact .slN _ _
 ·rename_i c'
  split at h
  ·rename_i nn' t' l hc'
   split at h
   ·rename_i ht
    subst ht
    have h6:=zE h
    clear h
    obtain ⟨hq,h⟩:=h6
    have:=ziD hq
    subst this
    cases h
    simp only [den] at hr
    rw [YM ν (nn:=nn') (t:=t') (l:=l) (by rw [hc'];rfl)] at hr
    have he:WL rfl l=l:=rfl
    rw [he]
    cases hn:wb nn' l with
    |true=>rw [hn] at hr;cases hr;exact .slN _ _
    |false=>rw [hn] at hr;exact zCs (hs (c,c') (by simp)) hr
   ·cases h
  ·cases h
 ·cases h
theorem zux {φ2 φ3:Ren} {ν:Nat→Bool} {nx:Nat} {H HT:SH} (g:zI φ2 (zH ν H) K w) (hv:VN ν nx H) (hv3:∀b,jv (zn HT b)=true→ν b=false) (hF:∀b L,φ2 (FZ+b)=some L→φ3 (FZ+b)=some L) :
  ∀{ks:List CK} {us:List SV} {x:CS ks} {s:List (Nat×Nat)},rdK ks us H=some (x,s)→(∀p∈s,φ3 p.1=φ2 p.2)→zuv HT ks x→∀{vs:List Value},zD φ2 (zu (rho ν H) us) vs→zD φ3 (zu (rho ν HT) (zcs ks x)) vs
 |[],[],x,s,h,hs,hT,vs,hr=>by
  match vs,hr with
  |[],_=>trivial
  |_::_,hr=>simp [zu,zD] at hr
 |.d t::r,us,x,s,h,hs,hT,vs,hr=>by
  simp only [rdK] at h
  split at h
  case h_2=>cases h
  rename_i z us1 h1
  split at h
  case h_2=>cases h
  rename_i y s' h2
  cases h
  obtain ⟨cs,rfl,_,hc⟩:=zaM t (zzb t h1)
  rw [qD,List.map_append] at hr
  have hlen:=hr.length
  obtain ⟨u1,u2,rfl,hl1⟩:∃u1 u2,vs=u1++u2∧u1.length=cs.length:=⟨vs.take cs.length,vs.drop cs.length,by simp,by simp at hlen ⊢;omega⟩
  have hsplit:zD φ2 (cs.map (den (rho ν H))) u1∧zD φ2 (us1.map (den (rho ν H))) u2:=by
   have h3:=hr.take (cs.length)
   have h4:=hr.drop (cs.length)
   rw [List.take_append_of_le_length (by simp),List.take_append_of_le_length (by omega),List.take_of_length_le (by simp),List.take_of_length_le (by omega)] at h3
   rw [List.drop_append_of_le_length (by simp),List.drop_append_of_le_length (by omega),List.drop_eq_nil_of_le (by simp),List.drop_eq_nil_of_le (by omega)] at h4
   exact ⟨h3,h4⟩
  simp only [zcs]
  rw [qD,List.map_append,yC]
  refine zD.append ?_ ?_
  ·exact ze4 hF (hc ν H (GLe.refl _) φ2 K w nx u1 g hv (by rw [qD];exact hsplit.1))
  ·have:=zux g hv hv3 hF h2 (fun p hp=>hs p hp) hT (vs:=u2) (by rw [qD];exact hsplit.2)
   rw [qD] at this;exact this
 |.o c nn t::r,u::us,x,s,h,hs,hT,vs,hr=>by
  simp only [rdK] at h
  split at h
  case h_2=>cases h
  rename_i z s1 h1
  split at h
  case h_2=>cases h
  rename_i y s' h2
  cases h
  match vs,hr with
  |[],hr=>simp [zu,zD] at hr
  |v::vs,hr=>
   simp only [zu,zD,zcs] at hr ⊢
   exact ⟨zBi h1 hv hv3 (fun p hp=>hs p (by simp [hp])) hT.1 hr.1,zux g hv hv3 hF h2 (fun p hp=>hs p (by simp [hp])) hT.2 hr.2⟩
 |[],_::_,_,_,h,_,_,_,_=>by simp [rdK] at h
 |.o _ _ _::_,[],_,_,h,_,_,_,_=>by simp [rdK] at h
theorem zGW {nn:Bool} {t:Ty} {H:SH} {c:Nat} {x:List (T t)×List (Nat×Nat)} (h:rdO nn t H c .junk=some x):False:=by simp [rdO] at h
theorem GI {φ2 φ3:Ren} {ν:Nat→Bool} {H HT:SH} {nx:Nat} {ts:Array Value} (hv:VN ν nx H) (hv3:∀b,jv (zn HT b)=true→ν b=false) {tm:List SV} (ht:qX φ2 (zu (rho ν H) tm) ts) :
  ∀{ol:List OPl} {vs:List LSt} {y:OS ol} {σ:List (Nat×Nat)},bkO ol vs tm H=some (y,σ)→WR HT ol y→(∀p∈σ,φ3 p.1=φ2 p.2)→∀{tm0:List SV},qX φ3 (zu (rho ν HT) tm0) ts→qX φ3 (zu (rho ν HT) (tmO ol y tm0)) ts
 |[],vs,y,σ,h,hO,hσ,tm0,h0=>by simpa only [tmO] using h0
 |.otmp i c nn t::r,vs,y,σ,h,hO,hσ,tm0,h0=>by
  simp only [bkO] at h
  split at h
  case h_2=>cases h
  rename_i u hu
  split at h
  case h_2=>cases h
  rename_i x s h1
  split at h
  case h_2=>cases h
  rename_i y' σ' h2
  cases h
  simp only [tmO]
  refine GI hv hv3 ht h2 hO.2 (fun p hp=>hσ p (by simp [hp])) ?_
  rw [xQ] at hu
  rcases ht.2 i (den (rho ν H) u) (by rw [wZ,hu];rfl) with hq | ⟨v',q1,q2⟩
  ·have:=ze5 hq;subst this;exact (zGW h1).elim
  ·rw [Zm]
   have:zu (rho ν HT) (tm0.set i (.own c))=(zu (rho ν HT) tm0).set i (den (rho ν HT) (.own c)):=by simp [qD,List.map_set]
   rw [this]
   exact zuu h0 q1 (zBi h1 hv hv3 (fun p hp=>hσ p (by simp [hp])) hO.1 q2)
 |.sblk b ks::r,vs,y,σ,h,hO,hσ,tm0,h0=>by
  simp only [bkO] at h
  split at h
  case h_2=>cases h
  split at h
  case h_2=>cases h
  split at h
  case h_2=>cases h
  rename_i h2
  cases h
  simp only [tmO]
  exact GI hv hv3 ht h2 hO.2 (fun p hp=>hσ p (by simp [hp])) h0
 |.arr b nn t::r,vs,y,σ,h,hO,hσ,tm0,h0=>by
  simp only [bkO] at h
  split at h
  case h_2=>cases h
  split at h
  case isFalse=>cases h
  obtain ⟨_,h⟩:=zE h
  split at h
  case h_2=>cases h
  rename_i h2
  cases h
  simp only [tmO]
  exact GI hv hv3 ht h2 hO.2 (fun p hp=>hσ p (by simp [hp])) h0
 |.lp b L::r,vs,y,σ,h,hO,hσ,tm0,h0=>by
  simp only [bkO] at h
  split at h
  case h_2=>cases h
  have h6:=zE h
  clear h
  obtain ⟨hq,h⟩:=h6
  split at h
  case h_2=>cases h
  rename_i h2
  cases h
  simp only [tmO]
  exact GI hv hv3 ht h2 hO (fun p hp=>hσ p (by simp [hp])) h0
 |.dfd b::r,vs,y,σ,h,hO,hσ,tm0,h0=>by
  simp only [bkO] at h
  split at h
  case h_2=>cases h
  split at h
  case h_2=>cases h
  rename_i h2
  cases h
  simp only [tmO]
  exact GI hv hv3 ht h2 hO (fun p hp=>hσ p (by simp [hp])) h0
 |.mpl b k ag t::r,vs,y,σ,h,hO,hσ,tm0,h0=>by
  simp only [bkO] at h
  split at h
  case h_2=>cases h
  split at h
  case isFalse=>cases h
  obtain ⟨_,h⟩:=zE h
  split at h
  case h_2=>cases h
  rename_i h2
  cases h
  simp only [tmO]
  exact GI hv hv3 ht h2 hO (fun p hp=>hσ p (by simp [hp])) h0
inductive zc0 (H HT:SH) (ol:List OPl) (σ:List (Nat×Nat)) (b s:Nat):SB→Prop
 |arr (nn:Bool) (t:Ty) (l:List (T t)) (h:zn H s=some (.arr nn t l)):zc0 H HT ol σ b s (.arr nn t l)
 |own (ks:List CK) (us:List SV) (x:CS ks) (s':List (Nat×Nat)) (hs:s=b) (h:zn H b=some (.vars us)) (hr:rdK ks us H=some (x,s')) (hσ:∀p∈s',p∈σ) (hT:zuv HT ks x):zc0 H HT ol σ b s (.vars (zcs ks x))
 |lp (L L':SL) (vs:List LSt) (hs:s=b) (hL:OPl.lp b L∈ol) (h:zn H b=some (.loop L')) (hq:stQ L' vs=true):zc0 H HT ol σ b s (.loop (stO L vs))
 |dfd (hs:s=b) (h:zn H b=some .defd):zc0 H HT ol σ b s .defd
 |mp (k:IntKind) (ag:Bool) (t:Ty) (l:List (Int×T t)) (hs:s=b) (h:zn H b=some (.mpb k ag t l)):zc0 H HT ol σ b s (.mpb k ag t l)
theorem zc0.more {H HT:SH} {ol:List OPl} {p:OPl} {σ σ':List (Nat×Nat)} (hσ:∀q∈σ,q∈σ') {b s:Nat} {k:SB} (h:zc0 H HT ol σ b s k):zc0 H HT (p::ol) σ' b s k:=by
 cases h with
 |arr nn t l h=>exact .arr nn t l h
 |own ks us x s' hs h hr h1 hT=>exact .own ks us x s' hs h hr (fun q hq=>hσ q (h1 q hq)) hT
 |lp L L' vs hs hL h hq=>exact .lp L L' vs hs (List.mem_cons_of_mem _ hL) h hq
 |dfd hs h=>exact .dfd hs h
 |mp k ag t l hs h=>exact .mp k ag t l hs h
theorem zzd {nn:Bool} {t:Ty} {H:SH} {c:Nat} {u:SV} {l:List (T t)} {s:List (Nat×Nat)} (h:rdO nn t H c u=some (l,s)):(nn=false∧l=[])∨∃c',s=[(c,c')]∧zn H c'=some (.arr nn t l):=by
 unfold rdO at h
 split at h
 ·cases nn with
  |true=>cases h
  |false=>cases h;exact .inl ⟨rfl,rfl⟩
 ·rename_i c'
  split at h
  ·rename_i nn' t' l' hc'
   split at h
   ·rename_i ht
    subst ht
    have h6:=zE h
    clear h
    obtain ⟨hq,h⟩:=h6
    have:=ziD hq
    subst this
    cases h
    exact .inr ⟨c',rfl,hc'⟩
   ·cases h
  ·cases h
 ·cases h
def zFt (k:SB):Prop:=∃t,k=.arr false t []
theorem zuy {H:SH}:∀{ks:List CK} {us:List SV} {x:CS ks} {s:List (Nat×Nat)},rdK ks us H=some (x,s)→∀{b:Nat} {k:SB},zn (Qe ks x) b=some k→zFt k∨∃s',(b,s')∈s∧∃(nn:Bool) (t:Ty) (l:List (T t)),k=.arr nn t l∧zn H s'=some (.arr nn t l)
 |[],us,x,s,h,b,k,hk=>by simp [Qe,Ko] at hk
 |.d t::r,us,x,s,h,b,k,hk=>by
  simp only [rdK] at h
  split at h
  case h_2=>cases h
  split at h
  case h_2=>cases h
  rename_i y s' h2
  cases h
  exact zuy h2 hk
 |.o c nn t::r,u::us,x,s,h,b,k,hk=>by
  simp only [rdK] at h
  split at h
  case h_2=>cases h
  rename_i z s1 h1
  split at h
  case h_2=>cases h
  rename_i y s' h2
  cases h
  simp only [Qe] at hk
  rw [zK] at hk
  by_cases hb:c=b
  ·subst hb
   simp only [if_true,Option.some.injEq] at hk
   subst hk
   rcases zzd h1 with ⟨rfl,rfl⟩ | ⟨c',rfl,h3⟩
   ·exact .inl ⟨t,rfl⟩
   ·exact .inr ⟨c',by simp,nn,t,z,rfl,h3⟩
  ·rw [if_neg hb] at hk
   rcases zuy h2 hk with h3 | ⟨s2,h3,h4⟩
   ·exact .inl h3
   ·exact .inr ⟨s2,by simp [h3],h4⟩
 |.o _ _ _::_,[],_,_,h,_,_,_=>by simp [rdK] at h
theorem Kt {tm:List SV} {H HT:SH}:∀{ol:List OPl} {vs:List LSt} {y:OS ol} {σ:List (Nat×Nat)},bkO ol vs tm H=some (y,σ)→WR HT ol y→∀{b:Nat} {k:SB},zn (hpO ol vs y) b=some k→zFt k∨∃s,(b,s)∈σ∧zc0 H HT ol σ b s k
 |[],vs,y,σ,h,hO,b,k,hk=>by simp [hpO,Ko] at hk
 |.otmp i c nn t::r,vs,y,σ,h,hO,b,k,hk=>by
  simp only [bkO] at h
  split at h
  case h_2=>cases h
  rename_i u hu
  split at h
  case h_2=>cases h
  rename_i x s h1
  split at h
  case h_2=>cases h
  rename_i y' σ' h2
  cases h
  simp only [hpO] at hk
  rw [zK] at hk
  by_cases hb:c=b
  ·subst hb
   simp only [if_true,Option.some.injEq] at hk
   subst hk
   rcases zzd h1 with ⟨rfl,rfl⟩ | ⟨c',rfl,h3⟩
   ·exact .inl ⟨t,rfl⟩
   ·exact .inr ⟨c',by simp,.arr nn t x h3⟩
  ·rw [if_neg hb] at hk
   rcases Kt h2 hO.2 hk with h3 | ⟨s',h3,h4⟩
   ·exact .inl h3
   ·exact .inr ⟨s',by simp [h3],h4.more fun q hq=>by simp [hq]⟩
 |.sblk b0 ks::r,vs,y,σ,h,hO,b,k,hk=>by
  simp only [bkO] at h
  split at h
  case h_2=>cases h
  rename_i us hu
  split at h
  case h_2=>cases h
  rename_i x s h1
  split at h
  case h_2=>cases h
  rename_i y' σ' h2
  cases h
  simp only [hpO] at hk
  have rest:zn (hpO r vs y') b=some k→zFt k∨∃s',(b,s')∈(b0,b0)::(s++σ')∧zc0 H HT (.sblk b0 ks::r) ((b0,b0)::(s++σ')) b s' k:=fun hk=>by
   rcases Kt h2 hO.2 hk with h3 | ⟨s',h3,h4⟩
   ·exact .inl h3
   ·exact .inr ⟨s',by simp [h3],h4.more fun q hq=>by simp [hq]⟩
  rw [zK] at hk
  by_cases hb0:b0=b
  ·subst hb0
   simp only [if_true,Option.some.injEq] at hk
   subst hk
   exact .inr ⟨b0,by simp,.own ks us x s rfl hu h1 (fun p hp=>by simp [hp]) hO.1⟩
  ·rw [if_neg hb0,zX] at hk
   split at hk
   ·rename_i kk hkk
    cases hk
    rcases zuy h1 hkk with h3 | ⟨s',h3,nn,t,l,rfl,h4⟩
    ·exact .inl h3
    ·exact .inr ⟨s',by simp [h3],.arr nn t l h4⟩
   ·exact rest hk
 |.arr b0 nn t::r,vs,y,σ,h,hO,b,k,hk=>by
  simp only [bkO] at h
  split at h
  case h_2=>cases h
  rename_i nn' t' l hl
  split at h
  case isFalse=>cases h
  rename_i ht
  subst ht
  have h6:=zE h
  clear h
  obtain ⟨hq,h⟩:=h6
  have:=ziD hq
  subst this
  split at h
  case h_2=>cases h
  rename_i y' σ' h2
  cases h
  simp only [hpO] at hk
  rw [zK] at hk
  by_cases hb0:b0=b
  ·subst hb0
   simp only [if_true,Option.some.injEq] at hk
   subst hk
   exact .inr ⟨b0,by simp,.arr _ _ _ hl⟩
  ·rw [if_neg hb0] at hk
   rcases Kt h2 hO.2 hk with h3 | ⟨s',h3,h4⟩
   ·exact .inl h3
   ·exact .inr ⟨s',by simp [h3],h4.more fun q hq=>by simp [hq]⟩
 |.lp b0 L::r,vs,y,σ,h,hO,b,k,hk=>by
  simp only [bkO] at h
  split at h
  case h_2=>cases h
  rename_i L' hl
  have h6:=zE h
  clear h
  obtain ⟨hq,h⟩:=h6
  split at h
  case h_2=>cases h
  rename_i y' σ' h2
  cases h
  simp only [hpO] at hk
  rw [zK] at hk
  by_cases hb0:b0=b
  ·subst hb0
   simp only [if_true,Option.some.injEq] at hk
   subst hk
   exact .inr ⟨b0,by simp,.lp L L' vs rfl (by simp) hl hq⟩
  ·rw [if_neg hb0] at hk
   rcases Kt h2 hO hk with h3 | ⟨s',h3,h4⟩
   ·exact .inl h3
   ·exact .inr ⟨s',by simp [h3],h4.more fun q hq=>by simp [hq]⟩
 |.dfd b0::r,vs,y,σ,h,hO,b,k,hk=>by
  simp only [bkO] at h
  split at h
  case h_2=>cases h
  rename_i hl
  split at h
  case h_2=>cases h
  rename_i y' σ' h2
  cases h
  simp only [hpO] at hk
  rw [zK] at hk
  by_cases hb0:b0=b
  ·subst hb0
   simp only [if_true,Option.some.injEq] at hk
   subst hk
   exact .inr ⟨b0,by simp,.dfd rfl hl⟩
  ·rw [if_neg hb0] at hk
   rcases Kt h2 hO hk with h3 | ⟨s',h3,h4⟩
   ·exact .inl h3
   ·exact .inr ⟨s',by simp [h3],h4.more fun q hq=>by simp [hq]⟩
 |.mpl b0 k0 ag t::r,vs,y,σ,h,hO,b,k,hk=>by
  simp only [bkO] at h
  split at h
  case h_2=>cases h
  rename_i k' ag' t' l hl
  split at h
  case isFalse=>cases h
  rename_i ht
  subst ht
  have h6:=zE h
  clear h
  obtain ⟨hq,h⟩:=h6
  simp only [Bool.and_eq_true] at hq
  have:=Wd hq.1
  subst this
  have:=ziD hq.2
  subst this
  split at h
  case h_2=>cases h
  rename_i y' σ' h2
  cases h
  simp only [hpO] at hk
  rw [zK] at hk
  by_cases hb0:b0=b
  ·subst hb0
   simp only [if_true,Option.some.injEq] at hk
   subst hk
   exact .inr ⟨b0,by simp,.mp _ _ _ _ rfl hl⟩
  ·rw [if_neg hb0] at hk
   rcases Kt h2 hO hk with h3 | ⟨s',h3,h4⟩
   ·exact .inl h3
   ·exact .inr ⟨s',by simp [h3],h4.more fun q hq=>by simp [hq]⟩
def lkS (σ:List (Nat×Nat)) (b:Nat):Nat:=List.rec (motive:=fun _=>Nat) b (fun p _ ih=>bif Nat.beq p.1 b then p.2 else ih) σ
def idD (dl:List DPl):List (Nat×Nat):=(nmD dl).map fun b=>(b,b)
def GJ (σ:List (Nat×Nat)):Bool:=σ.all fun p=>Nat.beq (lkS σ p.1) p.2&&σ.all fun q=>Nat.beq p.1 q.1||!Nat.beq p.2 q.2
theorem zoA {σ:List (Nat×Nat)} (h:GJ σ=true) {b s:Nat} (hp:(b,s)∈σ):lkS σ b=s:=by
 unfold GJ at h
 rw [List.all_eq_true] at h
 have:=h _ hp
 simp only [Bool.and_eq_true] at this
 exact Nat.eq_of_beq_eq_true this.1
theorem zFu {σ:List (Nat×Nat)} (h:GJ σ=true) {b c s:Nat} (hp:(b,s)∈σ) (hq:(c,s)∈σ):b=c:=by
 unfold GJ at h
 rw [List.all_eq_true] at h
 have:=h _ hp
 simp only [Bool.and_eq_true] at this
 have h2:=this.2
 rw [List.all_eq_true] at h2
 have h3:=h2 _ hq
 simp only [Bool.or_eq_true] at h3
 rcases h3 with h3 | h3
 ·exact Nat.eq_of_beq_eq_true h3
 ·have:Nat.beq s s=true:=Nat.beq_refl s
  simp [] at h3
theorem zv9 {φ:Ren} {arr:Array Value}:∀{cs:List Value} {o:Nat},(∀(j:Nat) v,cs[j]?=some v→∃v',arr[o+j]?=some v'∧zt φ v v')→∃us,zD φ cs us∧∀(j:Nat) u,us[j]?=some u→arr[o+j]?=some u
 |[],o,h=>⟨[],trivial,fun j u hu=>by simp at hu⟩
 |c::cs,o,h=>by
  obtain ⟨v',h1,h2⟩:=h 0 c rfl
  obtain ⟨us,h3,h4⟩:=zv9 (cs:=cs) (o:=o+1) (fun j v hv=>by
   obtain ⟨u,q1,q2⟩:=h (j+1) v (by simpa using hv)
   exact ⟨u,by rw [←q1];congr 1;omega,q2⟩)
  refine ⟨v'::us,⟨h2,h3⟩,fun j u hu=>?_⟩
  cases j with
  |zero=>simp at hu;subst hu;exact h1
  |succ j=>simp at hu;have:=h4 j u hu;rw [←this];congr 1;omega
theorem zaS {φ2 φ3:Ren} {L:Loc} {cs ds:List Value} {ro:Bool} (h:jO φ2 w L (.cells cs ro)) (hc:∀us,zD φ2 cs us→zD φ3 ds us):jO φ3 w L (.cells ds ro):=by
 obtain ⟨arr,el,fr,h1,h2,h3⟩:=h
 obtain ⟨us,q1,q2⟩:=zv9 h2
 refine ⟨arr,el,fr,h1,fun j v hv=>?_,h3⟩
 obtain ⟨u,e1,e2⟩:=(hc us q1).get hv
 exact ⟨u,q2 j u e1,e2⟩
theorem zCt {φ φ0:Ren} (hF:∀b L,φ (FZ+b)=some L→φ0 (FZ+b)=some L) {t:Ty} {l:List (T t)} {us:List Value} (h:zD φ (qb t l) us):zD φ0 (qb t l) us:=by
 refine zD.of_get h.length fun i v v' hv hv'=>?_
 obtain ⟨u,h1,h2⟩:=h.get hv
 rw [hv'] at h1;cases h1
 have hm:=List.mem_of_getElem? hv
 unfold qb at hm
 rw [List.mem_flatMap] at hm
 obtain ⟨x,hx,hc⟩:=hm
 exact QQ hF t x v hc _ h2
theorem zFv {φ φ0:Ren} (hF:∀b L,φ (FZ+b)=some L→φ0 (FZ+b)=some L) (ag:Bool) (t:Ty) (x:T t) {v':Value} (h:zt φ (mvV ag t x) v'):zt φ0 (mvV ag t x) v':=by
 cases ag with
 |true=>
  simp only [mvV,cond_true,wS] at h ⊢
  obtain ⟨ys,rfl,hl⟩:=h.agg_inv
  exact .agg' (by simpa using ze4 hF (by simpa using hl))
 |false=>
  simp only [mvV,cond_false] at h ⊢
  cases hc:qv t x with
  |nil=>rw [hc] at h;exact (by simp only [List.headD_nil,Fz.junk] at h;cases h)
  |cons a r=>
   rw [hc] at h
   simp only [List.headD_cons] at h ⊢
   exact QQ hF t x a (by rw [hc];simp) _ h
theorem zsj {φ φ0:Ren} (hF:∀b L,φ (FZ+b)=some L→φ0 (FZ+b)=some L) {k:IntKind} {ag:Bool} {t:Ty}:∀{l:List (Int×T t)} {i:Nat} {xs:List MapEntry},Qs φ (Zk k ag t l i) xs→Qs φ0 (Zk k ag t l i) xs
 |[],i,[],h=>trivial
 |[],i,_::_,h=>h.elim
 |p::r,i,[],h=>h.elim
 |p::r,i,e::xs,h=>⟨h.1,zFv hF ag t p.2 h.2.1,zsj hF h.2.2⟩
theorem zGX {φ φ0:Ren} (hF:∀b L,φ (FZ+b)=some L→φ0 (FZ+b)=some L) {L:Loc} {k:IntKind} {ag:Bool} {t:Ty} {l:List (Int×T t)} {i n:Nat} (h:jO φ w L (.mp (Zk k ag t l i) n)):jO φ0 w L (.mp (Zk k ag t l i) n):=by
 obtain ⟨xs,h1,⟨⟨ys,q1,q2⟩,q3⟩,h3⟩:=h
 exact ⟨xs,h1,⟨⟨ys,q1,zsj hF q2⟩,q3⟩,h3⟩
section
variable {φ2 φ3:Ren} {ν:Nat→Bool} {lo nx:Nat} {KA K':Nat→Prop} {Hs:Hp} {H HS HR HT:SH} {dl:List DPl} {ol:List OPl} {vs:List LSt} {tm:List SV} {x:DS dl} {y:OS ol} {σ:List (Nat×Nat)} {ns:List Nat}
theorem zDN (eT:HT=hpD dl x++(hpO ol vs y++HR)) (gA:zI φ2 (zH ν HS) KA w) (gB:zI φ2 Hs K' w) (hv:VN ν nx HS) (hv3:∀b,jv (zn HT b)=true→ν b=false)
  (hD:bkD dl tm H=some (x,HS)) (hO:bkO ol vs tm HS=some (y,σ)) (hQ:GJ (idD dl++σ)=true) (hs:∀p∈idD dl++σ,Hs.get p.2=(zH ν HS).get p.2)
  (h3:∀p∈idD dl++σ,φ3 p.1=φ2 p.2) (hφ:∀b,b < lo→φ3 b=φ2 b) (hF:∀b,φ3 (FZ+b)=φ2 (FZ+b)) (hOR:WR HT ol y)
  (hns:∀b∈ns,b < lo) (hr:∀b∈ns,reg (zn HT b)=reg (zn HS b))
  (hL:∀l L,OPl.lp l L∈ol→vC ns lo L.tm=true∧L.dfr < lo∧∀L',zn HS l=some (.loop L')→∃s p,L'={L with st:=s,pend:=p})
  (hR:∀b k,zn HR b=some k→∀kd,qa (rho ν HT) (ν b) k=some kd→kd.rw=false∧∃L,φ3 b=some L∧jO φ3 w L kd∧K' L.blk):zI φ3 (zH ν HT) K' w:=by
 have hF2:∀b L,φ2 (FZ+b)=some L→φ3 (FZ+b)=some L:=fun b L h=>by rw [hF];exact h
 have key:∀b k,zn (hpD dl x) b=some k∨zn (hpO ol vs y) b=some k→∀kd,qa (rho ν HT) (ν b) k=some kd→(jv (some k)=true→ν b=false)→∃s,(b,s)∈idD dl++σ∧kd.rw=true∧∃kd',(zH ν HS).get s=some kd'∧kd'.rw=true∧∀L,jO φ2 w L kd'→jO φ3 w L kd:=by
  intro b k hk kd hkd hnn
  rcases hk with hk | hk
  ·obtain ⟨t,z,cs,rfl,h1,h2⟩:=zct hD (GLe.refl _) hk
   have hm:b∈nmD dl:=by
    apply Classical.byContradiction
    intro hn;rw [Zs hn] at hk;cases hk
   simp only [qa,Option.some.injEq] at hkd
   subst hkd
   refine ⟨b,by simp [idD,hm],rfl,.cells (zu (rho ν HS) cs) false,by rw [zU,h1];rfl,rfl,fun L hb=>zaS hb fun us hu=>?_⟩
   have:=ze4 hF2 (h2 φ2 KA w nx us gA hv hu)
   rw [←yC (rho ν HT) t z] at this
   rw [qD];exact this
  ·rcases Kt hO hOR hk with ⟨t,rfl⟩ | ⟨s,hm,hc⟩
   ·simp [qa,wb] at hkd
   refine ⟨s,by simp [hm],?_⟩
   cases hc with
   |arr nn t l h=>
    simp only [qa] at hkd
    cases e2:wb nn l with
    |true=>rw [e2] at hkd;cases hkd
    |false=>
     rw [e2] at hkd
     simp only [cond_false,Option.some.injEq] at hkd
     subst hkd
     exact ⟨rfl,.cells (qb t l) false,by rw [zU,h];simp [qa,e2],rfl,fun L hb=>zaS hb fun us hu=>zCt hF2 hu⟩
   |own ks us0 z s' hs' h hr' hσ hT=>
    subst hs'
    simp only [qa,Option.some.injEq] at hkd
    subst hkd
    exact ⟨rfl,.cells (zu (rho ν HS) us0) false,by rw [zU,h];rfl,rfl,fun L hb=>zaS hb fun us hu=>zux gA hv hv3 hF2 hr' (fun p hp=>h3 p (by simp [hσ p hp])) hT hu⟩
   |lp L L' vs' hs' hL' h hq=>
    subst hs'
    simp only [qa,Option.some.injEq] at hkd
    subst hkd
    obtain ⟨l1,l2,l3⟩:=hL _ _ hL'
    obtain ⟨s1,p1,rfl⟩:=l3 _ h
    refine ⟨rfl,.loop (yx (rho ν HS) {L with st:=s1,pend:=p1}),by rw [zU,h];rfl,rfl,fun M hb=>?_⟩
    have hst:s1=(stO L vs').st∧p1=(stO L vs').pend:=by
     cases vs' with
     |nil=>simp [stQ] at hq
     |cons v r=>
      simp only [stQ,Bool.and_eq_true] at hq
      exact ⟨zDM hq.1,zFs hq.2⟩
    have hrest:(stO L vs').tm=L.tm∧(stO L vs').params=L.params∧(stO L vs').assign=L.assign∧(stO L vs').body=L.body∧(stO L vs').dfr=L.dfr:=by
     cases vs'<;>exact ⟨rfl,rfl,rfl,rfl,rfl⟩
    obtain ⟨l',f1,f2,f3,f4,f5,f6,f7,D,f8,f9⟩:=hb
    refine ⟨l',f1,?_,?_,?_,?_,?_,?_,D,?_,f9⟩
    ·rw [f2];exact hst.1
    ·rw [f3];exact hst.2
    ·refine ⟨?_,fun i v hv'=>?_⟩
     ·have:=f4.1
      simp only [yx,wL] at this ⊢
      rw [hrest.1];exact this
     ·simp only [yx,hrest.1] at hv'
      rw [wZ,Option.map_eq_some_iff] at hv'
      obtain ⟨u,hu,rfl⟩:=hv'
      rcases f4.2 i (den (rho ν HS) u) (by simp only [yx];rw [wZ,hu];rfl) with hq' | ⟨v',q1,q2⟩
      ·exact .inl (zjB (gn ν HS) hq')
      ·refine .inr ⟨v',q1,zoz hφ hF2 hns hr u v' ?_ q2⟩
       have:∀(l:List SV) (i:Nat) u,vC ns lo l=true→l[i]?=some u→GH ns lo u=true:=by
        intro l
        induction l with
        |nil=>intro i u _ h;simp at h
        |cons a l ih=>
         intro i u hl hi
         simp only [vC,Bool.and_eq_true] at hl
         cases i with
         |zero=>simp at hi;subst hi;exact hl.1
         |succ i=>exact ih i u hl.2 (by simpa using hi)
       exact this _ _ _ l1 hu
    ·simp only [yx,hrest.2.1];exact f5
    ·simp only [yx,hrest.2.2.1];exact f6
    ·simp only [yx,hrest.2.2.2.1];exact f7
    ·simp only [yx,hrest.2.2.2.2]
     rw [hφ _ l2];exact f8
   |dfd hs' h=>
    subst hs'
    simp only [qa,Option.some.injEq] at hkd
    subst hkd
    exact ⟨rfl,.defd,by rw [zU,h];rfl,rfl,fun L hb=>hb⟩
   |mp k ag t l hs' h=>
    subst hs'
    simp only [qa,Option.some.injEq] at hkd
    subst hkd
    exact ⟨rfl,.mp (Zk k ag t l 0) l.length,by rw [zU,h];rfl,rfl,fun L hb=>zGX hF2 hb⟩
 have split:∀b kd,(zH ν HT).get b=some kd→(∃s,(b,s)∈idD dl++σ∧kd.rw=true∧∃kd',Hs.get s=some kd'∧kd'.rw=true∧∀L,jO φ2 w L kd'→jO φ3 w L kd)∨(kd.rw=false∧∃L,φ3 b=some L∧jO φ3 w L kd∧K' L.blk):=by
  intro b kd hb
  rw [zU] at hb
  cases hk:zn HT b with
  |none=>rw [hk] at hb;cases hb
  |some k=>
   rw [hk] at hb
   simp only [Option.bind_some] at hb
   have hnn:jv (some k)=true→ν b=false:=fun h=>hv3 b (by rw [hk];exact h)
   rw [eT,zX,zX] at hk
   have fin:(zn (hpD dl x) b=some k∨zn (hpO ol vs y) b=some k)→(∃s,(b,s)∈idD dl++σ∧kd.rw=true∧∃kd',Hs.get s=some kd'∧kd'.rw=true∧∀L,jO φ2 w L kd'→jO φ3 w L kd)∨(kd.rw=false∧∃L,φ3 b=some L∧jO φ3 w L kd∧K' L.blk):=fun h=>by
    obtain ⟨s,e1,e2,kd',e3,e4,e5⟩:=key b k h kd hb hnn
    exact Or.inl ⟨s,e1,e2,kd',by rw [hs _ e1];exact e3,e4,e5⟩
   split at hk
   ·rename_i h1;cases hk;exact fin (.inl h1)
   ·split at hk
    ·rename_i h1;cases hk;exact fin (.inr h1)
    ·exact .inr (hR b k hk kd hb)
 refine zDI gB (lkS (idD dl++σ)) (fun b k hb=>?_) (fun b c k k' hb hc hk hk' hne=>?_) (fun b k hb hk=>?_) hF
 ·rcases split b k hb with ⟨s,e1,e2,kd',e3,e4,e5⟩ | h
  ·rw [zoA hQ e1]
   exact .inl ⟨kd',e3,h3 _ e1,e4,e5⟩
  ·exact .inr h
 ·rcases split b k hb with ⟨s,e1,_⟩ | ⟨h,_⟩
  ·rcases split c k' hc with ⟨s',e1',_⟩ | ⟨h,_⟩
   ·rw [zoA hQ e1,zoA hQ e1']
    intro e;subst e
    exact hne (zFu hQ e1 e1')
   ·rw [hk'] at h;cases h
  ·rw [hk] at h;cases h
 ·rcases split b k hb with ⟨s,e1,e2,_⟩ | ⟨_,h⟩
  ·rw [hk] at e2;cases e2
  ·exact h
end
end Go.Fz.Sy
namespace Go.Fz.Sy
variable {P:Program} {φ:Ren} {K:Nat→Prop} {w:World} {R:Type}
def zqs (pn:List Nat) (f:Nat→SB→SB):SH→SH
 |[]=>[]
 |(b,k)::r=>bif xr pn b then zqs pn f r else (b,f b k)::zqs pn f r
theorem xt (pn:List Nat) (f:Nat→SB→SB) (n:Nat):∀H:SH,zn (zqs pn f H) n=if n∈pn then none else (zn H n).map (f n)
 |[]=>by simp [zqs,Ko]
 |(b,k)::r=>by
  have ih:=xt pn f n r
  simp only [zqs]
  cases hm:xr pn b with
  |true=>
   rw [cond_true,ih]
   have hb:=(kG _ _).1 hm
   by_cases hn:n∈pn
   ·simp [hn]
   ·have:b≠n:=fun e=>hn (e▸hb)
    rw [if_neg hn,if_neg hn,zK,if_neg this]
  |false=>
   rw [cond_false,zK,zK]
   by_cases hbn:b=n
   ·subst hbn
    have hb:b∉pn:=fun h=>by rw [(kG _ _).2 h] at hm;cases hm
    simp [hb]
   ·rw [if_neg hbn,if_neg hbn,ih]
def yv (ns mv:List Nat) (lo:Nat) (b:Nat):SB→SB
 |.vars cs=>bif vC ns lo cs then .ro cs else .hid
 |.ro cs=>bif vC ns lo cs then .ro cs else .hid
 |.arr nn t l=>bif xr mv b then .gone (rsz nn t l) l.length else .roa nn t l
 |.roa nn t l=>.roa nn t l
 |.fro nn t l=>.fro nn t l
 |.gone s n=>.gone s n
 |.abs=>.abs
 |_=>.hid
def zjM (mv:List Nat) (b:Nat):SB→SB
 |.arr nn t l=>bif xr mv b then .gone (rsz nn t l) l.length else .arr nn t l
 |k=>k
theorem zmK (ns mv:List Nat) (lo b:Nat) (k:SB):reg (some (yv ns mv lo b k))=reg (some k):=by
 cases k with
 |vars cs=>simp only [yv];cases vC ns lo cs<;>rfl
 |ro cs=>simp only [yv];cases vC ns lo cs<;>rfl
 |arr nn t l=>simp only [yv];cases xr mv b<;>first | rfl | exact zfo _ _ _
 |_=>rfl
theorem zwa (mv:List Nat) (b:Nat) (k:SB):reg (some (zjM mv b k))=reg (some k):=by
 cases k with
 |arr nn t l=>simp only [zjM];cases xr mv b<;>first | rfl | exact zfo _ _ _
 |_=>rfl
def zhP:List OPl→List Nat
 |[]=>[]
 |.arr b _ _::r=>b::zhP r
 |.otmp _ _ _ _::r=>zhP r
 |.sblk _ _::r=>zhP r
 |.lp _ _::r=>zhP r
 |.dfd _::r=>zhP r
 |.mpl _ _ _ _::r=>zhP r
def Ua (lo n0:Nat) (σ:List (Nat×Nat)):Bool:=σ.all fun p=>Nat.blt p.1 n0&&(Nat.ble lo p.1||Nat.beq p.1 p.2)
def zFw (ns:List Nat) (dl:List DPl) (ol:List OPl):Bool:=ns.all fun b=>!xr (nmD dl) b&&(xr (zhP ol) b||!xr (nmO ol) b)
theorem GK {HS HT:SH} {tm:List SV}:∀{ol:List OPl} {vs:List LSt} {y:OS ol} {σ:List (Nat×Nat)},bkO ol vs tm HS=some (y,σ)→WR HT ol y→∀b∈zhP ol,reg (zn HT b)=reg (zn HS b)
 |[],vs,y,σ,h,hO,b,hb=>by cases hb
 |.otmp i c nn t::r,vs,y,σ,h,hO,b,hb=>by
  simp only [bkO] at h
  split at h
  case h_2=>cases h
  split at h
  case h_2=>cases h
  split at h
  case h_2=>cases h
  rename_i h2
  cases h
  exact GK h2 hO.2 b hb
 |.sblk b0 ks::r,vs,y,σ,h,hO,b,hb=>by
  simp only [bkO] at h
  split at h
  case h_2=>cases h
  split at h
  case h_2=>cases h
  split at h
  case h_2=>cases h
  rename_i h2
  cases h
  exact GK h2 hO.2 b hb
 |.arr b0 nn t::r,vs,y,σ,h,hO,b,hb=>by
  simp only [bkO] at h
  split at h
  case h_2=>cases h
  rename_i nn' t' l hl
  split at h
  case isFalse=>cases h
  rename_i ht
  subst ht
  have h6:=zE h
  clear h
  obtain ⟨hq,h⟩:=h6
  have:=ziD hq
  subst this
  split at h
  case h_2=>cases h
  rename_i h2
  cases h
  rcases List.mem_cons.1 hb with rfl | hb
  ·rw [hO.1,hl];rfl
  ·exact GK h2 hO.2 b hb
 |.lp b0 L::r,vs,y,σ,h,hO,b,hb=>by
  simp only [bkO] at h
  split at h
  case h_2=>cases h
  have h6:=zE h
  clear h
  obtain ⟨hq,h⟩:=h6
  split at h
  case h_2=>cases h
  rename_i h2
  cases h
  exact GK h2 hO b hb
 |.dfd b0::r,vs,y,σ,h,hO,b,hb=>by
  simp only [bkO] at h
  split at h
  case h_2=>cases h
  split at h
  case h_2=>cases h
  rename_i h2
  cases h
  exact GK h2 hO b hb
 |.mpl b0 k ag t::r,vs,y,σ,h,hO,b,hb=>by
  simp only [bkO] at h
  split at h
  case h_2=>cases h
  split at h
  case isFalse=>cases h
  obtain ⟨_,h⟩:=zE h
  split at h
  case h_2=>cases h
  rename_i h2
  cases h
  exact GK h2 hO b hb
structure Frm where
 dl:List DPl
 ol:List OPl
 tm0:List SV
 ns:List Nat
 mv:List Nat
 lo:Nat
 n0:Nat
 H1:SH
def Frm.pn (F:Frm):List Nat:=nmD F.dl++nmO F.ol
def Frm.HR (F:Frm):SH:=zqs F.pn (yv F.ns F.mv F.lo) F.H1
def Frm.HF (F:Frm):SH:=zqs F.pn (zjM F.mv) F.H1
def Frm.hp (F:Frm) (HX:SH) (vs:List LSt) (x:DS F.dl) (y:OS F.ol):SH:=hpD F.dl x++(hpO F.ol vs y++HX)
def Frm.tm (F:Frm) (x:DS F.dl) (y:OS F.ol):List SV:=tmO F.ol y (tmD F.dl x F.tm0)
structure Frm.Ok (F:Frm):Prop where
 names:F.pn.Nodup
 nsl:∀b∈F.ns,b < F.lo
 nsr:zFw F.ns F.dl F.ol=true
 lps:∀l L,OPl.lp l L∈F.ol→vC F.ns F.lo L.tm=true∧L.dfr < F.lo∧zn F.H1 l=some (.loop L)
 tml:vC F.ns F.lo F.tm0=true
 le:F.lo≤F.n0
def Frm.KX (F:Frm) (K:Nat→Prop) (φ1:Ren) (ν:Nat→Bool):Nat→Prop:=Sy.KX K φ1 (ka ν (rho ν F.H1) F.HR)
theorem zze {ns:List Nat} {lo:Nat}:∀{l:List SV} {i:Nat} {u:SV},vC ns lo l=true→l[i]?=some u→GH ns lo u=true
 |[],i,u,_,h=>by simp at h
 |a::l,i,u,hl,hi=>by
  simp only [vC,Bool.and_eq_true] at hl
  cases i with
  |zero=>simp at hi;subst hi;exact hl.1
  |succ i=>exact zze (l:=l) (i:=i) hl.2 (by simpa using hi)
theorem zCu {H HT:SH} {ol:List OPl} {vs:List LSt} {y:OS ol} {σ:List (Nat×Nat)} {tm:List SV} (h:bkO ol vs tm H=some (y,σ)) (hO:WR HT ol y) {b:Nat} (hk:jv (zn (hpO ol vs y) b)=true):∃s t l,(b,s)∈σ∧zn H s=some (.arr true t l):=by
 cases hs:zn (hpO ol vs y) b with
 |none=>rw [hs] at hk;cases hk
 |some k=>
  rw [hs] at hk
  rcases Kt h hO hs with ⟨t,rfl⟩ | ⟨s,h1,h2⟩
  ·cases hk
  cases h2 with
  |arr nn t l h=>
   have hk:nn=true:=hk
   subst hk
   exact ⟨s,t,l,h1,h⟩
  |own=>cases hk
  |lp=>cases hk
  |dfd=>cases hk
  |mp=>cases hk
structure Frm.Seen (F:Frm) (K:Nat→Prop) (φ1:Ren) (wE:World) (ν:Nat→Bool) (HX:SH) (vs:List LSt) (x:DS F.dl) (y:OS F.ol) (φ3:Ren) (w:World) (ts:Array Value):Prop where
 good:zI φ3 (zH ν (F.hp HX vs x y)) (F.KX K φ1 ν) w
 tms:qX φ3 (zu (rho ν (F.hp HX vs x y)) (F.tm x y)) ts
 ext:Ext (F.KX K φ1 ν) φ1 φ3 F.lo F.n0
 vn:VN ν F.n0 (F.hp HX vs x y)
 regs:∀b∈F.ns,reg (zn (F.hp HX vs x y) b)=reg (zn F.H1 b)
 went:qJ (F.KX K φ1 ν) wE w
section
variable {F:Frm} {φ1 φ2:Ren} {wE:World} {ν:Nat→Bool} {K KA:Nat→Prop} {M nx2:Nat}
theorem zaq (hF:F.Ok) (hvE:VN ν F.lo F.H1)
  {HS0 HS:SH} {tmS:List SV} {vs:List LSt} {x:DS F.dl} {y:OS F.ol} {σ:List (Nat×Nat)} (hv:VN ν nx2 HS)
  (hD:bkD F.dl tmS HS0=some (x,HS)) (hO:bkO F.ol vs tmS HS=some (y,σ)) (hN:Ua F.lo F.n0 (idD F.dl++σ)=true)
  (hregs:∀b∈F.ns,reg (zn HS b)=reg (zn F.H1 b)) :
  WR (F.hp F.HR vs x y) F.ol y∧(∀b,b∉F.pn→zn (F.hp F.HR vs x y) b=(zn F.H1 b).map (yv F.ns F.mv F.lo b))∧(∀b∈F.ns,reg (zn (F.hp F.HR vs x y) b)=reg (zn F.H1 b))∧VN ν F.n0 (F.hp F.HR vs x y):=by
 have hOR:WR (F.hp F.HR vs x y) F.ol y:=by
  have hn:=hF.names
  unfold Frm.pn at hn
  rw [List.nodup_append] at hn
  exact Ks F.ol vs y (hpD F.dl x) F.HR hn.2.1 fun n hm=>Zs fun h=>hn.2.2 n h n hm rfl
 have hRget:∀b,b∉F.pn→zn F.HR b=(zn F.H1 b).map (yv F.ns F.mv F.lo b):=fun b hb=>by
  unfold Frm.HR;rw [xt,if_neg hb]
 have hTget:∀b,b∉F.pn→zn (F.hp F.HR vs x y) b=(zn F.H1 b).map (yv F.ns F.mv F.lo b):=fun b hb=>by
  have h1:b∉nmD F.dl:=fun h=>hb (by simp [Frm.pn,h])
  have h2:b∉nmO F.ol:=fun h=>hb (by simp [Frm.pn,h])
  unfold Frm.hp
  rw [zX,Zs h1,zX,Qv h2]
  exact hRget b hb
 have hnsq:∀b∈F.ns,b∉nmD F.dl∧(b∈zhP F.ol∨b∉nmO F.ol):=fun b hb=>by
  have:=hF.nsr
  unfold zFw at this
  rw [List.all_eq_true] at this
  have h2:=this b hb
  simp only [Bool.and_eq_true,Bool.or_eq_true,Bool.not_eq_true'] at h2
  refine ⟨fun h=>?_,?_⟩
  ·rw [(kG _ _).2 h] at h2;cases h2.1
  ·rcases h2.2 with h3 | h3
   ·exact .inl ((kG _ _).1 h3)
   ·refine .inr fun h=>?_
    rw [(kG _ _).2 h] at h3;cases h3
 have hreg:∀b∈F.ns,reg (zn (F.hp F.HR vs x y) b)=reg (zn F.H1 b):=fun b hb=>by
  obtain ⟨h1,h2⟩:=hnsq b hb
  by_cases hm:b∈nmO F.ol
  ·have h3:b∈zhP F.ol:=by rcases h2 with h | h;exact h;exact absurd hm h
   rw [GK hO hOR b h3,hregs b hb]
  ·rw [hTget b (by simp [Frm.pn,h1,hm])]
   cases hk:zn F.H1 b with
   |none=>rfl
   |some k=>exact zmK _ _ _ _ k
 have hnn:∀b,jv (zn (F.hp F.HR vs x y) b)=true→ν b=false:=fun b hb=>by
  by_cases hp:b∈F.pn
  ·unfold Frm.hp at hb
   rw [zX] at hb
   cases hs1:zn (hpD F.dl x) b with
   |some k=>
    rw [hs1] at hb
    obtain ⟨t,z,cs,rfl,_⟩:=zct (ν:=ν) hD (GLe.refl _) hs1
    cases hb
   |none=>
    rw [hs1] at hb
    simp only at hb
    rw [zX] at hb
    cases hs2:zn (hpO F.ol vs y) b with
    |some k=>
     rw [hs2] at hb
     simp only at hb
     obtain ⟨s,t,l,h1,h2⟩:=zCu hO hOR (b:=b) (by rw [hs2];exact hb)
     have hN':=hN
     unfold Ua at hN'
     rw [List.all_eq_true] at hN'
     have:=hN' (b,s) (by simp [h1])
     simp only [Bool.and_eq_true,Bool.or_eq_true,Nat.blt_eq,Nat.ble_eq] at this
     rcases this.2 with h3 | h3
     ·exact hvE.old b h3
     ·have:=Nat.eq_of_beq_eq_true h3
      subst this
      exact hv.nn b (by rw [h2];rfl)
    |none=>
     rw [hs2] at hb
     simp only at hb
     unfold Frm.HR at hb
     rw [xt,if_pos hp] at hb
     cases hb
  ·rw [hTget b hp] at hb
   cases hk:zn F.H1 b with
   |none=>rw [hk] at hb;cases hb
   |some k=>
    rw [hk] at hb
    refine hvE.nn b ?_
    rw [hk]
    cases k with
    |arr nn t l=>
     simp only [Option.map_some,yv] at hb
     cases hm:xr F.mv b with
     |true=>rw [hm] at hb;cases hb
     |false=>rw [hm] at hb;exact hb
    |roa nn t l=>exact hb
    |vars cs=>
     simp only [Option.map_some,yv] at hb
     cases hm:vC F.ns F.lo cs<;>rw [hm] at hb<;>cases hb
    |ro cs=>
     simp only [Option.map_some,yv] at hb
     cases hm:vC F.ns F.lo cs<;>rw [hm] at hb<;>cases hb
    |_=>cases hb
 have hvT:VN ν F.n0 (F.hp F.HR vs x y):=by
  exact ⟨fun b n hr=>GF hr,fun b hb=>hvE.old b (Nat.le_trans hF.le hb),hnn⟩
 exact ⟨hOR,hTget,hreg,hvT⟩
theorem zmL (hF:F.Ok) (gE:zI φ1 (zH ν F.H1) K wE) (hfr:xJ φ1 F.lo M) (hM:F.n0≤M) (hvE:VN ν F.lo F.H1)
  {HS0 HS:SH} {Hs:Hp} {tmS:List SV} {ts:Array Value} {vs:List LSt} {x:DS F.dl} {y:OS F.ol} {σ:List (Nat×Nat)}
  (e2:Ext (F.KX K φ1 ν) φ1 φ2 F.lo M) (hw:qJ (F.KX K φ1 ν) wE w) (gA:zI φ2 (zH ν HS) KA w) (gB:zI φ2 Hs (F.KX K φ1 ν) w) (hv:VN ν nx2 HS)
  (hD:bkD F.dl tmS HS0=some (x,HS)) (hO:bkO F.ol vs tmS HS=some (y,σ)) (hQ:GJ (idD F.dl++σ)=true) (hN:Ua F.lo F.n0 (idD F.dl++σ)=true)
  (hs:∀p∈idD F.dl++σ,Hs.get p.2=(zH ν HS).get p.2) (hregs:∀b∈F.ns,reg (zn HS b)=reg (zn F.H1 b))
  (ht:qX φ2 (zu (rho ν HS) tmS) ts) (hlen:tmS.length=F.tm0.length) (hsame:∀(i:Nat) u,F.tm0[i]?=some u→u≠.junk→tmS[i]?=some u)
  (hlp:∀l L,OPl.lp l L∈F.ol→∀L',zn HS l=some (.loop L')→∃s p,L'={L with st:=s,pend:=p}) :
  ∃φ3,F.Seen K φ1 wE ν F.HR vs x y φ3 w ts:=by
 let σ':=idD F.dl++σ
 let φ3:Ren:=fun b=>if b < FZ then (if F.lo≤b∧b < F.n0 then φ2 (lkS σ' b) else φ1 b) else φ2 b
 have hz:F.n0≤FZ:=Nat.le_trans hM hfr.1
 have f1:∀b,φ3 (FZ+b)=φ2 (FZ+b):=fun b=>by
  have:¬FZ+b < FZ:=by omega
  simp only [φ3,this,if_false]
 have f2:∀b,b < F.lo→φ3 b=φ1 b:=fun b hb=>by
  have h1:b < FZ:=by have:=hF.le;omega
  have h2:¬(F.lo≤b∧b < F.n0):=by omega
  simp only [φ3,h1,h2,if_true,if_false]
 have f3:∀b,b < F.lo→φ3 b=φ2 b:=fun b hb=>by
  rw [f2 b hb,e2.2.1 b (by have:=hF.le;omega) (.inl hb)]
 have f4:∀p∈σ',φ3 p.1=φ2 p.2:=fun p hp=>by
  have hN':=hN
  unfold Ua at hN'
  rw [List.all_eq_true] at hN'
  have:=hN' p hp
  simp only [Bool.and_eq_true,Bool.or_eq_true,Nat.blt_eq,Nat.ble_eq] at this
  obtain ⟨h1,h2⟩:=this
  by_cases hlo:F.lo≤p.1
  ·have h3:p.1 < FZ:=by omega
   simp only [φ3,h3,if_true,hlo,h1,and_self]
   rw [show lkS σ' p.1=p.2 from zoA hQ hp]
  ·have h4:p.1=p.2:=by
    rcases h2 with h2 | h2
    ·exact absurd h2 hlo
    ·exact Nat.eq_of_beq_eq_true h2
   rw [f3 _ (by omega),h4]
 have e3:Ext (F.KX K φ1 ν) φ1 φ3 F.lo F.n0:=by
  refine ⟨fun b L hL=>?_,fun b hb hb2=>?_,fun b L hL=>?_⟩
  ·by_cases hb:b < FZ
   ·have h2:¬(F.lo≤b∧b < F.n0):=fun h=>by
     rw [hfr.2 b h.1 (by omega)] at hL;cases hL
    simp only [φ3,hb,h2,if_true,if_false];exact hL
   ·simp only [φ3,hb,if_false];exact e2.1 b L hL
  ·have h2:¬(F.lo≤b∧b < F.n0):=by omega
   simp only [φ3,hb,h2,if_true,if_false]
  ·rw [f1] at hL;exact e2.2.2 b L hL
 obtain ⟨hOR,hTget,hreg,hvT⟩:=zaq hF hvE hv hD hO hN hregs
 have hnn:=hvT.nn
 have hRget:∀b,b∉F.pn→zn F.HR b=(zn F.H1 b).map (yv F.ns F.mv F.lo b):=fun b hb=>by
  unfold Frm.HR;rw [xt,if_neg hb]
 have hFz:∀b L,φ1 (FZ+b)=some L→φ3 (FZ+b)=some L:=fun b L h=>e3.1 _ L h
 have hlow:∀(v:SV) (v':Value),GH F.ns F.lo v=true→zt φ1 (den (rho ν F.H1) v) v'→zt φ3 (den (rho ν (F.hp F.HR vs x y)) v) v':=zoz (fun b hb=>f2 b hb) hFz hF.nsl hreg
 have hlowL:∀(vs':List SV) (us:List Value),vC F.ns F.lo vs'=true→zD φ1 (zu (rho ν F.H1) vs') us→zD φ3 (zu (rho ν (F.hp F.HR vs x y)) vs') us:=zcr (fun b hb=>f2 b hb) hFz hF.nsl hreg
 refine ⟨φ3,?_,?_,e3,hvT,hreg,hw⟩
 ·refine zDN rfl gA gB hv hnn hD hO hQ hs f4 f3 f1 hOR hF.nsl (fun b hb=>by rw [hreg b hb,hregs b hb]) (fun l L hL=>⟨(hF.lps l L hL).1,(hF.lps l L hL).2.1,hlp l L hL⟩) ?_
  intro b k hk kd hkd
  have hp:b∉F.pn:=fun h=>by
   unfold Frm.HR at hk
   rw [xt,if_pos h] at hk;cases hk
  rw [hRget b hp] at hk
  rw [Option.map_eq_some_iff] at hk
  obtain ⟨kH,hkH,rfl⟩:=hk
  have base:∀kE,qa (rho ν F.H1) (ν b) kH=some kE→(∃kv,qa (rho ν F.H1) (ν b) (yv F.ns F.mv F.lo b kH)=some kv)→∃L,φ3 b=some L∧jO φ1 w L kE∧F.KX K φ1 ν L.blk:=fun kE hkE hkv=>by
   obtain ⟨kv,hkv⟩:=hkv
   obtain ⟨L,hL,hB⟩:=gE.rel b kE (by rw [zU,hkH];exact hkE)
   have hK:F.KX K φ1 ν L.blk:=.inr ⟨b,kv,L,by rw [vK,hRget b hp,hkH];exact hkv,hL,rfl⟩
   exact ⟨L,e3.1 b L hL,jO.congr (hw.kept _ hK) hB,hK⟩
  have hidE:∀kE,qa (rho ν F.H1) (ν b) kH=some kE→yv F.ns F.mv F.lo b kH=.hid→kd.rw=false∧∃L,φ3 b=some L∧jO φ3 w L kd∧F.KX K φ1 ν L.blk:=fun kE hkE hh=>by
   rw [hh] at hkd
   simp only [qa,Option.some.injEq] at hkd
   subst hkd
   obtain ⟨L,h1,h2,h3⟩:=base kE hkE ⟨.hid,by rw [hh];rfl⟩
   exact ⟨rfl,L,h1,(jO.hid_of h2).mono e3.1,h3⟩
  cases kH with
  |vars cs=>
   cases hl:vC F.ns F.lo cs with
   |false=>exact hidE _ rfl (by simp only [yv,hl,cond_false])
   |true=>
    simp only [yv,hl,cond_true,qa,Option.some.injEq] at hkd
    subst hkd
    obtain ⟨L,h1,h2,h3⟩:=base _ rfl ⟨.cells (zu (rho ν F.H1) cs) true,by simp only [yv,hl,cond_true,qa]⟩
    obtain ⟨arr,el,fr,q1,q2,q3⟩:=h2
    exact ⟨rfl,L,h1,zaS (cs:=zu (rho ν F.H1) cs) ⟨arr,el,fr,q1,q2,fun h=>by cases h⟩ (fun us hu=>hlowL cs us hl hu),h3⟩
  |ro cs=>
   cases hl:vC F.ns F.lo cs with
   |false=>exact hidE _ rfl (by simp only [yv,hl,cond_false])
   |true=>
    simp only [yv,hl,cond_true,qa,Option.some.injEq] at hkd
    subst hkd
    obtain ⟨L,h1,h2,h3⟩:=base _ rfl ⟨.cells (zu (rho ν F.H1) cs) true,by simp only [yv,hl,cond_true,qa]⟩
    exact ⟨rfl,L,h1,zaS (cs:=zu (rho ν F.H1) cs) h2 (fun us hu=>hlowL cs us hl hu),h3⟩
  |arr nn t l=>
   cases hm:xr F.mv b with
   |true=>simp only [yv,hm,cond_true,qa,reduceCtorEq] at hkd
   |false=>
    simp only [yv,hm,cond_false,qa] at hkd
    cases hn:wb nn l with
    |true=>rw [hn] at hkd;cases hkd
    |false=>
     rw [hn] at hkd
     simp only [cond_false,Option.some.injEq] at hkd
     subst hkd
     obtain ⟨L,h1,h2,h3⟩:=base (.cells (qb t l) false) (by simp only [qa,hn,cond_false]) ⟨.cells (qb t l) true,by simp only [yv,hm,cond_false,qa,hn]⟩
     obtain ⟨arr,el,fr,q1,q2,q3⟩:=h2
     exact ⟨rfl,L,h1,jO.mono e3.1 (k:=.cells (qb t l) true) ⟨arr,el,fr,q1,q2,fun h=>by cases h⟩,h3⟩
  |roa nn t l=>
   simp only [yv,qa] at hkd
   cases hn:wb nn l with
   |true=>rw [hn] at hkd;cases hkd
   |false=>
    rw [hn] at hkd
    simp only [cond_false,Option.some.injEq] at hkd
    subst hkd
    obtain ⟨L,h1,h2,h3⟩:=base (.cells (qb t l) true) (by simp only [qa,hn,cond_false]) ⟨.cells (qb t l) true,by simp only [yv,qa,hn,cond_false]⟩
    exact ⟨rfl,L,h1,h2.mono e3.1,h3⟩
  |fro nn t l=>
   simp only [yv,qa] at hkd
   cases hn:wb nn l with
   |true=>rw [hn] at hkd;cases hkd
   |false=>
    rw [hn] at hkd
    simp only [cond_false,Option.some.injEq] at hkd
    subst hkd
    obtain ⟨L,h1,h2,h3⟩:=base (.fzc (qb t l)) (by simp only [qa,hn,cond_false]) ⟨.fzc (qb t l),by simp only [yv,qa,hn,cond_false]⟩
    exact ⟨rfl,L,h1,h2.mono e3.1,h3⟩
  |gone s n=>simp only [yv,qa,reduceCtorEq] at hkd
  |loop L=>exact hidE _ rfl rfl
  |defd=>exact hidE _ rfl rfl
  |hid=>exact hidE _ rfl rfl
  |mpb k ag t l=>exact hidE _ rfl rfl
  |abs=>simp only [yv,qa,reduceCtorEq] at hkd
 ·have hF2:∀b L,φ2 (FZ+b)=some L→φ3 (FZ+b)=some L:=fun b L h=>by rw [f1];exact h
  have hlow2:∀(v:SV) (v':Value),GH F.ns F.lo v=true→zt φ2 (den (rho ν HS) v) v'→zt φ3 (den (rho ν (F.hp F.HR vs x y)) v) v':=zoz f3 hF2 hF.nsl (fun b hb=>by rw [hreg b hb,hregs b hb])
  have h0:qX φ3 (zu (rho ν (F.hp F.HR vs x y)) F.tm0) ts:=by
   refine ⟨by have:=ht.1;rw [wL] at this ⊢;omega,fun i v hv'=>?_⟩
   rw [wZ,Option.map_eq_some_iff] at hv'
   obtain ⟨u,hu,rfl⟩:=hv'
   by_cases hj:u=.junk
   ·subst hj;exact .inl (by simp [den])
   ·rcases ht.2 i (den (rho ν HS) u) (by rw [wZ,hsame i u hu hj];rfl) with hq | ⟨v',q1,q2⟩
    ·exact absurd (ze5 hq) hj
    ·exact .inr ⟨v',q1,hlow2 u v' (zze hF.tml hu) q2⟩
  unfold Frm.tm
  refine GI hv hnn ht hO hOR (fun p hp=>f4 p (by simp [σ',hp])) ?_
  exact zft gA hv hF2 hD (GLe.refl _) ht h0
end
end Go.Fz.Sy
namespace Go.Fz.Sy
variable {P:Program} {φ:Ren} {K:Nat→Prop} {w:World} {R:Type}
theorem zjN {X S:Type} {B:S→Option (X ⊕ S)} {I:S→Prop} {J:X→Prop} (h:∀s r,B s=some r→I s→match r with | .inl x=>J x | .inr s'=>I s'):∀(N:Nat) (s:S) (x:X),zz B N s=some x→I s→J x
 |0,s,x,hi,hI=>by cases hi
 |N+1,s,x,hi,hI=>by
  rw [XP] at hi
  split at hi
  ·rename_i y hB;cases hi;exact h s _ hB hI
  ·rename_i s' hB;exact zjN h N s' x hi (h s _ hB hI)
  ·cases hi
theorem bigNS:∃n:Nat,1180591620717411303424≤n:=⟨1180591620717411303424,Nat.le_refl _⟩
def zL:Nat:=Classical.choose bigNS
theorem zBj:1180591620717411303424≤zL:=Classical.choose_spec bigNS
def zfu (ol:List OPl) (y:OS ol) (f:OS ol→Option R):Option R:=f y
theorem XG (ol:List OPl) (y:OS ol) (f:OS ol→Option R):zfu ol y f=f y:=rfl
def zjO:List DPl→List Nat
 |[]=>[]
 |.tmp i _::r=>i::zjO r
 |.blk _ _::r=>zjO r
 |.frz _ _::r=>zjO r
 |.npt i::r=>i::zjO r
def zhQ:List OPl→List Nat
 |[]=>[]
 |.otmp i _ _ _::r=>i::zhQ r
 |.sblk _ _::r=>zhQ r
 |.arr _ _ _::r=>zhQ r
 |.lp _ _::r=>zhQ r
 |.dfd _::r=>zhQ r
 |.mpl _ _ _ _::r=>zhQ r
theorem ziE {i:Nat}:∀{dl:List DPl} {x:DS dl} {tm:List SV},i∉zjO dl→(tmD dl x tm)[i]?=tm[i]?
 |[],x,tm,h=>rfl
 |.tmp j vt::r,x,tm,h=>by
  simp only [zjO,List.mem_cons,not_or] at h
  simp only [tmD]
  rw [ziE h.2,Zm,List.getElem?_set,if_neg (Ne.symm h.1)]
 |.blk b t::r,x,tm,h=>by simp only [tmD];exact ziE (dl:=r) h
 |.frz b t::r,x,tm,h=>by simp only [tmD];exact ziE (dl:=r) h
 |.npt j::r,x,tm,h=>by
  simp only [zjO,List.mem_cons,not_or] at h
  simp only [tmD]
  rw [ziE h.2,Zm,List.getElem?_set,if_neg (Ne.symm h.1)]
theorem zcu {i:Nat}:∀{ol:List OPl} {y:OS ol} {tm:List SV},i∉zhQ ol→(tmO ol y tm)[i]?=tm[i]?
 |[],y,tm,h=>rfl
 |.otmp j c nn t::r,y,tm,h=>by
  simp only [zhQ,List.mem_cons,not_or] at h
  simp only [tmO]
  rw [zcu h.2,Zm,List.getElem?_set,if_neg (Ne.symm h.1)]
 |.sblk b ks::r,y,tm,h=>by simp only [tmO];exact zcu (ol:=r) h
 |.arr b nn t::r,y,tm,h=>by simp only [tmO];exact zcu (ol:=r) h
 |.lp b t::r,y,tm,h=>by simp only [tmO];exact zcu (ol:=r) h
 |.dfd b::r,y,tm,h=>by simp only [tmO];exact zcu (ol:=r) h
 |.mpl _ _ _ _::r,y,tm,h=>by simp only [tmO];exact zcu (ol:=r) h
theorem ziF:∀{dl:List DPl} {x:DS dl} {tm:List SV},(tmD dl x tm).length=tm.length
 |[],x,tm=>rfl
 |.tmp j vt::r,x,tm=>by simp only [tmD];rw [ziF,Zm];simp
 |.blk b t::r,x,tm=>by simp only [tmD];exact ziF
 |.frz b t::r,x,tm=>by simp only [tmD];exact ziF
 |.npt j::r,x,tm=>by simp only [tmD];rw [ziF,Zm];simp
theorem zcv:∀{ol:List OPl} {y:OS ol} {tm:List SV},(tmO ol y tm).length=tm.length
 |[],y,tm=>rfl
 |.otmp j c nn t::r,y,tm=>by simp only [tmO];rw [zcv,Zm];simp
 |.sblk b ks::r,y,tm=>by simp only [tmO];exact zcv (ol:=r)
 |.arr b nn t::r,y,tm=>by simp only [tmO];exact zcv (ol:=r)
 |.lp b t::r,y,tm=>by simp only [tmO];exact zcv (ol:=r)
 |.dfd b::r,y,tm=>by simp only [tmO];exact zcv (ol:=r)
 |.mpl _ _ _ _::r,y,tm=>by simp only [tmO];exact zcv (ol:=r)
def Ub (zH7:List Nat):Nat→List SV→List SV
 |_,[]=>[]
 |i,v::r=>(bif xr zH7 i then .junk else v)::Ub zH7 (i+1) r
theorem QR (zH7:List Nat):∀(l:List SV) (i j:Nat),(Ub zH7 i l)[j]?=(l[j]?).map fun v=>if i+j∈zH7 then .junk else v
 |[],i,j=>by simp [Ub]
 |v::l,i,0=>by
  simp only [Ub,List.getElem?_cons_zero,Option.map_some,Nat.add_zero]
  cases h:xr zH7 i with
  |true=>simp [(kG _ _).1 h]
  |false=>
   have:i∉zH7:=fun e=>by rw [(kG _ _).2 e] at h;cases h
   simp [this]
 |v::l,i,j+1=>by
  simp only [Ub,List.getElem?_cons_succ]
  rw [QR zH7 l (i+1) j]
  have:i+1+j=i+(j+1):=by omega
  rw [this]
theorem WS (zH7:List Nat):∀(l:List SV) (i:Nat),(Ub zH7 i l).length=l.length
 |[],i=>rfl
 |v::l,i=>by simp [Ub,WS zH7 l]
theorem zfv {l:Nat} {L:SL}:∀(ol:List OPl) (vs:List LSt) (y:OS ol) (pre post:SH),(nmO ol).Nodup→(∀n∈nmO ol,zn pre n=none)→OPl.lp l L∈ol→∃vs',zn (pre++(hpO ol vs y++post)) l=some (.loop (stO L vs'))
 |[],vs,y,pre,post,hn,hp,hm=>by cases hm
 |.otmp i c nn t::r,vs,y,pre,post,hn,hp,hm=>by
  simp only [nmO,List.nodup_cons] at hn
  simp only [nmO,List.mem_cons,forall_eq_or_imp] at hp
  have hm:OPl.lp l L∈r:=by simpa using hm
  have:=zfv r vs y.2 (pre++[(c,.arr nn t y.1)]) post hn.2 (fun n hm=>by
    rw [zX,hp.2 n hm]
    show zn [(c,_)] n=none
    rw [zK,if_neg (fun e=>hn.1 (by rw [e];exact hm))];rfl) hm
  have e:pre++[(c,SB.arr nn t y.1)]++(hpO r vs y.2++post)=pre++(hpO (.otmp i c nn t::r) vs y++post):=by simp [hpO]
  rw [e] at this;exact this
 |.sblk b ks::r,vs,y,pre,post,hn,hp,hm=>by
  simp only [nmO,List.nodup_cons,List.mem_append,not_or,List.nodup_append] at hn
  simp only [nmO,List.mem_cons,List.mem_append,forall_eq_or_imp] at hp
  have hm:OPl.lp l L∈r:=by simpa using hm
  have:=zfv r vs y.2 (pre++(b,.vars (zcs ks y.1))::Qe ks y.1) post hn.2.2.1 (fun n hm=>by
    rw [zX,hp.2 n (.inr hm)]
    show zn ((b,_)::_) n=none
    rw [zK,if_neg (fun e=>hn.1.2 (by rw [e];exact hm))]
    exact zaR (fun h=>hn.2.2.2 n h n hm rfl)) hm
  have e:(pre++(b,.vars (zcs ks y.1))::Qe ks y.1)++(hpO r vs y.2++post)=pre++(hpO (.sblk b ks::r) vs y++post):=by
   simp [hpO]
  rw [e] at this;exact this
 |.arr b nn t::r,vs,y,pre,post,hn,hp,hm=>by
  simp only [nmO,List.nodup_cons] at hn
  simp only [nmO,List.mem_cons,forall_eq_or_imp] at hp
  have hm:OPl.lp l L∈r:=by simpa using hm
  have:=zfv r vs y.2 (pre++[(b,.arr nn t y.1)]) post hn.2 (fun n hm=>by
    rw [zX,hp.2 n hm]
    show zn [(b,_)] n=none
    rw [zK,if_neg (fun e=>hn.1 (by rw [e];exact hm))];rfl) hm
  have e:(pre++[(b,SB.arr nn t y.1)])++(hpO r vs y.2++post)=pre++(hpO (.arr b nn t::r) vs y++post):=by simp [hpO]
  rw [e] at this;exact this
 |.lp b L'::r,vs,y,pre,post,hn,hp,hm=>by
  simp only [nmO,List.nodup_cons] at hn
  simp only [nmO,List.mem_cons,forall_eq_or_imp] at hp
  rcases List.mem_cons.1 hm with he | hm
  ·cases he
   refine ⟨vs,?_⟩
   simp only [hpO]
   rw [zX,hp.1]
   simp [zK]
  ·have:=zfv r vs.tail y.2 (pre++[(b,.loop (stO L' vs))]) post hn.2 (fun n hm=>by
    rw [zX,hp.2 n hm]
    show zn [(b,_)] n=none
    rw [zK,if_neg (fun e=>hn.1 (by rw [e];exact hm))];rfl) hm
   have e:(pre++[(b,SB.loop (stO L' vs))])++(hpO r vs.tail y.2++post)=pre++(hpO (.lp b L'::r) vs y++post):=by simp [hpO]
   rw [e] at this;exact this
 |.dfd b::r,vs,y,pre,post,hn,hp,hm=>by
  simp only [nmO,List.nodup_cons] at hn
  simp only [nmO,List.mem_cons,forall_eq_or_imp] at hp
  have hm:OPl.lp l L∈r:=by simpa using hm
  have:=zfv r vs y.2 (pre++[(b,.defd)]) post hn.2 (fun n hm=>by
    rw [zX,hp.2 n hm]
    show zn [(b,_)] n=none
    rw [zK,if_neg (fun e=>hn.1 (by rw [e];exact hm))];rfl) hm
  have e:(pre++[(b,SB.defd)])++(hpO r vs y.2++post)=pre++(hpO (.dfd b::r) vs y++post):=by simp [hpO]
  rw [e] at this;exact this
 |.mpl b k ag t::r,vs,y,pre,post,hn,hp,hm=>by
  simp only [nmO,List.nodup_cons] at hn
  simp only [nmO,List.mem_cons,forall_eq_or_imp] at hp
  have hm:OPl.lp l L∈r:=by simpa using hm
  have:=zfv r vs y.2 (pre++[(b,.mpb k ag t y.1)]) post hn.2 (fun n hm=>by
    rw [zX,hp.2 n hm]
    show zn [(b,_)] n=none
    rw [zK,if_neg (fun e=>hn.1 (by rw [e];exact hm))];rfl) hm
  have e:(pre++[(b,SB.mpb k ag t y.1)])++(hpO r vs y.2++post)=pre++(hpO (.mpl b k ag t::r) vs y++post):=by simp [hpO]
  rw [e] at this;exact this
def Frm.S (F:Frm):Type:=DS F.dl×OS F.ol
def rdy:List OPl→List LSt
 |[]=>[]
 |.lp _ _::r=>(.ready,none)::rdy r
 |.otmp _ _ _ _::r=>rdy r
 |.sblk _ _::r=>rdy r
 |.arr _ _ _::r=>rdy r
 |.dfd _::r=>rdy r
 |.mpl _ _ _ _::r=>rdy r
def XQ (F:Frm) (vs:List LSt) (tm:List SV) (H:SH):Option F.S:=match bkD F.dl tm H with
 |some (x,H1)=>match bkO F.ol vs tm H1 with
  |some (y,σ)=>bif GJ (idD F.dl++σ)&&Ua F.lo F.n0 (idD F.dl++σ) then some (x,y) else none
  |none=>none
 |none=>none
theorem zsk {F:Frm} {vs:List LSt} {tm:List SV} {H:SH} {s:F.S} (h:XQ F vs tm H=some s):∃H1 σ,bkD F.dl tm H=some (s.1,H1)∧bkO F.ol vs tm H1=some (s.2,σ)∧GJ (idD F.dl++σ)=true∧Ua F.lo F.n0 (idD F.dl++σ)=true:=by
 unfold XQ at h
 split at h
 case h_2=>cases h
 rename_i x H1 h1
 split at h
 case h_2=>cases h
 rename_i y σ h2
 have h6:=zE h
 obtain ⟨hq,h3⟩:=h6
 simp only [Bool.and_eq_true] at hq
 cases h3
 exact ⟨H1,σ,h1,h2,hq.1,hq.2⟩
def zc1:Exit→Exit→Bool
 |.normal,.normal=>true
 |.ret,.ret=>true
 |.exit i,.exit j=>Nat.beq i j
 |.goto i,.goto j=>Nat.beq i j
 |_,_=>false
theorem zfw {a b:Exit} (h:zc1 a b=true):a=b:=by
 unfold zc1 at h
 split at h<;>first | rfl | (rw [Nat.eq_of_beq_eq_true h]) | cases h
def zoB:List Nat→List Nat→Bool
 |[],[]=>true
 |a::r,b::s=>Nat.beq a b&&zoB r s
 |_,_=>false
theorem zjP:∀{a b:List Nat},zoB a b=true→a=b
 |[],[],_=>rfl
 |a::r,b::s,h=>by
  simp only [zoB,Bool.and_eq_true] at h
  rw [Nat.eq_of_beq_eq_true h.1,zjP h.2]
 |[],_::_,h=>by cases h
 |_::_,[],h=>by cases h
abbrev Xs:=List (Exit×List LSt)
def zuz (F:Frm) (S:VL):Xs→Nat→Option ((Nat×F.S) ⊕ F.S)
 |[],_=>none
 |(e,vs)::r,j=>bif zc1 S.e e then match XQ F vs S.tm S.H with
   |some s=>some (.inl (j,s))
   |none=>zuz F S r (j+1)
  else zuz F S r (j+1)
theorem zwb {F:Frm} {S:VL} {r:(Nat×F.S) ⊕ F.S}:∀{xs:Xs} {j:Nat},zuz F S xs j=some r→∃i vs s,r=.inl (j+i,s)∧xs[i]?=some (S.e,vs)∧XQ F vs S.tm S.H=some s
 |[],j,h=>by cases h
 |(e,vs)::xs,j,h=>by
  have rec_:zuz F S xs (j+1)=some r→∃i vs' s,r=.inl (j+i,s)∧((e,vs)::xs)[i]?=some (S.e,vs')∧XQ F vs' S.tm S.H=some s:=fun h=>by
   obtain ⟨i,vs',s,h1,h2,h3⟩:=zwb h
   exact ⟨i+1,vs',s,by rw [h1];congr 2;omega,by simpa using h2,h3⟩
  simp only [zuz] at h
  rcases xM h with ⟨h1,h2⟩ | ⟨_,h2⟩
  ·split at h2
   ·rename_i s hs
    cases h2
    exact ⟨0,vs,s,rfl,by rw [zfw h1];rfl,hs⟩
   ·exact rec_ h2
  ·exact rec_ h2
def zfx (cont:Exit→Bool) (E:(R:Type)→EvS R) (F:Frm) (rd:Option Nat) (c:Code) (ds:List Nat) (M:Nat) (xs:Xs) (s:F.S):Option ((Nat×F.S) ⊕ F.S):=
 zfu F.ol s.2 fun y=>(E _).code rd c (F.tm s.1 y) ds (F.hp F.HR (rdy F.ol) s.1 y) F.n0 fun S=>
  bif
    Nat.ble S.nx M&&zoB ds S.ds then bif cont S.e then match XQ F (rdy F.ol) S.tm S.H with
    |some s'=>some (.inr s')
    |none=>none
   else zuz F S xs 0
  else none
structure Frm.OkC (F:Frm) (c:Code):Prop extends F.Ok where
 nss:∀b∈F.ns,∃x,reg (zn F.H1 b)=some x
 junk:∀i∈asg c,∀u,F.tm0[i]?=some u→u=.junk
 tmn:∀i,i∈zjO F.dl∨i∈zhQ F.ol→i∈asg c
theorem Frm.tm_get {F:Frm} {c:Code} (hF:F.OkC c) {x:DS F.dl} {y:OS F.ol} {i:Nat} (hi:i∉asg c):(F.tm x y)[i]?=F.tm0[i]?:=by
 unfold Frm.tm
 rw [zcu (fun h=>hi (hF.tmn i (.inr h))),ziE (fun h=>hi (hF.tmn i (.inl h)))]
theorem Frm.tm_len {F:Frm} {x:DS F.dl} {y:OS F.ol}:(F.tm x y).length=F.tm0.length:=by
 unfold Frm.tm
 rw [zcv,ziF]
def Frm.St1 (F:Frm) (ν:Nat→Bool) (vs:List LSt) (s:F.S):Prop:=VN ν F.n0 (F.hp F.HR vs s.1 s.2)∧∀b∈F.ns,reg (zn (F.hp F.HR vs s.1 s.2) b)=reg (zn F.H1 b)
theorem zwc {φ1 φ2:Ren} (h:φ1.le φ2):∀{ds:List Nat} {xs ys:List Deferred},Zg φ1 ds xs→Zg φ2 ds ys→Zg φ1 ds ys
 |[],[],ys,_,h2=>by cases ys<;>simp [Zg] at h2 ⊢
 |d::ds,x::xs,y::ys,h1,h2=>by
  obtain ⟨⟨L,a1,a2⟩,a3⟩:=h1
  obtain ⟨⟨M,b1,b2⟩,b3⟩:=h2
  rw [h d L a1] at b1;cases b1
  exact ⟨⟨L,a1,b2⟩,zwc h a3 b3⟩
 |[],_::_,ys,h1,_=>h1.elim
 |_::_,[],ys,h1,_=>h1.elim
 |d::ds,x::xs,[],_,h2=>h2.elim
section
variable {cont:Exit→Bool} {F:Frm} {c:Code} {rd:Option Nat} {ds:List Nat} {M:Nat} {xs:Xs} {E:(R:Type)→EvS R} {ν:Nat→Bool}
theorem zFx (L:SL) (vs:List LSt):∃s p,stO L vs={L with st:=s,pend:=p}:=by
 cases vs with
 |nil=>exact ⟨L.st,L.pend,rfl⟩
 |cons v r=>exact ⟨v.1,v.2,rfl⟩
theorem Frm.lp_at (hF:F.OkC c) {vs:List LSt} {x:DS F.dl} {y:OS F.ol} {HX:SH} {l:Nat} {L:SL} (hl:OPl.lp l L∈F.ol):∃s p,zn (F.hp HX vs x y) l=some (.loop {L with st:=s,pend:=p}):=by
 have hn:=hF.names
 unfold Frm.pn at hn
 rw [List.nodup_append] at hn
 obtain ⟨vs',h⟩:=zfv F.ol vs y (hpD F.dl x) HX hn.2.1 (fun n hm=>Zs fun h=>hn.2.2 n h n hm rfl) hl
 obtain ⟨s,p,e⟩:=zFx L vs'
 exact ⟨s,p,by rw [←e];exact h⟩
theorem zjQ (hE:∀R,(E R).Ok P) (hF:F.OkC c) (hvE:VN ν F.lo F.H1) {s:F.S} {r:(Nat×F.S) ⊕ F.S} (h:zfx cont E F rd c ds M xs s=some r) :
  ∃
   S:VL,JQ P rd c (F.tm s.1 s.2) ds (F.hp F.HR (rdy F.ol) s.1 s.2) F.n0 S∧S.nx≤M∧S.ds=ds∧
   ∃vs s',XQ F vs S.tm S.H=some s'∧((cont S.e=true∧r=.inr s'∧vs=rdy F.ol)∨(cont S.e=false∧∃j,r=.inl (j,s')∧xs[j]?=some (S.e,vs))):=by
 unfold zfx at h
 rw [XG] at h
 obtain ⟨S,h1,h2⟩:=(hE _).code h
 have h6:=zE h2
 clear h2
 obtain ⟨hq,h2⟩:=h6
 simp only [Bool.and_eq_true,Nat.ble_eq] at hq
 refine ⟨S,h1,hq.1,(zjP hq.2).symm,?_⟩
 rcases xM h2 with ⟨he,h2⟩ | ⟨he,h2⟩
 ·split at h2
  case h_2=>cases h2
  rename_i s' hs'
  cases h2
  exact ⟨_,s',hs',.inl ⟨he,rfl,rfl⟩⟩
 ·obtain ⟨i,vs,s',e1,e2,e3⟩:=zwb h2
  exact ⟨vs,s',e3,.inr ⟨he,i,by rw [e1];simp,e2⟩⟩
theorem zhb (hE:∀R,(E R).Ok P) (hF:F.OkC c) (hvE:VN ν F.lo F.H1) {s:F.S} {S:VL} (hS:JQ P rd c (F.tm s.1 s.2) ds (F.hp F.HR (rdy F.ol) s.1 s.2) F.n0 S) (h0:F.St1 ν (rdy F.ol) s) {vs:List LSt} {s':F.S} (hb:XQ F vs S.tm S.H=some s'):F.St1 ν vs s':=by
 obtain ⟨H1,σ,b1,b2,b3,b4⟩:=zsk hb
 obtain ⟨a1,a2,a3,a4,a5⟩:=hS
 have hg:=(gY b1).1
 obtain ⟨q1,q2,q3,q4⟩:=zaq hF.toOk hvE (hg.vn (a5 ν h0.1).1) b1 b2 b4 (fun b hb=>by
  obtain ⟨z,hz⟩:=hF.nss b hb
  rw [hg.reg b,hz]
  exact a1 b z (by rw [h0.2 b hb];exact hz))
 exact ⟨q4,q3⟩
theorem zhc (hE:∀R,(E R).Ok P) (hF:F.OkC c) {φ1:Ren} {wE:World} (gE:zI φ1 (zH ν F.H1) K wE) (hfr:xJ φ1 F.lo M) (hM:F.n0≤M) (hvE:VN ν F.lo F.H1) {rc:Option Nat} (hrd:Kn φ1 rd rc)
  {s:F.S} {S:VL} (hS:JQ P rd c (F.tm s.1 s.2) ds (F.hp F.HR (rdy F.ol) s.1 s.2) F.n0 S) (hnx:S.nx≤M) (hds:S.ds=ds) {vs:List LSt} {s':F.S} (hb:XQ F vs S.tm S.H=some s')
  {φ:Ren} {a:Act} (hI:F.Seen K φ1 wE ν F.HR (rdy F.ol) s.1 s.2 φ w a.tmps) (hd:Zg φ1 ds a.defers) :
  c.wpIn (fw rc) 0 P (fun e a' w'=>e=S.e∧∃φ',F.Seen K φ1 wE ν F.HR vs s'.1 s'.2 φ' w' a'.tmps∧Zg φ1 ds a'.defers) a w:=by
 obtain ⟨H1,σ,b1,b2,b3,b4⟩:=zsk hb
 obtain ⟨a1,a2,a3,a4,a5⟩:=hS
 obtain ⟨v1,o1⟩:=a5 ν hI.vn
 have hfr2:xJ φ F.n0 S.nx:=⟨Nat.le_trans hnx hfr.1,fun b h1 h2=>by
  rw [hI.ext.2.1 b (by have:=hfr.1;omega) (.inr h1)]
  exact hfr.2 b (by have:=hF.le;omega) (by omega)⟩
 refine wpIn_mono (o1.2 φ w _ a rc hI.good hfr2 hI.tms (hd.mono hI.ext.1) (hrd.mono hI.ext.1)) ?_
 rintro e a' w' ⟨rfl,φ',k1,k2,k3,k4,k5⟩
 refine ⟨rfl,?_⟩
 have hg:=gY b1
 obtain ⟨φ'',m1,m2⟩:=hg.2 ν φ' _ w' k2
 have t3:qX φ'' (zu (rho ν H1) S.tm) a'.tmps:=by rw [hg.1.rho ν];exact k3.mono (m1 0).1
 have hS':wJ (F.hp F.HR (rdy F.ol) s.1 s.2) H1:=a1.trans hg.1.regLe
 obtain ⟨φ3,h3⟩:=zmL (F:=F) (K:=K) (φ1:=φ1) (φ2:=φ'') (wE:=wE) (ν:=ν) (M:=M) (vs:=vs) (x:=s'.1) (y:=s'.2) (ts:=a'.tmps) hF.toOk gE hfr hM hvE
  (((hI.ext.trans k1 hF.le a4).wide (Nat.le_refl _) hnx).comp ((m1 S.nx).wide (by have:=hF.le;omega) hnx)) (hI.went.trans k5) m2 m2 (hg.1.vn v1) b1 b2 b3 b4 (fun p _=>rfl)
  (fun b hb=>by
   obtain ⟨z,hz⟩:=hF.nss b hb
   rw [hz]
   exact hS' b z (by rw [hI.regs b hb];exact hz))
  t3 (by rw [a3.1];exact Frm.tm_len)
  (fun i u hu hj=>by
   have hi:i∉asg c:=fun h=>hj (hF.junk i h u hu)
   rw [a3.2 i hi,Frm.tm_get hF hi];exact hu)
  (fun l L hl L' hL'=>by
   obtain ⟨s0,p0,h0⟩:=Frm.lp_at hF (HX:=F.HR) (vs:=rdy F.ol) (x:=s.1) (y:=s.2) hl
   obtain ⟨s1,p1,h1⟩:=(a2.trans hg.1.lkeep) l _ h0
   rw [hL'] at h1;cases h1
   exact ⟨s1,p1,rfl⟩)
 exact ⟨φ3,h3,zwc (Ren.le_trans hI.ext.1 k1.1) hd (by rw [←hds];exact k4)⟩
end
end Go.Fz.Sy
namespace Go.Fz.Sy
variable {P:Program} {φ:Ren} {K:Nat→Prop} {w:World} {R:Type}
theorem zmM (b:Nat) (k:Blk) (r:Hp) (n:Nat):Hp.get ((b,k)::r) n=if b=n then some k else Hp.get r n:=by
 show (bif Nat.beq b n then some k else Hp.get r n)=_
 rw [zml]
def zaT (l:List Nat):Hp→Hp
 |[]=>[]
 |(b,k)::r=>bif xr l b then (b,k)::zaT l r else zaT l r
theorem zar (l:List Nat) (n:Nat):∀H:Hp,(zaT l H).get n=if n∈l then H.get n else none
 |[]=>by simp [zaT,Hp.get_nil]
 |(b,k)::r=>by
  have ih:=zar l n r
  simp only [zaT]
  cases hm:xr l b with
  |true=>
   have hb:=(kG _ _).1 hm
   rw [cond_true,zmM,zmM]
   by_cases h:b=n
   ·subst h;simp [hb]
   ·rw [if_neg h,if_neg h];exact ih
  |false=>
   have hb:b∉l:=fun h=>by rw [(kG _ _).2 h] at hm;cases hm
   rw [cond_false,zmM]
   by_cases h:b=n
   ·subst h;rw [if_neg hb];simpa [hb] using ih
   ·rw [if_neg h];exact ih
theorem zjR {α:Type} {A B C C':SH} {b:Nat} {f:Option SB→α} (h:f (zn C b)=f (zn C' b)):f (zn (A++(B++C)) b)=f (zn (A++(B++C')) b):=by
 cases hA:zn A b with
 |some k=>simp only [zX,hA]
 |none=>cases hB:zn B b with
  |some k=>simp only [zX,hA,hB]
  |none=>simp only [zX,hA,hB];exact h
section
variable {F:Frm} {c:Code} {rd:Option Nat} {ds:List Nat} {M:Nat} {xs:Xs} {E:(R:Type)→EvS R} {ν:Nat→Bool}
theorem zhd {φ1:Ren} {wE:World} {l:List Nat} (gE:zI φ1 (zH ν F.H1) K wE) (hl:∀b∈l,(ka ν (rho ν F.H1) F.HR).get b=none):zI φ1 (zaT l (zH ν F.H1)) (F.KX K φ1 ν) wE:=by
 have hsub:∀b k,(zaT l (zH ν F.H1)).get b=some k→b∈l∧(zH ν F.H1).get b=some k:=fun b k hb=>by
  rw [zar] at hb
  split at hb
  ·rename_i h;exact ⟨h,hb⟩
  ·cases hb
 have hR:∀b k,(ka ν (rho ν F.H1) F.HR).get b=some k→b∉l∧∃kE,(zH ν F.H1).get b=some kE:=fun b k hb=>by
  have hb0:=hb
  rw [vK] at hb
  cases hk:zn F.HR b with
  |none=>rw [hk] at hb;cases hb
  |some kv=>
   rw [hk] at hb
   refine ⟨fun h=>(by rw [hl b h] at hb0;cases hb0),?_⟩
   have hk0:=hk
   unfold Frm.HR at hk
   rw [xt] at hk
   split at hk
   ·cases hk
   ·rw [Option.map_eq_some_iff] at hk
    obtain ⟨kH,hkH,rfl⟩:=hk
    rw [zU,hkH]
    simp only [Option.bind_some] at hb ⊢
    cases kH with
    |vars cs=>exact ⟨_,rfl⟩
    |ro cs=>exact ⟨_,rfl⟩
    |arr nn t l=>
     cases hm:xr F.mv b with
     |true=>simp [yv,hm,qa] at hb
     |false=>simp only [yv,hm,cond_false,qa] at hb ⊢;cases hn:wb nn l<;>rw [hn] at hb<;>first | cases hb;done | exact ⟨_,rfl⟩
    |roa nn t l=>exact ⟨k,hb⟩
    |fro nn t l=>exact ⟨k,hb⟩
    |gone s n=>simp [yv,qa] at hb
    |loop L=>exact ⟨_,rfl⟩
    |defd=>exact ⟨_,rfl⟩
    |hid=>exact ⟨_,rfl⟩
    |mpb k ag t l=>exact ⟨_,rfl⟩
    |abs=>simp [yv,qa] at hb
 refine ⟨fun b k hb=>gE.rel b k (hsub b k hb).2,fun b c k k' L L' hb hc hne hk hL hL'=>gE.sep b c k k' L L' (hsub b k hb).2 (hsub c k' hc).2 hne hk hL hL',fun b k L hb hk hL=>?_,fun c hc=>?_,gE.fz,fun b k L c M hb hk hL hM=>gE.fsep b k L c M (hsub b k hb).2 hk hL hM⟩
 ·obtain ⟨h1,h2⟩:=hsub b k hb
  rintro (h | ⟨b',k',L',q1,q2,q3⟩)
  ·exact gE.prot b k L h2 hk hL h
  ·obtain ⟨e1,kE,e2⟩:=hR b' k' q1
   exact gE.sep b b' k kE L L' h2 e2 (fun e=>e1 (e▸h1)) hk hL q2 q3.symm
 ·rcases hc with h | ⟨b',k',L',q1,q2,q3⟩
  ·exact gE.kin c h
  ·obtain ⟨e1,kE,e2⟩:=hR b' k' q1
   rw [←q3]
   exact (gE.at e2 q2).lt
theorem zmN {vs:List LSt} {x:DS F.dl} {y:OS F.ol} (b:Nat):reg (zn (F.hp F.HF vs x y) b)=reg (zn (F.hp F.HR vs x y) b):=by
 refine zjR (f:=reg) ?_
 unfold Frm.HF Frm.HR
 rw [xt,xt]
 split
 ·rfl
 ·cases zn F.H1 b with
  |none=>rfl
  |some k=>simp only [Option.map_some];rw [zmK,zwa]
theorem zjS (hF:F.OkC c) {φ1 φ3:Ren} {wE:World} (gE:zI φ1 (zH ν F.H1) K wE) (hvE:VN ν F.lo F.H1) {vs:List LSt} {s:F.S} {ts:Array Value} (hall:∀b x,reg (zn F.H1 b)=some x→b∈F.ns)
  (h:F.Seen K φ1 wE ν F.HR vs s.1 s.2 φ3 w ts) (hrw:∀b k,b∈F.pn→(zH ν (F.hp F.HR vs s.1 s.2)).get b=some k→k.rw=true) :
  zI φ3 (zH ν (F.hp F.HF vs s.1 s.2)) K w∧qX φ3 (zu (rho ν (F.hp F.HF vs s.1 s.2)) (F.tm s.1 s.2)) ts:=by
 have hreg:∀b,reg (zn (F.hp F.HF vs s.1 s.2) b)=reg (zn (F.hp F.HR vs s.1 s.2) b):=fun b=>by
  refine zjR (f:=reg) ?_
  unfold Frm.HF Frm.HR
  rw [xt,xt]
  split
  ·rfl
  ·cases zn F.H1 b with
   |none=>rfl
   |some k=>simp only [Option.map_some];rw [zmK,zwa]
 have hrho:rho ν (F.hp F.HF vs s.1 s.2)=rho ν (F.hp F.HR vs s.1 s.2):=xL hreg ν
 have hle:RLe (rho ν F.H1) (rho ν (F.hp F.HR vs s.1 s.2)):=zfp ν fun b x hx=>by rw [h.regs b (hall b x hx)];exact hx
 have gE':zI φ1 (ka ν (rho ν (F.hp F.HR vs s.1 s.2)) F.H1) K wE:=zyt (gn ν F.H1) hle gE
 refine ⟨?_,by rw [hrho];exact h.tms⟩
 have hKX:F.KX K φ1 ν=KX K φ1 (ka ν (rho ν F.H1) F.HR):=rfl
 refine zza (HE:=ka ν (rho ν (F.hp F.HR vs s.1 s.2)) F.H1) (HR:=ka ν (rho ν F.H1) F.HR) (H1:=zH ν (F.hp F.HR vs s.1 s.2)) gE' h.ext.1 (fun b L hL=>h.ext.2.2 b L hL) h.went h.good ?_
 intro b k hb
 rw [zU,hrho] at hb
 by_cases hp:b∈F.pn
 ·have e:zn (F.hp F.HF vs s.1 s.2) b=zn (F.hp F.HR vs s.1 s.2) b:=by
   refine zjR (f:=id) ?_
   unfold Frm.HF Frm.HR
   rw [xt,xt,if_pos hp,if_pos hp]
  rw [e] at hb
  have hb2:(zH ν (F.hp F.HR vs s.1 s.2)).get b=some k:=by rw [zU];exact hb
  exact .inl ⟨hb2,hrw b k hp hb2⟩
 ·have h1:b∉nmD F.dl:=fun h=>hp (by simp [Frm.pn,h])
  have h2:b∉nmO F.ol:=fun h=>hp (by simp [Frm.pn,h])
  unfold Frm.hp at hb
  rw [zX,Zs h1] at hb
  simp only at hb
  rw [zX,Qv h2] at hb
  simp only at hb
  unfold Frm.HF at hb
  rw [xt,if_neg hp] at hb
  cases hk:zn F.H1 b with
  |none=>rw [hk] at hb;cases hb
  |some kH=>
   rw [hk] at hb
   simp only [Option.map_some,Option.bind_some] at hb
   have hkb:qa (rho ν (F.hp F.HR vs s.1 s.2)) (ν b) kH=some k:=by
    cases kH with
    |arr nn t l=>
     cases hm:xr F.mv b with
     |true=>simp [zjM,hm,qa] at hb
     |false=>simp only [zjM,hm,cond_false] at hb;exact hb
    |_=>exact hb
   refine .inr ⟨by rw [vK,hk];exact hkb,?_⟩
   rw [vK]
   have:zn F.HR b=some (yv F.ns F.mv F.lo b kH):=by
    unfold Frm.HR
    rw [xt,if_neg hp,hk];rfl
   rw [this]
   simp only [Option.bind_some]
   cases kH with
   |vars cs=>simp only [yv];cases vC F.ns F.lo cs<;>exact ⟨_,rfl⟩
   |ro cs=>simp only [yv];cases vC F.ns F.lo cs<;>exact ⟨_,rfl⟩
   |arr nn t l=>
    cases hm:xr F.mv b with
    |true=>simp [zjM,hm,qa] at hb
    |false=>
     simp only [qa] at hkb
     simp only [yv,hm,cond_false,qa]
     cases hn:wb nn l<;>rw [hn] at hkb<;>first | cases hkb;done | exact ⟨_,rfl⟩
   |roa nn t l=>exact ⟨k,hkb⟩
   |fro nn t l=>exact ⟨k,hkb⟩
   |gone s n=>simp [qa] at hkb
   |loop L=>exact ⟨_,rfl⟩
   |defd=>exact ⟨_,rfl⟩
   |hid=>exact ⟨_,rfl⟩
   |mpb k ag t l=>exact ⟨_,rfl⟩
   |abs=>simp [qa] at hkb
theorem zxU {vs:List LSt} {x:DS F.dl} {y:OS F.ol} {b:Nat} {k:Blk} (hp:b∈F.pn) (h:(zH ν (F.hp F.HR vs x y)).get b=some k):k.rw=true:=by
 rw [zU] at h
 cases hk:zn (F.hp F.HR vs x y) b with
 |none=>rw [hk] at h;cases h
 |some kS=>
  rw [hk] at h
  simp only [Option.bind_some] at h
  have hD:∀(dl:List DPl) (x:DS dl),zn (hpD dl x) b=some kS→∃cs,kS=.vars cs:=by
   intro dl
   induction dl with
   |nil=>intro x h;cases h
   |cons p r ih=>
    intro x h
    cases p with
    |tmp i vt=>exact ih x.2 h
    |blk b0 t=>
     simp only [hpD] at h
     rw [zK] at h
     split at h
     ·cases h;exact ⟨_,rfl⟩
     ·exact ih x.2 h
    |frz b0 ks=>exact ih x.2 h
    |npt i=>exact ih x.2 h
  have hO:∀(ol:List OPl) (vs:List LSt) (y:OS ol),zn (hpO ol vs y) b=some kS→(∃cs,kS=.vars cs)∨(∃nn t l,kS=.arr nn t l)∨(∃L,kS=.loop L)∨kS=.defd∨∃k' ag t l,kS=.mpb k' ag t l:=by
   intro ol
   induction ol with
   |nil=>intro vs y h;cases h
   |cons p r ih=>
    intro vs y h
    cases p with
    |otmp i c nn t=>
     simp only [hpO] at h
     rw [zK] at h
     split at h
     ·cases h;exact .inr (.inl ⟨_,_,_,rfl⟩)
     ·exact ih _ _ h
    |sblk b0 ks=>
     simp only [hpO] at h
     rw [zK] at h
     split at h
     ·cases h;exact .inl ⟨_,rfl⟩
     ·rw [zX] at h
      split at h
      ·rename_i kk hkk
       cases h
       have hk2:∀(ks:List CK) (x:CS ks),zn (Qe ks x) b=some kS→∃nn t l,kS=.arr nn t l:=fun ks=>by
        induction ks with
        |nil=>intro x h;cases h
        |cons q ks ihk=>
         intro x h
         cases q with
         |d t=>exact ihk _ h
         |o c nn t=>
          simp only [Qe] at h
          rw [zK] at h
          split at h
          ·cases h;exact ⟨_,_,_,rfl⟩
          ·exact ihk _ h
       exact .inr (.inl (hk2 _ _ hkk))
      ·exact ih _ _ h
    |arr b0 nn t=>
     simp only [hpO] at h
     rw [zK] at h
     split at h
     ·cases h;exact .inr (.inl ⟨_,_,_,rfl⟩)
     ·exact ih _ _ h
    |lp b0 L=>
     simp only [hpO] at h
     rw [zK] at h
     split at h
     ·cases h;exact .inr (.inr (.inl ⟨_,rfl⟩))
     ·exact ih _ _ h
    |dfd b0=>
     simp only [hpO] at h
     rw [zK] at h
     split at h
     ·cases h;exact .inr (.inr (.inr (.inl rfl)))
     ·exact ih _ _ h
    |mpl b0 k0 ag0 t0=>
     simp only [hpO] at h
     rw [zK] at h
     split at h
     ·cases h;exact .inr (.inr (.inr (.inr ⟨_,_,_,_,rfl⟩)))
     ·exact ih _ _ h
  unfold Frm.hp at hk
  rw [zX] at hk
  have fin:((∃cs,kS=.vars cs)∨(∃nn t l,kS=.arr nn t l)∨(∃L,kS=.loop L)∨kS=.defd∨∃k' ag t l,kS=.mpb k' ag t l)→k.rw=true:=by
   rintro (⟨cs,rfl⟩ | ⟨nn,t,l,rfl⟩ | ⟨L,rfl⟩ | rfl | ⟨k',ag,t,l,rfl⟩)
   ·simp only [qa,Option.some.injEq] at h;subst h;rfl
   ·simp only [qa] at h
    cases hn:wb nn l<;>rw [hn] at h<;>cases h
    rfl
   ·simp only [qa,Option.some.injEq] at h;subst h;rfl
   ·simp only [qa,Option.some.injEq] at h;subst h;rfl
   ·simp only [qa,Option.some.injEq] at h;subst h;rfl
  split at hk
  ·rename_i h1;cases hk;exact fin (.inl (hD _ _ h1))
  ·rw [zX] at hk
   split at hk
   ·rename_i h1;cases hk;exact fin (hO _ _ _ h1)
   ·unfold Frm.HR at hk
    rw [xt,if_pos hp] at hk;cases hk
end
end Go.Fz.Sy
namespace Go.Fz.Sy
variable {P:Program} {φ:Ren} {K:Nat→Prop} {w:World} {R:Type}
abbrev zV:=Code→List SV→SH→Nat→Option (List DPl×List OPl×Nat)
def uL (ns:List Nat) (lo:Nat) (H:SH):List Nat→List OPl
 |[]=>[]
 |l::r=>match zn H l with
  |some (.loop L)=>bif vC ns lo L.tm&&(Nat.blt L.dfr lo&&stQ L [(.ready,none)]) then .lp l L::uL ns lo H r else uL ns lo H r
  |some .defd=>.dfd l::uL ns lo H r
  |_=>uL ns lo H r
theorem Ku {ns:List Nat} {lo:Nat} {H:SH} {l:Nat} {L:SL}:∀{ls:List Nat},OPl.lp l L∈uL ns lo H ls→vC ns lo L.tm=true∧L.dfr < lo∧zn H l=some (.loop L)
 |[],h=>by cases h
 |m::r,h=>by
  simp only [uL] at h
  split at h
  ·rename_i L' hL
   rw [show (bif vC ns lo L'.tm&&(Nat.blt L'.dfr lo&&stQ L' [(.ready,none)]) then OPl.lp m L'::uL ns lo H r else uL ns lo H r)=if (vC ns lo L'.tm&&(Nat.blt L'.dfr lo&&stQ L' [(.ready,none)]))=true then OPl.lp m L'::uL ns lo H r else uL ns lo H r from by cases (vC ns lo L'.tm&&(Nat.blt L'.dfr lo&&stQ L' [(.ready,none)]))<;>rfl] at h
   split at h
   ·rename_i hq
    rcases List.mem_cons.1 h with he | h
    ·cases he
     simp only [Bool.and_eq_true,Nat.blt_eq] at hq
     exact ⟨hq.1,hq.2.1,hL⟩
    ·exact Ku h
   ·exact Ku h
  ·have h:OPl.lp l L∈uL ns lo H r:=by simpa using h
   exact Ku h
  ·exact Ku h
def uq (H:SH):List Nat→List Nat
 |[]=>[]
 |b::r=>match reg (zn H b) with
  |some _=>b::uq H r
  |none=>uq H r
theorem zcw {H:SH} {b:Nat}:∀{l:List Nat},b∈uq H l→∃x,reg (zn H b)=some x
 |[],h=>by cases h
 |c::r,h=>by
  simp only [uq] at h
  split at h
  ·rename_i x hx
   rcases List.mem_cons.1 h with he | h
   ·subst he;exact ⟨x,hx⟩
   ·exact zcw h
  ·exact zcw h
theorem zcx {H:SH} {b:Nat} {x:Nat×Nat} (hx:reg (zn H b)=some x):∀{l:List Nat},b∈l→b∈uq H l
 |[],h=>by cases h
 |c::r,h=>by
  simp only [uq]
  rcases List.mem_cons.1 h with he | h
  ·subst he;rw [hx];simp
  ·split
   ·exact List.mem_cons_of_mem _ (zcx hx h)
   ·exact zcx hx h
theorem Uc {b:Nat} {k:SB}:∀{H:SH},zn H b=some k→b∈qQ H
 |[],h=>by cases h
 |(c,x)::r,h=>by
  rw [zK] at h
  split at h
  ·rename_i he;simp [qQ,he]
  ·simp [qQ,Uc h]
def zsl:List Nat→Bool
 |[]=>true
 |a::r=>!xr r a&&zsl r
theorem zwd:∀{l:List Nat},zsl l=true→l.Nodup
 |[],_=>List.nodup_nil
 |a::r,h=>by
  simp only [zsl,Bool.and_eq_true,Bool.not_eq_true'] at h
  refine List.nodup_cons.2 ⟨fun hm=>?_,zwd h.2⟩
  rw [(kG _ _).2 hm] at h;cases h.1
def zhR:List OPl→Bool
 |[]=>true
 |.lp _ _::_=>false
 |.otmp _ _ _ _::r=>zhR r
 |.sblk _ _::r=>zhR r
 |.arr _ _ _::r=>zhR r
 |.dfd _::r=>zhR r
 |.mpl _ _ _ _::r=>zhR r
theorem Ud {l:Nat} {L:SL}:∀{ol:List OPl},zhR ol=true→OPl.lp l L∉ol
 |[],_,h=>by cases h
 |.lp _ _::r,h,_=>by simp [zhR] at h
 |.otmp _ _ _ _::r,h,hm=>Ud (ol:=r) h (by simpa using hm)
 |.sblk _ _::r,h,hm=>Ud (ol:=r) h (by simpa using hm)
 |.arr _ _ _::r,h,hm=>Ud (ol:=r) h (by simpa using hm)
 |.dfd _::r,h,hm=>Ud (ol:=r) h (by simpa using hm)
 |.mpl _ _ _ _::r,h,hm=>Ud (ol:=r) h (by simpa using hm)
def lpN:List OPl→List Nat
 |[]=>[]
 |.lp l _::r=>l::lpN r
 |.otmp _ _ _ _::r=>lpN r
 |.sblk _ _::r=>lpN r
 |.arr _ _ _::r=>lpN r
 |.dfd _::r=>lpN r
 |.mpl _ _ _ _::r=>lpN r
theorem zcy {l:Nat}:∀{ol:List OPl},l∈lpN ol→∃L,OPl.lp l L∈ol
 |[],h=>by cases h
 |.lp m L::r,h=>by
  simp only [lpN,List.mem_cons] at h
  rcases h with rfl | h
  ·exact ⟨L,by simp⟩
  ·obtain ⟨L',h'⟩:=zcy h;exact ⟨L',List.mem_cons_of_mem _ h'⟩
 |.otmp _ _ _ _::r,h=>by obtain ⟨L',h'⟩:=zcy (ol:=r) h;exact ⟨L',List.mem_cons_of_mem _ h'⟩
 |.sblk _ _::r,h=>by obtain ⟨L',h'⟩:=zcy (ol:=r) h;exact ⟨L',List.mem_cons_of_mem _ h'⟩
 |.arr _ _ _::r,h=>by obtain ⟨L',h'⟩:=zcy (ol:=r) h;exact ⟨L',List.mem_cons_of_mem _ h'⟩
 |.dfd _::r,h=>by obtain ⟨L',h'⟩:=zcy (ol:=r) h;exact ⟨L',List.mem_cons_of_mem _ h'⟩
 |.mpl _ _ _ _::r,h=>by obtain ⟨L',h'⟩:=zcy (ol:=r) h;exact ⟨L',List.mem_cons_of_mem _ h'⟩
def zzf (F:Frm) (c:Code):Bool:=
 zsl F.pn&&(F.ns.all (fun b=>Nat.blt b F.lo)&&(zFw F.ns F.dl F.ol&&(vC F.ns F.lo F.tm0&&((zjO F.dl++zhQ F.ol).all (xr (asg c))&&(qQ F.H1).all fun l=>match zn F.H1 l with
  |some (.loop _)=>xr (lpN F.ol) l||!xr F.pn l
  |_=>true))))
def zfy (F:Frm) (σ:List (Nat×Nat)):Bool:=σ.all fun p=>match zn F.HR p.2 with
 |none=>true
 |some (.gone _ _)=>true
 |_=>false
def zFy:List (Nat×Nat)→List Nat
 |[]=>[]
 |p::r=>bif Nat.beq p.1 p.2 then zFy r else p.2::zFy r
def zHs (e:Exit) (l:List Exit):List Exit:=bif l.any (zc1 e) then l else e::l
def zFz:List Exit→List Exit→List Exit
 |[],l=>l
 |e::r,l=>zHs e (zFz r l)
def Kv:Code→List Exit
 |.exit i=>[.exit i]
 |.goto i=>[.goto i]
 |.ret=>[.ret]
 |.seq a b=>zFz (Kv a) (Kv b)
 |.cond _ a b=>zFz (Kv a) (Kv b)
 |.block i c=>(Kv c).filter fun e=>!zc1 e (.exit i)
 |.loop c=>Kv c
 |.scope c=>Kv c
 |.rangeFunc _ _ _ b=>Kv b
 |_=>[]
def zFA:List Exit→List LSt
 |[]=>[]
 |e::r=>match zjt e with
  |some (_,s,p)=>(s,p)::zFA r
  |none=>zFA r
def zhe:List OPl→List (List LSt)
 |[]=>[[]]
 |.lp _ L::r=>match zhe r with
  |vs=>((.ready,none)::zFA (Kv L.body)).flatMap fun s=>vs.map fun v=>s::v
 |.otmp _ _ _ _::r=>zhe r
 |.sblk _ _::r=>zhe r
 |.arr _ _ _::r=>zhe r
 |.dfd _::r=>zhe r
 |.mpl _ _ _ _::r=>zhe r
def zFB (xq:Exit→Bool) (c:Code) (ol:List OPl):Xs:=((Kv c).filter xq).flatMap fun e=>(zhe ol).map fun v=>(e,v)
def zsm:Xs→Nat→Nat→(Exit×List LSt→Option R)→Option R
 |[],_,_,_=>none
 |[v],_,_,f=>f v
 |v::u::r,i,j,f=>bif Nat.beq j i then f v else zsm (u::r) (i+1) j f
theorem zjT {f:Exit×List LSt→Option R} {v:Exit×List LSt}:∀{xs:Xs} {i n:Nat},xs[n]?=some v→zsm xs i (i+n) f=f v
 |[],i,n,h=>by simp at h
 |[u],i,n,h=>by
  cases n with
  |zero=>simp at h;subst h;rfl
  |succ n=>simp at h
 |a::b::r,i,n,h=>by
  simp only [zsm]
  rw [zml]
  cases n with
  |zero=>simp at h;subst h;simp
  |succ n=>
   rw [if_neg (by omega)]
   have:=zjT (f:=f) (xs:=b::r) (i:=i+1) (n:=n) (by simpa using h)
   rw [←this];congr 1;omega
def zsn (cont:Exit→Bool) (E:(R:Type)→EvS R) (F:Frm) (rd:Option Nat) (c:Code) (ds:List Nat) (M:Nat) (xs:Xs) (s0:F.S) (k:KC R):Option R:=
 match zz (zfx cont E F rd c ds M xs) zL s0 with
 |some (j,s)=>zfu F.ol s.2 fun y=>zsm xs 0 j fun v=>k ⟨v.1,F.tm s.1 y,ds,F.hp F.HF v.2 s.1 y,M⟩
 |none=>none
def WT (dl:List DPl) (ol:List OPl) (g:Nat) (c:Code) (tm:List SV) (nx:Nat) (H1:SH) (ns:List Nat) (σ:List (Nat×Nat)):Frm:=⟨dl,ol,Ub (asg c) 0 tm,ns,zFy σ,nx,nx+g,H1⟩
def zCv (cont:Exit→Bool) (xq:Exit→Bool) (E:(R:Type)→EvS R) (dl:List DPl) (ol0:List OPl) (g:Nat) (rd:Option Nat) (c:Code) (tm:List SV) (ds:List Nat) (nx sp:Nat) (x0:DS dl) (H1:SH) (k:KC R):Option R:=
 match uq H1 (qQ H1) with
 |ns=>match uL ns nx H1 (qQ H1) with
  |lps=>match bkO (ol0++lps) (rdy (ol0++lps)) tm H1 with
   |some (y0,σ)=>bif zhR ol0&&(zzf (WT dl (ol0++lps) g c tm nx H1 ns σ) c&&(GJ (idD dl++σ)&&(Ua nx (nx+g) (idD dl++σ)&&zfy (WT dl (ol0++lps) g c tm nx H1 ns σ) (idD dl++σ)))) then
     zsn cont E (WT dl (ol0++lps) g c tm nx H1 ns σ) rd c ds (nx+g+sp) (zFB xq c (ol0++lps)) (x0,y0) k
    else none
   |none=>none
def zoC (cont:Exit→Bool) (xq:Exit→Bool) (E:(R:Type)→EvS R) (pl:zV) (rd:Option Nat) (c:Code) (tm:List SV) (ds:List Nat) (H:SH) (nx sp:Nat) (k:KC R):Option R:=match pl c tm H nx with
 |some (dl,ol0,g)=>match bkD dl tm H with
  |some (x0,H1)=>zCv cont xq E dl ol0 g rd c tm ds nx sp x0 H1 k
  |none=>none
 |none=>none
theorem zoD {F:Frm} {c:Code} (h:zzf F c=true) (hle:F.lo≤F.n0) (hlp:∀l L,OPl.lp l L∈F.ol→vC F.ns F.lo L.tm=true∧L.dfr < F.lo∧zn F.H1 l=some (.loop L)) (hns:∀b∈F.ns,∃x,reg (zn F.H1 b)=some x) {tm:List SV} (htm:F.tm0=Ub (asg c) 0 tm) :
  F.OkC c∧∀l L,zn F.H1 l=some (.loop L)→l∈F.pn→OPl.lp l L∈F.ol:=by
 unfold zzf at h
 simp only [Bool.and_eq_true] at h
 obtain ⟨h1,h2,h3,h4,h5,h6⟩:=h
 rw [List.all_eq_true] at h2 h5 h6
 refine ⟨⟨⟨zwd h1,fun b hb=>by have:=h2 b hb;simpa using this,h3,hlp,h4,hle⟩,hns,fun i hi u hu=>?_,fun i hi=>?_⟩,fun l L hl hp=>?_⟩
 ·rw [htm,QR] at hu
  rw [Option.map_eq_some_iff] at hu
  obtain ⟨v,hv,rfl⟩:=hu
  simp [hi]
 ·have:=h5 i (by simpa using hi)
  exact (kG _ _).1 this
 ·have:=h6 l (Uc hl)
  rw [hl] at this
  simp only [Bool.or_eq_true,Bool.not_eq_true'] at this
  rcases this with h7 | h7
  ·obtain ⟨L',h8⟩:=zcy ((kG _ _).1 h7)
   have:=(hlp l L' h8).2.2
   rw [hl] at this;cases this
   exact h8
  ·rw [(kG _ _).2 hp] at h7;cases h7
def zoE:Exit→Bool
 |.goto _=>false
 |_=>true
theorem zHt {xq:Exit→Bool} {c:Code} {ol:List OPl} {j:Nat} {e:Exit} {vs:List LSt} (h:(zFB xq c ol)[j]?=some (e,vs)):xq e=true:=by
 have:=List.mem_of_getElem? h
 unfold zFB at this
 rw [List.mem_flatMap] at this
 obtain ⟨e',h1,h2⟩:=this
 rw [List.mem_map] at h2
 obtain ⟨v,h3,h4⟩:=h2
 cases h4
 exact (List.mem_filter.1 h1).2
theorem zpF {F:Fence} {c:Code} {Q Q':Exit→Act→World→Prop} (h:∀e a w,Q e a w→Q' e a w):∀(m:Nat) (a:Act) (w:World),Code.roundsIn F 0 P c Q m a w→Code.roundsIn F 0 P c Q' m a w
 |0,a,w,hq=>hq
 |m+1,a,w,hq=>by
  rw [roundsIn_succ] at hq ⊢
  refine wpIn_mono hq ?_
  intro e a2 w2 hq
  cases e<;>first | exact zpF h m _ _ hq | exact h _ _ _ hq
theorem zxV {F:Frm} {ν:Nat→Bool} {M:Nat} (hvE:VN ν F.lo F.H1) (hM:F.n0≤M) {vs:List LSt} {x:DS F.dl} {y:OS F.ol} (h:VN ν F.n0 (F.hp F.HR vs x y)):VN ν M (F.hp F.HF vs x y):=by
 refine ⟨fun b n hr=>h.empty b n (by rw [←zmN];exact hr),fun b hb=>h.old b (Nat.le_trans hM hb),fun b hb=>?_⟩
 unfold Frm.hp at hb
 rw [zX] at hb
 have fin:∀k,zn (F.hp F.HR vs x y) b=some k→jv (some k)=true→ν b=false:=fun k hk hn=>h.nn b (by rw [hk];exact hn)
 unfold Frm.hp at fin
 rw [zX] at fin
 cases h1:zn (hpD F.dl x) b with
 |some k=>rw [h1] at hb fin;exact fin k rfl hb
 |none=>
  rw [h1] at hb fin
  simp only at hb fin
  rw [zX] at hb fin
  cases h2:zn (hpO F.ol vs y) b with
  |some k=>rw [h2] at hb fin;exact fin k rfl hb
  |none=>
   rw [h2] at hb
   simp only at hb
   unfold Frm.HF at hb
   rw [xt] at hb
   split at hb
   ·cases hb
   ·refine hvE.nn b ?_
    cases hk:zn F.H1 b with
    |none=>rw [hk] at hb;cases hb
    |some k=>
     rw [hk] at hb
     simp only [Option.map_some] at hb
     cases k with
     |arr nn t l=>
      simp only [zjM] at hb
      cases hm:xr F.mv b with
      |true=>rw [hm] at hb;cases hb
      |false=>rw [hm] at hb;exact hb
     |_=>exact hb
theorem zFC {cont:Exit→Bool} (hcont:∀e,cont e=true↔e=.normal) {E:(R:Type)→EvS R} (hE:∀R,(E R).Ok P) {F:Frm} {c:Code} (hF:F.OkC c) (hkeep:∀l L,zn F.H1 l=some (.loop L)→l∈F.pn→OPl.lp l L∈F.ol) (hall:∀b x,reg (zn F.H1 b)=some x→b∈F.ns)
  {rd:Option Nat} {tm:List SV} {ds:List Nat} {H:SH} {M:Nat} {xs:Xs} {k:KC R} {r:R} {x0:DS F.dl} {y0:OS F.ol} {σ:List (Nat×Nat)} (hM:F.n0≤M) (htm:F.tm0=Ub (asg c) 0 tm)
  (hD:bkD F.dl tm H=some (x0,F.H1)) (hO:bkO F.ol (rdy F.ol) tm F.H1=some (y0,σ)) (hQ:GJ (idD F.dl++σ)=true) (hN:Ua F.lo F.n0 (idD F.dl++σ)=true) (hR:zfy F (idD F.dl++σ)=true)
  (h:zsn cont E F rd c ds M xs (x0,y0) k=some r):∃S,zsg P rd c tm ds H F.lo S∧k S=some r:=by
 unfold zsn at h
 split at h
 case h_2=>cases h
 rename_i j s hit
 rw [XG] at h
 have hg:=gY hD
 have hvE:∀ν,VN ν F.lo H→VN ν F.lo F.H1:=fun ν hv=>hg.1.vn hv
 have hst0:∀ν,VN ν F.lo F.H1→F.St1 ν (rdy F.ol) (x0,y0):=fun ν hv=>by
  obtain ⟨q1,q2,q3,q4⟩:=zaq hF.toOk hv hv hD hO hN (fun b _=>rfl)
  exact ⟨q4,q3⟩
 have hst:∀ν,VN ν F.lo F.H1→∃e vs,xs[j]?=some (e,vs)∧F.St1 ν vs s:=fun ν hv=>by
  refine zjN (B:=zfx cont E F rd c ds M xs) (I:=fun s=>F.St1 ν (rdy F.ol) s) (J:=fun x=>∃e vs,xs[x.1]?=some (e,vs)∧F.St1 ν vs x.2) ?_ zL (x0,y0) (j,s) hit (hst0 ν hv)
  intro s0 r0 hr0 hI
  obtain ⟨S,s1,s2,s3,vs,s',s4,s5⟩:=zjQ hE hF hv hr0
  have:=zhb hE hF hv s1 hI s4
  rcases s5 with ⟨_,rfl,rfl⟩ | ⟨_,j',rfl,hj⟩
  ·exact this
  ·exact ⟨_,vs,hj,this⟩
 have hv0:VN (fun _=>false) F.lo F.H1:=⟨fun b n hr=>GF hr,(fun _ _=>rfl),(fun _ _=>rfl)⟩
 obtain ⟨e,vs,hj,hstf⟩:=hst _ hv0
 have hp:=zjT (f:=fun v=>k ⟨v.1,F.tm s.1 s.2,ds,F.hp F.HF v.2 s.1 s.2,M⟩) (i:=0) hj
 rw [Nat.zero_add] at hp
 rw [hp] at h
 refine ⟨⟨e,F.tm s.1 s.2,ds,F.hp F.HF vs s.1 s.2,M⟩,⟨fun b z hz=>?_,fun l L hl=>?_,⟨?_,fun i hi=>?_⟩,Nat.le_trans hF.le hM,fun ν hv=>⟨zxV (hvE ν hv) hM ?_,(show F.lo≤M from Nat.le_trans hF.le hM),zL,fun φ w K a rc g hf ht hd hr=>?_⟩⟩,h⟩
 ·have h1:reg (zn F.H1 b)=some z:=by rw [hg.1.reg b];exact hz
  show reg (zn (F.hp F.HF vs s.1 s.2) b)=some z
  rw [zmN,hstf.2 b (hall b z h1)];exact h1
 ·obtain ⟨s0,p0,h0⟩:=hg.1.lkeep l L hl
  by_cases hpn:l∈F.pn
  ·have:=hkeep l _ h0 hpn
   obtain ⟨s1,p1,h1⟩:=Frm.lp_at hF (HX:=F.HF) (vs:=vs) (x:=s.1) (y:=s.2) this
   exact ⟨s1,p1,h1⟩
  ·have h1:l∉nmD F.dl:=fun h=>hpn (by simp [Frm.pn,h])
   have h2:l∉nmO F.ol:=fun h=>hpn (by simp [Frm.pn,h])
   refine ⟨s0,p0,?_⟩
   show zn (F.hp F.HF vs s.1 s.2) l=_
   unfold Frm.hp
   rw [zX,Zs h1]
   simp only
   rw [zX,Qv h2]
   simp only
   unfold Frm.HF
   rw [xt,if_neg hpn,h0]
   rfl
 ·show (F.tm s.1 s.2).length=tm.length
  rw [Frm.tm_len,htm,WS]
 ·show (F.tm s.1 s.2)[i]?=tm[i]?
  rw [Frm.tm_get hF hi,htm,QR]
  simp [hi]
 ·obtain ⟨e',vs',hj',hst'⟩:=hst ν (hvE ν hv)
  rw [hj] at hj';cases hj'
  exact hst'.1
 ·
  have hvE':=hvE ν hv
  obtain ⟨φ1,m1,g1⟩:=hg.2 ν φ K w g
  have hout:∀b,b < FZ→φ1 b=φ b:=fun b hb=>(m1 (b+1)).2.1 b hb (.inl (by omega))
  have hfr:xJ φ1 F.lo M:=⟨hf.1,fun b h1 h2=>by rw [hout b (by have:=hf.1;exact Nat.lt_of_lt_of_le h2 this)];exact hf.2 b h1 h2⟩
  have hle:=(m1 0).1
  have hsrc:∀b,b∈(idD F.dl++σ).map (·.2)→(ka ν (rho ν F.H1) F.HR).get b=none:=fun b hb=>by
   rw [List.mem_map] at hb
   obtain ⟨p,hp,rfl⟩:=hb
   unfold zfy at hR
   rw [List.all_eq_true] at hR
   have:=hR p hp
   rw [vK]
   cases hk:zn F.HR p.2 with
   |none=>rfl
   |some kk=>
    rw [hk] at this
    cases kk<;>first | rfl | cases this
  have hlps:∀l L,OPl.lp l L∈F.ol→∀L',zn F.H1 l=some (.loop L')→∃s p,L'={L with st:=s,pend:=p}:=fun l L hl L' hL'=>by
   rw [(hF.lps l L hl).2.2] at hL';cases hL'
   exact ⟨L.st,L.pend,rfl⟩
  obtain ⟨φ3,hseen⟩:=zmL (F:=F) (K:=K) (KA:=K) (φ1:=φ1) (φ2:=φ1) (wE:=w) (ν:=ν) (M:=M) (vs:=rdy F.ol) (x:=x0) (y:=y0) (ts:=a.tmps) (HS0:=H) (HS:=F.H1) (Hs:=zaT ((idD F.dl++σ).map (·.2)) (zH ν F.H1)) hF.toOk g1 hfr hM hvE'
   (Ext.refl _ _ _ _) (qJ.refl _ _) g1 (zhd g1 hsrc) hvE' hD hO hQ hN
   (fun p hp=>by rw [zar,if_pos (List.mem_map.2 ⟨p,hp,rfl⟩)]) (fun b _=>rfl) (by rw [hg.1.rho ν];exact ht.mono hle) (by rw [htm,WS])
   (fun i u hu hj'=>by
    rw [htm,QR,Option.map_eq_some_iff] at hu
    obtain ⟨v,hv',rfl⟩:=hu
    by_cases hi:0+i∈asg c
    ·rw [if_pos hi] at hj';exact absurd rfl hj'
    ·rw [if_neg hi];exact hv') hlps
  have hd1:Zg φ1 ds a.defers:=hd.mono hle
  have hr1:Kn φ1 rd rc:=hr.mono hle
  have key:=zpE (P:=P) (B:=zfx cont E F rd c ds M xs) (c:=c) (F:=fw rc)
   (Inv:=fun s a w'=>∃φ',F.Seen K φ1 w ν F.HR (rdy F.ol) s.1 s.2 φ' w' a.tmps∧Zg φ1 ds a.defers)
   (Fin:=fun x e a w'=>∃vs φ',xs[x.1]?=some (e,vs)∧F.Seen K φ1 w ν F.HR vs x.2.1 x.2.2 φ' w' a.tmps∧Zg φ1 ds a.defers)
   (fun s0 r0 hr0 a0 w0 hI=>by
    obtain ⟨φ',hI,hd0⟩:=hI
    obtain ⟨S,s1,s2,s3,vs',s',s4,s5⟩:=zjQ hE hF hvE' hr0
    refine wpIn_mono (zhc hE hF g1 hfr hM hvE' hr1 s1 s2 s3 s4 hI hd0) ?_
    rintro e' a' w' ⟨rfl,φ'',q1,q2⟩
    rcases s5 with ⟨he,rfl,rfl⟩ | ⟨he,j',rfl,hj'⟩
    ·exact ⟨(hcont _).1 he,φ'',q1,q2⟩
    ·exact ⟨(fun e=>by rw [(hcont _).2 e] at he;cases he),vs',φ'',hj',q1,q2⟩) zL (x0,y0) (j,s) hit a w ⟨φ3,hseen,hd1⟩
  refine zpF ?_ _ _ _ key
  rintro e' a' w' ⟨vs',φ',q1,q2,q3⟩
  rw [hj] at q1;cases q1
  obtain ⟨t1,t2⟩:=zjS hF g1 hvE' hall q2 (fun b kk hb hk=>zxU hb hk)
  refine ⟨rfl,φ',?_,t1,t2,q3.mono q2.ext.1,⟨q2.went.os,q2.went.tape,q2.went.output,q2.went.size,fun b hb=>q2.went.kept b (.inl hb)⟩⟩
  have e1:Ext K φ φ1 F.lo M:=(m1 F.lo).wide (Nat.le_refl _) (Nat.le_trans hF.le hM)
  have e2:Ext K φ1 φ' F.lo M:=(q2.ext.weak (fun b hb=>.inl hb)).wide (Nat.le_refl _) hM
  exact e1.comp e2
theorem zso {X S:Type} {B:S→Option (X ⊕ S)} {C x:Code} {lb:Nat} (hfl:findLabel C lb=some x) {Inv:S→Act→World→Prop} {Fin:X→Exit→Act→World→Prop}
  (h:∀s r,B s=some r→∀a w,Inv s a w→x.wp P (fun e a' w'=>match r with | .inl y=>zoE e=true∧Fin y e a' w' | .inr s'=>e=.goto lb∧Inv s' a' w') a w) :
  ∀(N:Nat) (s:S) (y:X),zz B N s=some y→∀a w,Inv s a w→zch P C (Fin y) N x a w
 |0,s,x,hi,a,w,hI=>by cases hi
 |N+1,s,y,hi,a,w,hI=>by
  rw [XP] at hi
  split at hi
  ·rename_i y' hB
   cases hi
   refine Code.wp_mono ?_ (h s _ hB a w hI)
   intro e a' w' hq
   obtain ⟨he,hf⟩:=hq
   cases e<;>first | exact hf | cases he
  ·rename_i s' hB
   refine Code.wp_mono ?_ (h s _ hB a w hI)
   intro e a' w' hq
   obtain ⟨rfl,hI'⟩:=hq
   simp only [hfl]
   exact zso hfl h N s' y hi a' w' hI'
  ·cases hi
theorem zDO {cont:Exit→Bool} {C:Code} {lb:Nat} (hcont:∀e,cont e=true→e=.goto lb) {E:(R:Type)→EvS R} (hE:∀R,(E R).Ok P) {F:Frm} {c:Code} (hF:F.OkC c) (hkeep:∀l L,zn F.H1 l=some (.loop L)→l∈F.pn→OPl.lp l L∈F.ol) (hall:∀b x,reg (zn F.H1 b)=some x→b∈F.ns)
  {tm:List SV} {ds:List Nat} {H:SH} {M:Nat} {xs:Xs} {k:KC R} {r:R} {x0:DS F.dl} {y0:OS F.ol} {σ:List (Nat×Nat)} (hM:F.n0≤M) (hfl:findLabel C lb=some c) (hasgC:∀i∈asg c,i∈asg C) (hxs:∀(j:Nat) e vs,xs[j]?=some (e,vs)→zoE e=true) (htm:F.tm0=Ub (asg c) 0 tm)
  (hD:bkD F.dl tm H=some (x0,F.H1)) (hO:bkO F.ol (rdy F.ol) tm F.H1=some (y0,σ)) (hQ:GJ (idD F.dl++σ)=true) (hN:Ua F.lo F.n0 (idD F.dl++σ)=true) (hR:zfy F (idD F.dl++σ)=true)
  (h:zsn cont E F none c ds M xs (x0,y0) k=some r):∃S,zFp P C c tm ds H F.lo S∧k S=some r:=by
 unfold zsn at h
 split at h
 case h_2=>cases h
 rename_i j s hit
 rw [XG] at h
 have hg:=gY hD
 have hvE:∀ν,VN ν F.lo H→VN ν F.lo F.H1:=fun ν hv=>hg.1.vn hv
 have hst0:∀ν,VN ν F.lo F.H1→F.St1 ν (rdy F.ol) (x0,y0):=fun ν hv=>by
  obtain ⟨q1,q2,q3,q4⟩:=zaq hF.toOk hv hv hD hO hN (fun b _=>rfl)
  exact ⟨q4,q3⟩
 have hst:∀ν,VN ν F.lo F.H1→∃e vs,xs[j]?=some (e,vs)∧F.St1 ν vs s:=fun ν hv=>by
  refine zjN (B:=zfx cont E F none c ds M xs) (I:=fun s=>F.St1 ν (rdy F.ol) s) (J:=fun x=>∃e vs,xs[x.1]?=some (e,vs)∧F.St1 ν vs x.2) ?_ zL (x0,y0) (j,s) hit (hst0 ν hv)
  intro s0 r0 hr0 hI
  obtain ⟨S,s1,s2,s3,vs,s',s4,s5⟩:=zjQ hE hF hv hr0
  have:=zhb hE hF hv s1 hI s4
  rcases s5 with ⟨_,rfl,rfl⟩ | ⟨_,j',rfl,hj⟩
  ·exact this
  ·exact ⟨_,vs,hj,this⟩
 have hv0:VN (fun _=>false) F.lo F.H1:=⟨fun b n hr=>GF hr,(fun _ _=>rfl),(fun _ _=>rfl)⟩
 obtain ⟨e,vs,hj,hstf⟩:=hst _ hv0
 have hp:=zjT (f:=fun v=>k ⟨v.1,F.tm s.1 s.2,ds,F.hp F.HF v.2 s.1 s.2,M⟩) (i:=0) hj
 rw [Nat.zero_add] at hp
 rw [hp] at h
 refine ⟨⟨e,F.tm s.1 s.2,ds,F.hp F.HF vs s.1 s.2,M⟩,⟨fun b z hz=>?_,fun l L hl=>?_,⟨?_,fun i hi=>?_⟩,Nat.le_trans hF.le hM,fun ν hv=>⟨zxV (hvE ν hv) hM ?_,(show F.lo≤M from Nat.le_trans hF.le hM),zL,fun φ w K a g hf ht hd=>?_⟩⟩,h⟩
 ·have h1:reg (zn F.H1 b)=some z:=by rw [hg.1.reg b];exact hz
  show reg (zn (F.hp F.HF vs s.1 s.2) b)=some z
  rw [zmN,hstf.2 b (hall b z h1)];exact h1
 ·obtain ⟨s0,p0,h0⟩:=hg.1.lkeep l L hl
  by_cases hpn:l∈F.pn
  ·have:=hkeep l _ h0 hpn
   obtain ⟨s1,p1,h1⟩:=Frm.lp_at hF (HX:=F.HF) (vs:=vs) (x:=s.1) (y:=s.2) this
   exact ⟨s1,p1,h1⟩
  ·have h1:l∉nmD F.dl:=fun h=>hpn (by simp [Frm.pn,h])
   have h2:l∉nmO F.ol:=fun h=>hpn (by simp [Frm.pn,h])
   refine ⟨s0,p0,?_⟩
   show zn (F.hp F.HF vs s.1 s.2) l=_
   unfold Frm.hp
   rw [zX,Zs h1]
   simp only
   rw [zX,Qv h2]
   simp only
   unfold Frm.HF
   rw [xt,if_neg hpn,h0]
   rfl
 ·show (F.tm s.1 s.2).length=tm.length
  rw [Frm.tm_len,htm,WS]
 ·show (F.tm s.1 s.2)[i]?=tm[i]?
  have hi:i∉asg c:=fun h=>hi (hasgC i h)
  rw [Frm.tm_get hF hi,htm,QR]
  simp [hi]
 ·obtain ⟨e',vs',hj',hst'⟩:=hst ν (hvE ν hv)
  rw [hj] at hj';cases hj'
  exact hst'.1
 ·
  have hvE':=hvE ν hv
  obtain ⟨φ1,m1,g1⟩:=hg.2 ν φ K w g
  have hout:∀b,b < FZ→φ1 b=φ b:=fun b hb=>(m1 (b+1)).2.1 b hb (.inl (by omega))
  have hfr:xJ φ1 F.lo M:=⟨hf.1,fun b h1 h2=>by rw [hout b (by have:=hf.1;exact Nat.lt_of_lt_of_le h2 this)];exact hf.2 b h1 h2⟩
  have hle:=(m1 0).1
  have hsrc:∀b,b∈(idD F.dl++σ).map (·.2)→(ka ν (rho ν F.H1) F.HR).get b=none:=fun b hb=>by
   rw [List.mem_map] at hb
   obtain ⟨p,hp,rfl⟩:=hb
   unfold zfy at hR
   rw [List.all_eq_true] at hR
   have:=hR p hp
   rw [vK]
   cases hk:zn F.HR p.2 with
   |none=>rfl
   |some kk=>
    rw [hk] at this
    cases kk<;>first | rfl | cases this
  have hlps:∀l L,OPl.lp l L∈F.ol→∀L',zn F.H1 l=some (.loop L')→∃s p,L'={L with st:=s,pend:=p}:=fun l L hl L' hL'=>by
   rw [(hF.lps l L hl).2.2] at hL';cases hL'
   exact ⟨L.st,L.pend,rfl⟩
  obtain ⟨φ3,hseen⟩:=zmL (F:=F) (K:=K) (KA:=K) (φ1:=φ1) (φ2:=φ1) (wE:=w) (ν:=ν) (M:=M) (vs:=rdy F.ol) (x:=x0) (y:=y0) (ts:=a.tmps) (HS0:=H) (HS:=F.H1) (Hs:=zaT ((idD F.dl++σ).map (·.2)) (zH ν F.H1)) hF.toOk g1 hfr hM hvE'
   (Ext.refl _ _ _ _) (qJ.refl _ _) g1 (zhd g1 hsrc) hvE' hD hO hQ hN
   (fun p hp=>by rw [zar,if_pos (List.mem_map.2 ⟨p,hp,rfl⟩)]) (fun b _=>rfl) (by rw [hg.1.rho ν];exact ht.mono hle) (by rw [htm,WS])
   (fun i u hu hj'=>by
    rw [htm,QR,Option.map_eq_some_iff] at hu
    obtain ⟨v,hv',rfl⟩:=hu
    by_cases hi:0+i∈asg c
    ·rw [if_pos hi] at hj';exact absurd rfl hj'
    ·rw [if_neg hi];exact hv') hlps
  have hd1:Zg φ1 ds a.defers:=hd.mono hle
  have hr1:Kn φ1 none none:=trivial
  have key:=zso (P:=P) (B:=zfx cont E F none c ds M xs) hfl
   (Inv:=fun s a w'=>∃φ',F.Seen K φ1 w ν F.HR (rdy F.ol) s.1 s.2 φ' w' a.tmps∧Zg φ1 ds a.defers)
   (Fin:=fun x e a w'=>∃vs φ',xs[x.1]?=some (e,vs)∧F.Seen K φ1 w ν F.HR vs x.2.1 x.2.2 φ' w' a.tmps∧Zg φ1 ds a.defers)
   (fun s0 r0 hr0 a0 w0 hI=>by
    obtain ⟨φ',hI,hd0⟩:=hI
    obtain ⟨S,s1,s2,s3,vs',s',s4,s5⟩:=zjQ hE hF hvE' hr0
    refine (wpIn_wide (n:=0)).1 (wpIn_mono (zhc (rc:=none) hE hF g1 hfr hM hvE' hr1 s1 s2 s3 s4 hI hd0) ?_)
    rintro e' a' w' ⟨rfl,φ'',q1,q2⟩
    rcases s5 with ⟨he,rfl,rfl⟩ | ⟨he,j',rfl,hj'⟩
    ·exact ⟨hcont _ he,φ'',q1,q2⟩
    ·exact ⟨hxs _ _ _ hj',vs',φ'',hj',q1,q2⟩) zL (x0,y0) (j,s) hit a w ⟨φ3,hseen,hd1⟩
  refine zfk ?_ _ _ _ _ key
  rintro e' a' w' ⟨vs',φ',q1,q2,q3⟩
  rw [hj] at q1;cases q1
  obtain ⟨t1,t2⟩:=zjS hF g1 hvE' hall q2 (fun b kk hb hk=>zxU hb hk)
  refine ⟨rfl,φ',?_,t1,t2,q3.mono q2.ext.1,⟨q2.went.os,q2.went.tape,q2.went.output,q2.went.size,fun b hb=>q2.went.kept b (.inl hb)⟩⟩
  have e1:Ext K φ φ1 F.lo M:=(m1 F.lo).wide (Nat.le_refl _) (Nat.le_trans hF.le hM)
  have e2:Ext K φ1 φ' F.lo M:=(q2.ext.weak (fun b hb=>.inl hb)).wide (Nat.le_refl _) hM
  exact e1.comp e2
theorem zFD {cont:Exit→Bool} (hcont:∀e,cont e=true↔e=.normal) {xq:Exit→Bool} {E:(R:Type)→EvS R} (hE:∀R,(E R).Ok P) {pl:zV} {rd:Option Nat} {c:Code} {tm:List SV} {ds:List Nat} {H:SH} {nx sp:Nat} {k:KC R} {r:R} (h:zoC cont xq E pl rd c tm ds H nx sp k=some r):∃S,zsg P rd c tm ds H nx S∧k S=some r:=by
 unfold zoC at h
 split at h
 case h_2=>cases h
 rename_i dl ol0 g hpl
 split at h
 case h_2=>cases h
 rename_i x0 H1 hD
 unfold zCv at h
 dsimp only at h
 split at h
 case h_2=>cases h
 rename_i y0 σ hO
 have h6:=zE h
 clear h
 obtain ⟨hc,h⟩:=h6
 simp only [Bool.and_eq_true] at hc
 obtain ⟨c1,c2,c3,c4,c5⟩:=hc
 have hlps:∀l L,OPl.lp l L∈(ol0++uL (uq H1 (qQ H1)) nx H1 (qQ H1))→vC (uq H1 (qQ H1)) nx L.tm=true∧L.dfr < nx∧zn H1 l=some (.loop L):=fun l L hl=>by
  rcases List.mem_append.1 hl with hl | hl
  ·exact absurd hl (Ud c1)
  ·exact Ku hl
 obtain ⟨hF,hkeep⟩:=zoD (F:=WT dl (ol0++uL (uq H1 (qQ H1)) nx H1 (qQ H1)) g c tm nx H1 (uq H1 (qQ H1)) σ) c2 (Nat.le_add_right _ _) hlps (fun b hb=>zcw hb) (tm:=tm) rfl
 exact zFC hcont (F:=WT dl (ol0++uL (uq H1 (qQ H1)) nx H1 (qQ H1)) g c tm nx H1 (uq H1 (qQ H1)) σ) hE hF hkeep
  (fun b x hx=>by
   have:∃k,zn H1 b=some k:=by
    cases hk:zn H1 b with
    |none=>exact absurd hx (by show reg (zn H1 b)≠_;rw [hk];simp [reg])
    |some k=>exact ⟨k,rfl⟩
   obtain ⟨k,hk⟩:=this
   exact zcx hx (Uc hk)) (Nat.le_add_right _ _) rfl hD hO c3 c4 c5 h
theorem zDP {cont:Exit→Bool} {C:Code} {lb:Nat} (hcont:∀e,cont e=true→e=.goto lb) {E:(R:Type)→EvS R} (hE:∀R,(E R).Ok P) {pl:zV} {c:Code} {tm:List SV} {ds:List Nat} {H:SH} {nx sp:Nat} {k:KC R} {r:R} (hfl:findLabel C lb=some c) (hasgC:∀i∈asg c,i∈asg C) (h:zoC cont zoE E pl none c tm ds H nx sp k=some r):∃S,zFp P C c tm ds H nx S∧k S=some r:=by
 unfold zoC at h
 split at h
 case h_2=>cases h
 rename_i dl ol0 g hpl
 split at h
 case h_2=>cases h
 rename_i x0 H1 hD
 unfold zCv at h
 dsimp only at h
 split at h
 case h_2=>cases h
 rename_i y0 σ hO
 have h6:=zE h
 clear h
 obtain ⟨hc,h⟩:=h6
 simp only [Bool.and_eq_true] at hc
 obtain ⟨c1,c2,c3,c4,c5⟩:=hc
 have hlps:∀l L,OPl.lp l L∈(ol0++uL (uq H1 (qQ H1)) nx H1 (qQ H1))→vC (uq H1 (qQ H1)) nx L.tm=true∧L.dfr < nx∧zn H1 l=some (.loop L):=fun l L hl=>by
  rcases List.mem_append.1 hl with hl | hl
  ·exact absurd hl (Ud c1)
  ·exact Ku hl
 obtain ⟨hF,hkeep⟩:=zoD (F:=WT dl (ol0++uL (uq H1 (qQ H1)) nx H1 (qQ H1)) g c tm nx H1 (uq H1 (qQ H1)) σ) c2 (Nat.le_add_right _ _) hlps (fun b hb=>zcw hb) (tm:=tm) rfl
 exact zDO hcont (F:=WT dl (ol0++uL (uq H1 (qQ H1)) nx H1 (qQ H1)) g c tm nx H1 (uq H1 (qQ H1)) σ) hE hF hkeep
  (fun b x hx=>by
   have:∃k,zn H1 b=some k:=by
    cases hk:zn H1 b with
    |none=>exact absurd hx (by show reg (zn H1 b)≠_;rw [hk];simp [reg])
    |some k=>exact ⟨k,rfl⟩
   obtain ⟨k,hk⟩:=this
   exact zcx hx (Uc hk)) (Nat.le_add_right _ _) hfl hasgC (fun j e vs hj=>zHt hj) rfl hD hO c3 c4 c5 h
def zuA (F:Frm) (S:VL):Xs→Nat→Option (Nat×F.S)
 |[],_=>none
 |(e,vs)::r,j=>bif zc1 S.e e then match XQ F vs S.tm S.H with
   |some s=>some (j,s)
   |none=>zuA F S r (j+1)
  else zuA F S r (j+1)
theorem zwe {F:Frm} {S:VL}:∀{xs:Xs} {j:Nat} {r:Nat×F.S},zuA F S xs j=some r→∃i vs,r.1=j+i∧xs[i]?=some (S.e,vs)∧XQ F vs S.tm S.H=some r.2
 |[],j,r,h=>by cases h
 |(e,vs)::xs,j,r,h=>by
  have rec_:zuA F S xs (j+1)=some r→∃i vs',r.1=j+i∧((e,vs)::xs)[i]?=some (S.e,vs')∧XQ F vs' S.tm S.H=some r.2:=fun h=>by
   obtain ⟨i,vs',h1,h2,h3⟩:=zwe h
   exact ⟨i+1,vs',by rw [h1];omega,by simpa using h2,h3⟩
  simp only [zuA] at h
  rcases xM h with ⟨h1,h2⟩ | ⟨_,h2⟩
  ·split at h2
   ·rename_i s hs
    cases h2
    exact ⟨0,vs,rfl,by rw [zfw h1];rfl,hs⟩
   ·exact rec_ h2
  ·exact rec_ h2
def zzg (E:(R:Type)→EvS R) (F:Frm) (rd:Option Nat) (c:Code) (ds:List Nat) (M:Nat) (xs:Xs) (s:F.S):Option (Nat×F.S):=
 zfu F.ol s.2 fun y=>(E _).code0 rd c (F.tm s.1 y) ds (F.hp F.HR (rdy F.ol) s.1 y) F.n0 fun S=>
  bif Nat.ble S.nx M&&zoB ds S.ds then zuA F S xs 0 else none
theorem zDQ {E:(R:Type)→EvS R} (hE:∀R,(E R).Ok P) {F:Frm} {c:Code} {rd:Option Nat} {ds:List Nat} {M:Nat} {xs:Xs} {s:F.S} {j:Nat} {s':F.S} (h:zzg E F rd c ds M xs s=some (j,s')) :
  ∃
   S:VL,JQ P rd c (F.tm s.1 s.2) ds (F.hp F.HR (rdy F.ol) s.1 s.2) F.n0 S∧S.nx≤M∧S.ds=ds∧
   ∃vs,XQ F vs S.tm S.H=some s'∧xs[j]?=some (S.e,vs):=by
 unfold zzg at h
 rw [XG] at h
 obtain ⟨S,h1,h2⟩:=(hE _).code0 h
 have h6:=zE h2
 clear h2
 obtain ⟨hq,h2⟩:=h6
 simp only [Bool.and_eq_true,Nat.ble_eq] at hq
 obtain ⟨i,vs,e1,e2,e3⟩:=zwe h2
 refine ⟨S,h1,hq.1,(zjP hq.2).symm,vs,e3,?_⟩
 have:j=i:=by simpa using e1
 rw [this];exact e2
def zCw (E:(R:Type)→EvS R) (F:Frm) (rd:Option Nat) (c:Code) (ds:List Nat) (M:Nat) (xs:Xs) (s0:F.S) (k:KC R):Option R:=
 match zzg E F rd c ds M xs s0 with
 |some (j,s)=>zfu F.ol s.2 fun y=>zsm xs 0 j fun v=>k ⟨v.1,F.tm s.1 y,ds,F.hp F.HF v.2 s.1 y,M⟩
 |none=>none
theorem zFE {E:(R:Type)→EvS R} (hE:∀R,(E R).Ok P) {F:Frm} {c:Code} (hF:F.OkC c) (hkeep:∀l L,zn F.H1 l=some (.loop L)→l∈F.pn→OPl.lp l L∈F.ol) (hall:∀b x,reg (zn F.H1 b)=some x→b∈F.ns)
  {rd:Option Nat} {tm:List SV} {ds:List Nat} {H:SH} {M:Nat} {xs:Xs} {k:KC R} {r:R} {x0:DS F.dl} {y0:OS F.ol} {σ:List (Nat×Nat)} (hM:F.n0≤M) (htm:F.tm0=Ub (asg c) 0 tm)
  (hD:bkD F.dl tm H=some (x0,F.H1)) (hO:bkO F.ol (rdy F.ol) tm F.H1=some (y0,σ)) (hQ:GJ (idD F.dl++σ)=true) (hN:Ua F.lo F.n0 (idD F.dl++σ)=true) (hR:zfy F (idD F.dl++σ)=true)
  (h:zCw E F rd c ds M xs (x0,y0) k=some r):∃S,JQ P rd c tm ds H F.lo S∧k S=some r:=by
 unfold zCw at h
 split at h
 case h_2=>cases h
 rename_i j s hit
 rw [XG] at h
 have hg:=gY hD
 have hvE:∀ν,VN ν F.lo H→VN ν F.lo F.H1:=fun ν hv=>hg.1.vn hv
 have hst0:∀ν,VN ν F.lo F.H1→F.St1 ν (rdy F.ol) (x0,y0):=fun ν hv=>by
  obtain ⟨q1,q2,q3,q4⟩:=zaq hF.toOk hv hv hD hO hN (fun b _=>rfl)
  exact ⟨q4,q3⟩
 obtain ⟨S0,p1,p2,p3,vs0,p4,p5⟩:=zDQ hE hit
 have hst:∀ν,VN ν F.lo F.H1→F.St1 ν vs0 s:=fun ν hv=>zhb hE hF hv p1 (hst0 ν hv) p4
 have hv0:VN (fun _=>false) F.lo F.H1:=⟨fun b n hr=>GF hr,(fun _ _=>rfl),(fun _ _=>rfl)⟩
 have hstf:=hst _ hv0
 have hp:=zjT (f:=fun v=>k ⟨v.1,F.tm s.1 s.2,ds,F.hp F.HF v.2 s.1 s.2,M⟩) (i:=0) p5
 rw [Nat.zero_add] at hp
 rw [hp] at h
 refine ⟨⟨S0.e,F.tm s.1 s.2,ds,F.hp F.HF vs0 s.1 s.2,M⟩,⟨fun b z hz=>?_,fun l L hl=>?_,⟨?_,fun i hi=>?_⟩,Nat.le_trans hF.le hM,fun ν hv=>⟨zxV (hvE ν hv) hM ?_,(show F.lo≤M from Nat.le_trans hF.le hM),fun φ w K a rc g hf ht hd hr=>?_⟩⟩,h⟩
 ·have h1:reg (zn F.H1 b)=some z:=by rw [hg.1.reg b];exact hz
  show reg (zn (F.hp F.HF vs0 s.1 s.2) b)=some z
  rw [zmN,hstf.2 b (hall b z h1)];exact h1
 ·obtain ⟨s0,p0,h0⟩:=hg.1.lkeep l L hl
  by_cases hpn:l∈F.pn
  ·have:=hkeep l _ h0 hpn
   obtain ⟨s1,p1,h1⟩:=Frm.lp_at hF (HX:=F.HF) (vs:=vs0) (x:=s.1) (y:=s.2) this
   exact ⟨s1,p1,h1⟩
  ·have h1:l∉nmD F.dl:=fun h=>hpn (by simp [Frm.pn,h])
   have h2:l∉nmO F.ol:=fun h=>hpn (by simp [Frm.pn,h])
   refine ⟨s0,p0,?_⟩
   show zn (F.hp F.HF vs0 s.1 s.2) l=_
   unfold Frm.hp
   rw [zX,Zs h1]
   simp only
   rw [zX,Qv h2]
   simp only
   unfold Frm.HF
   rw [xt,if_neg hpn,h0]
   rfl
 ·show (F.tm s.1 s.2).length=tm.length
  rw [Frm.tm_len,htm,WS]
 ·show (F.tm s.1 s.2)[i]?=tm[i]?
  rw [Frm.tm_get hF hi,htm,QR]
  simp [hi]
 ·exact (hst ν (hvE ν hv)).1
 ·
  have hvE':=hvE ν hv
  obtain ⟨φ1,m1,g1⟩:=hg.2 ν φ K w g
  have hout:∀b,b < FZ→φ1 b=φ b:=fun b hb=>(m1 (b+1)).2.1 b hb (.inl (by omega))
  have hfr:xJ φ1 F.lo M:=⟨hf.1,fun b h1 h2=>by rw [hout b (by have:=hf.1;exact Nat.lt_of_lt_of_le h2 this)];exact hf.2 b h1 h2⟩
  have hle:=(m1 0).1
  have hsrc:∀b,b∈(idD F.dl++σ).map (·.2)→(ka ν (rho ν F.H1) F.HR).get b=none:=fun b hb=>by
   rw [List.mem_map] at hb
   obtain ⟨p,hp,rfl⟩:=hb
   unfold zfy at hR
   rw [List.all_eq_true] at hR
   have:=hR p hp
   rw [vK]
   cases hk:zn F.HR p.2 with
   |none=>rfl
   |some kk=>
    rw [hk] at this
    cases kk<;>first | rfl | cases this
  have hlps:∀l L,OPl.lp l L∈F.ol→∀L',zn F.H1 l=some (.loop L')→∃s p,L'={L with st:=s,pend:=p}:=fun l L hl L' hL'=>by
   rw [(hF.lps l L hl).2.2] at hL';cases hL'
   exact ⟨L.st,L.pend,rfl⟩
  obtain ⟨φ3,hseen⟩:=zmL (F:=F) (K:=K) (KA:=K) (φ1:=φ1) (φ2:=φ1) (wE:=w) (ν:=ν) (M:=M) (vs:=rdy F.ol) (x:=x0) (y:=y0) (ts:=a.tmps) (HS0:=H) (HS:=F.H1) (Hs:=zaT ((idD F.dl++σ).map (·.2)) (zH ν F.H1)) hF.toOk g1 hfr hM hvE'
   (Ext.refl _ _ _ _) (qJ.refl _ _) g1 (zhd g1 hsrc) hvE' hD hO hQ hN
   (fun p hp=>by rw [zar,if_pos (List.mem_map.2 ⟨p,hp,rfl⟩)]) (fun b _=>rfl) (by rw [hg.1.rho ν];exact ht.mono hle) (by rw [htm,WS])
   (fun i u hu hj'=>by
    rw [htm,QR,Option.map_eq_some_iff] at hu
    obtain ⟨v,hv',rfl⟩:=hu
    by_cases hi:0+i∈asg c
    ·rw [if_pos hi] at hj';exact absurd rfl hj'
    ·rw [if_neg hi];exact hv') hlps
  have hd1:Zg φ1 ds a.defers:=hd.mono hle
  have hr1:Kn φ1 rd rc:=hr.mono hle
  refine wpIn_mono (zhc hE hF g1 hfr hM hvE' hr1 p1 p2 p3 p4 hseen hd1) ?_
  rintro e' a' w' ⟨rfl,φ',q2,q3⟩
  obtain ⟨t1,t2⟩:=zjS hF g1 hvE' hall q2 (fun b kk hb hk=>zxU hb hk)
  refine ⟨rfl,φ',?_,t1,t2,q3.mono q2.ext.1,⟨q2.went.os,q2.went.tape,q2.went.output,q2.went.size,fun b hb=>q2.went.kept b (.inl hb)⟩⟩
  have e1:Ext K φ φ1 F.lo M:=(m1 F.lo).wide (Nat.le_refl _) (Nat.le_trans hF.le hM)
  have e2:Ext K φ1 φ' F.lo M:=(q2.ext.weak (fun b hb=>.inl hb)).wide (Nat.le_refl _) hM
  exact e1.comp e2
def xsJ (c:Code) (ol:List OPl):Xs:=(zHs .normal (Kv c)).flatMap fun e=>(zhe ol).map fun v=>(e,v)
def zGb (E:(R:Type)→EvS R) (dl:List DPl) (ol0:List OPl) (g:Nat) (rd:Option Nat) (c:Code) (tm:List SV) (ds:List Nat) (nx sp:Nat) (x0:DS dl) (H1:SH) (k:KC R):Option R:=
 match uq H1 (qQ H1) with
 |ns=>match uL ns nx H1 (qQ H1) with
  |lps=>match bkO (ol0++lps) (rdy (ol0++lps)) tm H1 with
   |some (y0,σ)=>bif zhR ol0&&(zzf (WT dl (ol0++lps) g c tm nx H1 ns σ) c&&(GJ (idD dl++σ)&&(Ua nx (nx+g) (idD dl++σ)&&zfy (WT dl (ol0++lps) g c tm nx H1 ns σ) (idD dl++σ)))) then
     zCw E (WT dl (ol0++lps) g c tm nx H1 ns σ) rd c ds (nx+g+sp) (xsJ c (ol0++lps)) (x0,y0) k
    else none
   |none=>none
def zCx (E:(R:Type)→EvS R) (pl:zV) (rd:Option Nat) (c:Code) (tm:List SV) (ds:List Nat) (H:SH) (nx sp:Nat) (k:KC R):Option R:=match pl c tm H nx with
 |some (dl,ol0,g)=>match bkD dl tm H with
  |some (x0,H1)=>zGb E dl ol0 g rd c tm ds nx sp x0 H1 k
  |none=>none
 |none=>none
theorem zFF {E:(R:Type)→EvS R} (hE:∀R,(E R).Ok P) {pl:zV} {rd:Option Nat} {c:Code} {tm:List SV} {ds:List Nat} {H:SH} {nx sp:Nat} {k:KC R} {r:R} (h:zCx E pl rd c tm ds H nx sp k=some r):∃S,JQ P rd c tm ds H nx S∧k S=some r:=by
 unfold zCx at h
 split at h
 case h_2=>cases h
 rename_i dl ol0 g hpl
 split at h
 case h_2=>cases h
 rename_i x0 H1 hD
 unfold zGb at h
 dsimp only at h
 split at h
 case h_2=>cases h
 rename_i y0 σ hO
 have h6:=zE h
 clear h
 obtain ⟨hc,h⟩:=h6
 simp only [Bool.and_eq_true] at hc
 obtain ⟨c1,c2,c3,c4,c5⟩:=hc
 have hlps:∀l L,OPl.lp l L∈(ol0++uL (uq H1 (qQ H1)) nx H1 (qQ H1))→vC (uq H1 (qQ H1)) nx L.tm=true∧L.dfr < nx∧zn H1 l=some (.loop L):=fun l L hl=>by
  rcases List.mem_append.1 hl with hl | hl
  ·exact absurd hl (Ud c1)
  ·exact Ku hl
 obtain ⟨hF,hkeep⟩:=zoD (F:=WT dl (ol0++uL (uq H1 (qQ H1)) nx H1 (qQ H1)) g c tm nx H1 (uq H1 (qQ H1)) σ) c2 (Nat.le_add_right _ _) hlps (fun b hb=>zcw hb) (tm:=tm) rfl
 exact zFE (F:=WT dl (ol0++uL (uq H1 (qQ H1)) nx H1 (qQ H1)) g c tm nx H1 (uq H1 (qQ H1)) σ) hE hF hkeep
  (fun b x hx=>by
   have:∃k,zn H1 b=some k:=by
    cases hk:zn H1 b with
    |none=>exact absurd hx (by show reg (zn H1 b)≠_;rw [hk];simp [reg])
    |some k=>exact ⟨k,rfl⟩
   obtain ⟨k,hk⟩:=this
   exact zcx hx (Uc hk)) (Nat.le_add_right _ _) rfl hD hO c3 c4 c5 h
theorem zpG {S:Type} {B:S→Option (S ⊕ S)} {c:Code} {F:Fence} {Inv:S→Act→World→Prop} {Q:Exit→Act→World→Prop}
  (hB:∀s t,B s=some (.inl t)→t=s)
  (h:∀s s',B s=some (.inr s')→∀a w,Inv s a w→c.wpIn F 0 P (fun e a' w'=>e=.normal∧Inv s' a' w') a w) :
  ∀(N:Nat) (s x:S),zz B N s=some x→(∀a w,Inv x a w→c.wpIn F 0 P (fun e a' w'=>e≠.normal∧Q e a' w') a w)→∀a w,Inv s a w→Code.roundsIn F 0 P c Q N a w
 |0,s,x,hi,hl,a,w,hI=>by cases hi
 |N+1,s,x,hi,hl,a,w,hI=>by
  rw [XP] at hi
  rw [roundsIn_succ]
  split at hi
  ·rename_i y hy
   cases hi
   have:=hB _ _ hy
   subst this
   refine wpIn_mono (hl a w hI) ?_
   intro e a' w' hq
   obtain ⟨he,hf⟩:=hq
   cases e<;>first | exact absurd rfl he | exact hf
  ·rename_i s' hs
   refine wpIn_mono (h s _ hs a w hI) ?_
   intro e a' w' hq
   obtain ⟨rfl,hI'⟩:=hq
   exact zpG hB h N s' x hi hl a' w' hI'
  ·cases hi
def zfz (E:(R:Type)→EvS R) (F:Frm) (rd:Option Nat) (c:Code) (ds:List Nat) (M:Nat) (s:F.S):Option (F.S ⊕ F.S):=
 zfu F.ol s.2 fun y=>(E _).code rd c (F.tm s.1 y) ds (F.hp F.HR (rdy F.ol) s.1 y) F.n0 fun S=>
  bif
    zc1 .normal S.e then (bif Nat.ble S.nx M&&zoB ds S.ds then match XQ F (rdy F.ol) S.tm S.H with
    |some s'=>some (.inr s')
    |none=>none
   else none) else some (.inl (s.1,y))
def zzh (E:(R:Type)→EvS R) (F:Frm) (rd:Option Nat) (c:Code) (ds:List Nat) (M:Nat) (s0:F.S) (k:KC R):Option R:=
 match zz (zfz E F rd c ds M) zL s0 with
 |some s=>zfu F.ol s.2 fun y=>(E R).code rd c (F.tm s.1 y) ds (F.hp F.HF (rdy F.ol) s.1 y) M fun S=>bif zc1 .normal S.e then none else k S
 |none=>none
theorem zwf {E:(R:Type)→EvS R} (hE:∀R,(E R).Ok P) {F:Frm} {rd:Option Nat} {c:Code} {ds:List Nat} {M:Nat} {s s':F.S} (h:zfz E F rd c ds M s=some (.inr s')) :
  ∃S:VL,JQ P rd c (F.tm s.1 s.2) ds (F.hp F.HR (rdy F.ol) s.1 s.2) F.n0 S∧S.nx≤M∧S.ds=ds∧XQ F (rdy F.ol) S.tm S.H=some s'∧S.e=.normal:=by
 unfold zfz at h
 rw [XG] at h
 obtain ⟨S,h1,h2⟩:=(hE _).code h
 rcases xM h2 with ⟨he,h2⟩ | ⟨he,h2⟩
 ·have h6:=zE h2
  clear h2
  obtain ⟨hq,h2⟩:=h6
  simp only [Bool.and_eq_true,Nat.ble_eq] at hq
  split at h2
  case h_2=>cases h2
  rename_i s2 hs2
  cases h2
  exact ⟨S,h1,hq.1,(zjP hq.2).symm,hs2,(zfw he).symm⟩
 ·cases h2
theorem zsp {E:(R:Type)→EvS R} (hE:∀R,(E R).Ok P) {F:Frm} {rd:Option Nat} {c:Code} {ds:List Nat} {M:Nat} {s t:F.S} (h:zfz E F rd c ds M s=some (.inl t)):t=s:=by
 unfold zfz at h
 rw [XG] at h
 obtain ⟨S,h1,h2⟩:=(hE _).code h
 rcases xM h2 with ⟨he,h2⟩ | ⟨he,h2⟩
 ·have h6:=zE h2
  clear h2
  obtain ⟨hq,h2⟩:=h6
  split at h2<;>cases h2
 ·cases h2;rfl
theorem zFG {E:(R:Type)→EvS R} (hE:∀R,(E R).Ok P) {F:Frm} {c:Code} (hF:F.OkC c) (hkeep:∀l L,zn F.H1 l=some (.loop L)→l∈F.pn→OPl.lp l L∈F.ol) (hall:∀b x,reg (zn F.H1 b)=some x→b∈F.ns)
  {rd:Option Nat} {tm:List SV} {ds:List Nat} {H:SH} {M:Nat} {k:KC R} {r:R} {x0:DS F.dl} {y0:OS F.ol} {σ:List (Nat×Nat)} (hM:F.n0≤M) (htm:F.tm0=Ub (asg c) 0 tm)
  (hD:bkD F.dl tm H=some (x0,F.H1)) (hO:bkO F.ol (rdy F.ol) tm F.H1=some (y0,σ)) (hQ:GJ (idD F.dl++σ)=true) (hN:Ua F.lo F.n0 (idD F.dl++σ)=true) (hR:zfy F (idD F.dl++σ)=true)
  (h:zzh E F rd c ds M (x0,y0) k=some r):∃S,zsg P rd c tm ds H F.lo S∧k S=some r:=by
 unfold zzh at h
 split at h
 case h_2=>cases h
 rename_i s hit
 rw [XG] at h
 obtain ⟨S,⟨a1,a2,a3,a4,a5⟩,h1⟩:=(hE _).code h
 clear h
 rcases xM h1 with ⟨_,h⟩ | ⟨hne,h⟩
 ·cases h
 have hne:S.e≠.normal:=fun e=>by rw [e] at hne;cases hne
 have hg:=gY hD
 have hvE:∀ν,VN ν F.lo H→VN ν F.lo F.H1:=fun ν hv=>hg.1.vn hv
 have hst0:∀ν,VN ν F.lo F.H1→F.St1 ν (rdy F.ol) (x0,y0):=fun ν hv=>by
  obtain ⟨q1,q2,q3,q4⟩:=zaq hF.toOk hv hv hD hO hN (fun b _=>rfl)
  exact ⟨q4,q3⟩
 have hst:∀ν,VN ν F.lo F.H1→F.St1 ν (rdy F.ol) s:=fun ν hv=>by
  refine zjN (B:=zfz E F rd c ds M) (I:=fun s=>F.St1 ν (rdy F.ol) s) (J:=fun x=>F.St1 ν (rdy F.ol) x) ?_ zL (x0,y0) s hit (hst0 ν hv)
  intro s0 r0 hr0 hI
  cases r0 with
  |inl t=>rw [zsp hE hr0];exact hI
  |inr s'=>
   obtain ⟨S,s1,s2,s3,s4,s5⟩:=zwf hE hr0
   exact zhb hE hF hv s1 hI s4
 have hv0:VN (fun _=>false) F.lo F.H1:=⟨fun b n hr=>GF hr,(fun _ _=>rfl),(fun _ _=>rfl)⟩
 have hstf:=hst _ hv0
 refine ⟨S,⟨fun b z hz=>?_,wR.trans (fun l L hl=>?_) a2,⟨?_,fun i hi=>?_⟩,Nat.le_trans (Nat.le_trans hF.le hM) a4,fun ν hv=>?_⟩,h⟩
 ·have h1:reg (zn F.H1 b)=some z:=by rw [hg.1.reg b];exact hz
  refine a1 b z ?_
  rw [zmN,hstf.2 b (hall b z h1)];exact h1
 ·obtain ⟨s0,p0,h0⟩:=hg.1.lkeep l L hl
  by_cases hpn:l∈F.pn
  ·have:=hkeep l _ h0 hpn
   obtain ⟨s1,p1,h1⟩:=Frm.lp_at hF (HX:=F.HF) (vs:=rdy F.ol) (x:=s.1) (y:=s.2) this
   exact ⟨s1,p1,h1⟩
  ·have h1:l∉nmD F.dl:=fun h=>hpn (by simp [Frm.pn,h])
   have h2:l∉nmO F.ol:=fun h=>hpn (by simp [Frm.pn,h])
   refine ⟨s0,p0,?_⟩
   show zn (F.hp F.HF (rdy F.ol) s.1 s.2) l=_
   unfold Frm.hp
   rw [zX,Zs h1]
   simp only
   rw [zX,Qv h2]
   simp only
   unfold Frm.HF
   rw [xt,if_neg hpn,h0]
   rfl
 ·rw [a3.1,Frm.tm_len,htm,WS]
 ·rw [a3.2 i hi,Frm.tm_get hF hi,htm,QR]
  simp [hi]
 ·have hvE':=hvE ν hv
  obtain ⟨v1,o1⟩:=a5 ν (zxV hvE' hM (hst ν hvE').1)
  refine ⟨v1,(show F.lo≤S.nx from Nat.le_trans (Nat.le_trans hF.le hM) a4),zL,fun φ w K a rc g hf ht hd hr=>?_⟩
  have hfM:xJ φ F.lo M:=⟨Nat.le_trans a4 hf.1,fun b h1 h2=>hf.2 b h1 (Nat.lt_of_lt_of_le h2 a4)⟩
  obtain ⟨φ1,m1,g1⟩:=hg.2 ν φ K w g
  have hout:∀b,b < FZ→φ1 b=φ b:=fun b hb=>(m1 (b+1)).2.1 b hb (.inl (by omega))
  have hfr:xJ φ1 F.lo M:=⟨hfM.1,fun b h1 h2=>by rw [hout b (by have:=hfM.1;exact Nat.lt_of_lt_of_le h2 this)];exact hfM.2 b h1 h2⟩
  have hle:=(m1 0).1
  have hsrc:∀b,b∈(idD F.dl++σ).map (·.2)→(ka ν (rho ν F.H1) F.HR).get b=none:=fun b hb=>by
   rw [List.mem_map] at hb
   obtain ⟨p,hp,rfl⟩:=hb
   unfold zfy at hR
   rw [List.all_eq_true] at hR
   have:=hR p hp
   rw [vK]
   cases hk:zn F.HR p.2 with
   |none=>rfl
   |some kk=>
    rw [hk] at this
    cases kk<;>first | rfl | cases this
  have hlps:∀l L,OPl.lp l L∈F.ol→∀L',zn F.H1 l=some (.loop L')→∃s p,L'={L with st:=s,pend:=p}:=fun l L hl L' hL'=>by
   rw [(hF.lps l L hl).2.2] at hL';cases hL'
   exact ⟨L.st,L.pend,rfl⟩
  obtain ⟨φ3,hseen⟩:=zmL (F:=F) (K:=K) (KA:=K) (φ1:=φ1) (φ2:=φ1) (wE:=w) (ν:=ν) (M:=M) (vs:=rdy F.ol) (x:=x0) (y:=y0) (ts:=a.tmps) (HS0:=H) (HS:=F.H1) (Hs:=zaT ((idD F.dl++σ).map (·.2)) (zH ν F.H1)) hF.toOk g1 hfr hM hvE'
   (Ext.refl _ _ _ _) (qJ.refl _ _) g1 (zhd g1 hsrc) hvE' hD hO hQ hN
   (fun p hp=>by rw [zar,if_pos (List.mem_map.2 ⟨p,hp,rfl⟩)]) (fun b _=>rfl) (by rw [hg.1.rho ν];exact ht.mono hle) (by rw [htm,WS])
   (fun i u hu hj'=>by
    rw [htm,QR,Option.map_eq_some_iff] at hu
    obtain ⟨v,hv',rfl⟩:=hu
    by_cases hi:0+i∈asg c
    ·rw [if_pos hi] at hj';exact absurd rfl hj'
    ·rw [if_neg hi];exact hv') hlps
  have hd1:Zg φ1 ds a.defers:=hd.mono hle
  have hr1:Kn φ1 rd rc:=hr.mono hle
  refine zpG (P:=P) (B:=zfz E F rd c ds M) (c:=c) (F:=fw rc)
   (Inv:=fun s a w'=>∃φ',F.Seen K φ1 w ν F.HR (rdy F.ol) s.1 s.2 φ' w' a.tmps∧Zg φ1 ds a.defers)
   (fun s t hs=>zsp hE hs)
   (fun s0 s' hr0 a0 w0 hI=>by
    obtain ⟨φ',hI,hd0⟩:=hI
    obtain ⟨S,s1,s2,s3,s4,s5⟩:=zwf hE hr0
    refine wpIn_mono (zhc hE hF g1 hfr hM hvE' hr1 s1 s2 s3 s4 hI hd0) ?_
    rintro e' a' w' ⟨rfl,φ'',q1,q2⟩
    exact ⟨s5,φ'',q1,q2⟩) zL (x0,y0) s hit ?_ a w ⟨φ3,hseen,hd1⟩
  rintro a' w' ⟨φ',q2,q3⟩
  obtain ⟨t1,t2⟩:=zjS hF g1 hvE' hall q2 (fun b kk hb hk=>zxU hb hk)
  have e1:Ext K φ φ1 F.lo M:=(m1 F.lo).wide (Nat.le_refl _) (Nat.le_trans hF.le hM)
  have e2:Ext K φ1 φ' F.lo M:=(q2.ext.weak (fun b hb=>.inl hb)).wide (Nat.le_refl _) hM
  have e3:=e1.comp e2
  have hw:qJ K w w':=⟨q2.went.os,q2.went.tape,q2.went.output,q2.went.size,fun b hb=>q2.went.kept b (.inl hb)⟩
  have hfr2:xJ φ' M S.nx:=⟨hf.1,fun b h1 h2=>by
   rw [e3.2.1 b (by have h9:S.nx≤FZ:=hf.1;omega) (.inr h1)]
   exact hf.2 b (Nat.le_trans (Nat.le_trans hF.le hM) h1) h2⟩
  refine wpIn_mono (o1.2 φ' w' K a' rc t1 hfr2 t2 (q3.mono q2.ext.1) (hr.mono e3.1)) ?_
  intro e a2 w2 hq
  refine ⟨fun h0=>hne ?_,YK.after e3 hw (Nat.le_trans hF.le hM) a4 hq⟩
  have:=hq.1
  rw [h0] at this
  exact this.symm
def zDR (E:(R:Type)→EvS R) (dl:List DPl) (ol0:List OPl) (g:Nat) (rd:Option Nat) (c:Code) (tm:List SV) (ds:List Nat) (nx sp:Nat) (x0:DS dl) (H1:SH) (k:KC R):Option R:=
 match uq H1 (qQ H1) with
 |ns=>match uL ns nx H1 (qQ H1) with
  |lps=>match bkO (ol0++lps) (rdy (ol0++lps)) tm H1 with
   |some (y0,σ)=>bif zhR ol0&&(zzf (WT dl (ol0++lps) g c tm nx H1 ns σ) c&&(GJ (idD dl++σ)&&(Ua nx (nx+g) (idD dl++σ)&&zfy (WT dl (ol0++lps) g c tm nx H1 ns σ) (idD dl++σ)))) then
     zzh E (WT dl (ol0++lps) g c tm nx H1 ns σ) rd c ds (nx+g+sp) (x0,y0) k
    else none
   |none=>none
def zzi (E:(R:Type)→EvS R) (pl:zV) (rd:Option Nat) (c:Code) (tm:List SV) (ds:List Nat) (H:SH) (nx sp:Nat) (k:KC R):Option R:=match pl c tm H nx with
 |some (dl,ol0,g)=>match bkD dl tm H with
  |some (x0,H1)=>zDR E dl ol0 g rd c tm ds nx sp x0 H1 k
  |none=>none
 |none=>none
theorem zDS {E:(R:Type)→EvS R} (hE:∀R,(E R).Ok P) {pl:zV} {rd:Option Nat} {c:Code} {tm:List SV} {ds:List Nat} {H:SH} {nx sp:Nat} {k:KC R} {r:R} (h:zzi E pl rd c tm ds H nx sp k=some r):∃S,zsg P rd c tm ds H nx S∧k S=some r:=by
 unfold zzi at h
 split at h
 case h_2=>cases h
 rename_i dl ol0 g hpl
 split at h
 case h_2=>cases h
 rename_i x0 H1 hD
 unfold zDR at h
 dsimp only at h
 split at h
 case h_2=>cases h
 rename_i y0 σ hO
 have h6:=zE h
 clear h
 obtain ⟨hc,h⟩:=h6
 simp only [Bool.and_eq_true] at hc
 obtain ⟨c1,c2,c3,c4,c5⟩:=hc
 have hlps:∀l L,OPl.lp l L∈(ol0++uL (uq H1 (qQ H1)) nx H1 (qQ H1))→vC (uq H1 (qQ H1)) nx L.tm=true∧L.dfr < nx∧zn H1 l=some (.loop L):=fun l L hl=>by
  rcases List.mem_append.1 hl with hl | hl
  ·exact absurd hl (Ud c1)
  ·exact Ku hl
 obtain ⟨hF,hkeep⟩:=zoD (F:=WT dl (ol0++uL (uq H1 (qQ H1)) nx H1 (qQ H1)) g c tm nx H1 (uq H1 (qQ H1)) σ) c2 (Nat.le_add_right _ _) hlps (fun b hb=>zcw hb) (tm:=tm) rfl
 exact zFG (F:=WT dl (ol0++uL (uq H1 (qQ H1)) nx H1 (qQ H1)) g c tm nx H1 (uq H1 (qQ H1)) σ) hE hF hkeep
  (fun b x hx=>by
   have:∃k,zn H1 b=some k:=by
    cases hk:zn H1 b with
    |none=>exact absurd hx (by show reg (zn H1 b)≠_;rw [hk];simp [reg])
    |some k=>exact ⟨k,rfl⟩
   obtain ⟨k,hk⟩:=this
   exact zcx hx (Uc hk)) (Nat.le_add_right _ _) rfl hD hO c3 c4 c5 h
def Kw (i:Nat) (S:VL):VL:=match S.e with
 |.exit j=>bif Nat.beq j i then {S with e:=.normal} else S
 |_=>S
theorem zzj (ν:Nat→Bool) (i:Nat) (S:VL):zcm ν (Kw i S)=(zcm ν S).inBlock i:=by
 unfold Kw Res.inBlock
 show _=(match S.e with | .exit j=>if j=i then {zcm ν S with e:=.normal} else zcm ν S | _=>zcm ν S)
 cases hE:S.e with
 |exit j=>
  simp only
  rw [zml]
  by_cases h:j=i
  ·simp [h,zcm]
  ·simp [h]
 |_=>rfl
def gq (P:Program) (E:EvS R) (rd:Option Nat):Code→List SV→List Nat→SH→Nat→KC R→Option R
 |.skip,tm,ds,H,nx,k=>k ⟨.normal,tm,ds,H,nx⟩
 |.label _,tm,ds,H,nx,k=>k ⟨.normal,tm,ds,H,nx⟩
 |.exit i,tm,ds,H,nx,k=>k ⟨.exit i,tm,ds,H,nx⟩
 |.goto i,tm,ds,H,nx,k=>k ⟨.goto i,tm,ds,H,nx⟩
 |.ret,tm,ds,H,nx,k=>k ⟨.ret,tm,ds,H,nx⟩
 |.seq x y,tm,ds,H,nx,k=>bif E.jq (.seq x y) tm.length then E.join rd (.seq x y) tm ds H nx k else gq P E rd x tm ds H nx fun S=>match S.e with
  |.normal=>gq P E rd y S.tm S.ds S.H S.nx k
  |_=>k S
 |.cond c x y,tm,ds,H,nx,k=>match jY tm H c with
  |some (.bool b)=>bif b then gq P E rd x tm ds H nx k else gq P E rd y tm ds H nx k
  |_=>none
 |.block i c,tm,ds,H,nx,k=>gq P E rd c tm ds H nx fun S=>k (Kw i S)
 |.loop c,tm,ds,H,nx,k=>E.loop rd c tm ds H nx k
 |.region _ ops false,tm,ds,H,nx,k=>zyR (opX P E) ops ops.toList tm H nx fun tm' H' nx'=>k ⟨.normal,tm',ds,H',nx'⟩
 |.region _ ops true,tm,ds,H,nx,k=>zCk P (opX P E) ops tm H nx fun tm' H' nx'=>k ⟨.normal,tm',ds,H',nx'⟩
 |.rangeFunc g ps assign body,tm,ds,H,nx,k=>zy6 E rd g ps assign body tm ds H nx k
 |.scope c,tm,ds,H,nx,k=>match rd with
  |some _=>none
  |none=>gq P E none c tm ds H nx fun S=>match S.e with
   |.goto l=>match findLabel c l with
    |some rest=>E.scp c l rest S.tm S.ds S.H S.nx k
    |none=>none
   |_=>k S
 |_,_,_,_,_,_=>none
theorem JQ.seq {rd:Option Nat} {x y:Code} {tm:List SV} {ds:List Nat} {H:SH} {nx:Nat} {S1 S:VL} (h1:JQ P rd x tm ds H nx S1) (he:S1.e=.normal) (h2:JQ P rd y S1.tm S1.ds S1.H S1.nx S):JQ P rd (.seq x y) tm ds H nx S:=by
 obtain ⟨a1,a2,a3,a4,a5⟩:=h1
 obtain ⟨b1,b2,b3,b4,b5⟩:=h2
 refine ⟨a1.trans b1,a2.trans b2,a3.trans b3 (fun i hi=>by simp [asg,hi]) (fun i hi=>by simp [asg,hi]),Nat.le_trans a4 b4,fun ν hv=>?_⟩
 obtain ⟨v1,o1⟩:=a5 ν hv
 obtain ⟨v2,o2⟩:=b5 ν v1
 exact ⟨v2,zBN o1 he o2⟩
theorem zwg {c rest:Code} {l:Nat} (h:findLabel c l=some rest):∀i∈asg rest,i∈asg c:=by
 induction c generalizing rest with
 |seq a b iha ihb=>
  simp only [findLabel] at h
  cases hA:findLabel a l with
  |some r=>
   rw [hA] at h
   simp only [Option.some.injEq] at h
   subst h
   intro i hi
   simp only [asg,List.mem_append] at hi ⊢
   rcases hi with hi | hi
   ·exact .inl (iha hA i hi)
   ·exact .inr hi
  |none=>
   rw [hA] at h
   simp only [] at h
   intro i hi
   simp only [asg,List.mem_append]
   exact .inr (ihb h i hi)
 |label m=>
  simp only [findLabel] at h
  split at h
  ·cases h;intro i hi;simp [asg] at hi
  ·cases h
 |_=>simp [findLabel] at h
theorem zcz {E:EvS R} (hE:E.Ok P) (hs:uJ P) {rd:Option Nat}:∀(c:Code) {tm:List SV} {ds:List Nat} {H:SH} {nx:Nat} {k:KC R} {r:R},gq P E rd c tm ds H nx k=some r→∃S,JQ P rd c tm ds H nx S∧k S=some r:=by
 intro c
 induction c generalizing rd with
 |skip=>intro tm ds H nx k r h;exact ⟨_,⟨wJ.refl H,wR.refl H,Qu.refl _ _,Nat.le_refl _,fun ν hv=>⟨hv,zAs⟩⟩,h⟩
 |label l=>intro tm ds H nx k r h;exact ⟨_,⟨wJ.refl H,wR.refl H,Qu.refl _ _,Nat.le_refl _,fun ν hv=>⟨hv,zyb⟩⟩,h⟩
 |exit l=>intro tm ds H nx k r h;exact ⟨_,⟨wJ.refl H,wR.refl H,Qu.refl _ _,Nat.le_refl _,fun ν hv=>⟨hv,zAt⟩⟩,h⟩
 |goto l=>intro tm ds H nx k r h;exact ⟨_,⟨wJ.refl H,wR.refl H,Qu.refl _ _,Nat.le_refl _,fun ν hv=>⟨hv,zAu⟩⟩,h⟩
 |ret=>intro tm ds H nx k r h;exact ⟨_,⟨wJ.refl H,wR.refl H,Qu.refl _ _,Nat.le_refl _,fun ν hv=>⟨hv,zBM⟩⟩,h⟩
 |seq x y ihx ihy=>
  intro tm ds H nx k r h
  simp only [gq] at h
  rcases xM h with ⟨_,h⟩ | ⟨_,h⟩
  ·exact hE.join h
  obtain ⟨S1,s1,h1⟩:=ihx h
  split at h1
  ·rename_i he
   obtain ⟨S,s2,h2⟩:=ihy h1
   exact ⟨S,s1.seq he s2,h2⟩
  ·rename_i he
   obtain ⟨a1,a2,a3,a4,a5⟩:=s1
   exact ⟨S1,⟨a1,a2,a3.mono (fun i hi=>by simp [asg,hi]),a4,fun ν hv=>⟨(a5 ν hv).1,ziu (a5 ν hv).2 he⟩⟩,h1⟩
 |cond c x y ihx ihy=>
  intro tm ds H nx k r h
  simp only [gq] at h
  split at h
  case h_2=>cases h
  rename_i b hc
  have hc':∀ν,opv (zu (rho ν H) tm) c=some (.bool b):=fun ν=>by have:=qc hc ν;simpa only [den] using this
  rcases xM h with ⟨rfl,h⟩ | ⟨rfl,h⟩
  ·obtain ⟨S,⟨a1,a2,a3,a4,a5⟩,h2⟩:=ihx h
   exact ⟨S,⟨a1,a2,a3.mono (fun i hi=>by simp [asg,hi]),a4,fun ν hv=>⟨(a5 ν hv).1,zpv (hc' ν) (by simpa using (a5 ν hv).2)⟩⟩,h2⟩
  ·obtain ⟨S,⟨a1,a2,a3,a4,a5⟩,h2⟩:=ihy h
   exact ⟨S,⟨a1,a2,a3.mono (fun i hi=>by simp [asg,hi]),a4,fun ν hv=>⟨(a5 ν hv).1,zpv (hc' ν) (by simpa using (a5 ν hv).2)⟩⟩,h2⟩
 |block i c ih=>
  intro tm ds H nx k r h
  simp only [gq] at h
  obtain ⟨S,⟨a1,a2,a3,a4,a5⟩,h2⟩:=ih h
  have e1:(Kw i S).H=S.H∧(Kw i S).tm=S.tm∧(Kw i S).nx=S.nx:=by
   unfold Kw
   split
   ·cases Nat.beq _ i<;>exact ⟨rfl,rfl,rfl⟩
   ·exact ⟨rfl,rfl,rfl⟩
  refine ⟨Kw i S,⟨by rw [e1.1];exact a1,by rw [e1.1];exact a2,by rw [e1.2.1];exact a3,by rw [e1.2.2];exact a4,fun ν hv=>⟨by rw [e1.1,e1.2.2];exact (a5 ν hv).1,?_⟩⟩,h2⟩
  rw [zzj]
  exact zyc (a5 ν hv).2
 |loop c ih=>
  intro tm ds H nx k r h
  simp only [gq] at h
  obtain ⟨S,⟨b1,b2,b3,b4,b5⟩,h2⟩:=hE.loop h
  exact ⟨S,⟨b1,b2,b3,b4,fun ν hv=>⟨(b5 ν hv).1,zAw (b5 ν hv).2⟩⟩,h2⟩
 |region id ops draw=>
  intro tm ds H nx k r h
  cases draw with
  |false=>
   simp only [gq] at h
   obtain ⟨tm',H',nx',⟨a1,a2,a3,a4,a5⟩,h2⟩:=zun (zDD hE hs) (j:=0) (ops:=ops) (fun i=>by simp) h
   refine ⟨⟨.normal,tm',ds,H',nx'⟩,⟨a1,a2,a3,a4,fun ν hv=>⟨(a5 ν hv).1,zwA ?_⟩⟩,h2⟩
   have:=(a5 ν hv).2
   rw [List.range_eq_range']
   simpa using this
  |true=>
   simp only [gq] at h
   obtain ⟨tm',H',nx',s1,h2⟩:=zFo (id:=id) (ds:=ds) (zDD hE hs) h
   exact ⟨_,s1,h2⟩
 |rangeFunc g ps assign body iha ihb=>
  intro tm ds H nx k r h
  simp only [gq] at h
  exact zDF hE hs h
 |scope c ih=>
  intro tm ds H nx k r h
  cases rd with
  |some l=>simp [gq] at h
  |none=>
   simp only [gq] at h
   obtain ⟨S1,⟨a1,a2,a3,a4,a5⟩,h1⟩:=ih h
   split at h1
   ·rename_i l he
    split at h1
    case h_2=>cases h1
    rename_i rest hf
    obtain ⟨S,⟨b1,b2,b3,b4,b5⟩,h2⟩:=hE.scp hf (zwg hf) h1
    refine ⟨S,⟨a1.trans b1,a2.trans b2,a3.trans b3 (fun i hi=>hi) (fun i hi=>hi),Nat.le_trans a4 b4,fun ν hv=>?_⟩,h2⟩
    obtain ⟨v1,o1⟩:=a5 ν hv
    obtain ⟨v2,o2⟩:=b5 ν v1
    exact ⟨v2,zmc (zrV o1 he hf o2)⟩
   ·rename_i he
    exact ⟨S1,⟨a1,a2,a3,a4,fun ν hv=>⟨(a5 ν hv).1,zmc (zvO (a5 ν hv).2 he)⟩⟩,h1⟩
 |refuse s=>intro tm ds H nx k r h;simp [gq] at h
def zCy (P:Program) (E:EvS R) (rd:Option Nat) (c:Code) (tm:List SV) (ds:List Nat) (H:SH) (nx:Nat) (k:KC R):Option R:=match c with
 |.seq x y=>gq P E rd x tm ds H nx fun S=>match S.e with
  |.normal=>gq P E rd y S.tm S.ds S.H S.nx k
  |_=>k S
 |c=>gq P E rd c tm ds H nx k
theorem zFH {E:EvS R} (hE:E.Ok P) (hs:uJ P) {rd:Option Nat} {c:Code} {tm:List SV} {ds:List Nat} {H:SH} {nx:Nat} {k:KC R} {r:R} (h:zCy P E rd c tm ds H nx k=some r):∃S,JQ P rd c tm ds H nx S∧k S=some r:=by
 unfold zCy at h
 split at h
 ·rename_i x y
  obtain ⟨S1,s1,h1⟩:=zcz hE hs _ h
  split at h1
  ·rename_i he
   obtain ⟨S,s2,h2⟩:=zcz hE hs _ h1
   exact ⟨S,s1.seq he s2,h2⟩
  ·rename_i he
   obtain ⟨a1,a2,a3,a4,a5⟩:=s1
   exact ⟨S1,⟨a1,a2,a3.mono (fun i hi=>by simp [asg,hi]),a4,fun ν hv=>⟨(a5 ν hv).1,ziu (a5 ν hv).2 he⟩⟩,h1⟩
 ·exact zcz hE hs _ h
abbrev Tbl:=List (FuncId×Con)
def zCz:Tbl→FuncId→Option Con:=fun t f=>List.rec (motive:=fun _=>Option Con) none (fun x _ ih=>bif Nat.beq x.1 f then some x.2 else ih) t
def zjU (P:Program) (t:Tbl):Prop:=∀x∈t,x.2.Ok P x.1
theorem zFI {t:Tbl} (h:zjU P t) {f:FuncId} {c:Con}:zCz t f=some c→c.Ok P f:=by
 induction t with
 |nil=>intro hf;cases hf
 |cons x r ih=>
  intro hf
  have hf:(bif Nat.beq x.1 f then some x.2 else zCz r f)=some c:=hf
  cases hb:Nat.beq x.1 f with
  |true=>
   rw [hb] at hf
   cases hf
   have:=Nat.eq_of_beq_eq_true hb
   subst this
   exact h x (by simp)
  |false=>
   rw [hb] at hf
   exact ih (fun y hy=>h y (List.mem_cons_of_mem _ hy)) hf
def zGc:Nat→Nat
 |0=>4096
 |n+1=>16*zGc n
def zzk (P:Program) (t:Tbl) (pl:zV) (jq:Code→Nat→Bool) (sp:Nat) (E:(R:Type)→EvS R) (R:Type):EvS R where
 call:=fun f args H nx k=>match zCz t f with
  |some c=>zFr c args H nx k
  |none=>zxT P (E R) f args H nx k
 code:=fun rd c tm ds H nx k=>gq P (E R) rd c tm ds H nx k
 loop:=fun rd c tm ds H nx k=>match pl c tm H nx with
  |some _=>bif jq (.scope (.loop c)) tm.length then zzi E pl rd c tm ds H nx sp k else zoC (zc1 .normal) (fun _=>true) E pl rd c tm ds H nx sp k
  |none=>gq P (E R) rd c tm ds H nx fun S=>match S.e with
   |.normal=>(E R).loop rd c S.tm S.ds S.H S.nx k
   |_=>k S
 scp:=fun c l x tm ds H nx k=>match pl x tm H nx with
  |some _=>zoC (fun e=>zc1 e (.goto l)) zoE E pl none x tm ds H nx sp k
  |none=>gq P (E R) none x tm ds H nx fun S=>match S.e with
   |.goto l=>match findLabel c l with
    |some rest=>(E R).scp c l rest S.tm S.ds S.H S.nx k
    |none=>none
   |_=>k S
 join:=fun rd c tm ds H nx k=>zCx E pl rd c tm ds H nx sp k
 code0:=fun rd c tm ds H nx k=>zCy P (E R) rd c tm ds H nx k
 jq:=jq
theorem zGY {t:Tbl} (ht:zjU P t) {pl:zV} {jq:Code→Nat→Bool} {sp:Nat} {E:(R:Type)→EvS R} (hE:∀R,(E R).Ok P) (hs:uJ P) (R:Type):(zzk P t pl jq sp E R).Ok P:=by
 refine ⟨fun {f args H nx k r} h=>?_,fun h=>zcz (hE R) hs _ h,fun {rd c tm ds H nx k r} h=>?_,fun {c l0 x tm ds H nx k r} hl0 hx h=>?_,fun h=>zFF hE h,fun h=>zFH (hE R) hs h⟩
 ·simp only [zzk] at h
  split at h
  ·rename_i c hc;exact zGU (zFI ht hc) h
  ·exact zy9 (hE R) h
 ·simp only [zzk] at h
  split at h
  ·rcases xM h with ⟨_,h⟩ | ⟨_,h⟩
   ·exact zDS hE h
   ·exact zFD (fun e=>⟨fun h=>(zfw h).symm,fun h=>by subst h;rfl⟩) hE h
  ·obtain ⟨S1,⟨a1,a2,a3,a4,a5⟩,h1⟩:=zcz (hE R) hs _ h
   split at h1
   ·rename_i he
    obtain ⟨S,⟨b1,b2,b3,b4,b5⟩,h2⟩:=(hE R).loop h1
    refine ⟨S,⟨a1.trans b1,a2.trans b2,a3.trans b3 (fun i hi=>hi) (fun i hi=>hi),Nat.le_trans a4 b4,fun ν hv=>?_⟩,h2⟩
    obtain ⟨v1,o1⟩:=a5 ν hv
    obtain ⟨v2,o2⟩:=b5 ν v1
    exact ⟨v2,zAv o1 he o2⟩
   ·rename_i he
    exact ⟨S1,⟨a1,a2,a3,a4,fun ν hv=>⟨(a5 ν hv).1,zBO (a5 ν hv).2 he⟩⟩,h1⟩
 ·simp only [zzk] at h
  split at h
  ·exact zDP (fun e h=>zfw h) hE hl0 hx h
  ·obtain ⟨S1,⟨a1,a2,a3,a4,a5⟩,h1⟩:=zcz (hE R) hs _ h
   split at h1
   ·rename_i l he
    split at h1
    case h_2=>cases h1
    rename_i rest hf
    obtain ⟨S,⟨b1,b2,b3,b4,b5⟩,h2⟩:=(hE R).scp hf (zwg hf) h1
    refine ⟨S,⟨a1.trans b1,a2.trans b2,a3.trans b3 hx (fun i hi=>hi),Nat.le_trans a4 b4,fun ν hv=>?_⟩,h2⟩
    obtain ⟨v1,o1⟩:=a5 ν hv
    obtain ⟨v2,o2⟩:=b5 ν v1
    exact ⟨v2,zrV o1 he hf o2⟩
   ·rename_i he
    exact ⟨S1,⟨a1,a2,a3.mono hx,a4,fun ν hv=>⟨(a5 ν hv).1,zvO (a5 ν hv).2 he⟩⟩,h1⟩
def evS (P:Program) (t:Tbl) (pl:zV) (jq:Code→Nat→Bool):Nat→(R:Type)→EvS R
 |0=>fun _=>⟨fun _ _ _ _ _=>none,fun _ _ _ _ _ _ _=>none,fun _ _ _ _ _ _ _=>none,fun _ _ _ _ _ _ _ _=>none,fun _ _ _ _ _ _ _=>none,fun _ _ _ _ _ _ _=>none,fun _ _=>false⟩
 |n+1=>fun R=>zzk P t pl jq (zGc n) (evS P t pl jq n) R
theorem zDT {t:Tbl} (ht:zjU P t) {pl:zV} {jq:Code→Nat→Bool} (hs:uJ P):∀n R,(evS P t pl jq n R).Ok P
 |0,R=>⟨(fun h=>by cases h),(fun h=>by cases h),(fun h=>by cases h),(fun _ _ h=>by cases h),(fun h=>by cases h),(fun h=>by cases h)⟩
 |n+1,R=>zGY ht (zDT ht hs n) hs R
def UM:Code→Option Nat
 |.region i _ _=>some i
 |.seq a b=>match UM a with
  |some i=>some i
  |none=>UM b
 |.cond _ a b=>match UM a with
  |some i=>some i
  |none=>UM b
 |.block _ c=>UM c
 |.loop c=>UM c
 |.scope c=>UM c
 |_=>none
def zHu (P:Program) (f:FuncId):Bool:=match zx1 P f with
 |some fn=>fn.body.isSome
 |none=>false
def zqt (b:List VT) (v:SV):List SV:=match b with
 |[_]=>[v]
 |_=>match v with
  |.tup vs=>vs
  |_=>[.junk]
def sF (P:Program) (t:Tbl) (pl:zV) (jq:Code→Nat→Bool) (n:Nat) (f:FuncId) (a b:List VT) (x:T (zp a)):Option (T (zp b)):=
 zxT P (evS P t pl jq n (T (zp b))) f (wT a x) [] 0 fun v H nx=>bif Nat.ble nx FZ then match Kr b (zqt b v) H with
  |some (y,_)=>some y
  |none=>none
  else none
theorem zHv:∀{b:List VT} {v:SV} {H H':SH} {y:T (zp b)},Kr b (zqt b v) H=some (y,H')→
  ∀(ν:Nat→Bool) (G:SH) (φ:Ren) v',zt φ (den (rho ν G) v) v'→∃us,zD φ (zu (rho ν G) (zqt b v)) us∧∀φ0 ws,zD φ0 ws us→ws.length=b.length→zt φ0 (YL ws) v'
 |[],v,H,H',y,h=>by
  intro ν G φ v' hv
  cases v with
  |tup vs=>
   simp only [den] at hv
   obtain ⟨ys,rfl,hl⟩:=hv.tuple_inv
   refine ⟨ys.toList,by simpa [zqt] using hl,fun φ0 ws hw hlen=>?_⟩
   have:ws=[]:=List.length_eq_zero_iff.1 hlen
   subst this
   exact .tuple' (by simpa using hw)
  |_=>simp [zqt,Kr] at h
 |[a],v,H,H',y,h=>by
  intro ν G φ v' hv
  refine ⟨[v'],⟨hv,trivial⟩,fun φ0 ws hw hlen=>?_⟩
  match ws,hw with
  |[x],hw=>exact hw.1
 |a::b::r,v,H,H',y,h=>by
  intro ν G φ v' hv
  cases v with
  |tup vs=>
   simp only [den] at hv
   obtain ⟨ys,rfl,hl⟩:=hv.tuple_inv
   refine ⟨ys.toList,by simpa [zqt] using hl,fun φ0 ws hw hlen=>?_⟩
   have:YL ws=.tuple ws.toArray:=by
    match ws,hlen with
    |[],hlen=>simp at hlen
    |[x],hlen=>simp at hlen
    |_::_::_,_=>rfl
   rw [this]
   exact .tuple' (by simpa using hw)
  |_=>
   simp only [zqt,Kr] at h
   split at h<;>cases h
theorem zsq:∀(l:List VT) (x:T (zp l)),(wT l x).length=l.length
 |[],_=>rfl
 |a::r,x=>by simp [wT,zsq r x.2]
theorem zC {t:Tbl} (ht:zjU P t) (hs:uJ P) {pl:zV} {jq:Code→Nat→Bool} {n:Nat} {f:FuncId} (hf:zHu P f=true) {a b:List VT}:Con.Ok P f ⟨a,b,sF P t pl jq n f a b⟩:=by
 refine ⟨?_,fun x y h=>?_⟩
 ·unfold zHu at hf
  split at hf
  ·rename_i fn h;rw [zA1] at h;exact ⟨fn,h,hf⟩
  ·cases hf
 ·dsimp only at x y h ⊢
  unfold sF at h
  obtain ⟨v,H',nx',⟨_,a1,a2,a3,a4⟩,h1⟩:=zy9 (zDT ht hs n _) h
  have h6:=zE h1
  clear h1
  obtain ⟨hz,h1⟩:=h6
  have hz:=Nat.le_of_ble_eq_true hz
  split at h1
  case h_2=>cases h1
  rename_i y' H2 hcv
  cases h1
  obtain ⟨hg,hr⟩:=zmG hcv
  let ν:Nat→Bool:=fun _=>false
  have hv0:VN ν 0 []:=⟨(fun b n hb=>GF hb),(fun b _=>rfl),(fun b hb=>by cases hb)⟩
  obtain ⟨v1,o1⟩:=a4 ν hv0
  refine ⟨zH ν H2,nx',hz,a3,fun φ w K us g hfr hl=>?_⟩
  refine Calls.mono (o1.2 φ w K us g hfr (by rw [zqr a x (rho ν []) (fun _=>bad)];exact hl)) ?_
  rintro e w' ⟨v',φ',rfl,x1,x2,x3,x4⟩
  obtain ⟨φ2,e1,g2⟩:=hg.2 ν φ' K w' x3
  obtain ⟨us',hu1,hu2⟩:=zHv hcv ν H' φ' v' x1
  have hl2:=hr ν H2 (GLe.refl _) φ2 K w' nx' us' g2 (hg.1.vn v1) (hu1.mono (e1 0).1) (fun _=>bad)
  refine ⟨v',φ2,rfl,?_,x2.trans (e1 nx') a3 (Nat.le_refl _),g2,x4⟩
  rw [zcq]
  exact hu2 φ2 _ hl2 (by rw [wL,zsq])
end Go.Fz.Sy
namespace Go.Fz.Sy
def zFJ:List SV→Option Ty
 |[]=>some .unit
 |v
   ::r=>match (match v with
   |.bool _=>some .bool
   |.int k _=>some (.int k)
   |.str _=>some .str
   |.lst t _ _=>some (.list t)
   |_=>none),zFJ r with
  |some a,some b=>some (match r with
   |[]=>a
   |_=>.pair a b)
  |_,_=>none
def YQ:Ty→List Ty
 |.unit=>[]
 |.pair a b=>YQ a++YQ b
 |t=>[t]
def zHO:SV→Ty→Bool
 |.bool _,.bool=>true
 |.int k _,.int k'=>Yi k k'
 |.str _,.str=>true
 |.lst _ _ _,.list _=>true
 |.nils,.list _=>true
 |.own _,.list _=>true
 |_,_=>false
def lstTy:SV→Option Ty
 |.lst t _ _=>some t
 |_=>none
def tyQ:Ty→Ty→Bool
 |.unit,.unit=>true
 |.bool,.bool=>true
 |.int k,.int k'=>Yi k k'
 |.str,.str=>true
 |.list a,.list b=>tyQ a b
 |.pair a b,.pair c d=>tyQ a c&&tyQ b d
 |_,_=>false
def zzl:List SV→List Ty→Bool
 |[],[]=>true
 |v::r,t::s=>(zHO v t&&(match v,t with
  |.lst a _ _,.list b=>tyQ a b
  |_,_=>true))&&zzl r s
 |_,_=>false
structure zmO where
 ty:Ty
 fl:List Ty
 gs:List Nat:=[]
def zGd (cands:List zmO) (cs:List SV):Option zmO:=match cands with
 |[]=>none
 |h::r=>bif zzl cs h.fl then some h else zGd r cs
def zHP (gs:List Nat) (lo hi:Nat):Bool:=gs.any fun g=>Nat.ble lo g&&Nat.blt g hi
def zzm (H:SH) (cs:List SV) (gs:List Nat):Ty→Nat→Nat→List CK×Nat
 |.pair a b,i,c=>bif zHP gs i (i+sz (.pair a b)) then match zzm H cs gs a i c with
   |(k1,c1)=>match zzm H cs gs b (i+sz a) c1 with
    |(k2,c2)=>(k1++k2,c2)
  else ([.d (.pair a b)],c)
 |.list e,i,c=>bif xr gs i then (match gl cs i with
   |some (.own b)=>match zn H b with
    |some (.arr nn _ _)=>([.o c nn e],c+1)
    |_=>([.d (.list e)],c)
   |some .nils=>([.o c false e],c+1)
   |_=>([.d (.list e)],c))
  else ([.d (.list e)],c)
 |t,_,c=>([.d t],c)
def zDU (cands:List zmO) (cs:List SV):Option Ty:=match cands with
 |[]=>zFJ cs
 |h::r=>bif zzl cs h.fl then some h.ty else zDU r cs
def zH1 (cands:List zmO):SV→Option VT
 |.bool _=>some ⟨false,.bool⟩
 |.int k _=>some ⟨false,.int k⟩
 |.str _=>some ⟨false,.str⟩
 |.lst t _ _=>some ⟨false,.list t⟩
 |.agg cs=>match zDU cands cs with
  |some t=>some ⟨true,t⟩
  |none=>none
 |_=>none
def zjV:List Nat→List Nat
 |[]=>[]
 |a::r=>bif xr r a then zjV r else a::zjV r
def Wc:Operand→List Nat
 |.tmp t=>[t]
 |_=>[]
def zxW:Nat:=1000000
def zHw (l:List Nat):List Nat:=l.map (·+zxW)
def zHx (i:Nat):Nat:=bif Nat.ble zxW i then i - zxW else i
def zCA (W:List Nat) (d:Nat) (l:List Nat):List Nat:=bif xr W d then l++W else bif xr W (d+zxW) then zHw l++W else W
def wOp (pf:List Nat) (W:List Nat) (o:Oper):List Nat:=
 match o.op with
 |.store _ a _=>Wc a++W
 |.lookup _ m _ _=>Wc m++W
 |.mapUpdate _ m _ _=>Wc m++W
 |.insert _ m _ _=>Wc m++W
 |.call c=>match c.callee with
  |.value (.func f)=>bif xr pf f then zHw (c.args.toList.flatMap Wc)++W else c.args.toList.flatMap Wc++W
  |.value f=>Wc f++(c.args.toList.flatMap Wc++W)
  |.builtin .copy=>c.args.toList.flatMap Wc++W
  |.builtin .append=>match o.dst with
   |some d=>c.args.toList.flatMap Wc++W
   |none=>W
  |_=>W
 |.fieldAddr _ x _=>match o.dst with
  |some d=>bif xr W d then Wc x++W else W
  |none=>W
 |.indexAddr _ x _=>match o.dst with
  |some d=>bif xr W d then Wc x++W else W
  |none=>W
 |.load _ x=>match o.dst with
  |some d=>bif xr W d then Wc x++W else W
  |none=>W
 |.move x=>match o.dst with
  |some d=>zCA W d (Wc x)
  |none=>W
 |.nilCheck x=>match o.dst with
  |some d=>bif xr W d then Wc x++W else W
  |none=>W
 |.pick _ x y=>match o.dst with
  |some d=>zCA W d (Wc x++Wc y)
  |none=>W
 |.assign x=>match o.dst with
  |some d=>zCA W d (Wc x)
  |none=>W
 |_=>W
def zHy (pf:List Nat):List Oper→List Nat→List Nat
 |[],W=>W
 |o::r,W=>wOp pf (zHy pf r W) o
def Ue (pf:List Nat):Code→List Nat→List Nat
 |.region _ ops _,W=>zHy pf ops.toList W
 |.seq a b,W=>Ue pf a (Ue pf b W)
 |.cond _ a b,W=>Ue pf a (Ue pf b W)
 |.block _ c,W=>Ue pf c W
 |.loop c,W=>Ue pf c W
 |.scope c,W=>Ue pf c W
 |.rangeFunc g _ a b,W=>Wc g++Ue pf a (Ue pf b W)
 |_,W=>W
mutual
def zGe:SV→List Nat
 |.ptr b _=>[b]
 |.own b=>[b]
 |.mp b=>[b]
 |.slv b _=>[b]
 |.agg cs=>zoF cs
 |.fn _ fs cs=>zoF fs++zoF cs
 |_=>[]
def zoF:List SV→List Nat
 |[]=>[]
 |v::r=>zGe v++zoF r
end
def zCB (tm:List SV):List Nat→List Nat
 |[]=>[]
 |i::r=>(match gl tm (zHx i) with
  |some v=>zGe v
  |none=>[])++zCB tm r
def reachS (H:SH):Nat→List Nat→List Nat
 |0,l=>zjV l
 |n+1,l=>match zjV l with
  |l=>reachS H n (l++l.flatMap fun b=>match zn H b with
   |some (.vars cs)=>zoF cs
   |some (.ro cs)=>zoF cs
   |_=>[])
def zGf (pf:List Nat) (H:SH):List Nat→List Nat
 |[]=>[]
 |l::r=>(match zn H l with
  |some (.loop L)=>zCB L.tm (zjV (Ue pf L.assign (Ue pf L.body [])))
  |_=>[])++zGf pf H r
structure zqu where
 rid:Nat
 ntm:Nat
 tmp:Option Nat
 ty:Ty
 own:Bool:=true
def zqv (rid ntm:Nat) (i:Option Nat):List zqu→Option zqu
 |[]=>none
 |h::r=>bif Nat.beq h.rid rid&&(Nat.beq h.ntm ntm&&(match h.tmp,i with
  |some a,some b=>Nat.beq a b
  |none,none=>true
  |_,_=>false)) then some h else zqv rid ntm i r
def zCC (rid ntm:Nat):List (Nat×Nat)→Bool
 |[]=>false
 |p::r=>bif Nat.beq p.1 rid&&Nat.beq p.2 ntm then true else zCC rid ntm r
def zDV (cands:List zmO) (ns:List zqu) (rid:Nat) (tm:List SV) (H:SH) (nx:Nat):List Nat→List DPl×List OPl×Nat
 |[]=>([],[],0)
 |i::r=>match zDV cands ns rid tm H nx r with
  |(dl,ol,g)=>match gl tm i with
   |some (.own b)=>match zn H b with
    |some (.arr nn t _)=>match zqv rid tm.length (some i) ns with
     |some ⟨_,_,_,_,false⟩=>(.tmp i ⟨false,.list t⟩::dl,ol,g)
     |_=>(dl,.otmp i (nx+g) nn t::ol,g+1)
    |some (.fro _ t _)=>(.tmp i ⟨false,.list t⟩::dl,ol,g)
    |_=>(dl,ol,g)
   |some .nils=>match zqv rid tm.length (some i) ns with
    |some h=>bif h.own then (dl,.otmp i (nx+g) false h.ty::ol,g+1) else (.tmp i ⟨false,.list h.ty⟩::dl,ol,g)
    |none=>(dl,ol,g)
   |some .nilp=>match zqv rid tm.length (some i) ns with
    |some _=>(.npt i::dl,ol,g)
    |none=>(dl,ol,g)
   |some v=>match zH1 cands v with
    |some vt=>(.tmp i vt::dl,ol,g)
    |none=>(dl,ol,g)
   |none=>(dl,ol,g)
abbrev GrT:=Nat×Nat×Nat×List Nat
def grT (rid ntm d:Nat):List GrT→List Nat
 |[]=>[]
 |h::r=>bif Nat.beq h.1 rid&&(Nat.beq h.2.1 ntm&&Nat.beq h.2.2.1 d) then h.2.2.2 else grT rid ntm d r
def zxX (b:Nat):List SV→Nat→Option Nat
 |[],_=>none
 |v::r,i=>match v with
  |.ptr c o=>bif Nat.beq c b&&Nat.beq o 0 then some i else zxX b r (i+1)
  |_=>zxX b r (i+1)
def zHz (ns:List zqu) (rid:Nat) (tm:List SV) (b:Nat):Option zqu:=match zxX b tm 0 with
 |some d=>match zqv rid tm.length (some d) ns with
  |some h=>some h
  |none=>zqv rid tm.length none ns
 |none=>zqv rid tm.length none ns
def zDW (cands:List zmO) (ns:List zqu) (gt:List GrT) (rid:Nat) (tm:List SV) (H:SH) (nx:Nat) (own:List Nat):List Nat→List DPl×List OPl×Nat→List DPl×List OPl×Nat
 |[],x=>x
 |b::r,x=>match zDW cands ns gt rid tm H nx own r x with
  |(dl,ol,g)=>match zn H b with
   |some (.vars [.own c])=>match zn H c with
    |some (.arr nn t _)=>match zHz ns rid tm b with
     |some ⟨_,_,some _,_,false⟩=>(.blk b (.list t)::dl,ol,g)
     |_=>(dl,.sblk b [.o (nx+g) nn t]::ol,g+1)
    |some (.fro _ t _)=>(.blk b (.list t)::dl,ol,g)
    |_=>(dl,ol,g)
   |some (.vars [.nils])=>match zHz ns rid tm b with
    |some h=>bif h.own then (dl,.sblk b [.o (nx+g) false h.ty]::ol,g+1) else (.blk b (.list h.ty)::dl,ol,g)
    |none=>(dl,ol,g)
   |some (.vars cs)=>match zGd cands cs with
    |some h=>match zzm H cs (match zxX b tm 0 with
      |some d=>grT rid tm.length d gt
      |none=>h.gs) h.ty 0 (nx+g) with
     |(ks,c')=>bif ks.all (fun k=>match k with
       |.d _=>true
       |.o _ _ _=>false) then (.blk b h.ty::dl,ol,g) else (.frz b ks::dl,.sblk b ks::ol,c' - nx)
    |none=>match zFJ cs with
     |some t=>(.blk b t::dl,ol,g)
     |none=>(dl,ol,g)
   |some (.arr nn t _)=>bif xr own b then (dl,ol,g) else (dl,.arr b nn t::ol,g)
   |some (.mpb k ag t _)=>(dl,.mpl b k ag t::ol,g)
   |_=>(dl,ol,g)
def zCD:List SV→List Nat
 |[]=>[]
 |.own c::r=>c::zCD r
 |_::r=>zCD r
def zzn (tm:List SV) (H:SH) (bs:List Nat):List Nat→List Nat
 |[]=>bs.flatMap fun b=>match zn H b with
  |some (.vars cs)=>zCD cs
  |_=>[]
 |i::r=>match gl tm i with
  |some (.own b)=>b::zzn tm H bs r
  |_=>zzn tm H bs r
def zH2 (l:List Operand):List Nat:=l.flatMap Wc
def ziG (D:List Nat):List Nat→List Nat
 |[]=>[]
 |a::r=>bif xr D a then ziG D r else a::ziG D r
def zCE (D:List Nat):List Nat→List Nat
 |[]=>[]
 |a::r=>bif xr D a then a::zCE D r else zCE D r
def zGg:List Oper→List Nat→List Nat×List Nat
 |[],D=>([],D)
 |o::r,D=>match zGg r (o.dst.toList++D) with
  |(us,D')=>(ziG D (zH2 o.op.operands.toList)++us,D')
def lvC:Code→List Nat→List Nat×List Nat
 |.region _ ops _,D=>zGg ops.toList D
 |.seq a b,D=>match lvC a D with
  |(ra,Da)=>match lvC b Da with
   |(rb,Db)=>(ra++rb,Db)
 |.cond c a b,D=>match lvC a D with
  |(ra,Da)=>match lvC b D with
   |(rb,Db)=>(ziG D (Wc c)++(ra++rb),zCE Da Db)
 |.block _ c,D=>lvC c D
 |.loop c,D=>lvC c D
 |.scope c,D=>lvC c D
 |.rangeFunc g _ a b,D=>match lvC a D with
  |(ra,Da)=>match lvC b Da with
   |(rb,_)=>(ziG D (Wc g)++(ra++rb),D)
 |_,D=>([],D)
def zzo:List Oper→List Nat
 |[]=>[]
 |o::r=>match o.op with
  |.assign _=>o.dst.toList++zzo r
  |_=>zzo r
def zmP:Code→List Nat
 |.region _ ops _=>zzo ops.toList
 |.seq a b=>zmP a++zmP b
 |.cond _ a b=>zmP a++zmP b
 |.block _ c=>zmP c
 |.loop c=>zmP c
 |.scope c=>zmP c
 |_=>[]
def zdl:Code→Bool
 |.region _ ops _=>ops.toList.any fun o=>match o.op with
  |.call {callee:=.value _,..}=>true
  |_=>false
 |.seq a b=>zdl a||zdl b
 |.cond _ a b=>zdl a||zdl b
 |.block _ c=>zdl c
 |.loop c=>zdl c
 |.scope c=>zdl c
 |.rangeFunc _ _ _ _=>true
 |_=>false
def zHA (tm:List SV):List Nat→Bool
 |[]=>false
 |i::r=>(match gl tm i with
  |some (.slv _ _)=>true
  |_=>false)||zHA tm r
def zS (cands:List zmO) (un:List (Nat×Nat)) (ns:List zqu) (gt:List GrT:=[]) (pf:List Nat:=[]):zV:=fun c tm H nx=>match UM c with
 |some rid=>bif zCC rid tm.length un||zHA tm (lvC c []).1 then none else
  match zCE (zmP c++(lvC c []).1) (zjV (asg c)) with
  |aq=>match reachS H 3 (zCB tm (zjV (Ue pf c (Ue pf c [])))++(bif zdl c then zGf pf H (qQ H) else [])) with
   |bs=>some (zDW cands ns gt rid tm H nx (zzn tm H bs aq) bs (zDV cands ns rid tm H nx aq))
 |none=>none
def UN (i:Nat):Code→Bool
 |.exit j=>Nat.beq i j
 |.seq a b=>UN i a||UN i b
 |.cond _ a b=>UN i a||UN i b
 |.block _ c=>UN i c
 |.loop c=>UN i c
 |.scope c=>UN i c
 |.rangeFunc _ _ a b=>UN i a||UN i b
 |_=>false
def zjW:Code→Bool
 |.ret=>false
 |.exit _=>false
 |.goto _=>false
 |.seq a b=>zjW a&&zjW b
 |.cond _ a b=>zjW a||zjW b
 |.block i c=>zjW c||UN i c
 |.loop _=>false
 |_=>true
def zHB (ops:Array Oper):Bool:=ops.toList.any fun o=>o.guard.isSome
def zxY:Code→Bool
 |.skip=>true
 |.exit _=>true
 |.ret=>true
 |.goto _=>true
 |_=>false
def zGh (g:Bool):Code→Bool
 |.cond _ a b=>(zjW a&&(zjW b&&!(zxY a&&zxY b)))||(g&&((zjW a||zjW b)&&!(zxY a&&zxY b)))
 |.seq (.region _ ops _) (.cond c a b)=>zGh (g||zHB ops) (.cond c a b)
 |_=>false
def zR (ex:List (Nat×Nat)) (re:List (Nat×Nat):=[]) (c:Code) (ntm:Nat):Bool:=match c with
 |.scope (.loop b)=>(match UM b with
  |some rid=>zCC rid ntm re
  |none=>false)
 |_=>bif zGh false c then (match UM c with
 |some rid=>!zCC rid ntm ex
 |none=>false) else false
end Go.Fz.Sy
namespace Go.Fz.Sy
variable {P:Program} {w:World}
open Go.RowKit Go.ChangeShapes Go.WideShapes
def alT:Ty→Nat
 |.unit=>1
 |.bool=>1
 |.int k=>k.bits / 8
 |.str=>8
 |.list _=>8
 |.pair a b=>max (alT a) (alT b)
def upT (o a:Nat):Nat:=(o+a - 1) / a*a
def zFK:Ty→Nat→Nat
 |.unit,o=>o
 |.bool,o=>o+1
 |.int k,o=>upT o (k.bits / 8)+k.bits / 8
 |.str,o=>upT o 8+16
 |.list _,o=>upT o 8+24
 |.pair a b,o=>zFK b (zFK a o)
def bsT (y:Ty):Nat:=upT (zFK y 0) (alT y)
def wfT:(t:Ty)→T t→Prop
 |.unit,_=>True
 |.bool,_=>True
 |.int k,n=>k.min≤n∧n≤k.max
 |.str,s=>s.size≤maxLen
 |.list t,l=>(List.length (α:=T t) l≤maxLen∧List.length (α:=T t) l*bsT t≤reachBytes)∧∀x:T t,List.Mem x l→wfT t x
 |.pair a b,x=>wfT a x.1∧wfT b x.2
def XR (ft:TypeId→Ty→Bool) (cz:TypeId→Nat):List Field→Nat→Ty→Bool
 |[],_,.unit=>true
 |[f],off,y=>Nat.beq f.offset off&&(ft f.type y&&Nat.beq (sz y) (cz f.type))
 |f::g::fs,off,.pair a b=>Nat.beq f.offset off&&(ft f.type a&&(Nat.beq (sz a) (cz f.type)&&XR ft cz (g::fs) (off+sz a) b))
 |_,_,_=>false
def XS (ft:Ty→Bool) (cz:Nat):Nat→Ty→Bool
 |0,.unit=>true
 |1,y=>ft y&&Nat.beq (sz y) cz
 |n+2,.pair a b=>ft a&&(Nat.beq (sz a) cz&&XS ft cz (n+1) b)
 |_,_=>false
def zqw (P:Program):Nat→TypeId→Ty→Bool
 |0,_,_=>false
 |n+1,t,y=>match P.underlying t,y with
  |some .bool,.bool=>true
  |some (.int k),.int k'=>decide (k=k')
  |some .string,.str=>true
  |some (.slice e),.list y=>zqw P n e y&&(Nat.blt 0 (sz y)&&(Nat.beq (sz y) (P.cellsOf e)&&Nat.ble (bsT y) (P.bytesOf e)))
  |some (.struct fs),y=>XR (zqw P n) P.cellsOf fs.toList 0 y&&Nat.beq (sz y) (P.cellsOf t)
  |some (.array m e),y=>XS (zqw P n e) (P.cellsOf e) m y&&Nat.beq (sz y) (P.cellsOf t)
  |_,_=>false
def ur (w:World):Ren:=fun n=>if FZ≤n then match w.heap[n - FZ]? with
 |some (.cells a _ _)=>some ⟨n - FZ,0,0,a⟩
 |_=>none else none
theorem zAF {b:Nat} {a:Array Value} {el:TypeId} {fr:Nat×Nat} (h:w.heap[b]?=some (.cells a el fr)):ur w (FZ+b)=some ⟨b,0,0,a⟩:=by
 have h1:FZ≤FZ+b:=by omega
 have h2:FZ+b - FZ=b:=by omega
 simp only [ur,h1,if_true,h2,h]
theorem zCF (w:World):zI (ur w) [] (fun c=>c < w.heap.size) w:=by
 refine ⟨fun b k h=>by simp [Hp.get_nil] at h,fun b c k k' L L' h=>by simp [Hp.get_nil] at h,fun b k L h=>by simp [Hp.get_nil] at h,fun c hc=>hc,fun b L hL=>?_,fun b k L c M h=>by simp [Hp.get_nil] at h⟩
 have h1:FZ≤FZ+b:=by omega
 have h2:FZ+b - FZ=b:=by omega
 simp only [ur,h1,if_true,h2] at hL
 split at hL
 ·rename_i a el fr ha
  cases hL
  exact ⟨rfl,rfl,a,el,fr,ha,fun j u h=>h⟩
 ·cases hL
theorem zAG (w:World) {n m:Nat} (hm:m≤FZ):xJ (ur w) n m:=⟨hm,fun b h1 h2=>by
 have:¬FZ≤b:=by omega
 simp only [ur,this,if_false]⟩
theorem zCG {f:FuncId} {args:List Value} {H':Hp} {n':Nat} (hz:n'≤FZ) (hm:Jf P f args [] 0 (.bool true) H' n') {us:List Value} (hl:zD (ur w) args us) :
  Calls P f us.toArray w fun e w'=>e=.returned (.bool true)∧Below w.heap.size w w':=by
 refine Calls.mono (hm.2 (ur w) w (fun c=>c < w.heap.size) us (zCF w) (zAG w hz) hl) ?_
 rintro e w' ⟨v',φ',rfl,x1,x2,x3,x4⟩
 cases x1
 exact ⟨rfl,zwB x4⟩
section
variable {H:Type} {enc:TypeId×Value→H} {base:Nat} {spare:Nat→Bool} {held:Bool}
theorem zqx {φ:Ren}:∀{a b x y:List Value},zD φ a x→zD φ b y→zD φ (a++b) (x++y)
 |[],_,[],_,_,h=>h
 |_::_,_,_::_,_,h,k=>⟨h.1,zqx h.2 k⟩
 |[],_,_::_,_,h,_=>h.elim
 |_::_,_,[],_,h,_=>h.elim
theorem zwh {α:Type} {Φ:Nat→α→Prop}:∀(n:Nat),(∀i,i < n→∃q,Φ i q)→∃l:List α,l.length=n∧∀i q,l[i]?=some q→Φ i q
 |0,_=>⟨[],rfl,fun i q h=>by simp at h⟩
 |n+1,h=>by
  obtain ⟨l,hl,hq⟩:=zwh n fun i hi=>h i (by omega)
  obtain ⟨q,hn⟩:=h n (by omega)
  refine ⟨l++[q],by simp [hl],fun i q' hi=>?_⟩
  by_cases hlt:i < l.length
  ·rw [List.getElem?_append_left hlt] at hi;exact hq i q' hi
  ·rw [List.getElem?_append_right (by omega)] at hi
   have:i - l.length=0:=by
    have:=(List.getElem?_eq_some_iff.1 hi).1
    simp at this;omega
   rw [this] at hi
   simp at hi
   subst hi
   have:i=n:=by omega
   rw [this];exact hn
def zfA (w:World) (y:Ty) (cs:List Value):Prop:=∃a:T y,wfT y a∧zD (ur w) (qv y a) cs
theorem zzp {ft:TypeId→Ty→Bool} {cz:TypeId→Nat} {cs:List Value}:∀{fs:List Field} {off:Nat} {y:Ty},XR ft cz fs off y=true→
  (∀f∈fs,∀z,ft f.type z=true→zfA w z ((cs.drop f.offset).take (cz f.type)))→off+sz y=cs.length→zfA w y (cs.drop off)
 |[],off,.unit,h,hf,hl=>⟨(),trivial,by
   have:cs.drop off=[]:=by simp [sz] at hl ⊢;omega
   rw [this];trivial⟩
 |[f],off,y,h,hf,hl=>by
  simp only [XR,Bool.and_eq_true] at h
  obtain ⟨h1,h2,h3⟩:=h
  have h1:=Nat.eq_of_beq_eq_true h1
  have h3:=Nat.eq_of_beq_eq_true h3
  have:=hf f (by simp) y h2
  rw [h1,←h3,List.take_of_length_le (by simp;omega)] at this
  exact this
 |f::g::fs,off,.pair a b,h,hf,hl=>by
  simp only [XR,Bool.and_eq_true] at h
  obtain ⟨h1,h2,h3,h4⟩:=h
  have h1:=Nat.eq_of_beq_eq_true h1
  have h3:=Nat.eq_of_beq_eq_true h3
  obtain ⟨x,wx,rx⟩:=hf f (by simp) a h2
  simp only [sz] at hl
  obtain ⟨z,wz,rz⟩:=zzp (cs:=cs) h4 (fun q hq=>hf q (by simp only [List.mem_cons] at hq ⊢;exact .inr hq)) (by omega)
  refine ⟨(x,z),⟨wx,wz⟩,?_⟩
  rw [h1,←h3] at rx
  have e:cs.drop off=(cs.drop off).take (sz a)++cs.drop (off+sz a):=by
   rw [←List.drop_drop];exact (List.take_append_drop _ _).symm
  rw [e]
  exact zqx rx rz
 |[],_,.bool,h,_,_=>by simp [XR] at h
 |[],_,.int _,h,_,_=>by simp [XR] at h
 |[],_,.str,h,_,_=>by simp [XR] at h
 |[],_,.list _,h,_,_=>by simp [XR] at h
 |[],_,.pair _ _,h,_,_=>by simp [XR] at h
 |_::_::_,_,.unit,h,_,_=>by simp [XR] at h
 |_::_::_,_,.bool,h,_,_=>by simp [XR] at h
 |_::_::_,_,.int _,h,_,_=>by simp [XR] at h
 |_::_::_,_,.str,h,_,_=>by simp [XR] at h
 |_::_::_,_,.list _,h,_,_=>by simp [XR] at h
theorem zzq {ft:Ty→Bool} {cz:Nat} {cs:List Value} {N:Nat} (hf:∀i,i < N→∀z,ft z=true→zfA w z ((cs.drop (i*cz)).take cz)):∀{m:Nat} {y:Ty} {i:Nat},XS ft cz m y=true→i+m=N→i*cz+sz y=cs.length→zfA w y (cs.drop (i*cz))
 |0,.unit,i,h,hN,hl=>⟨(),trivial,by
   have:cs.drop (i*cz)=[]:=by simp [sz] at hl ⊢;omega
   rw [this];trivial⟩
 |1,y,i,h,hN,hl=>by
  simp only [XS,Bool.and_eq_true] at h
  obtain ⟨h1,h2⟩:=h
  have h2:=Nat.eq_of_beq_eq_true h2
  have:=hf i (by omega) y h1
  rw [←h2,List.take_of_length_le (by simp;rw [←h2] at hl;omega)] at this
  rw [←h2];exact this
 |m+2,.pair a b,i,h,hN,hl=>by
  simp only [XS,Bool.and_eq_true] at h
  obtain ⟨h1,h2,h3⟩:=h
  have h2:=Nat.eq_of_beq_eq_true h2
  obtain ⟨x,wx,rx⟩:=hf i (by omega) a h1
  simp only [sz] at hl
  have e1:(i+1)*cz=i*cz+cz:=by rw [Nat.add_mul,Nat.one_mul]
  obtain ⟨z,wz,rz⟩:=zzq hf (m:=m+1) (i:=i+1) h3 (by omega) (by rw [e1];omega)
  refine ⟨(x,z),⟨wx,wz⟩,?_⟩
  have e:cs.drop (i*cz)=(cs.drop (i*cz)).take cz++cs.drop ((i+1)*cz):=by
   rw [e1,←List.drop_drop];exact (List.take_append_drop _ _).symm
  rw [e]
  exact zqx rx rz
 |0,.bool,_,h,_,_=>by simp [XS] at h
 |0,.int _,_,h,_,_=>by simp [XS] at h
 |0,.str,_,h,_,_=>by simp [XS] at h
 |0,.list _,_,h,_,_=>by simp [XS] at h
 |0,.pair _ _,_,h,_,_=>by simp [XS] at h
 |_+2,.unit,_,h,_,_=>by simp [XS] at h
 |_+2,.bool,_,h,_,_=>by simp [XS] at h
 |_+2,.int _,_,h,_,_=>by simp [XS] at h
 |_+2,.str,_,h,_,_=>by simp [XS] at h
 |_+2,.list _,_,h,_,_=>by simp [XS] at h
theorem zhS {e:TypeId} {d:DataW H}:∀{l:List (DataW H)},d∈l→∀n∈d.weights P e,n∈DataW.weightsAll P e l
 |a::l,h,n,hn=>by
  simp only [DataW.weightsAll,List.mem_append]
  rcases List.mem_cons.1 h with rfl | h
  ·exact .inl hn
  ·exact .inr (zhS h n hn)
theorem zFL {e:TypeId} {y:Ty} {cs:List Value} {t:TypeId} {fuel:Nat} {x:DataW H×List MemPlace} (hu:P.underlying t=some (.slice e)) (h:DataW.trod enc P w base spare held fuel t cs=some x) (hw:∀n∈x.1.weights P t,n≤reachBytes)
  (ih:∀{fuel:Nat} {cs:List Value} {x:DataW H×List MemPlace},DataW.trod enc P w base spare held fuel e cs=some x→(∀n∈x.1.weights P e,n≤reachBytes)→zfA w y cs) (hs:0 < sz y) (hz:sz y=P.cellsOf e) (hbs:bsT y≤P.bytesOf e):zfA w (.list y) cs:=by
 rcases DataW.trod_slice hu h with ⟨rfl,_⟩ | ⟨a,len,cap,elems,rest,m,_,rfl,rfl,hb,hl,hm,hlen,hel,_,_⟩
 ·exact ⟨([]:List (T y)),⟨⟨Nat.zero_le _,by show 0*_≤_;rw [Nat.zero_mul];exact Nat.zero_le _⟩,fun x hx=>by cases hx⟩,by
   have:=zt.fz0 (φ:=ur w) (sz y) none 0
   exact ⟨this,trivial⟩⟩
 ·have hw1:(elems.length+rest.length)*P.bytesOf e≤reachBytes:=by
   have:=hw ((elems.length+rest.length)*P.bytesOf e) (by simp [DataW.weights,hu])
   exact this
  have hw2:∀z∈elems,∀n∈z.1.weights P e,n≤reachBytes:=fun z hz n hn=>hw n (by
   simp only [DataW.weights,hu]
   exact List.mem_cons_of_mem _ (List.mem_append_left _ (zhS (List.mem_map_of_mem hz) n hn)))
  have hall:∀i,i < len→∃q:T y,wfT y q∧∃us,zD (ur w) (qv y q) us∧us.length=sz y∧∀j,j < sz y→w.cell? ((a.add (i*sz y)).add j)=us[j]?:=fun i hi=>by
   have h1:=hel i hi
   obtain ⟨z,hz2⟩:∃z,elems[i]?=some z:=⟨elems[i],List.getElem?_eq_getElem (by omega)⟩
   rw [hz2,Option.bind_eq_some_iff] at h1
   obtain ⟨us,h2,h3⟩:=h1
   obtain ⟨q,q1,q2⟩:=ih h3 (hw2 z (List.mem_of_getElem? hz2))
   obtain ⟨_,h4,h5⟩:=World.cells?_some h2
   rw [←hz] at h4 h5
   exact ⟨q,q1,us,q2,h4,h5⟩
  obtain ⟨l,hll,hl2⟩:=zwh len hall
  refine ⟨l,⟨⟨by show l.length≤maxLen;omega,Nat.le_trans (Nat.mul_le_mul (show l.length≤elems.length+rest.length by omega) hbs) hw1⟩,fun q hq=>?_⟩,?_⟩
  ·obtain ⟨i,hi⟩:=List.getElem?_of_mem hq
   exact (hl2 i q hi).1
  ·show zD (ur w) [fzV (sz y) false (l.map fun x=>Value.agg (qv y x).toArray)] [Value.slice (some a) len cap]
   refine ⟨?_,trivial⟩
   by_cases h0:len=0
   ·subst h0
    obtain rfl:l=[]:=List.length_eq_zero_iff.1 hll
    exact zt.fz0 _ _ _
   ·
    obtain ⟨q0,hq0⟩:∃q,l[0]?=some q:=⟨l[0],List.getElem?_eq_getElem (by omega)⟩
    obtain ⟨_,us0,r0,l0,c0⟩:=hl2 0 q0 hq0
    have c00:=c0 0 hs
    have:∃v,us0[0]?=some v:=⟨us0[0],List.getElem?_eq_getElem (by omega)⟩
    obtain ⟨v0,hv0⟩:=this
    obtain ⟨b,o,sp⟩:=a
    have e0:((⟨b,o,sp⟩:Addr).add (0*sz y)).add 0=⟨b,o,sp⟩:=by simp [Addr.add]
    rw [e0,hv0] at c00
    unfold World.cell? at c00
    cases hh:w.heap[b]? with
    |none=>rw [hh] at c00;simp at c00
    |some ob=>
     rw [hh] at c00
     cases ob with
     |cells arr el fr=>
      have hsp:sp=none:=by
       cases sp with
       |none=>rfl
       |some s=>simp at c00
      subst hsp
      have hcell:∀k,w.cell? (⟨b,k,none⟩:Addr)=arr[k]?:=fun k=>by
       unfold World.cell?
       rw [hh];rfl
      have hat:∀i (q:T y),l[i]?=some q→∃us,zD (ur w) (qv y q) us∧us.length=sz y∧∀j,j < sz y→arr[o+i*sz y+j]?=us[j]?:=fun i q hi=>by
       obtain ⟨_,us,r,hlu,hc⟩:=hl2 i q hi
       refine ⟨us,r,hlu,fun j hj=>?_⟩
       have:=hc j hj
       rw [Addr.add_none,Addr.add_none,hcell] at this
       exact this
      have hsz:∀(j:Nat) e,(l.map fun x=>Value.agg (qv y x).toArray).toArray[j]?=some e→e.cells.size=sz y:=fun j e he=>by
       simp only [List.getElem?_toArray,List.getElem?_map,Option.map_eq_some_iff] at he
       obtain ⟨q,_,rfl⟩:=he
       simp [Value.cells,jP]
      have hsize:(l.map fun x=>Value.agg (qv y x).toArray).toArray.size=len:=by simp [hll]
      have key:=zt.fz (φ:=ur w) (sz y) (l.map fun x=>Value.agg (qv y x).toArray).toArray b o cap ⟨b,0,0,arr⟩ (zAF hh) (by rw [hsize];omega) (by
        rw [hsize]
        obtain ⟨q,hq⟩:∃q,l[len - 1]?=some q:=⟨l[len - 1],List.getElem?_eq_getElem (by omega)⟩
        obtain ⟨us,r,hlu,hc⟩:=hat (len - 1) q hq
        have h1:=hc (sz y - 1) (by omega)
        have:∃v,us[sz y - 1]?=some v:=⟨us[sz y - 1],List.getElem?_eq_getElem (by omega)⟩
        obtain ⟨v,hv⟩:=this
        rw [hv] at h1
        have h2:=(Array.getElem?_eq_some_iff.1 h1).1
        have h3:len*sz y=(len - 1)*sz y+sz y:=by
         have:len=(len - 1)+1:=by omega
         rw [this,Nat.add_mul,Nat.one_mul];simp
        show o+len*sz y≤arr.size
        omega) (by rw [hsize];omega) hsz (fun j k e u u' he hu hu'=>by
        simp only [List.getElem?_toArray,List.getElem?_map,Option.map_eq_some_iff] at he
        obtain ⟨q,hq,rfl⟩:=he
        obtain ⟨us,r,hlu,hc⟩:=hat j q hq
        simp only [Value.cells,List.getElem?_toArray] at hu
        have hk:k < sz y:=by
         have:=(List.getElem?_eq_some_iff.1 hu).1
         rw [jP] at this;exact this
        obtain ⟨v',hv',hr⟩:=r.get hu
        have:arr[o+j*sz y+k]?=some u':=hu'
        rw [hc k hk,hv'] at this
        cases this
        exact hr)
      rw [hsize] at key
      exact key
     |_=>simp at c00
theorem zsr:∀(n:Nat) {t:TypeId} {y:Ty} {fuel:Nat} {cs:List Value} {x:DataW H×List MemPlace},zqw P n t y=true→DataW.trod enc P w base spare held fuel t cs=some x→(∀n∈x.1.weights P t,n≤reachBytes)→zfA w y cs
 |0,_,_,_,_,_,h,_,_=>by cases h
 |n+1,t,y,0,cs,x,_,h,_=>by cases h
 |n+1,t,y,fuel+1,cs,x,h,hx,hw=>by
  simp only [zqw] at h
  split at h
  ·rename_i hu
   simp only [DataW.trod,hu] at hx
   split at hx<;>first | (rename_i e1 e2;cases e1;done) | skip
   all_goals first | (exact ⟨_,trivial,.bool _,trivial⟩) | (simp_all;done) | cases hx
  ·rename_i k k' hu
   have hk:k=k':=of_decide_eq_true h
   subst hk
   obtain ⟨m,h1,h2,h3⟩:=DataW.trod_int hu hx
   subst h1
   simp only [Lit.wf,Bool.and_eq_true,decide_eq_true_eq] at h3
   exact ⟨m,h3,.int _ _,trivial⟩
  ·rename_i hu
   obtain ⟨s,h1,h2,h3⟩:=DataW.trod_string hu hx
   subst h1
   exact ⟨s,h3,.str _,trivial⟩
  ·rename_i e y' hu
   simp only [Bool.and_eq_true] at h
   obtain ⟨h1,h2,h3,h4⟩:=h
   exact zFL hu hx hw (fun hy hwy=>zsr n h1 hy hwy) (by simpa using h2) (Nat.eq_of_beq_eq_true h3) (Nat.le_of_ble_eq_true h4)
  ·rename_i fs hu
   simp only [Bool.and_eq_true] at h
   obtain ⟨h1,h2⟩:=h
   have h2:=Nat.eq_of_beq_eq_true h2
   obtain ⟨xs,m,_,rfl,hl,hlen,hf⟩:=DataW.trod_struct hu hx
   simp only [DataW.weights,hu] at hw
   have:=zzp (w:=w) (cs:=cs) h1 (fun f hf2 z hz=>by
    obtain ⟨i,hi⟩:=List.getElem?_of_mem hf2
    have h4:=hf i f (by simpa using hi)
    have hlt:i < xs.length:=by
     have:=(List.getElem?_eq_some_iff.1 hi).1
     rw [hlen];simpa using this
    rw [List.getElem?_eq_getElem hlt] at h4
    exact zsr n hz h4 fun k hk=>hw k (DataW.weights_mem_each (j:=i) (t:=f.type) (d:=xs[i].1) (by rw [List.getElem?_map,hi];rfl) (by rw [List.getElem?_map,List.getElem?_eq_getElem hlt];rfl) k hk)) (by rw [hl,h2,Nat.zero_add])
   simpa using this
  ·rename_i m e hu
   simp only [Bool.and_eq_true] at h
   obtain ⟨h1,h2⟩:=h
   have h2:=Nat.eq_of_beq_eq_true h2
   obtain ⟨xs,q,_,rfl,hl,hlen,hf⟩:=DataW.trod_array hu hx
   simp only [DataW.weights,hu] at hw
   have:=zzq (w:=w) (cs:=cs) (N:=m) (cz:=P.cellsOf e) (fun i hi z hz=>by
    have h4:=hf i hi
    have hlt:i < xs.length:=by omega
    rw [List.getElem?_eq_getElem hlt] at h4
    exact zsr n hz h4 fun k hk=>hw k (zhS (List.mem_map_of_mem (List.getElem_mem hlt)) k hk)) (m:=m) (i:=0) h1 (by omega) (by rw [hl,h2];simp)
   simpa using this
  ·cases h
def zmQ (P:Program) (t:TypeId):Bool:=match P.underlying t with
 |some (.struct _)=>true
 |some (.array _ _)=>true
 |_=>false
def zcA (P:Program) (n:Nat):List TypeId→List VT→Bool
 |[],[]=>true
 |t::ts,v::vs=>zqw P n t v.ty&&((bif zmQ P t then v.agg else !v.agg)&&zcA P n ts vs)
 |_,_=>false
theorem zFM {φ:Ren} {x v:Value} {a:List Value} (h:zD φ a [v]) (ha:a=[x]):zt φ x v:=by subst ha;exact h.1
theorem zHQ {n:Nat} {t:TypeId} {vt:VT} {r:Reach} {b0:Nat} {v:Value} {d:DataW H} {ps:List MemPlace} (hf:zqw P n t vt.ty=true) (ha:(bif zmQ P t then vt.agg else !vt.agg)=true) (hv:Value.okWide P w r b0 t v) (hd:DataW.Trod enc P w base spare held t v d ps) (hw:∀n∈d.weights P t,n≤reachBytes) :
  ∃x:T vt.ty,wfT vt.ty x∧∀ρ,zt (ur w) (den ρ (mkV vt x)) v:=by
 obtain ⟨ag,ty⟩:=vt
 obtain ⟨fuel,hd⟩:=hd
 obtain ⟨x,wx,rx⟩:=zsr n hf hd hw
 refine ⟨x,wx,fun ρ=>?_⟩
 cases ag with
 |true=>
  have hag:zmQ P t=true:=by
   cases h:zmQ P t with
   |true=>rfl
   |false=>rw [h] at ha;cases ha
  have:∃cs,v=.agg cs:=by
   unfold zmQ at hag
   unfold Value.okWide at hv
   split at hv
   ·obtain ⟨cs,h1,_⟩:=hv;exact ⟨cs,h1⟩
   ·obtain ⟨cs,h1,_⟩:=hv;exact ⟨cs,h1⟩
   ·rename_i h1 h2
    split at hag
    ·rename_i h3;exact absurd h3 (h1 _)
    ·rename_i h3;exact absurd h3 (h2 _ _)
    ·cases hag
  obtain ⟨cs,rfl⟩:=this
  simp only [mkV,cond_true,den]
  refine .agg' ?_
  rw [qD,yC]
  exact rx
 |false=>
  have hag:zmQ P t=false:=by
   cases h:zmQ P t with
   |true=>rw [h] at ha;cases ha
   |false=>rfl
  have hcell:v.cells.toList=[v]:=by
   unfold zmQ at hag
   unfold Value.okWide at hv
   split at hv
   ·rename_i h1;simp only [h1] at hag;cases hag
   ·rename_i h1;simp only [h1] at hag;cases hag
   ·cases v with
    |agg cs=>
     unfold Cell.okWide at hv
     split at hv<;>first | (exfalso;revert hv;unfold Cell.ok;split<;>simp_all;done) | (rename_i e1 e2;cases e2)
    |_=>rfl
  rw [hcell] at rx
  have hlen:=rx.length
  have h2:=yC ρ ty x
  simp only [mkV,cond_false]
  match he:yR ty x with
  |[u]=>
   rw [he] at h2
   exact zFM rx h2.symm
  |[]=>rw [he] at h2;rw [←h2] at hlen;simp at hlen
  |_::_::_=>rw [he] at h2;rw [←h2] at hlen;simp at hlen
theorem zDX {n:Nat} {r:Reach} {b0:Nat}:∀{ts:List TypeId} {a:List VT} {us:List Value} {ds:List (DataW H)} {ps:List MemPlace},zcA P n ts a=true→
  (∀(j:Nat) t v,ts[j]?=some t→us[j]?=some v→Value.okWide P w r b0 t v)→DataW.TrodAll enc P w base spare held ts us ds ps→(∀n∈DataW.weightsEach P ts ds,n≤reachBytes)→
  ∃x:T (zp a),wfT (zp a) x∧∀ρ,zD (ur w) (zu ρ (wT a x)) us
 |[],[],us,ds,ps,_,_,h,_=>by
  obtain ⟨rfl,_,_⟩:=trodAll_nil h
  exact ⟨(),trivial,fun ρ=>trivial⟩
 |t::ts,v::a,us,ds,ps,hf,hv,h,hw=>by
  simp only [zcA,Bool.and_eq_true] at hf
  obtain ⟨f1,f2,f3⟩:=hf
  obtain ⟨u,us',d,ds',p,q,rfl,rfl,rfl,h1,h2⟩:=trodAll_cons h
  obtain ⟨x,wx,rx⟩:=zHQ f1 f2 (hv 0 t u rfl rfl) h1 (fun n hn=>hw n (by simp only [DataW.weightsEach,List.mem_append];exact .inl hn))
  obtain ⟨y,wy,ry⟩:=zDX (ts:=ts) (a:=a) f3 (fun j t v ht hv2=>hv (j+1) t v (by simpa using ht) (by simpa using hv2)) h2 (fun n hn=>hw n (by simp only [DataW.weightsEach,List.mem_append];exact .inr hn))
  exact ⟨(x,y),⟨wx,wy⟩,fun ρ=>⟨rx ρ,ry ρ⟩⟩
 |[],_::_,_,_,_,hf,_,_,_=>by simp [zcA] at hf
 |_::_,[],_,_,_,hf,_,_,_=>by simp [zcA] at hf
theorem zpH:∀{ts:List TypeId} {us:List Value} {ds:List (DataW H)} {ps:List MemPlace},DataW.TrodAll enc P w base spare held ts us ds ps→ds.length=ts.length
 |[],_,_,_,h=>by
  obtain ⟨_,rfl,_⟩:=trodAll_nil h
  rfl
 |t::ts,us,ds,ps,h=>by
  obtain ⟨u,us',d,ds',p,q,rfl,rfl,rfl,h1,h2⟩:=trodAll_cons h
  rw [List.length_cons,List.length_cons,zpH h2]
theorem zDY {f:FuncId} {a:List VT} {G:T (zp a)→Option (T (zp [⟨false,.bool⟩]))} (hc:Con.Ok P f ⟨a,[⟨false,.bool⟩],G⟩) (hG:∀x,wfT (zp a) x→G x=some (true,())) {n:Nat} {r:Reach} {b0:Nat} {ts:List TypeId} {us:List Value} {ds:List (DataW H)} {ps:List MemPlace} (hf:zcA P n ts a=true)
  (hv:∀(j:Nat) t v,ts[j]?=some t→us[j]?=some v→Value.okWide P w r b0 t v) (h:DataW.TrodAll enc P w base spare held ts us ds ps) (hw:(DataW.weightsEach P ts ds).all (·≤reachBytes)=true) :
  Calls P f us.toArray w fun e w'=>e=.returned (.bool true)∧Below w.heap.size w w':=by
 obtain ⟨x,wx,rx⟩:=zDX hf hv h (fun n hn=>of_decide_eq_true (List.all_eq_true.1 hw n hn))
 obtain ⟨Hd,nx',hz,hcall⟩:=hc.2 x _ (hG x wx)
 exact zCG hz hcall (rx _)
end
def zss:Ty→List Value
 |.unit=>[]
 |.bool=>[.bool false]
 |.int k=>[.int k 0]
 |.str=>[.string ByteArray.empty]
 |.list _=>[.slice none 0 0]
 |.pair a b=>zss a++zss b
def zH3 (v:VT):Value:=bif v.agg then .agg (zss v.ty).toArray else match zss v.ty with
 |[u]=>u
 |_=>.nilFunc
def zHR (a:List VT):Array Value:=(a.map zH3).toArray
theorem zo:zjU P []:=fun x h=>by cases h
theorem ze {f:FuncId} {c:Con} {t:Tbl} (h:c.Ok P f) (ht:zjU P t):zjU P ((f,c)::t):=fun x hx=>by
 rcases List.mem_cons.1 hx with rfl | hx
 ·exact h
 ·exact ht x hx
end Go.Fz.Sy
namespace Go.Fz.Sy
def zuB {α:Type} (f:α→α→Bool):List α→List α→Bool
 |[],[]=>true
 |x::l,y::r=>bif f x y then zuB f l r else false
 |_,_=>false
theorem zBk {α:Type} {f:α→α→Bool} (hf:∀x y,f x y=true→x=y):∀l r:List α,zuB f l r=true→l=r
 |[],[],_=>rfl
 |[],_::_,h=>by simp [zuB] at h
 |_::_,[],h=>by simp [zuB] at h
 |x::l,y::r,h=>by
  have h:(bif f x y then zuB f l r else false)=true:=h
  cases hx:f x y with
  |false=>rw [hx] at h;cases h
  |true=>
   rw [hx] at h
   rw [hf x y hx,zBk hf l r h]
def eqT:(t:Ty)→T t→T t→Bool
 |.unit,_,_=>true
 |.bool,a,b=>bif (a:Bool) then b else !(b:Bool)
 |.int _,a,b=>zi a b
 |.str,a,b=>@decide ((a:ByteArray)=b) (inferInstanceAs (Decidable ((a:ByteArray)=b)))
 |.list t,a,b=>zuB (eqT t) a b
 |.pair s t,x,y=>bif eqT s (p1 x) (p1 y) then eqT t (p2 x) (p2 y) else false
theorem zst:∀(t:Ty) (x y:T t),eqT t x y=true→x=y
 |.unit,x,y,_=>by cases x;cases y;rfl
 |.bool,a,b,h=>by
  have h:(bif (a:Bool) then b else !(b:Bool))=true:=h
  cases a<;>cases b<;>first | rfl | cases h
 |.int _,a,b,h=>by
  have h:zi a b=true:=h
  rw [jT] at h;exact eq_of_beq h
 |.str,a,b,h=>by
  have h:@decide ((a:ByteArray)=b) (inferInstanceAs (Decidable ((a:ByteArray)=b)))=true:=h
  exact of_decide_eq_true h
 |.list t,a,b,h=>zBk (zst t) a b h
 |.pair s t,x,y,h=>by
  have h:(bif eqT s (p1 x) (p1 y) then eqT t (p2 x) (p2 y) else false)=true:=h
  cases h1:eqT s (p1 x) (p1 y) with
  |false=>rw [h1] at h;cases h
  |true=>
   rw [h1] at h
   have e1:=zst s _ _ h1
   have e2:=zst t _ _ h
   exact Prod.ext e1 e2
def Vr {a b:List VT}:List (T (zp a)×T (zp b))→T (zp a)→Option (T (zp b))
 |[],_=>none
 |p::r,x=>bif eqT (zp a) x p.1 then some p.2 else Vr r x
theorem zwi {a b:List VT} {c:T (zp a)→Option (T (zp b))}:∀{l:List (T (zp a)×T (zp b))},(∀p∈l,c p.1=some p.2)→∀{x r},Vr l x=some r→c x=some r
 |[],_,_,_,h=>by cases h
 |p::l,hl,x,r,h=>by
  have h:(bif eqT (zp a) x p.1 then some p.2 else Vr l x)=some r:=h
  cases hx:eqT (zp a) x p.1 with
  |true=>
   rw [hx] at h
   cases h
   rw [zst _ _ _ hx]
   exact hl p (by simp)
  |false=>
   rw [hx] at h
   exact zwi (fun q hq=>hl q (by simp [hq])) h
theorem XH {P:Program} {f:FuncId} {a b:List VT} {c:T (zp a)→Option (T (zp b))} (h:Con.Ok P f ⟨a,b,c⟩) {l:List (T (zp a)×T (zp b))} (hl:∀p∈l,c p.1=some p.2):Con.Ok P f ⟨a,b,Vr l⟩:=
 ⟨h.1,fun x r hx=>h.2 x r (zwi hl hx)⟩
theorem Kx {a b:List VT} {c:T (zp a)→Option (T (zp b))}:∀p∈([]:List (T (zp a)×T (zp b))),c p.1=some p.2:=fun p hp=>by cases hp
theorem yS {a b:List VT} {c:T (zp a)→Option (T (zp b))} {x:T (zp a)} {r:T (zp b)} {l:List (T (zp a)×T (zp b))} (h:c x=some r) (hl:∀p∈l,c p.1=some p.2):∀p∈(x,r)::l,c p.1=some p.2:=fun p hp=>by
 rcases List.mem_cons.1 hp with rfl | hp
 ·exact h
 ·exact hl p hp
theorem zG {z:Int} (h1 : -9223372036854775808≤z) (h2:z≤9223372036854775807):wrF .i64 z=z:=by
 rw [UG]
 have e:IntKind.i64.wrap z=if z % 18446744073709551616≥9223372036854775808 then z % 18446744073709551616 - 18446744073709551616 else z % 18446744073709551616:=by
  unfold IntKind.wrap
  show (if (true&&decide (z % 18446744073709551616≥9223372036854775808))=true then z % 18446744073709551616 - 18446744073709551616 else z % 18446744073709551616)=_
  simp only [Bool.true_and,decide_eq_true_eq]
 rw [e]
 split<;>omega
theorem zx {α R:Type} (a:α) (f:α→Option R):opt (some a) f=f a:=rfl
theorem zBl {α:Type} (l:List α) (n:Nat):atI l (n:Int)=l[n]?:=by
 show gl l n=_
 exact xQ l n
theorem zHC {α:Type} {l:List α} {z:Int} (h0:0≤z) (h:z < l.length):∃x,atI l z=some x∧l[z.toNat]?=some x:=by
 obtain ⟨n,rfl⟩:=Int.eq_ofNat_of_zero_le h0
 have hn:n < l.length:=by omega
 exact ⟨l[n],by rw [zBl];simp [hn],by simp [hn]⟩
theorem jJ {α:Type} {l:List α} {n:Nat} {x:α} (h:l[n]?=some x):atI l (n:Int)=some x:=by rw [zBl];exact h
theorem zwj {X S:Type} {B:S→Option (X ⊕ S)} {I:S→Prop} {J:X→Prop} {m:S→Nat} (h:∀s,I s→(∃x,B s=some (.inl x)∧J x)∨(∃s',B s=some (.inr s')∧I s'∧m s' < m s)) :
  ∀(N:Nat) (s:S),I s→m s < N→∃x,zz B N s=some x∧J x
 |0,s,_,hm=>by omega
 |N+1,s,hI,hm=>by
  rw [XP]
  rcases h s hI with ⟨x,hx,hJ⟩ | ⟨s',hs,hI',hlt⟩
  ·exact ⟨x,by rw [hx],hJ⟩
  ·rw [hs]
   exact zwj h N s' hI' (by omega)
theorem zFN {X S:Type} {B:S→Option (X ⊕ S)} (I:S→Prop) (J:X→Prop) (m:S→Nat) (h:∀s,I s→(∃x,B s=some (.inl x)∧J x)∨(∃s',B s=some (.inr s')∧I s'∧m s' < m s)) {s:S} (hI:I s) (hm:m s < 1180591620717411303424) :
  ∃x,zz B zL s=some x∧J x:=zwj h zL s hI (Nat.lt_of_lt_of_le hm zBj)
def qt {α:Type} (o:Option α) (Q:α→Prop):Prop:=∃r,o=some r∧Q r
theorem za {α:Type} {a:α} {Q:α→Prop} (h:Q a):qt (some a) Q:=⟨a,rfl,h⟩
theorem zg {α R:Type} {x:Option α} {f:α→Option R} {Q:R→Prop} (h:qt x fun a=>qt (f a) Q):qt (opt x f) Q:=by
 obtain ⟨a,rfl,r,h1,h2⟩:=h
 exact ⟨r,h1,h2⟩
theorem zj {α R:Type} {x:Option α} {f:α→Option R} {J:α→Prop} {Q:R→Prop} (h:qt x J) (hf:∀a,J a→qt (f a) Q):qt (opt x f) Q:=by
 obtain ⟨a,rfl,ha⟩:=h
 exact hf a ha
theorem zk {α:Type} {b:Bool} {x y:Option α} {Q:α→Prop} (h1:b=true→qt x Q) (h2:b=false→qt y Q):qt (bif b then x else y) Q:=by
 cases b with
 |true=>exact h1 rfl
 |false=>exact h2 rfl
theorem zwk {α:Type} {o:Option α} {Q Q':α→Prop} (h:qt o Q) (hq:∀a,Q a→Q' a):qt o Q':=by
 obtain ⟨a,e,ha⟩:=h
 exact ⟨a,e,hq a ha⟩
theorem xP {α:Type} {o:Option α} {a:α} (h:qt o fun r=>r=a):o=some a:=by
 obtain ⟨r,e,rfl⟩:=h
 exact e
def zoG {X S:Type} (I:S→Prop) (J:X→Prop) (m:S→Nat) (s:S) (r:X ⊕ S):Prop:=(∀x,r=.inl x→J x)∧∀s',r=.inr s'→I s'∧m s' < m s
theorem zmR {X S:Type} {I:S→Prop} {J:X→Prop} {m:S→Nat} {s:S} {x:X} (h:J x):zoG I J m s (.inl x):=⟨fun y e=>by cases e;exact h,fun s' e=>by cases e⟩
theorem zcB {X S:Type} {I:S→Prop} {J:X→Prop} {m:S→Nat} {s s':S} (h:I s') (hm:m s' < m s):zoG I J m s (.inr s'):=⟨(fun y e=>by cases e),fun s'' e=>by cases e;exact ⟨h,hm⟩⟩
theorem zmS {X S:Type} {B:S→Option (X ⊕ S)} {s:S} (I:S→Prop) (J:X→Prop) (m:S→Nat) (hI:I s) (hm:m s < 1180591620717411303424) (h:∀s,I s→qt (B s) (zoG I J m s)):qt (zz B zL s) J:=by
 obtain ⟨x,h1,h2⟩:=zFN (B:=B) I J m (fun s hs=>by
  obtain ⟨r,e,h3,h4⟩:=h s hs
  cases r with
  |inl x=>exact .inl ⟨x,e,h3 x rfl⟩
  |inr s'=>exact .inr ⟨s',e,h4 s' rfl⟩) hI hm
 exact ⟨x,h1,h2⟩
theorem zy {α:Type} {l:List α} {n:Nat} {x:α} {Q:α→Prop} (h:l[n]?=some x) (hq:Q x):qt (atI l (n:Int)) Q:=⟨x,jJ h,hq⟩
theorem qP {α:Type} {l:List α} {z:Int} {Q:α→Prop} (h0:0≤z) (h1:z < l.length) (hq:∀x,l[z.toNat]?=some x→Q x):qt (atI l z) Q:=by
 obtain ⟨x,e,e2⟩:=zHC h0 h1
 exact ⟨x,e,hq x e2⟩
theorem wc {α:Type} {l:List α} {i:Nat} {Q:α→Prop} (h1:i < l.length) (hq:∀x,l[i]?=some x→Q x):qt (gl l i) Q:=by
 have hx:l[i]?=some l[i]:=List.getElem?_eq_getElem h1
 exact ⟨l[i],by rw [xQ,hx],hq _ hx⟩
def Nxt {X S:Type} (J:X→Prop) (I:S→Prop) (r:X ⊕ S):Prop:=(∀x,r=.inl x→J x)∧∀s',r=.inr s'→I s'
theorem zq {X S:Type} {J:X→Prop} {I:S→Prop} {x:X} (h:J x):Nxt J I (.inl x:X ⊕ S):=⟨fun y e=>by cases e;exact h,fun s' e=>by cases e⟩
theorem qj {X S:Type} {J:X→Prop} {I:S→Prop} {s:S} (h:I s):Nxt J I (.inr s:X ⊕ S):=⟨fun y e=>by (cases e),fun s' e=>by cases e;exact h⟩
theorem zW {X S:Type} {B:S→Option (X ⊕ S)} {s:S} {J:X→Prop} (n:Nat) (I:Nat→S→Prop) (hn:n < 1180591620717411303424) (h0:I 0 s)
  (h:∀i s,i < n→I i s→qt (B s) (Nxt J (I (i+1)))) (he:∀s,I n s→qt (B s) (Nxt J fun _=>False)):qt (zz B zL s) J:=by
 have key:∀(k i N:Nat) (s:S),i+k=n→k < N→I i s→qt (zz B N s) J:=by
  intro k
  induction k with
  |zero=>
   intro i N s hi hN hI
   obtain ⟨N,rfl⟩:∃M,N=M+1:=⟨N - 1,by omega⟩
   have hi':i=n:=by omega
   obtain ⟨r,e,h1,h2⟩:=he s (hi'▸hI)
   rw [XP,e]
   cases r with
   |inl x=>exact ⟨x,rfl,h1 x rfl⟩
   |inr s'=>exact (h2 s' rfl).elim
  |succ k ih=>
   intro i N s hi hN hI
   obtain ⟨N,rfl⟩:∃M,N=M+1:=⟨N - 1,by omega⟩
   obtain ⟨r,e,h1,h2⟩:=h i s (by omega) hI
   rw [XP,e]
   cases r with
   |inl x=>exact ⟨x,rfl,h1 x rfl⟩
   |inr s'=>exact ih (i+1) N s' (by omega) (by omega) (h2 s' rfl)
 exact key n 0 zL s (by omega) (Nat.lt_of_lt_of_le hn zBj) h0
noncomputable def tv (p:Prop):Bool:=@decide p (Classical.propDecidable p)
theorem zzr {p:Prop}:tv p=true↔p:=@decide_eq_true_iff p (Classical.propDecidable p)
theorem zA {p:Prop} (h:p):tv p=true:=zzr.2 h
theorem zM {p:Prop} (h:¬p):tv p=false:=by
 cases e:tv p with
 |false=>rfl
 |true=>exact absurd (zzr.1 e) h
theorem zHD {p:Prop} [inst:Decidable p]:tv p=decide p:=by
 by_cases h:p
 ·rw [zA h,decide_eq_true h]
 ·rw [zM h,decide_eq_false h]
theorem wv {o:Option (Bool×Unit)} {p:Prop} (h:qt o fun r=>(r.1=true↔p)):o=some (tv p,()):=by
 obtain ⟨⟨b,⟨⟩⟩,e,h⟩:=h
 rw [e]
 by_cases hp:p
 ·rw [zA hp,show b=true from h.2 hp]
 ·rw [zM hp]
  cases b with
  |false=>rfl
  |true=>exact absurd (h.1 rfl) hp
theorem ym {α:Type} {o:Option (α×Unit)} {v:α} (h:qt o fun r=>r.1=v):o=some (v,()):=by
 obtain ⟨⟨b,⟨⟩⟩,e,rfl⟩:=h
 exact e
theorem qk {α:Type} {o:Option α} {a:α} {Q:α→Prop} (e:o=some a) (h:Q a):qt o Q:=⟨a,e,h⟩
theorem zDZ {n:Nat} (h:n≤1000000000000000000):n < 1180591620717411303424:=by omega
theorem qp {i:Nat} (h:i≤1000000000000000000):wrF .i64 ((i:Int)+1)=((i+1:Nat):Int):=by rw [zG]<;>omega
theorem zT {a b:Int} (h:a < b):zh a b=true:=by rw [xO];exact decide_eq_true h
theorem zF {a b:Int} (h:¬a < b):zh a b=false:=by rw [xO];exact decide_eq_false h
theorem vH {a b:Int} (h:a=b):zi a b=true:=by rw [jT,h];simp
theorem qM {a b:Int} (h:a≠b):zi a b=false:=by rw [jT];simp [h]
theorem qn {a b:Int} (h:zh a b=true):a < b:=by rw [xO] at h;exact of_decide_eq_true h
theorem qE {a b:Int} (h:zh a b=false):b≤a:=by rw [xO] at h;have:=of_decide_eq_false h;omega
theorem qU {a b:Int} (h:zi a b=true):a=b:=by rw [jT] at h;exact eq_of_beq h
theorem jU {a b:Int} (h:zi a b=false):a≠b:=by rw [jT] at h;intro e;subst e;simp at h
theorem We (a b:Int):uS a b=max a b:=by
 unfold uS
 rw [xO]
 by_cases h:a < b
 ·rw [decide_eq_true h,cond_true];omega
 ·rw [decide_eq_false h,cond_false];omega
theorem VC (a b:Int):jQ a b=min a b:=by
 unfold jQ
 rw [xO]
 by_cases h:b < a
 ·rw [decide_eq_true h,cond_true];omega
 ·rw [decide_eq_false h,cond_false];omega
theorem zd {α:Type} {b:Bool} {x y:Option α} {Q:α→Prop} (hb:b=true) (h:qt x Q):qt (bif b then x else y) Q:=by subst hb;exact h
theorem zf {α:Type} {b:Bool} {x y:Option α} {Q:α→Prop} (hb:b=false) (h:qt y Q):qt (bif b then x else y) Q:=by subst hb;exact h
theorem qN {X V:Type} {B:((V×(Int×Unit))×Unit)→Option (X ⊕ ((V×(Int×Unit))×Unit))} {v:V} {J:X→Prop} (n:Nat) (P:Nat→Prop) (hn:n≤1000000000000000000)
  (h:∀i,i < n→(∀k,k < i→P k)→qt (B ((v,((i:Int),())),())) (Nxt J fun s=>s=((v,(((i+1:Nat):Int),())),())∧P i))
  (he:(∀k,k < n→P k)→qt (B ((v,((n:Int),())),())) (Nxt J fun _=>False)):qt (zz B zL ((v,(0,())),())) J:=by
 refine zW n (fun i s=>s=((v,((i:Int),())),())∧∀k,k < i→P k) (zDZ hn) ⟨rfl,fun k hk=>by omega⟩ ?_ ?_
 ·rintro i _ hi ⟨rfl,hp⟩
  obtain ⟨r,e,h1,h2⟩:=h i hi hp
  refine ⟨r,e,h1,fun s' hs=>?_⟩
  obtain ⟨h3,h4⟩:=h2 s' hs
  refine ⟨h3,fun k hk=>?_⟩
  rcases Nat.lt_or_ge k i with hk' | hk'
  ·exact hp k hk'
  ·have:k=i:=by omega
   exact this▸h4
 ·rintro _ ⟨rfl,hp⟩
  exact he hp
theorem jC {X V:Type} {v:V} {i:Nat} {J:X→Prop} {p:Prop} (hi:i≤1000000000000000000) (hp:p):Nxt J (fun s=>s=((v,(((i+1:Nat):Int),())),())∧p) (.inr ((v,(wrF .i64 ((i:Int)+1),())),())):=qj ⟨by rw [qp hi],hp⟩
theorem ZO {p:Prop} (h:tv p=true):p:=zzr.1 h
theorem Zn {p:Prop} (h:tv p=false):¬p:=fun hp=>by rw [zA hp] at h;cases h
theorem yy {p:Prop} (h:(!tv p)=true):¬p:=Zn (by simpa using h)
theorem xu {p:Prop} (h:(!tv p)=false):p:=ZO (by simpa using h)
theorem ziH {α:Type} (l:List α) (lo hi mx:Option Int) (h p:Nat) (h1:hiI l.length hi=some h) (h2:loI h lo=some p) (h3:mxI h mx=true):XO l lo hi mx=some ((l.take h).drop p):=by
 unfold XO
 simp only [h1,h2,h3,cond_true]
theorem zoH {n q:Nat} (h:q≤n):hiI n (some (q:Int))=some q:=by
 show (bif Nat.ble q n then some q else none)=_
 rw [Nat.ble_eq_true_of_le h];rfl
theorem zBm {n q:Nat} (h:q≤n):loI n (some (q:Int))=some q:=by
 show (bif Nat.ble q n then some q else none)=_
 rw [Nat.ble_eq_true_of_le h];rfl
theorem zuC (n:Nat):mxI n (some (n:Int))=true:=by
 show Nat.beq n n=true
 exact Nat.beq_refl n
theorem zFO {α:Type} (l:List α):XO l none (some ((l.length:Nat):Int)) (some ((l.length:Nat):Int))=some l:=by
 rw [ziH l _ _ _ l.length 0 (zoH (Nat.le_refl _)) rfl (zuC _)];simp
theorem zD0 {α:Type} (l:List α) (n:Nat) (h:n≤l.length):XO l (some (n:Int)) none none=some (l.drop n):=by
 rw [ziH l _ _ _ l.length n rfl (zBm h) rfl];simp
theorem zBn {α:Type} (l:List α) (n:Nat) (h:n≤l.length):XO l none (some (n:Int)) none=some (l.take n):=by
 rw [ziH l _ _ _ n 0 (zoH h) rfl rfl];simp
theorem zFP {α:Type} (l:List α) (n:Nat) (h:n≤l.length):XO l none (some (n:Int)) (some (n:Int))=some (l.take n):=by
 rw [ziH l _ _ _ n 0 (zoH h) rfl (zuC _)];simp
theorem zFQ {α:Type} (l:List α) (m n:Nat) (h:n≤l.length) (h2:m≤n):XO l (some (m:Int)) (some (n:Int)) (some (n:Int))=some ((l.take n).drop m):=by
 rw [ziH l _ _ _ n m (zoH h) (zBm h2) (zuC _)]
theorem zoI {a b:Int} {k:Nat} (h0:0≤a) (h1:a≤b) (h2:(k:Int)*b≤281474976710656):zhM a b k=true:=by
 unfold zhM;rw [zF (by omega),zF (by omega),zF (by omega)];rfl
theorem xh {n m k:Nat} (h:(n+m)*k≤140737488355328) (h2:n+m≤9223372036854775807):jb n m k=true:=by
 unfold jb maxLen
 rw [Nat.ble_eq_true_of_le (by omega),Nat.ble_eq_true_of_le h];rfl
end Go.Fz.Sy
namespace Go.Proofs.YtplhphmbkmpocaaGreat.ad
open Go Go.Fz Go.Fz.Sy
abbrev I:Ty:=.int .i64
theorem zr:uJ Tryz.prog:=zym (by kernel_rfl)
abbrev zP:Ty:=(.pair I (.pair I (.pair I I)))
abbrev zas:Type:=(Int×(Int×(Int×Int)))
abbrev zw:Ty:=(.pair I (.pair (.list .bool) (.list zP)))
abbrev zN:Type:=(Int×((List Bool)×(List zas)))
abbrev vE:Ty:=(.pair (.int .u8) (.pair (.int .u8) (.pair (.list (.int .u8)) (.pair (.list (.int .u8)) (.pair (.list (.int .u8)) (.list (.int .u8)))))))
abbrev XT:Type:=(Int×(Int×((List Int)×((List Int)×((List Int)×(List Int))))))
abbrev Yl:Ty:=(.pair I (.pair I (.pair I I)))
abbrev XU:Type:=(Int×(Int×(Int×Int)))
abbrev Qf:Ty:=(.pair (.list (.int .u8)) (.list (.int .u8)))
abbrev zjX:Type:=((List Int)×(List Int))
abbrev wK:Ty:=(.pair .bool (.pair .bool (.pair (.int .u8) (.pair (.int .u8) (.pair (.int .u8) (.pair (.int .u8) (.pair (.int .u8) (.int .u16))))))))
abbrev XV:Type:=(Bool×(Bool×(Int×(Int×(Int×(Int×(Int×Int)))))))
abbrev xw:Ty:=(.pair vE (.pair (.list Qf) (.pair (.pair (.int .u8) (.pair (.int .u8) (.int .u8))) (.pair (.int .u8) (.pair (.int .u16) (.pair (.list wK) (.list (.int .u16))))))))
abbrev wq:Type:=(XT×((List zjX)×((Int×(Int×Int))×(Int×(Int×((List XV)×(List Int)))))))
abbrev qg:Ty:=(.pair I I)
abbrev zjY:Type:=(Int×Int)
abbrev zQ:Ty:=(.pair (.list qg) I)
abbrev qx:Type:=((List zjY)×Int)
abbrev qz:Ty:=(.pair zw (.pair Yl (.pair (.list zQ) I)))
abbrev qC:Type:=(zN×(XU×((List qx)×Int)))
abbrev zm:Ty:=(.pair I I)
abbrev qI:Type:=(Int×Int)
abbrev zv:Ty:=(.pair I (.pair I (.pair I (.pair I (.pair I (.pair I (.pair zm (.pair I (.list (.list I))))))))))
abbrev zO:Type:=(Int×(Int×(Int×(Int×(Int×(Int×(qI×(Int×(List (List Int))))))))))
abbrev YR:Ty:=zw
abbrev VD:Type:=zN
abbrev zpI:Ty:=(.pair I (.pair I I))
abbrev Uf:Ty:=(.pair zP I)
abbrev zhf:Type:=(zas×Int)
abbrev jK:Ty:=(.pair I I)
abbrev xK:Ty:=(.pair I I)
abbrev ya:Type:=(Int×Int)
abbrev gf:Ty:=(.pair zm (.pair xK (.pair I I)))
abbrev zaU:Type:=(qI×(ya×(Int×Int)))
abbrev zcC:Ty:=(.pair gf I)
abbrev jd:Ty:=(.pair I I)
abbrev vo:Type:=(Int×Int)
end Go.Proofs.YtplhphmbkmpocaaGreat.ad
end
