/- Parts of a proof, joined. -/
import Derived.Carry
import Derived.ChangeSame
import Derived.KernelRfl
import Derived.OpenShut
import Derived.Orders
import Derived.Test.YtplhphmbkmpocaaGreatE91
set_option linter.unusedSectionVars false
set_option linter.unusedVariables false
set_option linter.unusedSimpArgs false
set_option maxHeartbeats 0
set_option maxRecDepth 100000
noncomputable section
namespace Go.Fz
variable {P:Program} {φ:Ren} {H:Hp} {K:Nat→Prop} {w:World}
structure Ev where
 call:FuncId→List Value→Hp→Nat→Option (Value×Hp×Nat)
 code:Option Nat→Code→List Value→List Nat→Hp→Nat→Option Res
 loop:Option Nat→Code→List Value→List Nat→Hp→Nat→Option Res
 scp:Code→Code→List Value→List Nat→Hp→Nat→Option Res
structure Ev.Ok (P:Program) (E:Ev):Prop where
 call:∀{f args H nx v H' nx'},E.call f args H nx=some (v,H',nx')→Qj P f args H nx v H' nx'
 named:∀{f args H nx v H' nx'},E.call f args H nx=some (v,H',nx')→∃fn,P.funcs[f]?=some fn∧fn.body.isSome=true
 code:∀{r c tm ds H nx R},E.code r c tm ds H nx=some R→jb P r c tm ds H nx R
 loop:∀{r c tm ds H nx R},E.loop r c tm ds H nx=some R→zg9 P r c tm ds H nx R
 scp:∀{c x tm ds H nx R},E.scp c x tm ds H nx=some R→zmx P c x tm ds H nx R
def Hp.only (p:Nat→Bool):Hp→Hp
 |[]=>[]
 |(b,k)::r=>if p b then (b,k)::Hp.only p r else Hp.only p r
theorem Hp.get_only (p:Nat→Bool) (n:Nat):∀H:Hp,(Hp.only p H).get n=if p n then H.get n else none
 |[]=>by simp [Hp.only,Hp.get_nil]
 |(b,k)::r=>by
  have ih:=Hp.get_only p n r
  by_cases hb:b=n
  ·subst hb
   by_cases hp:p b=true
   ·simp [Hp.only,Hp.get_cons,hp]
   ·simp only [Bool.not_eq_true] at hp;simp [Hp.only,hp,ih]
  ·by_cases hp:p b=true
   ·simp [Hp.only,Hp.get_cons,hp,hb,ih]
   ·simp only [Bool.not_eq_true] at hp;simp [Hp.only,Hp.get_cons,hp,hb,ih]
theorem Hp.get_append (n:Nat):∀H G:Hp,Hp.get (H++G) n=(match H.get n with | some k=>some k | none=>G.get n)
 |[],G=>by simp [Hp.get_nil]
 |(b,k)::r,G=>by
  have ih:=Hp.get_append n r G
  by_cases hb:b=n
  ·subst hb;simp [Hp.get_cons]
  ·simp [Hp.get_cons,hb,ih]
def vi (wr mask:Nat→Bool) (b:Nat) (k:Blk):Blk:=
 if wr b then k else if mask b then .hid else match k with
  |.cells cs _=>.cells cs true
  |.fzc cs=>.fzc cs
  |_=>.hid
def KE (wr mask:Nat→Bool):Hp→Hp
 |[]=>[]
 |(b,k)::r=>(b,vi wr mask b k)::KE wr mask r
theorem zdU (wr mask:Nat→Bool) (n:Nat):∀H:Hp,(KE wr mask H).get n=(H.get n).map (vi wr mask n)
 |[]=>by simp [KE,Hp.get_nil]
 |(b,k)::r=>by
  have ih:=zdU wr mask n r
  by_cases hb:b=n
  ·subst hb;simp [KE,Hp.get_cons]
  ·simp [KE,Hp.get_cons,hb,ih]
theorem jo.hid_of {φ:Ren} {w:World} {L:Loc} {k:Blk} (h:jo φ w L k):jo φ w L .hid:=by
 have:=h.lt
 exact ⟨w.heap[L.blk],by simp [this]⟩
def GK (touch:Nat→Bool) (H' G:Hp):Hp:=Hp.only touch H'++Hp.only (fun b=>!touch b) G
theorem zcn (touch:Nat→Bool) (H' G:Hp) (b:Nat):(GK touch H' G).get b=if touch b then H'.get b else G.get b:=by
 unfold GK
 rw [Hp.get_append,Hp.get_only,Hp.get_only]
 cases h:touch b
 ·simp
 ·simp;cases H'.get b<;>rfl
def zdV:Hp→Bool
 |[]=>true
 |(_,k)::r=>k.rw&&zdV r
theorem ztM {b:Nat} {k:Blk}:∀{H:Hp},zdV H=true→H.get b=some k→k.rw=true
 |[],_,h=>by simp [Hp.get_nil] at h
 |(c,x)::r,ha,h=>by
  simp only [zdV,Bool.and_eq_true] at ha
  by_cases hb:c=b
  ·subst hb;simp [Hp.get_cons] at h;subst h;exact ha.1
  ·simp [Hp.get_cons,hb] at h;exact ztM ha.2 h
def jV (wr:Nat→Bool) (lo hi:Nat) (b:Nat):Bool:=wr b||(decide (lo≤b)&&decide (b < hi))
theorem zD1 {r:Option Nat} {o:Oper} {tm:List Value} {V H' G:Hp} {wr mask:Nat→Bool} {lo hi:Nat} {v:Value} (h:Kn P r o tm V lo v H' hi)
  (hV:∀b k,V.get b=some k→∃k0,G.get b=some k0∧k=vi wr mask b k0) (hrw:zdV (Hp.only (jV wr lo hi) H')=true)
  (φ:Ren) (w:World) (K:Nat→Prop) (a:Act) (rc:Option Nat) (next:Act→World→Prop) (Q:Exit→Act→World→Prop) (g:zF φ G K w) (hf:yX φ lo hi) (ht:qI φ tm a.tmps) (hr:Ve φ r rc)
  (hk:∀v' φ' w',zr φ' v v'→Ext K φ φ' lo hi→zF φ' (GK (jV wr lo hi) H' G) K w'→qw K w w'→next (a.put o.dst v') w'):o.wpIn (fw rc) 0 P a w next Q:=by
 let K2:Nat→Prop:=fun c=>K c∨∃b k L,G.get b=some k∧wr b=false∧φ b=some L∧L.blk=c
 have hV':∀b k,V.get b=some k→k.rw=true→wr b=true:=by
  intro b k hb hk
  obtain ⟨k0,h0,rfl⟩:=hV b k hb
  cases hw:wr b with
  |true=>rfl
  |false=>
   simp only [vi,hw,Bool.false_eq_true,if_false] at hk
   split at hk
   ·simp [Blk.rw] at hk
   ·split at hk<;>simp [Blk.rw] at hk
 have hsame:∀b k,V.get b=some k→wr b=true→G.get b=some k:=by
  intro b k hb hw
  obtain ⟨k0,h0,rfl⟩:=hV b k hb
  simp only [vi,hw,if_true];exact h0
 have g2:zF φ V K2 w:=by
  refine ⟨fun b k hb=>?_,fun b c k k' L L' hb hc hne hkr hL hL'=>?_,fun b k L hb hkr hL hK2=>?_,fun c hc=>?_,g.fz,fun b k L c M hb hkr=>g.fsep b k L c M (hsame b k hb (hV' b k hb hkr)) hkr⟩
  ·obtain ⟨k0,h0,rfl⟩:=hV b k hb
   obtain ⟨L,hL,hbr⟩:=g.rel b k0 h0
   refine ⟨L,hL,?_⟩
   unfold vi
   split
   ·exact hbr
   ·split
    ·exact hbr.hid_of
    ·split
     ·obtain ⟨arr,el,fr,h1,h2,h3⟩:=hbr
      exact ⟨arr,el,fr,h1,h2,fun h=>by cases h⟩
     ·exact hbr
     ·exact hbr.hid_of
  ·have hw:=hV' b k hb hkr
   obtain ⟨k1,h1,_⟩:=hV c k' hc
   exact g.sep b c k k1 L L' (hsame b k hb hw) h1 hne hkr hL hL'
  ·have hw:=hV' b k hb hkr
   have hG:=hsame b k hb hw
   rcases hK2 with hK | ⟨c,k',L',hc,hwc,hLc,he⟩
   ·exact g.prot b k L hG hkr hL hK
   ·have hne:b≠c:=fun e=>by subst e;rw [hw] at hwc;cases hwc
    exact g.sep b c k k' L L' hG hc hne hkr hL hLc he.symm
  ·rcases hc with hK | ⟨b,k,L,hb,_,hL,he⟩
   ·exact g.kin c hK
   ·have:=(g.at hb hL).lt;omega
 refine h.2 φ w K2 a rc next Q g2 hf ht hr fun v' φ' w' x1 x2 x3 x4=>?_
 refine hk v' φ' w' x1 (x2.weak fun b hb=>.inl hb) ?_ ⟨x4.os,x4.tape,x4.output,x4.size,fun c hc=>x4.kept c (.inl hc)⟩
 have htr:∀b k,(GK (jV wr lo hi) H' G).get b=some k→jV wr lo hi b=true→H'.get b=some k∧k.rw=true:=by
  intro b k hb ht
  rw [zcn,ht] at hb
  refine ⟨hb,ztM (b:=b) hrw ?_⟩
  rw [Hp.get_only,ht];exact hb
 have hun:∀b k,(GK (jV wr lo hi) H' G).get b=some k→jV wr lo hi b=false→G.get b=some k∧wr b=false:=by
  intro b k hb ht
  rw [zcn,ht] at hb
  refine ⟨by simpa using hb,?_⟩
  simp only [jV,Bool.or_eq_false_iff] at ht
  exact ht.1
 refine ⟨fun b k hb=>?_,fun b c k k' L L' hb hc hne hkr hL hL'=>?_,fun b k L hb hkr hL hK=>?_,fun c hc=>Nat.lt_of_lt_of_le (g.kin c hc) x4.size,x3.fz,fun b k L c M hb hkr hL hM=>?_⟩
 ·cases ht:jV wr lo hi b with
  |true=>exact x3.rel b k (htr b k hb ht).1
  |false=>
   obtain ⟨hG,hw⟩:=hun b k hb ht
   obtain ⟨L,hL,hbr⟩:=g.rel b k hG
   exact ⟨L,x2.1 _ _ hL,(hbr.congr (x4.kept L.blk (.inr ⟨b,k,L,hG,hw,hL,rfl⟩))).mono x2.1⟩
 ·cases htb:jV wr lo hi b with
  |true=>
   obtain ⟨hb',hbr⟩:=htr b k hb htb
   cases htc:jV wr lo hi c with
   |true=>exact x3.sep b c k k' L L' hb' (htr c k' hc htc).1 hne hbr hL hL'
   |false=>
    obtain ⟨hG,hw⟩:=hun c k' hc htc
    obtain ⟨M,hM,_⟩:=g.rel c k' hG
    have:=x2.1 _ _ hM
    rw [hL'] at this;cases this
    exact fun e=>x3.prot b k L hb' hbr hL (.inr ⟨c,k',L',hG,hw,hM,e.symm⟩)
  |false=>
   obtain ⟨hG,hw⟩:=hun b k hb htb
   obtain ⟨M,hM,_⟩:=g.rel b k hG
   have hM':=x2.1 _ _ hM
   rw [hL] at hM';cases hM'
   cases htc:jV wr lo hi c with
   |true=>
    obtain ⟨hc',hcr⟩:=htr c k' hc htc
    exact fun e=>x3.prot c k' L' hc' hcr hL' (.inr ⟨b,k,L,hG,hw,hM,e⟩)
   |false=>
    obtain ⟨hGc,hwc⟩:=hun c k' hc htc
    obtain ⟨M2,hM2,_⟩:=g.rel c k' hGc
    have:=x2.1 _ _ hM2
    rw [hL'] at this;cases this
    exact g.sep b c k k' L L' hG hGc hne hkr hM hM2
 ·cases htb:jV wr lo hi b with
  |true=>
   obtain ⟨hb',hbr⟩:=htr b k hb htb
   exact x3.prot b k L hb' hbr hL (.inl hK)
  |false=>
   obtain ⟨hG,hw⟩:=hun b k hb htb
   obtain ⟨M,hM,_⟩:=g.rel b k hG
   have hM':=x2.1 _ _ hM
   rw [hL] at hM';cases hM'
   exact g.prot b k L hG hkr hM hK
 ·cases htb:jV wr lo hi b with
  |true=>
   obtain ⟨hb',hbr⟩:=htr b k hb htb
   exact x3.fsep b k L c M hb' hbr hL hM
  |false=>
   obtain ⟨hG,hw⟩:=hun b k hb htb
   obtain ⟨N,hN,_⟩:=g.rel b k hG
   have hN':=x2.1 _ _ hN
   rw [hL] at hN';cases hN'
   rcases x2.2.2 c M hM with h3 | h3
   ·exact g.fsep b k L c M hG hkr hN h3
   ·exact fun e=>h3 (.inr ⟨b,k,L,hG,hw,hN,e⟩)
structure Stp where
 o:Oper
 ran:Bool
 v:Value
 tmo:List Value
 V:Hp
 wr:Nat→Bool
 H':Hp
 lo:Nat
 hi:Nat
def Stp.touch (s:Stp) (b:Nat):Bool:=jV s.wr s.lo s.hi b
section
variable (st:Nat→Stp) (H0:Hp) (tm0:List Value)
def Je (S:Nat→Bool):Nat→Nat→Option Blk
 |0,b=>H0.get b
 |m+1,b=>if S m&&(st m).touch b then (st m).H'.get b else Je S m b
def tmS (S:Nat→Bool):Nat→List Value
 |0=>tm0
 |m+1=>if S m then gp (tmS S m) (st m).o.dst (st m).v else tmS S m
end
variable {st:Nat→Stp} {H0:Hp} {tm0:List Value}
theorem zdW {S T:Nat→Bool} {b:Nat}:∀{m:Nat},(∀k,k < m→(st k).touch b=true→S k=T k)→Je st H0 S m b=Je st H0 T m b
 |0,_=>rfl
 |m+1,h=>by
  have ih:=zdW (S:=S) (T:=T) (b:=b) (m:=m) fun k hk=>h k (by omega)
  simp only [Je]
  cases ht:(st m).touch b with
  |false=>simpa using ih
  |true=>rw [h m (by omega) ht,ih]
theorem zx5 (tm:List Value) (d:Option Tmp) (v:Value):(gp tm d v).length=tm.length:=by cases d<;>simp [gp,zvt]
theorem gP (S:Nat→Bool):∀m,(tmS st tm0 S m).length=tm0.length
 |0=>rfl
 |m+1=>by
  simp only [tmS]
  split
  ·rw [zx5];exact gP S m
  ·exact gP S m
theorem Uy (tm:List Value) (d:Option Tmp) (v:Value) (s:Nat):(gp tm d v)[s]?=if d=some s∧s < tm.length then some v else tm[s]?:=by
 cases d with
 |none=>simp [gp]
 |some d=>
  simp only [gp,zvt,List.getElem?_set,Option.some.injEq]
  by_cases h:d=s
  ·subst h
   by_cases hl:d < tm.length
   ·simp [hl]
   ·simp [hl]
  ·simp [h]
theorem zfP {S T:Nat→Bool} {s:Nat}:∀{m:Nat},(∀k,k < m→(st k).o.dst=some s→S k=T k)→(tmS st tm0 S m)[s]?=(tmS st tm0 T m)[s]?
 |0,_=>rfl
 |m+1,h=>by
  have ih:=zfP (S:=S) (T:=T) (s:=s) (m:=m) fun k hk=>h k (by omega)
  simp only [tmS]
  by_cases hd:(st m).o.dst=some s
  ·rw [h m (by omega) hd]
   split
   ·rw [Uy,Uy,gP,gP,ih]
   ·exact ih
  ·have h1:∀(T:Nat→Bool),(if T m then gp (tmS st tm0 T m) (st m).o.dst (st m).v else tmS st tm0 T m)[s]?=(tmS st tm0 T m)[s]?:=by
    intro T
    split
    ·rw [Uy];simp [hd]
    ·rfl
   rw [h1,h1,ih]
structure zhb (P:Program) (r:Option Nat) (ops:Array Oper) (tm0:List Value) (H0:Hp) (nx nx':Nat) (st:Nat→Stp) (A:Nat→Nat→Bool):Prop where
 hops:∀i,i < ops.size→ops[i]?=some (st i).o
 rng:∀i,i < ops.size→(st i).lo≤(st i).hi
 rngs:∀i j,i < j→j < ops.size→(st i).hi≤(st j).lo
 rng0:∀i,i < ops.size→nx≤(st i).lo∧(st i).hi≤nx'
 nxs:nx≤nx'
 a1:∀i,i < ops.size→∀e∈(st i).o.after,Region.binds .any e=true→A i e.on=true∧e.on < i
 a2:∀i,i < ops.size→∀j,A i j=true→∃e∈(st i).o.after,Region.binds .any e=true∧(j=e.on∨A e.on j=true)
 a3:∀i j,i < ops.size→A i j=true→j < i
 tlen:∀i,i < ops.size→(st i).tmo.length=tm0.length
 tmo:∀i,i < ops.size→∀(s:Nat) v,(st i).tmo[s]?=some v→v=junk∨((tmS st tm0 (fun k=>decide (k < i)) ops.size)[s]?=some v∧∀k,k < ops.size→k≠i→(st k).o.dst=some s→A i k=true∨A k i=true)
 dst:∀i j (s:Nat),i < ops.size→j < ops.size→i≠j→(st i).o.dst=some s→(st j).o.dst≠some s
 want:∀i,i < ops.size→vh ops (st i).tmo (st i).o=some (st i).ran
 ok:∀i,i < ops.size→(st i).ran=true→Kn P r (st i).o (st i).tmo (st i).V (st i).lo (st i).v (st i).H' (st i).hi∧zdV (Hp.only (st i).touch (st i).H')=true
 vw:∀i,i < ops.size→∀b k,(st i).V.get b=some k→∃k0,Je st H0 (fun k=>decide (k < i)) ops.size b=some k0∧k=vi (st i).wr (fun _=>false) b k0
 skip:∀i,i < ops.size→(st i).ran=false→(st i).v=undef∧∀b,(st i).touch b=false
 dis:∀i j,i < ops.size→j < ops.size→i≠j→A i j=false→A j i=false→∀b k,(st i).V.get b=some k→(st j).touch b=false
 wrin:∀i,i < ops.size→∀b,(st i).wr b=true→∃k,(st i).V.get b=some k
theorem zzy {listed:Array Bool} {i:Nat} (h:listed.getD i true=false):listed.getD i false=false∧i < listed.size:=by
 by_cases hl:i < listed.size
 ·simp [Array.getD,hl] at h ⊢;exact h
 ·simp [Array.getD,hl] at h
theorem zzz {r:Option Nat} {ops:Array Oper} {nx nx':Nat} {A:Nat→Nat→Bool} (D:zhb P r ops tm0 H0 nx nx' st A) {i j:Nat} (hi:i < ops.size) (hj:j < ops.size) (hne:i≠j) (h1:A i j=false) (h2:A j i=false) {b:Nat}
  (hb:(st i).touch b=true):(st j).touch b=false:=by
 cases hjb:(st j).touch b with
 |false=>rfl
 |true=>
  exfalso
  have hb':=hb
  have hjb':=hjb
  simp only [Stp.touch,jV,Bool.or_eq_true,Bool.and_eq_true,decide_eq_true_eq] at hb' hjb'
  rcases hb' with hw | ⟨hl,hh⟩
  ·obtain ⟨k,hk⟩:=D.wrin i hi b hw
   have:=D.dis i j hi hj hne h1 h2 b k hk
   rw [hjb] at this;cases this
  ·rcases hjb' with hw | ⟨hl2,hh2⟩
   ·obtain ⟨k,hk⟩:=D.wrin j hj b hw
    have:=D.dis j i hj hi (fun e=>hne e.symm) h2 h1 b k hk
    rw [hb] at this;cases this
   ·rcases Nat.lt_or_gt_of_ne hne with hlt | hgt
    ·have:=D.rngs i j hlt hj;omega
    ·have:=D.rngs j i hgt hi;omega
theorem zvV {r:Option Nat} {ops:Array Oper} {nx nx':Nat} {A:Nat→Nat→Bool} (D:zhb P r ops tm0 H0 nx nx' st A) {S:Nat→Bool} {i:Nat} (hi:i < ops.size) (hSi:S i=false)
  (hdown:∀k,k < ops.size→S k=true→∀j,A k j=true→S j=true) (b:Nat) :
  Je st H0 (fun k=>S k||k == i) ops.size b=if (st i).touch b then (st i).H'.get b else Je st H0 S ops.size b:=by
 have key:∀m,m≤ops.size→Je st H0 (fun k=>S k||k == i) m b=if decide (i < m)&&(st i).touch b then (st i).H'.get b else Je st H0 S m b:=by
  intro m
  induction m with
  |zero=>intro _;simp [Je]
  |succ m ih=>
   intro hm
   have ih:=ih (by omega)
   simp only [Je]
   by_cases hmi:m=i
   ·subst hmi
    simp only [beq_self_eq_true,Bool.or_true,Bool.true_and,hSi,Bool.false_and,Bool.false_eq_true,if_false,Nat.lt_succ_self,decide_true]
    split
    ·rfl
    ·rename_i ht;rw [ih];simp
   ·have hbe:(m == i)=false:=by simp [hmi]
    simp only [hbe,Bool.or_false]
    by_cases hlt:i < m
    ·have hlt':i < m+1:=by omega
     simp only [hlt',decide_true,Bool.true_and]
     simp only [hlt,decide_true,Bool.true_and] at ih
     cases hti:(st i).touch b with
     |false=>rw [ih];simp [hti]
     |true=>
      simp only [hti,if_true] at ih ⊢
      have:(S m&&(st m).touch b)=false:=by
       cases hSm:S m with
       |false=>rfl
       |true=>
        have h1:A i m=false:=by
         cases hA:A i m with
         |false=>rfl
         |true=>have:=D.a3 i m hi hA;omega
        have h2:A m i=false:=by
         cases hA:A m i with
         |false=>rfl
         |true=>have:=hdown m (by omega) hSm i hA;rw [hSi] at this;cases this
        simp [zzz D hi (by omega) (fun e=>hmi e.symm) h1 h2 hti]
      rw [this];simpa using ih
    ·have hlt':¬i < m+1:=by omega
     simp only [hlt',decide_false,Bool.false_and,Bool.false_eq_true,if_false]
     simp only [hlt,decide_false,Bool.false_and,Bool.false_eq_true,if_false] at ih
     rw [ih]
 have:=key ops.size (Nat.le_refl _)
 simpa [hi] using this
theorem zyF {r:Option Nat} {ops:Array Oper} {nx nx':Nat} {A:Nat→Nat→Bool} (D:zhb P r ops tm0 H0 nx nx' st A) {S:Nat→Bool} {i:Nat} (hi:i < ops.size) (hSi:S i=false) :
  tmS st tm0 (fun k=>S k||k == i) ops.size=gp (tmS st tm0 S ops.size) (st i).o.dst (st i).v:=by
 apply List.ext_getElem?
 intro s
 rw [Uy,gP]
 have key:∀m,m≤ops.size→(tmS st tm0 (fun k=>S k||k == i) m)[s]?=if i < m∧(st i).o.dst=some s∧s < tm0.length then some (st i).v else (tmS st tm0 S m)[s]?:=by
  intro m
  induction m with
  |zero=>intro _;simp [tmS]
  |succ m ih=>
   intro hm
   have ih:=ih (by omega)
   simp only [tmS]
   by_cases hmi:m=i
   ·subst hmi
    simp only [beq_self_eq_true,Bool.or_true,if_true,hSi,Bool.false_eq_true,if_false,Nat.lt_succ_self,true_and]
    rw [Uy,gP,ih]
    simp
   ·have hbe:(m == i)=false:=by simp [hmi]
    simp only [hbe,Bool.or_false]
    have hlt:(i < m+1)↔(i < m):=by omega
    simp only [hlt]
    by_cases hSm:S m=true
    ·simp only [hSm,if_true]
     rw [Uy,Uy,gP,gP,ih]
     by_cases hd:(st m).o.dst=some s
     ·have hd':(st i).o.dst≠some s:=D.dst m i s (by omega) hi hmi hd
      simp [hd,hd']
     ·simp [hd]
    ·simp only [hSm]
     exact ih
 have:=key ops.size (Nat.le_refl _)
 simpa [hi] using this
theorem zAS {r:Option Nat} {ops:Array Oper} {nx nx':Nat} {A:Nat→Nat→Bool} (D:zhb P r ops tm0 H0 nx nx' st A) {tmF:List Value} {HF:Hp} (htF:tmF=tmS st tm0 (fun k=>decide (k < ops.size)) ops.size)
  (hHF:∀b k,HF.get b=some k→Je st H0 (fun k=>decide (k < ops.size)) ops.size b=some k) (rc:Option Nat) (φ0:Ren) (w0:World) (K:Nat→Prop) (a0:Act) (Q:Exit→Act→World→Prop)
  (hk:∀φ' a' w',Ext K φ0 φ' nx nx'→zF φ' HF K w'→qI φ' tmF a'.tmps→a'.defers=a0.defers→qw K w0 w'→Q .normal a' w') :
  ∀
   (fuel t:Nat) (listed:Array Bool) (φ:Ren) (G:Hp) (a:Act) (w:World),listed.size=ops.size→((List.range ops.size).filter fun k=>!listed.getD k false).length≤fuel→
   (∀i,i < ops.size→listed.getD i false=true→∀j,A i j=true→listed.getD j false=true)→(∀b,G.get b=Je st H0 (fun k=>listed.getD k false) ops.size b)→zF φ G K w→
   qI φ (tmS st tm0 (fun k=>listed.getD k false) ops.size) a.tmps→(∀i,i < ops.size→listed.getD i false=false→yX φ (st i).lo (st i).hi)→Ext K φ0 φ nx nx'→qw K w0 w→a.defers=a0.defers→Ve φ r rc→
   wpOpsIn (fw rc) 0 P ops Q (Region.linearise.go .any ops fuel t listed []) a w:=by
 intro fuel
 have final:∀(listed:Array Bool) (φ:Ren) (G:Hp) (a:Act) (w:World),(∀k,k < ops.size→listed.getD k false=true)→(∀b,G.get b=Je st H0 (fun k=>listed.getD k false) ops.size b)→zF φ G K w→
   qI φ (tmS st tm0 (fun k=>listed.getD k false) ops.size) a.tmps→Ext K φ0 φ nx nx'→qw K w0 w→a.defers=a0.defers→Q .normal a w:=by
  intro listed φ G a w hall hG g ht he hw hd
  refine hk φ a w he (g.sub fun b k hb=>?_) ?_ hd hw
  ·rw [hG,zdW (T:=fun k=>decide (k < ops.size)) (fun k hk _=>by simp [hall k hk,hk])]
   exact hHF b k hb
  ·have:tmS st tm0 (fun k=>listed.getD k false) ops.size=tmF:=by
    rw [htF]
    apply List.ext_getElem?
    intro s
    exact zfP fun k hk _=>by simp [hall k hk,hk]
   rw [←this];exact ht
 induction fuel with
 |zero=>
  intro t listed φ G a w hsz hcnt hdown hG g ht hfr he hw hd hr
  simp only [Region.linearise.go,List.reverse_nil,wpOpsIn]
  refine final listed φ G a w (fun k hk=>?_) hG g ht he hw hd
  have hnil:=List.eq_nil_of_length_eq_zero (Nat.le_zero.1 hcnt)
  have:=List.filter_eq_nil_iff.1 hnil k (List.mem_range.2 hk)
  simpa using this
 |succ fuel ih=>
  intro t listed φ G a w hsz hcnt hdown hG g ht hfr he hw hd hr
  simp only [Region.linearise.go]
  change wpOpsIn (fw rc) 0 P ops Q (match (Region.ready .any ops listed)[t % (Region.ready .any ops listed).length]? with
   |some i=>Region.linearise.go .any ops fuel (t / (Region.ready .any ops listed).length) (listed.setIfInBounds i true) [i]
   |none=>[].reverse) a w
  cases hi:(Region.ready .any ops listed)[t % (Region.ready .any ops listed).length]? with
  |none=>
   have hnil:Region.ready .any ops listed=[]:=by
    cases hr:Region.ready .any ops listed with
    |nil=>rfl
    |cons x xs=>
     rw [hr] at hi
     have hlt:t % (x::xs).length < (x::xs).length:=Nat.mod_lt _ (by simp)
     simp at hi
     simp at hlt
     omega
   simp only [List.reverse_nil,wpOpsIn]
   refine final listed φ G a w ?_ hG g ht he hw hd
   intro k
   induction k using Nat.strongRecOn with
   |_ k ihk=>
    intro hk
    cases hl:listed.getD k false with
    |true=>rfl
    |false=>
     exfalso
     have hmem:k∈Region.ready .any ops listed:=by
      rw [mem_ready]
      refine ⟨?_,(st k).o,D.hops k hk,fun e he hb=>?_⟩
      ·have:k < listed.size:=by omega
       simp [Array.getD,this] at hl ⊢;exact hl
      ·have:=(D.a1 k hk e he hb).2
       exact ihk e.on this (by omega)
     rw [hnil] at hmem;cases hmem
  |some i=>
   simp only []
   rw [linearise_go_acc,List.reverse_singleton,List.singleton_append]
   have hmem:=List.mem_of_getElem? hi
   rw [mem_ready] at hmem
   obtain ⟨hli,o,ho,hed⟩:=hmem
   obtain ⟨hSi,hil⟩:=zzy hli
   have hin:i < ops.size:=by omega
   have hoe:o=(st i).o:=by have:=D.hops i hin;rw [ho] at this;cases this;rfl
   subst hoe
   have hanc:∀j,A i j=true→listed.getD j false=true:=by
    intro j hj
    obtain ⟨e,he,hb,hor⟩:=D.a2 i hin j hj
    have h1:=hed e he hb
    rcases hor with rfl | hA
    ·exact h1
    ·exact hdown e.on (by have:=(D.a1 i hin e he hb).2;omega) h1 j hA
   have hagree:∀k,k < ops.size→(k=i∨A i k=true∨A k i=true)→listed.getD k false=decide (k < i):=by
    intro k hk hor
    rcases hor with rfl | hA | hA
    ·rw [hSi];simp
    ·rw [hanc k hA];have:=D.a3 i k hin hA;simp [this]
    ·have h1:=D.a3 k i hk hA
     have:listed.getD k false=false:=by
      cases hl:listed.getD k false with
      |false=>rfl
      |true=>have:=hdown k hk hl i hA;rw [hSi] at this;cases this
     rw [this];simp;omega
   have htmo:qI φ (st i).tmo a.tmps:=by
    refine ⟨by rw [D.tlen i hin,←ht.1,gP],fun s v hv=>?_⟩
    rcases D.tmo i hin s v hv with hj | ⟨h1,h2⟩
    ·exact .inl hj
    ·refine ht.2 s v ?_
     rw [←h1]
     refine zfP fun k hk hdk=>hagree k hk ?_
     by_cases hki:k=i
     ·exact .inl hki
     ·exact .inr (h2 k hk hki hdk)
   have hset:∀k,(listed.setIfInBounds i true).getD k false=(listed.getD k false||k == i):=by
    intro k
    by_cases hki:k=i
    ·subst hki;simp [Array.getD,hil]
    ·rw [getD_set_ne false (fun e=>hki e.symm)]
     simp [hki]
   have hfun:(fun k=>(listed.setIfInBounds i true).getD k false)=(fun k=>listed.getD k false||k == i):=funext hset
   have hcnt':((List.range ops.size).filter fun k=>!(listed.setIfInBounds i true).getD k false).length≤fuel:=by
    have e1:((List.range ops.size).filter fun k=>!(listed.setIfInBounds i true).getD k false)=(((List.range ops.size).filter fun k=>!listed.getD k false)).filter fun k=>!(k == i):=by
     rw [List.filter_filter]
     congr 1
     funext k
     rw [hset]
     cases listed.getD k false<;>cases (k == i)<;>rfl
    have e2:=List.length_filter_lt_length_iff_exists (p:=fun k=>!(k == i)) (l:=(List.range ops.size).filter fun k=>!listed.getD k false) |>.2 ⟨i,by rw [List.mem_filter];exact ⟨List.mem_range.2 hin,by rw [hSi];rfl⟩,by simp⟩
    rw [e1];omega
   have hdown':∀k,k < ops.size→(listed.setIfInBounds i true).getD k false=true→∀j,A k j=true→(listed.setIfInBounds i true).getD j false=true:=by
    intro k hk hl j hj
    rw [hset] at hl ⊢
    simp only [Bool.or_eq_true,beq_iff_eq] at hl ⊢
    rcases hl with hl | rfl
    ·exact .inl (hdown k hk hl j hj)
    ·exact .inl (hanc j hj)
   have hfresh':∀φ',Ext K φ φ' (st i).lo (st i).hi→∀k,k < ops.size→(listed.setIfInBounds i true).getD k false=false→yX φ' (st k).lo (st k).hi:=by
    intro φ' hx k hk hl
    rw [hset] at hl
    simp only [Bool.or_eq_false_iff,beq_eq_false_iff_ne] at hl
    refine ⟨(hfr k hk hl.1).1,fun b hb1 hb2=>?_⟩
    have:=(hfr k hk hl.1).2 b hb1 hb2
    rw [hx.2.1 b (Nat.lt_of_lt_of_le hb2 (hfr k hk hl.1).1) ?_]
    ·exact this
    ·rcases Nat.lt_or_gt_of_ne hl.2 with hlt | hgt
     ·have:=D.rngs k i hlt hin;omega
     ·have:=D.rngs i k hgt hk;omega
   have hsd:∀k,k < ops.size→(fun k=>listed.getD k false) k=true→∀j,A k j=true→(fun k=>listed.getD k false) j=true:=hdown
   simp only [wpOpsIn,ho]
   have hwant:=zh5 htmo (D.want i hin)
   cases hran:(st i).ran with
   |true=>
    rw [if_pos (by rw [hwant,hran])]
    obtain ⟨hok,hrw⟩:=D.ok i hin hran
    have hV:∀b k,(st i).V.get b=some k→∃k0,G.get b=some k0∧k=vi (st i).wr (fun _=>false) b k0:=by
     intro b k hb
     obtain ⟨k0,h1,h2⟩:=D.vw i hin b k hb
     refine ⟨k0,?_,h2⟩
     rw [hG,←h1]
     refine zdW fun k' hk' htk=>hagree k' hk' ?_
     by_cases hki:k'=i
     ·exact .inl hki
     ·right
      cases h3:A i k' with
      |true=>exact .inl rfl
      |false=>
       cases h4:A k' i with
       |true=>exact .inr rfl
       |false=>
        have:=D.dis i k' hin hk' (fun e=>hki e.symm) h3 h4 b k hb
        rw [htk] at this;cases this
    refine zD1 hok hV hrw φ w K a rc _ Q g (hfr i hin hSi) htmo hr fun v' φ' w' x1 x2 x3 x4=>?_
    refine ih _ _ φ' _ _ w' (by simpa using hsz) hcnt' hdown' (fun b=>?_) x3 ?_ (hfresh' φ' x2) ?_ (hw.trans x4) (by rw [zdS];exact hd) (hr.mono x2.1)
    ·rw [zcn,hfun,zvV D hin hSi hsd]
     show (if (st i).touch b=true then _ else _)=_
     rw [hG]
    ·rw [hfun,zyF D hin hSi]
     exact zh4 (ht.mono x2.1) _ x1
    ·have:=D.rng0 i hin
     exact he.comp (x2.wide this.1 this.2)
   |false=>
    rw [if_neg (by rw [hwant,hran];simp)]
    refine ⟨zbm,?_⟩
    obtain ⟨hv,htch⟩:=D.skip i hin hran
    refine ih _ _ φ G _ w (by simpa using hsz) hcnt' hdown' (fun b=>?_) g ?_ (hfresh' φ (Ext.refl _ _ _ _)) he hw (by rw [zdS];exact hd) hr
    ·rw [hfun,zvV D hin hSi hsd,htch b]
     simp only [Bool.false_eq_true,if_false]
     exact hG b
    ·rw [hfun,zyF D hin hSi,hv]
     exact zh4 ht _ (.tuple' (by simp [zw]))
theorem zx6 {r:Option Nat} {id:Nat} {ops:Array Oper} {nx nx':Nat} {A:Nat→Nat→Bool} {ds:List Nat} (hm:P.follows .mixedOrders=true) (D:zhb P r ops tm0 H0 nx nx' st A) {HF:Hp}
  (hHF:∀b k,HF.get b=some k→Je st H0 (fun k=>decide (k < ops.size)) ops.size b=some k) :
  jb P r (.region id ops true) tm0 ds H0 nx ⟨.normal,tmS st tm0 (fun k=>decide (k < ops.size)) ops.size,ds,HF,nx'⟩:=by
 refine ⟨D.nxs,fun φ w K a rc g hf ht hd hr=>wpIn_region_draw fun t=>?_⟩
 rw [hm]
 simp only [Region.schedule,Bool.true_or,if_true,Region.linearise]
 have g0:∀k,(Array.replicate ops.size false).getD k false=false:=by intro k;simp [Array.getD]
 have e0:(fun k=>(Array.replicate ops.size false).getD k false)=fun _=>false:=funext g0
 have es:∀m b,Je st H0 (fun _=>false) m b=H0.get b:=by
  intro m b;induction m with
  |zero=>rfl
  |succ m ih=>simpa [Je] using ih
 have et:∀m,tmS st tm0 (fun _=>false) m=tm0:=by
  intro m;induction m with
  |zero=>rfl
  |succ m ih=>simpa [tmS] using ih
 refine zAS D rfl hHF rc φ w K a _ (fun φ' a' w' x1 x2 x3 x4 x5=>⟨rfl,φ',x1,x2,x3,by rw [x4];exact hd.mono x1.1,x5⟩) ops.size t (Array.replicate ops.size false) φ H0 a w.drew (by simp) ?_ (fun i hi hl=>by rw [g0] at hl;cases hl) (fun b=>by rw [e0,es]) g.drew (by rw [e0,et];exact ht) (fun i hi _=>⟨by have:=D.rng0 i hi;have h:=hf.1;change nx'≤FZ at h;omega,fun b h1 h2=>hf.2 b (by have:=D.rng0 i hi;omega) (by have:=D.rng0 i hi;show b < nx';omega)⟩) (Ext.refl _ _ _ _) (qw.drew K w) rfl hr
 exact Nat.le_trans (List.length_filter_le _ _) (by simp)
end Go.Fz
namespace Go.Fz
variable {P:Program} {φ:Ren} {H:Hp} {K:Nat→Prop} {w:World}
def YF (ms:List Nat):List Edge→Nat
 |[]=>0
 |e::es=>(if Region.binds .any e then (1 <<< e.on)||| ms.getD e.on 0 else 0)||| YF ms es
theorem zeq (ms:List Nat) (j:Nat):∀es:List Edge,(YF ms es).testBit j=true↔∃e∈es,Region.binds .any e=true∧(j=e.on∨(ms.getD e.on 0).testBit j=true)
 |[]=>by simp [YF]
 |e::es=>by
  have ih:=zeq ms j es
  simp only [YF,Nat.testBit_or,Bool.or_eq_true,ih,List.mem_cons,exists_eq_or_imp]
  by_cases hb:Region.binds .any e=true
  ·simp only [hb,if_true,Nat.testBit_or,Bool.or_eq_true,Nat.one_shiftLeft,Nat.testBit_two_pow,decide_eq_true_eq,true_and]
   constructor
   ·rintro ((h | h) | h)
    ·exact .inl (.inl h.symm)
    ·exact .inl (.inr h)
    ·exact .inr h
   ·rintro ((h | h) | h)
    ·exact .inl (.inl h.symm)
    ·exact .inl (.inr h)
    ·exact .inr h
  ·simp only [hb,if_false,Nat.zero_testBit,Bool.false_eq_true,false_or,false_and]
def Uz (ms:List Nat):Nat→List Oper→Bool
 |_,[]=>true
 |i,o::os=>(ms.getD i 0 == YF ms o.after.toList)&&o.after.toList.all (fun e=>!Region.binds .any e||decide (e.on < i))&&decide (ms.getD i 0 < 2 ^ i)&&Uz ms (i+1) os
theorem znG {ms:List Nat}:∀{l:List Oper} {i j:Nat} {o:Oper},Uz ms i l=true→l[j]?=some o→
  ms.getD (i+j) 0=YF ms o.after.toList∧(∀e∈o.after.toList,Region.binds .any e=true→e.on < i+j)∧ms.getD (i+j) 0 < 2 ^ (i+j)
 |[],i,j,o,_,h=>by simp at h
 |x::l,i,0,o,hf,h=>by
  simp at h;subst h
  simp only [Uz,Bool.and_eq_true,beq_iff_eq,decide_eq_true_eq,List.all_eq_true,Bool.or_eq_true,Bool.not_eq_true'] at hf
  obtain ⟨⟨⟨h1,h2⟩,h3⟩,h4⟩:=hf
  refine ⟨h1,fun e he hb=>?_,h3⟩
  rcases h2 e he with h | h
  ·rw [hb] at h;cases h
  ·exact h
 |x::l,i,j+1,o,hf,h=>by
  simp only [Uz,Bool.and_eq_true] at hf
  have:=znG (j:=j) hf.2 (by simpa using h)
  rw [show i+1+j=i+(j+1) by omega] at this
  exact this
def zvW:Operand→List Nat
 |.tmp t=>[t]
 |_=>[]
def xw (ops:Array Oper) (o:Oper):List Nat:=
 (o.op.operands.toList.flatMap zvW)++(match o.guard with
  |some (j,_)=>match (ops[j]?).bind (·.dst) with
   |some d=>[d]
   |none=>[]
  |none=>[])
def gh (tm:List Value) (slots:List Nat):List Value:=slots.foldl (fun t s=>t.set s (tm.getD s junk)) (List.replicate tm.length junk)
theorem zfQ {tm:List Value} {slots:List Nat}:(gh tm slots).length=tm.length∧∀(s:Nat) v,(gh tm slots)[s]?=some v→v=junk∨(s∈slots∧tm[s]?=some v):=by
 unfold gh
 have key:∀(sl:List Nat) (t:List Value),t.length=tm.length→(∀(s:Nat) v,t[s]?=some v→v=junk∨(s∈slots∧tm[s]?=some v))→(∀s∈sl,s∈slots)→
   (sl.foldl (fun t s=>t.set s (tm.getD s junk)) t).length=tm.length∧∀(s:Nat) v,(sl.foldl (fun t s=>t.set s (tm.getD s junk)) t)[s]?=some v→v=junk∨(s∈slots∧tm[s]?=some v):=by
  intro sl
  induction sl with
  |nil=>intro t h1 h2 _;exact ⟨h1,h2⟩
  |cons x sl ih=>
   intro t h1 h2 h3
   simp only [List.foldl_cons]
   refine ih _ (by simpa using h1) (fun s v hv=>?_) (fun s hs=>h3 s (by simp [hs]))
   rw [List.getElem?_set] at hv
   by_cases hx:x=s
   ·subst hx
    simp at hv
    obtain ⟨hl,rfl⟩:=hv
    right
    refine ⟨h3 x (by simp),?_⟩
    rw [h1] at hl
    simp [hl]
   ·simp [hx] at hv;exact h2 s v hv
 refine key slots _ (by simp) (fun s v hv=>?_) (fun s hs=>hs)
 rw [List.getElem?_replicate] at hv
 split at hv
 ·cases hv;exact .inl rfl
 ·cases hv
theorem zoh {tm:List Value} {slots:List Nat} {s:Nat} (hs:s∈slots):(gh tm slots)[s]?=tm[s]?:=by
 unfold gh
 have key:∀(sl:List Nat) (t:List Value),t.length=tm.length→(s∈sl∨t[s]?=tm[s]?)→(sl.foldl (fun t s=>t.set s (tm.getD s junk)) t)[s]?=tm[s]?:=by
  intro sl
  induction sl with
  |nil=>intro t _ h;simpa using h
  |cons x sl ih=>
   intro t hl h
   simp only [List.foldl_cons]
   refine ih _ (by simpa using hl) ?_
   by_cases hx:x=s
   ·subst hx
    right
    rw [List.getElem?_set]
    by_cases hlt:x < tm.length
    ·simp [hl,hlt]
    ·simp [hl,hlt]
   ·rcases h with h | h
    ·rcases List.mem_cons.1 h with h | h
     ·exact absurd h.symm hx
     ·exact .inl h
    ·right
     rw [List.getElem?_set]
     simp [hx,h]
 exact key slots _ (by simp) (.inl hs)
theorem zAT {tm:List Value} {slots:List Nat} {x:Operand} (hs:∀s∈zvW x,s∈slots):opv tm x=opv (gh tm slots) x:=by
 cases x with
 |tmp t=>
  have:=zoh (tm:=tm) (hs t (by simp [zvW]))
  simp only [opv,zdO,this]
 |_=>rfl
theorem zkC {ops:Array Oper} {tm:List Value} {o:Oper}:vh ops tm o=vh ops (gh tm (xw ops o)) o:=by
 unfold vh
 cases hg:o.guard with
 |none=>rfl
 |some p=>
  obtain ⟨j,want⟩:=p
  dsimp only
  cases hd:(ops[j]?).bind (·.dst) with
  |none=>rfl
  |some d=>
   have:(gh tm (xw ops o))[d]?=tm[d]?:=zoh (by simp [xw,hg,hd])
   simp only [Option.bind_some,zdO,this]
def zDC (op:List Value→Hp→Nat→Oper→Option (Value×Hp×Nat)):Prop:=∀(t t':List Value) (H:Hp) (nx:Nat) (o:Oper),(∀x∈o.op.operands,opv t x=opv t' x)→op t H nx o=op t' H nx o
theorem zDC.keep {op:List Value→Hp→Nat→Oper→Option (Value×Hp×Nat)} (h:zDC op) {ops:Array Oper} {tm:List Value} {H:Hp} {nx:Nat} {o:Oper}:op tm H nx o=op (gh tm (xw ops o)) H nx o:=
 h
  _ _ _ _ _ fun x hx=>zAT fun s hs=>by
  simp only [xw,List.mem_append,List.mem_flatMap]
  exact .inl ⟨x,by simpa using hx,hs⟩
def names (H:Hp):List Nat:=H.map (·.1)
def zpY (tm:List Value) (x:Operand):List Nat:=match opv tm x with
 |some (.map (some r))=>[r]
 |_=>[]
def zh6 (tm:List Value) (o:Oper):List Nat:=
 match o.op with
 |.mapUpdate _ m _ _=>zpY tm m
 |.lookup _ x _ _=>zpY tm x
 |.store _ a _=>match opv tm a with
  |some (.pointer (some a))=>[a.block]
  |_=>[]
 |.call {callee:=.builtin .append,args:=args,argTypes:=_}=>match args.toList with
  |s::_=>match opv tm s with
   |some (.slice (some a) _ c)=>if qg≤c then [a.block] else []
   |_=>[]
  |_=>[]
 |.call {callee:=.builtin .copy,args:=args,argTypes:=_}=>match args.toList with
  |s::_=>match opv tm s with
   |some (.slice (some a) _ _)=>[a.block]
   |_=>[]
  |_=>[]
 |_=>[]
def zsb (rs:List (Nat×Nat)) (b:Nat):Bool:=rs.any fun x=>decide (x.1≤b)&&decide (b < x.2)
inductive See where
 |few (bs:List Nat)
 |all (f:Nat→Bool)
def zsc (wr:List Nat) (H:Hp):List Nat→Hp
 |[]=>[]
 |b::bs=>match H.get b with
  |some k=>(b,vi (fun b=>wr.contains b) (fun _=>false) b k)::zsc wr H bs
  |none=>zsc wr H bs
def zvu (wr:List Nat) (H:Hp):See→Hp
 |.few bs=>zsc wr H bs
 |.all f=>Hp.only f (KE (fun b=>wr.contains b) (fun _=>false) H)
def zEN (wr:List Nat) (lo hi:Nat) (H1 H:Hp):Hp:=match wr with
 |[]=>bif Nat.beq lo hi then H else GK (jV (fun b=>([]:List Nat).contains b) lo hi) H1 H
 |wr=>GK (jV (fun b=>wr.contains b) lo hi) H1 H
def zvX (op:List Value→Hp→Nat→Oper→Option (Value×Hp×Nat)) (ops:Array Oper) (cut:Nat→List Value→Hp→List Stp→Option (List Nat×See)):Nat→List Stp→List Oper→List Value→Hp→Nat→Option (List Stp)
 |_,_,[],_,_,_=>some []
 |i,done,o::l,tm,H,nx=>
  match vh ops tm o with
  |some false=>(zvX op ops cut (i+1) (⟨o,false,undef,gh tm (xw ops o),[],fun _=>false,[],nx,nx⟩::done) l (gp tm o.dst undef) H nx).map (⟨o,false,undef,gh tm (xw ops o),[],fun _=>false,[],nx,nx⟩::·)
  |some true=>
   match cut i tm H done with
   |none=>none
   |some (wr,see)=>
    match op tm (zvu wr H see) nx o with
    |some (v,H1,nx1)=>
     if zdV (Hp.only (jV (fun b=>wr.contains b) nx nx1) H1)&&wr.all (fun b=>(Hp.get (zvu wr H see) b).isSome) then
      (zvX op ops cut (i+1) (⟨o,true,v,gh tm (xw ops o),zvu wr H see,fun b=>wr.contains b,H1,nx,nx1⟩::done) l (gp tm o.dst v)
       (zEN wr nx nx1 H1 H) nx1).map (⟨o,true,v,gh tm (xw ops o),zvu wr H see,fun b=>wr.contains b,H1,nx,nx1⟩::·)
     else none
    |none=>none
  |none=>none
def tmR:List Stp→List Value→List Value
 |[],tm=>tm
 |s::ss,tm=>tmR ss (gp tm s.o.dst s.v)
def hpR:List Stp→Hp→Hp
 |[],H=>H
 |s::ss,H=>hpR ss (if s.ran then GK s.touch s.H' H else H)
def nxR:List Stp→Nat→Nat
 |[],nx=>nx
 |s::ss,nx=>nxR ss s.hi
structure zvv (P:Program) (r:Option Nat) (ops:Array Oper) (o:Oper) (tm:List Value) (H:Hp) (nx:Nat) (s:Stp):Prop where
 o_eq:s.o=o
 lo_eq:s.lo=nx
 le:s.lo≤s.hi
 tmo_eq:s.tmo=gh tm (xw ops o)
 want:vh ops s.tmo s.o=some s.ran
 ok:s.ran=true→Kn P r s.o s.tmo s.V s.lo s.v s.H' s.hi∧zdV (Hp.only s.touch s.H')=true
 vw:∀b k,s.V.get b=some k→∃k0,H.get b=some k0∧k=vi s.wr (fun _=>false) b k0
 skip:s.ran=false→s.v=undef∧∀b,s.touch b=false
 wrin:∀b,s.wr b=true→∃k,s.V.get b=some k
def VK (ms:List Nat) (i j:Nat):Bool:=(ms.getD i 0).testBit j||(ms.getD j 0).testBit i
def zoi (ms:List Nat) (ops:Array Oper):Bool:=
 ops.toList.zipIdx.all fun s=>ops.toList.zipIdx.all fun t=>s.2 == t.2||((s.1.dst.isNone||s.1.dst != t.1.dst)&&((xw ops s.1).all fun x=>t.1.dst != some x||VK ms s.2 t.2))
def zh7 (ms:List Nat) (ss:List Stp):Bool:=
 ss.zipIdx.all fun t=>!t.1.ran||(Nat.beq t.1.lo t.1.hi&&t.1.V.all fun x=>!t.1.wr x.1)||ss.zipIdx.all fun s=>s.2 == t.2||VK ms s.2 t.2||s.1.V.all fun x=>!t.1.touch x.1
theorem zdX {α:Type} {p:α×Nat→Bool} {l:List α} (h:l.zipIdx.all p=true) {i:Nat} {x:α} (hx:l[i]?=some x):p (x,i)=true:=by
 refine List.all_eq_true.1 h (x,i) ?_
 rw [List.mem_zipIdx_iff_getElem?]
 exact hx
def yO:Stp:=⟨default,false,undef,[],[],fun _=>false,[],0,0⟩
theorem zCb (ss:List Stp) (s:Stp):∀tm,tmR (ss++[s]) tm=gp (tmR ss tm) s.o.dst s.v:=by
 induction ss with
 |nil=>intro tm;rfl
 |cons x ss ih=>intro tm;exact ih _
theorem zCc (ss:List Stp) (s:Stp):∀H,hpR (ss++[s]) H=if s.ran then GK s.touch s.H' (hpR ss H) else hpR ss H:=by
 induction ss with
 |nil=>intro H;rfl
 |cons x ss ih=>intro H;exact ih _
theorem zvY (ss:List Stp) (s:Stp):∀nx,nxR (ss++[s]) nx=s.hi:=by
 induction ss with
 |nil=>intro nx;rfl
 |cons x ss ih=>intro nx;exact ih _
theorem zh8 {p:Nat×Blk→Bool} {b:Nat} {k:Blk}:∀{H:Hp},H.all p=true→H.get b=some k→p (b,k)=true
 |[],_,h=>by simp [Hp.get_nil] at h
 |(c,x)::r,ha,h=>by
  simp only [List.all_cons,Bool.and_eq_true] at ha
  by_cases hb:c=b
  ·subst hb;simp [Hp.get_cons] at h;subst h;exact ha.1
  ·simp [Hp.get_cons,hb] at h;exact zh8 ha.2 h
theorem zAU {r:Option Nat} {ops:Array Oper}
  {tm:List Value} {H:Hp} {nx:Nat} {ss:List Stp} {ms:List Nat} (hgo:ss.length=ops.toList.length∧∀(j:Nat) o s,ops.toList[j]?=some o→ss[j]?=some s→zvv P r ops o (tmR (ss.take j) tm) (hpR (ss.take j) H) (nxR (ss.take j) nx) s)
  (hm:Uz ms 0 ops.toList=true) (hsl:zoi ms ops=true) (hvw:zh7 ms ss=true) :
  zhb P r ops tm H nx (nxR ss nx) (fun i=>ss.getD i yO) (fun i j=>(ms.getD i 0).testBit j)∧
   (∀b,Je (fun i=>ss.getD i yO) H (fun k=>decide (k < ops.size)) ops.size b=(hpR ss H).get b)∧tmS (fun i=>ss.getD i yO) tm (fun k=>decide (k < ops.size)) ops.size=tmR ss tm:=by
 obtain ⟨hlen,hst⟩:=hgo
 simp only [Array.length_toList] at hlen
 have hss:∀i,i < ops.size→ss[i]?=some (ss.getD i yO):=fun i hi=>by
  have:i < ss.length:=by omega
  simp [this]
 have hso:∀i,i < ops.size→ops.toList[i]?=some ops[i]!:=fun i hi=>by simp [hi]
 have hok:∀i (hi:i < ops.size),zvv P r ops ops[i]! (tmR (ss.take i) tm) (hpR (ss.take i) H) (nxR (ss.take i) nx) (ss.getD i yO):=fun i hi=>hst i _ _ (hso i hi) (hss i hi)
 have htake:∀i,i < ops.size→ss.take (i+1)=ss.take i++[ss.getD i yO]:=fun i hi=>by
  have:i < ss.length:=by omega
  rw [List.take_succ_eq_append_getElem this]
  simp [this]
 have ht:∀i,i≤ops.size→∀m,i≤m→m≤ops.size→tmS (fun i=>ss.getD i yO) tm (fun k=>decide (k < i)) m=tmR (ss.take i) tm:=by
  intro i hi m
  induction m generalizing i with
  |zero=>
       intro h1 _;have:i=0:=by omega
       subst this;rfl
  |succ m ih=>
   intro h1 h2
   simp only [tmS]
   by_cases hmi:m < i
   ·have:i=m+1:=by omega
    subst this
    simp only [Nat.lt_succ_self,decide_true,if_true]
    have e1:tmS (fun i=>ss.getD i yO) tm (fun k=>decide (k < m+1)) m=tmS (fun i=>ss.getD i yO) tm (fun k=>decide (k < m)) m:=by
     apply List.ext_getElem?
     intro s
     exact zfP fun k hk _=>by simp [hk];omega
    rw [e1,ih m (by omega) (Nat.le_refl _) (by omega),htake m (by omega),zCb]
   ·simp only [hmi,decide_false,Bool.false_eq_true,if_false]
    exact ih i hi (by omega) (by omega)
 have hh:∀i,i≤ops.size→∀m,i≤m→m≤ops.size→∀b,Je (fun i=>ss.getD i yO) H (fun k=>decide (k < i)) m b=(hpR (ss.take i) H).get b:=by
  intro i hi m
  induction m generalizing i with
  |zero=>
       intro h1 _ b;have:i=0:=by omega
       subst this;rfl
  |succ m ih=>
   intro h1 h2 b
   simp only [Je]
   by_cases hmi:m < i
   ·have:i=m+1:=by omega
    subst this
    simp only [Nat.lt_succ_self,decide_true,Bool.true_and]
    have e1:Je (fun i=>ss.getD i yO) H (fun k=>decide (k < m+1)) m b=Je (fun i=>ss.getD i yO) H (fun k=>decide (k < m)) m b:=zdW fun k hk _=>by simp [hk];omega
    rw [e1,ih m (by omega) (Nat.le_refl _) (by omega),htake m (by omega),zCc]
    have hk:=hok m (by omega)
    cases hr:(ss.getD m yO).ran with
    |true=>simp only [if_true];rw [zcn]
    |false=>rw [(hk.skip hr).2 b];simp
   ·simp only [hmi,decide_false,Bool.false_and,Bool.false_eq_true,if_false]
    exact ih i hi (by omega) (by omega) b
 have hnx:∀i,i≤ops.size→∀j,j < i→(ss.getD j yO).hi≤nxR (ss.take i) nx:=by
  intro i
  induction i with
  |zero=>intro _ j hj;omega
  |succ i ih=>
   intro hi j hj
   rw [htake i (by omega),zvY]
   have hk:=hok i (by omega)
   by_cases hji:j=i
   ·subst hji;exact Nat.le_refl _
   ·have:=ih (by omega) j (by omega)
    rw [←hk.lo_eq] at this
    exact Nat.le_trans this hk.le
 have hnx0:∀i,i≤ops.size→nx≤nxR (ss.take i) nx:=by
  intro i
  induction i with
  |zero=>intro _;exact Nat.le_refl _
  |succ i ih=>
   intro hi
   rw [htake i (by omega),zvY]
   have hk:=hok i (by omega)
   have:=ih (by omega)
   rw [←hk.lo_eq] at this
   exact Nat.le_trans this hk.le
 have hall:ss.take ops.size=ss:=List.take_of_length_le (by omega)
 have hmf:∀i,i < ops.size→ms.getD i 0=YF ms (ss.getD i yO).o.after.toList∧(∀e∈(ss.getD i yO).o.after.toList,Region.binds .any e=true→e.on < i)∧ms.getD i 0 < 2 ^ i:=fun i hi=>by
  have:=znG hm (hso i hi)
  rw [←(hok i hi).o_eq] at this
  simpa using this
 have slt:∀i k,i < ops.size→k < ops.size→i≠k→((ss.getD i yO).o.dst.isNone||(ss.getD i yO).o.dst != (ss.getD k yO).o.dst)=true∧((xw ops (ss.getD i yO).o).all fun x=>(ss.getD k yO).o.dst != some x||VK ms i k)=true:=by
  intro i k hi hk hne
  have h1:=zdX (zdX hsl (hso i hi)) (hso k hk)
  rw [←(hok i hi).o_eq,←(hok k hk).o_eq] at h1
  have hb:(i == k)=false:=by simp [hne]
  simpa [hb] using h1
 refine ⟨⟨fun i hi=>?_,fun i hi=>(hok i hi).le,fun i j hij hj=>?_,fun i hi=>⟨by rw [(hok i hi).lo_eq];exact hnx0 i (by omega),by have:=hnx ops.size (Nat.le_refl _) i hi;rwa [hall] at this⟩,by have:=hnx0 ops.size (Nat.le_refl _);rwa [hall] at this,
  fun i hi e he hb=>?_,fun i hi j hj=>?_,fun i j hi hj=>?_,fun i hi=>?_,fun i hi s v hv=>?_,fun i j s hi hj hne hd=>?_,fun i hi=>(hok i hi).want,fun i hi=>(hok i hi).ok,fun i hi b k hb=>?_,fun i hi=>(hok i hi).skip,
  fun i j hi hj hne h1 h2 b k hb=>?_,fun i hi=>(hok i hi).wrin⟩,fun b=>?_,?_⟩
 ·rw [(hok i hi).o_eq];simp [hi]
 ·rw [(hok j hj).lo_eq];exact hnx j (by omega) i hij
 ·refine ⟨?_,(hmf i hi).2.1 e (by simpa using he) hb⟩
  try dsimp only
  rw [(hmf i hi).1,zeq]
  exact ⟨e,by simpa using he,hb,.inl rfl⟩
 ·try dsimp only at hj
  rw [(hmf i hi).1,zeq] at hj
  obtain ⟨e,he,hb,hor⟩:=hj
  exact ⟨e,by simpa using he,hb,hor⟩
 ·have hlt:=(hmf i hi).2.2
  try dsimp only at hj
  rcases Nat.lt_or_ge j i with h | h
  ·exact h
  ·rw [Nat.testBit_lt_two_pow (Nat.lt_of_lt_of_le hlt (Nat.pow_le_pow_right (by omega) h))] at hj
   cases hj
 ·try dsimp only
  rw [(hok i hi).tmo_eq,zfQ.1,←ht i (by omega) i (Nat.le_refl _) (by omega),gP]
 ·try dsimp only at hv ⊢
  rw [(hok i hi).tmo_eq] at hv
  rcases zfQ.2 s v hv with h0 | ⟨h1,h2⟩
  ·exact .inl h0
  ·refine .inr ⟨by rw [ht i (by omega) _ (by omega) (Nat.le_refl _)];exact h2,fun k hk hne hd=>?_⟩
   have:=(slt i k hi hk (fun e=>hne e.symm)).2
   rw [(hok i hi).o_eq] at this
   have:=List.all_eq_true.1 this s h1
   rw [hd] at this
   simpa [VK] using this
 ·have:=(slt i j hi hj hne).1
  rw [hd] at this
  try dsimp only at this hd ⊢
  simp at this
  exact fun e=>this e.symm
 ·try dsimp only at hb ⊢
  obtain ⟨k0,h0,h1⟩:=(hok i hi).vw b k hb
  exact ⟨k0,by rw [hh i (by omega) _ (by omega) (Nat.le_refl _)];exact h0,h1⟩
 ·try dsimp only at hb ⊢
  cases hr:(ss.getD j yO).ran with
  |false=>exact ((hok j hj).skip hr).2 b
  |true=>
   have hv:=zdX hvw (hss j hj)
   simp only [hr,Bool.not_true,Bool.false_or,Bool.or_eq_true] at hv
   rcases hv with hv | hv
   ·simp only [Bool.and_eq_true] at hv
    have hlh:=Nat.eq_of_beq_eq_true hv.1
    cases hw:(ss.getD j yO).wr b with
    |true=>
     obtain ⟨k',hk'⟩:=(hok j hj).wrin b hw
     have:=zh8 hv.2 hk'
     dsimp only at this
     rw [hw] at this
     cases this
    |false=>
     simp only [Stp.touch,jV,hw,Bool.false_or,hlh]
     simp only [Bool.and_eq_false_iff,decide_eq_false_iff_not]
     omega
   have hv:=zdX hv (hss i hi)
   have hb1:(i == j)=false:=by simp [hne]
   have hb2:VK ms i j=false:=by simp only [VK,Bool.or_eq_false_iff];exact ⟨h1,h2⟩
   simp only [hb1,hb2,Bool.false_or] at hv
   have:=zh8 hv hb
   simpa using this
 ·rw [hh ops.size (Nat.le_refl _) _ (Nat.le_refl _) (Nat.le_refl _),hall]
 ·rw [ht ops.size (Nat.le_refl _) _ (Nat.le_refl _) (Nat.le_refl _),hall]
def zsd (tm:List Value) (x:Operand):List Nat:=
 match opv tm x with
 |some (.pointer (some a))=>[a.block]
 |some (.slice (some a) _ _)=>[a.block]
 |_=>[]
def zCd (tm:List Value) (o:Oper):Option (List Nat):=
 match o.op with
 |.load _ a=>some (zsd tm a)
 |.store _ a _=>some (zsd tm a)
 |.call {callee:=.builtin _,args:=args,argTypes:=_}=>some (args.toList.flatMap (zsd tm))
 |.call _=>none
 |.mapUpdate _ m _ _=>some (zpY tm m)
 |.lookup _ x _ _=>some (zpY tm x)
 |_=>some []
def zFq (ops:Array Oper) (ms:List Nat) (est:List (List Nat)) (i:Nat) (tm:List Value) (H:Hp) (done:List Stp):Option (List Nat×See):=
 match ops[i]? with
 |none=>none
 |some o=>
  match zCd tm o with
  |some bs=>some ((zh6 tm o).filter fun b=>match H.get b with | some k=>k.rw | none=>false,.few bs)
  |none=>
   match (List.range ops.size).filter fun j=>j != i&&!VK ms i j with
   |[]=>some (names (H.filter fun x=>x.2.rw),.all fun _=>true)
   |others=>
    match others.flatMap (fun j=>est.getD j []++(match ops[j]? with | some p=>zh6 tm p | none=>[])),others.filterMap fun j=>if j < i then (match (done.reverse)[j]? with | some s=>if s.lo < s.hi then some (s.lo,s.hi) else none | none=>none) else none with
    |mask,rs=>some ([],.all fun b=>!(mask.contains b||zsb rs b))
def zvw (P:Program) (ops:Array Oper) (H:Hp):List Oper→List Value→List (List Nat)
 |[],_=>[]
 |o::l,tm=>
  match o.op with
  |.store ..=>zh6 tm o::zvw P ops H l tm
  |.load .. | .fieldAddr .. | .indexAddr .. | .move _ | .assign _ | .slice ..=>
   []::zvw P ops H l (gp tm o.dst (match vh ops tm o with
    |some true=>match jT P tm H 0 o with
     |some (v,_,_)=>v
     |none=>junk
    |_=>junk))
  |_=>zh6 tm o::zvw P ops H l (gp tm o.dst junk)
def zvZ (o:Oper):Bool:=match o.op with
 |.store ..=>true
 |.mapUpdate ..=>true
 |.call {callee:=.builtin .append,args:=_,argTypes:=_}=>true
 |.call {callee:=.builtin .copy,args:=_,argTypes:=_}=>true
 |_=>false
def zkD (l:List Nat) (i:Nat):Nat:=List.rec (motive:=fun _=>Nat→Nat) (fun _=>0) (fun x _ ih i=>Nat.rec (motive:=fun _=>Nat) x (fun m _=>ih m) i) l i
theorem zbn:∀(l:List Nat) (i:Nat),zkD l i=l.getD i 0
 |[],_=>by simp [zkD]
 |x::l,0=>rfl
 |x::l,i+1=>by
  show zkD l i=_
  rw [zbn l i];simp
def zfR (ms:List Nat):List Edge→Nat
 |[]=>0
 |e::es=>Nat.lor (bif Region.binds .any e then Nat.lor (Nat.shiftLeft 1 e.on) (zkD ms e.on) else 0) (zfR ms es)
theorem zkE (ms:List Nat):∀es:List Edge,zfR ms es=YF ms es
 |[]=>rfl
 |e::es=>by
  simp only [zfR,YF,zkE ms es,zbn]
  cases Region.binds .any e<;>rfl
def ztN (rs:List Nat) (i:Nat):List Edge→Nat
 |[]=>0
 |e::es=>Nat.lor (bif Region.binds .any e then Nat.lor (Nat.shiftLeft 1 e.on) (zkD rs (i - 1 - e.on)) else 0) (ztN rs i es)
def zkF:List Oper→Nat→List Nat→List Nat
 |[],_,rs=>rs.reverse
 |o::os,i,rs=>zkF os (i+1) (ztN rs i o.after.toList::rs)
def zfS (i:Nat):List Edge→Bool
 |[]=>true
 |e::es=>(!Region.binds .any e||Nat.blt e.on i)&&zfS i es
theorem zco {a b:Nat} (h:Nat.blt a b=true):a < b:=by
 unfold Nat.blt at h
 rw [Nat.ble_eq] at h;exact h
theorem zkG {i:Nat}:∀{es:List Edge},zfS i es=true→es.all (fun e=>!Region.binds .any e||decide (e.on < i))=true
 |[],_=>rfl
 |e::es,h=>by
  simp only [zfS,Bool.and_eq_true,Bool.or_eq_true] at h
  simp only [List.all_cons,zkG h.2,Bool.and_true,Bool.or_eq_true,decide_eq_true_eq]
  rcases h.1 with h | h
  ·exact .inl h
  ·exact .inr (zco h)
def zfT (ms:List Nat):Nat→List Oper→Bool
 |_,[]=>true
 |i,o::os=>(match zkD ms i with | m=>Nat.beq m (zfR ms o.after.toList)&&Nat.blt m (Nat.pow 2 i))&&zfS i o.after.toList&&zfT ms (i+1) os
theorem zkH {ms:List Nat}:∀{l:List Oper} {i:Nat},zfT ms i l=true→Uz ms i l=true
 |[],_,_=>rfl
 |o::os,i,h=>by
  simp only [zfT,Bool.and_eq_true,zkE,zbn] at h
  obtain ⟨⟨⟨h1,h2⟩,h3⟩,h4⟩:=h
  have h1:=Nat.eq_of_beq_eq_true h1
  simp only [Uz,zkH h4,zkG h3,Bool.and_true,Bool.and_eq_true,beq_iff_eq,decide_eq_true_eq]
  exact ⟨h1,zco h2⟩
def zoj:Nat→List Oper→List (Nat×Nat)
 |_,[]=>[]
 |i,o::os=>match o.dst with
  |some d=>(d,i)::zoj (i+1) os
  |none=>zoj (i+1) os
theorem zok {d:Nat} {p:Oper}:∀{l:List Oper} {i j:Nat},l[j]?=some p→p.dst=some d→(d,i+j)∈zoj i l
 |[],_,_,h,_=>by simp at h
 |o::os,i,0,h,hd=>by
  simp at h
  subst h
  simp only [zoj,hd]
  simp
 |o::os,i,j+1,h,hd=>by
  have ih:=zok (l:=os) (i:=i+1) (j:=j) (by simpa using h) hd
  rw [show i+1+j=i+(j+1) by omega] at ih
  simp only [zoj]
  split
  ·exact List.mem_cons_of_mem _ ih
  ·exact ih
def zkI (ms:List Nat) (i j:Nat):Bool:=Nat.testBit (zkD ms i) j||Nat.testBit (zkD ms j) i
def zvx (ms:List Nat) (i x:Nat) (dl:List (Nat×Nat)):Bool:=List.rec (motive:=fun _=>Bool) true (fun p _ ih=>(bif Nat.beq p.1 x then Nat.beq p.2 i||zkI ms i p.2 else true)&&ih) dl
theorem ztO {ms:List Nat} {i x d j:Nat}:∀{dl:List (Nat×Nat)},zvx ms i x dl=true→(d,j)∈dl→d=x→j≠i→zkI ms i j=true
 |[],_,h,_,_=>by cases h
 |p::dl,h,hm,hd,hj=>by
  have h:((bif Nat.beq p.1 x then Nat.beq p.2 i||zkI ms i p.2 else true)&&zvx ms i x dl)=true:=h
  simp only [Bool.and_eq_true] at h
  rcases List.mem_cons.1 hm with he | hm
  ·subst he
   have hb:Nat.beq d x=true:=by rw [hd];exact Nat.beq_refl x
   have h1:=h.1
   rw [hb] at h1
   simp only [cond_true,Bool.or_eq_true] at h1
   rcases h1 with h1 | h1
   ·exact absurd (Nat.eq_of_beq_eq_true h1) hj
   ·exact h1
  ·exact ztO h.2 hm hd hj
def zzA (i x:Nat) (dl:List (Nat×Nat)):Bool:=List.rec (motive:=fun _=>Bool) true (fun p _ ih=>(bif Nat.beq p.1 x then Nat.beq p.2 i else true)&&ih) dl
theorem zv0 {i x d j:Nat}:∀{dl:List (Nat×Nat)},zzA i x dl=true→(d,j)∈dl→d=x→j=i
 |[],_,h,_=>by cases h
 |p::dl,h,hm,hd=>by
  have h:((bif Nat.beq p.1 x then Nat.beq p.2 i else true)&&zzA i x dl)=true:=h
  simp only [Bool.and_eq_true] at h
  rcases List.mem_cons.1 hm with he | hm
  ·subst he
   have hb:Nat.beq d x=true:=by rw [hd];exact Nat.beq_refl x
   have h1:=h.1
   rw [hb] at h1
   exact Nat.eq_of_beq_eq_true h1
  ·exact zv0 h.2 hm hd
def zzB (f:Nat→Bool):List Nat→Bool
 |[]=>true
 |x::r=>f x&&zzB f r
theorem zv1 {f:Nat→Bool}:∀{l:List Nat} {x:Nat},zzB f l=true→x∈l→f x=true
 |[],_,_,h=>by cases h
 |y::l,x,h,hx=>by
  simp only [zzB,Bool.and_eq_true] at h
  rcases List.mem_cons.1 hx with rfl | hx
  ·exact h.1
  ·exact zv1 h.2 hx
def zhc (ms:List Nat) (ops:Array Oper) (dl:List (Nat×Nat)):Nat→List Oper→Bool
 |_,[]=>true
 |i,o::os=>(match o.dst with
  |some d=>zzA i d dl
  |none=>true)&&zzB (fun x=>zvx ms i x dl) (xw ops o)&&zhc ms ops dl (i+1) os
theorem ztP {ms:List Nat} {ops:Array Oper} {dl:List (Nat×Nat)}:∀{l:List Oper} {i j:Nat} {o:Oper},zhc ms ops dl i l=true→l[j]?=some o→
  (∀d,o.dst=some d→zzA (i+j) d dl=true)∧∀x∈xw ops o,zvx ms (i+j) x dl=true
 |[],_,_,_,_,h=>by simp at h
 |p::os,i,0,o,h,ho=>by
  simp at ho
  subst ho
  simp only [zhc,Bool.and_eq_true] at h
  refine ⟨fun d hd=>?_,fun x hx=>zv1 h.1.2 hx⟩
  have h1:=h.1.1
  rw [hd] at h1
  exact h1
 |p::os,i,j+1,o,h,ho=>by
  simp only [zhc,Bool.and_eq_true] at h
  have:=ztP (j:=j) h.2 (by simpa using ho)
  rwa [show i+1+j=i+(j+1) by omega] at this
theorem zAV {ms:List Nat} {ops:Array Oper} (h:zhc ms ops (zoj 0 ops.toList) 0 ops.toList=true):zoi ms ops=true:=by
 unfold zoi
 rw [List.all_eq_true]
 rintro ⟨o,i⟩ hs
 rw [List.all_eq_true]
 rintro ⟨p,j⟩ ht
 rw [List.mem_zipIdx_iff_getElem?] at hs ht
 dsimp only at hs ht ⊢
 by_cases hij:i=j
 ·subst hij;simp
 ·obtain ⟨h1,h2⟩:=ztP h hs
  rw [Nat.zero_add] at h1 h2
  have e0:(i == j)=false:=by simpa using hij
  rw [e0,Bool.false_or,Bool.and_eq_true]
  constructor
  ·cases hd:o.dst with
   |none=>rfl
   |some d=>
    simp only [Option.isNone_some,Bool.false_or,bne_iff_ne,ne_eq]
    intro he
    have hm:=zok (i:=0) ht he.symm
    rw [Nat.zero_add] at hm
    exact hij (zv0 (h1 d hd) hm rfl).symm
  ·rw [List.all_eq_true]
   intro x hx
   by_cases hpx:p.dst=some x
   ·have hm:=zok (i:=0) ht hpx
    rw [Nat.zero_add] at hm
    have:=ztO (h2 x hx) hm rfl (fun e=>hij e.symm)
    unfold zkI at this
    rw [zbn,zbn] at this
    simp only [Bool.or_eq_true,bne_iff_ne]
    right
    simpa [VK] using this
   ·simp only [Bool.or_eq_true,bne_iff_ne]
    exact .inl hpx
def zse (ms:List Nat) (ops:Array Oper):Bool:=zfT ms 0 ops.toList&&zhc ms ops (zoj 0 ops.toList) 0 ops.toList
def hpF:List Stp→Hp→Hp
 |[],H=>H
 |s::ss,H=>hpF ss (if s.ran then (bif Nat.beq s.lo s.hi&&s.V.all (fun x=>!s.wr x.1) then H else GK s.touch s.H' H) else H)
def zCe (P:Program) (op:List Value→Hp→Nat→Oper→Option (Value×Hp×Nat)) (ops:Array Oper) (tm:List Value) (H:Hp) (nx:Nat):Option (List Value×Hp×Nat):=
 match zkF ops.toList 0 [] with
 |ms=>match (if ops.toList.any zvZ then zvw P ops H ops.toList tm else []) with
  |est=>match zvX op ops (zFq ops ms est) 0 [] ops.toList tm H nx with
   |some ss=>if zse ms ops&&zh7 ms ss&&P.follows .mixedOrders then some (tmR ss tm,hpF ss H,nxR ss nx) else none
   |none=>none
def zEO (s:Nat) (cs:List Value):Value:=bif Nat.beq s 1 then (match cs with | v::_=>v | []=>junk) else .agg (cs.take s).toArray
def zEP (s:Nat) (cs:List Value):Bool:=bif Nat.beq s 1 then (match cs with | v::_=>v.oneCell' | []=>false) else Nat.ble s cs.length
def zDD (s:Nat):Nat→List Value→List Value
 |0,_=>[]
 |n+1,cs=>zEO s cs::zDD s n (cs.drop s)
def zyG (s:Nat):Nat→List Value→Bool
 |0,_=>true
 |n+1,cs=>zEP s cs&&zyG s n (cs.drop s)
def frV (b s:Nat) (cs:List Value):Nat→Value→Value
 |_,.slice (some ⟨c,o,none⟩) n cap=>bif Nat.beq c b&&(Nat.blt 0 s&&(Nat.ble n cap&&zyG s n (cs.drop o))) then .iface s (.tuple (zDD s n (cs.drop o)).toArray) else .slice (some ⟨c,o,none⟩) n cap
 |m+1,.agg a=>.agg (a.toList.map (frV b s cs m)).toArray
 |m+1,.tuple a=>.tuple (a.toList.map (frV b s cs m)).toArray
 |m+1,.func f a c=>.func f (a.toList.map (frV b s cs m)).toArray (c.toList.map (frV b s cs m)).toArray
 |_,v=>v
def frB (b s:Nat) (cs:List Value):Blk→Blk
 |.cells ds ro=>.cells (ds.map (frV b s cs 16)) ro
 |k=>k
def frH (q:Nat→Blk→Bool) (b s:Nat) (cs:List Value):Hp→Hp
 |[]=>[]
 |(c,k)::r=>(c,bif q c k then frB b s cs k else k)::frH q b s cs r
def zFB (q:Nat→Blk→Bool) (b s:Nat) (v:Value) (H:Hp):Value×Hp:=match H.get b with
 |some (.cells cs false)=>(frV b s cs 16 v,frH q b s cs (H.del b))
 |_=>(v,H)
def zCf (q:Nat→Blk→Bool):List (Nat×Nat)→Value→Hp→Value×Hp
 |[],v,H=>(v,H)
 |(b,s)::r,v,H=>match zFB q b s v H with
  |(v1,H1)=>zCf q r v1 H1
def zFC (len o c:Nat):Nat:=bif Nat.ble qg c then c - qg else bif Nat.beq c 0 then 1 else (len - o) / c
def xK (H:Hp) (lo:Nat):Nat→List Value→List Nat×List (Nat×Nat)→List Nat×List (Nat×Nat)
 |0,_,a=>a
 |_+1,[],a=>a
 |n+1,v::vs,a=>match v with
  |.slice (some ⟨b,o,none⟩) _ c=>bif Nat.blt b lo||a.1.any (Nat.beq b) then xK H lo n vs a else match H.get b with
   |some (.cells cs false)=>match xK H lo n cs (b::a.1,a.2) with
    |(s1,p1)=>xK H lo n vs (s1,p1++[(b,zFC cs.length o c)])
   |_=>xK H lo n vs a
  |.pointer (some ⟨b,_,none⟩)=>bif Nat.blt b lo||a.1.any (Nat.beq b) then xK H lo n vs a else match H.get b with
   |some (.cells cs false)=>match xK H lo n cs (b::a.1,a.2) with
    |a1=>xK H lo n vs a1
   |_=>xK H lo n vs a
  |.agg c=>match xK H lo n c.toList a with
   |a1=>xK H lo n vs a1
  |.tuple c=>match xK H lo n c.toList a with
   |a1=>xK H lo n vs a1
  |.func _ x y=>match xK H lo n (x.toList++y.toList) a with
   |a1=>xK H lo n vs a1
  |_=>xK H lo n vs a
def zh9 (lo:Nat):Hp→List Value
 |[]=>[]
 |(b,k)::r=>bif Nat.blt b lo then (match k with | .cells cs false=>cs++zh9 lo r | _=>zh9 lo r) else zh9 lo r
def zv2 (lo:Nat):Hp→Bool
 |[]=>false
 |(b,_)::r=>Nat.ble lo b||zv2 lo r
def zEQ (mode lo:Nat) (v:Value) (H:Hp):Value×Hp:=match mode with
 |0=>bif zv2 lo H then zCf (fun c _=>Nat.ble lo c) (xK H lo 100000 [v] ([],[])).2 v H else (v,H)
 |1=>bif zv2 lo H then zCf (fun c k=>match k with | .cells _ _=>true | _=>false) (xK H lo 100000 (v::zh9 lo H) ([],[])).2 v H else (v,H)
 |_=>(v,H)
def zER (E:Ev) (l:Nat) (vs:List Value) (H:Hp) (nx:Nat):Option (Value×Hp×Nat):=
 match H.get l with
 |some (.loop L)=>
  if vs.length=L.params.size then
   match E.code (some l) L.assign (kR L.params.toList vs L.tmps.toList) [] H nx with
   |some R1=>match R1.e,R1.ds,R1.H.get l with
    |.normal,[],some (.loop L1)=>match L1.state with
     |.ready=>match E.code (some l) L.body R1.tm [] (R1.H.set l (.loop {L1 with state:=.busy})) R1.nx with
      |some R2=>match R2.H.get l,zh3 R2.e with
       |some (.loop L2),some (b,s,p)=>some (.bool b,R2.H.set l (.loop {L2 with state:=s,pending:=p}),R2.nx)
       |_,_=>none
      |none=>none
     |_=>none
    |_,_,_=>none
   |none=>none
  else none
 |_=>none
def zAW (P:Program) (E:Ev) (tm:List Value) (H:Hp) (nx:Nat) (o:Oper):Option (Value×Hp×Nat):=
 match o.op with
 |.call {callee:=.value cf,args:=args,argTypes:=_}=>match opv tm cf,GF tm args.toList with
  |some (.func (.func f) fs cs),some vs=>E.call f (fs.toList++vs++cs.toList) H nx
  |some (.func (.yield l) ⟨[]⟩ ⟨[]⟩),some vs=>zER E l vs H nx
  |_,_=>none
 |_=>jT P tm H nx o
def zol (P:Program) (E:Ev) (ops:Array Oper):List Oper→List Value→Hp→Nat→Option (List Value×Hp×Nat)
 |[],tm,H,nx=>some (tm,H,nx)
 |o::l,tm,H,nx=>match vh ops tm o with
  |some true=>match zAW P E tm H nx o with
   |some (v,H1,nx1)=>zol P E ops l (gp tm o.dst v) H1 nx1
   |none=>none
  |some false=>zol P E ops l (gp tm o.dst undef) H nx
  |none=>none
def zAX (E:Ev) (r:Option Nat) (g:Operand) (ps:Array Tmp) (assign body:Code) (tm:List Value) (ds:List Nat) (H:Hp) (nx:Nat):Option Res:=
 match opv tm g with
 |some (.func (.func f) fs cs)=>
  match r with
  |none=>
   match E.call f (fs.toList++[.func (.yield (nx+1)) #[] #[]]++cs.toList) ((nx+1,.loop (Xw tm ps assign body nx))::(nx,.defd)::H) (nx+2) with
   |some (_,H1,nx1)=>match H1.get (nx+1) with
    |some (.loop L)=>gS L tm (nx::ds) (H1.del (nx+1)) nx1
    |_=>none
   |none=>none
  |some l0=>match H.get l0 with
   |some (.loop L0)=>
    match E.call f (fs.toList++[.func (.yield nx) #[] #[]]++cs.toList) ((nx,.loop (Xw tm ps assign body L0.defers))::H) (nx+1) with
    |some (_,H1,nx1)=>match H1.get nx with
     |some (.loop L)=>gS L tm ds (H1.del nx) nx1
     |_=>none
    |none=>none
   |_=>none
 |_=>none
def Qk (P:Program) (E:Ev) (r:Option Nat):Code→List Value→List Nat→Hp→Nat→Option Res
 |.skip,tm,ds,H,nx=>some ⟨.normal,tm,ds,H,nx⟩
 |.label _,tm,ds,H,nx=>some ⟨.normal,tm,ds,H,nx⟩
 |.exit i,tm,ds,H,nx=>some ⟨.exit i,tm,ds,H,nx⟩
 |.goto i,tm,ds,H,nx=>some ⟨.goto i,tm,ds,H,nx⟩
 |.ret,tm,ds,H,nx=>some ⟨.ret,tm,ds,H,nx⟩
 |.seq x y,tm,ds,H,nx=>match Qk P E r x tm ds H nx with
  |some R=>match R.e with
   |.normal=>Qk P E r y R.tm R.ds R.H R.nx
   |_=>some R
  |none=>none
 |.cond c x y,tm,ds,H,nx=>match opv tm c with
  |some (.bool true)=>Qk P E r x tm ds H nx
  |some (.bool false)=>Qk P E r y tm ds H nx
  |_=>none
 |.block i c,tm,ds,H,nx=>(Qk P E r c tm ds H nx).map (Res.inBlock i)
 |.loop c,tm,ds,H,nx=>match Qk P E r c tm ds H nx with
  |some R=>match R.e with
   |.normal=>E.loop r c R.tm R.ds R.H R.nx
   |_=>some R
  |none=>none
 |.region _ ops false,tm,ds,H,nx=>match zol P E ops ops.toList tm H nx with
  |some (tm',H',nx')=>some ⟨.normal,tm',ds,H',nx'⟩
  |none=>none
 |.region _ ops true,tm,ds,H,nx=>match zCe P (zAW P E) ops tm H nx with
  |some (tm',H',nx')=>some ⟨.normal,tm',ds,H',nx'⟩
  |none=>none
 |.rangeFunc g ps assign body,tm,ds,H,nx=>zAX E r g ps assign body tm ds H nx
 |.scope c,tm,ds,H,nx=>match r with
  |some _=>none
  |none=>match Qk P E none c tm ds H nx with
   |some R=>match R.e with
    |.goto l=>match findLabel c l with
     |some rest=>E.scp c rest R.tm R.ds R.H R.nx
     |none=>none
    |_=>some R
   |none=>none
 |_,_,_,_,_=>none
def zgv:Nat→Value→List Nat
 |0,_=>[]
 |_,.pointer (some a)=>[a.block]
 |_,.slice (some a) _ _=>[a.block]
 |_,.map (some r)=>[r]
 |n+1,.func (.yield l) a b=>l::(a.toList.flatMap (zgv n)++b.toList.flatMap (zgv n))
 |n+1,.func _ a b=>a.toList.flatMap (zgv n)++b.toList.flatMap (zgv n)
 |n+1,.agg cs=>cs.toList.flatMap (zgv n)
 |n+1,.tuple cs=>cs.toList.flatMap (zgv n)
 |_,_=>[]
def zDE:Blk→List Nat
 |.cells cs _=>cs.flatMap (zgv 4)
 |.loop l=>l.defers::l.tmps.toList.flatMap (zgv 4)
 |.mp es _=>es.flatMap fun e=>zgv 4 e.2.1
 |.iter m _=>[m]
 |_=>[]
def zvy (lo:Nat) (H:Hp):Nat→List Nat→List Nat→List Nat
 |0,done,todo=>done++todo
 |_+1,done,[]=>done
 |n+1,done,b::todo=>if done.contains b then zvy lo H n done todo else match H.get b with
  |some k=>zvy lo H n (b::done) (((zDE k).filter fun x=>decide (lo≤x))++todo)
  |none=>zvy lo H n (b::done) todo
def zsf (lo:Nat):Hp→List Nat
 |[]=>[]
 |(b,k)::r=>if b < lo then ((zDE k).filter fun x=>decide (lo≤x))++zsf lo r else zsf lo r
def zAY (lo:Nat):Hp→Bool
 |[]=>false
 |(b,_)::r=>decide (lo≤b)||zAY lo r
def gc (lo:Nat) (v:Value) (H:Hp):Hp:=
 if zAY lo H then
  match ((zgv 4 v).filter fun x=>decide (lo≤x))++zsf lo H with
  |[]=>Hp.only (fun b=>decide (b < lo)) H
  |rs=>match zvy lo H 1000 [] rs with
   |ks=>Hp.only (fun b=>decide (b < lo)||ks.contains b) H
 else H
theorem zzC {f:FuncId} {args:List Value} {nx:Nat} {v:Value} {H' H2:Hp} {nx':Nat} (h:Qj P f args H nx v H' nx') (hs:∀b k,H2.get b=some k→H'.get b=some k):Qj P f args H nx v H2 nx':=by
 refine ⟨h.1,fun φ w K us g hf hl=>Calls.mono (h.2 φ w K us g hf hl) ?_⟩
 rintro e w' ⟨v',φ',rfl,x1,x2,x3,x4⟩
 exact ⟨v',φ',rfl,x1,x2,x3.sub hs,x4⟩
def zCg (P:Program) (cfg:FuncId→Nat) (E:Ev) (f:FuncId) (args:List Value) (H:Hp) (nx:Nat):Option (Value×Hp×Nat):=
 match P.funcs[f]? with
 |some fn=>match fn.body with
  |some c=>match Qk P E none c (args++List.replicate (fn.ntmps - args.length) undef) [] H nx with
   |some R=>match (match R.e with | .normal=>true | .ret=>true | _=>false) with
    |true=>match zcm R.ds R.H with
     |some H1=>match zcK P H1 R.tm fn.results.toList with
      |some vs=>match zEQ (cfg f) nx (WG vs) H1 with
       |(v2,H2)=>some (v2,gc nx v2 H2,R.nx)
      |none=>none
     |none=>none
    |false=>none
   |none=>none
  |none=>none
 |none=>none
def zES (P:Program) (cfg:FuncId→Nat) (E:Ev):Ev where
 call:=zCg P cfg E
 code:=Qk P E
 loop:=fun r c tm ds H nx=>match Qk P E r c tm ds H nx with
  |some R=>match R.e with
   |.normal=>E.loop r c R.tm R.ds R.H R.nx
   |_=>some R
  |none=>none
 scp:=fun c x tm ds H nx=>match Qk P E none x tm ds H nx with
  |some R=>match R.e with
   |.goto l=>match findLabel c l with
    |some rest=>E.scp c rest R.tm R.ds R.H R.nx
    |none=>none
   |_=>some R
  |none=>none
def ev (P:Program) (cfg:FuncId→Nat):Nat→Ev
 |0=>⟨fun _ _ _ _=>none,fun _ _ _ _ _ _=>none,fun _ _ _ _ _ _=>none,fun _ _ _ _ _ _=>none⟩
 |n+1=>zES P cfg (ev P cfg n)
end Go.Fz
namespace Go.Fz
variable {P:Program} {φ:Ren} {H:Hp} {K:Nat→Prop} {w:World}
open Go.RowKit Go.ChangeShapes Go.WideShapes
def zzD (P : Program) : Bool := P.funcs.toList.all fun fn => !(fn.name == "runtime.NumGoroutine")
theorem zv3 (h:zzD P=true):vK P:=by
 intro f fn hf
 have:=List.all_eq_true.1 h fn (by
  rw [←Array.getElem?_toList] at hf
  exact List.mem_of_getElem? hf)
 simpa using this
theorem zuw {w w':World} (h:qw (fun c=>c < w.heap.size) w w'):Below w.heap.size w w':=
 ⟨h.os,h.tape,h.output,h.size,fun k hk=>h.kept k hk⟩
theorem zjc {T:Type} {enc:TypeId×Value→T} (hl:laidOutB P=true) {W W':World} (hb:Below W.heap.size W W'):∀{ts:List TypeId} {vs:List Value} {ds:List (DataW T)} {ps:List MemPlace},
  (∀t∈ts,P.readableRec t=true∧t < P.types.size)→(∀x∈ps,x.block < W.heap.size)→DataW.TrodAll enc P W 0 (fun _=>true) true ts vs ds ps→DataW.TrodAll enc P W' 0 (fun b=>decide (b < W.heap.size)) true ts vs ds ps
 |[],_,_,_,_,_,h=>by
  obtain ⟨rfl,rfl,rfl⟩:=trodAll_nil h
  exact trodAll_mk0
 |t::ts,_,_,_,ht,hp,h=>by
  obtain ⟨v,vs1,d,ds1,a,b,rfl,rfl,rfl,h1,h2⟩:=trodAll_cons h
  have h3:=ht t (by simp)
  exact ⟨a,b,Below.trod hl h3.1 h3.2 h1 hb (fun x hx=>hp x (by simp [hx])),zjc hl hb (fun t' h'=>ht t' (by simp [h'])) (fun x hx=>hp x (by simp [hx])) h2,rfl⟩
def zET (P:Program) (ts:List TypeId):Bool:=ts.all fun t=>P.readableRec t&&decide (t < P.types.size)
theorem zCh {T:Type} {enc:TypeId×Value→T} {f:Func} {s:ChangeSpec} (hv:s.vars=[]) (hl:laidOutB P=true) (hr:zET P f.params.toList=true) {t:TypeId} (ht:f.resultTypes=#[t]) (hu:P.underlying t=some .bool)
  {W W':World} {args:Array Value} {ds gs:List (DataW T)} {before:List MemPlace} (hW:DataW.Whole enc P f.params.toList s.vars false W args.toList ds gs before)
  (hres:(s.fn T (ds++gs)).results=[.lit (.bool true)]) (hargs:(s.fn T (ds++gs)).args=ds) (hvars:(s.fn T (ds++gs)).vars=[]) (hb:Below W.heap.size W W') :
  s.post enc P f false true false false W args (.bool true) W':=by
 have hlt:∀p∈before,p.block < W.heap.size:=fun p hp=>hW.lt p hp
 have hW0:=hW
 obtain ⟨p,q,hA,hV,rfl,hz,hn⟩:=hW
 rw [hv] at hV
 obtain ⟨rfl,rfl⟩:=trodVars_none hV
 refine ⟨ds,[],p++[],[],p,[],hW0,?_,?_,?_,?_,fun h=>by cases h⟩
 ·rw [hres,ht]
  exact trodAll_cons_mk (shut_bool hu _) trodAll_mk0
 ·rw [hargs]
  refine zjc hl hb (fun t h=>?_) (fun x hx=>hlt x (by simp [hx])) hA
  have:=List.all_eq_true.1 hr t h
  simpa using this
 ·rw [hvars,hv];rfl
 ·exact World.keptBut_mono (fun p hp=>hp.elim) (hb.frame (fun _=>False))
end Go.Fz
namespace Go.Fz.Sy
inductive Ty where
 |unit
 |bool
 |int (k:IntKind)
 |str
 |list (t:Ty)
 |pair (a b:Ty)
 deriving DecidableEq
@[reducible] def T (t:Ty):Type:=Ty.rec (motive:=fun _=>Type) Unit Bool (fun _=>Int) ByteArray (fun _ ih=>List ih) (fun _ _ a b=>a×b) t
@[reducible] def p1 {α β:Type} (x:α×β):α:=Prod.rec (motive:=fun _=>α) (fun a _=>a) x
@[reducible] def p2 {α β:Type} (x:α×β):β:=Prod.rec (motive:=fun _=>β) (fun _ b=>b) x
def JK {a b:Ty} (h:a=b) (x:List (T a)):List (T b):=Eq.rec (motive:=fun b _=>List (T b)) x h
def sz:Ty→Nat
 |.unit=>0
 |.bool=>1
 |.int _=>1
 |.str=>1
 |.list _=>1
 |.pair a b=>sz a+sz b
def fzV (s:Nat) (full:Bool) (es:List Value):Value:=.iface s (bif full then .agg es.toArray else .tuple es.toArray)
def ql:(t:Ty)→T t→List Value
 |.unit,_=>[]
 |.bool,b=>[.bool b]
 |.int k,n=>[.int k n]
 |.str,s=>[.string s]
 |.list t,l=>[fzV (sz t) false (List.map (fun x=>Value.agg (ql t x).toArray) l)]
 |.pair a b,x=>ql a (p1 x)++ql b (p2 x)
theorem jr:∀(t:Ty) (x:T t),(ql t x).length=sz t
 |.unit,_=>rfl
 |.bool,_=>rfl
 |.int _,_=>rfl
 |.str,_=>rfl
 |.list _,_=>rfl
 |.pair a b,x=>by simp [ql,sz,jr a,jr b]
def wo (t:Ty) (x:T t):Value:=.agg (ql t x).toArray
inductive SV where
 |bool (b:Bool)
 |int (k:IntKind) (n:Int)
 |str (s:ByteArray)
 |agg (cs:List SV)
 |tup (vs:List SV)
 |ptr (b o:Nat)
 |nilp
 |lst (t:Ty) (l:List (T t)) (full:Bool)
 |own (b:Nat)
 |nils
 |elp (b s i k:Nat)
 |fel (t:Ty) (x:T t) (k:Nat)
 |fn (f:Nat) (fs cs:List SV)
 |yld (l:Nat)
 |nilf
 |nilm
 |mp (b:Nat)
 |slv (b n:Nat)
 |junk
def bad:Value:=.complex .f64 1 0
theorem znH {φ:Ren} {v':Value} (h:zr φ bad v'):False:=by cases h
mutual
def den (ρ:Nat→Value):SV→Value
 |.bool b=>.bool b
 |.int k n=>.int k n
 |.str s=>.string s
 |.agg cs=>.agg (zt ρ cs).toArray
 |.tup vs=>.tuple (zt ρ vs).toArray
 |.ptr b o=>.pointer (some ⟨b,o,none⟩)
 |.nilp=>.pointer none
 |.lst t l full=>fzV (sz t) full (l.map (wo t))
 |.own b=>ρ b
 |.nils=>.slice none 0 0
 |.elp b s i k=>.pointer (some ⟨b,i*s+k,none⟩)
 |.fel t x k=>.iface k (.iface 0 (wo t x))
 |.fn f fs cs=>.func (.func f) (zt ρ fs).toArray (zt ρ cs).toArray
 |.yld l=>.func (.yield l) #[] #[]
 |.nilf=>.nilFunc
 |.nilm=>.map none
 |.mp b=>.map (some b)
 |.slv b n=>.slice (some ⟨b,0,none⟩) n n
 |.junk=>Fz.junk
def zt (ρ:Nat→Value):List SV→List Value
 |[]=>[]
 |v::r=>den ρ v::zt ρ r
end
theorem qt (ρ:Nat→Value):∀l:List SV,zt ρ l=l.map (den ρ)
 |[]=>by simp [zt]
 |v::r=>by simp [zt,qt ρ r]
def yp:(t:Ty)→T t→List SV
 |.unit,_=>[]
 |.bool,b=>[.bool b]
 |.int k,n=>[.int k n]
 |.str,s=>[.str s]
 |.list t,l=>[.lst t l false]
 |.pair a b,x=>yp a (p1 x)++yp b (p2 x)
theorem yc (ρ:Nat→Value):∀(t:Ty) (x:T t),(yp t x).map (den ρ)=ql t x
 |.unit,_=>rfl
 |.bool,_=>by simp [yp,den,ql]
 |.int _,_=>by simp [yp,den,ql]
 |.str,_=>by simp [yp,den,ql]
 |.list t,l=>by simp only [yp,List.map_cons,den,List.map_nil,ql];rfl
 |.pair a b,x=>by simp [yp,ql,yc ρ a,yc ρ b]
theorem YG (t:Ty) (x:T t):(yp t x).length=sz t:=by
 have:=congrArg List.length (yc (fun _=>.nilFunc) t x)
 simpa [jr] using this
structure SL where
 tm:List SV
 params:Array Tmp
 assign:Code
 body:Code
 st:LoopState
 pend:Option Code
 dfr:Nat
inductive SB where
 |vars (cs:List SV)
 |ro (cs:List SV)
 |arr (nn:Bool) (t:Ty) (l:List (T t))
 |roa (nn:Bool) (t:Ty) (l:List (T t))
 |fro (nn:Bool) (t:Ty) (l:List (T t))
 |gone (s n:Nat)
 |loop (L:SL)
 |defd
 |hid
 |mpb (k:IntKind) (ag:Bool) (t:Ty) (l:List (Int×T t))
 |abs
abbrev SH:=List (Nat×SB)
def zm (H:SH) (n:Nat):Option SB:=List.rec (motive:=fun _=>Option SB) none (fun x _ ih=>bif Nat.beq x.1 n then some x.2 else ih) H
theorem Vf (n:Nat):zm [] n=none:=rfl
theorem zH (b:Nat) (k:SB) (r:SH) (n:Nat):zm ((b,k)::r) n=if b=n then some k else zm r n:=by
 show (bif Nat.beq b n then some k else zm r n)=_
 cases h:Nat.beq b n with
 |true=>rw [if_pos (Nat.eq_of_beq_eq_true h)];rfl
 |false=>rw [if_neg (Nat.ne_of_beq_eq_false h)];rfl
def wF:SH→Nat→SB→SH
 |[],_,_=>[]
 |(b,k)::r,n,x=>bif Nat.beq b n then (b,x)::r else (b,k)::wF r n x
theorem zkJ {α:Type} (a b:Nat) (x y:α):(bif Nat.beq a b then x else y)=if a=b then x else y:=by
 cases h:Nat.beq a b with
 |true=>rw [if_pos (Nat.eq_of_beq_eq_true h)];rfl
 |false=>rw [if_neg (Nat.ne_of_beq_eq_false h)];rfl
theorem qJ (n:Nat) (x:SB) (m:Nat):∀H:SH,zm (wF H n x) m=if m=n then (zm H n).map (fun _=>x) else zm H m
 |[]=>by simp [wF,Vf]
 |(b,k)::r=>by
  have ih:=qJ n x m r
  simp only [wF,zkJ]
  by_cases hb:b=n
  ·subst hb
   by_cases hm:m=b
   ·subst hm;simp [zH]
   ·have:¬b=m:=fun h=>hm h.symm
    simp [zH,hm,this]
  ·by_cases hm:m=n
   ·subst hm;simp [zH,hb,ih]
   ·by_cases hbm:b=m
    ·subst hbm;simp [zH,hb]
    ·simp [zH,hb,hm,hbm,ih]
def jD {α:Type} (nn:Bool) (l:List α):Bool:=bif nn then false else match l with
 |[]=>true
 |_::_=>false
theorem Gg {α:Type} {nn:Bool} {l:List α} (h:jD nn l=true):nn=false∧l=[]:=by
 cases nn with
 |true=>cases h
 |false=>cases l with
  |nil=>exact ⟨rfl,rfl⟩
  |cons x l=>cases h
theorem zhd {α:Type} {nn:Bool} {l:List α} (h:l≠[]):jD nn l=false:=by
 cases hn:jD nn l with
 |false=>rfl
 |true=>exact absurd (Gg hn).2 h
theorem zv4 {α:Type} (nn:Bool) (l:List α) (i:Nat) (y:α):jD nn (l.set i y)=jD nn l:=by
 cases nn with
 |true=>rfl
 |false=>cases l with
  |nil=>rfl
  |cons x l=>cases i<;>rfl
def rsz (nn:Bool) (t:Ty) (l:List (T t)):Nat:=bif jD nn l then 0 else sz t+1
def reg:Option SB→Option (Nat×Nat)
 |some (.arr nn t l)=>some (l.length,rsz nn t l)
 |some (.roa nn t l)=>some (l.length,rsz nn t l)
 |some (.fro nn t l)=>some (l.length,rsz nn t l)
 |some (.gone s n)=>some (match s with | 0=>0 | _+1=>n,s)
 |_=>none
def rho (ν:Nat→Bool) (H:SH) (b:Nat):Value:=match reg (zm H b) with
 |some (_,0)=>.slice none 0 0
 |some (n,s+1)=>.slice (some ⟨b,0,none⟩) n (qg+s)
 |none=>bad
theorem WH {H:SH} {b:Nat} {t:Ty} {l:List (T t)} {nn:Bool} (ν:Nat→Bool) (hr:reg (zm H b)=some (l.length,rsz nn t l)):rho ν H b=bif jD nn l then .slice none 0 0 else .slice (some ⟨b,0,none⟩) l.length (qg+sz t):=by
 unfold rho
 rw [hr]
 unfold rsz
 cases jD nn l<;>rfl
def zV (t:Ty) (l:List (T t)):List Value:=l.flatMap (ql t)
theorem JL (t:Ty) (l:List (T t)):(zV t l).length=l.length*sz t:=by
 induction l with
 |nil=>simp [zV]
 |cons x l ih=>
  have:zV t (x::l)=ql t x++zV t l:=rfl
  rw [this,List.length_append,ih,jr,List.length_cons,Nat.add_mul,Nat.one_mul,Nat.add_comm]
theorem zia (t:Ty):∀(l:List (T t)) (i:Nat),(zV t l).drop (i*sz t)=zV t (l.drop i)
 |l,0=>by simp
 |[],i+1=>by simp [zV]
 |x::l,i+1=>by
  have:zV t (x::l)=ql t x++zV t l:=rfl
  rw [this,Nat.add_mul,Nat.one_mul,Nat.add_comm,List.drop_append,jr]
  have h1:(ql t x).drop (sz t+i*sz t)=[]:=List.drop_eq_nil_of_le (by rw [jr];omega)
  rw [h1,List.nil_append,Nat.add_sub_cancel_left,zia t l i];rfl
theorem zpZ (t:Ty):∀(l:List (T t)) (i:Nat),(zV t l).take (i*sz t)=zV t (l.take i)
 |l,0=>by simp [zV]
 |[],i+1=>by simp [zV]
 |x::l,i+1=>by
  have:zV t (x::l)=ql t x++zV t l:=rfl
  rw [this,Nat.add_mul,Nat.one_mul,Nat.add_comm,List.take_append,jr]
  have h1:(ql t x).take (sz t+i*sz t)=ql t x:=List.take_of_length_le (by rw [jr];omega)
  rw [h1,Nat.add_sub_cancel_left,zpZ t l i];rfl
theorem zer (t:Ty) (a b:List (T t)):zV t (a++b)=zV t a++zV t b:=by simp [zV]
theorem zdY (t:Ty) (l:List (T t)) {i k n:Nat} {x:T t} (hx:l[i]?=some x) (hk:k+n≤sz t) :
  i*sz t+k+n≤(zV t l).length∧((zV t l).drop (i*sz t+k)).take n=((ql t x).drop k).take n:=by
 have hlt:i < l.length:=(List.getElem?_eq_some_iff.1 hx).1
 constructor
 ·rw [JL]
  have:(i+1)*sz t≤l.length*sz t:=Nat.mul_le_mul_right _ hlt
  rw [Nat.add_mul] at this
  omega
 ·rw [←List.drop_drop,zia]
  have h1:l.drop i=x::l.drop (i+1):=by
   rw [List.drop_eq_getElem_cons hlt]
   obtain ⟨_,h2⟩:=List.getElem?_eq_some_iff.1 hx
   rw [h2]
  rw [h1]
  have h3:zV t (x::l.drop (i+1))=ql t x++zV t (l.drop (i+1)):=rfl
  rw [h3,List.drop_append,List.take_append,List.length_drop,jr]
  have h4:n - (sz t - k)=0:=by omega
  rw [h4,List.take_zero,List.append_nil]
theorem ztQ (t:Ty) (l:List (T t)) {i k:Nat} {x:T t} (hx:l[i]?=some x) (hk:k < sz t):(zV t l)[i*sz t+k]?=(ql t x)[k]?:=by
 have:=(zdY t l (n:=1) hx (k:=k) (by omega)).2
 have h2:=congrArg (·[0]?) this
 simpa [List.getElem?_take,List.getElem?_drop] using h2
theorem zAZ (t:Ty) (l:List (T t)) {i k:Nat} {x y:T t} {vs:List Value} (hx:l[i]?=some x) (hk:k+vs.length≤sz t) (hy:ql t y=spl (ql t x) k vs) :
  spl (zV t l) (i*sz t+k) vs=zV t (l.set i y):=by
 have hlt:i < l.length:=(List.getElem?_eq_some_iff.1 hx).1
 obtain ⟨_,hxe⟩:=List.getElem?_eq_some_iff.1 hx
 have h1:l=l.take i++x::l.drop (i+1):=by
  rw [←hxe];simp
 have h2:l.set i y=l.take i++y::l.drop (i+1):=by
  apply List.ext_getElem?
  intro j
  rw [List.getElem?_set]
  by_cases h:i=j
  ·subst h;simp [hlt,Nat.min_eq_left (Nat.le_of_lt hlt)]
  ·simp only [h,if_false]
   conv=>lhs;rw [h1]
   by_cases hji:j < i
   ·rw [List.getElem?_append_left (by simp;omega),List.getElem?_append_left (by simp;omega)]
   ·have hm:(l.take i).length=i:=by simp;omega
    rw [List.getElem?_append_right (by omega),List.getElem?_append_right (by omega),hm]
    have:j - i=(j - i - 1)+1:=by omega
    rw [this];simp
 rw [h2]
 conv=>lhs;rw [h1]
 have ha:∀z,zV t (l.take i++z::l.drop (i+1))=zV t (l.take i)++(ql t z++zV t (l.drop (i+1))):=fun z=>by simp [zV]
 rw [ha,ha,hy]
 have hl:(zV t (l.take i)).length=i*sz t:=by rw [JL,List.length_take,Nat.min_eq_left (Nat.le_of_lt hlt)]
 have hle:=jr t x
 unfold spl
 rw [←hl]
 simp only [List.take_append,List.drop_append]
 have e1:(zV t (l.take i)).take ((zV t (l.take i)).length+k)=zV t (l.take i):=List.take_of_length_le (by omega)
 have e2:(zV t (l.take i)).drop ((zV t (l.take i)).length+k+vs.length)=[]:=List.drop_eq_nil_of_le (by omega)
 have e3:(zV t (l.take i)).length+k - (zV t (l.take i)).length=k:=by omega
 have e4:(zV t (l.take i)).length+k+vs.length - (zV t (l.take i)).length=k+vs.length:=by omega
 rw [e1,e2,e3,e4]
 have e5:k - (ql t x).length=0:=by omega
 have e6:k+vs.length - (ql t x).length=0:=by omega
 rw [e5,e6]
 simp [List.append_assoc]
def wX (ρ:Nat→Value) (L:SL):Loop:=
 {state:=L.st,pending:=L.pend,fn:=0,tmps:=(zt ρ L.tm).toArray,params:=L.params,assign:=L.assign,body:=L.body,defers:=L.dfr}
def mvV (ag:Bool) (t:Ty) (x:T t):Value:=bif ag then wo t x else (ql t x).headD Fz.junk
def gi (k:IntKind) (ag:Bool) (t:Ty):List (Int×T t)→Nat→List (Value×Value×Nat)
 |[],_=>[]
 |p::r,i=>(.int k p.1,mvV ag t p.2,i)::gi k ag t r (i+1)
def zU (ρ:Nat→Value) (nil:Bool):SB→Option Blk
 |.vars cs=>some (.cells (zt ρ cs) false)
 |.ro cs=>some (.cells (zt ρ cs) true)
 |.arr nn t l=>bif jD nn l then none else some (.cells (zV t l) false)
 |.roa nn t l=>bif jD nn l then none else some (.cells (zV t l) true)
 |.fro nn t l=>bif jD nn l then none else some (.fzc (zV t l))
 |.gone _ _=>none
 |.loop L=>some (.loop (wX ρ L))
 |.defd=>some .defd
 |.hid=>some .hid
 |.mpb k ag t l=>some (.mp (gi k ag t l 0) l.length)
 |.abs=>none
def uf (ν:Nat→Bool) (ρ:Nat→Value):SH→Hp
 |[]=>[]
 |(b,k)::r=>match zU ρ (ν b) k with
  |some x=>(b,x)::uf ν ρ r
  |none=>(uf ν ρ r).del b
theorem xL (ν:Nat→Bool) (ρ:Nat→Value) (n:Nat):∀H:SH,(uf ν ρ H).get n=(zm H n).bind (zU ρ (ν n))
 |[]=>rfl
 |(b,k)::r=>by
  have ih:=xL ν ρ n r
  simp only [uf,zH]
  by_cases hb:b=n
  ·subst hb
   cases hx:zU ρ (ν b) k with
   |none=>simp [hx,Hp.get_del]
   |some x=>simp [hx,Hp.get_cons]
  ·have hbe:(b == n)=false:=by simpa using hb
   have hnb:¬n=b:=fun e=>hb e.symm
   cases hx:zU ρ (ν b) k with
   |none=>simp only [Hp.get_del,hnb,if_false,hb];exact ih
   |some x=>simp only [Hp.get_cons,hbe,Bool.false_eq_true,if_false,hb];exact ih
def zE (ν:Nat→Bool) (H:SH):Hp:=uf ν (rho ν H) H
theorem zL (ν:Nat→Bool) (H:SH) (n:Nat):(zE ν H).get n=(zm H n).bind (zU (rho ν H) (ν n)):=xL ν _ n H
theorem zes (nn:Bool) (t:Ty) (l:List (T t)):reg (some (.gone (rsz nn t l) l.length))=some (l.length,rsz nn t l):=by
 unfold rsz
 cases hn:jD nn l with
 |true=>
  obtain ⟨_,rfl⟩:=Gg hn
  rfl
 |false=>rfl
theorem UA {k:Option SB} {n:Nat} (h:reg k=some (n,0)):n=0:=by
 have key:∀(nn:Bool) (t:Ty) (l:List (T t)),some (l.length,rsz nn t l)=some (n,0)→n=0:=fun nn t l h=>by
  unfold rsz at h
  cases hn:jD nn l with
  |true=>
   obtain ⟨_,rfl⟩:=Gg hn
   rw [hn] at h
   simp at h
   exact h.symm
  |false=>rw [hn] at h;simp at h
 cases k with
 |none=>cases h
 |some k=>
  cases k with
  |arr nn t l=>exact key nn t l h
  |roa nn t l=>exact key nn t l h
  |fro nn t l=>exact key nn t l h
  |gone s m=>
   cases s with
   |zero=>simp [reg] at h;exact h.symm
   |succ s=>simp [reg] at h
  |_=>simp [reg] at h
def qY:Option SB→Bool
 |some (.arr nn _ _)=>nn
 |some (.roa nn _ _)=>nn
 |_=>false
structure VN (ν:Nat→Bool) (nx:Nat) (H:SH):Prop where
 empty:∀b n,reg (zm H b)=some (n,0)→n=0
 old:∀b,nx≤b→ν b=false
 nn:∀b,qY (zm H b)=true→ν b=false
def jW (H H':SH):Prop:=∀b x,reg (zm H b)=some x→reg (zm H' b)=some x
theorem jW.refl (H:SH):jW H H:=fun _ _ h=>h
theorem jW.trans {H H' H'':SH} (h:jW H H') (k:jW H' H''):jW H H'':=fun b x hx=>k b x (h b x hx)
def wk (H H':SH):Prop:=∀l L,zm H l=some (.loop L)→∃s p,zm H' l=some (.loop {L with st:=s,pend:=p})
theorem wk.refl (H:SH):wk H H:=fun l L h=>⟨L.st,L.pend,h⟩
theorem wk.trans {H H' H'':SH} (h:wk H H') (k:wk H' H''):wk H H'':=fun l L hl=>by
 obtain ⟨s,p,h1⟩:=h l L hl
 obtain ⟨s',p',h2⟩:=k l _ h1
 exact ⟨s',p',h2⟩
def RLe (ρ ρ':Nat→Value):Prop:=∀b,ρ b=bad∨ρ' b=ρ b
theorem RLe.refl (ρ:Nat→Value):RLe ρ ρ:=fun _=>.inr rfl
theorem zet (ν:Nat→Bool) {H H':SH} (h:jW H H'):RLe (rho ν H) (rho ν H'):=by
 intro b
 unfold rho
 cases hr:reg (zm H b) with
 |none=>exact .inl rfl
 |some x=>right;rw [h b x hr]
mutual
theorem zbo {ρ ρ':Nat→Value} (h:RLe ρ ρ') {φ:Ren}:∀(v:SV) (v':Value),zr φ (den ρ v) v'→zr φ (den ρ' v) v'
 |.bool _,_,hv=>by simpa only [den] using hv
 |.int _ _,_,hv=>by simpa only [den] using hv
 |.str _,_,hv=>by simpa only [den] using hv
 |.agg cs,v',hv=>by
  simp only [den] at hv ⊢
  obtain ⟨ys,rfl,hl⟩:=hv.agg_inv
  exact .agg' (by simpa using zcp h cs ys.toList (by simpa using hl))
 |.tup vs,v',hv=>by
  simp only [den] at hv ⊢
  obtain ⟨ys,rfl,hl⟩:=hv.tuple_inv
  exact .tuple' (by simpa using zcp h vs ys.toList (by simpa using hl))
 |.ptr _ _,_,hv=>by simpa only [den] using hv
 |.nilp,_,hv=>by simpa only [den] using hv
 |.lst _ _ _,_,hv=>by simpa only [den] using hv
 |.own b,v',hv=>by
  simp only [den] at hv ⊢
  rcases h b with hb | hb
  ·rw [hb] at hv;exact (znH hv).elim
  ·rw [hb];exact hv
 |.nils,_,hv=>by simpa only [den] using hv
 |.elp _ _ _ _,_,hv=>by simpa only [den] using hv
 |.fel _ _ _,_,hv=>by simpa only [den] using hv
 |.fn f fs cs,v',hv=>by
  simp only [den] at hv ⊢
  obtain ⟨fn',ys,us,rfl,hf,h1,h2⟩:=hv.func_inv
  exact .func' hf (by simpa using zcp h fs ys.toList (by simpa using h1)) (by simpa using zcp h cs us.toList (by simpa using h2))
 |.yld _,_,hv=>by simpa only [den] using hv
 |.nilf,_,hv=>by simpa only [den] using hv
 |.nilm,_,hv=>by simpa only [den] using hv
 |.mp _,_,hv=>by simpa only [den] using hv
 |.slv _ _,_,hv=>by simpa only [den] using hv
 |.junk,_,hv=>by simpa only [den] using hv
theorem zcp {ρ ρ':Nat→Value} (h:RLe ρ ρ') {φ:Ren}:∀(vs:List SV) (us:List Value),zw φ (zt ρ vs) us→zw φ (zt ρ' vs) us
 |[],us,hr=>by simpa only [zt] using hr
 |v::vs,[],hr=>by simp [zt,zw] at hr
 |v::vs,u::us,hr=>by
  simp only [zt,zw] at hr ⊢
  exact ⟨zbo h v u hr.1,zcp h vs us hr.2⟩
end
theorem zib {ρ ρ':Nat→Value} (hρ:∀b,ρ b≠Fz.junk) {v:SV} (h:den ρ v=Fz.junk):den ρ' v=Fz.junk:=by
 cases v<;>simp only [den,Fz.junk,reduceCtorEq] at h ⊢
 ·simp [fzV] at h
 ·exact absurd h (hρ _)
theorem ke (ν:Nat→Bool) (H:SH) (b:Nat):rho ν H b≠Fz.junk:=by
 unfold rho
 split
 ·simp [Fz.junk]
 ·simp [Fz.junk]
 ·simp [bad,Fz.junk]
theorem zkK {ρ ρ':Nat→Value} (hρ:∀b,ρ b≠Fz.junk) (h:RLe ρ ρ') {φ:Ren} {tm:List SV} {ts:Array Value} (ht:qI φ (zt ρ tm) ts):qI φ (zt ρ' tm) ts:=by
 refine ⟨by simpa [qt] using ht.1,fun i v hv=>?_⟩
 rw [qt,List.getElem?_map,Option.map_eq_some_iff] at hv
 obtain ⟨u,hu,rfl⟩:=hv
 rcases ht.2 i (den ρ u) (by rw [qt,List.getElem?_map,hu];rfl) with h0 | ⟨v',h1,h2⟩
 ·exact .inl (zib hρ h0)
 ·exact .inr ⟨v',h1,zbo h u v' h2⟩
theorem zom (ν:Nat→Bool) {H H':SH} (h:jW H H') {φ:Ren} {tm:List SV} {ts:Array Value} (ht:qI φ (zt (rho ν H) tm) ts):qI φ (zt (rho ν H') tm) ts:=zkK (ke ν H) (zet ν h) ht
end Go.Fz.Sy
namespace Go.Fz.Sy
variable {P:Program} {φ:Ren} {K:Nat→Prop} {w:World}
theorem zv5 {H:Hp} (g:zF φ H K w) {b:Nat} {cs:List Value} (hb:H.get b=some (.cells cs false)) :
  ∃φ',(∀n,Ext K φ φ' n n)∧∀H':Hp,(∀c k,H'.get c=some k→if c=b then k=.fzc cs else H.get c=some k)→zF φ' H' K w:=by
 obtain ⟨L,hL,a,el,fr,e1,e2,e3⟩:=g.rel b _ hb
 have hnone:φ (FZ+L.blk)=none:=by
  cases h:φ (FZ+L.blk) with
  |none=>rfl
  |some M=>exact absurd rfl (g.fsep b _ L L.blk M hb rfl hL h)
 let N:Loc:=⟨L.blk,0,0,a⟩
 have hle:=Ren.put_le hnone N
 have hoth:∀c,c≠FZ+L.blk→(φ.put (FZ+L.blk) N) c=φ c:=fun c hc=>Ren.put_other φ N hc
 have hname:∀c k,H.get c=some k→c≠FZ+L.blk:=fun c k hc e=>by
  obtain ⟨M,hM,_⟩:=g.rel c k hc
  rw [e,hnone] at hM;cases hM
 refine ⟨φ.put (FZ+L.blk) N,fun n=>⟨hle,fun c hc _=>hoth c (by omega),fun c M hM=>?_⟩,fun H' hH'=>?_⟩
 ·by_cases h:c=L.blk
  ·subst h;exact .inr (g.prot b _ L hb rfl hL)
  ·rw [hoth _ (by omega)] at hM;exact .inl hM
 have old:∀c k,H'.get c=some k→c≠b→H.get c=some k:=fun c k hc hne=>by have:=hH' c k hc;rwa [if_neg hne] at this
 have nrw:∀k,H'.get b=some k→k=.fzc cs:=fun k hk=>by have:=hH' b k hk;rwa [if_pos rfl] at this
 have hrwne:∀c k,H'.get c=some k→k.rw=true→c≠b:=fun c k hc hr e=>by
  subst e;rw [nrw k hc] at hr;cases hr
 refine ⟨fun c k hc=>?_,fun c d k k' M M' hc hd hne hk hM hM'=>?_,fun c k M hc hk hM=>?_,g.kin,fun c M hM=>?_,fun c k M d M' hc hk hM hM'=>?_⟩
 ·by_cases hcb:c=b
  ·subst hcb
   rw [nrw k hc]
   exact ⟨L,hle _ _ hL,⟨_,e1⟩,N,Ren.put_same _ _ _,fun j v hv=>let ⟨v',h1,h2⟩:=e2 j v hv;⟨v',h1,h2.mono hle⟩⟩
  ·obtain ⟨M,hM,hr⟩:=g.rel c k (old c k hc hcb)
   exact ⟨M,hle _ _ hM,hr.mono hle⟩
 ·have hcb:=hrwne c k hc hk
  have hcH:=old c k hc hcb
  rw [hoth c (hname c k hcH)] at hM
  by_cases hdb:d=b
  ·subst hdb
   rw [hoth d (hname d _ hb)] at hM'
   exact g.sep c d k _ M M' hcH hb hne hk hM hM'
  ·have hdH:=old d k' hd hdb
   rw [hoth d (hname d k' hdH)] at hM'
   exact g.sep c d k k' M M' hcH hdH hne hk hM hM'
 ·have hcH:=old c k hc (hrwne c k hc hk)
  rw [hoth c (hname c k hcH)] at hM
  exact g.prot c k M hcH hk hM
 ·by_cases h:c=L.blk
  ·subst h
   rw [Ren.put_same] at hM;cases hM
   exact ⟨rfl,rfl,a,el,fr,e1,fun j u hu=>hu⟩
  ·rw [hoth _ (by omega)] at hM;exact g.fz c M hM
 ·have hcb:=hrwne c k hc hk
  have hcH:=old c k hc hcb
  rw [hoth c (hname c k hcH)] at hM
  by_cases h:d=L.blk
  ·subst h
   exact g.sep c b k _ M L hcH hb hcb hk hM hL
  ·rw [hoth _ (by omega)] at hM'
   exact g.fsep c k M d M' hcH hk hM hM'
def GLe (H H':SH):Prop:=∀b,zm H' b=zm H b∨∃nn t l,zm H b=some (.arr nn t l)∧zm H' b=some (.fro nn t l)
theorem GLe.refl (H:SH):GLe H H:=fun _=>.inl rfl
theorem GLe.trans {H H' H'':SH} (h:GLe H H') (k:GLe H' H''):GLe H H'':=fun b=>by
 rcases h b with h1 | ⟨nn,t,l,h1,h2⟩
 ·rcases k b with k1 | ⟨nn,t,l,k1,k2⟩
  ·exact .inl (k1.trans h1)
  ·exact .inr ⟨nn,t,l,h1▸k1,k2⟩
 ·rcases k b with k1 | ⟨nn',t',l',k1,k2⟩
  ·exact .inr ⟨nn,t,l,h1,k1.trans h2⟩
  ·rw [h2] at k1;cases k1
theorem GLe.reg {H H':SH} (h:GLe H H') (b:Nat):Sy.reg (zm H' b)=Sy.reg (zm H b):=by
 rcases h b with h1 | ⟨nn,t,l,h1,h2⟩
 ·rw [h1]
 ·rw [h1,h2];rfl
theorem GLe.regLe {H H':SH} (h:GLe H H'):jW H H':=fun b x hx=>by rw [h.reg b];exact hx
theorem GLe.lkeep {H H':SH} (h:GLe H H'):wk H H':=fun l L hl=>by
 rcases h l with h1 | ⟨nn,t,a,h1,h2⟩
 ·exact ⟨L.st,L.pend,by rw [h1];exact hl⟩
 ·rw [hl] at h1;cases h1
theorem GLe.rho {H H':SH} (h:GLe H H') (ν:Nat→Bool):Sy.rho ν H'=Sy.rho ν H:=by
 funext b
 unfold Sy.rho
 rw [h.reg b]
theorem GLe.vn {H H':SH} (h:GLe H H') {ν:Nat→Bool} {nx:Nat} (v:VN ν nx H):VN ν nx H':=⟨fun b n hr=>v.empty b n (by rw [←h.reg b];exact hr),v.old,fun b hb=>v.nn b (by
 rcases h b with h1 | ⟨nn,t,l,h1,h2⟩
 ·rw [←h1];exact hb
 ·rw [h2] at hb;cases hb)⟩
theorem GLe.fro {H H':SH} (h:GLe H H') {b:Nat} {nn:Bool} {t:Ty} {l:List (T t)} (hb:zm H b=some (.fro nn t l)):zm H' b=some (.fro nn t l):=by
 rcases h b with h1 | ⟨nn,t,a,h1,h2⟩
 ·rw [h1];exact hb
 ·rw [hb] at h1;cases h1
def xc (H H':SH):Prop:=GLe H H'∧∀(ν:Nat→Bool) (φ:Ren) (K:Nat→Prop) (w:World),zF φ (zE ν H) K w→∃φ',(∀n,Ext K φ φ' n n)∧zF φ' (zE ν H') K w
theorem xc.refl (H:SH):xc H H:=⟨GLe.refl H,fun ν φ K w g=>⟨φ,fun n=>Ext.refl _ _ _ _,g⟩⟩
theorem xc.trans {H H' H'':SH} (h:xc H H') (k:xc H' H''):xc H H'':=⟨h.1.trans k.1,fun ν φ K w g=>by
 obtain ⟨φ1,e1,g1⟩:=h.2 ν φ K w g
 obtain ⟨φ2,e2,g2⟩:=k.2 ν φ1 K w g1
 exact ⟨φ2,fun n=>(e1 n).comp (e2 n),g2⟩⟩
theorem GL {H:SH} {b:Nat} {nn:Bool} {t:Ty} {l:List (T t)} (hb:zm H b=some (.arr nn t l)):xc H (wF H b (.fro nn t l)):=by
 have hg:GLe H (wF H b (.fro nn t l)):=fun c=>by
  rw [qJ]
  by_cases hc:c=b
  ·subst hc;exact .inr ⟨nn,t,l,hb,by simp [hb]⟩
  ·rw [if_neg hc];exact .inl rfl
 refine ⟨hg,fun ν φ K w g=>?_⟩
 have hoth:∀c k,(zE ν (wF H b (.fro nn t l))).get c=some k→c≠b→(zE ν H).get c=some k:=fun c k hc hne=>by
  rw [zL,qJ,if_neg hne,hg.rho ν] at hc
  rw [zL];exact hc
 cases hn:jD nn l with
 |true=>
  refine ⟨φ,fun n=>Ext.refl _ _ _ _,g.sub fun c k hc=>?_⟩
  by_cases hcb:c=b
  ·subst hcb
   rw [zL,qJ] at hc
   simp [hb,zU,hn] at hc
  ·exact hoth c k hc hcb
 |false=>
  have hd:(zE ν H).get b=some (.cells (zV t l) false):=by rw [zL,hb];simp [zU,hn]
  obtain ⟨φ',e1,e2⟩:=zv5 g hd
  refine ⟨φ',e1,e2 _ fun c k hc=>?_⟩
  by_cases hcb:c=b
  ·subst hcb
   rw [zL,qJ] at hc
   simp [hb,zU,hn] at hc
   simp [hc]
  ·rw [if_neg hcb];exact hoth c k hc hcb
theorem zhe {H:SH} {ν:Nat→Bool} {nx:Nat} (g:zF φ (zE ν H) K w) (hv:VN ν nx H) {b:Nat} {nn:Bool} {t:Ty} {l:List (T t)} (hb:zm H b=some (.fro nn t l)) (hs:0 < sz t) {v':Value} (h:zr φ (rho ν H b) v') :
  zr φ (fzV (sz t) false (l.map (wo t))) v':=by
 have hr:reg (zm H b)=some (l.length,rsz nn t l):=by rw [hb];rfl
 have hnil:∀a c,l=[]→zr φ (fzV (sz t) false (l.map (wo t))) (.slice a 0 c):=fun a c e=>by subst e;exact .fz0 _ _ _
 rw [WH ν hr] at h
 cases hn:jD nn l with
 |true=>
  have hl:l=[]:=(Gg hn).2
  simp only [hn,cond_true] at h
  cases h
  exact hnil _ _ hl
 |false=>
  simp only [hn,cond_false] at h
  generalize hc0:qg+sz t=c0 at h
  generalize hn0:l.length=n0 at h
  cases h with
  |sl _ _ _ _ L hL hc=>omega
  |slO _ _ _ _ c' L hL hc hnc hl=>
   by_cases hl0:l=[]
   ·subst hl0;simp at hn0;subst hn0;exact hnil _ _ rfl
   ·have hd:(zE ν H).get b=some (.fzc (zV t l)):=by rw [zL,hb];simp [zU,hn]
    obtain ⟨L',hL',hB⟩:=g.rel b _ hd
    rw [hL] at hL';cases hL'
    obtain ⟨_,M,hM,hcs⟩:=hB
    have hpos:0 < l.length:=List.length_pos_iff.2 hl0
    have hfl:=JL t l
    have hmul:0 < l.length*sz t:=Nat.mul_pos hpos hs
    have hes:((l.map (wo t)).toArray).size=n0:=by simp [hn0]
    have hget:∀(j:Nat) e,((l.map (wo t)).toArray)[j]?=some e→∃x,l[j]?=some x∧e=wo t x:=fun j e he=>by
     simp only [List.getElem?_toArray,List.getElem?_map,Option.map_eq_some_iff] at he
     obtain ⟨x,hx,rfl⟩:=he
     exact ⟨x,hx,rfl⟩
    have key:=zr.fz (φ:=φ) (sz t) (l.map (wo t)).toArray L.blk (L.off+0) c' M hM (by rw [hes];omega) (by
     rw [hes]
     obtain ⟨v',h1,_⟩:=hcs (l.length*sz t - 1) ((zV t l)[l.length*sz t - 1]'(by omega)) (by simp)
     have:=(Array.getElem?_eq_some_iff.1 h1).1
     rw [←hn0];omega) (by rw [hes];exact hnc) (fun j e he=>by
      obtain ⟨x,_,rfl⟩:=hget j e he
      simp [wo,Value.cells,jr]) (fun j k e u u' he hu hu'=>by
      obtain ⟨x,hx,rfl⟩:=hget j e he
      simp only [wo,Value.cells,List.getElem?_toArray] at hu
      have hk:k < sz t:=by have:=(List.getElem?_eq_some_iff.1 hu).1;rwa [jr] at this
      have h1:=ztQ t l hx hk
      rw [hu] at h1
      obtain ⟨v',q1,q2⟩:=hcs _ _ h1
      rw [Nat.add_zero,Nat.add_assoc] at hu'
      rw [q1] at hu';cases hu'
      exact q2)
    rw [hes] at key
    exact key
  |slE _ _ _ a' L hL hc=>
   have hl:l=[]:=List.length_eq_zero_iff.1 hn0
   exact hnil _ _ hl
def cvC:(t:Ty)→List SV→SH→Option (T t×List SV×SH)
 |.unit,l,H=>some ((),l,H)
 |.bool,l,H=>match l with
  |.bool b::r=>some (b,r,H)
  |_=>none
 |.int k,l,H=>match l with
  |.int k' n::r=>bif Wd k k' then some (n,r,H) else none
  |_=>none
 |.str,l,H=>match l with
  |.str s::r=>some (s,r,H)
  |_=>none
 |.list t,l,H=>match l with
  |.lst t' x _::r=>if h:t'=t then some (JK h x,r,H) else none
  |.nils::r=>some (([]:List (T t)),r,H)
  |.own b::r=>match zm H b with
   |some (.arr nn t' x)=>if h:t'=t then bif Nat.blt 0 (sz t) then some (JK h x,r,wF H b (.fro nn t' x)) else none else none
   |some (.fro _ t' x)=>if h:t'=t then bif Nat.blt 0 (sz t) then some (JK h x,r,H) else none else none
   |_=>none
  |_=>none
 |.pair a b,l,H=>match cvC a l H with
  |some (x,l1,H1)=>match cvC b l1 H1 with
   |some (y,l2,H2)=>some ((x,y),l2,H2)
   |none=>none
  |none=>none
def zFD (ν:Nat→Bool) (H H':SH) (cs:List SV) (xs:List Value):Prop:=∀(G:SH),GLe H' G→∀(φ:Ren) (K:Nat→Prop) (w:World) (nx:Nat) (us:List Value),zF φ (zE ν G) K w→VN ν nx G→zw φ (zt (rho ν H) cs) us→zw φ xs us
theorem zA {α:Type} {b:Bool} {x:Option α} {y:α} (h:(bif b then x else none)=some y):b=true∧x=some y:=by
 cases b
 ·cases h
 ·exact ⟨rfl,h⟩
theorem zsg {n:Nat} (h:Nat.blt 0 n=true):0 < n:=zco h
theorem GM:∀(t:Ty) {l:List SV} {H:SH} {x:T t} {r:List SV} {H':SH},cvC t l H=some (x,r,H')→∃cs,l=cs++r∧xc H H'∧∀ν,zFD ν H H' cs (ql t x)
 |.unit,l,H,x,r,H',h=>by
  simp only [cvC] at h
  cases h
  exact ⟨[],rfl,xc.refl _,fun ν G hG φ K w nx us g hn hr=>by simpa [zt,ql] using hr⟩
 |.bool,l,H,x,r,H',h=>by
  simp only [cvC] at h
  split at h
  ·cases h
   refine ⟨_,(List.singleton_append).symm,xc.refl _,fun ν G hG φ K w nx us g hn hr=>by simpa [zt,den,ql] using hr⟩
  ·cases h
 |.int k,l,H,x,r,H',h=>by
  simp only [cvC] at h
  split at h
  ·rename_i k' n r'
   obtain ⟨hk,h2⟩:=zA (x:=some (n,r',H)) h
   have:=Jh hk
   subst this
   clear h
   cases h2
   refine ⟨_,(List.singleton_append).symm,xc.refl _,fun ν G hG φ K w nx us g hn hr=>by simpa [zt,den,ql] using hr⟩
  ·cases h
 |.str,l,H,x,r,H',h=>by
  simp only [cvC] at h
  split at h
  ·cases h
   refine ⟨_,(List.singleton_append).symm,xc.refl _,fun ν G hG φ K w nx us g hn hr=>by simpa [zt,den,ql] using hr⟩
  ·cases h
 |.list t,l,H,x,r,H',h=>by
  simp only [cvC] at h
  split at h
  ·rename_i t' y full r'
   split at h
   ·rename_i ht
    subst ht
    cases h
    refine ⟨_,(List.singleton_append).symm,xc.refl _,fun ν G hG φ K w nx us g hn hr=>?_⟩
    match us,hr with
    |[],hr=>simp [zt,zw] at hr
    |u::us,hr=>
     simp only [zt,zw,den] at hr
     refine ⟨?_,hr.2⟩
     cases full with
     |false=>exact hr.1
     |true=>
      have h1:=hr.1
      unfold fzV at h1 ⊢
      simp only [cond_true,cond_false] at h1 ⊢
      generalize hs:sz t'=s at h1 ⊢
      generalize he:(List.map (wo t') y).toArray=es at h1
      show zr φ (.iface s (.tuple (List.map (wo t') (JK rfl y)).toArray)) u
      have:JK rfl y=y:=rfl
      rw [this,he]
      cases h1 with
      |fq _ _ b o L hL hn ho hs h=>exact .fz _ _ b o _ L hL hn ho (Nat.le_refl _) hs h
      |fq0 _ a=>exact .fz0 _ _ _
   ·cases h
  ·cases h
   refine ⟨_,(List.singleton_append).symm,xc.refl _,fun ν G hG φ K w nx us g hn hr=>?_⟩
   match us,hr with
   |[],hr=>simp [zt,zw] at hr
   |u::us,hr=>
    simp only [zt,zw,den] at hr
    refine ⟨?_,hr.2⟩
    have h1:=hr.1
    cases h1
    exact .fz0 _ _ _
  ·rename_i b r'
   split at h
   ·rename_i nn t' y hb
    split at h
    ·rename_i ht
     subst ht
     obtain ⟨hp,h⟩:=zA h
     cases h
     refine ⟨_,(List.singleton_append).symm,GL hb,fun ν G hG φ K w nx us g hn hr=>?_⟩
     match us,hr with
     |[],hr=>simp [zt,zw] at hr
     |u::us,hr=>
      simp only [zt,zw,den] at hr
      refine ⟨?_,hr.2⟩
      have hb2:zm (wF H b (.fro nn t' y)) b=some (.fro nn t' y):=by rw [qJ,if_pos rfl,hb];rfl
      rw [←(GL hb).1.rho ν,←hG.rho ν] at hr
      exact zhe g hn (hG.fro hb2) (zsg hp) hr.1
    ·cases h
   ·rename_i t' y hb
    split at h
    ·rename_i ht
     subst ht
     obtain ⟨hp,h⟩:=zA h
     cases h
     refine ⟨_,(List.singleton_append).symm,xc.refl _,fun ν G hG φ K w nx us g hn hr=>?_⟩
     match us,hr with
     |[],hr=>simp [zt,zw] at hr
     |u::us,hr=>
      simp only [zt,zw,den] at hr
      rw [←hG.rho ν] at hr
      exact ⟨zhe g hn (hG.fro hb) (zsg hp) hr.1,hr.2⟩
    ·cases h
   ·cases h
  ·cases h
 |.pair a b,l,H,x,r,H',h=>by
  simp only [cvC] at h
  split at h
  case h_2=>cases h
  rename_i x1 l1 H1 h1
  split at h
  case h_2=>cases h
  rename_i y l2 H2 h2
  cases h
  obtain ⟨c1,rfl,g1,r1⟩:=GM a h1
  obtain ⟨c2,rfl,g2,r2⟩:=GM b h2
  refine ⟨c1++c2,by simp,g1.trans g2,fun ν G hG φ K w nx us g hn hr=>?_⟩
  rw [qt,List.map_append] at hr
  have hlen:=hr.length
  obtain ⟨u1,u2,rfl,hl1⟩:∃u1 u2,us=u1++u2∧u1.length=c1.length:=⟨us.take c1.length,us.drop c1.length,by simp,by simp at hlen ⊢;omega⟩
  have hsplit:zw φ (c1.map (den (rho ν H))) u1∧zw φ (c2.map (den (rho ν H))) u2:=by
   have h3:=hr.take (c1.length)
   have h4:=hr.drop (c1.length)
   rw [List.take_append_of_le_length (by simp),List.take_append_of_le_length (by omega),List.take_of_length_le (by simp),List.take_of_length_le (by omega)] at h3
   rw [List.drop_append_of_le_length (by simp),List.drop_append_of_le_length (by omega),List.drop_eq_nil_of_le (by simp),List.drop_eq_nil_of_le (by omega)] at h4
   exact ⟨h3,h4⟩
  refine zw.append ?_ ?_
  ·exact r1 ν G (g2.1.trans hG) φ K w nx u1 g hn (by rw [qt];exact hsplit.1)
  ·have:=r2 ν G hG φ K w nx u2 g hn
   rw [qt,g1.1.rho ν] at this
   exact this hsplit.2
structure VT where
 agg:Bool
 ty:Ty
def cvE (t:Ty) (x:Option (T t×List SV×SH)):Option (T t×SH):=match x with
 |some (x,[],H)=>some (x,H)
 |_=>none
theorem zic {t:Ty} {y:Option (T t×List SV×SH)} {x:T t} {H:SH} (h:cvE t y=some (x,H)):y=some (x,[],H):=by
 unfold cvE at h
 split at h
 ·cases h;rfl
 ·cases h
def cvV (t:VT) (v:SV) (H:SH):Option (T t.ty×SH):=match t with
 |⟨true,t⟩=>match v with
  |.agg cs=>cvE t (cvC t cs H)
  |_=>none
 |⟨false,t⟩=>match v with
  |.agg _=>none
  |v=>cvE t (cvC t [v] H)
def mk1:List SV→SV
 |[v]=>v
 |_=>.junk
def mkV (t:VT) (x:T t.ty):SV:=bif t.agg then .agg (yp t.ty x) else mk1 (yp t.ty x)
theorem zp0 {t:VT} {v:SV} {H H':SH} {x:T t.ty} (h:cvV t v H=some (x,H')) :
  xc H H'∧∀ν G,GLe H' G→∀(φ:Ren) (K:Nat→Prop) (w:World) (nx:Nat) (v':Value),zF φ (zE ν G) K w→VN ν nx G→zr φ (den (rho ν H) v) v'→∀ρ,zr φ (den ρ (mkV t x)) v':=by
 obtain ⟨ag,t⟩:=t
 cases ag with
 |true=>
  simp only [cvV] at h
  split at h
  ·rename_i cs
   obtain ⟨cs1,he,g1,r1⟩:=GM _ (zic h)
   simp only [List.append_nil] at he
   subst he
   refine ⟨g1,fun ν G hG φ K w nx v' g hn hv ρ=>?_⟩
   simp only [mkV,cond_true,den] at hv ⊢
   obtain ⟨ys,rfl,hl⟩:=hv.agg_inv
   refine .agg' ?_
   rw [qt,yc]
   simpa using r1 ν G hG φ K w nx ys.toList g hn (by simpa using hl)
  ·cases h
 |false=>
  have key:∀v:SV,cvE t (cvC t [v] H)=some (x,H')→xc H H'∧∀ν G,GLe H' G→∀(φ:Ren) (K:Nat→Prop) (w:World) (nx:Nat) (v':Value),zF φ (zE ν G) K w→VN ν nx G→zr φ (den (rho ν H) v) v'→∀ρ,zr φ (den ρ (mkV ⟨false,t⟩ x)) v':=by
   intro v h
   obtain ⟨cs1,he,g1,r1⟩:=GM _ (zic h)
   simp only [List.append_nil] at he
   subst he
   refine ⟨g1,fun ν G hG φ K w nx v' g hn hv ρ=>?_⟩
   have hr:=r1 ν G hG φ K w nx [v'] g hn ⟨hv,trivial⟩
   rw [←yc ρ] at hr
   simp only [mkV,cond_false]
   generalize yp t x=e at hr
   match e,hr with
   |[u],hr=>exact hr.1
  simp only [cvV] at h
  split at h
  ·cases h
  ·exact key _ h
end Go.Fz.Sy
namespace Go.Fz.Sy
variable {P:Program}
def eqF (P:Program) (eq:TypeId→Value→Value→Option Bool) (xs ys:Array Value):List Field→Option Bool
 |[]=>some true
 | f :: fs => if f.name = "_" then eqF P eq xs ys fs else
  match qd P (part f.type xs f.offset),qd P (part f.type ys f.offset) with
  |some x,some y=>match eq f.type x y with
   |some b=>match eqF P eq xs ys fs with
    |some c=>some (b&&c)
    |none=>none
   |none=>none
  |_,_=>none
def eqS (P:Program):Nat→TypeId→Value→Value→Option Bool
 |0,_,_,_=>none
 |d+1,t,x,y=>match P.underlying t with
  |some .bool=>match x,y with
   |.bool a,.bool b=>some (a == b)
   |_,_=>none
  |some (.int _)=>match x,y with
   |.int k a,.int k' b=>if k=k' then some (a == b) else none
   |_,_=>none
  |some (.struct fields)=>match x,y with
   |.agg xs,.agg ys=>if P.stoodInHeld t then none else eqF P (eqS P d) xs ys fields.toList
   |_,_=>none
  |_=>none
theorem uB {t:TypeId} {d:TypeDesc} (h:P.underlying t=some d):qd P (underlying t)=some d:=by
 show qd P (Sem.program fun p=>_)=_
 simp only [qd]
 show qd P (Sem.bind (.pure P) _)=_
 simp only [Sem.bind,h]
 rfl
theorem zv6 {d:Nat} {xs ys:Array Value} (ih:∀(t:TypeId) (x y:Value) (b:Bool),eqS P d t x y=some b→qd P (Op.equalIn d t x y)=some b):∀(fs:List Field) (b:Bool),eqF P (eqS P d) xs ys fs=some b→
  qd P (forIn fs ((none,()):Option Bool×Unit) fun f __s=>
      if f.name ≠ "_" then do
       let x ←part f.type xs f.offset
       let y ←part f.type ys f.offset
       let e ←Op.equalIn d f.type x y
       if (!e)=true then pure (ForInStep.done (some false,())) else pure (ForInStep.yield (none,()))
      else pure (ForInStep.yield (none,())))=some (if b then (none,()) else (some false,()))
 |[],b,h=>by
  simp only [eqF,Option.some.injEq] at h
  subst h
  rfl
 |f::fs,b,h=>by
  rw [List.forIn_cons]
  show qd P (Sem.bind _ _)=_
  rw [qX]
  simp only [eqF] at h
  split at h
  ·rename_i hn
   rw [if_neg (by simp [hn])]
   show (Option.bind (qd P (Sem.pure _)) _)=_
   simp only [qd,Option.bind_some]
   exact zv6 ih fs b h
  ·rename_i hn
   rw [if_pos hn]
   split at h
   case h_2=>cases h
   rename_i x y hx hy
   split at h
   case h_2=>cases h
   rename_i e he
   split at h
   case h_2=>cases h
   rename_i c hc
   cases h
   show (Option.bind (qd P (Sem.bind _ _)) _)=_
   rw [qX,hx,Option.bind_some]
   show (Option.bind (qd P (Sem.bind _ _)) _)=_
   rw [qX,hy,Option.bind_some]
   show (Option.bind (qd P (Sem.bind _ _)) _)=_
   rw [qX,ih _ _ _ _ he,Option.bind_some]
   cases e with
   |false=>
    simp only [Bool.not_false,if_true,Bool.false_and]
    rfl
   |true=>
    simp only [Bool.not_true,Bool.false_eq_true,if_false,Bool.true_and]
    show (Option.bind (qd P (Sem.pure _)) _)=_
    simp only [qd,Option.bind_some]
    exact zv6 ih fs c hc
theorem zA0:∀(d:Nat) (t:TypeId) (x y:Value) (b:Bool),eqS P d t x y=some b→qd P (Op.equalIn d t x y)=some b:=by
 intro d
 induction d with
 |zero=>intro t x y b h;cases h
 |succ d ih=>
  intro t x y b h
  simp only [eqS] at h
  unfold Op.equalIn
  split at h
  ·rename_i hu
   split at h
   ·cases h
    show qd P ((underlying t).bind _)=_
    rw [qX,uB hu,Option.bind_some]
    rfl
   ·cases h
  ·rename_i hu
   split at h
   ·split at h
    ·rename_i hk
     cases h
     show qd P ((underlying t).bind _)=_
     rw [qX,uB hu,Option.bind_some]
     simp only [hk,if_true]
     rfl
    ·cases h
   ·cases h
  ·rename_i fields hu
   split at h
   ·rename_i xs ys
    split at h
    ·cases h
    ·rename_i hst
     show qd P ((underlying t).bind _)=_
     rw [qX,uB hu,Option.bind_some]
     dsimp only
     show qd P (Sem.bind program _)=_
     rw [qX]
     show qd P (if P.stoodInHeld t=true then _ else _)=_
     rw [if_neg hst]
     show qd P (Sem.bind (forIn fields (none,()) _) _)=_
     rw [qX,←Array.forIn_toList,zv6 ih fields.toList b h]
     cases b<;>rfl
   ·cases h
  ·cases h
theorem znI {op:BinOp} {t:TypeId} {xo yo:Operand} {xs ys:Array Value} (hg:P.eqGuardType P.depth t=false) (ho:op=.eql∨op=.neq):qd P (eqGuard op t xo yo (.agg xs) (.agg ys))=some ():=by
 rcases ho with rfl | rfl<;>
 ·unfold eqGuard
  show qd P (Sem.bind program _)=_
  rw [qX]
  show qd P (Sem.bind program _)=_
  rw [qX]
  show qd P (if (!P.eqGuardType P.depth t)=true then _ else _)=_
  rw [hg]
  rfl
theorem zD2 {t:TypeId} {xs ys:Array Value} {b:Bool} (hg:P.eqGuardType P.depth t=false) (ha:av (.agg xs)=true) (hb:av (.agg ys)=true) (h:eqS P 10000 t (.agg xs) (.agg ys)=some b) (xo yo:Operand) :
  xI P .eql t xo yo (.agg xs) (.agg ys)=some (.bool b)∧xI P .neq t xo yo (.agg xs) (.agg ys)=some (.bool (!b)):=by
 have he:=zA0 10000 t _ _ b h
 constructor
 ·unfold xI sc
  simp only [ha,hb,Bool.and_self,if_true]
  have:qd P (do eqGuard .eql t xo yo (.agg xs) (.agg ys);binOp .eql t (.agg xs) (.agg ys))=some (.bool b):=by
   show qd P (Sem.bind _ _)=_
   rw [qX,znI hg (.inl rfl),Option.bind_some]
   show qd P (Sem.bind (Op.equalIn 10000 t _ _) _)=_
   rw [qX,he]
   rfl
  rw [this]
  rfl
 ·unfold xI sc
  simp only [ha,hb,Bool.and_self,if_true]
  have:qd P (do eqGuard .neq t xo yo (.agg xs) (.agg ys);binOp .neq t (.agg xs) (.agg ys))=some (.bool (!b)):=by
   show qd P (Sem.bind _ _)=_
   rw [qX,znI hg (.inr rfl),Option.bind_some]
   show qd P (Sem.bind (Op.equalIn 10000 t _ _) _)=_
   rw [qX,he]
   rfl
  rw [this]
  rfl
def zon:Value→Option SV
 |.bool b=>some (.bool b)
 |.int k n=>some (.int k n)
 |.string s=>some (.str s)
 |.pointer none=>some .nilp
 |.slice none 0 0=>some .nils
 |.nilFunc=>some .nilf
 |.map none=>some .nilm
 |_=>none
def zsh:List Value→Option (List SV)
 |[]=>some []
 |v::r=>match zon v,zsh r with
  |some x,some xs=>some (x::xs)
  |_,_=>none
def ofC:Value→Option SV
 |.agg cs=>(zsh cs.toList).map .agg
 |.tuple vs=>(zsh vs.toList).map .tup
 |.func (.func f) ⟨[]⟩ ⟨[]⟩=>some (.fn f [] [])
 |v=>zon v
theorem zoo {ρ:Nat→Value} {v:Value} {x:SV} (h:zon v=some x):den ρ x=v∧av1 v=true:=by
 unfold zon at h
 split at h<;>first | (cases h;exact ⟨by simp [den],rfl⟩) | cases h
theorem zop {ρ:Nat→Value}:∀{vs:List Value} {xs:List SV},zsh vs=some xs→zt ρ xs=vs∧avL vs=true
 |[],xs,h=>by simp only [zsh,Option.some.injEq] at h;subst h;exact ⟨by simp [zt],rfl⟩
 |v::r,xs,h=>by
  simp only [zsh] at h
  split at h
  ·rename_i x ys h1 h2
   cases h
   obtain ⟨e1,e2⟩:=zoo (ρ:=ρ) h1
   obtain ⟨e3,e4⟩:=zop (ρ:=ρ) h2
   exact ⟨by simp [zt,e1,e3],by simp [avL,e2,e4]⟩
  ·cases h
theorem Gh {ρ:Nat→Value} {v:Value} {x:SV} (h:ofC v=some x):den ρ x=v∧av v=true:=by
 unfold ofC at h
 split at h
 ·simp only [Option.map_eq_some_iff] at h
  obtain ⟨xs,h1,rfl⟩:=h
  obtain ⟨e1,e2⟩:=zop (ρ:=ρ) h1
  exact ⟨by simp [den,e1],by simpa [av] using e2⟩
 ·simp only [Option.map_eq_some_iff] at h
  obtain ⟨xs,h1,rfl⟩:=h
  obtain ⟨e1,e2⟩:=zop (ρ:=ρ) h1
  exact ⟨by simp [den,e1],by simpa [av] using e2⟩
 ·cases h
  exact ⟨by simp [den,zt],rfl⟩
 ·obtain ⟨e1,e2⟩:=zoo (ρ:=ρ) h
  refine ⟨e1,?_⟩
  cases v<;>first | exact e2 | (simp [av1] at e2;done) | (simp [zon] at h)
def okV (H:SH):SV→Bool
 |.junk=>false
 |.own b=>(reg (zm H b)).isSome
 |_=>true
def jy (tm:List SV) (H:SH):Operand→Option SV
 |.tmp t=>match gl tm t with
  |some v=>bif okV H v then some v else none
  |none=>none
 |.const c=>ofC c
 |.func f=>some (.fn f [] [])
 |.global _=>none
theorem zY {tm:List SV} {H:SH} {x:Operand} {v:SV} (h:jy tm H x=some v) (ν:Nat→Bool):opv (zt (rho ν H) tm) x=some (den (rho ν H) v):=by
 unfold jy at h
 split at h
 ·rename_i t
  split at h
  case h_2=>cases h
  rename_i u hu
  cases hk:okV H u with
  |false=>rw [hk] at h;cases h
  |true=>
   rw [hk] at h
   cases h
   rw [yJ] at hu
   have h1:(zt (rho ν H) tm)[t]?=some (den (rho ν H) v):=by rw [qt,List.getElem?_map,hu];rfl
   simp only [opv,zdO,h1]
   cases v<;>simp only [den,fzV,okV,Bool.false_eq_true] at hk ⊢
   rename_i b
   unfold rho
   cases hr:reg (zm H b) with
   |none=>rw [hr] at hk;cases hk
   |some x=>obtain ⟨n,s⟩:=x;cases s<;>rfl
 ·obtain ⟨e1,e2⟩:=Gh (ρ:=rho ν H) h
  simp only [opv,e2,if_true,e1]
 ·cases h
  simp [opv,den,zt]
 ·cases h
def zdZ (tm:List SV) (H:SH):List Operand→Option (List SV)
 |[]=>some []
 |x::xs=>match jy tm H x,zdZ tm H xs with
  |some v,some vs=>some (v::vs)
  |_,_=>none
theorem Gi {tm:List SV} {H:SH} (ν:Nat→Bool):∀{xs:List Operand} {vs:List SV},zdZ tm H xs=some vs→GF (zt (rho ν H) tm) xs=some (zt (rho ν H) vs)
 |[],vs,h=>by simp only [zdZ,Option.some.injEq] at h;subst h;simp [GF,zt]
 |x::xs,vs,h=>by
  simp only [zdZ] at h
  split at h
  ·rename_i v us h1 h2
   cases h
   simp only [GF,zY h1 ν,Gi ν h2,zt]
  ·cases h
def zcq (tm:List SV) (H:SH):List (Nat×Operand)→Option (List (Nat×SV))
 |[]=>some []
 |x::xs=>match jy tm H x.2,zcq tm H xs with
  |some v,some vs=>some ((x.1,v)::vs)
  |_,_=>none
theorem zd0 {tm:List SV} {H:SH} (ν:Nat→Bool):∀{xs:List (Nat×Operand)} {vs:List (Nat×SV)},zcq tm H xs=some vs→GG (zt (rho ν H) tm) xs=some (vs.map fun p=>(p.1,den (rho ν H) p.2))
 |[],vs,h=>by simp only [zcq,Option.some.injEq] at h;subst h;simp [GG]
 |x::xs,vs,h=>by
  simp only [zcq] at h
  split at h
  ·rename_i v us h1 h2
   cases h
   simp only [GG,zY h1 ν,zd0 ν h2,List.map_cons]
  ·cases h
def zmy (tm:List SV) (H:SH):Option Operand→Option (Option SV)
 |none=>some none
 |some x=>(jy tm H x).map some
theorem Gj {tm:List SV} {H:SH} {x:Option Operand} {v:Option SV} (h:zmy tm H x=some v) (ν:Nat→Bool):zky (zt (rho ν H) tm) x=some (v.map (den (rho ν H))):=by
 cases x with
 |none=>simp only [zmy,Option.some.injEq] at h;subst h;rfl
 |some x=>
  simp only [zmy,Option.map_eq_some_iff] at h
  obtain ⟨u,h1,rfl⟩:=h
  simp only [zky,zY h1 ν,Option.map_some]
def zmz (P:Program) (t:TypeId) (cs:List SV) (off:Nat):Option SV:=
 match qT P t,qW P t with
 |some d,some i=>bif Jd d then some (.agg ((cs.drop off).take i.size)) else gl cs off
 |_,_=>none
theorem zfU (ρ:Nat→Value) (cs:List SV) (n:Nat):zt ρ (cs.drop n)=(zt ρ cs).drop n:=by simp [qt]
theorem zfV (ρ:Nat→Value) (cs:List SV) (n:Nat):zt ρ (cs.take n)=(zt ρ cs).take n:=by simp [qt]
theorem wa (ρ:Nat→Value) (cs:List SV):(zt ρ cs).length=cs.length:=by simp [qt]
theorem wB (ρ:Nat→Value) (cs:List SV) (n:Nat):(zt ρ cs)[n]?=(cs[n]?).map (den ρ):=by simp [qt]
theorem zfW {ρ:Nat→Value} {t:TypeId} {cs:List SV} {off:Nat} {v:SV} (h:zmz P t cs off=some v):zcj P t (zt ρ cs) off=some (den ρ v):=by
 unfold zmz at h
 unfold zcj
 split at h
 ·rename_i d i hd hi
  simp only [hd,hi]
  cases ha:Jd d with
  |true=>
   rw [ha] at h
   cases h
   simp [den,zfV,zfU]
  |false=>
   rw [ha] at h
   simp only [cond_false,yJ] at h
   simp [wB,h]
 ·cases h
def zv7 (P:Program) (t:TypeId) (f:Nat):SV→Option SV
 |.agg cs=>match qT P t with
  |some (.struct fields)=>match gl fields.toList f with
   |some fl=>zmz P fl.type cs fl.offset
   |none=>none
  |_=>none
 |_=>none
theorem zzE {ρ:Nat→Value} {t:TypeId} {f:Nat} {x v:SV} (h:zv7 P t f x=some v):zg6 P t f (den ρ x)=some (den ρ v):=by
 unfold zv7 at h
 split at h
 case h_2=>cases h
 split at h
 case h_2=>cases h
 rename_i fields hu
 split at h
 case h_2=>cases h
 rename_i fl hf
 rw [yJ] at hf
 have hf':fields[f]?=some fl:=by rw [←hf,Array.getElem?_toList]
 simp only [den,zg6,hu,hf']
 exact zfW h
def zoq (P:Program) (s:TypeId) (f:Nat):Option Nat:=match qT P s with
 |some (.struct fields)=>match gl fields.toList f with
  |some fl=>match qW P fl.type with
   |some i=>bif Nat.beq i.size 0 then none else some fl.offset
   |none=>none
  |none=>none
 |_=>none
theorem zux {s:TypeId} {f n:Nat} (h:zoq P s f=some n):∃fields fl i,qT P s=some (.struct fields)∧fields[f]?=some fl∧qW P fl.type=some i∧i.size≠0∧n=fl.offset:=by
 unfold zoq at h
 split at h
 case h_2=>cases h
 rename_i fields hu
 split at h
 case h_2=>cases h
 rename_i fl hf
 split at h
 case h_2=>cases h
 rename_i i hi
 rw [yJ] at hf
 have hf':fields[f]?=some fl:=by rw [←hf,Array.getElem?_toList]
 cases hz:Nat.beq i.size 0 with
 |true=>rw [hz] at h;cases h
 |false=>
  rw [hz] at h
  cases h
  exact ⟨fields,fl,i,hu,hf',hi,Nat.ne_of_beq_eq_false hz,rfl⟩
def zid (P:Program) (s:TypeId) (f:Nat) (x:SV):Option SV:=match zoq P s f with
 |some n=>match x with
  |.ptr b o=>some (.ptr b (o+n))
  |.elp b z i k=>some (.elp b z i (k+n))
  |.fel t y k=>some (.fel t y (k+n))
  |_=>none
 |none=>none
theorem zsi {ρ:Nat→Value} {s:TypeId} {f:Nat} {x v:SV} (h:zid P s f x=some v) :
  (match We P s f (den ρ x) with | some u=>some u | none=>zg2 P s f (den ρ x))=some (den ρ v):=by
 unfold zid at h
 split at h
 case h_2=>cases h
 rename_i n hn
 obtain ⟨fields,fl,i,h1,h2,h3,h4,rfl⟩:=zux hn
 split at h
 ·cases h
  simp only [den,We,h1,h2,h3,h4,if_false]
 ·cases h
  simp only [den,We,h1,h2,h3,h4,if_false,Nat.add_assoc]
 ·cases h
  simp only [den,We,zg2,zod,h1,h2,h3,h4,if_false]
 ·cases h
def Xl (P:Program) (t:TypeId) (cs:List SV) (o:Nat):Option SV:=match qT P t,qW P t with
 |some d,some i=>bif Jd d then (bif Nat.ble (o+i.size) cs.length then some (.agg ((cs.drop o).take i.size)) else none) else gl cs o
 |_,_=>none
def zvz (P:Program) (H:SH) (t:TypeId):SV→Option SV
 |.ptr b o=>match zm H b with
  |some (.vars cs)=>Xl P t cs o
  |some (.ro cs)=>Xl P t cs o
  |_=>none
 |.fel ty x k=>Xl P t (yp ty x) k
 |_=>none
theorem zkL {ρ:Nat→Value} {t:TypeId} {cs:List SV} {o:Nat} {v:SV} (h:Xl P t cs o=some v) {Hd:Hp} {b:Nat} {ro:Bool} (hb:Hd.get b=some (.cells (zt ρ cs) ro)) :
  gk P Hd t (.pointer (some ⟨b,o,none⟩))=some (den ρ v):=by
 unfold Xl at h
 split at h
 case h_2=>cases h
 rename_i d i hd hi
 simp only [gk,hb,hd,hi]
 cases ha:Jd d with
 |true=>
  rw [ha] at h
  simp only [cond_true] at h
  obtain ⟨h1,h2⟩:=zA h
  cases h2
  have h3:=Nat.le_of_ble_eq_true h1
  simp [den,zfV,zfU,wa,h3]
 |false=>
  rw [ha] at h
  simp only [cond_false,yJ] at h
  simp [wB,h]
theorem zA1 {ρ:Nat→Value} {t:TypeId} {ty:Ty} {x:T ty} {k:Nat} {v:SV} (h:Xl P t (yp ty x) k=some v):zek P t (den ρ (.fel ty x k))=some (den ρ v):=by
 unfold Xl at h
 split at h
 case h_2=>cases h
 rename_i d i hd hi
 have he:ql ty x=zt ρ (yp ty x):=by rw [qt,yc]
 simp only [den,zek,zod,hd,hi,wo,Value.cells]
 cases ha:Jd d with
 |true=>
  rw [ha] at h
  simp only [cond_true] at h
  obtain ⟨h1,h2⟩:=zA h
  cases h2
  have h3:=Nat.le_of_ble_eq_true h1
  rw [YG] at h3
  simp [den,zfV,zfU,he]
  rw [←he,jr];exact h3
 |false=>
  rw [ha] at h
  simp only [cond_false,yJ] at h
  simp [he,wB,h]
theorem ztR {ν:Nat→Bool} {H:SH} {t:TypeId} {a v:SV} (h:zvz P H t a=some v) :
  (match gk P (zE ν H) t (den (rho ν H) a) with | some u=>some u | none=>zek P t (den (rho ν H) a))=some (den (rho ν H) v):=by
 unfold zvz at h
 split at h
 ·rename_i b o
  split at h
  ·rename_i cs hb
   have hd:(zE ν H).get b=some (.cells (zt (rho ν H) cs) false):=by rw [zL,hb];rfl
   simp only [den,zkL h hd]
  ·rename_i cs hb
   have hd:(zE ν H).get b=some (.cells (zt (rho ν H) cs) true):=by rw [zL,hb];rfl
   simp only [den,zkL h hd]
  ·cases h
 ·rename_i ty x k
  have:gk P (zE ν H) t (den (rho ν H) (.fel ty x k))=none:=by simp [den,gk]
  rw [this]
  exact zA1 h
 ·cases h
def kf (op:BinOp) (k:IntKind) (x y:Int):Int:=match op with
 |.and=>k.wrap ((BitVec.ofInt k.bits x&&& BitVec.ofInt k.bits y).toNat)
 |.or=>k.wrap ((BitVec.ofInt k.bits x||| BitVec.ofInt k.bits y).toNat)
 |.xor=>k.wrap ((BitVec.ofInt k.bits x ^^^ BitVec.ofInt k.bits y).toNat)
 |_=>k.wrap ((BitVec.ofInt k.bits x&&& ~~~BitVec.ofInt k.bits y).toNat)
def zCi (op:BinOp) (k:IntKind) (x y:Int):Option SV:=match op with
 |.add=>some (.int k (wrF k (x+y)))
 |.sub=>some (.int k (wrF k (x - y)))
 |.mul=>some (.int k (wrF k (x*y)))
 |.eql=>some (.bool (zo x y))
 |.neq=>some (.bool (!zo x y))
 |.lss=>some (.bool (zi x y))
 |.leq=>some (.bool (!zi y x))
 |.gtr=>some (.bool (zi y x))
 |.geq=>some (.bool (!zi x y))
 |.and=>some (.int k (kf .and k x y))
 |.or=>some (.int k (kf .or k x y))
 |.xor=>some (.int k (kf .xor k x y))
 |.andNot=>some (.int k (kf .andNot k x y))
 |_=>none
theorem zfX (k:IntKind):Wd k k=true:=by cases k<;>rfl
theorem zCj {t:TypeId} {op:BinOp} {k:IntKind} {a b r:Int} (h:qd P (Op.intBits op k a b)=some (.int k r)) (ho:op=.and∨op=.or∨op=.xor∨op=.andNot) (xo yo:Operand):xI P op t xo yo (.int k a) (.int k b)=some (.int k r):=by
 have h1:Km op (.int k a) (.int k b)=none:=by
  unfold Km
  simp only [zfX,cond_true]
  rcases ho with rfl | rfl | rfl | rfl<;>rfl
 have:qd P (do eqGuard op t xo yo (.int k a) (.int k b);binOp op t (.int k a) (.int k b))=some (.int k r):=by
  rcases ho with rfl | rfl | rfl | rfl<;>
  ·show qd P (if k ≠ k then stuck _ else _) = _
   rw [if_neg (by simp)];exact h
 unfold xI sc
 rw [h1,this]
 rfl
theorem zCk {ρ:Nat→Value} {t:TypeId} {op:BinOp} {k:IntKind} {a b:Int} {v:SV} (h:zCi op k a b=some v) (xo yo:Operand):xI P op t xo yo (.int k a) (.int k b)=some (den ρ v):=by
 unfold zCi at h
 split at h<;>first | (cases h;done) | skip
 all_goals first
  |(cases h;unfold xI Km;simp only [zfX,cond_true,den];done)
  |(cases h;exact zCj (P:=P) (t:=t) rfl (by simp) xo yo)
def zzF (op:BinOp) (a b:Bool):Option SV:=match op with
 |.eql=>some (.bool (a == b))
 |.neq=>some (.bool (!(a == b)))
 |_=>none
theorem zA2 {ρ:Nat→Value} {t:TypeId} {d:TypeDesc} (hu:qT P t=some d) (hd:d=.bool) {op:BinOp} {a b:Bool} {v:SV} (h:zzF op a b=some v) (xo yo:Operand):xI P op t xo yo (.bool a) (.bool b)=some (den ρ v):=by
 subst hd
 rw [jg] at hu
 have he:qd P (Op.equalIn 10000 t (.bool a) (.bool b))=some (a == b):=zA0 10000 t _ _ _ (by simp [eqS,hu])
 unfold zzF at h
 split at h
 ·cases h
  have:qd P (do eqGuard .eql t xo yo (.bool a) (.bool b);binOp .eql t (.bool a) (.bool b))=some (.bool (a == b)):=by
   show qd P (Sem.bind (Op.equalIn 10000 t _ _) _)=_
   rw [qX,he];rfl
  have hb:∀op,Km op (.bool a) (.bool b)=none:=fun _=>rfl
  unfold xI sc
  rw [hb,this]
  simp [den,av,av1]
 ·cases h
  have:qd P (do eqGuard .neq t xo yo (.bool a) (.bool b);binOp .neq t (.bool a) (.bool b))=some (.bool (!(a == b))):=by
   show qd P (Sem.bind (Op.equalIn 10000 t _ _) _)=_
   rw [qX,he];rfl
  have hb:∀op,Km op (.bool a) (.bool b)=none:=fun _=>rfl
  unfold xI sc
  rw [hb,this]
  simp [den,av,av1]
 ·cases h
def zsj (P:Program) (eq:TypeId→SV→SV→Option Bool) (xs ys:List SV):List Field→Option Bool
 |[]=>some true
 | f :: fs => if f.name = "_" then zsj P eq xs ys fs else
  match zmz P f.type xs f.offset,zmz P f.type ys f.offset with
  |some x,some y=>match eq f.type x y with
   |some b=>match zsj P eq xs ys fs with
    |some c=>some (b&&c)
    |none=>none
   |none=>none
  |_,_=>none
def zzG (P:Program):Nat→TypeId→SV→SV→Option Bool
 |0,_,_,_=>none
 |d+1,t,x,y=>match qT P t with
  |some .bool=>match x,y with
   |.bool a,.bool b=>some (a == b)
   |_,_=>none
  |some (.int _)=>match x,y with
   |.int k a,.int k' b=>bif Wd k k' then some (zo a b) else none
   |_,_=>none
  |some (.struct fields)=>match x,y with
   |.agg xs,.agg ys=>bif P.stoodInHeld t then none else zsj P (zzG P d) xs ys fields.toList
   |_,_=>none
  |_=>none
theorem zp1 {t:TypeId} {cs:Array Value} {off:Nat} {v:Value} (h:zcj P t cs.toList off=some v):qd P (part t cs off)=some v:=by
 unfold zcj at h
 split at h
 case h_2=>cases h
 rename_i d i hu hi
 rw [jg] at hu
 rw [qZ] at hi
 have h1:qd P (isAgg t)=some (Jd d):=by
  unfold isAgg
  show qd P ((underlying t).bind _)=_
  rw [qX,uB hu,Option.bind_some]
  cases d<;>rfl
 have h2:qd P (sizeOf t)=some i.size:=by
  unfold sizeOf typeInfo
  show qd P (Sem.bind (Sem.bind program _) _)=_
  rw [qX,qX]
  show Option.bind (Option.bind (some P) _) _=_
  simp only [Option.bind_some]
  rw [hi]
  rfl
 unfold part
 show qd P (Sem.bind (isAgg t) _)=_
 rw [qX,h1,Option.bind_some]
 cases ha:Jd d with
 |true=>
  rw [ha] at h
  simp only [if_true,Option.some.injEq] at h
  subst h
  simp only [if_true]
  show qd P (Sem.bind (sizeOf t) _)=_
  rw [qX,h2,Option.bind_some]
  show some _=some _
  congr 2
  apply Array.ext'
  rw [zg5]
 |false=>
  rw [ha] at h
  simp only [Bool.false_eq_true,if_false] at h ⊢
  have:cs[off]?=some v:=by rw [←h,Array.getElem?_toList]
  rw [this]
  rfl
theorem zor {ρ:Nat→Value} {eq:TypeId→SV→SV→Option Bool} {eqV:TypeId→Value→Value→Option Bool} (ih:∀t x y b,eq t x y=some b→eqV t (den ρ x) (den ρ y)=some b) {xs ys:List SV}:∀{fs:List Field} {b:Bool},zsj P eq xs ys fs=some b→
  eqF P eqV (zt ρ xs).toArray (zt ρ ys).toArray fs=some b
 |[],b,h=>by simpa [zsj,eqF] using h
 |f::fs,b,h=>by
  simp only [zsj] at h
  simp only [eqF]
  split at h
  ·rename_i hn
   rw [if_pos hn];exact zor ih h
  ·rename_i hn
   rw [if_neg hn]
   split at h
   case h_2=>cases h
   rename_i x y hx hy
   split at h
   case h_2=>cases h
   rename_i e he
   split at h
   case h_2=>cases h
   rename_i c hc
   cases h
   have h1:=zp1 (cs:=(zt ρ xs).toArray) (zfW (ρ:=ρ) hx)
   have h2:=zp1 (cs:=(zt ρ ys).toArray) (zfW (ρ:=ρ) hy)
   simp only [h1,h2,ih _ _ _ _ he,zor ih hc]
theorem zv8 {ρ:Nat→Value}:∀(d:Nat) (t:TypeId) (x y:SV) (b:Bool),zzG P d t x y=some b→eqS P d t (den ρ x) (den ρ y)=some b
 |0,_,_,_,_,h=>by cases h
 |d+1,t,x,y,b,h=>by
  simp only [zzG,jg] at h
  simp only [eqS]
  split at h
  ·rename_i hu
   split at h
   ·cases h;simp [hu,den]
   ·cases h
  ·rename_i hu
   split at h
   ·obtain ⟨h1,h2⟩:=zA h
    cases h2
    have:=Jh h1
    subst this
    simp [hu,den,ju]
   ·cases h
  ·rename_i fields hu
   split at h
   ·cases hst:P.stoodInHeld t with
    |true=>rw [hst] at h;cases h
    |false=>
     rw [hst] at h
     simp only [hu,den,Bool.false_eq_true,if_false]
     exact zor (fun t x y b=>zv8 d t x y b) h
   ·cases h
  ·cases h
def zkM:List SV→Bool
 |[]=>true
 |v::r=>(match v with | .bool _=>true | .int _ _=>true | .str _=>true | _=>false)&&zkM r
theorem zie {ρ:Nat→Value}:∀{cs:List SV},zkM cs=true→avL (zt ρ cs)=true
 |[],_=>rfl
 |v::r,h=>by
  simp only [zkM,Bool.and_eq_true] at h
  simp only [zt,avL,Bool.and_eq_true]
  refine ⟨?_,zie h.2⟩
  cases v<;>simp at h<;>simp [den,av1]
def eqB (P:Program) (op:BinOp) (t:TypeId) (xs ys:List SV):Option SV:=
 bif zkM xs&&(zkM ys&&!P.eqGuardType P.depth t) then
  match zzG P 10000 t (.agg xs) (.agg ys) with
  |some b=>match op with
   |.eql=>some (.bool b)
   |.neq=>some (.bool (!b))
   |_=>none
  |none=>none
 else none
theorem zD3 {ρ:Nat→Value} {op:BinOp} {t:TypeId} {xs ys:List SV} {v:SV} (h:eqB P op t xs ys=some v) (xo yo:Operand):xI P op t xo yo (den ρ (.agg xs)) (den ρ (.agg ys))=some (den ρ v):=by
 unfold eqB at h
 obtain ⟨h1,h⟩:=zA h
 simp only [Bool.and_eq_true,Bool.not_eq_true'] at h1
 obtain ⟨h1,h2,h3⟩:=h1
 split at h
 case h_2=>cases h
 rename_i b hb
 have h4:=zv8 (ρ:=ρ) _ _ _ _ _ hb
 simp only [den] at h4 ⊢
 have h5:=zD2 h3 (by simpa [av] using zie h1) (by simpa [av] using zie h2) h4 xo yo
 split at h
 ·cases h;simpa [den] using h5.1
 ·cases h;simpa [den] using h5.2
 ·cases h
def toV:SV→Option Value
 |.bool b=>some (.bool b)
 |.int k n=>some (.int k n)
 |.str s=>some (.string s)
 |.nilp=>some (.pointer none)
 |.nils=>some (.slice none 0 0)
 |.nilf=>some .nilFunc
 |.nilm=>some (.map none)
 |_=>none
theorem zmA {ρ:Nat→Value} {v:SV} {u:Value} (h:toV v=some u):den ρ v=u:=by
 unfold toV at h
 split at h<;>first | (cases h;simp [den];done) | cases h
def zCl (op:BinOp) (r:Bool):Option SV:=match op with
 |.eql=>some (.bool r)
 |.neq=>some (.bool (!r))
 |_=>none
def zCm (P:Program) (op:BinOp) (t:TypeId) (a b:SV):Option SV:=match qT P t with
 |some d=>
  let r:Option Bool:=match d,a,b with
   |.pointer _,.ptr _ _,.nilp=>some false
   |.pointer _,.nilp,.ptr _ _=>some false
   |_,_,_=>none
  match r with
  |some r=>zCl op r
  |none=>none
 |none=>none
theorem zCn {ρ:Nat→Value} {op:BinOp} {t:TypeId} {a b v:SV} (h:zCm P op t a b=some v) (xo yo:Operand):xI P op t xo yo (den ρ a) (den ρ b)=some (den ρ v):=by
 unfold zCm at h
 split at h
 case h_2=>cases h
 rename_i d hd
 dsimp only at h
 have key:∀(r:Bool),zei P t (den ρ a) (den ρ b)=some r→(av (den ρ a)&&av (den ρ b))=false→Km op (den ρ a) (den ρ b)=none→zCl op r=some v→xI P op t xo yo (den ρ a) (den ρ b)=some (den ρ v):=by
  intro r h1 h2 h3 h4
  unfold zCl at h4
  unfold xI
  rw [h3]
  simp only [h2,Bool.false_eq_true,if_false]
  split at h4
  ·cases h4;simp [h1,den]
  ·cases h4;simp [h1,den]
  ·cases h4
 split at h
 case h_2=>cases h
 rename_i r hr
 split at hr
 ·cases hr;exact key false (by simp [zei,zdP,den,hd,zfO]) (by simp [den,av,av1]) (by simp [den,Km]) h
 ·cases hr;exact key false (by simp [zei,zdP,den,hd,zfO]) (by simp [den,av,av1]) (by simp [den,Km]) h
 ·cases hr
def zyH:Option TypeDesc→Bool
 |some .bool=>true
 |_=>false
def zCo (P:Program) (op:BinOp) (t:TypeId) (xo yo:Operand) (a b:SV):Option SV:=match a,b with
 |.int k x,.int k' y=>bif Wd k k' then zCi op k x y else none
 |.bool x,.bool y=>bif zyH (qT P t) then zzF op x y else none
 |.agg xs,.agg ys=>eqB P op t xs ys
 |.str x,.str y=>match xI P op t xo yo (.string x) (.string y) with
  |some u=>ofC u
  |none=>none
 |a,b=>match toV a,toV b with
  |some x,some y=>match xI P op t xo yo x y with
   |some u=>ofC u
   |none=>none
  |_,_=>zCm P op t a b
theorem zCp {ρ:Nat→Value} {op:BinOp} {t:TypeId} {xo yo:Operand} {a b v:SV} (h:zCo P op t xo yo a b=some v):xI P op t xo yo (den ρ a) (den ρ b)=some (den ρ v):=by
 unfold zCo at h
 split at h
 ·obtain ⟨h1,h2⟩:=zA h
  have:=Jh h1
  subst this
  simp only [den]
  exact zCk h2 xo yo
 ·obtain ⟨h1,h⟩:=zA h
  unfold zyH at h1
  split at h1
  ·rename_i hu
   simp only [den]
   exact zA2 hu rfl h xo yo
  ·cases h1
 ·exact zD3 h xo yo
 ·split at h
  ·rename_i u hu
   simp only [den,hu,(Gh (ρ:=ρ) h).1]
  ·cases h
 ·split at h
  ·rename_i x y hx hy
   split at h
   ·rename_i u hu
    rw [zmA (ρ:=ρ) hx,zmA (ρ:=ρ) hy,hu,(Gh (ρ:=ρ) h).1]
   ·cases h
  ·exact zCn h xo yo
def unS (P:Program) (op:UnOp) (a:SV):Option SV:=match op,a with
 |.not,.bool b=>some (.bool (!b))
 |.neg,.int k n=>some (.int k (wrF k (0 - n)))
 |op,a=>match toV a with
  |some x=>match zoc P op x with
   |some u=>ofC u
   |none=>none
  |none=>none
theorem zD4 {ρ:Nat→Value} {op:UnOp} {a v:SV} (h:unS P op a=some v):zoc P op (den ρ a)=some (den ρ v):=by
 unfold unS at h
 split at h
 ·cases h;simp [den,zoc]
 ·rename_i k n
  cases h
  have:qd P (Op.unary .neg (.int k n))=some (.int k (k.wrap (0 - n))):=rfl
  simp [den,zoc,av,av1,sc,this,Kz]
 ·split at h
  ·rename_i x hx
   split at h
   ·rename_i u hu
    rw [zmA (ρ:=ρ) hx,hu,(Gh (ρ:=ρ) h).1]
   ·cases h
  ·cases h
def zzH (P:Program) (s d:TypeId) (a:SV):Option SV:=match a with
 |.int k n=>match qT P s,qT P d with
  |some _,some (.int k')=>some (.int k' (wrF k' n))
  |_,_=>none
 |a=>match toV a with
  |some x=>match zgZ P s d x with
   |some u=>ofC u
   |none=>none
  |none=>none
theorem zA3 {ρ:Nat→Value} {s d:TypeId} {a v:SV} (h:zzH P s d a=some v):zgZ P s d (den ρ a)=some (den ρ v):=by
 unfold zzH at h
 split at h
 ·rename_i k n
  split at h
  ·rename_i ds k' h1 h2
   cases h
   rw [jg] at h1 h2
   have:qd P (convert s d (.int k n))=some (.int k' (k'.wrap n)):=by
    unfold convert
    show qd P ((underlying s).bind _)=_
    rw [qX,uB h1,Option.bind_some]
    show qd P ((underlying d).bind _)=_
    rw [qX,uB h2,Option.bind_some]
    cases ds<;>rfl
   simp [den,zgZ,av,av1,sc,this,Kz]
  ·cases h
 ·split at h
  ·rename_i x hx
   split at h
   ·rename_i u hu
    rw [zmA (ρ:=ρ) hx,hu,(Gh (ρ:=ρ) h).1]
   ·cases h
  ·cases h
end Go.Fz.Sy
namespace Go.Fz.Sy
variable {P:Program} {φ:Ren} {K:Nat→Prop} {w:World}
theorem zx7 {ρ ρ':Nat→Value} (hρ:∀b,ρ b≠Fz.junk) (h:RLe ρ ρ') {L:SL} {Lc:Loc} (hb:jo φ w Lc (.loop (wX ρ L))):jo φ w Lc (.loop (wX ρ' L)):=by
 obtain ⟨l',h1,h2,h3,h4,h5,h6,h7,D,h8,h9⟩:=hb
 exact ⟨l',h1,h2,h3,by simpa [wX] using zkK hρ h (by simpa [wX] using h4),h5,h6,h7,D,h8,h9⟩
theorem zv9 {ρ ρ':Nat→Value} (hρ:∀b,ρ b≠Fz.junk) (h:RLe ρ ρ') {nil:Bool} {k:SB} {x:Blk} (hx:zU ρ nil k=some x):∃x',zU ρ' nil k=some x'∧x'.rw=x.rw∧∀φ w L,jo φ w L x→jo φ w L x':=by
 have key:∀(cs:List SV) (ro:Bool) (φ:Ren) (w:World) (L:Loc),jo φ w L (.cells (zt ρ cs) ro)→jo φ w L (.cells (zt ρ' cs) ro):=by
  rintro cs ro φ w L ⟨arr,el,fr,h1,h2,h3⟩
  refine ⟨arr,el,fr,h1,fun j v hv=>?_,h3⟩
  rw [wB,Option.map_eq_some_iff] at hv
  obtain ⟨u,hu,rfl⟩:=hv
  obtain ⟨v',e1,e2⟩:=h2 j (den ρ u) (by rw [wB,hu];rfl)
  exact ⟨v',e1,zbo h u v' e2⟩
 cases k with
 |vars cs=>simp only [zU,Option.some.injEq] at hx;subst hx;exact ⟨_,rfl,rfl,key cs false⟩
 |ro cs=>simp only [zU,Option.some.injEq] at hx;subst hx;exact ⟨_,rfl,rfl,key cs true⟩
 |loop L=>simp only [zU,Option.some.injEq] at hx;subst hx;exact ⟨_,rfl,rfl,fun φ w Lc hb=>zx7 hρ h hb⟩
 |arr nn t l=>exact ⟨x,hx,rfl,fun _ _ _ hb=>hb⟩
 |roa nn t l=>exact ⟨x,hx,rfl,fun _ _ _ hb=>hb⟩
 |fro nn t l=>exact ⟨x,hx,rfl,fun _ _ _ hb=>hb⟩
 |gone s n=>exact ⟨x,hx,rfl,fun _ _ _ hb=>hb⟩
 |defd=>exact ⟨x,hx,rfl,fun _ _ _ hb=>hb⟩
 |hid=>exact ⟨x,hx,rfl,fun _ _ _ hb=>hb⟩
 |mpb k ag t l=>exact ⟨x,hx,rfl,fun _ _ _ hb=>hb⟩
 |abs=>exact ⟨x,hx,rfl,fun _ _ _ hb=>hb⟩
theorem zwa {ν:Nat→Bool} {ρ ρ':Nat→Value} (hρ:∀b,ρ b≠Fz.junk) (h:RLe ρ ρ') {H:SH} (g:zF φ (uf ν ρ H) K w):zF φ (uf ν ρ' H) K w:=by
 have back:∀b k,(uf ν ρ' H).get b=some k→∃k0,(uf ν ρ H).get b=some k0∧k.rw=k0.rw∧∀φ w L,jo φ w L k0→jo φ w L k:=by
  intro b k hk
  rw [xL,Option.bind_eq_some_iff] at hk
  obtain ⟨s,hs,hk⟩:=hk
  have:∃k0,zU ρ (ν b) s=some k0:=by
   cases s with
   |vars=>exact ⟨_,rfl⟩
   |ro=>exact ⟨_,rfl⟩
   |loop=>exact ⟨_,rfl⟩
   |_=>exact ⟨k,hk⟩
  obtain ⟨k0,h0⟩:=this
  obtain ⟨k1,h1,h2,h3⟩:=zv9 hρ h h0
  rw [hk] at h1
  cases h1
  exact ⟨k0,by rw [xL,hs];exact h0,h2,h3⟩
 refine ⟨fun b k hb=>?_,fun b c k k' L L' hb hc hne hkr hL hL'=>?_,fun b k L hb hkr hL=>?_,g.kin,g.fz,fun b k L c M hb hkr hL hM=>?_⟩
 ·obtain ⟨k0,h1,h2,h3⟩:=back b k hb
  obtain ⟨L,hL,hB⟩:=g.rel b k0 h1
  exact ⟨L,hL,h3 _ _ _ hB⟩
 ·obtain ⟨k0,h1,h2,_⟩:=back b k hb
  obtain ⟨k1,h3,_⟩:=back c k' hc
  exact g.sep b c k0 k1 L L' h1 h3 hne (by rw [←h2];exact hkr) hL hL'
 ·obtain ⟨k0,h1,h2,_⟩:=back b k hb
  exact g.prot b k0 L h1 (by rw [←h2];exact hkr) hL
 ·obtain ⟨k0,h1,h2,_⟩:=back b k hb
  exact g.fsep b k0 L c M h1 (by rw [←h2];exact hkr) hL hM
theorem JM {r:Option Nat} {o:Oper} {tm:List Value} {H H' H2:Hp} {nx nx':Nat} {v v2:Value} (h:Kn P r o tm H nx v H' nx') (hv:∀φ v',zr φ v v'→zr φ v2 v') (hH:∀φ K w,zF φ H' K w→zF φ H2 K w):Kn P r o tm H nx v2 H2 nx':=
 ⟨h.1,fun φ w K a rc next Q g hf ht hr hk=>h.2 φ w K a rc next Q g hf ht hr fun v' φ' w' x1 x2 x3 x4=>hk v' φ' w' (hv _ _ x1) x2 (hH _ _ _ x3) x4⟩
theorem zkN {φ φ1:Ren} {lo mid hi:Nat} (hf:yX φ lo hi) (he:∀n,Ext K φ φ1 n n):yX φ1 lo hi:=⟨hf.1,fun b h3 h4=>by rw [(he b).2.1 b (Nat.lt_of_lt_of_le h4 hf.1) (.inr (Nat.le_refl _))];exact hf.2 b h3 h4⟩
theorem zif {r:Option Nat} {o:Oper} {tm:List Value} {H H1:SH} {H':Hp} {nx nx':Nat} {v:Value} {ν:Nat→Bool} (hg:xc H H1) (h:Kn P r o tm (zE ν H1) nx v H' nx'):Kn P r o tm (zE ν H) nx v H' nx':=
 ⟨h.1,fun φ w K a rc next Q g hf ht hr hk=>by
  obtain ⟨φ1,e1,g1⟩:=hg.2 ν φ K w g
  have hle:=(e1 0).1
  refine h.2 φ1 w K a rc next Q g1 (zkN (mid:=0) hf e1) (ht.mono hle) (hr.mono hle) fun v' φ' w' x1 x2 x3 x4=>hk v' φ' w' x1 ?_ x3 x4
  exact ((e1 nx).trans x2 (Nat.le_refl _) h.1)⟩
def SOp (P:Program) (rd:Option Nat) (o:Oper) (tm:List SV) (H:SH) (nx:Nat) (v:SV) (H':SH) (nx':Nat):Prop:=
 jW H H'∧wk H H'∧nx≤nx'∧∀ν,VN ν nx H→VN ν nx' H'∧Kn P rd o (zt (rho ν H) tm) (zE ν H) nx (den (rho ν H') v) (zE ν H') nx'
theorem VN.later {ν:Nat→Bool} {nx nx':Nat} {H:SH} (h:VN ν nx H) (hn:nx≤nx'):VN ν nx' H:=⟨h.empty,fun b hb=>h.old b (by omega),h.nn⟩
theorem uC {rd:Option Nat} {o:Oper} {tm:List SV} {H:SH} {nx nx':Nat} {v:SV} (hn:nx≤nx') (h:∀ν,jT P (zt (rho ν H) tm) (zE ν H) nx o=some (den (rho ν H) v,zE ν H,nx')):SOp P rd o tm H nx v H nx':=
 ⟨jW.refl H,wk.refl H,hn,fun ν hv=>⟨hv.later hn,ka (h ν)⟩⟩
theorem zcL {H:SH} {b:Nat} {cs ds:List SV} (hb:zm H b=some (.vars cs)) (c:Nat):reg (zm (wF H b (.vars ds)) c)=reg (zm H c):=by
 rw [qJ]
 by_cases h:c=b
 ·subst h;simp [hb,reg]
 ·rw [if_neg h]
theorem yY {H H':SH} (h:∀c,reg (zm H' c)=reg (zm H c)) (ν:Nat→Bool):rho ν H'=rho ν H:=by
 funext c;unfold rho;rw [h c]
theorem Ql {H H':SH} (h:∀c,reg (zm H' c)=reg (zm H c)) (h2:∀c,qY (zm H' c)=true→qY (zm H c)=true) {ν:Nat→Bool} {nx:Nat} (v:VN ν nx H):VN ν nx H':=⟨fun b n hr=>v.empty b n (by rw [←h b];exact hr),v.old,fun b hb=>v.nn b (h2 b hb)⟩
theorem zwb {H:SH} {b:Nat} {cs ds:List SV} (hb:zm H b=some (.vars cs)) (c:Nat) (h:qY (zm (wF H b (.vars ds)) c)=true):qY (zm H c)=true:=by
 rw [qJ] at h
 by_cases hc:c=b
 ·subst hc;simp [hb,qY] at h
 ·rwa [if_neg hc] at h
theorem Gk {H:SH} {b:Nat} {k k':SB} (hb:zm H b=some k) (hk:∀L,k≠.loop L):wk H (wF H b k'):=fun l L hl=>by
 refine ⟨L.st,L.pend,?_⟩
 rw [qJ,if_neg]
 ·exact hl
 ·rintro rfl
  rw [hl] at hb;cases hb;exact hk L rfl
theorem zCq {ν:Nat→Bool} {H:SH} {b:Nat} {cs ds:List SV} (hb:zm H b=some (.vars cs)) {Hd:Hp} (hd:Hd=(zE ν H).set b (.cells (zt (rho ν H) ds) false)) (g:zF φ Hd K w):zF φ (zE ν (wF H b (.vars ds))) K w:=by
 refine g.sub fun c k hc=>?_
 rw [zL,qJ,yY (zcL hb)] at hc
 rw [hd,Hp.get_set]
 by_cases h:c=b
 ·subst h
  simp [hb,zU] at hc
  rw [if_pos rfl,zL,hb]
  simp [zU,hc]
 ·rw [if_neg h] at hc ⊢
  rw [zL];exact hc
def Vg:SV→List SV
 |.agg cs=>cs
 |v=>[v]
def zfY:SV→Bool
 |.tup _=>false
 |_=>true
theorem zyI (ν:Nat→Bool) (H:SH) (b:Nat):(rho ν H b).cells=#[rho ν H b]∧(rho ν H b).oneCell'=true∧zb5 (rho ν H b)=true:=by
 unfold rho
 split
 ·exact ⟨rfl,rfl,rfl⟩
 ·exact ⟨rfl,rfl,rfl⟩
 ·exact ⟨rfl,rfl,rfl⟩
theorem YH {ν:Nat→Bool} {H:SH} {v:SV} (h:zfY v=true):(den (rho ν H) v).cells.toList=zt (rho ν H) (Vg v)∧zb5 (den (rho ν H) v)=true:=by
 cases v<;>simp [den,Vg,zt,Value.cells,zb5,zfY,fzV,Fz.junk] at h ⊢
 obtain ⟨h1,_,h3⟩:=zyI ν H ‹Nat›
 refine ⟨?_,h3⟩
 have:=congrArg Array.toList h1
 simpa [Value.cells] using this
def zwc:List SV→Bool
 |[]=>true
 |v::r=>(match v with | .agg _=>false | .tup _=>false | .junk=>false | _=>true)&&zwc r
theorem zwd {ν:Nat→Bool} {H:SH}:∀{cs:List SV},zwc cs=true→Wc (zt (rho ν H) cs)=true
 |[],_=>rfl
 |v::r,h=>by
  simp only [zwc,Bool.and_eq_true] at h
  simp only [zt,Wc,Bool.and_eq_true]
  refine ⟨?_,zwd h.2⟩
  cases v<;>simp [den,Value.oneCell',fzV] at h ⊢
  exact (zyI ν H _).2.1
def zkO (cs:List SV) (o:Nat) (vs:List SV):List SV:=cs.take o++vs++cs.drop (o+vs.length)
theorem zos (ρ:Nat→Value) (cs:List SV) (o:Nat) (vs:List SV):zt ρ (zkO cs o vs)=spl (zt ρ cs) o (zt ρ vs):=by
 simp [zkO,spl,qt]
def zot {α:Type}:List α→Nat→Bool
 |[],n=>Nat.beq n 0
 |_::r,n=>match n with
  |0=>false
  |m+1=>zot r m
theorem zeh {α:Type}:∀{l:List α} {n:Nat},zot l n=true→l.length=n
 |[],n,h=>(Nat.eq_of_beq_eq_true h).symm
 |_::r,0,h=>by cases h
 |_::r,m+1,h=>by simp [zeh (l:=r) h]
def zwe (P:Program) (H:SH) (t:TypeId) (a x:SV):Option SH:=match a with
 |.ptr b o=>match zm H b,qW P t with
  |some (.vars cs),some i=>match Vg x with
   |xs=>bif zfY x&&(zot xs i.size&&(zwc xs&&Nat.ble (o+i.size) cs.length)) then some (match xs with | []=>H | xs=>wF H b (.vars (zkO cs o xs))) else none
  |_,_=>none
 |_=>none
theorem zA4 {rd:Option Nat} {o:Oper} {tm:List SV} {H H':SH} {nx:Nat} {t:TypeId} {ao xo:Operand} {a x:SV} (ho:o.op=.store t ao xo) (ha:jy tm H ao=some a) (hx:jy tm H xo=some x) (h:zwe P H t a x=some H'):SOp P rd o tm H nx (.tup []) H' nx:=by
 unfold zwe at h
 split at h
 case h_2=>cases h
 rename_i b off
 split at h
 case h_2=>cases h
 rename_i cs i hb hi
 dsimp only at h
 obtain ⟨hc,h⟩:=zA h
 simp only [Bool.and_eq_true] at hc
 obtain ⟨h1,h2,h3,h4⟩:=hc
 have h2:=zeh h2
 have h4:=Nat.le_of_ble_eq_true h4
 have hd:∀ν,(zE ν H).get b=some (.cells (zt (rho ν H) cs) false):=fun ν=>by rw [zL,hb];rfl
 have hcond:∀ν,(zb5 (den (rho ν H) x)&&(den (rho ν H) x).cells.toList.length == i.size&&Wc (den (rho ν H) x).cells.toList&&decide (off+(den (rho ν H) x).cells.toList.length≤(zt (rho ν H) cs).length))=true:=fun ν=>by
  obtain ⟨e1,e2⟩:=YH (ν:=ν) (H:=H) h1
  rw [e1,e2,wa,wa,h2,zwd h3]
  simp [h4]
 cases hxs:Vg x with
 |nil=>
  rw [hxs] at h
  cases h
  refine uC (Nat.le_refl _) fun ν=>?_
  unfold jT
  have e0:=hcond ν
  have e1:=(YH (ν:=ν) (H:=H) h1).1
  rw [hxs] at e1
  simp only [ho,zY ha ν,zY hx ν,Option.bind_some]
  simp only [den,zg0,hd ν,hi]
  rw [if_pos e0]
  simp [e1,zt,undef]
 |cons y ys=>
  rw [hxs] at h
  cases h
  refine ⟨fun c z hz=>by rw [zcL hb];exact hz,Gk hb (fun L=>by simp),Nat.le_refl _,fun ν hv=>⟨Ql (zcL hb) (zwb hb) hv,?_⟩⟩
  have e0:=hcond ν
  have e1:=(YH (ν:=ν) (H:=H) h1).1
  have hop:jT P (zt (rho ν H) tm) (zE ν H) nx o=some (undef,(zE ν H).set b (.cells (zt (rho ν H) (zkO cs off (y::ys))) false),nx):=by
   unfold jT
   simp only [ho,zY ha ν,zY hx ν,Option.bind_some]
   simp only [den,zg0,hd ν,hi]
   rw [if_pos e0]
   rw [e1,hxs,zos]
   have:(zt (rho ν H) (y::ys)).isEmpty=false:=by simp [zt]
   simp [this]
  exact JM (ka hop) (fun φ v' hv=>by simpa [den,zt,undef] using hv) (fun φ K w g=>zCq hb rfl g)
def WI (H:SH) (nx:Nat) (k:SB):Option SH:=match zm H nx with
 |none=>some ((nx,k)::H)
 |some _=>none
theorem vL {H H':SH} {nx:Nat} {k:SB} (h:WI H nx k=some H'):zm H nx=none∧H'=(nx,k)::H:=by
 unfold WI at h
 split at h
 ·cases h;exact ⟨by assumption,rfl⟩
 ·cases h
theorem uL {H:SH} {nx:Nat} {k:SB} (h:zm H nx=none):jW H ((nx,k)::H):=fun b x hx=>by
 rw [zH]
 by_cases hb:nx=b
 ·subst hb;rw [h] at hx;cases hx
 ·rw [if_neg hb];exact hx
theorem kT {H:SH} {nx:Nat} {k:SB} (h:zm H nx=none):wk H ((nx,k)::H):=fun l L hl=>by
 refine ⟨L.st,L.pend,?_⟩
 rw [zH]
 by_cases hb:nx=l
 ·subst hb;rw [h] at hl;cases hl
 ·rw [if_neg hb];exact hl
theorem WJ {H:SH} {nx:Nat} {k:SB} {ν:Nat→Bool} (h:VN ν nx H):VN ν (nx+1) ((nx,k)::H):=⟨fun b n hr=>UA hr,fun b hb=>h.old b (by omega),fun b hb=>by
 rw [zH] at hb
 by_cases hbn:nx=b
 ·subst hbn;exact h.old nx (Nat.le_refl _)
 ·rw [if_neg hbn] at hb;exact h.nn b hb⟩
theorem Gl {ν:Nat→Bool} {H:SH} {nx:Nat} {k:SB} {x:Blk} (hn:zm H nx=none) (hx:zU (rho ν ((nx,k)::H)) (ν nx) k=some x) (g:zF φ ((nx,x)::zE ν H) K w):zF φ (zE ν ((nx,k)::H)) K w:=by
 have h1:RLe (rho ν H) (rho ν ((nx,k)::H)):=zet ν (uL hn)
 have hget:∀b,(zE ν ((nx,k)::H)).get b=if b=nx then some x else (uf ν (rho ν ((nx,k)::H)) H).get b:=by
  intro b
  rw [zL,zH,xL]
  by_cases hb:nx=b
  ·subst hb;simp [hx]
  ·have:¬b=nx:=fun e=>hb e.symm
   simp [hb,this]
 have back:∀b k',(zE ν ((nx,k)::H)).get b=some k'→b≠nx→∃k0,(zE ν H).get b=some k0∧k'.rw=k0.rw∧∀φ w L,jo φ w L k0→jo φ w L k':=by
  intro b k' hb hne
  rw [hget,if_neg hne,xL,Option.bind_eq_some_iff] at hb
  obtain ⟨s,hs,hk⟩:=hb
  have:∃k0,zU (rho ν H) (ν b) s=some k0:=by
   cases s with
   |vars=>exact ⟨_,rfl⟩
   |ro=>exact ⟨_,rfl⟩
   |loop=>exact ⟨_,rfl⟩
   |_=>exact ⟨k',hk⟩
  obtain ⟨k0,h0⟩:=this
  obtain ⟨k1,e1,e2,e3⟩:=zv9 (ke ν H) h1 h0
  rw [hk] at e1;cases e1
  exact ⟨k0,by rw [zL,hs];exact h0,e2,e3⟩
 have at_nx:∀k',(zE ν ((nx,k)::H)).get nx=some k'→k'=x:=fun k' hk=>by
  rw [hget,if_pos rfl] at hk;exact (Option.some.inj hk).symm
 have gnx:Hp.get ((nx,x)::zE ν H) nx=some x:=by simp [Hp.get_cons]
 have goth:∀b k0,b≠nx→(zE ν H).get b=some k0→Hp.get ((nx,x)::zE ν H) b=some k0:=fun b k0 hb h0=>by
  have:(nx == b)=false:=by simpa using fun e:nx=b=>hb e.symm
  simp [Hp.get_cons,this,h0]
 have all:∀b k',(zE ν ((nx,k)::H)).get b=some k'→∃k0,Hp.get ((nx,x)::zE ν H) b=some k0∧k'.rw=k0.rw∧∀φ w L,jo φ w L k0→jo φ w L k':=by
  intro b k' hb
  by_cases hbn:b=nx
  ·subst hbn
   have:=at_nx k' hb
   subst this
   exact ⟨k',gnx,rfl,fun _ _ _ h=>h⟩
  ·obtain ⟨k0,e1,e2,e3⟩:=back b k' hb hbn
   exact ⟨k0,goth b k0 hbn e1,e2,e3⟩
 refine ⟨fun b k' hb=>?_,fun b c k1 k2 L L' hb hc hne hkr hL hL'=>?_,fun b k1 L hb hkr hL=>?_,g.kin,g.fz,fun b k1 L c M hb hkr hL hM=>?_⟩
 ·obtain ⟨k0,e1,_,e3⟩:=all b k' hb
  obtain ⟨L,hL,hB⟩:=g.rel b k0 e1
  exact ⟨L,hL,e3 _ _ _ hB⟩
 ·obtain ⟨k0,e1,e2,_⟩:=all b k1 hb
  obtain ⟨k3,e4,_⟩:=all c k2 hc
  exact g.sep b c k0 k3 L L' e1 e4 hne (by rw [←e2];exact hkr) hL hL'
 ·obtain ⟨k0,e1,e2,_⟩:=all b k1 hb
  exact g.prot b k0 L e1 (by rw [←e2];exact hkr) hL
 ·obtain ⟨k0,e1,e2,_⟩:=all b k1 hb
  exact g.fsep b k0 L c M e1 (by rw [←e2];exact hkr) hL hM
theorem zx8 {rd:Option Nat} {o:Oper} {tm:List SV} {H:SH} {nx:Nat} {cs:List SV} (hn:zm H nx=none)
  (h:∀ν,jT P (zt (rho ν H) tm) (zE ν H) nx o=some (.pointer (some ⟨nx,0,none⟩),(nx,.cells (zt (rho ν H) cs) false)::zE ν H,nx+1)):SOp P rd o tm H nx (.ptr nx 0) ((nx,.vars cs)::H) (nx+1):=by
 refine ⟨uL hn,kT hn,Nat.le_succ _,fun ν hv=>⟨WJ hv,JM (ka (h ν)) (fun φ v' hv=>by simpa [den] using hv) (fun φ K w g=>?_)⟩⟩
 have hr:rho ν ((nx,.vars cs)::H)=rho ν H:=yY (fun c=>by
  rw [zH]
  by_cases hc:nx=c
  ·subst hc;simp [hn,reg]
  ·rw [if_neg hc]) ν
 refine Gl hn (x:=.cells (zt (rho ν H) cs) false) ?_ g
 simp [zU,hr]
theorem zp2 {rd:Option Nat} {o:Oper} {tm:List SV} {H:SH} {nx:Nat} {ty:Ty} {l:List (T ty)} (hn:zm H nx=none)
  (h:∀ν,jT P (zt (rho ν H) tm) (zE ν H) nx o=some (.pointer (some ⟨nx,0,none⟩),(nx,.cells (zV ty l) false)::zE ν H,nx+1)):SOp P rd o tm H nx (.ptr nx 0) ((nx,.arr true ty l)::H) (nx+1):=by
 refine ⟨uL hn,kT hn,Nat.le_succ _,fun ν hv=>⟨WJ hv,JM (ka (h ν)) (fun φ v' hv=>by simpa [den] using hv) (fun φ K w g=>?_)⟩⟩
 refine Gl hn (x:=.cells (zV ty l) false) ?_ g
 simp [zU,jD]
def zA5 (P:Program) (t:TypeId):Bool:=match qT P t with
 |some (.array n e)=>Nat.ble 8 n&&(match qT P e with
  |some .bool=>true
  |some (.int _)=>true
  |_=>false)
 |_=>false
def zkP:List SV→Bool
 |[]=>true
 |.bool false::r=>zkP r
 |_=>false
def zvA (k:IntKind):List SV→Bool
 |[]=>true
 |.int k' 0::r=>Wd k k'&&zvA k r
 |_=>false
def zDF:List SV→IntKind
 |.int k _::_=>k
 |_=>.i64
theorem zp3 {ρ:Nat→Value}:∀{cs:List SV},zkP cs=true→zt ρ cs=zV .bool (List.replicate cs.length false)
 |[],_=>by simp [zt,zV]
 |v::r,h=>by
  unfold zkP at h
  split at h
  ·rename_i heq;cases heq
  ·rename_i r' heq
   cases heq
   simp only [zt,den,List.length_cons,List.replicate_succ]
   rw [zp3 h];rfl
  ·cases h
theorem ztS {ρ:Nat→Value} {k:IntKind}:∀{cs:List SV},zvA k cs=true→zt ρ cs=zV (.int k) (List.replicate cs.length (0:Int))
 |[],_=>by simp [zt,zV]
 |v::r,h=>by
  unfold zvA at h
  split at h
  ·rename_i heq;cases heq
  ·rename_i k' r' heq
   cases heq
   simp only [Bool.and_eq_true] at h
   have:=Jh h.1
   subst this
   simp only [zt,den,List.length_cons,List.replicate_succ]
   rw [ztS h.2];rfl
  ·cases h
def zwf (P:Program) (H:SH) (nx:Nat) (t:TypeId):Option SH:=match qW P t with
 |some i=>match i.zero with
  |some z=>match ofC z with
   |some (.agg cs)=>match qT P t with
    |some (.array n _)=>bif zfY (.agg cs)&&zot cs n then (bif zkP cs then WI H nx (.arr true .bool (List.replicate n false)) else bif zvA (zDF cs) cs then WI H nx (.arr true (.int (zDF cs)) (List.replicate n (0:Int))) else none) else none
    |_=>none
   |_=>none
  |none=>none
 |none=>none
theorem zA6 {rd:Option Nat} {o:Oper} {tm:List SV} {H H':SH} {nx:Nat} {t:TypeId} (ho:o.op=.alloc t) (h:zwf P H nx t=some H'):SOp P rd o tm H nx (.ptr nx 0) H' (nx+1):=by
 unfold zwf at h
 split at h
 case h_2=>cases h
 rename_i i hi
 split at h
 case h_2=>cases h
 rename_i z hz
 split at h
 case h_2=>cases h
 rename_i cs hc
 split at h
 case h_2=>cases h
 rename_i n _ hu
 obtain ⟨hf0,h⟩:=zA h
 simp only [Bool.and_eq_true] at hf0
 obtain ⟨hf,hln⟩:=hf0
 have:=zeh hln
 subst this
 have key:∀ν,jT P (zt (rho ν H) tm) (zE ν H) nx o=some (.pointer (some ⟨nx,0,none⟩),(nx,.cells (zt (rho ν H) cs) false)::zE ν H,nx+1):=fun ν=>by
  obtain ⟨e1,e2⟩:=Gh (ρ:=rho ν H) hc
  obtain ⟨e3,e4⟩:=YH (ν:=ν) (H:=H) hf
  rw [e1] at e3 e4
  unfold jT
  simp only [ho,hi,hz,e2,if_true,GI,e4]
  rw [e3]
  rfl
 cases hq:zkP cs with
 |true=>
  rw [hq] at h
  obtain ⟨e1,rfl⟩:=vL h
  exact zp2 e1 fun ν=>by rw [key ν,zp3 hq]
 |false=>
  rw [hq] at h
  simp only [cond_false] at h
  obtain ⟨hz2,h⟩:=zA h
  obtain ⟨e1,rfl⟩:=vL h
  exact zp2 e1 fun ν=>by rw [key ν,ztS hz2]
end Go.Fz.Sy
namespace Go.Fz.Sy
variable {P:Program}
theorem zkQ:∀(xs:List Value) (k off:Nat) (cs:Array Value),off+k+xs.length≤cs.size→
  ((xs.zipIdx k).foldl (fun (cs:Array Value) (p:Value×Nat)=>cs.setIfInBounds (off+p.2) p.1) cs).toList=spl cs.toList (off+k) xs
 |[],k,off,cs,h=>by simp [spl]
 |x::xs,k,off,cs,h=>by
  simp only [List.length_cons] at h
  simp only [List.zipIdx_cons,List.foldl_cons]
  rw [zkQ xs (k+1) off _ (by simp;omega)]
  apply List.ext_getElem?
  intro j
  rw [zef _ _ _ (by simp;omega),zef _ _ _ (by simp;omega)]
  simp only [Array.toList_setIfInBounds,List.getElem?_set,List.length_cons,Array.length_toList]
  by_cases h1:j < off+k
  ·have h2:j < off+(k+1):=by omega
   have h3:¬off+k=j:=by omega
   simp only [h1,h2,h3,if_true,if_false]
  ·by_cases h4:j=off+k
   ·subst h4
    have h2:off+k < off+(k+1):=by omega
    have h5:off+k < off+k+(xs.length+1):=by omega
    have h6:off+k < cs.size:=by omega
    simp only [h1,h2,h5,h6,if_true,if_false,Nat.sub_self,List.getElem?_cons_zero]
   ·have h2:¬j < off+(k+1):=by omega
    simp only [h1,h2,if_false]
    by_cases h7:j < off+(k+1)+xs.length
    ·have h8:j < off+k+(xs.length+1):=by omega
     simp only [h7,h8,if_true]
     have:j - (off+k)=(j - (off+(k+1)))+1:=by omega
     rw [this,List.getElem?_cons_succ]
    ·have h8:¬j < off+k+(xs.length+1):=by omega
     have h3:¬off+k=j:=by omega
     simp only [h7,h8,h3,if_false]
def zig (place:Nat→Option (Nat×Nat)) (cs:List SV):List (Nat×SV)→Option (List SV)
 |[]=>some cs
 |(i,v)::r=>match place i with
  |some (off,size)=>match Vg v with
   |xs=>bif zfY v&&(zot xs size&&Nat.ble (off+size) cs.length) then zig place (zkO cs off xs) r else none
  |none=>none
theorem zfZ {ν:Nat→Bool} {H:SH} (place:Nat→Option (Nat×Nat)):∀{ps:List (Nat×SV)} {cs out:List SV},zig place cs ps=some out→
  Instr.fill place (zt (rho ν H) cs).toArray (ps.map fun p=>(p.1,den (rho ν H) p.2))=some (zt (rho ν H) out).toArray∧zhY (ps.map fun p=>(p.1,den (rho ν H) p.2))=true
 |[],cs,out,h=>by simp only [zig,Option.some.injEq] at h;subst h;exact ⟨rfl,rfl⟩
 |(i,v)::r,cs,out,h=>by
  simp only [zig] at h
  split at h
  case h_2=>cases h
  rename_i off size hp
  obtain ⟨hc,h2⟩:=zA h
  simp only [Bool.and_eq_true] at hc
  obtain ⟨h3,h4,h5⟩:=hc
  have h4:=zeh h4
  have h5:=Nat.le_of_ble_eq_true h5
  obtain ⟨e1,e2⟩:=YH (ν:=ν) (H:=H) h3
  obtain ⟨f1,f2⟩:=zfZ (ν:=ν) (H:=H) place h2
  have hsz:(den (rho ν H) v).cells.size=size:=by
   have:=congrArg List.length e1
   rw [wa,h4] at this
   simpa using this
  refine ⟨?_,by simp only [List.map_cons,zhY,e2,f2,Bool.and_self]⟩
  simp only [List.map_cons,Instr.fill,hp]
  rw [if_neg]
  ·rw [←f1]
   congr 1
   apply Array.ext'
   rw [←Array.foldl_toList,Array.toList_zipIdx]
   have:=zkQ (den (rho ν H) v).cells.toList 0 off (zt (rho ν H) cs).toArray (by simp [hsz,wa];omega)
   rw [this,zos,e1]
   rfl
  ·simp [hsz,wa];omega
def zwg (P:Program) (t:TypeId) (ps:List (Nat×SV)):Option SV:=match qW P t with
 |some i=>match i.zero with
  |some z=>match ofC z with
   |some (.agg zs)=>match qT P t with
    |some (.struct fields)=>match zyD P fields with
     |some places=>(zig (fun i=>places[i]?) zs ps).map .agg
     |none=>none
    |some (.array _ e)=>match qW P e with
     |some ie=>(zig (fun i=>some (i*ie.size,ie.size)) zs ps).map .agg
     |none=>none
    |_=>none
   |_=>none
  |none=>none
 |none=>none
theorem zzI {ν:Nat→Bool} {H:SH} {t:TypeId} {ps:List (Nat×SV)} {v:SV} (h:zwg P t ps=some v):zg4 P t (ps.map fun p=>(p.1,den (rho ν H) p.2))=some (den (rho ν H) v):=by
 unfold zwg at h
 split at h
 case h_2=>cases h
 rename_i i hi
 split at h
 case h_2=>cases h
 rename_i z hz
 split at h
 case h_2=>cases h
 rename_i zs hzs
 obtain ⟨e1,e2⟩:=Gh (ρ:=rho ν H) hzs
 simp only [den] at e1
 have e3:z.cells=(zt (rho ν H) zs).toArray:=by rw [←e1];rfl
 have e4:avL (zt (rho ν H) zs)=true:=by
  rw [←e1] at e2
  simpa [av] using e2
 unfold zg4
 split at h
 ·rename_i fields hu
  split at h
  case h_2=>cases h
  rename_i places hp
  simp only [Option.map_eq_some_iff] at h
  obtain ⟨out,ho,rfl⟩:=h
  obtain ⟨f1,f2⟩:=zfZ (ν:=ν) (H:=H) _ ho
  simp only [hi,hz,e3,e4,f2,Bool.and_self,if_true,hu,hp]
  rw [f1]
  simp [den]
 ·rename_i n e hu
  split at h
  case h_2=>cases h
  rename_i ie hie
  simp only [Option.map_eq_some_iff] at h
  obtain ⟨out,ho,rfl⟩:=h
  obtain ⟨f1,f2⟩:=zfZ (ν:=ν) (H:=H) _ ho
  simp only [hi,hz,e3,e4,f2,Bool.and_self,if_true,hu,hie]
  rw [f1]
  simp [den]
 ·cases h
def zCr (P:Program) (H:SH) (t:TypeId) (v:SV):Option SV:=match qT P t with
 |some (.slice _)=>match v with
  |.lst ty l _=>some (.int .i64 l.length)
  |.nils=>some (.int .i64 0)
  |.slv _ n=>some (.int .i64 n)
  |_=>none
 |some .string=>match v with
  |.str s=>some (.int .i64 s.size)
  |_=>none
 |_=>none
theorem zCs {ν:Nat→Bool} {H:SH} {t:TypeId} {x v:SV} (h:zCr P H t x=some v):GH P t (den (rho ν H) x)=some (den (rho ν H) v):=by
 unfold zCr at h
 split at h
 ·rename_i e hu
  split at h
  ·rename_i ty l full
   cases h
   cases full<;>simp [den,GH,fzV,gg,hu,goInt]
  ·cases h
   simp [den,GH,hu,goInt]
  ·cases h
   simp [den,GH,hu,goInt]
  ·cases h
 ·rename_i hu
  split at h
  ·rename_i s
   cases h
   rw [jg] at hu
   have:qd P (Builtin.len_ #[t] 0 #[.string s])=some (goInt s.size):=by
    unfold Builtin.len_
    show qd P ((underlying t).bind _)=_
    rw [qX,uB hu,Option.bind_some]
    rfl
   simp [den,GH,gg,av,av1,sc,this,goInt]
  ·cases h
 ·cases h
def jh (x y:Int):Int:=bif zi y x then y else x
def vq (x y:Int):Int:=bif zi x y then y else x
def Qm (k:IntKind) (x:Int):List SV→Option Int
 |[]=>some x
 |.int k' y::r=>bif Wd k k' then Qm k (jh x y) r else none
 |_=>none
def Qn (k:IntKind) (x:Int):List SV→Option Int
 |[]=>some x
 |.int k' y::r=>bif Wd k k' then Qn k (vq x y) r else none
 |_=>none
theorem zCt (k k':IntKind) (x y:Int):Builtin.min2 (.int k x) (.int k' y)=pure (.int k (jh x y)):=by
 simp only [Builtin.min2,jh,xb]
 by_cases h:y < x<;>simp [h]
theorem zCu (k k':IntKind) (x y:Int):Builtin.max2 (.int k x) (.int k' y)=pure (.int k (vq x y)):=by
 simp only [Builtin.max2,vq,xb]
 by_cases h:x < y<;>simp [h]
theorem zwh {ρ:Nat→Value} {k:IntKind}:∀{r:List SV} {x z:Int},Qm k x r=some z→qd P ((zt ρ r).foldlM Builtin.min2 (.int k x))=some (.int k z)∧avL (zt ρ r)=true
 |[],x,z,h=>by simp only [Qm,Option.some.injEq] at h;subst h;exact ⟨rfl,rfl⟩
 |.int k' y::r,x,z,h=>by
  simp only [Qm] at h
  obtain ⟨h1,h2⟩:=zA h
  obtain ⟨e1,e2⟩:=zwh (ρ:=ρ) h2
  refine ⟨?_,by simp [zt,den,avL,av1,e2]⟩
  simp only [zt,den,List.foldlM_cons,zCt]
  exact e1
 |.bool _::_,_,_,h=>by simp [Qm] at h
 |.str _::_,_,_,h=>by simp [Qm] at h
 |.agg _::_,_,_,h=>by simp [Qm] at h
 |.tup _::_,_,_,h=>by simp [Qm] at h
 |.ptr _ _::_,_,_,h=>by simp [Qm] at h
 |.nilp::_,_,_,h=>by simp [Qm] at h
 |.lst _ _ _::_,_,_,h=>by simp [Qm] at h
 |.own _::_,_,_,h=>by simp [Qm] at h
 |.nils::_,_,_,h=>by simp [Qm] at h
 |.elp _ _ _ _::_,_,_,h=>by simp [Qm] at h
 |.fel _ _ _::_,_,_,h=>by simp [Qm] at h
 |.fn _ _ _::_,_,_,h=>by simp [Qm] at h
 |.yld _::_,_,_,h=>by simp [Qm] at h
 |.nilf::_,_,_,h=>by simp [Qm] at h
 |.nilm::_,_,_,h=>by simp [Qm] at h
 |.mp _::_,_,_,h=>by simp [Qm] at h
 |.slv _ _::_,_,_,h=>by simp [Qm] at h
 |.junk::_,_,_,h=>by simp [Qm] at h
theorem zwi {ρ:Nat→Value} {k:IntKind}:∀{r:List SV} {x z:Int},Qn k x r=some z→qd P ((zt ρ r).foldlM Builtin.max2 (.int k x))=some (.int k z)∧avL (zt ρ r)=true
 |[],x,z,h=>by simp only [Qn,Option.some.injEq] at h;subst h;exact ⟨rfl,rfl⟩
 |.int k' y::r,x,z,h=>by
  simp only [Qn] at h
  obtain ⟨h1,h2⟩:=zA h
  obtain ⟨e1,e2⟩:=zwi (ρ:=ρ) h2
  refine ⟨?_,by simp [zt,den,avL,av1,e2]⟩
  simp only [zt,den,List.foldlM_cons,zCu]
  exact e1
 |.bool _::_,_,_,h=>by simp [Qn] at h
 |.str _::_,_,_,h=>by simp [Qn] at h
 |.agg _::_,_,_,h=>by simp [Qn] at h
 |.tup _::_,_,_,h=>by simp [Qn] at h
 |.ptr _ _::_,_,_,h=>by simp [Qn] at h
 |.nilp::_,_,_,h=>by simp [Qn] at h
 |.lst _ _ _::_,_,_,h=>by simp [Qn] at h
 |.own _::_,_,_,h=>by simp [Qn] at h
 |.nils::_,_,_,h=>by simp [Qn] at h
 |.elp _ _ _ _::_,_,_,h=>by simp [Qn] at h
 |.fel _ _ _::_,_,_,h=>by simp [Qn] at h
 |.fn _ _ _::_,_,_,h=>by simp [Qn] at h
 |.yld _::_,_,_,h=>by simp [Qn] at h
 |.nilf::_,_,_,h=>by simp [Qn] at h
 |.nilm::_,_,_,h=>by simp [Qn] at h
 |.mp _::_,_,_,h=>by simp [Qn] at h
 |.slv _ _::_,_,_,h=>by simp [Qn] at h
 |.junk::_,_,_,h=>by simp [Qn] at h
def zwj (P:Program) (H:SH) (b:Builtin) (ts:List TypeId) (vs:List SV):Option SV:=match b,ts,vs with
 |.len,[t],[x]=>zCr P H t x
 |.min,_,.int k x::r=>(Qm k x r).map (.int k)
 |.max,_,.int k x::r=>(Qn k x r).map (.int k)
 |_,_,_=>none
theorem zDG {s:Sem Value} {v:Value} (h:qd P s=some v) (hv:av v=true):sc P s=some v:=by unfold sc;rw [h];simp [hv]
def zEU (n:Nat):SV→Option SV
 |.tup vs=>gl vs n
 |_=>none
def zzJ (P:Program) (tm:List SV) (H:SH) (nx:Nat) (o:Oper):Option (SV×SH×Nat):=
 let un (v:Option SV):Option (SV×SH×Nat):=match v with
  |some v=>some (v,H,nx)
  |none=>none
 let new (v:SV):Option (SV×SH×Nat):=bif zfY v then match WI H nx (.vars (Vg v)) with
  |some H'=>some (.ptr nx 0,H',nx+1)
  |none=>none
  else none
 match o.op with
 |.move x=>un (jy tm H x)
 |.assign x=>un (jy tm H x)
 |.alloc t=>bif zA5 P t then (match zwf P H nx t with
   |some H'=>some (.ptr nx 0,H',nx+1)
   |none=>none)
  else match qW P t with
  |some i=>match i.zero with
   |some z=>match ofC z with
    |some v=>new v
    |none=>none
   |none=>none
  |none=>none
 |.box t x=>match jy tm H x with
  |some v=>new v
  |none=>none
 |.build t ps=>match zcq tm H ps.toList with
  |some vs=>un (zwg P t vs)
  |none=>none
 |.load t a=>match jy tm H a with
  |some v=>un (zvz P H t v)
  |none=>none
 |.store t a x=>match jy tm H a,jy tm H x with
  |some va,some vx=>match zwe P H t va vx with
   |some H'=>some (.tup [],H',nx)
   |none=>none
  |_,_=>none
 |.nilCheck x=>match jy tm H x with
  |some (.ptr b o)=>some (.ptr b o,H,nx)
  |some (.fn f a b)=>some (.fn f a b,H,nx)
  |some (.yld l)=>some (.yld l,H,nx)
  |_=>none
 |.binOp op t x y _=>match jy tm H x,jy tm H y with
  |some a,some b=>un (zCo P op t x y a b)
  |_,_=>none
 |.unOp op _ x=>match jy tm H x with
  |some a=>un (unS P op a)
  |none=>none
 |.convert s d x=>match jy tm H x with
  |some a=>un (zzH P s d a)
  |none=>none
 |.makeFunc (.func f) fs cs=>match zdZ tm H fs.toList,zdZ tm H cs.toList with
  |some a,some b=>some (.fn f a b,H,nx)
  |_,_=>none
 |.fieldAddr s x f=>match jy tm H x with
  |some v=>un (zid P s f v)
  |none=>none
 |.field t x f=>match jy tm H x with
  |some v=>un (zv7 P t f v)
  |none=>none
 |.extract x n=>match jy tm H x with
  |some v=>un (zEU n v)
  |none=>none
 |.call {callee:=.builtin b,args,argTypes}=>match zdZ tm H args.toList with
  |some vs=>match zwj P H b argTypes.toList vs with
   |some v=>some (v,H,nx+1)
   |none=>none
  |none=>none
 |_=>none
theorem zA7 {rd:Option Nat} {o:Oper} {tm:List SV} {H H':SH} {nx nx':Nat} {x v:SV} (h:(bif zfY x then match WI H nx (.vars (Vg x)) with
  |some H'=>some (SV.ptr nx 0,H',nx+1)
  |none=>none
  else none)=some (v,H',nx')) (hop:∀ν,jT P (zt (rho ν H) tm) (zE ν H) nx o=GI (zE ν H) nx (den (rho ν H) x)):SOp P rd o tm H nx v H' nx':=by
 obtain ⟨h1,h2⟩:=zA h
 split at h2
 case h_2=>cases h2
 rename_i H2 hn
 cases h2
 obtain ⟨e1,rfl⟩:=vL hn
 refine zx8 e1 fun ν=>?_
 obtain ⟨e2,e3⟩:=YH (ν:=ν) (H:=H) h1
 rw [hop ν]
 unfold GI
 simp [e3,e2]
theorem zb6 {rd:Option Nat} {o:Oper} {tm:List SV} {H H':SH} {nx nx':Nat} {x:Option SV} {v:SV} (h:(match x with
  |some v=>some (v,H,nx)
  |none=>none)=some (v,H',nx')) (hop:∀y,x=some y→∀ν,jT P (zt (rho ν H) tm) (zE ν H) nx o=some (den (rho ν H) y,zE ν H,nx)):SOp P rd o tm H nx v H' nx':=by
 split at h
 ·rename_i y
  cases h
  exact uC (Nat.le_refl _) fun ν=>hop _ rfl ν
 ·cases h
theorem YI {r:Option Nat} {o:Oper} {tm:List Value} {H H':Hp} {nx nx':Nat} {v:Value} (hle:nx≤nx') (hnd:∀c,o.op≠.defer c)
  (h:∀(φ:Ren) (w:World) (K:Nat→Prop) (a:Act),zF φ H K w→yX φ nx nx'→qI φ tm a.tmps→zmw P φ K w nx (execOp a.eval o) v H' nx'):Kn P r o tm H nx v H' nx':=by
 refine ⟨hle,fun φ w K a rc next Q g hf ht hr hk=>⟨zbm,?_⟩⟩
 obtain ⟨nxt,w',φ',v',h1,h2,h3,h4,h5,h6,h7⟩:=h φ w K a g hf ht
 rw [Oper.semAt_eq _ _ _ hnd,h1]
 rcases h2 with rfl | ⟨rfl,rfl⟩
 ·exact hk v' φ' w' h3 h4 h5 h6
 ·exact hk undef φ' w' h3 h4 h5 h6
theorem zD5 {rd:Option Nat} {o:Oper} {tm:List SV} {H H':SH} {nx nx':Nat} {v:SV} (h:zzJ P tm H nx o=some (v,H',nx')):SOp P rd o tm H nx v H' nx':=by
 unfold zzJ at h
 dsimp only at h
 split at h
 ·rename_i x ho
  refine zb6 h fun y hy ν=>?_
  unfold jT;simp only [ho,zY hy ν];rfl
 ·rename_i x ho
  refine zb6 h fun y hy ν=>?_
  unfold jT;simp only [ho,zY hy ν];rfl
 ·rename_i t ho
  cases hq:zA5 P t with
  |true=>
   rw [hq] at h
   simp only [cond_true] at h
   split at h
   ·rename_i H2 ha
    cases h
    exact zA6 ho ha
   ·cases h
  |false=>
  rw [hq] at h
  simp only [cond_false] at h
  split at h
  case h_2=>cases h
  rename_i i hi
  split at h
  case h_2=>cases h
  rename_i z hz
  split at h
  case h_2=>cases h
  rename_i x hx
  refine zA7 h fun ν=>?_
  obtain ⟨e1,e2⟩:=Gh (ρ:=rho ν H) hx
  unfold jT;simp only [ho,hi,hz,e2,if_true,e1]
 ·rename_i t xo ho
  split at h
  case h_2=>cases h
  rename_i x hx
  refine zA7 h fun ν=>?_
  unfold jT;simp only [ho,zY hx ν,Option.bind_some]
 ·rename_i t ps ho
  split at h
  case h_2=>cases h
  rename_i vs hvs
  refine zb6 h fun y hy ν=>?_
  unfold jT;simp only [ho,zd0 ν hvs,Option.bind_some,zzI (ν:=ν) (H:=H) hy];rfl
 ·rename_i t a ho
  split at h
  case h_2=>cases h
  rename_i x hx
  refine zb6 h fun y hy ν=>?_
  unfold jT;simp only [ho,zY hx ν,Option.bind_some];exact congrArg (un1 (zE ν H) nx) (ztR (ν:=ν) hy)
 ·rename_i t a x ho
  split at h
  case h_2=>cases h
  rename_i va vx ha hx
  split at h
  case h_2=>cases h
  rename_i H2 hs
  cases h
  exact zA4 ho ha hx hs
 ·rename_i x ho
  split at h
  ·rename_i b off hx
   cases h
   refine uC (Nat.le_refl _) fun ν=>?_
   unfold jT;simp only [ho,zY hx ν,den]
  ·rename_i f a b hx
   cases h
   refine uC (Nat.le_refl _) fun ν=>?_
   unfold jT;simp only [ho,zY hx ν,den]
  ·rename_i l hx
   cases h
   refine uC (Nat.le_refl _) fun ν=>?_
   unfold jT;simp only [ho,zY hx ν,den]
  ·cases h
 ·rename_i op t x y u ho
  split at h
  case h_2=>cases h
  rename_i a b ha hb
  refine zb6 h fun z hz ν=>?_
  unfold jT;simp only [ho,zY ha ν,zY hb ν,Option.bind_some,zCp (ρ:=rho ν H) hz];rfl
 ·rename_i op t x ho
  split at h
  case h_2=>cases h
  rename_i a ha
  refine zb6 h fun z hz ν=>?_
  unfold jT;simp only [ho,zY ha ν,Option.bind_some,zD4 (ρ:=rho ν H) hz];rfl
 ·rename_i s d x ho
  split at h
  case h_2=>cases h
  rename_i a ha
  refine zb6 h fun z hz ν=>?_
  unfold jT;simp only [ho,zY ha ν,Option.bind_some,zA3 (ρ:=rho ν H) hz];rfl
 ·rename_i f fs cs ho
  split at h
  case h_2=>cases h
  rename_i a b ha hb
  cases h
  refine uC (Nat.le_refl _) fun ν=>?_
  unfold jT;simp only [ho,Gi ν ha,Gi ν hb,Option.bind_some,den]
 ·rename_i s x f ho
  split at h
  case h_2=>cases h
  rename_i a ha
  refine zb6 h fun z hz ν=>?_
  unfold jT;simp only [ho,zY ha ν,Option.bind_some];exact congrArg (un1 (zE ν H) nx) (zsi (ρ:=rho ν H) hz)
 ·rename_i t x f ho
  split at h
  case h_2=>cases h
  rename_i a ha
  refine zb6 h fun z hz ν=>?_
  unfold jT;simp only [ho,zY ha ν,Option.bind_some,zzE (ρ:=rho ν H) hz];rfl
 ·rename_i x n ho
  split at h
  case h_2=>cases h
  rename_i a ha
  refine zb6 h fun z hz ν=>?_
  have:zck n (den (rho ν H) a)=some (den (rho ν H) z):=by
   unfold zEU at hz
   split at hz
   ·rename_i vs
    rw [yJ] at hz
    simp [den,zck,wB,hz]
   ·cases hz
  unfold jT;simp only [ho,zY ha ν,Option.bind_some,this];rfl
 ·rename_i b args ats ho
  split at h
  case h_2=>cases h
  rename_i vs hvs
  split at h
  case h_2=>cases h
  rename_i y hb
  cases h
  have plainc:(∀ν,ZQ P (zE ν H) nx b ats.toList o.type (zt (rho ν H) vs)=some (den (rho ν H) v,zE ν H,nx+1))→SOp P rd o tm H nx v H (nx+1):=fun hd=>
   uC (Nat.le_succ _) fun ν=>by
    unfold jT;simp only [ho,Gi ν hvs,Option.bind_some,hd ν]
  unfold zwj at hb
  split at hb
  ·rename_i t x hats
   refine plainc fun ν=>?_
   simp only [hats,ZQ,zt,zCs (ν:=ν) hb];rfl
  ·rename_i k x r
   simp only [Option.map_eq_some_iff] at hb
   obtain ⟨z,hz,rfl⟩:=hb
   refine plainc fun ν=>?_
   obtain ⟨e1,e2⟩:=zwh (P:=P) (ρ:=rho ν H) hz
   have h3:qd P (Builtin.min_ ats.toList.toArray o.type (zt (rho ν H) (.int k x::r)).toArray)=some (.int k z):=by
    simp only [Builtin.min_,zt,den]
    exact e1
   have h4:avL (zt (rho ν H) (.int k x::r))=true:=by simp [zt,den,avL,av1,e2]
   simp only [ZQ,h4,if_true,zDG h3 rfl,den];rfl
  ·rename_i k x r
   simp only [Option.map_eq_some_iff] at hb
   obtain ⟨z,hz,rfl⟩:=hb
   refine plainc fun ν=>?_
   obtain ⟨e1,e2⟩:=zwi (P:=P) (ρ:=rho ν H) hz
   have h3:qd P (Builtin.max_ ats.toList.toArray o.type (zt (rho ν H) (.int k x::r)).toArray)=some (.int k z):=by
    simp only [Builtin.max_,zt,den]
    exact e1
   have h4:avL (zt (rho ν H) (.int k x::r))=true:=by simp [zt,den,avL,av1,e2]
   simp only [ZQ,h4,if_true,zDG h3 rfl,den];rfl
  ·cases hb
 ·cases h
end Go.Fz.Sy
namespace Go.Fz.Sy
variable {P:Program} {φ:Ren} {H:Hp} {K:Nat→Prop} {w:World}
theorem zA8 (g:zF φ H K w) {nx b:Nat} (hfr:φ nx=none) (hzn:nx < FZ) {cs:List Value} (hb:H.get b=some (.cells cs false)) :
  ∃φ',Ext K φ φ' nx (nx+1)∧zF φ' ((nx,.cells cs false)::H.del b) K w∧(∀L,φ b=some L→φ' nx=some L):=by
 obtain ⟨L,hL,hB⟩:=g.rel b _ hb
 have hle:=Ren.put_le hfr L
 have getd:∀d,Hp.get ((nx,Blk.cells cs false)::H.del b) d=if d=nx then some (.cells cs false) else if d=b then none else H.get d:=by
  intro d
  by_cases h:d=nx
  ·subst h;simp [Hp.get_cons]
  ·have:¬nx=d:=fun e=>h e.symm
   simp [Hp.get_cons,h,this,Hp.get_del]
 refine ⟨φ.put nx L,Ext.put hfr hzn _,⟨fun d k hd=>?_,fun d d' k k' M M' hd hd' hne hk hM hM'=>?_,fun d k M hd hk hM=>?_,g.kin,fun d M hM=>?_,fun d k M e N hd hk hM hN=>?_⟩,fun L2 h2=>?_⟩
 ·rw [getd] at hd
  by_cases hdn:d=nx
  ·subst hdn
   simp at hd
   subst hd
   exact ⟨L,Ren.put_same _ _ _,hB.mono hle⟩
  ·simp [hdn] at hd
   obtain ⟨M,hM,hr⟩:=g.rel d k hd.2
   exact ⟨M,by rw [Ren.put_other _ _ hdn];exact hM,hr.mono hle⟩
 ·rw [getd] at hd hd'
  by_cases hdn:d=nx
  ·subst hdn
   have hdn':¬d'=d:=fun e=>hne e.symm
   simp [hdn'] at hd'
   rw [Ren.put_same] at hM;cases hM
   rw [Ren.put_other _ _ hdn'] at hM'
   exact g.sep b d' _ k' L M' hb hd'.2 (fun e=>hd'.1 e.symm) rfl hL hM'
  ·simp [hdn] at hd
   rw [Ren.put_other _ _ hdn] at hM
   by_cases hdn':d'=nx
   ·subst hdn'
    rw [Ren.put_same] at hM';cases hM'
    exact g.sep d b k _ M L hd.2 hb hd.1 hk hM hL
   ·simp [hdn'] at hd'
    rw [Ren.put_other _ _ hdn'] at hM'
    exact g.sep d d' k k' M M' hd.2 hd'.2 hne hk hM hM'
 ·rw [getd] at hd
  by_cases hdn:d=nx
  ·subst hdn
   rw [Ren.put_same] at hM;cases hM
   exact g.prot b _ L hb rfl hL
  ·simp [hdn] at hd
   rw [Ren.put_other _ _ hdn] at hM
   exact g.prot d k M hd.2 hk hM
 ·rw [Ren.put_other _ _ (by omega)] at hM
  exact g.fz d M hM
 ·rw [Ren.put_other _ _ (by omega)] at hN
  rw [getd] at hd
  by_cases hdn:d=nx
  ·subst hdn
   rw [Ren.put_same] at hM;cases hM
   exact g.fsep b _ L e N hb rfl hL hN
  ·simp [hdn] at hd
   rw [Ren.put_other _ _ hdn] at hM
   exact g.fsep d k M e N hd.2 hk hM hN
 ·rw [hL] at h2;cases h2;exact Ren.put_same _ _ _
theorem zx9 (g:zF φ H K w) {nx:Nat} (hfr:φ nx=none) (hzn:nx < FZ) {t e:TypeId} {ie:TypeInfo} {z:Value} {kl kc:IntKind} {zl zc:Int}
  (hu:P.underlying t=some (.slice e)) (hie:P.info? e=some ie) (hz:ie.zero=some z) (hw1:IntKind.i64.wrap zl=zl) (hw2:IntKind.i64.wrap zc=zc) (h0:0≤zl) (h1:zl≤zc) (h48:(ie.bytes:Int)*zc≤2 ^ 48)
  (hpos:0 < z.cells.size) (hzs:z.cells.size=ie.size) (hav:avL z.cells.toList=true) {cs:List Value} (hcs:cs=(List.replicate zl.toNat z.cells.toList).flatten) :
  ∃v' w' φ',(Instr.makeSlice t (.int kl zl) (.int kc zc)).run P w=.ok v' w'∧zr φ' (.slice (some ⟨nx,0,none⟩) zl.toNat (qg+ie.size)) v'∧Ext K φ φ' nx (nx+1)∧zF φ' ((nx,.cells cs false)::H) K w'∧qw K w w':=by
 have hall:∀n:Nat,((Array.range (n*ie.size)).map (z.cells[· % z.cells.size]!)).toList=(List.replicate n z.cells.toList).flatten:=by
  intro n
  rw [Array.toList_map,Array.toList_range]
  induction n with
  |zero=>simp
  |succ n ih=>
   have e1:(n+1)*ie.size=n*ie.size+ie.size:=by rw [Nat.add_mul,Nat.one_mul]
   rw [List.replicate_succ',List.flatten_append,←ih,e1,List.range_add,List.map_append]
   congr 1
   simp only [List.map_map,List.flatten_cons,List.flatten_nil,List.append_nil]
   apply List.ext_getElem
   ·simp [hzs]
   ·intro j h2 h3
    have hj:j < z.cells.size:=by simpa using h3
    simp only [List.getElem_map,List.getElem_range,Function.comp]
    have:(n*ie.size+j) % z.cells.size=j:=by
     rw [hzs,Nat.mul_comm,Nat.mul_add_mod]
     exact Nat.mod_eq_of_lt (by omega)
    rw [this]
    simp [hj]
 have hlen:∀n:Nat,((List.replicate n z.cells.toList).flatten).length=n*ie.size:=fun n=>by simp [hzs]
 have havn:∀n:Nat,avL (List.replicate n z.cells.toList).flatten=true:=by
  intro n
  have happ:∀(a b:List Value),avL a=true→avL b=true→avL (a++b)=true:=by
   intro a b h2 h3
   induction a with
   |nil=>exact h3
   |cons x a ih=>simp only [avL,List.cons_append,Bool.and_eq_true] at h2 ⊢;exact ⟨h2.1,ih h2.2⟩
  induction n with
  |zero=>rfl
  |succ n ih=>rw [List.replicate_succ,List.flatten_cons];exact happ _ _ hav ih
 have hsplit:(List.replicate zc.toNat z.cells.toList).flatten=cs++(List.replicate (zc.toNat - zl.toNat) z.cells.toList).flatten:=by
  rw [hcs,←List.flatten_append,List.replicate_append_replicate]
  congr 2;omega
 have hg:=g.make hfr hzn (zbh (by rw [hcs];exact havn _):zw φ cs cs) e (zc.toNat*ie.size) ((List.replicate (zc.toNat - zl.toNat) z.cells.toList).flatten) (by
  have h2:=congrArg List.length hsplit
  rw [hlen,List.length_append] at h2
  omega)
 rw [←hsplit] at hg
 refine ⟨.slice (some ⟨w.heap.size,0,none⟩) zl.toNat zc.toNat,w.alloc (.cells ((Array.range (zc.toNat*ie.size)).map (z.cells[· % z.cells.size]!)) e),φ.put nx ⟨w.heap.size,0,zc.toNat*ie.size,#[]⟩,?_,?_,Ext.put hfr hzn _,?_,qw.alloc g _⟩
 ·have c1:(decide (zc < 0)||decide ((ie.bytes:Int)*zc > 2 ^ 48))=false:=by simp;omega
  have c2:¬(zl < 0):=by omega
  have c3:¬(zl > zc):=by omega
  by_cases hq:zc.toNat*ie.size=0
  ·simp only [Instr.makeSlice,Sem.run_bind,run_underlying hu,Result.andThen_ok,asInt,asIntOf,typeInfo,run_program,hie,Sem.run_pure,hw1,hw2]
   simp only [c1,c2,c3,decide_false,Bool.or_false,Bool.false_eq_true,if_false,Sem.run_pure,Result.andThen_ok,run_askRoom,qx hie,Sem.run_bind,hq,if_true,zkv,newRow,run_newObj]
   rfl
  ·simp only [Instr.makeSlice,Sem.run_bind,run_underlying hu,Result.andThen_ok,asInt,asIntOf,typeInfo,run_program,hie,Sem.run_pure,hw1,hw2]
   simp only [c1,c2,c3,decide_false,Bool.or_false,Bool.false_eq_true,if_false,Sem.run_pure,Result.andThen_ok,run_askRoom,qx hie,Sem.run_bind,hq,vg hie hz,newRow,run_newObj]
   rfl
 ·have:=zr.slO (φ:=φ.put nx ⟨w.heap.size,0,zc.toNat*ie.size,#[]⟩) nx 0 zl.toNat (qg+ie.size) zc.toNat _ (Ren.put_same _ _ _) (by omega) (by omega) (by simp)
  simpa using this
 ·have:((Array.range (zc.toNat*ie.size)).map (z.cells[· % z.cells.size]!))=((List.replicate zc.toNat z.cells.toList).flatten).toArray:=by
   apply Array.ext';rw [hall]
  rw [this];exact hg
theorem zA9 (g:zF φ H K w) {t ts ty e:TypeId} {ie:TypeInfo} (hu:P.underlying t=some (.slice e)) (hie:P.info? e=some ie) {b n c:Nat} {cs:List Value} (hb:H.get b=some (.cells cs false)) {d' x' x:Value}
  (hd:zr φ (.slice (some ⟨b,0,none⟩) n c) d') {m:Nat} {news:List Value} (hsrc:uY H ie.size x=some (m,news)) (hx:zr φ x x') (hn:cs.length=n*ie.size) (hp:0 < ie.size) (h1:Wc news=true) :
  ∃w',(Builtin.copy_ #[t,ts] ty #[d',x']).run P w=.ok (goInt (Nat.min m n)) w'∧zF φ (H.set b (.cells (spl cs 0 (news.take (Nat.min m n*ie.size))) false)) K w'∧qw K w w':=by
 obtain ⟨ax',cx',us,rfl,hul,hur,hu0,hax,hcell⟩:=KB g hsrc hx
 have hd':∃a' c',d'=.slice a' n c'∧(n≠0→∃L,φ b=some L∧a'=some ⟨L.blk,L.off+0,none⟩):=by
  cases hd with
  |sl _ _ _ _ L h _=>exact ⟨_,_,rfl,fun _=>⟨L,h,rfl⟩⟩
  |slO _ _ _ _ c' L h _ _ _=>exact ⟨_,_,rfl,fun _=>⟨L,h,rfl⟩⟩
  |slE _ _ _ a' L h _=>exact ⟨_,_,rfl,fun h0=>absurd rfl h0⟩
 obtain ⟨a',c',rfl,hna⟩:=hd'
 by_cases h0:Nat.min m n=0
 ·have hset:H.set b (.cells (spl cs 0 (news.take (Nat.min m n*ie.size))) false)=H.set b (.cells cs false):=by rw [h0];simp [spl]
  refine ⟨w,?_,?_,qw.refl _ _⟩
  ·cases ax'<;>cases a'<;>simp [Builtin.copy_,run_underlying hu,Builtin.lenOf,h0,qx hie,Builtin.firstCells,loadCells,loadCellsFrom,storeCells]
  ·rw [hset]
   refine g.sub fun d k hd=>?_
   rw [Hp.get_set] at hd
   split at hd
   ·rename_i hdb
    subst hdb
    rw [hb] at hd ⊢
    simpa using hd
   ·exact hd
 ·have hn0:n≠0:=fun e=>h0 (by subst e;exact Nat.min_zero _)
  have hm0:m≠0:=fun e=>h0 (by subst e;exact Nat.zero_min _)
  obtain ⟨L,hL,rfl⟩:=hna hn0
  have hk:Nat.min m n*ie.size≤m*ie.size:=Nat.mul_le_mul_right _ (Nat.min_le_left _ _)
  have hk2:Nat.min m n*ie.size≤n*ie.size:=Nat.mul_le_mul_right _ (Nat.min_le_right _ _)
  have hlen:=hur.length
  have hl2:(news.take (Nat.min m n*ie.size)).length=Nat.min m n*ie.size:=by simp;omega
  have hpos:0 < Nat.min m n*ie.size:=Nat.mul_pos (Nat.pos_of_ne_zero h0) hp
  have hone:∀(l:List Value) (j:Nat),Wc l=true→Wc (l.take j)=true:=by
   intro l
   induction l with
   |nil=>intro j _;simp [Wc]
   |cons x l ih=>
    intro j h
    cases j with
    |zero=>rfl
    |succ j=>
     simp only [Wc,List.take_succ_cons,Bool.and_eq_true] at h ⊢
     exact ⟨h.1,ih j h.2⟩
  obtain ⟨w',hst,hg,hw⟩:=g.write P hb hL 0 (by rw [hl2,hn];omega) (hone _ _ h1) (hur.take (Nat.min m n*ie.size)) (by intro h;rw [h] at hl2;simp at hl2;omega)
  refine ⟨w',?_,hg,hw⟩
  cases ax' with
  |none=>exact absurd (hax rfl) hm0
  |some a=>
   have hf:=run_firstCells_some (P:=P) w ie.size (Nat.min m n) a m cx' (us.take (Nat.min m n*ie.size)) (by simp;omega) (fun j v hv=>by
    rw [List.getElem?_take] at hv
    split at hv
    ·exact hcell a rfl j v hv
    ·cases hv)
   simp [Builtin.copy_,run_underlying hu,Builtin.lenOf,qx hie,hf] at hst ⊢
   rw [hst]
   simp
end Go.Fz.Sy
namespace Go.Fz.Sy
variable {P:Program} {φ:Ren} {K:Nat→Prop} {w:World} {R:Type}
abbrev KO (R:Type):=SV→SH→Nat→Option R
def gq (P:Program) (rd:Option Nat) (o:Oper) (tm:List SV) (H:SH) (nx:Nat) (k:KO R) (r:R):Prop:=∃v H' nx',SOp P rd o tm H nx v H' nx'∧k v H' nx'=some r
theorem vW {rd:Option Nat} {o:Oper} {tm:List SV} {H H':SH} {nx nx':Nat} {k:KO R} {r:R} {v:SV} (h:SOp P rd o tm H nx v H' nx') (hk:k v H' nx'=some r):gq P rd o tm H nx k r:=⟨v,H',nx',h,hk⟩
theorem yZ {b:Bool} {x y:Option R} {r:R} (h:(bif b then x else y)=some r):(b=true∧x=some r)∨(b=false∧y=some r):=by
 cases b
 ·exact .inr ⟨rfl,h⟩
 ·exact .inl ⟨rfl,h⟩
def zzK (tm:List SV) (H:SH) (nx:Nat) (c a b:Operand) (k:KO R):Option R:=match jy tm H c with
 |some (.bool c)=>match jy tm H a,jy tm H b with
  |some x,some y=>bif c then k x H nx else k y H nx
  |_,_=>none
 |_=>none
theorem zCv {rd:Option Nat} {o:Oper} {tm:List SV} {H:SH} {nx:Nat} {k:KO R} {r:R} {c a b:Operand} (ho:o.op=.pick c a b) (h:zzK tm H nx c a b k=some r):gq P rd o tm H nx k r:=by
 unfold zzK at h
 split at h
 case h_2=>cases h
 rename_i cb hc
 split at h
 case h_2=>cases h
 rename_i x y hx hy
 rcases yZ h with ⟨rfl,h⟩ | ⟨rfl,h⟩
 ·refine vW (uC (Nat.le_refl _) fun ν=>?_) h
  have h1:=zY hc ν
  simp only [den] at h1
  unfold jT;simp only [ho,h1,zY hx ν];rfl
 ·refine vW (uC (Nat.le_refl _) fun ν=>?_) h
  have h1:=zY hc ν
  simp only [den] at h1
  unfold jT;simp only [ho,h1,zY hy ν];rfl
def jU (k:IntKind) (a b:Int):Int:=a.fdiv (2 ^ (min b.toNat k.bits))
def yD (k:IntKind) (a b:Int):Int:=k.wrap (a*2 ^ (min b.toNat k.bits))
theorem zp4 {t:TypeId} {op:BinOp} {k k':IntKind} {a b r:Int} (hf:Km op (.int k a) (.int k' b)=none) (xo yo:Operand) (h:qd P (do eqGuard op t xo yo (.int k a) (.int k' b);binOp op t (.int k a) (.int k' b))=some (.int k r)):xI P op t xo yo (.int k a) (.int k' b)=some (.int k r):=by
 unfold xI sc
 rw [hf,h]
 rfl
theorem zD6 {t:TypeId} {k:IntKind} {a b:Int} (hb:b≠0) (xo yo:Operand):xI P .rem t xo yo (.int k a) (.int k b)=some (.int k (a.tmod b)):=by
 refine zp4 (by unfold Km;simp [zfX]) xo yo ?_
 show qd P (if k ≠ k then stuck _ else Op.intDiv .rem k a b) = _
 rw [if_neg (by simp)]
 unfold Op.intDiv
 rw [if_neg hb]
 rfl
theorem zD7 {t:TypeId} {k:IntKind} {a b:Int} (hb:b≠0) (xo yo:Operand):xI P .quo t xo yo (.int k a) (.int k b)=some (.int k (k.wrap (a.tdiv b))):=by
 refine zp4 (by unfold Km;simp [zfX]) xo yo ?_
 show qd P (if k ≠ k then stuck _ else Op.intDiv .quo k a b) = _
 rw [if_neg (by simp)]
 unfold Op.intDiv
 rw [if_neg hb]
 rfl
theorem zp5 {op:BinOp} (h:op=.shl∨op=.shr) (k k':IntKind) (a b:Int):Km op (.int k a) (.int k' b)=none:=by
 unfold Km
 cases hk:Wd k k'<;>rcases h with rfl | rfl<;>simp
theorem zD8 {t:TypeId} {k k':IntKind} {a b:Int} (hb:0≤b) (xo yo:Operand):xI P .shr t xo yo (.int k a) (.int k' b)=some (.int k (jU k a b)):=by
 refine zp4 (zp5 (.inr rfl) ..) xo yo ?_
 show qd P (Op.shift .shr k a k' b)=_
 unfold Op.shift
 rw [if_neg (by omega)]
 rfl
theorem zD9 {t:TypeId} {k k':IntKind} {a b:Int} (hb:0≤b) (xo yo:Operand):xI P .shl t xo yo (.int k a) (.int k' b)=some (.int k (yD k a b)):=by
 refine zp4 (zp5 (.inl rfl) ..) xo yo ?_
 show qd P (Op.shift .shl k a k' b)=_
 unfold Op.shift
 rw [if_neg (by omega)]
 rfl
def zCw (tm:List SV) (H:SH) (nx:Nat) (op:BinOp) (x y:Operand) (k:KO R):Option R:=match jy tm H x,jy tm H y with
 |some (.int i a),some (.int j b)=>match op with
  |.quo=>bif Wd i j then (bif zo b 0 then none else k (.int i (wrF i (a.tdiv b))) H nx) else none
  |.rem=>bif Wd i j then (bif zo b 0 then none else k (.int i (a.tmod b)) H nx) else none
  |.shr=>bif zi b 0 then none else k (.int i (jU i a b)) H nx
  |.shl=>bif zi b 0 then none else k (.int i (yD i a b)) H nx
  |_=>none
 |_,_=>none
theorem zEa {rd:Option Nat} {o:Oper} {tm:List SV} {H:SH} {nx:Nat} {k:KO R} {r:R} {op:BinOp} {t u:TypeId} {x y:Operand} (ho:o.op=.binOp op t x y u) (h:zCw tm H nx op x y k=some r):gq P rd o tm H nx k r:=by
 unfold zCw at h
 split at h
 case h_2=>cases h
 rename_i i a j b hx hy
 have key:∀z,(∀xo yo,xI P op t xo yo (.int i a) (.int j b)=some (.int i z))→k (.int i z) H nx=some r→gq P rd o tm H nx k r:=fun z hz hk=>by
  refine vW (uC (Nat.le_refl _) fun ν=>?_) hk
  have h1:=zY hx ν
  have h2:=zY hy ν
  simp only [den] at h1 h2
  unfold jT;simp only [ho,h1,h2,Option.bind_some,hz,den];rfl
 split at h
 ·obtain ⟨h1,h2⟩:=zA h
  have:=Jh h1
  subst this
  rcases yZ h2 with ⟨_,h3⟩ | ⟨h3,h4⟩
  ·cases h3
  ·rw [ju] at h3
   have hb:b≠0:=by simpa using h3
   rw [Kz] at h4
   exact key _ (fun xo yo=>zD7 hb xo yo) h4
 ·obtain ⟨h1,h2⟩:=zA h
  have:=Jh h1
  subst this
  rcases yZ h2 with ⟨_,h3⟩ | ⟨h3,h4⟩
  ·cases h3
  ·rw [ju] at h3
   have hb:b≠0:=by simpa using h3
   exact key _ (fun xo yo=>zD6 hb xo yo) h4
 ·rcases yZ h with ⟨_,h3⟩ | ⟨h3,h4⟩
  ·cases h3
  ·rw [xb] at h3
   have hb:0≤b:=by simpa using h3
   exact key _ (fun xo yo=>zD8 hb xo yo) h4
 ·rcases yZ h with ⟨_,h3⟩ | ⟨h3,h4⟩
  ·cases h3
  ·rw [xb] at h3
   have hb:0≤b:=by simpa using h3
   exact key _ (fun xo yo=>zD9 hb xo yo) h4
 ·cases h
def atI {α:Type} (l:List α) (z:Int):Option α:=match z with
 |.ofNat n=>gl l n
 |.negSucc _=>none
theorem zou {α:Type} {l:List α} {z:Int} {x:α} (h:atI l z=some x):0≤z∧z < l.length∧l[z.toNat]?=some x:=by
 unfold atI at h
 split at h
 ·rename_i n
  rw [yJ] at h
  have:=(List.getElem?_eq_some_iff.1 h).1
  exact ⟨Int.natCast_nonneg n,by show (n:Int) < _;omega,h⟩
 ·cases h
def opt {α:Type} (x:Option α) (f:α→Option R):Option R:=match x with
 |some a=>f a
 |none=>none
theorem Qo {α:Type} {x:Option α} {f:α→Option R} {r:R} (h:opt x f=some r):∃a,x=some a∧f a=some r:=by
 cases x with
 |none=>cases h
 |some a=>exact ⟨a,rfl,h⟩
def zmB:Nat→Nat→Int→(Nat→Option R)→Option R
 |0,_,_,_=>none
 |m+1,j,i,f=>bif zo i j then f j else zmB m (j+1) i f
theorem zd1 {f:Nat→Option R} {r:R} {i:Int}:∀{m j:Nat},zmB m j i f=some r→∃n:Nat,i=n∧j≤n∧n < j+m∧f n=some r
 |0,_,h=>by cases h
 |m+1,j,h=>by
  simp only [zmB] at h
  rcases yZ h with ⟨h1,h2⟩ | ⟨_,h2⟩
  ·rw [ju] at h1
   exact ⟨j,by simpa using h1,Nat.le_refl _,by omega,h2⟩
  ·obtain ⟨n,e1,e2,e3,e4⟩:=zd1 h2
   exact ⟨n,e1,by omega,by omega,e4⟩
def Vh (P:Program) (e:TypeId) (n:Nat):Bool:=match qW P e with
 |some i=>Nat.beq i.size n
 |none=>false
theorem Wf {e:TypeId} {n:Nat} (h:Vh P e n=true):∃i,qW P e=some i∧i.size=n:=by
 unfold Vh at h
 split at h
 ·exact ⟨_,by assumption,Nat.eq_of_beq_eq_true h⟩
 ·cases h
def zsk (P:Program) (tm:List SV) (H:SH) (nx:Nat) (t:TypeId) (x i:Operand) (k:KO R):Option R:=match jy tm H x,jy tm H i with
 |some v,some (.int _ z)=>match qT P t with
  |some (.slice e)=>match v with
   |.lst ty l _=>bif Vh P e (sz ty) then opt (atI l z) fun y=>k (.fel ty y 0) H nx else none
   |.own b=>match zm H b with
    |some (.arr _ ty l)=>bif Vh P e (sz ty) then opt (atI l z) fun _=>k (.elp b (sz ty) z.toNat 0) H nx else none
    |some (.roa _ ty l)=>bif Vh P e (sz ty) then opt (atI l z) fun _=>k (.elp b (sz ty) z.toNat 0) H nx else none
    |_=>none
   |.slv b n=>bif Vh P e 1 then zmB n 0 z fun j=>k (.ptr b j) H nx else none
   |_=>none
  |some (.array n e)=>match v with
   |.ptr b o=>match zm H b with
    |some (.arr _ ty l)=>bif Nat.beq o 0&&Vh P e (sz ty) then (bif zi z n then opt (atI l z) fun _=>k (.elp b (sz ty) z.toNat 0) H nx else none) else none
    |_=>match qW P e with
     |some ie=>zmB n 0 z fun j=>k (.ptr b (o+j*ie.size)) H nx
     |none=>none
   |_=>none
  |_=>none
 |_,_=>none
theorem zhf {z:Int} {n:Nat} {k:IntKind} (h0:0≤z) (h1:z < n):idx (.int k z) n=some z.toNat:=by simp [idx,h0,h1]
theorem zzL {rd:Option Nat} {o:Oper} {tm:List SV} {H:SH} {nx:Nat} {k:KO R} {r:R} {t:TypeId} {x i:Operand} (ho:o.op=.indexAddr t x i) (h:zsk P tm H nx t x i k=some r):gq P rd o tm H nx k r:=by
 unfold zsk at h
 split at h
 case h_2=>cases h
 rename_i v ik z hx hi
 have hi':=fun ν=>zY hi ν
 have hx':=fun ν=>zY hx ν
 simp only [den] at hi'
 have own:∀(b:Nat) (nn:Bool) (ty:Ty) (l:List (T ty)) (e:TypeId),v=.own b→reg (zm H b)=some (l.length,rsz nn ty l)→qT P t=some (.slice e)→(bif Vh P e (sz ty) then opt (atI l z) fun _=>k (.elp b (sz ty) z.toNat 0) H nx else none)=some r→gq P rd o tm H nx k r:=by
  rintro b nn ty l e rfl hr hu h
  obtain ⟨h1,h⟩:=zA h
  obtain ⟨y,hy,h⟩:=Qo h
  obtain ⟨e1,e2,e3⟩:=zou hy
  obtain ⟨ie,hie,hsz⟩:=Wf h1
  refine vW ⟨jW.refl H,wk.refl H,Nat.le_refl _,fun ν hv=>⟨hv,ka ?_⟩⟩ h
  have hn:jD nn l=false:=zhd (fun h=>by subst h;simp at e2;omega)
  have hρ:den (rho ν H) (.own b)=.slice (some ⟨b,0,none⟩) l.length (qg+sz ty):=by simp only [den];rw [WH ν hr,hn];rfl
  have h2:=hx' ν
  rw [hρ] at h2
  unfold jT
  simp only [ho,h2,hi' ν,Option.bind_some]
  have h3:xu P t (.slice (some ⟨b,0,none⟩) l.length (qg+sz ty)) (.int ik z)=some (.pointer (some ⟨b,z.toNat*sz ty,none⟩)):=by
   simp [xu,hu,zhf e1 e2,hie,hsz]
  simp only [h3,den]
  rfl
 split at h
 ·rename_i e hu
  split at h
  ·rename_i ty l full
   obtain ⟨h1,h⟩:=zA h
   obtain ⟨y,hy,h⟩:=Qo h
   obtain ⟨e1,e2,e3⟩:=zou hy
   obtain ⟨ie,hie,hsz⟩:=Wf h1
   refine vW (uC (Nat.le_refl _) fun ν=>?_) h
   have hes:gg (den (rho ν H) (.lst ty l full))=some (sz ty,(l.map (wo ty)).toArray,full):=by cases full<;>simp [den,fzV,gg]
   have h2:zvK P t (den (rho ν H) (.lst ty l full)) (.int ik z)=some (.iface 0 (.iface 0 (wo ty y))):=by
    have h4:idx (.int ik z) ((l.map (wo ty)).toArray).size=some z.toNat:=by
     rw [show ((l.map (wo ty)).toArray).size=l.length by simp];exact zhf e1 e2
    have h5:((l.map (wo ty)).toArray)[z.toNat]?=some (wo ty y):=by simp [e3]
    unfold zvK
    simp only [hes,hu,h4,hie,h5,hsz,if_true]
   have h3:xu P t (den (rho ν H) (.lst ty l full)) (.int ik z)=none:=by cases full<;>simp [den,fzV,xu,hu]
   unfold jT
   simp only [ho,hx' ν,hi' ν,Option.bind_some,h3,h2]
   simp [un1,den]
  ·rename_i b
   split at h
   ·rename_i nn ty l hb
    exact own b nn ty l e rfl (by rw [hb];rfl) hu h
   ·rename_i nn ty l hb
    exact own b nn ty l e rfl (by rw [hb];rfl) hu h
   ·cases h
  ·rename_i b n
   obtain ⟨h1,h⟩:=zA h
   obtain ⟨ie,hie,hsz⟩:=Wf h1
   obtain ⟨j,rfl,_,e3,h⟩:=zd1 h
   refine vW (uC (Nat.le_refl _) fun ν=>?_) h
   have h4:idx (.int ik (j:Int)) n=some j:=by
    have:=zhf (k:=ik) (z:=(j:Int)) (n:=n) (Int.natCast_nonneg j) (by omega)
    simpa using this
   have h3:xu P t (den (rho ν H) (.slv b n)) (.int ik (j:Int))=some (.pointer (some ⟨b,j,none⟩)):=by
    simp [xu,hu,den,h4,hie,hsz]
   unfold jT
   simp only [ho,hx' ν,hi' ν,Option.bind_some,h3]
   simp [un1,den]
  ·cases h
 ·rename_i n e hu
  split at h
  case h_2=>cases h
  rename_i b off
  split at h
  ·rename_i nn ty l hb
   obtain ⟨h1,h5⟩:=zA h
   simp only [Bool.and_eq_true] at h1
   obtain ⟨h2,h6⟩:=zA h5
   rw [xb] at h2
   have h2:=of_decide_eq_true h2
   have:=Nat.eq_of_beq_eq_true h1.1
   subst this
   obtain ⟨y,hy,h7⟩:=Qo h6
   obtain ⟨e1,e2,e3⟩:=zou hy
   obtain ⟨ie,hie,hsz⟩:=Wf h1.2
   refine vW (uC (Nat.le_refl _) fun ν=>?_) h7
   have h3:xu P t (den (rho ν H) (.ptr b 0)) (.int ik z)=some (.pointer (some ⟨b,z.toNat*sz ty,none⟩)):=by
    simp [xu,hu,den,zhf e1 h2,hie,hsz]
   unfold jT
   simp only [ho,hx' ν,hi' ν,Option.bind_some,h3]
   simp [un1,den]
  split at h
  case h_2=>cases h
  rename_i ie hie
  obtain ⟨j,rfl,_,e3,h⟩:=zd1 h
  refine vW (uC (Nat.le_refl _) fun ν=>?_) h
  have h4:idx (.int ik (j:Int)) n=some j:=by
   have:=zhf (k:=ik) (z:=(j:Int)) (n:=n) (Int.natCast_nonneg j) (by omega)
   simpa using this
  have h3:xu P t (den (rho ν H) (.ptr b off)) (.int ik (j:Int))=some (.pointer (some ⟨b,off+j*ie.size,none⟩)):=by
   simp [xu,hu,den,h4,hie]
  unfold jT
  simp only [ho,hx' ν,hi' ν,Option.bind_some,h3]
  simp [un1,den]
 ·cases h
def zwk (P:Program) (tm:List SV) (H:SH) (nx:Nat) (t:TypeId) (x i:Operand) (k:KO R):Option R:=match jy tm H x,jy tm H i with
 |some (.agg cs),some (.int _ z)=>match qT P t with
  |some (.array n e)=>match qW P e with
   |some ie=>zmB n 0 z fun j=>opt (zmz P e cs (j*ie.size)) fun v=>k v H nx
   |none=>none
  |_=>none
 |_,_=>none
theorem zBa {rd:Option Nat} {o:Oper} {tm:List SV} {H:SH} {nx:Nat} {k:KO R} {r:R} {t:TypeId} {x i:Operand} (ho:o.op=.index t x i) (h:zwk P tm H nx t x i k=some r):gq P rd o tm H nx k r:=by
 unfold zwk at h
 split at h
 case h_2=>cases h
 rename_i cs ik z hx hi
 split at h
 case h_2=>cases h
 rename_i n e hu
 split at h
 case h_2=>cases h
 rename_i ie hie
 obtain ⟨j,rfl,_,e3,h⟩:=zd1 h
 obtain ⟨v,hv,h⟩:=Qo h
 refine vW (uC (Nat.le_refl _) fun ν=>?_) h
 have h1:=zY hx ν
 have h2:=zY hi ν
 simp only [den] at h1 h2
 have h4:idx (.int ik (j:Int)) n=some j:=by
  have:=zhf (k:=ik) (z:=(j:Int)) (n:=n) (Int.natCast_nonneg j) (by omega)
  simpa using this
 unfold jT
 simp only [ho,h1,h2,Option.bind_some]
 have h5:=zfW (ρ:=rho ν H) hv
 have:zg7 P t (.agg (zt (rho ν H) cs).toArray) (.int ik (j:Int))=some (den (rho ν H) v):=by
  simp [zg7,hu,h4,hie,h5]
 rw [this]
 rfl
def zzM (P:Program) (tm:List SV) (H:SH) (nx:Nat) (t:TypeId) (a:Operand) (k:KO R):Option R:=match jy tm H a with
 |some (.elp b s i off)=>match zm H b with
  |some (.arr _ ty l)=>bif Nat.beq s (sz ty) then opt (gl l i) fun y=>opt (Xl P t (yp ty y) off) fun v=>k v H nx else none
  |some (.roa _ ty l)=>bif Nat.beq s (sz ty) then opt (gl l i) fun y=>opt (Xl P t (yp ty y) off) fun v=>k v H nx else none
  |_=>none
 |_=>none
theorem zzN {ρ:Nat→Value} {t:TypeId} {ty:Ty} {l:List (T ty)} {i off:Nat} {y:T ty} {v:SV} (hy:l[i]?=some y) (h:Xl P t (yp ty y) off=some v) {Hd:Hp} {b:Nat} {ro:Bool} (hb:Hd.get b=some (.cells (zV ty l) ro)) :
  gk P Hd t (.pointer (some ⟨b,i*sz ty+off,none⟩))=some (den ρ v):=by
 have he:ql ty y=zt ρ (yp ty y):=by rw [qt,yc]
 unfold Xl at h
 split at h
 case h_2=>cases h
 rename_i d inf hd hi
 simp only [gk,hb,hd,hi]
 cases ha:Jd d with
 |true=>
  rw [ha] at h
  simp only [cond_true] at h
  obtain ⟨h1,h2⟩:=zA h
  cases h2
  have h3:=Nat.le_of_ble_eq_true h1
  rw [YG] at h3
  obtain ⟨e1,e2⟩:=zdY ty l hy h3
  simp only [if_true,e1,e2,den,zfV,zfU,he]
 |false=>
  rw [ha] at h
  simp only [cond_false,yJ] at h
  have hk:off < sz ty:=by have:=(List.getElem?_eq_some_iff.1 h).1;rwa [YG] at this
  have:=ztQ ty l hy hk
  simp only [Bool.false_eq_true,if_false,this,he,wB,h,Option.map_some]
theorem zCx {rd:Option Nat} {o:Oper} {tm:List SV} {H:SH} {nx:Nat} {k:KO R} {r:R} {t:TypeId} {a:Operand} (ho:o.op=.load t a) (h:zzM P tm H nx t a k=some r):gq P rd o tm H nx k r:=by
 unfold zzM at h
 split at h
 case h_2=>cases h
 rename_i b s i off ha
 have key:∀(nn:Bool) (ty:Ty) (l:List (T ty)) (ro:Bool),(∀ν,(bif jD nn l then none else some (Blk.cells (zV ty l) ro))=(zm H b).bind (zU (rho ν H) (ν b)))→reg (zm H b)=some (l.length,rsz nn ty l)→
   (bif Nat.beq s (sz ty) then opt (gl l i) fun y=>opt (Xl P t (yp ty y) off) fun v=>k v H nx else none)=some r→gq P rd o tm H nx k r:=by
  intro nn ty l ro hden hr h0
  obtain ⟨h1,h2⟩:=zA h0
  have:=Nat.eq_of_beq_eq_true h1
  subst this
  obtain ⟨y,hy,h3⟩:=Qo h2
  obtain ⟨v,hv,h4⟩:=Qo h3
  rw [yJ] at hy
  refine vW ⟨jW.refl H,wk.refl H,Nat.le_refl _,fun ν hvn=>⟨hvn,ka ?_⟩⟩ h4
  have hn:jD nn l=false:=zhd (fun h=>by subst h;simp at hy)
  have hd:(zE ν H).get b=some (.cells (zV ty l) ro):=by rw [zL,←hden ν,hn];rfl
  have h2:=zY ha ν
  simp only [den] at h2
  unfold jT
  simp only [ho,h2,Option.bind_some,zzN (ρ:=rho ν H) hy hv hd]
  rfl
 split at h
 ·rename_i nn ty l hb
  exact key nn ty l false (fun ν=>by rw [hb];rfl) (by rw [hb];rfl) h
 ·rename_i nn ty l hb
  exact key nn ty l true (fun ν=>by rw [hb];rfl) (by rw [hb];rfl) h
 ·cases h
end Go.Fz.Sy
end
