/- Parts of a proof, joined. -/
import Derived.Carry
import Derived.ChangeSame
import Derived.KernelRfl
import Derived.OpenShut
import Derived.Orders
import Derived.Test.YtplhphmbkmpocaaGreatE41
set_option linter.unusedSectionVars false
set_option linter.unusedVariables false
set_option linter.unusedSimpArgs false
set_option maxHeartbeats 0
set_option maxRecDepth 100000
noncomputable section
namespace Go.Fz
variable {P:Program} {φ:Ren} {H:Hp} {K:Nat→Prop} {w:World}
structure Ev where
 call:FuncId→List Value→Hp→Nat→Option (Value×Hp×Nat)
 code:Option Nat→Code→List Value→List Nat→Hp→Nat→Option Res
 loop:Option Nat→Code→List Value→List Nat→Hp→Nat→Option Res
 scp:Code→Code→List Value→List Nat→Hp→Nat→Option Res
structure Ev.Ok (P:Program) (E:Ev):Prop where
 call:∀{f args H nx v H' nx'},E.call f args H nx=some (v,H',nx')→QB P f args H nx v H' nx'
 named:∀{f args H nx v H' nx'},E.call f args H nx=some (v,H',nx')→∃fn,P.funcs[f]?=some fn∧fn.body.isSome=true
 code:∀{r c tm ds H nx R},E.code r c tm ds H nx=some R→jf P r c tm ds H nx R
 loop:∀{r c tm ds H nx R},E.loop r c tm ds H nx=some R→zij P r c tm ds H nx R
 scp:∀{c x tm ds H nx R},E.scp c x tm ds H nx=some R→znN P c x tm ds H nx R
def Hp.only (p:Nat→Bool):Hp→Hp
 |[]=>[]
 |(b,k)::r=>if p b then (b,k)::Hp.only p r else Hp.only p r
theorem Hp.get_only (p:Nat→Bool) (n:Nat):∀H:Hp,(Hp.only p H).get n=if p n then H.get n else none
 |[]=>by simp [Hp.only,Hp.get_nil]
 |(b,k)::r=>by
  have ih:=Hp.get_only p n r
  by_cases hb:b=n
  ·subst hb
   by_cases hp:p b=true
   ·simp [Hp.only,Hp.get_cons,hp]
   ·simp only [Bool.not_eq_true] at hp;simp [Hp.only,hp,ih]
  ·by_cases hp:p b=true
   ·simp [Hp.only,Hp.get_cons,hp,hb,ih]
   ·simp only [Bool.not_eq_true] at hp;simp [Hp.only,Hp.get_cons,hp,hb,ih]
theorem Hp.get_append (n:Nat):∀H G:Hp,Hp.get (H++G) n=(match H.get n with | some k=>some k | none=>G.get n)
 |[],G=>by simp [Hp.get_nil]
 |(b,k)::r,G=>by
  have ih:=Hp.get_append n r G
  by_cases hb:b=n
  ·subst hb;simp [Hp.get_cons]
  ·simp [Hp.get_cons,hb,ih]
def vr (wr mask:Nat→Bool) (b:Nat) (k:Blk):Blk:=
 if wr b then k else if mask b then .hid else match k with
  |.cells cs _=>.cells cs true
  |.fzc cs=>.fzc cs
  |_=>.hid
def Um (wr mask:Nat→Bool):Hp→Hp
 |[]=>[]
 |(b,k)::r=>(b,vr wr mask b k)::Um wr mask r
theorem zeO (wr mask:Nat→Bool) (n:Nat):∀H:Hp,(Um wr mask H).get n=(H.get n).map (vr wr mask n)
 |[]=>by simp [Um,Hp.get_nil]
 |(b,k)::r=>by
  have ih:=zeO wr mask n r
  by_cases hb:b=n
  ·subst hb;simp [Um,Hp.get_cons]
  ·simp [Um,Hp.get_cons,hb,ih]
theorem js.hid_of {φ:Ren} {w:World} {L:Loc} {k:Blk} (h:js φ w L k):js φ w L .hid:=by
 have:=h.lt
 exact ⟨w.heap[L.blk],by simp [this]⟩
def zaA (touch:Nat→Bool) (H' G:Hp):Hp:=Hp.only touch H'++Hp.only (fun b=>!touch b) G
theorem zdb (touch:Nat→Bool) (H' G:Hp) (b:Nat):(zaA touch H' G).get b=if touch b then H'.get b else G.get b:=by
 unfold zaA
 rw [Hp.get_append,Hp.get_only,Hp.get_only]
 cases h:touch b
 ·simp
 ·simp;cases H'.get b<;>rfl
def zeP:Hp→Bool
 |[]=>true
 |(_,k)::r=>k.rw&&zeP r
theorem zu6 {b:Nat} {k:Blk}:∀{H:Hp},zeP H=true→H.get b=some k→k.rw=true
 |[],_,h=>by simp [Hp.get_nil] at h
 |(c,x)::r,ha,h=>by
  simp only [zeP,Bool.and_eq_true] at ha
  by_cases hb:c=b
  ·subst hb;simp [Hp.get_cons] at h;subst h;exact ha.1
  ·simp [Hp.get_cons,hb] at h;exact zu6 ha.2 h
def jY (wr:Nat→Bool) (lo hi:Nat) (b:Nat):Bool:=wr b||(decide (lo≤b)&&decide (b < hi))
theorem zFk {r:Option Nat} {o:Oper} {tm:List Value} {V H' G:Hp} {wr mask:Nat→Bool} {lo hi:Nat} {v:Value} (h:KV P r o tm V lo v H' hi)
  (hV:∀b k,V.get b=some k→∃k0,G.get b=some k0∧k=vr wr mask b k0) (hrw:zeP (Hp.only (jY wr lo hi) H')=true)
  (φ:Ren) (w:World) (K:Nat→Prop) (a:Act) (rc:Option Nat) (next:Act→World→Prop) (Q:Exit→Act→World→Prop) (g:zF φ G K w) (hf:yW φ lo hi) (ht:qK φ tm a.tmps) (hr:VO φ r rc)
  (hk:∀v' φ' w',zr φ' v v'→Ext K φ φ' lo hi→zF φ' (zaA (jY wr lo hi) H' G) K w'→qy K w w'→next (a.put o.dst v') w'):o.wpIn (fw rc) 0 P a w next Q:=by
 let K2:Nat→Prop:=fun c=>K c∨∃b k L,G.get b=some k∧wr b=false∧φ b=some L∧L.blk=c
 have hV':∀b k,V.get b=some k→k.rw=true→wr b=true:=by
  intro b k hb hk
  obtain ⟨k0,h0,rfl⟩:=hV b k hb
  cases hw:wr b with
  |true=>rfl
  |false=>
   simp only [vr,hw,Bool.false_eq_true,if_false] at hk
   split at hk
   ·simp [Blk.rw] at hk
   ·split at hk<;>simp [Blk.rw] at hk
 have hsame:∀b k,V.get b=some k→wr b=true→G.get b=some k:=by
  intro b k hb hw
  obtain ⟨k0,h0,rfl⟩:=hV b k hb
  simp only [vr,hw,if_true];exact h0
 have g2:zF φ V K2 w:=by
  refine ⟨fun b k hb=>?_,fun b c k k' L L' hb hc hne hkr hL hL'=>?_,fun b k L hb hkr hL hK2=>?_,fun c hc=>?_,g.fz,fun b k L c M hb hkr=>g.fsep b k L c M (hsame b k hb (hV' b k hb hkr)) hkr⟩
  ·obtain ⟨k0,h0,rfl⟩:=hV b k hb
   obtain ⟨L,hL,hbr⟩:=g.rel b k0 h0
   refine ⟨L,hL,?_⟩
   unfold vr
   split
   ·exact hbr
   ·split
    ·exact hbr.hid_of
    ·split
     ·obtain ⟨arr,el,fr,h1,h2,h3⟩:=hbr
      exact ⟨arr,el,fr,h1,h2,fun h=>by cases h⟩
     ·exact hbr
     ·exact hbr.hid_of
  ·have hw:=hV' b k hb hkr
   obtain ⟨k1,h1,_⟩:=hV c k' hc
   exact g.sep b c k k1 L L' (hsame b k hb hw) h1 hne hkr hL hL'
  ·have hw:=hV' b k hb hkr
   have hG:=hsame b k hb hw
   rcases hK2 with hK | ⟨c,k',L',hc,hwc,hLc,he⟩
   ·exact g.prot b k L hG hkr hL hK
   ·have hne:b≠c:=fun e=>by subst e;rw [hw] at hwc;cases hwc
    exact g.sep b c k k' L L' hG hc hne hkr hL hLc he.symm
  ·rcases hc with hK | ⟨b,k,L,hb,_,hL,he⟩
   ·exact g.kin c hK
   ·have:=(g.at hb hL).lt;omega
 refine h.2 φ w K2 a rc next Q g2 hf ht hr fun v' φ' w' x1 x2 x3 x4=>?_
 refine hk v' φ' w' x1 (x2.weak fun b hb=>.inl hb) ?_ ⟨x4.os,x4.tape,x4.output,x4.size,fun c hc=>x4.kept c (.inl hc)⟩
 have htr:∀b k,(zaA (jY wr lo hi) H' G).get b=some k→jY wr lo hi b=true→H'.get b=some k∧k.rw=true:=by
  intro b k hb ht
  rw [zdb,ht] at hb
  refine ⟨hb,zu6 (b:=b) hrw ?_⟩
  rw [Hp.get_only,ht];exact hb
 have hun:∀b k,(zaA (jY wr lo hi) H' G).get b=some k→jY wr lo hi b=false→G.get b=some k∧wr b=false:=by
  intro b k hb ht
  rw [zdb,ht] at hb
  refine ⟨by simpa using hb,?_⟩
  simp only [jY,Bool.or_eq_false_iff] at ht
  exact ht.1
 refine ⟨fun b k hb=>?_,fun b c k k' L L' hb hc hne hkr hL hL'=>?_,fun b k L hb hkr hL hK=>?_,fun c hc=>Nat.lt_of_lt_of_le (g.kin c hc) x4.size,x3.fz,fun b k L c M hb hkr hL hM=>?_⟩
 ·cases ht:jY wr lo hi b with
  |true=>exact x3.rel b k (htr b k hb ht).1
  |false=>
   obtain ⟨hG,hw⟩:=hun b k hb ht
   obtain ⟨L,hL,hbr⟩:=g.rel b k hG
   exact ⟨L,x2.1 _ _ hL,(hbr.congr (x4.kept L.blk (.inr ⟨b,k,L,hG,hw,hL,rfl⟩))).mono x2.1⟩
 ·cases htb:jY wr lo hi b with
  |true=>
   obtain ⟨hb',hbr⟩:=htr b k hb htb
   cases htc:jY wr lo hi c with
   |true=>exact x3.sep b c k k' L L' hb' (htr c k' hc htc).1 hne hbr hL hL'
   |false=>
    obtain ⟨hG,hw⟩:=hun c k' hc htc
    obtain ⟨M,hM,_⟩:=g.rel c k' hG
    have:=x2.1 _ _ hM
    rw [hL'] at this;cases this
    exact fun e=>x3.prot b k L hb' hbr hL (.inr ⟨c,k',L',hG,hw,hM,e.symm⟩)
  |false=>
   obtain ⟨hG,hw⟩:=hun b k hb htb
   obtain ⟨M,hM,_⟩:=g.rel b k hG
   have hM':=x2.1 _ _ hM
   rw [hL] at hM';cases hM'
   cases htc:jY wr lo hi c with
   |true=>
    obtain ⟨hc',hcr⟩:=htr c k' hc htc
    exact fun e=>x3.prot c k' L' hc' hcr hL' (.inr ⟨b,k,L,hG,hw,hM,e⟩)
   |false=>
    obtain ⟨hGc,hwc⟩:=hun c k' hc htc
    obtain ⟨M2,hM2,_⟩:=g.rel c k' hGc
    have:=x2.1 _ _ hM2
    rw [hL'] at this;cases this
    exact g.sep b c k k' L L' hG hGc hne hkr hM hM2
 ·cases htb:jY wr lo hi b with
  |true=>
   obtain ⟨hb',hbr⟩:=htr b k hb htb
   exact x3.prot b k L hb' hbr hL (.inl hK)
  |false=>
   obtain ⟨hG,hw⟩:=hun b k hb htb
   obtain ⟨M,hM,_⟩:=g.rel b k hG
   have hM':=x2.1 _ _ hM
   rw [hL] at hM';cases hM'
   exact g.prot b k L hG hkr hM hK
 ·cases htb:jY wr lo hi b with
  |true=>
   obtain ⟨hb',hbr⟩:=htr b k hb htb
   exact x3.fsep b k L c M hb' hbr hL hM
  |false=>
   obtain ⟨hG,hw⟩:=hun b k hb htb
   obtain ⟨N,hN,_⟩:=g.rel b k hG
   have hN':=x2.1 _ _ hN
   rw [hL] at hN';cases hN'
   rcases x2.2.2 c M hM with h3 | h3
   ·exact g.fsep b k L c M hG hkr hN h3
   ·exact fun e=>h3 (.inr ⟨b,k,L,hG,hw,hN,e⟩)
structure Stp where
 o:Oper
 ran:Bool
 v:Value
 tmo:List Value
 V:Hp
 wr:Nat→Bool
 H':Hp
 lo:Nat
 hi:Nat
def Stp.touch (s:Stp) (b:Nat):Bool:=jY s.wr s.lo s.hi b
section
variable (st:Nat→Stp) (H0:Hp) (tm0:List Value)
def Ju (S:Nat→Bool):Nat→Nat→Option Blk
 |0,b=>H0.get b
 |m+1,b=>if S m&&(st m).touch b then (st m).H'.get b else Ju S m b
def tmS (S:Nat→Bool):Nat→List Value
 |0=>tm0
 |m+1=>if S m then gL (tmS S m) (st m).o.dst (st m).v else tmS S m
end
variable {st:Nat→Stp} {H0:Hp} {tm0:List Value}
theorem zeQ {S T:Nat→Bool} {b:Nat}:∀{m:Nat},(∀k,k < m→(st k).touch b=true→S k=T k)→Ju st H0 S m b=Ju st H0 T m b
 |0,_=>rfl
 |m+1,h=>by
  have ih:=zeQ (S:=S) (T:=T) (b:=b) (m:=m) fun k hk=>h k (by omega)
  simp only [Ju]
  cases ht:(st m).touch b with
  |false=>simpa using ih
  |true=>rw [h m (by omega) ht,ih]
theorem zzC (tm:List Value) (d:Option Tmp) (v:Value):(gL tm d v).length=tm.length:=by cases d<;>simp [gL,zwW]
theorem Zk (S:Nat→Bool):∀m,(tmS st tm0 S m).length=tm0.length
 |0=>rfl
 |m+1=>by
  simp only [tmS]
  split
  ·rw [zzC];exact Zk S m
  ·exact Zk S m
theorem Gr (tm:List Value) (d:Option Tmp) (v:Value) (s:Nat):(gL tm d v)[s]?=if d=some s∧s < tm.length then some v else tm[s]?:=by
 cases d with
 |none=>simp [gL]
 |some d=>
  simp only [gL,zwW,List.getElem?_set,Option.some.injEq]
  by_cases h:d=s
  ·subst h
   by_cases hl:d < tm.length
   ·simp [hl]
   ·simp [hl]
  ·simp [h]
theorem zgR {S T:Nat→Bool} {s:Nat}:∀{m:Nat},(∀k,k < m→(st k).o.dst=some s→S k=T k)→(tmS st tm0 S m)[s]?=(tmS st tm0 T m)[s]?
 |0,_=>rfl
 |m+1,h=>by
  have ih:=zgR (S:=S) (T:=T) (s:=s) (m:=m) fun k hk=>h k (by omega)
  simp only [tmS]
  by_cases hd:(st m).o.dst=some s
  ·rw [h m (by omega) hd]
   split
   ·rw [Gr,Gr,Zk,Zk,ih]
   ·exact ih
  ·have h1:∀(T:Nat→Bool),(if T m then gL (tmS st tm0 T m) (st m).o.dst (st m).v else tmS st tm0 T m)[s]?=(tmS st tm0 T m)[s]?:=by
    intro T
    split
    ·rw [Gr];simp [hd]
    ·rfl
   rw [h1,h1,ih]
structure zil (P:Program) (r:Option Nat) (ops:Array Oper) (tm0:List Value) (H0:Hp) (nx nx':Nat) (st:Nat→Stp) (A:Nat→Nat→Bool):Prop where
 hops:∀i,i < ops.size→ops[i]?=some (st i).o
 rng:∀i,i < ops.size→(st i).lo≤(st i).hi
 rngs:∀i j,i < j→j < ops.size→(st i).hi≤(st j).lo
 rng0:∀i,i < ops.size→nx≤(st i).lo∧(st i).hi≤nx'
 nxs:nx≤nx'
 a1:∀i,i < ops.size→∀e∈(st i).o.after,Region.binds .any e=true→A i e.on=true∧e.on < i
 a2:∀i,i < ops.size→∀j,A i j=true→∃e∈(st i).o.after,Region.binds .any e=true∧(j=e.on∨A e.on j=true)
 a3:∀i j,i < ops.size→A i j=true→j < i
 tlen:∀i,i < ops.size→(st i).tmo.length=tm0.length
 tmo:∀i,i < ops.size→∀(s:Nat) v,(st i).tmo[s]?=some v→v=junk∨((tmS st tm0 (fun k=>decide (k < i)) ops.size)[s]?=some v∧∀k,k < ops.size→k≠i→(st k).o.dst=some s→A i k=true∨A k i=true)
 dst:∀i j (s:Nat),i < ops.size→j < ops.size→i≠j→(st i).o.dst=some s→(st j).o.dst≠some s
 want:∀i,i < ops.size→vq ops (st i).tmo (st i).o=some (st i).ran
 ok:∀i,i < ops.size→(st i).ran=true→KV P r (st i).o (st i).tmo (st i).V (st i).lo (st i).v (st i).H' (st i).hi∧zeP (Hp.only (st i).touch (st i).H')=true
 vw:∀i,i < ops.size→∀b k,(st i).V.get b=some k→∃k0,Ju st H0 (fun k=>decide (k < i)) ops.size b=some k0∧k=vr (st i).wr (fun _=>false) b k0
 skip:∀i,i < ops.size→(st i).ran=false→(st i).v=undef∧∀b,(st i).touch b=false
 dis:∀i j,i < ops.size→j < ops.size→i≠j→A i j=false→A j i=false→∀b k,(st i).V.get b=some k→(st j).touch b=false
 wrin:∀i,i < ops.size→∀b,(st i).wr b=true→∃k,(st i).V.get b=some k
theorem zAU {listed:Array Bool} {i:Nat} (h:listed.getD i true=false):listed.getD i false=false∧i < listed.size:=by
 by_cases hl:i < listed.size
 ·simp [Array.getD,hl] at h ⊢;exact h
 ·simp [Array.getD,hl] at h
theorem zAV {r:Option Nat} {ops:Array Oper} {nx nx':Nat} {A:Nat→Nat→Bool} (D:zil P r ops tm0 H0 nx nx' st A) {i j:Nat} (hi:i < ops.size) (hj:j < ops.size) (hne:i≠j) (h1:A i j=false) (h2:A j i=false) {b:Nat}
  (hb:(st i).touch b=true):(st j).touch b=false:=by
 cases hjb:(st j).touch b with
 |false=>rfl
 |true=>
  exfalso
  have hb':=hb
  have hjb':=hjb
  simp only [Stp.touch,jY,Bool.or_eq_true,Bool.and_eq_true,decide_eq_true_eq] at hb' hjb'
  rcases hb' with hw | ⟨hl,hh⟩
  ·obtain ⟨k,hk⟩:=D.wrin i hi b hw
   have:=D.dis i j hi hj hne h1 h2 b k hk
   rw [hjb] at this;cases this
  ·rcases hjb' with hw | ⟨hl2,hh2⟩
   ·obtain ⟨k,hk⟩:=D.wrin j hj b hw
    have:=D.dis j i hj hi (fun e=>hne e.symm) h2 h1 b k hk
    rw [hb] at this;cases this
   ·rcases Nat.lt_or_gt_of_ne hne with hlt | hgt
    ·have:=D.rngs i j hlt hj;omega
    ·have:=D.rngs j i hgt hi;omega
theorem zxp {r:Option Nat} {ops:Array Oper} {nx nx':Nat} {A:Nat→Nat→Bool} (D:zil P r ops tm0 H0 nx nx' st A) {S:Nat→Bool} {i:Nat} (hi:i < ops.size) (hSi:S i=false)
  (hdown:∀k,k < ops.size→S k=true→∀j,A k j=true→S j=true) (b:Nat) :
  Ju st H0 (fun k=>S k||k == i) ops.size b=if (st i).touch b then (st i).H'.get b else Ju st H0 S ops.size b:=by
 have key:∀m,m≤ops.size→Ju st H0 (fun k=>S k||k == i) m b=if decide (i < m)&&(st i).touch b then (st i).H'.get b else Ju st H0 S m b:=by
  intro m
  induction m with
  |zero=>intro _;simp [Ju]
  |succ m ih=>
   intro hm
   have ih:=ih (by omega)
   simp only [Ju]
   by_cases hmi:m=i
   ·subst hmi
    simp only [beq_self_eq_true,Bool.or_true,Bool.true_and,hSi,Bool.false_and,Bool.false_eq_true,if_false,Nat.lt_succ_self,decide_true]
    split
    ·rfl
    ·rename_i ht;rw [ih];simp
   ·have hbe:(m == i)=false:=by simp [hmi]
    simp only [hbe,Bool.or_false]
    by_cases hlt:i < m
    ·have hlt':i < m+1:=by omega
     simp only [hlt',decide_true,Bool.true_and]
     simp only [hlt,decide_true,Bool.true_and] at ih
     cases hti:(st i).touch b with
     |false=>rw [ih];simp [hti]
     |true=>
      simp only [hti,if_true] at ih ⊢
      have:(S m&&(st m).touch b)=false:=by
       cases hSm:S m with
       |false=>rfl
       |true=>
        have h1:A i m=false:=by
         cases hA:A i m with
         |false=>rfl
         |true=>have:=D.a3 i m hi hA;omega
        have h2:A m i=false:=by
         cases hA:A m i with
         |false=>rfl
         |true=>have:=hdown m (by omega) hSm i hA;rw [hSi] at this;cases this
        simp [zAV D hi (by omega) (fun e=>hmi e.symm) h1 h2 hti]
      rw [this];simpa using ih
    ·have hlt':¬i < m+1:=by omega
     simp only [hlt',decide_false,Bool.false_and,Bool.false_eq_true,if_false]
     simp only [hlt,decide_false,Bool.false_and,Bool.false_eq_true,if_false] at ih
     rw [ih]
 have:=key ops.size (Nat.le_refl _)
 simpa [hi] using this
theorem zz6 {r:Option Nat} {ops:Array Oper} {nx nx':Nat} {A:Nat→Nat→Bool} (D:zil P r ops tm0 H0 nx nx' st A) {S:Nat→Bool} {i:Nat} (hi:i < ops.size) (hSi:S i=false) :
  tmS st tm0 (fun k=>S k||k == i) ops.size=gL (tmS st tm0 S ops.size) (st i).o.dst (st i).v:=by
 apply List.ext_getElem?
 intro s
 rw [Gr,Zk]
 have key:∀m,m≤ops.size→(tmS st tm0 (fun k=>S k||k == i) m)[s]?=if i < m∧(st i).o.dst=some s∧s < tm0.length then some (st i).v else (tmS st tm0 S m)[s]?:=by
  intro m
  induction m with
  |zero=>intro _;simp [tmS]
  |succ m ih=>
   intro hm
   have ih:=ih (by omega)
   simp only [tmS]
   by_cases hmi:m=i
   ·subst hmi
    simp only [beq_self_eq_true,Bool.or_true,if_true,hSi,Bool.false_eq_true,if_false,Nat.lt_succ_self,true_and]
    rw [Gr,Zk,ih]
    simp
   ·have hbe:(m == i)=false:=by simp [hmi]
    simp only [hbe,Bool.or_false]
    have hlt:(i < m+1)↔(i < m):=by omega
    simp only [hlt]
    by_cases hSm:S m=true
    ·simp only [hSm,if_true]
     rw [Gr,Gr,Zk,Zk,ih]
     by_cases hd:(st m).o.dst=some s
     ·have hd':(st i).o.dst≠some s:=D.dst m i s (by omega) hi hmi hd
      simp [hd,hd']
     ·simp [hd]
    ·simp only [hSm]
     exact ih
 have:=key ops.size (Nat.le_refl _)
 simpa [hi] using this
theorem zB9 {r:Option Nat} {ops:Array Oper} {nx nx':Nat} {A:Nat→Nat→Bool} (D:zil P r ops tm0 H0 nx nx' st A) {tmF:List Value} {HF:Hp} (htF:tmF=tmS st tm0 (fun k=>decide (k < ops.size)) ops.size)
  (hHF:∀b k,HF.get b=some k→Ju st H0 (fun k=>decide (k < ops.size)) ops.size b=some k) (rc:Option Nat) (φ0:Ren) (w0:World) (K:Nat→Prop) (a0:Act) (Q:Exit→Act→World→Prop)
  (hk:∀φ' a' w',Ext K φ0 φ' nx nx'→zF φ' HF K w'→qK φ' tmF a'.tmps→a'.defers=a0.defers→qy K w0 w'→Q .normal a' w') :
  ∀
   (fuel t:Nat) (listed:Array Bool) (φ:Ren) (G:Hp) (a:Act) (w:World),listed.size=ops.size→((List.range ops.size).filter fun k=>!listed.getD k false).length≤fuel→
   (∀i,i < ops.size→listed.getD i false=true→∀j,A i j=true→listed.getD j false=true)→(∀b,G.get b=Ju st H0 (fun k=>listed.getD k false) ops.size b)→zF φ G K w→
   qK φ (tmS st tm0 (fun k=>listed.getD k false) ops.size) a.tmps→(∀i,i < ops.size→listed.getD i false=false→yW φ (st i).lo (st i).hi)→Ext K φ0 φ nx nx'→qy K w0 w→a.defers=a0.defers→VO φ r rc→
   wpOpsIn (fw rc) 0 P ops Q (Region.linearise.go .any ops fuel t listed []) a w:=by
 intro fuel
 have final:∀(listed:Array Bool) (φ:Ren) (G:Hp) (a:Act) (w:World),(∀k,k < ops.size→listed.getD k false=true)→(∀b,G.get b=Ju st H0 (fun k=>listed.getD k false) ops.size b)→zF φ G K w→
   qK φ (tmS st tm0 (fun k=>listed.getD k false) ops.size) a.tmps→Ext K φ0 φ nx nx'→qy K w0 w→a.defers=a0.defers→Q .normal a w:=by
  intro listed φ G a w hall hG g ht he hw hd
  refine hk φ a w he (g.sub fun b k hb=>?_) ?_ hd hw
  ·rw [hG,zeQ (T:=fun k=>decide (k < ops.size)) (fun k hk _=>by simp [hall k hk,hk])]
   exact hHF b k hb
  ·have:tmS st tm0 (fun k=>listed.getD k false) ops.size=tmF:=by
    rw [htF]
    apply List.ext_getElem?
    intro s
    exact zgR fun k hk _=>by simp [hall k hk,hk]
   rw [←this];exact ht
 induction fuel with
 |zero=>
  intro t listed φ G a w hsz hcnt hdown hG g ht hfr he hw hd hr
  simp only [Region.linearise.go,List.reverse_nil,wpOpsIn]
  refine final listed φ G a w (fun k hk=>?_) hG g ht he hw hd
  have hnil:=List.eq_nil_of_length_eq_zero (Nat.le_zero.1 hcnt)
  have:=List.filter_eq_nil_iff.1 hnil k (List.mem_range.2 hk)
  simpa using this
 |succ fuel ih=>
  intro t listed φ G a w hsz hcnt hdown hG g ht hfr he hw hd hr
  simp only [Region.linearise.go]
  change wpOpsIn (fw rc) 0 P ops Q (match (Region.ready .any ops listed)[t % (Region.ready .any ops listed).length]? with
   |some i=>Region.linearise.go .any ops fuel (t / (Region.ready .any ops listed).length) (listed.setIfInBounds i true) [i]
   |none=>[].reverse) a w
  cases hi:(Region.ready .any ops listed)[t % (Region.ready .any ops listed).length]? with
  |none=>
   have hnil:Region.ready .any ops listed=[]:=by
    cases hr:Region.ready .any ops listed with
    |nil=>rfl
    |cons x xs=>
     rw [hr] at hi
     have hlt:t % (x::xs).length < (x::xs).length:=Nat.mod_lt _ (by simp)
     simp at hi
     simp at hlt
     omega
   simp only [List.reverse_nil,wpOpsIn]
   refine final listed φ G a w ?_ hG g ht he hw hd
   intro k
   induction k using Nat.strongRecOn with
   |_ k ihk=>
    intro hk
    cases hl:listed.getD k false with
    |true=>rfl
    |false=>
     exfalso
     have hmem:k∈Region.ready .any ops listed:=by
      rw [mem_ready]
      refine ⟨?_,(st k).o,D.hops k hk,fun e he hb=>?_⟩
      ·have:k < listed.size:=by omega
       simp [Array.getD,this] at hl ⊢;exact hl
      ·have:=(D.a1 k hk e he hb).2
       exact ihk e.on this (by omega)
     rw [hnil] at hmem;cases hmem
  |some i=>
   simp only []
   rw [linearise_go_acc,List.reverse_singleton,List.singleton_append]
   have hmem:=List.mem_of_getElem? hi
   rw [mem_ready] at hmem
   obtain ⟨hli,o,ho,hed⟩:=hmem
   obtain ⟨hSi,hil⟩:=zAU hli
   have hin:i < ops.size:=by omega
   have hoe:o=(st i).o:=by have:=D.hops i hin;rw [ho] at this;cases this;rfl
   subst hoe
   have hanc:∀j,A i j=true→listed.getD j false=true:=by
    intro j hj
    obtain ⟨e,he,hb,hor⟩:=D.a2 i hin j hj
    have h1:=hed e he hb
    rcases hor with rfl | hA
    ·exact h1
    ·exact hdown e.on (by have:=(D.a1 i hin e he hb).2;omega) h1 j hA
   have hagree:∀k,k < ops.size→(k=i∨A i k=true∨A k i=true)→listed.getD k false=decide (k < i):=by
    intro k hk hor
    rcases hor with rfl | hA | hA
    ·rw [hSi];simp
    ·rw [hanc k hA];have:=D.a3 i k hin hA;simp [this]
    ·have h1:=D.a3 k i hk hA
     have:listed.getD k false=false:=by
      cases hl:listed.getD k false with
      |false=>rfl
      |true=>have:=hdown k hk hl i hA;rw [hSi] at this;cases this
     rw [this];simp;omega
   have htmo:qK φ (st i).tmo a.tmps:=by
    refine ⟨by rw [D.tlen i hin,←ht.1,Zk],fun s v hv=>?_⟩
    rcases D.tmo i hin s v hv with hj | ⟨h1,h2⟩
    ·exact .inl hj
    ·refine ht.2 s v ?_
     rw [←h1]
     refine zgR fun k hk hdk=>hagree k hk ?_
     by_cases hki:k=i
     ·exact .inl hki
     ·exact .inr (h2 k hk hki hdk)
   have hset:∀k,(listed.setIfInBounds i true).getD k false=(listed.getD k false||k == i):=by
    intro k
    by_cases hki:k=i
    ·subst hki;simp [Array.getD,hil]
    ·rw [getD_set_ne false (fun e=>hki e.symm)]
     simp [hki]
   have hfun:(fun k=>(listed.setIfInBounds i true).getD k false)=(fun k=>listed.getD k false||k == i):=funext hset
   have hcnt':((List.range ops.size).filter fun k=>!(listed.setIfInBounds i true).getD k false).length≤fuel:=by
    have e1:((List.range ops.size).filter fun k=>!(listed.setIfInBounds i true).getD k false)=(((List.range ops.size).filter fun k=>!listed.getD k false)).filter fun k=>!(k == i):=by
     rw [List.filter_filter]
     congr 1
     funext k
     rw [hset]
     cases listed.getD k false<;>cases (k == i)<;>rfl
    have e2:=List.length_filter_lt_length_iff_exists (p:=fun k=>!(k == i)) (l:=(List.range ops.size).filter fun k=>!listed.getD k false) |>.2 ⟨i,by rw [List.mem_filter];exact ⟨List.mem_range.2 hin,by rw [hSi];rfl⟩,by simp⟩
    rw [e1];omega
   have hdown':∀k,k < ops.size→(listed.setIfInBounds i true).getD k false=true→∀j,A k j=true→(listed.setIfInBounds i true).getD j false=true:=by
    intro k hk hl j hj
    rw [hset] at hl ⊢
    simp only [Bool.or_eq_true,beq_iff_eq] at hl ⊢
    rcases hl with hl | rfl
    ·exact .inl (hdown k hk hl j hj)
    ·exact .inl (hanc j hj)
   have hfresh':∀φ',Ext K φ φ' (st i).lo (st i).hi→∀k,k < ops.size→(listed.setIfInBounds i true).getD k false=false→yW φ' (st k).lo (st k).hi:=by
    intro φ' hx k hk hl
    rw [hset] at hl
    simp only [Bool.or_eq_false_iff,beq_eq_false_iff_ne] at hl
    refine ⟨(hfr k hk hl.1).1,fun b hb1 hb2=>?_⟩
    have:=(hfr k hk hl.1).2 b hb1 hb2
    rw [hx.2.1 b (Nat.lt_of_lt_of_le hb2 (hfr k hk hl.1).1) ?_]
    ·exact this
    ·rcases Nat.lt_or_gt_of_ne hl.2 with hlt | hgt
     ·have:=D.rngs k i hlt hin;omega
     ·have:=D.rngs i k hgt hk;omega
   have hsd:∀k,k < ops.size→(fun k=>listed.getD k false) k=true→∀j,A k j=true→(fun k=>listed.getD k false) j=true:=hdown
   simp only [wpOpsIn,ho]
   have hwant:=zji htmo (D.want i hin)
   cases hran:(st i).ran with
   |true=>
    rw [if_pos (by rw [hwant,hran])]
    obtain ⟨hok,hrw⟩:=D.ok i hin hran
    have hV:∀b k,(st i).V.get b=some k→∃k0,G.get b=some k0∧k=vr (st i).wr (fun _=>false) b k0:=by
     intro b k hb
     obtain ⟨k0,h1,h2⟩:=D.vw i hin b k hb
     refine ⟨k0,?_,h2⟩
     rw [hG,←h1]
     refine zeQ fun k' hk' htk=>hagree k' hk' ?_
     by_cases hki:k'=i
     ·exact .inl hki
     ·right
      cases h3:A i k' with
      |true=>exact .inl rfl
      |false=>
       cases h4:A k' i with
       |true=>exact .inr rfl
       |false=>
        have:=D.dis i k' hin hk' (fun e=>hki e.symm) h3 h4 b k hb
        rw [htk] at this;cases this
    refine zFk hok hV hrw φ w K a rc _ Q g (hfr i hin hSi) htmo hr fun v' φ' w' x1 x2 x3 x4=>?_
    refine ih _ _ φ' _ _ w' (by simpa using hsz) hcnt' hdown' (fun b=>?_) x3 ?_ (hfresh' φ' x2) ?_ (hw.trans x4) (by rw [zeM];exact hd) (hr.mono x2.1)
    ·rw [zdb,hfun,zxp D hin hSi hsd]
     show (if (st i).touch b=true then _ else _)=_
     rw [hG]
    ·rw [hfun,zz6 D hin hSi]
     exact zjh (ht.mono x2.1) _ x1
    ·have:=D.rng0 i hin
     exact he.comp (x2.wide this.1 this.2)
   |false=>
    rw [if_neg (by rw [hwant,hran];simp)]
    refine ⟨zcb,?_⟩
    obtain ⟨hv,htch⟩:=D.skip i hin hran
    refine ih _ _ φ G _ w (by simpa using hsz) hcnt' hdown' (fun b=>?_) g ?_ (hfresh' φ (Ext.refl _ _ _ _)) he hw (by rw [zeM];exact hd) hr
    ·rw [hfun,zxp D hin hSi hsd,htch b]
     simp only [Bool.false_eq_true,if_false]
     exact hG b
    ·rw [hfun,zz6 D hin hSi,hv]
     exact zjh ht _ (.tuple' (by simp [zy]))
theorem zzD {r:Option Nat} {id:Nat} {ops:Array Oper} {nx nx':Nat} {A:Nat→Nat→Bool} {ds:List Nat} (hm:P.follows .mixedOrders=true) (D:zil P r ops tm0 H0 nx nx' st A) {HF:Hp}
  (hHF:∀b k,HF.get b=some k→Ju st H0 (fun k=>decide (k < ops.size)) ops.size b=some k) :
  jf P r (.region id ops true) tm0 ds H0 nx ⟨.normal,tmS st tm0 (fun k=>decide (k < ops.size)) ops.size,ds,HF,nx'⟩:=by
 refine ⟨D.nxs,fun φ w K a rc g hf ht hd hr=>wpIn_region_draw fun t=>?_⟩
 rw [hm]
 simp only [Region.schedule,Bool.true_or,if_true,Region.linearise]
 have g0:∀k,(Array.replicate ops.size false).getD k false=false:=by intro k;simp [Array.getD]
 have e0:(fun k=>(Array.replicate ops.size false).getD k false)=fun _=>false:=funext g0
 have es:∀m b,Ju st H0 (fun _=>false) m b=H0.get b:=by
  intro m b;induction m with
  |zero=>rfl
  |succ m ih=>simpa [Ju] using ih
 have et:∀m,tmS st tm0 (fun _=>false) m=tm0:=by
  intro m;induction m with
  |zero=>rfl
  |succ m ih=>simpa [tmS] using ih
 refine zB9 D rfl hHF rc φ w K a _ (fun φ' a' w' x1 x2 x3 x4 x5=>⟨rfl,φ',x1,x2,x3,by rw [x4];exact hd.mono x1.1,x5⟩) ops.size t (Array.replicate ops.size false) φ H0 a w.drew (by simp) ?_ (fun i hi hl=>by rw [g0] at hl;cases hl) (fun b=>by rw [e0,es]) g.drew (by rw [e0,et];exact ht) (fun i hi _=>⟨by have:=D.rng0 i hi;have h:=hf.1;change nx'≤FZ at h;omega,fun b h1 h2=>hf.2 b (by have:=D.rng0 i hi;omega) (by have:=D.rng0 i hi;show b < nx';omega)⟩) (Ext.refl _ _ _ _) (qy.drew K w) rfl hr
 exact Nat.le_trans (List.length_filter_le _ _) (by simp)
end Go.Fz
namespace Go.Fz
variable {P:Program} {φ:Ren} {H:Hp} {K:Nat→Prop} {w:World}
def Xl (ms:List Nat):List Edge→Nat
 |[]=>0
 |e::es=>(if Region.binds .any e then (1 <<< e.on)||| ms.getD e.on 0 else 0)||| Xl ms es
theorem zfg (ms:List Nat) (j:Nat):∀es:List Edge,(Xl ms es).testBit j=true↔∃e∈es,Region.binds .any e=true∧(j=e.on∨(ms.getD e.on 0).testBit j=true)
 |[]=>by simp [Xl]
 |e::es=>by
  have ih:=zfg ms j es
  simp only [Xl,Nat.testBit_or,Bool.or_eq_true,ih,List.mem_cons,exists_eq_or_imp]
  by_cases hb:Region.binds .any e=true
  ·simp only [hb,if_true,Nat.testBit_or,Bool.or_eq_true,Nat.one_shiftLeft,Nat.testBit_two_pow,decide_eq_true_eq,true_and]
   constructor
   ·rintro ((h | h) | h)
    ·exact .inl (.inl h.symm)
    ·exact .inl (.inr h)
    ·exact .inr h
   ·rintro ((h | h) | h)
    ·exact .inl (.inl h.symm)
    ·exact .inl (.inr h)
    ·exact .inr h
  ·simp only [hb,if_false,Nat.zero_testBit,Bool.false_eq_true,false_or,false_and]
def Gs (ms:List Nat):Nat→List Oper→Bool
 |_,[]=>true
 |i,o::os=>(ms.getD i 0 == Xl ms o.after.toList)&&o.after.toList.all (fun e=>!Region.binds .any e||decide (e.on < i))&&decide (ms.getD i 0 < 2 ^ i)&&Gs ms (i+1) os
theorem zoT {ms:List Nat}:∀{l:List Oper} {i j:Nat} {o:Oper},Gs ms i l=true→l[j]?=some o→
  ms.getD (i+j) 0=Xl ms o.after.toList∧(∀e∈o.after.toList,Region.binds .any e=true→e.on < i+j)∧ms.getD (i+j) 0 < 2 ^ (i+j)
 |[],i,j,o,_,h=>by simp at h
 |x::l,i,0,o,hf,h=>by
  simp at h;subst h
  simp only [Gs,Bool.and_eq_true,beq_iff_eq,decide_eq_true_eq,List.all_eq_true,Bool.or_eq_true,Bool.not_eq_true'] at hf
  obtain ⟨⟨⟨h1,h2⟩,h3⟩,h4⟩:=hf
  refine ⟨h1,fun e he hb=>?_,h3⟩
  rcases h2 e he with h | h
  ·rw [hb] at h;cases h
  ·exact h
 |x::l,i,j+1,o,hf,h=>by
  simp only [Gs,Bool.and_eq_true] at hf
  have:=zoT (j:=j) hf.2 (by simpa using h)
  rw [show i+1+j=i+(j+1) by omega] at this
  exact this
def zxq:Operand→List Nat
 |.tmp t=>[t]
 |_=>[]
def xA (ops:Array Oper) (o:Oper):List Nat:=
 (o.op.operands.toList.flatMap zxq)++(match o.guard with
  |some (j,_)=>match (ops[j]?).bind (·.dst) with
   |some d=>[d]
   |none=>[]
  |none=>[])
def gC (tm:List Value) (slots:List Nat):List Value:=slots.foldl (fun t s=>t.set s (tm.getD s junk)) (List.replicate tm.length junk)
theorem zgS {tm:List Value} {slots:List Nat}:(gC tm slots).length=tm.length∧∀(s:Nat) v,(gC tm slots)[s]?=some v→v=junk∨(s∈slots∧tm[s]?=some v):=by
 unfold gC
 have key:∀(sl:List Nat) (t:List Value),t.length=tm.length→(∀(s:Nat) v,t[s]?=some v→v=junk∨(s∈slots∧tm[s]?=some v))→(∀s∈sl,s∈slots)→
   (sl.foldl (fun t s=>t.set s (tm.getD s junk)) t).length=tm.length∧∀(s:Nat) v,(sl.foldl (fun t s=>t.set s (tm.getD s junk)) t)[s]?=some v→v=junk∨(s∈slots∧tm[s]?=some v):=by
  intro sl
  induction sl with
  |nil=>intro t h1 h2 _;exact ⟨h1,h2⟩
  |cons x sl ih=>
   intro t h1 h2 h3
   simp only [List.foldl_cons]
   refine ih _ (by simpa using h1) (fun s v hv=>?_) (fun s hs=>h3 s (by simp [hs]))
   rw [List.getElem?_set] at hv
   by_cases hx:x=s
   ·subst hx
    simp at hv
    obtain ⟨hl,rfl⟩:=hv
    right
    refine ⟨h3 x (by simp),?_⟩
    rw [h1] at hl
    simp [hl]
   ·simp [hx] at hv;exact h2 s v hv
 refine key slots _ (by simp) (fun s v hv=>?_) (fun s hs=>hs)
 rw [List.getElem?_replicate] at hv
 split at hv
 ·cases hv;exact .inl rfl
 ·cases hv
theorem zpp {tm:List Value} {slots:List Nat} {s:Nat} (hs:s∈slots):(gC tm slots)[s]?=tm[s]?:=by
 unfold gC
 have key:∀(sl:List Nat) (t:List Value),t.length=tm.length→(s∈sl∨t[s]?=tm[s]?)→(sl.foldl (fun t s=>t.set s (tm.getD s junk)) t)[s]?=tm[s]?:=by
  intro sl
  induction sl with
  |nil=>intro t _ h;simpa using h
  |cons x sl ih=>
   intro t hl h
   simp only [List.foldl_cons]
   refine ih _ (by simpa using hl) ?_
   by_cases hx:x=s
   ·subst hx
    right
    rw [List.getElem?_set]
    by_cases hlt:x < tm.length
    ·simp [hl,hlt]
    ·simp [hl,hlt]
   ·rcases h with h | h
    ·rcases List.mem_cons.1 h with h | h
     ·exact absurd h.symm hx
     ·exact .inl h
    ·right
     rw [List.getElem?_set]
     simp [hx,h]
 exact key slots _ (by simp) (.inl hs)
theorem zCa {tm:List Value} {slots:List Nat} {x:Operand} (hs:∀s∈zxq x,s∈slots):opv tm x=opv (gC tm slots) x:=by
 cases x with
 |tmp t=>
  have:=zpp (tm:=tm) (hs t (by simp [zxq]))
  simp only [opv,zeI,this]
 |_=>rfl
theorem zlO {ops:Array Oper} {tm:List Value} {o:Oper}:vq ops tm o=vq ops (gC tm (xA ops o)) o:=by
 unfold vq
 cases hg:o.guard with
 |none=>rfl
 |some p=>
  obtain ⟨j,want⟩:=p
  dsimp only
  cases hd:(ops[j]?).bind (·.dst) with
  |none=>rfl
  |some d=>
   have:(gC tm (xA ops o))[d]?=tm[d]?:=zpp (by simp [xA,hg,hd])
   simp only [Option.bind_some,zeI,this]
def zET (op:List Value→Hp→Nat→Oper→Option (Value×Hp×Nat)):Prop:=∀(t t':List Value) (H:Hp) (nx:Nat) (o:Oper),(∀x∈o.op.operands,opv t x=opv t' x)→op t H nx o=op t' H nx o
theorem zET.keep {op:List Value→Hp→Nat→Oper→Option (Value×Hp×Nat)} (h:zET op) {ops:Array Oper} {tm:List Value} {H:Hp} {nx:Nat} {o:Oper}:op tm H nx o=op (gC tm (xA ops o)) H nx o:=
 h
  _ _ _ _ _ fun x hx=>zCa fun s hs=>by
  simp only [xA,List.mem_append,List.mem_flatMap]
  exact .inl ⟨x,by simpa using hx,hs⟩
def names (H:Hp):List Nat:=H.map (·.1)
def zrg (tm:List Value) (x:Operand):List Nat:=match opv tm x with
 |some (.map (some r))=>[r]
 |_=>[]
def zjj (tm:List Value) (o:Oper):List Nat:=
 match o.op with
 |.mapUpdate _ m _ _=>zrg tm m
 |.lookup _ x _ _=>zrg tm x
 |.store _ a _=>match opv tm a with
  |some (.pointer (some a))=>[a.block]
  |_=>[]
 |.call {callee:=.builtin .append,args:=args,argTypes:=_}=>match args.toList with
  |s::_=>match opv tm s with
   |some (.slice (some a) _ c)=>if qe≤c then [a.block] else []
   |_=>[]
  |_=>[]
 |.call {callee:=.builtin .copy,args:=args,argTypes:=_}=>match args.toList with
  |s::_=>match opv tm s with
   |some (.slice (some a) _ _)=>[a.block]
   |_=>[]
  |_=>[]
 |_=>[]
def ztu (rs:List (Nat×Nat)) (b:Nat):Bool:=rs.any fun x=>decide (x.1≤b)&&decide (b < x.2)
inductive See where
 |few (bs:List Nat)
 |all (f:Nat→Bool)
def ztv (wr:List Nat) (H:Hp):List Nat→Hp
 |[]=>[]
 |b::bs=>match H.get b with
  |some k=>(b,vr (fun b=>wr.contains b) (fun _=>false) b k)::ztv wr H bs
  |none=>ztv wr H bs
def zwX (wr:List Nat) (H:Hp):See→Hp
 |.few bs=>ztv wr H bs
 |.all f=>Hp.only f (Um (fun b=>wr.contains b) (fun _=>false) H)
def zF4 (wr:List Nat) (lo hi:Nat) (H1 H:Hp):Hp:=match wr with
 |[]=>bif Nat.beq lo hi then H else zaA (jY (fun b=>([]:List Nat).contains b) lo hi) H1 H
 |wr=>zaA (jY (fun b=>wr.contains b) lo hi) H1 H
def zxr (op:List Value→Hp→Nat→Oper→Option (Value×Hp×Nat)) (ops:Array Oper) (cut:Nat→List Value→Hp→List Stp→Option (List Nat×See)):Nat→List Stp→List Oper→List Value→Hp→Nat→Option (List Stp)
 |_,_,[],_,_,_=>some []
 |i,done,o::l,tm,H,nx=>
  match vq ops tm o with
  |some false=>(zxr op ops cut (i+1) (⟨o,false,undef,gC tm (xA ops o),[],fun _=>false,[],nx,nx⟩::done) l (gL tm o.dst undef) H nx).map (⟨o,false,undef,gC tm (xA ops o),[],fun _=>false,[],nx,nx⟩::·)
  |some true=>
   match cut i tm H done with
   |none=>none
   |some (wr,see)=>
    match op tm (zwX wr H see) nx o with
    |some (v,H1,nx1)=>
     if zeP (Hp.only (jY (fun b=>wr.contains b) nx nx1) H1)&&wr.all (fun b=>(Hp.get (zwX wr H see) b).isSome) then
      (zxr op ops cut (i+1) (⟨o,true,v,gC tm (xA ops o),zwX wr H see,fun b=>wr.contains b,H1,nx,nx1⟩::done) l (gL tm o.dst v)
       (zF4 wr nx nx1 H1 H) nx1).map (⟨o,true,v,gC tm (xA ops o),zwX wr H see,fun b=>wr.contains b,H1,nx,nx1⟩::·)
     else none
    |none=>none
  |none=>none
def tmR:List Stp→List Value→List Value
 |[],tm=>tm
 |s::ss,tm=>tmR ss (gL tm s.o.dst s.v)
def hpR:List Stp→Hp→Hp
 |[],H=>H
 |s::ss,H=>hpR ss (if s.ran then zaA s.touch s.H' H else H)
def nxR:List Stp→Nat→Nat
 |[],nx=>nx
 |s::ss,nx=>nxR ss s.hi
structure zwY (P:Program) (r:Option Nat) (ops:Array Oper) (o:Oper) (tm:List Value) (H:Hp) (nx:Nat) (s:Stp):Prop where
 o_eq:s.o=o
 lo_eq:s.lo=nx
 le:s.lo≤s.hi
 tmo_eq:s.tmo=gC tm (xA ops o)
 want:vq ops s.tmo s.o=some s.ran
 ok:s.ran=true→KV P r s.o s.tmo s.V s.lo s.v s.H' s.hi∧zeP (Hp.only s.touch s.H')=true
 vw:∀b k,s.V.get b=some k→∃k0,H.get b=some k0∧k=vr s.wr (fun _=>false) b k0
 skip:s.ran=false→s.v=undef∧∀b,s.touch b=false
 wrin:∀b,s.wr b=true→∃k,s.V.get b=some k
def Ku (ms:List Nat) (i j:Nat):Bool:=(ms.getD i 0).testBit j||(ms.getD j 0).testBit i
def zpq (ms:List Nat) (ops:Array Oper):Bool:=
 ops.toList.zipIdx.all fun s=>ops.toList.zipIdx.all fun t=>s.2 == t.2||((s.1.dst.isNone||s.1.dst != t.1.dst)&&((xA ops s.1).all fun x=>t.1.dst != some x||Ku ms s.2 t.2))
def zjk (ms:List Nat) (ss:List Stp):Bool:=
 ss.zipIdx.all fun t=>!t.1.ran||(Nat.beq t.1.lo t.1.hi&&t.1.V.all fun x=>!t.1.wr x.1)||ss.zipIdx.all fun s=>s.2 == t.2||Ku ms s.2 t.2||s.1.V.all fun x=>!t.1.touch x.1
theorem zeR {α:Type} {p:α×Nat→Bool} {l:List α} (h:l.zipIdx.all p=true) {i:Nat} {x:α} (hx:l[i]?=some x):p (x,i)=true:=by
 refine List.all_eq_true.1 h (x,i) ?_
 rw [List.mem_zipIdx_iff_getElem?]
 exact hx
def yN:Stp:=⟨default,false,undef,[],[],fun _=>false,[],0,0⟩
theorem zDv (ss:List Stp) (s:Stp):∀tm,tmR (ss++[s]) tm=gL (tmR ss tm) s.o.dst s.v:=by
 induction ss with
 |nil=>intro tm;rfl
 |cons x ss ih=>intro tm;exact ih _
theorem zDw (ss:List Stp) (s:Stp):∀H,hpR (ss++[s]) H=if s.ran then zaA s.touch s.H' (hpR ss H) else hpR ss H:=by
 induction ss with
 |nil=>intro H;rfl
 |cons x ss ih=>intro H;exact ih _
theorem zxs (ss:List Stp) (s:Stp):∀nx,nxR (ss++[s]) nx=s.hi:=by
 induction ss with
 |nil=>intro nx;rfl
 |cons x ss ih=>intro nx;exact ih _
theorem zjl {p:Nat×Blk→Bool} {b:Nat} {k:Blk}:∀{H:Hp},H.all p=true→H.get b=some k→p (b,k)=true
 |[],_,h=>by simp [Hp.get_nil] at h
 |(c,x)::r,ha,h=>by
  simp only [List.all_cons,Bool.and_eq_true] at ha
  by_cases hb:c=b
  ·subst hb;simp [Hp.get_cons] at h;subst h;exact ha.1
  ·simp [Hp.get_cons,hb] at h;exact zjl ha.2 h
theorem zCb {r:Option Nat} {ops:Array Oper}
  {tm:List Value} {H:Hp} {nx:Nat} {ss:List Stp} {ms:List Nat} (hgo:ss.length=ops.toList.length∧∀(j:Nat) o s,ops.toList[j]?=some o→ss[j]?=some s→zwY P r ops o (tmR (ss.take j) tm) (hpR (ss.take j) H) (nxR (ss.take j) nx) s)
  (hm:Gs ms 0 ops.toList=true) (hsl:zpq ms ops=true) (hvw:zjk ms ss=true) :
  zil P r ops tm H nx (nxR ss nx) (fun i=>ss.getD i yN) (fun i j=>(ms.getD i 0).testBit j)∧
   (∀b,Ju (fun i=>ss.getD i yN) H (fun k=>decide (k < ops.size)) ops.size b=(hpR ss H).get b)∧tmS (fun i=>ss.getD i yN) tm (fun k=>decide (k < ops.size)) ops.size=tmR ss tm:=by
 obtain ⟨hlen,hst⟩:=hgo
 simp only [Array.length_toList] at hlen
 have hss:∀i,i < ops.size→ss[i]?=some (ss.getD i yN):=fun i hi=>by
  have:i < ss.length:=by omega
  simp [this]
 have hso:∀i,i < ops.size→ops.toList[i]?=some ops[i]!:=fun i hi=>by simp [hi]
 have hok:∀i (hi:i < ops.size),zwY P r ops ops[i]! (tmR (ss.take i) tm) (hpR (ss.take i) H) (nxR (ss.take i) nx) (ss.getD i yN):=fun i hi=>hst i _ _ (hso i hi) (hss i hi)
 have htake:∀i,i < ops.size→ss.take (i+1)=ss.take i++[ss.getD i yN]:=fun i hi=>by
  have:i < ss.length:=by omega
  rw [List.take_succ_eq_append_getElem this]
  simp [this]
 have ht:∀i,i≤ops.size→∀m,i≤m→m≤ops.size→tmS (fun i=>ss.getD i yN) tm (fun k=>decide (k < i)) m=tmR (ss.take i) tm:=by
  intro i hi m
  induction m generalizing i with
  |zero=>
       intro h1 _;have:i=0:=by omega
       subst this;rfl
  |succ m ih=>
   intro h1 h2
   simp only [tmS]
   by_cases hmi:m < i
   ·have:i=m+1:=by omega
    subst this
    simp only [Nat.lt_succ_self,decide_true,if_true]
    have e1:tmS (fun i=>ss.getD i yN) tm (fun k=>decide (k < m+1)) m=tmS (fun i=>ss.getD i yN) tm (fun k=>decide (k < m)) m:=by
     apply List.ext_getElem?
     intro s
     exact zgR fun k hk _=>by simp [hk];omega
    rw [e1,ih m (by omega) (Nat.le_refl _) (by omega),htake m (by omega),zDv]
   ·simp only [hmi,decide_false,Bool.false_eq_true,if_false]
    exact ih i hi (by omega) (by omega)
 have hh:∀i,i≤ops.size→∀m,i≤m→m≤ops.size→∀b,Ju (fun i=>ss.getD i yN) H (fun k=>decide (k < i)) m b=(hpR (ss.take i) H).get b:=by
  intro i hi m
  induction m generalizing i with
  |zero=>
       intro h1 _ b;have:i=0:=by omega
       subst this;rfl
  |succ m ih=>
   intro h1 h2 b
   simp only [Ju]
   by_cases hmi:m < i
   ·have:i=m+1:=by omega
    subst this
    simp only [Nat.lt_succ_self,decide_true,Bool.true_and]
    have e1:Ju (fun i=>ss.getD i yN) H (fun k=>decide (k < m+1)) m b=Ju (fun i=>ss.getD i yN) H (fun k=>decide (k < m)) m b:=zeQ fun k hk _=>by simp [hk];omega
    rw [e1,ih m (by omega) (Nat.le_refl _) (by omega),htake m (by omega),zDw]
    have hk:=hok m (by omega)
    cases hr:(ss.getD m yN).ran with
    |true=>simp only [if_true];rw [zdb]
    |false=>rw [(hk.skip hr).2 b];simp
   ·simp only [hmi,decide_false,Bool.false_and,Bool.false_eq_true,if_false]
    exact ih i hi (by omega) (by omega) b
 have hnx:∀i,i≤ops.size→∀j,j < i→(ss.getD j yN).hi≤nxR (ss.take i) nx:=by
  intro i
  induction i with
  |zero=>intro _ j hj;omega
  |succ i ih=>
   intro hi j hj
   rw [htake i (by omega),zxs]
   have hk:=hok i (by omega)
   by_cases hji:j=i
   ·subst hji;exact Nat.le_refl _
   ·have:=ih (by omega) j (by omega)
    rw [←hk.lo_eq] at this
    exact Nat.le_trans this hk.le
 have hnx0:∀i,i≤ops.size→nx≤nxR (ss.take i) nx:=by
  intro i
  induction i with
  |zero=>intro _;exact Nat.le_refl _
  |succ i ih=>
   intro hi
   rw [htake i (by omega),zxs]
   have hk:=hok i (by omega)
   have:=ih (by omega)
   rw [←hk.lo_eq] at this
   exact Nat.le_trans this hk.le
 have hall:ss.take ops.size=ss:=List.take_of_length_le (by omega)
 have hmf:∀i,i < ops.size→ms.getD i 0=Xl ms (ss.getD i yN).o.after.toList∧(∀e∈(ss.getD i yN).o.after.toList,Region.binds .any e=true→e.on < i)∧ms.getD i 0 < 2 ^ i:=fun i hi=>by
  have:=zoT hm (hso i hi)
  rw [←(hok i hi).o_eq] at this
  simpa using this
 have slt:∀i k,i < ops.size→k < ops.size→i≠k→((ss.getD i yN).o.dst.isNone||(ss.getD i yN).o.dst != (ss.getD k yN).o.dst)=true∧((xA ops (ss.getD i yN).o).all fun x=>(ss.getD k yN).o.dst != some x||Ku ms i k)=true:=by
  intro i k hi hk hne
  have h1:=zeR (zeR hsl (hso i hi)) (hso k hk)
  rw [←(hok i hi).o_eq,←(hok k hk).o_eq] at h1
  have hb:(i == k)=false:=by simp [hne]
  simpa [hb] using h1
 refine ⟨⟨fun i hi=>?_,fun i hi=>(hok i hi).le,fun i j hij hj=>?_,fun i hi=>⟨by rw [(hok i hi).lo_eq];exact hnx0 i (by omega),by have:=hnx ops.size (Nat.le_refl _) i hi;rwa [hall] at this⟩,by have:=hnx0 ops.size (Nat.le_refl _);rwa [hall] at this,
  fun i hi e he hb=>?_,fun i hi j hj=>?_,fun i j hi hj=>?_,fun i hi=>?_,fun i hi s v hv=>?_,fun i j s hi hj hne hd=>?_,fun i hi=>(hok i hi).want,fun i hi=>(hok i hi).ok,fun i hi b k hb=>?_,fun i hi=>(hok i hi).skip,
  fun i j hi hj hne h1 h2 b k hb=>?_,fun i hi=>(hok i hi).wrin⟩,fun b=>?_,?_⟩
 ·rw [(hok i hi).o_eq];simp [hi]
 ·rw [(hok j hj).lo_eq];exact hnx j (by omega) i hij
 ·refine ⟨?_,(hmf i hi).2.1 e (by simpa using he) hb⟩
  try dsimp only
  rw [(hmf i hi).1,zfg]
  exact ⟨e,by simpa using he,hb,.inl rfl⟩
 ·try dsimp only at hj
  rw [(hmf i hi).1,zfg] at hj
  obtain ⟨e,he,hb,hor⟩:=hj
  exact ⟨e,by simpa using he,hb,hor⟩
 ·have hlt:=(hmf i hi).2.2
  try dsimp only at hj
  rcases Nat.lt_or_ge j i with h | h
  ·exact h
  ·rw [Nat.testBit_lt_two_pow (Nat.lt_of_lt_of_le hlt (Nat.pow_le_pow_right (by omega) h))] at hj
   cases hj
 ·try dsimp only
  rw [(hok i hi).tmo_eq,zgS.1,←ht i (by omega) i (Nat.le_refl _) (by omega),Zk]
 ·try dsimp only at hv ⊢
  rw [(hok i hi).tmo_eq] at hv
  rcases zgS.2 s v hv with h0 | ⟨h1,h2⟩
  ·exact .inl h0
  ·refine .inr ⟨by rw [ht i (by omega) _ (by omega) (Nat.le_refl _)];exact h2,fun k hk hne hd=>?_⟩
   have:=(slt i k hi hk (fun e=>hne e.symm)).2
   rw [(hok i hi).o_eq] at this
   have:=List.all_eq_true.1 this s h1
   rw [hd] at this
   simpa [Ku] using this
 ·have:=(slt i j hi hj hne).1
  rw [hd] at this
  try dsimp only at this hd ⊢
  simp at this
  exact fun e=>this e.symm
 ·try dsimp only at hb ⊢
  obtain ⟨k0,h0,h1⟩:=(hok i hi).vw b k hb
  exact ⟨k0,by rw [hh i (by omega) _ (by omega) (Nat.le_refl _)];exact h0,h1⟩
 ·try dsimp only at hb ⊢
  cases hr:(ss.getD j yN).ran with
  |false=>exact ((hok j hj).skip hr).2 b
  |true=>
   have hv:=zeR hvw (hss j hj)
   simp only [hr,Bool.not_true,Bool.false_or,Bool.or_eq_true] at hv
   rcases hv with hv | hv
   ·simp only [Bool.and_eq_true] at hv
    have hlh:=Nat.eq_of_beq_eq_true hv.1
    cases hw:(ss.getD j yN).wr b with
    |true=>
     obtain ⟨k',hk'⟩:=(hok j hj).wrin b hw
     have:=zjl hv.2 hk'
     dsimp only at this
     rw [hw] at this
     cases this
    |false=>
     simp only [Stp.touch,jY,hw,Bool.false_or,hlh]
     simp only [Bool.and_eq_false_iff,decide_eq_false_iff_not]
     omega
   have hv:=zeR hv (hss i hi)
   have hb1:(i == j)=false:=by simp [hne]
   have hb2:Ku ms i j=false:=by simp only [Ku,Bool.or_eq_false_iff];exact ⟨h1,h2⟩
   simp only [hb1,hb2,Bool.false_or] at hv
   have:=zjl hv hb
   simpa using this
 ·rw [hh ops.size (Nat.le_refl _) _ (Nat.le_refl _) (Nat.le_refl _),hall]
 ·rw [ht ops.size (Nat.le_refl _) _ (Nat.le_refl _) (Nat.le_refl _),hall]
def ztw (tm:List Value) (x:Operand):List Nat:=
 match opv tm x with
 |some (.pointer (some a))=>[a.block]
 |some (.slice (some a) _ _)=>[a.block]
 |_=>[]
def zDx (tm:List Value) (o:Oper):Option (List Nat):=
 match o.op with
 |.load _ a=>some (ztw tm a)
 |.store _ a _=>some (ztw tm a)
 |.call {callee:=.builtin _,args:=args,argTypes:=_}=>some (args.toList.flatMap (ztw tm))
 |.call _=>none
 |.mapUpdate _ m _ _=>some (zrg tm m)
 |.lookup _ x _ _=>some (zrg tm x)
 |_=>some []
def zGB (ops:Array Oper) (ms:List Nat) (est:List (List Nat)) (i:Nat) (tm:List Value) (H:Hp) (done:List Stp):Option (List Nat×See):=
 match ops[i]? with
 |none=>none
 |some o=>
  match zDx tm o with
  |some bs=>some ((zjj tm o).filter fun b=>match H.get b with | some k=>k.rw | none=>false,.few bs)
  |none=>
   match (List.range ops.size).filter fun j=>j != i&&!Ku ms i j with
   |[]=>some (names (H.filter fun x=>x.2.rw),.all fun _=>true)
   |others=>
    match others.flatMap (fun j=>est.getD j []++(match ops[j]? with | some p=>zjj tm p | none=>[])),others.filterMap fun j=>if j < i then (match (done.reverse)[j]? with | some s=>if s.lo < s.hi then some (s.lo,s.hi) else none | none=>none) else none with
    |mask,rs=>some ([],.all fun b=>!(mask.contains b||ztu rs b))
def zwZ (P:Program) (ops:Array Oper) (H:Hp):List Oper→List Value→List (List Nat)
 |[],_=>[]
 |o::l,tm=>
  match o.op with
  |.store ..=>zjj tm o::zwZ P ops H l tm
  |.load .. | .fieldAddr .. | .indexAddr .. | .move _ | .assign _ | .slice ..=>
   []::zwZ P ops H l (gL tm o.dst (match vq ops tm o with
    |some true=>match jW P tm H 0 o with
     |some (v,_,_)=>v
     |none=>junk
    |_=>junk))
  |_=>zjj tm o::zwZ P ops H l (gL tm o.dst junk)
def zxt (o:Oper):Bool:=match o.op with
 |.store ..=>true
 |.mapUpdate ..=>true
 |.call {callee:=.builtin .append,args:=_,argTypes:=_}=>true
 |.call {callee:=.builtin .copy,args:=_,argTypes:=_}=>true
 |_=>false
def zlP (l:List Nat) (i:Nat):Nat:=List.rec (motive:=fun _=>Nat→Nat) (fun _=>0) (fun x _ ih i=>Nat.rec (motive:=fun _=>Nat) x (fun m _=>ih m) i) l i
theorem zcc:∀(l:List Nat) (i:Nat),zlP l i=l.getD i 0
 |[],_=>by simp [zlP]
 |x::l,0=>rfl
 |x::l,i+1=>by
  show zlP l i=_
  rw [zcc l i];simp
def zgT (ms:List Nat):List Edge→Nat
 |[]=>0
 |e::es=>Nat.lor (bif Region.binds .any e then Nat.lor (Nat.shiftLeft 1 e.on) (zlP ms e.on) else 0) (zgT ms es)
theorem zlQ (ms:List Nat):∀es:List Edge,zgT ms es=Xl ms es
 |[]=>rfl
 |e::es=>by
  simp only [zgT,Xl,zlQ ms es,zcc]
  cases Region.binds .any e<;>rfl
def zu7 (rs:List Nat) (i:Nat):List Edge→Nat
 |[]=>0
 |e::es=>Nat.lor (bif Region.binds .any e then Nat.lor (Nat.shiftLeft 1 e.on) (zlP rs (i - 1 - e.on)) else 0) (zu7 rs i es)
def zlR:List Oper→Nat→List Nat→List Nat
 |[],_,rs=>rs.reverse
 |o::os,i,rs=>zlR os (i+1) (zu7 rs i o.after.toList::rs)
def zgU (i:Nat):List Edge→Bool
 |[]=>true
 |e::es=>(!Region.binds .any e||Nat.blt e.on i)&&zgU i es
theorem zdc {a b:Nat} (h:Nat.blt a b=true):a < b:=by
 unfold Nat.blt at h
 rw [Nat.ble_eq] at h;exact h
theorem zlS {i:Nat}:∀{es:List Edge},zgU i es=true→es.all (fun e=>!Region.binds .any e||decide (e.on < i))=true
 |[],_=>rfl
 |e::es,h=>by
  simp only [zgU,Bool.and_eq_true,Bool.or_eq_true] at h
  simp only [List.all_cons,zlS h.2,Bool.and_true,Bool.or_eq_true,decide_eq_true_eq]
  rcases h.1 with h | h
  ·exact .inl h
  ·exact .inr (zdc h)
def zgV (ms:List Nat):Nat→List Oper→Bool
 |_,[]=>true
 |i,o::os=>(match zlP ms i with | m=>Nat.beq m (zgT ms o.after.toList)&&Nat.blt m (Nat.pow 2 i))&&zgU i o.after.toList&&zgV ms (i+1) os
theorem zlT {ms:List Nat}:∀{l:List Oper} {i:Nat},zgV ms i l=true→Gs ms i l=true
 |[],_,_=>rfl
 |o::os,i,h=>by
  simp only [zgV,Bool.and_eq_true,zlQ,zcc] at h
  obtain ⟨⟨⟨h1,h2⟩,h3⟩,h4⟩:=h
  have h1:=Nat.eq_of_beq_eq_true h1
  simp only [Gs,zlT h4,zlS h3,Bool.and_true,Bool.and_eq_true,beq_iff_eq,decide_eq_true_eq]
  exact ⟨h1,zdc h2⟩
def zpr:Nat→List Oper→List (Nat×Nat)
 |_,[]=>[]
 |i,o::os=>match o.dst with
  |some d=>(d,i)::zpr (i+1) os
  |none=>zpr (i+1) os
theorem zps {d:Nat} {p:Oper}:∀{l:List Oper} {i j:Nat},l[j]?=some p→p.dst=some d→(d,i+j)∈zpr i l
 |[],_,_,h,_=>by simp at h
 |o::os,i,0,h,hd=>by
  simp at h
  subst h
  simp only [zpr,hd]
  simp
 |o::os,i,j+1,h,hd=>by
  have ih:=zps (l:=os) (i:=i+1) (j:=j) (by simpa using h) hd
  rw [show i+1+j=i+(j+1) by omega] at ih
  simp only [zpr]
  split
  ·exact List.mem_cons_of_mem _ ih
  ·exact ih
def zlU (ms:List Nat) (i j:Nat):Bool:=Nat.testBit (zlP ms i) j||Nat.testBit (zlP ms j) i
def zw0 (ms:List Nat) (i x:Nat) (dl:List (Nat×Nat)):Bool:=List.rec (motive:=fun _=>Bool) true (fun p _ ih=>(bif Nat.beq p.1 x then Nat.beq p.2 i||zlU ms i p.2 else true)&&ih) dl
theorem zu8 {ms:List Nat} {i x d j:Nat}:∀{dl:List (Nat×Nat)},zw0 ms i x dl=true→(d,j)∈dl→d=x→j≠i→zlU ms i j=true
 |[],_,h,_,_=>by cases h
 |p::dl,h,hm,hd,hj=>by
  have h:((bif Nat.beq p.1 x then Nat.beq p.2 i||zlU ms i p.2 else true)&&zw0 ms i x dl)=true:=h
  simp only [Bool.and_eq_true] at h
  rcases List.mem_cons.1 hm with he | hm
  ·subst he
   have hb:Nat.beq d x=true:=by rw [hd];exact Nat.beq_refl x
   have h1:=h.1
   rw [hb] at h1
   simp only [cond_true,Bool.or_eq_true] at h1
   rcases h1 with h1 | h1
   ·exact absurd (Nat.eq_of_beq_eq_true h1) hj
   ·exact h1
  ·exact zu8 h.2 hm hd hj
def zAW (i x:Nat) (dl:List (Nat×Nat)):Bool:=List.rec (motive:=fun _=>Bool) true (fun p _ ih=>(bif Nat.beq p.1 x then Nat.beq p.2 i else true)&&ih) dl
theorem zxu {i x d j:Nat}:∀{dl:List (Nat×Nat)},zAW i x dl=true→(d,j)∈dl→d=x→j=i
 |[],_,h,_=>by cases h
 |p::dl,h,hm,hd=>by
  have h:((bif Nat.beq p.1 x then Nat.beq p.2 i else true)&&zAW i x dl)=true:=h
  simp only [Bool.and_eq_true] at h
  rcases List.mem_cons.1 hm with he | hm
  ·subst he
   have hb:Nat.beq d x=true:=by rw [hd];exact Nat.beq_refl x
   have h1:=h.1
   rw [hb] at h1
   exact Nat.eq_of_beq_eq_true h1
  ·exact zxu h.2 hm hd
def zAX (f:Nat→Bool):List Nat→Bool
 |[]=>true
 |x::r=>f x&&zAX f r
theorem zxv {f:Nat→Bool}:∀{l:List Nat} {x:Nat},zAX f l=true→x∈l→f x=true
 |[],_,_,h=>by cases h
 |y::l,x,h,hx=>by
  simp only [zAX,Bool.and_eq_true] at h
  rcases List.mem_cons.1 hx with rfl | hx
  ·exact h.1
  ·exact zxv h.2 hx
def zim (ms:List Nat) (ops:Array Oper) (dl:List (Nat×Nat)):Nat→List Oper→Bool
 |_,[]=>true
 |i,o::os=>(match o.dst with
  |some d=>zAW i d dl
  |none=>true)&&zAX (fun x=>zw0 ms i x dl) (xA ops o)&&zim ms ops dl (i+1) os
theorem zu9 {ms:List Nat} {ops:Array Oper} {dl:List (Nat×Nat)}:∀{l:List Oper} {i j:Nat} {o:Oper},zim ms ops dl i l=true→l[j]?=some o→
  (∀d,o.dst=some d→zAW (i+j) d dl=true)∧∀x∈xA ops o,zw0 ms (i+j) x dl=true
 |[],_,_,_,_,h=>by simp at h
 |p::os,i,0,o,h,ho=>by
  simp at ho
  subst ho
  simp only [zim,Bool.and_eq_true] at h
  refine ⟨fun d hd=>?_,fun x hx=>zxv h.1.2 hx⟩
  have h1:=h.1.1
  rw [hd] at h1
  exact h1
 |p::os,i,j+1,o,h,ho=>by
  simp only [zim,Bool.and_eq_true] at h
  have:=zu9 (j:=j) h.2 (by simpa using ho)
  rwa [show i+1+j=i+(j+1) by omega] at this
theorem zCc {ms:List Nat} {ops:Array Oper} (h:zim ms ops (zpr 0 ops.toList) 0 ops.toList=true):zpq ms ops=true:=by
 unfold zpq
 rw [List.all_eq_true]
 rintro ⟨o,i⟩ hs
 rw [List.all_eq_true]
 rintro ⟨p,j⟩ ht
 rw [List.mem_zipIdx_iff_getElem?] at hs ht
 dsimp only at hs ht ⊢
 by_cases hij:i=j
 ·subst hij;simp
 ·obtain ⟨h1,h2⟩:=zu9 h hs
  rw [Nat.zero_add] at h1 h2
  have e0:(i == j)=false:=by simpa using hij
  rw [e0,Bool.false_or,Bool.and_eq_true]
  constructor
  ·cases hd:o.dst with
   |none=>rfl
   |some d=>
    simp only [Option.isNone_some,Bool.false_or,bne_iff_ne,ne_eq]
    intro he
    have hm:=zps (i:=0) ht he.symm
    rw [Nat.zero_add] at hm
    exact hij (zxu (h1 d hd) hm rfl).symm
  ·rw [List.all_eq_true]
   intro x hx
   by_cases hpx:p.dst=some x
   ·have hm:=zps (i:=0) ht hpx
    rw [Nat.zero_add] at hm
    have:=zu8 (h2 x hx) hm rfl (fun e=>hij e.symm)
    unfold zlU at this
    rw [zcc,zcc] at this
    simp only [Bool.or_eq_true,bne_iff_ne]
    right
    simpa [Ku] using this
   ·simp only [Bool.or_eq_true,bne_iff_ne]
    exact .inl hpx
def ztx (ms:List Nat) (ops:Array Oper):Bool:=zgV ms 0 ops.toList&&zim ms ops (zpr 0 ops.toList) 0 ops.toList
def hpF:List Stp→Hp→Hp
 |[],H=>H
 |s::ss,H=>hpF ss (if s.ran then (bif Nat.beq s.lo s.hi&&s.V.all (fun x=>!s.wr x.1) then H else zaA s.touch s.H' H) else H)
def zDy (P:Program) (op:List Value→Hp→Nat→Oper→Option (Value×Hp×Nat)) (ops:Array Oper) (tm:List Value) (H:Hp) (nx:Nat):Option (List Value×Hp×Nat):=
 match zlR ops.toList 0 [] with
 |ms=>match (if ops.toList.any zxt then zwZ P ops H ops.toList tm else []) with
  |est=>match zxr op ops (zGB ops ms est) 0 [] ops.toList tm H nx with
   |some ss=>if ztx ms ops&&zjk ms ss&&P.follows .mixedOrders then some (tmR ss tm,hpF ss H,nxR ss nx) else none
   |none=>none
def zF5 (s:Nat) (cs:List Value):Value:=bif Nat.beq s 1 then (match cs with | v::_=>v | []=>junk) else .agg (cs.take s).toArray
def zF6 (s:Nat) (cs:List Value):Bool:=bif Nat.beq s 1 then (match cs with | v::_=>v.oneCell' | []=>false) else Nat.ble s cs.length
def zEU (s:Nat):Nat→List Value→List Value
 |0,_=>[]
 |n+1,cs=>zF5 s cs::zEU s n (cs.drop s)
def zz7 (s:Nat):Nat→List Value→Bool
 |0,_=>true
 |n+1,cs=>zF6 s cs&&zz7 s n (cs.drop s)
def frV (b s:Nat) (cs:List Value):Nat→Value→Value
 |_,.slice (some ⟨c,o,none⟩) n cap=>bif Nat.beq c b&&(Nat.blt 0 s&&(Nat.ble n cap&&zz7 s n (cs.drop o))) then .iface s (.tuple (zEU s n (cs.drop o)).toArray) else .slice (some ⟨c,o,none⟩) n cap
 |m+1,.agg a=>.agg (a.toList.map (frV b s cs m)).toArray
 |m+1,.tuple a=>.tuple (a.toList.map (frV b s cs m)).toArray
 |m+1,.func f a c=>.func f (a.toList.map (frV b s cs m)).toArray (c.toList.map (frV b s cs m)).toArray
 |_,v=>v
def frB (b s:Nat) (cs:List Value):Blk→Blk
 |.cells ds ro=>.cells (ds.map (frV b s cs 16)) ro
 |k=>k
def frH (q:Nat→Blk→Bool) (b s:Nat) (cs:List Value):Hp→Hp
 |[]=>[]
 |(c,k)::r=>(c,bif q c k then frB b s cs k else k)::frH q b s cs r
def zGN (q:Nat→Blk→Bool) (b s:Nat) (v:Value) (H:Hp):Value×Hp:=match H.get b with
 |some (.cells cs false)=>(frV b s cs 16 v,frH q b s cs (H.del b))
 |_=>(v,H)
def zDz (q:Nat→Blk→Bool):List (Nat×Nat)→Value→Hp→Value×Hp
 |[],v,H=>(v,H)
 |(b,s)::r,v,H=>match zGN q b s v H with
  |(v1,H1)=>zDz q r v1 H1
def zGO (len o c:Nat):Nat:=bif Nat.ble qe c then c - qe else bif Nat.beq c 0 then 1 else (len - o) / c
def xT (H:Hp) (lo:Nat):Nat→List Value→List Nat×List (Nat×Nat)→List Nat×List (Nat×Nat)
 |0,_,a=>a
 |_+1,[],a=>a
 |n+1,v::vs,a=>match v with
  |.slice (some ⟨b,o,none⟩) _ c=>bif Nat.blt b lo||a.1.any (Nat.beq b) then xT H lo n vs a else match H.get b with
   |some (.cells cs false)=>match xT H lo n cs (b::a.1,a.2) with
    |(s1,p1)=>xT H lo n vs (s1,p1++[(b,zGO cs.length o c)])
   |_=>xT H lo n vs a
  |.pointer (some ⟨b,_,none⟩)=>bif Nat.blt b lo||a.1.any (Nat.beq b) then xT H lo n vs a else match H.get b with
   |some (.cells cs false)=>match xT H lo n cs (b::a.1,a.2) with
    |a1=>xT H lo n vs a1
   |_=>xT H lo n vs a
  |.agg c=>match xT H lo n c.toList a with
   |a1=>xT H lo n vs a1
  |.tuple c=>match xT H lo n c.toList a with
   |a1=>xT H lo n vs a1
  |.func _ x y=>match xT H lo n (x.toList++y.toList) a with
   |a1=>xT H lo n vs a1
  |_=>xT H lo n vs a
def zjm (lo:Nat):Hp→List Value
 |[]=>[]
 |(b,k)::r=>bif Nat.blt b lo then (match k with | .cells cs false=>cs++zjm lo r | _=>zjm lo r) else zjm lo r
def zxw (lo:Nat):Hp→Bool
 |[]=>false
 |(b,_)::r=>Nat.ble lo b||zxw lo r
def zF7 (mode lo:Nat) (v:Value) (H:Hp):Value×Hp:=match mode with
 |0=>bif zxw lo H then zDz (fun c _=>Nat.ble lo c) (xT H lo 100000 [v] ([],[])).2 v H else (v,H)
 |1=>bif zxw lo H then zDz (fun c k=>match k with | .cells _ _=>true | _=>false) (xT H lo 100000 (v::zjm lo H) ([],[])).2 v H else (v,H)
 |_=>(v,H)
def zF8 (E:Ev) (l:Nat) (vs:List Value) (H:Hp) (nx:Nat):Option (Value×Hp×Nat):=
 match H.get l with
 |some (.loop L)=>
  if vs.length=L.params.size then
   match E.code (some l) L.assign (gn L.params.toList vs L.tmps.toList) [] H nx with
   |some R1=>match R1.e,R1.ds,R1.H.get l with
    |.normal,[],some (.loop L1)=>match L1.state with
     |.ready=>match E.code (some l) L.body R1.tm [] (R1.H.set l (.loop {L1 with state:=.busy})) R1.nx with
      |some R2=>match R2.H.get l,zjg R2.e with
       |some (.loop L2),some (b,s,p)=>some (.bool b,R2.H.set l (.loop {L2 with state:=s,pending:=p}),R2.nx)
       |_,_=>none
      |none=>none
     |_=>none
    |_,_,_=>none
   |none=>none
  else none
 |_=>none
def zCd (P:Program) (E:Ev) (tm:List Value) (H:Hp) (nx:Nat) (o:Oper):Option (Value×Hp×Nat):=
 match o.op with
 |.call {callee:=.value cf,args:=args,argTypes:=_}=>match opv tm cf,zav tm args.toList with
  |some (.func (.func f) fs cs),some vs=>E.call f (fs.toList++vs++cs.toList) H nx
  |some (.func (.yield l) ⟨[]⟩ ⟨[]⟩),some vs=>zF8 E l vs H nx
  |_,_=>none
 |_=>jW P tm H nx o
def zpt (P:Program) (E:Ev) (ops:Array Oper):List Oper→List Value→Hp→Nat→Option (List Value×Hp×Nat)
 |[],tm,H,nx=>some (tm,H,nx)
 |o::l,tm,H,nx=>match vq ops tm o with
  |some true=>match zCd P E tm H nx o with
   |some (v,H1,nx1)=>zpt P E ops l (gL tm o.dst v) H1 nx1
   |none=>none
  |some false=>zpt P E ops l (gL tm o.dst undef) H nx
  |none=>none
def zCe (E:Ev) (r:Option Nat) (g:Operand) (ps:Array Tmp) (assign body:Code) (tm:List Value) (ds:List Nat) (H:Hp) (nx:Nat):Option Res:=
 match opv tm g with
 |some (.func (.func f) fs cs)=>
  match r with
  |none=>
   match E.call f (fs.toList++[.func (.yield (nx+1)) #[] #[]]++cs.toList) ((nx+1,.loop (XZ tm ps assign body nx))::(nx,.defd)::H) (nx+2) with
   |some (_,H1,nx1)=>match H1.get (nx+1) with
    |some (.loop L)=>Zq L tm (nx::ds) (H1.del (nx+1)) nx1
    |_=>none
   |none=>none
  |some l0=>match H.get l0 with
   |some (.loop L0)=>
    match E.call f (fs.toList++[.func (.yield nx) #[] #[]]++cs.toList) ((nx,.loop (XZ tm ps assign body L0.defers))::H) (nx+1) with
    |some (_,H1,nx1)=>match H1.get nx with
     |some (.loop L)=>Zq L tm ds (H1.del nx) nx1
     |_=>none
    |none=>none
   |_=>none
 |_=>none
def QC (P:Program) (E:Ev) (r:Option Nat):Code→List Value→List Nat→Hp→Nat→Option Res
 |.skip,tm,ds,H,nx=>some ⟨.normal,tm,ds,H,nx⟩
 |.label _,tm,ds,H,nx=>some ⟨.normal,tm,ds,H,nx⟩
 |.exit i,tm,ds,H,nx=>some ⟨.exit i,tm,ds,H,nx⟩
 |.goto i,tm,ds,H,nx=>some ⟨.goto i,tm,ds,H,nx⟩
 |.ret,tm,ds,H,nx=>some ⟨.ret,tm,ds,H,nx⟩
 |.seq x y,tm,ds,H,nx=>match QC P E r x tm ds H nx with
  |some R=>match R.e with
   |.normal=>QC P E r y R.tm R.ds R.H R.nx
   |_=>some R
  |none=>none
 |.cond c x y,tm,ds,H,nx=>match opv tm c with
  |some (.bool true)=>QC P E r x tm ds H nx
  |some (.bool false)=>QC P E r y tm ds H nx
  |_=>none
 |.block i c,tm,ds,H,nx=>(QC P E r c tm ds H nx).map (Res.inBlock i)
 |.loop c,tm,ds,H,nx=>match QC P E r c tm ds H nx with
  |some R=>match R.e with
   |.normal=>E.loop r c R.tm R.ds R.H R.nx
   |_=>some R
  |none=>none
 |.region _ ops false,tm,ds,H,nx=>match zpt P E ops ops.toList tm H nx with
  |some (tm',H',nx')=>some ⟨.normal,tm',ds,H',nx'⟩
  |none=>none
 |.region _ ops true,tm,ds,H,nx=>match zDy P (zCd P E) ops tm H nx with
  |some (tm',H',nx')=>some ⟨.normal,tm',ds,H',nx'⟩
  |none=>none
 |.rangeFunc g ps assign body,tm,ds,H,nx=>zCe E r g ps assign body tm ds H nx
 |.scope c,tm,ds,H,nx=>match r with
  |some _=>none
  |none=>match QC P E none c tm ds H nx with
   |some R=>match R.e with
    |.goto l=>match findLabel c l with
     |some rest=>E.scp c rest R.tm R.ds R.H R.nx
     |none=>none
    |_=>some R
   |none=>none
 |_,_,_,_,_=>none
def zhE:Nat→Value→List Nat
 |0,_=>[]
 |_,.pointer (some a)=>[a.block]
 |_,.slice (some a) _ _=>[a.block]
 |_,.map (some r)=>[r]
 |n+1,.func (.yield l) a b=>l::(a.toList.flatMap (zhE n)++b.toList.flatMap (zhE n))
 |n+1,.func _ a b=>a.toList.flatMap (zhE n)++b.toList.flatMap (zhE n)
 |n+1,.agg cs=>cs.toList.flatMap (zhE n)
 |n+1,.tuple cs=>cs.toList.flatMap (zhE n)
 |_,_=>[]
def zEV:Blk→List Nat
 |.cells cs _=>cs.flatMap (zhE 4)
 |.loop l=>l.defers::l.tmps.toList.flatMap (zhE 4)
 |.mp es _=>es.flatMap fun e=>zhE 4 e.2.1
 |.iter m _=>[m]
 |_=>[]
def zw1 (lo:Nat) (H:Hp):Nat→List Nat→List Nat→List Nat
 |0,done,todo=>done++todo
 |_+1,done,[]=>done
 |n+1,done,b::todo=>if done.contains b then zw1 lo H n done todo else match H.get b with
  |some k=>zw1 lo H n (b::done) (((zEV k).filter fun x=>decide (lo≤x))++todo)
  |none=>zw1 lo H n (b::done) todo
def zty (lo:Nat):Hp→List Nat
 |[]=>[]
 |(b,k)::r=>if b < lo then ((zEV k).filter fun x=>decide (lo≤x))++zty lo r else zty lo r
def zCf (lo:Nat):Hp→Bool
 |[]=>false
 |(b,_)::r=>decide (lo≤b)||zCf lo r
def gc (lo:Nat) (v:Value) (H:Hp):Hp:=
 if zCf lo H then
  match ((zhE 4 v).filter fun x=>decide (lo≤x))++zty lo H with
  |[]=>Hp.only (fun b=>decide (b < lo)) H
  |rs=>match zw1 lo H 1000 [] rs with
   |ks=>Hp.only (fun b=>decide (b < lo)||ks.contains b) H
 else H
theorem zAY {f:FuncId} {args:List Value} {nx:Nat} {v:Value} {H' H2:Hp} {nx':Nat} (h:QB P f args H nx v H' nx') (hs:∀b k,H2.get b=some k→H'.get b=some k):QB P f args H nx v H2 nx':=by
 refine ⟨h.1,fun φ w K us g hf hl=>Calls.mono (h.2 φ w K us g hf hl) ?_⟩
 rintro e w' ⟨v',φ',rfl,x1,x2,x3,x4⟩
 exact ⟨v',φ',rfl,x1,x2,x3.sub hs,x4⟩
def zDA (P:Program) (cfg:FuncId→Nat) (E:Ev) (f:FuncId) (args:List Value) (H:Hp) (nx:Nat):Option (Value×Hp×Nat):=
 match P.funcs[f]? with
 |some fn=>match fn.body with
  |some c=>match QC P E none c (args++List.replicate (fn.ntmps - args.length) undef) [] H nx with
   |some R=>match (match R.e with | .normal=>true | .ret=>true | _=>false) with
    |true=>match zda R.ds R.H with
     |some H1=>match zdz P H1 R.tm fn.results.toList with
      |some vs=>match zF7 (cfg f) nx (Yi vs) H1 with
       |(v2,H2)=>some (v2,gc nx v2 H2,R.nx)
      |none=>none
     |none=>none
    |false=>none
   |none=>none
  |none=>none
 |none=>none
def zF9 (P:Program) (cfg:FuncId→Nat) (E:Ev):Ev where
 call:=zDA P cfg E
 code:=QC P E
 loop:=fun r c tm ds H nx=>match QC P E r c tm ds H nx with
  |some R=>match R.e with
   |.normal=>E.loop r c R.tm R.ds R.H R.nx
   |_=>some R
  |none=>none
 scp:=fun c x tm ds H nx=>match QC P E none x tm ds H nx with
  |some R=>match R.e with
   |.goto l=>match findLabel c l with
    |some rest=>E.scp c rest R.tm R.ds R.H R.nx
    |none=>none
   |_=>some R
  |none=>none
def ev (P:Program) (cfg:FuncId→Nat):Nat→Ev
 |0=>⟨fun _ _ _ _=>none,fun _ _ _ _ _ _=>none,fun _ _ _ _ _ _=>none,fun _ _ _ _ _ _=>none⟩
 |n+1=>zF9 P cfg (ev P cfg n)
end Go.Fz
namespace Go.Fz
variable {P:Program} {φ:Ren} {H:Hp} {K:Nat→Prop} {w:World}
open Go.RowKit Go.ChangeShapes Go.WideShapes
def zAZ (P : Program) : Bool := P.funcs.toList.all fun fn => !(fn.name == "runtime.NumGoroutine")
theorem zxx (h:zAZ P=true):vO P:=by
 intro f fn hf
 have:=List.all_eq_true.1 h fn (by
  rw [←Array.getElem?_toList] at hf
  exact List.mem_of_getElem? hf)
 simpa using this
theorem zvQ {w w':World} (h:qy (fun c=>c < w.heap.size) w w'):Below w.heap.size w w':=
 ⟨h.os,h.tape,h.output,h.size,fun k hk=>h.kept k hk⟩
theorem zkq {T:Type} {enc:TypeId×Value→T} (hl:laidOutB P=true) {W W':World} (hb:Below W.heap.size W W'):∀{ts:List TypeId} {vs:List Value} {ds:List (DataW T)} {ps:List MemPlace},
  (∀t∈ts,P.readableRec t=true∧t < P.types.size)→(∀x∈ps,x.block < W.heap.size)→DataW.TrodAll enc P W 0 (fun _=>true) true ts vs ds ps→DataW.TrodAll enc P W' 0 (fun b=>decide (b < W.heap.size)) true ts vs ds ps
 |[],_,_,_,_,_,h=>by
  obtain ⟨rfl,rfl,rfl⟩:=trodAll_nil h
  exact trodAll_mk0
 |t::ts,_,_,_,ht,hp,h=>by
  obtain ⟨v,vs1,d,ds1,a,b,rfl,rfl,rfl,h1,h2⟩:=trodAll_cons h
  have h3:=ht t (by simp)
  exact ⟨a,b,Below.trod hl h3.1 h3.2 h1 hb (fun x hx=>hp x (by simp [hx])),zkq hl hb (fun t' h'=>ht t' (by simp [h'])) (fun x hx=>hp x (by simp [hx])) h2,rfl⟩
def zGa (P:Program) (ts:List TypeId):Bool:=ts.all fun t=>P.readableRec t&&decide (t < P.types.size)
theorem zDB {T:Type} {enc:TypeId×Value→T} {f:Func} {s:ChangeSpec} (hv:s.vars=[]) (hl:laidOutB P=true) (hr:zGa P f.params.toList=true) {t:TypeId} (ht:f.resultTypes=#[t]) (hu:P.underlying t=some .bool)
  {W W':World} {args:Array Value} {ds gs:List (DataW T)} {before:List MemPlace} (hW:DataW.Whole enc P f.params.toList s.vars false W args.toList ds gs before)
  (hres:(s.fn T (ds++gs)).results=[.lit (.bool true)]) (hargs:(s.fn T (ds++gs)).args=ds) (hvars:(s.fn T (ds++gs)).vars=[]) (hb:Below W.heap.size W W') :
  s.post enc P f false true false false W args (.bool true) W':=by
 have hlt:∀p∈before,p.block < W.heap.size:=fun p hp=>hW.lt p hp
 have hW0:=hW
 obtain ⟨p,q,hA,hV,rfl,hz,hn⟩:=hW
 rw [hv] at hV
 obtain ⟨rfl,rfl⟩:=trodVars_none hV
 refine ⟨ds,[],p++[],[],p,[],hW0,?_,?_,?_,?_,fun h=>by cases h⟩
 ·rw [hres,ht]
  exact trodAll_cons_mk (shut_bool hu _) trodAll_mk0
 ·rw [hargs]
  refine zkq hl hb (fun t h=>?_) (fun x hx=>hlt x (by simp [hx])) hA
  have:=List.all_eq_true.1 hr t h
  simpa using this
 ·rw [hvars,hv];rfl
 ·exact World.keptBut_mono (fun p hp=>hp.elim) (hb.frame (fun _=>False))
end Go.Fz
namespace Go.Fz.Sy
inductive Ty where
 |unit
 |bool
 |int (k:IntKind)
 |str
 |list (t:Ty)
 |pair (a b:Ty)
 deriving DecidableEq
@[reducible] def T (t:Ty):Type:=Ty.rec (motive:=fun _=>Type) Unit Bool (fun _=>Int) ByteArray (fun _ ih=>List ih) (fun _ _ a b=>a×b) t
@[reducible] def p1 {α β:Type} (x:α×β):α:=Prod.rec (motive:=fun _=>α) (fun a _=>a) x
@[reducible] def p2 {α β:Type} (x:α×β):β:=Prod.rec (motive:=fun _=>β) (fun _ b=>b) x
def Wk {a b:Ty} (h:a=b) (x:List (T a)):List (T b):=Eq.rec (motive:=fun b _=>List (T b)) x h
def sz:Ty→Nat
 |.unit=>0
 |.bool=>1
 |.int _=>1
 |.str=>1
 |.list _=>1
 |.pair a b=>sz a+sz b
def fzV (s:Nat) (full:Bool) (es:List Value):Value:=.iface s (bif full then .agg es.toArray else .tuple es.toArray)
def qm:(t:Ty)→T t→List Value
 |.unit,_=>[]
 |.bool,b=>[.bool b]
 |.int k,n=>[.int k n]
 |.str,s=>[.string s]
 |.list t,l=>[fzV (sz t) false (List.map (fun x=>Value.agg (qm t x).toArray) l)]
 |.pair a b,x=>qm a (p1 x)++qm b (p2 x)
theorem jt:∀(t:Ty) (x:T t),(qm t x).length=sz t
 |.unit,_=>rfl
 |.bool,_=>rfl
 |.int _,_=>rfl
 |.str,_=>rfl
 |.list _,_=>rfl
 |.pair a b,x=>by simp [qm,sz,jt a,jt b]
def wm (t:Ty) (x:T t):Value:=.agg (qm t x).toArray
inductive SV where
 |bool (b:Bool)
 |int (k:IntKind) (n:Int)
 |str (s:ByteArray)
 |agg (cs:List SV)
 |tup (vs:List SV)
 |ptr (b o:Nat)
 |nilp
 |lst (t:Ty) (l:List (T t)) (full:Bool)
 |own (b:Nat)
 |nils
 |elp (b s i k:Nat)
 |fel (t:Ty) (x:T t) (k:Nat)
 |fn (f:Nat) (fs cs:List SV)
 |yld (l:Nat)
 |nilf
 |nilm
 |mp (b:Nat)
 |slv (b n:Nat)
 |junk
def bad:Value:=.complex .f64 1 0
theorem zoU {φ:Ren} {v':Value} (h:zr φ bad v'):False:=by cases h
mutual
def den (ρ:Nat→Value):SV→Value
 |.bool b=>.bool b
 |.int k n=>.int k n
 |.str s=>.string s
 |.agg cs=>.agg (zt ρ cs).toArray
 |.tup vs=>.tuple (zt ρ vs).toArray
 |.ptr b o=>.pointer (some ⟨b,o,none⟩)
 |.nilp=>.pointer none
 |.lst t l full=>fzV (sz t) full (l.map (wm t))
 |.own b=>ρ b
 |.nils=>.slice none 0 0
 |.elp b s i k=>.pointer (some ⟨b,i*s+k,none⟩)
 |.fel t x k=>.iface k (.iface 0 (wm t x))
 |.fn f fs cs=>.func (.func f) (zt ρ fs).toArray (zt ρ cs).toArray
 |.yld l=>.func (.yield l) #[] #[]
 |.nilf=>.nilFunc
 |.nilm=>.map none
 |.mp b=>.map (some b)
 |.slv b n=>.slice (some ⟨b,0,none⟩) n n
 |.junk=>Fz.junk
def zt (ρ:Nat→Value):List SV→List Value
 |[]=>[]
 |v::r=>den ρ v::zt ρ r
end
theorem qv (ρ:Nat→Value):∀l:List SV,zt ρ l=l.map (den ρ)
 |[]=>by simp [zt]
 |v::r=>by simp [zt,qv ρ r]
def yr:(t:Ty)→T t→List SV
 |.unit,_=>[]
 |.bool,b=>[.bool b]
 |.int k,n=>[.int k n]
 |.str,s=>[.str s]
 |.list t,l=>[.lst t l false]
 |.pair a b,x=>yr a (p1 x)++yr b (p2 x)
theorem yc (ρ:Nat→Value):∀(t:Ty) (x:T t),(yr t x).map (den ρ)=qm t x
 |.unit,_=>rfl
 |.bool,_=>by simp [yr,den,qm]
 |.int _,_=>by simp [yr,den,qm]
 |.str,_=>by simp [yr,den,qm]
 |.list t,l=>by simp only [yr,List.map_cons,den,List.map_nil,qm];rfl
 |.pair a b,x=>by simp [yr,qm,yc ρ a,yc ρ b]
theorem Xm (t:Ty) (x:T t):(yr t x).length=sz t:=by
 have:=congrArg List.length (yc (fun _=>.nilFunc) t x)
 simpa [jt] using this
structure SL where
 tm:List SV
 params:Array Tmp
 assign:Code
 body:Code
 st:LoopState
 pend:Option Code
 dfr:Nat
inductive SB where
 |vars (cs:List SV)
 |ro (cs:List SV)
 |arr (nn:Bool) (t:Ty) (l:List (T t))
 |roa (nn:Bool) (t:Ty) (l:List (T t))
 |fro (nn:Bool) (t:Ty) (l:List (T t))
 |gone (s n:Nat)
 |loop (L:SL)
 |defd
 |hid
 |mpb (k:IntKind) (ag:Bool) (t:Ty) (l:List (Int×T t))
 |abs
abbrev SH:=List (Nat×SB)
def zn (H:SH) (n:Nat):Option SB:=List.rec (motive:=fun _=>Option SB) none (fun x _ ih=>bif Nat.beq x.1 n then some x.2 else ih) H
theorem VP (n:Nat):zn [] n=none:=rfl
theorem zH (b:Nat) (k:SB) (r:SH) (n:Nat):zn ((b,k)::r) n=if b=n then some k else zn r n:=by
 show (bif Nat.beq b n then some k else zn r n)=_
 cases h:Nat.beq b n with
 |true=>rw [if_pos (Nat.eq_of_beq_eq_true h)];rfl
 |false=>rw [if_neg (Nat.ne_of_beq_eq_false h)];rfl
def wF:SH→Nat→SB→SH
 |[],_,_=>[]
 |(b,k)::r,n,x=>bif Nat.beq b n then (b,x)::r else (b,k)::wF r n x
theorem zlV {α:Type} (a b:Nat) (x y:α):(bif Nat.beq a b then x else y)=if a=b then x else y:=by
 cases h:Nat.beq a b with
 |true=>rw [if_pos (Nat.eq_of_beq_eq_true h)];rfl
 |false=>rw [if_neg (Nat.ne_of_beq_eq_false h)];rfl
theorem qM (n:Nat) (x:SB) (m:Nat):∀H:SH,zn (wF H n x) m=if m=n then (zn H n).map (fun _=>x) else zn H m
 |[]=>by simp [wF,VP]
 |(b,k)::r=>by
  have ih:=qM n x m r
  simp only [wF,zlV]
  by_cases hb:b=n
  ·subst hb
   by_cases hm:m=b
   ·subst hm;simp [zH]
   ·have:¬b=m:=fun h=>hm h.symm
    simp [zH,hm,this]
  ·by_cases hm:m=n
   ·subst hm;simp [zH,hb,ih]
   ·by_cases hbm:b=m
    ·subst hbm;simp [zH,hb]
    ·simp [zH,hb,hm,hbm,ih]
def jI {α:Type} (nn:Bool) (l:List α):Bool:=bif nn then false else match l with
 |[]=>true
 |_::_=>false
theorem zaa {α:Type} {nn:Bool} {l:List α} (h:jI nn l=true):nn=false∧l=[]:=by
 cases nn with
 |true=>cases h
 |false=>cases l with
  |nil=>exact ⟨rfl,rfl⟩
  |cons x l=>cases h
theorem zin {α:Type} {nn:Bool} {l:List α} (h:l≠[]):jI nn l=false:=by
 cases hn:jI nn l with
 |false=>rfl
 |true=>exact absurd (zaa hn).2 h
theorem zxy {α:Type} (nn:Bool) (l:List α) (i:Nat) (y:α):jI nn (l.set i y)=jI nn l:=by
 cases nn with
 |true=>rfl
 |false=>cases l with
  |nil=>rfl
  |cons x l=>cases i<;>rfl
def rsz (nn:Bool) (t:Ty) (l:List (T t)):Nat:=bif jI nn l then 0 else sz t+1
def reg:Option SB→Option (Nat×Nat)
 |some (.arr nn t l)=>some (l.length,rsz nn t l)
 |some (.roa nn t l)=>some (l.length,rsz nn t l)
 |some (.fro nn t l)=>some (l.length,rsz nn t l)
 |some (.gone s n)=>some (match s with | 0=>0 | _+1=>n,s)
 |_=>none
def rho (ν:Nat→Bool) (H:SH) (b:Nat):Value:=match reg (zn H b) with
 |some (_,0)=>.slice none 0 0
 |some (n,s+1)=>.slice (some ⟨b,0,none⟩) n (qe+s)
 |none=>bad
theorem Yj {H:SH} {b:Nat} {t:Ty} {l:List (T t)} {nn:Bool} (ν:Nat→Bool) (hr:reg (zn H b)=some (l.length,rsz nn t l)):rho ν H b=bif jI nn l then .slice none 0 0 else .slice (some ⟨b,0,none⟩) l.length (qe+sz t):=by
 unfold rho
 rw [hr]
 unfold rsz
 cases jI nn l<;>rfl
def zX (t:Ty) (l:List (T t)):List Value:=l.flatMap (qm t)
theorem Wl (t:Ty) (l:List (T t)):(zX t l).length=l.length*sz t:=by
 induction l with
 |nil=>simp [zX]
 |cons x l ih=>
  have:zX t (x::l)=qm t x++zX t l:=rfl
  rw [this,List.length_append,ih,jt,List.length_cons,Nat.add_mul,Nat.one_mul,Nat.add_comm]
theorem zjn (t:Ty):∀(l:List (T t)) (i:Nat),(zX t l).drop (i*sz t)=zX t (l.drop i)
 |l,0=>by simp
 |[],i+1=>by simp [zX]
 |x::l,i+1=>by
  have:zX t (x::l)=qm t x++zX t l:=rfl
  rw [this,Nat.add_mul,Nat.one_mul,Nat.add_comm,List.drop_append,jt]
  have h1:(qm t x).drop (sz t+i*sz t)=[]:=List.drop_eq_nil_of_le (by rw [jt];omega)
  rw [h1,List.nil_append,Nat.add_sub_cancel_left,zjn t l i];rfl
theorem zrh (t:Ty):∀(l:List (T t)) (i:Nat),(zX t l).take (i*sz t)=zX t (l.take i)
 |l,0=>by simp [zX]
 |[],i+1=>by simp [zX]
 |x::l,i+1=>by
  have:zX t (x::l)=qm t x++zX t l:=rfl
  rw [this,Nat.add_mul,Nat.one_mul,Nat.add_comm,List.take_append,jt]
  have h1:(qm t x).take (sz t+i*sz t)=qm t x:=List.take_of_length_le (by rw [jt];omega)
  rw [h1,Nat.add_sub_cancel_left,zrh t l i];rfl
theorem zfh (t:Ty) (a b:List (T t)):zX t (a++b)=zX t a++zX t b:=by simp [zX]
theorem zeS (t:Ty) (l:List (T t)) {i k n:Nat} {x:T t} (hx:l[i]?=some x) (hk:k+n≤sz t) :
  i*sz t+k+n≤(zX t l).length∧((zX t l).drop (i*sz t+k)).take n=((qm t x).drop k).take n:=by
 have hlt:i < l.length:=(List.getElem?_eq_some_iff.1 hx).1
 constructor
 ·rw [Wl]
  have:(i+1)*sz t≤l.length*sz t:=Nat.mul_le_mul_right _ hlt
  rw [Nat.add_mul] at this
  omega
 ·rw [←List.drop_drop,zjn]
  have h1:l.drop i=x::l.drop (i+1):=by
   rw [List.drop_eq_getElem_cons hlt]
   obtain ⟨_,h2⟩:=List.getElem?_eq_some_iff.1 hx
   rw [h2]
  rw [h1]
  have h3:zX t (x::l.drop (i+1))=qm t x++zX t (l.drop (i+1)):=rfl
  rw [h3,List.drop_append,List.take_append,List.length_drop,jt]
  have h4:n - (sz t - k)=0:=by omega
  rw [h4,List.take_zero,List.append_nil]
theorem zva (t:Ty) (l:List (T t)) {i k:Nat} {x:T t} (hx:l[i]?=some x) (hk:k < sz t):(zX t l)[i*sz t+k]?=(qm t x)[k]?:=by
 have:=(zeS t l (n:=1) hx (k:=k) (by omega)).2
 have h2:=congrArg (·[0]?) this
 simpa [List.getElem?_take,List.getElem?_drop] using h2
theorem zCg (t:Ty) (l:List (T t)) {i k:Nat} {x y:T t} {vs:List Value} (hx:l[i]?=some x) (hk:k+vs.length≤sz t) (hy:qm t y=spl (qm t x) k vs) :
  spl (zX t l) (i*sz t+k) vs=zX t (l.set i y):=by
 have hlt:i < l.length:=(List.getElem?_eq_some_iff.1 hx).1
 obtain ⟨_,hxe⟩:=List.getElem?_eq_some_iff.1 hx
 have h1:l=l.take i++x::l.drop (i+1):=by
  rw [←hxe];simp
 have h2:l.set i y=l.take i++y::l.drop (i+1):=by
  apply List.ext_getElem?
  intro j
  rw [List.getElem?_set]
  by_cases h:i=j
  ·subst h;simp [hlt,Nat.min_eq_left (Nat.le_of_lt hlt)]
  ·simp only [h,if_false]
   conv=>lhs;rw [h1]
   by_cases hji:j < i
   ·rw [List.getElem?_append_left (by simp;omega),List.getElem?_append_left (by simp;omega)]
   ·have hm:(l.take i).length=i:=by simp;omega
    rw [List.getElem?_append_right (by omega),List.getElem?_append_right (by omega),hm]
    have:j - i=(j - i - 1)+1:=by omega
    rw [this];simp
 rw [h2]
 conv=>lhs;rw [h1]
 have ha:∀z,zX t (l.take i++z::l.drop (i+1))=zX t (l.take i)++(qm t z++zX t (l.drop (i+1))):=fun z=>by simp [zX]
 rw [ha,ha,hy]
 have hl:(zX t (l.take i)).length=i*sz t:=by rw [Wl,List.length_take,Nat.min_eq_left (Nat.le_of_lt hlt)]
 have hle:=jt t x
 unfold spl
 rw [←hl]
 simp only [List.take_append,List.drop_append]
 have e1:(zX t (l.take i)).take ((zX t (l.take i)).length+k)=zX t (l.take i):=List.take_of_length_le (by omega)
 have e2:(zX t (l.take i)).drop ((zX t (l.take i)).length+k+vs.length)=[]:=List.drop_eq_nil_of_le (by omega)
 have e3:(zX t (l.take i)).length+k - (zX t (l.take i)).length=k:=by omega
 have e4:(zX t (l.take i)).length+k+vs.length - (zX t (l.take i)).length=k+vs.length:=by omega
 rw [e1,e2,e3,e4]
 have e5:k - (qm t x).length=0:=by omega
 have e6:k+vs.length - (qm t x).length=0:=by omega
 rw [e5,e6]
 simp [List.append_assoc]
def wX (ρ:Nat→Value) (L:SL):Loop:=
 {state:=L.st,pending:=L.pend,fn:=0,tmps:=(zt ρ L.tm).toArray,params:=L.params,assign:=L.assign,body:=L.body,defers:=L.dfr}
def mvV (ag:Bool) (t:Ty) (x:T t):Value:=bif ag then wm t x else (qm t x).headD Fz.junk
def gD (k:IntKind) (ag:Bool) (t:Ty):List (Int×T t)→Nat→List (Value×Value×Nat)
 |[],_=>[]
 |p::r,i=>(.int k p.1,mvV ag t p.2,i)::gD k ag t r (i+1)
def zW (ρ:Nat→Value) (nil:Bool):SB→Option Blk
 |.vars cs=>some (.cells (zt ρ cs) false)
 |.ro cs=>some (.cells (zt ρ cs) true)
 |.arr nn t l=>bif jI nn l then none else some (.cells (zX t l) false)
 |.roa nn t l=>bif jI nn l then none else some (.cells (zX t l) true)
 |.fro nn t l=>bif jI nn l then none else some (.fzc (zX t l))
 |.gone _ _=>none
 |.loop L=>some (.loop (wX ρ L))
 |.defd=>some .defd
 |.hid=>some .hid
 |.mpb k ag t l=>some (.mp (gD k ag t l 0) l.length)
 |.abs=>none
def uh (ν:Nat→Bool) (ρ:Nat→Value):SH→Hp
 |[]=>[]
 |(b,k)::r=>match zW ρ (ν b) k with
  |some x=>(b,x)::uh ν ρ r
  |none=>(uh ν ρ r).del b
theorem xU (ν:Nat→Bool) (ρ:Nat→Value) (n:Nat):∀H:SH,(uh ν ρ H).get n=(zn H n).bind (zW ρ (ν n))
 |[]=>rfl
 |(b,k)::r=>by
  have ih:=xU ν ρ n r
  simp only [uh,zH]
  by_cases hb:b=n
  ·subst hb
   cases hx:zW ρ (ν b) k with
   |none=>simp [hx,Hp.get_del]
   |some x=>simp [hx,Hp.get_cons]
  ·have hbe:(b == n)=false:=by simpa using hb
   have hnb:¬n=b:=fun e=>hb e.symm
   cases hx:zW ρ (ν b) k with
   |none=>simp only [Hp.get_del,hnb,if_false,hb];exact ih
   |some x=>simp only [Hp.get_cons,hbe,Bool.false_eq_true,if_false,hb];exact ih
def zD (ν:Nat→Bool) (H:SH):Hp:=uh ν (rho ν H) H
theorem zP (ν:Nat→Bool) (H:SH) (n:Nat):(zD ν H).get n=(zn H n).bind (zW (rho ν H) (ν n)):=xU ν _ n H
theorem zfi (nn:Bool) (t:Ty) (l:List (T t)):reg (some (.gone (rsz nn t l) l.length))=some (l.length,rsz nn t l):=by
 unfold rsz
 cases hn:jI nn l with
 |true=>
  obtain ⟨_,rfl⟩:=zaa hn
  rfl
 |false=>rfl
theorem Gt {k:Option SB} {n:Nat} (h:reg k=some (n,0)):n=0:=by
 have key:∀(nn:Bool) (t:Ty) (l:List (T t)),some (l.length,rsz nn t l)=some (n,0)→n=0:=fun nn t l h=>by
  unfold rsz at h
  cases hn:jI nn l with
  |true=>
   obtain ⟨_,rfl⟩:=zaa hn
   rw [hn] at h
   simp at h
   exact h.symm
  |false=>rw [hn] at h;simp at h
 cases k with
 |none=>cases h
 |some k=>
  cases k with
  |arr nn t l=>exact key nn t l h
  |roa nn t l=>exact key nn t l h
  |fro nn t l=>exact key nn t l h
  |gone s m=>
   cases s with
   |zero=>simp [reg] at h;exact h.symm
   |succ s=>simp [reg] at h
  |_=>simp [reg] at h
def jc:Option SB→Bool
 |some (.arr nn _ _)=>nn
 |some (.roa nn _ _)=>nn
 |_=>false
structure VN (ν:Nat→Bool) (nx:Nat) (H:SH):Prop where
 empty:∀b n,reg (zn H b)=some (n,0)→n=0
 old:∀b,nx≤b→ν b=false
 nn:∀b,jc (zn H b)=true→ν b=false
def jZ (H H':SH):Prop:=∀b x,reg (zn H b)=some x→reg (zn H' b)=some x
theorem jZ.refl (H:SH):jZ H H:=fun _ _ h=>h
theorem jZ.trans {H H' H'':SH} (h:jZ H H') (k:jZ H' H''):jZ H H'':=fun b x hx=>k b x (h b x hx)
def wk (H H':SH):Prop:=∀l L,zn H l=some (.loop L)→∃s p,zn H' l=some (.loop {L with st:=s,pend:=p})
theorem wk.refl (H:SH):wk H H:=fun l L h=>⟨L.st,L.pend,h⟩
theorem wk.trans {H H' H'':SH} (h:wk H H') (k:wk H' H''):wk H H'':=fun l L hl=>by
 obtain ⟨s,p,h1⟩:=h l L hl
 obtain ⟨s',p',h2⟩:=k l _ h1
 exact ⟨s',p',h2⟩
def RLe (ρ ρ':Nat→Value):Prop:=∀b,ρ b=bad∨ρ' b=ρ b
theorem RLe.refl (ρ:Nat→Value):RLe ρ ρ:=fun _=>.inr rfl
theorem zfj (ν:Nat→Bool) {H H':SH} (h:jZ H H'):RLe (rho ν H) (rho ν H'):=by
 intro b
 unfold rho
 cases hr:reg (zn H b) with
 |none=>exact .inl rfl
 |some x=>right;rw [h b x hr]
mutual
theorem zcd {ρ ρ':Nat→Value} (h:RLe ρ ρ') {φ:Ren}:∀(v:SV) (v':Value),zr φ (den ρ v) v'→zr φ (den ρ' v) v'
 |.bool _,_,hv=>by simpa only [den] using hv
 |.int _ _,_,hv=>by simpa only [den] using hv
 |.str _,_,hv=>by simpa only [den] using hv
 |.agg cs,v',hv=>by
  simp only [den] at hv ⊢
  obtain ⟨ys,rfl,hl⟩:=hv.agg_inv
  exact .agg' (by simpa using zdd h cs ys.toList (by simpa using hl))
 |.tup vs,v',hv=>by
  simp only [den] at hv ⊢
  obtain ⟨ys,rfl,hl⟩:=hv.tuple_inv
  exact .tuple' (by simpa using zdd h vs ys.toList (by simpa using hl))
 |.ptr _ _,_,hv=>by simpa only [den] using hv
 |.nilp,_,hv=>by simpa only [den] using hv
 |.lst _ _ _,_,hv=>by simpa only [den] using hv
 |.own b,v',hv=>by
  simp only [den] at hv ⊢
  rcases h b with hb | hb
  ·rw [hb] at hv;exact (zoU hv).elim
  ·rw [hb];exact hv
 |.nils,_,hv=>by simpa only [den] using hv
 |.elp _ _ _ _,_,hv=>by simpa only [den] using hv
 |.fel _ _ _,_,hv=>by simpa only [den] using hv
 |.fn f fs cs,v',hv=>by
  simp only [den] at hv ⊢
  obtain ⟨fn',ys,us,rfl,hf,h1,h2⟩:=hv.func_inv
  exact .func' hf (by simpa using zdd h fs ys.toList (by simpa using h1)) (by simpa using zdd h cs us.toList (by simpa using h2))
 |.yld _,_,hv=>by simpa only [den] using hv
 |.nilf,_,hv=>by simpa only [den] using hv
 |.nilm,_,hv=>by simpa only [den] using hv
 |.mp _,_,hv=>by simpa only [den] using hv
 |.slv _ _,_,hv=>by simpa only [den] using hv
 |.junk,_,hv=>by simpa only [den] using hv
theorem zdd {ρ ρ':Nat→Value} (h:RLe ρ ρ') {φ:Ren}:∀(vs:List SV) (us:List Value),zy φ (zt ρ vs) us→zy φ (zt ρ' vs) us
 |[],us,hr=>by simpa only [zt] using hr
 |v::vs,[],hr=>by simp [zt,zy] at hr
 |v::vs,u::us,hr=>by
  simp only [zt,zy] at hr ⊢
  exact ⟨zcd h v u hr.1,zdd h vs us hr.2⟩
end
theorem zjo {ρ ρ':Nat→Value} (hρ:∀b,ρ b≠Fz.junk) {v:SV} (h:den ρ v=Fz.junk):den ρ' v=Fz.junk:=by
 cases v<;>simp only [den,Fz.junk,reduceCtorEq] at h ⊢
 ·simp [fzV] at h
 ·exact absurd h (hρ _)
theorem kx (ν:Nat→Bool) (H:SH) (b:Nat):rho ν H b≠Fz.junk:=by
 unfold rho
 split
 ·simp [Fz.junk]
 ·simp [Fz.junk]
 ·simp [bad,Fz.junk]
theorem zlW {ρ ρ':Nat→Value} (hρ:∀b,ρ b≠Fz.junk) (h:RLe ρ ρ') {φ:Ren} {tm:List SV} {ts:Array Value} (ht:qK φ (zt ρ tm) ts):qK φ (zt ρ' tm) ts:=by
 refine ⟨by simpa [qv] using ht.1,fun i v hv=>?_⟩
 rw [qv,List.getElem?_map,Option.map_eq_some_iff] at hv
 obtain ⟨u,hu,rfl⟩:=hv
 rcases ht.2 i (den ρ u) (by rw [qv,List.getElem?_map,hu];rfl) with h0 | ⟨v',h1,h2⟩
 ·exact .inl (zjo hρ h0)
 ·exact .inr ⟨v',h1,zcd h u v' h2⟩
theorem zpu (ν:Nat→Bool) {H H':SH} (h:jZ H H') {φ:Ren} {tm:List SV} {ts:Array Value} (ht:qK φ (zt (rho ν H) tm) ts):qK φ (zt (rho ν H') tm) ts:=zlW (kx ν H) (zfj ν h) ht
end Go.Fz.Sy
namespace Go.Fz.Sy
variable {P:Program} {φ:Ren} {K:Nat→Prop} {w:World}
theorem zxz {H:Hp} (g:zF φ H K w) {b:Nat} {cs:List Value} (hb:H.get b=some (.cells cs false)) :
  ∃φ',(∀n,Ext K φ φ' n n)∧∀H':Hp,(∀c k,H'.get c=some k→if c=b then k=.fzc cs else H.get c=some k)→zF φ' H' K w:=by
 obtain ⟨L,hL,a,el,fr,e1,e2,e3⟩:=g.rel b _ hb
 have hnone:φ (FZ+L.blk)=none:=by
  cases h:φ (FZ+L.blk) with
  |none=>rfl
  |some M=>exact absurd rfl (g.fsep b _ L L.blk M hb rfl hL h)
 let N:Loc:=⟨L.blk,0,0,a⟩
 have hle:=Ren.put_le hnone N
 have hoth:∀c,c≠FZ+L.blk→(φ.put (FZ+L.blk) N) c=φ c:=fun c hc=>Ren.put_other φ N hc
 have hname:∀c k,H.get c=some k→c≠FZ+L.blk:=fun c k hc e=>by
  obtain ⟨M,hM,_⟩:=g.rel c k hc
  rw [e,hnone] at hM;cases hM
 refine ⟨φ.put (FZ+L.blk) N,fun n=>⟨hle,fun c hc _=>hoth c (by omega),fun c M hM=>?_⟩,fun H' hH'=>?_⟩
 ·by_cases h:c=L.blk
  ·subst h;exact .inr (g.prot b _ L hb rfl hL)
  ·rw [hoth _ (by omega)] at hM;exact .inl hM
 have old:∀c k,H'.get c=some k→c≠b→H.get c=some k:=fun c k hc hne=>by have:=hH' c k hc;rwa [if_neg hne] at this
 have nrw:∀k,H'.get b=some k→k=.fzc cs:=fun k hk=>by have:=hH' b k hk;rwa [if_pos rfl] at this
 have hrwne:∀c k,H'.get c=some k→k.rw=true→c≠b:=fun c k hc hr e=>by
  subst e;rw [nrw k hc] at hr;cases hr
 refine ⟨fun c k hc=>?_,fun c d k k' M M' hc hd hne hk hM hM'=>?_,fun c k M hc hk hM=>?_,g.kin,fun c M hM=>?_,fun c k M d M' hc hk hM hM'=>?_⟩
 ·by_cases hcb:c=b
  ·subst hcb
   rw [nrw k hc]
   exact ⟨L,hle _ _ hL,⟨_,e1⟩,N,Ren.put_same _ _ _,fun j v hv=>let ⟨v',h1,h2⟩:=e2 j v hv;⟨v',h1,h2.mono hle⟩⟩
  ·obtain ⟨M,hM,hr⟩:=g.rel c k (old c k hc hcb)
   exact ⟨M,hle _ _ hM,hr.mono hle⟩
 ·have hcb:=hrwne c k hc hk
  have hcH:=old c k hc hcb
  rw [hoth c (hname c k hcH)] at hM
  by_cases hdb:d=b
  ·subst hdb
   rw [hoth d (hname d _ hb)] at hM'
   exact g.sep c d k _ M M' hcH hb hne hk hM hM'
  ·have hdH:=old d k' hd hdb
   rw [hoth d (hname d k' hdH)] at hM'
   exact g.sep c d k k' M M' hcH hdH hne hk hM hM'
 ·have hcH:=old c k hc (hrwne c k hc hk)
  rw [hoth c (hname c k hcH)] at hM
  exact g.prot c k M hcH hk hM
 ·by_cases h:c=L.blk
  ·subst h
   rw [Ren.put_same] at hM;cases hM
   exact ⟨rfl,rfl,a,el,fr,e1,fun j u hu=>hu⟩
  ·rw [hoth _ (by omega)] at hM;exact g.fz c M hM
 ·have hcb:=hrwne c k hc hk
  have hcH:=old c k hc hcb
  rw [hoth c (hname c k hcH)] at hM
  by_cases h:d=L.blk
  ·subst h
   exact g.sep c b k _ M L hcH hb hcb hk hM hL
  ·rw [hoth _ (by omega)] at hM'
   exact g.fsep c k M d M' hcH hk hM hM'
def GLe (H H':SH):Prop:=∀b,zn H' b=zn H b∨∃nn t l,zn H b=some (.arr nn t l)∧zn H' b=some (.fro nn t l)
theorem GLe.refl (H:SH):GLe H H:=fun _=>.inl rfl
theorem GLe.trans {H H' H'':SH} (h:GLe H H') (k:GLe H' H''):GLe H H'':=fun b=>by
 rcases h b with h1 | ⟨nn,t,l,h1,h2⟩
 ·rcases k b with k1 | ⟨nn,t,l,k1,k2⟩
  ·exact .inl (k1.trans h1)
  ·exact .inr ⟨nn,t,l,h1▸k1,k2⟩
 ·rcases k b with k1 | ⟨nn',t',l',k1,k2⟩
  ·exact .inr ⟨nn,t,l,h1,k1.trans h2⟩
  ·rw [h2] at k1;cases k1
theorem GLe.reg {H H':SH} (h:GLe H H') (b:Nat):Sy.reg (zn H' b)=Sy.reg (zn H b):=by
 rcases h b with h1 | ⟨nn,t,l,h1,h2⟩
 ·rw [h1]
 ·rw [h1,h2];rfl
theorem GLe.regLe {H H':SH} (h:GLe H H'):jZ H H':=fun b x hx=>by rw [h.reg b];exact hx
theorem GLe.lkeep {H H':SH} (h:GLe H H'):wk H H':=fun l L hl=>by
 rcases h l with h1 | ⟨nn,t,a,h1,h2⟩
 ·exact ⟨L.st,L.pend,by rw [h1];exact hl⟩
 ·rw [hl] at h1;cases h1
theorem GLe.rho {H H':SH} (h:GLe H H') (ν:Nat→Bool):Sy.rho ν H'=Sy.rho ν H:=by
 funext b
 unfold Sy.rho
 rw [h.reg b]
theorem GLe.vn {H H':SH} (h:GLe H H') {ν:Nat→Bool} {nx:Nat} (v:VN ν nx H):VN ν nx H':=⟨fun b n hr=>v.empty b n (by rw [←h.reg b];exact hr),v.old,fun b hb=>v.nn b (by
 rcases h b with h1 | ⟨nn,t,l,h1,h2⟩
 ·rw [←h1];exact hb
 ·rw [h2] at hb;cases hb)⟩
theorem GLe.fro {H H':SH} (h:GLe H H') {b:Nat} {nn:Bool} {t:Ty} {l:List (T t)} (hb:zn H b=some (.fro nn t l)):zn H' b=some (.fro nn t l):=by
 rcases h b with h1 | ⟨nn,t,a,h1,h2⟩
 ·rw [h1];exact hb
 ·rw [hb] at h1;cases h1
def xd (H H':SH):Prop:=GLe H H'∧∀(ν:Nat→Bool) (φ:Ren) (K:Nat→Prop) (w:World),zF φ (zD ν H) K w→∃φ',(∀n,Ext K φ φ' n n)∧zF φ' (zD ν H') K w
theorem xd.refl (H:SH):xd H H:=⟨GLe.refl H,fun ν φ K w g=>⟨φ,fun n=>Ext.refl _ _ _ _,g⟩⟩
theorem xd.trans {H H' H'':SH} (h:xd H H') (k:xd H' H''):xd H H'':=⟨h.1.trans k.1,fun ν φ K w g=>by
 obtain ⟨φ1,e1,g1⟩:=h.2 ν φ K w g
 obtain ⟨φ2,e2,g2⟩:=k.2 ν φ1 K w g1
 exact ⟨φ2,fun n=>(e1 n).comp (e2 n),g2⟩⟩
theorem zaB {H:SH} {b:Nat} {nn:Bool} {t:Ty} {l:List (T t)} (hb:zn H b=some (.arr nn t l)):xd H (wF H b (.fro nn t l)):=by
 have hg:GLe H (wF H b (.fro nn t l)):=fun c=>by
  rw [qM]
  by_cases hc:c=b
  ·subst hc;exact .inr ⟨nn,t,l,hb,by simp [hb]⟩
  ·rw [if_neg hc];exact .inl rfl
 refine ⟨hg,fun ν φ K w g=>?_⟩
 have hoth:∀c k,(zD ν (wF H b (.fro nn t l))).get c=some k→c≠b→(zD ν H).get c=some k:=fun c k hc hne=>by
  rw [zP,qM,if_neg hne,hg.rho ν] at hc
  rw [zP];exact hc
 cases hn:jI nn l with
 |true=>
  refine ⟨φ,fun n=>Ext.refl _ _ _ _,g.sub fun c k hc=>?_⟩
  by_cases hcb:c=b
  ·subst hcb
   rw [zP,qM] at hc
   simp [hb,zW,hn] at hc
  ·exact hoth c k hc hcb
 |false=>
  have hd:(zD ν H).get b=some (.cells (zX t l) false):=by rw [zP,hb];simp [zW,hn]
  obtain ⟨φ',e1,e2⟩:=zxz g hd
  refine ⟨φ',e1,e2 _ fun c k hc=>?_⟩
  by_cases hcb:c=b
  ·subst hcb
   rw [zP,qM] at hc
   simp [hb,zW,hn] at hc
   simp [hc]
  ·rw [if_neg hcb];exact hoth c k hc hcb
theorem zio {H:SH} {ν:Nat→Bool} {nx:Nat} (g:zF φ (zD ν H) K w) (hv:VN ν nx H) {b:Nat} {nn:Bool} {t:Ty} {l:List (T t)} (hb:zn H b=some (.fro nn t l)) (hs:0 < sz t) {v':Value} (h:zr φ (rho ν H b) v') :
  zr φ (fzV (sz t) false (l.map (wm t))) v':=by
 have hr:reg (zn H b)=some (l.length,rsz nn t l):=by rw [hb];rfl
 have hnil:∀a c,l=[]→zr φ (fzV (sz t) false (l.map (wm t))) (.slice a 0 c):=fun a c e=>by subst e;exact .fz0 _ _ _
 rw [Yj ν hr] at h
 cases hn:jI nn l with
 |true=>
  have hl:l=[]:=(zaa hn).2
  simp only [hn,cond_true] at h
  cases h
  exact hnil _ _ hl
 |false=>
  simp only [hn,cond_false] at h
  generalize hc0:qe+sz t=c0 at h
  generalize hn0:l.length=n0 at h
  cases h with
  |sl _ _ _ _ L hL hc=>omega
  |slO _ _ _ _ c' L hL hc hnc hl=>
   by_cases hl0:l=[]
   ·subst hl0;simp at hn0;subst hn0;exact hnil _ _ rfl
   ·have hd:(zD ν H).get b=some (.fzc (zX t l)):=by rw [zP,hb];simp [zW,hn]
    obtain ⟨L',hL',hB⟩:=g.rel b _ hd
    rw [hL] at hL';cases hL'
    obtain ⟨_,M,hM,hcs⟩:=hB
    have hpos:0 < l.length:=List.length_pos_iff.2 hl0
    have hfl:=Wl t l
    have hmul:0 < l.length*sz t:=Nat.mul_pos hpos hs
    have hes:((l.map (wm t)).toArray).size=n0:=by simp [hn0]
    have hget:∀(j:Nat) e,((l.map (wm t)).toArray)[j]?=some e→∃x,l[j]?=some x∧e=wm t x:=fun j e he=>by
     simp only [List.getElem?_toArray,List.getElem?_map,Option.map_eq_some_iff] at he
     obtain ⟨x,hx,rfl⟩:=he
     exact ⟨x,hx,rfl⟩
    have key:=zr.fz (φ:=φ) (sz t) (l.map (wm t)).toArray L.blk (L.off+0) c' M hM (by rw [hes];omega) (by
     rw [hes]
     obtain ⟨v',h1,_⟩:=hcs (l.length*sz t - 1) ((zX t l)[l.length*sz t - 1]'(by omega)) (by simp)
     have:=(Array.getElem?_eq_some_iff.1 h1).1
     rw [←hn0];omega) (by rw [hes];exact hnc) (fun j e he=>by
      obtain ⟨x,_,rfl⟩:=hget j e he
      simp [wm,Value.cells,jt]) (fun j k e u u' he hu hu'=>by
      obtain ⟨x,hx,rfl⟩:=hget j e he
      simp only [wm,Value.cells,List.getElem?_toArray] at hu
      have hk:k < sz t:=by have:=(List.getElem?_eq_some_iff.1 hu).1;rwa [jt] at this
      have h1:=zva t l hx hk
      rw [hu] at h1
      obtain ⟨v',q1,q2⟩:=hcs _ _ h1
      rw [Nat.add_zero,Nat.add_assoc] at hu'
      rw [q1] at hu';cases hu'
      exact q2)
    rw [hes] at key
    exact key
  |slE _ _ _ a' L hL hc=>
   have hl:l=[]:=List.length_eq_zero_iff.1 hn0
   exact hnil _ _ hl
def cvC:(t:Ty)→List SV→SH→Option (T t×List SV×SH)
 |.unit,l,H=>some ((),l,H)
 |.bool,l,H=>match l with
  |.bool b::r=>some (b,r,H)
  |_=>none
 |.int k,l,H=>match l with
  |.int k' n::r=>bif WE k k' then some (n,r,H) else none
  |_=>none
 |.str,l,H=>match l with
  |.str s::r=>some (s,r,H)
  |_=>none
 |.list t,l,H=>match l with
  |.lst t' x _::r=>if h:t'=t then some (Wk h x,r,H) else none
  |.nils::r=>some (([]:List (T t)),r,H)
  |.own b::r=>match zn H b with
   |some (.arr nn t' x)=>if h:t'=t then bif Nat.blt 0 (sz t) then some (Wk h x,r,wF H b (.fro nn t' x)) else none else none
   |some (.fro _ t' x)=>if h:t'=t then bif Nat.blt 0 (sz t) then some (Wk h x,r,H) else none else none
   |_=>none
  |_=>none
 |.pair a b,l,H=>match cvC a l H with
  |some (x,l1,H1)=>match cvC b l1 H1 with
   |some (y,l2,H2)=>some ((x,y),l2,H2)
   |none=>none
  |none=>none
def zGP (ν:Nat→Bool) (H H':SH) (cs:List SV) (xs:List Value):Prop:=∀(G:SH),GLe H' G→∀(φ:Ren) (K:Nat→Prop) (w:World) (nx:Nat) (us:List Value),zF φ (zD ν G) K w→VN ν nx G→zy φ (zt (rho ν H) cs) us→zy φ xs us
theorem zA {α:Type} {b:Bool} {x:Option α} {y:α} (h:(bif b then x else none)=some y):b=true∧x=some y:=by
 cases b
 ·cases h
 ·exact ⟨rfl,h⟩
theorem ztz {n:Nat} (h:Nat.blt 0 n=true):0 < n:=zdc h
theorem zaC:∀(t:Ty) {l:List SV} {H:SH} {x:T t} {r:List SV} {H':SH},cvC t l H=some (x,r,H')→∃cs,l=cs++r∧xd H H'∧∀ν,zGP ν H H' cs (qm t x)
 |.unit,l,H,x,r,H',h=>by
  simp only [cvC] at h
  cases h
  exact ⟨[],rfl,xd.refl _,fun ν G hG φ K w nx us g hn hr=>by simpa [zt,qm] using hr⟩
 |.bool,l,H,x,r,H',h=>by
  simp only [cvC] at h
  split at h
  ·cases h
   refine ⟨_,(List.singleton_append).symm,xd.refl _,fun ν G hG φ K w nx us g hn hr=>by simpa [zt,den,qm] using hr⟩
  ·cases h
 |.int k,l,H,x,r,H',h=>by
  simp only [cvC] at h
  split at h
  ·rename_i k' n r'
   obtain ⟨hk,h2⟩:=zA (x:=some (n,r',H)) h
   have:=Jx hk
   subst this
   clear h
   cases h2
   refine ⟨_,(List.singleton_append).symm,xd.refl _,fun ν G hG φ K w nx us g hn hr=>by simpa [zt,den,qm] using hr⟩
  ·cases h
 |.str,l,H,x,r,H',h=>by
  simp only [cvC] at h
  split at h
  ·cases h
   refine ⟨_,(List.singleton_append).symm,xd.refl _,fun ν G hG φ K w nx us g hn hr=>by simpa [zt,den,qm] using hr⟩
  ·cases h
 |.list t,l,H,x,r,H',h=>by
  simp only [cvC] at h
  split at h
  ·rename_i t' y full r'
   split at h
   ·rename_i ht
    subst ht
    cases h
    refine ⟨_,(List.singleton_append).symm,xd.refl _,fun ν G hG φ K w nx us g hn hr=>?_⟩
    match us,hr with
    |[],hr=>simp [zt,zy] at hr
    |u::us,hr=>
     simp only [zt,zy,den] at hr
     refine ⟨?_,hr.2⟩
     cases full with
     |false=>exact hr.1
     |true=>
      have h1:=hr.1
      unfold fzV at h1 ⊢
      simp only [cond_true,cond_false] at h1 ⊢
      generalize hs:sz t'=s at h1 ⊢
      generalize he:(List.map (wm t') y).toArray=es at h1
      show zr φ (.iface s (.tuple (List.map (wm t') (Wk rfl y)).toArray)) u
      have:Wk rfl y=y:=rfl
      rw [this,he]
      cases h1 with
      |fq _ _ b o L hL hn ho hs h=>exact .fz _ _ b o _ L hL hn ho (Nat.le_refl _) hs h
      |fq0 _ a=>exact .fz0 _ _ _
   ·cases h
  ·cases h
   refine ⟨_,(List.singleton_append).symm,xd.refl _,fun ν G hG φ K w nx us g hn hr=>?_⟩
   match us,hr with
   |[],hr=>simp [zt,zy] at hr
   |u::us,hr=>
    simp only [zt,zy,den] at hr
    refine ⟨?_,hr.2⟩
    have h1:=hr.1
    cases h1
    exact .fz0 _ _ _
  ·rename_i b r'
   split at h
   ·rename_i nn t' y hb
    split at h
    ·rename_i ht
     subst ht
     obtain ⟨hp,h⟩:=zA h
     cases h
     refine ⟨_,(List.singleton_append).symm,zaB hb,fun ν G hG φ K w nx us g hn hr=>?_⟩
     match us,hr with
     |[],hr=>simp [zt,zy] at hr
     |u::us,hr=>
      simp only [zt,zy,den] at hr
      refine ⟨?_,hr.2⟩
      have hb2:zn (wF H b (.fro nn t' y)) b=some (.fro nn t' y):=by rw [qM,if_pos rfl,hb];rfl
      rw [←(zaB hb).1.rho ν,←hG.rho ν] at hr
      exact zio g hn (hG.fro hb2) (ztz hp) hr.1
    ·cases h
   ·rename_i t' y hb
    split at h
    ·rename_i ht
     subst ht
     obtain ⟨hp,h⟩:=zA h
     cases h
     refine ⟨_,(List.singleton_append).symm,xd.refl _,fun ν G hG φ K w nx us g hn hr=>?_⟩
     match us,hr with
     |[],hr=>simp [zt,zy] at hr
     |u::us,hr=>
      simp only [zt,zy,den] at hr
      rw [←hG.rho ν] at hr
      exact ⟨zio g hn (hG.fro hb) (ztz hp) hr.1,hr.2⟩
    ·cases h
   ·cases h
  ·cases h
 |.pair a b,l,H,x,r,H',h=>by
  simp only [cvC] at h
  split at h
  case h_2=>cases h
  rename_i x1 l1 H1 h1
  split at h
  case h_2=>cases h
  rename_i y l2 H2 h2
  cases h
  obtain ⟨c1,rfl,g1,r1⟩:=zaC a h1
  obtain ⟨c2,rfl,g2,r2⟩:=zaC b h2
  refine ⟨c1++c2,by simp,g1.trans g2,fun ν G hG φ K w nx us g hn hr=>?_⟩
  rw [qv,List.map_append] at hr
  have hlen:=hr.length
  obtain ⟨u1,u2,rfl,hl1⟩:∃u1 u2,us=u1++u2∧u1.length=c1.length:=⟨us.take c1.length,us.drop c1.length,by simp,by simp at hlen ⊢;omega⟩
  have hsplit:zy φ (c1.map (den (rho ν H))) u1∧zy φ (c2.map (den (rho ν H))) u2:=by
   have h3:=hr.take (c1.length)
   have h4:=hr.drop (c1.length)
   rw [List.take_append_of_le_length (by simp),List.take_append_of_le_length (by omega),List.take_of_length_le (by simp),List.take_of_length_le (by omega)] at h3
   rw [List.drop_append_of_le_length (by simp),List.drop_append_of_le_length (by omega),List.drop_eq_nil_of_le (by simp),List.drop_eq_nil_of_le (by omega)] at h4
   exact ⟨h3,h4⟩
  refine zy.append ?_ ?_
  ·exact r1 ν G (g2.1.trans hG) φ K w nx u1 g hn (by rw [qv];exact hsplit.1)
  ·have:=r2 ν G hG φ K w nx u2 g hn
   rw [qv,g1.1.rho ν] at this
   exact this hsplit.2
structure VT where
 agg:Bool
 ty:Ty
def cvE (t:Ty) (x:Option (T t×List SV×SH)):Option (T t×SH):=match x with
 |some (x,[],H)=>some (x,H)
 |_=>none
theorem zjp {t:Ty} {y:Option (T t×List SV×SH)} {x:T t} {H:SH} (h:cvE t y=some (x,H)):y=some (x,[],H):=by
 unfold cvE at h
 split at h
 ·cases h;rfl
 ·cases h
def cvV (t:VT) (v:SV) (H:SH):Option (T t.ty×SH):=match t with
 |⟨true,t⟩=>match v with
  |.agg cs=>cvE t (cvC t cs H)
  |_=>none
 |⟨false,t⟩=>match v with
  |.agg _=>none
  |v=>cvE t (cvC t [v] H)
def mk1:List SV→SV
 |[v]=>v
 |_=>.junk
def mkV (t:VT) (x:T t.ty):SV:=bif t.agg then .agg (yr t.ty x) else mk1 (yr t.ty x)
theorem zri {t:VT} {v:SV} {H H':SH} {x:T t.ty} (h:cvV t v H=some (x,H')) :
  xd H H'∧∀ν G,GLe H' G→∀(φ:Ren) (K:Nat→Prop) (w:World) (nx:Nat) (v':Value),zF φ (zD ν G) K w→VN ν nx G→zr φ (den (rho ν H) v) v'→∀ρ,zr φ (den ρ (mkV t x)) v':=by
 obtain ⟨ag,t⟩:=t
 cases ag with
 |true=>
  simp only [cvV] at h
  split at h
  ·rename_i cs
   obtain ⟨cs1,he,g1,r1⟩:=zaC _ (zjp h)
   simp only [List.append_nil] at he
   subst he
   refine ⟨g1,fun ν G hG φ K w nx v' g hn hv ρ=>?_⟩
   simp only [mkV,cond_true,den] at hv ⊢
   obtain ⟨ys,rfl,hl⟩:=hv.agg_inv
   refine .agg' ?_
   rw [qv,yc]
   simpa using r1 ν G hG φ K w nx ys.toList g hn (by simpa using hl)
  ·cases h
 |false=>
  have key:∀v:SV,cvE t (cvC t [v] H)=some (x,H')→xd H H'∧∀ν G,GLe H' G→∀(φ:Ren) (K:Nat→Prop) (w:World) (nx:Nat) (v':Value),zF φ (zD ν G) K w→VN ν nx G→zr φ (den (rho ν H) v) v'→∀ρ,zr φ (den ρ (mkV ⟨false,t⟩ x)) v':=by
   intro v h
   obtain ⟨cs1,he,g1,r1⟩:=zaC _ (zjp h)
   simp only [List.append_nil] at he
   subst he
   refine ⟨g1,fun ν G hG φ K w nx v' g hn hv ρ=>?_⟩
   have hr:=r1 ν G hG φ K w nx [v'] g hn ⟨hv,trivial⟩
   rw [←yc ρ] at hr
   simp only [mkV,cond_false]
   generalize yr t x=e at hr
   match e,hr with
   |[u],hr=>exact hr.1
  simp only [cvV] at h
  split at h
  ·cases h
  ·exact key _ h
end Go.Fz.Sy
namespace Go.Fz.Sy
variable {P:Program}
def eqF (P:Program) (eq:TypeId→Value→Value→Option Bool) (xs ys:Array Value):List Field→Option Bool
 |[]=>some true
 | f :: fs => if f.name = "_" then eqF P eq xs ys fs else
  match qb P (part f.type xs f.offset),qb P (part f.type ys f.offset) with
  |some x,some y=>match eq f.type x y with
   |some b=>match eqF P eq xs ys fs with
    |some c=>some (b&&c)
    |none=>none
   |none=>none
  |_,_=>none
def eqS (P:Program):Nat→TypeId→Value→Value→Option Bool
 |0,_,_,_=>none
 |d+1,t,x,y=>match P.underlying t with
  |some .bool=>match x,y with
   |.bool a,.bool b=>some (a == b)
   |_,_=>none
  |some (.int _)=>match x,y with
   |.int k a,.int k' b=>if k=k' then some (a == b) else none
   |_,_=>none
  |some (.struct fields)=>match x,y with
   |.agg xs,.agg ys=>if P.stoodInHeld t then none else eqF P (eqS P d) xs ys fields.toList
   |_,_=>none
  |_=>none
theorem uN {t:TypeId} {d:TypeDesc} (h:P.underlying t=some d):qb P (underlying t)=some d:=by
 show qb P (Sem.program fun p=>_)=_
 simp only [qb]
 show qb P (Sem.bind (.pure P) _)=_
 simp only [Sem.bind,h]
 rfl
theorem zxA {d:Nat} {xs ys:Array Value} (ih:∀(t:TypeId) (x y:Value) (b:Bool),eqS P d t x y=some b→qb P (Op.equalIn d t x y)=some b):∀(fs:List Field) (b:Bool),eqF P (eqS P d) xs ys fs=some b→
  qb P (forIn fs ((none,()):Option Bool×Unit) fun f __s=>
      if f.name ≠ "_" then do
       let x ←part f.type xs f.offset
       let y ←part f.type ys f.offset
       let e ←Op.equalIn d f.type x y
       if (!e)=true then pure (ForInStep.done (some false,())) else pure (ForInStep.yield (none,()))
      else pure (ForInStep.yield (none,())))=some (if b then (none,()) else (some false,()))
 |[],b,h=>by
  simp only [eqF,Option.some.injEq] at h
  subst h
  rfl
 |f::fs,b,h=>by
  rw [List.forIn_cons]
  show qb P (Sem.bind _ _)=_
  rw [ja]
  simp only [eqF] at h
  split at h
  ·rename_i hn
   rw [if_neg (by simp [hn])]
   show (Option.bind (qb P (Sem.pure _)) _)=_
   simp only [qb,Option.bind_some]
   exact zxA ih fs b h
  ·rename_i hn
   rw [if_pos hn]
   split at h
   case h_2=>cases h
   rename_i x y hx hy
   split at h
   case h_2=>cases h
   rename_i e he
   split at h
   case h_2=>cases h
   rename_i c hc
   cases h
   show (Option.bind (qb P (Sem.bind _ _)) _)=_
   rw [ja,hx,Option.bind_some]
   show (Option.bind (qb P (Sem.bind _ _)) _)=_
   rw [ja,hy,Option.bind_some]
   show (Option.bind (qb P (Sem.bind _ _)) _)=_
   rw [ja,ih _ _ _ _ he,Option.bind_some]
   cases e with
   |false=>
    simp only [Bool.not_false,if_true,Bool.false_and]
    rfl
   |true=>
    simp only [Bool.not_true,Bool.false_eq_true,if_false,Bool.true_and]
    show (Option.bind (qb P (Sem.pure _)) _)=_
    simp only [qb,Option.bind_some]
    exact zxA ih fs c hc
theorem zCh:∀(d:Nat) (t:TypeId) (x y:Value) (b:Bool),eqS P d t x y=some b→qb P (Op.equalIn d t x y)=some b:=by
 intro d
 induction d with
 |zero=>intro t x y b h;cases h
 |succ d ih=>
  intro t x y b h
  simp only [eqS] at h
  unfold Op.equalIn
  split at h
  ·rename_i hu
   split at h
   ·cases h
    show qb P ((underlying t).bind _)=_
    rw [ja,uN hu,Option.bind_some]
    rfl
   ·cases h
  ·rename_i hu
   split at h
   ·split at h
    ·rename_i hk
     cases h
     show qb P ((underlying t).bind _)=_
     rw [ja,uN hu,Option.bind_some]
     simp only [hk,if_true]
     rfl
    ·cases h
   ·cases h
  ·rename_i fields hu
   split at h
   ·rename_i xs ys
    split at h
    ·cases h
    ·rename_i hst
     show qb P ((underlying t).bind _)=_
     rw [ja,uN hu,Option.bind_some]
     dsimp only
     show qb P (Sem.bind program _)=_
     rw [ja]
     show qb P (if P.stoodInHeld t=true then _ else _)=_
     rw [if_neg hst]
     show qb P (Sem.bind (forIn fields (none,()) _) _)=_
     rw [ja,←Array.forIn_toList,zxA ih fields.toList b h]
     cases b<;>rfl
   ·cases h
  ·cases h
theorem zoV {op:BinOp} {t:TypeId} {xo yo:Operand} {xs ys:Array Value} (hg:P.eqGuardType P.depth t=false) (ho:op=.eql∨op=.neq):qb P (eqGuard op t xo yo (.agg xs) (.agg ys))=some ():=by
 rcases ho with rfl | rfl<;>
 ·unfold eqGuard
  show qb P (Sem.bind program _)=_
  rw [ja]
  show qb P (Sem.bind program _)=_
  rw [ja]
  show qb P (if (!P.eqGuardType P.depth t)=true then _ else _)=_
  rw [hg]
  rfl
theorem zFl {t:TypeId} {xs ys:Array Value} {b:Bool} (hg:P.eqGuardType P.depth t=false) (ha:av (.agg xs)=true) (hb:av (.agg ys)=true) (h:eqS P 10000 t (.agg xs) (.agg ys)=some b) (xo yo:Operand) :
  xR P .eql t xo yo (.agg xs) (.agg ys)=some (.bool b)∧xR P .neq t xo yo (.agg xs) (.agg ys)=some (.bool (!b)):=by
 have he:=zCh 10000 t _ _ b h
 constructor
 ·unfold xR sc
  simp only [ha,hb,Bool.and_self,if_true]
  have:qb P (do eqGuard .eql t xo yo (.agg xs) (.agg ys);binOp .eql t (.agg xs) (.agg ys))=some (.bool b):=by
   show qb P (Sem.bind _ _)=_
   rw [ja,zoV hg (.inl rfl),Option.bind_some]
   show qb P (Sem.bind (Op.equalIn 10000 t _ _) _)=_
   rw [ja,he]
   rfl
  rw [this]
  rfl
 ·unfold xR sc
  simp only [ha,hb,Bool.and_self,if_true]
  have:qb P (do eqGuard .neq t xo yo (.agg xs) (.agg ys);binOp .neq t (.agg xs) (.agg ys))=some (.bool (!b)):=by
   show qb P (Sem.bind _ _)=_
   rw [ja,zoV hg (.inr rfl),Option.bind_some]
   show qb P (Sem.bind (Op.equalIn 10000 t _ _) _)=_
   rw [ja,he]
   rfl
  rw [this]
  rfl
def zpv:Value→Option SV
 |.bool b=>some (.bool b)
 |.int k n=>some (.int k n)
 |.string s=>some (.str s)
 |.pointer none=>some .nilp
 |.slice none 0 0=>some .nils
 |.nilFunc=>some .nilf
 |.map none=>some .nilm
 |_=>none
def ztA:List Value→Option (List SV)
 |[]=>some []
 |v::r=>match zpv v,ztA r with
  |some x,some xs=>some (x::xs)
  |_,_=>none
def ofC:Value→Option SV
 |.agg cs=>(ztA cs.toList).map .agg
 |.tuple vs=>(ztA vs.toList).map .tup
 |.func (.func f) ⟨[]⟩ ⟨[]⟩=>some (.fn f [] [])
 |v=>zpv v
theorem zpw {ρ:Nat→Value} {v:Value} {x:SV} (h:zpv v=some x):den ρ x=v∧av1 v=true:=by
 unfold zpv at h
 split at h<;>first | (cases h;exact ⟨by simp [den],rfl⟩) | cases h
theorem zpx {ρ:Nat→Value}:∀{vs:List Value} {xs:List SV},ztA vs=some xs→zt ρ xs=vs∧avL vs=true
 |[],xs,h=>by simp only [ztA,Option.some.injEq] at h;subst h;exact ⟨by simp [zt],rfl⟩
 |v::r,xs,h=>by
  simp only [ztA] at h
  split at h
  ·rename_i x ys h1 h2
   cases h
   obtain ⟨e1,e2⟩:=zpw (ρ:=ρ) h1
   obtain ⟨e3,e4⟩:=zpx (ρ:=ρ) h2
   exact ⟨by simp [zt,e1,e3],by simp [avL,e2,e4]⟩
  ·cases h
theorem zab {ρ:Nat→Value} {v:Value} {x:SV} (h:ofC v=some x):den ρ x=v∧av v=true:=by
 unfold ofC at h
 split at h
 ·simp only [Option.map_eq_some_iff] at h
  obtain ⟨xs,h1,rfl⟩:=h
  obtain ⟨e1,e2⟩:=zpx (ρ:=ρ) h1
  exact ⟨by simp [den,e1],by simpa [av] using e2⟩
 ·simp only [Option.map_eq_some_iff] at h
  obtain ⟨xs,h1,rfl⟩:=h
  obtain ⟨e1,e2⟩:=zpx (ρ:=ρ) h1
  exact ⟨by simp [den,e1],by simpa [av] using e2⟩
 ·cases h
  exact ⟨by simp [den,zt],rfl⟩
 ·obtain ⟨e1,e2⟩:=zpw (ρ:=ρ) h
  refine ⟨e1,?_⟩
  cases v<;>first | exact e2 | (simp [av1] at e2;done) | (simp [zpv] at h)
def okV (H:SH):SV→Bool
 |.junk=>false
 |.own b=>(reg (zn H b)).isSome
 |_=>true
def jz (tm:List SV) (H:SH):Operand→Option SV
 |.tmp t=>match gl tm t with
  |some v=>bif okV H v then some v else none
  |none=>none
 |.const c=>ofC c
 |.func f=>some (.fn f [] [])
 |.global _=>none
theorem zY {tm:List SV} {H:SH} {x:Operand} {v:SV} (h:jz tm H x=some v) (ν:Nat→Bool):opv (zt (rho ν H) tm) x=some (den (rho ν H) v):=by
 unfold jz at h
 split at h
 ·rename_i t
  split at h
  case h_2=>cases h
  rename_i u hu
  cases hk:okV H u with
  |false=>rw [hk] at h;cases h
  |true=>
   rw [hk] at h
   cases h
   rw [xc] at hu
   have h1:(zt (rho ν H) tm)[t]?=some (den (rho ν H) v):=by rw [qv,List.getElem?_map,hu];rfl
   simp only [opv,zeI,h1]
   cases v<;>simp only [den,fzV,okV,Bool.false_eq_true] at hk ⊢
   rename_i b
   unfold rho
   cases hr:reg (zn H b) with
   |none=>rw [hr] at hk;cases hk
   |some x=>obtain ⟨n,s⟩:=x;cases s<;>rfl
 ·obtain ⟨e1,e2⟩:=zab (ρ:=rho ν H) h
  simp only [opv,e2,if_true,e1]
 ·cases h
  simp [opv,den,zt]
 ·cases h
def zeT (tm:List SV) (H:SH):List Operand→Option (List SV)
 |[]=>some []
 |x::xs=>match jz tm H x,zeT tm H xs with
  |some v,some vs=>some (v::vs)
  |_,_=>none
theorem zac {tm:List SV} {H:SH} (ν:Nat→Bool):∀{xs:List Operand} {vs:List SV},zeT tm H xs=some vs→zav (zt (rho ν H) tm) xs=some (zt (rho ν H) vs)
 |[],vs,h=>by simp only [zeT,Option.some.injEq] at h;subst h;simp [zav,zt]
 |x::xs,vs,h=>by
  simp only [zeT] at h
  split at h
  ·rename_i v us h1 h2
   cases h
   simp only [zav,zY h1 ν,zac ν h2,zt]
  ·cases h
def zde (tm:List SV) (H:SH):List (Nat×Operand)→Option (List (Nat×SV))
 |[]=>some []
 |x::xs=>match jz tm H x.2,zde tm H xs with
  |some v,some vs=>some ((x.1,v)::vs)
  |_,_=>none
theorem zeU {tm:List SV} {H:SH} (ν:Nat→Bool):∀{xs:List (Nat×Operand)} {vs:List (Nat×SV)},zde tm H xs=some vs→zaw (zt (rho ν H) tm) xs=some (vs.map fun p=>(p.1,den (rho ν H) p.2))
 |[],vs,h=>by simp only [zde,Option.some.injEq] at h;subst h;simp [zaw]
 |x::xs,vs,h=>by
  simp only [zde] at h
  split at h
  ·rename_i v us h1 h2
   cases h
   simp only [zaw,zY h1 ν,zeU ν h2,List.map_cons]
  ·cases h
def znO (tm:List SV) (H:SH):Option Operand→Option (Option SV)
 |none=>some none
 |some x=>(jz tm H x).map some
theorem zad {tm:List SV} {H:SH} {x:Option Operand} {v:Option SV} (h:znO tm H x=some v) (ν:Nat→Bool):zlK (zt (rho ν H) tm) x=some (v.map (den (rho ν H))):=by
 cases x with
 |none=>simp only [znO,Option.some.injEq] at h;subst h;rfl
 |some x=>
  simp only [znO,Option.map_eq_some_iff] at h
  obtain ⟨u,h1,rfl⟩:=h
  simp only [zlK,zY h1 ν,Option.map_some]
def znP (P:Program) (t:TypeId) (cs:List SV) (off:Nat):Option SV:=
 match qX P t,qZ P t with
 |some d,some i=>bif Jt d then some (.agg ((cs.drop off).take i.size)) else gl cs off
 |_,_=>none
theorem zgW (ρ:Nat→Value) (cs:List SV) (n:Nat):zt ρ (cs.drop n)=(zt ρ cs).drop n:=by simp [qv]
theorem zgX (ρ:Nat→Value) (cs:List SV) (n:Nat):zt ρ (cs.take n)=(zt ρ cs).take n:=by simp [qv]
theorem wb (ρ:Nat→Value) (cs:List SV):(zt ρ cs).length=cs.length:=by simp [qv]
theorem wA (ρ:Nat→Value) (cs:List SV) (n:Nat):(zt ρ cs)[n]?=(cs[n]?).map (den ρ):=by simp [qv]
theorem zgY {ρ:Nat→Value} {t:TypeId} {cs:List SV} {off:Nat} {v:SV} (h:znP P t cs off=some v):zc7 P t (zt ρ cs) off=some (den ρ v):=by
 unfold znP at h
 unfold zc7
 split at h
 ·rename_i d i hd hi
  simp only [hd,hi]
  cases ha:Jt d with
  |true=>
   rw [ha] at h
   cases h
   simp [den,zgX,zgW]
  |false=>
   rw [ha] at h
   simp only [cond_false,xc] at h
   simp [wA,h]
 ·cases h
def zxB (P:Program) (t:TypeId) (f:Nat):SV→Option SV
 |.agg cs=>match qX P t with
  |some (.struct fields)=>match gl fields.toList f with
   |some fl=>znP P fl.type cs fl.offset
   |none=>none
  |_=>none
 |_=>none
theorem zA0 {ρ:Nat→Value} {t:TypeId} {f:Nat} {x v:SV} (h:zxB P t f x=some v):zig P t f (den ρ x)=some (den ρ v):=by
 unfold zxB at h
 split at h
 case h_2=>cases h
 split at h
 case h_2=>cases h
 rename_i fields hu
 split at h
 case h_2=>cases h
 rename_i fl hf
 rw [xc] at hf
 have hf':fields[f]?=some fl:=by rw [←hf,Array.getElem?_toList]
 simp only [den,zig,hu,hf']
 exact zgY h
def zpy (P:Program) (s:TypeId) (f:Nat):Option Nat:=match qX P s with
 |some (.struct fields)=>match gl fields.toList f with
  |some fl=>match qZ P fl.type with
   |some i=>bif Nat.beq i.size 0 then none else some fl.offset
   |none=>none
  |none=>none
 |_=>none
theorem zvR {s:TypeId} {f n:Nat} (h:zpy P s f=some n):∃fields fl i,qX P s=some (.struct fields)∧fields[f]?=some fl∧qZ P fl.type=some i∧i.size≠0∧n=fl.offset:=by
 unfold zpy at h
 split at h
 case h_2=>cases h
 rename_i fields hu
 split at h
 case h_2=>cases h
 rename_i fl hf
 split at h
 case h_2=>cases h
 rename_i i hi
 rw [xc] at hf
 have hf':fields[f]?=some fl:=by rw [←hf,Array.getElem?_toList]
 cases hz:Nat.beq i.size 0 with
 |true=>rw [hz] at h;cases h
 |false=>
  rw [hz] at h
  cases h
  exact ⟨fields,fl,i,hu,hf',hi,Nat.ne_of_beq_eq_false hz,rfl⟩
def zjq (P:Program) (s:TypeId) (f:Nat) (x:SV):Option SV:=match zpy P s f with
 |some n=>match x with
  |.ptr b o=>some (.ptr b (o+n))
  |.elp b z i k=>some (.elp b z i (k+n))
  |.fel t y k=>some (.fel t y (k+n))
  |_=>none
 |none=>none
theorem ztB {ρ:Nat→Value} {s:TypeId} {f:Nat} {x v:SV} (h:zjq P s f x=some v) :
  (match WG P s f (den ρ x) with | some u=>some u | none=>zic P s f (den ρ x))=some (den ρ v):=by
 unfold zjq at h
 split at h
 case h_2=>cases h
 rename_i n hn
 obtain ⟨fields,fl,i,h1,h2,h3,h4,rfl⟩:=zvR hn
 split at h
 ·cases h
  simp only [den,WG,h1,h2,h3,h4,if_false]
 ·cases h
  simp only [den,WG,h1,h2,h3,h4,if_false,Nat.add_assoc]
 ·cases h
  simp only [den,WG,zic,zpl,h1,h2,h3,h4,if_false]
 ·cases h
def XT (P:Program) (t:TypeId) (cs:List SV) (o:Nat):Option SV:=match qX P t,qZ P t with
 |some d,some i=>bif Jt d then (bif Nat.ble (o+i.size) cs.length then some (.agg ((cs.drop o).take i.size)) else none) else gl cs o
 |_,_=>none
def zw2 (P:Program) (H:SH) (t:TypeId):SV→Option SV
 |.ptr b o=>match zn H b with
  |some (.vars cs)=>XT P t cs o
  |some (.ro cs)=>XT P t cs o
  |_=>none
 |.fel ty x k=>XT P t (yr ty x) k
 |_=>none
theorem zlX {ρ:Nat→Value} {t:TypeId} {cs:List SV} {o:Nat} {v:SV} (h:XT P t cs o=some v) {Hd:Hp} {b:Nat} {ro:Bool} (hb:Hd.get b=some (.cells (zt ρ cs) ro)) :
  gH P Hd t (.pointer (some ⟨b,o,none⟩))=some (den ρ v):=by
 unfold XT at h
 split at h
 case h_2=>cases h
 rename_i d i hd hi
 simp only [gH,hb,hd,hi]
 cases ha:Jt d with
 |true=>
  rw [ha] at h
  simp only [cond_true] at h
  obtain ⟨h1,h2⟩:=zA h
  cases h2
  have h3:=Nat.le_of_ble_eq_true h1
  simp [den,zgX,zgW,wb,h3]
 |false=>
  rw [ha] at h
  simp only [cond_false,xc] at h
  simp [wA,h]
theorem zCi {ρ:Nat→Value} {t:TypeId} {ty:Ty} {x:T ty} {k:Nat} {v:SV} (h:XT P t (yr ty x) k=some v):zfa P t (den ρ (.fel ty x k))=some (den ρ v):=by
 unfold XT at h
 split at h
 case h_2=>cases h
 rename_i d i hd hi
 have he:qm ty x=zt ρ (yr ty x):=by rw [qv,yc]
 simp only [den,zfa,zpl,hd,hi,wm,Value.cells]
 cases ha:Jt d with
 |true=>
  rw [ha] at h
  simp only [cond_true] at h
  obtain ⟨h1,h2⟩:=zA h
  cases h2
  have h3:=Nat.le_of_ble_eq_true h1
  rw [Xm] at h3
  simp [den,zgX,zgW,he]
  rw [←he,jt];exact h3
 |false=>
  rw [ha] at h
  simp only [cond_false,xc] at h
  simp [he,wA,h]
theorem zvb {ν:Nat→Bool} {H:SH} {t:TypeId} {a v:SV} (h:zw2 P H t a=some v) :
  (match gH P (zD ν H) t (den (rho ν H) a) with | some u=>some u | none=>zfa P t (den (rho ν H) a))=some (den (rho ν H) v):=by
 unfold zw2 at h
 split at h
 ·rename_i b o
  split at h
  ·rename_i cs hb
   have hd:(zD ν H).get b=some (.cells (zt (rho ν H) cs) false):=by rw [zP,hb];rfl
   simp only [den,zlX h hd]
  ·rename_i cs hb
   have hd:(zD ν H).get b=some (.cells (zt (rho ν H) cs) true):=by rw [zP,hb];rfl
   simp only [den,zlX h hd]
  ·cases h
 ·rename_i ty x k
  have:gH P (zD ν H) t (den (rho ν H) (.fel ty x k))=none:=by simp [den,gH]
  rw [this]
  exact zCi h
 ·cases h
def ky (op:BinOp) (k:IntKind) (x y:Int):Int:=match op with
 |.and=>k.wrap ((BitVec.ofInt k.bits x&&& BitVec.ofInt k.bits y).toNat)
 |.or=>k.wrap ((BitVec.ofInt k.bits x||| BitVec.ofInt k.bits y).toNat)
 |.xor=>k.wrap ((BitVec.ofInt k.bits x ^^^ BitVec.ofInt k.bits y).toNat)
 |_=>k.wrap ((BitVec.ofInt k.bits x&&& ~~~BitVec.ofInt k.bits y).toNat)
def zDC (op:BinOp) (k:IntKind) (x y:Int):Option SV:=match op with
 |.add=>some (.int k (wrF k (x+y)))
 |.sub=>some (.int k (wrF k (x - y)))
 |.mul=>some (.int k (wrF k (x*y)))
 |.eql=>some (.bool (zm x y))
 |.neq=>some (.bool (!zm x y))
 |.lss=>some (.bool (zj x y))
 |.leq=>some (.bool (!zj y x))
 |.gtr=>some (.bool (zj y x))
 |.geq=>some (.bool (!zj x y))
 |.and=>some (.int k (ky .and k x y))
 |.or=>some (.int k (ky .or k x y))
 |.xor=>some (.int k (ky .xor k x y))
 |.andNot=>some (.int k (ky .andNot k x y))
 |_=>none
theorem zgZ (k:IntKind):WE k k=true:=by cases k<;>rfl
theorem zDD {t:TypeId} {op:BinOp} {k:IntKind} {a b r:Int} (h:qb P (Op.intBits op k a b)=some (.int k r)) (ho:op=.and∨op=.or∨op=.xor∨op=.andNot) (xo yo:Operand):xR P op t xo yo (.int k a) (.int k b)=some (.int k r):=by
 have h1:KU op (.int k a) (.int k b)=none:=by
  unfold KU
  simp only [zgZ,cond_true]
  rcases ho with rfl | rfl | rfl | rfl<;>rfl
 have:qb P (do eqGuard op t xo yo (.int k a) (.int k b);binOp op t (.int k a) (.int k b))=some (.int k r):=by
  rcases ho with rfl | rfl | rfl | rfl<;>
  ·show qb P (if k ≠ k then stuck _ else _) = _
   rw [if_neg (by simp)];exact h
 unfold xR sc
 rw [h1,this]
 rfl
theorem zDE {ρ:Nat→Value} {t:TypeId} {op:BinOp} {k:IntKind} {a b:Int} {v:SV} (h:zDC op k a b=some v) (xo yo:Operand):xR P op t xo yo (.int k a) (.int k b)=some (den ρ v):=by
 unfold zDC at h
 split at h<;>first | (cases h;done) | skip
 all_goals first
  |(cases h;unfold xR KU;simp only [zgZ,cond_true,den];done)
  |(cases h;exact zDD (P:=P) (t:=t) rfl (by simp) xo yo)
def zA1 (op:BinOp) (a b:Bool):Option SV:=match op with
 |.eql=>some (.bool (a == b))
 |.neq=>some (.bool (!(a == b)))
 |_=>none
theorem zCj {ρ:Nat→Value} {t:TypeId} {d:TypeDesc} (hu:qX P t=some d) (hd:d=.bool) {op:BinOp} {a b:Bool} {v:SV} (h:zA1 op a b=some v) (xo yo:Operand):xR P op t xo yo (.bool a) (.bool b)=some (den ρ v):=by
 subst hd
 rw [jk] at hu
 have he:qb P (Op.equalIn 10000 t (.bool a) (.bool b))=some (a == b):=zCh 10000 t _ _ _ (by simp [eqS,hu])
 unfold zA1 at h
 split at h
 ·cases h
  have:qb P (do eqGuard .eql t xo yo (.bool a) (.bool b);binOp .eql t (.bool a) (.bool b))=some (.bool (a == b)):=by
   show qb P (Sem.bind (Op.equalIn 10000 t _ _) _)=_
   rw [ja,he];rfl
  have hb:∀op,KU op (.bool a) (.bool b)=none:=fun _=>rfl
  unfold xR sc
  rw [hb,this]
  simp [den,av,av1]
 ·cases h
  have:qb P (do eqGuard .neq t xo yo (.bool a) (.bool b);binOp .neq t (.bool a) (.bool b))=some (.bool (!(a == b))):=by
   show qb P (Sem.bind (Op.equalIn 10000 t _ _) _)=_
   rw [ja,he];rfl
  have hb:∀op,KU op (.bool a) (.bool b)=none:=fun _=>rfl
  unfold xR sc
  rw [hb,this]
  simp [den,av,av1]
 ·cases h
def ztC (P:Program) (eq:TypeId→SV→SV→Option Bool) (xs ys:List SV):List Field→Option Bool
 |[]=>some true
 | f :: fs => if f.name = "_" then ztC P eq xs ys fs else
  match znP P f.type xs f.offset,znP P f.type ys f.offset with
  |some x,some y=>match eq f.type x y with
   |some b=>match ztC P eq xs ys fs with
    |some c=>some (b&&c)
    |none=>none
   |none=>none
  |_,_=>none
def zA2 (P:Program):Nat→TypeId→SV→SV→Option Bool
 |0,_,_,_=>none
 |d+1,t,x,y=>match qX P t with
  |some .bool=>match x,y with
   |.bool a,.bool b=>some (a == b)
   |_,_=>none
  |some (.int _)=>match x,y with
   |.int k a,.int k' b=>bif WE k k' then some (zm a b) else none
   |_,_=>none
  |some (.struct fields)=>match x,y with
   |.agg xs,.agg ys=>bif P.stoodInHeld t then none else ztC P (zA2 P d) xs ys fields.toList
   |_,_=>none
  |_=>none
theorem zrj {t:TypeId} {cs:Array Value} {off:Nat} {v:Value} (h:zc7 P t cs.toList off=some v):qb P (part t cs off)=some v:=by
 unfold zc7 at h
 split at h
 case h_2=>cases h
 rename_i d i hu hi
 rw [jk] at hu
 rw [jd] at hi
 have h1:qb P (isAgg t)=some (Jt d):=by
  unfold isAgg
  show qb P ((underlying t).bind _)=_
  rw [ja,uN hu,Option.bind_some]
  cases d<;>rfl
 have h2:qb P (sizeOf t)=some i.size:=by
  unfold sizeOf typeInfo
  show qb P (Sem.bind (Sem.bind program _) _)=_
  rw [ja,ja]
  show Option.bind (Option.bind (some P) _) _=_
  simp only [Option.bind_some]
  rw [hi]
  rfl
 unfold part
 show qb P (Sem.bind (isAgg t) _)=_
 rw [ja,h1,Option.bind_some]
 cases ha:Jt d with
 |true=>
  rw [ha] at h
  simp only [if_true,Option.some.injEq] at h
  subst h
  simp only [if_true]
  show qb P (Sem.bind (sizeOf t) _)=_
  rw [ja,h2,Option.bind_some]
  show some _=some _
  congr 2
  apply Array.ext'
  rw [zif]
 |false=>
  rw [ha] at h
  simp only [Bool.false_eq_true,if_false] at h ⊢
  have:cs[off]?=some v:=by rw [←h,Array.getElem?_toList]
  rw [this]
  rfl
theorem zpz {ρ:Nat→Value} {eq:TypeId→SV→SV→Option Bool} {eqV:TypeId→Value→Value→Option Bool} (ih:∀t x y b,eq t x y=some b→eqV t (den ρ x) (den ρ y)=some b) {xs ys:List SV}:∀{fs:List Field} {b:Bool},ztC P eq xs ys fs=some b→
  eqF P eqV (zt ρ xs).toArray (zt ρ ys).toArray fs=some b
 |[],b,h=>by simpa [ztC,eqF] using h
 |f::fs,b,h=>by
  simp only [ztC] at h
  simp only [eqF]
  split at h
  ·rename_i hn
   rw [if_pos hn];exact zpz ih h
  ·rename_i hn
   rw [if_neg hn]
   split at h
   case h_2=>cases h
   rename_i x y hx hy
   split at h
   case h_2=>cases h
   rename_i e he
   split at h
   case h_2=>cases h
   rename_i c hc
   cases h
   have h1:=zrj (cs:=(zt ρ xs).toArray) (zgY (ρ:=ρ) hx)
   have h2:=zrj (cs:=(zt ρ ys).toArray) (zgY (ρ:=ρ) hy)
   simp only [h1,h2,ih _ _ _ _ he,zpz ih hc]
theorem zxC {ρ:Nat→Value}:∀(d:Nat) (t:TypeId) (x y:SV) (b:Bool),zA2 P d t x y=some b→eqS P d t (den ρ x) (den ρ y)=some b
 |0,_,_,_,_,h=>by cases h
 |d+1,t,x,y,b,h=>by
  simp only [zA2,jk] at h
  simp only [eqS]
  split at h
  ·rename_i hu
   split at h
   ·cases h;simp [hu,den]
   ·cases h
  ·rename_i hu
   split at h
   ·obtain ⟨h1,h2⟩:=zA h
    cases h2
    have:=Jx h1
    subst this
    simp [hu,den,jw]
   ·cases h
  ·rename_i fields hu
   split at h
   ·cases hst:P.stoodInHeld t with
    |true=>rw [hst] at h;cases h
    |false=>
     rw [hst] at h
     simp only [hu,den,Bool.false_eq_true,if_false]
     exact zpz (fun t x y b=>zxC d t x y b) h
   ·cases h
  ·cases h
def zlY:List SV→Bool
 |[]=>true
 |v::r=>(match v with | .bool _=>true | .int _ _=>true | .str _=>true | _=>false)&&zlY r
theorem zjr {ρ:Nat→Value}:∀{cs:List SV},zlY cs=true→avL (zt ρ cs)=true
 |[],_=>rfl
 |v::r,h=>by
  simp only [zlY,Bool.and_eq_true] at h
  simp only [zt,avL,Bool.and_eq_true]
  refine ⟨?_,zjr h.2⟩
  cases v<;>simp at h<;>simp [den,av1]
def eqB (P:Program) (op:BinOp) (t:TypeId) (xs ys:List SV):Option SV:=
 bif zlY xs&&(zlY ys&&!P.eqGuardType P.depth t) then
  match zA2 P 10000 t (.agg xs) (.agg ys) with
  |some b=>match op with
   |.eql=>some (.bool b)
   |.neq=>some (.bool (!b))
   |_=>none
  |none=>none
 else none
theorem zFm {ρ:Nat→Value} {op:BinOp} {t:TypeId} {xs ys:List SV} {v:SV} (h:eqB P op t xs ys=some v) (xo yo:Operand):xR P op t xo yo (den ρ (.agg xs)) (den ρ (.agg ys))=some (den ρ v):=by
 unfold eqB at h
 obtain ⟨h1,h⟩:=zA h
 simp only [Bool.and_eq_true,Bool.not_eq_true'] at h1
 obtain ⟨h1,h2,h3⟩:=h1
 split at h
 case h_2=>cases h
 rename_i b hb
 have h4:=zxC (ρ:=ρ) _ _ _ _ _ hb
 simp only [den] at h4 ⊢
 have h5:=zFl h3 (by simpa [av] using zjr h1) (by simpa [av] using zjr h2) h4 xo yo
 split at h
 ·cases h;simpa [den] using h5.1
 ·cases h;simpa [den] using h5.2
 ·cases h
def toV:SV→Option Value
 |.bool b=>some (.bool b)
 |.int k n=>some (.int k n)
 |.str s=>some (.string s)
 |.nilp=>some (.pointer none)
 |.nils=>some (.slice none 0 0)
 |.nilf=>some .nilFunc
 |.nilm=>some (.map none)
 |_=>none
theorem znQ {ρ:Nat→Value} {v:SV} {u:Value} (h:toV v=some u):den ρ v=u:=by
 unfold toV at h
 split at h<;>first | (cases h;simp [den];done) | cases h
def zDF (op:BinOp) (r:Bool):Option SV:=match op with
 |.eql=>some (.bool r)
 |.neq=>some (.bool (!r))
 |_=>none
def zDG (P:Program) (op:BinOp) (t:TypeId) (a b:SV):Option SV:=match qX P t with
 |some d=>
  let r:Option Bool:=match d,a,b with
   |.pointer _,.ptr _ _,.nilp=>some false
   |.pointer _,.nilp,.ptr _ _=>some false
   |_,_,_=>none
  match r with
  |some r=>zDF op r
  |none=>none
 |none=>none
theorem zDH {ρ:Nat→Value} {op:BinOp} {t:TypeId} {a b v:SV} (h:zDG P op t a b=some v) (xo yo:Operand):xR P op t xo yo (den ρ a) (den ρ b)=some (den ρ v):=by
 unfold zDG at h
 split at h
 case h_2=>cases h
 rename_i d hd
 dsimp only at h
 have key:∀(r:Bool),ze8 P t (den ρ a) (den ρ b)=some r→(av (den ρ a)&&av (den ρ b))=false→KU op (den ρ a) (den ρ b)=none→zDF op r=some v→xR P op t xo yo (den ρ a) (den ρ b)=some (den ρ v):=by
  intro r h1 h2 h3 h4
  unfold zDF at h4
  unfold xR
  rw [h3]
  simp only [h2,Bool.false_eq_true,if_false]
  split at h4
  ·cases h4;simp [h1,den]
  ·cases h4;simp [h1,den]
  ·cases h4
 split at h
 case h_2=>cases h
 rename_i r hr
 split at hr
 ·cases hr;exact key false (by simp [ze8,zeJ,den,hd,zgQ]) (by simp [den,av,av1]) (by simp [den,KU]) h
 ·cases hr;exact key false (by simp [ze8,zeJ,den,hd,zgQ]) (by simp [den,av,av1]) (by simp [den,KU]) h
 ·cases hr
def zz8:Option TypeDesc→Bool
 |some .bool=>true
 |_=>false
def zDI (P:Program) (op:BinOp) (t:TypeId) (xo yo:Operand) (a b:SV):Option SV:=match a,b with
 |.int k x,.int k' y=>bif WE k k' then zDC op k x y else none
 |.bool x,.bool y=>bif zz8 (qX P t) then zA1 op x y else none
 |.agg xs,.agg ys=>eqB P op t xs ys
 |.str x,.str y=>match xR P op t xo yo (.string x) (.string y) with
  |some u=>ofC u
  |none=>none
 |a,b=>match toV a,toV b with
  |some x,some y=>match xR P op t xo yo x y with
   |some u=>ofC u
   |none=>none
  |_,_=>zDG P op t a b
theorem zDJ {ρ:Nat→Value} {op:BinOp} {t:TypeId} {xo yo:Operand} {a b v:SV} (h:zDI P op t xo yo a b=some v):xR P op t xo yo (den ρ a) (den ρ b)=some (den ρ v):=by
 unfold zDI at h
 split at h
 ·obtain ⟨h1,h2⟩:=zA h
  have:=Jx h1
  subst this
  simp only [den]
  exact zDE h2 xo yo
 ·obtain ⟨h1,h⟩:=zA h
  unfold zz8 at h1
  split at h1
  ·rename_i hu
   simp only [den]
   exact zCj hu rfl h xo yo
  ·cases h1
 ·exact zFm h xo yo
 ·split at h
  ·rename_i u hu
   simp only [den,hu,(zab (ρ:=ρ) h).1]
  ·cases h
 ·split at h
  ·rename_i x y hx hy
   split at h
   ·rename_i u hu
    rw [znQ (ρ:=ρ) hx,znQ (ρ:=ρ) hy,hu,(zab (ρ:=ρ) h).1]
   ·cases h
  ·exact zDH h xo yo
def unS (P:Program) (op:UnOp) (a:SV):Option SV:=match op,a with
 |.not,.bool b=>some (.bool (!b))
 |.neg,.int k n=>some (.int k (wrF k (0 - n)))
 |op,a=>match toV a with
  |some x=>match zpk P op x with
   |some u=>ofC u
   |none=>none
  |none=>none
theorem zFn {ρ:Nat→Value} {op:UnOp} {a v:SV} (h:unS P op a=some v):zpk P op (den ρ a)=some (den ρ v):=by
 unfold unS at h
 split at h
 ·cases h;simp [den,zpk]
 ·rename_i k n
  cases h
  have:qb P (Op.unary .neg (.int k n))=some (.int k (k.wrap (0 - n))):=rfl
  simp [den,zpk,av,av1,sc,this,Uj]
 ·split at h
  ·rename_i x hx
   split at h
   ·rename_i u hu
    rw [znQ (ρ:=ρ) hx,hu,(zab (ρ:=ρ) h).1]
   ·cases h
  ·cases h
def zA3 (P:Program) (s d:TypeId) (a:SV):Option SV:=match a with
 |.int k n=>match qX P s,qX P d with
  |some _,some (.int k')=>some (.int k' (wrF k' n))
  |_,_=>none
 |a=>match toV a with
  |some x=>match zh9 P s d x with
   |some u=>ofC u
   |none=>none
  |none=>none
theorem zCk {ρ:Nat→Value} {s d:TypeId} {a v:SV} (h:zA3 P s d a=some v):zh9 P s d (den ρ a)=some (den ρ v):=by
 unfold zA3 at h
 split at h
 ·rename_i k n
  split at h
  ·rename_i ds k' h1 h2
   cases h
   rw [jk] at h1 h2
   have:qb P (convert s d (.int k n))=some (.int k' (k'.wrap n)):=by
    unfold convert
    show qb P ((underlying s).bind _)=_
    rw [ja,uN h1,Option.bind_some]
    show qb P ((underlying d).bind _)=_
    rw [ja,uN h2,Option.bind_some]
    cases ds<;>rfl
   simp [den,zh9,av,av1,sc,this,Uj]
  ·cases h
 ·split at h
  ·rename_i x hx
   split at h
   ·rename_i u hu
    rw [znQ (ρ:=ρ) hx,hu,(zab (ρ:=ρ) h).1]
   ·cases h
  ·cases h
end Go.Fz.Sy
namespace Go.Fz.Sy
variable {P:Program} {φ:Ren} {K:Nat→Prop} {w:World}
theorem zzE {ρ ρ':Nat→Value} (hρ:∀b,ρ b≠Fz.junk) (h:RLe ρ ρ') {L:SL} {Lc:Loc} (hb:js φ w Lc (.loop (wX ρ L))):js φ w Lc (.loop (wX ρ' L)):=by
 obtain ⟨l',h1,h2,h3,h4,h5,h6,h7,D,h8,h9⟩:=hb
 exact ⟨l',h1,h2,h3,by simpa [wX] using zlW hρ h (by simpa [wX] using h4),h5,h6,h7,D,h8,h9⟩
theorem zxD {ρ ρ':Nat→Value} (hρ:∀b,ρ b≠Fz.junk) (h:RLe ρ ρ') {nil:Bool} {k:SB} {x:Blk} (hx:zW ρ nil k=some x):∃x',zW ρ' nil k=some x'∧x'.rw=x.rw∧∀φ w L,js φ w L x→js φ w L x':=by
 have key:∀(cs:List SV) (ro:Bool) (φ:Ren) (w:World) (L:Loc),js φ w L (.cells (zt ρ cs) ro)→js φ w L (.cells (zt ρ' cs) ro):=by
  rintro cs ro φ w L ⟨arr,el,fr,h1,h2,h3⟩
  refine ⟨arr,el,fr,h1,fun j v hv=>?_,h3⟩
  rw [wA,Option.map_eq_some_iff] at hv
  obtain ⟨u,hu,rfl⟩:=hv
  obtain ⟨v',e1,e2⟩:=h2 j (den ρ u) (by rw [wA,hu];rfl)
  exact ⟨v',e1,zcd h u v' e2⟩
 cases k with
 |vars cs=>simp only [zW,Option.some.injEq] at hx;subst hx;exact ⟨_,rfl,rfl,key cs false⟩
 |ro cs=>simp only [zW,Option.some.injEq] at hx;subst hx;exact ⟨_,rfl,rfl,key cs true⟩
 |loop L=>simp only [zW,Option.some.injEq] at hx;subst hx;exact ⟨_,rfl,rfl,fun φ w Lc hb=>zzE hρ h hb⟩
 |arr nn t l=>exact ⟨x,hx,rfl,fun _ _ _ hb=>hb⟩
 |roa nn t l=>exact ⟨x,hx,rfl,fun _ _ _ hb=>hb⟩
 |fro nn t l=>exact ⟨x,hx,rfl,fun _ _ _ hb=>hb⟩
 |gone s n=>exact ⟨x,hx,rfl,fun _ _ _ hb=>hb⟩
 |defd=>exact ⟨x,hx,rfl,fun _ _ _ hb=>hb⟩
 |hid=>exact ⟨x,hx,rfl,fun _ _ _ hb=>hb⟩
 |mpb k ag t l=>exact ⟨x,hx,rfl,fun _ _ _ hb=>hb⟩
 |abs=>exact ⟨x,hx,rfl,fun _ _ _ hb=>hb⟩
theorem zxE {ν:Nat→Bool} {ρ ρ':Nat→Value} (hρ:∀b,ρ b≠Fz.junk) (h:RLe ρ ρ') {H:SH} (g:zF φ (uh ν ρ H) K w):zF φ (uh ν ρ' H) K w:=by
 have back:∀b k,(uh ν ρ' H).get b=some k→∃k0,(uh ν ρ H).get b=some k0∧k.rw=k0.rw∧∀φ w L,js φ w L k0→js φ w L k:=by
  intro b k hk
  rw [xU,Option.bind_eq_some_iff] at hk
  obtain ⟨s,hs,hk⟩:=hk
  have:∃k0,zW ρ (ν b) s=some k0:=by
   cases s with
   |vars=>exact ⟨_,rfl⟩
   |ro=>exact ⟨_,rfl⟩
   |loop=>exact ⟨_,rfl⟩
   |_=>exact ⟨k,hk⟩
  obtain ⟨k0,h0⟩:=this
  obtain ⟨k1,h1,h2,h3⟩:=zxD hρ h h0
  rw [hk] at h1
  cases h1
  exact ⟨k0,by rw [xU,hs];exact h0,h2,h3⟩
 refine ⟨fun b k hb=>?_,fun b c k k' L L' hb hc hne hkr hL hL'=>?_,fun b k L hb hkr hL=>?_,g.kin,g.fz,fun b k L c M hb hkr hL hM=>?_⟩
 ·obtain ⟨k0,h1,h2,h3⟩:=back b k hb
  obtain ⟨L,hL,hB⟩:=g.rel b k0 h1
  exact ⟨L,hL,h3 _ _ _ hB⟩
 ·obtain ⟨k0,h1,h2,_⟩:=back b k hb
  obtain ⟨k1,h3,_⟩:=back c k' hc
  exact g.sep b c k0 k1 L L' h1 h3 hne (by rw [←h2];exact hkr) hL hL'
 ·obtain ⟨k0,h1,h2,_⟩:=back b k hb
  exact g.prot b k0 L h1 (by rw [←h2];exact hkr) hL
 ·obtain ⟨k0,h1,h2,_⟩:=back b k hb
  exact g.fsep b k0 L c M h1 (by rw [←h2];exact hkr) hL hM
theorem Wm {r:Option Nat} {o:Oper} {tm:List Value} {H H' H2:Hp} {nx nx':Nat} {v v2:Value} (h:KV P r o tm H nx v H' nx') (hv:∀φ v',zr φ v v'→zr φ v2 v') (hH:∀φ K w,zF φ H' K w→zF φ H2 K w):KV P r o tm H nx v2 H2 nx':=
 ⟨h.1,fun φ w K a rc next Q g hf ht hr hk=>h.2 φ w K a rc next Q g hf ht hr fun v' φ' w' x1 x2 x3 x4=>hk v' φ' w' (hv _ _ x1) x2 (hH _ _ _ x3) x4⟩
theorem zlZ {φ φ1:Ren} {lo mid hi:Nat} (hf:yW φ lo hi) (he:∀n,Ext K φ φ1 n n):yW φ1 lo hi:=⟨hf.1,fun b h3 h4=>by rw [(he b).2.1 b (Nat.lt_of_lt_of_le h4 hf.1) (.inr (Nat.le_refl _))];exact hf.2 b h3 h4⟩
theorem zjs {r:Option Nat} {o:Oper} {tm:List Value} {H H1:SH} {H':Hp} {nx nx':Nat} {v:Value} {ν:Nat→Bool} (hg:xd H H1) (h:KV P r o tm (zD ν H1) nx v H' nx'):KV P r o tm (zD ν H) nx v H' nx':=
 ⟨h.1,fun φ w K a rc next Q g hf ht hr hk=>by
  obtain ⟨φ1,e1,g1⟩:=hg.2 ν φ K w g
  have hle:=(e1 0).1
  refine h.2 φ1 w K a rc next Q g1 (zlZ (mid:=0) hf e1) (ht.mono hle) (hr.mono hle) fun v' φ' w' x1 x2 x3 x4=>hk v' φ' w' x1 ?_ x3 x4
  exact ((e1 nx).trans x2 (Nat.le_refl _) h.1)⟩
def SOp (P:Program) (rd:Option Nat) (o:Oper) (tm:List SV) (H:SH) (nx:Nat) (v:SV) (H':SH) (nx':Nat):Prop:=
 jZ H H'∧wk H H'∧nx≤nx'∧∀ν,VN ν nx H→VN ν nx' H'∧KV P rd o (zt (rho ν H) tm) (zD ν H) nx (den (rho ν H') v) (zD ν H') nx'
theorem VN.later {ν:Nat→Bool} {nx nx':Nat} {H:SH} (h:VN ν nx H) (hn:nx≤nx'):VN ν nx' H:=⟨h.empty,fun b hb=>h.old b (by omega),h.nn⟩
theorem uO {rd:Option Nat} {o:Oper} {tm:List SV} {H:SH} {nx nx':Nat} {v:SV} (hn:nx≤nx') (h:∀ν,jW P (zt (rho ν H) tm) (zD ν H) nx o=some (den (rho ν H) v,zD ν H,nx')):SOp P rd o tm H nx v H nx':=
 ⟨jZ.refl H,wk.refl H,hn,fun ν hv=>⟨hv.later hn,ku (h ν)⟩⟩
theorem zdA {H:SH} {b:Nat} {cs ds:List SV} (hb:zn H b=some (.vars cs)) (c:Nat):reg (zn (wF H b (.vars ds)) c)=reg (zn H c):=by
 rw [qM]
 by_cases h:c=b
 ·subst h;simp [hb,reg]
 ·rw [if_neg h]
theorem yY {H H':SH} (h:∀c,reg (zn H' c)=reg (zn H c)) (ν:Nat→Bool):rho ν H'=rho ν H:=by
 funext c;unfold rho;rw [h c]
theorem QD {H H':SH} (h:∀c,reg (zn H' c)=reg (zn H c)) (h2:∀c,jc (zn H' c)=true→jc (zn H c)=true) {ν:Nat→Bool} {nx:Nat} (v:VN ν nx H):VN ν nx H':=⟨fun b n hr=>v.empty b n (by rw [←h b];exact hr),v.old,fun b hb=>v.nn b (h2 b hb)⟩
theorem zxF {H:SH} {b:Nat} {cs ds:List SV} (hb:zn H b=some (.vars cs)) (c:Nat) (h:jc (zn (wF H b (.vars ds)) c)=true):jc (zn H c)=true:=by
 rw [qM] at h
 by_cases hc:c=b
 ·subst hc;simp [hb,jc] at h
 ·rwa [if_neg hc] at h
theorem zae {H:SH} {b:Nat} {k k':SB} (hb:zn H b=some k) (hk:∀L,k≠.loop L):wk H (wF H b k'):=fun l L hl=>by
 refine ⟨L.st,L.pend,?_⟩
 rw [qM,if_neg]
 ·exact hl
 ·rintro rfl
  rw [hl] at hb;cases hb;exact hk L rfl
theorem zDK {ν:Nat→Bool} {H:SH} {b:Nat} {cs ds:List SV} (hb:zn H b=some (.vars cs)) {Hd:Hp} (hd:Hd=(zD ν H).set b (.cells (zt (rho ν H) ds) false)) (g:zF φ Hd K w):zF φ (zD ν (wF H b (.vars ds))) K w:=by
 refine g.sub fun c k hc=>?_
 rw [zP,qM,yY (zdA hb)] at hc
 rw [hd,Hp.get_set]
 by_cases h:c=b
 ·subst h
  simp [hb,zW] at hc
  rw [if_pos rfl,zP,hb]
  simp [zW,hc]
 ·rw [if_neg h] at hc ⊢
  rw [zP];exact hc
def VQ:SV→List SV
 |.agg cs=>cs
 |v=>[v]
def zg0:SV→Bool
 |.tup _=>false
 |_=>true
theorem zz9 (ν:Nat→Bool) (H:SH) (b:Nat):(rho ν H b).cells=#[rho ν H b]∧(rho ν H b).oneCell'=true∧zcR (rho ν H b)=true:=by
 unfold rho
 split
 ·exact ⟨rfl,rfl,rfl⟩
 ·exact ⟨rfl,rfl,rfl⟩
 ·exact ⟨rfl,rfl,rfl⟩
theorem Xn {ν:Nat→Bool} {H:SH} {v:SV} (h:zg0 v=true):(den (rho ν H) v).cells.toList=zt (rho ν H) (VQ v)∧zcR (den (rho ν H) v)=true:=by
 cases v<;>simp [den,VQ,zt,Value.cells,zcR,zg0,fzV,Fz.junk] at h ⊢
 obtain ⟨h1,_,h3⟩:=zz9 ν H ‹Nat›
 refine ⟨?_,h3⟩
 have:=congrArg Array.toList h1
 simpa [Value.cells] using this
def zxG:List SV→Bool
 |[]=>true
 |v::r=>(match v with | .agg _=>false | .tup _=>false | .junk=>false | _=>true)&&zxG r
theorem zxH {ν:Nat→Bool} {H:SH}:∀{cs:List SV},zxG cs=true→WD (zt (rho ν H) cs)=true
 |[],_=>rfl
 |v::r,h=>by
  simp only [zxG,Bool.and_eq_true] at h
  simp only [zt,WD,Bool.and_eq_true]
  refine ⟨?_,zxH h.2⟩
  cases v<;>simp [den,Value.oneCell',fzV] at h ⊢
  exact (zz9 ν H _).2.1
def zl0 (cs:List SV) (o:Nat) (vs:List SV):List SV:=cs.take o++vs++cs.drop (o+vs.length)
theorem zpA (ρ:Nat→Value) (cs:List SV) (o:Nat) (vs:List SV):zt ρ (zl0 cs o vs)=spl (zt ρ cs) o (zt ρ vs):=by
 simp [zl0,spl,qv]
def zpB {α:Type}:List α→Nat→Bool
 |[],n=>Nat.beq n 0
 |_::r,n=>match n with
  |0=>false
  |m+1=>zpB r m
theorem ze7 {α:Type}:∀{l:List α} {n:Nat},zpB l n=true→l.length=n
 |[],n,h=>(Nat.eq_of_beq_eq_true h).symm
 |_::r,0,h=>by cases h
 |_::r,m+1,h=>by simp [ze7 (l:=r) h]
def zxI (P:Program) (H:SH) (t:TypeId) (a x:SV):Option SH:=match a with
 |.ptr b o=>match zn H b,qZ P t with
  |some (.vars cs),some i=>match VQ x with
   |xs=>bif zg0 x&&(zpB xs i.size&&(zxG xs&&Nat.ble (o+i.size) cs.length)) then some (match xs with | []=>H | xs=>wF H b (.vars (zl0 cs o xs))) else none
  |_,_=>none
 |_=>none
theorem zCl {rd:Option Nat} {o:Oper} {tm:List SV} {H H':SH} {nx:Nat} {t:TypeId} {ao xo:Operand} {a x:SV} (ho:o.op=.store t ao xo) (ha:jz tm H ao=some a) (hx:jz tm H xo=some x) (h:zxI P H t a x=some H'):SOp P rd o tm H nx (.tup []) H' nx:=by
 unfold zxI at h
 split at h
 case h_2=>cases h
 rename_i b off
 split at h
 case h_2=>cases h
 rename_i cs i hb hi
 dsimp only at h
 obtain ⟨hc,h⟩:=zA h
 simp only [Bool.and_eq_true] at hc
 obtain ⟨h1,h2,h3,h4⟩:=hc
 have h2:=ze7 h2
 have h4:=Nat.le_of_ble_eq_true h4
 have hd:∀ν,(zD ν H).get b=some (.cells (zt (rho ν H) cs) false):=fun ν=>by rw [zP,hb];rfl
 have hcond:∀ν,(zcR (den (rho ν H) x)&&(den (rho ν H) x).cells.toList.length == i.size&&WD (den (rho ν H) x).cells.toList&&decide (off+(den (rho ν H) x).cells.toList.length≤(zt (rho ν H) cs).length))=true:=fun ν=>by
  obtain ⟨e1,e2⟩:=Xn (ν:=ν) (H:=H) h1
  rw [e1,e2,wb,wb,h2,zxH h3]
  simp [h4]
 cases hxs:VQ x with
 |nil=>
  rw [hxs] at h
  cases h
  refine uO (Nat.le_refl _) fun ν=>?_
  unfold jW
  have e0:=hcond ν
  have e1:=(Xn (ν:=ν) (H:=H) h1).1
  rw [hxs] at e1
  simp only [ho,zY ha ν,zY hx ν,Option.bind_some]
  simp only [den,zia,hd ν,hi]
  rw [if_pos e0]
  simp [e1,zt,undef]
 |cons y ys=>
  rw [hxs] at h
  cases h
  refine ⟨fun c z hz=>by rw [zdA hb];exact hz,zae hb (fun L=>by simp),Nat.le_refl _,fun ν hv=>⟨QD (zdA hb) (zxF hb) hv,?_⟩⟩
  have e0:=hcond ν
  have e1:=(Xn (ν:=ν) (H:=H) h1).1
  have hop:jW P (zt (rho ν H) tm) (zD ν H) nx o=some (undef,(zD ν H).set b (.cells (zt (rho ν H) (zl0 cs off (y::ys))) false),nx):=by
   unfold jW
   simp only [ho,zY ha ν,zY hx ν,Option.bind_some]
   simp only [den,zia,hd ν,hi]
   rw [if_pos e0]
   rw [e1,hxs,zpA]
   have:(zt (rho ν H) (y::ys)).isEmpty=false:=by simp [zt]
   simp [this]
  exact Wm (ku hop) (fun φ v' hv=>by simpa [den,zt,undef] using hv) (fun φ K w g=>zDK hb rfl g)
def Yk (H:SH) (nx:Nat) (k:SB):Option SH:=match zn H nx with
 |none=>some ((nx,k)::H)
 |some _=>none
theorem vP {H H':SH} {nx:Nat} {k:SB} (h:Yk H nx k=some H'):zn H nx=none∧H'=(nx,k)::H:=by
 unfold Yk at h
 split at h
 ·cases h;exact ⟨by assumption,rfl⟩
 ·cases h
theorem ka {H:SH} {nx:Nat} {k:SB} (h:zn H nx=none):jZ H ((nx,k)::H):=fun b x hx=>by
 rw [zH]
 by_cases hb:nx=b
 ·subst hb;rw [h] at hx;cases hx
 ·rw [if_neg hb];exact hx
theorem gp {H:SH} {nx:Nat} {k:SB} (h:zn H nx=none):wk H ((nx,k)::H):=fun l L hl=>by
 refine ⟨L.st,L.pend,?_⟩
 rw [zH]
 by_cases hb:nx=l
 ·subst hb;rw [h] at hl;cases hl
 ·rw [if_neg hb];exact hl
theorem Yl {H:SH} {nx:Nat} {k:SB} {ν:Nat→Bool} (h:VN ν nx H):VN ν (nx+1) ((nx,k)::H):=⟨fun b n hr=>Gt hr,fun b hb=>h.old b (by omega),fun b hb=>by
 rw [zH] at hb
 by_cases hbn:nx=b
 ·subst hbn;exact h.old nx (Nat.le_refl _)
 ·rw [if_neg hbn] at hb;exact h.nn b hb⟩
theorem zaf {ν:Nat→Bool} {H:SH} {nx:Nat} {k:SB} {x:Blk} (hn:zn H nx=none) (hx:zW (rho ν ((nx,k)::H)) (ν nx) k=some x) (g:zF φ ((nx,x)::zD ν H) K w):zF φ (zD ν ((nx,k)::H)) K w:=by
 have h1:RLe (rho ν H) (rho ν ((nx,k)::H)):=zfj ν (ka hn)
 have hget:∀b,(zD ν ((nx,k)::H)).get b=if b=nx then some x else (uh ν (rho ν ((nx,k)::H)) H).get b:=by
  intro b
  rw [zP,zH,xU]
  by_cases hb:nx=b
  ·subst hb;simp [hx]
  ·have:¬b=nx:=fun e=>hb e.symm
   simp [hb,this]
 have back:∀b k',(zD ν ((nx,k)::H)).get b=some k'→b≠nx→∃k0,(zD ν H).get b=some k0∧k'.rw=k0.rw∧∀φ w L,js φ w L k0→js φ w L k':=by
  intro b k' hb hne
  rw [hget,if_neg hne,xU,Option.bind_eq_some_iff] at hb
  obtain ⟨s,hs,hk⟩:=hb
  have:∃k0,zW (rho ν H) (ν b) s=some k0:=by
   cases s with
   |vars=>exact ⟨_,rfl⟩
   |ro=>exact ⟨_,rfl⟩
   |loop=>exact ⟨_,rfl⟩
   |_=>exact ⟨k',hk⟩
  obtain ⟨k0,h0⟩:=this
  obtain ⟨k1,e1,e2,e3⟩:=zxD (kx ν H) h1 h0
  rw [hk] at e1;cases e1
  exact ⟨k0,by rw [zP,hs];exact h0,e2,e3⟩
 have at_nx:∀k',(zD ν ((nx,k)::H)).get nx=some k'→k'=x:=fun k' hk=>by
  rw [hget,if_pos rfl] at hk;exact (Option.some.inj hk).symm
 have gnx:Hp.get ((nx,x)::zD ν H) nx=some x:=by simp [Hp.get_cons]
 have goth:∀b k0,b≠nx→(zD ν H).get b=some k0→Hp.get ((nx,x)::zD ν H) b=some k0:=fun b k0 hb h0=>by
  have:(nx == b)=false:=by simpa using fun e:nx=b=>hb e.symm
  simp [Hp.get_cons,this,h0]
 have all:∀b k',(zD ν ((nx,k)::H)).get b=some k'→∃k0,Hp.get ((nx,x)::zD ν H) b=some k0∧k'.rw=k0.rw∧∀φ w L,js φ w L k0→js φ w L k':=by
  intro b k' hb
  by_cases hbn:b=nx
  ·subst hbn
   have:=at_nx k' hb
   subst this
   exact ⟨k',gnx,rfl,fun _ _ _ h=>h⟩
  ·obtain ⟨k0,e1,e2,e3⟩:=back b k' hb hbn
   exact ⟨k0,goth b k0 hbn e1,e2,e3⟩
 refine ⟨fun b k' hb=>?_,fun b c k1 k2 L L' hb hc hne hkr hL hL'=>?_,fun b k1 L hb hkr hL=>?_,g.kin,g.fz,fun b k1 L c M hb hkr hL hM=>?_⟩
 ·obtain ⟨k0,e1,_,e3⟩:=all b k' hb
  obtain ⟨L,hL,hB⟩:=g.rel b k0 e1
  exact ⟨L,hL,e3 _ _ _ hB⟩
 ·obtain ⟨k0,e1,e2,_⟩:=all b k1 hb
  obtain ⟨k3,e4,_⟩:=all c k2 hc
  exact g.sep b c k0 k3 L L' e1 e4 hne (by rw [←e2];exact hkr) hL hL'
 ·obtain ⟨k0,e1,e2,_⟩:=all b k1 hb
  exact g.prot b k0 L e1 (by rw [←e2];exact hkr) hL
 ·obtain ⟨k0,e1,e2,_⟩:=all b k1 hb
  exact g.fsep b k0 L c M e1 (by rw [←e2];exact hkr) hL hM
theorem zzF {rd:Option Nat} {o:Oper} {tm:List SV} {H:SH} {nx:Nat} {cs:List SV} (hn:zn H nx=none)
  (h:∀ν,jW P (zt (rho ν H) tm) (zD ν H) nx o=some (.pointer (some ⟨nx,0,none⟩),(nx,.cells (zt (rho ν H) cs) false)::zD ν H,nx+1)):SOp P rd o tm H nx (.ptr nx 0) ((nx,.vars cs)::H) (nx+1):=by
 refine ⟨ka hn,gp hn,Nat.le_succ _,fun ν hv=>⟨Yl hv,Wm (ku (h ν)) (fun φ v' hv=>by simpa [den] using hv) (fun φ K w g=>?_)⟩⟩
 have hr:rho ν ((nx,.vars cs)::H)=rho ν H:=yY (fun c=>by
  rw [zH]
  by_cases hc:nx=c
  ·subst hc;simp [hn,reg]
  ·rw [if_neg hc]) ν
 refine zaf hn (x:=.cells (zt (rho ν H) cs) false) ?_ g
 simp [zW,hr]
theorem zrk {rd:Option Nat} {o:Oper} {tm:List SV} {H:SH} {nx:Nat} {ty:Ty} {l:List (T ty)} (hn:zn H nx=none)
  (h:∀ν,jW P (zt (rho ν H) tm) (zD ν H) nx o=some (.pointer (some ⟨nx,0,none⟩),(nx,.cells (zX ty l) false)::zD ν H,nx+1)):SOp P rd o tm H nx (.ptr nx 0) ((nx,.arr true ty l)::H) (nx+1):=by
 refine ⟨ka hn,gp hn,Nat.le_succ _,fun ν hv=>⟨Yl hv,Wm (ku (h ν)) (fun φ v' hv=>by simpa [den] using hv) (fun φ K w g=>?_)⟩⟩
 refine zaf hn (x:=.cells (zX ty l) false) ?_ g
 simp [zW,jI]
def zCm (P:Program) (t:TypeId):Bool:=match qX P t with
 |some (.array n e)=>Nat.ble 8 n&&(match qX P e with
  |some .bool=>true
  |some (.int _)=>true
  |_=>false)
 |_=>false
def zl1:List SV→Bool
 |[]=>true
 |.bool false::r=>zl1 r
 |_=>false
def zw3 (k:IntKind):List SV→Bool
 |[]=>true
 |.int k' 0::r=>WE k k'&&zw3 k r
 |_=>false
def zEW:List SV→IntKind
 |.int k _::_=>k
 |_=>.i64
theorem zrl {ρ:Nat→Value}:∀{cs:List SV},zl1 cs=true→zt ρ cs=zX .bool (List.replicate cs.length false)
 |[],_=>by simp [zt,zX]
 |v::r,h=>by
  unfold zl1 at h
  split at h
  ·rename_i heq;cases heq
  ·rename_i r' heq
   cases heq
   simp only [zt,den,List.length_cons,List.replicate_succ]
   rw [zrl h];rfl
  ·cases h
theorem zvc {ρ:Nat→Value} {k:IntKind}:∀{cs:List SV},zw3 k cs=true→zt ρ cs=zX (.int k) (List.replicate cs.length (0:Int))
 |[],_=>by simp [zt,zX]
 |v::r,h=>by
  unfold zw3 at h
  split at h
  ·rename_i heq;cases heq
  ·rename_i k' r' heq
   cases heq
   simp only [Bool.and_eq_true] at h
   have:=Jx h.1
   subst this
   simp only [zt,den,List.length_cons,List.replicate_succ]
   rw [zvc h.2];rfl
  ·cases h
def zxJ (P:Program) (H:SH) (nx:Nat) (t:TypeId):Option SH:=match qZ P t with
 |some i=>match i.zero with
  |some z=>match ofC z with
   |some (.agg cs)=>match qX P t with
    |some (.array n _)=>bif zg0 (.agg cs)&&zpB cs n then (bif zl1 cs then Yk H nx (.arr true .bool (List.replicate n false)) else bif zw3 (zEW cs) cs then Yk H nx (.arr true (.int (zEW cs)) (List.replicate n (0:Int))) else none) else none
    |_=>none
   |_=>none
  |none=>none
 |none=>none
theorem zCn {rd:Option Nat} {o:Oper} {tm:List SV} {H H':SH} {nx:Nat} {t:TypeId} (ho:o.op=.alloc t) (h:zxJ P H nx t=some H'):SOp P rd o tm H nx (.ptr nx 0) H' (nx+1):=by
 unfold zxJ at h
 split at h
 case h_2=>cases h
 rename_i i hi
 split at h
 case h_2=>cases h
 rename_i z hz
 split at h
 case h_2=>cases h
 rename_i cs hc
 split at h
 case h_2=>cases h
 rename_i n _ hu
 obtain ⟨hf0,h⟩:=zA h
 simp only [Bool.and_eq_true] at hf0
 obtain ⟨hf,hln⟩:=hf0
 have:=ze7 hln
 subst this
 have key:∀ν,jW P (zt (rho ν H) tm) (zD ν H) nx o=some (.pointer (some ⟨nx,0,none⟩),(nx,.cells (zt (rho ν H) cs) false)::zD ν H,nx+1):=fun ν=>by
  obtain ⟨e1,e2⟩:=zab (ρ:=rho ν H) hc
  obtain ⟨e3,e4⟩:=Xn (ν:=ν) (H:=H) hf
  rw [e1] at e3 e4
  unfold jW
  simp only [ho,hi,hz,e2,if_true,zay,e4]
  rw [e3]
  rfl
 cases hq:zl1 cs with
 |true=>
  rw [hq] at h
  obtain ⟨e1,rfl⟩:=vP h
  exact zrk e1 fun ν=>by rw [key ν,zrl hq]
 |false=>
  rw [hq] at h
  simp only [cond_false] at h
  obtain ⟨hz2,h⟩:=zA h
  obtain ⟨e1,rfl⟩:=vP h
  exact zrk e1 fun ν=>by rw [key ν,zvc hz2]
end Go.Fz.Sy
namespace Go.Fz.Sy
variable {P:Program}
theorem zl2:∀(xs:List Value) (k off:Nat) (cs:Array Value),off+k+xs.length≤cs.size→
  ((xs.zipIdx k).foldl (fun (cs:Array Value) (p:Value×Nat)=>cs.setIfInBounds (off+p.2) p.1) cs).toList=spl cs.toList (off+k) xs
 |[],k,off,cs,h=>by simp [spl]
 |x::xs,k,off,cs,h=>by
  simp only [List.length_cons] at h
  simp only [List.zipIdx_cons,List.foldl_cons]
  rw [zl2 xs (k+1) off _ (by simp;omega)]
  apply List.ext_getElem?
  intro j
  rw [ze5 _ _ _ (by simp;omega),ze5 _ _ _ (by simp;omega)]
  simp only [Array.toList_setIfInBounds,List.getElem?_set,List.length_cons,Array.length_toList]
  by_cases h1:j < off+k
  ·have h2:j < off+(k+1):=by omega
   have h3:¬off+k=j:=by omega
   simp only [h1,h2,h3,if_true,if_false]
  ·by_cases h4:j=off+k
   ·subst h4
    have h2:off+k < off+(k+1):=by omega
    have h5:off+k < off+k+(xs.length+1):=by omega
    have h6:off+k < cs.size:=by omega
    simp only [h1,h2,h5,h6,if_true,if_false,Nat.sub_self,List.getElem?_cons_zero]
   ·have h2:¬j < off+(k+1):=by omega
    simp only [h1,h2,if_false]
    by_cases h7:j < off+(k+1)+xs.length
    ·have h8:j < off+k+(xs.length+1):=by omega
     simp only [h7,h8,if_true]
     have:j - (off+k)=(j - (off+(k+1)))+1:=by omega
     rw [this,List.getElem?_cons_succ]
    ·have h8:¬j < off+k+(xs.length+1):=by omega
     have h3:¬off+k=j:=by omega
     simp only [h7,h8,h3,if_false]
def zjt (place:Nat→Option (Nat×Nat)) (cs:List SV):List (Nat×SV)→Option (List SV)
 |[]=>some cs
 |(i,v)::r=>match place i with
  |some (off,size)=>match VQ v with
   |xs=>bif zg0 v&&(zpB xs size&&Nat.ble (off+size) cs.length) then zjt place (zl0 cs off xs) r else none
  |none=>none
theorem zg1 {ν:Nat→Bool} {H:SH} (place:Nat→Option (Nat×Nat)):∀{ps:List (Nat×SV)} {cs out:List SV},zjt place cs ps=some out→
  Instr.fill place (zt (rho ν H) cs).toArray (ps.map fun p=>(p.1,den (rho ν H) p.2))=some (zt (rho ν H) out).toArray∧zjb (ps.map fun p=>(p.1,den (rho ν H) p.2))=true
 |[],cs,out,h=>by simp only [zjt,Option.some.injEq] at h;subst h;exact ⟨rfl,rfl⟩
 |(i,v)::r,cs,out,h=>by
  simp only [zjt] at h
  split at h
  case h_2=>cases h
  rename_i off size hp
  obtain ⟨hc,h2⟩:=zA h
  simp only [Bool.and_eq_true] at hc
  obtain ⟨h3,h4,h5⟩:=hc
  have h4:=ze7 h4
  have h5:=Nat.le_of_ble_eq_true h5
  obtain ⟨e1,e2⟩:=Xn (ν:=ν) (H:=H) h3
  obtain ⟨f1,f2⟩:=zg1 (ν:=ν) (H:=H) place h2
  have hsz:(den (rho ν H) v).cells.size=size:=by
   have:=congrArg List.length e1
   rw [wb,h4] at this
   simpa using this
  refine ⟨?_,by simp only [List.map_cons,zjb,e2,f2,Bool.and_self]⟩
  simp only [List.map_cons,Instr.fill,hp]
  rw [if_neg]
  ·rw [←f1]
   congr 1
   apply Array.ext'
   rw [←Array.foldl_toList,Array.toList_zipIdx]
   have:=zl2 (den (rho ν H) v).cells.toList 0 off (zt (rho ν H) cs).toArray (by simp [hsz,wb];omega)
   rw [this,zpA,e1]
   rfl
  ·simp [hsz,wb];omega
def zxK (P:Program) (t:TypeId) (ps:List (Nat×SV)):Option SV:=match qZ P t with
 |some i=>match i.zero with
  |some z=>match ofC z with
   |some (.agg zs)=>match qX P t with
    |some (.struct fields)=>match zz4 P fields with
     |some places=>(zjt (fun i=>places[i]?) zs ps).map .agg
     |none=>none
    |some (.array _ e)=>match qZ P e with
     |some ie=>(zjt (fun i=>some (i*ie.size,ie.size)) zs ps).map .agg
     |none=>none
    |_=>none
   |_=>none
  |none=>none
 |none=>none
theorem zA4 {ν:Nat→Bool} {H:SH} {t:TypeId} {ps:List (Nat×SV)} {v:SV} (h:zxK P t ps=some v):zie P t (ps.map fun p=>(p.1,den (rho ν H) p.2))=some (den (rho ν H) v):=by
 unfold zxK at h
 split at h
 case h_2=>cases h
 rename_i i hi
 split at h
 case h_2=>cases h
 rename_i z hz
 split at h
 case h_2=>cases h
 rename_i zs hzs
 obtain ⟨e1,e2⟩:=zab (ρ:=rho ν H) hzs
 simp only [den] at e1
 have e3:z.cells=(zt (rho ν H) zs).toArray:=by rw [←e1];rfl
 have e4:avL (zt (rho ν H) zs)=true:=by
  rw [←e1] at e2
  simpa [av] using e2
 unfold zie
 split at h
 ·rename_i fields hu
  split at h
  case h_2=>cases h
  rename_i places hp
  simp only [Option.map_eq_some_iff] at h
  obtain ⟨out,ho,rfl⟩:=h
  obtain ⟨f1,f2⟩:=zg1 (ν:=ν) (H:=H) _ ho
  simp only [hi,hz,e3,e4,f2,Bool.and_self,if_true,hu,hp]
  rw [f1]
  simp [den]
 ·rename_i n e hu
  split at h
  case h_2=>cases h
  rename_i ie hie
  simp only [Option.map_eq_some_iff] at h
  obtain ⟨out,ho,rfl⟩:=h
  obtain ⟨f1,f2⟩:=zg1 (ν:=ν) (H:=H) _ ho
  simp only [hi,hz,e3,e4,f2,Bool.and_self,if_true,hu,hie]
  rw [f1]
  simp [den]
 ·cases h
def zDL (P:Program) (H:SH) (t:TypeId) (v:SV):Option SV:=match qX P t with
 |some (.slice _)=>match v with
  |.lst ty l _=>some (.int .i64 l.length)
  |.nils=>some (.int .i64 0)
  |.slv _ n=>some (.int .i64 n)
  |_=>none
 |some .string=>match v with
  |.str s=>some (.int .i64 s.size)
  |_=>none
 |_=>none
theorem zDM {ν:Nat→Bool} {H:SH} {t:TypeId} {x v:SV} (h:zDL P H t x=some v):zax P t (den (rho ν H) x)=some (den (rho ν H) v):=by
 unfold zDL at h
 split at h
 ·rename_i e hu
  split at h
  ·rename_i ty l full
   cases h
   cases full<;>simp [den,zax,fzV,gz,hu,goInt]
  ·cases h
   simp [den,zax,hu,goInt]
  ·cases h
   simp [den,zax,hu,goInt]
  ·cases h
 ·rename_i hu
  split at h
  ·rename_i s
   cases h
   rw [jk] at hu
   have:qb P (Builtin.len_ #[t] 0 #[.string s])=some (goInt s.size):=by
    unfold Builtin.len_
    show qb P ((underlying t).bind _)=_
    rw [ja,uN hu,Option.bind_some]
    rfl
   simp [den,zax,gz,av,av1,sc,this,goInt]
  ·cases h
 ·cases h
def jl (x y:Int):Int:=bif zj y x then y else x
def ud (x y:Int):Int:=bif zj x y then y else x
def QE (k:IntKind) (x:Int):List SV→Option Int
 |[]=>some x
 |.int k' y::r=>bif WE k k' then QE k (jl x y) r else none
 |_=>none
def QF (k:IntKind) (x:Int):List SV→Option Int
 |[]=>some x
 |.int k' y::r=>bif WE k k' then QF k (ud x y) r else none
 |_=>none
theorem zDN (k k':IntKind) (x y:Int):Builtin.min2 (.int k x) (.int k' y)=pure (.int k (jl x y)):=by
 simp only [Builtin.min2,jl,xb]
 by_cases h:y < x<;>simp [h]
theorem zDO (k k':IntKind) (x y:Int):Builtin.max2 (.int k x) (.int k' y)=pure (.int k (ud x y)):=by
 simp only [Builtin.max2,ud,xb]
 by_cases h:x < y<;>simp [h]
theorem zxL {ρ:Nat→Value} {k:IntKind}:∀{r:List SV} {x z:Int},QE k x r=some z→qb P ((zt ρ r).foldlM Builtin.min2 (.int k x))=some (.int k z)∧avL (zt ρ r)=true
 |[],x,z,h=>by simp only [QE,Option.some.injEq] at h;subst h;exact ⟨rfl,rfl⟩
 |.int k' y::r,x,z,h=>by
  simp only [QE] at h
  obtain ⟨h1,h2⟩:=zA h
  obtain ⟨e1,e2⟩:=zxL (ρ:=ρ) h2
  refine ⟨?_,by simp [zt,den,avL,av1,e2]⟩
  simp only [zt,den,List.foldlM_cons,zDN]
  exact e1
 |.bool _::_,_,_,h=>by simp [QE] at h
 |.str _::_,_,_,h=>by simp [QE] at h
 |.agg _::_,_,_,h=>by simp [QE] at h
 |.tup _::_,_,_,h=>by simp [QE] at h
 |.ptr _ _::_,_,_,h=>by simp [QE] at h
 |.nilp::_,_,_,h=>by simp [QE] at h
 |.lst _ _ _::_,_,_,h=>by simp [QE] at h
 |.own _::_,_,_,h=>by simp [QE] at h
 |.nils::_,_,_,h=>by simp [QE] at h
 |.elp _ _ _ _::_,_,_,h=>by simp [QE] at h
 |.fel _ _ _::_,_,_,h=>by simp [QE] at h
 |.fn _ _ _::_,_,_,h=>by simp [QE] at h
 |.yld _::_,_,_,h=>by simp [QE] at h
 |.nilf::_,_,_,h=>by simp [QE] at h
 |.nilm::_,_,_,h=>by simp [QE] at h
 |.mp _::_,_,_,h=>by simp [QE] at h
 |.slv _ _::_,_,_,h=>by simp [QE] at h
 |.junk::_,_,_,h=>by simp [QE] at h
theorem zxM {ρ:Nat→Value} {k:IntKind}:∀{r:List SV} {x z:Int},QF k x r=some z→qb P ((zt ρ r).foldlM Builtin.max2 (.int k x))=some (.int k z)∧avL (zt ρ r)=true
 |[],x,z,h=>by simp only [QF,Option.some.injEq] at h;subst h;exact ⟨rfl,rfl⟩
 |.int k' y::r,x,z,h=>by
  simp only [QF] at h
  obtain ⟨h1,h2⟩:=zA h
  obtain ⟨e1,e2⟩:=zxM (ρ:=ρ) h2
  refine ⟨?_,by simp [zt,den,avL,av1,e2]⟩
  simp only [zt,den,List.foldlM_cons,zDO]
  exact e1
 |.bool _::_,_,_,h=>by simp [QF] at h
 |.str _::_,_,_,h=>by simp [QF] at h
 |.agg _::_,_,_,h=>by simp [QF] at h
 |.tup _::_,_,_,h=>by simp [QF] at h
 |.ptr _ _::_,_,_,h=>by simp [QF] at h
 |.nilp::_,_,_,h=>by simp [QF] at h
 |.lst _ _ _::_,_,_,h=>by simp [QF] at h
 |.own _::_,_,_,h=>by simp [QF] at h
 |.nils::_,_,_,h=>by simp [QF] at h
 |.elp _ _ _ _::_,_,_,h=>by simp [QF] at h
 |.fel _ _ _::_,_,_,h=>by simp [QF] at h
 |.fn _ _ _::_,_,_,h=>by simp [QF] at h
 |.yld _::_,_,_,h=>by simp [QF] at h
 |.nilf::_,_,_,h=>by simp [QF] at h
 |.nilm::_,_,_,h=>by simp [QF] at h
 |.mp _::_,_,_,h=>by simp [QF] at h
 |.slv _ _::_,_,_,h=>by simp [QF] at h
 |.junk::_,_,_,h=>by simp [QF] at h
def zxN (P:Program) (H:SH) (b:Builtin) (ts:List TypeId) (vs:List SV):Option SV:=match b,ts,vs with
 |.len,[t],[x]=>zDL P H t x
 |.min,_,.int k x::r=>(QE k x r).map (.int k)
 |.max,_,.int k x::r=>(QF k x r).map (.int k)
 |_,_,_=>none
theorem zEX {s:Sem Value} {v:Value} (h:qb P s=some v) (hv:av v=true):sc P s=some v:=by unfold sc;rw [h];simp [hv]
def zGb (n:Nat):SV→Option SV
 |.tup vs=>gl vs n
 |_=>none
def zA5 (P:Program) (tm:List SV) (H:SH) (nx:Nat) (o:Oper):Option (SV×SH×Nat):=
 let un (v:Option SV):Option (SV×SH×Nat):=match v with
  |some v=>some (v,H,nx)
  |none=>none
 let new (v:SV):Option (SV×SH×Nat):=bif zg0 v then match Yk H nx (.vars (VQ v)) with
  |some H'=>some (.ptr nx 0,H',nx+1)
  |none=>none
  else none
 match o.op with
 |.move x=>un (jz tm H x)
 |.assign x=>un (jz tm H x)
 |.alloc t=>bif zCm P t then (match zxJ P H nx t with
   |some H'=>some (.ptr nx 0,H',nx+1)
   |none=>none)
  else match qZ P t with
  |some i=>match i.zero with
   |some z=>match ofC z with
    |some v=>new v
    |none=>none
   |none=>none
  |none=>none
 |.box t x=>match jz tm H x with
  |some v=>new v
  |none=>none
 |.build t ps=>match zde tm H ps.toList with
  |some vs=>un (zxK P t vs)
  |none=>none
 |.load t a=>match jz tm H a with
  |some v=>un (zw2 P H t v)
  |none=>none
 |.store t a x=>match jz tm H a,jz tm H x with
  |some va,some vx=>match zxI P H t va vx with
   |some H'=>some (.tup [],H',nx)
   |none=>none
  |_,_=>none
 |.nilCheck x=>match jz tm H x with
  |some (.ptr b o)=>some (.ptr b o,H,nx)
  |some (.fn f a b)=>some (.fn f a b,H,nx)
  |some (.yld l)=>some (.yld l,H,nx)
  |_=>none
 |.binOp op t x y _=>match jz tm H x,jz tm H y with
  |some a,some b=>un (zDI P op t x y a b)
  |_,_=>none
 |.unOp op _ x=>match jz tm H x with
  |some a=>un (unS P op a)
  |none=>none
 |.convert s d x=>match jz tm H x with
  |some a=>un (zA3 P s d a)
  |none=>none
 |.makeFunc (.func f) fs cs=>match zeT tm H fs.toList,zeT tm H cs.toList with
  |some a,some b=>some (.fn f a b,H,nx)
  |_,_=>none
 |.fieldAddr s x f=>match jz tm H x with
  |some v=>un (zjq P s f v)
  |none=>none
 |.field t x f=>match jz tm H x with
  |some v=>un (zxB P t f v)
  |none=>none
 |.extract x n=>match jz tm H x with
  |some v=>un (zGb n v)
  |none=>none
 |.call {callee:=.builtin b,args,argTypes}=>match zeT tm H args.toList with
  |some vs=>match zxN P H b argTypes.toList vs with
   |some v=>some (v,H,nx+1)
   |none=>none
  |none=>none
 |_=>none
theorem zCo {rd:Option Nat} {o:Oper} {tm:List SV} {H H':SH} {nx nx':Nat} {x v:SV} (h:(bif zg0 x then match Yk H nx (.vars (VQ x)) with
  |some H'=>some (SV.ptr nx 0,H',nx+1)
  |none=>none
  else none)=some (v,H',nx')) (hop:∀ν,jW P (zt (rho ν H) tm) (zD ν H) nx o=zay (zD ν H) nx (den (rho ν H) x)):SOp P rd o tm H nx v H' nx':=by
 obtain ⟨h1,h2⟩:=zA h
 split at h2
 case h_2=>cases h2
 rename_i H2 hn
 cases h2
 obtain ⟨e1,rfl⟩:=vP hn
 refine zzF e1 fun ν=>?_
 obtain ⟨e2,e3⟩:=Xn (ν:=ν) (H:=H) h1
 rw [hop ν]
 unfold zay
 simp [e3,e2]
theorem zcS {rd:Option Nat} {o:Oper} {tm:List SV} {H H':SH} {nx nx':Nat} {x:Option SV} {v:SV} (h:(match x with
  |some v=>some (v,H,nx)
  |none=>none)=some (v,H',nx')) (hop:∀y,x=some y→∀ν,jW P (zt (rho ν H) tm) (zD ν H) nx o=some (den (rho ν H) y,zD ν H,nx)):SOp P rd o tm H nx v H' nx':=by
 split at h
 ·rename_i y
  cases h
  exact uO (Nat.le_refl _) fun ν=>hop _ rfl ν
 ·cases h
theorem Xo {r:Option Nat} {o:Oper} {tm:List Value} {H H':Hp} {nx nx':Nat} {v:Value} (hle:nx≤nx') (hnd:∀c,o.op≠.defer c)
  (h:∀(φ:Ren) (w:World) (K:Nat→Prop) (a:Act),zF φ H K w→yW φ nx nx'→qK φ tm a.tmps→znM P φ K w nx (execOp a.eval o) v H' nx'):KV P r o tm H nx v H' nx':=by
 refine ⟨hle,fun φ w K a rc next Q g hf ht hr hk=>⟨zcb,?_⟩⟩
 obtain ⟨nxt,w',φ',v',h1,h2,h3,h4,h5,h6,h7⟩:=h φ w K a g hf ht
 rw [Oper.semAt_eq _ _ _ hnd,h1]
 rcases h2 with rfl | ⟨rfl,rfl⟩
 ·exact hk v' φ' w' h3 h4 h5 h6
 ·exact hk undef φ' w' h3 h4 h5 h6
theorem zFo {rd:Option Nat} {o:Oper} {tm:List SV} {H H':SH} {nx nx':Nat} {v:SV} (h:zA5 P tm H nx o=some (v,H',nx')):SOp P rd o tm H nx v H' nx':=by
 unfold zA5 at h
 dsimp only at h
 split at h
 ·rename_i x ho
  refine zcS h fun y hy ν=>?_
  unfold jW;simp only [ho,zY hy ν];rfl
 ·rename_i x ho
  refine zcS h fun y hy ν=>?_
  unfold jW;simp only [ho,zY hy ν];rfl
 ·rename_i t ho
  cases hq:zCm P t with
  |true=>
   rw [hq] at h
   simp only [cond_true] at h
   split at h
   ·rename_i H2 ha
    cases h
    exact zCn ho ha
   ·cases h
  |false=>
  rw [hq] at h
  simp only [cond_false] at h
  split at h
  case h_2=>cases h
  rename_i i hi
  split at h
  case h_2=>cases h
  rename_i z hz
  split at h
  case h_2=>cases h
  rename_i x hx
  refine zCo h fun ν=>?_
  obtain ⟨e1,e2⟩:=zab (ρ:=rho ν H) hx
  unfold jW;simp only [ho,hi,hz,e2,if_true,e1]
 ·rename_i t xo ho
  split at h
  case h_2=>cases h
  rename_i x hx
  refine zCo h fun ν=>?_
  unfold jW;simp only [ho,zY hx ν,Option.bind_some]
 ·rename_i t ps ho
  split at h
  case h_2=>cases h
  rename_i vs hvs
  refine zcS h fun y hy ν=>?_
  unfold jW;simp only [ho,zeU ν hvs,Option.bind_some,zA4 (ν:=ν) (H:=H) hy];rfl
 ·rename_i t a ho
  split at h
  case h_2=>cases h
  rename_i x hx
  refine zcS h fun y hy ν=>?_
  unfold jW;simp only [ho,zY hx ν,Option.bind_some];exact congrArg (un1 (zD ν H) nx) (zvb (ν:=ν) hy)
 ·rename_i t a x ho
  split at h
  case h_2=>cases h
  rename_i va vx ha hx
  split at h
  case h_2=>cases h
  rename_i H2 hs
  cases h
  exact zCl ho ha hx hs
 ·rename_i x ho
  split at h
  ·rename_i b off hx
   cases h
   refine uO (Nat.le_refl _) fun ν=>?_
   unfold jW;simp only [ho,zY hx ν,den]
  ·rename_i f a b hx
   cases h
   refine uO (Nat.le_refl _) fun ν=>?_
   unfold jW;simp only [ho,zY hx ν,den]
  ·rename_i l hx
   cases h
   refine uO (Nat.le_refl _) fun ν=>?_
   unfold jW;simp only [ho,zY hx ν,den]
  ·cases h
 ·rename_i op t x y u ho
  split at h
  case h_2=>cases h
  rename_i a b ha hb
  refine zcS h fun z hz ν=>?_
  unfold jW;simp only [ho,zY ha ν,zY hb ν,Option.bind_some,zDJ (ρ:=rho ν H) hz];rfl
 ·rename_i op t x ho
  split at h
  case h_2=>cases h
  rename_i a ha
  refine zcS h fun z hz ν=>?_
  unfold jW;simp only [ho,zY ha ν,Option.bind_some,zFn (ρ:=rho ν H) hz];rfl
 ·rename_i s d x ho
  split at h
  case h_2=>cases h
  rename_i a ha
  refine zcS h fun z hz ν=>?_
  unfold jW;simp only [ho,zY ha ν,Option.bind_some,zCk (ρ:=rho ν H) hz];rfl
 ·rename_i f fs cs ho
  split at h
  case h_2=>cases h
  rename_i a b ha hb
  cases h
  refine uO (Nat.le_refl _) fun ν=>?_
  unfold jW;simp only [ho,zac ν ha,zac ν hb,Option.bind_some,den]
 ·rename_i s x f ho
  split at h
  case h_2=>cases h
  rename_i a ha
  refine zcS h fun z hz ν=>?_
  unfold jW;simp only [ho,zY ha ν,Option.bind_some];exact congrArg (un1 (zD ν H) nx) (ztB (ρ:=rho ν H) hz)
 ·rename_i t x f ho
  split at h
  case h_2=>cases h
  rename_i a ha
  refine zcS h fun z hz ν=>?_
  unfold jW;simp only [ho,zY ha ν,Option.bind_some,zA0 (ρ:=rho ν H) hz];rfl
 ·rename_i x n ho
  split at h
  case h_2=>cases h
  rename_i a ha
  refine zcS h fun z hz ν=>?_
  have:zc8 n (den (rho ν H) a)=some (den (rho ν H) z):=by
   unfold zGb at hz
   split at hz
   ·rename_i vs
    rw [xc] at hz
    simp [den,zc8,wA,hz]
   ·cases hz
  unfold jW;simp only [ho,zY ha ν,Option.bind_some,this];rfl
 ·rename_i b args ats ho
  split at h
  case h_2=>cases h
  rename_i vs hvs
  split at h
  case h_2=>cases h
  rename_i y hb
  cases h
  have plainc:(∀ν,Qm P (zD ν H) nx b ats.toList o.type (zt (rho ν H) vs)=some (den (rho ν H) v,zD ν H,nx+1))→SOp P rd o tm H nx v H (nx+1):=fun hd=>
   uO (Nat.le_succ _) fun ν=>by
    unfold jW;simp only [ho,zac ν hvs,Option.bind_some,hd ν]
  unfold zxN at hb
  split at hb
  ·rename_i t x hats
   refine plainc fun ν=>?_
   simp only [hats,Qm,zt,zDM (ν:=ν) hb];rfl
  ·rename_i k x r
   simp only [Option.map_eq_some_iff] at hb
   obtain ⟨z,hz,rfl⟩:=hb
   refine plainc fun ν=>?_
   obtain ⟨e1,e2⟩:=zxL (P:=P) (ρ:=rho ν H) hz
   have h3:qb P (Builtin.min_ ats.toList.toArray o.type (zt (rho ν H) (.int k x::r)).toArray)=some (.int k z):=by
    simp only [Builtin.min_,zt,den]
    exact e1
   have h4:avL (zt (rho ν H) (.int k x::r))=true:=by simp [zt,den,avL,av1,e2]
   simp only [Qm,h4,if_true,zEX h3 rfl,den];rfl
  ·rename_i k x r
   simp only [Option.map_eq_some_iff] at hb
   obtain ⟨z,hz,rfl⟩:=hb
   refine plainc fun ν=>?_
   obtain ⟨e1,e2⟩:=zxM (P:=P) (ρ:=rho ν H) hz
   have h3:qb P (Builtin.max_ ats.toList.toArray o.type (zt (rho ν H) (.int k x::r)).toArray)=some (.int k z):=by
    simp only [Builtin.max_,zt,den]
    exact e1
   have h4:avL (zt (rho ν H) (.int k x::r))=true:=by simp [zt,den,avL,av1,e2]
   simp only [Qm,h4,if_true,zEX h3 rfl,den];rfl
  ·cases hb
 ·cases h
end Go.Fz.Sy
namespace Go.Fz.Sy
variable {P:Program} {φ:Ren} {H:Hp} {K:Nat→Prop} {w:World}
theorem zCp (g:zF φ H K w) {nx b:Nat} (hfr:φ nx=none) (hzn:nx < FZ) {cs:List Value} (hb:H.get b=some (.cells cs false)) :
  ∃φ',Ext K φ φ' nx (nx+1)∧zF φ' ((nx,.cells cs false)::H.del b) K w∧(∀L,φ b=some L→φ' nx=some L):=by
 obtain ⟨L,hL,hB⟩:=g.rel b _ hb
 have hle:=Ren.put_le hfr L
 have getd:∀d,Hp.get ((nx,Blk.cells cs false)::H.del b) d=if d=nx then some (.cells cs false) else if d=b then none else H.get d:=by
  intro d
  by_cases h:d=nx
  ·subst h;simp [Hp.get_cons]
  ·have:¬nx=d:=fun e=>h e.symm
   simp [Hp.get_cons,h,this,Hp.get_del]
 refine ⟨φ.put nx L,Ext.put hfr hzn _,⟨fun d k hd=>?_,fun d d' k k' M M' hd hd' hne hk hM hM'=>?_,fun d k M hd hk hM=>?_,g.kin,fun d M hM=>?_,fun d k M e N hd hk hM hN=>?_⟩,fun L2 h2=>?_⟩
 ·rw [getd] at hd
  by_cases hdn:d=nx
  ·subst hdn
   simp at hd
   subst hd
   exact ⟨L,Ren.put_same _ _ _,hB.mono hle⟩
  ·simp [hdn] at hd
   obtain ⟨M,hM,hr⟩:=g.rel d k hd.2
   exact ⟨M,by rw [Ren.put_other _ _ hdn];exact hM,hr.mono hle⟩
 ·rw [getd] at hd hd'
  by_cases hdn:d=nx
  ·subst hdn
   have hdn':¬d'=d:=fun e=>hne e.symm
   simp [hdn'] at hd'
   rw [Ren.put_same] at hM;cases hM
   rw [Ren.put_other _ _ hdn'] at hM'
   exact g.sep b d' _ k' L M' hb hd'.2 (fun e=>hd'.1 e.symm) rfl hL hM'
  ·simp [hdn] at hd
   rw [Ren.put_other _ _ hdn] at hM
   by_cases hdn':d'=nx
   ·subst hdn'
    rw [Ren.put_same] at hM';cases hM'
    exact g.sep d b k _ M L hd.2 hb hd.1 hk hM hL
   ·simp [hdn'] at hd'
    rw [Ren.put_other _ _ hdn'] at hM'
    exact g.sep d d' k k' M M' hd.2 hd'.2 hne hk hM hM'
 ·rw [getd] at hd
  by_cases hdn:d=nx
  ·subst hdn
   rw [Ren.put_same] at hM;cases hM
   exact g.prot b _ L hb rfl hL
  ·simp [hdn] at hd
   rw [Ren.put_other _ _ hdn] at hM
   exact g.prot d k M hd.2 hk hM
 ·rw [Ren.put_other _ _ (by omega)] at hM
  exact g.fz d M hM
 ·rw [Ren.put_other _ _ (by omega)] at hN
  rw [getd] at hd
  by_cases hdn:d=nx
  ·subst hdn
   rw [Ren.put_same] at hM;cases hM
   exact g.fsep b _ L e N hb rfl hL hN
  ·simp [hdn] at hd
   rw [Ren.put_other _ _ hdn] at hM
   exact g.fsep d k M e N hd.2 hk hM hN
 ·rw [hL] at h2;cases h2;exact Ren.put_same _ _ _
theorem zzG (g:zF φ H K w) {nx:Nat} (hfr:φ nx=none) (hzn:nx < FZ) {t e:TypeId} {ie:TypeInfo} {z:Value} {kl kc:IntKind} {zl zc:Int}
  (hu:P.underlying t=some (.slice e)) (hie:P.info? e=some ie) (hz:ie.zero=some z) (hw1:IntKind.i64.wrap zl=zl) (hw2:IntKind.i64.wrap zc=zc) (h0:0≤zl) (h1:zl≤zc) (h48:(ie.bytes:Int)*zc≤2 ^ 48)
  (hpos:0 < z.cells.size) (hzs:z.cells.size=ie.size) (hav:avL z.cells.toList=true) {cs:List Value} (hcs:cs=(List.replicate zl.toNat z.cells.toList).flatten) :
  ∃v' w' φ',(Instr.makeSlice t (.int kl zl) (.int kc zc)).run P w=.ok v' w'∧zr φ' (.slice (some ⟨nx,0,none⟩) zl.toNat (qe+ie.size)) v'∧Ext K φ φ' nx (nx+1)∧zF φ' ((nx,.cells cs false)::H) K w'∧qy K w w':=by
 have hall:∀n:Nat,((Array.range (n*ie.size)).map (z.cells[· % z.cells.size]!)).toList=(List.replicate n z.cells.toList).flatten:=by
  intro n
  rw [Array.toList_map,Array.toList_range]
  induction n with
  |zero=>simp
  |succ n ih=>
   have e1:(n+1)*ie.size=n*ie.size+ie.size:=by rw [Nat.add_mul,Nat.one_mul]
   rw [List.replicate_succ',List.flatten_append,←ih,e1,List.range_add,List.map_append]
   congr 1
   simp only [List.map_map,List.flatten_cons,List.flatten_nil,List.append_nil]
   apply List.ext_getElem
   ·simp [hzs]
   ·intro j h2 h3
    have hj:j < z.cells.size:=by simpa using h3
    simp only [List.getElem_map,List.getElem_range,Function.comp]
    have:(n*ie.size+j) % z.cells.size=j:=by
     rw [hzs,Nat.mul_comm,Nat.mul_add_mod]
     exact Nat.mod_eq_of_lt (by omega)
    rw [this]
    simp [hj]
 have hlen:∀n:Nat,((List.replicate n z.cells.toList).flatten).length=n*ie.size:=fun n=>by simp [hzs]
 have havn:∀n:Nat,avL (List.replicate n z.cells.toList).flatten=true:=by
  intro n
  have happ:∀(a b:List Value),avL a=true→avL b=true→avL (a++b)=true:=by
   intro a b h2 h3
   induction a with
   |nil=>exact h3
   |cons x a ih=>simp only [avL,List.cons_append,Bool.and_eq_true] at h2 ⊢;exact ⟨h2.1,ih h2.2⟩
  induction n with
  |zero=>rfl
  |succ n ih=>rw [List.replicate_succ,List.flatten_cons];exact happ _ _ hav ih
 have hsplit:(List.replicate zc.toNat z.cells.toList).flatten=cs++(List.replicate (zc.toNat - zl.toNat) z.cells.toList).flatten:=by
  rw [hcs,←List.flatten_append,List.replicate_append_replicate]
  congr 2;omega
 have hg:=g.make hfr hzn (zb6 (by rw [hcs];exact havn _):zy φ cs cs) e (zc.toNat*ie.size) ((List.replicate (zc.toNat - zl.toNat) z.cells.toList).flatten) (by
  have h2:=congrArg List.length hsplit
  rw [hlen,List.length_append] at h2
  omega)
 rw [←hsplit] at hg
 refine ⟨.slice (some ⟨w.heap.size,0,none⟩) zl.toNat zc.toNat,w.alloc (.cells ((Array.range (zc.toNat*ie.size)).map (z.cells[· % z.cells.size]!)) e),φ.put nx ⟨w.heap.size,0,zc.toNat*ie.size,#[]⟩,?_,?_,Ext.put hfr hzn _,?_,qy.alloc g _⟩
 ·have c1:(decide (zc < 0)||decide ((ie.bytes:Int)*zc > 2 ^ 48))=false:=by simp;omega
  have c2:¬(zl < 0):=by omega
  have c3:¬(zl > zc):=by omega
  by_cases hq:zc.toNat*ie.size=0
  ·simp only [Instr.makeSlice,Sem.run_bind,run_underlying hu,Result.andThen_ok,asInt,asIntOf,typeInfo,run_program,hie,Sem.run_pure,hw1,hw2]
   simp only [c1,c2,c3,decide_false,Bool.or_false,Bool.false_eq_true,if_false,Sem.run_pure,Result.andThen_ok,run_askRoom,qz hie,Sem.run_bind,hq,if_true,zlH,newRow,run_newObj]
   rfl
  ·simp only [Instr.makeSlice,Sem.run_bind,run_underlying hu,Result.andThen_ok,asInt,asIntOf,typeInfo,run_program,hie,Sem.run_pure,hw1,hw2]
   simp only [c1,c2,c3,decide_false,Bool.or_false,Bool.false_eq_true,if_false,Sem.run_pure,Result.andThen_ok,run_askRoom,qz hie,Sem.run_bind,hq,vp hie hz,newRow,run_newObj]
   rfl
 ·have:=zr.slO (φ:=φ.put nx ⟨w.heap.size,0,zc.toNat*ie.size,#[]⟩) nx 0 zl.toNat (qe+ie.size) zc.toNat _ (Ren.put_same _ _ _) (by omega) (by omega) (by simp)
  simpa using this
 ·have:((Array.range (zc.toNat*ie.size)).map (z.cells[· % z.cells.size]!))=((List.replicate zc.toNat z.cells.toList).flatten).toArray:=by
   apply Array.ext';rw [hall]
  rw [this];exact hg
theorem zCq (g:zF φ H K w) {t ts ty e:TypeId} {ie:TypeInfo} (hu:P.underlying t=some (.slice e)) (hie:P.info? e=some ie) {b n c:Nat} {cs:List Value} (hb:H.get b=some (.cells cs false)) {d' x' x:Value}
  (hd:zr φ (.slice (some ⟨b,0,none⟩) n c) d') {m:Nat} {news:List Value} (hsrc:kq H ie.size x=some (m,news)) (hx:zr φ x x') (hn:cs.length=n*ie.size) (hp:0 < ie.size) (h1:WD news=true) :
  ∃w',(Builtin.copy_ #[t,ts] ty #[d',x']).run P w=.ok (goInt (Nat.min m n)) w'∧zF φ (H.set b (.cells (spl cs 0 (news.take (Nat.min m n*ie.size))) false)) K w'∧qy K w w':=by
 obtain ⟨ax',cx',us,rfl,hul,hur,hu0,hax,hcell⟩:=Uk g hsrc hx
 have hd':∃a' c',d'=.slice a' n c'∧(n≠0→∃L,φ b=some L∧a'=some ⟨L.blk,L.off+0,none⟩):=by
  cases hd with
  |sl _ _ _ _ L h _=>exact ⟨_,_,rfl,fun _=>⟨L,h,rfl⟩⟩
  |slO _ _ _ _ c' L h _ _ _=>exact ⟨_,_,rfl,fun _=>⟨L,h,rfl⟩⟩
  |slE _ _ _ a' L h _=>exact ⟨_,_,rfl,fun h0=>absurd rfl h0⟩
 obtain ⟨a',c',rfl,hna⟩:=hd'
 by_cases h0:Nat.min m n=0
 ·have hset:H.set b (.cells (spl cs 0 (news.take (Nat.min m n*ie.size))) false)=H.set b (.cells cs false):=by rw [h0];simp [spl]
  refine ⟨w,?_,?_,qy.refl _ _⟩
  ·cases ax'<;>cases a'<;>simp [Builtin.copy_,run_underlying hu,Builtin.lenOf,h0,qz hie,Builtin.firstCells,loadCells,loadCellsFrom,storeCells]
  ·rw [hset]
   refine g.sub fun d k hd=>?_
   rw [Hp.get_set] at hd
   split at hd
   ·rename_i hdb
    subst hdb
    rw [hb] at hd ⊢
    simpa using hd
   ·exact hd
 ·have hn0:n≠0:=fun e=>h0 (by subst e;exact Nat.min_zero _)
  have hm0:m≠0:=fun e=>h0 (by subst e;exact Nat.zero_min _)
  obtain ⟨L,hL,rfl⟩:=hna hn0
  have hk:Nat.min m n*ie.size≤m*ie.size:=Nat.mul_le_mul_right _ (Nat.min_le_left _ _)
  have hk2:Nat.min m n*ie.size≤n*ie.size:=Nat.mul_le_mul_right _ (Nat.min_le_right _ _)
  have hlen:=hur.length
  have hl2:(news.take (Nat.min m n*ie.size)).length=Nat.min m n*ie.size:=by simp;omega
  have hpos:0 < Nat.min m n*ie.size:=Nat.mul_pos (Nat.pos_of_ne_zero h0) hp
  have hone:∀(l:List Value) (j:Nat),WD l=true→WD (l.take j)=true:=by
   intro l
   induction l with
   |nil=>intro j _;simp [WD]
   |cons x l ih=>
    intro j h
    cases j with
    |zero=>rfl
    |succ j=>
     simp only [WD,List.take_succ_cons,Bool.and_eq_true] at h ⊢
     exact ⟨h.1,ih j h.2⟩
  obtain ⟨w',hst,hg,hw⟩:=g.write P hb hL 0 (by rw [hl2,hn];omega) (hone _ _ h1) (hur.take (Nat.min m n*ie.size)) (by intro h;rw [h] at hl2;simp at hl2;omega)
  refine ⟨w',?_,hg,hw⟩
  cases ax' with
  |none=>exact absurd (hax rfl) hm0
  |some a=>
   have hf:=run_firstCells_some (P:=P) w ie.size (Nat.min m n) a m cx' (us.take (Nat.min m n*ie.size)) (by simp;omega) (fun j v hv=>by
    rw [List.getElem?_take] at hv
    split at hv
    ·exact hcell a rfl j v hv
    ·cases hv)
   simp [Builtin.copy_,run_underlying hu,Builtin.lenOf,qz hie,hf] at hst ⊢
   rw [hst]
   simp
end Go.Fz.Sy
namespace Go.Fz.Sy
variable {P:Program} {φ:Ren} {K:Nat→Prop} {w:World} {R:Type}
abbrev KO (R:Type):=SV→SH→Nat→Option R
def gM (P:Program) (rd:Option Nat) (o:Oper) (tm:List SV) (H:SH) (nx:Nat) (k:KO R) (r:R):Prop:=∃v H' nx',SOp P rd o tm H nx v H' nx'∧k v H' nx'=some r
theorem ue {rd:Option Nat} {o:Oper} {tm:List SV} {H H':SH} {nx nx':Nat} {k:KO R} {r:R} {v:SV} (h:SOp P rd o tm H nx v H' nx') (hk:k v H' nx'=some r):gM P rd o tm H nx k r:=⟨v,H',nx',h,hk⟩
theorem yZ {b:Bool} {x y:Option R} {r:R} (h:(bif b then x else y)=some r):(b=true∧x=some r)∨(b=false∧y=some r):=by
 cases b
 ·exact .inr ⟨rfl,h⟩
 ·exact .inl ⟨rfl,h⟩
def zA6 (tm:List SV) (H:SH) (nx:Nat) (c a b:Operand) (k:KO R):Option R:=match jz tm H c with
 |some (.bool c)=>match jz tm H a,jz tm H b with
  |some x,some y=>bif c then k x H nx else k y H nx
  |_,_=>none
 |_=>none
theorem zDP {rd:Option Nat} {o:Oper} {tm:List SV} {H:SH} {nx:Nat} {k:KO R} {r:R} {c a b:Operand} (ho:o.op=.pick c a b) (h:zA6 tm H nx c a b k=some r):gM P rd o tm H nx k r:=by
 unfold zA6 at h
 split at h
 case h_2=>cases h
 rename_i cb hc
 split at h
 case h_2=>cases h
 rename_i x y hx hy
 rcases yZ h with ⟨rfl,h⟩ | ⟨rfl,h⟩
 ·refine ue (uO (Nat.le_refl _) fun ν=>?_) h
  have h1:=zY hc ν
  simp only [den] at h1
  unfold jW;simp only [ho,h1,zY hx ν];rfl
 ·refine ue (uO (Nat.le_refl _) fun ν=>?_) h
  have h1:=zY hc ν
  simp only [den] at h1
  unfold jW;simp only [ho,h1,zY hy ν];rfl
def jX (k:IntKind) (a b:Int):Int:=a.fdiv (2 ^ (min b.toNat k.bits))
def yG (k:IntKind) (a b:Int):Int:=k.wrap (a*2 ^ (min b.toNat k.bits))
theorem zrm {t:TypeId} {op:BinOp} {k k':IntKind} {a b r:Int} (hf:KU op (.int k a) (.int k' b)=none) (xo yo:Operand) (h:qb P (do eqGuard op t xo yo (.int k a) (.int k' b);binOp op t (.int k a) (.int k' b))=some (.int k r)):xR P op t xo yo (.int k a) (.int k' b)=some (.int k r):=by
 unfold xR sc
 rw [hf,h]
 rfl
theorem zFp {t:TypeId} {k:IntKind} {a b:Int} (hb:b≠0) (xo yo:Operand):xR P .rem t xo yo (.int k a) (.int k b)=some (.int k (a.tmod b)):=by
 refine zrm (by unfold KU;simp [zgZ]) xo yo ?_
 show qb P (if k ≠ k then stuck _ else Op.intDiv .rem k a b) = _
 rw [if_neg (by simp)]
 unfold Op.intDiv
 rw [if_neg hb]
 rfl
theorem zFq {t:TypeId} {k:IntKind} {a b:Int} (hb:b≠0) (xo yo:Operand):xR P .quo t xo yo (.int k a) (.int k b)=some (.int k (k.wrap (a.tdiv b))):=by
 refine zrm (by unfold KU;simp [zgZ]) xo yo ?_
 show qb P (if k ≠ k then stuck _ else Op.intDiv .quo k a b) = _
 rw [if_neg (by simp)]
 unfold Op.intDiv
 rw [if_neg hb]
 rfl
theorem zrn {op:BinOp} (h:op=.shl∨op=.shr) (k k':IntKind) (a b:Int):KU op (.int k a) (.int k' b)=none:=by
 unfold KU
 cases hk:WE k k'<;>rcases h with rfl | rfl<;>simp
theorem zFr {t:TypeId} {k k':IntKind} {a b:Int} (hb:0≤b) (xo yo:Operand):xR P .shr t xo yo (.int k a) (.int k' b)=some (.int k (jX k a b)):=by
 refine zrm (zrn (.inr rfl) ..) xo yo ?_
 show qb P (Op.shift .shr k a k' b)=_
 unfold Op.shift
 rw [if_neg (by omega)]
 rfl
theorem zFs {t:TypeId} {k k':IntKind} {a b:Int} (hb:0≤b) (xo yo:Operand):xR P .shl t xo yo (.int k a) (.int k' b)=some (.int k (yG k a b)):=by
 refine zrm (zrn (.inl rfl) ..) xo yo ?_
 show qb P (Op.shift .shl k a k' b)=_
 unfold Op.shift
 rw [if_neg (by omega)]
 rfl
def zDQ (tm:List SV) (H:SH) (nx:Nat) (op:BinOp) (x y:Operand) (k:KO R):Option R:=match jz tm H x,jz tm H y with
 |some (.int i a),some (.int j b)=>match op with
  |.quo=>bif WE i j then (bif zm b 0 then none else k (.int i (wrF i (a.tdiv b))) H nx) else none
  |.rem=>bif WE i j then (bif zm b 0 then none else k (.int i (a.tmod b)) H nx) else none
  |.shr=>bif zj b 0 then none else k (.int i (jX i a b)) H nx
  |.shl=>bif zj b 0 then none else k (.int i (yG i a b)) H nx
  |_=>none
 |_,_=>none
theorem zFt {rd:Option Nat} {o:Oper} {tm:List SV} {H:SH} {nx:Nat} {k:KO R} {r:R} {op:BinOp} {t u:TypeId} {x y:Operand} (ho:o.op=.binOp op t x y u) (h:zDQ tm H nx op x y k=some r):gM P rd o tm H nx k r:=by
 unfold zDQ at h
 split at h
 case h_2=>cases h
 rename_i i a j b hx hy
 have key:∀z,(∀xo yo,xR P op t xo yo (.int i a) (.int j b)=some (.int i z))→k (.int i z) H nx=some r→gM P rd o tm H nx k r:=fun z hz hk=>by
  refine ue (uO (Nat.le_refl _) fun ν=>?_) hk
  have h1:=zY hx ν
  have h2:=zY hy ν
  simp only [den] at h1 h2
  unfold jW;simp only [ho,h1,h2,Option.bind_some,hz,den];rfl
 split at h
 ·obtain ⟨h1,h2⟩:=zA h
  have:=Jx h1
  subst this
  rcases yZ h2 with ⟨_,h3⟩ | ⟨h3,h4⟩
  ·cases h3
  ·rw [jw] at h3
   have hb:b≠0:=by simpa using h3
   rw [Uj] at h4
   exact key _ (fun xo yo=>zFq hb xo yo) h4
 ·obtain ⟨h1,h2⟩:=zA h
  have:=Jx h1
  subst this
  rcases yZ h2 with ⟨_,h3⟩ | ⟨h3,h4⟩
  ·cases h3
  ·rw [jw] at h3
   have hb:b≠0:=by simpa using h3
   exact key _ (fun xo yo=>zFp hb xo yo) h4
 ·rcases yZ h with ⟨_,h3⟩ | ⟨h3,h4⟩
  ·cases h3
  ·rw [xb] at h3
   have hb:0≤b:=by simpa using h3
   exact key _ (fun xo yo=>zFr hb xo yo) h4
 ·rcases yZ h with ⟨_,h3⟩ | ⟨h3,h4⟩
  ·cases h3
  ·rw [xb] at h3
   have hb:0≤b:=by simpa using h3
   exact key _ (fun xo yo=>zFs hb xo yo) h4
 ·cases h
def atI {α:Type} (l:List α) (z:Int):Option α:=match z with
 |.ofNat n=>gl l n
 |.negSucc _=>none
theorem zpC {α:Type} {l:List α} {z:Int} {x:α} (h:atI l z=some x):0≤z∧z < l.length∧l[z.toNat]?=some x:=by
 unfold atI at h
 split at h
 ·rename_i n
  rw [xc] at h
  have:=(List.getElem?_eq_some_iff.1 h).1
  exact ⟨Int.natCast_nonneg n,by show (n:Int) < _;omega,h⟩
 ·cases h
def opt {α:Type} (x:Option α) (f:α→Option R):Option R:=match x with
 |some a=>f a
 |none=>none
theorem QG {α:Type} {x:Option α} {f:α→Option R} {r:R} (h:opt x f=some r):∃a,x=some a∧f a=some r:=by
 cases x with
 |none=>cases h
 |some a=>exact ⟨a,rfl,h⟩
def znR:Nat→Nat→Int→(Nat→Option R)→Option R
 |0,_,_,_=>none
 |m+1,j,i,f=>bif zm i j then f j else znR m (j+1) i f
theorem zeV {f:Nat→Option R} {r:R} {i:Int}:∀{m j:Nat},znR m j i f=some r→∃n:Nat,i=n∧j≤n∧n < j+m∧f n=some r
 |0,_,h=>by cases h
 |m+1,j,h=>by
  simp only [znR] at h
  rcases yZ h with ⟨h1,h2⟩ | ⟨_,h2⟩
  ·rw [jw] at h1
   exact ⟨j,by simpa using h1,Nat.le_refl _,by omega,h2⟩
  ·obtain ⟨n,e1,e2,e3,e4⟩:=zeV h2
   exact ⟨n,e1,by omega,by omega,e4⟩
def VR (P:Program) (e:TypeId) (n:Nat):Bool:=match qZ P e with
 |some i=>Nat.beq i.size n
 |none=>false
theorem WH {e:TypeId} {n:Nat} (h:VR P e n=true):∃i,qZ P e=some i∧i.size=n:=by
 unfold VR at h
 split at h
 ·exact ⟨_,by assumption,Nat.eq_of_beq_eq_true h⟩
 ·cases h
def ztD (P:Program) (tm:List SV) (H:SH) (nx:Nat) (t:TypeId) (x i:Operand) (k:KO R):Option R:=match jz tm H x,jz tm H i with
 |some v,some (.int _ z)=>match qX P t with
  |some (.slice e)=>match v with
   |.lst ty l _=>bif VR P e (sz ty) then opt (atI l z) fun y=>k (.fel ty y 0) H nx else none
   |.own b=>match zn H b with
    |some (.arr _ ty l)=>bif VR P e (sz ty) then opt (atI l z) fun _=>k (.elp b (sz ty) z.toNat 0) H nx else none
    |some (.roa _ ty l)=>bif VR P e (sz ty) then opt (atI l z) fun _=>k (.elp b (sz ty) z.toNat 0) H nx else none
    |_=>none
   |.slv b n=>bif VR P e 1 then znR n 0 z fun j=>k (.ptr b j) H nx else none
   |_=>none
  |some (.array n e)=>match v with
   |.ptr b o=>match zn H b with
    |some (.arr _ ty l)=>bif Nat.beq o 0&&VR P e (sz ty) then (bif zj z n then opt (atI l z) fun _=>k (.elp b (sz ty) z.toNat 0) H nx else none) else none
    |_=>match qZ P e with
     |some ie=>znR n 0 z fun j=>k (.ptr b (o+j*ie.size)) H nx
     |none=>none
   |_=>none
  |_=>none
 |_,_=>none
theorem ziq {z:Int} {n:Nat} {k:IntKind} (h0:0≤z) (h1:z < n):idx (.int k z) n=some z.toNat:=by simp [idx,h0,h1]
theorem zA7 {rd:Option Nat} {o:Oper} {tm:List SV} {H:SH} {nx:Nat} {k:KO R} {r:R} {t:TypeId} {x i:Operand} (ho:o.op=.indexAddr t x i) (h:ztD P tm H nx t x i k=some r):gM P rd o tm H nx k r:=by
 unfold ztD at h
 split at h
 case h_2=>cases h
 rename_i v ik z hx hi
 have hi':=fun ν=>zY hi ν
 have hx':=fun ν=>zY hx ν
 simp only [den] at hi'
 have own:∀(b:Nat) (nn:Bool) (ty:Ty) (l:List (T ty)) (e:TypeId),v=.own b→reg (zn H b)=some (l.length,rsz nn ty l)→qX P t=some (.slice e)→(bif VR P e (sz ty) then opt (atI l z) fun _=>k (.elp b (sz ty) z.toNat 0) H nx else none)=some r→gM P rd o tm H nx k r:=by
  rintro b nn ty l e rfl hr hu h
  obtain ⟨h1,h⟩:=zA h
  obtain ⟨y,hy,h⟩:=QG h
  obtain ⟨e1,e2,e3⟩:=zpC hy
  obtain ⟨ie,hie,hsz⟩:=WH h1
  refine ue ⟨jZ.refl H,wk.refl H,Nat.le_refl _,fun ν hv=>⟨hv,ku ?_⟩⟩ h
  have hn:jI nn l=false:=zin (fun h=>by subst h;simp at e2;omega)
  have hρ:den (rho ν H) (.own b)=.slice (some ⟨b,0,none⟩) l.length (qe+sz ty):=by simp only [den];rw [Yj ν hr,hn];rfl
  have h2:=hx' ν
  rw [hρ] at h2
  unfold jW
  simp only [ho,h2,hi' ν,Option.bind_some]
  have h3:xz P t (.slice (some ⟨b,0,none⟩) l.length (qe+sz ty)) (.int ik z)=some (.pointer (some ⟨b,z.toNat*sz ty,none⟩)):=by
   simp [xz,hu,ziq e1 e2,hie,hsz]
  simp only [h3,den]
  rfl
 split at h
 ·rename_i e hu
  split at h
  ·rename_i ty l full
   obtain ⟨h1,h⟩:=zA h
   obtain ⟨y,hy,h⟩:=QG h
   obtain ⟨e1,e2,e3⟩:=zpC hy
   obtain ⟨ie,hie,hsz⟩:=WH h1
   refine ue (uO (Nat.le_refl _) fun ν=>?_) h
   have hes:gz (den (rho ν H) (.lst ty l full))=some (sz ty,(l.map (wm ty)).toArray,full):=by cases full<;>simp [den,fzV,gz]
   have h2:zxe P t (den (rho ν H) (.lst ty l full)) (.int ik z)=some (.iface 0 (.iface 0 (wm ty y))):=by
    have h4:idx (.int ik z) ((l.map (wm ty)).toArray).size=some z.toNat:=by
     rw [show ((l.map (wm ty)).toArray).size=l.length by simp];exact ziq e1 e2
    have h5:((l.map (wm ty)).toArray)[z.toNat]?=some (wm ty y):=by simp [e3]
    unfold zxe
    simp only [hes,hu,h4,hie,h5,hsz,if_true]
   have h3:xz P t (den (rho ν H) (.lst ty l full)) (.int ik z)=none:=by cases full<;>simp [den,fzV,xz,hu]
   unfold jW
   simp only [ho,hx' ν,hi' ν,Option.bind_some,h3,h2]
   simp [un1,den]
  ·rename_i b
   split at h
   ·rename_i nn ty l hb
    exact own b nn ty l e rfl (by rw [hb];rfl) hu h
   ·rename_i nn ty l hb
    exact own b nn ty l e rfl (by rw [hb];rfl) hu h
   ·cases h
  ·rename_i b n
   obtain ⟨h1,h⟩:=zA h
   obtain ⟨ie,hie,hsz⟩:=WH h1
   obtain ⟨j,rfl,_,e3,h⟩:=zeV h
   refine ue (uO (Nat.le_refl _) fun ν=>?_) h
   have h4:idx (.int ik (j:Int)) n=some j:=by
    have:=ziq (k:=ik) (z:=(j:Int)) (n:=n) (Int.natCast_nonneg j) (by omega)
    simpa using this
   have h3:xz P t (den (rho ν H) (.slv b n)) (.int ik (j:Int))=some (.pointer (some ⟨b,j,none⟩)):=by
    simp [xz,hu,den,h4,hie,hsz]
   unfold jW
   simp only [ho,hx' ν,hi' ν,Option.bind_some,h3]
   simp [un1,den]
  ·cases h
 ·rename_i n e hu
  split at h
  case h_2=>cases h
  rename_i b off
  split at h
  ·rename_i nn ty l hb
   obtain ⟨h1,h5⟩:=zA h
   simp only [Bool.and_eq_true] at h1
   obtain ⟨h2,h6⟩:=zA h5
   rw [xb] at h2
   have h2:=of_decide_eq_true h2
   have:=Nat.eq_of_beq_eq_true h1.1
   subst this
   obtain ⟨y,hy,h7⟩:=QG h6
   obtain ⟨e1,e2,e3⟩:=zpC hy
   obtain ⟨ie,hie,hsz⟩:=WH h1.2
   refine ue (uO (Nat.le_refl _) fun ν=>?_) h7
   have h3:xz P t (den (rho ν H) (.ptr b 0)) (.int ik z)=some (.pointer (some ⟨b,z.toNat*sz ty,none⟩)):=by
    simp [xz,hu,den,ziq e1 h2,hie,hsz]
   unfold jW
   simp only [ho,hx' ν,hi' ν,Option.bind_some,h3]
   simp [un1,den]
  split at h
  case h_2=>cases h
  rename_i ie hie
  obtain ⟨j,rfl,_,e3,h⟩:=zeV h
  refine ue (uO (Nat.le_refl _) fun ν=>?_) h
  have h4:idx (.int ik (j:Int)) n=some j:=by
   have:=ziq (k:=ik) (z:=(j:Int)) (n:=n) (Int.natCast_nonneg j) (by omega)
   simpa using this
  have h3:xz P t (den (rho ν H) (.ptr b off)) (.int ik (j:Int))=some (.pointer (some ⟨b,off+j*ie.size,none⟩)):=by
   simp [xz,hu,den,h4,hie]
  unfold jW
  simp only [ho,hx' ν,hi' ν,Option.bind_some,h3]
  simp [un1,den]
 ·cases h
def zxO (P:Program) (tm:List SV) (H:SH) (nx:Nat) (t:TypeId) (x i:Operand) (k:KO R):Option R:=match jz tm H x,jz tm H i with
 |some (.agg cs),some (.int _ z)=>match qX P t with
  |some (.array n e)=>match qZ P e with
   |some ie=>znR n 0 z fun j=>opt (znP P e cs (j*ie.size)) fun v=>k v H nx
   |none=>none
  |_=>none
 |_,_=>none
theorem zCr {rd:Option Nat} {o:Oper} {tm:List SV} {H:SH} {nx:Nat} {k:KO R} {r:R} {t:TypeId} {x i:Operand} (ho:o.op=.index t x i) (h:zxO P tm H nx t x i k=some r):gM P rd o tm H nx k r:=by
 unfold zxO at h
 split at h
 case h_2=>cases h
 rename_i cs ik z hx hi
 split at h
 case h_2=>cases h
 rename_i n e hu
 split at h
 case h_2=>cases h
 rename_i ie hie
 obtain ⟨j,rfl,_,e3,h⟩:=zeV h
 obtain ⟨v,hv,h⟩:=QG h
 refine ue (uO (Nat.le_refl _) fun ν=>?_) h
 have h1:=zY hx ν
 have h2:=zY hi ν
 simp only [den] at h1 h2
 have h4:idx (.int ik (j:Int)) n=some j:=by
  have:=ziq (k:=ik) (z:=(j:Int)) (n:=n) (Int.natCast_nonneg j) (by omega)
  simpa using this
 unfold jW
 simp only [ho,h1,h2,Option.bind_some]
 have h5:=zgY (ρ:=rho ν H) hv
 have:zih P t (.agg (zt (rho ν H) cs).toArray) (.int ik (j:Int))=some (den (rho ν H) v):=by
  simp [zih,hu,h4,hie,h5]
 rw [this]
 rfl
def zA8 (P:Program) (tm:List SV) (H:SH) (nx:Nat) (t:TypeId) (a:Operand) (k:KO R):Option R:=match jz tm H a with
 |some (.elp b s i off)=>match zn H b with
  |some (.arr _ ty l)=>bif Nat.beq s (sz ty) then opt (gl l i) fun y=>opt (XT P t (yr ty y) off) fun v=>k v H nx else none
  |some (.roa _ ty l)=>bif Nat.beq s (sz ty) then opt (gl l i) fun y=>opt (XT P t (yr ty y) off) fun v=>k v H nx else none
  |_=>none
 |_=>none
theorem zA9 {ρ:Nat→Value} {t:TypeId} {ty:Ty} {l:List (T ty)} {i off:Nat} {y:T ty} {v:SV} (hy:l[i]?=some y) (h:XT P t (yr ty y) off=some v) {Hd:Hp} {b:Nat} {ro:Bool} (hb:Hd.get b=some (.cells (zX ty l) ro)) :
  gH P Hd t (.pointer (some ⟨b,i*sz ty+off,none⟩))=some (den ρ v):=by
 have he:qm ty y=zt ρ (yr ty y):=by rw [qv,yc]
 unfold XT at h
 split at h
 case h_2=>cases h
 rename_i d inf hd hi
 simp only [gH,hb,hd,hi]
 cases ha:Jt d with
 |true=>
  rw [ha] at h
  simp only [cond_true] at h
  obtain ⟨h1,h2⟩:=zA h
  cases h2
  have h3:=Nat.le_of_ble_eq_true h1
  rw [Xm] at h3
  obtain ⟨e1,e2⟩:=zeS ty l hy h3
  simp only [if_true,e1,e2,den,zgX,zgW,he]
 |false=>
  rw [ha] at h
  simp only [cond_false,xc] at h
  have hk:off < sz ty:=by have:=(List.getElem?_eq_some_iff.1 h).1;rwa [Xm] at this
  have:=zva ty l hy hk
  simp only [Bool.false_eq_true,if_false,this,he,wA,h,Option.map_some]
theorem zDR {rd:Option Nat} {o:Oper} {tm:List SV} {H:SH} {nx:Nat} {k:KO R} {r:R} {t:TypeId} {a:Operand} (ho:o.op=.load t a) (h:zA8 P tm H nx t a k=some r):gM P rd o tm H nx k r:=by
 unfold zA8 at h
 split at h
 case h_2=>cases h
 rename_i b s i off ha
 have key:∀(nn:Bool) (ty:Ty) (l:List (T ty)) (ro:Bool),(∀ν,(bif jI nn l then none else some (Blk.cells (zX ty l) ro))=(zn H b).bind (zW (rho ν H) (ν b)))→reg (zn H b)=some (l.length,rsz nn ty l)→
   (bif Nat.beq s (sz ty) then opt (gl l i) fun y=>opt (XT P t (yr ty y) off) fun v=>k v H nx else none)=some r→gM P rd o tm H nx k r:=by
  intro nn ty l ro hden hr h0
  obtain ⟨h1,h2⟩:=zA h0
  have:=Nat.eq_of_beq_eq_true h1
  subst this
  obtain ⟨y,hy,h3⟩:=QG h2
  obtain ⟨v,hv,h4⟩:=QG h3
  rw [xc] at hy
  refine ue ⟨jZ.refl H,wk.refl H,Nat.le_refl _,fun ν hvn=>⟨hvn,ku ?_⟩⟩ h4
  have hn:jI nn l=false:=zin (fun h=>by subst h;simp at hy)
  have hd:(zD ν H).get b=some (.cells (zX ty l) ro):=by rw [zP,←hden ν,hn];rfl
  have h2:=zY ha ν
  simp only [den] at h2
  unfold jW
  simp only [ho,h2,Option.bind_some,zA9 (ρ:=rho ν H) hy hv hd]
  rfl
 split at h
 ·rename_i nn ty l hb
  exact key nn ty l false (fun ν=>by rw [hb];rfl) (by rw [hb];rfl) h
 ·rename_i nn ty l hb
  exact key nn ty l true (fun ν=>by rw [hb];rfl) (by rw [hb];rfl) h
 ·cases h
end Go.Fz.Sy
end
