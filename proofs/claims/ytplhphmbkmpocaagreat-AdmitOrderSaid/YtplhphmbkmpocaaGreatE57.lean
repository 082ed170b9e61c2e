/- Parts of a proof, joined. -/
import Derived.Test.YtplhphmbkmpocaaGreatE56
set_option linter.unusedSectionVars false
set_option linter.unusedVariables false
set_option linter.unusedSimpArgs false
set_option maxHeartbeats 0
set_option maxRecDepth 100000
noncomputable section
namespace Go.Proofs.YtplhphmbkmpocaaGreat.ad
open Go Go.Fz Go.Fz.Sy
def opn (m:Int):Bool:=m / 64 % 2 == 1
theorem zGl {m:Int}:wo .i64 m 6=m / 64:=by
 show m.fdiv (2 ^ (min (6:Int).toNat 64))=m / 64
 rw [show (2:Int) ^ (min (6:Int).toNat 64)=64 from rfl]
 exact Int.fdiv_eq_ediv_of_nonneg m (by omega)
theorem xt {e:Int×Int} (h:zcn e):xB (e,())=some (opn e.1,()):=by
 rw [zbE];unfold Xy opn
 rw [zGl]
 have h0:=h.1;have h1:=h.2.1
 have:e.1 / 64=0∨e.1 / 64=1∨e.1 / 64=2∨e.1 / 64=3:=by omega
 rcases this with h | h | h | h<;>rw [h]<;>rfl
theorem UX {m:Int} (h:0≤m):uA (m,6,())=some (opn m,()):=by
 rw [zt2];unfold zhn opn
 rw [show wrF .u64 6=6 from rfl,zGl]
 refine yb (ze rfl (za ?_))
 show zi (Int.tmod (m / 64) 2) 1=_
 rw [jE,Int.tmod_eq_emod_of_nonneg (by omega)]
def opA:List (Int×Int)→Int→Bool
 |[],_=>false
 |e::l,r=>if r < e.2 then opn e.1 else opA l (r - e.2)
def opT (g:Gts) (t:Int):Bool:=opA g.1 (t % g.2)
theorem zyS:∀(l:List (Int×Int)),(∀e∈l,zcn e)→∀(i:Nat) (e:Int×Int) (r:Int),l[i]?=some e→qG (l.take i)≤r→r < qG (l.take i)+e.2→opA l r=opn e.1
 |[],_,i,e,r,h,_,_=>by simp at h
 |a::l,hl,0,e,r,h,h1,h2=>by
  simp at h;subst h
  simp [qG] at h1 h2
  unfold opA;rw [if_pos h2]
 |a::l,hl,i+1,e,r,h,h1,h2=>by
  have h':l[i]?=some e:=by simpa using h
  have hh:=Qv (l:=l.take i) fun e he=>hl e (by simp [List.mem_of_mem_take he])
  have ea:qG ((a::l).take (i+1))=a.2+qG (l.take i):=by simp [qG]
  rw [ea] at h1 h2
  unfold opA
  rw [if_neg (by omega)]
  exact zyS l (fun e he=>hl e (by simp [he])) i e (r - a.2) h' (by omega) (by omega)
theorem zAb (g:Gts) (t:Int):opT g (t+g.2)=opT g t:=by unfold opT;rw [Int.add_emod_right]
theorem Km {l:List (Int×Int)} (h:∀e∈l,zcn e) {i k:Nat} (hk:i≤k):qG (l.take i)≤qG (l.take k):=by
 obtain ⟨d,rfl⟩:∃d,k=i+d:=⟨k - i,by omega⟩
 induction d with
 |zero=>exact Int.le_refl _
 |succ d ih=>
  have:=ih (by omega)
  rcases Nat.lt_or_ge (i+d) l.length with h2 | h2
  ·have hx:l[i+d]?=some l[i+d]:=List.getElem?_eq_getElem h2
   have:=kz hx
   have:=(h _ (List.getElem_mem h2)).2.2.1
   rw [show i+(d+1)=i+d+1 from rfl];omega
  ·rw [List.take_of_length_le (by omega:l.length≤i+(d+1)),←List.take_of_length_le (l:=l) (by omega:l.length≤i+d)]
   rw [List.take_of_length_le (l:=l) (by omega:l.length≤i+d)] at this ⊢
   exact this
theorem Kn (l:List (Int×Int)):qG (l.take l.length)=qG l:=by rw [List.take_length]
theorem qx.pos {g:Gts} (h:qx g):1≤g.2:=by
 have:=(Qv h.el).1;have:=h.cy;have:=h.n0;omega
def tAt (g:Gts) (k:Nat):Int:=((k / g.1.length:Nat):Int)*g.2+qG (g.1.take (k % g.1.length))
theorem zyT {g:Gts} {k:Nat} (h:k < g.1.length):tAt g k=qG (g.1.take k):=by
 unfold tAt;rw [Nat.div_eq_of_lt h,Nat.mod_eq_of_lt h];simp
theorem zAc {g:Gts} (hg:qx g) (k:Nat):tAt g (k+g.1.length)=tAt g k+g.2:=by
 have:=hg.n0
 unfold tAt
 rw [Nat.add_div_right _ (by omega),Nat.add_mod_right,Int.natCast_succ,Int.add_mul];omega
theorem zgc {g:Gts} (hg:qx g) {k:Nat} {e:Int×Int} (h:g.1[k % g.1.length]?=some e):tAt g (k+1)=tAt g k+e.2:=by
 have h0:=hg.n0
 have hm:k % g.1.length < g.1.length:=Nat.mod_lt _ (by omega)
 have hk:=Nat.div_add_mod k g.1.length
 have hs:=kz h
 unfold tAt
 rcases Nat.lt_or_ge (k % g.1.length+1) g.1.length with h1 | h1
 ·have e1:(k+1) % g.1.length=k % g.1.length+1:=by
   rw [Nat.add_mod,Nat.mod_eq_of_lt (show 1 < g.1.length by omega),Nat.mod_eq_of_lt h1]
  have e2:(k+1) / g.1.length=k / g.1.length:=by
   have a:=Nat.div_add_mod (k+1) g.1.length
   rw [e1] at a
   have b:g.1.length*((k+1) / g.1.length)=g.1.length*(k / g.1.length):=by omega
   exact Nat.eq_of_mul_eq_mul_left (by omega) b
  rw [e1,e2,hs];omega
 ·have h2:k % g.1.length+1=g.1.length:=by omega
  have e3:k+1=(k / g.1.length+1)*g.1.length:=by
   rw [Nat.add_mul,Nat.mul_comm];omega
  have e1:(k+1) % g.1.length=0:=by rw [e3];exact Nat.mul_mod_left _ _
  have e2:(k+1) / g.1.length=k / g.1.length+1:=by rw [e3];exact Nat.mul_div_left _ (by omega)
  rw [h2,Kn,hg.cy] at hs
  rw [e1,e2,Int.natCast_succ,Int.add_mul]
  simp only [List.take_zero]
  have:qG []=0:=rfl
  omega
theorem zyU {g:Gts} (hg:qx g) {k:Nat} {e:Int×Int} (h:g.1[k % g.1.length]?=some e) {t:Int} (h1:tAt g k≤t) (h2:t < tAt g k+e.2):opT g t=opn e.1:=by
 have h0:=hg.n0
 have hm:k % g.1.length < g.1.length:=Nat.mod_lt _ (by omega)
 have hs:=kz h
 have hb:=Qv (l:=g.1.take (k % g.1.length)) fun e he=>hg.el e (List.mem_of_mem_take he)
 have hle:=Km hg.el (show k % g.1.length+1≤g.1.length by omega)
 rw [Kn,hg.cy] at hle
 unfold tAt at h1 h2
 have hr:t % g.2=t - ((k / g.1.length:Nat):Int)*g.2:=by
  have:t=(t - ((k / g.1.length:Nat):Int)*g.2)+((k / g.1.length:Nat):Int)*g.2:=by omega
  rw [this,Int.add_mul_emod_self_right,Int.emod_eq_of_lt (by omega) (by omega)];omega
 unfold opT
 exact zyS g.1 hg.el (k % g.1.length) e _ h (by omega) (by omega)
theorem zFK {g:Gts} (hg:qx g) (t:Int):∃(i:Nat) (e:Int×Int),g.1[i]?=some e∧qG (g.1.take i)≤t % g.2∧t % g.2 < qG (g.1.take i)+e.2:=by
 have hp:=hg.pos
 have h1:=Int.emod_nonneg t (show g.2≠0 by omega)
 have h2:=Int.emod_lt_of_pos t (show 0 < g.2 by omega)
 have key:∀(n:Nat),n≤g.1.length→t % g.2 < qG (g.1.take n)→∃(i:Nat) (e:Int×Int),g.1[i]?=some e∧qG (g.1.take i)≤t % g.2∧t % g.2 < qG (g.1.take i)+e.2:=by
  intro n
  induction n with
  |zero=>intro _ h;simp [qG] at h;omega
  |succ n ih=>
   intro hn h
   have hx:g.1[n]?=some g.1[n]:=List.getElem?_eq_getElem (by omega)
   rw [kz hx] at h
   rcases Int.lt_or_le (t % g.2) (qG (g.1.take n)) with h3 | h3
   ·exact ih (by omega) h3
   ·exact ⟨n,_,hx,h3,h⟩
 exact key g.1.length (Nat.le_refl _) (by rw [Kn,hg.cy];exact h2)
def YO (l:List (Int×Int)):Prop:=∀e∈l,opn e.1=true
theorem Ji {g:Gts} (hg:qx g):xg (g,())=some (tv (YO g.1),()):=by
 have h1:=hg.n1
 rw [zog];unfold zci
 refine wa (zk (J:=fun x=>(x.1=0∧YO g.1)∨(x.1=1∧x.2.1.1=false∧¬YO g.1)) (qF g.1.length (fun i=>∀e,g.1[i]?=some e→opn e.1=true) (by omega) ?_ ?_) ?_)
 ·intro i hi hp
  have hx:g.1[i]?=some g.1[i]:=List.getElem?_eq_getElem hi
  have hm:=List.getElem_mem hi
  generalize g.1[i]=e at hx hm
  refine zd (zR (show (i:Int) < (g.1.length:Int) by omega)) (zg (zx (n:=i) hx ?_))
  rw [UX (hg.el e hm).1]
  refine zj (fun h=>?_) (fun h=>?_)
  ·have h':(!opn e.1)=true:=h
   refine za (zq (.inr ⟨rfl,rfl,fun hq=>?_⟩))
   rw [hq e hm] at h';cases h'
  ·have h':(!opn e.1)=false:=h
   exact za (jo (by omega) fun r' hr'=>by rw [hx] at hr';cases hr';simpa using h')
 ·intro hp
  refine ze (zG (show ¬(g.1.length:Int) < (g.1.length:Int) by omega)) (za (zq (.inl ⟨rfl,fun r hr=>?_⟩)))
  obtain ⟨k,hk,hk2⟩:=jV hr
  exact hp k hk r hk2
 ·rintro ⟨j,⟨v,w,⟨⟩⟩,⟨⟩⟩ (⟨rfl,hq⟩ | ⟨rfl,rfl,hq⟩)
  ·exact zd rfl (za ⟨fun _=>hq,fun _=>rfl⟩)
  ·exact ze rfl (za ⟨fun h=>(by cases h),fun h=>absurd h hq⟩)
theorem zGA {e:Int×Int} (h:zcn e):zi (kJ .and .i64 (wo .i64 e.1 6) 1) 1=opn e.1:=by
 have:=xt h
 rw [zbE] at this
 unfold Xy at this
 exact congrArg (·.1) (Option.some.inj this)
theorem zus {g:Gts} (hg:qx g) {e:Int×Int} (h:g.1[0]?=some e):Yy (g,0,())=some (0,e.2,()):=by
 have hp:=hg.pos;have hc:=hg.c1
 have he:=hg.el e (List.mem_of_getElem? h)
 have h2:=he.2.2.1;have h3:=he.2.2.2
 rw [zrX];unfold zfu
 rw [qI (show g.2≠0 by omega),cond_false,cond_false,show atI g.1 0=some e from wR (n:=0) h]
 simp only [zw]
 rw [show Int.tmod 0 g.2=0 from Int.zero_tmod _,show wrF .i64 (0+g.2)=g.2 from by rw [zD]<;>omega,show Int.tmod g.2 g.2=0 from Int.tmod_self]
 rw [zR (show (0:Int) < e.2 by omega),show wrF .i64 (e.2 - 0)=e.2 from by rw [zD]<;>omega]
 rfl
theorem zut {g:Gts} (hg:qx g):qu (Yz (g,6,0,())) fun r=>(r.1=1099511627776∧YO g.1)∨(r.1 < 1099511627776∧¬YO g.1):=by
 have h0:=hg.n0;have h1:=hg.n1;have hp:=hg.pos;have hc:=hg.c1
 have hx0:g.1[0]?=some g.1[0]:=List.getElem?_eq_getElem (by omega)
 generalize g.1[0]=e0 at hx0
 rw [zrZ];unfold zfv
 rw [zus hg hx0,zw]
 have ew:wrF .i64 ((g.1.length:Int)+1)=(g.1.length:Int)+1:=zD (by omega) (by omega)
 rw [ew]
 refine zk (J:=fun x=>(x.1=0∧x.2.1.2.1=g∧YO g.1)∨(x.1=1∧x.2.1.2.2.1 < g.2∧¬YO g.1))
  (zW (g.1.length+1) (fun i s=>∃e,g.1[i % g.1.length]?=some e∧s=((6,(g,(0,(tAt g i,(((i % g.1.length:Nat):Int),(e.2,((i:Int),()))))))),())∧∀(k:Nat),k < i→∀e',g.1[k % g.1.length]?=some e'→opn e'.1=true) (by omega)
   ⟨e0,by rw [Nat.zero_mod];exact hx0,by rw [zyT (by omega),Nat.zero_mod];rfl,fun k hk=>by omega⟩ ?_ ?_) ?_
 ·rintro i _ hi ⟨e,he,rfl,hp'⟩
  have hm:i % g.1.length < g.1.length:=Nat.mod_lt _ (by omega)
  have hen:=hg.el e (List.mem_of_getElem? he)
  have hts:=zgc hg he
  have htb:0≤tAt g i∧tAt g i≤2*9600000:=by
   unfold tAt
   have hb:=Qv (l:=g.1.take (i % g.1.length)) fun e he=>hg.el e (List.mem_of_mem_take he)
   have hle:=Km hg.el (show i % g.1.length≤g.1.length by omega)
   rw [Kn,hg.cy] at hle
   have hd:i / g.1.length≤1:=by
    have:i / g.1.length < 2:=Nat.div_lt_of_lt_mul (by omega)
    omega
   have:((i / g.1.length:Nat):Int)*g.2≤1*g.2:=Int.mul_le_mul_of_nonneg_right (by omega) (by omega)
   have:0≤((i / g.1.length:Nat):Int)*g.2:=Int.mul_nonneg (Int.natCast_nonneg _) (by omega)
   omega
  refine zd (zR (show (i:Int) < (g.1.length:Int)+1 by omega)) (zg (zx (n:=i % g.1.length) he ?_))
  refine ze rfl ?_
  have hb:=zGA hen
  refine zj (fun h=>?_) (fun h=>?_)
  ·have h':(!zi (kJ .and .i64 (wo .i64 e.1 6) 1) 1)=true:=h
   rw [hb] at h'
   refine za (zq (.inr ⟨rfl,?_,fun ha=>?_⟩))
   ·show tAt g i < g.2
    rcases Nat.lt_or_ge i g.1.length with hi2 | hi2
    ·rw [zyT hi2]
     have hle:=Km hg.el (show i+1≤g.1.length by omega)
     rw [Kn,hg.cy] at hle
     rw [Nat.mod_eq_of_lt hi2] at he
     rw [kz he] at hle
     have:=hen.2.2.1;omega
    ·exfalso
     have hi3:i=g.1.length:=by omega
     rw [hi3,Nat.mod_self] at he
     have:=hp' 0 (by omega) e (by rw [Nat.zero_mod];exact he)
     rw [this] at h';cases h'
   ·rw [ha e (List.mem_of_getElem? he)] at h';cases h'
  ·have h':(!zi (kJ .and .i64 (wo .i64 e.1 6) 1) 1)=false:=h
   rw [hb] at h'
   have hop:opn e.1=true:=by simpa using h'
   refine ze (qI (show (g.1.length:Int)≠0 by omega)) ?_
   have e1:Int.tmod (wrF .i64 (((i % g.1.length:Nat):Int)+1)) (g.1.length:Int)=(((i+1) % g.1.length:Nat):Int):=by
    rw [qq (by omega),Int.tmod_eq_emod_of_nonneg (by omega),←Int.natCast_emod,Nat.mod_add_mod]
   have hm2:(i+1) % g.1.length < g.1.length:=Nat.mod_lt _ (by omega)
   have hx2:g.1[(i+1) % g.1.length]?=some (g.1[(i+1) % g.1.length]'hm2):=List.getElem?_eq_getElem hm2
   refine zg (qj (a:=g.1[(i+1) % g.1.length]'hm2) (by show atI g.1 (Int.tmod (wrF .i64 (((i % g.1.length:Nat):Int)+1)) (g.1.length:Int))=_;rw [e1];exact wR hx2) ?_)
   refine za (ql ⟨_,hx2,?_,fun k hk e' he'=>?_⟩)
   ·show ((6,(g,(0,((wrF .i64 (tAt g i+e.2)),((Int.tmod (wrF .i64 (((i % g.1.length:Nat):Int)+1)) (g.1.length:Int)),(_,((wrF .i64 ((i:Int)+1)),()))))))),())=_
    rw [e1,qq (by omega),hts,zD (by have:=hen.2.2.1;omega) (by have:=hen.2.2.2;omega)]
   ·rcases Nat.lt_or_ge k i with hki | hki
    ·exact hp' k hki e' he'
    ·have:k=i:=by omega
     subst this
     rw [he] at he';cases he'
     exact hop
 ·rintro _ ⟨e,he,rfl,hp'⟩
  refine ze (zG (show ¬((g.1.length+1:Nat):Int) < (g.1.length:Int)+1 by omega)) (za (zq (.inl ⟨rfl,rfl,fun e' he'=>?_⟩)))
  obtain ⟨k,hk,hk2⟩:=jV he'
  exact hp' k (by omega) e' (by rw [Nat.mod_eq_of_lt hk];exact hk2)
 ·rintro ⟨j,⟨c,q,r,n,i,l,k,⟨⟩⟩,⟨⟩⟩ (⟨rfl,hq,ha⟩ | ⟨rfl,hq,ha⟩)
  ·simp only at hq
   subst hq
   exact zd rfl (zd (uh rfl) (za (.inl ⟨rfl,ha⟩)))
  ·simp only at hq
   refine ze rfl (ze (qI (show r≠g.2 by omega)) (za (.inr ⟨?_,ha⟩)))
   show r < _
   omega
theorem zc5 {g:Gts} (hg:qx g):gY (g,())=some (tv (YO g.1),()):=by
 rw [zkW];unfold Gp
 refine wa ?_
 have e1:JM (g,6,0,0,())=some (0,()):=by
  rw [zp0];unfold zdy
  rw [zbm,zF hg];rfl
 obtain ⟨⟨v,⟨⟩⟩,e2,hv⟩:=zut hg
 have e3:YA (g,6,0,())=some (v,0,()):=by
  rw [zr1];unfold zfw
  rw [e1,e2];rfl
 rw [e3]
 refine za ?_
 rcases hv with ⟨h1,h2⟩ | ⟨h1,h2⟩
 ·exact ⟨fun _=>h2,fun _=>uh h1⟩
 ·exact ⟨fun h=>by have:=qL h;simp only at h1 this;omega,fun h=>absurd h h2⟩
structure Cov (o:Int→Bool) (a b:Int) (l:List (Int×Int)):Prop where
 bd:∀p∈l,a≤p.1∧p.1 < p.2∧p.2≤b
 pw:l.Pairwise fun p q=>p.2 < q.1
 iff:∀t,a≤t→t < b→(o t=true↔∃p∈l,p.1≤t∧t < p.2)
theorem zyV {o:Int→Bool} {a b:Int} {p:Int×Int} {l:List (Int×Int)} (h:Cov o a b (p::l)):Cov o p.2 b l:=by
 have hp:=h.bd p (by simp)
 have hpw:=List.pairwise_cons.1 h.pw
 refine ⟨fun q hq=>?_,hpw.2,fun t h1 h2=>?_⟩
 ·have:=h.bd q (by simp [hq]);have:=hpw.1 q hq;omega
 ·rw [h.iff t (by omega) h2]
  constructor
  ·rintro ⟨q,hq,h3,h4⟩
   rcases List.mem_cons.1 hq with rfl | hq
   ·omega
   ·exact ⟨q,hq,h3,h4⟩
  ·rintro ⟨q,hq,h3,h4⟩
   exact ⟨q,by simp [hq],h3,h4⟩
theorem zqE {o:Int→Bool}:∀{l m:List (Int×Int)} {a b:Int},Cov o a b l→Cov o a b m→l=m
 |[],[],_,_,_,_=>rfl
 |[],q::m,a,b,h,h'=>by
  have hq:=h'.bd q (by simp)
  have:=(h'.iff q.1 hq.1 (by omega)).2 ⟨q,by simp,by omega,hq.2.1⟩
  obtain ⟨p,hp,_⟩:=(h.iff q.1 hq.1 (by omega)).1 this
  cases hp
 |p::l,[],a,b,h,h'=>by
  have hq:=h.bd p (by simp)
  have:=(h.iff p.1 hq.1 (by omega)).2 ⟨p,by simp,by omega,hq.2.1⟩
  obtain ⟨p,hp,_⟩:=(h'.iff p.1 hq.1 (by omega)).1 this
  cases hp
 |p::l,q::m,a,b,h,h'=>by
  have hp:=h.bd p (by simp)
  have hq:=h'.bd q (by simp)
  have hpw:=List.pairwise_cons.1 h.pw
  have hqw:=List.pairwise_cons.1 h'.pw
  have e1:p.1=q.1:=by
   apply Classical.byContradiction
   intro hne
   rcases Int.lt_or_lt_of_ne hne with hlt | hlt
   ·have:=(h.iff p.1 hp.1 (by omega)).2 ⟨p,by simp,by omega,hp.2.1⟩
    obtain ⟨r,hr,h1,h2⟩:=(h'.iff p.1 hp.1 (by omega)).1 this
    rcases List.mem_cons.1 hr with rfl | hr
    ·omega
    ·have:=hqw.1 r hr;omega
   ·have:=(h'.iff q.1 hq.1 (by omega)).2 ⟨q,by simp,by omega,hq.2.1⟩
    obtain ⟨r,hr,h1,h2⟩:=(h.iff q.1 hq.1 (by omega)).1 this
    rcases List.mem_cons.1 hr with rfl | hr
    ·omega
    ·have:=hpw.1 r hr;omega
  have e2:p.2=q.2:=by
   apply Classical.byContradiction
   intro hne
   rcases Int.lt_or_lt_of_ne hne with hlt | hlt
   ·have:=(h'.iff p.2 (by omega) (by omega)).2 ⟨q,by simp,by omega,by omega⟩
    obtain ⟨r,hr,h1,h2⟩:=(h.iff p.2 (by omega) (by omega)).1 this
    rcases List.mem_cons.1 hr with rfl | hr
    ·omega
    ·have:=hpw.1 r hr;omega
   ·have:=(h.iff q.2 (by omega) (by omega)).2 ⟨p,by simp,by omega,by omega⟩
    obtain ⟨r,hr,h1,h2⟩:=(h'.iff q.2 (by omega) (by omega)).1 this
    rcases List.mem_cons.1 hr with rfl | hr
    ·omega
    ·have:=hqw.1 r hr;omega
  have e:p=q:=Prod.ext e1 e2
  subst e
  rw [zqE (zyV h) (zyV h')]
theorem zuu (o:Int→Bool) (a:Int):Cov o a a []:=⟨fun p h=>(by cases h),List.Pairwise.nil,fun t h1 h2=>by omega⟩
theorem znP {o:Int→Bool} {a b c:Int} {l:List (Int×Int)} (h:Cov o a b l) (hb:b≤c) (hab:a≤b) (hg:∀t,b≤t→t < c→o t=false):Cov o a c l:=by
 refine ⟨fun p hp=>by have:=h.bd p hp;omega,h.pw,fun t h1 h2=>?_⟩
 rcases Int.lt_or_le t b with h3 | h3
 ·exact h.iff t h1 h3
 ·rw [hg t h3 h2]
  constructor
  ·intro h;cases h
  ·rintro ⟨p,hp,h4,h5⟩
   have:=h.bd p hp;omega
theorem zAd {o:Int→Bool} {a b c:Int} {l:List (Int×Int)} (h:Cov o a b l) (hb:b < c) (hab:a≤b) (hl:∀p∈l,p.2 < b) (hg:∀t,b≤t→t < c→o t=true):Cov o a c (l++[(b,c)]):=by
 refine ⟨fun p hp=>?_,?_,fun t h1 h2=>?_⟩
 ·rcases List.mem_append.1 hp with hp | hp
  ·have:=h.bd p hp;omega
  ·simp at hp;subst hp;simp only;omega
 ·rw [List.pairwise_append]
  refine ⟨h.pw,List.pairwise_singleton _ _,fun p hp q hq=>?_⟩
  simp at hq;subst hq
  exact hl p hp
 ·rcases Int.lt_or_le t b with h3 | h3
  ·rw [h.iff t h1 h3]
   constructor
   ·rintro ⟨p,hp,h4⟩;exact ⟨p,by simp [hp],h4⟩
   ·rintro ⟨p,hp,h4,h5⟩
    rcases List.mem_append.1 hp with hp | hp
    ·exact ⟨p,hp,h4,h5⟩
    ·simp at hp;subst hp;simp only at h4;omega
  ·rw [hg t h3 h2]
   exact ⟨fun _=>⟨(b,c),by simp,h3,h2⟩,fun _=>rfl⟩
theorem zEv {o:Int→Bool} {a b c x:Int} {l:List (Int×Int)} (h:Cov o a b (l++[(x,b)])) (hb:b≤c) (hg:∀t,b≤t→t < c→o t=true):Cov o a c (l++[(x,c)]):=by
 have hx:=h.bd (x,b) (by simp)
 simp only at hx
 have hpw:=List.pairwise_append.1 h.pw
 refine ⟨fun p hp=>?_,?_,fun t h1 h2=>?_⟩
 ·rcases List.mem_append.1 hp with hp | hp
  ·have:=h.bd p (by simp [hp]);omega
  ·simp at hp;subst hp;simp only;omega
 ·rw [List.pairwise_append]
  refine ⟨hpw.1,List.pairwise_singleton _ _,fun p hp q hq=>?_⟩
  simp at hq;subst hq
  exact hpw.2.2 p hp (x,b) (by simp)
 ·rcases Int.lt_or_le t b with h3 | h3
  ·rw [h.iff t h1 h3]
   constructor
   ·rintro ⟨p,hp,h4,h5⟩
    rcases List.mem_append.1 hp with hp | hp
    ·exact ⟨p,by simp [hp],h4,h5⟩
    ·simp at hp;subst hp;exact ⟨(x,c),by simp,h4,by simp only at h5 ⊢;omega⟩
   ·rintro ⟨p,hp,h4,h5⟩
    rcases List.mem_append.1 hp with hp | hp
    ·exact ⟨p,by simp [hp],h4,h5⟩
    ·simp at hp;subst hp;exact ⟨(x,b),by simp,h4,h3⟩
  ·rw [hg t h3 h2]
   exact ⟨fun _=>⟨(x,c),by simp,by simp only;omega,h2⟩,fun _=>rfl⟩
def jc (lost:Int) (l:List (Int×Int)):Int:=(l.map fun p=>max 0 (p.2 - p.1 - lost)).sum
theorem Ve {lost:Int} (hl:0≤lost):∀{l:List (Int×Int)} {a b:Int},a≤b→(∀p∈l,a≤p.1∧p.1 < p.2∧p.2≤b)→l.Pairwise (fun p q=>p.2 < q.1)→0≤jc lost l∧jc lost l≤b - a∧(l.length:Int)≤b - a
 |[],a,b,hab,_,_=>by simp [jc];omega
 |p::l,a,b,hab,hb,hp=>by
  have h1:=hb p (by simp)
  have hpw:=List.pairwise_cons.1 hp
  have ih:=Ve (lost:=lost) hl (l:=l) (a:=p.2) (b:=b) (by omega) (fun q hq=>by have:=hb q (by simp [hq]);have:=hpw.1 q hq;omega) hpw.2
  unfold jc at ih ⊢
  simp only [List.map_cons,List.sum_cons,List.length_cons]
  omega
theorem zkH {l:List (Int×Int)} {lost a b:Int} (hl:0≤lost) (hl2:lost≤1000000000000) (hab:a≤b) (hbd:∀p∈l,a≤p.1∧p.1 < p.2∧p.2≤b) (hpw:l.Pairwise fun p q=>p.2 < q.1) (ha : -1000000000000≤a) (hb:b≤1000000000000):Qo (l,lost,())=some (jc lost l,()):=by
 have hln:=(Ve (lost:=lost) hl hab hbd hpw).2.2
 rw [zt5];unfold zhq
 refine yb (zk (J:=fun x=>x.2.1.1=jc lost l) (zW l.length (fun i s=>s=((jc lost (l.take i),((i:Int),())),())) (by omega) rfl ?_ ?_) ?_)
 ·rintro i _ hi rfl
  have hx:l[i]?=some l[i]:=List.getElem?_eq_getElem hi
  have hm:=List.getElem_mem hi
  generalize l[i]=p at hx hm
  have hp:=hbd p hm
  refine zd (zR (show (i:Int) < (l.length:Int) by omega)) (zg (zx (n:=i) hx (zg (zx (n:=i) hx ?_))))
  have hgi:=Ve (lost:=lost) hl (l:=l.take i) hab (fun q hq=>hbd q (List.mem_of_mem_take hq)) (List.Pairwise.sublist (List.take_sublist i l) hpw)
  have e1:jc lost (l.take (i+1))=jc lost (l.take i)+max 0 (p.2 - p.1 - lost):=by
   unfold jc;rw [List.take_add_one,hx];simp
  refine za (ql ?_)
  show (((wrF .i64 (jc lost (l.take i)+ur 0 (wrF .i64 ((wrF .i64 (p.2 - p.1)) - lost)))),((wrF .i64 ((i:Int)+1)),())),())=_
  rw [JB,zD (z:=p.2 - p.1) (by omega) (by omega),zD (z:=p.2 - p.1 - lost) (by omega) (by omega),zD (z:=jc lost (l.take i)+_) (by omega) (by omega),←e1,qq (by omega)]
 ·rintro _ rfl
  refine ze (zG (show ¬(l.length:Int) < (l.length:Int) by omega)) (za (zq ?_))
  show jc lost (l.take l.length)=_
  rw [List.take_length]
 ·rintro ⟨j,⟨v,w,⟨⟩⟩,⟨⟩⟩ hv
  exact za hv
theorem zyW {g:Gts} (hg:qx g) {t:Int} (h1 : -1000000000000≤t) (h2:t≤1000000000000):∃(i:Nat) (e:Int×Int),KM (g,t,())=some ((i:Int),t % g.2 - qG (g.1.take i),())∧g.1[i]?=some e∧qG (g.1.take i)≤t % g.2∧t % g.2 < qG (g.1.take i)+e.2:=by
 have hp:=hg.pos;have hc:=hg.c1;have hn:=hg.n1
 obtain ⟨i,e,hx,hi1,hi2⟩:=zFK hg t
 refine ⟨i,e,?_,hx,hi1,hi2⟩
 have m1:=Int.emod_nonneg t (show g.2≠0 by omega)
 have m2:=Int.emod_lt_of_pos t (show 0 < g.2 by omega)
 have a1 : -g.2 < Int.tmod t g.2:=Int.lt_tmod_of_pos t (by omega)
 have a2:Int.tmod t g.2 < g.2:=Int.tmod_lt_of_pos t (by omega)
 have em:t % g.2=if Int.tmod t g.2 < 0 then Int.tmod t g.2+g.2 else Int.tmod t g.2:=by
  have h3:=Int.tmod_eq_emod (a:=t) (b:=g.2)
  have hna:((g.2.natAbs:Nat):Int)=g.2:=by omega
  by_cases hc2:0≤t∨g.2∣t
  ·rw [if_pos hc2] at h3
   rw [if_neg (by omega)];omega
  ·rw [if_neg hc2] at h3
   rw [if_pos (by omega)];omega
 rw [zwf];unfold zjy
 rw [qI (show g.2≠0 by omega),cond_false]
 have goal:qu (opt (bif (zh ((Int.tmod t g.2)) (0)) then some ((0:Nat),(((wrF .i64 (((Int.tmod t g.2)+g.2))),()),()))
   else some (0,(((Int.tmod t g.2),()),()))) fun x0=>
  opt (zC (fun s1:((Int×(Int×Unit))×Unit)=>
   opt (atI (g.1) (s1.1.2.1)) fun x2=>
   bif (!(zh (s1.1.1) (x2.2))) then opt (atI (g.1) (s1.1.2.1)) fun x3=>
    some (.inr (((wrF .i64 ((s1.1.1 - x3.2))),((wrF .i64 ((s1.1.2.1+1))),())),()))
   else some (.inl ((0:Nat),((s1.1.1,(s1.1.2.1,())),())))) zK ((x0.2.1.1,(0,())),())) fun x4=>
  some (x4.2.1.2.1,(x4.2.1.1,()))) (fun r=>r=((i:Int),(t % g.2 - qG (g.1.take i),()))):=by
  refine zk (J:=fun x=>x.2.1.1=t % g.2) ?_ ?_
  ·rw [em]
   refine zj (fun h=>?_) (fun h=>?_)
   ·have h:=qn h
    refine za ?_
    show wrF .i64 (Int.tmod t g.2+g.2)=_
    rw [if_pos h,zD (by omega) (by omega)]
   ·have h:=qw h
    refine za ?_
    show Int.tmod t g.2=_
    rw [if_neg (by omega)]
  rintro ⟨j,⟨v,⟨⟩⟩,⟨⟩⟩ hv
  simp only at hv
  subst hv
  have hil:i < g.1.length:=by grind
  refine zk (J:=fun x=>x.2.1.2.1=(i:Int)∧x.2.1.1=t % g.2 - qG (g.1.take i)) (zW i (fun k s=>s=((t % g.2 - qG (g.1.take k),((k:Int),())),())) (by omega) (by show _=((t % g.2 - 0,_),());rw [Int.sub_zero];rfl) ?_ ?_) ?_
  ·rintro k _ hk rfl
   have hy:g.1[k]?=some g.1[k]:=List.getElem?_eq_getElem (by omega)
   generalize g.1[k]=f at hy
   have hmo:=Km hg.el (show k+1≤i by omega)
   rw [kz hy] at hmo
   have hk0:=Qv (l:=g.1.take k) fun e he=>hg.el e (List.mem_of_mem_take he)
   have hf:=hg.el f (List.mem_of_getElem? hy)
   refine zg (zx (n:=k) hy (zd (by rw [zG (show ¬t % g.2 - qG (g.1.take k) < f.2 by omega)];rfl) (zg (zx (n:=k) hy ?_))))
   refine za (ql ?_)
   show (((wrF .i64 (t % g.2 - qG (g.1.take k) - f.2)),((wrF .i64 ((k:Int)+1)),())),())=_
   have:=hf.2.2.1;have:=hf.2.2.2
   rw [qq (by omega),kz hy,zD (by omega) (by omega),Int.sub_sub]
  ·rintro _ rfl
   refine zg (zx (n:=i) hx (ze (by rw [zR (show t % g.2 - qG (g.1.take i) < e.2 by omega)];rfl) (za (zq ⟨rfl,rfl⟩))))
  ·rintro ⟨j,⟨v,w,⟨⟩⟩,⟨⟩⟩ ⟨h1,h2⟩
   simp only at h1 h2
   subst h1 h2
   exact za rfl
 obtain ⟨r,e,rfl⟩:=goal
 exact e
theorem zc6 {g:Gts} (hg:qx g) {a b:Int} (hab:a≤b) (ha : -100000000000≤a) (hb:b≤100000000000):∃l,xC (g,a,b,())=some (l,())∧Cov (opT g) a b l:=by
 have hp:=hg.pos;have hc:=hg.c1
 have key:qu (xC (g,a,b,())) fun r=>Cov (opT g) a b r.1:=by
  rw [zk1];unfold Gu
  refine zk (J:=fun x=>Cov (opT g) a b x.2.2.1) (zl3 (fun s=>a≤s.1.2.1∧s.1.2.1≤b∧Cov (opT g) a s.1.2.1 s.2.1∧(s.1.1=true→∃m x,s.2.1=m++[(x,s.1.2.1)])∧(s.1.1=false→∀p∈s.2.1,p.2 < s.1.2.1)) _ (fun s=>(b - s.1.2.1).toNat) ⟨Int.le_refl _,hab,zuu _ _,fun h=>(by cases h),fun _ p hp=>(by cases hp)⟩ (by show (b - a).toNat < _;omega) ?_) ?_
  ·rintro ⟨⟨op,at_,⟨⟩⟩,out,⟨⟩⟩ ⟨h1,h2,hcov,ht,hf⟩
   simp only at h1 h2 hcov ht hf
   have hlen:=(Ve (lost:=0) (by omega) h1 hcov.bd hcov.pw).2.2
   refine zj (fun h=>?_) (fun h=>?_)
   rotate_left
   ·have h:=qw h
    have:at_=b:=by simp only at h;omega
    subst this
    exact za (zl2 hcov)
   have h3:=qn (show zh at_ b=true from h)
   obtain ⟨i,e,eA,hx,i1,i2⟩:=zyW hg (t:=at_) (by omega) (by omega)
   have hil:i < g.1.length:=by grind
   have he:=hg.el e (List.mem_of_getElem? hx)
   have m1:=Int.emod_nonneg at_ (show g.2≠0 by omega)
   have m2:=Int.emod_lt_of_pos at_ (show 0 < g.2 by omega)
   have hs0:=Qv (l:=g.1.take i) fun e he=>hg.el e (List.mem_of_mem_take he)
   have:=he.2.2.1;have:=he.2.2.2
   have hst:∀t,at_≤t→t < at_ - (at_ % g.2 - qG (g.1.take i))+e.2→opT g t=opn e.1:=by
    intro t t1 t2
    have hle:=Km hg.el (show i+1≤g.1.length by omega)
    rw [Kn,hg.cy,kz hx] at hle
    have hr:t % g.2=at_ % g.2+(t - at_):=by
     have hdm:=Int.emod_add_mul_ediv at_ g.2
     have:t=(at_ % g.2+(t - at_))+g.2*(at_ / g.2):=by omega
     rw [this,Int.add_mul_emod_self_left,Int.emod_eq_of_lt (by omega) (by omega)];omega
    unfold opT
    exact zyS g.1 hg.el i e _ hx (by omega) (by omega)
   rw [show KM (g,((op,at_,()),out,()).1.2.1,())=_ from eA,zw]
   refine zg (zx (n:=i) hx (zg (zx (n:=i) hx ?_)))
   rw [UX he.1,zw]
   have eEnd:jB (wrF .i64 ((wrF .i64 (at_ - (at_ % g.2 - qG (g.1.take i))))+e.2)) b=min (at_ - (at_ % g.2 - qG (g.1.take i))+e.2) b:=by
    rw [XY,zD (z:=at_ - _) (by omega) (by omega),zD (by omega) (by omega)]
   generalize hE:min (at_ - (at_ % g.2 - qG (g.1.take i))+e.2) b=E at eEnd
   have hE1:at_ < E:=by omega
   have hE2:E≤b:=by omega
   have hst':∀t,at_≤t→t < E→opT g t=opn e.1:=fun t t1 t2=>hst t t1 (by omega)
   cases ho:opn e.1 with
   |true=>
    rw [ho] at hst'
    cases hop:op with
    |true=>
     subst hop
     obtain ⟨m,x,hm⟩:=ht rfl
     have hne:out.length=m.length+1:=by rw [hm];simp
     have eL:wrF .i64 ((out.length:Int) - 1)=((m.length:Nat):Int):=by rw [zD]<;>omega
     have hlast:out[m.length]?=some (x,at_):=by rw [hm];simp
     refine zk (J:=fun x'=>x'.2.2.1=m++[(x,E)]) ?_ ?_
     ·refine zd rfl (zd rfl ?_)
      refine zg (qj (a:=(x,at_)) (by show atI out (wrF .i64 ((out.length:Int) - 1))=_;rw [eL];exact wR hlast) (zg (qj (a:=(x,at_)) (by show gl out (Int.toNat (wrF .i64 ((out.length:Int) - 1)))=_;rw [eL,xw];exact hlast) ?_)))
      refine za ?_
      show out.set (Int.toNat (wrF .i64 ((out.length:Int) - 1))) (x,jB (wrF .i64 ((wrF .i64 (at_ - (at_ % g.2 - qG (g.1.take i))))+e.2)) b)=_
      rw [eL,eEnd,Int.toNat_natCast,hm]
      simp
     rintro ⟨j,⟨⟩,c,⟨⟩⟩ hc
     simp only at hc
     subst hc
     refine zk (J:=fun x'=>x'.2.2.1=m++[(x,E)]) (zd rfl (ze rfl (za rfl))) ?_
     rintro ⟨j,⟨⟩,c,⟨⟩⟩ hc
     simp only at hc
     subst hc
     refine za (zb9 ⟨?_,?_,?_,fun _=>⟨m,x,?_⟩,fun h=>(by cases h)⟩ ?_)
     ·show a≤jB _ _;rw [eEnd];omega
     ·show jB _ _≤b;rw [eEnd];omega
     ·show Cov _ _ (jB _ _) _;rw [eEnd];rw [hm] at hcov;exact zEv hcov (by omega) hst'
     ·show _=m++[(x,jB _ _)];rw [eEnd]
     ·show (b - jB _ _).toNat < (b - at_).toNat;rw [eEnd];omega
    |false=>
     subst hop
     refine zk (J:=fun x'=>x'.2.2.1=out) (zd rfl (ze rfl (za rfl))) ?_
     rintro ⟨j,⟨⟩,c,⟨⟩⟩ hc
     simp only at hc
     subst hc
     refine zk (J:=fun x'=>x'.2.2.1=c++[(at_,E)]) (zd rfl (zd rfl (zd (yc (by show (c.length+1)*16≤_;omega) (by show c.length+1≤_;omega)) (za ?_)))) ?_
     ·show c++[(at_,jB (wrF .i64 ((wrF .i64 (at_ - (at_ % g.2 - qG (g.1.take i))))+e.2)) b)]=_
      rw [eEnd]
     rintro ⟨j,⟨⟩,c',⟨⟩⟩ hc
     simp only at hc
     subst hc
     refine za (zb9 ⟨?_,?_,?_,fun _=>⟨c,at_,?_⟩,fun h=>(by cases h)⟩ ?_)
     ·show a≤jB _ _;rw [eEnd];omega
     ·show jB _ _≤b;rw [eEnd];omega
     ·show Cov _ _ (jB _ _) _;rw [eEnd];exact zAd hcov hE1 h1 (hf rfl) hst'
     ·show _=c++[(at_,jB _ _)];rw [eEnd]
     ·show (b - jB _ _).toNat < (b - at_).toNat;rw [eEnd];omega
   |false=>
    rw [ho] at hst'
    refine zk (J:=fun x'=>x'.2.2.1=out) (ze rfl (za rfl)) ?_
    rintro ⟨j,⟨⟩,c,⟨⟩⟩ hc
    simp only at hc
    subst hc
    refine zk (J:=fun x'=>x'.2.2.1=c) (ze rfl (za rfl)) ?_
    rintro ⟨j,⟨⟩,c',⟨⟩⟩ hc
    simp only at hc
    subst hc
    refine za (zb9 ⟨?_,?_,?_,fun h=>(by cases h),fun _ p hp=>?_⟩ ?_)
    ·show a≤jB _ _;rw [eEnd];omega
    ·show jB _ _≤b;rw [eEnd];omega
    ·show Cov _ _ (jB _ _) _;rw [eEnd];exact znP hcov (by omega) h1 hst'
    ·show p.2 < jB _ _;rw [eEnd];have:=hcov.bd p hp;omega
    ·show (b - jB _ _).toNat < (b - at_).toNat;rw [eEnd];omega
  ·rintro ⟨j,⟨v,w,⟨⟩⟩,c,⟨⟩⟩ hc
   exact za hc
 obtain ⟨⟨l,⟨⟩⟩,e,h⟩:=key
 exact ⟨l,e,h⟩
theorem zFL {o:Int→Bool} {a a' b:Int} {l:List (Int×Int)} (h:Cov o a b l) (hb:a'≤a) (hg:∀t,a'≤t→t < a→o t=false):Cov o a' b l:=by
 refine ⟨fun p hp=>by have:=h.bd p hp;omega,h.pw,fun t h1 h2=>?_⟩
 rcases Int.lt_or_le t a with h3 | h3
 ·rw [hg t h1 h3]
  constructor
  ·intro h;cases h
  ·rintro ⟨p,hp,h4,h5⟩
   have:=h.bd p hp;omega
 ·exact h.iff t h3 h2
def clo:List (Int×Int)→Nat
 |[]=>0
 |e::l=>if opn e.1=true then clo l+1 else 0
theorem zsI:∀l,clo l≤l.length
 |[]=>Nat.le_refl _
 |e::l=>by unfold clo;have:=zsI l;split<;>simp<;>omega
theorem zgd:∀(l:List (Int×Int)) (i:Nat) (e:Int×Int),i < clo l→l[i]?=some e→opn e.1=true
 |[],i,e,h,_=>by simp [clo] at h
 |a::l,0,e,h,h2=>by
  simp at h2;subst h2
  unfold clo at h
  split at h
  ·assumption
  ·omega
 |a::l,i+1,e,h,h2=>by
  unfold clo at h
  split at h
  ·exact zgd l i e (by omega) (by simpa using h2)
  ·omega
theorem zqF:∀(l:List (Int×Int)) (e:Int×Int),l[clo l]?=some e→opn e.1=false
 |[],e,h=>by simp [clo] at h
 |a::l,e,h=>by
  unfold clo at h
  split at h
  ·exact zqF l e (by simpa using h)
  ·rename_i h2
   simp at h;subst h
   simpa using h2
theorem znf {l:List (Int×Int)} (h:¬YO l):clo l < l.length:=by
 have:=zsI l
 apply Classical.byContradiction
 intro hn
 apply h
 intro e he
 obtain ⟨k,hk,hk2⟩:=jV he
 exact zgd l k e (by omega) hk2
theorem zFM {l:List (Int×Int)} (h:YO l):clo l=l.length:=by
 have:=zsI l
 apply Classical.byContradiction
 intro hn
 have hx:l[clo l]?=some (l[clo l]'(by omega)):=List.getElem?_eq_getElem (by omega)
 have:=zqF l _ hx
 rw [h _ (List.getElem_mem _)] at this
 cases this
def Inv (o:Int→Bool) (A at_:Int) (now:Int×Int) (L:List (Int×Int)):Prop:=
 A≤at_∧((now.2=0∧Cov o A at_ L∧∀p∈L,p.2 < at_)∨(0 < now.2∧now.1+now.2=at_∧A≤now.1∧Cov o A now.1 L∧(∀p∈L,p.2 < now.1)∧∀t,now.1≤t→t < at_→o t=true))
theorem zyX {o:Int→Bool} {A at_ d:Int} {now:Int×Int} {L:List (Int×Int)} (h:Inv o A at_ now L) (hd:0 < d) (ho:∀t,at_≤t→t < at_+d→o t=true):Inv o A (at_+d) (if now.2=0 then (at_,d) else (now.1,now.2+d)) L:=by
 obtain ⟨hA,h⟩:=h
 refine ⟨by omega,.inr ?_⟩
 rcases h with ⟨h1,h2,h3⟩ | ⟨h1,h2,h3,h4,h5,h6⟩
 ·rw [if_pos h1]
  exact ⟨hd,rfl,hA,h2,h3,ho⟩
 ·rw [if_neg (by omega)]
  refine ⟨by simp only;omega,by simp only;omega,h3,h4,h5,fun t t1 t2=>?_⟩
  simp only at t1
  rcases Int.lt_or_le t at_ with h7 | h7
  ·exact h6 t t1 h7
  ·exact ho t h7 t2
theorem zvl {o:Int→Bool} {A at_ d:Int} {now:Int×Int} {L:List (Int×Int)} (h:Inv o A at_ now L) (hd:0 < d) (hn:now.2=0) (ho:∀t,at_≤t→t < at_+d→o t=false):Inv o A (at_+d) (0,0) L:=by
 obtain ⟨hA,h⟩:=h
 refine ⟨by omega,.inl ⟨rfl,?_⟩⟩
 rcases h with ⟨h1,h2,h3⟩ | ⟨h1,h2,h3,h4,h5,h6⟩
 ·exact ⟨znP h2 (by omega) hA ho,fun p hp=>by have:=h3 p hp;omega⟩
 ·omega
theorem zyY {o:Int→Bool} {A at_ d:Int} {now:Int×Int} {L:List (Int×Int)} (h:Inv o A at_ now L) (hd:0 < d) (hn:0 < now.2) (ho:∀t,at_≤t→t < at_+d→o t=false):Inv o A (at_+d) (0,0) (L++[(now.1,now.1+now.2)]):=by
 obtain ⟨hA,h⟩:=h
 refine ⟨by omega,.inl ⟨rfl,?_⟩⟩
 rcases h with ⟨h1,h2,h3⟩ | ⟨h1,h2,h3,h4,h5,h6⟩
 ·omega
 ·have:=zAd (c:=now.1+now.2) h4 (by omega) h3 h5 fun t t1 t2=>h6 t t1 (by omega)
  refine ⟨znP this (by omega) (by omega) fun t t1 t2=>ho t (by omega) t2,fun p hp=>?_⟩
  rcases List.mem_append.1 hp with hp | hp
  ·have:=h5 p hp;omega
  ·simp at hp;subst hp;simp only;omega
def at0 (g:Gts):Int:=qG (g.1.take (clo g.1))
structure gL (g:Gts) (L:List (Int×Int)):Prop where
 cv:Cov (opT g) (at0 g) (at0 g+g.2) L
 gt:∀p∈L,at0 g < p.1
theorem zng {g:Gts} (hg:qx g):0≤at0 g∧at0 g≤9600000:=by
 unfold at0
 have hb:=Qv (l:=g.1.take (clo g.1)) fun e he=>hg.el e (List.mem_of_mem_take he)
 have hle:=Km hg.el (zsI g.1)
 rw [Kn,hg.cy] at hle
 have:=hg.c1
 omega
theorem znQ {g:Gts} (hg:qx g) (ha:¬YO g.1):∃e,g.1[clo g.1]?=some e∧opn e.1=false∧zcn e∧tAt g (clo g.1)=at0 g:=by
 have hl:=znf ha
 have hx:g.1[clo g.1]?=some (g.1[clo g.1]):=List.getElem?_eq_getElem hl
 exact ⟨_,hx,zqF _ _ hx,hg.el _ (List.getElem_mem hl),zyT hl⟩
theorem zyZ {g:Gts} (hg:qx g) (ha:¬YO g.1) {L L':List (Int×Int)} (h:Cov (opT g) (tAt g (clo g.1+1)) (tAt g (clo g.1+1)+g.2) L) (hr:gL g L'):L'=L:=by
 obtain ⟨e,hx,he,hen,h0⟩:=znQ hg ha
 have hm:clo g.1 % g.1.length=clo g.1:=Nat.mod_eq_of_lt (znf ha)
 have hts:=zgc hg (k:=clo g.1) (e:=e) (by rw [hm];exact hx)
 have hd:=hen.2.2.1
 have hp:=hg.pos
 have hcl:∀t,at0 g≤t→t < at0 g+e.2→opT g t=false:=fun t t1 t2=>by
  rw [zyU hg (k:=clo g.1) (e:=e) (by rw [hm];exact hx) (by omega) (by omega)];exact he
 have c1:Cov (opT g) (at0 g) (at0 g+g.2+e.2) L':=znP hr.cv (by omega) (by omega) fun t t1 t2=>by
  have:=zAb g (t - g.2)
  rw [Int.sub_add_cancel] at this
  rw [this];exact hcl _ (by omega) (by omega)
 have c2:Cov (opT g) (at0 g) (at0 g+g.2+e.2) L:=by
  rw [hts,h0] at h
  have:=zFL h (show at0 g≤at0 g+e.2 by omega) hcl
  rwa [show at0 g+e.2+g.2=at0 g+g.2+e.2 by omega] at this
 exact zqE c1 c2
theorem zsJ {g:Gts} (hg:qx g) (ha:¬YO g.1):∃L,vE (g,())=some (L,())∧gL g L:=by
 have hl:=znf ha
 obtain ⟨e,hx,he,hen,h0⟩:=znQ hg ha
 have h0b:=zng hg
 have hc:=hg.c1;have hp:=hg.pos;have hn:=hg.n1
 obtain ⟨L,hL,hcv⟩:=zc6 hg (a:=at0 g) (b:=at0 g+g.2) (by omega) (by omega) (by omega)
 refine ⟨L,?_,hcv,fun p hp'=>?_⟩
 ·rw [zqf];unfold zdG
  refine yb (zk (J:=fun x=>x.2.1.1=at0 g) (zW (clo g.1) (fun i s=>s=((qG (g.1.take i),((i:Int),())),())) (by omega) rfl ?_ ?_) ?_)
  ·rintro i _ hi rfl
   have hy:g.1[i]?=some g.1[i]:=List.getElem?_eq_getElem (by omega)
   have hm:=List.getElem_mem (show i < g.1.length by omega)
   generalize g.1[i]=f at hy hm
   have hf:=hg.el f hm
   have hb:=Qv (l:=g.1.take i) fun e he=>hg.el e (List.mem_of_mem_take he)
   have hbl:(g.1.take i).length≤128:=by simp;omega
   refine zd (zR (show (i:Int) < (g.1.length:Int) by omega)) (zg (zx (n:=i) hy ?_))
   rw [UX hf.1]
   refine zd (zgd _ i f hi hy) (zg (zx (n:=i) hy (za (ql ?_))))
   show (((wrF .i64 (qG (g.1.take i)+f.2)),((wrF .i64 ((i:Int)+1)),())),())=_
   have:=hf.2.2.1;have:=hf.2.2.2
   rw [kz hy,qq (by omega),zD (by omega) (by omega)]
  ·rintro _ rfl
   refine zd (zR (show ((clo g.1:Nat):Int) < (g.1.length:Int) by omega)) (zg (zx (n:=clo g.1) hx ?_))
   rw [UX hen.1]
   exact ze he (za (zq rfl))
  ·rintro ⟨j,⟨v,w,⟨⟩⟩,⟨⟩⟩ hv
   simp only at hv
   subst hv
   rw [show wrF .i64 (at0 g+g.2)=at0 g+g.2 from zD (by omega) (by omega),hL]
   exact za rfl
 ·have hb:=hcv.bd p hp'
  have hm:clo g.1 % g.1.length=clo g.1:=Nat.mod_eq_of_lt hl
  have hd:=hen.2.2.1
  rcases Int.lt_or_le (at0 g) p.1 with h | h
  ·exact h
  ·exfalso
   have e1:p.1=at0 g:=by omega
   have:=(hcv.iff p.1 hb.1 (by omega)).2 ⟨p,hp',by omega,hb.2.1⟩
   rw [zyU hg (k:=clo g.1) (e:=e) (by rw [hm];exact hx) (by omega) (by omega),he] at this
   cases this
theorem zsK {g:Gts} (hg:qx g) {k:Nat} (h:k≤4*g.1.length):0≤tAt g k∧tAt g k≤5*9600000:=by
 have h0:=hg.n0;have hp:=hg.pos;have hc:=hg.c1
 unfold tAt
 have hm:k % g.1.length < g.1.length:=Nat.mod_lt _ (by omega)
 have hb:=Qv (l:=g.1.take (k % g.1.length)) fun e he=>hg.el e (List.mem_of_mem_take he)
 have hle:=Km hg.el (show k % g.1.length≤g.1.length by omega)
 rw [Kn,hg.cy] at hle
 have hd:k / g.1.length≤4:=by
  have:k / g.1.length < 5:=Nat.div_lt_of_lt_mul (by omega)
  omega
 have h1:((k / g.1.length:Nat):Int)≤4:=by exact_mod_cast hd
 have:((k / g.1.length:Nat):Int)*g.2≤4*g.2:=Int.mul_le_mul_of_nonneg_right h1 (by omega)
 have:0≤((k / g.1.length:Nat):Int)*g.2:=Int.mul_nonneg (Int.natCast_nonneg _) (by omega)
 omega
theorem zAe {g:Gts} (hg:qx g) {c i:Nat} (hc:c < 1000000) (hi:i < 1000000):Int.tmod (wrF .i64 ((wrF .i64 ((c:Int)+1))+(i:Int))) (g.1.length:Int)=(((c+1+i) % g.1.length:Nat):Int):=by
 rw [qq (by omega),zD (by omega) (by omega),Int.tmod_eq_emod_of_nonneg (by omega),←Int.natCast_add,←Int.natCast_emod]
theorem zCO {g:Gts} (hg:qx g) (k:Nat):∃e,g.1[k % g.1.length]?=some e∧zcn e∧tAt g (k+1)=tAt g k+e.2∧∀t,tAt g k≤t→t < tAt g k+e.2→opT g t=opn e.1:=by
 have h0:=hg.n0
 have hm:k % g.1.length < g.1.length:=Nat.mod_lt _ (by omega)
 have hx:g.1[k % g.1.length]?=some (g.1[k % g.1.length]):=List.getElem?_eq_getElem hm
 exact ⟨_,hx,hg.el _ (List.getElem_mem hm),zgc hg hx,fun t t1 t2=>zyU hg hx t1 t2⟩
theorem zCP {o:Int→Bool} {A at_:Int} {now:Int×Int} {L:List (Int×Int)} (h:Inv o A at_ now L) (hA:0≤A) (hat:at_≤5*9600000):0≤now.2∧now.2≤at_:=by
 obtain ⟨hA',h⟩:=h
 rcases h with ⟨h1,h2,h3⟩ | ⟨h1,h2,h3,h4,h5,h6⟩<;>omega
theorem zbK {g:Gts} (hg:qx g) (ha:¬YO g.1) {L:List (Int×Int)} (hr:gL g L) {lost:Int} (l0:0≤lost) (l1:lost≤1000000000000):vQ (g,lost,())=some (jc lost L,()):=by
 have hl:=znf ha
 obtain ⟨e,hx,he,hen,h0⟩:=znQ hg ha
 have h0b:=zng hg
 have hc:=hg.c1;have hp:=hg.pos;have hn:=hg.n1;have hn0:=hg.n0
 rw [zaX];unfold WW
 simp only [zc5 hg,zw,zQ ha,cond_false]
 refine yb (zk (J:=fun x=>x.2.1=(0,(at0 g,(((clo g.1:Nat):Int),())))) (zW (clo g.1) (fun i s=>s=((0,(qG (g.1.take i),((i:Int),()))),((),((),())))) (by omega) rfl ?_ ?_) ?_)
 ·rintro i _ hi rfl
  have hy:g.1[i]?=some g.1[i]:=List.getElem?_eq_getElem (by omega)
  have hm:=List.getElem_mem (show i < g.1.length by omega)
  generalize g.1[i]=f at hy hm
  have hf:=hg.el f hm
  have hb:=Qv (l:=g.1.take i) fun e he=>hg.el e (List.mem_of_mem_take he)
  have hbl:(g.1.take i).length≤128:=by simp;omega
  refine zd (zR (show (i:Int) < (g.1.length:Int) by omega)) (zg (zx (n:=i) hy ?_))
  rw [xt hf]
  refine zd (zgd _ i f hi hy) (zg (zx (n:=i) hy (za (ql ?_))))
  show ((0,((wrF .i64 (qG (g.1.take i)+f.2)),((wrF .i64 ((i:Int)+1)),()))),((),((),())))=_
  have:=hf.2.2.1;have:=hf.2.2.2
  rw [kz hy,qq (by omega),zD (by omega) (by omega)]
 ·rintro _ rfl
  refine zd (zR (show ((clo g.1:Nat):Int) < (g.1.length:Int) by omega)) (zg (zx (n:=clo g.1) hx ?_))
  rw [xt hen]
  exact ze he (za (zq rfl))
 rintro ⟨j,⟨v,w,z,⟨⟩⟩,⟨⟩,⟨⟩,⟨⟩⟩ hv
 simp only [Prod.mk.injEq,and_true] at hv
 obtain ⟨rfl,rfl,rfl⟩:=hv
 refine ze (qI (show ((clo g.1:Nat):Int)≠(g.1.length:Int) by omega)) (zg (zx (n:=clo g.1) hx ?_))
 have hm:clo g.1 % g.1.length=clo g.1:=Nat.mod_eq_of_lt hl
 have hts:=zgc hg (k:=clo g.1) (e:=e) (by rw [hm];exact hx)
 have hA:=zsK hg (k:=clo g.1+1) (by omega)
 refine zk (J:=fun x=>x.2.1.2.1=jc lost L) (zW g.1.length (fun i s=>∃now L',s=((now,(jc lost L',(tAt g (clo g.1+1+i),((i:Int),())))),((),((),())))∧Inv (opT g) (tAt g (clo g.1+1)) (tAt g (clo g.1+1+i)) now L'∧(∀f,0 < i→g.1[(clo g.1+i) % g.1.length]?=some f→opn f.1=false→now.2=0)) (by omega) ?_ ?_ ?_) ?_
 ·refine ⟨(0,0),[],?_,⟨Int.le_refl _,.inl ⟨rfl,zuu _ _,fun p hp=>(by cases hp)⟩⟩,fun f h=>by omega⟩
  show (((0,0),(0,((wrF .i64 (at0 g+e.2)),(0,())))),((),((),())))=_
  rw [Nat.add_zero,hts,h0,zD (by omega) (by have:=hen.2.2.2;omega)];rfl
 ·rintro i _ hi ⟨now,L',rfl,hinv,_⟩
  obtain ⟨f,hy,hf,hsu,hop⟩:=zCO hg (clo g.1+1+i)
  have hB:=zsK hg (k:=clo g.1+1+i) (by omega)
  have hnb:=zCP hinv hA.1 hB.2
  have hmm:(clo g.1+1+i) % g.1.length < g.1.length:=Nat.mod_lt _ (by omega)
  have f1:=hf.2.2.1;have f2:=hf.2.2.2
  refine zd (zR (show (i:Int) < (g.1.length:Int) by omega)) (ze (qI (show (g.1.length:Int)≠0 by omega)) ?_)
  refine zg (qj (a:=f) (by show atI g.1 (Int.tmod (wrF .i64 ((wrF .i64 (((clo g.1:Nat):Int)+1))+(i:Int))) (g.1.length:Int))=_;rw [zAe hg (by omega) (by omega)];exact wR hy) ?_)
  rw [xt hf]
  have eat:wrF .i64 (tAt g (clo g.1+1+i)+f.2)=tAt g (clo g.1+1+(i+1)):=by
   rw [show clo g.1+1+(i+1)=clo g.1+1+i+1 from rfl,hsu,zD (by omega) (by omega)]
  have eup:wrF .i64 ((i:Int)+1)=((i+1:Nat):Int):=qq (by omega)
  have idx:∀f',0 < i+1→g.1[(clo g.1+(i+1)) % g.1.length]?=some f'→f'=f:=fun f' _ h=>by
   rw [show clo g.1+(i+1)=clo g.1+1+i by omega,hy] at h
   exact (Option.some.inj h).symm
  refine zj (fun ho=>?_) (fun ho=>?_)
  ·have ho:opn f.1=true:=ho
   rw [ho] at hop
   have hi2:=zyX hinv (show 0 < f.2 by omega) hop
   refine zk (J:=fun x=>x.2.1.1=if now.2=0 then (tAt g (clo g.1+1+i),0) else now) (zj (fun h=>?_) (fun h=>?_)) ?_
   ·have h:now.2=0:=qL h
    refine za ?_
    rw [if_pos h]
    show (tAt g (clo g.1+1+i),now.2)=_
    rw [h]
   ·have h:now.2≠0:=jR h
    exact za (by rw [if_neg h])
   ·rintro ⟨j,⟨nw,⟨⟩⟩,⟨⟩,⟨⟩,⟨⟩⟩ hnw
    simp only at hnw
    subst hnw
    refine za (ql ⟨_,L',?_,(by rw [←hsu] at hi2;exact hi2),fun f' h1 h2 h3=>?_⟩)
    ·show ((((if now.2=0 then (tAt g (clo g.1+1+i),0) else now).1,(wrF .i64 ((if now.2=0 then (tAt g (clo g.1+1+i),0) else now).2+f.2))),(jc lost L',((wrF .i64 (tAt g (clo g.1+1+i)+f.2)),((wrF .i64 ((i:Int)+1)),())))),((),((),())))=_
     rw [eat,eup]
     by_cases h:now.2=0
     ·rw [if_pos h,if_pos h]
      simp only
      rw [zD (by omega) (by omega),Int.zero_add]
     ·rw [if_neg h,if_neg h,zD (by omega) (by omega)]
    ·rw [idx f' h1 h2,ho] at h3;cases h3
  ·have ho:opn f.1=false:=ho
   rw [ho] at hop
   refine zj (fun h=>?_) (fun h=>?_)
   ·have h:0 < now.2:=qn h
    have hi2:=zyY hinv (show 0 < f.2 by omega) h hop
    have hgb:=Ve (lost:=lost) l0 (l:=L'++[(now.1,now.1+now.2)]) (a:=tAt g (clo g.1+1)) (b:=tAt g (clo g.1+1+i)+f.2) hi2.1 (by
      rcases hi2.2 with ⟨_,hc,_⟩ | ⟨h',_⟩
      ·exact hc.bd
      ·simp at h') (by
      rcases hi2.2 with ⟨_,hc,_⟩ | ⟨h',_⟩
      ·exact hc.pw
      ·simp at h')
    have eg:jc lost (L'++[(now.1,now.1+now.2)])=jc lost L'+max 0 (now.2 - lost):=by
     unfold jc;simp only [List.map_append,List.sum_append,List.map_cons,List.map_nil,List.sum_cons,List.sum_nil]
     omega
    have hg1:=Ve (lost:=lost) l0 (l:=L') (a:=tAt g (clo g.1+1)) (b:=tAt g (clo g.1+1+i)) hinv.1 (by
      rcases hinv.2 with ⟨_,hc,_⟩ | ⟨_,h',_,hc,_⟩
      ·exact hc.bd
      ·exact fun p hp=>by have:=hc.bd p hp;omega) (by
      rcases hinv.2 with ⟨_,hc,_⟩ | ⟨_,_,_,hc,_⟩
      ·exact hc.pw
      ·exact hc.pw)
    refine za (ql ⟨(0,0),_,?_,(by rw [←hsu] at hi2;exact hi2),fun f' h1 h2 h3=>rfl⟩)
    show (((0,0),((wrF .i64 (jc lost L'+ur 0 (wrF .i64 (now.2 - lost)))),((wrF .i64 (tAt g (clo g.1+1+i)+f.2)),((wrF .i64 ((i:Int)+1)),())))),((),((),())))=_
    rw [eat,eup,JB,zD (z:=now.2 - lost) (by omega) (by omega),eg,zD (by omega) (by omega)]
   ·have h:now.2=0:=by have:now.2≤0:=qw h;omega
    have hi2:=zvl hinv (show 0 < f.2 by omega) h hop
    refine za (ql ⟨(0,0),L',?_,(by rw [←hsu] at hi2;exact hi2),fun f' h1 h2 h3=>rfl⟩)
    show (((0,0),(jc lost L',((wrF .i64 (tAt g (clo g.1+1+i)+f.2)),((wrF .i64 ((i:Int)+1)),())))),((),((),())))=_
    rw [eat,eup]
 ·rintro _ ⟨now,L',rfl,hinv,hlast⟩
  refine ze (zG (show ¬(g.1.length:Int) < (g.1.length:Int) by omega)) (za (zq ?_))
  have hz:=hlast e (by omega) (by rw [Nat.add_mod_right,hm];exact hx) he
  show jc lost L'=jc lost L
  rcases hinv.2 with ⟨_,hc,_⟩ | ⟨h',_⟩
  ·rw [zAc hg] at hc
   rw [zyZ hg ha hc hr]
  ·omega
 ·rintro ⟨j,⟨nw,v,w,z,⟨⟩⟩,⟨⟩,⟨⟩,⟨⟩⟩ hv
  refine zj (fun _=>?_) (fun _=>?_)<;>exact za hv
theorem ziw {g:Gts} (hg:qx g) (ha:YO g.1) (lost:Int):vQ (g,lost,())=some (g.2,()):=by
 rw [zaX];unfold WW
 simp only [zc5 hg,zw,zF ha,cond_true]
theorem zgX {g:Gts} (hg:qx g) (ha:¬YO g.1) {L:List (Int×Int)} (hL:vE (g,())=some (L,())) (hr:gL g L) {per most:Int} (l0:0≤most*per) (l1:most*per≤1000000000000):JT (g,per,most,())=some (jc (most*per) L,()):=by
 have h0b:=zng hg;have hc:=hg.c1;have hp:=hg.pos
 rw [zfM];unfold UP
 simp only [Ji hg,zw,zQ ha,cond_false,hL]
 rw [show wrF .i64 (most*per)=most*per from zD (by omega) (by omega),zkH l0 l1 (a:=at0 g) (b:=at0 g+g.2) (by omega) hr.cv.bd hr.cv.pw (by omega) (by omega)]
 rfl
theorem zor {g:Gts} (hg:qx g) (ha:YO g.1) (per most:Int):JT (g,per,most,())=some (g.2,()):=by
 rw [zfM];unfold UP
 simp only [Ji hg,zw,zF ha,cond_true]
def bX (g:Gts) (L:List (Int×Int)) (q:Nat):Int:=((L[q % L.length]?).getD (0,0)).1+((q / L.length:Nat):Int)*g.2
def bY (g:Gts) (L:List (Int×Int)) (q:Nat):Int:=((L[q % L.length]?).getD (0,0)).2+((q / L.length:Nat):Int)*g.2
theorem zGB {L:List (Int×Int)} (h:0 < L.length) (q:Nat):∃p,L[q % L.length]?=some p∧p∈L∧∀g,bX g L q=p.1+((q / L.length:Nat):Int)*g.2∧bY g L q=p.2+((q / L.length:Nat):Int)*g.2:=by
 have hm:q % L.length < L.length:=Nat.mod_lt _ h
 have hx:L[q % L.length]?=some (L[q % L.length]):=List.getElem?_eq_getElem hm
 refine ⟨_,hx,List.getElem_mem hm,fun g=>?_⟩
 unfold bX bY
 rw [hx]
 exact ⟨rfl,rfl⟩
theorem zsL (g:Gts) {L:List (Int×Int)} (h:0 < L.length) (q:Nat):bX g L (q+L.length)=bX g L q+g.2∧bY g L (q+L.length)=bY g L q+g.2:=by
 unfold bX bY
 rw [Nat.add_mod_right,Nat.add_div_right _ h,Int.natCast_succ,Int.add_mul]
 omega
theorem Jj {g:Gts} {L:List (Int×Int)} (hr:gL g L) (h:0 < L.length) (q:Nat):bX g L q < bY g L q∧at0 g+((q / L.length:Nat):Int)*g.2 < bX g L q∧bY g L q≤at0 g+((q / L.length:Nat):Int)*g.2+g.2:=by
 obtain ⟨p,hx,hp,he⟩:=zGB h q
 obtain ⟨e1,e2⟩:=he g
 have:=hr.cv.bd p hp
 have:=hr.gt p hp
 omega
theorem zBx {g:Gts} {L:List (Int×Int)} (hr:gL g L) (h:0 < L.length) (q:Nat):bY g L q < bX g L (q+1):=by
 rcases Nat.lt_or_ge (q % L.length+1) L.length with h1 | h1
 ·have e1:(q+1) % L.length=q % L.length+1:=by
   rw [Nat.add_mod,Nat.mod_eq_of_lt (show 1 < L.length by omega),Nat.mod_eq_of_lt h1]
  have e2:(q+1) / L.length=q / L.length:=by
   have a:=Nat.div_add_mod (q+1) L.length
   have a2:=Nat.div_add_mod q L.length
   rw [e1] at a
   have b:L.length*((q+1) / L.length)=L.length*(q / L.length):=by omega
   exact Nat.eq_of_mul_eq_mul_left (by omega) b
  have hx:L[q % L.length]?=some (L[q % L.length]'(by omega)):=List.getElem?_eq_getElem (by omega)
  have hy:L[q % L.length+1]?=some (L[q % L.length+1]'h1):=List.getElem?_eq_getElem h1
  have:=List.pairwise_iff_getElem.1 hr.cv.pw (q % L.length) (q % L.length+1) (by omega) h1 (by omega)
  unfold bX bY
  rw [e1,e2,hx,hy]
  simp only [Option.getD_some]
  omega
 ·have hm:=Nat.mod_lt q h
  have h2:q % L.length+1=L.length:=by omega
  have a2:=Nat.div_add_mod q L.length
  have e3:q+1=(q / L.length+1)*L.length:=by
   rw [Nat.add_mul,Nat.mul_comm];omega
  have e2:(q+1) / L.length=q / L.length+1:=by rw [e3];exact Nat.mul_div_left _ (by omega)
  have b1:=Jj hr h q
  have b2:=Jj hr h (q+1)
  rw [e2,Int.natCast_succ,Int.add_mul] at b2
  omega
theorem zd0 {g:Gts} {L:List (Int×Int)} (hr:gL g L) (h:0 < L.length) {q r:Nat} (hq:q < r):bY g L q < bX g L r:=by
 obtain ⟨d,rfl⟩:∃d,r=q+1+d:=⟨r - q - 1,by omega⟩
 induction d with
 |zero=>exact zBx hr h q
 |succ d ih=>
  have:=ih (by omega)
  have:=Jj hr h (q+1+d)
  have:=zBx hr h (q+1+d)
  rw [show q+1+(d+1)=q+1+d+1 from rfl]
  omega
theorem zFN {g:Gts} {L:List (Int×Int)} (hr:gL g L) (h:0 < L.length) {t:Int} (h1:at0 g≤t) (h2:t < at0 g+g.2+g.2):opT g t=true↔∃q,q < 2*L.length∧bX g L q≤t∧t < bY g L q:=by
 have lo:∀q,q < L.length→bX g L q=((L[q]?).getD (0,0)).1∧bY g L q=((L[q]?).getD (0,0)).2:=fun q hq=>by
  unfold bX bY;rw [Nat.mod_eq_of_lt hq,Nat.div_eq_of_lt hq];simp
 rcases Int.lt_or_le t (at0 g+g.2) with h3 | h3
 ·rw [hr.cv.iff t h1 h3]
  constructor
  ·rintro ⟨p,hp,h4,h5⟩
   obtain ⟨k,hk,hk2⟩:=jV hp
   obtain ⟨e1,e2⟩:=lo k hk
   rw [hk2] at e1 e2
   exact ⟨k,by omega,by rw [e1];exact h4,by rw [e2];exact h5⟩
  ·rintro ⟨q,hq,h4,h5⟩
   rcases Nat.lt_or_ge q L.length with h6 | h6
   ·obtain ⟨e1,e2⟩:=lo q h6
    have hx:L[q]?=some L[q]:=List.getElem?_eq_getElem h6
    rw [hx] at e1 e2
    exact ⟨L[q],List.getElem_mem h6,by rw [e1] at h4;exact h4,by rw [e2] at h5;exact h5⟩
   ·have:=Jj hr h q
    have hd:q / L.length=1:=by
     have:q / L.length < 2:=Nat.div_lt_of_lt_mul (by omega)
     have:1≤q / L.length:=(Nat.le_div_iff_mul_le h).2 (by omega)
     omega
    rw [hd] at this
    omega
 ·have hp:=zAb g (t - g.2)
  rw [Int.sub_add_cancel] at hp
  rw [hp,hr.cv.iff (t - g.2) (by omega) (by omega)]
  constructor
  ·rintro ⟨p,hp,h4,h5⟩
   obtain ⟨k,hk,hk2⟩:=jV hp
   obtain ⟨e1,e2⟩:=lo k hk
   rw [hk2] at e1 e2
   simp only [Option.getD_some] at e1 e2
   obtain ⟨a1,a2⟩:=zsL g h k
   exact ⟨k+L.length,by omega,by omega,by omega⟩
  ·rintro ⟨q,hq,h4,h5⟩
   rcases Nat.lt_or_ge q L.length with h6 | h6
   ·have:=Jj hr h q
    rw [Nat.div_eq_of_lt h6] at this
    omega
   ·obtain ⟨k,rfl⟩:∃k,q=k+L.length:=⟨q - L.length,by omega⟩
    have h7:k < L.length:=by omega
    obtain ⟨a1,a2⟩:=zsL g h k
    obtain ⟨e1,e2⟩:=lo k h7
    have hx:L[k]?=some L[k]:=List.getElem?_eq_getElem h7
    rw [hx] at e1 e2
    simp only [Option.getD_some] at e1 e2
    exact ⟨L[k],List.getElem_mem h7,by omega,by omega⟩
def mn (g:Gts) (L:List (Int×Int)) (lost:Int) (q:Nat):Int:=min (bY g L q - bX g L q) lost
def fr (g:Gts) (L:List (Int×Int)) (lost:Int) (i:Nat):Int:=bY g L i - mn g L lost i
def tt (g:Gts) (L:List (Int×Int)) (lost:Int) (j:Nat):Int:=bX g L j+mn g L lost j
def wg (g:Gts) (L:List (Int×Int)) (lost:Int) (q:Nat):Int:=max 0 (bY g L q - bX g L q - lost)
def ju (g:Gts) (L:List (Int×Int)) (lost:Int) (i:Nat):Nat→Int
 |0=>0
 |k+1=>ju g L lost i k+wg g L lost (i+1+k)
def snt (g:Gts) (L:List (Int×Int)) (lost:Int) (i j:Nat):Int:=ju g L lost i (j - i - 1)
def pcs (g:Gts) (L:List (Int×Int)) (lost:Int) (i j n:Nat):List (Int×Int):=(List.range n).map fun d=>(max (fr g L lost i) (bX g L (i+d)),min (tt g L lost j) (bY g L (i+d)))
theorem zFO {g:Gts} {L:List (Int×Int)} (hr:gL g L) (h:0 < L.length) {lost:Int} (hl:0 < lost) {i j:Nat} (hi:i < L.length) (hij:i≤j) (hj:j < 2*L.length) (hf:fr g L lost i < tt g L lost j):Cov (opT g) (fr g L lost i) (tt g L lost j) (pcs g L lost i j (j - i+1)):=by
 have xi:=Jj hr h i;have xj:=Jj hr h j
 rw [Nat.div_eq_of_lt hi] at xi
 have hdj:j / L.length≤1:=by
  have:j / L.length < 2:=Nat.div_lt_of_lt_mul (by omega)
  omega
 have hjm:((j / L.length:Nat):Int)*g.2≤g.2:=by
  have h1:j / L.length=0∨j / L.length=1:=Nat.le_one_iff_eq_zero_or_eq_one.1 hdj
  have hpos:0≤g.2:=by omega
  rcases h1 with h1 | h1<;>rw [h1]<;>simp<;>omega
 refine ⟨fun p hp=>?_,?_,fun t t1 t2=>?_⟩
 ·obtain ⟨d,hd,rfl⟩:=List.mem_map.1 hp
  have hd:=List.mem_range.1 hd
  have x:=Jj hr h (i+d)
  have lo:bX g L (i+d) < tt g L lost j:=by
   rcases Nat.lt_or_ge (i+d) j with h1 | h1
   ·have:=zd0 hr h h1
    unfold tt mn;omega
   ·have:i+d=j:=by omega
    rw [this];unfold tt mn;omega
  have hi:fr g L lost i < bY g L (i+d):=by
   rcases Nat.eq_zero_or_pos d with h1 | h1
   ·rw [h1,Nat.add_zero];unfold fr mn;omega
   ·have:=zd0 hr h (show i < i+d by omega)
    unfold fr mn;omega
  simp only
  omega
 ·unfold pcs
  rw [List.pairwise_map]
  refine List.Pairwise.imp ?_ (List.pairwise_lt_range)
  intro d e hde
  have:=zd0 hr h (show i+d < i+e by omega)
  simp only
  omega
 ·have f1:bX g L i≤fr g L lost i:=by unfold fr mn;omega
  have g1:tt g L lost j≤bY g L j:=by unfold tt mn;omega
  rw [zFN hr h (t:=t) (by omega) (by omega)]
  constructor
  ·rintro ⟨q,hq,h4,h5⟩
   have h6:i≤q:=by
    apply Classical.byContradiction
    intro hn
    have:=zd0 hr h (show q < i by omega)
    omega
   have h7:q≤j:=by
    apply Classical.byContradiction
    intro hn
    have:=zd0 hr h (show j < q by omega)
    omega
   refine ⟨_,List.mem_map.2 ⟨q - i,List.mem_range.2 (by omega),rfl⟩,?_,?_⟩
   ·rw [show i+(q - i)=q by omega];simp only;omega
   ·rw [show i+(q - i)=q by omega];simp only;omega
  ·rintro ⟨p,hp,h4,h5⟩
   obtain ⟨d,hd,rfl⟩:=List.mem_map.1 hp
   have hd:=List.mem_range.1 hd
   simp only at h4 h5
   exact ⟨i+d,by omega,by omega,by omega⟩
theorem znh (lost:Int) (l:List (Int×Int)) (p:Int×Int):jc lost (l++[p])=jc lost l+max 0 (p.2 - p.1 - lost):=by
 unfold jc;simp
theorem zEw {g:Gts} {L:List (Int×Int)} (hr:gL g L) (h:0 < L.length) {lost:Int} (hl:0 < lost) {i j:Nat} (hij:i≤j) (hf:fr g L lost i < tt g L lost j):jc lost (pcs g L lost i j (j - i+1))=snt g L lost i j:=by
 have xi:=Jj hr h i;have xj:=Jj hr h j
 have first:∀d,d=0→max 0 (min (tt g L lost j) (bY g L (i+d)) - max (fr g L lost i) (bX g L (i+d)) - lost)=0:=by
  rintro d rfl
  rw [Nat.add_zero]
  unfold fr mn;omega
 have last:∀d,i+d=j→max 0 (min (tt g L lost j) (bY g L (i+d)) - max (fr g L lost i) (bX g L (i+d)) - lost)=0:=by
  intro d hd
  rw [hd]
  unfold tt mn;omega
 have mid:∀d,0 < d→i+d < j→max 0 (min (tt g L lost j) (bY g L (i+d)) - max (fr g L lost i) (bX g L (i+d)) - lost)=wg g L lost (i+d):=by
  intro d h1 h2
  have a1:=zd0 hr h (show i < i+d by omega)
  have a2:=zd0 hr h h2
  have a3:=Jj hr h (i+d)
  unfold wg fr tt mn
  omega
 have key:∀n,n < j - i→jc lost (pcs g L lost i j (n+1))=ju g L lost i n:=by
  intro n
  induction n with
  |zero=>
   intro _
   unfold pcs jc ju
   simp only [Nat.zero_add,List.range_one,List.map_cons,List.map_nil,List.sum_cons,List.sum_nil]
   have:=first 0 rfl
   omega
  |succ n ih=>
   intro hn
   have e:pcs g L lost i j (n+1+1)=pcs g L lost i j (n+1)++[(max (fr g L lost i) (bX g L (i+(n+1))),min (tt g L lost j) (bY g L (i+(n+1))))]:=by
    unfold pcs;rw [List.range_succ,List.map_append];rfl
   rw [e,znh,ih (by omega)]
   simp only
   rw [mid (n+1) (by omega) (by omega)]
   unfold ju
   rw [show i+1+n=i+(n+1) by omega]
   cases n<;>rfl
 unfold snt
 rcases Nat.eq_zero_or_pos (j - i) with h0 | h0
 ·have hj:i=j:=by omega
  rw [h0]
  unfold pcs jc ju
  simp only [Nat.zero_add,List.range_one,List.map_cons,List.map_nil,List.sum_cons,List.sum_nil,Nat.zero_sub]
  have:=first 0 rfl
  omega
 ·obtain ⟨n,hn⟩:∃n,j - i=n+1:=⟨j - i - 1,by omega⟩
  have e:pcs g L lost i j (n+1+1)=pcs g L lost i j (n+1)++[(max (fr g L lost i) (bX g L (i+(n+1))),min (tt g L lost j) (bY g L (i+(n+1))))]:=by
   unfold pcs;rw [List.range_succ,List.map_append];rfl
  rw [hn,e,znh,key n (by omega)]
  simp only
  rw [last (n+1) (by omega)]
  rw [Nat.add_sub_cancel];omega
theorem zni {g:Gts} (hg:qx g) {L:List (Int×Int)} (hr:gL g L) (h:0 < L.length) {q:Nat} (hq:q < 2*L.length):0≤bX g L q∧bY g L q≤30000000:=by
 have x:=Jj hr h q
 have h0b:=zng hg;have hc:=hg.c1;have hp:=hg.pos
 have h1:q / L.length=0∨q / L.length=1:=by
  have:q / L.length < 2:=Nat.div_lt_of_lt_mul (by omega)
  exact Nat.le_one_iff_eq_zero_or_eq_one.1 (Nat.le_of_lt_succ this)
 rcases h1 with h1 | h1<;>rw [h1] at x<;>simp at x<;>omega
theorem zsM {g:Gts} (hg:qx g) (ha:¬YO g.1) {L:List (Int×Int)} (hr:gL g L) (h:0 < L.length) {per most:Int} (p0:1≤per) (p1:per≤1000) (m0:84≤most) (m1:most≤1542) {i j:Nat} (hi:i < L.length) (hij:i≤j) (hj:j < 2*L.length) (hl:0 < most*per) (hl2:most*per≤1542000)
  (hf:fr g L (most*per) i < tt g L (most*per) j):XR (g,per,most,fr g L (most*per) i,tt g L (most*per) j - fr g L (most*per) i,())=some (snt g L (most*per) i j - 127*per,()):=by
 have bi:=zni hg hr h (show i < 2*L.length by omega);have bj:=zni hg hr h hj
 have xi:=Jj hr h i;have xj:=Jj hr h j
 have f1:bX g L i≤fr g L (most*per) i:=by unfold fr mn;omega
 have g1:tt g L (most*per) j≤bY g L j:=by unfold tt mn;omega
 obtain ⟨l,e,hc⟩:=zc6 hg (a:=fr g L (most*per) i) (b:=tt g L (most*per) j) (by omega) (by omega) (by omega)
 have hcv:=zFO hr h hl hi hij hj hf
 have hgn:=zEw hr h hl hij hf
 have:=zqE hc hcv
 subst this
 have hb:=Ve (lost:=most*per) (by omega) (a:=fr g L (most*per) i) (b:=tt g L (most*per) j) (by omega) hc.bd hc.pw
 rw [zqg];unfold zdH
 simp only [Ji hg,zw,zQ ha,cond_false]
 rw [show wrF .i64 (fr g L (most*per) i+(tt g L (most*per) j - fr g L (most*per) i))=tt g L (most*per) j from by rw [zD]<;>omega,e,zw,show wrF .i64 (most*per)=most*per from zD (by omega) (by omega),zkH (by omega) (by omega) (a:=fr g L (most*per) i) (b:=tt g L (most*per) j) (by omega) hc.bd hc.pw (by omega) (by omega),zw]
 rw [show wrF .i64 (127*per)=127*per from zD (by omega) (by omega),hgn]
 rw [hgn] at hb
 rw [zD (by omega) (by omega)]
def mxK (c:Nat→Bool) (V:Nat→Int):Nat→Int→Int
 |0,a=>a
 |k+1,a=>bif c k then max (mxK c V k a) (V k) else mxK c V k a
def mxN (c:Nat→Nat→Bool) (V:Nat→Nat→Int) (K:Nat):Nat→Int→Int
 |0,a=>a
 |n+1,a=>mxK (c n) (V n) K (mxN c V K n a)
theorem zCQ (c:Nat→Bool) (V:Nat→Int):∀(k:Nat) (a:Int),a≤mxK c V k a∧∀q,q < k→c q=true→V q≤mxK c V k a
 |0,a=>⟨Int.le_refl _,fun q hq=>by omega⟩
 |k+1,a=>by
  obtain ⟨h1,h2⟩:=zCQ c V k a
  unfold mxK
  cases hc:c k with
  |true=>
   rw [cond_true]
   refine ⟨by omega,fun q hq hcq=>?_⟩
   rcases Nat.lt_or_ge q k with h | h
   ·have:=h2 q h hcq;omega
   ·have:q=k:=by omega
    subst this;omega
  |false=>
   rw [cond_false]
   refine ⟨h1,fun q hq hcq=>?_⟩
   rcases Nat.lt_or_ge q k with h | h
   ·exact h2 q h hcq
   ·have:q=k:=by omega
    subst this;rw [hc] at hcq;cases hcq
theorem zCR (c:Nat→Bool) (V:Nat→Int):∀(k:Nat) (a:Int),mxK c V k a=a∨∃q,q < k∧c q=true∧mxK c V k a=V q
 |0,a=>.inl rfl
 |k+1,a=>by
  have ih:=zCR c V k a
  unfold mxK
  cases hc:c k with
  |true=>
   rw [cond_true]
   rcases Int.le_total (V k) (mxK c V k a) with h | h
   ·rw [show max (mxK c V k a) (V k)=mxK c V k a by omega]
    rcases ih with h1 | ⟨q,h1,h2,h3⟩
    ·exact .inl h1
    ·exact .inr ⟨q,by omega,h2,h3⟩
   ·exact .inr ⟨k,by omega,hc,by omega⟩
  |false=>
   rw [cond_false]
   rcases ih with h1 | ⟨q,h1,h2,h3⟩
   ·exact .inl h1
   ·exact .inr ⟨q,by omega,h2,h3⟩
theorem znj (c:Nat→Nat→Bool) (V:Nat→Nat→Int) (K:Nat):∀(n:Nat) (a:Int),a≤mxN c V K n a∧∀i q,i < n→q < K→c i q=true→V i q≤mxN c V K n a
 |0,a=>⟨Int.le_refl _,fun i q hi=>by omega⟩
 |n+1,a=>by
  obtain ⟨h1,h2⟩:=znj c V K n a
  obtain ⟨h3,h4⟩:=zCQ (c n) (V n) K (mxN c V K n a)
  unfold mxN
  refine ⟨by omega,fun i q hi hq hc=>?_⟩
  rcases Nat.lt_or_ge i n with h | h
  ·have:=h2 i q h hq hc;omega
  ·have:i=n:=by omega
   subst this;exact h4 q hq hc
theorem znk (c:Nat→Nat→Bool) (V:Nat→Nat→Int) (K:Nat):∀(n:Nat) (a:Int),mxN c V K n a=a∨∃i q,i < n∧q < K∧c i q=true∧mxN c V K n a=V i q
 |0,a=>.inl rfl
 |n+1,a=>by
  unfold mxN
  rcases zCR (c n) (V n) K (mxN c V K n a) with h | ⟨q,h1,h2,h3⟩
  ·rw [h]
   rcases znk c V K n a with h | ⟨i,q,h1,h2,h3,h4⟩
   ·exact .inl h
   ·exact .inr ⟨i,q,by omega,h2,h3,h4⟩
  ·exact .inr ⟨n,q,by omega,h1,h2,h3⟩
section
variable {g:Gts} {L:List (Int×Int)} {lost:Int}
theorem zCS (h:0 < L.length) (q:Nat):wg g L lost (q+L.length)=wg g L lost q:=by
 obtain ⟨a1,a2⟩:=zsL g h q
 unfold wg;rw [a1,a2];congr 1;omega
theorem zgY (i a:Nat):∀b,ju g L lost i (a+b)=ju g L lost i a+ju g L lost (i+a) b
 |0=>by rw [Nat.add_zero];show _=_+0;omega
 |b+1=>by
  show ju g L lost i (a+b)+wg g L lost (i+1+(a+b))=_+(ju g L lost (i+a) b+wg g L lost (i+a+1+b))
  rw [zgY i a b,show i+1+(a+b)=i+a+1+b by omega];omega
theorem zCT (i:Nat):ju g L lost i 1=wg g L lost (i+1):=by show 0+wg g L lost (i+1+0)=_;rw [Nat.add_zero];omega
theorem zBy (h:0 < L.length) (i:Nat):ju g L lost (i+1) L.length=ju g L lost i L.length:=by
 have e1:=zgY (g:=g) (L:=L) (lost:=lost) i 1 L.length
 have e2:=zgY (g:=g) (L:=L) (lost:=lost) i L.length 1
 rw [Nat.add_comm 1] at e1
 rw [zCT] at e1 e2
 have:=zCS (g:=g) (L:=L) (lost:=lost) h (i+1)
 rw [show i+1+L.length=i+L.length+1 by omega] at this
 omega
theorem zCU (h:0 < L.length):∀i,ju g L lost i L.length=jc lost L:=by
 have base:ju g L lost (L.length - 1) L.length=jc lost L:=by
  have key:∀n,n≤L.length→ju g L lost (L.length - 1) n=jc lost (L.take n):=by
   intro n
   induction n with
   |zero=>intro _;rfl
   |succ n ih=>
    intro hn
    have hx:L[n]?=some L[n]:=List.getElem?_eq_getElem (by omega)
    have e:L.take (n+1)=L.take n++[L[n]]:=by rw [List.take_add_one,hx];rfl
    rw [e,znh,←ih (by omega)]
    show ju g L lost (L.length - 1) n+wg g L lost (L.length - 1+1+n)=_
    rw [show L.length - 1+1+n=n+L.length by omega,zCS h]
    unfold wg bX bY
    rw [Nat.mod_eq_of_lt (show n < L.length by omega),hx]
    simp only [Option.getD_some]
    congr 1;congr 1;omega
  rw [key _ (Nat.le_refl _),List.take_length]
 have z:∀i,ju g L lost i L.length=ju g L lost 0 L.length:=by
  intro i
  induction i with
  |zero=>rfl
  |succ i ih=>rw [zBy h,ih]
 intro i
 rw [z,←base,z (L.length - 1)]
theorem zjI (hr:gL g L) (h:0 < L.length) (hl:0≤lost) (i:Nat):∀k,0≤ju g L lost i k∧ju g L lost i k≤bX g L (i+1+k) - bX g L (i+1)
 |0=>by rw [Nat.add_zero];show (0:Int)≤0∧(0:Int)≤_;omega
 |k+1=>by
  have ih:=zjI hr h hl i k
  have x:=Jj hr h (i+1+k)
  have s:=zBx hr h (i+1+k)
  rw [show i+1+(k+1)=i+1+k+1 from rfl]
  show 0≤ju g L lost i k+wg g L lost (i+1+k)∧ju g L lost i k+wg g L lost (i+1+k)≤_
  unfold wg
  omega
theorem zFP (hr:gL g L) (h:0 < L.length) {q r:Nat} (hq:q≤r):bX g L q≤bX g L r:=by
 rcases Nat.lt_or_ge q r with h1 | h1
 ·have:=zd0 hr h h1;have:=Jj hr h q;omega
 ·have:q=r:=by omega
  rw [this];exact Int.le_refl _
theorem zuv (hr:gL g L) (h:0 < L.length) (hl:0≤lost) (i:Nat) {k:Nat} (hk:k≤L.length):0≤ju g L lost i k∧ju g L lost i k≤g.2:=by
 have:=zjI hr h hl i k
 have:=zFP hr h (show i+1+k≤i+1+L.length by omega)
 have:=(zsL g h (i+1)).1
 omega
end
theorem XJ {a b:Int} (h1:0 < b) (h2:b≤1000000000000) (h3 : -1000000000000000000≤a) (h4:a≤1000000000000000000):vz (a,b,())=some (a / b,()):=by
 have a1 : -b < Int.tmod a b:=Int.lt_tmod_of_pos a h1
 have a2:Int.tmod a b < b:=Int.tmod_lt_of_pos a h1
 have m1:=Int.emod_nonneg a (show b≠0 by omega)
 have m2:=Int.emod_lt_of_pos a h1
 have em:Int.tmod (wrF .i64 (Int.tmod a b+b)) b=a % b:=by
  rw [zD (by omega) (by omega),Int.tmod_eq_emod_of_nonneg (by omega),Int.add_emod_right]
  have:=Int.tmod_add_mul_tdiv a b
  calc Int.tmod a b % b=(Int.tmod a b+b*Int.tdiv a b) % b:=by rw [Int.add_mul_emod_self_left]
   _=a % b:=by rw [this]
 have e:JN (a,b,())=some (a % b,()):=by
  rw [zp4];unfold zdz
  rw [qI (show b≠0 by omega),em];rfl
 rw [zic];unfold VZ
 rw [e,zw,qI (show b≠0 by omega),cond_false]
 have hq:=Int.emod_add_mul_ediv a b
 have hd:a - a % b=b*(a / b):=by omega
 rw [zD (z:=a - a % b) (by omega) (by omega),hd,Int.mul_tdiv_cancel_left _ (by omega)]
 have : -1000000000000000001≤a / b:=by
  have:(-1000000000000000001)*b≤a:=by
   have:(-1000000000000000001)*b≤(-1000000000000000001)*1:=Int.mul_le_mul_of_nonpos_left (by omega) (by omega)
   omega
  exact Int.le_ediv_of_mul_le h1 this
 have:a / b≤1000000000000000000:=by
  rcases Int.le_total 0 a with h | h
  ·exact Int.le_trans (Int.ediv_le_self b h) h4
  ·have:a / b≤0:=Int.ediv_nonpos_of_nonpos_of_neg h h1
   omega
 rw [zD (by omega) (by omega)]
def cl (d w:Int):Int:=(w+d - 1) / d
theorem zeF {d a b:Int} (hd:0 < d) (h:a≤b):cl d a≤cl d b:=Int.ediv_le_ediv hd (by omega)
theorem zCV {d l z:Int} (hd:0 < d):cl d (l*d - z)=l - z / d:=by
 unfold cl
 have h:=Int.emod_add_mul_ediv z d
 have h1:=Int.emod_nonneg z (show d≠0 by omega)
 have h2:=Int.emod_lt_of_pos z hd
 have e:l*d - z+d - 1=(d - 1 - z % d)+(l - z / d)*d:=by
  rw [Int.sub_mul,Int.mul_comm (z / d) d];omega
 rw [e,Int.add_mul_ediv_right _ _ (by omega),Int.ediv_eq_zero_of_lt (by omega) (by omega)];omega
end Go.Proofs.YtplhphmbkmpocaaGreat.ad
namespace Go.Proofs.YtplhphmbkmpocaaGreat.ad
open Go Go.Fz Go.Fz.Sy
def qX (C per y:Int):Int:=y*1048576 / (C*per)
theorem GX {a b A B:Int} (h0:0≤a) (h1:a≤A) (h2:0≤b) (h3:b≤B):0≤a*b∧a*b≤A*B:=⟨Int.mul_nonneg h0 h2,Int.mul_le_mul h1 h3 h2 (by omega)⟩
structure RtC (C per y:Int):Prop where
 c0:1≤C
 c1:C≤9600000
 p0:1≤per
 p1:per≤1000
 y0:0≤y
 y1:y≤C
theorem RtC.cp {C per y:Int} (h:RtC C per y):1≤C*per∧C*per≤9600000000:=by
 have:=GX (show 0≤C by have:=h.c0;omega) h.c1 (show 0≤per by have:=h.p0;omega) h.p1
 have h1:1*1≤C*per:=Int.mul_le_mul h.c0 h.p0 (by omega) (by have:=h.c0;omega)
 omega
theorem RtC.rate {C per y:Int} (h:RtC C per y):wrF .i64 (Int.tdiv (wrF .i64 (y*1048576)) (wrF .i64 (C*per)))=qX C per y∧0≤qX C per y∧qX C per y*(C*per)≤y*1048576:=by
 have:=h.cp;have:=h.c1;have:=h.y0;have:=h.y1
 have h1:0≤qX C per y:=Int.ediv_nonneg (by omega) (by omega)
 have h2:qX C per y≤y*1048576:=Int.ediv_le_self _ (by omega)
 refine ⟨?_,h1,Int.ediv_mul_le _ (by omega)⟩
 rw [zD (z:=y*1048576) (by omega) (by omega),zD (z:=C*per) (by omega) (by omega),Int.tdiv_eq_ediv_of_nonneg (by omega)]
 show wrF .i64 (qX C per y)=_
 rw [zD (by omega) (by omega)]
theorem RtC.rp {C per y:Int} (h:RtC C per y) (hr:1≤qX C per y):qX C per y≤1048576∧per≤qX C per y*per∧qX C per y*per≤1048576:=by
 obtain ⟨_,_,h2⟩:=h.rate
 have hc:=h.c0;have hp:=h.p0;have hy:=h.y1
 have h3:per≤qX C per y*per:=by
  have:=Int.mul_le_mul_of_nonneg_right hr (show 0≤per by omega)
  omega
 have h4:qX C per y*per≤1048576:=by
  have e:qX C per y*(C*per)=C*(qX C per y*per):=by rw [←Int.mul_assoc,Int.mul_comm (qX C per y) C,Int.mul_assoc]
  have:C*(qX C per y*per)≤C*1048576:=by omega
  exact Int.le_of_mul_le_mul_left this (by omega)
 have h5:qX C per y≤qX C per y*per:=by
  have:=Int.mul_le_mul_of_nonneg_left hp (show 0≤qX C per y by omega)
  omega
 exact ⟨by omega,h3,h4⟩
theorem zqG {per rp:Int} (p0:1≤per) (p1:per≤1000) (h1:per≤rp) (h2:rp≤1048576):cl rp (127*per*1048576)=0 - (-127*per*1048576) / rp∧0≤cl rp (127*per*1048576)∧cl rp (127*per*1048576)≤133169152:=by
 have e:=zCV (d:=rp) (l:=0) (z:=-127*per*1048576) (by omega)
 rw [show 0*rp - -127*per*1048576=127*per*1048576 by omega] at e
 refine ⟨e,Int.ediv_nonneg (by omega) (by omega),?_⟩
 have : -133169152≤(-127*per*1048576) / rp:=Int.le_ediv_of_mul_le (by omega) (by omega)
 omega
section
variable {g:Gts} {L:List (Int×Int)} {per most:Int}
def wV (g:Gts) (L:List (Int×Int)) (lost per rate:Int) (i j:Nat):Int:=(tt g L lost j - fr g L lost i)*rate*per - (snt g L lost i j - 127*per)*1048576
def vV (g:Gts) (L:List (Int×Int)) (lost per rate:Int) (i k:Nat):Int:=tt g L lost (i+1+k) - fr g L lost i - ((ju g L lost i k - 127*per)*1048576) / (rate*per)
theorem zE1 {lost rate:Int} (h:0 < rate*per) (i k:Nat):vV g L lost per rate i k=cl (rate*per) (wV g L lost per rate i (i+1+k)):=by
 unfold vV wV snt
 rw [show i+1+k - i - 1=k by omega,Int.mul_assoc,zCV h]
noncomputable def zqH (g:Gts) (L:List (Int×Int)) (lost per rate:Int):Int:=mxN (fun _ _=>true) (vV g L lost per rate) L.length L.length (cl (rate*per) (127*per*1048576))
noncomputable def Us (g:Gts) (L:List (Int×Int)) (lost per rate:Int):Int:=mxN (fun i j=>zh (fr g L lost i) (tt g L lost j)) (wV g L lost per rate) (2*L.length) L.length (127*per*1048576)
theorem zGm (hg:qx g) (hr:gL g L) (h:0 < L.length) {lost rate:Int} (hl:0 < lost) (h0:1≤per) (hrp:0 < rate*per) (hy:rate*(g.2*per)≤jc lost L*1048576):cl (rate*per) (Us g L lost per rate)=zqH g L lost per rate:=by
 have ub1:=znj (fun _ _=>true) (vV g L lost per rate) L.length L.length (cl (rate*per) (127*per*1048576))
 have ub2:=znj (fun i j=>zh (fr g L lost i) (tt g L lost j)) (wV g L lost per rate) (2*L.length) L.length (127*per*1048576)
 have at1:=znk (fun _ _=>true) (vV g L lost per rate) L.length L.length (cl (rate*per) (127*per*1048576))
 have at2:=znk (fun i j=>zh (fr g L lost i) (tt g L lost j)) (wV g L lost per rate) (2*L.length) L.length (127*per*1048576)
 have fy:∀i,bX g L i≤fr g L lost i∧fr g L lost i < bY g L i:=fun i=>by have:=Jj hr h i;unfold fr mn;omega
 have ty:∀i,bX g L i < tt g L lost i∧tt g L lost i≤bY g L i:=fun i=>by have:=Jj hr h i;unfold tt mn;omega
 apply Int.le_antisymm
 ·show cl _ (mxN _ _ _ _ _)≤mxN _ _ _ _ _
  rcases at2 with e | ⟨i,j,hi,hj,hc,e⟩
  ·rw [e];exact ub1.1
  ·rw [e]
   have hc:=qn hc
   have hij:i≤j:=by
    apply Classical.byContradiction
    intro hn
    have:=zd0 hr h (show j < i by omega)
    have:=fy i;have:=ty j;omega
   have viaK:∀k,k < L.length→cl (rate*per) (wV g L lost per rate i (i+1+k))≤mxN (fun _ _=>true) (vV g L lost per rate) L.length L.length (cl (rate*per) (127*per*1048576)):=fun k hk=>by
    rw [←zE1 hrp];exact ub1.2 i k hi hk rfl
   rcases Nat.lt_or_ge i j with h1 | h1
   ·rcases Nat.lt_or_ge j (i+1+L.length) with h2 | h2
    ·have:=viaK (j - i - 1) (by omega)
     rwa [show i+1+(j - i - 1)=j by omega] at this
    ·
     have:=viaK (j - i - 1 - L.length) (by omega)
     refine Int.le_trans (zeF hrp ?_) this
     obtain ⟨k,rfl⟩:∃k,j=i+1+k+L.length:=⟨j - L.length - i - 1,by omega⟩
     rw [show i+1+k+L.length - i - 1 - L.length=k by omega]
     unfold wV snt
     rw [show i+1+k+L.length - i - 1=k+L.length by omega,show i+1+k - i - 1=k by omega,zgY,zCU h]
     obtain ⟨a1,a2⟩:=zsL g h (i+1+k)
     have et:tt g L lost (i+1+k+L.length)=tt g L lost (i+1+k)+g.2:=by unfold tt mn;omega
     rw [et]
     have e1:(tt g L lost (i+1+k)+g.2 - fr g L lost i)*rate*per=(tt g L lost (i+1+k) - fr g L lost i)*rate*per+rate*(g.2*per):=by
      rw [show tt g L lost (i+1+k)+g.2 - fr g L lost i=(tt g L lost (i+1+k) - fr g L lost i)+g.2 by omega,Int.add_mul,Int.add_mul,Int.mul_comm g.2 rate,Int.mul_assoc rate]
     rw [e1]
     omega
   ·have hj':j=i:=by omega
    subst hj'
    have:=viaK 0 h
    refine Int.le_trans (zeF hrp ?_) this
    unfold wV snt
    rw [show j+1+0 - j - 1=0 by omega,show j - j - 1=0 by omega]
    have h2:tt g L lost j - fr g L lost j≤tt g L lost (j+1+0) - fr g L lost j:=by
     have:=ty j;have:=ty (j+1+0)
     have:=zd0 hr h (show j < j+1+0 by omega)
     omega
    have h3:(tt g L lost j - fr g L lost j)*(rate*per)≤(tt g L lost (j+1+0) - fr g L lost j)*(rate*per):=Int.mul_le_mul_of_nonneg_right h2 (by omega)
    rw [Int.mul_assoc,Int.mul_assoc]
    omega
 ·show mxN _ _ _ _ _≤cl _ (mxN _ _ _ _ _)
  rcases at1 with e | ⟨i,k,hi,hk,_,e⟩
  ·rw [e];exact zeF hrp ub2.1
  ·rw [e,zE1 hrp]
   refine zeF hrp (ub2.2 i (i+1+k) hi (by omega) (zR ?_))
   have:=fy i;have:=ty (i+1+k)
   have:=zd0 hr h (show i < i+1+k by omega)
   omega
structure OfC (g:Gts) (L:List (Int×Int)) (per most:Int):Prop where
 hg:qx g
 ha:¬YO g.1
 hr:gL g L
 h0:0 < L.length
 p0:1≤per
 p1:per≤1000
 m0:84≤most
 m1:most≤1542
 rt:1≤qX g.2 per (jc (most*per) L)
theorem OfC.lost (h:OfC g L per most):84≤most*per∧most*per≤1542000:=by
 have:=GX (show 0≤most by have:=h.m0;omega) h.m1 (show 0≤per by have:=h.p0;omega) h.p1
 have h1:84*1≤most*per:=Int.mul_le_mul h.m0 h.p0 (by omega) (by have:=h.m0;omega)
 omega
theorem OfC.rc (h:OfC g L per most):RtC g.2 per (jc (most*per) L):=by
 have hl:=h.lost
 have hb:=Ve (lost:=most*per) (by omega) (a:=at0 g) (b:=at0 g+g.2) (by have:=h.hg.pos;omega) h.hr.cv.bd h.hr.cv.pw
 exact ⟨h.hg.pos,h.hg.c1,h.p0,h.p1,hb.1,by omega⟩
theorem OfC.ft (h:OfC g L per most) {q:Nat} (hq:q < 2*L.length):(0≤fr g L (most*per) q∧fr g L (most*per) q≤30000000)∧(0≤tt g L (most*per) q∧tt g L (most*per) q≤30000000)∧1≤mn g L (most*per) q∧mn g L (most*per) q≤bY g L q - bX g L q:=by
 have:=zni h.hg h.hr h.h0 hq
 have:=Jj h.hr h.h0 q
 have hl:=h.lost
 unfold fr tt mn
 omega
theorem zE2 (hg:qx g) (hr:gL g L):(L.length:Int)≤9600000:=by
 have hb:=Ve (lost:=0) (by omega) (a:=at0 g) (b:=at0 g+g.2) (by have:=hg.pos;omega) hr.cv.bd hr.cv.pw
 have:=hg.c1
 omega
theorem zEx (h:OfC g L per most) {i k:Nat} (hk:k≤L.length) : -133169152000≤(ju g L (most*per) i k - 127*per)*1048576∧(ju g L (most*per) i k - 127*per)*1048576≤10066329600000∧-133169152≤((ju g L (most*per) i k - 127*per)*1048576) / (qX g.2 per (jc (most*per) L)*per)∧((ju g L (most*per) i k - 127*per)*1048576) / (qX g.2 per (jc (most*per) L)*per)≤10066329600000:=by
 have hl:=h.lost
 obtain ⟨r1,r2,r3⟩:=h.rc.rp h.rt
 have hs:=zuv h.hr h.h0 (lost:=most*per) (by omega) i hk
 have hc:=h.hg.c1;have:=h.p0;have:=h.p1
 have z1 : -133169152000≤(ju g L (most*per) i k - 127*per)*1048576:=by omega
 have z2:(ju g L (most*per) i k - 127*per)*1048576≤10066329600000:=by omega
 generalize hz:(ju g L (most*per) i k - 127*per)*1048576=z at z1 z2
 have z3 : -133169152*per≤z:=by omega
 generalize qX g.2 per (jc (most*per) L)*per=rp at r2 r3
 refine ⟨z1,z2,Int.le_ediv_of_mul_le (by omega) (by omega),?_⟩
 rcases Int.le_total 0 z with h | h
 ·exact Int.le_trans (Int.ediv_le_self _ h) z2
 ·have:z / rp≤0:=Int.ediv_nonpos_of_nonpos_of_neg h (by omega)
  omega
theorem zAf (h:OfC g L per most):0≤zqH g L (most*per) per (qX g.2 per (jc (most*per) L))∧zqH g L (most*per) per (qX g.2 per (jc (most*per) L))≤268435456:=by
 obtain ⟨r1,r2,r3⟩:=h.rc.rp h.rt
 obtain ⟨b1,b2,b3⟩:=zqG h.p0 h.p1 r2 r3
 have ub:=znj (fun _ _=>true) (vV g L (most*per) per (qX g.2 per (jc (most*per) L))) L.length L.length (cl (qX g.2 per (jc (most*per) L)*per) (127*per*1048576))
 have at1:=znk (fun _ _=>true) (vV g L (most*per) per (qX g.2 per (jc (most*per) L))) L.length L.length (cl (qX g.2 per (jc (most*per) L)*per) (127*per*1048576))
 unfold zqH
 refine ⟨by omega,?_⟩
 rcases at1 with e | ⟨i,k,hi,hk,_,e⟩
 ·rw [e];omega
 ·rw [e]
  obtain ⟨_,_,z1,_⟩:=zEx h (i:=i) (k:=k) (by omega)
  have:=(h.ft (q:=i) (by omega)).1;have:=(h.ft (q:=i+1+k) (by omega)).2.1
  unfold vV
  omega
end
end Go.Proofs.YtplhphmbkmpocaaGreat.ad
namespace Go.Proofs.YtplhphmbkmpocaaGreat.ad
open Go Go.Fz Go.Fz.Sy
theorem Uf (g:Gts) {per most:Int} (p0:1≤per) (p1:per≤1000) (m0:84≤most) (m1:most≤1542):ZH (g,per,most,())=some (bif tv (qx g) then 0 else 370,()):=by
 rw [zmr];unfold zaT
 rw [zbm,zw]
 by_cases hg:qx g
 ·rw [zF hg,zG (show ¬per < 1 by omega),zG (show ¬1000 < per by omega),zG (show ¬most < 84 by omega),zG (show ¬1542 < most by omega)];rfl
 ·rw [zQ hg];rfl
theorem zco (g:Gts) {per most:Int} (p0:1≤per) (p1:per≤1000) (m0:84≤most) (m1:most≤1542):Kc (g,per,most,())=some (bif tv (qx g) then 0 else 370,()):=by
 rw [zsa];unfold zfK
 rw [zgW,zw]
 by_cases hg:qx g
 ·rw [zF hg,zG (show ¬per < 1 by omega),zG (show ¬1000 < per by omega),zG (show ¬most < 84 by omega),zG (show ¬1542 < most by omega)];rfl
 ·rw [zQ hg];rfl
theorem zCW {z:Nat} (h:z≤1000000000000):wrF .i64 (z:Int)=(z:Int):=by rw [zD]<;>omega
def asL (xs:List (Int×Int)):List (Int×Int):=xs.map fun p=>(p.1,p.1+p.2)
theorem zCX {g:Gts} {L xs:List (Int×Int)} (hx:asL xs=L) (h:0 < L.length) (q:Nat):∃p,xs[q % xs.length]?=some p∧bX g L q=p.1+((q / L.length:Nat):Int)*g.2∧bY g L q - bX g L q=p.2:=by
 have hl:xs.length=L.length:=by rw [←hx];unfold asL;simp
 have hm:q % xs.length < xs.length:=Nat.mod_lt _ (by omega)
 have hy:xs[q % xs.length]?=some (xs[q % xs.length]):=List.getElem?_eq_getElem hm
 refine ⟨_,hy,?_⟩
 have hL:L[q % L.length]?=some ((xs[q % xs.length]).1,(xs[q % xs.length]).1+(xs[q % xs.length]).2):=by
  rw [←hl,←hx];unfold asL
  rw [List.getElem?_map,hy];rfl
 unfold bX bY
 rw [hL]
 simp only [Option.getD_some]
 exact ⟨trivial,by omega⟩
section
variable {g:Gts} {L:List (Int×Int)} {per most:Int}
theorem zFQ (h:OfC g L per most):wK (g,per,most,())=some ((qX g.2 per (jc (most*per) L),zqH g L (most*per) per (qX g.2 per (jc (most*per) L))),0,()):=by
 have hg:=h.hg;have ha:=h.ha;have hr:=h.hr;have hL0:=h.h0
 have p0:=h.p0;have p1:=h.p1;have m0:=h.m0;have m1:=h.m1
 have hlost:=h.lost
 obtain ⟨eR,r0,ry⟩:=h.rc.rate
 obtain ⟨r1,r2,r3⟩:=h.rc.rp h.rt
 obtain ⟨b1,b2,b3⟩:=zqG p0 p1 r2 r3
 have hrt:=h.rt
 have hcp:=h.rc.cp
 have hc:=hg.c1;have hp:=hg.pos;have hn:=hg.n1;have hn0:=hg.n0
 have hLC:=zE2 hg hr
 have eM:wrF .i64 (most*per)=most*per:=zD (by omega) (by omega)
 have eRP:wrF .i64 (qX g.2 per (jc (most*per) L)*per)=qX g.2 per (jc (most*per) L)*per:=zD (by omega) (by omega)
 have hl:=znf ha
 obtain ⟨e,hx,he,hen,h0⟩:=znQ hg ha
 have h0b:=zng hg
 rw [zaY];unfold Ka
 rw [Uf g p0 p1 m0 m1,zF hg,zw,cond_true]
 refine kn ?_
 refine ze rfl ?_
 rw [eM,zbK hg ha hr (by omega) (by omega),zw]
 simp only [eR]
 refine ze (qI (show wrF .i64 (g.2*per)≠0 by rw [zD]<;>omega)) (ze (zG (by omega)) ?_)
 generalize hy:jc (most*per) L=y at *
 generalize hrate:qX g.2 per y=rate at *
 rw [show wrF .i64 ((wrF .i64 (-127*per))*1048576) = -127*per*1048576 from by rw [zD (z:=-127*per) (by omega) (by omega),zD (by omega) (by omega)],eRP,XJ (by omega) (by omega) (by omega) (by omega),zw]
 refine zk (J:=fun x=>x.2.1=(at0 g,(((clo g.1:Nat):Int),()))∧x.2.2.1.1=[]) (zW (clo g.1) (fun i s=>s=((qG (g.1.take i),((i:Int),())),(([],()),((),((),()))))) (by omega) rfl ?_ ?_) ?_
 ·rintro i _ hi rfl
  have hy':g.1[i]?=some g.1[i]:=List.getElem?_eq_getElem (by omega)
  have hm:=List.getElem_mem (show i < g.1.length by omega)
  generalize g.1[i]=f at hy' hm
  have hf:=hg.el f hm
  have hb:=Qv (l:=g.1.take i) fun e he=>hg.el e (List.mem_of_mem_take he)
  have hbl:(g.1.take i).length≤128:=by simp;omega
  refine zd (zR (show (i:Int) < (g.1.length:Int) by omega)) (zg (zx (n:=i) hy' ?_))
  rw [xt hf]
  refine zd (zgd _ i f hi hy') (zg (zx (n:=i) hy' (za (ql ?_))))
  show (((wrF .i64 (qG (g.1.take i)+f.2)),((wrF .i64 ((i:Int)+1)),())),(([],()),((),((),()))))=_
  have:=hf.2.2.1;have:=hf.2.2.2
  rw [kz hy',qq (by omega),zD (by omega) (by omega)]
 ·rintro _ rfl
  refine zd (zR (show ((clo g.1:Nat):Int) < (g.1.length:Int) by omega)) (zg (zx (n:=clo g.1) hx ?_))
  rw [xt hen]
  exact ze he (za (zq ⟨rfl,rfl⟩))
 rintro ⟨j,⟨w,z,⟨⟩⟩,⟨c,⟨⟩⟩,⟨⟩,⟨⟩,⟨⟩⟩ ⟨hv,hc'⟩
 simp only [Prod.mk.injEq,and_true] at hv hc'
 obtain ⟨rfl,rfl⟩:=hv
 subst hc'
 refine ze (qI (show ((clo g.1:Nat):Int)≠(g.1.length:Int) by omega)) (zg (zx (n:=clo g.1) hx ?_))
 have hm:clo g.1 % g.1.length=clo g.1:=Nat.mod_eq_of_lt hl
 have hts:=zgc hg (k:=clo g.1) (e:=e) (by rw [hm];exact hx)
 have hA:=zsK hg (k:=clo g.1+1) (by omega)
 refine zk (J:=fun x=>x.1=0∧asL x.2.2.1.1=L) (zW g.1.length (fun i s=>∃now xs,s=((now,(tAt g (clo g.1+1+i),((i:Int),()))),((xs,()),((),((),()))))∧xs.length≤i∧Inv (opT g) (tAt g (clo g.1+1)) (tAt g (clo g.1+1+i)) now (asL xs)∧(∀f,0 < i→g.1[(clo g.1+i) % g.1.length]?=some f→opn f.1=false→now.2=0)) (by omega) ?_ ?_ ?_) ?_
 ·refine ⟨(0,0),[],?_,by simp,⟨Int.le_refl _,.inl ⟨rfl,zuu _ _,fun p hp=>(by cases hp)⟩⟩,fun f h=>by omega⟩
  show (((0,0),((wrF .i64 (at0 g+e.2)),(0,()))),(([],()),((),((),()))))=_
  rw [Nat.add_zero,hts,h0,zD (by omega) (by have:=hen.2.2.2;omega)];rfl
 ·rintro i _ hi ⟨now,xs,rfl,hxl,hinv,_⟩
  obtain ⟨f,hy',hf,hsu,hop⟩:=zCO hg (clo g.1+1+i)
  have hB:=zsK hg (k:=clo g.1+1+i) (by omega)
  have hnb:=zCP hinv hA.1 hB.2
  have f1:=hf.2.2.1;have f2:=hf.2.2.2
  refine zd (zR (show (i:Int) < (g.1.length:Int) by omega)) (ze (qI (show (g.1.length:Int)≠0 by omega)) ?_)
  refine zg (qj (a:=f) (by show atI g.1 (Int.tmod (wrF .i64 ((wrF .i64 (((clo g.1:Nat):Int)+1))+(i:Int))) (g.1.length:Int))=_;rw [zAe hg (by omega) (by omega)];exact wR hy') ?_)
  rw [xt hf]
  have eat:wrF .i64 (tAt g (clo g.1+1+i)+f.2)=tAt g (clo g.1+1+(i+1)):=by
   rw [show clo g.1+1+(i+1)=clo g.1+1+i+1 from rfl,hsu,zD (by omega) (by omega)]
  have eup:wrF .i64 ((i:Int)+1)=((i+1:Nat):Int):=qq (by omega)
  have idx:∀f',0 < i+1→g.1[(clo g.1+(i+1)) % g.1.length]?=some f'→f'=f:=fun f' _ h=>by
   rw [show clo g.1+(i+1)=clo g.1+1+i by omega,hy'] at h
   exact (Option.some.inj h).symm
  refine zj (fun ho=>?_) (fun ho=>?_)
  ·have ho:opn f.1=true:=ho
   rw [ho] at hop
   have hi2:=zyX hinv (show 0 < f.2 by omega) hop
   refine zk (J:=fun x=>x.2.1.1=if now.2=0 then (tAt g (clo g.1+1+i),0) else now) (zj (fun h=>?_) (fun h=>?_)) ?_
   ·have h:now.2=0:=qL h
    refine za ?_
    rw [if_pos h]
    show (tAt g (clo g.1+1+i),now.2)=_
    rw [h]
   ·have h:now.2≠0:=jR h
    exact za (by rw [if_neg h])
   ·rintro ⟨j,⟨nw,⟨⟩⟩,⟨⟩,⟨⟩,⟨⟩⟩ hnw
    simp only at hnw
    subst hnw
    refine za (ql ⟨_,xs,?_,by omega,(by rw [←hsu] at hi2;exact hi2),fun f' h1 h2 h3=>?_⟩)
    ·show ((((if now.2=0 then (tAt g (clo g.1+1+i),0) else now).1,(wrF .i64 ((if now.2=0 then (tAt g (clo g.1+1+i),0) else now).2+f.2))),((wrF .i64 (tAt g (clo g.1+1+i)+f.2)),((wrF .i64 ((i:Int)+1)),()))),((xs,()),((),((),()))))=_
     rw [eat,eup]
     by_cases h:now.2=0
     ·rw [if_pos h,if_pos h]
      simp only
      rw [zD (by omega) (by omega),Int.zero_add]
     ·rw [if_neg h,if_neg h,zD (by omega) (by omega)]
    ·rw [idx f' h1 h2,ho] at h3;cases h3
  ·have ho:opn f.1=false:=ho
   rw [ho] at hop
   refine zj (fun h=>?_) (fun h=>?_)
   ·have h:0 < now.2:=qn h
    have hi2:=zyY hinv (show 0 < f.2 by omega) h hop
    refine zd (yc (by show (xs.length+1)*16≤_;omega) (by show xs.length+1≤_;omega)) (za (ql ⟨(0,0),xs++[now],?_,by simp;omega,?_,fun f' h1 h2 h3=>rfl⟩))
    ·show (((0,0),((wrF .i64 (tAt g (clo g.1+1+i)+f.2)),((wrF .i64 ((i:Int)+1)),()))),((xs++[now],()),((),((),()))))=_
     rw [eat,eup]
    ·rw [←hsu] at hi2
     have:asL (xs++[now])=asL xs++[(now.1,now.1+now.2)]:=by unfold asL;simp
     rw [this];exact hi2
   ·have h:now.2=0:=by have:now.2≤0:=qw h;omega
    have hi2:=zvl hinv (show 0 < f.2 by omega) h hop
    refine za (ql ⟨(0,0),xs,?_,by omega,(by rw [←hsu] at hi2;exact hi2),fun f' h1 h2 h3=>rfl⟩)
    show (((0,0),((wrF .i64 (tAt g (clo g.1+1+i)+f.2)),((wrF .i64 ((i:Int)+1)),()))),((xs,()),((),((),()))))=_
    rw [eat,eup]
 ·rintro _ ⟨now,xs,rfl,hxl,hinv,hlast⟩
  refine ze (zG (show ¬(g.1.length:Int) < (g.1.length:Int) by omega)) (za (zq ⟨rfl,?_⟩))
  have hz:=hlast e (by omega) (by rw [Nat.add_mod_right,hm];exact hx) he
  show asL xs=L
  rcases hinv.2 with ⟨_,hc,_⟩ | ⟨h',_⟩
  ·rw [zAc hg] at hc
   exact (zyZ hg ha hc hr).symm
  ·omega
 rintro ⟨j,⟨nw,v,z,⟨⟩⟩,⟨xs,⟨⟩⟩,⟨⟩,⟨⟩,⟨⟩⟩ ⟨hj,hxs⟩
 simp only at hj hxs
 subst hj
 have hxl:xs.length=L.length:=by rw [←hxs];unfold asL;simp
 refine zd rfl ?_
 refine zk (J:=fun x=>x.2.1.1=zqH g L (most*per) per rate∧x.2.1.2.1=rate)
  (zW L.length (fun i s=>s=((mxN (fun _ _=>true) (vV g L (most*per) per rate) L.length i (cl (rate*per) (127*per*1048576)),(rate,(per,((i:Int),())))),((),()))) (by omega) ?_ ?_ ?_) ?_
 ·show ((ur 0 (wrF .i64 (0 - (-127*per*1048576) / (rate*per))),(rate,(per,(0,())))),((),()))=_
  rw [←b1,zD (by omega) (by omega),JB]
  show _=((cl (rate*per) (127*per*1048576),_),_)
  rw [show max 0 (cl (rate*per) (127*per*1048576))=cl (rate*per) (127*per*1048576) by omega];rfl
 ·rintro i _ hi rfl
  obtain ⟨pi,hpi,epi1,epi2⟩:=zCX (g:=g) hxs hL0 i
  rw [Nat.mod_eq_of_lt (by omega)] at hpi
  rw [Nat.div_eq_of_lt hi] at epi1
  have fti:=h.ft (q:=i) (by omega)
  refine zd (zR (show (i:Int) < (xs.length:Int) by omega)) (zg (zx (n:=i) hpi (zg (qj (a:=pi) (by show gl xs (Int.toNat (i:Int))=_;rw [Int.toNat_natCast,xw];exact hpi) ?_))))
  refine zk (J:=fun x=>x.2.1.1=mxN (fun _ _=>true) (vV g L (most*per) per rate) L.length (i+1) (cl (rate*per) (127*per*1048576))∧x.2.1.2.1=rate∧x.2.1.2.2.1=per)
   (zW L.length (fun k s=>s=((mxK (fun _=>true) (vV g L (most*per) per rate i) k (mxN (fun _ _=>true) (vV g L (most*per) per rate) L.length i (cl (rate*per) (127*per*1048576))),(rate,(per,(ju g L (most*per) i k,((k:Int),()))))),((),()))) (by omega) rfl ?_ ?_) ?_
  ·rintro k _ hk rfl
   obtain ⟨pj,hpj,epj1,epj2⟩:=zCX (g:=g) hxs hL0 (i+1+k)
   have ftj:=h.ft (q:=i+1+k) (by omega)
   have zb:=zEx h (i:=i) (k:=k) (by omega)
   rw [hy,hrate] at zb
   have sb:=zuv hr hL0 (lost:=most*per) (by omega) i (show k≤L.length by omega)
   have sb':=zuv hr hL0 (lost:=most*per) (by omega) i (show k+1≤L.length by omega)
   have hbi:=zni hg hr hL0 (show i < 2*L.length by omega);have hbj:=zni hg hr hL0 (show i+1+k < 2*L.length by omega)
   have hxi:=Jj hr hL0 i;have hxj:=Jj hr hL0 (i+1+k)
   have ej:Int.tmod (wrF .i64 ((wrF .i64 ((i:Int)+1))+(k:Int))) (xs.length:Int)=(((i+1+k) % xs.length:Nat):Int):=by
    rw [qq (by omega),zD (by omega) (by omega),Int.tmod_eq_emod_of_nonneg (by omega),←Int.natCast_add,←Int.natCast_emod]
   have ed:wrF .i64 (Int.tdiv (wrF .i64 ((wrF .i64 ((i:Int)+1))+(k:Int))) (xs.length:Int))=(((i+1+k) / L.length:Nat):Int):=by
    rw [qq (by omega),zD (z:=((i+1:Nat):Int)+(k:Int)) (by omega) (by omega),Int.tdiv_eq_ediv_of_nonneg (by omega),hxl,←Int.natCast_add,←Int.natCast_ediv]
    exact zCW (Nat.le_trans (Nat.div_le_self _ _) (by omega))
   have hd1:(i+1+k) / L.length=0∨(i+1+k) / L.length=1:=by
    have:(i+1+k) / L.length < 2:=Nat.div_lt_of_lt_mul (by omega)
    exact Nat.le_one_iff_eq_zero_or_eq_one.1 (Nat.le_of_lt_succ this)
   have edC:0≤(((i+1+k) / L.length:Nat):Int)*g.2∧(((i+1+k) / L.length:Nat):Int)*g.2≤9600000:=by
    rcases hd1 with h1 | h1<;>rw [h1]<;>simp<;>omega
   generalize hdc:(((i+1+k) / L.length:Nat):Int)=dc at ed edC epj1
   refine zd (zR (show (k:Int) < (xs.length:Int) by omega)) (ze (qI (show (xs.length:Int)≠0 by omega)) ?_)
   refine zg (qj (a:=pj) (by show atI xs (Int.tmod (wrF .i64 ((wrF .i64 ((i:Int)+1))+(k:Int))) (xs.length:Int))=_;rw [ej];exact wR hpj) (zg (qj (a:=pj) (by show gl xs (Int.toNat (Int.tmod (wrF .i64 ((wrF .i64 ((i:Int)+1))+(k:Int))) (xs.length:Int)))=_;rw [ej,Int.toNat_natCast,xw];exact hpj) ?_)))
   refine ze (qI (show (xs.length:Int)≠0 by omega)) ?_
   have ez:wrF .i64 ((wrF .i64 (ju g L (most*per) i k - (wrF .i64 (127*per))))*1048576)=(ju g L (most*per) i k - 127*per)*1048576:=by
    rw [zD (z:=127*per) (by omega) (by omega),zD (z:=ju g L (most*per) i k - 127*per) (by omega) (by omega),zD (by omega) (by omega)]
   have efl:vz (wrF .i64 ((wrF .i64 (ju g L (most*per) i k - (wrF .i64 (127*per))))*1048576),wrF .i64 (rate*per),())=some (((ju g L (most*per) i k - 127*per)*1048576) / (rate*per),()):=by
    rw [ez,eRP,XJ (by omega) (by omega) (by omega) (by omega)]
   refine zg (qj efl ?_)
   refine za (ql ?_)
   have em1:jB (most*per) pj.2=mn g L (most*per) (i+1+k):=by rw [XY,←epj2];unfold mn;omega
   have em2:jB (most*per) pi.2=mn g L (most*per) i:=by rw [XY,←epi2];unfold mn;omega
   have eto:wrF .i64 ((wrF .i64 (pj.1+(wrF .i64 (dc*g.2))))+jB (most*per) pj.2)=tt g L (most*per) (i+1+k):=by
    rw [em1,zD (z:=dc*g.2) (by omega) (by omega),zD (z:=pj.1+dc*g.2) (by omega) (by omega),←epj1]
    show wrF .i64 (tt g L (most*per) (i+1+k))=_
    rw [zD (by omega) (by omega)]
   have efr:wrF .i64 ((wrF .i64 (pi.1+pi.2)) - jB (most*per) pi.2)=fr g L (most*per) i:=by
    have e1:pi.1+pi.2=bY g L i:=by simp at epi1;omega
    rw [em2,e1,zD (z:=bY g L i) (by omega) (by omega)]
    show wrF .i64 (fr g L (most*per) i)=_
    rw [zD (by omega) (by omega)]
   have ev:wrF .i64 ((wrF .i64 (tt g L (most*per) (i+1+k) - fr g L (most*per) i)) - ((ju g L (most*per) i k - 127*per)*1048576) / (rate*per))=vV g L (most*per) per rate i k:=by
    rw [zD (z:=tt g L (most*per) (i+1+k) - fr g L (most*per) i) (by omega) (by omega)]
    show wrF .i64 (vV g L (most*per) per rate i k)=_
    unfold vV
    rw [zD (by omega) (by omega)]
   have ew:wrF .i64 (ju g L (most*per) i k+ur 0 (wrF .i64 (pj.2 - most*per)))=ju g L (most*per) i (k+1):=by
    have:ju g L (most*per) i (k+1)=ju g L (most*per) i k+max 0 (pj.2 - most*per):=by
     show _+wg g L (most*per) (i+1+k)=_
     unfold wg;rw [epj2]
    rw [zD (z:=pj.2 - most*per) (by omega) (by omega),JB,←this,zD (by omega) (by omega)]
   show ((ur (mxK (fun _=>true) (vV g L (most*per) per rate i) k (mxN (fun _ _=>true) (vV g L (most*per) per rate) L.length i (cl (rate*per) (127*per*1048576)))) (wrF .i64 ((wrF .i64 ((wrF .i64 ((wrF .i64 (pj.1+(wrF .i64 ((wrF .i64 (Int.tdiv (wrF .i64 ((wrF .i64 ((i:Int)+1))+(k:Int))) (xs.length:Int)))*g.2))))+jB (most*per) pj.2)) - (wrF .i64 ((wrF .i64 (pi.1+pi.2)) - jB (most*per) pi.2)))) - ((ju g L (most*per) i k - 127*per)*1048576) / (rate*per))),(rate,(per,((wrF .i64 (ju g L (most*per) i k+ur 0 (wrF .i64 (pj.2 - most*per)))),((wrF .i64 ((k:Int)+1)),()))))),((),()))=_
   rw [ed,eto,efr,ev,ew,qq (by omega),JB]
   rfl
  ·rintro _ rfl
   exact ze (zG (show ¬((L.length:Nat):Int) < (xs.length:Int) by omega)) (za (zq ⟨rfl,rfl,rfl⟩))
  ·rintro ⟨j,⟨a1,a2,a3,a4,a5,⟨⟩⟩,⟨⟩,⟨⟩⟩ ⟨h1,h2,h3⟩
   simp only at h1 h2 h3
   subst h1 h2 h3
   exact za (ql (congrArg (fun z=>((_,(_,(_,(z,())))),((),()))) (qq (by omega))))
 ·rintro _ rfl
  exact ze (zG (show ¬((L.length:Nat):Int) < (xs.length:Int) by omega)) (za (zq ⟨rfl,rfl⟩))
 ·rintro ⟨j,⟨a1,a2,a3,a4,⟨⟩⟩,⟨⟩,⟨⟩⟩ ⟨h1,h2⟩
  simp only at h1 h2
  subst h1 h2
  exact za rfl
end
end Go.Proofs.YtplhphmbkmpocaaGreat.ad
namespace Go.Proofs.YtplhphmbkmpocaaGreat.ad
open Go Go.Fz Go.Fz.Sy
section
variable {g:Gts} {L:List (Int×Int)} {per most:Int}
theorem zEy (h:OfC g L per most):133169152≤Us g L (most*per) per (qX g.2 per (jc (most*per) L))∧Us g L (most*per) per (qX g.2 per (jc (most*per) L))≤100000000000000:=by
 have p0:=h.p0;have p1:=h.p1
 obtain ⟨r1,r2,r3⟩:=h.rc.rp h.rt
 have ub:=znj (fun i j=>zh (fr g L (most*per) i) (tt g L (most*per) j)) (wV g L (most*per) per (qX g.2 per (jc (most*per) L))) (2*L.length) L.length (127*per*1048576)
 have at2:=znk (fun i j=>zh (fr g L (most*per) i) (tt g L (most*per) j)) (wV g L (most*per) per (qX g.2 per (jc (most*per) L))) (2*L.length) L.length (127*per*1048576)
 unfold Us
 refine ⟨by omega,?_⟩
 rcases at2 with e | ⟨i,j,hi,hj,hc,e⟩
 ·rw [e];omega
 ·rw [e]
  have hc:=qn hc
  have:=(h.ft (q:=i) (by omega)).1;have:=(h.ft (q:=j) hj).2.1
  have hm:=GX (a:=tt g L (most*per) j - fr g L (most*per) i) (b:=qX g.2 per (jc (most*per) L)*per) (A:=30000000) (B:=1048576) (by omega) (by omega) (by omega) r3
  have hs:=(zjI h.hr h.h0 (lost:=most*per) (by have:=h.lost;omega) i (j - i - 1)).1
  unfold wV snt
  rw [Int.mul_assoc]
  omega
theorem zGn (h:OfC g L per most) (hL:vE (g,())=some (L,())):Wz (g,per,most,())=some ((qX g.2 per (jc (most*per) L),zqH g L (most*per) per (qX g.2 per (jc (most*per) L))),0,()):=by
 have hg:=h.hg;have ha:=h.ha;have hr:=h.hr;have hL0:=h.h0
 have p0:=h.p0;have p1:=h.p1;have m0:=h.m0;have m1:=h.m1
 have hlost:=h.lost
 obtain ⟨eR,r0,ry⟩:=h.rc.rate
 obtain ⟨r1,r2,r3⟩:=h.rc.rp h.rt
 have hrt:=h.rt
 have hcp:=h.rc.cp
 have hc:=hg.c1;have hp:=hg.pos
 have hLC:=zE2 hg hr
 have hwb:=zEy h
 have hle:=zGm hg hr hL0 (lost:=most*per) (by omega) p0 (by omega) ry
 have hlb:=zAf h
 have eM:wrF .i64 (most*per)=most*per:=zD (by omega) (by omega)
 have eRP:wrF .i64 (qX g.2 per (jc (most*per) L)*per)=qX g.2 per (jc (most*per) L)*per:=zD (by omega) (by omega)
 rw [zdI];unfold za3
 rw [zco g p0 p1 m0 m1,zF hg,zw,cond_true]
 refine kn ?_
 refine ze rfl ?_
 rw [zgX hg ha hL hr (by omega) (by omega),zw]
 simp only [eR]
 refine ze (qI (show wrF .i64 (g.2*per)≠0 by rw [zD]<;>omega)) (ze (zG (by omega)) ?_)
 have zbs:=fun i k hk=>zEx h (i:=i) (k:=k) hk
 generalize hy:jc (most*per) L=y at *
 generalize hrate:qX g.2 per y=rate at *
 rw [Ji hg,zQ ha]
 simp only [zw,Bool.not_false,cond_true,hL,eM,eRP]
 refine zk (J:=fun x=>x.2.1.2.1=Us g L (most*per) per rate) ?_ ?_
 ·refine zk (J:=fun x=>x.2.1.1=Us g L (most*per) per rate)
   (zW L.length (fun i s=>s=((mxN (fun i j=>zh (fr g L (most*per) i) (tt g L (most*per) j)) (wV g L (most*per) per rate) (2*L.length) i (127*per*1048576),((i:Int),())),())) (by omega) ?_ ?_ ?_) ?_
  ·show ((wrF .i64 ((wrF .i64 (127*per))*1048576),(0,())),())=_
   rw [zD (z:=127*per) (by omega) (by omega),zD (by omega) (by omega)];rfl
  ·rintro i _ hi rfl
   have hx:L[i]?=some L[i]:=List.getElem?_eq_getElem hi
   have hbi:=zni hg hr hL0 (show i < 2*L.length by omega)
   have hxi:=Jj hr hL0 i
   have fti:=h.ft (q:=i) (by omega)
   obtain ⟨ei1,ei2⟩:bX g L i=L[i].1∧bY g L i=L[i].2:=by
    unfold bX bY;rw [Nat.mod_eq_of_lt hi,Nat.div_eq_of_lt hi,hx];simp
   generalize L[i]=pi at hx ei1 ei2
   refine zd (zR (show (i:Int) < (L.length:Int) by omega)) (zg (zx (n:=i) hx (zg (zx (n:=i) hx (zg (zx (n:=i) hx ?_))))))
   have efr:wrF .i64 (pi.2 - jB (wrF .i64 (pi.2 - pi.1)) (most*per))=fr g L (most*per) i:=by
    rw [zD (z:=pi.2 - pi.1) (by omega) (by omega),XY,←ei1,←ei2]
    show wrF .i64 (fr g L (most*per) i)=_
    rw [zD (by omega) (by omega)]
   refine zk (J:=fun x=>x.2.1.1=mxN (fun i j=>zh (fr g L (most*per) i) (tt g L (most*per) j)) (wV g L (most*per) per rate) (2*L.length) (i+1) (127*per*1048576))
    (zW (2*L.length) (fun k s=>s=((mxK (fun j=>zh (fr g L (most*per) i) (tt g L (most*per) j)) (wV g L (most*per) per rate i) k (mxN (fun i j=>zh (fr g L (most*per) i) (tt g L (most*per) j)) (wV g L (most*per) per rate) (2*L.length) i (127*per*1048576)),((k:Int),())),())) (by omega) rfl ?_ ?_) ?_
   ·rintro k _ hk rfl
    have hm:k % L.length < L.length:=Nat.mod_lt _ hL0
    have hxk:L[k % L.length]?=some (L[k % L.length]):=List.getElem?_eq_getElem hm
    have hbk:=zni hg hr hL0 hk
    have hxk2:=Jj hr hL0 k
    have ftk:=h.ft (q:=k) hk
    obtain ⟨ek1,ek2⟩:bX g L k=(L[k % L.length]).1+((k / L.length:Nat):Int)*g.2∧bY g L k=(L[k % L.length]).2+((k / L.length:Nat):Int)*g.2:=by
     unfold bX bY;rw [hxk];exact ⟨rfl,rfl⟩
    generalize L[k % L.length]=pk at hxk ek1 ek2
    have hd1:k / L.length=0∨k / L.length=1:=by
     have:k / L.length < 2:=Nat.div_lt_of_lt_mul (by omega)
     exact Nat.le_one_iff_eq_zero_or_eq_one.1 (Nat.le_of_lt_succ this)
    have edC:0≤((k / L.length:Nat):Int)*g.2∧((k / L.length:Nat):Int)*g.2≤9600000:=by
     rcases hd1 with h1 | h1<;>rw [h1]<;>simp<;>omega
    have eI:Int.tmod (k:Int) (L.length:Int)=((k % L.length:Nat):Int):=by
     rw [Int.tmod_eq_emod_of_nonneg (by omega),←Int.natCast_emod]
    have eD:wrF .i64 (Int.tdiv (k:Int) (L.length:Int))=((k / L.length:Nat):Int):=by
     rw [Int.tdiv_eq_ediv_of_nonneg (by omega),←Int.natCast_ediv]
     exact zCW (Nat.le_trans (Nat.div_le_self _ _) (by omega))
    have ett:wrF .i64 ((wrF .i64 (pk.1+jB (wrF .i64 (pk.2 - pk.1)) (most*per)))+(wrF .i64 ((wrF .i64 (Int.tdiv (k:Int) (L.length:Int)))*g.2)))=tt g L (most*per) k:=by
     rw [eD,zD (z:=((k / L.length:Nat):Int)*g.2) (by omega) (by omega),zD (z:=pk.2 - pk.1) (by omega) (by omega),XY]
     have e1:min (pk.2 - pk.1) (most*per)=mn g L (most*per) k:=by unfold mn;rw [ek1,ek2];congr 1;omega
     have e2:pk.1+mn g L (most*per) k+((k / L.length:Nat):Int)*g.2=tt g L (most*per) k:=by unfold tt;omega
     rw [e1,zD (z:=pk.1+mn g L (most*per) k) (by omega) (by omega),e2,zD (by omega) (by omega)]
    refine zd (zR (show (k:Int) < wrF .i64 (2*(L.length:Int)) by rw [zD]<;>omega)) (ze (qI (show (L.length:Int)≠0 by omega)) ?_)
    refine zg (qj (a:=pk) (by show atI L (Int.tmod (k:Int) (L.length:Int))=_;rw [eI];exact wR hxk) (ze (qI (show (L.length:Int)≠0 by omega)) ?_))
    refine zk (J:=fun x=>x.2.1.1=mxK (fun j=>zh (fr g L (most*per) i) (tt g L (most*per) j)) (wV g L (most*per) per rate i) (k+1) (mxN (fun i j=>zh (fr g L (most*per) i) (tt g L (most*per) j)) (wV g L (most*per) per rate) (2*L.length) i (127*per*1048576))) ?_ ?_
    ·show qu (bif zh (wrF .i64 (pi.2 - jB (wrF .i64 (pi.2 - pi.1)) (most*per))) (wrF .i64 ((wrF .i64 (pk.1+jB (wrF .i64 (pk.2 - pk.1)) (most*per)))+(wrF .i64 ((wrF .i64 (Int.tdiv (k:Int) (L.length:Int)))*g.2)))) then _ else _) _
     rw [efr,ett]
     refine zj (fun hcd=>?_) (fun hcd=>?_)
     ·have hlt:=qn hcd
      have hij:i≤k:=by
       apply Classical.byContradiction
       intro hn
       have:=zd0 hr hL0 (show k < i by omega)
       have f1:fr g L (most*per) i=bY g L i - mn g L (most*per) i:=rfl
       have f2:tt g L (most*per) k=bX g L k+mn g L (most*per) k:=rfl
       omega
      have em:(tt g L (most*per) k - fr g L (most*per) i)*rate*per=(tt g L (most*per) k - fr g L (most*per) i)*(rate*per):=Int.mul_assoc _ _ _
      have hLe:=zsM hg ha hr hL0 p0 p1 m0 m1 hi hij hk (by omega) (by omega) hlt
      have hmul:=GX (a:=tt g L (most*per) k - fr g L (most*per) i) (b:=rate) (A:=30000000) (B:=1048576) (by omega) (by omega) (by omega) r1
      have hmul2:=GX (a:=tt g L (most*per) k - fr g L (most*per) i) (b:=rate*per) (A:=30000000) (B:=1048576) (by omega) (by omega) (by omega) r3
      have hs:=zjI hr hL0 (lost:=most*per) (by omega) i (k - i - 1)
      have hs2:snt g L (most*per) i k≤60000000:=by
       unfold snt
       rcases Nat.eq_zero_or_pos (k - i) with hz | hz
       ·rw [show k - i - 1=0 by omega];show (0:Int)≤_;omega
       ·rw [show i+1+(k - i - 1)=k by omega] at hs
        have:=zni hg hr hL0 (show i+1 < 2*L.length by omega)
        omega
      have hs3:0≤snt g L (most*per) i k:=hs.1
      rw [show wrF .i64 (tt g L (most*per) k - fr g L (most*per) i)=tt g L (most*per) k - fr g L (most*per) i from zD (by omega) (by omega),hLe,zw]
      refine za ?_
      show ur _ (wrF .i64 ((wrF .i64 ((wrF .i64 ((tt g L (most*per) k - fr g L (most*per) i)*rate))*per)) - (wrF .i64 ((snt g L (most*per) i k - 127*per)*1048576))))=mxK _ _ (k+1) _
      rw [zD (z:=(tt g L (most*per) k - fr g L (most*per) i)*rate) (by omega) (by omega),zD (z:=(snt g L (most*per) i k - 127*per)*1048576) (by omega) (by omega),em,zD (z:=(tt g L (most*per) k - fr g L (most*per) i)*(rate*per)) (by omega) (by omega),zD (z:=(tt g L (most*per) k - fr g L (most*per) i)*(rate*per) - _) (by omega) (by omega),JB]
      have e1:mxK (fun j=>zh (fr g L (most*per) i) (tt g L (most*per) j)) (wV g L (most*per) per rate i) (k+1) (mxN (fun i j=>zh (fr g L (most*per) i) (tt g L (most*per) j)) (wV g L (most*per) per rate) (2*L.length) i (127*per*1048576))=max (mxK (fun j=>zh (fr g L (most*per) i) (tt g L (most*per) j)) (wV g L (most*per) per rate i) k (mxN (fun i j=>zh (fr g L (most*per) i) (tt g L (most*per) j)) (wV g L (most*per) per rate) (2*L.length) i (127*per*1048576))) (wV g L (most*per) per rate i k):=by
       show (bif zh (fr g L (most*per) i) (tt g L (most*per) k) then _ else _)=_
       rw [hcd];rfl
      rw [e1]
      unfold wV
      rw [em]
     ·refine za ?_
      show _=mxK _ _ (k+1) _
      have e1:mxK (fun j=>zh (fr g L (most*per) i) (tt g L (most*per) j)) (wV g L (most*per) per rate i) (k+1) (mxN (fun i j=>zh (fr g L (most*per) i) (tt g L (most*per) j)) (wV g L (most*per) per rate) (2*L.length) i (127*per*1048576))=mxK (fun j=>zh (fr g L (most*per) i) (tt g L (most*per) j)) (wV g L (most*per) per rate i) k (mxN (fun i j=>zh (fr g L (most*per) i) (tt g L (most*per) j)) (wV g L (most*per) per rate) (2*L.length) i (127*per*1048576)):=by
       show (bif zh (fr g L (most*per) i) (tt g L (most*per) k) then _ else _)=_
       rw [hcd];rfl
      rw [e1]
    ·rintro ⟨j,⟨a1,⟨⟩⟩,⟨⟩⟩ h1
     simp only at h1
     subst h1
     exact za (ql (congrArg (fun z=>((_,(z,())),())) (qq (by omega))))
   ·rintro _ rfl
    exact ze (zG (show ¬((2*L.length:Nat):Int) < wrF .i64 (2*(L.length:Int)) by rw [zD]<;>omega)) (za (zq rfl))
   ·rintro ⟨j,⟨a1,a2,⟨⟩⟩,⟨⟩⟩ h1
    simp only at h1
    subst h1
    exact za (ql (congrArg (fun z=>((_,(z,())),())) (qq (by omega))))
  ·rintro _ rfl
   exact ze (zG (show ¬((L.length:Nat):Int) < (L.length:Int) by omega)) (za (zq rfl))
  ·rintro ⟨j,⟨a1,a2,⟨⟩⟩,⟨⟩⟩ h1
   exact za h1
 ·rintro ⟨j,⟨a1,a2,⟨⟩⟩,⟨⟩⟩ h1
  simp only at h1
  subst h1
  refine ze (qI (show rate*per≠0 by omega)) (za ?_)
  show ((rate,wrF .i64 (Int.tdiv (wrF .i64 ((wrF .i64 (Us g L (most*per) per rate+rate*per)) - 1)) (rate*per))),(0,()))=_
  rw [zD (z:=Us g L (most*per) per rate+rate*per) (by omega) (by omega),zD (z:=Us g L (most*per) per rate+rate*per - 1) (by omega) (by omega),Int.tdiv_eq_ediv_of_nonneg (by omega)]
  show ((rate,wrF .i64 (cl (rate*per) (Us g L (most*per) per rate))),(0,()))=_
  rw [hle,zD (by omega) (by omega)]
end
def znR (v:Int×Int):Prop:=1≤v.1∧v.1≤1048576∧0≤v.2∧v.2≤268435456
theorem zGM {g:Gts} (hg:qx g) {per most:Int} (p0:1≤per) (p1:per≤1000) (m0:84≤most) (m1:most≤1542):∃v e,wK (g,per,most,())=some (v,e,())∧Wz (g,per,most,())=some (v,e,())∧((e=0∧znR v)∨(e=4∧v=(0,0))):=by
 have hc:=hg.c1;have hp:=hg.pos;have hn:=hg.n1
 have hlost:84≤most*per∧most*per≤1542000:=by
  have:=GX (show 0≤most by omega) m1 (show 0≤per by omega) p1
  have h1:84*1≤most*per:=Int.mul_le_mul m0 p0 (by omega) (by omega)
  omega
 have eM:wrF .i64 (most*per)=most*per:=zD (by omega) (by omega)
 by_cases ha:YO g.1
 ·
  have hR:RtC g.2 per g.2:=⟨hp,hc,p0,p1,by omega,Int.le_refl _⟩
  obtain ⟨eR,r0,ry⟩:=hR.rate
  have hcp:=hR.cp
  have hr1:1≤qX g.2 per g.2:=by
   have:1*(g.2*per)≤g.2*1048576:=by
    have:=Int.mul_le_mul_of_nonneg_left (show per≤1048576 by omega) (show 0≤g.2 by omega)
    omega
   exact Int.le_ediv_of_mul_le (by omega) this
  obtain ⟨r1,r2,r3⟩:=hR.rp hr1
  obtain ⟨b1,b2,b3⟩:=zqG p0 p1 r2 r3
  have eRP:wrF .i64 (qX g.2 per g.2*per)=qX g.2 per g.2*per:=zD (by omega) (by omega)
  have hcl:=zFM ha
  refine ⟨(qX g.2 per g.2,cl (qX g.2 per g.2*per) (127*per*1048576)),0,?_,?_,.inl ⟨rfl,hr1,r1,b2,by simp only;omega⟩⟩
  ·rw [zaY];unfold Ka
   rw [Uf g p0 p1 m0 m1,zF hg,zw,cond_true]
   refine kn ?_
   refine ze rfl ?_
   rw [eM,ziw hg ha,zw]
   simp only [eR]
   refine ze (qI (show wrF .i64 (g.2*per)≠0 by rw [zD]<;>omega)) (ze (zG (by omega)) ?_)
   generalize qX g.2 per g.2=rate at *
   rw [show wrF .i64 ((wrF .i64 (-127*per))*1048576) = -127*per*1048576 from by rw [zD (z:=-127*per) (by omega) (by omega),zD (by omega) (by omega)],eRP,XJ (by omega) (by omega) (by omega) (by omega),zw]
   refine zk (J:=fun x=>x.2.1.2.1=(g.1.length:Int)∧x.2.2.1.1=[]) (zW g.1.length (fun i s=>s=((qG (g.1.take i),((i:Int),())),(([],()),((),((),()))))) (by omega) rfl ?_ ?_) ?_
   ·rintro i _ hi rfl
    have hy':g.1[i]?=some g.1[i]:=List.getElem?_eq_getElem (by omega)
    have hm:=List.getElem_mem (show i < g.1.length by omega)
    generalize g.1[i]=f at hy' hm
    have hf:=hg.el f hm
    have hb:=Qv (l:=g.1.take i) fun e he=>hg.el e (List.mem_of_mem_take he)
    have hbl:(g.1.take i).length≤128:=by simp;omega
    refine zd (zR (show (i:Int) < (g.1.length:Int) by omega)) (zg (zx (n:=i) hy' ?_))
    rw [xt hf]
    refine zd (ha f hm) (zg (zx (n:=i) hy' (za (ql ?_))))
    show (((wrF .i64 (qG (g.1.take i)+f.2)),((wrF .i64 ((i:Int)+1)),())),(([],()),((),((),()))))=_
    have:=hf.2.2.1;have:=hf.2.2.2
    rw [kz hy',qq (by omega),zD (by omega) (by omega)]
   ·rintro _ rfl
    exact ze (zG (show ¬(g.1.length:Int) < (g.1.length:Int) by omega)) (za (zq ⟨rfl,rfl⟩))
   rintro ⟨j,⟨w,z,⟨⟩⟩,⟨c,⟨⟩⟩,⟨⟩,⟨⟩,⟨⟩⟩ ⟨hv,hc'⟩
   simp only at hv hc'
   subst hv hc'
   refine zd (uh rfl) ?_
   refine zk (J:=fun x=>x.2.1.1=cl (rate*per) (127*per*1048576)∧x.2.1.2.1=rate) (zW 0 (fun _ s=>s=((ur 0 (wrF .i64 (0 - (-127*per*1048576) / (rate*per))),(rate,(per,(0,())))),((),()))) (by omega) rfl (fun i s hi=>by omega) ?_) ?_
   ·rintro _ rfl
    refine ze (zG (show ¬(0:Int) < (([]:List (Int×Int)).length:Int) by simp)) (za (zq ⟨?_,rfl⟩))
    show ur 0 (wrF .i64 (0 - (-127*per*1048576) / (rate*per)))=_
    rw [←b1,zD (by omega) (by omega),JB];omega
   ·rintro ⟨j,⟨a1,a2,a3,a4,⟨⟩⟩,⟨⟩,⟨⟩⟩ ⟨h1,h2⟩
    simp only at h1 h2
    subst h1 h2
    exact za rfl
  ·rw [zdI];unfold za3
   rw [zco g p0 p1 m0 m1,zF hg,zw,cond_true]
   refine kn ?_
   refine ze rfl ?_
   rw [zor hg ha,zw]
   simp only [eR]
   refine ze (qI (show wrF .i64 (g.2*per)≠0 by rw [zD]<;>omega)) (ze (zG (by omega)) ?_)
   generalize qX g.2 per g.2=rate at *
   rw [Ji hg,zF ha]
   simp only [zw,Bool.not_true,cond_false,eRP]
   refine ze (qI (show rate*per≠0 by omega)) (za ?_)
   rw [show wrF .i64 ((wrF .i64 (127*per))*1048576)=127*per*1048576 from by rw [zD (z:=127*per) (by omega) (by omega),zD (by omega) (by omega)]]
   rw [zD (z:=127*per*1048576+rate*per) (by omega) (by omega),zD (z:=127*per*1048576+rate*per - 1) (by omega) (by omega),Int.tdiv_eq_ediv_of_nonneg (by omega)]
   show ((rate,wrF .i64 (cl (rate*per) (127*per*1048576))),(0,()))=_
   rw [zD (by omega) (by omega)]
 ·obtain ⟨L,hL,hr⟩:=zsJ hg ha
  have hb:=Ve (lost:=most*per) (by omega) (a:=at0 g) (b:=at0 g+g.2) (by omega) hr.cv.bd hr.cv.pw
  have hR:RtC g.2 per (jc (most*per) L):=⟨hp,hc,p0,p1,hb.1,by omega⟩
  obtain ⟨eR,r0,ry⟩:=hR.rate
  have hcp:=hR.cp
  by_cases hr1:1≤qX g.2 per (jc (most*per) L)
  ·have h0:0 < L.length:=by
    apply Classical.byContradiction
    intro hn
    have:L=[]:=List.length_eq_zero_iff.1 (by omega)
    rw [this] at hr1
    unfold qX jc at hr1
    simp at hr1
   have h:OfC g L per most:=⟨hg,ha,hr,h0,p0,p1,m0,m1,hr1⟩
   have hb:=zAf h
   have hrp:=h.rc.rp hr1
   exact ⟨_,_,zFQ h,zGn h hL,.inl ⟨rfl,hr1,hrp.1,hb.1,hb.2⟩⟩
  ·refine ⟨(0,0),4,?_,?_,.inr ⟨rfl,rfl⟩⟩
   ·rw [zaY];unfold Ka
    rw [Uf g p0 p1 m0 m1,zF hg,zw,cond_true]
    refine kn (ze rfl ?_)
    rw [eM,zbK hg ha hr (by omega) (by omega),zw]
    simp only [eR]
    exact ze (qI (show wrF .i64 (g.2*per)≠0 by rw [zD]<;>omega)) (zd (zR (by omega)) (za rfl))
   ·rw [zdI];unfold za3
    rw [zco g p0 p1 m0 m1,zF hg,zw,cond_true]
    refine kn (ze rfl ?_)
    rw [zgX hg ha hL hr (by omega) (by omega),zw]
    simp only [eR]
    exact ze (qI (show wrF .i64 (g.2*per)≠0 by rw [zD]<;>omega)) (zd (zR (by omega)) (za rfl))
end Go.Proofs.YtplhphmbkmpocaaGreat.ad
namespace Go.Proofs.YtplhphmbkmpocaaGreat.ad
open Go Go.Fz Go.Fz.Sy
theorem zbn (b:Int×Int):gx (b,())=some (tv (wc b),()):=by
 rw [zqh];unfold zdL wc
 refine wa ?_
 repeat' first | refine zj (fun h=>?_) (fun h=>?_) | refine za ?_
 all_goals simp only [xu] at *
 all_goals grind
def jv (l:List (Int×Int)):Int×Int:=((l.map (·.1)).sum,(l.map (·.2)).sum)
theorem zvm {l:List (Int×Int)} {i:Nat} {b:Int×Int} (h:l[i]?=some b):jv (l.take (i+1))=((jv (l.take i)).1+b.1,(jv (l.take i)).2+b.2):=by
 unfold jv;rw [List.take_add_one,h];simp
theorem znS:∀{l:List (Int×Int)},(∀b∈l,wc b)→(l.length:Int)≤(jv l).1∧(jv l).1≤1048576*l.length∧(l.length:Int)≤(jv l).2∧(jv l).2≤2097152*l.length
 |[],_=>by simp [jv]
 |b::l,h=>by
  have ih:=znS (l:=l) fun x hx=>h x (by simp [hx])
  obtain ⟨⟨h1,h2⟩,h3,h4⟩:=h b (by simp)
  unfold jv at *
  simp only [List.map_cons,List.sum_cons,List.length_cons]
  omega
noncomputable def kV (l:List (Int×Int)):(Int×Int)×Int:=bif tv (wc (jv l)) then (jv l,0) else ((0,0),6)
theorem zuw {l:List (Int×Int)} (h0:l≠[]) (h12:l.length≤12) (hb:∀b∈l,wc b):yP (l,())=some ((kV l).1,(kV l).2,()):=by
 have hl:0 < l.length:=List.length_pos_iff.2 h0
 rw [zr2];unfold zfz
 refine kn (ze (qI (show (l.length:Int)≠0 by omega)) (ze (zG (show ¬12 < (l.length:Int) by omega)) ?_))
 refine zk (J:=fun x=>x.1=0∧x.2.1.2.1=jv l) (zW l.length (fun i s=>s=(((0,0),(jv (l.take i),(0,((i:Int),())))),())) (by omega) rfl ?_ ?_) ?_
 ·rintro i _ hi rfl
  have hx:l[i]?=some l[i]:=List.getElem?_eq_getElem hi
  have hm:=List.getElem_mem hi
  generalize l[i]=b at hx hm
  have hbb:=hb b hm
  have hbd:=znS (l:=l.take i) fun x hx=>hb x (List.mem_of_mem_take hx)
  have hlt:(l.take i).length=i:=by simp;omega
  refine zd (zR (show (i:Int) < (l.length:Int) by omega)) (zg (zx (n:=i) hx ?_))
  rw [Jf,zF hbb,zw,cond_true]
  refine ze rfl (za (ql ?_))
  obtain ⟨⟨b1,b2⟩,b3,b4⟩:=hbb
  show (((0,0),(((wrF .i64 ((jv (l.take i)).1+b.1)),(wrF .i64 ((jv (l.take i)).2+b.2))),(0,((wrF .i64 ((i:Int)+1)),())))),())=_
  rw [zvm hx,qq (by omega),zD (z:=(jv (l.take i)).1+b.1) (by omega) (by omega),zD (by omega) (by omega)]
 ·rintro _ rfl
  refine ze (zG (show ¬(l.length:Int) < (l.length:Int) by omega)) (za (zq ⟨rfl,?_⟩))
  show jv (l.take l.length)=_
  rw [List.take_length]
 ·rintro ⟨j,⟨a1,a2,a3,a4,⟨⟩⟩,⟨⟩⟩ ⟨h1,h2⟩
  simp only at h1 h2
  subst h1 h2
  refine zd rfl ?_
  rw [Jf,zw]
  unfold kV
  by_cases h:wc (jv l)
  ·rw [zF h];exact ze rfl (za rfl)
  ·rw [zQ h];exact zd rfl (za rfl)
theorem zwy {l:List (Int×Int)} (h0:l≠[]) (h12:l.length≤12) (hb:∀b∈l,wc b):Uq (l,())=some ((kV l).1,(kV l).2,()):=by
 have hl:0 < l.length:=List.length_pos_iff.2 h0
 rw [zt9];unfold zhr
 refine kn (ze (qI (show (l.length:Int)≠0 by omega)) (ze (zG (show ¬12 < (l.length:Int) by omega)) ?_))
 refine zk (J:=fun x=>x.1=0∧x.2.1.2.1=jv l) (zW l.length (fun i s=>s=(((0,0),(jv (l.take i),(0,((i:Int),())))),())) (by omega) rfl ?_ ?_) ?_
 ·rintro i _ hi rfl
  have hx:l[i]?=some l[i]:=List.getElem?_eq_getElem hi
  have hm:=List.getElem_mem hi
  generalize l[i]=b at hx hm
  have hbb:=hb b hm
  have hbd:=znS (l:=l.take i) fun x hx=>hb x (List.mem_of_mem_take hx)
  have hlt:(l.take i).length=i:=by simp;omega
  refine zd (zR (show (i:Int) < (l.length:Int) by omega)) (zg (zx (n:=i) hx ?_))
  rw [zbn,zF hbb,zw]
  refine ze rfl (zg (zx (n:=i) hx (zg (zx (n:=i) hx (za (ql ?_))))))
  obtain ⟨⟨b1,b2⟩,b3,b4⟩:=hbb
  show (((0,0),(((wrF .i64 ((jv (l.take i)).1+b.1)),(wrF .i64 ((jv (l.take i)).2+b.2))),(0,((wrF .i64 ((i:Int)+1)),())))),())=_
  rw [zvm hx,qq (by omega),zD (z:=(jv (l.take i)).1+b.1) (by omega) (by omega),zD (by omega) (by omega)]
 ·rintro _ rfl
  refine ze (zG (show ¬(l.length:Int) < (l.length:Int) by omega)) (za (zq ⟨rfl,?_⟩))
  show jv (l.take l.length)=_
  rw [List.take_length]
 ·rintro ⟨j,⟨a1,a2,a3,a4,⟨⟩⟩,⟨⟩⟩ ⟨h1,h2⟩
  simp only at h1 h2
  subst h1 h2
  refine zd rfl ?_
  rw [zbn,zw]
  unfold kV
  by_cases h:wc (jv l)
  ·rw [zF h];exact ze rfl (za rfl)
  ·rw [zQ h];exact zd rfl (za rfl)
theorem wru {z:Int} (h1:0≤z) (h2:z < 18446744073709551616):wrF .u64 z=z:=by
 rw [Ug]
 have e:IntKind.u64.wrap z=z % 18446744073709551616:=by
  unfold IntKind.wrap
  show (if (false&&decide (z % 18446744073709551616≥9223372036854775808))=true then z % 18446744073709551616 - 18446744073709551616 else z % 18446744073709551616)=_
  simp
 rw [e];omega
theorem zsN (x:Int):wo .u64 x 32=x / 4294967296:=by
 show x.fdiv (2 ^ (min (32:Int).toNat 64))=x / 4294967296
 rw [show (2:Int) ^ (min (32:Int).toNat 64)=4294967296 from rfl]
 exact Int.fdiv_eq_ediv_of_nonneg x (by omega)
theorem zBz {x:Int} (h0:0≤x) (h1:x < 4294967296):kJ .and .u64 x 4294967295=x:=by
 obtain ⟨n,rfl⟩:=Int.eq_ofNat_of_zero_le h0
 show IntKind.u64.wrap (((BitVec.ofInt 64 (n:Int)&&& BitVec.ofInt 64 4294967295).toNat:Nat):Int)=_
 have e:(BitVec.ofInt 64 (n:Int)&&& BitVec.ofInt 64 4294967295).toNat=n:=by
  rw [BitVec.toNat_and,BitVec.toNat_ofInt,BitVec.toNat_ofInt]
  have e1:((n:Int) % ((2 ^ 64:Nat):Int)).toNat=n:=by
   rw [show ((2 ^ 64:Nat):Int)=18446744073709551616 from rfl];omega
  have e2:((4294967295:Int) % ((2 ^ 64:Nat):Int)).toNat=2 ^ 32 - 1:=rfl
  rw [e1,e2,Nat.and_two_pow_sub_one_of_lt_two_pow (by omega)]
 rw [e,←Ug]
 exact wru (by omega) (by omega)
theorem zgZ {l:List Int} (hn:l.length≤1000) (h:∀x∈l,-1125899906842624≤x∧x≤1125899906842624):uP (l,())=some (true,()):=by
 rw [zp6];unfold zdB
 refine yb (zk (J:=fun x=>x.1=0) (qF l.length (fun _=>True) (by omega) ?_ ?_) ?_)
 ·intro i hi _
  have hx:l[i]?=some l[i]:=List.getElem?_eq_getElem hi
  obtain ⟨h1,h2⟩:=h _ (List.getElem_mem hi)
  generalize l[i]=x at hx h1 h2
  refine zd (zR (show (i:Int) < (l.length:Int) by omega)) (zg (zx (n:=i) hx ?_))
  refine zk (J:=fun r=>r.1=0∧r.2.1.1=false) (ze (zG (by omega)) (ze (zG (by omega)) (za ⟨rfl,rfl⟩))) ?_
  rintro ⟨j,⟨v,⟨⟩⟩,⟨⟩⟩ ⟨rfl,rfl⟩
  exact zd rfl (za (jo (by omega) trivial))
 ·intro _
  exact ze (zG (show ¬(l.length:Int) < (l.length:Int) by omega)) (za (zq rfl))
 ·rintro ⟨j,⟨v,w,⟨⟩⟩,⟨⟩⟩ h1
  simp only at h1
  subst h1
  exact zd rfl (za rfl)
theorem zsO {x:Int} (h1 : -1125899906842624≤x) (h2:x≤1125899906842624):JQ (x,())=some (x,true,()):=by
 rw [zp9];unfold zdC
 rw [zgZ (by simp) (by simp;omega)];rfl
theorem zlb {a b:Int} (a0:0≤a) (a1:a < 4294967296) (b0:0≤b) (b1:b < 4294967296):ga (a,b,())=some (0,a*b,()):=by
 have hm:=GX a0 (show a≤4294967295 by omega) b0 (show b≤4294967295 by omega)
 rw [zjs];unfold Ub
 rw [zsN a,zsN b,zBz a0 a1,zBz b0 b1,show a / 4294967296=0 by omega,show b / 4294967296=0 by omega,Int.zero_mul,Int.zero_mul,Int.mul_zero]
 rw [show wrF .u64 0=0 from rfl,wru (z:=a*b) (by omega) (by omega),zsN (a*b),Int.zero_add (a*b / 4294967296)]
 have h1:0≤a*b / 4294967296:=by omega
 have h2:a*b / 4294967296 < 4294967296:=by omega
 rw [wru (z:=a*b / 4294967296) h1 (by omega),zsN (a*b / 4294967296),show a*b / 4294967296 / 4294967296=0 by omega,zBz h1 h2,Int.add_zero (a*b / 4294967296),wru (z:=a*b / 4294967296) h1 (by omega),zsN (a*b / 4294967296),show a*b / 4294967296 / 4294967296=0 by omega]
 rfl
theorem zlc {a c:Int} (a0:0≤a) (a1:a < 18446744073709551616) (c0:0 < c):gb (0,a,c,())=some (a / c,a % c,()):=by
 rw [zjv];unfold Uc
 have hq:0≤a / c:=Int.ediv_nonneg a0 (by omega)
 have hq2:a / c≤a:=Int.ediv_le_self _ a0
 rw [qI (show c≠0 by omega),zR (show 0 < c by omega),Int.tdiv_eq_ediv_of_nonneg a0,Int.tmod_eq_emod_of_nonneg a0,wru hq (by omega)]
 rfl
theorem zix {a b c:Int} (a0:0≤a) (a1:a < 4294967296) (b0:0≤b) (b1:b < 4294967296) (c0:0 < c) (c1:c≤4294967296) (hm:a*b≤1125899906842000):uz (a,b,c,())=some (cl c (a*b),()):=by
 have hm0:0≤a*b:=Int.mul_nonneg a0 b0
 have hq:0≤a*b / c:=Int.ediv_nonneg hm0 (by omega)
 have hq2:a*b / c≤a*b:=Int.ediv_le_self _ hm0
 have hr:=Int.emod_nonneg (a*b) (show c≠0 by omega)
 have hr2:=Int.emod_lt_of_pos (a*b) c0
 have hde:=Int.emod_add_mul_ediv (a*b) c
 rw [zr6];unfold zfD
 rw [zD (z:=0 - a) (by omega) (by omega)]
 have hM:kR (0 - a,())=some (a,()):=by
  rw [zcZ];unfold Vx
  rcases Int.lt_or_le (0 - a) 0 with h | h
  ·rw [zR h,cond_true,show 0 - (0 - a)=a by omega,zD (z:=a) (by omega) (by omega),wru (z:=a) (by omega) (by omega)]
  ·rw [zG (by omega),cond_false,show 0 - a=a by omega,wru (z:=a) (by omega) (by omega)]
 have hM2:kR (b,())=some (b,()):=by
  rw [zcZ];unfold Vx
  rw [zG (by omega),cond_false,wru (z:=b) (by omega) (by omega)]
 have hcl:cl c (a*b)=if a*b % c=0 then a*b / c else a*b / c+1:=by
  unfold cl
  split
  ·rename_i h
   have e:a*b+c - 1=(c - 1)+(a*b / c)*c:=by rw [Int.mul_comm _ c];omega
   rw [e,Int.add_mul_ediv_right _ _ (by omega),Int.ediv_eq_zero_of_lt (by omega) (by omega)];omega
  ·rename_i h
   have e:a*b+c - 1=(a*b % c - 1)+(a*b / c+1)*c:=by rw [Int.add_mul,Int.mul_comm _ c];omega
   rw [e,Int.add_mul_ediv_right _ _ (by omega),Int.ediv_eq_zero_of_lt (by omega) (by omega)];omega
 have key:qu (YD (0 - a,b,c,())) fun r=>r.1 = -cl c (a*b):=by
  rw [zr5];unfold zfC
  rw [zgZ (by simp) (by simp;omega)]
  refine zk (J:=fun x=>x.1=0) (ze (zG (show ¬c < 1 by omega)) (za rfl)) ?_
  rintro ⟨j,⟨v,w,⟨⟩⟩,⟨⟩⟩ h1
  simp only at h1
  subst h1
  refine zd rfl ?_
  rw [hM,zw,hM2,zw,zlb a0 a1 b0 b1,zw,wru (z:=c) (by omega) (by omega)]
  refine ze (by rw [zR (show (0:Int) < c by omega)];rfl) ?_
  rw [zlc hm0 (by omega) c0,zw]
  refine ze (zG (show ¬1125899906842624 < a*b / c by omega)) ?_
  refine zk (J:=fun x=>x.2.1.1 = -cl c (a*b)) ?_ ?_
  ·rw [zG (show ¬b < 0 by omega),hcl]
   rcases Int.lt_or_le (0 - a) 0 with h | h
   ·rw [zR h]
    refine zd rfl (zk (J:=fun x=>x.2.1.1 = -(if a*b % c=0 then a*b / c else a*b / c+1)) ?_ ?_)
    ·rw [zD (z:=a*b / c) (by omega) (by omega),zD (z:=0 - a*b / c) (by omega) (by omega),zD (z:=0 - a*b / c - 1) (by omega) (by omega)]
     refine zj (fun h2=>?_) (fun h2=>?_)
     ·have h2:(!zi (a*b % c) 0)=true:=h2
      have:=jR (show zi (a*b % c) 0=false by simpa using h2)
      refine za ?_
      rw [if_neg this]
      show 0 - a*b / c - 1=_
      omega
     ·have h2:(!zi (a*b % c) 0)=false:=h2
      have:=qL (show zi (a*b % c) 0=true by simpa using h2)
      refine za ?_
      rw [if_pos this]
      show 0 - a*b / c=_
      omega
    ·rintro ⟨j,⟨v,⟨⟩⟩,⟨⟩⟩ h1
     exact za h1
   ·have ha:a=0:=by omega
    rw [zG (by omega),ha]
    refine ze rfl (za ?_)
    rw [Int.zero_mul,Int.zero_ediv,Int.zero_emod,if_pos rfl]
    rfl
  ·rintro ⟨j,⟨v,⟨⟩⟩,⟨⟩⟩ h1
   simp only at h1
   subst h1
   have:0≤cl c (a*b):=by rw [hcl];split<;>omega
   have:cl c (a*b)≤a*b / c+1:=by rw [hcl];split<;>omega
   rw [zsO (x:=-cl c (a*b)) (by omega) (by omega)]
   exact za rfl
 obtain ⟨⟨r,w,⟨⟩⟩,e,h⟩:=key
 rw [e,zw]
 simp only at h
 subst h
 have:0≤cl c (a*b):=by rw [hcl];split<;>omega
 have:cl c (a*b)≤a*b / c+1:=by rw [hcl];split<;>omega
 show some (wrF .i64 (0 - -cl c (a*b)),())=_
 rw [zD (by omega) (by omega),show 0 - -cl c (a*b)=cl c (a*b) by omega]
theorem ziy {n d:Int} (n0:0≤n) (n1:n≤1000000000000000000) (d0:0 < d) (d1:d≤1000000000000):Zu (n,d,())=some (cl d n,()):=by
 have hq:0≤n / d:=Int.ediv_nonneg n0 (by omega)
 have hq2:n / d≤n:=Int.ediv_le_self _ n0
 have hr:=Int.emod_nonneg n (show d≠0 by omega)
 have hr2:=Int.emod_lt_of_pos n d0
 have hde:=Int.emod_add_mul_ediv n d
 have hcl:cl d n=if n % d=0 then n / d else n / d+1:=by
  unfold cl
  split
  ·rename_i h
   have e:n+d - 1=(d - 1)+(n / d)*d:=by rw [Int.mul_comm _ d];omega
   rw [e,Int.add_mul_ediv_right _ _ (by omega),Int.ediv_eq_zero_of_lt (by omega) (by omega)];omega
  ·rename_i h
   have e:n+d - 1=(n % d - 1)+(n / d+1)*d:=by rw [Int.add_mul,Int.mul_comm _ d];omega
   rw [e,Int.add_mul_ediv_right _ _ (by omega),Int.ediv_eq_zero_of_lt (by omega) (by omega)];omega
 rw [zsj];unfold zfQ
 have e2:n / d*d=n - n % d:=by rw [Int.mul_comm];omega
 rw [qI (show d≠0 by omega),cond_false,Int.tdiv_eq_ediv_of_nonneg n0,zD (z:=n / d) (by omega) (by omega),e2,zD (z:=n - n % d) (by omega) (by omega),zD (z:=n / d+1) (by omega) (by omega),hcl]
 by_cases h:n % d=0
 ·rw [zG (by omega),if_pos h];rfl
 ·rw [zR (by omega),if_neg h];rfl
def Vf (s:Int×Int):Prop:=1≤s.1∧s.1≤2097152∧0≤s.2∧s.2≤268435456
theorem znR.ok {v:Int×Int} (h:znR v):Vf v:=⟨h.1,by have:=h.2.1;omega,h.2.2.1,h.2.2.2⟩
theorem zg0 {s:Int×Int} (h:Vf s):uM (s,())=some (0,()):=by
 obtain ⟨h1,h2,h3,h4⟩:=h
 rw [zp5];unfold zdA
 rw [zG (by omega),zG (by omega),zG (by omega),zG (by omega)];rfl
theorem zsP {s:Int×Int} (h:Vf s):XS (s,())=some (true,()):=by
 obtain ⟨h1,h2,h3,h4⟩:=h
 rw [zqi];unfold zdM
 rw [zG (by omega),zG (by omega),zG (by omega),zG (by omega)];rfl
theorem zE3 {d w M:Int} (hd:0 < d) (h0:0≤w) (h1:w≤M):0≤cl d w∧cl d w≤M+1:=by
 unfold cl
 refine ⟨Int.ediv_nonneg (by omega) (by omega),?_⟩
 have:(w+d - 1) / d≤(w*d+d) / d:=by
  refine Int.ediv_le_ediv hd ?_
  have:=Int.mul_le_mul_of_nonneg_left (show 1≤d by omega) h0
  omega
 have e:(w*d+d) / d=w+1:=by
  rw [show w*d+d=(w+1)*d by rw [Int.add_mul,Int.one_mul]];exact Int.mul_ediv_cancel _ (by omega)
 omega
theorem zBA {b s:Int×Int} (hb:wc b) (hs:Vf s):uz (b.1,1048576,s.1,())=some (cl s.1 (b.1*1048576),()):=by
 obtain ⟨⟨b1,b2⟩,b3,b4⟩:=hb
 obtain ⟨h1,h2,h3,h4⟩:=hs
 exact zix (by omega) (by omega) (by omega) (by omega) (by omega) (by omega) (by omega)
theorem zqI {b s:Int×Int} (hb:wc b) (hs:Vf s):0≤cl s.1 (b.1*1048576)∧cl s.1 (b.1*1048576)≤1099511627777:=by
 obtain ⟨⟨b1,b2⟩,b3,b4⟩:=hb
 obtain ⟨h1,h2,h3,h4⟩:=hs
 exact zE3 (M:=1099511627776) (by omega) (by omega) (by omega)
theorem zsQ {b s:Int×Int} (hb:wc b) (hs:Vf s):wX ([b],s,())=some (bif tv (b.2≤s.1) then (s.2+cl s.1 (b.1*1048576),0,()) else (0,141,())):=by
 have hd:=zqI hb hs
 have hcl:Za ([b],s.1,())=some (bif tv (b.2≤s.1) then (cl s.1 (b.1*1048576),true,()) else (0,false,())):=by
  rw [zkZ];unfold Gq
  refine kn ?_
  by_cases h:b.2≤s.1
  ·rw [zF h,cond_true]
   refine zk (J:=fun x=>x.2.1.1=cl s.1 (b.1*1048576)∧x.2.1.2.1=true) (zW 1 (fun i st=>(i=0∧st=((0,(false,(0,()))),((),((),()))))∨(i=1∧st=((cl s.1 (b.1*1048576),(true,(1,()))),((),((),()))))) (by omega) (.inl ⟨rfl,rfl⟩) ?_ ?_) ?_
   ·rintro i _ hi (⟨rfl,rfl⟩ | ⟨rfl,rfl⟩)
    ·refine zd rfl (zg (qj (a:=b) rfl (ze (zG (by omega)) ?_)))
     rw [zBA hb hs,zw]
     refine zk (J:=fun x=>x.2.1.1=cl s.1 (b.1*1048576)∧x.2.1.2.1=true) (zd rfl (za ⟨rfl,rfl⟩)) ?_
     rintro ⟨j,⟨a1,a2,⟨⟩⟩,⟨⟩,⟨⟩⟩ ⟨h1,h2⟩
     simp only at h1 h2
     subst h1 h2
     refine zk (J:=fun x=>x.1=0∧x.2.1.1=cl s.1 (b.1*1048576)∧x.2.1.2.1=true) (zW 1 (fun i st=>(i=0∧st=((cl s.1 (b.1*1048576),(true,(0,()))),((),((),()))))∨(i=1∧st=((cl s.1 (b.1*1048576),(true,(1,()))),((),((),()))))) (by omega) (.inl ⟨rfl,rfl⟩) ?_ ?_) ?_
     ·rintro i _ hi (⟨rfl,rfl⟩ | ⟨rfl,rfl⟩)
      ·refine zd rfl (zg (qj (a:=b) rfl (zd (by rw [zG (by omega)];rfl) ?_)))
       exact za (ql (.inr ⟨rfl,rfl⟩))
      ·omega
     ·rintro _ (⟨h1,rfl⟩ | ⟨_,rfl⟩)
      ·omega
      ·exact ze rfl (za (zq ⟨rfl,rfl,rfl⟩))
     ·rintro ⟨j,⟨a1,a2,a3,⟨⟩⟩,⟨⟩,⟨⟩,⟨⟩⟩ ⟨h1,h2,h3⟩
      simp only at h1 h2 h3
      subst h1 h2 h3
      exact zd rfl (za (ql (.inr ⟨rfl,rfl⟩)))
    ·omega
   ·rintro _ (⟨h1,rfl⟩ | ⟨_,rfl⟩)
    ·omega
    ·exact ze rfl (za (zq ⟨rfl,rfl⟩))
   ·rintro ⟨j,⟨a1,a2,a3,⟨⟩⟩,⟨⟩,⟨⟩,⟨⟩⟩ ⟨h1,h2⟩
    simp only at h1 h2
    subst h1 h2
    refine zj (fun _=>?_) (fun _=>?_)<;>exact za rfl
  ·rw [zQ h,cond_false]
   refine zk (J:=fun x=>x.2.1.1=0∧x.2.1.2.1=false) (zW 1 (fun i st=>(i=0∧st=((0,(false,(0,()))),((),((),()))))∨(i=1∧st=((0,(false,(1,()))),((),((),()))))) (by omega) (.inl ⟨rfl,rfl⟩) ?_ ?_) ?_
   ·rintro i _ hi (⟨rfl,rfl⟩ | ⟨rfl,rfl⟩)
    ·exact zd rfl (zg (qj (a:=b) rfl (zd (zR (by omega)) (za (ql (.inr ⟨rfl,rfl⟩))))))
    ·omega
   ·rintro _ (⟨h1,rfl⟩ | ⟨_,rfl⟩)
    ·omega
    ·exact ze rfl (za (zq ⟨rfl,rfl⟩))
   ·rintro ⟨j,⟨a1,a2,a3,⟨⟩⟩,⟨⟩,⟨⟩,⟨⟩⟩ ⟨h1,h2⟩
    simp only at h1 h2
    subst h1 h2
    refine zj (fun _=>?_) (fun _=>?_)<;>exact za rfl
 rw [zqb];unfold zdD
 refine kn (ze rfl (ze rfl (zk (J:=fun x=>x.1=0∧x.2.1.1=0) (qF 1 (fun _=>True) (by omega) ?_ ?_) ?_)))
 ·intro i hi _
  have:i=0:=by omega
  subst this
  refine zd rfl (zg (qj (a:=b) rfl ?_))
  rw [Jf,zF hb,zw]
  exact ze rfl (za (jo (by omega) trivial))
 ·intro _
  exact ze rfl (za (zq ⟨rfl,rfl⟩))
 ·rintro ⟨j,⟨v,w,⟨⟩⟩,⟨⟩⟩ ⟨h1,h2⟩
  simp only at h1 h2
  subst h1 h2
  refine zd rfl ?_
  rw [zg0 hs,zw]
  refine ze rfl ?_
  rw [hcl,zw]
  by_cases h:b.2≤s.1
  ·rw [zF h,cond_true,cond_true]
   refine ze rfl (za ?_)
   obtain ⟨h1,h2,h3,h4⟩:=hs
   show ((wrF .i64 (s.2+cl s.1 (b.1*1048576))),_)=_
   rw [zD (by omega) (by omega)]
  ·rw [zQ h]
   exact zd rfl (za rfl)
theorem zg1 {b s:Int×Int} (hb:wc b) (hs:Vf s):gy ([b],s,())=some (bif tv (b.2≤s.1) then (s.2+cl s.1 (b.1*1048576),0,()) else (0,141,())):=by
 have hd:=zqI hb hs
 obtain ⟨s1,s2,s3,s4⟩:=id hs
 obtain ⟨⟨b1,b2⟩,b3,b4⟩:=id hb
 have hsl:Kd ([b],s.1,())=some (tv (b.2≤s.1),()):=by
  rw [zsi];unfold zfN
  refine wa (zk (J:=fun x=>(x.1=0∧¬b.2≤s.1)∨(x.1=1∧x.2.1.1=true∧b.2≤s.1)) (qF 1 (fun _=>¬b.2≤s.1) (by omega) ?_ ?_) ?_)
  ·intro i hi _
   have:i=0:=by omega
   subst this
   refine zd rfl (zg (qj (a:=b) rfl (zj (fun h=>?_) (fun h=>?_))))
   ·have:=qw (show zh s.1 b.2=false by simpa using h)
    exact za (zq (.inr ⟨rfl,rfl,this⟩))
   ·have:=qn (show zh s.1 b.2=true by simpa using h)
    exact za (jo (by omega) (by omega))
  ·intro hp
   exact ze rfl (za (zq (.inl ⟨rfl,hp 0 (by omega)⟩)))
  ·rintro ⟨j,⟨v,w,⟨⟩⟩,⟨⟩⟩ (⟨rfl,h⟩ | ⟨rfl,rfl,h⟩)
   ·exact zd rfl (za ⟨fun h=>(by cases h),fun h'=>absurd h' h⟩)
   ·exact ze rfl (za ⟨fun _=>h,fun _=>rfl⟩)
 have hcl:b.2≤s.1→Ja ([b],s.1,())=some (cl s.1 (b.1*1048576),()):=by
  intro h
  rw [zk2];unfold Gv
  refine yb (zk (J:=fun x=>x.2.1.1=cl s.1 (b.1*1048576)) (zW 1 (fun i st=>(i=0∧st=((-1,(0,())),()))∨(i=1∧st=((cl s.1 (b.1*1048576),(1,())),()))) (by omega) (.inl ⟨rfl,rfl⟩) ?_ ?_) ?_)
  ·rintro i _ hi (⟨rfl,rfl⟩ | ⟨rfl,rfl⟩)
   ·refine zd rfl (zg (qj (a:=b) rfl (ze (zG (by omega)) ?_)))
    rw [show wrF .i64 (b.1*1048576)=b.1*1048576 from zD (by omega) (by omega),ziy (by omega) (by omega) (by omega) (by omega),zw]
    refine zk (J:=fun x=>x.2.1.1=cl s.1 (b.1*1048576)) (zd rfl (za rfl)) ?_
    rintro ⟨j,⟨a1,⟨⟩⟩,⟨⟩⟩ h1
    simp only at h1
    subst h1
    refine zk (J:=fun x=>x.2.1.1=cl s.1 (b.1*1048576)) (zW 1 (fun i st=>(i=0∧st=((cl s.1 (b.1*1048576),(0,())),()))∨(i=1∧st=((cl s.1 (b.1*1048576),(1,())),()))) (by omega) (.inl ⟨rfl,rfl⟩) ?_ ?_) ?_
    ·rintro i _ hi (⟨rfl,rfl⟩ | ⟨rfl,rfl⟩)
     ·refine zd rfl (zg (qj (a:=b) rfl (zk (J:=fun x=>x.2.1.1=cl s.1 (b.1*1048576)) (ze (zG (by omega)) (za rfl)) ?_)))
      rintro ⟨j,⟨a1,⟨⟩⟩,⟨⟩⟩ h1
      simp only at h1
      subst h1
      exact za (ql (.inr ⟨rfl,rfl⟩))
     ·omega
    ·rintro _ (⟨h1,rfl⟩ | ⟨_,rfl⟩)
     ·omega
     ·exact ze rfl (za (zq rfl))
    ·rintro ⟨j,⟨a1,a2,⟨⟩⟩,⟨⟩⟩ h1
     simp only at h1
     subst h1
     exact za (ql (.inr ⟨rfl,rfl⟩))
   ·omega
  ·rintro _ (⟨h1,rfl⟩ | ⟨_,rfl⟩)
   ·omega
   ·exact ze rfl (za (zq rfl))
  ·rintro ⟨j,⟨a1,a2,⟨⟩⟩,⟨⟩⟩ h1
   exact za h1
 rw [zqk];unfold zdP
 refine kn (ze rfl (ze rfl (zk (J:=fun x=>x.1=0) (zW 1 (fun i st=>st=((0,(0,((i:Int),()))),())) (by omega) rfl ?_ ?_) ?_)))
 ·rintro i _ hi rfl
  have:i=0:=by omega
  subst this
  refine zd rfl (zg (qj (a:=b) rfl ?_))
  rw [zbn,zF hb,zw]
  exact ze rfl (za (ql rfl))
 ·rintro _ rfl
  exact ze rfl (za (zq rfl))
 ·rintro ⟨j,⟨v,w,z,⟨⟩⟩,⟨⟩⟩ h1
  simp only at h1
  subst h1
  refine zd rfl ?_
  rw [zsP hs,zw]
  refine ze rfl ?_
  rw [hsl,zw]
  by_cases h:b.2≤s.1
  ·rw [zF h,cond_true]
   refine ze rfl ?_
   rw [hcl h,zw]
   refine za ?_
   show ((wrF .i64 (s.2+cl s.1 (b.1*1048576))),_)=_
   rw [zD (by omega) (by omega)]
  ·rw [zQ h,cond_false]
   exact zd rfl (za rfl)
theorem zAg {b s:Int×Int} (hb:wc b) (hs:Vf s):0≤b.2*s.2∧b.2*s.2≤562949953421312∧0≤cl 1048576 (b.2*s.2)∧cl 1048576 (b.2*s.2)≤562949953421313:=by
 obtain ⟨s1,s2,s3,s4⟩:=hs
 obtain ⟨⟨b1,b2⟩,b3,b4⟩:=hb
 have:=GX (show 0≤b.2 by omega) b4 s3 s4
 have:=zE3 (d:=1048576) (w:=b.2*s.2) (M:=562949953421312) (by omega) (by omega) (by omega)
 omega
theorem zos {b s:Int×Int} (hb:wc b) (hs:Vf s) (h:b.2≤s.1):jM (b,s,())=some (b.1+cl 1048576 (b.2*s.2),0,()):=by
 have hbb:=zAg hb hs
 obtain ⟨s1,s2,s3,s4⟩:=id hs
 obtain ⟨⟨b1,b2⟩,b3,b4⟩:=id hb
 rw [zmG];unfold za0
 have e:gf (b,s,())=some (0,()):=by
  rw [zjx];unfold Ud
  rw [Jf,zF hb,zw,cond_true,zg0 hs,zw,zG (by omega)];rfl
 rw [e,zw]
 refine kn (ze rfl ?_)
 rw [zix (by omega) (by omega) s3 (by omega) (by omega) (by omega) (by omega)]
 refine za ?_
 show ((wrF .i64 (b.1+cl 1048576 (b.2*s.2))),_)=_
 rw [zD (by omega) (by omega)]
theorem zot {b s:Int×Int} (hb:wc b) (hs:Vf s) (h:b.2≤s.1):WA (b,s,())=some (b.1+cl 1048576 (b.2*s.2),0,()):=by
 have hbb:=zAg hb hs
 obtain ⟨⟨b1,b2⟩,b3,b4⟩:=id hb
 rw [zmR];unfold za5
 rw [zg1 hb hs,zF h,zw,cond_true]
 refine kn (ze rfl ?_)
 rw [show wrF .i64 (b.2*s.2)=b.2*s.2 from zD (by omega) (by omega),ziy (by omega) (by omega) (by omega) (by omega)]
 refine za ?_
 show ((wrF .i64 (b.1+cl 1048576 (b.2*s.2))),_)=_
 rw [zD (by omega) (by omega)]
abbrev Bnd:=(Int×Int)×(Int×Int)×Int×Int
def zB:Bnd:=((0,0),((0,0),(0,0)))
def Qw (s:qO) (p:Int):Prop:=∃r∈s.2.2.2.2.2.2.2.2,p∈r
noncomputable def load (l:List qO) (p:Int):List (Int×Int):=(l.filter fun s=>tv (Qw s p)).map fun s=>s.2.2.2.2.2.2.1
structure okP (n:Fab) (l:List qO):Prop where
 f:zjH n
 a:znc n.1 l
 n12:l.length≤12
 d:zhy l
 c:∀s∈l,s.2.2.2.1=6∧s.2.2.2.2.1≤n.2.2.2
noncomputable def ofS (g:Gts) (per most:Int):(Int×Int)×Int:=match Wz (g,per,most,()) with
 |some (v,e,())=>(v,e)
 |none=>((0,0),0)
theorem zwP {g:Gts} (hg:qx g) {per most:Int} (p0:1≤per) (p1:per≤1000) (m0:84≤most) (m1:most≤1542):wK (g,per,most,())=some ((ofS g per most).1,(ofS g per most).2,())∧Wz (g,per,most,())=some ((ofS g per most).1,(ofS g per most).2,())∧(((ofS g per most).2=0∧znR (ofS g per most).1)∨((ofS g per most).2=4∧(ofS g per most).1=(0,0))):=by
 obtain ⟨v,e,h1,h2,h3⟩:=zGM hg p0 p1 m0 m1
 have e1:ofS g per most=(v,e):=by unfold ofS;rw [h2]
 rw [e1]
 exact ⟨h1,h2,h3⟩
noncomputable def zBB (b v:Int×Int):Bnd:=(b,(v,(v.2+cl v.1 (b.1*1048576),b.1+cl 1048576 (b.2*v.2))))
noncomputable def qD (n:Fab) (l:List qO) (p:Int):Bnd×Int:=
 bif tv (load l p=[]) then (zB,4)
 else bif tv ((ofS ((n.2.2.1[p.toNat]?).getD ([],0)) (lnk n.1 p).2.2.1 n.2.2.2).2=0) then
  bif tv ((kV (load l p)).2=0) then
   bif tv ((kV (load l p)).1.2≤(ofS ((n.2.2.1[p.toNat]?).getD ([],0)) (lnk n.1 p).2.2.1 n.2.2.2).1.1) then (zBB (kV (load l p)).1 (ofS ((n.2.2.1[p.toNat]?).getD ([],0)) (lnk n.1 p).2.2.1 n.2.2.2).1,0)
   else (zB,141)
  else (zB,6)
 else (zB,411)
theorem zqJ {t:qi} {s:qO} (hs:Zc t s) (p:Int):YF (s,p,())=some (tv (Qw s p),()):=by
 have rn:=hs.rn
 rw [zof];unfold zch
 refine wa (zk (J:=fun x=>(x.1=0∧¬Qw s p)∨(x.1=1∧x.2.1.1=true∧Qw s p)) (qF s.2.2.2.2.2.2.2.2.length (fun i=>∀r,s.2.2.2.2.2.2.2.2[i]?=some r→¬p∈r) (by omega) ?_ ?_) ?_)
 ·intro i hi hp
  have hx:s.2.2.2.2.2.2.2.2[i]?=some s.2.2.2.2.2.2.2.2[i]:=List.getElem?_eq_getElem hi
  have hm:=List.getElem_mem hi
  generalize s.2.2.2.2.2.2.2.2[i]=r at hx hm
  have hr8:=(hs.rt r hm).1.n1
  refine zd (zR (show (i:Int) < (s.2.2.2.2.2.2.2.2.length:Int) by omega)) ?_
  refine zk (J:=fun x=>(x.1=0∧x.2.1.1=false∧¬p∈r)∨(x.1=1∧x.2.1.1=true∧p∈r)) (qF r.length (fun k=>r[k]?≠some p) (by omega) ?_ ?_) ?_
  ·intro k hk hpk
   have hy:r[k]?=some r[k]:=List.getElem?_eq_getElem hk
   refine zg (zx (n:=i) hx (zd (zR (show (k:Int) < (r.length:Int) by omega)) (zg (zx (n:=i) hx (zg (zx (n:=k) hy ?_))))))
   refine zj (fun h=>?_) (fun h=>?_)
   ·have:r[k]=p:=qL h
    exact za (zq (.inr ⟨rfl,rfl,by rw [←this];exact List.getElem_mem hk⟩))
   ·have:r[k]≠p:=jR h
    exact za (jo (by omega) (by rw [hy];intro e;cases e;exact this rfl))
  ·intro hpk
   refine zg (zx (n:=i) hx (ze (zG (show ¬(r.length:Int) < (r.length:Int) by omega)) (za (zq (.inl ⟨rfl,rfl,fun hm=>?_⟩)))))
   obtain ⟨k,hk,hk2⟩:=jV hm
   exact hpk k hk hk2
  ·rintro ⟨j,⟨v,w,⟨⟩⟩,⟨⟩⟩ (⟨rfl,rfl,hq⟩ | ⟨rfl,rfl,hq⟩)
   ·exact zd rfl (za (jo (by omega) fun r' hr'=>by rw [hx] at hr';cases hr';exact hq))
   ·exact ze rfl (za (zq (.inr ⟨rfl,rfl,r,hm,hq⟩)))
 ·intro hp
  refine ze (zG (show ¬(s.2.2.2.2.2.2.2.2.length:Int) < (s.2.2.2.2.2.2.2.2.length:Int) by omega)) (za (zq (.inl ⟨rfl,fun ⟨r,h1,h2⟩=>?_⟩)))
  obtain ⟨k,hk,hk2⟩:=jV h1
  exact hp k hk r hk2 h2
 ·rintro ⟨j,⟨v,w,⟨⟩⟩,⟨⟩⟩ (⟨rfl,hq⟩ | ⟨rfl,rfl,hq⟩)
  ·exact zd rfl (za ⟨fun h=>(by cases h),fun h=>absurd h hq⟩)
  ·exact ze rfl (za ⟨fun _=>hq,fun _=>rfl⟩)
theorem znl {l:List qO} {i:Nat} {s:qO} (h:l[i]?=some s) (p:Int):load (l.take (i+1)) p=bif tv (Qw s p) then load (l.take i) p++[s.2.2.2.2.2.2.1] else load (l.take i) p:=by
 unfold load
 rw [List.take_add_one,h,Option.toList,List.filter_append,List.map_append]
 cases e:tv (Qw s p) with
 |true=>simp [e]
 |false=>simp [e]
theorem znT {n:Fab} {l:List qO} (h:okP n l) (p:Int):(load l p).length≤12∧∀b∈load l p,wc b:=by
 unfold load
 refine ⟨?_,fun b hb=>?_⟩
 ·rw [List.length_map]
  have:=List.length_filter_le (fun s=>tv (Qw s p)) l
  have:=h.n12
  omega
 ·obtain ⟨s,hs,rfl⟩:=List.mem_map.1 hb
  have hs:=(List.mem_filter.1 hs).1
  have h1:=h.a s hs
  have h2:=(h.c s hs).1
  rcases h1.cl with ⟨h3,_⟩ | ⟨_,_,h4,h5⟩
  ·omega
  ·have:=h1.sz
   exact ⟨⟨by omega,h4.2⟩,h5⟩
theorem zg2 {n:Fab} (h:zjH n) {p:Int} (hp:jG n.1 p):∃g,n.2.2.1[p.toNat]?=some g∧(n.2.2.1[p.toNat]?).getD ([],0)=g∧qx g∧1≤(lnk n.1 p).2.2.1∧(lnk n.1 p).2.2.1≤1000:=by
 have:=hp.1;have:=hp.2
 have hf:=h.f.1
 have hx:n.2.2.1[p.toNat]?=some (n.2.2.1[p.toNat]'(by omega)):=List.getElem?_eq_getElem (by omega)
 have hl:=(h.t.ls _ _ (YM hp)).1
 exact ⟨_,hx,by rw [hx];rfl,h.g _ (List.getElem_mem _),hl.2.2.2.2.1,hl.2.2.2.2.2.1⟩
theorem zkI {n:Fab} {l:List qO} (h:okP n l) {p:Int} (hp:jG n.1 p):Qp (n,l,p,())=some ((qD n l p).1,(qD n l p).2,()):=by
 have h12:=h.n12
 obtain ⟨lb1,lb2⟩:=znT h p
 obtain ⟨g,hx,hge,hg,p0,p1⟩:=zg2 h.f hp
 obtain ⟨o1,o2,o3⟩:=zwP hg p0 p1 h.f.f.2.1 h.f.f.2.2
 rw [zuc];unfold zhu qD
 rw [hge]
 refine kn (zk (J:=fun x=>x.2.2.1=load l p) (zW l.length (fun i s=>s=(((i:Int),()),(load (l.take i) p,()))) (by omega) rfl ?_ ?_) ?_)
 ·rintro i _ hi rfl
  have hy:l[i]?=some l[i]:=List.getElem?_eq_getElem hi
  have hm:=List.getElem_mem hi
  generalize l[i]=s at hy hm
  have hll:(load (l.take i) p).length≤12:=by
   unfold load;rw [List.length_map]
   have:=List.length_filter_le (fun s=>tv (Qw s p)) (l.take i)
   simp only [List.length_take] at this;omega
  refine zd (zR (show (i:Int) < (l.length:Int) by omega)) ?_
  refine zk (J:=fun x=>x.2.2.1=load (l.take (i+1)) p) ?_ ?_
  ·refine zg (zx (n:=i) hy ?_)
   rw [zqJ (h.a s hm),zw,znl hy]
   cases hpa:tv (Qw s p) with
   |true=>
    refine zd rfl (zg (zx (n:=i) hy (zd (yc (by show ((load (l.take i) p).length+1)*16≤_;omega) (by show (load (l.take i) p).length+1≤_;omega)) (za rfl))))
   |false=>exact ze rfl (za rfl)
  ·rintro ⟨j,⟨⟩,c,⟨⟩⟩ hc
   simp only at hc
   subst hc
   exact za (ql (congrArg (fun z=>((z,()),(_,()))) (qq (by omega))))
 ·rintro _ rfl
  refine ze (zG (show ¬(l.length:Int) < (l.length:Int) by omega)) (za (zq ?_))
  show load (l.take l.length) p=_
  rw [List.take_length]
 ·rintro ⟨j,⟨z,⟨⟩⟩,c,⟨⟩⟩ hc
  simp only at hc
  subst hc
  by_cases hne:load l p=[]
  ·rw [zF hne,cond_true,hne]
   exact zd rfl (za rfl)
  have hlen:(load l p).length≠0:=fun e=>hne (List.length_eq_zero_iff.1 e)
  rw [zQ hne,cond_false]
  refine ze (qI (show ((load l p).length:Int)≠0 by omega)) (zg (qj (a:=g) (by show atI n.2.2.1 p=_;rw [show p=((p.toNat:Nat):Int) from (by have:=hp.1;omega),wR (n:=p.toNat)];exact hx) ?_))
  rw [zwx h.f.t.ll hp,zw,o2,zw]
  rcases o3 with ⟨o4,o5⟩ | ⟨o4,o5⟩
  ·rw [o4,zF rfl,cond_true]
   refine ze rfl ?_
   rw [zwy hne lb1 lb2,zw]
   have hs2:(kV (load l p)).2=0∧wc (kV (load l p)).1∨(kV (load l p)).2=6:=by
    unfold kV
    by_cases hb:wc (jv (load l p))
    ·rw [zF hb];exact .inl ⟨rfl,hb⟩
    ·rw [zQ hb];exact .inr rfl
   rcases hs2 with ⟨hs2,hb⟩ | hs2
   ·rw [hs2,zF rfl,cond_true]
    refine ze rfl ?_
    rw [zg1 hb o5.ok,zw]
    by_cases hle:(kV (load l p)).1.2≤(ofS g (lnk n.1 p).2.2.1 n.2.2.2).1.1
    ·rw [zF hle,cond_true,cond_true]
     refine ze rfl ?_
     rw [zot hb o5.ok hle,zw]
     exact za rfl
    ·rw [zQ hle,cond_false,cond_false]
     exact zd rfl (za rfl)
   ·rw [hs2,zQ (by simp)]
    exact zd rfl (za rfl)
  ·rw [o4,zQ (by simp)]
   exact zd rfl (za rfl)
abbrev UY:=List (Int×Bnd×Int)
def gg (n:Fab) (l:List qO) (m:UY):Prop:=∀q z,mpH m q=true→mpD m q z=qD n l q
theorem zvn (n:Fab) (l:List qO):gg n l []:=fun q z h=>by cases h
theorem zvo {n:Fab} {l:List qO} {m:UY} (h:gg n l m) (p:Int) {r:Bnd×Int} (hr:r=qD n l p):gg n l (mpP m p r):=fun q z hq=>by
 rw [zAa]
 split
 ·rename_i e;rw [←e,hr]
 ·rename_i e
  rw [zFJ] at hq
  refine h q z ?_
  simpa [e] using hq
noncomputable def zGo (n:Fab) (l:List qO) (m:UY) (p:Int):Option (Nat×(((Bnd×Int)×Unit)×(UY×Unit))):=
 (bif (!(mpH (α:=(((Int×Int)×((Int×Int)×(Int×Int)))×Int)) (m) (p))) then opt (zC (fun s7:((Int×Unit)×(((List (Int×Int))×Unit)×(Unit×(Unit×Unit))))=>
         bif (zh (s7.1.1) ((((l).length:Nat):Int))) then opt (atI (l) (s7.1.1)) fun x8=>
          opt (zC (fun s9:((Int×(Int×Unit))×(((List (Int×Int))×Unit)×(Unit×(Unit×Unit))))=>
           bif (zh (s9.1.2.1) ((((x8.2.2.2.2.2.2.2.2).length:Nat):Int))) then opt (atI (x8.2.2.2.2.2.2.2.2) (s9.1.2.1)) fun x10=>
            opt (qt ((x10,(p,())))) fun x11=>
            bif x11.1 then some (.inl (1,((s9.1.2.1,(s9.1.2.1,())),((s9.2.1.1,()),((),((),()))))))
            else some (.inr ((s9.1.1,((wrF .i64 ((s9.1.2.1+1))),())),((s9.2.1.1,()),((),((),())))))
           else some (.inl (0,((s9.1.1,(s9.1.2.1,())),((s9.2.1.1,()),((),((),()))))))) zK ((0,(0,())),((s7.2.1.1,()),((),((),()))))) fun x12=>
          bif (Nat.beq x12.1 0) then some (.inr (((wrF .i64 ((s7.1.1+1))),()),((x12.2.2.1.1,()),((),((),())))))
          else bif (!(zh (x12.2.1.1) (0))) then bif (qT ((x12.2.2.1.1).length) (((x8.2.2.2.2.2.2.1::[])).length) (16)) then some (.inr (((wrF .i64 ((s7.1.1+1))),()),(((x12.2.2.1.1++(x8.2.2.2.2.2.2.1::[])),()),((),((),())))))
            else none
           else some (.inr (((wrF .i64 ((s7.1.1+1))),()),((x12.2.2.1.1,()),((),((),())))))
         else some (.inl (0,((s7.1.1,()),((s7.2.1.1,()),((),((),()))))))) zK ((0,()),(([],()),((),((),()))))) fun x13=>
        bif (Nat.beq x13.1 0) then bif (zi ((((x13.2.2.1.1).length:Nat):Int)) (0)) then some (0,(((((0,0),((0,0),(0,0))),4),()),((mpP (α:=(((Int×Int)×((Int×Int)×(Int×Int)))×Int)) (m) (p) ((((0,0),((0,0),(0,0))),4))),())))
         else opt (xY ((n.1,(p,())))) fun x14=>
          bif (!(zi (x14.2.1) (0))) then some (0,(((((0,0),((0,0),(0,0))),x14.2.1),()),((mpP (α:=(((Int×Int)×((Int×Int)×(Int×Int)))×Int)) (m) (p) ((((0,0),((0,0),(0,0))),x14.2.1))),())))
          else opt (atI (n.2.2.1) (p)) fun x15=>
           opt (wK ((x15,(x14.1,(n.2.2.2,()))))) fun x16=>
           bif (!(zi (x16.2.1) (0))) then some (0,(((((0,0),((0,0),(0,0))),411),()),((mpP (α:=(((Int×Int)×((Int×Int)×(Int×Int)))×Int)) (m) (p) ((((0,0),((0,0),(0,0))),411))),())))
           else opt (yP ((x13.2.2.1.1,()))) fun x17=>
            bif (!(zi (x17.2.1) (0))) then some (0,(((((0,0),((0,0),(0,0))),x17.2.1),()),((mpP (α:=(((Int×Int)×((Int×Int)×(Int×Int)))×Int)) (m) (p) ((((0,0),((0,0),(0,0))),x17.2.1))),())))
            else opt (wX (((x17.1::[]),(x16.1,())))) fun x18=>
             bif (!(zi (x18.2.1) (0))) then some (0,(((((0,0),((0,0),(0,0))),x18.2.1),()),((mpP (α:=(((Int×Int)×((Int×Int)×(Int×Int)))×Int)) (m) (p) ((((0,0),((0,0),(0,0))),x18.2.1))),())))
             else opt (jM ((x17.1,(x16.1,())))) fun x19=>
              bif (!(zi (x19.2.1) (0))) then some (0,(((((0,0),((0,0),(0,0))),x19.2.1),()),((mpP (α:=(((Int×Int)×((Int×Int)×(Int×Int)))×Int)) (m) (p) ((((0,0),((0,0),(0,0))),x19.2.1))),())))
              else some (0,((((x17.1,(x16.1,(x18.1,x19.1))),0),()),((mpP (α:=(((Int×Int)×((Int×Int)×(Int×Int)))×Int)) (m) (p) (((x17.1,(x16.1,(x18.1,x19.1))),0))),())))
        else bif (zi ((((x13.2.2.1.1).length:Nat):Int)) (0)) then some (0,(((((0,0),((0,0),(0,0))),4),()),((mpP (α:=(((Int×Int)×((Int×Int)×(Int×Int)))×Int)) (m) (p) ((((0,0),((0,0),(0,0))),4))),())))
         else opt (xY ((n.1,(p,())))) fun x20=>
          bif (!(zi (x20.2.1) (0))) then some (0,(((((0,0),((0,0),(0,0))),x20.2.1),()),((mpP (α:=(((Int×Int)×((Int×Int)×(Int×Int)))×Int)) (m) (p) ((((0,0),((0,0),(0,0))),x20.2.1))),())))
          else opt (atI (n.2.2.1) (p)) fun x21=>
           opt (wK ((x21,(x20.1,(n.2.2.2,()))))) fun x22=>
           bif (!(zi (x22.2.1) (0))) then some (0,(((((0,0),((0,0),(0,0))),411),()),((mpP (α:=(((Int×Int)×((Int×Int)×(Int×Int)))×Int)) (m) (p) ((((0,0),((0,0),(0,0))),411))),())))
           else opt (yP ((x13.2.2.1.1,()))) fun x23=>
            bif (!(zi (x23.2.1) (0))) then some (0,(((((0,0),((0,0),(0,0))),x23.2.1),()),((mpP (α:=(((Int×Int)×((Int×Int)×(Int×Int)))×Int)) (m) (p) ((((0,0),((0,0),(0,0))),x23.2.1))),())))
            else opt (wX (((x23.1::[]),(x22.1,())))) fun x24=>
             bif (!(zi (x24.2.1) (0))) then some (0,(((((0,0),((0,0),(0,0))),x24.2.1),()),((mpP (α:=(((Int×Int)×((Int×Int)×(Int×Int)))×Int)) (m) (p) ((((0,0),((0,0),(0,0))),x24.2.1))),())))
             else opt (jM ((x23.1,(x22.1,())))) fun x25=>
              bif (!(zi (x25.2.1) (0))) then some (0,(((((0,0),((0,0),(0,0))),x25.2.1),()),((mpP (α:=(((Int×Int)×((Int×Int)×(Int×Int)))×Int)) (m) (p) ((((0,0),((0,0),(0,0))),x25.2.1))),())))
              else some (0,((((x23.1,(x22.1,(x24.1,x25.1))),0),()),((mpP (α:=(((Int×Int)×((Int×Int)×(Int×Int)))×Int)) (m) (p) (((x23.1,(x22.1,(x24.1,x25.1))),0))),())))
       else some (0,(((mpD (α:=(((Int×Int)×((Int×Int)×(Int×Int)))×Int)) (m) (p) ((((0,0),((0,0),(0,0))),0))),()),(m,()))))
theorem zAh {n:Fab} {l:List qO} (h:okP n l) {p:Int} (hp:jG n.1 p) {m:UY} {c:List (Int×Int)} (hc:c=load l p) {X:Option (Nat×(((Bnd×Int)×Unit)×(UY×Unit)))}
  (hX:X=bif (zi ((((c).length:Nat):Int)) (0)) then some (0,(((zB,4),()),((mpP m p (zB,4)),())))
   else opt (xY (n.1,(p,()))) fun x14=>bif (!(zi (x14.2.1) (0))) then some (0,(((zB,x14.2.1),()),((mpP m p (zB,x14.2.1)),())))
    else opt (atI (n.2.2.1) p) fun x15=>opt (wK (x15,(x14.1,(n.2.2.2,())))) fun x16=>bif (!(zi (x16.2.1) (0))) then some (0,(((zB,411),()),((mpP m p (zB,411)),())))
     else opt (yP (c,())) fun x17=>bif (!(zi (x17.2.1) (0))) then some (0,(((zB,x17.2.1),()),((mpP m p (zB,x17.2.1)),())))
      else opt (wX ((x17.1::[]),(x16.1,()))) fun x18=>bif (!(zi (x18.2.1) (0))) then some (0,(((zB,x18.2.1),()),((mpP m p (zB,x18.2.1)),())))
       else opt (jM (x17.1,(x16.1,()))) fun x19=>bif (!(zi (x19.2.1) (0))) then some (0,(((zB,x19.2.1),()),((mpP m p (zB,x19.2.1)),())))
        else some (0,((((x17.1,(x16.1,(x18.1,x19.1))),0),()),((mpP m p (((x17.1,(x16.1,(x18.1,x19.1))),0))),())))) :
  qu X fun x=>x.2.1.1=qD n l p∧x.2.2.1=mpP m p (qD n l p):=by
 obtain ⟨lb1,lb2⟩:=znT h p
 obtain ⟨g,hx,hge,hg,p0,p1⟩:=zg2 h.f hp
 obtain ⟨o1,o2,o3⟩:=zwP hg p0 p1 h.f.f.2.1 h.f.f.2.2
 have fin:∀{r:Bnd×Int},r=qD n l p→qu (some ((0:Nat),((r,()),((mpP m p r),())))) fun x=>x.2.1.1=qD n l p∧x.2.2.1=mpP m p (qD n l p):=fun e=>za ⟨e,by rw [e]⟩
 subst hX hc
 unfold qD at fin
 rw [hge] at fin
 unfold qD
 rw [hge]
 by_cases hne:load l p=[]
 ·rw [zF hne,cond_true] at fin ⊢
  rw [hne]
  exact zd rfl (fin rfl)
 have hlen:(load l p).length≠0:=fun e=>hne (List.length_eq_zero_iff.1 e)
 rw [zQ hne,cond_false] at fin ⊢
 refine ze (qI (show ((load l p).length:Int)≠0 by omega)) ?_
 rw [zyR h.f.t hp,zw]
 refine ze rfl (zg (qj (a:=g) (by rw [show p=((p.toNat:Nat):Int) from (by have:=hp.1;omega),wR (n:=p.toNat)];exact hx) ?_))
 rw [o1,zw]
 rcases o3 with ⟨o4,o5⟩ | ⟨o4,o5⟩
 ·rw [o4,zF rfl,cond_true] at fin ⊢
  refine ze rfl ?_
  rw [zuw hne lb1 lb2,zw]
  have hs2:(kV (load l p)).2=0∧wc (kV (load l p)).1∨(kV (load l p)).2=6:=by
   unfold kV
   by_cases hb:wc (jv (load l p))
   ·rw [zF hb];exact .inl ⟨rfl,hb⟩
   ·rw [zQ hb];exact .inr rfl
  rcases hs2 with ⟨hs2,hb⟩ | hs2
  ·rw [hs2,zF rfl,cond_true] at fin ⊢
   refine ze rfl ?_
   rw [zsQ hb o5.ok,zw]
   by_cases hle:(kV (load l p)).1.2≤(ofS g (lnk n.1 p).2.2.1 n.2.2.2).1.1
   ·rw [zF hle,cond_true] at fin ⊢
    rw [cond_true]
    refine ze rfl ?_
    rw [zos hb o5.ok hle,zw]
    exact ze rfl (fin rfl)
   ·rw [zQ hle,cond_false] at fin ⊢
    rw [cond_false]
    exact zd rfl (fin rfl)
  ·rw [hs2,zQ (by simp)] at fin ⊢
   exact zd rfl (fin rfl)
 ·rw [o4,zQ (by simp)] at fin ⊢
  exact zd rfl (fin rfl)
theorem zy0 {n:Fab} {l:List qO} (h:okP n l) {p:Int} (hp:jG n.1 p) {m:UY} (hm:gg n l m):qu (zGo n l m p) fun x=>x.2.1.1=qD n l p∧gg n l x.2.2.1:=by
 have h12:=h.n12
 unfold zGo
 refine zj (fun hk=>?_) (fun hk=>?_)
 rotate_left
 ·have hk:mpH m p=true:=by simpa using hk
  exact za ⟨hm p _ hk,hm⟩
 refine zk (J:=fun x=>x.2.2.1.1=load l p) (zW l.length (fun i s=>s=(((i:Int),()),((load (l.take i) p,()),((),((),()))))) (by omega) rfl ?_ ?_) ?_
 ·rintro i _ hi rfl
  have hy:l[i]?=some l[i]:=List.getElem?_eq_getElem hi
  have hmm:=List.getElem_mem hi
  generalize l[i]=s at hy hmm
  have hs:=h.a s hmm
  have rn:=hs.rn
  have hll:(load (l.take i) p).length≤12:=by
   unfold load;rw [List.length_map]
   have:=List.length_filter_le (fun s=>tv (Qw s p)) (l.take i)
   simp only [List.length_take] at this;omega
  refine zd (zR (show (i:Int) < (l.length:Int) by omega)) (zg (zx (n:=i) hy ?_))
  refine zk (J:=fun x=>(x.1=0∧x.2.2.1.1=load (l.take i) p∧¬Qw s p)∨(x.1=1∧0≤x.2.1.1∧x.2.2.1.1=load (l.take i) p∧Qw s p))
   (zW s.2.2.2.2.2.2.2.2.length (fun k st=>st=((0,((k:Int),())),((load (l.take i) p,()),((),((),()))))∧∀k',k' < k→∀r,s.2.2.2.2.2.2.2.2[k']?=some r→¬p∈r) (by omega) ⟨rfl,fun k' hk'=>by omega⟩ ?_ ?_) ?_
  ·rintro k _ hk ⟨rfl,hpk⟩
   have hx:s.2.2.2.2.2.2.2.2[k]?=some s.2.2.2.2.2.2.2.2[k]:=List.getElem?_eq_getElem hk
   have hmr:=List.getElem_mem hk
   generalize s.2.2.2.2.2.2.2.2[k]=r at hx hmr
   have hr8:=(hs.rt r hmr).1.n1
   refine zd (zR (show (k:Int) < (s.2.2.2.2.2.2.2.2.length:Int) by omega)) (zg (zx (n:=k) hx ?_))
   rw [Ur (by omega),zw]
   refine zj (fun hc=>?_) (fun hc=>?_)
   ·exact za (zq (.inr ⟨rfl,by show (0:Int)≤(k:Int);omega,rfl,r,hmr,Zk hc⟩))
   ·refine za (ql ⟨congrArg (fun z=>(((0:Int),(z,())),_)) (qq (by omega)),fun k' hk' r' hr'=>?_⟩)
    rcases Nat.lt_or_ge k' k with h1 | h1
    ·exact hpk k' h1 r' hr'
    ·have:k'=k:=by omega
     subst this
     rw [hx] at hr';cases hr'
     exact gJ hc
  ·rintro _ ⟨rfl,hpk⟩
   refine ze (zG (show ¬(s.2.2.2.2.2.2.2.2.length:Int) < (s.2.2.2.2.2.2.2.2.length:Int) by omega)) (za (zq (.inl ⟨rfl,rfl,fun ⟨r,h1,h2⟩=>?_⟩)))
   obtain ⟨k,hk1,hk2⟩:=jV h1
   exact hpk k hk1 r hk2 h2
  ·rintro ⟨j,⟨v,w,⟨⟩⟩,⟨c,⟨⟩⟩,⟨⟩,⟨⟩,⟨⟩⟩ (⟨rfl,hc,hq⟩ | ⟨rfl,hv,hc,hq⟩)
   ·simp only at hc
    subst hc
    refine zd rfl (za (ql ?_))
    rw [znl hy,zQ hq,cond_false]
    exact congrArg (fun z=>((z,()),_)) (qq (by omega))
   ·simp only at hc hv
    subst hc
    refine ze rfl (zd (by rw [zG (show ¬v < 0 by omega)];rfl) (zd (yc (by show ((load (l.take i) p).length+1)*16≤_;omega) (by show (load (l.take i) p).length+1≤_;omega)) (za (ql ?_))))
    rw [znl hy,zF hq,cond_true]
    exact congrArg (fun z=>((z,()),_)) (qq (by omega))
 ·rintro _ rfl
  refine ze (zG (show ¬(l.length:Int) < (l.length:Int) by omega)) (za (zq ?_))
  show load (l.take l.length) p=_
  rw [List.take_length]
 ·rintro ⟨j,⟨z,⟨⟩⟩,⟨c,⟨⟩⟩,⟨⟩,⟨⟩,⟨⟩⟩ hc
  simp only at hc
  refine zj (fun _=>?_) (fun _=>?_)
  ·exact zvd (zAh h hp (m:=m) hc rfl) fun x hx=>⟨hx.1,by rw [hx.2];exact zvo hm p rfl⟩
  ·exact zvd (zAh h hp (m:=m) hc rfl) fun x hx=>⟨hx.1,by rw [hx.2];exact zvo hm p rfl⟩
def zqK (n:Fab) (l:List qO):Prop:=∀s∈l,s.2.2.2.1=6∧s.2.2.2.2.1≤n.2.2.2
noncomputable def Qj (n:Fab) (l:List qO):Int:=bif tv (Jz n=0) then bif tv (Jg n.1 l=0) then bif tv (zqK n l) then 0 else 2 else Jg n.1 l else Jz n
theorem zsR {t:qi} {l:List qO} (h:Jg t l=0):l.length≤12∧znc t l∧zhy l:=by
 unfold Jg at h
 by_cases h1:l.length≤12
 ·by_cases h2:znc t l
  ·by_cases h3:zhy l
   ·exact ⟨h1,h2,h3⟩
   ·rw [zF h1,zF h2,zQ h3] at h;cases h
  ·rw [zF h1,zQ h2] at h;cases h
 ·rw [zQ h1] at h;cases h
theorem ziz {n:Fab} {l:List qO} (h:Qj n l=0):okP n l:=by
 unfold Qj at h
 by_cases h1:Jz n=0
 ·by_cases h2:Jg n.1 l=0
  ·by_cases h3:zqK n l
   ·obtain ⟨a,b,c⟩:=zsR h2
    exact ⟨zsG h1,b,a,c,h3⟩
   ·rw [zF h1,zF h2,zQ h3] at h;cases h
  ·rw [zF h1,zQ h2] at h;exact absurd h h2
 ·rw [zQ h1] at h;exact absurd h h1
theorem zEz
      {n:Fab} {s:qO}:qu (bif (!(zi (s.2.2.2.1) (6))) then some ((1:Nat),(((),((2:Int),())),()))
      else bif (zh (n.2.2.2) (s.2.2.2.2.1)) then some (1,(((),(2,())),()))
       else some (0,(((),(0,())),()))) fun x=>(x.1=0∧x.2.1.2.1=0∧s.2.2.2.1=6∧s.2.2.2.2.1≤n.2.2.2)∨(x.1=1∧x.2.1.2.1=2∧¬(s.2.2.2.1=6∧s.2.2.2.2.1≤n.2.2.2)):=by
 refine zj (fun h=>za (.inr ⟨rfl,rfl,fun hs=>?_⟩)) fun h1=>zj (fun h=>za (.inr ⟨rfl,rfl,fun hs=>?_⟩)) fun h2=>za (.inl ⟨rfl,rfl,qL (by simpa using h1),qw h2⟩)
 ·rw [uh hs.1] at h;cases h
 ·have:=qn h;omega
theorem zy1 {n:Fab} {l:List qO} (h12:l.length≤12) {B:((Unit×(Int×(Int×Unit)))×Unit)→Option ((Nat×((Unit×(Int×(Int×Unit)))×Unit)) ⊕ ((Unit×(Int×(Int×Unit)))×Unit))}
  (hB :
     B=fun s4=>bif (zh (s4.1.2.2.1) ((((l).length:Nat):Int))) then opt (atI (l) (s4.1.2.2.1)) fun x5=>
     opt (bif (!(zi (x5.2.2.2.1) (6))) then some (1,(((),(2,())),()))
      else bif (zh (n.2.2.2) (x5.2.2.2.2.1)) then some (1,(((),(2,())),()))
       else some (0,(((),(s4.1.2.1,())),()))) fun x6=>
     bif (Nat.beq x6.1 0) then some (.inr (((),(x6.2.1.2.1,((wrF .i64 ((s4.1.2.2.1+1))),()))),()))
     else some (.inl (1,(((),(x6.2.1.2.1,(s4.1.2.2.1,()))),())))
    else some (.inl (0,(((),(s4.1.2.1,(s4.1.2.2.1,()))),())))) :
  qu (zC B zK (((),(0,(0,()))),())) fun x=>(x.1=0∧x.2.1.2.1=0∧zqK n l)∨(x.1=1∧x.2.1.2.1=2∧¬zqK n l):=by
 subst hB
 refine zW l.length (fun i st=>st=(((),(0,((i:Int),()))),())∧∀(k:Nat),k < i→∀s,l[k]?=some s→s.2.2.2.1=6∧s.2.2.2.2.1≤n.2.2.2) (by omega) ⟨rfl,fun k hk=>by omega⟩ ?_ ?_
 ·rintro i _ hi ⟨rfl,hp⟩
  have hx:l[i]?=some l[i]:=List.getElem?_eq_getElem hi
  have hm:=List.getElem_mem hi
  generalize l[i]=s at hx hm
  refine zd (zR (show (i:Int) < (l.length:Int) by omega)) (zg (zx (n:=i) hx (zk zEz ?_)))
  rintro ⟨j,⟨⟨⟩,v,⟨⟩⟩,⟨⟩⟩ (⟨rfl,rfl,hq⟩ | ⟨rfl,rfl,hq⟩)
  ·refine zd rfl (za (ql ⟨congrArg (fun z=>(((),((0:Int),(z,()))),())) (qq (by omega)),fun k hk r' hr'=>?_⟩))
   rcases Nat.lt_or_ge k i with h1 | h1
   ·exact hp k h1 r' hr'
   ·have:k=i:=by omega
    subst this
    rw [hx] at hr';cases hr';exact hq
  ·exact ze rfl (za (zq (.inr ⟨rfl,rfl,fun h=>hq (h s hm)⟩)))
 ·rintro _ ⟨rfl,hp⟩
  refine ze (zG (show ¬(l.length:Int) < (l.length:Int) by omega)) (za (zq (.inl ⟨rfl,rfl,fun r hr=>?_⟩)))
  obtain ⟨k,hk,hk2⟩:=jV hr
  exact hp k hk r hk2
theorem zux {n:Fab} (hn:n.2.2.1.length≤1000000000000000000) (l:List qO):Kb (n,l,())=some (Qj n l,()):=by
 rw [zr8];unfold zfJ Qj
 rw [ziv hn,zw]
 by_cases h1:Jz n=0
 rotate_left
 ·rw [zQ h1,qI h1]
  refine yb (zk (J:=fun x=>x.2.1.1=Jz n) (za rfl) ?_)
  rintro ⟨j,⟨v,⟨⟩⟩,⟨⟩⟩ hv
  simp only at hv
  subst hv
  refine zd ?_ (za rfl)
  show (!zi (Jz n) 0)=true
  rw [qI h1];rfl
 rw [zF h1,h1,cond_true]
 have hf:=zsG h1
 rw [znd hf.t]
 refine yb (zk (J:=fun x=>x.2.1.1=Jg n.1 l) (zd rfl (za rfl)) ?_)
 rintro ⟨j,⟨v,⟨⟩⟩,⟨⟩⟩ hv
 simp only at hv
 subst hv
 by_cases h2:Jg n.1 l=0
 rotate_left
 ·rw [zQ h2]
  refine zd ?_ (za rfl)
  show (!zi (Jg n.1 l) 0)=true
  rw [qI h2];rfl
 rw [zF h2,cond_true]
 obtain ⟨h12,ha,hd⟩:=zsR h2
 refine ze (show (!zi (Jg n.1 l) 0)=false by rw [uh h2];rfl) ?_
 refine zk (J:=fun x=>(x.1=0∧zqK n l)∨(x.1=1∧x.2.1.1=2∧¬zqK n l)) (qF l.length (fun i=>∀s,l[i]?=some s→s.2.2.2.1=6∧s.2.2.2.2.1≤n.2.2.2) (by omega) ?_ ?_) ?_
 ·intro i hi hp
  have hx:l[i]?=some l[i]:=List.getElem?_eq_getElem hi
  have hm:=List.getElem_mem hi
  generalize l[i]=s at hx hm
  refine zd (zR (show (i:Int) < (l.length:Int) by omega)) ?_
  refine zk (J:=fun x=>(x.1=0∧x.2.1.1=0∧s.2.2.2.1=6∧s.2.2.2.2.1≤n.2.2.2)∨(x.1=1∧x.2.1.1=2∧¬(s.2.2.2.1=6∧s.2.2.2.2.1≤n.2.2.2))) ?_ ?_
  ·refine zg (zx (n:=i) hx ?_)
   refine zj (fun h=>za (.inr ⟨rfl,rfl,fun hs=>?_⟩)) fun h1=>zg (zx (n:=i) hx (zj (fun h=>za (.inr ⟨rfl,rfl,fun hs=>?_⟩)) fun h2=>za (.inl ⟨rfl,rfl,qL (by simpa using h1),qw h2⟩)))
   ·rw [uh hs.1] at h;cases h
   ·have:=qn h;omega
  ·rintro ⟨j,⟨v,⟨⟩⟩,⟨⟩⟩ (⟨rfl,rfl,hq⟩ | ⟨rfl,rfl,hq⟩)
   ·exact zd rfl (za (jo (by omega) fun r' hr'=>by rw [hx] at hr';cases hr';exact hq))
   ·exact ze rfl (za (zq (.inr ⟨rfl,rfl,fun h=>hq (h s hm)⟩)))
 ·intro hp
  refine ze (zG (show ¬(l.length:Int) < (l.length:Int) by omega)) (za (zq (.inl ⟨rfl,fun r hr=>?_⟩)))
  obtain ⟨k,hk,hk2⟩:=jV hr
  exact hp k hk r hk2
 ·rintro ⟨j,⟨v,w,⟨⟩⟩,⟨⟩⟩ (⟨rfl,hq⟩ | ⟨rfl,rfl,hq⟩)
  ·rw [zF hq];exact zd rfl (za rfl)
  ·rw [zQ hq];exact ze rfl (za rfl)
noncomputable def Zy (n:Fab) (l:List qO) (p:Int):Bnd×Int:=bif tv (Qj n l=0) then bif tv (jG n.1 p) then qD n l p else (zB,2) else (zB,Qj n l)
theorem zCY {n:Fab} (hll:n.1.2.2.length≤1000000000000000) (p:Int):qu (bif (zh (p) (0)) then some ((1:Nat),((zB,((2:Int),())),()))
     else bif (!(zh (p) ((wrF .i64 ((2*(((n.1.2.2).length:Nat):Int))))))) then some (1,((zB,(2,())),()))
      else some (0,((zB,(0,())),()))) fun x=>(x.1=0∧jG n.1 p)∨(x.1=1∧x.2.1.1=zB∧x.2.1.2.1=2∧¬jG n.1 p):=by
 rw [tw n.1 hll]
 refine zj (fun h=>za (.inr ⟨rfl,rfl,rfl,fun hp=>?_⟩)) fun h1=>zj (fun h=>za (.inr ⟨rfl,rfl,rfl,fun hp=>?_⟩)) fun h2=>za (.inl ⟨rfl,qw h1,qn (by simpa using h2)⟩)
 ·have:=qn h;have:=hp.1;omega
 ·rw [zR hp.2] at h;cases h
theorem zd1 {n:Fab} (hn:n.2.2.1.length≤1000000000000000000) (hll:n.1.2.2.length≤1000000000000000) (l:List qO) (p:Int):Vb (n,l,p,())=some ((Zy n l p).1,(Zy n l p).2,()):=by
 rw [ztZ];unfold zhk Zy Qj
 rw [GW hn,zw]
 by_cases h1:Jz n=0
 rotate_left
 ·rw [zQ h1,cond_false]
  refine kn (zd (show (!zi (Jz n) 0)=true by rw [qI h1];rfl) (zd (show (!zi (Jz n) 0)=true by rw [qI h1];rfl) (za ?_)))
  rw [zQ h1];rfl
 have hf:=zsG h1
 refine kn (ze (show (!zi (Jz n) 0)=false by rw [h1];rfl) ?_)
 rw [zbJ hf.t,zw,zF h1,cond_true]
 by_cases h2:Jg n.1 l=0
 rotate_left
 ·rw [zQ h2,cond_false]
  refine zd (show (!zi (Jg n.1 l) 0)=true by rw [qI h2];rfl) (zd (show (!zi (Jg n.1 l) 0)=true by rw [qI h2];rfl) (za ?_))
  rw [zQ h2];rfl
 obtain ⟨h12,ha,hd⟩:=zsR h2
 refine ze (show (!zi (Jg n.1 l) 0)=false by rw [h2];rfl) (zk (zy1 (n:=n) h12 rfl) ?_)
 rw [zF h2,cond_true]
 rintro ⟨j,⟨⟨⟩,v,w,⟨⟩⟩,⟨⟩⟩ (⟨rfl,rfl,hc⟩ | ⟨rfl,rfl,hc⟩)
 rotate_left
 ·rw [zQ hc,cond_false,zQ (by simp)]
  exact ze rfl (zd rfl (za rfl))
 rw [zF hc,cond_true,zF rfl,cond_true]
 have ok:okP n l:=⟨hf,ha,h12,hd,hc⟩
 refine zd rfl (zk (zCY hll p) ?_)
 rintro ⟨j,⟨v,w,⟨⟩⟩,⟨⟩⟩ (⟨rfl,hp⟩ | ⟨rfl,h1,h2,hp⟩)
 ·refine zd rfl (zk (zy0 ok hp (zvn n l)) ?_)
  rintro ⟨j,⟨v,⟨⟩⟩,c,⟨⟩⟩ ⟨hv,hk⟩
  simp only at hv
  subst hv
  rw [zF hp]
  exact za rfl
 ·simp only at h1 h2
  subst h1 h2
  rw [zQ hp]
  exact ze rfl (za rfl)
theorem zBC {n:Fab} {l:List qO} (h:okP n l) {p:Int} (hp:jG n.1 p) :
  (∃b v,(qD n l p)=(zBB b v,0)∧wc b∧znR v∧b.2≤v.1∧load l p≠[]∧b=jv (load l p))∨((qD n l p).1=zB∧(qD n l p).2≠0):=by
 obtain ⟨g,hx,hge,hg,p0,p1⟩:=zg2 h.f hp
 obtain ⟨o1,o2,o3⟩:=zwP hg p0 p1 h.f.f.2.1 h.f.f.2.2
 unfold qD
 rw [hge]
 by_cases hne:load l p=[]
 ·rw [zF hne];exact .inr ⟨rfl,by show (4:Int)≠0;decide⟩
 rw [zQ hne,cond_false]
 rcases o3 with ⟨o4,o5⟩ | ⟨o4,o5⟩
 ·rw [o4,zF rfl,cond_true]
  unfold kV
  by_cases hb:wc (jv (load l p))
  ·rw [zF hb,cond_true,zF rfl,cond_true]
   by_cases hle:(jv (load l p)).2≤(ofS g (lnk n.1 p).2.2.1 n.2.2.2).1.1
   ·rw [zF hle];exact .inl ⟨_,_,rfl,hb,o5,hle,hne,rfl⟩
   ·rw [zQ hle];exact .inr ⟨rfl,by show (141:Int)≠0;decide⟩
  ·rw [zQ hb,cond_false,zQ (by simp)];exact .inr ⟨rfl,by show (6:Int)≠0;decide⟩
 ·rw [o4,zQ (by simp)];exact .inr ⟨rfl,by show (411:Int)≠0;decide⟩
theorem zCZ {n:Fab} {l:List qO} (h:okP n l) {p:Int} (hp:jG n.1 p):0≤(qD n l p).1.2.2.1∧(qD n l p).1.2.2.1≤1099780063233:=by
 rcases zBC h hp with ⟨b,v,e,hb,hv,_⟩ | ⟨e,_⟩
 ·rw [e]
  have hd:=zqI hb hv.ok
  have h1:=hv.2.2.1;have h2:=hv.2.2.2
  show 0≤v.2+cl v.1 (b.1*1048576)∧v.2+cl v.1 (b.1*1048576)≤_
  omega
 ·rw [e];exact ⟨Int.le_refl _,by show (0:Int)≤_;decide⟩
noncomputable def VB (n:Fab) (l:List qO):List Int→Int→Int×Int
 |[],s=>(s,0)
 |p::r,s=>bif tv ((qD n l p).2=0) then VB n l r (s+((qD n l p).1.2.2.1+(lnk n.1 p).2.2.2+n.2.1.2.2.1)) else (0,(qD n l p).2)
noncomputable def vj (n:Fab) (l:List qO) (r:List Int):Int×Int:=VB n l r 0
theorem zvp {n:Fab} (h:zjH n) {p:Int} (hp:jG n.1 p):0≤(lnk n.1 p).2.2.2∧(lnk n.1 p).2.2.2≤10000:=by
 have hl:=(h.t.ls _ _ (YM hp)).1
 exact ⟨hl.2.2.2.2.2.2.1,hl.2.2.2.2.2.2.2⟩
noncomputable def zE4 (n:Fab) (l:List qO) (m:UY) (r:List Int):Option (Nat×((Int×(Int×(Int×(Int×Unit))))×(UY×Unit))):=
 zC (fun s32:((Int×(Int×(Int×(Int×Unit))))×((List (Int×(((Int×Int)×((Int×Int)×(Int×Int)))×Int)))×Unit))=>
          bif (zh (s32.1.2.2.2.1) ((((r).length:Nat):Int))) then opt (atI (r) (s32.1.2.2.2.1)) fun x33=>
           opt (bif (!(mpH (α:=(((Int×Int)×((Int×Int)×(Int×Int)))×Int)) (s32.2.1) (x33))) then opt (zC (fun s34:((Int×Unit)×(((List (Int×Int))×Unit)×(Unit×(Unit×Unit))))=>
              bif (zh (s34.1.1) ((((l).length:Nat):Int))) then opt (atI (l) (s34.1.1)) fun x35=>
               opt (zC (fun s36:((Int×(Int×Unit))×(((List (Int×Int))×Unit)×(Unit×(Unit×Unit))))=>
                bif (zh (s36.1.2.1) ((((x35.2.2.2.2.2.2.2.2).length:Nat):Int))) then opt (atI (x35.2.2.2.2.2.2.2.2) (s36.1.2.1)) fun x37=>
                 opt (qt ((x37,(x33,())))) fun x38=>
                 bif x38.1 then some (.inl (1,((s36.1.2.1,(s36.1.2.1,())),((s36.2.1.1,()),((),((),()))))))
                 else some (.inr ((s36.1.1,((wrF .i64 ((s36.1.2.1+1))),())),((s36.2.1.1,()),((),((),())))))
                else some (.inl (0,((s36.1.1,(s36.1.2.1,())),((s36.2.1.1,()),((),((),()))))))) zK ((0,(0,())),((s34.2.1.1,()),((),((),()))))) fun x39=>
               bif (Nat.beq x39.1 0) then some (.inr (((wrF .i64 ((s34.1.1+1))),()),((x39.2.2.1.1,()),((),((),())))))
               else bif (!(zh (x39.2.1.1) (0))) then bif (qT ((x39.2.2.1.1).length) (((x35.2.2.2.2.2.2.1::[])).length) (16)) then some (.inr (((wrF .i64 ((s34.1.1+1))),()),(((x39.2.2.1.1++(x35.2.2.2.2.2.2.1::[])),()),((),((),())))))
                 else none
                else some (.inr (((wrF .i64 ((s34.1.1+1))),()),((x39.2.2.1.1,()),((),((),())))))
              else some (.inl (0,((s34.1.1,()),((s34.2.1.1,()),((),((),()))))))) zK ((0,()),(([],()),((),((),()))))) fun x40=>
             bif (Nat.beq x40.1 0) then bif (zi ((((x40.2.2.1.1).length:Nat):Int)) (0)) then some (0,(((((0,0),((0,0),(0,0))),4),()),((mpP (α:=(((Int×Int)×((Int×Int)×(Int×Int)))×Int)) (s32.2.1) (x33) ((((0,0),((0,0),(0,0))),4))),())))
              else opt (xY ((n.1,(x33,())))) fun x41=>
               bif (!(zi (x41.2.1) (0))) then some (0,(((((0,0),((0,0),(0,0))),x41.2.1),()),((mpP (α:=(((Int×Int)×((Int×Int)×(Int×Int)))×Int)) (s32.2.1) (x33) ((((0,0),((0,0),(0,0))),x41.2.1))),())))
               else opt (atI (n.2.2.1) (x33)) fun x42=>
                opt (wK ((x42,(x41.1,(n.2.2.2,()))))) fun x43=>
                bif (!(zi (x43.2.1) (0))) then some (0,(((((0,0),((0,0),(0,0))),411),()),((mpP (α:=(((Int×Int)×((Int×Int)×(Int×Int)))×Int)) (s32.2.1) (x33) ((((0,0),((0,0),(0,0))),411))),())))
                else opt (yP ((x40.2.2.1.1,()))) fun x44=>
                 bif (!(zi (x44.2.1) (0))) then some (0,(((((0,0),((0,0),(0,0))),x44.2.1),()),((mpP (α:=(((Int×Int)×((Int×Int)×(Int×Int)))×Int)) (s32.2.1) (x33) ((((0,0),((0,0),(0,0))),x44.2.1))),())))
                 else opt (wX (((x44.1::[]),(x43.1,())))) fun x45=>
                  bif (!(zi (x45.2.1) (0))) then some (0,(((((0,0),((0,0),(0,0))),x45.2.1),()),((mpP (α:=(((Int×Int)×((Int×Int)×(Int×Int)))×Int)) (s32.2.1) (x33) ((((0,0),((0,0),(0,0))),x45.2.1))),())))
                  else opt (jM ((x44.1,(x43.1,())))) fun x46=>
                   bif (!(zi (x46.2.1) (0))) then some (0,(((((0,0),((0,0),(0,0))),x46.2.1),()),((mpP (α:=(((Int×Int)×((Int×Int)×(Int×Int)))×Int)) (s32.2.1) (x33) ((((0,0),((0,0),(0,0))),x46.2.1))),())))
                   else some (0,((((x44.1,(x43.1,(x45.1,x46.1))),0),()),((mpP (α:=(((Int×Int)×((Int×Int)×(Int×Int)))×Int)) (s32.2.1) (x33) (((x44.1,(x43.1,(x45.1,x46.1))),0))),())))
             else bif (zi ((((x40.2.2.1.1).length:Nat):Int)) (0)) then some (0,(((((0,0),((0,0),(0,0))),4),()),((mpP (α:=(((Int×Int)×((Int×Int)×(Int×Int)))×Int)) (s32.2.1) (x33) ((((0,0),((0,0),(0,0))),4))),())))
              else opt (xY ((n.1,(x33,())))) fun x47=>
               bif (!(zi (x47.2.1) (0))) then some (0,(((((0,0),((0,0),(0,0))),x47.2.1),()),((mpP (α:=(((Int×Int)×((Int×Int)×(Int×Int)))×Int)) (s32.2.1) (x33) ((((0,0),((0,0),(0,0))),x47.2.1))),())))
               else opt (atI (n.2.2.1) (x33)) fun x48=>
                opt (wK ((x48,(x47.1,(n.2.2.2,()))))) fun x49=>
                bif (!(zi (x49.2.1) (0))) then some (0,(((((0,0),((0,0),(0,0))),411),()),((mpP (α:=(((Int×Int)×((Int×Int)×(Int×Int)))×Int)) (s32.2.1) (x33) ((((0,0),((0,0),(0,0))),411))),())))
                else opt (yP ((x40.2.2.1.1,()))) fun x50=>
                 bif (!(zi (x50.2.1) (0))) then some (0,(((((0,0),((0,0),(0,0))),x50.2.1),()),((mpP (α:=(((Int×Int)×((Int×Int)×(Int×Int)))×Int)) (s32.2.1) (x33) ((((0,0),((0,0),(0,0))),x50.2.1))),())))
                 else opt (wX (((x50.1::[]),(x49.1,())))) fun x51=>
                  bif (!(zi (x51.2.1) (0))) then some (0,(((((0,0),((0,0),(0,0))),x51.2.1),()),((mpP (α:=(((Int×Int)×((Int×Int)×(Int×Int)))×Int)) (s32.2.1) (x33) ((((0,0),((0,0),(0,0))),x51.2.1))),())))
                  else opt (jM ((x50.1,(x49.1,())))) fun x52=>
                   bif (!(zi (x52.2.1) (0))) then some (0,(((((0,0),((0,0),(0,0))),x52.2.1),()),((mpP (α:=(((Int×Int)×((Int×Int)×(Int×Int)))×Int)) (s32.2.1) (x33) ((((0,0),((0,0),(0,0))),x52.2.1))),())))
                   else some (0,((((x50.1,(x49.1,(x51.1,x52.1))),0),()),((mpP (α:=(((Int×Int)×((Int×Int)×(Int×Int)))×Int)) (s32.2.1) (x33) (((x50.1,(x49.1,(x51.1,x52.1))),0))),())))
            else some (0,(((mpD (α:=(((Int×Int)×((Int×Int)×(Int×Int)))×Int)) (s32.2.1) (x33) ((((0,0),((0,0),(0,0))),0))),()),(s32.2.1,())))) fun x53=>
           bif (!(zi (x53.2.1.1.2) (0))) then some (.inl (1,((0,(x53.2.1.1.2,(s32.1.2.2.1,(s32.1.2.2.2.1,())))),(x53.2.2.1,()))))
           else opt (Jc ((n.1,(x33,())))) fun x54=>
            bif (!(zi (x54.2.1) (0))) then some (.inl (1,((0,(x54.2.1,(s32.1.2.2.1,(s32.1.2.2.2.1,())))),(x53.2.2.1,()))))
            else some (.inr ((s32.1.1,(s32.1.2.1,((wrF .i64 ((s32.1.2.2.1+(wrF .i64 (((wrF .i64 ((x53.2.1.1.1.2.2.1+x54.1)))+n.2.1.2.2.1)))))),((wrF .i64 ((s32.1.2.2.2.1+1))),())))),(x53.2.2.1,())))
          else some (.inl (0,((s32.1.1,(s32.1.2.1,(s32.1.2.2.1,(s32.1.2.2.2.1,())))),(s32.2.1,()))))) zK ((0,(0,(0,(0,())))),(m,()))
theorem zFR {n:Fab} {l:List qO} (h:okP n l) {r:List Int} (hr:qV n.1 r) {m:UY} (hm:gg n l m) :
  qu (zE4 n l m r) fun x=>gg n l x.2.2.1∧((x.1=0∧x.2.1.2.2.1=(vj n l r).1∧(vj n l r).2=0)∨(x.1=1∧x.2.1.1=0∧x.2.1.2.1=(vj n l r).2∧(vj n l r).2≠0∧(vj n l r).1=0)):=by
 have r8:=hr.n1
 have hu:=h.f.u.2.2.1
 unfold zE4
 refine zW r.length (fun i st=>∃s m',st=((0,(0,(s,((i:Int),())))),(m',()))∧gg n l m'∧vj n l r=VB n l (r.drop i) s∧0≤s∧s≤1099780083233*(i:Int)) (by omega) ⟨0,m,rfl,hm,rfl,Int.le_refl _,by omega⟩ ?_ ?_
 ·rintro i _ hi ⟨s,m',rfl,hk,ht,s0,s1⟩
  have hx:r[i]?=some r[i]:=List.getElem?_eq_getElem hi
  have hpt:=hr.pt _ (List.getElem_mem hi)
  have hdr:r.drop i=r[i]::r.drop (i+1):=List.drop_eq_getElem_cons hi
  generalize r[i]=p at hx hpt hdr
  have hb:=zCZ h hpt
  have hd:=zvp h.f hpt
  rw [hdr] at ht
  unfold VB at ht
  refine zd (zR (show (i:Int) < (r.length:Int) by omega)) (zg (zx (n:=i) hx (zk (zy0 h hpt hk) ?_)))
  rintro ⟨j,⟨v,⟨⟩⟩,c,⟨⟩⟩ ⟨hv,hk2⟩
  simp only at hv hk2
  subst hv
  by_cases he:(qD n l p).2=0
  ·rw [zF he,cond_true] at ht
   refine ze (show (!zi (qD n l p).2 0)=false by rw [he];rfl) ?_
   rw [zup h.f.t hpt,zw]
   refine ze rfl (za (ql ⟨_,c,?_,hk2,ht,by omega,by omega⟩))
   show ((0,(0,((wrF .i64 (s+(wrF .i64 ((wrF .i64 ((qD n l p).1.2.2.1+(lnk n.1 p).2.2.2))+n.2.1.2.2.1)))),((wrF .i64 ((i:Int)+1)),())))),(c,()))=_
   rw [qq (by omega),zD (z:=(qD n l p).1.2.2.1+(lnk n.1 p).2.2.2) (by omega) (by omega),zD (z:=(qD n l p).1.2.2.1+(lnk n.1 p).2.2.2+n.2.1.2.2.1) (by omega) (by omega),zD (by omega) (by omega)]
  ·rw [zQ he,cond_false] at ht
   refine zd (show (!zi (qD n l p).2 0)=true by rw [qI he];rfl) (za (zq ⟨hk2,.inr ⟨rfl,rfl,?_,?_,?_⟩⟩))
   ·rw [ht]
   ·rw [ht];exact he
   ·rw [ht]
 ·rintro _ ⟨s,m',rfl,hk,ht,s0,s1⟩
  rw [List.drop_length] at ht
  refine ze (zG (show ¬(r.length:Int) < (r.length:Int) by omega)) (za (zq ⟨hk,.inl ⟨rfl,?_,?_⟩⟩))
  ·rw [ht];rfl
  ·rw [ht];rfl
theorem zuy {n:Fab} {l:List qO} (h:okP n l) {r:List Int} (hr:qV n.1 r):Ke (n,l,r,())=some ((vj n l r).1,(vj n l r).2,()):=by
 have r8:=hr.n1
 have hu:=h.f.u.2.2.1
 rw [zsn];unfold zfW
 refine kn (zk (J:=fun x=>(x.1=0∧x.2.1.2.2.1=(vj n l r).1∧(vj n l r).2=0)∨(x.1=1∧x.2.1.1=(vj n l r).1∧x.2.1.2.1=(vj n l r).2)) (zW r.length (fun i st=>∃s,st=((0,(0,(s,((i:Int),())))),())∧vj n l r=VB n l (r.drop i) s∧0≤s∧s≤1099780083233*(i:Int)) (by omega) ⟨0,rfl,rfl,Int.le_refl _,by omega⟩ ?_ ?_) ?_)
 ·rintro i _ hi ⟨s,rfl,ht,s0,s1⟩
  have hx:r[i]?=some r[i]:=List.getElem?_eq_getElem hi
  have hpt:=hr.pt _ (List.getElem_mem hi)
  have hdr:r.drop i=r[i]::r.drop (i+1):=List.drop_eq_getElem_cons hi
  generalize r[i]=p at hx hpt hdr
  have hb:=zCZ h hpt
  have hd:=zvp h.f hpt
  rw [hdr] at ht
  unfold VB at ht
  refine zd (zR (show (i:Int) < (r.length:Int) by omega)) (zg (zx (n:=i) hx ?_))
  rw [zkI h hpt,zw]
  by_cases he:(qD n l p).2=0
  ·rw [zF he,cond_true] at ht
   refine ze (show (!zi (qD n l p).2 0)=false by rw [he];rfl) (zg (zx (n:=i) hx ?_))
   rw [zsB h.f.t.ll hpt,zw]
   refine za (ql ⟨_,?_,ht,by omega,by omega⟩)
   show ((0,(0,((wrF .i64 ((wrF .i64 ((wrF .i64 (s+(qD n l p).1.2.2.1))+(lnk n.1 p).2.2.2))+n.2.1.2.2.1)),((wrF .i64 ((i:Int)+1)),())))),())=_
   rw [qq (by omega),zD (z:=s+(qD n l p).1.2.2.1) (by omega) (by omega),zD (z:=s+(qD n l p).1.2.2.1+(lnk n.1 p).2.2.2) (by omega) (by omega),zD (by omega) (by omega),show s+(qD n l p).1.2.2.1+(lnk n.1 p).2.2.2+n.2.1.2.2.1=s+((qD n l p).1.2.2.1+(lnk n.1 p).2.2.2+n.2.1.2.2.1) by omega]
  ·rw [zQ he,cond_false] at ht
   refine zd (show (!zi (qD n l p).2 0)=true by rw [qI he];rfl) (za (zq (.inr ⟨rfl,?_,?_⟩)))
   ·rw [ht]
   ·rw [ht]
 ·rintro _ ⟨s,rfl,ht,s0,s1⟩
  rw [List.drop_length] at ht
  refine ze (zG (show ¬(r.length:Int) < (r.length:Int) by omega)) (za (zq (.inl ⟨rfl,?_,?_⟩)))
  ·rw [ht];rfl
  ·rw [ht];rfl
 ·rintro ⟨j,⟨a1,a2,a3,a4,⟨⟩⟩,⟨⟩⟩ (⟨rfl,h1,h2⟩ | ⟨rfl,h1,h2⟩)
  ·simp only at h1
   subst h1
   rw [h2]
   exact zd rfl (za rfl)
  ·simp only at h1 h2
   subst h1 h2
   exact ze rfl (za rfl)
def yu {α:Type} (f:α→Int):List α→Int
 |[]=>0
 |x::l=>if f x=0 then yu f l else f x
theorem Zd {α:Type} {f:α→Int}:∀{l:List α},yu f l=0↔∀x∈l,f x=0
 |[]=>by simp [yu]
 |x::l=>by
  unfold yu
  split
  ·rename_i h
   rw [Zd];simp [h]
  ·rename_i h
   simp [h]
theorem Ko {α:Type} {f:α→Int}:∀{l:List α} {i:Nat} {x:α},l[i]?=some x→(∀(k:Nat) y,k < i→l[k]?=some y→f y=0)→f x≠0→yu f l=f x
 |[],i,x,h,_,_=>by simp at h
 |a::l,0,x,h,_,hx=>by
  simp at h;subst h
  unfold yu;rw [if_neg hx]
 |a::l,i+1,x,h,hk,hx=>by
  unfold yu
  rw [if_pos (hk 0 a (by omega) rfl)]
  exact Ko (l:=l) (i:=i) (by simpa using h) (fun k y hk' hy=>hk (k+1) y (by omega) (by simpa using hy)) hx
noncomputable def xZ (n:Fab) (l:List qO) (p:Nat):Int:=bif tv ((qD n l p).2=4) then 0 else bif tv ((qD n l p).2=0) then bif tv (n.2.1.2.2.2 < (qD n l p).1.2.2.2) then 7 else 0 else (qD n l p).2
noncomputable def WE (n:Fab) (l:List qO) (s:qO) (r:List Int):Int:=bif tv ((vj n l r).2=0) then bif tv (s.2.2.2.2.2.2.2.1 < (vj n l r).1) then 412 else 0 else (vj n l r).2
noncomputable def Jk (n:Fab) (l:List qO) (s:qO):Int:=yu (WE n l s) s.2.2.2.2.2.2.2.2
noncomputable def vK (n:Fab) (l:List qO):Int:=
 bif tv (Qj n l=0) then bif tv (yu (xZ n l) (List.range n.2.2.1.length)=0) then yu (Jk n l) l else yu (xZ n l) (List.range n.2.2.1.length) else Qj n l
theorem zuz {n:Fab} (h:zjH n) {i:Nat} (hi:i < n.2.2.1.length):jG n.1 (i:Int):=⟨by omega,by have:=h.f.1;omega⟩
theorem K_ref31_Holds_s {n:Fab} (hn:n.2.2.1.length≤1000000000000000000) (l:List qO):zkF (n,l,())=some (vK n l,()):=by
 rw [zqA];unfold zdY vK
 rw [zux hn,zw]
 by_cases h:Qj n l=0
 rotate_left
 ·rw [zQ h,qI h];rfl
 rw [zF h,h,cond_true]
 have ok:=ziz h
 have h12:=ok.n12
 have hf:=ok.f.f.1
 have hls:=ok.f.t.sz.ls
 refine yb (ze rfl (zk (J:=fun x=>(x.1=0∧x.2.1.1=0∧yu (xZ n l) (List.range n.2.2.1.length)=0)∨(x.1=1∧x.2.1.1=yu (xZ n l) (List.range n.2.2.1.length)∧yu (xZ n l) (List.range n.2.2.1.length)≠0)) (qF n.2.2.1.length (fun i=>xZ n l i=0) (by omega) ?_ ?_) ?_))
 ·intro i hi hp
  have hpt:=zuz ok.f hi
  have at_:xZ n l i≠0→yu (xZ n l) (List.range n.2.2.1.length)=xZ n l i:=fun hne=>Ko (i:=i) (by simp [hi]) (fun k y hk hy=>by
   rw [List.getElem?_range (by omega)] at hy;cases hy;exact hp k hk) hne
  refine zd (zR (show (i:Int) < (n.2.2.1.length:Int) by omega)) ?_
  rw [zkI ok hpt,zw]
  unfold xZ at at_ ⊢
  by_cases h4:(qD n l (i:Int)).2=4
  ·rw [zF h4]
   exact zd (uh h4) (za (jo (by omega) rfl))
  rw [zQ h4,cond_false] at at_ ⊢
  refine ze (qI h4) ?_
  by_cases h0:(qD n l (i:Int)).2=0
  ·rw [zF h0,cond_true] at at_ ⊢
   refine ze (show (!zi (qD n l (i:Int)).2 0)=false by rw [h0];rfl) ?_
   by_cases hc:n.2.1.2.2.2 < (qD n l (i:Int)).1.2.2.2
   ·rw [zF hc,cond_true] at at_
    exact zd (zR hc) (za (zq (.inr ⟨rfl,(at_ (by decide)).symm,by rw [at_ (by decide)];decide⟩)))
   ·rw [zQ hc]
    exact ze (zG hc) (za (jo (by omega) rfl))
  ·rw [zQ h0,cond_false] at at_
   exact zd (show (!zi (qD n l (i:Int)).2 0)=true by rw [qI h0];rfl) (za (zq (.inr ⟨rfl,(at_ h0).symm,by rw [at_ h0];exact h0⟩)))
 ·intro hp
  refine ze (zG (show ¬(n.2.2.1.length:Int) < (n.2.2.1.length:Int) by omega)) (za (zq (.inl ⟨rfl,rfl,Zd.2 fun x hx=>hp x (List.mem_range.1 hx)⟩)))
 ·rintro ⟨j,⟨v,w,⟨⟩⟩,⟨⟩⟩ (⟨rfl,rfl,h1⟩ | ⟨rfl,h1,h2⟩)
  rotate_left
  ·simp only at h1
   subst h1
   rw [zQ h2]
   exact ze rfl (za rfl)
  rw [zF h1,cond_true]
  refine zd rfl (zk (J:=fun x=>(x.1=0∧yu (Jk n l) l=0)∨(x.1=1∧x.2.1.1=yu (Jk n l) l∧yu (Jk n l) l≠0)) (qF l.length (fun i=>∀s,l[i]?=some s→Jk n l s=0) (by omega) ?_ ?_) ?_)
  ·intro i hi hp
   have hx:l[i]?=some l[i]:=List.getElem?_eq_getElem hi
   have hm:=List.getElem_mem hi
   generalize l[i]=s at hx hm
   have hs:=ok.a s hm
   have rn:=hs.rn
   have at_:Jk n l s≠0→yu (Jk n l) l=Jk n l s:=fun hne=>Ko hx (fun k y hk hy=>hp k hk y hy) hne
   refine zd (zR (show (i:Int) < (l.length:Int) by omega)) ?_
   refine zk (J:=fun x=>(x.1=0∧x.2.1.1=0∧Jk n l s=0)∨(x.1=1∧x.2.1.1=Jk n l s∧Jk n l s≠0)) (qF s.2.2.2.2.2.2.2.2.length (fun k=>∀r,s.2.2.2.2.2.2.2.2[k]?=some r→WE n l s r=0) (by omega) ?_ ?_) ?_
   ·intro k hk hpk
    have hy:s.2.2.2.2.2.2.2.2[k]?=some s.2.2.2.2.2.2.2.2[k]:=List.getElem?_eq_getElem hk
    have hmr:=List.getElem_mem hk
    generalize s.2.2.2.2.2.2.2.2[k]=r at hy hmr
    have atr:WE n l s r≠0→Jk n l s=WE n l s r:=fun hne=>Ko hy (fun k' y hk hy=>hpk k' hk y hy) hne
    refine zg (zx (n:=i) hx (zd (zR (show (k:Int) < (s.2.2.2.2.2.2.2.2.length:Int) by omega)) (zg (zx (n:=i) hx (zg (zx (n:=k) hy ?_))))))
    rw [zuy ok (hs.rt r hmr).1,zw]
    unfold WE at atr
    by_cases h0:(vj n l r).2=0
    ·rw [zF h0,cond_true] at atr
     refine ze (show (!zi (vj n l r).2 0)=false by rw [h0];rfl) (zg (zx (n:=i) hx ?_))
     by_cases hc:s.2.2.2.2.2.2.2.1 < (vj n l r).1
     ·rw [zF hc,cond_true] at atr
      exact zd (zR hc) (za (zq (.inr ⟨rfl,(atr (by decide)).symm,by rw [atr (by decide)];decide⟩)))
     ·exact ze (zG hc) (za (jo (by omega) fun r' hr'=>by rw [hy] at hr';cases hr';unfold WE;rw [zF h0,zQ hc];rfl))
    ·rw [zQ h0,cond_false] at atr
     exact zd (show (!zi (vj n l r).2 0)=true by rw [qI h0];rfl) (za (zq (.inr ⟨rfl,(atr h0).symm,by rw [atr h0];exact h0⟩)))
   ·intro hpk
    refine zg (zx (n:=i) hx (ze (zG (show ¬(s.2.2.2.2.2.2.2.2.length:Int) < (s.2.2.2.2.2.2.2.2.length:Int) by omega)) (za (zq (.inl ⟨rfl,rfl,Zd.2 fun r hr=>?_⟩)))))
    obtain ⟨k,hk,hk2⟩:=jV hr
    exact hpk k hk r hk2
   ·rintro ⟨j,⟨v,w,⟨⟩⟩,⟨⟩⟩ (⟨rfl,rfl,hq⟩ | ⟨rfl,h1,hq⟩)
    ·exact zd rfl (za (jo (by omega) fun s' hs'=>by rw [hx] at hs';cases hs';exact hq))
    ·simp only at h1
     subst h1
     exact ze rfl (za (zq (.inr ⟨rfl,(at_ hq).symm,by rw [at_ hq];exact hq⟩)))
  ·intro hp
   refine ze (zG (show ¬(l.length:Int) < (l.length:Int) by omega)) (za (zq (.inl ⟨rfl,Zd.2 fun s hs=>?_⟩)))
   obtain ⟨k,hk,hk2⟩:=jV hs
   exact hp k hk s hk2
  ·rintro ⟨j,⟨v,w,⟨⟩⟩,⟨⟩⟩ (⟨rfl,hq⟩ | ⟨rfl,h1,hq⟩)
   ·rw [hq];exact zd rfl (za rfl)
   ·exact ze rfl (za h1)
theorem VC {n:Fab} (hn:n.2.2.1.length≤1000000000000000000) (l:List qO):JW (n,l,())=some (vK n l,()):=by
 rw [zqp];unfold zdR vK Qj
 rw [GW hn,zw]
 by_cases h1:Jz n=0
 rotate_left
 ·rw [zQ h1,cond_false]
  refine yb (zd (show (!zi (Jz n) 0)=true by rw [qI h1];rfl) (zd (show (!zi (Jz n) 0)=true by rw [qI h1];rfl) (za ?_)))
  rw [zQ h1];rfl
 have hf:=zsG h1
 refine yb (ze (show (!zi (Jz n) 0)=false by rw [h1];rfl) ?_)
 rw [zbJ hf.t,zw,zF h1,cond_true]
 by_cases h2:Jg n.1 l=0
 rotate_left
 ·rw [zQ h2,cond_false]
  refine zd (show (!zi (Jg n.1 l) 0)=true by rw [qI h2];rfl) (zd (show (!zi (Jg n.1 l) 0)=true by rw [qI h2];rfl) (za ?_))
  rw [zQ h2];rfl
 obtain ⟨h12,ha,hd⟩:=zsR h2
 refine ze (show (!zi (Jg n.1 l) 0)=false by rw [h2];rfl) (zk (zy1 (n:=n) h12 rfl) ?_)
 rw [zF h2,cond_true]
 rintro ⟨j,⟨⟨⟩,v,w,⟨⟩⟩,⟨⟩⟩ (⟨rfl,rfl,hc⟩ | ⟨rfl,rfl,hc⟩)
 rotate_left
 ·rw [zQ hc,cond_false,zQ (by simp)]
  exact ze rfl (zd rfl (za rfl))
 rw [zF hc,cond_true,zF rfl,cond_true]
 have ok:okP n l:=⟨hf,ha,h12,hd,hc⟩
 have hfg:=ok.f.f.1
 have hls:=ok.f.t.sz.ls
 refine zd rfl (zk (J:=fun x=>gg n l x.2.2.1∧x.2.1.1=yu (xZ n l) (List.range n.2.2.1.length)) (zW n.2.2.1.length (fun i st=>∃m,st=((0,((i:Int),())),(m,()))∧gg n l m∧∀(k:Nat),k < i→xZ n l k=0) (by omega) ⟨[],rfl,zvn n l,fun k hk=>by omega⟩ ?_ ?_) ?_)
 ·rintro i _ hi ⟨m,rfl,hm,hp⟩
  have hpt:=zuz ok.f hi
  have at_:xZ n l i≠0→yu (xZ n l) (List.range n.2.2.1.length)=xZ n l i:=fun hne=>Ko (i:=i) (by simp [hi]) (fun k y hk hy=>by
   rw [List.getElem?_range (by omega)] at hy;cases hy;exact hp k hk) hne
  have go:xZ n l i=0→∀c,gg n l c→qu (some (Sum.inr (((0:Int),((wrF .i64 ((i:Int)+1)),())),(c,())):(Nat×((Int×(Int×Unit))×(UY×Unit))) ⊕ ((Int×(Int×Unit))×(UY×Unit)))) (Nxt (fun x=>gg n l x.2.2.1∧x.2.1.1=yu (xZ n l) (List.range n.2.2.1.length)) fun st=>∃m,st=((0,(((i+1:Nat):Int),())),(m,()))∧gg n l m∧∀(k:Nat),k < i+1→xZ n l k=0):=fun h0 c hk=>by
   refine za (ql ⟨c,congrArg (fun z=>((0,(z,())),(c,()))) (qq (by omega)),hk,fun k hk'=>?_⟩)
   rcases Nat.lt_or_ge k i with h | h
   ·exact hp k h
   ·have:k=i:=by omega
    rw [this];exact h0
  refine zd (zR (show (i:Int) < (n.2.2.1.length:Int) by omega)) (zk (zy0 ok hpt hm) ?_)
  rintro ⟨j,⟨v,⟨⟩⟩,c,⟨⟩⟩ ⟨hv,hk⟩
  simp only at hv hk
  subst hv
  unfold xZ at at_ go
  by_cases h4:(qD n l (i:Int)).2=4
  ·rw [zF h4] at go
   exact zd (uh h4) (go rfl c hk)
  rw [zQ h4,cond_false] at at_ go
  refine ze (qI h4) ?_
  by_cases h0:(qD n l (i:Int)).2=0
  ·rw [zF h0,cond_true] at at_ go
   refine ze (show (!zi (qD n l (i:Int)).2 0)=false by rw [h0];rfl) ?_
   by_cases hcc:n.2.1.2.2.2 < (qD n l (i:Int)).1.2.2.2
   ·rw [zF hcc,cond_true] at at_
    exact zd (zR hcc) (za (zq ⟨hk,(at_ (by decide)).symm⟩))
   ·rw [zQ hcc] at go
    exact ze (zG hcc) (go rfl c hk)
  ·rw [zQ h0,cond_false] at at_
   exact zd (show (!zi (qD n l (i:Int)).2 0)=true by rw [qI h0];rfl) (za (zq ⟨hk,(at_ h0).symm⟩))
 ·rintro _ ⟨m,rfl,hm,hp⟩
  exact ze (zG (show ¬(n.2.2.1.length:Int) < (n.2.2.1.length:Int) by omega)) (za (zq ⟨hm,(Zd.2 fun x hx=>hp x (List.mem_range.1 hx)).symm⟩))
 rintro ⟨j,⟨v,w,⟨⟩⟩,c,⟨⟩⟩ ⟨hk,hv⟩
 simp only at hk hv
 subst hv
 by_cases h0:yu (xZ n l) (List.range n.2.2.1.length)=0
 rotate_left
 ·rw [zQ h0]
  exact zd (show (!zi (yu (xZ n l) (List.range n.2.2.1.length)) 0)=true by rw [qI h0];rfl) (za rfl)
 rw [zF h0,cond_true]
 refine ze (show (!zi (yu (xZ n l) (List.range n.2.2.1.length)) 0)=false by rw [h0];rfl) ?_
 refine zk (J:=fun x=>(x.1=0∧yu (Jk n l) l=0)∨(x.1=1∧x.2.1.1=yu (Jk n l) l∧yu (Jk n l) l≠0)) (zW l.length (fun i st=>∃m,st=((0,((i:Int),())),(m,()))∧gg n l m∧∀(k:Nat),k < i→∀s,l[k]?=some s→Jk n l s=0) (by omega) ⟨c,rfl,hk,fun k hk=>by omega⟩ ?_ ?_) ?_
 ·rintro i _ hi ⟨m,rfl,hm,hp⟩
  have hx:l[i]?=some l[i]:=List.getElem?_eq_getElem hi
  have hmm:=List.getElem_mem hi
  generalize l[i]=s at hx hmm
  have hs:=ok.a s hmm
  have rn:=hs.rn
  have at_:Jk n l s≠0→yu (Jk n l) l=Jk n l s:=fun hne=>Ko hx (fun k y hk hy=>hp k hk y hy) hne
  refine zd (zR (show (i:Int) < (l.length:Int) by omega)) (zg (zx (n:=i) hx ?_))
  refine zk (J:=fun x=>gg n l x.2.2.1∧((x.1=0∧x.2.1.1=0∧Jk n l s=0)∨(x.1=1∧x.2.1.1=Jk n l s∧Jk n l s≠0))) (zW s.2.2.2.2.2.2.2.2.length (fun k st=>∃m,st=((0,((k:Int),())),(m,()))∧gg n l m∧∀(k':Nat),k' < k→∀r,s.2.2.2.2.2.2.2.2[k']?=some r→WE n l s r=0) (by omega) ⟨m,rfl,hm,fun k hk=>by omega⟩ ?_ ?_) ?_
  ·rintro k _ hk ⟨m,rfl,hm,hpk⟩
   have hy:s.2.2.2.2.2.2.2.2[k]?=some s.2.2.2.2.2.2.2.2[k]:=List.getElem?_eq_getElem hk
   have hmr:=List.getElem_mem hk
   generalize s.2.2.2.2.2.2.2.2[k]=r at hy hmr
   have atr:WE n l s r≠0→Jk n l s=WE n l s r:=fun hne=>Ko hy (fun k' y hk hy=>hpk k' hk y hy) hne
   refine zd (zR (show (k:Int) < (s.2.2.2.2.2.2.2.2.length:Int) by omega)) (zg (zx (n:=k) hy (zk (zFR ok (hs.rt r hmr).1 hm) ?_)))
   unfold WE at atr
   rintro ⟨j,⟨a1,a2,a3,a4,⟨⟩⟩,c,⟨⟩⟩ ⟨hkc,⟨rfl,h1,h2⟩ | ⟨rfl,h1,h2,h3,h4⟩⟩
   ·simp only at h1 hkc
    subst h1
    rw [zF h2,cond_true] at atr
    refine zd rfl ?_
    by_cases hcc:s.2.2.2.2.2.2.2.1 < (vj n l r).1
    ·rw [zF hcc,cond_true] at atr
     exact zd (zR hcc) (za (zq ⟨hkc,.inr ⟨rfl,(atr (by decide)).symm,by rw [atr (by decide)];decide⟩⟩))
    ·refine ze (zG hcc) (za (ql ⟨c,congrArg (fun z=>(((0:Int),(z,())),(c,()))) (qq (by omega)),hkc,fun k' hk' r' hr'=>?_⟩))
     rcases Nat.lt_or_ge k' k with h | h
     ·exact hpk k' h r' hr'
     ·have:k'=k:=by omega
      subst this
      rw [hy] at hr';cases hr'
      unfold WE;rw [zF h2,zQ hcc];rfl
   ·simp only at h1 h2 hkc
    subst h1 h2
    rw [zQ h3,cond_false] at atr
    exact ze rfl (zd (show (!zi (vj n l r).2 0)=true by rw [qI h3];rfl) (za (zq ⟨hkc,.inr ⟨rfl,(atr h3).symm,by rw [atr h3];exact h3⟩⟩)))
  ·rintro _ ⟨m,rfl,hm,hpk⟩
   refine ze (zG (show ¬(s.2.2.2.2.2.2.2.2.length:Int) < (s.2.2.2.2.2.2.2.2.length:Int) by omega)) (za (zq ⟨hm,.inl ⟨rfl,rfl,Zd.2 fun r hr=>?_⟩⟩))
   obtain ⟨k,hk,hk2⟩:=jV hr
   exact hpk k hk r hk2
  ·rintro ⟨j,⟨v,w,⟨⟩⟩,c,⟨⟩⟩ ⟨hkc,⟨rfl,h1,hq⟩ | ⟨rfl,h1,hq⟩⟩
   ·simp only at h1 hkc
    subst h1
    refine zd rfl (za (ql ⟨c,congrArg (fun z=>(((0:Int),(z,())),(c,()))) (qq (by omega)),hkc,fun k' hk' s' hs'=>?_⟩))
    rcases Nat.lt_or_ge k' i with h | h
    ·exact hp k' h s' hs'
    ·have:k'=i:=by omega
     subst this
     rw [hx] at hs';cases hs';exact hq
   ·simp only at h1
    subst h1
    exact ze rfl (za (zq (.inr ⟨rfl,(at_ hq).symm,by rw [at_ hq];exact hq⟩)))
 ·rintro _ ⟨m,rfl,hm,hp⟩
  refine ze (zG (show ¬(l.length:Int) < (l.length:Int) by omega)) (za (zq (.inl ⟨rfl,Zd.2 fun s hs=>?_⟩)))
  obtain ⟨k,hk,hk2⟩:=jV hs
  exact hp k hk s hk2
 ·rintro ⟨j,⟨v,w,⟨⟩⟩,c,⟨⟩⟩ (⟨rfl,hq⟩ | ⟨rfl,h1,hq⟩)
  ·rw [hq];exact zd rfl (za rfl)
  ·exact ze rfl (za h1)
theorem zEA {n:Fab} {l:List qO} (h:vK n l=0):okP n l:=by
 unfold vK at h
 by_cases h1:Qj n l=0
 ·exact ziz h1
 ·rw [zQ h1] at h;exact absurd h h1
def u8 (l:List Int):Prop:=∀x∈l,0≤x∧x≤255
abbrev znm:=Int×Int×List Int×List Int×List Int×List Int
structure tdP (d:znm):Prop where
 b:0≤d.1∧d.1≤255
 s:0≤d.2.1∧d.2.1≤255
 c:u8 d.2.2.1
 h:u8 d.2.2.2.1
 p:u8 d.2.2.2.2.1
 e:u8 d.2.2.2.2.2
theorem KR {l:List Int} (hl:u8 l) {i:Int} (h0:0≤i):∃v,kL (l,i,())=some (v,())∧0≤v∧v≤255:=by
 have key:qu (kL (l,i,())) fun r=>0≤r.1∧r.1≤255:=by
  rw [zrs];unfold ze5
  refine zj (fun h=>?_) (fun h=>?_)
  ·have h:=qn h
   refine zg (qK h0 (by omega) fun x hx=>za ?_)
   have hm:=hl x (List.mem_of_getElem? hx)
   show 0≤wrF .i64 x∧wrF .i64 x≤255
   rw [zD (by omega) (by omega)];exact hm
  ·exact za ⟨Int.le_refl _,by show (0:Int)≤255;decide⟩
 obtain ⟨⟨v,⟨⟩⟩,e,h⟩:=key
 exact ⟨v,e,h⟩
theorem znn {R:Type} {Q:R→Prop} {pers delays:List Int} {t:qi} (hs:szP t) {a b:Int} (hp:u8 pers) (hd:u8 delays) {KEEP KEEP2 KEEP3:Option R} {ADD:(Int×Unit)→(Int×Unit)→Option R}
  (e2:KEEP2=KEEP) (e3:KEEP3=KEEP)
  (hk:∀x y:Int,0≤x→x≤255→0≤y→y≤255→(t.2.2.length=24∨¬zck t (a,(b,((wrF .i64 (1+(Int.tmod x 20))),(Int.tmod y 50))))∨∃o∈t.2.2,uR o a b)→qu KEEP Q)
  (ha:∀x y:Int,0≤x→x≤255→0≤y→y≤255→t.2.2.length≠24→zck t (a,(b,((wrF .i64 (1+(Int.tmod x 20))),(Int.tmod y 50))))→(∀o∈t.2.2,¬uR o a b)→qu (ADD (x,()) (y,())) Q) :
  qu (opt (kL ((pers,((((t.2.2).length:Nat):Int),())))) fun x3=>
   opt (kL ((delays,((((t.2.2).length:Nat):Int),())))) fun x4=>
   bif (zi ((((t.2.2).length:Nat):Int)) (24)) then KEEP
   else opt (uv (((t.1,(t.2.1,t.2.2)),((a,(b,((wrF .i64 ((1+(Int.tmod x3.1 20)))),(Int.tmod x4.1 50)))),())))) fun x5=>
    bif (!x5.1) then KEEP2
    else opt (zC (fun s6:(((Int×((List Bool)×(List (Int×(Int×(Int×Int))))))×(Int×Unit))×Unit)=>
      bif (zh (s6.1.2.1) ((((t.2.2).length:Nat):Int))) then opt (atI (t.2.2) (s6.1.2.1)) fun x7=>
       opt (gl (t.2.2) ((Int.toNat s6.1.2.1))) fun x8=>
       opt (xD ((x8,(a,(b,()))))) fun x9=>
       bif x9.1 then some (.inl s6)
       else some (.inr ((s6.1.1,((wrF .i64 ((s6.1.2.1+1))),())),()))
      else some (.inl s6)) zK (((0,([],[])),(0,())),())) fun x10=>
     bif (zh (x10.1.2.1) ((((t.2.2).length:Nat):Int))) then opt (atI (t.2.2) (x10.1.2.1)) fun x11=>
      opt (gl (t.2.2) ((Int.toNat x10.1.2.1))) fun x12=>
      opt (xD ((x12,(a,(b,()))))) fun x13=>
      bif x13.1 then KEEP3
      else none
     else bif (qT ((t.2.2).length) ((((a,(b,((wrF .i64 ((1+(Int.tmod x3.1 20)))),(Int.tmod x4.1 50))))::[])).length) (32)) then ADD x3 x4
      else none) Q:=by
 subst e2 e3
 have hl:=hs.ls
 obtain ⟨x,ex,x0,x1⟩:=KR hp (i:=(t.2.2.length:Int)) (by omega)
 obtain ⟨y,ey,y0,y1⟩:=KR hd (i:=(t.2.2.length:Int)) (by omega)
 rw [ex,zw,ey,zw]
 refine zj (fun h24=>hk x y x0 x1 y0 y1 (.inl (by have:=qL h24;omega))) (fun h24=>?_)
 have h24:t.2.2.length≠24:=fun e=>jR h24 (by rw [e];rfl)
 rw [show ((t.1,(t.2.1,t.2.2)):qi)=t from rfl,zis hs,zw]
 refine zj (fun hlk=>hk x y x0 x1 y0 y1 (.inr (.inl (ym hlk)))) (fun hlk=>?_)
 have hlk:=xc hlk
 refine zk (J:=fun s=>∃(i:Nat),s=(((0,([],[])),((i:Int),())),())∧((i=t.2.2.length∧∀o∈t.2.2,¬uR o a b)∨∃o,t.2.2[i]?=some o∧uR o a b)) (zW t.2.2.length (fun i s=>s=(((0,([],[])),((i:Int),())),())∧∀(k:Nat) o,k < i→t.2.2[k]?=some o→¬uR o a b) (by omega) ⟨rfl,fun k o hk=>by omega⟩ ?_ ?_) ?_
 ·rintro i _ hi ⟨rfl,hp⟩
  have hx:t.2.2[i]?=some t.2.2[i]:=List.getElem?_eq_getElem hi
  generalize t.2.2[i]=o at hx
  refine zd (zR (show (i:Int) < (t.2.2.length:Int) by omega)) (zg (zx (n:=i) hx (zg (qj (a:=o) (by show gl t.2.2 (Int.toNat (i:Int))=_;rw [Int.toNat_natCast,xw];exact hx) ?_))))
  rw [zbf,zw]
  refine zj (fun h=>?_) (fun h=>?_)
  ·exact za (zq ⟨i,rfl,.inr ⟨o,hx,Zk h⟩⟩)
  ·refine za (ql ⟨congrArg (fun z=>((_,(z,())),())) (qq (by omega)),fun k o' hk ho=>?_⟩)
   rcases Nat.lt_or_ge k i with h1 | h1
   ·exact hp k o' h1 ho
   ·have:k=i:=by omega
    subst this
    rw [hx] at ho;cases ho
    exact gJ h
 ·rintro _ ⟨rfl,hp⟩
  refine ze (zG (show ¬(t.2.2.length:Int) < (t.2.2.length:Int) by omega)) (za (zq ⟨t.2.2.length,rfl,.inl ⟨rfl,fun o ho=>?_⟩⟩))
  obtain ⟨k,hk,hk2⟩:=jV ho
  exact hp k o hk hk2
 ·rintro _ ⟨i,rfl,⟨rfl,hno⟩ | ⟨o,hx,hj⟩⟩
  ·exact ze (zG (show ¬(t.2.2.length:Int) < (t.2.2.length:Int) by omega)) (zd (yc (by show (t.2.2.length+1)*32≤_;omega) (by show t.2.2.length+1≤_;omega)) (ha x y x0 x1 y0 y1 h24 hlk hno))
  ·have hil:i < t.2.2.length:=by grind
   refine zd (zR (show (i:Int) < (t.2.2.length:Int) by omega)) (zg (zx (n:=i) hx (zg (qj (a:=o) (by show gl t.2.2 (Int.toNat (i:Int))=_;rw [Int.toNat_natCast,xw];exact hx) ?_))))
   rw [zbf,zw,zF hj]
   exact zd rfl (hk x y x0 x1 y0 y1 (.inr (.inr ⟨o,List.mem_of_getElem? hx,hj⟩)))
def sts (b c:Nat):List Bool:=(List.range (b+c)).map fun n=>decide (b≤n)
def tOf (b c:Nat) (ls:List yh):qi:=(((b+c:Nat):Int),sts b c,ls)
theorem zAi (b c:Nat):(sts b c).length=b+c:=by simp [sts]
theorem zy2 {b c:Nat} {ls:List yh} {n:Nat} (h:n < b+c):stn (tOf b c ls) (n:Int)=decide (b≤n):=by
 unfold stn tOf sts
 simp [h]
structure Dr (b c:Nat) (ls:List yh):Prop where
 b1:1≤b
 b6:b≤6
 c2:2≤c
 c6:c≤6
 n24:ls.length≤24
 ok:zcE (tOf b c ls)
theorem Dr.sz {b c:Nat} {ls:List yh} (h:Dr b c ls):szP (tOf b c ls):=by
 have:=h.b1;have:=h.b6;have:=h.c2;have:=h.c6
 refine ⟨?_,?_,?_,h.n24⟩
 ·show 2≤((b+c:Nat):Int);omega
 ·show ((b+c:Nat):Int)≤12;omega
 ·show (((sts b c).length:Nat):Int)=((b+c:Nat):Int);rw [zAi]
theorem Dr.add {b c:Nat} {ls:List yh} (h:Dr b c ls) {l:yh} (h24:ls.length≠24) (hl:zck (tOf b c ls) l) (hj:∀o∈ls,¬uR o l.1 l.2.1):Dr b c (ls++[l]):=by
 refine ⟨h.b1,h.b6,h.c2,h.c6,by have:=h.n24;simp;omega,fun i l' hi=>?_⟩
 have hi:(ls++[l])[i]?=some l':=hi
 rcases Nat.lt_or_ge i ls.length with h1 | h1
 ·rw [List.getElem?_append_left h1] at hi
  obtain ⟨h2,h3⟩:=h.ok i l' hi
  refine ⟨h2,fun k o hk ho=>h3 k o hk ?_⟩
  have ho:(ls++[l])[k]?=some o:=ho
  rw [List.getElem?_append_left (by omega)] at ho
  exact ho
 ·have hil:i=ls.length:=by
   have:i < (ls++[l]).length:=by grind
   simp at this;omega
  subst hil
  rw [List.getElem?_append_right (Nat.le_refl _),Nat.sub_self] at hi
  simp at hi;subst hi
  refine ⟨hl,fun k o hk ho=>?_⟩
  have ho:(ls++[l])[k]?=some o:=ho
  rw [List.getElem?_append_left hk] at ho
  exact hj o (List.mem_of_getElem? ho)
theorem zjJ (ls:List yh) (l:yh) (n:Nat):cnt (ls++[l]) n=cnt ls n+(one l.1 n+one l.2.1 n):=by
 unfold cnt;simp
theorem zAj {b c:Nat} {ls:List yh} {m n:Nat} {x y:Int} (hm:m < b+c) (hn:n < b+c) (hne:m≠n) (hs:m < b∨n < b) (x0:0≤x) (x1:x≤255) (y0:0≤y) (y1:y≤255) :
  zck (tOf b c ls) ((m:Int),((n:Int),((wrF .i64 (1+(Int.tmod x 20))),(Int.tmod y 50)))):=by
 have ex:Int.tmod x 20=x % 20:=Int.tmod_eq_emod_of_nonneg x0
 have ey:Int.tmod y 50=y % 50:=Int.tmod_eq_emod_of_nonneg y0
 have ew:wrF .i64 (1+x % 20)=1+x % 20:=zD (by omega) (by omega)
 unfold zck jf
 rw [ex,ey,ew]
 simp only
 refine ⟨⟨by omega,by show (m:Int) < ((b+c:Nat):Int);omega⟩,⟨by omega,by show (n:Int) < ((b+c:Nat):Int);omega⟩,by omega,?_,by omega,by omega,by omega,by omega⟩
 rw [zy2 hm,zy2 hn]
 simp only [decide_eq_true_eq]
 omega
structure XK (b c k s:Nat) (ls:List yh):Prop where
 ch:∀i,i < k→∃p d,ls[i]?=some ((i:Int),((i+1:Nat):Int),p,d)
 ho:∀i,i < s→∃(h:Nat) (p d:Int),ls[k+i]?=some (((b+i:Nat):Int),(h:Int),p,d)∧h < b
theorem XK.app {b c k s:Nat} {ls:List yh} (h:XK b c k s ls) (l:List yh):XK b c k s (ls++l):=by
 refine ⟨fun i hi=>?_,fun i hi=>?_⟩
 ·obtain ⟨p,d,e⟩:=h.ch i hi
  exact ⟨p,d,by rw [List.getElem?_append_left (by grind)];exact e⟩
 ·obtain ⟨q,p,d,e,h2⟩:=h.ho i hi
  exact ⟨q,p,d,by rw [List.getElem?_append_left (by grind)];exact e,h2⟩
theorem zqL {r:List Bool} {l:yh} {n:Nat} (h:r[n]?=some true):(stp r l)[n]?=some true:=by
 unfold stp
 cases (r[l.1.toNat]?).getD false||(r[l.2.1.toNat]?).getD false with
 |false=>exact h
 |true=>
  have hn:n < r.length:=by grind
  show ((r.set l.1.toNat true).set l.2.1.toNat true)[n]?=some true
  rw [List.getElem?_set,List.getElem?_set]
  grind
theorem zno {n:Nat}:∀(ls:List yh) {r:List Bool},r[n]?=some true→(ls.foldl stp r)[n]?=some true
 |[],r,h=>h
 |l::ls,r,h=>zno ls (zqL h)
theorem zvq {ls:List yh} {n:Nat}:∀(k:Nat) {r:List Bool},r[n]?=some true→(Ue ls k r)[n]?=some true
 |0,r,h=>h
 |k+1,r,h=>zvq k (zno ls h)
theorem zAk {r:List Bool} {l:yh} {m n:Nat} (hm:r[m]?=some true) (hn:n < r.length) (h:(l.1.toNat=m∧l.2.1.toNat=n)∨(l.1.toNat=n∧l.2.1.toNat=m)):(stp r l)[n]?=some true:=by
 have hml:m < r.length:=by grind
 have e:((r[l.1.toNat]?).getD false||(r[l.2.1.toNat]?).getD false)=true:=by
  rcases h with ⟨h1,h2⟩ | ⟨h1,h2⟩
  ·rw [h1,hm];rfl
  ·rw [h2,hm,Option.getD_some,Bool.or_true]
 unfold stp
 rw [e,cond_true,List.getElem?_set,List.getElem?_set]
 grind
theorem zvr {ls:List yh} {i:Nat} {l:yh} (h:ls[i]?=some l) (r:List Bool):(ls.take (i+1)).foldl stp r=stp ((ls.take i).foldl stp r) l:=by
 rw [List.take_add_one,h,List.foldl_append];rfl
theorem zC0 {b c:Nat} {ls:List yh} (hb:1≤b) (hc:1≤c) (h:XK b c (b - 1) c ls) (n:Nat) (hn:n < b+c):(reachS (tOf b c ls) 0)[n]?=some true:=by
 have hN:(tOf b c ls).1.toNat=b+c:=by show (((b+c:Nat):Int)).toNat=_;omega
 unfold reachS
 rw [hN]
 obtain ⟨k,hk⟩:∃k,b+c=k+1:=⟨b+c - 1,by omega⟩
 rw [show Ue (tOf b c ls).2.2 (b+c)=Ue ls (k+1) from by rw [hk];rfl]
 show (Ue ls k (ls.foldl stp ((List.replicate (b+c) false).set 0 true)))[n]?=some true
 refine zvq k ?_
 generalize hr:(List.replicate (b+c) false).set 0 true=r0
 have hl:r0.length=b+c:=by rw [←hr];simp
 have h00:r0[0]?=some true:=by
  rw [←hr]
  exact List.getElem?_set_self (by rw [List.length_replicate];omega)
 have chain:∀i,i≤b - 1→∀j,j≤i→((ls.take i).foldl stp r0)[j]?=some true:=by
  intro i
  induction i with
  |zero=>
       intro _ j hj;have:j=0:=by omega
       subst this;exact h00
  |succ i ih=>
   intro hi j hj
   obtain ⟨p,d,e⟩:=h.ch i (by omega)
   rw [zvr e]
   rcases Nat.lt_or_ge j (i+1) with h1 | h1
   ·exact zqL (ih (by omega) j (by omega))
   ·have:j=i+1:=by omega
    subst this
    exact zAk (m:=i) (ih (by omega) i (Nat.le_refl _)) (by rw [zf9,hl];omega) (.inl ⟨by simp,by simp⟩)
 have home:∀i,i≤c→∀j,j < b+i→((ls.take (b - 1+i)).foldl stp r0)[j]?=some true:=by
  intro i
  induction i with
  |zero=>intro _ j hj;exact chain (b - 1) (Nat.le_refl _) j (by omega)
  |succ i ih=>
   intro hi j hj
   obtain ⟨q,p,d,e,hq⟩:=h.ho i (by omega)
   rw [show b - 1+(i+1)=b - 1+i+1 from rfl,zvr e]
   rcases Nat.lt_or_ge j (b+i) with h1 | h1
   ·exact zqL (ih (by omega) j h1)
   ·have:j=b+i:=by omega
    subst this
    exact zAk (m:=q) (ih (by omega) q (by omega)) (by rw [zf9,hl];omega) (.inr ⟨by show (((b+i:Nat):Int)).toNat=b+i;exact Int.toNat_natCast _,by simp⟩)
 have:=home c (Nat.le_refl _) n hn
 have e:ls.foldl stp r0=(ls.drop (b - 1+c)).foldl stp ((ls.take (b - 1+c)).foldl stp r0):=by
  rw [←List.foldl_append,List.take_append_drop]
 rw [e]
 exact zno _ this
end Go.Proofs.YtplhphmbkmpocaaGreat.ad
end
