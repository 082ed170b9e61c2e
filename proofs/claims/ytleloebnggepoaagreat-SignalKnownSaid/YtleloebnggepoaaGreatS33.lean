/- Parts of a proof, joined. -/
import Derived.IntWalk
import Derived.Test.YtleloebnggepoaaGreatS32
set_option linter.unusedSectionVars false
set_option linter.unusedVariables false
set_option linter.unusedSimpArgs false
set_option maxHeartbeats 0
set_option maxRecDepth 100000
noncomputable section
namespace Go.Fz.Sy
variable {P:Program} {φ:Ren} {K:Nat→Prop} {w:World} {R:Type}
def hiI (n:Nat):Option Int→Option Nat
 |none=>some n
 |some (.ofNat q)=>bif Nat.ble q n then some q else none
 |some (.negSucc _)=>none
def loI (h:Nat):Option Int→Option Nat
 |none=>some 0
 |some (.ofNat p)=>bif Nat.ble p h then some p else none
 |some (.negSucc _)=>none
def mxI (h:Nat):Option Int→Bool
 |none=>true
 |some (.ofNat m)=>Nat.beq m h
 |some (.negSucc _)=>false
def ux {α:Type} (l:List α) (lo hi mx:Option Int):Option (List α):=match hiI l.length hi with
 |some h=>match loI h lo with
  |some p=>bif mxI h mx then some ((l.take h).drop p) else none
  |none=>none
 |none=>none
def zaM:Option SV→Option (Option Int)
 |none=>some none
 |some (.int _ z)=>some (some z)
 |_=>none
theorem zFK {n h:Nat} {v:Option SV} {z:Option Int} {ρ:Nat→Value} (hz:zaM v=some z) (h1:hiI n z=some h):zrd (v.map (den ρ)) n n=some h∧h≤n∧∀u,v=some u→∀m,h≤m→bnd (den ρ u) m=some h:=by
 unfold zaM at hz
 split at hz
 ·cases hz
  simp only [hiI,Option.some.injEq] at h1
  subst h1
  exact ⟨by simp [zrd],Nat.le_refl _,fun u hu=>by cases hu⟩
 ·rename_i k z
  cases hz
  unfold hiI at h1
  split at h1
  ·rename_i he;cases he
  ·rename_i q he
   cases he
   obtain ⟨h2,h3⟩:=zx h1
   cases h3
   have h2:=Nat.le_of_ble_eq_true h2
   refine ⟨?_,h2,fun u hu m hm=>?_⟩
   ·simp [zrd,den,bnd,h2]
   ·cases hu
    simp [den,bnd,hm]
  ·cases h1
 ·cases hz
theorem zFL {h p:Nat} {v:Option SV} {z:Option Int} {ρ:Nat→Value} (hz:zaM v=some z) (h1:loI h z=some p):zs9 (v.map (den ρ)) h=some p∧p≤h:=by
 unfold zaM at hz
 split at hz
 ·cases hz
  simp only [loI,Option.some.injEq] at h1
  subst h1
  exact ⟨rfl,Nat.zero_le _⟩
 ·rename_i k z
  cases hz
  unfold loI at h1
  split at h1
  ·rename_i he;cases he
  ·rename_i q he
   cases he
   obtain ⟨h2,h3⟩:=zx h1
   cases h3
   have h2:=Nat.le_of_ble_eq_true h2
   exact ⟨by simp [zs9,den,bnd,h2],h2⟩
  ·cases h1
 ·cases hz
theorem zB2 {α:Type} {l l':List α} {lo hi mx:Option SV} {a b c:Option Int} {ρ:Nat→Value} (ha:zaM lo=some a) (hb:zaM hi=some b) (hc:zaM mx=some c) (hhi:mx.isSome=true→hi.isSome=true) (h:ux l a b c=some l') :
  ∃p q,zgb l.length l.length (lo.map (den ρ)) (hi.map (den ρ)) (mx.map (den ρ))=some (p,q,mx.map fun _=>q)∧p≤q∧q≤l.length∧l'=(l.take q).drop p∧(hi=none→q=l.length):=by
 unfold ux at h
 split at h
 case h_2=>cases h
 rename_i q hq
 split at h
 case h_2=>cases h
 rename_i p hp
 obtain ⟨h1,h2⟩:=zx h
 cases h2
 obtain ⟨e1,e2,e3⟩:=zFK (ρ:=ρ) hb hq
 obtain ⟨f1,f2⟩:=zFL (ρ:=ρ) ha hp
 refine ⟨p,q,?_,f2,e2,rfl,fun hn=>?_⟩
 ·cases mx with
  |none=>
   simp only [Option.map_none,zgb,e1,f1,Option.bind_some]
  |some m=>
   cases hi with
   |none=>simp at hhi
   |some hv=>
    have hm:bnd (den ρ m) l.length=some q:=by
     unfold zaM at hc
     split at hc
     ·rename_i he;cases he
     ·rename_i k z he
      cases he
      cases hc
      unfold mxI at h1
      split at h1
      ·rename_i he;cases he
      ·rename_i y he
       cases he
       have:=Nat.eq_of_beq_eq_true h1
       subst this
       simp [den,bnd,e2]
      ·cases h1
     ·cases hc
    simp only [Option.map_some,zgb,hm,Option.bind_some,e3 hv rfl q (Nat.le_refl _),f1]
 ·subst hn
  simp only [zaM,Option.some.injEq] at hb
  subst hb
  simp only [hiI,Option.some.injEq] at hq
  exact hq.symm
theorem zuN {s:Nat} {full:Bool} {es:List Value} {v':Value} (h:zo φ (fzV s full es) v'):zo φ (fzV s false es) v':=by
 cases full with
 |false=>exact h
 |true=>
  unfold fzV at h ⊢
  simp only [cond_true,cond_false] at h ⊢
  generalize es.toArray=a at h ⊢
  cases h with
  |fq _ _ b o L hL hn ho hs h=>exact .fz _ _ b o _ L hL hn ho (Nat.le_refl _) hs h
  |fq0 _ a=>exact .fz0 _ _ _
theorem zuO {t e:TypeId} {ie:TypeInfo} {ty:Ty} {l l':List (T ty)} {full:Bool} {lo hi mx:Option SV} {a b c:Option Int} {ρ:Nat→Value} (hu:jl P t=some (.slice e)) (hie:ju P e=some ie) (hsz:ie.size=sz ty) (ha:zaM lo=some a) (hb:zaM hi=some b)
  (hc:zaM mx=some c) (hhi:mx.isSome=true→hi.isSome=true) (h:ux l a b c=some l') {x':Value} {lo' hi' mx':Option Value} (hx:zo φ (fzV (sz ty) full (l.map (yB ty))) x') (h1:UG φ (lo.map (den ρ)) lo') (h2:UG φ (hi.map (den ρ)) hi') (h3:UG φ (mx.map (den ρ)) mx') (w:World) :
  ∃v',(Instr.sliceAt t x' lo' hi' mx').run P w=.ok v' w∧zo φ (fzV (sz ty) (mx.isSome||(full&&hi.isNone)) (l'.map (yB ty))) v':=by
 obtain ⟨p,q,e1,e2,e3,e4,e5⟩:=zB2 (ρ:=ρ) ha hb hc hhi h
 have hlen:((l.map (yB ty)).toArray).size=l.length:=by simp
 have hext:((l.map (yB ty)).toArray).extract p q=(l'.map (yB ty)).toArray:=by
  apply Array.ext'
  rw [e4]
  simp [List.drop_take,List.map_drop,List.map_take]
 have hes:Qa (fzV (sz ty) full (l.map (yB ty)))=some (sz ty,(l.map (yB ty)).toArray,full):=by cases full<;>simp [fzV,Qa]
 have key:∃f2,ziZ P t (fzV (sz ty) full (l.map (yB ty))) (lo.map (den ρ)) (hi.map (den ρ)) (mx.map (den ρ))=some (fzV (sz ty) f2 (l'.map (yB ty)))∧((mx.isSome||(full&&hi.isNone))=true→f2=true):=by
  unfold ziZ
  simp only [hes,hu,hie,hlen,e1,hsz,if_true]
  cases mx with
  |some m=>exact ⟨true,by simp [Nat.beq_refl,hext,fzV],fun _=>rfl⟩
  |none=>
   simp only [Option.map_none,Option.isSome_none,Bool.false_or]
   cases hf:(full&&Nat.beq q l.length) with
   |true=>exact ⟨true,by simp only [if_true];simp only [hext,fzV,cond_true],fun _=>rfl⟩
   |false=>
    refine ⟨false,by simp only [Bool.false_eq_true,if_false];simp only [hext,fzV,cond_false],fun h=>?_⟩
    simp only [Bool.and_eq_true] at h
    obtain ⟨h4,h5⟩:=h
    have:hi=none:=by cases hi<;>simp at h5 ⊢
    rw [h4,e5 this,Nat.beq_refl] at hf
    cases hf
 obtain ⟨f2,h4,h5⟩:=key
 obtain ⟨v',r1,r2⟩:=zre h4 hx h1 h2 h3 w
 refine ⟨v',r1,?_⟩
 cases hcase:(mx.isSome||(full&&hi.isNone)) with
 |true=>rw [h5 hcase] at r2;exact r2
 |false=>exact zuN r2
def zwU (P:Program) (tm:List SV) (H:SH) (nx:Nat) (t:TypeId) (x:Operand) (lo hi mx:Option Operand) (k:KO R):Option R:=
 match jX tm H x,zom tm H lo,zom tm H hi,zom tm H mx with
 |some v,some lo,some hi,some mx=>match jl P t,zaM lo,zaM hi,zaM mx with
  |some (.slice e),some a,some b,some c=>bif (!mx.isSome||hi.isSome) then match v with
   |.lst ty l full=>bif UN P e (sz ty) then opt (ux l a b c) fun l'=>k (.lst ty l' (mx.isSome||(full&&hi.isNone))) H nx else none
   |.own bl=>match zk H bl with
    |some (.arr nn ty l)=>bif UN P e (sz ty)&&Nat.blt 0 (sz ty) then opt (ux l a b c) fun l'=>k (.lst ty l' mx.isSome) (jW H bl (.fro nn ty l)) nx else none
    |_=>none
   |_=>none
   else none
  |_,_,_,_=>none
 |_,_,_,_=>none
theorem zB3 {rd:Option Nat} {o:Oper} {tm:List SV} {H:SH} {nx:Nat} {k:KO R} {r:R} {t:TypeId} {x:Operand} {lo hi mx:Option Operand} (ho:o.op=.slice t x lo hi mx) (h:zwU P tm H nx t x lo hi mx k=some r):gI P rd o tm H nx k r:=by
 unfold zwU at h
 split at h
 case h_2=>cases h
 rename_i v lo1 hi1 mx1 hx hlo hhi hmx
 split at h
 case h_2=>cases h
 rename_i e a b c hu ha hb hc
 have h6:=zx h
 clear h
 obtain ⟨hh,h⟩:=h6
 have hhi2:mx1.isSome=true→hi1.isSome=true:=fun h1=>by simpa [h1] using hh
 split at h
 ·rename_i ty l full
  obtain ⟨h1,h⟩:=zx h
  obtain ⟨l',hl,h⟩:=JI h
  obtain ⟨ie,hie,hsz⟩:=Xm h1
  refine uw ⟨wN.refl H,wT.refl H,Nat.le_refl _,fun ν hv=>⟨hv,?_⟩⟩ h
  refine Ko (Nat.le_refl _) (fun c hc=>by rw [ho] at hc;cases hc) fun φ w K ac g hf ht=>?_
  have hxr:=qe ht (zV hx ν)
  simp only [den] at hxr
  obtain ⟨v',r1,r2⟩:=zuO hu hie hsz ha hb hc hhi2 hl hxr (JH ht (zbh hlo ν)) (JH ht (zbh hhi ν)) (JH ht (zbh hmx ν)) w
  unfold execOp
  simp only [ho]
  exact Ran.op (Ran.same g ⟨v',r1,by simpa only [den] using r2⟩)
 ·rename_i bl
  split at h
  case h_2=>cases h
  rename_i nn ty l hbl
  obtain ⟨h1,h⟩:=zx h
  simp only [Bool.and_eq_true] at h1
  obtain ⟨l',hl,h⟩:=JI h
  obtain ⟨ie,hie,hsz⟩:=Xm h1.1
  have hg:=zbO hbl
  refine uw ⟨hg.1.regLe,hg.1.lkeep,Nat.le_refl _,fun ν hv=>⟨hg.1.vn hv,zkl hg ?_⟩⟩ h
  refine Ko (Nat.le_refl _) (fun c hc=>by rw [ho] at hc;cases hc) fun φ w K ac g hf ht=>?_
  have hxr:=qe ht (zV hx ν)
  simp only [den] at hxr
  rw [←hg.1.rho ν] at hxr
  have hb2:zk (jW H bl (.fro nn ty l)) bl=some (.fro nn ty l):=by rw [qE,if_pos rfl,hbl];rfl
  have hxr:=zja g (hg.1.vn hv) hb2 (ztl h1.2) hxr
  obtain ⟨v',r1,r2⟩:=zuO hu hie hsz ha hb hc hhi2 hl hxr (JH ht (zbh hlo ν)) (JH ht (zbh hhi ν)) (JH ht (zbh hmx ν)) w
  unfold execOp
  simp only [ho]
  exact Ran.op (Ran.same g ⟨v',r1,by simpa only [den,Bool.false_and,Bool.or_false] using r2⟩)
 ·cases h
def zDK (P:Program) (tm:List SV) (H:SH) (nx:Nat) (t:TypeId) (x:Operand) (k:KO R):Option R:=match jX tm H x,jl P t with
 |some (.own b),some (.slice _)=>match reg (zk H b) with
  |some (n,_)=>k (.int .i64 n) H (nx+1)
  |none=>none
 |_,_=>none
theorem zFM {rd:Option Nat} {o:Oper} {tm:List SV} {H:SH} {nx:Nat} {k:KO R} {r:R} {t:TypeId} {x:Operand} (ho:o.op=.call {callee:=.builtin .len,args:=#[x],argTypes:=#[t]}) (h:zDK P tm H nx t x k=some r):gI P rd o tm H nx k r:=by
 unfold zDK at h
 split at h
 case h_2=>cases h
 rename_i b e hx hu
 split at h
 case h_2=>cases h
 rename_i n s hr
 refine uw ⟨wN.refl H,wT.refl H,Nat.le_succ _,fun ν hv=>⟨hv.later (Nat.le_succ _),ue ?_⟩⟩ h
 have h1:=zV hx ν
 unfold wQ
 simp only [ho,zbI,h1,Option.bind_some]
 have hlen:zbK P t (den (rho ν H) (.own b))=some (goInt n):=by
  simp only [den,rho,hr]
  cases s with
  |succ s=>simp [zbK,hu]
  |zero=>
   have:=hv.empty b n hr
   subst this
   simp [zbK,hu]
 simp only [JZ,hlen]
 simp [un1,den,goInt]
def zGZ {α:Type}:List α→Bool
 |[]=>false
 |_::_=>true
def zzr (tm:List SV) (H:SH) (x y:Operand):Bool:=match jX tm H x,jX tm H y with
 |some (.lst _ _ _),some .nils=>true
 |_,_=>false
def zAy (P:Program) (tm:List SV) (H:SH) (nx:Nat) (op:BinOp) (t:TypeId) (x y:Operand) (k:KO R):Option R:=match jX tm H x,jX tm H y,jl P t with
 |some (.lst ty l full),some .nils,some (.slice _)=>bif zGZ l then (match op with
   |.eql=>k (.bool false) H (nx+1)
   |.neq=>k (.bool true) H (nx+1)
   |_=>none)
  else none
 |_,_,_=>none
theorem zDL {rd:Option Nat} {o:Oper} {tm:List SV} {H:SH} {nx:Nat} {k:KO R} {r:R} {op:BinOp} {t u:TypeId} {x y:Operand} (ho:o.op=.binOp op t x y u) (h:zAy P tm H nx op t x y k=some r):gI P rd o tm H nx k r:=by
 unfold zAy at h
 split at h
 case h_2=>cases h
 rename_i ty l full e hx hy hu
 obtain ⟨hc,h⟩:=zx h
 have key:∀b,(op=.eql∧b=false∨op=.neq∧b=true)→k (.bool b) H (nx+1)=some r→gI P rd o tm H nx k r:=by
  intro b hb h
  refine uw ⟨wN.refl H,wT.refl H,Nat.le_succ _,fun ν hv=>⟨hv.later (Nat.le_succ _),?_⟩⟩ h
  refine Ko (Nat.le_succ _) (fun c hc=>by rw [ho] at hc;cases hc) fun φ w K ac g hf ht=>?_
  have hxr:=qe ht (zV hx ν)
  have hyr:=qe ht (zV hy ν)
  simp only [den] at hxr hyr
  generalize hx':ac.eval x=x' at *
  generalize hy':ac.eval y=y' at *
  cases hyr
  obtain ⟨sa,c,e1,e2⟩:=zbc (s:=sz ty) (es:=(l.map (yB ty)).toArray) (full:=full) (by unfold fzV Qa;cases full<;>rfl) hxr
  cases l with
  |nil=>cases hc
  |cons z l=>
  obtain ⟨b0,o0,L,rfl,_⟩:=e2.some_ (by simp)
  subst e1
  have he:=zrc (P:=P) (t:=t) (d:=.slice e) (a:=.slice (some ⟨b0,o0,none⟩) ((z::l).map (yB ty)).toArray.size c) (b:=.slice none 0 0) (r:=false) (by rw [←wb];exact hu) rfl rfl w
  unfold execOp
  simp only [ho]
  rw [hx',hy']
  generalize ((z::l).map (yB ty)).toArray.size=m at he ⊢
  refine Ran.op (Ran.same1 g ⟨.bool b,?_,by simp only [den];exact .bool b⟩)
  rcases hb with ⟨rfl,rfl⟩ | ⟨rfl,rfl⟩
  ·simp [eqGuard,binOp,he]
  ·simp [eqGuard,binOp,he]
 split at h
 ·exact key _ (.inl ⟨rfl,rfl⟩) h
 ·exact key _ (.inr ⟨rfl,rfl⟩) h
 ·cases h
def zax:(t:Ty)→T t
 |.unit=>()
 |.bool=>false
 |.int _=>0
 |.str=>ByteArray.empty
 |.list _=>[]
 |.pair a b=>(zax a,zax b)
def zal:(t:Ty)→List Value→Option (List Value)
 |.unit,cs=>some cs
 |.bool,cs=>match cs with
  |.bool false::r=>some r
  |_=>none
 |.int k,cs=>match cs with
  |.int k' z::r=>bif Wv k k'&&zj z 0 then some r else none
  |_=>none
 |.str,cs=>match cs with
  |.string s::r=>bif Nat.beq s.size 0 then some r else none
  |_=>none
 |.list _,cs=>match cs with
  |.slice none 0 0::r=>some r
  |_=>none
 |.pair a b,cs=>match zal a cs with
  |some r=>zal b r
  |none=>none
theorem zmG:∀(t:Ty) {cs r:List Value},zal t cs=some r→∃c,cs=c++r∧c.length=sz t∧avL c=true∧∀(φ:Ren) us,zy φ c us→zy φ (qn t (zax t)) us
 |.unit,cs,r,h=>by
  simp only [zal,Option.some.injEq] at h
  subst h
  exact ⟨[],rfl,rfl,rfl,fun φ us h=>h⟩
 |.bool,cs,r,h=>by
  simp only [zal] at h
  split at h
  ·cases h;exact ⟨[.bool false],rfl,rfl,rfl,fun φ us h=>h⟩
  ·cases h
 |.int k,cs,r,h=>by
  simp only [zal] at h
  split at h
  ·obtain ⟨h1,h2⟩:=zx h
   cases h2
   simp only [Bool.and_eq_true] at h1
   have e1:=Jf h1.1
   have e2:=h1.2
   rw [wo] at e2
   simp only [beq_iff_eq] at e2
   subst e1;subst e2
   exact ⟨[.int k 0],rfl,rfl,rfl,fun φ us h=>h⟩
  ·cases h
 |.str,cs,r,h=>by
  simp only [zal] at h
  split at h
  ·rename_i s r'
   obtain ⟨h1,h2⟩:=zx h
   cases h2
   have e1:=Nat.eq_of_beq_eq_true h1
   have:s=ByteArray.empty:=by
    obtain ⟨d⟩:=s
    have:d=#[]:=Array.eq_empty_of_size_eq_zero e1
    subst this;rfl
   subst this
   exact ⟨[.string ByteArray.empty],rfl,rfl,rfl,fun φ us h=>h⟩
  ·cases h
 |.list t,cs,r,h=>by
  simp only [zal] at h
  split at h
  ·cases h
   refine ⟨[.slice none 0 0],rfl,rfl,rfl,fun φ us h=>?_⟩
   match us,h with
   |[],h=>exact h.elim
   |u::us,h=>
    refine ⟨?_,h.2⟩
    have h1:=h.1
    cases h1
    exact .fz0 _ _ _
  ·cases h
 |.pair a b,cs,r,h=>by
  simp only [zal] at h
  split at h
  case h_2=>cases h
  rename_i r1 h1
  obtain ⟨c1,rfl,l1,a1,z1⟩:=zmG a h1
  obtain ⟨c2,rfl,l2,a2,z2⟩:=zmG b h
  have happ:∀(a b:List Value),avL a=true→avL b=true→avL (a++b)=true:=by
   intro a b h2 h3
   induction a with
   |nil=>exact h3
   |cons x a ih=>simp only [avL,List.cons_append,Bool.and_eq_true] at h2 ⊢;exact ⟨h2.1,ih h2.2⟩
  refine ⟨c1++c2,by simp,by simp [sz,l1,l2],happ _ _ a1 a2,fun φ us h=>?_⟩
  have hlen:=h.length
  rw [List.length_append] at hlen
  have h3:=h.take c1.length
  have h4:=h.drop c1.length
  rw [List.take_left] at h3
  rw [List.drop_left] at h4
  have:=(z1 φ _ h3).append (z2 φ _ h4)
  rw [List.take_append_drop] at this
  exact this
def zfN (P:Program) (e:TypeId) (ty:Ty):Bool:=match ju P e with
 |some i=>match i.zero with
  |some z=>match zal ty z.cells.toList with
   |some []=>Nat.blt 0 i.size&&Nat.beq (sz ty) i.size
   |_=>false
  |none=>false
 |none=>false
theorem zkn {e:TypeId} {ty:Ty} (h:zfN P e ty=true):∃i z,P.info? e=some i∧i.zero=some z∧z.cells.size=i.size∧0 < i.size∧sz ty=i.size∧avL z.cells.toList=true∧∀(φ:Ren) us,zy φ z.cells.toList us→zy φ (qn ty (zax ty)) us:=by
 unfold zfN at h
 split at h
 case h_2=>cases h
 rename_i i hi
 split at h
 case h_2=>cases h
 rename_i z hz
 split at h
 case h_2=>cases h
 rename_i hc
 simp only [Bool.and_eq_true] at h
 have e2:=zd4 h.1
 have e3:=Nat.eq_of_beq_eq_true h.2
 rw [jK] at hi
 obtain ⟨c,h1,h2,h3,h4⟩:=zmG ty hc
 rw [List.append_nil] at h1
 refine ⟨i,z,hi,hz,?_,e2,e3,by rw [h1];exact h3,fun φ us h=>h4 φ us (by rw [←h1];exact h)⟩
 have:=congrArg List.length h1
 rw [h2,e3] at this
 simpa using this
def zmH (P:Program):Nat→TypeId→Option Ty
 |0,_=>none
 |n+1,t=>match jl P t with
  |some .bool=>some .bool
  |some (.int k)=>some (.int k)
  |some .string=>some .str
  |some (.slice e)=>match zmH P n e with
   |some a=>some (.list a)
   |none=>none
  |some (.struct fields)=>fields.toList.foldr (fun f acc=>match zmH P n f.type,acc with
   |some a,some b=>some (match b with | .unit=>a | b=>.pair a b)
   |_,_=>none) (some .unit)
  |some (.array m e)=>match zmH P n e with
   |some a=>(List.replicate m a).foldr (fun a acc=>match acc with
    |some b=>some (match b with | .unit=>a | b=>.pair a b)
    |none=>none) (some .unit)
   |none=>none
  |_=>none
theorem zmI {ν:Nat→Bool} {H:SH} {nx:Nat} {k:SB} (hn:zk H nx=none) (hx:zT (rho ν ((nx,k)::H)) (ν nx) k=none) (g:zA φ (zw ν H) K w):zA φ (zw ν ((nx,k)::H)) K w:=by
 have h1:RLe (rho ν H) (rho ν ((nx,k)::H)):=zgk ν (kn hn)
 have g1:zA φ (kG ν (rho ν ((nx,k)::H)) H) K w:=zwK (gO ν H) h1 g
 refine g1.sub fun c x hc=>?_
 rw [zF,zG] at hc
 by_cases hb:nx=c
 ·subst hb
  rw [if_pos rfl] at hc
  simp only [Option.bind_some] at hc
  rw [hx] at hc;cases hc
 ·rw [if_neg hb] at hc
  rw [uu];exact hc
theorem zam {ν:Nat→Bool} {H:SH} {nx:Nat} {nn:Bool} {ty:Ty} {l:List (T ty)} (hn:zk H nx=none) (hv:VN ν nx H) (g:zA φ ((nx,.cells (zX ty l) false)::zw ν H) K w):zA φ (zw ν ((nx,.arr nn ty l)::H)) K w:=by
 cases h:jP nn l with
 |false=>exact UL hn (x:=.cells (zX ty l) false) (by simp [zT,h]) g
 |true=>
  refine zmI hn (by simp [zT,h]) (g.sub fun c k hc=>?_)
  have:(nx == c)=false:=by
   rw [beq_eq_false_iff_ne]
   rintro rfl
   rw [zF,hn] at hc;cases hc
  simp [Hp.get_cons,this,hc]
theorem zbP {ν:Nat→Bool} {H:SH} {nx:Nat} {nn:Bool} {ty:Ty} {l:List (T ty)} (hv:VN ν nx H) (hl:jP nn l=false):rho ν ((nx,.arr nn ty l)::H) nx=.slice (some ⟨nx,0,none⟩) l.length (qc+sz ty):=by
 rw [QQ ν (nn:=nn) (t:=ty) (l:=l) (by rw [zG,if_pos rfl];rfl),hl]
 rfl
theorem zrt {ν:Nat→Bool} {H:SH} {nx:Nat} {nn:Bool} {ty:Ty} {l:List (T ty)} (hl:jP nn l=true):rho ν ((nx,.arr nn ty l)::H) nx=.slice none 0 0:=by
 rw [QQ ν (nn:=nn) (t:=ty) (l:=l) (by rw [zG,if_pos rfl];rfl),hl]
 rfl
theorem zyZ {H:Hp} {b:Nat} {cs ds:List Value} (g:zA φ ((b,.cells cs false)::H) K w) (h:∀us,zy φ cs us→zy φ ds us) (hl:ds.length=cs.length):zA φ ((b,.cells ds false)::H) K w:=by
 have hget:∀c k,Hp.get ((b,Blk.cells ds false)::H) c=some k→(c=b∧k=.cells ds false∧Hp.get ((b,Blk.cells cs false)::H) c=some (.cells cs false))∨(c≠b∧Hp.get ((b,Blk.cells cs false)::H) c=some k):=by
  intro c k hc
  by_cases hcb:b=c
  ·subst hcb;simp [Hp.get_cons] at hc;exact .inl ⟨rfl,hc.symm,by simp [Hp.get_cons]⟩
  ·simp [Hp.get_cons,hcb] at hc;exact .inr ⟨fun e=>hcb e.symm,by simp [Hp.get_cons,hcb,hc]⟩
 refine ⟨fun c k hc=>?_,fun c d k k' L L' hc hd hne hkr hL hL'=>?_,fun c k L hc hkr hL=>?_,g.kin,g.fz,fun c k L e M hc hkr hL hM=>?_⟩
 ·rcases hget c k hc with ⟨rfl,rfl,h1⟩ | ⟨_,h1⟩
  ·obtain ⟨L,hL,arr,el,fr,e1,e2,e3⟩:=g.rel c _ h1
   have hex:∀j,j < cs.length→∃v',arr[L.off+j]?=some v':=fun j hj=>by
    obtain ⟨v',h2,_⟩:=e2 j cs[j] (by simp)
    exact ⟨v',h2⟩
   have hus:zy φ cs ((List.range cs.length).map fun j=>arr[L.off+j]?.getD undef):=by
    refine zy.of_get (by simp) fun i v v' hv hv'=>?_
    obtain ⟨u,h2,h3⟩:=e2 i v hv
    have hi:i < cs.length:=(List.getElem?_eq_some_iff.1 hv).1
    simp [hi,h2] at hv'
    subst hv';exact h3
   refine ⟨L,hL,arr,el,fr,e1,fun j v hv=>?_,e3⟩
   have hj:j < cs.length:=by have:=(List.getElem?_eq_some_iff.1 hv).1;omega
   obtain ⟨v',h2⟩:=hex j hj
   obtain ⟨u,h3,h4⟩:=(h _ hus).get hv
   simp [hj,h2] at h3
   subst h3
   exact ⟨_,h2,h4⟩
  ·exact g.rel c k h1
 ·rcases hget c k hc with ⟨rfl,rfl,h1⟩ | ⟨_,h1⟩
  ·rcases hget d k' hd with ⟨rfl,_⟩ | ⟨_,h2⟩
   ·exact absurd rfl hne
   ·exact g.sep c d _ k' L L' h1 h2 hne rfl hL hL'
  ·rcases hget d k' hd with ⟨rfl,rfl,h2⟩ | ⟨_,h2⟩
   ·exact g.sep c d k _ L L' h1 h2 hne hkr hL hL'
   ·exact g.sep c d k k' L L' h1 h2 hne hkr hL hL'
 ·rcases hget c k hc with ⟨rfl,rfl,h1⟩ | ⟨_,h1⟩
  ·exact g.prot c _ L h1 rfl hL
  ·exact g.prot c k L h1 hkr hL
 ·rcases hget c k hc with ⟨rfl,rfl,h1⟩ | ⟨_,h1⟩
  ·exact g.fsep c _ L e M h1 rfl hL hM
  ·exact g.fsep c k L e M h1 hkr hL hM
def zp4 (zl zc:Int) (bytes:Nat):Bool:=!zr zl 0&&(!zr zc zl&&!zr 281474976710656 ((bytes:Int)*zc))
def zAz (P:Program) (tm:List SV) (H:SH) (nx:Nat) (t:TypeId) (l c:Operand) (k:KO R):Option R:=match jX tm H l,jX tm H c with
 |some (.int _ zl),some (.int _ zc)=>match jl P t with
  |some (.slice e)=>match ju P e,zmH P 20 e with
   |some ie,some ty=>bif zfN P e ty&&Nat.blt 0 ie.bytes then match Wy H nx (.arr true ty (List.replicate zl.toNat (zax ty))) with
     |some H'=>bif zp4 zl zc ie.bytes then k (.own nx) H' (nx+1) else none
     |none=>none
    else none
   |_,_=>none
  |_=>none
 |_,_=>none
theorem zru (ty:Ty) (x:T ty) (n:Nat):zX ty (List.replicate n x)=(List.replicate n (qn ty x)).flatten:=by
 induction n with
 |zero=>rfl
 |succ n ih=>
  rw [List.replicate_succ,List.replicate_succ,List.flatten_cons,←ih];rfl
theorem zjc {a b:List Value} (h:∀us,zy φ a us→zy φ b us) (hl:b.length=a.length):∀(n:Nat) us,zy φ (List.replicate n a).flatten us→zy φ (List.replicate n b).flatten us
 |0,us,hr=>hr
 |n+1,us,hr=>by
  rw [List.replicate_succ,List.flatten_cons] at hr ⊢
  have h3:=hr.take a.length
  have h4:=hr.drop a.length
  rw [List.take_left] at h3
  rw [List.drop_left] at h4
  have:=(h _ h3).append (zjc h hl n _ h4)
  rw [List.take_append_drop] at this
  exact this
theorem zDM {rd:Option Nat} {o:Oper} {tm:List SV} {H:SH} {nx:Nat} {k:KO R} {r:R} {t:TypeId} {l c:Operand} (ho:o.op=.makeSlice t l c) (h:zAz P tm H nx t l c k=some r):gI P rd o tm H nx k r:=by
 unfold zAz at h
 split at h
 case h_2=>cases h
 rename_i kl zl kc zc hl hc
 split at h
 case h_2=>cases h
 rename_i e hu
 split at h
 case h_2=>cases h
 rename_i ie ty hie hty
 have h6:=zx h
 clear h
 obtain ⟨hh,h⟩:=h6
 simp only [Bool.and_eq_true] at hh
 split at h
 case h_2=>cases h
 rename_i H1 hn
 have h6:=zx h
 clear h
 obtain ⟨hm,h⟩:=h6
 obtain ⟨hn1,rfl⟩:=uv hn
 obtain ⟨ie',z,e1,e2,e3,e4,e5,e6,e7⟩:=zkn hh.1
 rw [jK] at hie
 rw [wb] at hu
 rw [hie] at e1;cases e1
 have hbp:=zd4 hh.2
 simp only [zp4,Bool.and_eq_true,Bool.not_eq_true',km,decide_eq_false_iff_not,Int.not_lt] at hm
 obtain ⟨m1,m2,m3⟩:=hm
 have hzc:zc≤281474976710656:=by
  have:(1:Int)*zc≤(ie.bytes:Int)*zc:=Int.mul_le_mul_of_nonneg_right (by omega) (by omega)
  omega
 refine uw ⟨kn hn1,kY hn1,Nat.le_succ _,fun ν hv=>⟨YV hv,?_⟩⟩ h
 refine Ko (Nat.le_succ _) (fun c hc=>by rw [ho] at hc;cases hc) fun φ w K a g hf ht=>?_
 have hl':=qe ht (zV hl ν)
 have hc':=qe ht (zV hc ν)
 simp only [den] at hl' hc'
 unfold execOp
 simp only [ho]
 generalize a.eval l=ul at hl'
 generalize a.eval c=uc at hc'
 cases hl'
 cases hc'
 have hfr:=hf.at (Nat.le_refl nx) (Nat.lt_succ_self nx)
 obtain ⟨v',w',φ',r1,r2,r3,r4,r5⟩:=zyY (P:=P) (kl:=kl) (kc:=kc) g hfr.1 hfr.2 hu hie e2 (Go.IntWalk.i64_in _ (by omega)) (Go.IntWalk.i64_in _ (by omega)) m1 m2 m3 (by omega) e3 e6 rfl
 refine Ran.op ⟨v',w',φ',r1,?_,r3,?_,r5,Nat.le_succ _⟩
 ·simp only [den]
  rw [zbP hv rfl,List.length_replicate,e5]
  exact r2
 ·refine zam hn1 hv ?_
  refine zyZ r4 ?_ ?_
  ·rw [zru]
   exact zjc (e7 φ') (by rw [wD,e5,Array.length_toList,e3]) _
  ·rw [YS,List.length_replicate,e5]
   simp [e3]
theorem zwV {s:Nat}:∀(us:List Value) (j:Nat) (arr:Array Value),(∀u∈us,u.cells.size=s)→arr.size=(j+us.length)*s→
  Instr.fill (fun i=>some (i*s,s)) arr ((us.zipIdx j).map fun p=>(p.2,p.1))=some (arr.toList.take (j*s)++us.flatMap fun u=>u.cells.toList).toArray
 |[],j,arr,_,hl=>by
  simp only [List.zipIdx_nil,List.map_nil,Instr.fill,List.flatMap_nil,List.append_nil,Option.some.injEq]
  apply Array.ext'
  rw [List.take_of_length_le (by simp at hl ⊢;omega)]
 |u::us,j,arr,hu,hl=>by
  have h1:=hu u (by simp)
  have hl2:arr.size=j*s+s+us.length*s:=by
   rw [hl,List.length_cons,Nat.add_mul,Nat.add_mul];omega
  simp only [List.zipIdx_cons,List.map_cons,Instr.fill]
  rw [if_neg (by simp [h1];omega)]
  have hf:=zmE u.cells.toList 0 (j*s) arr (by simp [h1];omega)
  rw [←Array.foldl_toList,Array.toList_zipIdx]
  rw [zwV us (j+1) _ (fun x hx=>hu x (by simp [hx])) (by
   have:=congrArg List.length hf
   rw [zz3 _ _ _ (by simp [h1];omega)] at this
   simp only [Array.length_toList] at this
   rw [this,hl2,Nat.add_mul,Nat.add_mul];omega)]
  rw [hf,List.flatMap_cons,←List.append_assoc]
  congr 3
  unfold spl
  have e1:(j+1)*s=j*s+s:=by rw [Nat.add_mul,Nat.one_mul]
  rw [List.take_left' (by simp [h1];omega),Nat.add_zero]
def zwW (vt:VT):List (Nat×SV)→Nat→SH→Option (List (T vt.ty)×SH)
 |[],_,H=>some ([],H)
 |(j,v)::r,i,H=>bif Nat.beq i j then match cvV vt v H with
  |some (x,H1)=>match zwW vt r (i+1) H1 with
   |some (xs,H2)=>some (x::xs,H2)
   |none=>none
  |none=>none
  else none
theorem zzs {vt:VT}:∀{ps:List (Nat×SV)} {i:Nat} {H H':SH} {xs:List (T vt.ty)},zwW vt ps i H=some (xs,H')→vy H H'∧xs.length=ps.length∧
  ∀
   ν G,GLe H' G→∀(φ:Ren) (K:Nat→Prop) (w:World) (nx:Nat) (qs:List (Nat×Value)),zA φ (zw ν G) K w→VN ν nx G→zpN φ (ps.map fun p=>(p.1,den (rho ν H) p.2)) qs→
   ∃us:List Value,qs=(us.zipIdx i).map (fun p=>(p.2,p.1))∧us.length=xs.length∧∀(j:Nat) u x,us[j]?=some u→xs[j]?=some x→zo φ (den (fun _=>bad) (mkV vt x)) u
 |[],i,H,H',xs,h=>by
  simp only [zwW,Option.some.injEq,Prod.mk.injEq] at h
  obtain ⟨rfl,rfl⟩:=h
  refine ⟨vy.refl _,rfl,fun ν G hG φ K w nx qs g hv hp=>?_⟩
  cases qs with
  |nil=>exact ⟨[],rfl,rfl,fun j u x h=>by simp at h⟩
  |cons q qs=>exact hp.elim
 |(j0,v)::r,i,H,H',xs,h=>by
  simp only [zwW] at h
  have h6:=zx h
  clear h
  obtain ⟨hb,h⟩:=h6
  have hj:=Nat.eq_of_beq_eq_true hb
  clear hb
  subst hj
  split at h
  case h_2=>cases h
  rename_i x H1 h1
  split at h
  case h_2=>cases h
  rename_i ys H2 h2
  cases h
  obtain ⟨g1,r1⟩:=zrn h1
  obtain ⟨g2,l2,r2⟩:=zzs h2
  refine ⟨g1.trans g2,by simp [l2],fun ν G hG φ K w nx qs g hv hp=>?_⟩
  cases qs with
  |nil=>exact hp.elim
  |cons q qs=>
   obtain ⟨e1,e2,e3⟩:=hp
   obtain ⟨q1,q2⟩:=q
   dsimp only at e1 e2
   subst e1
   rw [←g1.1.rho ν] at e3
   obtain ⟨us,f1,f2,f3⟩:=r2 ν G hG φ K w nx qs g hv e3
   have f4:=r1 ν G (g2.1.trans hG) φ K w nx q2 g hv e2 (fun _=>bad)
   refine ⟨q2::us,by simp [f1],by simp [f2],fun j u y hu hy=>?_⟩
   cases j with
   |zero=>simp at hu hy;subst hu;subst hy;exact f4
   |succ j=>simp at hu hy;exact f3 j u y hu hy
theorem zB4 {vt:VT} {x:T vt.ty} {u:Value} (hagg:vt.agg=false→sz vt.ty=1) (h:zo φ (den (fun _=>bad) (mkV vt x)) u):zy φ (qn vt.ty x) u.cells.toList:=by
 obtain ⟨ag,ty⟩:=vt
 cases ag with
 |true=>
  simp only [mkV,cond_true,den] at h
  obtain ⟨ys,rfl,hl⟩:=h.agg_inv
  simpa [qA,yH,Value.cells] using hl
 |false=>
  simp only [mkV,cond_false] at h
  have h1:=Km ty x
  rw [hagg rfl] at h1
  have h2:=yH (fun _=>bad) ty x
  match he:wJ ty x,h1 with
  |[v],_=>
   rw [he] at h h2
   simp only [mk1,List.map_cons,List.map_nil] at h h2
   rw [←h2]
   have h3:=h.one
   have h4:(den (fun _=>bad) v).oneCell'=true:=by
    have:∀(t:Ty) (y:T t) (c:Value),c∈qn t y→c.oneCell'=true:=by
     intro t
     induction t with
     |unit=>intro y c hc;simp [qn] at hc
     |bool=>intro y c hc;simp [qn] at hc;subst hc;rfl
     |int k=>intro y c hc;simp [qn] at hc;subst hc;rfl
     |str=>intro y c hc;simp [qn] at hc;subst hc;rfl
     |list t ih=>intro y c hc;simp [qn] at hc;subst hc;rfl
     |pair a b iha ihb=>
      intro y c hc
      simp only [qn,List.mem_append] at hc
      rcases hc with hc | hc
      ·exact iha _ _ hc
      ·exact ihb _ _ hc
    refine this ty x _ ?_
    rw [←h2];simp
   rw [zmi (by rw [h3];exact h4)]
   exact ⟨h,trivial⟩
theorem zuP {ty:Ty}:∀{xs:List (T ty)} {us:List Value},us.length=xs.length→(∀(j:Nat) u x,us[j]?=some u→xs[j]?=some x→zy φ (qn ty x) u.cells.toList)→zy φ (zX ty xs) (us.flatMap fun u=>u.cells.toList)
 |[],[],_,_=>trivial
 |x::xs,u::us,hl,h=>by
  have h1:=h 0 u x rfl rfl
  have h2:=zuP (xs:=xs) (us:=us) (by simpa using hl) fun j u x hu hx=>h (j+1) u x (by simpa using hu) (by simpa using hx)
  simp only [List.flatMap_cons]
  exact h1.append h2
 |[],_::_,hl,_=>by simp at hl
 |_::_,[],hl,_=>by simp at hl
def zDN (P:Program) (tm:List SV) (H:SH) (nx:Nat) (t:TypeId) (n:Nat) (ps:List (Nat×Operand)) (k:KO R):Option R:=match zd6 tm H ps,jl P t with
 |some vs,some (.slice e)=>match ju P e,zmH P 20 e,jl P e with
  |some ie,some ty,some d=>bif Nat.beq n vs.length&&(Nat.ble (n*ie.size) 16777216&&(zfN P e ty&&(Yj d||Nat.beq (sz ty) 1))) then
    match zwW ⟨Yj d,ty⟩ vs 0 H with
    |some (xs,H1)=>match Wy H1 nx (.arr true ty xs) with
     |some H2=>k (.own nx) H2 (nx+1)
     |none=>none
    |none=>none
   else none
  |_,_,_=>none
 |_,_=>none
theorem zAA {tm:List SV} {H:SH} {ν:Nat→Bool} {a:Act} (ht:qY φ (zp (rho ν H) tm) a.tmps) {ps:List (Nat×Operand)} {vs:List (Nat×SV)} (h:zd6 tm H ps=some vs):zpN φ (vs.map fun p=>(p.1,den (rho ν H) p.2)) (ps.map fun p=>(p.1,a.eval p.2)):=
 zfB ht (zfL ν h)
theorem zFN {rd:Option Nat} {o:Oper} {tm:List SV} {H:SH} {nx:Nat} {k:KO R} {r:R} {t:TypeId} {n:Nat} {ps:Array (Nat×Operand)} (ho:o.op=.buildSlice t n ps) (h:zDN P tm H nx t n ps.toList k=some r):gI P rd o tm H nx k r:=by
 unfold zDN at h
 split at h
 case h_2=>cases h
 rename_i vs e hvs hu
 split at h
 case h_2=>cases h
 rename_i ie ty d hie hty hd
 have h6:=zx h
 clear h
 obtain ⟨hh,h⟩:=h6
 simp only [Bool.and_eq_true,Bool.or_eq_true] at hh
 obtain ⟨c1,c2,c3,c4⟩:=hh
 have c1:=Nat.eq_of_beq_eq_true c1
 have c2:=Nat.le_of_ble_eq_true c2
 split at h
 case h_2=>cases h
 rename_i xs H1 hl
 split at h
 case h_2=>cases h
 rename_i H2 hn
 obtain ⟨hn1,rfl⟩:=uv hn
 obtain ⟨hg,hxl,hrel⟩:=zzs hl
 obtain ⟨ie',z,e1,e2,e3,e4,e5,e6,e7⟩:=zkn c3
 rw [jK] at hie
 rw [wb] at hu
 rw [hie] at e1;cases e1
 have hxn:xs.length=n:=by rw [hxl,c1]
 refine uw ⟨hg.1.regLe.trans (kn hn1),hg.1.lkeep.trans (kY hn1),Nat.le_succ _,fun ν hv=>⟨YV (hg.1.vn hv),zkl hg ?_⟩⟩ h
 have hv1:=hg.1.vn hv
 refine Ko (Nat.le_succ _) (fun c hc=>by rw [ho] at hc;cases hc) fun φ w K a g hf ht=>?_
 have hp:=zAA ht hvs
 obtain ⟨us,f1,f2,f3⟩:=hrel ν H1 (GLe.refl _) φ K w nx _ g hv1 hp
 have hcell:∀(j:Nat) u x,us[j]?=some u→xs[j]?=some x→zy φ (qn ty x) u.cells.toList:=fun j u x hu hx=>zB4 (vt:=⟨Yj d,ty⟩) (fun hagg=>by
  dsimp only at hagg
  rw [hagg] at c4
  rcases c4 with c4 | c4
  ·cases c4
  ·exact Nat.eq_of_beq_eq_true c4) (f3 j u x hu hx)
 have hsize:∀u∈us,u.cells.size=ie.size:=fun u hu=>by
  obtain ⟨j,hj⟩:=List.getElem?_of_mem hu
  have hjl:j < xs.length:=by have:=(List.getElem?_eq_some_iff.1 hj).1;omega
  have:=(hcell j u xs[j] hj (by simp)).length
  rw [wD,e5] at this
  simpa using this.symm
 have hfr:=hf.at (Nat.le_refl nx) (Nat.lt_succ_self nx)
 have hrl:=zuP f2 hcell
 have hlim:(us.flatMap fun u=>u.cells.toList).length=n*ie.size:=by
  rw [←hrl.length,YS,hxn,e5]
 have hg2:=g.make hfr.1 hfr.2 hrl e (n*ie.size) [] (by rw [hlim];omega)
 simp only [List.append_nil] at hg2
 unfold execOp
 simp only [ho]
 refine Ran.op ⟨.slice (some ⟨w.heap.size,0,none⟩) n n,w.alloc (.cells (us.flatMap fun u=>u.cells.toList).toArray e),φ.put nx ⟨w.heap.size,0,n*ie.size,#[]⟩,?_,?_,Ext.put hfr.1 hfr.2 _,zam hn1 hv1 hg2,qC.alloc g _,Nat.le_succ _⟩
 ·have hq:ps.toList.map (fun p=>(p.1,a.eval p.2))=us.zipIdx.map fun p=>(p.2,p.1):=f1
  have hfill:∀arr:Array Value,arr.size=n*ie.size→Instr.fill (fun i=>some (i*ie.size,ie.size)) arr (us.zipIdx.map fun p=>(p.2,p.1))=some (us.flatMap fun u=>u.cells.toList).toArray:=fun arr ha=>by
   have:=zwV us 0 arr hsize (by rw [ha,Nat.zero_add,f2,hxn])
   simpa using this
  have h24:¬(n*ie.size > 2 ^ 24):=by omega
  by_cases h0:n*ie.size=0
  ·have:=hfill #[] (by simp [h0])
   simp [Instr.buildSlice,run_underlying hu,qH hie,h0,zmj,hq,this,newRow]
  ·have:=hfill ((Array.range (n*ie.size)).map (z.cells[· % z.cells.size]!)) (by simp)
   simp [Instr.buildSlice,run_underlying hu,qH hie,h0,uO hie e2,hq,newRow] at this h24 ⊢
   simp [h24,this]
 ·simp only [den]
  rw [zbP hv1 rfl,hxn,e5]
  have:=zo.slO (φ:=φ.put nx ⟨w.heap.size,0,n*ie.size,#[]⟩) nx 0 n (qc+ie.size) n _ (Ren.put_same _ _ _) (by omega) (Nat.le_refl _) (by simp)
  simpa using this
theorem zwX:∀(t:Ty) {l:List SV} {H:SH} {x:T t} {r:List SV} {H':SH},cvC t l H=some (x,r,H')→l.length=sz t+r.length∧(∀j,j+sz t < l.length→r[j]?=l[j+sz t]?)∧∀(y:T t) j,j < sz t→l[j]?=(wJ t y)[j]?→(qn t x)[j]?=(qn t y)[j]?
 |.unit,l,H,x,r,H',h=>by
  simp only [cvC] at h
  cases h
  exact ⟨by simp [sz],fun j _=>by simp [sz],fun y j hj=>by simp [sz] at hj⟩
 |.bool,l,H,x,r,H',h=>by
  simp only [cvC] at h
  split at h
  ·cases h
   refine ⟨by simp [sz];omega,fun j _=>by simp [sz],fun y j hj hl=>?_⟩
   simp only [sz,Nat.lt_one_iff] at hj
   subst hj
   simp only [wJ,List.getElem?_cons_zero,Option.some.injEq,SV.bool.injEq] at hl
   subst hl;rfl
  ·cases h
 |.int k,l,H,x,r,H',h=>by
  simp only [cvC] at h
  split at h
  ·obtain ⟨h1,h2⟩:=zx h
   cases h2
   refine ⟨by simp [sz];omega,fun j _=>by simp [sz],fun y j hj hl=>?_⟩
   simp only [sz,Nat.lt_one_iff] at hj
   subst hj
   simp only [wJ,List.getElem?_cons_zero,Option.some.injEq,SV.int.injEq] at hl
   obtain ⟨_,rfl⟩:=hl;rfl
  ·cases h
 |.str,l,H,x,r,H',h=>by
  simp only [cvC] at h
  split at h
  ·cases h
   refine ⟨by simp [sz];omega,fun j _=>by simp [sz],fun y j hj hl=>?_⟩
   simp only [sz,Nat.lt_one_iff] at hj
   subst hj
   simp only [wJ,List.getElem?_cons_zero,Option.some.injEq,SV.str.injEq] at hl
   subst hl;rfl
  ·cases h
 |.list t,l,H,x,r,H',h=>by
  simp only [cvC] at h
  split at h
  ·rename_i t' y0 full r'
   split at h
   ·rename_i ht
    subst ht
    cases h
    refine ⟨by simp [sz];omega,fun j _=>by simp [sz],fun y j hj hl=>?_⟩
    simp only [sz,Nat.lt_one_iff] at hj
    subst hj
    simp only [wJ,List.getElem?_cons_zero,Option.some.injEq,SV.lst.injEq] at hl
    obtain ⟨_,h3,_⟩:=hl
    have:=eq_of_heq h3
    subst this
    rfl
   ·cases h
  ·cases h
   refine ⟨by simp [sz];omega,fun j _=>by simp [sz],fun y j hj hl=>?_⟩
   simp only [sz,Nat.lt_one_iff] at hj
   subst hj
   simp [wJ] at hl
  ·split at h
   ·split at h
    ·obtain ⟨_,h2⟩:=zx h
     cases h2
     refine ⟨by simp [sz];omega,fun j _=>by simp [sz],fun y j hj hl=>?_⟩
     simp only [sz,Nat.lt_one_iff] at hj
     subst hj
     simp [wJ] at hl
    ·cases h
   ·split at h
    ·obtain ⟨_,h2⟩:=zx h
     cases h2
     refine ⟨by simp [sz];omega,fun j _=>by simp [sz],fun y j hj hl=>?_⟩
     simp only [sz,Nat.lt_one_iff] at hj
     subst hj
     simp [wJ] at hl
    ·cases h
   ·cases h
  ·cases h
 |.pair a b,l,H,x,r,H',h=>by
  simp only [cvC] at h
  split at h
  case h_2=>cases h
  rename_i x1 l1 H1 h1
  split at h
  case h_2=>cases h
  rename_i y l2 H2 h2
  cases h
  obtain ⟨e1,e2,e3⟩:=zwX a h1
  obtain ⟨f1,f2,f3⟩:=zwX b h2
  refine ⟨by simp only [sz];omega,fun j hj=>?_,fun y' j hj hl=>?_⟩
  ·simp only [sz] at hj ⊢
   rw [f2 j (by omega),e2 (j+sz b) (by omega)]
   congr 1;omega
  ·simp only [wJ] at hl
   simp only [qn]
   by_cases hja:j < sz a
   ·rw [List.getElem?_append_left (by rw [Km];exact hja)] at hl
    rw [List.getElem?_append_left (by rw [wD];exact hja),List.getElem?_append_left (by rw [wD];exact hja)]
    exact e3 y'.1 j hja hl
   ·rw [List.getElem?_append_right (by rw [Km];omega),Km] at hl
    rw [List.getElem?_append_right (by rw [wD];omega),List.getElem?_append_right (by rw [wD];omega),wD,wD]
    simp only [sz] at hj
    refine f3 y'.2 (j - sz a) (by omega) ?_
    rw [e2 (j - sz a) (by omega)]
    rw [show j - sz a+sz a=j by omega]
    exact hl
def zAB (P:Program) (tm:List SV) (H:SH) (nx:Nat) (t:TypeId) (a x:Operand) (k:KO R):Option R:=match jX tm H a,jX tm H x with
 |some (.elp b s i off),some v=>match zk H b,ju P t with
  |some (.arr nn ty l),some inf=>bif Nat.beq s (sz ty)&&(zhO v&&(zp2 (UK v) inf.size&&(zwL (UK v)&&(Nat.ble (off+inf.size) (sz ty)&&Nat.blt 0 inf.size)))) then
    opt (gl l i) fun y=>match cvC ty (zmC (wJ ty y) off (UK v)) H with
     |some (y',[],H1)=>match zk H1 b with
      |some (.arr _ _ _)=>k (.tup []) (jW H1 b (.arr nn ty (l.set i y'))) nx
      |_=>none
     |_=>none
   else none
  |_,_=>none
 |_,_=>none
theorem zwY (cs:List SV) (o:Nat) (vs:List SV) (h:o+vs.length≤cs.length) (j:Nat) (hj:j < o∨o+vs.length≤j):(zmC cs o vs)[j]?=cs[j]?:=by
 unfold zmC
 have hm:(cs.take o).length=o:=by simp;omega
 rcases hj with hj | hj
 ·rw [List.append_assoc,List.getElem?_append_left (by omega),List.getElem?_take,if_pos hj]
 ·rw [List.getElem?_append_right (by simp;omega),List.getElem?_drop]
  congr 1;simp;omega
theorem zp5:∀(t:Ty) (y:T t) (c:Value),c∈qn t y→c.oneCell'=true:=by
 intro t
 induction t with
 |unit=>intro y c hc;simp [qn] at hc
 |bool=>intro y c hc;simp [qn] at hc;subst hc;rfl
 |int k=>intro y c hc;simp [qn] at hc;subst hc;rfl
 |str=>intro y c hc;simp [qn] at hc;subst hc;rfl
 |list t ih=>intro y c hc;simp [qn] at hc;subst hc;rfl
 |pair a b iha ihb=>
  intro y c hc
  simp only [qn,List.mem_append] at hc
  rcases hc with hc | hc
  ·exact iha _ _ hc
  ·exact ihb _ _ hc
theorem zoq:∀{l:List Value},(∀c∈l,c.oneCell'=true)→Xk l=true
 |[],_=>rfl
 |x::l,h=>by simp only [Xk,h x (by simp),zoq (l:=l) fun c hc=>h c (by simp [hc]),Bool.and_self]
theorem zFO {cs us:List Value} {o:Nat} {vs ys:List Value} (h:zy φ cs us) (hv:zy φ vs ys):zy φ (spl cs o vs) (spl us o ys):=by
 unfold spl
 rw [←hv.length]
 exact ((h.take o).append hv).append (h.drop _)
theorem zDO {rd:Option Nat} {o:Oper} {tm:List SV} {H:SH} {nx:Nat} {k:KO R} {r:R} {t:TypeId} {ao xo:Operand} (ho:o.op=.store t ao xo) (h:zAB P tm H nx t ao xo k=some r):gI P rd o tm H nx k r:=by
 unfold zAB at h
 split at h
 case h_2=>cases h
 rename_i b s i off v ha hx
 split at h
 case h_2=>cases h
 rename_i nn ty l inf hb hi
 have h6:=zx h
 clear h
 obtain ⟨hh,h⟩:=h6
 simp only [Bool.and_eq_true] at hh
 obtain ⟨c1,c2,c3,c4,c5,c6⟩:=hh
 have c1:=Nat.eq_of_beq_eq_true c1
 have c3:=zf5 c3
 have c5:=Nat.le_of_ble_eq_true c5
 have c6:=zd4 c6
 subst c1
 have h6:=JI h
 clear h
 obtain ⟨y,hy,h⟩:=h6
 rw [ke] at hy
 split at h
 case h_2=>cases h
 rename_i y' H1 hcv
 split at h
 case h_2=>cases h
 rename_i nn1 ty1 l1 hb1
 obtain ⟨cs0,he0,hg,hcr⟩:=zak ty hcv
 simp only [List.append_nil] at he0
 have hb1':zk H1 b=some (.arr nn ty l):=by
  rcases hg.1 b with h1 | ⟨nn2,t2,l2,h1,h2⟩
  ·rw [h1,hb]
  ·rw [h2] at hb1;cases hb1
 have hlt:i < l.length:=(List.getElem?_eq_some_iff.1 hy).1
 have hreg:∀c,reg (zk (jW H1 b (.arr nn ty (l.set i y'))) c)=reg (zk H1 c):=fun c=>by
  rw [qE]
  by_cases hc:c=b
  ·subst hc;simp [hb1',reg,rsz,zwE]
  ·rw [if_neg hc]
 have hnn:∀c,jc (zk (jW H1 b (.arr nn ty (l.set i y'))) c)=true→jc (zk H1 c)=true:=fun c hc=>by
  rw [qE] at hc
  by_cases hcb:c=b
  ·subst hcb;simpa [hb1',jc] using hc
  ·rwa [if_neg hcb] at hc
 refine uw ⟨hg.1.regLe.trans (fun c z hz=>by rw [hreg c];exact hz),hg.1.lkeep.trans (YU hb1' (fun L=>by simp)),Nat.le_refl _,fun ν hv=>⟨gQ hreg hnn (hg.1.vn hv),zkl hg ?_⟩⟩ h
 have hv1:=hg.1.vn hv
 have hn:jP nn l=false:=zi9 (fun h=>by subst h;simp at hlt)
 have hd:(zw ν H1).get b=some (.cells (zX ty l) false):=by rw [zF,hb1'];simp [zT,hn]
 refine Ko (Nat.le_refl _) (fun c hc=>by rw [ho] at hc;cases hc) fun φ w K a' g hf ht=>?_
 have har:=qe ht (zV ha ν)
 have hxr:=qe ht (zV hx ν)
 simp only [den] at har
 generalize hx':a'.eval xo=x' at hxr
 obtain ⟨s1,s2⟩:=Kn (ν:=ν) (H:=H) c2
 have hcells:=hxr.cells' s2
 rw [s1] at hcells
 have hlen0:off+(UK v).length≤(wJ ty y).length:=by rw [Km,c3];exact c5
 obtain ⟨L,hL⟩:=g.named hd
 obtain ⟨p1,p2⟩:=zfJ ty l (k:=0) (n:=sz ty) hy (by omega)
 rw [Nat.add_zero] at p1 p2
 have p3:(qn ty y).take (sz ty)=qn ty y:=List.take_of_length_le (by rw [wD];omega)
 rw [List.drop_zero,p3] at p2
 obtain ⟨uy,hul,_,hur⟩:=g.read hd hL (i*sz ty) (sz ty) p1
 rw [p2] at hur
 have hxl:x'.cells.toList.length=inf.size:=by rw [←hcells.length,wU,c3]
 have hnew:zy φ (qn ty y') (spl uy off x'.cells.toList):=by
  refine hcr ν H1 (GLe.refl _) φ K w nx _ g hv1 ?_
  rw [←he0,zp1]
  refine zFO ?_ hcells
  rw [qA,yH];exact hur
 have hvs:zy φ (((qn ty y').drop off).take inf.size) x'.cells.toList:=by
  have h1:=(hnew.drop off).take inf.size
  have h2:((spl uy off x'.cells.toList).drop off).take inf.size=x'.cells.toList:=by
   unfold spl
   have e1:(uy.take off).length=off:=by simp;omega
   rw [List.append_assoc,List.drop_left' e1,List.take_left' hxl]
  rwa [h2] at h1
 have hvl:(((qn ty y').drop off).take inf.size).length=inf.size:=by rw [hvs.length,hxl]
 have hone:Xk (((qn ty y').drop off).take inf.size)=true:=zoq fun c hc=>zp5 ty y' c (List.mem_of_mem_drop (List.mem_of_mem_take hc))
 have hy2:qn ty y'=spl (qn ty y) off (((qn ty y').drop off).take inf.size):=by
  apply List.ext_getElem?
  intro j
  rw [zf3 _ _ _ (by rw [hvl,wD];exact c5),hvl]
  obtain ⟨q1,_,q3⟩:=zwX ty hcv
  by_cases h1:j < off
  ·rw [if_pos h1]
   refine q3 y j (by omega) ?_
   exact zwY _ _ _ hlen0 j (.inl h1)
  ·rw [if_neg h1]
   by_cases h2:j < off+inf.size
   ·rw [if_pos h2,List.getElem?_take,if_pos (by omega),List.getElem?_drop]
    congr 1;omega
   ·rw [if_neg h2]
    by_cases h3:j < sz ty
    ·refine q3 y j h3 ?_
     exact zwY _ _ _ hlen0 j (.inr (by omega))
    ·rw [List.getElem?_eq_none (by rw [wD];omega),List.getElem?_eq_none (by rw [wD];omega)]
 have hset:=zBR ty l (k:=off) hy (by rw [hvl];exact c5) hy2
 obtain ⟨w',hst,hg2,hw2⟩:=g.write P hd hL (i*sz ty+off) (by rw [hvl];have:=(zfJ ty l (k:=off) (n:=inf.size) hy c5).1;omega) hone hvs (by intro h0;rw [h0] at hvl;simp at hvl;omega)
 rw [hset] at hg2
 rw [jK] at hi
 unfold execOp
 simp only [ho]
 generalize a'.eval ao=ua at har
 cases har with
 |ptr _ _ L2 hL2=>
  rw [hL] at hL2;cases hL2
  refine zfC ⟨w',?_,?_,hw2⟩
  ·simp only [Instr.storeAt,Instr.sureAddr,storeVar]
   have hsz:x'.cells.size=inf.size:=by simpa using hxl
   rw [hx']
   simp [qH hi,hsz]
   exact hst
  ·refine hg2.sub fun c k hc=>?_
   rw [zF,qE,yx hreg] at hc
   rw [Hp.get_set]
   by_cases hcb:c=b
   ·subst hcb
    simp [hb1',zT,zwE,hn] at hc
    rw [if_pos rfl,hd]
    simp [hc]
   ·rw [if_neg hcb] at hc ⊢
    rw [zF];exact hc
theorem zDP {rd:Option Nat} {o:Oper} {tm:List SV} {H:SH} {nx:Nat} {cs:List SV} {v:SV} (hn:zk H nx=none)
  (h:∀ν,wQ P (zp (rho ν H) tm) (zw ν H) nx o=some (den (rho ν ((nx,.vars cs)::H)) v,(nx,.cells (zp (rho ν H) cs) false)::zw ν H,nx+1)):SOp P rd o tm H nx v ((nx,.vars cs)::H) (nx+1):=by
 refine ⟨kn hn,kY hn,Nat.le_succ _,fun ν hv=>⟨YV hv,ZM (ue (h ν)) (fun φ v' hv=>hv) (fun φ K w g=>?_)⟩⟩
 have hr:rho ν ((nx,.vars cs)::H)=rho ν H:=yx (fun c=>by
  rw [zG]
  by_cases hc:nx=c
  ·subst hc;simp [hn,reg]
  ·rw [if_neg hc]) ν
 refine UL hn (x:=.cells (zp (rho ν H) cs) false) ?_ g
 simp [zT,hr]
def isNone {α:Type}:Option α→Bool
 |none=>true
 |some _=>false
def zDQ (P:Program) (tm:List SV) (H:SH) (nx:Nat) (t:TypeId) (n:Nat) (ps:List (Nat×Operand)):Option (SV×SH):=match zd6 tm H ps,jl P t with
 |some vs,some (.slice e)=>match ju P e with
  |some ie=>match ie.zero with
   |some z=>match zpW z with
    |some zs=>bif isNone (zmH P 20 e)&&(Nat.beq ie.size 1&&Nat.ble n 1000) then match zkm (fun i=>some (i*ie.size,ie.size)) (List.replicate n zs) vs with
     |some cs=>match Wy H nx (.vars cs) with
      |some H'=>some (.slv nx n,H')
      |none=>none
     |none=>none
     else none
    |none=>none
   |none=>none
  |none=>none
 |_,_=>none
theorem zFP {rd:Option Nat} {o:Oper} {tm:List SV} {H H':SH} {nx:Nat} {v:SV} {t:TypeId} {n:Nat} {ps:Array (Nat×Operand)} (ho:o.op=.buildSlice t n ps) (h:zDQ P tm H nx t n ps.toList=some (v,H')):SOp P rd o tm H nx v H' (nx+1):=by
 unfold zDQ at h
 split at h
 case h_2=>cases h
 rename_i vs e hvs hu
 split at h
 case h_2=>cases h
 rename_i ie hie
 split at h
 case h_2=>cases h
 rename_i z hz
 split at h
 case h_2=>cases h
 rename_i zs hzs
 have h6:=zx h
 clear h
 obtain ⟨hc,h⟩:=h6
 simp only [Bool.and_eq_true] at hc
 have hs1:=Nat.eq_of_beq_eq_true hc.2.1
 have hn:=Nat.le_of_ble_eq_true hc.2.2
 split at h
 case h_2=>cases h
 rename_i cs hcs
 split at h
 case h_2=>cases h
 rename_i H2 hnew
 cases h
 obtain ⟨hn1,rfl⟩:=uv hnew
 refine zDP hn1 fun ν=>?_
 obtain ⟨e1,e2⟩:=zpX (ρ:=rho ν H) hzs
 obtain ⟨f1,f2⟩:=zhP (ν:=ν) (H:=H) _ hcs
 have hzc:z.cells=#[z]:=by
  unfold zpW at hzs
  split at hzs<;>first | rfl | cases hzs
 have hrep:((Array.range (n*ie.size)).map (z.cells[· % z.cells.size]!))=(zp (rho ν H) (List.replicate n zs)).toArray:=by
  rw [hs1,hzc]
  apply Array.ext'
  rw [qA,List.map_replicate,e1]
  apply List.ext_getElem?
  intro i
  simp only [Nat.mul_one,Array.toList_map,Array.toList_range,List.getElem?_map,List.getElem?_replicate]
  by_cases hi:i < n
  ·simp [hi,Nat.mod_one]
  ·simp [hi]
 have hav:∀m,avL (List.replicate m z)=true:=fun m=>by
  induction m with
  |zero=>rfl
  |succ m ih=>simp [List.replicate_succ,avL,ih,e2]
 unfold wQ
 simp only [ho,zfL ν hvs,Option.bind_some]
 unfold XR
 simp only [hu,hie,hz]
 rw [if_pos]
 ·rw [hrep,f1]
  have:avL (zp (rho ν H) (List.replicate n zs)).toArray.toList=true:=by
   rw [qA,List.map_replicate,e1];exact hav n
  simp only [this,if_true,den]
 ·refine ⟨by rw [hs1];omega,by simp only [qc];omega,by rw [hzc];exact hav 1,f2,by rw [hzc];simp⟩
def zp6 (H:SH) (ty:Ty):SV→Option (List (T ty))
 |.lst t l _=>if h:t=ty then some (YR h l) else none
 |.own b=>match zk H b with
  |some (.arr _ t l)=>if h:t=ty then some (YR h l) else none
  |some (.roa _ t l)=>if h:t=ty then some (YR h l) else none
  |_=>none
 |.nils=>some []
 |_=>none
theorem zuQ (ty:Ty) (l:List (T ty)):((l.map (yB ty)).flatMap fun e=>e.cells.toList)=zX ty l:=by
 induction l with
 |nil=>rfl
 |cons x l ih=>simp only [List.map_cons,List.flatMap_cons,ih];rfl
theorem zmJ {ν:Nat→Bool} {nx:Nat} {H:SH} (hv:VN ν nx H) {b:Nat} {nn:Bool} {ty:Ty} {l:List (T ty)} {ro:Bool} (hr:reg (zk H b)=some (l.length,rsz nn ty l)) (hd:jP nn l=false→(zw ν H).get b=some (.cells (zX ty l) ro)) :
  gL (zw ν H) (sz ty) (rho ν H b)=some (l.length,zX ty l):=by
 rw [QQ ν hr]
 cases hn:jP nn l with
 |true=>
  obtain ⟨_,rfl⟩:=zbe hn
  simp [gL,zX]
 |false=>
  simp only [cond_false,gL]
  by_cases h0:l.length=0
  ·have:l=[]:=List.length_eq_zero_iff.1 h0
   subst this
   simp [zX]
  ·rw [if_neg h0]
   simp only [hd hn,YS,Nat.zero_add,Nat.le_refl,if_true,List.drop_zero]
   rw [List.take_of_length_le (by rw [YS];omega)]
theorem zc7 {ν:Nat→Bool} {nx:Nat} {H:SH} (hv:VN ν nx H) {ty:Ty} {x:SV} {l:List (T ty)} (h:zp6 H ty x=some l):gL (zw ν H) (sz ty) (den (rho ν H) x)=some (l.length,zX ty l):=by
 unfold zp6 at h
 split at h
 ·rename_i t l0 full
  split at h
  case isFalse=>cases h
  rename_i ht
  subst ht
  cases h
  have hes:Qa (den (rho ν H) (.lst t l0 full))=some (sz t,(l0.map (yB t)).toArray,full):=by cases full<;>simp [den,fzV,Qa]
  have:gL (zw ν H) (sz t) (den (rho ν H) (.lst t l0 full))=zbd (sz t) (den (rho ν H) (.lst t l0 full)):=by cases full<;>simp [den,fzV,gL]
  rw [this]
  unfold zbd
  rw [hes]
  simp [zuQ,YR]
 ·rename_i b
  split at h
  ·rename_i nn t l0 hb
   split at h
   case isFalse=>cases h
   rename_i ht
   subst ht
   cases h
   exact zmJ hv (ro:=false) (nn:=nn) (by rw [hb];rfl) fun hn=>by rw [zF,hb];have hn':jP nn l0=false:=hn;simp [zT,hn',YR]
  ·rename_i nn t l0 hb
   split at h
   case isFalse=>cases h
   rename_i ht
   subst ht
   cases h
   exact zmJ hv (ro:=true) (nn:=nn) (by rw [hb];rfl) fun hn=>by rw [zF,hb];have hn':jP nn l0=false:=hn;simp [zT,hn',YR]
  ·cases h
 ·cases h
  simp [den,gL,zX]
 ·cases h
theorem zmK {o:Oper} {a:Act} {b:Builtin} {args:Array Operand} {ats:Array TypeId} (ho:o.op=.call {callee:=.builtin b,args:=args,argTypes:=ats}) :
  ∃cs,execOp a.eval o=builtin b ats o.type cs (args.map a.eval):=by
 refine ⟨args.map fun | .const _=>true | _=>false,?_⟩
 unfold execOp
 simp only [ho]
 show builtin b ats o.type _ _=_
 congr 1
def zor {α:Type} (l l2:List α):List α:=l2.take l.length++l.drop l2.length
def zAC (P:Program) (tm:List SV) (H:SH) (nx:Nat) (t:TypeId) (d x:Operand) (k:KO R):Option R:=match jX tm H d,jX tm H x with
 |some (.own b),some v=>match zk H b,jl P t with
  |some (.arr true ty l),some (.slice e)=>bif UN P e (sz ty)&&Nat.blt 0 (sz ty) then match zp6 H ty v with
   |some l2=>k (.int .i64 (Nat.min l2.length l.length:Nat)) (jW H b (.arr true ty (zor l l2))) (nx+1)
   |none=>none
   else none
  |_,_=>none
 |_,_=>none
theorem zDR {rd:Option Nat} {o:Oper} {tm:List SV} {H:SH} {nx:Nat} {k:KO R} {r:R} {t u:TypeId} {d x:Operand} (ho:o.op=.call {callee:=.builtin .copy,args:=#[d,x],argTypes:=#[t,u]}) (h:zAC P tm H nx t d x k=some r):gI P rd o tm H nx k r:=by
 unfold zAC at h
 split at h
 case h_2=>cases h
 rename_i b v hd hx
 split at h
 case h_2=>cases h
 rename_i ty l e hb hu
 have h6:=zx h
 clear h
 obtain ⟨hh,h⟩:=h6
 simp only [Bool.and_eq_true] at hh
 obtain ⟨ie,hie,hsz⟩:=Xm hh.1
 have hpos:=zd4 hh.2
 split at h
 case h_2=>cases h
 rename_i l2 hl2
 have hcl:(zor l l2).length=l.length:=by simp [zor];omega
 have hreg:∀c,reg (zk (jW H b (.arr true ty (zor l l2))) c)=reg (zk H c):=fun c=>by
  rw [qE]
  by_cases hc:c=b
  ·subst hc;simp [hb,reg,hcl,rsz,jP]
  ·rw [if_neg hc]
 have hnn:∀c,jc (zk (jW H b (.arr true ty (zor l l2))) c)=true→jc (zk H c)=true:=fun c hc=>by
  rw [qE] at hc
  by_cases hcb:c=b
  ·subst hcb;rw [hb];rfl
  ·rwa [if_neg hcb] at hc
 refine uw ⟨fun c z hz=>by rw [hreg c];exact hz,YU hb (fun L=>by simp),Nat.le_succ _,fun ν hv=>⟨(gQ hreg hnn hv).later (Nat.le_succ _),?_⟩⟩ h
 have hdb:(zw ν H).get b=some (.cells (zX ty l) false):=by rw [zF,hb];simp [zT,jP]
 refine Ko (Nat.le_succ _) (fun c hc=>by rw [ho] at hc;cases hc) fun φ w K a g hf ht=>?_
 have hdr:=qe ht (zV hd ν)
 have hxr:=qe ht (zV hx ν)
 have hρ:den (rho ν H) (.own b)=.slice (some ⟨b,0,none⟩) l.length (qc+sz ty):=by
  simp only [den]
  rw [QQ ν (nn:=true) (t:=ty) (l:=l) (by rw [hb];rfl)]
  rfl
 rw [hρ] at hdr
 rw [wb] at hu
 rw [jK] at hie
 have hsrc:=zc7 hv hl2
 rw [←hsz] at hsrc
 obtain ⟨w',r1,r2,r3⟩:=zB0 (P:=P) (ts:=u) (ty:=o.type) g hu hie hdb hdr hsrc hxr (by rw [YS,hsz]) (by omega) (zoq fun c hc=>by
  simp only [zX,List.mem_flatMap] at hc
  obtain ⟨y,_,hc⟩:=hc
  exact zp5 _ _ _ hc)
 obtain ⟨cs,he⟩:=zmK (a:=a) ho
 have hmap:(#[d,x]:Array Operand).map a.eval=#[a.eval d,a.eval x]:=by simp
 rw [he,hmap]
 show zok P φ K w nx (do pure (.value (←Builtin.copy_ #[t,u] o.type #[a.eval d,a.eval x])):Sem Next) _ _ _
 refine Ran.op (s:=Builtin.copy_ #[t,u] o.type #[a.eval d,a.eval x]) ⟨_,w',φ,r1,?_,Ext.refl _ _ _ _,?_,r3,Nat.le_succ _⟩
 ·simp only [den,goInt];exact .int _ _
 ·refine r2.sub fun c k hc=>?_
  rw [zF,qE,yx hreg] at hc
  rw [Hp.get_set]
  by_cases hcb:c=b
  ·subst hcb
   simp [hb,zT,jP] at hc
   rw [if_pos rfl,hdb]
   simp only [Option.map_some,Option.some.injEq]
   rw [←hc]
   congr 1
   unfold spl
   have e1:(zX ty l2).take (Nat.min l2.length l.length*ie.size)=zX ty (l2.take l.length):=by
    rw [hsz,zrm]
    congr 1
    by_cases h0:l2.length≤l.length
    ·rw [show Nat.min l2.length l.length=l2.length from Nat.min_eq_left h0,List.take_of_length_le (Nat.le_refl _),List.take_of_length_le h0]
    ·rw [show Nat.min l2.length l.length=l.length from Nat.min_eq_right (by omega)]
   rw [e1,YS,List.take_zero,List.nil_append,Nat.zero_add,zkg,zor,zgi]
   congr 2
   by_cases h0:l2.length≤l.length
   ·rw [List.take_of_length_le h0]
   ·rw [List.length_take,Nat.min_eq_left (by omega),List.drop_eq_nil_of_le (Nat.le_refl _),List.drop_eq_nil_of_le (by omega)]
  ·rw [if_neg hcb] at hc ⊢
   rw [zF];exact hc
def yS (n m bytes:Nat):Bool:=Nat.ble (n+m) maxLen&&Nat.ble ((n+m)*bytes) 140737488355328
def zwZ (H0 H:SH) (nx:Nat) (ty:Ty) (bytes:Nat) (l l2:List (T ty)) (s:SV) (k:KO R):Option R:=match l2 with
 |[]=>k s H0 (nx+1)
 |y::ys=>match Wy H nx (.arr true ty (l++y::ys)) with
  |some H'=>bif yS l.length (y::ys).length bytes then k (.own nx) H' (nx+1) else none
  |none=>none
def zHM:SV→Bool
 |.lst _ _ _=>true
 |_=>false
def tyS (H:SH):SV→Option Ty
 |.lst t _ _=>some t
 |.own b=>match zk H b with
  |some (.arr _ t _)=>some t
  |some (.roa _ t _)=>some t
  |_=>none
 |_=>none
def zDS (P:Program) (tm:List SV) (H:SH) (nx:Nat) (t:TypeId) (s x:Operand) (k:KO R):Option R:=match jX tm H s,jX tm H x with
 |some sv,some xv=>match jl P t with
  |some (.slice e)=>match ju P e with
   |some ie=>match sv with
    |.nils=>match tyS H xv with
     |some ty=>bif zfN P e ty then match zp6 H ty xv with
      |some l2=>match Wy H nx (.arr false ty l2) with
       |some H'=>bif yS 0 l2.length ie.bytes then k (.own nx) H' (nx+1) else none
       |none=>none
      |none=>none
      else none
     |none=>none
    |.own b=>match zk H b with
     |some (.arr nn ty l)=>bif zfN P e ty then match zp6 H ty xv with
      |some l2=>match Wy (jW H b (.gone (rsz nn ty l) l.length)) nx (.arr nn ty (l++l2)) with
        |some H'=>bif yS l.length l2.length ie.bytes then k (.own nx) H' (nx+1) else none
        |none=>none
      |none=>none
      else none
     |_=>none
    |.lst ty l true=>bif zfN P e ty then match zp6 H ty xv with
     |some l2=>bif zHM xv then match Wy H nx (.fro true ty (l++l2)) with
       |some _=>bif yS l.length l2.length ie.bytes then k (.lst ty (l++l2) false) H (nx+1) else none
       |none=>none
      else zwZ H H nx ty ie.bytes l l2 (.lst ty l true) k
     |none=>none
     else none
    |_=>none
   |none=>none
  |_=>none
 |_,_=>none
theorem zgl {H:SH} {b:Nat} {nn:Bool} {ty:Ty} {l:List (T ty)} (hb:zk H b=some (.arr nn ty l)) (c:Nat):reg (zk (jW H b (.gone (rsz nn ty l) l.length)) c)=reg (zk H c):=by
 rw [qE]
 by_cases hc:c=b
 ·subst hc
  rw [if_pos rfl,hb]
  exact zgj nn ty l
 ·rw [if_neg hc]
theorem zy0 {H:SH} {b:Nat} {nn:Bool} {ty:Ty} {l:List (T ty)} (hb:zk H b=some (.arr nn ty l)) (c:Nat) (h:jc (zk (jW H b (.gone (rsz nn ty l) l.length)) c)=true):jc (zk H c)=true:=by
 rw [qE] at h
 by_cases hc:c=b
 ·subst hc;simp [hb,jc] at h
 ·rwa [if_neg hc] at h
theorem zlj {ν:Nat→Bool} {H:SH} {b:Nat} {nn:Bool} {ty:Ty} {l:List (T ty)} (hb:zk H b=some (.arr nn ty l)) (c:Nat) (k:Blk) (h:(zw ν (jW H b (.gone (rsz nn ty l) l.length))).get c=some k):((zw ν H).del b).get c=some k:=by
 rw [zF,qE,yx (zgl hb)] at h
 rw [Hp.get_del]
 by_cases hc:c=b
 ·subst hc;simp [hb,zT] at h
 ·rw [if_neg hc] at h ⊢
  rw [zF];exact h
theorem zps {o:Oper} {a:Act} {t:TypeId} {so xo:Operand} (ho:o.op=.call {callee:=.builtin .append,args:=#[so,xo],argTypes:=#[t,t]}) :
  execOp a.eval o=(do pure (.value (←Builtin.append_ #[t,t] o.type #[a.eval so,a.eval xo])):Sem Next):=by
 obtain ⟨cs,he⟩:=zmK (a:=a) ho
 have hmap:(#[so,xo]:Array Operand).map a.eval=#[a.eval so,a.eval xo]:=by simp
 rw [he,hmap];rfl
structure zp7 (P:Program) (t e:TypeId) (ie:TypeInfo) (ty:Ty):Prop where
 hu:jl P t=some (.slice e)
 hie:ju P e=some ie
 hz:∃z,ie.zero=some z∧z.cells.size=ie.size∧0 < ie.size
 hsz:sz ty=ie.size
theorem zp7.of {t e:TypeId} {ie:TypeInfo} {ty:Ty} (hu:jl P t=some (.slice e)) (hie:ju P e=some ie) (h:zfN P e ty=true):zp7 P t e ie ty:=by
 obtain ⟨i,z,e1,e2,e3,e4,e5,_⟩:=zkn h
 rw [←jK,hie] at e1
 cases e1
 exact ⟨hu,hie,⟨z,e2,e3,e4⟩,e5⟩
theorem zko {n m bytes:Nat} (h:yS n m bytes=true):n+m≤maxLen∧(n+m)*bytes≤140737488355328:=by
 simp only [yS,Bool.and_eq_true] at h
 exact ⟨Nat.le_of_ble_eq_true h.1,Nat.le_of_ble_eq_true h.2⟩
theorem zDT {ν:Nat→Bool} {H:SH} (g:zA φ (zw ν H) K w) {t e:TypeId} {ie:TypeInfo} {ty:Ty} (hE:zp7 P t e ie ty) {tt:TypeId} {x s' x':Value} {news:List Value} (hsrc:gL (zw ν H) ie.size x=some (0,news)) (hx:zo φ x x') (hs:∃a n c,s'=.slice a n c∧n≤c) :
  (Builtin.append_ #[t,t] tt #[s',x']).run P w=.ok s' w:=by
 obtain ⟨ax,cx,us,rfl,_⟩:=zah g hsrc hx
 obtain ⟨a,n,c,rfl,hn⟩:=hs
 have h1:=hE.hu
 have h2:=hE.hie
 rw [wb] at h1
 rw [jK] at h2
 exact Jg h1 h2 a n c hn ax cx w
theorem zDU (ty:Ty) (l:List (T ty)):Xk (zX ty l)=true:=zoq fun c hc=>by
 simp only [zX,List.mem_flatMap] at hc
 obtain ⟨y,_,hc⟩:=hc
 exact zp5 _ _ _ hc
theorem zFQ {H:Hp} {b c:Nat} {k:Blk} (h:(H.del b).get c=some k):H.get c=some k:=by
 rw [Hp.get_del] at h
 by_cases hc:c=b
 ·rw [if_pos hc] at h;cases h
 ·rwa [if_neg hc] at h
theorem zFR {ν:Nat→Bool} {H:SH} {nx:Nat} {b:Nat} {nn:Bool} {ty:Ty} {l l2:List (T ty)} {t e:TypeId} {ie:TypeInfo} (hE:zp7 P t e ie ty) (hb:zk H b=some (.arr nn ty l)) (hv:VN ν nx H) {xv:SV} (hsrc:zp6 H ty xv=some l2) (hne:l2≠[])
  (hok:yS l.length l2.length ie.bytes=true):∃v Hd,gM P (zw ν H) nx t (rho ν H b) (den (rho ν H) xv)=some (v,Hd,nx+1)∧v=.slice (some ⟨nx,0,none⟩) (l.length+l2.length) (qc+ie.size)∧∀c k,Hp.get ((nx,.cells (zX ty (l++l2)) false)::(zw ν H).del b) c=some k→Hd.get c=some k:=by
 have hs:=zc7 hv hsrc
 obtain ⟨h1,h2⟩:=zko hok
 obtain ⟨z,z1,z2,z3⟩:=hE.hz
 have hm:l2.length≠0:=fun h0=>hne (List.length_eq_zero_iff.1 h0)
 have hr:reg (zk H b)=some (l.length,rsz nn ty l):=by rw [hb];rfl
 have hso:=zmJ hv (b:=b) (ty:=ty) (l:=l) (ro:=false) hr (fun hn=>by rw [zF,hb];simp [zT,hn])
 rw [hE.hsz] at hs hso
 cases hn:jP nn l with
 |true=>
  obtain ⟨_,rfl⟩:=zbe hn
  have hρ:rho ν H b=.slice none 0 0:=by rw [QQ ν hr,hn];rfl
  refine ⟨.slice (some ⟨nx,0,none⟩) l2.length (qc+ie.size),(nx,.cells (zX ty l2) false)::zw ν H,?_,by simp,fun c k hc=>?_⟩
  ·rw [hρ]
   unfold gM
   simp only [hE.hu,hE.hie,z1,hs,z2,z3,and_self,if_true,hm,if_false]
   simp only [List.length_nil,Nat.zero_add] at h1 h2
   rw [if_pos ⟨h1,h2⟩]
  ·simp only [List.nil_append] at hc
   exact ztc c k hc
 |false=>
  have hρ:rho ν H b=.slice (some ⟨b,0,none⟩) l.length (qc+sz ty):=by rw [QQ ν hr,hn];rfl
  have hd:(zw ν H).get b=some (.cells (zX ty l) false):=by rw [zF,hb];simp [zT,hn]
  refine ⟨.slice (some ⟨nx,0,none⟩) (l.length+l2.length) (qc+ie.size),(nx,.cells (zX ty l++zX ty l2) false)::(zw ν H).del b,?_,rfl,fun c k hc=>by rwa [zgi] at hc⟩
  rw [hρ] at hso ⊢
  have c1:¬qc+sz ty < l.length+l2.length:=by simp only [maxLen,qc] at *;omega
  have c2:qc≤qc+sz ty:=Nat.le_add_right _ _
  have c3:qc+sz ty - qc=ie.size:=by rw [hE.hsz];omega
  unfold gM
  simp only [hE.hu,hE.hie,z1,hs,z2,z3,and_self,if_true,hm,if_false,hso,h1,h2,c1,c2,c3,hd,zDU,implies_true]
theorem zB5 {ν:Nat→Bool} {H:SH} {b:Nat} {v':Value} {nn:Bool} {ty:Ty} {l:List (T ty)} (hb:zk H b=some (.arr nn ty l)) (h:zo φ (rho ν H b) v'):∃a n c,v'=.slice a n c∧n≤c:=by
 rw [QQ ν (nn:=nn) (t:=ty) (l:=l) (by rw [hb];rfl)] at h
 cases hn:jP nn l with
 |true=>rw [hn] at h;cases h;exact ⟨_,_,_,rfl,Nat.le_refl _⟩
 |false=>
  rw [hn,cond_false] at h
  generalize hc0:qc+sz ty=c0 at h
  generalize hn0:l.length=n0 at h
  cases h with
  |sl _ _ _ _ L hL hc=>omega
  |slO _ _ _ _ c' L hL hc hnc hl=>exact ⟨_,_,_,rfl,hnc⟩
  |slE _ _ _ a' L hL hc=>exact ⟨_,_,_,rfl,Nat.le_refl _⟩
theorem zw0 {H H2:SH} {nx:Nat} {b:Nat} {nn nn':Bool} {ty:Ty} {l l':List (T ty)} (hb:zk H b=some (.arr nn ty l)) (hn:Wy (jW H b (.gone (rsz nn ty l) l.length)) nx (.arr nn' ty l')=some H2) :
  wN H H2∧wT H H2∧∀ν,VN ν nx H→VN ν (nx+1) H2∧(jP nn' l'=false→rho ν H2 nx=.slice (some ⟨nx,0,none⟩) l'.length (qc+sz ty))∧(∀φ K w,zA φ ((nx,.cells (zX ty l') false)::(zw ν H).del b) K w→zA φ (zw ν H2) K w)∧
   (jP nn' l'=true→rho ν H2 nx=.slice none 0 0∧∀φ K w,zA φ (zw ν H) K w→zA φ (zw ν H2) K w):=by
 obtain ⟨h1,rfl⟩:=uv hn
 have hr:wN H (jW H b (.gone (rsz nn ty l) l.length)):=fun c z hz=>by rw [zgl hb];exact hz
 refine ⟨hr.trans (kn h1),(YU hb (fun L=>by simp)).trans (kY h1),fun ν hv=>?_⟩
 have hv1:=gQ (zgl hb) (zy0 hb) hv
 refine ⟨YV hv1,fun hl=>zbP hv1 hl,fun φ K w g=>zam h1 hv1 (g.sub fun c k hc=>?_),fun hl=>⟨zrt hl,fun φ K w g=>zmI h1 (by simp [zT,hl]) (g.sub fun c k hc=>zFQ (zlj hb c k hc))⟩⟩
 simp only [Hp.get_cons] at hc ⊢
 split at hc
 ·rename_i he;rw [if_pos he];exact hc
 ·rename_i he;rw [if_neg he];exact zlj hb c k hc
theorem zB6 {rd:Option Nat} {o:Oper} {tm:List SV} {H0 H:SH} {nx:Nat} {k:KO R} {r:R} {ty:Ty} {bytes:Nat} {l l2:List (T ty)} {s:SV} (h:zwZ H0 H nx ty bytes l l2 s k=some r)
  (h0:l2=[]→SOp P rd o tm H0 nx s H0 (nx+1))
  (h1:∀H',l2≠[]→Wy H nx (.arr true ty (l++l2))=some H'→yS l.length l2.length bytes=true→SOp P rd o tm H0 nx (.own nx) H' (nx+1)):gI P rd o tm H0 nx k r:=by
 unfold zwZ at h
 split at h
 ·exact uw (h0 rfl) h
 ·split at h
  case h_2=>cases h
  rename_i y ys H' hn
  obtain ⟨hok,h2⟩:=zx h
  exact uw (h1 H' (by simp) hn hok) h2
theorem zFS {rd:Option Nat} {o:Oper} {tm:List SV} {H:SH} {nx:Nat} {k:KO R} {r:R} {t:TypeId} {so xo:Operand} (ho:o.op=.call {callee:=.builtin .append,args:=#[so,xo],argTypes:=#[t,t]}) (h:zDS P tm H nx t so xo k=some r):gI P rd o tm H nx k r:=by
 unfold zDS at h
 split at h
 case h_2=>cases h
 rename_i sv xv hs hx
 split at h
 case h_2=>cases h
 rename_i e hu
 split at h
 case h_2=>cases h
 rename_i ie hie
 have hnd:∀c,o.op≠.defer c:=fun c hc=>by rw [ho] at hc;cases hc
 have run:∀{ν:Nat→Bool} {H':SH} {v:SV} {vd:Value} {Hd:Hp},VN ν nx H→(∀φ K w,zA φ (zw ν H) K w→∀s',zo φ (den (rho ν H) sv) s'→∃sd,zo φ sd s'∧gM P (zw ν H) nx t sd (den (rho ν H) xv)=some (vd,Hd,nx+1))→
   (∀φ K w v',zA φ Hd K w→zo φ vd v'→∃φ',(∀n,Ext K φ φ' n n)∧zA φ' (zw ν H') K w∧zo φ' (den (rho ν H') v) v')→GU P rd o (zp (rho ν H) tm) (zw ν H) nx (den (rho ν H') v) (zw ν H') (nx+1):=by
  intro ν H' v vd Hd hv h1 h2
  refine Ko (Nat.le_succ _) hnd fun φ w K a g hf ht=>?_
  have hsr:=qe ht (zV hs ν)
  have hxr:=qe ht (zV hx ν)
  have hfr:=hf.at (Nat.le_refl nx) (Nat.lt_succ_self nx)
  obtain ⟨sd,e1,e2⟩:=h1 φ K w g _ hsr
  obtain ⟨v',w',φ',r1,r2,r3,r4,r5,_⟩:=zpk (P:=P) (ty:=o.type) g hfr.1 hfr.2 e2 e1 hxr
  obtain ⟨φ2,f1,f2,f3⟩:=h2 φ' K w' v' r4 r2
  rw [zps ho]
  exact Ran.op ⟨v',w',φ2,r1,f3,r3.trans (f1 (nx+1)) (Nat.le_succ _) (Nat.le_refl _),f2,r5,Nat.le_succ _⟩
 have idExt:∀(φ:Ren) (K:Nat→Prop),∀n,Ext K φ φ n n:=fun φ K n=>Ext.refl _ _ _ _
 split at h
 ·
  split at h
  case h_2=>cases h
  rename_i ty hty
  have h6:=zx h
  clear h
  obtain ⟨hz,h⟩:=h6
  have hE:=zp7.of hu hie hz
  obtain ⟨z,z1,z2,z3⟩:=hE.hz
  split at h
  case h_2=>cases h
  rename_i l2 hl2
  split at h
  case h_2=>cases h
  rename_i H' hnew
  have h7:=zx h
  clear h
  obtain ⟨hok,h⟩:=h7
  refine uw ?_ h
  obtain ⟨hn1,rfl⟩:=uv hnew
  refine ⟨kn hn1,kY hn1,Nat.le_succ _,fun ν hv=>⟨YV hv,?_⟩⟩
  have hsrc:=zc7 hv hl2
  rw [hE.hsz] at hsrc
  cases hne:l2 with
  |nil=>
   subst hne
   refine run (v:=.own nx) (vd:=.slice none 0 0) (Hd:=zw ν H) hv (fun φ K w g s' hs'=>⟨.slice none 0 0,by simpa only [den] using hs',?_⟩) (fun φ K w v' g hv'=>⟨φ,idExt φ K,zmI hn1 rfl g,by simp only [den];rw [zrt rfl];exact hv'⟩)
   unfold gM
   simp [hE.hu,hE.hie,z1,hsrc,z2,z3]
  |cons y ys=>
   rw [←hne]
   have hnn:l2≠[]:=by rw [hne];simp
   have hm:l2.length≠0:=fun h0=>hnn (List.length_eq_zero_iff.1 h0)
   obtain ⟨b1,b2⟩:=zko hok
   simp only [Nat.zero_add] at b1 b2
   refine run (v:=.own nx) (vd:=.slice (some ⟨nx,0,none⟩) l2.length (qc+ie.size)) (Hd:=(nx,.cells (zX ty l2) false)::zw ν H) hv (fun φ K w g s' hs'=>⟨.slice none 0 0,by simpa only [den] using hs',?_⟩) (fun φ K w v' g hv'=>⟨φ,idExt φ K,zam hn1 hv (by simpa using g),?_⟩)
   ·unfold gM
    simp [hE.hu,hE.hie,z1,hsrc,z2,z3,hm,b1,b2]
   ·simp only [den]
    rw [zbP hv (zi9 hnn),hE.hsz]
    simpa using hv'
 ·
  rename_i b
  split at h
  case h_2=>cases h
  rename_i nn ty l hb
  have h6:=zx h
  clear h
  obtain ⟨hz,h⟩:=h6
  have hE:=zp7.of hu hie hz
  obtain ⟨z,z1,z2,z3⟩:=hE.hz
  split at h
  case h_2=>cases h
  rename_i l2 hl2
  have more:∀{H2:SH},Wy (jW H b (.gone (rsz nn ty l) l.length)) nx (.arr nn ty (l++l2))=some H2→l2≠[]→yS l.length l2.length ie.bytes=true→SOp P rd o tm H nx (.own nx) H2 (nx+1):=by
   intro H2 hnew hne hok
   obtain ⟨q1,q2,q3⟩:=zw0 hb hnew
   refine ⟨q1,q2,Nat.le_succ _,fun ν hv=>?_⟩
   obtain ⟨q4,q5,q6,_⟩:=q3 ν hv
   obtain ⟨vd,Hd,e1,rfl,e3⟩:=zFR hE hb hv hl2 hne hok
   refine ⟨q4,run hv (fun φ K w g s' hs'=>⟨rho ν H b,by simpa only [den] using hs',e1⟩) (fun φ K w v' g hv'=>⟨φ,idExt φ K,q6 φ K w (g.sub e3),?_⟩)⟩
   simp only [den]
   rw [q5 (zi9 (by simp [hne])),hE.hsz,List.length_append]
   exact hv'
  split at h
  case h_2=>cases h
  rename_i H2 hnew
  have h7:=zx h
  clear h
  obtain ⟨hok,h⟩:=h7
  by_cases hne:l2=[]
  ·subst hne
   rw [List.append_nil] at hnew
   obtain ⟨q1,q2,q3⟩:=zw0 hb hnew
   refine uw ⟨q1,q2,Nat.le_succ _,fun ν hv=>?_⟩ (by assumption)
   obtain ⟨q4,q5,q6,q7⟩:=q3 ν hv
   refine ⟨q4,Ko (Nat.le_succ _) hnd fun φ w K a g hf ht=>?_⟩
   have hsr:=qe ht (zV hs ν)
   have hxr:=qe ht (zV hx ν)
   simp only [den] at hsr
   have hfr:=hf.at (Nat.le_refl nx) (Nat.lt_succ_self nx)
   have hsrc:=zc7 hv hl2
   rw [hE.hsz] at hsrc
   have hrun:=zDT (tt:=o.type) g hE hsrc hxr (zB5 hb hsr)
   have hr:reg (zk H b)=some (l.length,rsz nn ty l):=by rw [hb];rfl
   rw [zps ho]
   generalize a.eval so=us at hsr hrun ⊢
   rw [QQ ν hr] at hsr
   cases hn:jP nn l with
   |true=>
    obtain ⟨e1,e2⟩:=q7 hn
    rw [hn] at hsr
    exact Ran.op ⟨us,w,φ,hrun,by simp only [den];rw [e1];exact hsr,Ext.refl _ _ _ _,e2 φ K w g,qC.refl _ _,Nat.le_succ _⟩
   |false=>
    have hd:(zw ν H).get b=some (.cells (zX ty l) false):=by rw [zF,hb];simp [zT,hn]
    obtain ⟨φ',f1,f2,f3⟩:=zmF g hfr.1 hfr.2 hd
    refine Ran.op ⟨us,w,φ',hrun,?_,f1,q6 φ' K w (by simpa using f2),qC.refl _ _,Nat.le_succ _⟩
    simp only [den]
    rw [q5 hn]
    rw [hn,cond_false] at hsr
    generalize qc+sz ty=c0 at hsr ⊢
    generalize l.length=n0 at hsr ⊢
    cases hsr with
    |sl _ _ _ _ L hL hc=>exact .sl _ _ _ _ L (f3 L hL) hc
    |slO _ _ _ _ c' L hL hc hnc hl=>exact .slO _ _ _ _ c' L (f3 L hL) hc hnc hl
    |slE _ _ _ a' L hL hc=>exact .slE _ _ _ a' L (f3 L hL) hc
  ·exact uw (more hnew hne hok) h
 ·
  rename_i ty l
  have h6:=zx h
  clear h
  obtain ⟨hz,h⟩:=h6
  have hE:=zp7.of hu hie hz
  obtain ⟨z,z1,z2,z3⟩:=hE.hz
  split at h
  case h_2=>cases h
  rename_i l2 hl2
  have hes:∀ν,Qa (den (rho ν H) (.lst ty l true))=some (sz ty,(l.map (yB ty)).toArray,true):=fun ν=>by simp [den,fzV,Qa]
  have happ:∀{ν},VN ν nx H→l2≠[]→yS l.length l2.length ie.bytes=true→gM P (zw ν H) nx t (den (rho ν H) (.lst ty l true)) (den (rho ν H) xv)=some (.slice (some ⟨nx,0,none⟩) (l.length+l2.length) (qc+ie.size),(nx,.cells (zX ty (l++l2)) false)::zw ν H,nx+1):=by
   intro ν hv hne hok
   have hsrc:=zc7 hv hl2
   rw [hE.hsz] at hsrc
   have hm:l2.length≠0:=fun h0=>hne (List.length_eq_zero_iff.1 h0)
   obtain ⟨b1,b2⟩:=zko hok
   have hfc:zbd ie.size (.iface (sz ty) (.agg (l.map (yB ty)).toArray))=some (l.length,zX ty l):=by
    unfold zbd
    simp [Qa,hE.hsz,zuQ]
   unfold gM
   simp only [hE.hu,hE.hie,z1,hsrc,z2,z3,and_self,if_true,den,fzV,cond_true,Qa,hm,if_false,hE.hsz]
   have hl0:((l.map (yB ty)).toArray).size=l.length:=by simp
   rw [hE.hsz] at hfc
   simp only [hl0,b1,b2,and_self,if_true,hfc,zgi]
  have stay:l2=[]→∀(v:SV),(∀ν φ v',zo φ (den (rho ν H) (.lst ty l true)) v'→zo φ (den (rho ν H) v) v')→SOp P rd o tm H nx v H (nx+1):=by
   intro hn v hvr
   subst hn
   refine ⟨wN.refl H,wT.refl H,Nat.le_succ _,fun ν hv=>⟨hv.later (Nat.le_succ _),?_⟩⟩
   have hsrc:=zc7 hv hl2
   rw [hE.hsz] at hsrc
   refine run (v:=v) (vd:=den (rho ν H) (.lst ty l true)) (Hd:=zw ν H) hv (fun φ K w g s' hs'=>⟨_,hs',?_⟩) (fun φ K w v' g hv'=>⟨φ,idExt φ K,g,hvr ν φ v' hv'⟩)
   unfold gM
   simp [hE.hu,hE.hie,z1,hsrc,z2,z3,den,fzV,Qa]
  rcases vB h with ⟨_,h⟩ | ⟨_,h⟩
  ·split at h
   case h_2=>cases h
   rename_i H9 hnew
   obtain ⟨hn1,_⟩:=uv hnew
   have h6:=zx h
   clear h
   obtain ⟨hok,h⟩:=h6
   by_cases hne:l2=[]
   ·have:=stay hne (.lst ty (l++l2) false) (fun ν φ v' hv'=>by
     subst hne
     simp only [den,List.append_nil] at hv' ⊢
     exact zuN hv')
    exact uw this h
   ·refine uw ⟨wN.refl H,wT.refl H,Nat.le_succ _,fun ν hv=>⟨hv.later (Nat.le_succ _),?_⟩⟩ h
    refine run (v:=.lst ty (l++l2) false) (vd:=.slice (some ⟨nx,0,none⟩) (l.length+l2.length) (qc+ie.size)) (Hd:=(nx,.cells (zX ty (l++l2)) false)::zw ν H) hv (fun φ K w g s' hs'=>⟨_,hs',happ hv hne hok⟩) (fun φ K w v' g hv'=>?_)
    obtain ⟨φ',f1,f2⟩:=zwF g (b:=nx) (cs:=zX ty (l++l2)) (by simp [Hp.get_cons])
    have hnone:(zw ν H).get nx=none:=by rw [zF,hn1];rfl
    have hgo:∀c k,(zw ν H).get c=some k→c≠nx:=fun c k hc e=>by subst e;rw [hnone] at hc;cases hc
    have g1:zA φ' (zw ν H) K w:=f2 _ fun c k hc=>by
     have hne2:=hgo c k hc
     rw [if_neg hne2]
     have:(nx == c)=false:=by simpa using fun e:nx=c=>hne2 e.symm
     simp [Hp.get_cons,this,hc]
    have g2:zA φ' (zw ν ((nx,.fro true ty (l++l2))::H)) K w:=by
     refine UL hn1 (x:=.fzc (zX ty (l++l2))) (by simp [zT,jP]) (f2 _ fun c k hc=>?_)
     by_cases hcn:c=nx
     ·subst hcn
      simp [Hp.get_cons] at hc
      simp [hc]
     ·rw [if_neg hcn]
      have:(nx == c)=false:=by simpa using fun e:nx=c=>hcn e.symm
      simp [Hp.get_cons,this] at hc ⊢
      exact hc
    refine ⟨φ',f1,g1,?_⟩
    simp only [den]
    refine zja g2 (YV hv) (b:=nx) (by rw [zG,if_pos rfl]) (by rw [hE.hsz];exact z3) ?_
    have hρ:rho ν ((nx,.fro true ty (l++l2))::H) nx=.slice (some ⟨nx,0,none⟩) (l.length+l2.length) (qc+ie.size):=by
     rw [QQ ν (nn:=true) (t:=ty) (l:=l++l2) (by rw [zG,if_pos rfl];rfl)]
     simp [jP,hE.hsz]
    rw [hρ]
    exact hv'.mono (f1 0).1
  ·refine zB6 h (fun hn=>stay hn _ fun ν φ v' hv'=>hv') (fun H' hne hnew hok=>?_)
   obtain ⟨hn1,rfl⟩:=uv hnew
   refine ⟨kn hn1,kY hn1,Nat.le_succ _,fun ν hv=>⟨YV hv,?_⟩⟩
   refine run (v:=.own nx) (vd:=.slice (some ⟨nx,0,none⟩) (l.length+l2.length) (qc+ie.size)) (Hd:=(nx,.cells (zX ty (l++l2)) false)::zw ν H) hv (fun φ K w g s' hs'=>⟨_,hs',happ hv hne hok⟩) (fun φ K w v' g hv'=>⟨φ,idExt φ K,zam hn1 hv g,?_⟩)
   simp only [den]
   rw [zbP hv rfl,hE.hsz,List.length_append]
   exact hv'
 ·cases h
def mpD {α:Type} (l:List (Int×α)) (n:Int) (z:α):α:=match l with
 |[]=>z
 |p::r=>bif zj p.1 n then p.2 else mpD r n z
def mpH {α:Type} (l:List (Int×α)) (n:Int):Bool:=match l with
 |[]=>false
 |p::r=>bif zj p.1 n then true else mpH r n
def mpP {α:Type} (l:List (Int×α)) (n:Int) (x:α):List (Int×α):=match l with
 |[]=>[(n,x)]
 |p::r=>bif zj p.1 n then (n,x)::r else p::mpP r n x
def mpI {α:Type} (l:List (Int×α)) (n:Int):Option Nat:=match l with
 |[]=>none
 |p::r=>bif zj p.1 n then some 0 else (mpI r n).map (·+1)
theorem zmL {k:IntKind} {ag:Bool} {t:Ty} (n:Int) (d:IntKind):∀(l:List (Int×T t)) (i j:Nat),
  Instr.findNow (.int d) (.int k n) (zbH (Qc k ag t l i)) j=some ((mpI l n).map fun s=>(j+s,mvV ag t (mpD l n (zax t))))
 |[],_,_=>rfl
 |p::r,i,j=>by
  simp only [Qc,zbH,Instr.findNow,Instr.sameNow,if_true,mpI,mpD]
  cases h:zj p.1 n with
  |true=>
   have h1:=wo p.1 n
   rw [h] at h1
   have:p.1=n:=by simpa using h1.symm
   simp [this]
  |false=>
   have h1:=wo p.1 n
   rw [h] at h1
   have:¬n=p.1:=fun e=>by simp [e] at h1
   have hb:(n == p.1)=false:=by simpa using this
   rw [hb]
   dsimp only
   rw [zmL n d r (i+1) (j+1)]
   cases mpI r n with
   |none=>rfl
   |some s=>simp [Nat.add_assoc,Nat.add_comm 1 s]
theorem zFf {α:Type} (n:Int):∀l:List (Int×α),mpH l n=(mpI l n).isSome
 |[]=>rfl
 |p::r=>by
  simp only [mpH,mpI]
  cases zj p.1 n with
  |true=>rfl
  |false=>simp [zFf n r]
theorem zw1 {α:Type} (n:Int) (z:α):∀l:List (Int×α),mpI l n=none→mpD l n z=z
 |[],_=>rfl
 |p::r,h=>by
  simp only [mpI] at h
  simp only [mpD]
  cases hq:zj p.1 n with
  |true=>rw [hq] at h;cases h
  |false=>
   rw [hq] at h
   simp only [cond_false,Option.map_eq_none_iff] at h
   exact zw1 n z r h
theorem zmM {k:IntKind} {ag:Bool} {t:Ty} {n:Int} {x:T t}:∀(l:List (Int×T t)) (i:Nat),mpI l n=none→Qc k ag t (mpP l n x) i=Qc k ag t l i++[(.int k n,mvV ag t x,i+l.length)]∧(mpP l n x).length=l.length+1
 |[],i,_=>⟨rfl,rfl⟩
 |p::r,i,h=>by
  simp only [mpI] at h
  simp only [mpP]
  cases hq:zj p.1 n with
  |true=>rw [hq] at h;cases h
  |false=>
   rw [hq] at h
   simp only [cond_false,Option.map_eq_none_iff] at h
   obtain ⟨h1,h2⟩:=zmM (k:=k) (ag:=ag) (x:=x) r (i+1) h
   simp only [cond_false,Qc,h1,List.cons_append,List.length_cons,h2]
   refine ⟨?_,trivial⟩
   rw [show i+1+r.length=i+(r.length+1) by omega]
theorem zmN {k:IntKind} {ag:Bool} {t:Ty} {n:Int} {x:T t}:∀(l:List (Int×T t)) (i s:Nat),mpI l n=some s→
  ∃v b,(Qc k ag t l i)[s]?=some (.int k n,v,b)∧Qc k ag t (mpP l n x) i=(Qc k ag t l i).set s (.int k n,mvV ag t x,b)∧(mpP l n x).length=l.length
 |[],i,s,h=>by cases h
 |p::r,i,s,h=>by
  simp only [mpI] at h
  simp only [mpP]
  cases hq:zj p.1 n with
  |true=>
   have h1:=wo p.1 n
   rw [hq] at h1
   have h2:p.1=n:=by simpa using h1.symm
   rw [hq] at h
   simp only [cond_true,Option.some.injEq] at h
   subst h
   refine ⟨mvV ag t p.2,i,?_,rfl,rfl⟩
   simp [Qc,h2]
  |false=>
   rw [hq] at h
   simp only [cond_false,Option.map_eq_some_iff] at h
   obtain ⟨s',h1,rfl⟩:=h
   obtain ⟨v,b,e1,e2,e3⟩:=zmN (k:=k) (ag:=ag) (x:=x) r (i+1) s' h1
   exact ⟨v,b,by simpa [Qc] using e1,by simp [Qc,e2],by simp [e3]⟩
def exC:(t:Ty)→List SV→Option (T t×List SV)
 |.unit,l=>some ((),l)
 |.bool,l=>match l with
  |.bool b::r=>some (b,r)
  |_=>none
 |.int k,l=>match l with
  |.int k' n::r=>bif Wv k k' then some (n,r) else none
  |_=>none
 |.str,l=>match l with
  |.str s::r=>some (s,r)
  |_=>none
 |.list t,l=>match l with
  |.lst t' x false::r=>if h:t'=t then some (YR h x,r) else none
  |_=>none
 |.pair a b,l=>match exC a l with
  |some (x,l1)=>match exC b l1 with
   |some (y,l2)=>some ((x,y),l2)
   |none=>none
  |none=>none
theorem zrv:∀(t:Ty) {l r:List SV} {x:T t},exC t l=some (x,r)→l=wJ t x++r
 |.unit,l,r,x,h=>by simp only [exC] at h;cases h;rfl
 |.bool,l,r,x,h=>by
  simp only [exC] at h
  split at h
  ·cases h;rfl
  ·cases h
 |.int k,l,r,x,h=>by
  simp only [exC] at h
  split at h
  ·obtain ⟨hk,h2⟩:=zx h
   have:=Jf hk
   subst this
   clear h
   cases h2
   rfl
  ·cases h
 |.str,l,r,x,h=>by
  simp only [exC] at h
  split at h
  ·cases h;rfl
  ·cases h
 |.list t,l,r,x,h=>by
  simp only [exC] at h
  split at h
  ·split at h
   ·rename_i ht
    subst ht
    cases h;rfl
   ·cases h
  ·cases h
 |.pair a b,l,r,x,h=>by
  simp only [exC] at h
  split at h
  case h_2=>cases h
  rename_i h1
  split at h
  case h_2=>cases h
  rename_i h2
  cases h
  rw [zrv a h1,zrv b h2]
  simp [wJ]
def exV (ag:Bool) (t:Ty) (v:SV):Option (T t):=match ag,v with
 |true,.agg cs=>match exC t cs with
  |some (x,[])=>some x
  |_=>none
 |false,.agg _=>none
 |false,v=>match exC t [v] with
  |some (x,[])=>some x
  |_=>none
 |_,_=>none
theorem zmO (ρ:Nat→Value) {ag:Bool} {t:Ty} (h:(ag||Nat.beq (sz t) 1)=true) (x:T t):den ρ (mkV ⟨ag,t⟩ x)=mvV ag t x:=by
 cases ag with
 |true=>simp [mkV,mvV,yB,den,qA,yH]
 |false=>
  have h1:sz t=1:=Nat.eq_of_beq_eq_true (by simpa using h)
  have h2:=Km t x
  have h3:=yH ρ t x
  rw [h1] at h2
  match hl:wJ t x,h2 with
  |[v],_=>
   rw [hl] at h3
   simp [mkV,mvV,hl,mk1,←h3]
theorem zG0 {ag:Bool} {t:Ty} {v:SV} {x:T t} (h:exV ag t v=some x) (ρ:Nat→Value) (hs:(ag||Nat.beq (sz t) 1)=true):den ρ v=mvV ag t x:=by
 rw [←zmO ρ hs x]
 unfold exV at h
 split at h
 ·split at h
  ·rename_i h1
   cases h
   have:=zrv t h1
   rw [List.append_nil] at this
   subst this
   rfl
  ·cases h
 ·cases h
 ·split at h
  ·rename_i h1
   cases h
   have:=zrv t h1
   rw [List.append_nil] at this
   simp only [mkV,cond_false,←this]
   rfl
  ·cases h
 ·cases h
def vtT (P:Program) (et:TypeId):Option (Bool×Ty):=match jl P et,zmH P 30 et with
 |some d,some t=>some (Yj d,t)
 |_,_=>none
def zrw:Value→Bool
 |.agg _=>true
 |_=>false
def zAD (P:Program) (et:TypeId) (ag:Bool) (t:Ty):Bool:=match ju P et with
 |some i=>match i.zero with
  |some z=>zfN P et t&&(av z&&(bif ag then zrw z else !zrw z&&Nat.beq (sz t) 1))
  |none=>false
 |none=>false
theorem zDV {et:TypeId} {ag:Bool} {t:Ty} (h:zAD P et ag t=true):∃i z,ju P et=some i∧i.zero=some z∧av z=true∧(ag||Nat.beq (sz t) 1)=true∧∀(φ:Ren) v',zo φ z v'→zo φ (mvV ag t (zax t)) v':=by
 unfold zAD at h
 split at h
 case h_2=>cases h
 rename_i i hi
 split at h
 case h_2=>cases h
 rename_i z hz
 simp only [Bool.and_eq_true] at h
 obtain ⟨h1,h2,h3⟩:=h
 obtain ⟨i',z',e1,e2,e3,e4,e5,e6,e7⟩:=zkn h1
 have hi2:P.info? et=some i:=by rw [←jK];exact hi
 rw [hi2] at e1;cases e1
 rw [hz] at e2;cases e2
 cases ag with
 |true=>
  simp only [cond_true] at h3
  refine ⟨i,z,hi,hz,h2,by simp,fun φ v' hv=>?_⟩
  cases z<;>simp [zrw] at h3
  rename_i cs
  obtain ⟨ys,rfl,hl⟩:=hv.agg_inv
  simp only [mvV,cond_true,yB]
  exact .agg' (by simpa using e7 φ ys.toList (by simpa [Value.cells] using hl))
 |false=>
  simp only [cond_false,Bool.and_eq_true,Bool.not_eq_true'] at h3
  refine ⟨i,z,hi,hz,h2,by simpa using h3.2,fun φ v' hv=>?_⟩
  have hs:sz t=1:=Nat.eq_of_beq_eq_true h3.2
  have hc:z.cells=#[z]:=by
   cases z<;>simp [zrw] at h3<;>rfl
  have h4:=e7 φ [v'] (by rw [hc];exact ⟨hv,trivial⟩)
  have h5:=wD t (zax t)
  rw [hs] at h5
  simp only [mvV,cond_false]
  match hl:qn t (zax t),h5 with
  |[u],_=>
   rw [hl] at h4
   exact h4.1
def zjd (P:Program) (kt:TypeId):Bool:=match jl P kt with
 |some d=>YP d
 |none=>false
theorem zdO {kt:TypeId} (h:zjd P kt=true):∃d,jl P kt=some (.int d):=by
 unfold zjd at h
 split at h
 ·rename_i d hd
  cases d<;>simp [YP] at h
  exact ⟨_,hd⟩
 ·cases h
def zw2 (P:Program) (H:SH) (nx:Nat) (t:TypeId) (k:KO R):Option R:=match jl P t with
 |some (.map kt et)=>match jl P kt,vtT P et with
  |some (.int kk),some (ag,ty)=>match Wy H nx (.mpb kk ag ty []) with
   |some H'=>k (.mp nx) H' (nx+1)
   |none=>none
  |_,_=>none
 |_=>none
theorem zB7 {rd:Option Nat} {o:Oper} {tm:List SV} {H:SH} {nx:Nat} {k:KO R} {r:R} {t:TypeId} (ho:o.op=.makeMap t none) (h:zw2 P H nx t k=some r):gI P rd o tm H nx k r:=by
 unfold zw2 at h
 split at h
 case h_2=>cases h
 split at h
 case h_2=>cases h
 rename_i kk ag ty _ _
 split at h
 case h_2=>cases h
 rename_i H' hn
 obtain ⟨e1,rfl⟩:=uv hn
 refine uw (nx':=nx+1) ⟨kn e1,kY e1,Nat.le_succ _,fun ν hv=>⟨YV hv,ZM (ue (v:=.map (some nx)) (H':=(nx,.mp [] 0)::zw ν H) (nx':=nx+1) (by unfold wQ;simp only [ho])) (fun φ v' hv=>by simpa [den] using hv) (fun φ K w g=>?_)⟩⟩ h
 exact UL e1 (x:=.mp [] 0) rfl g
def zAE (P:Program) (tm:List SV) (H:SH) (nx:Nat) (t:TypeId) (x j:Operand) (c:Bool) (k:KO R):Option R:=match jX tm H x,jX tm H j with
 |some (.mp b),some (.int k' n)=>match zk H b,jl P t with
  |some (.mpb kk ag ty l),some (.map kt et)=>bif Wv kk k'&&(zjd P kt&&zAD P et ag ty) then
    match mkV ⟨ag,ty⟩ (mpD l n (zax ty)) with
    |v=>k (bif c then .tup [v,.bool (mpH l n)] else v) H nx
   else none
  |_,_=>none
 |_,_=>none
theorem zDW {rd:Option Nat} {o:Oper} {tm:List SV} {H:SH} {nx:Nat} {k:KO R} {r:R} {t:TypeId} {x j:Operand} {c:Bool} (ho:o.op=.lookup t x j c) (h:zAE P tm H nx t x j c k=some r):gI P rd o tm H nx k r:=by
 unfold zAE at h
 split at h
 case h_2=>cases h
 rename_i b k' n hx hj
 split at h
 case h_2=>cases h
 rename_i kk ag ty l kt et hb hu
 have h6:=zx h
 clear h
 obtain ⟨hh,h⟩:=h6
 simp only [Bool.and_eq_true] at hh
 obtain ⟨h1,h2,h3⟩:=hh
 have:=Jf h1
 subst this
 obtain ⟨d,hd⟩:=zdO h2
 obtain ⟨i,z,e1,e2,e3,e4,e5⟩:=zDV h3
 dsimp only at h
 refine uw ⟨wN.refl H,wT.refl H,Nat.le_refl _,fun ν hv=>⟨hv,?_⟩⟩ h
 have hg:(zw ν H).get b=some (.mp (Qc kk ag ty l 0) l.length):=by rw [zF,hb];rfl
 have hdl:∃v,zaI P (zw ν H) t (.map (some b)) (.int kk n) c=some v∧∀φ v',zo φ v v'→zo φ (den (rho ν H) (bif c then .tup [mkV ⟨ag,ty⟩ (mpD l n (zax ty)),.bool (mpH l n)] else mkV ⟨ag,ty⟩ (mpD l n (zax ty)))) v':=by
  unfold zaI
  simp only [hu,hd,e1,zv2,hg,e2,YP,Ww,e3,Bool.and_self,if_true,zmL]
  rw [zFf]
  cases hi:mpI l n with
  |none=>
   rw [zw1 n _ l hi]
   simp only [Option.map_none]
   refine ⟨_,rfl,fun φ v' hv=>?_⟩
   cases c with
   |false=>simpa only [Bool.false_eq_true,if_false,cond_false,zmO _ e4] using e5 φ v' (by simpa using hv)
   |true=>
    simp only [if_true] at hv
    obtain ⟨ys,rfl,hl⟩:=hv.tuple_inv
    simp only [cond_true,den,zp,zmO _ e4]
    refine .tuple' ?_
    match ys.toList,hl with
    |[a,b],hl=>exact ⟨e5 φ a hl.1,hl.2.1,trivial⟩
    |[],hl=>exact hl.elim
    |[_],hl=>exact hl.2.elim
    |_::_::_::_,hl=>exact hl.2.2.elim
  |some s=>
   simp only [Option.map_some]
   refine ⟨_,rfl,fun φ v' hv=>?_⟩
   cases c with
   |false=>simpa only [Bool.false_eq_true,if_false,cond_false,zmO _ e4] using hv
   |true=>simpa only [if_true,cond_true,den,zp,zmO _ e4,Option.isSome_some] using hv
 obtain ⟨v,f1,f2⟩:=hdl
 refine ZM (ue (v:=v) (H':=zw ν H) (nx':=nx) ?_) (fun φ v' hv=>f2 φ v' hv) (fun φ K w g=>g)
 unfold wQ
 simp only [ho,zV hx ν,zV hj ν,Option.bind_some,den,f1]
 rfl
def zos (P:Program) (tm:List SV) (H:SH) (nx:Nat) (t:TypeId) (m j x:Operand) (k:KO R):Option R:=match jX tm H m,jX tm H j,jX tm H x with
 |some (.mp b),some (.int k' n),some v=>match zk H b,jl P t with
  |some (.mpb kk ag ty l),some (.map kt et)=>bif Wv kk k'&&(zjd P kt&&(ag||Nat.beq (sz ty) 1)) then
    match exV ag ty v with
    |some y=>k (.tup []) (jW H b (.mpb kk ag ty (mpP l n y))) nx
    |none=>none
   else none
  |_,_=>none
 |_,_,_=>none
theorem zrx {rd:Option Nat} {o:Oper} {tm:List SV} {H:SH} {nx:Nat} {k:KO R} {r:R} {t:TypeId} {m j x:Operand} (ho:o.op=.mapUpdate t m j x∨o.op=.insert t m j x) (h:zos P tm H nx t m j x k=some r):gI P rd o tm H nx k r:=by
 unfold zos at h
 split at h
 case h_2=>cases h
 rename_i b k' n v hm hj hx
 split at h
 case h_2=>cases h
 rename_i kk ag ty l kt et hb hu
 have h6:=zx h
 clear h
 obtain ⟨hh,h⟩:=h6
 simp only [Bool.and_eq_true] at hh
 obtain ⟨h1,h2,h3⟩:=hh
 have:=Jf h1
 subst this
 obtain ⟨d,hd⟩:=zdO h2
 split at h
 case h_2=>cases h
 rename_i y hy
 have hreg:∀c,reg (zk (jW H b (.mpb kk ag ty (mpP l n y))) c)=reg (zk H c):=fun c=>by
  rw [qE]
  by_cases hc:c=b
  ·subst hc;simp [hb,reg]
  ·rw [if_neg hc]
 have hnn:∀c,jc (zk (jW H b (.mpb kk ag ty (mpP l n y))) c)=true→jc (zk H c)=true:=fun c hc=>by
  rw [qE] at hc
  by_cases hcb:c=b
  ·subst hcb;simp [hb,jc] at hc
  ·rwa [if_neg hcb] at hc
 refine uw ⟨fun c z hz=>by rw [hreg c];exact hz,YU hb (fun L=>by simp),Nat.le_refl _,fun ν hv=>⟨gQ hreg hnn hv,?_⟩⟩ h
 have hg:(zw ν H).get b=some (.mp (Qc kk ag ty l 0) l.length):=by rw [zF,hb];rfl
 have hden:=zG0 hy (rho ν H) h3
 have hup:UH P (zw ν H) t (.map (some b)) (.int kk n) (den (rho ν H) v)=some ((zw ν H).set b (.mp (Qc kk ag ty (mpP l n y) 0) (mpP l n y).length)):=by
  unfold UH
  simp only [hu,hd,hg,YP,Ww,Bool.and_self,if_true,zmL,hden]
  cases hi:mpI l n with
  |none=>
   obtain ⟨q1,q2⟩:=zmM (k:=kk) (ag:=ag) (x:=y) l 0 hi
   simp only [Option.map_none]
   rw [q1,q2,Nat.zero_add]
  |some s=>
   obtain ⟨u,b0,q1,q2,q3⟩:=zmN (k:=kk) (ag:=ag) (x:=y) l 0 s hi
   simp only [Option.map_some,Nat.zero_add,q1]
   rw [q2,q3]
   simp [zri]
 refine ZM (ue (v:=undef) (H':=(zw ν H).set b (.mp (Qc kk ag ty (mpP l n y) 0) (mpP l n y).length)) (nx':=nx) ?_) (fun φ v' hv=>by simpa [den,zp,undef] using hv) (fun φ K w g=>g.sub fun c k' hc=>?_)
 ·unfold wQ
  rcases ho with ho | ho<;>
  ·simp only [ho,zV hm ν,zV hj ν,zV hx ν,Option.bind_some,den,hup]
   rfl
 ·rw [zF,qE,yx hreg] at hc
  rw [Hp.get_set]
  by_cases hcb:c=b
  ·subst hcb
   simp [hb,zT] at hc
   rw [if_pos rfl,hg]
   simp [hc]
  ·rw [if_neg hcb] at hc ⊢
   rw [zF];exact hc
def fnD (l:List (Int×Nat)) (n:Int):Option Nat:=match l with
 |[]=>none
 |p::r=>bif zj p.1 n then some p.2 else fnD r n
def fnV:Option Nat→Value
 |some f=>.func (.func f) #[] #[]
 |none=>.nilFunc
def fnS:Option Nat→SV
 |some f=>.fn f [] []
 |none=>.nilf
theorem zFT (ρ:Nat→Value) (o:Option Nat):den ρ (fnS o)=fnV o:=by cases o<;>simp [fnS,fnV,den,zp]
theorem zkp {k:IntKind} (n:Int) (d:IntKind):∀(l:List (Int×Nat)) (i j:Nat),
  Instr.findNow (.int d) (.int k n) (zbH (YT k l i)) j=some ((mpI l n).map fun s=>(j+s,fnV (fnD l n)))
 |[],_,_=>rfl
 |p::r,i,j=>by
  simp only [YT,zbH,Instr.findNow,Instr.sameNow,if_true,mpI,fnD]
  cases h:zj p.1 n with
  |true=>
   have h1:=wo p.1 n
   rw [h] at h1
   have:p.1=n:=by simpa using h1.symm
   simp [this,fnV]
  |false=>
   have h1:=wo p.1 n
   rw [h] at h1
   have:¬n=p.1:=fun e=>by simp [e] at h1
   have hb:(n == p.1)=false:=by simpa using this
   rw [hb]
   dsimp only
   rw [zkp n d r (i+1) (j+1)]
   cases mpI r n with
   |none=>rfl
   |some s=>simp [Nat.add_assoc,Nat.add_comm 1 s,fnV]
theorem zlk {k:IntKind} {n:Int} {x:Nat}:∀(l:List (Int×Nat)) (i:Nat),mpI l n=none→YT k (mpP l n x) i=YT k l i++[(.int k n,Value.func (.func x) #[] #[],i+l.length)]∧(mpP l n x).length=l.length+1
 |[],i,_=>⟨rfl,rfl⟩
 |p::r,i,h=>by
  simp only [mpI] at h
  simp only [mpP]
  cases hq:zj p.1 n with
  |true=>rw [hq] at h;cases h
  |false=>
   rw [hq] at h
   simp only [cond_false,Option.map_eq_none_iff] at h
   obtain ⟨h1,h2⟩:=zlk (k:=k) (x:=x) r (i+1) h
   simp only [cond_false,YT,h1,List.cons_append,List.length_cons,h2]
   refine ⟨?_,trivial⟩
   rw [show i+1+r.length=i+(r.length+1) by omega]
theorem zll {k:IntKind} {n:Int} {x:Nat}:∀(l:List (Int×Nat)) (i s:Nat),mpI l n=some s→
  ∃v b,(YT k l i)[s]?=some (.int k n,v,b)∧YT k (mpP l n x) i=(YT k l i).set s (.int k n,Value.func (.func x) #[] #[],b)∧(mpP l n x).length=l.length
 |[],i,s,h=>by cases h
 |p::r,i,s,h=>by
  simp only [mpI] at h
  simp only [mpP]
  cases hq:zj p.1 n with
  |true=>
   have h1:=wo p.1 n
   rw [hq] at h1
   have h2:p.1=n:=by simpa using h1.symm
   rw [hq] at h
   simp only [cond_true,Option.some.injEq] at h
   subst h
   refine ⟨Value.func (.func p.2) #[] #[],i,?_,rfl,rfl⟩
   simp [YT,h2]
  |false=>
   rw [hq] at h
   simp only [cond_false,Option.map_eq_some_iff] at h
   obtain ⟨s',h1,rfl⟩:=h
   obtain ⟨v,b,e1,e2,e3⟩:=zll (k:=k) (x:=x) r (i+1) s' h1
   exact ⟨v,b,by simpa [YT] using e1,by simp [YT,e2],by simp [e3]⟩
def zw3 (P:Program) (et:TypeId):Bool:=match ju P et with
 |some i=>match i.zero with
  |some .nilFunc=>true
  |_=>false
 |none=>false
theorem zFU {et:TypeId} (h:zw3 P et=true):∃i,ju P et=some i∧i.zero=some .nilFunc:=by
 unfold zw3 at h
 split at h
 case h_2=>cases h
 rename_i i hi
 split at h
 case h_2=>cases h
 rename_i hz
 exact ⟨i,hi,hz⟩
def zhQ (P:Program) (t:TypeId):Bool:=match jl P t with
 |some (.map _ et)=>zw3 P et
 |_=>false
def zw4 (P:Program) (H:SH) (nx:Nat) (t:TypeId) (k:KO R):Option R:=match jl P t with
 |some (.map kt et)=>match jl P kt,zw3 P et with
  |some (.int kk),true=>match Wy H nx (.mpf kk []) with
   |some H'=>k (.mp nx) H' (nx+1)
   |none=>none
  |_,_=>none
 |_=>none
theorem zB8 {rd:Option Nat} {o:Oper} {tm:List SV} {H:SH} {nx:Nat} {k:KO R} {r:R} {t:TypeId} (ho:o.op=.makeMap t none) (h:zw4 P H nx t k=some r):gI P rd o tm H nx k r:=by
 unfold zw4 at h
 split at h
 case h_2=>cases h
 split at h
 case h_2=>cases h
 rename_i kk _ _
 split at h
 case h_2=>cases h
 rename_i H' hn
 obtain ⟨e1,rfl⟩:=uv hn
 refine uw (nx':=nx+1) ⟨kn e1,kY e1,Nat.le_succ _,fun ν hv=>⟨YV hv,ZM (ue (v:=.map (some nx)) (H':=(nx,.mp [] 0)::zw ν H) (nx':=nx+1) (by unfold wQ;simp only [ho])) (fun φ v' hv=>by simpa [den] using hv) (fun φ K w g=>?_)⟩⟩ h
 exact UL e1 (x:=.mp [] 0) rfl g
def zwb (n:Int) (l:List (Int×Nat)) (k:SV→Bool→Option R):Option R:=match l with
 |[]=>k .nilf false
 |p::r=>bif zj p.1 n then k (.fn p.2 [] []) true else zwb n r k
theorem zw5 {n:Int} {k:SV→Bool→Option R}:∀l:List (Int×Nat),zwb n l k=k (fnS (fnD l n)) (mpI l n).isSome
 |[]=>rfl
 |p::r=>by
  simp only [zwb,fnD,mpI]
  cases zj p.1 n with
  |true=>rfl
  |false=>
   simp only [cond_false,zw5 r]
   cases mpI r n<;>rfl
theorem zw6 {n:Int}:∀l:List (Int×Nat),mpI l n=none→fnD l n=none
 |[],_=>rfl
 |p::r,h=>by
  simp only [mpI] at h
  simp only [fnD]
  cases hq:zj p.1 n with
  |true=>rw [hq] at h;cases h
  |false=>
   rw [hq] at h
   simp only [cond_false,Option.map_eq_none_iff] at h
   simp only [cond_false,zw6 r h]
def zAF (P:Program) (tm:List SV) (H:SH) (nx:Nat) (t:TypeId) (x j:Operand) (c:Bool) (k:KO R):Option R:=match jX tm H x,jX tm H j with
 |some (.mp b),some (.int k' n)=>match zk H b,jl P t with
  |some (.mpf kk l),some (.map kt et)=>bif Wv kk k'&&(zjd P kt&&zw3 P et) then zwb n l fun v ok=>k (bif c then .tup [v,.bool ok] else v) H nx
   else none
  |_,_=>none
 |_,_=>none
theorem zDX {rd:Option Nat} {o:Oper} {tm:List SV} {H:SH} {nx:Nat} {k:KO R} {r:R} {t:TypeId} {x j:Operand} {c:Bool} (ho:o.op=.lookup t x j c) (h:zAF P tm H nx t x j c k=some r):gI P rd o tm H nx k r:=by
 unfold zAF at h
 split at h
 case h_2=>cases h
 rename_i b k' n hx hj
 split at h
 case h_2=>cases h
 rename_i kk l kt et hb hu
 have h6:=zx h
 clear h
 obtain ⟨hh,h⟩:=h6
 simp only [Bool.and_eq_true] at hh
 obtain ⟨h1,h2,h3⟩:=hh
 have:=Jf h1
 subst this
 obtain ⟨d,hd⟩:=zdO h2
 obtain ⟨i,e1,e2⟩:=zFU h3
 rw [zw5] at h
 refine uw ⟨wN.refl H,wT.refl H,Nat.le_refl _,fun ν hv=>⟨hv,?_⟩⟩ h
 have hg:(zw ν H).get b=some (.mp (YT kk l 0) l.length):=by rw [zF,hb];rfl
 have hdl:zaI P (zw ν H) t (.map (some b)) (.int kk n) c=some (den (rho ν H) (bif c then .tup [fnS (fnD l n),.bool (mpI l n).isSome] else fnS (fnD l n))):=by
  unfold zaI
  simp only [hu,hd,e1,zv2,hg,e2,YP,Ww,show av .nilFunc=true from rfl,Bool.and_self,if_true,zkp]
  cases hi:mpI l n with
  |none=>
   rw [zw6 l hi]
   cases c<;>simp [den,zp,fnS]
  |some s=>cases c<;>simp [den,zp,zFT]
 refine ZM (ue (v:=_) (H':=zw ν H) (nx':=nx) ?_) (fun φ v' hv=>hv) (fun φ K w g=>g)
 unfold wQ
 simp only [ho,zV hx ν,zV hj ν,Option.bind_some]
 rw [show den (rho ν H) (.mp b)=.map (some b) from rfl,show den (rho ν H) (.int kk n)=.int kk n from rfl,hdl]
 rfl
def kEq:Int→Int→Bool
 |.ofNat m,.ofNat n=>Nat.beq m n
 |.negSucc m,.negSucc n=>Nat.beq m n
 |_,_=>false
theorem zG1 (a b:Int):kEq a b=zj a b:=by
 cases a<;>cases b<;>rfl
def mpN:List (Int×Nat)→Int→Nat→List (Int×Nat)
 |[],n,x=>[(n,x)]
 |p::r,n,x=>bif kEq p.1 n then (n,x)::r else p::mpN r n x
theorem zB9 (n:Int) (x:Nat):∀l:List (Int×Nat),mpN l n x=mpP l n x
 |[]=>rfl
 |p::r=>by simp only [mpN,mpP,zB9 n x r,zG1]
def zot (P:Program) (tm:List SV) (H:SH) (nx:Nat) (t:TypeId) (m j x:Operand) (k:KO R):Option R:=match jX tm H m,jX tm H j,jX tm H x with
 |some (.mp b),some (.int k' n),some (.fn y [] [])=>match zk H b,jl P t with
  |some (.mpf kk l),some (.map kt et)=>bif Wv kk k'&&zjd P kt then k (.tup []) (jW H b (.mpf kk (mpN l n y))) nx
   else none
  |_,_=>none
 |_,_,_=>none
theorem zry {rd:Option Nat} {o:Oper} {tm:List SV} {H:SH} {nx:Nat} {k:KO R} {r:R} {t:TypeId} {m j x:Operand} (ho:o.op=.mapUpdate t m j x∨o.op=.insert t m j x) (h:zot P tm H nx t m j x k=some r):gI P rd o tm H nx k r:=by
 unfold zot at h
 split at h
 case h_2=>cases h
 rename_i b k' n y hm hj hx
 split at h
 case h_2=>cases h
 rename_i kk l kt et hb hu
 have h6:=zx h
 clear h
 obtain ⟨hh,h⟩:=h6
 simp only [Bool.and_eq_true] at hh
 obtain ⟨h1,h2⟩:=hh
 rw [zB9] at h
 have:=Jf h1
 subst this
 obtain ⟨d,hd⟩:=zdO h2
 have hreg:∀c,reg (zk (jW H b (.mpf kk (mpP l n y))) c)=reg (zk H c):=fun c=>by
  rw [qE]
  by_cases hc:c=b
  ·subst hc;simp [hb,reg]
  ·rw [if_neg hc]
 have hnn:∀c,jc (zk (jW H b (.mpf kk (mpP l n y))) c)=true→jc (zk H c)=true:=fun c hc=>by
  rw [qE] at hc
  by_cases hcb:c=b
  ·subst hcb;simp [hb,jc] at hc
  ·rwa [if_neg hcb] at hc
 refine uw ⟨fun c z hz=>by rw [hreg c];exact hz,YU hb (fun L=>by simp),Nat.le_refl _,fun ν hv=>⟨gQ hreg hnn hv,?_⟩⟩ h
 have hg:(zw ν H).get b=some (.mp (YT kk l 0) l.length):=by rw [zF,hb];rfl
 have hden:den (rho ν H) (.fn y [] [])=.func (.func y) #[] #[]:=by simp [den,zp]
 have hup:UH P (zw ν H) t (.map (some b)) (.int kk n) (den (rho ν H) (.fn y [] []))=some ((zw ν H).set b (.mp (YT kk (mpP l n y) 0) (mpP l n y).length)):=by
  unfold UH
  simp only [hu,hd,hg,YP,Ww,Bool.and_self,if_true,zkp,hden]
  cases hi:mpI l n with
  |none=>
   obtain ⟨q1,q2⟩:=zlk (k:=kk) (x:=y) l 0 hi
   simp only [Option.map_none]
   rw [q1,q2,Nat.zero_add]
  |some s=>
   obtain ⟨u,b0,q1,q2,q3⟩:=zll (k:=kk) (x:=y) l 0 s hi
   simp only [Option.map_some,Nat.zero_add,q1]
   rw [q2,q3]
   simp [zri]
 refine ZM (ue (v:=undef) (H':=(zw ν H).set b (.mp (YT kk (mpP l n y) 0) (mpP l n y).length)) (nx':=nx) ?_) (fun φ v' hv=>by simpa [den,zp,undef] using hv) (fun φ K w g=>g.sub fun c k' hc=>?_)
 ·unfold wQ
  rcases ho with ho | ho<;>
  ·simp only [ho,zV hm ν,zV hj ν,zV hx ν,Option.bind_some]
   rw [show den (rho ν H) (.mp b)=.map (some b) from rfl,show den (rho ν H) (.int kk n)=.int kk n from rfl,hup]
   rfl
 ·rw [zF,qE,yx hreg] at hc
  rw [Hp.get_set]
  by_cases hcb:c=b
  ·subst hcb
   simp [hb,zT] at hc
   rw [if_pos rfl,hg]
   simp [hc]
  ·rw [if_neg hcb] at hc ⊢
   rw [zF];exact hc
def lsS (l:List SV) (i:Nat) (v:SV):List SV:=List.rec (motive:=fun _=>Nat→List SV) (fun _=>[]) (fun x r ih i=>Nat.rec (motive:=fun _=>List SV) (v::r) (fun m _=>x::ih m) i) l i
theorem Qg (v:SV):∀(l:List SV) (i:Nat),lsS l i v=l.set i v
 |[],_=>by simp [lsS]
 |x::l,0=>rfl
 |x::l,i+1=>by
  show x::lsS l i v=_
  rw [Qg v l i];simp
def zbQ (tm:List SV) (d:Option Tmp) (v:SV):List SV:=match d with
 |some d=>lsS tm d v
 |none=>tm
def zDY (H:SH) (tm:List SV):Operand→List SV
 |.tmp t=>match gl tm t with
  |some (.own b)=>match zk H b with
   |some (.fro _ ty l)=>bif Nat.blt 0 (sz ty) then lsS tm t (.lst ty l false) else tm
   |_=>tm
  |_=>tm
 |_=>tm
def zmP (H:SH) (tm:List SV):List Operand→List SV
 |[]=>tm
 |x::r=>zmP H (zDY H tm x) r
theorem zDZ {ν:Nat→Bool} {nx:Nat} {H:SH} (hv:VN ν nx H) (g:zA φ (zw ν H) K w) {tm:List SV} {x:Operand} {ts:Array Value} (ht:qY φ (zp (rho ν H) tm) ts):qY φ (zp (rho ν H) (zDY H tm x)) ts:=by
 unfold zDY
 split
 case h_2=>exact ht
 rename_i t
 split
 case h_2=>exact ht
 rename_i b hb
 split
 case h_2=>exact ht
 rename_i ty l hf
 cases hs:Nat.blt 0 (sz ty) with
 |false=>exact ht
 |true=>
  rw [cond_true,Qg]
  rw [ke] at hb
  refine ⟨by rw [←ht.1,wU,wU,List.length_set],fun i v hv2=>?_⟩
  rw [yI,Option.map_eq_some_iff] at hv2
  obtain ⟨u,hu,rfl⟩:=hv2
  rw [List.getElem?_set] at hu
  by_cases hti:t=i
  ·subst hti
   have hlt:=(List.getElem?_eq_some_iff.1 hb).1
   simp [hlt] at hu
   subst hu
   rcases ht.2 t (den (rho ν H) (.own b)) (by rw [yI,hb];rfl) with h0 | ⟨v',h1,h2⟩
   ·simp only [den] at h0
    exact absurd h0 (gO ν H b)
   ·right
    refine ⟨v',h1,?_⟩
    simp only [den] at h2 ⊢
    exact zja g hv hf (zd4 hs) h2
  ·rw [if_neg hti] at hu
   exact ht.2 i _ (by rw [yI,hu];rfl)
theorem zw7 {ν:Nat→Bool} {nx:Nat} {H:SH} (hv:VN ν nx H) (g:zA φ (zw ν H) K w):∀{xs:List Operand} {tm:List SV} {ts:Array Value},qY φ (zp (rho ν H) tm) ts→qY φ (zp (rho ν H) (zmP H tm xs)) ts
 |[],_,_,ht=>ht
 |x::r,tm,ts,ht=>zw7 hv g (xs:=r) (zDZ hv g ht)
theorem zw8 {r:Option Nat} {o:Oper} {tm tm2:List Value} {H H2 H':Hp} {nx nx':Nat} {v:Value} (h:GU P r o tm2 H2 nx v H' nx') (hg:∀φ K w,zA φ H K w→zA φ H2 K w) (ht:∀φ K w,zA φ H K w→∀ts,qY φ tm ts→qY φ tm2 ts):GU P r o tm H nx v H' nx':=
 ⟨h.1,fun φ w K a rc next Q g hf htm hr hk=>h.2 φ w K a rc next Q (hg _ _ _ g) hf (ht _ _ _ g _ htm) hr hk⟩
theorem zFV {rd:Option Nat} {o:Oper} {tm:List SV} {H H':SH} {nx nx':Nat} {v:SV} {xs:List Operand} (h:SOp P rd o (zmP H tm xs) H nx v H' nx'):SOp P rd o tm H nx v H' nx':=by
 obtain ⟨h1,h2,h3,h4⟩:=h
 refine ⟨h1,h2,h3,fun ν hv=>?_⟩
 obtain ⟨e1,e2⟩:=h4 ν hv
 exact ⟨e1,zw8 e2 (fun _ _ _ g=>g) fun φ K w g ts ht=>zw7 hv g ht⟩
theorem zkq {rd:Option Nat} {o:Oper} {tm:List SV} {H:SH} {nx:Nat} {k:KO R} {r:R} {xs:List Operand} (h:gI P rd o (zmP H tm xs) H nx k r):gI P rd o tm H nx k r:=by
 obtain ⟨v,H',nx',h1,h2⟩:=h
 exact ⟨v,H',nx',zFV h1,h2⟩
def zw9 (P:Program) (tm:List SV) (H:SH) (nx:Nat) (b:Builtin) (args:Array Operand) (ats:Array TypeId) (k:KO R):Option R:=match b,args,ats with
 |.len,⟨[x]⟩,⟨[t]⟩=>zDK P tm H nx t x k
 |.append,⟨[s,x]⟩,⟨[t,u]⟩=>bif Nat.beq t u then zDS P (zmP H tm [s,x]) H nx t s x k else none
 |.copy,⟨[d,x]⟩,⟨[t,_]⟩=>zAC P (zmP H tm [x]) H nx t d x k
 |_,_,_=>none
def zFg (P:Program) (tm:List SV) (H:SH) (nx:Nat) (o:Oper) (k:KO R):Option R:=match o.op with
 |.pick c a b=>zAu tm H nx c a b k
 |.binOp op t x y _=>bif zzr tm H x y then zAy P tm H nx op t x y k else zDI tm H nx op x y k
 |.indexAddr t x i=>ztp P (zmP H tm [x]) H nx t x i k
 |.index t x i=>zwT P tm H nx t x i k
 |.load t a=>zAw P tm H nx t a k
 |.store t a x=>zAB P tm H nx t a x k
 |.slice t x lo hi mx=>zwU P (zmP H tm [x]) H nx t x lo hi mx k
 |.makeSlice t l c=>zAz P tm H nx t l c k
 |.buildSlice t n ps=>match zDQ P tm H nx t n ps.toList with
  |some (v,H')=>k v H' (nx+1)
  |none=>zDN P tm H nx t n ps.toList k
 |.call {callee:=.builtin b,args,argTypes}=>zw9 P tm H nx b args argTypes k
 |.makeMap t none=>bif zhQ P t then zw4 P H nx t k else zw2 P H nx t k
 |.lookup t x i c=>bif zhQ P t then zAF P tm H nx t x i c k else zAE P tm H nx t x i c k
 |.mapUpdate t m i x=>bif zhQ P t then zot P tm H nx t m i x k else zos P tm H nx t m i x k
 |.insert t m i x=>bif zhQ P t then zot P tm H nx t m i x k else zos P tm H nx t m i x k
 |_=>none
def zD0 (P:Program) (tm:List SV) (H:SH) (nx:Nat) (o:Oper) (k:KO R):Option R:=match zAt P tm H nx o with
 |some (v,H',nx')=>k v H' nx'
 |none=>zFg P tm H nx o k
theorem zFW {rd:Option Nat} {o:Oper} {tm:List SV} {H:SH} {nx:Nat} {k:KO R} {r:R} (h:zD0 P tm H nx o k=some r):gI P rd o tm H nx k r:=by
 unfold zD0 at h
 split at h
 ·rename_i v H' nx' h0
  exact uw (zFE h0) h
 ·unfold zFg at h
  split at h
  ·rename_i ho;exact zDH ho h
  ·rename_i op t x y u ho
   cases hq:zzr tm H x y with
   |true=>rw [hq] at h;exact zDL ho h
   |false=>rw [hq] at h;exact zFJ ho h
  ·rename_i ho;exact zkq (zAv ho h)
  ·rename_i ho;exact zB1 ho h
  ·rename_i ho;exact zDJ ho h
  ·rename_i ho;exact zDO ho h
  ·rename_i ho;exact zkq (zB3 ho h)
  ·rename_i ho;exact zDM ho h
  ·rename_i ho
   split at h
   ·rename_i v H' hl;exact uw (zFP ho hl) h
   ·exact zFN ho h
  ·rename_i b args ats ho
   unfold zw9 at h
   split at h
   ·exact zFM ho h
   ·have h6:=zx h
    obtain ⟨h7,h8⟩:=h6
    have:=Nat.eq_of_beq_eq_true h7
    subst this
    exact zkq (zFS ho h8)
   ·exact zkq (zDR ho h)
   ·cases h
  ·rename_i t ho
   cases hq:zhQ P t with
   |true=>rw [hq] at h;exact zB8 ho h
   |false=>rw [hq] at h;exact zB7 ho h
  ·rename_i t x i c ho
   cases hq:zhQ P t with
   |true=>rw [hq] at h;exact zDX ho h
   |false=>rw [hq] at h;exact zDW ho h
  ·rename_i t m i x ho
   cases hq:zhQ P t with
   |true=>rw [hq] at h;exact zry (.inl ho) h
   |false=>rw [hq] at h;exact zrx (.inl ho) h
  ·rename_i t m i x ho
   cases hq:zhQ P t with
   |true=>rw [hq] at h;exact zry (.inr ho) h
   |false=>rw [hq] at h;exact zrx (.inr ho) h
  ·cases h
structure Ug where
 e:Exit
 tm:List SV
 ds:List Nat
 H:SH
 nx:Nat
abbrev KC (R:Type):=Ug→Option R
def Uh:List Oper→List Nat
 |[]=>[]
 |o::r=>match o.dst with
  |some d=>d::Uh r
  |none=>Uh r
def asg:Code→List Nat
 |.region _ ops _=>Uh ops.toList
 |.seq a b=>asg a++asg b
 |.cond _ a b=>asg a++asg b
 |.block _ c=>asg c
 |.loop c=>asg c
 |.scope c=>asg c
 |_=>[]
def JJ (a:List Nat) (tm tm':List SV):Prop:=tm'.length=tm.length∧∀i,i∉a→tm'[i]?=tm[i]?
theorem JJ.refl (a:List Nat) (tm:List SV):JJ a tm tm:=⟨rfl,fun _ _=>rfl⟩
theorem JJ.trans {a b c:List Nat} {t t' t'':List SV} (h:JJ a t t') (k:JJ b t' t'') (ha:∀i∈a,i∈c) (hb:∀i∈b,i∈c):JJ c t t'':=
 ⟨k.1.trans h.1,fun i hi=>(k.2 i fun e=>hi (hb i e)).trans (h.2 i fun e=>hi (ha i e))⟩
theorem JJ.mono {a b:List Nat} {t t':List SV} (h:JJ a t t') (ha:∀i∈a,i∈b):JJ b t t':=⟨h.1,fun i hi=>h.2 i fun e=>hi (ha i e)⟩
def zc8 (ν:Nat→Bool) (R:Ug):Res:=⟨R.e,zp (rho ν R.H) R.tm,R.ds,zw ν R.H,R.nx⟩
def Ya (P:Program) (rd:Option Nat) (c:Code) (tm:List SV) (ds:List Nat) (H:SH) (nx:Nat) (R:Ug):Prop:=
 wN H R.H∧wT H R.H∧JJ (asg c) tm R.tm∧nx≤R.nx∧∀ν,VN ν nx H→VN ν R.nx R.H∧jO P rd c (zp (rho ν H) tm) ds (zw ν H) nx (zc8 ν R)
def zH9 (P:Program) (rd:Option Nat) (ops:Array Oper) (l:List Nat) (zIn:List Nat) (tm:List SV) (H:SH) (nx:Nat) (tm':List SV) (H':SH) (nx':Nat):Prop:=
 wN H H'∧wT H H'∧JJ zIn tm tm'∧nx≤nx'∧∀ν,VN ν nx H→VN ν nx' H'∧zfE P rd ops l (zp (rho ν H) tm) (zw ν H) nx (zp (rho ν H') tm') (zw ν H') nx'
theorem zxa (ρ:Nat→Value) (tm:List SV) (d:Option Tmp) (v:SV):zp ρ (zbQ tm d v)=Qj (zp ρ tm) d (den ρ v):=by
 cases d with
 |none=>rfl
 |some d=>rw [zd1];simp only [zbQ,Qg,qA,List.map_set]
theorem zD1 {ν:Nat→Bool} {H H1:SH} (hr:wN H H1) {tm:List SV} {d:Option Tmp} {v:SV} {ts:Array Value} (h:qY φ (Qj (zp (rho ν H) tm) d (den (rho ν H1) v)) ts):qY φ (zp (rho ν H1) (zbQ tm d v)) ts:=by
 cases d with
 |none=>exact zpV ν hr h
 |some d=>
  rw [zd1] at h
  rw [zxa,zd1]
  refine ⟨by simpa [wU] using h.1,fun i u hu=>?_⟩
  rw [List.getElem?_set] at hu
  by_cases hdi:d=i
  ·subst hdi
   rw [if_pos rfl] at hu
   split at hu
   ·cases hu
    rename_i hlt
    refine h.2 d _ ?_
    rw [List.getElem?_set,if_pos rfl,if_pos (by simpa [wU] using hlt)]
   ·cases hu
  ·rw [if_neg hdi] at hu
   rw [yI,Option.map_eq_some_iff] at hu
   obtain ⟨x,hx,rfl⟩:=hu
   rcases h.2 i (den (rho ν H) x) (by rw [List.getElem?_set,if_neg hdi,yI,hx];rfl) with h0 | ⟨v',h1,h2⟩
   ·exact .inl (zkh (gO ν H) h0)
   ·exact .inr ⟨v',h1,zc6 (zgk ν hr) x v' h2⟩
theorem zhR (tm:List SV) (d:Option Tmp) (v:SV):JJ d.toList tm (zbQ tm d v):=by
 cases d with
 |none=>exact JJ.refl _ _
 |some d=>
  simp only [zbQ,Qg]
  refine ⟨by simp,fun i hi=>?_⟩
  rw [List.getElem?_set,if_neg]
  simpa using fun e:d=i=>hi (by simp [e])
theorem zCa {r:Option Nat} {ops:Array Oper} {l:List Nat} {tm tm2 tm':List Value} {H H':Hp} {nx nx':Nat} (h:zfE P r ops l tm2 H nx tm' H' nx') (ht:∀φ ts,qY φ tm ts→qY φ tm2 ts):zfE P r ops l tm H nx tm' H' nx':=
 ⟨h.1,fun φ w K a rc Q g hf htm hr hk=>h.2 φ w K a rc Q g hf (ht _ _ htm) hr hk⟩
def zrz (ops:Array Oper) (tm:List SV) (o:Oper) (y n:List SV→Option R):Option R:=match o.guard with
 |none=>y tm
 |some (j,want)=>match gl ops.toList j with
  |some p=>match p.dst with
   |some d=>match gl tm d with
    |some (.bool b)=>bif b then (bif want then y (lsS tm d (.bool true)) else n (lsS tm d (.bool true))) else (bif want then n (lsS tm d (.bool false)) else y (lsS tm d (.bool false)))
    |some (.tup _)=>n tm
    |_=>none
   |none=>none
  |none=>none
theorem zD2 {tm:List SV} {d:Nat} {v:SV} (h:tm[d]?=some v):lsS tm d v=tm:=by
 rw [Qg]
 obtain ⟨h1,h2⟩:=List.getElem?_eq_some_iff.1 h
 rw [←h2];exact List.set_getElem_self h1
theorem zxb {ops:Array Oper} {tm:List SV} {o:Oper} {y n:List SV→Option R} {r:R} (h:zrz ops tm o y n=some r) :
  ((∀tmv:List Value,(∀(i:Nat) u,tm[i]?=some u→∃ρ,tmv[i]?=some (den ρ u))→uP ops tmv o=some true)∧y tm=some r)∨((∀tmv:List Value,(∀(i:Nat) u,tm[i]?=some u→∃ρ,tmv[i]?=some (den ρ u))→uP ops tmv o=some false)∧n tm=some r):=by
 unfold zrz at h
 unfold uP
 split at h
 ·rename_i hg
  exact .inl ⟨fun tmv _=>by simp only [hg],h⟩
 ·rename_i j want hg
  split at h
  case h_2=>cases h
  rename_i p hp
  split at h
  case h_2=>cases h
  rename_i d hd
  rw [ke,Array.getElem?_toList] at hp
  have hj:(ops[j]?).bind (·.dst)=some d:=by rw [hp];exact hd
  split at h
  ·rename_i b hb
   rw [ke] at hb
   have h1:∀tmv:List Value,(∀(i:Nat) u,tm[i]?=some u→∃ρ,tmv[i]?=some (den ρ u))→tmv[d]?=some (.bool b):=fun tmv hm=>by
    obtain ⟨ρ,h2⟩:=hm d _ hb
    rw [h2];simp [den]
   cases b<;>simp only [cond_true,cond_false] at h<;>rw [zD2 hb] at h<;>cases want<;>simp only [cond_true,cond_false] at h<;>first
    |exact .inl ⟨fun tmv hm=>by simp only [hg,hj,Option.bind_some,zfz,h1 tmv hm];rfl,h⟩
    |exact .inr ⟨fun tmv hm=>by simp only [hg,hj,Option.bind_some,zfz,h1 tmv hm];rfl,h⟩
  ·rename_i vs hb
   rw [ke] at hb
   refine .inr ⟨fun tmv hm=>?_,h⟩
   obtain ⟨ρ,h2⟩:=hm d _ hb
   simp only [hg,hj,Option.bind_some,zfz,h2,den]
  ·cases h
theorem zAG {ops:Array Oper} {tm:List SV} {o:Oper} {y n:List SV→Option R} {r:R} (h:zrz ops tm o y n=some r):((∀ρ,uP ops (zp ρ tm) o=some true)∧y tm=some r)∨((∀ρ,uP ops (zp ρ tm) o=some false)∧n tm=some r):=by
 have hd:∀(ρ:Nat→Value) (i:Nat) (u:SV),tm[i]?=some u→∃ρ',(zp ρ tm)[i]?=some (den ρ' u):=fun ρ i u hu=>⟨ρ,by rw [yI,hu];rfl⟩
 rcases zxb h with ⟨h1,h2⟩ | ⟨h1,h2⟩
 ·exact .inl ⟨fun ρ=>h1 _ (hd ρ),h2⟩
 ·exact .inr ⟨fun ρ=>h1 _ (hd ρ),h2⟩
def zxc (op:List SV→SH→Nat→Oper→KO R→Option R) (ops:Array Oper):List Oper→List SV→SH→Nat→(List SV→SH→Nat→Option R)→Option R
 |[],tm,H,nx,k=>k tm H nx
 |o::l,tm,H,nx,k=>zrz ops tm o
  (fun tm=>op tm H nx o fun v H1 nx1=>zxc op ops l (zbQ tm o.dst v) H1 nx1 k)
  (fun tm=>zxc op ops l (zbQ tm o.dst (.tup [])) H nx k)
def OpS (P:Program) (rd:Option Nat) (op:List SV→SH→Nat→Oper→KO R→Option R):Prop:=∀{tm H nx o k r},op tm H nx o k=some r→gI P rd o tm H nx k r
theorem ztq {op:List SV→SH→Nat→Oper→KO R→Option R} {rd:Option Nat} (hop:OpS P rd op) {ops:Array Oper}:∀{l:List Oper} {j:Nat} {tm:List SV} {H:SH} {nx:Nat} {k:List SV→SH→Nat→Option R} {r:R},(∀i:Nat,l[i]?=ops[j+i]?)→zxc op ops l tm H nx k=some r→
  ∃tm' H' nx',zH9 P rd ops (List.range' j l.length) (Uh l) tm H nx tm' H' nx'∧k tm' H' nx'=some r
 |[],j,tm,H,nx,k,r,_,h=>⟨tm,H,nx,⟨wN.refl H,wT.refl H,JJ.refl _ _,Nat.le_refl _,fun ν hv=>⟨hv,zBH⟩⟩,h⟩
 |o::l,j,tm,H,nx,k,r,hl,h=>by
  have h0:ops[j]?=some o:=by simpa using (hl 0).symm
  have hl':∀i:Nat,l[i]?=ops[j+1+i]?:=fun i=>by have:=hl (i+1);simpa [Nat.add_assoc,Nat.add_comm 1 i] using this
  have hin1:∀i∈o.dst.toList,i∈Uh (o::l):=fun i hi=>by
   unfold Uh
   cases hd:o.dst with
   |none=>rw [hd] at hi;cases hi
   |some d=>rw [hd] at hi;simp at hi;subst hi;simp
  have hin2:∀i∈Uh l,i∈Uh (o::l):=fun i hi=>by
   show i∈(match o.dst with | some d=>d::Uh l | none=>Uh l)
   cases o.dst with
   |none=>exact hi
   |some d=>exact List.mem_cons_of_mem _ hi
  simp only [zxc] at h
  rw [List.length_cons,List.range'_succ]
  rcases zAG h with ⟨hw,h1⟩ | ⟨hw,h1⟩
  ·obtain ⟨v,H1,nx1,⟨s1,s2,s3,s4⟩,h2⟩:=hop h1
   obtain ⟨tm',H',nx',⟨t1,t2,t3,t4,t5⟩,h3⟩:=ztq hop hl' h2
   refine ⟨tm',H',nx',⟨s1.trans t1,s2.trans t2,(zhR tm o.dst v).trans t3 hin1 hin2,Nat.le_trans s3 t4,fun ν hv=>?_⟩,h3⟩
   obtain ⟨v1,o1⟩:=s4 ν hv
   obtain ⟨v2,o2⟩:=t5 ν v1
   exact ⟨v2,zAg h0 (hw _) o1 (zCa o2 fun φ ts ht=>zD1 s1 ht)⟩
  ·obtain ⟨tm',H',nx',⟨t1,t2,t3,t4,t5⟩,h3⟩:=ztq hop hl' h1
   refine ⟨tm',H',nx',⟨t1,t2,(zhR tm o.dst _).trans t3 hin1 hin2,t4,fun ν hv=>?_⟩,h3⟩
   obtain ⟨v2,o2⟩:=t5 ν hv
   exact ⟨v2,zAh h0 (hw _) (by rw [zxa] at o2;simpa [den,zp,undef] using o2)⟩
def QR (x0 x:Blk):Prop:=match x0,x with
 |.cells ds r,.cells cs r'=>r=r'∧∀(j:Nat) v,cs[j]?=some v→∃u,ds[j]?=some u∧∀φ v',zo φ u v'→zo φ v v'
 |.loop A,.loop B=>B.state=A.state∧B.pending=A.pending∧B.params=A.params∧B.assign=A.assign∧B.body=A.body∧B.defers=A.defers∧∀φ ts,qY φ A.tmps.toList ts→qY φ B.tmps.toList ts
 |a,b=>a=b
theorem QR.refl (x:Blk):QR x x:=by
 cases x with
 |cells cs r=>exact ⟨rfl,fun j v hv=>⟨v,hv,fun _ _ h=>h⟩⟩
 |loop A=>exact ⟨rfl,rfl,rfl,rfl,rfl,rfl,fun _ _ h=>h⟩
 |_=>rfl
theorem QR.rel {x0 x:Blk} (h:QR x0 x) {L:Loc} (hb:jN φ w L x0):jN φ w L x:=by
 unfold QR at h
 split at h
 ·obtain ⟨rfl,h⟩:=h
  obtain ⟨arr,el,fr,e1,e2,e3⟩:=hb
  refine ⟨arr,el,fr,e1,fun j v hv=>?_,e3⟩
  obtain ⟨u,h1,h2⟩:=h j v hv
  obtain ⟨v',h3,h4⟩:=e2 j u h1
  exact ⟨v',h3,h2 φ v' h4⟩
 ·obtain ⟨h1,h2,h3,h4,h5,h6,h7⟩:=h
  obtain ⟨l',e1,e2,e3,e4,e5,e6,e7,D,e8,e9⟩:=hb
  exact ⟨l',e1,e2.trans h1.symm,e3.trans h2.symm,h7 _ _ e4,e5.trans h3.symm,e6.trans h4.symm,e7.trans h5.symm,D,by rw [h6];exact e8,e9⟩
 ·subst h;exact hb
theorem QR.rw {x0 x:Blk} (h:QR x0 x):x.rw=x0.rw:=by
 unfold QR at h
 split at h
 ·obtain ⟨rfl,_⟩:=h;rfl
 ·rfl
 ·subst h;rfl
theorem QR.seen {x0 x:Blk} (h:QR x0 x) (wr:Nat→Bool) (b:Nat):QR (uo wr (fun _=>false) b x0) (uo wr (fun _=>false) b x):=by
 unfold uo
 cases wr b with
 |true=>simpa using h
 |false=>
  simp only [Bool.false_eq_true,if_false]
  unfold QR at h
  split at h
  ·exact ⟨rfl,h.2⟩
  ·rfl
  ·subst h
   exact QR.refl _
theorem QR.trans {x y z:Blk} (h:QR x y) (k:QR y z):QR x z:=by
 cases x<;>cases y<;>simp only [QR] at h<;>first | (cases h;done) | (cases h;exact k) | exact k | skip
 ·cases z<;>simp only [QR] at k ⊢<;>first | (cases k;done) | skip
  obtain ⟨rfl,h⟩:=h
  obtain ⟨rfl,k⟩:=k
  refine ⟨rfl,fun j v hv=>?_⟩
  obtain ⟨u,h1,h2⟩:=k j v hv
  obtain ⟨t,h3,h4⟩:=h j u h1
  exact ⟨t,h3,fun φ v' hr=>h2 φ v' (h4 φ v' hr)⟩
 ·cases z<;>simp only [QR] at k ⊢<;>first | (cases k;done) | skip
  obtain ⟨h1,h2,h3,h4,h5,h6,h7⟩:=h
  obtain ⟨k1,k2,k3,k4,k5,k6,k7⟩:=k
  exact ⟨k1.trans h1,k2.trans h2,k3.trans h3,k4.trans h4,k5.trans h5,k6.trans h6,fun φ ts ht=>k7 φ ts (h7 φ ts ht)⟩
theorem zxd {ρ ρ':Nat→Value} (hρ:∀b,ρ b≠Fz.junk) (h:RLe ρ ρ') {nil:Bool} {k:SB} {x':Blk} (hx:zT ρ' nil k=some x'):∃x,zT ρ nil k=some x∧QR x x':=by
 have key:∀(cs:List SV) (ro:Bool),QR (.cells (zp ρ cs) ro) (.cells (zp ρ' cs) ro):=fun cs ro=>⟨rfl,fun j v hv=>by
  rw [yI,Option.map_eq_some_iff] at hv
  obtain ⟨u,hu,rfl⟩:=hv
  exact ⟨den ρ u,by rw [yI,hu];rfl,fun φ v' hr=>zc6 h u v' hr⟩⟩
 cases k with
 |vars cs=>simp only [zT,Option.some.injEq] at hx;subst hx;exact ⟨_,rfl,key cs false⟩
 |ro cs=>simp only [zT,Option.some.injEq] at hx;subst hx;exact ⟨_,rfl,key cs true⟩
 |loop L=>
  simp only [zT,Option.some.injEq] at hx;subst hx
  exact ⟨_,rfl,rfl,rfl,rfl,rfl,rfl,rfl,fun φ ts ht=>by simpa [xf] using zmy hρ h (by simpa [xf] using ht)⟩
 |_=>exact ⟨x',hx,QR.refl _⟩
def Mix (G H:Hp):Prop:=∀b x,H.get b=some x→∃x0,G.get b=some x0∧QR x0 x
theorem Mix.refl (H:Hp):Mix H H:=fun b x h=>⟨x,h,QR.refl x⟩
theorem Mix.trans {F G H:Hp} (h:Mix F G) (k:Mix G H):Mix F H:=fun b x hx=>by
 obtain ⟨y,h1,h2⟩:=k b x hx
 obtain ⟨z,h3,h4⟩:=h b y h1
 exact ⟨z,h3,h4.trans h2⟩
theorem Mix.good {G H:Hp} (h:Mix G H) (g:zA φ G K w):zA φ H K w:=by
 refine ⟨fun b k hb=>?_,fun b c k k' L L' hb hc hne hkr hL hL'=>?_,fun b k L hb hkr hL=>?_,g.kin,g.fz,fun b k L c M hb hkr hL hM=>?_⟩
 ·obtain ⟨x,h1,h2⟩:=h b k hb
  obtain ⟨L,hL,hB⟩:=g.rel b x h1
  exact ⟨L,hL,h2.rel hB⟩
 ·obtain ⟨x,h1,h2⟩:=h b k hb
  obtain ⟨y,h3,_⟩:=h c k' hc
  exact g.sep b c x y L L' h1 h3 hne (by rw [←h2.rw];exact hkr) hL hL'
 ·obtain ⟨x,h1,h2⟩:=h b k hb
  exact g.prot b x L h1 (by rw [←h2.rw];exact hkr) hL
 ·obtain ⟨x,h1,h2⟩:=h b k hb
  exact g.fsep b x L c M h1 (by rw [←h2.rw];exact hkr) hL hM
def roS:SB→SB
 |.vars cs=>.ro cs
 |.arr nn t l=>.roa nn t l
 |.loop _=>.hid
 |.defd=>.hid
 |.mpb _ _ _ _=>.hid
 |.mpf _ _=>.hid
 |k=>k
def zD3:SB→SB
 |.arr nn t l=>.gone (rsz nn t l) l.length
 |.roa nn t l=>.gone (rsz nn t l) l.length
 |.fro nn t l=>.gone (rsz nn t l) l.length
 |.gone s n=>.gone s n
 |_=>.abs
def uz (l:List Nat) (b:Nat):Bool:=List.rec (motive:=fun _=>Bool) false (fun x _ ih=>bif Nat.beq x b then true else ih) l
def zmQ (vis wr:List Nat) (b:Nat) (k:SB):SB:=bif uz vis b then (bif uz wr b then k else roS k) else zD3 k
def zdP (vis wr:List Nat):SH→SH
 |[]=>[]
 |(b,k)::r=>(b,zmQ vis wr b k)::zdP vis wr r
theorem YW (vis wr:List Nat) (n:Nat):∀H:SH,zk (zdP vis wr H) n=(zk H n).map (zmQ vis wr n)
 |[]=>rfl
 |(b,k)::r=>by
  simp only [zdP,zG]
  by_cases hb:b=n
  ·subst hb;simp
  ·rw [if_neg hb,if_neg hb];exact YW vis wr n r
theorem zje (vis wr:List Nat) (b:Nat) (k:Option SB):reg (k.map (zmQ vis wr b))=reg k:=by
 cases k with
 |none=>rfl
 |some k=>
  simp only [Option.map_some,zmQ]
  cases uz vis b<;>cases uz wr b<;>cases k<;>first | rfl | exact zgj _ _ _
theorem zAH (vis wr:List Nat) (b:Nat) (k:Option SB) (h:jc (k.map (zmQ vis wr b))=true):jc k=true:=by
 cases k with
 |none=>exact h
 |some k=>
  simp only [Option.map_some,zmQ] at h
  cases hv:uz vis b<;>cases hw:uz wr b<;>rw [hv,hw] at h<;>cases k<;>simp_all [jc,zD3,roS]
theorem zxe (ν:Nat→Bool) (vis wr:List Nat) (H:SH):rho ν (zdP vis wr H)=rho ν H:=yx (fun c=>by rw [YW,zje]) ν
theorem zzt {ν:Nat→Bool} {nx:Nat} {vis wr:List Nat} {H:SH} (h:VN ν nx H):VN ν nx (zdP vis wr H):=gQ (fun c=>by rw [YW,zje]) (fun c hc=>zAH vis wr c _ (by rw [←YW];exact hc)) h
theorem zD4 {ν:Nat→Bool} {vis wr:List Nat} {H:SH} {G:Hp} (hm:Mix G (zw ν H)) (wr':Nat→Bool) (hw:∀b,wr' b=(uz wr b&&(G.get b).isSome)) :
  Mix (Hp.only (uz vis) (zaj wr' (fun _=>false) G)) (zw ν (zdP vis wr H)):=fun b x hx=>by
 rw [zF,YW,zxe] at hx
 cases hk:zk H b with
 |none=>rw [hk] at hx;cases hx
 |some k=>
  rw [hk] at hx
  simp only [Option.map_some,Option.bind_some,zmQ] at hx
  cases hv:uz vis b with
  |false=>
   rw [hv,cond_false] at hx
   cases k<;>simp [zD3,zT] at hx
  |true=>
   rw [hv,cond_true] at hx
   have hget:(Hp.only (uz vis) (zaj wr' (fun _=>false) G)).get b=(G.get b).map (uo wr' (fun _=>false) b):=by
    rw [Hp.get_only,hv,if_pos rfl,zfF]
   have hH:∀y,zT (rho ν H) (ν b) k=some y→∃y0,G.get b=some y0∧QR y0 y:=fun y hy=>hm b y (by rw [zF,hk];exact hy)
   cases hwb:uz wr b with
   |true=>
    rw [hwb,cond_true] at hx
    obtain ⟨y0,h1,h2⟩:=hH x hx
    refine ⟨y0,?_,h2⟩
    rw [hget,h1]
    have:wr' b=true:=by rw [hw b,hwb,h1];rfl
    simp [uo,this]
   |false=>
    rw [hwb,cond_false] at hx
    have hwf:wr' b=false:=by rw [hw b,hwb];rfl
    have hs:∃y,zT (rho ν H) (ν b) k=some y∧uo wr' (fun _=>false) b y=x:=by
     cases k with
     |vars cs=>simp only [roS,zT,Option.some.injEq] at hx;exact ⟨_,rfl,by subst hx;simp [uo,hwf]⟩
     |ro cs=>simp only [roS,zT,Option.some.injEq] at hx;exact ⟨_,rfl,by subst hx;simp [uo,hwf]⟩
     |arr nn t l=>
      simp only [roS,zT] at hx ⊢
      cases hnb:jP nn l with
      |true=>rw [hnb] at hx;cases hx
      |false=>rw [hnb] at hx;simp only [cond_false,Option.some.injEq] at hx;exact ⟨_,rfl,by subst hx;simp [uo,hwf]⟩
     |roa nn t l=>
      simp only [roS,zT] at hx ⊢
      cases hnb:jP nn l with
      |true=>rw [hnb] at hx;cases hx
      |false=>rw [hnb] at hx;simp only [cond_false,Option.some.injEq] at hx;exact ⟨_,rfl,by subst hx;simp [uo,hwf]⟩
     |fro nn t l=>
      simp only [roS,zT] at hx ⊢
      cases hnb:jP nn l with
      |true=>rw [hnb] at hx;cases hx
      |false=>rw [hnb] at hx;simp only [cond_false,Option.some.injEq] at hx;exact ⟨_,rfl,by subst hx;simp [uo,hwf]⟩
     |gone s n=>simp [roS,zT] at hx
     |loop L=>simp only [roS,zT,Option.some.injEq] at hx;exact ⟨_,rfl,by subst hx;simp [uo,hwf]⟩
     |defd=>simp only [roS,zT,Option.some.injEq] at hx;exact ⟨_,rfl,by subst hx;simp [uo,hwf]⟩
     |hid=>simp only [roS,zT,Option.some.injEq] at hx;exact ⟨_,rfl,by subst hx;simp [uo,hwf]⟩
     |mpb k ag t l=>simp only [roS,zT,Option.some.injEq] at hx;exact ⟨_,rfl,by subst hx;simp [uo,hwf]⟩
     |mpf k l=>simp only [roS,zT,Option.some.injEq] at hx;exact ⟨_,rfl,by subst hx;simp [uo,hwf]⟩
     |abs=>simp [roS,zT] at hx
    obtain ⟨y,h1,h2⟩:=hs
    obtain ⟨y0,h3,h4⟩:=hH y h1
    refine ⟨uo wr' (fun _=>false) b y0,by rw [hget,h3];rfl,?_⟩
    rw [←h2]
    exact h4.seen wr' b
structure Ym where
 ran:Bool
 vis:List Nat
 wr:List Nat
 lo:Nat
 hi:Nat
def gj (tm:List SV) (s:Nat):SV:=match gl tm s with
 |some v=>v
 |none=>.junk
def zfO (tm:List SV):List Nat→List SV→List SV
 |[],t=>t
 |s::r,t=>zfO tm r (lsS t s (gj tm s))
def wS (wr:List Nat) (lo hi:Nat) (b:Nat):Bool:=uz wr b||(Nat.ble lo b&&Nat.blt b hi)
def Ur (wr:List Nat) (lo hi:Nat):SH→SH
 |[]=>[]
 |(b,k)::r=>(b,bif wS wr lo hi b then (match k with | .fro nn t l=>.gone (rsz nn t l) l.length | k=>k) else k)::Ur wr lo hi r
def zou (wr:List Nat) (lo hi:Nat):SH→SH
 |[]=>[]
 |(b,k)::r=>bif wS wr lo hi b then (b,k)::zou wr lo hi r else zou wr lo hi r
def zov (wr:List Nat) (lo hi:Nat):SH→SH
 |[]=>[]
 |(b,k)::r=>bif wS wr lo hi b then zov wr lo hi r else (b,k)::zov wr lo hi r
def zxf (wr:List Nat) (lo hi:Nat) (H1 H:SH):SH:=zou wr lo hi H1++zov wr lo hi H
def rwK:SB→Bool
 |.ro _=>false
 |.roa _ _ _=>false
 |.fro _ _ _=>false
 |.hid=>false
 |_=>true
def okT (wr:List Nat) (lo hi:Nat) (H:SH):SH→Bool
 |[]=>true
 |(b,k)::r=>(bif wS wr lo hi b then rwK k else match reg (some k) with | none=>true | some _=>(reg (zk H b)).isSome)&&okT wr lo hi H r
def zrA (lo hi:Nat):SH→Bool
 |[]=>true
 |(b,_)::r=>!(Nat.ble lo b&&Nat.blt b hi)&&zrA lo hi r
def okW (H:SH):List Nat→Bool
 |[]=>true
 |b::r=>(match zk H b with
  |some (.gone _ _)=>false
  |some .abs=>false
  |none=>false
  |_=>true)&&okW H r
def zkr (wr:List Nat) (lo hi:Nat):Bool:=(match wr with | []=>true | _=>false)&&Nat.beq lo hi
def zgm (wr:List Nat) (lo hi:Nat) (H1 H:SH):Option SH:=match Ur wr lo hi H1 with
 |H2=>bif okT wr lo hi H H2&&(zrA lo hi H&&okW H wr) then some (bif zkr wr lo hi then H else zxf wr lo hi H2 H) else none
def zAI (vis:List Nat):List Nat→Bool
 |[]=>true
 |b::r=>uz vis b&&zAI vis r
theorem zxg {vis:List Nat} {b:Nat}:∀{wr:List Nat},zAI vis wr=true→uz wr b=true→uz vis b=true
 |[],_,h=>by cases h
 |c::r,hs,h=>by
  simp only [zAI,Bool.and_eq_true] at hs
  have h:(bif Nat.beq c b then true else uz r b)=true:=h
  cases hb:Nat.beq c b with
  |true=>have:=Nat.eq_of_beq_eq_true hb;subst this;exact hs.1
  |false=>rw [hb] at h;exact zxg hs.2 h
def zow (op:List SV→SH→Nat→Oper→KO R→Option R) (ops:Array Oper) (cut:Nat→List SV→SH→List Ym→Option (List Nat×List Nat)):Nat→List Ym→List Oper→List SV→SH→Nat→(List Ym→List SV→SH→Nat→Option R)→Option R
 |_,done,[],tm,H,nx,k=>k done.reverse tm H nx
 |i,done,o::l,tm,H,nx,k=>zrz ops tm o
  (fun tm=>match cut i tm H done with
   |some (wr,vis)=>bif zAI vis wr then op (zfO tm (vW ops o) (List.replicate tm.length .junk)) (zdP vis wr H) nx o fun v H1 nx1=>match zgm wr nx nx1 H1 H with
    |some H2=>zow op ops cut (i+1) (⟨true,vis,wr,nx,nx1⟩::done) l (zbQ tm o.dst v) H2 nx1 k
    |none=>none
    else none
   |none=>none)
  (fun tm=>zow op ops cut (i+1) (⟨false,[],[],nx,nx⟩::done) l (zbQ tm o.dst (.tup [])) H nx k)
theorem YX (wr:List Nat) (lo hi n:Nat):∀H:SH,zk (Ur wr lo hi H) n=(zk H n).map fun k=>bif wS wr lo hi n then (match k with | .fro nn t l=>.gone (rsz nn t l) l.length | k=>k) else k
 |[]=>rfl
 |(b,k)::r=>by
  simp only [Ur,zG]
  by_cases hb:b=n
  ·subst hb;simp
  ·rw [if_neg hb,if_neg hb];exact YX wr lo hi n r
theorem zuR (wr:List Nat) (lo hi n:Nat):∀H:SH,zk (zou wr lo hi H) n=bif wS wr lo hi n then zk H n else none
 |[]=>by simp [zou,UJ]
 |(b,k)::r=>by
  have ih:=zuR wr lo hi n r
  simp only [zou,zG]
  cases hb:wS wr lo hi b with
  |true=>
   simp only [cond_true,zG]
   by_cases h:b=n
   ·subst h;simp [hb]
   ·simp only [h,if_false];exact ih
  |false=>
   simp only [cond_false]
   by_cases h:b=n
   ·subst h;rw [hb] at ih ⊢;simpa using ih
   ·simp only [h,if_false];exact ih
theorem zuS (wr:List Nat) (lo hi n:Nat):∀H:SH,zk (zov wr lo hi H) n=bif wS wr lo hi n then none else zk H n
 |[]=>by simp [zov,UJ]
 |(b,k)::r=>by
  have ih:=zuS wr lo hi n r
  simp only [zov,zG]
  cases hb:wS wr lo hi b with
  |true=>
   simp only [cond_true]
   by_cases h:b=n
   ·subst h;rw [hb] at ih ⊢;simpa using ih
   ·simp only [h,if_false];exact ih
  |false=>
   simp only [cond_false,zG]
   by_cases h:b=n
   ·subst h;simp [hb]
   ·simp only [h,if_false];exact ih
theorem zU (n:Nat):∀H G:SH,zk (H++G) n=(match zk H n with | some k=>some k | none=>zk G n)
 |[],G=>by simp [UJ]
 |(b,k)::r,G=>by
  have ih:=zU n r G
  simp only [List.cons_append,zG]
  by_cases h:b=n
  ·subst h;simp
  ·simp only [h,if_false];exact ih
theorem zAJ (wr:List Nat) (lo hi n:Nat) (H1 H:SH):zk (zxf wr lo hi H1 H) n=bif wS wr lo hi n then zk H1 n else zk H n:=by
 unfold zxf
 rw [zU,zuR,zuS]
 cases wS wr lo hi n with
 |true=>simp only [cond_true];cases zk H1 n<;>rfl
 |false=>simp
theorem zpt {wr:List Nat} {lo hi:Nat} (h:zkr wr lo hi=true) (b:Nat):wS wr lo hi b=false:=by
 unfold zkr at h
 simp only [Bool.and_eq_true] at h
 obtain ⟨h1,h2⟩:=h
 have h2:=Nat.eq_of_beq_eq_true h2
 subst h2
 cases wr with
 |nil=>
  simp only [wS,uz,Bool.false_or,Bool.and_eq_false_iff]
  by_cases hb:lo≤b
  ·right
   rw [zf4];simp;omega
  ·left
   cases hc:Nat.ble lo b with
   |false=>rfl
   |true=>exact absurd (Nat.le_of_ble_eq_true hc) hb
 |cons x r=>cases h1
theorem zrB {wr:List Nat} {lo hi:Nat} {H1 H H2:SH} (h:zgm wr lo hi H1 H=some H2) (n:Nat):zk H2 n=bif wS wr lo hi n then zk (Ur wr lo hi H1) n else zk H n:=by
 unfold zgm at h
 dsimp only at h
 obtain ⟨_,h2⟩:=zx h
 cases h2
 cases hq:zkr wr lo hi with
 |true=>simp [zpt hq n]
 |false=>simp only [cond_false];exact zAJ ..
theorem zpu {wr:List Nat} {lo hi:Nat} {H1 H H2:SH} (h:zgm wr lo hi H1 H=some H2):okT wr lo hi H (Ur wr lo hi H1)=true∧zrA lo hi H=true∧okW H wr=true:=by
 unfold zgm at h
 dsimp only at h
 obtain ⟨h1,_⟩:=zx h
 simpa using h1
theorem zzu {wr:List Nat} {lo hi:Nat} {H:SH} {b:Nat} {k:SB}:∀{H1:SH},okT wr lo hi H H1=true→zk H1 b=some k→(wS wr lo hi b=true→rwK k=true)∧(wS wr lo hi b=false→(reg (some k)).isSome=true→(reg (zk H b)).isSome=true)
 |[],_,h=>by cases h
 |(c,x)::r,ho,h=>by
  simp only [okT,Bool.and_eq_true] at ho
  rw [zG] at h
  by_cases hc:c=b
  ·subst hc
   rw [if_pos rfl] at h
   cases h
   have h1:=ho.1
   constructor
   ·intro ht;rw [ht] at h1;exact h1
   ·intro ht hr
    rw [ht,cond_false] at h1
    split at h1
    ·rename_i hn;rw [hn] at hr;cases hr
    ·exact h1
  ·rw [if_neg hc] at h
   exact zzu ho.2 h
theorem zuT {lo hi b:Nat} {k:SB}:∀{H:SH},zrA lo hi H=true→zk H b=some k→¬(lo≤b∧b < hi)
 |[],_,h=>by cases h
 |(c,x)::r,hf,h=>by
  simp only [zrA,Bool.and_eq_true,Bool.not_eq_true',Bool.and_eq_false_iff] at hf
  rw [zG] at h
  by_cases hc:c=b
  ·subst hc
   rintro ⟨h1,h2⟩
   rcases hf.1 with h3 | h3
   ·have:=Nat.ble_eq_true_of_le h1;rw [h3] at this;cases this
   ·rw [zf4,decide_eq_false_iff_not] at h3;exact h3 h2
  ·rw [if_neg hc] at h
   exact zuT hf.2 h
theorem zbR {wr:List Nat} {lo hi b:Nat}:wS wr lo hi b=true↔uz wr b=true∨(lo≤b∧b < hi):=by
 simp only [wS,Bool.or_eq_true,Bool.and_eq_true,zf4,decide_eq_true_eq,Nat.ble_eq]
theorem zgn (wr:List Nat) (lo hi b:Nat) (k:Option SB):reg (k.map fun k=>bif wS wr lo hi b then (match k with | .fro nn t l=>.gone (rsz nn t l) l.length | k=>k) else k)=reg k:=by
 cases k with
 |none=>rfl
 |some k=>simp only [Option.map_some];cases wS wr lo hi b<;>cases k<;>first | rfl | exact zgj _ _ _
theorem zFX (wr:List Nat) (lo hi b:Nat) (k:Option SB):jc (k.map fun k=>bif wS wr lo hi b then (match k with | .fro nn t l=>.gone (rsz nn t l) l.length | k=>k) else k)=jc k:=by
 cases k with
 |none=>rfl
 |some k=>simp only [Option.map_some];cases wS wr lo hi b<;>cases k<;>rfl
structure zG2 (vis wr:List Nat) (lo hi:Nat) (V1 H H2:SH):Prop where
 reg:wN H H2
 keep:wT H H2
 vn:∀ν nx nx',VN ν nx H→VN ν nx' V1→nx≤nx'→VN ν nx' H2
 rho:∀ν,RLe (Sy.rho ν V1) (Sy.rho ν H2)
theorem zuU {vis wr:List Nat} {lo hi:Nat} {V1 H H2:SH} (hr:wN (zdP vis wr H) V1) (hk:wT (zdP vis wr H) V1) (hvis:∀b,uz wr b=true→uz vis b=true) (h:zgm wr lo hi V1 H=some H2):zG2 vis wr lo hi V1 H H2:=by
 have hg:=fun n=>zrB h n
 have hc:=zpu h
 have hreg2:∀b,wS wr lo hi b=true→Sy.reg (zk H2 b)=Sy.reg (zk V1 b):=fun b hb=>by rw [hg b,hb,cond_true,YX,zgn]
 have hregH:wN H H2:=fun b x hx=>by
  cases ht:wS wr lo hi b with
  |false=>rw [hg b,ht];exact hx
  |true=>rw [hreg2 b ht];exact hr b x (by rw [YW,zje];exact hx)
 refine ⟨hregH,fun l L hl=>?_,fun ν nx nx' hv hv1 hle=>⟨fun b n hb=>?_,hv1.old,fun b hb=>?_⟩,fun ν b=>?_⟩
 ·cases ht:wS wr lo hi l with
  |false=>exact ⟨L.st,L.pend,by rw [hg l,ht];exact hl⟩
  |true=>
   have hw:uz wr l=true:=by
    rcases zbR.1 ht with h1 | h1
    ·exact h1
    ·exact absurd h1 (zuT hc.2.1 hl)
   obtain ⟨s,p,h1⟩:=hk l L (by rw [YW,hl];simp [zmQ,hw,hvis l hw])
   exact ⟨s,p,by rw [hg l,ht,cond_true,YX,h1,ht];rfl⟩
 ·cases ht:wS wr lo hi b with
  |false=>rw [hg b,ht] at hb;exact hv.empty b n hb
  |true=>rw [hreg2 b ht] at hb;exact hv1.empty b n hb
 ·cases ht:wS wr lo hi b with
  |false=>rw [hg b,ht] at hb;exact hv.nn b hb
  |true=>rw [hg b,ht,cond_true,YX,zFX] at hb;exact hv1.nn b hb
 ·unfold Sy.rho
  cases hx:Sy.reg (zk V1 b) with
  |none=>exact .inl rfl
  |some x=>
   right
   cases ht:wS wr lo hi b with
   |true=>rw [hreg2 b ht,hx]
   |false=>
    have h1:Sy.reg (zk (Ur wr lo hi V1) b)=some x:=by rw [YX,zgn];exact hx
    cases hd:zk (Ur wr lo hi V1) b with
    |none=>rw [hd] at h1;cases h1
    |some k=>
     have h2:=(zzu hc.1 hd).2 ht (by rw [←hd,h1];rfl)
     obtain ⟨y,hy⟩:=Option.isSome_iff_exists.1 h2
     have h3:=hr b y (by rw [YW,zje];exact hy)
     rw [hx] at h3
     cases h3
     rw [hregH b _ hy]
theorem RLe.trans {a b c:Nat→Value} (h:RLe a b) (k:RLe b c):RLe a c:=fun n=>by
 rcases h n with h1 | h1
 ·exact .inl h1
 ·rcases k n with k1 | k1
  ·exact .inl (h1▸k1)
  ·exact .inr (k1.trans h1)
def XU (ν:Nat→Bool) (H:SH) (tmv:List Value) (tm:List SV):Prop:=tmv.length=tm.length∧∀(i:Nat) u,tm[i]?=some u→∃ρ,(∀b,ρ b≠Fz.junk)∧RLe ρ (rho ν H)∧tmv[i]?=some (den ρ u)
theorem XU.refl (ν:Nat→Bool) (H:SH) (tm:List SV):XU ν H (zp (rho ν H) tm) tm:=⟨wU _ _,fun i u hu=>⟨rho ν H,gO ν H,RLe.refl _,by rw [yI,hu];rfl⟩⟩
theorem XU.mono {ν:Nat→Bool} {H H2:SH} {tmv:List Value} {tm:List SV} (h:XU ν H tmv tm) (hr:RLe (rho ν H) (rho ν H2)):XU ν H2 tmv tm:=⟨h.1,fun i u hu=>by
 obtain ⟨ρ,h1,h2,h3⟩:=h.2 i u hu
 exact ⟨ρ,h1,h2.trans hr,h3⟩⟩
theorem XU.put {ν:Nat→Bool} {H:SH} {tmv:List Value} {tm:List SV} (h:XU ν H tmv tm) {ρ:Nat→Value} (hj:∀b,ρ b≠Fz.junk) (hr:RLe ρ (rho ν H)) (d:Option Tmp) (v:SV):XU ν H (Qj tmv d (den ρ v)) (zbQ tm d v):=by
 cases d with
 |none=>exact h
 |some d=>
  rw [zd1]
  simp only [zbQ,Qg]
  refine ⟨by simp [h.1],fun i u hu=>?_⟩
  rw [List.getElem?_set] at hu ⊢
  by_cases hdi:d=i
  ·subst hdi
   rw [if_pos rfl] at hu ⊢
   split at hu
   ·rename_i hlt
    cases hu
    exact ⟨ρ,hj,hr,by rw [if_pos (by rw [h.1];exact hlt)]⟩
   ·cases hu
  ·rw [if_neg hdi] at hu ⊢
   exact h.2 i u hu
theorem XU.rel {ν:Nat→Bool} {H:SH} {tmv:List Value} {tm:List SV} (h:XU ν H tmv tm) {ts:Array Value} (ht:qY φ tmv ts):qY φ (zp (rho ν H) tm) ts:=by
 refine ⟨by rw [wU,←h.1];exact ht.1,fun i v hv=>?_⟩
 rw [yI,Option.map_eq_some_iff] at hv
 obtain ⟨u,hu,rfl⟩:=hv
 obtain ⟨ρ,h1,h2,h3⟩:=h.2 i u hu
 rcases ht.2 i _ h3 with h0 | ⟨v',e1,e2⟩
 ·exact .inl (zkh h1 h0)
 ·exact .inr ⟨v',e1,zc6 h2 u v' e2⟩
theorem zuV (tm:List SV):∀(sl:List Nat) (t:List SV),(zfO tm sl t).length=t.length∧∀(i:Nat),t.length=tm.length→((i∈sl→(zfO tm sl t)[i]?=tm[i]?)∧(i∉sl→(zfO tm sl t)[i]?=t[i]?)∧(t[i]?=tm[i]?→(zfO tm sl t)[i]?=tm[i]?))
 |[],t=>⟨rfl,fun i _=>⟨(fun h=>by cases h),fun _=>rfl,fun h=>h⟩⟩
 |s::r,t=>by
  obtain ⟨h1,h2⟩:=zuV tm r (lsS t s (gj tm s))
  rw [Qg] at h1 h2
  simp only [zfO,Qg]
  refine ⟨by rw [h1];simp,fun i hl=>?_⟩
  obtain ⟨e1,e2,e3⟩:=h2 i (by simpa using hl)
  have hs:(t.set s (gj tm s))[s]?=tm[s]?:=by
   unfold gj
   rw [ke,List.getElem?_set]
   by_cases hlt:s < t.length
   ·rw [if_pos rfl,if_pos hlt]
    have:s < tm.length:=by omega
    simp [this]
   ·rw [if_pos rfl,if_neg hlt]
    rw [List.getElem?_eq_none (by omega)]
  have hst:t[i]?=tm[i]?→(t.set s (gj tm s))[i]?=tm[i]?:=fun h=>by
   by_cases hsi:s=i
   ·subst hsi;exact hs
   ·rw [List.getElem?_set,if_neg hsi];exact h
  refine ⟨fun hi=>?_,fun hi=>?_,fun h=>e3 (hst h)⟩
  ·rcases List.mem_cons.1 hi with rfl | hi
   ·exact e3 hs
   ·exact e1 hi
  ·simp only [List.mem_cons,not_or] at hi
   rw [e2 hi.2,List.getElem?_set,if_neg (fun e=>hi.1 e.symm)]
theorem XU.keep {ν:Nat→Bool} {H:SH} {tmv:List Value} {tm:List SV} (h:XU ν H tmv tm) (sl:List Nat):XU ν H (Qb tmv sl) (zfO tm sl (List.replicate tm.length .junk)):=by
 obtain ⟨k1,k2⟩:=zuV tm sl (List.replicate tm.length .junk)
 have k3:=(zhF (tm:=tmv) (slots:=sl)).1
 refine ⟨by rw [k3,k1,h.1];simp,fun i u hu=>?_⟩
 obtain ⟨e1,e2,_⟩:=k2 i (by simp)
 by_cases hi:i∈sl
 ·rw [e1 hi] at hu
  rw [zpQ hi]
  exact h.2 i u hu
 ·rw [e2 hi,List.getElem?_replicate] at hu
  split at hu
  ·rename_i hlt
   cases hu
   refine ⟨rho ν H,gO ν H,RLe.refl _,?_⟩
   have hl:i < (Qb tmv sl).length:=by rw [k3,h.1];exact hlt
   have hx:(Qb tmv sl)[i]?=some (Qb tmv sl)[i]:=by simp [hl]
   rcases (zhF (tm:=tmv) (slots:=sl)).2 i _ hx with h0 | ⟨h0,_⟩
   ·rw [hx,h0];simp [den]
   ·exact absurd h0 hi
  ·cases hu
theorem XU.any {ν:Nat→Bool} {H:SH} {tmv:List Value} {tm:List SV} (h:XU ν H tmv tm):∀(i:Nat) u,tm[i]?=some u→∃ρ,tmv[i]?=some (den ρ u):=fun i u hu=>by
 obtain ⟨ρ,_,_,h3⟩:=h.2 i u hu
 exact ⟨ρ,h3⟩
theorem zmR {ν:Nat→Bool} {ρ:Nat→Value} {b:Nat} {x:Blk}:∀{H:SH},(b,x)∈kG ν ρ H→∃k,(b,k)∈H∧zT ρ (ν b) k=some x
 |[],h=>by cases h
 |(c,k)::r,h=>by
  have hdel:∀(G:Hp) (y:Nat×Blk),y∈G.del c→y∈G:=by
   intro G y hy
   induction G with
   |nil=>cases hy
   |cons z G ih=>
    obtain ⟨d,u⟩:=z
    simp only [Hp.del] at hy
    split at hy
    ·exact List.mem_cons_of_mem _ (ih hy)
    ·rcases List.mem_cons.1 hy with rfl | hy
     ·simp
     ·exact List.mem_cons_of_mem _ (ih hy)
  simp only [kG] at h
  split at h
  ·rename_i y hy
   rcases List.mem_cons.1 h with h | h
   ·cases h;exact ⟨k,by simp,hy⟩
   ·obtain ⟨k',h1,h2⟩:=zmR h
    exact ⟨k',List.mem_cons_of_mem _ h1,h2⟩
  ·obtain ⟨k',h1,h2⟩:=zmR (hdel _ _ h)
   exact ⟨k',List.mem_cons_of_mem _ h1,h2⟩
theorem zzv {wr:List Nat} {lo hi:Nat} {H:SH} {b:Nat} {k:SB}:∀{H1:SH},okT wr lo hi H H1=true→(b,k)∈H1→wS wr lo hi b=true→rwK k=true
 |[],_,h,_=>by cases h
 |(c,x)::r,ho,h,ht=>by
  simp only [okT,Bool.and_eq_true] at ho
  rcases List.mem_cons.1 h with h | h
  ·cases h;have h1:=ho.1;rw [ht] at h1;exact h1
  ·exact zzv ho.2 h ht
theorem zxh:∀{H:Hp},(∀b x,(b,x)∈H→x.rw=true)→zfG H=true
 |[],_=>rfl
 |(b,x)::r,h=>by
  simp only [zfG,h b x (by simp),Bool.true_and]
  exact zxh fun c y hy=>h c y (List.mem_cons_of_mem _ hy)
theorem zc9 {p:Nat→Bool} {b:Nat} {x:Blk}:∀{H:Hp},(b,x)∈Hp.only p H→p b=true∧(b,x)∈H
 |[],h=>by cases h
 |(c,y)::r,h=>by
  simp only [Hp.only] at h
  split at h
  ·rename_i hp
   rcases List.mem_cons.1 h with h | h
   ·cases h;exact ⟨hp,by simp⟩
   ·exact ⟨(zc9 h).1,List.mem_cons_of_mem _ (zc9 h).2⟩
  ·exact ⟨(zc9 h).1,List.mem_cons_of_mem _ (zc9 h).2⟩
theorem zFY {ρ:Nat→Value} {nil:Bool} {k:SB} {x:Blk} (h:rwK k=true) (hx:zT ρ nil k=some x):x.rw=true:=by
 cases k with
 |arr nn t l=>
  simp only [zT] at hx
  cases hn:jP nn l<;>rw [hn] at hx<;>cases hx
  rfl
 |_=>simp [rwK] at h<;>simp only [zT,Option.some.injEq,reduceCtorEq] at hx<;>(subst hx;rfl)
theorem zD5 {ρ:Nat→Value} {nil:Bool} {k:SB} {n:Nat} (h:reg (some k)=some (n,0)):zT ρ nil k=none:=by
 have key:∀(nn:Bool) (t:Ty) (l:List (T t)),some (l.length,rsz nn t l)=some (n,0)→jP nn l=true:=fun nn t l h=>by
  unfold rsz at h
  cases hn:jP nn l with
  |true=>rfl
  |false=>rw [hn] at h;simp at h
 cases k with
 |arr nn t l=>simp [zT,key nn t l h]
 |roa nn t l=>simp [zT,key nn t l h]
 |fro nn t l=>simp [zT,key nn t l h]
 |gone s m=>rfl
 |_=>simp [reg] at h
theorem zzw {H:SH} {b:Nat}:∀{wr:List Nat},okW H wr=true→uz wr b=true→∃k,zk H b=some k∧(∀s n,k≠.gone s n)∧k≠.abs
 |[],_,h=>by cases h
 |c::r,ho,h=>by
  simp only [okW,Bool.and_eq_true] at ho
  have h:(bif Nat.beq c b then true else uz r b)=true:=h
  by_cases hc:c=b
  ·subst hc
   have h1:=ho.1
   cases hk:zk H c with
   |none=>rw [hk] at h1;cases h1
   |some k=>
    refine ⟨k,rfl,fun s n e=>?_,fun e=>?_⟩<;>subst e<;>rw [hk] at h1<;>cases h1
  ·have:Nat.beq c b=false:=by
    cases hb:Nat.beq c b with
    |false=>rfl
    |true=>exact absurd (Nat.eq_of_beq_eq_true hb) hc
   rw [this] at h
   exact zzw ho.2 h
structure zD6 (s:Stp) (t:Ym):Prop where
 ran:s.ran=t.ran
 lo:s.lo=t.lo
 hi:s.hi=t.hi
 vis:∀x∈s.V,uz t.vis x.1=true
 wr:∀b,s.wr b=true→uz t.wr b=true
theorem zFZ {op:List SV→SH→Nat→Oper→KO R→Option R} {rd:Option Nat} {ops:Array Oper} {o:Oper} {vis wr:List Nat} {tm:List SV} {H V1 H2:SH} {nx nx1:Nat} {v:SV}
  (hop:SOp P rd o (zfO tm (vW ops o) (List.replicate tm.length .junk)) (zdP vis wr H) nx v V1 nx1) (hvis:∀b,uz wr b=true→uz vis b=true) (hb:zgm wr nx nx1 V1 H=some H2)
  {ν:Nat→Bool} (hv:VN ν nx H) {tmv:List Value} {G:Hp} (ht:XU ν H tmv tm) (hm:Mix G (zw ν H)) (hw:uP ops tmv o=some true) :
  ∃s:Stp,zv5 P rd ops o tmv G nx s∧s.o=o∧s.hi=nx1∧VN ν nx1 H2∧XU ν H2 (Qj tmv o.dst s.v) (zbQ tm o.dst v)∧Mix (if s.ran then zbN s.touch s.H' G else G) (zw ν H2)∧zD6 s ⟨true,vis,wr,nx,nx1⟩:=by
 obtain ⟨r1,r2,r3,r4⟩:=hop
 obtain ⟨v1,o1⟩:=r4 ν (zzt hv)
 have B:=zuU r1 r2 hvis hb
 have hc:=zpu hb
 have hg:=fun n=>zrB hb n
 let wr':Nat→Bool:=fun b=>uz wr b&&(G.get b).isSome
 have hvm:=zD4 (vis:=vis) (wr:=wr) hm wr' (fun _=>rfl)
 have hdrop:∀b x,(zw ν (Ur wr nx nx1 V1)).get b=some x→(zw ν V1).get b=some x:=fun b x hx=>by
  have hr:rho ν (Ur wr nx nx1 V1)=rho ν V1:=yx (fun c=>by rw [YX,zgn]) ν
  rw [zF,YX,hr] at hx
  rw [zF]
  cases hk:zk V1 b with
  |none=>rw [hk] at hx;cases hx
  |some k=>
   rw [hk] at hx
   simp only [Option.map_some,Option.bind_some] at hx ⊢
   cases htb:wS wr nx nx1 b with
   |false=>rw [htb] at hx;exact hx
   |true=>
    rw [htb,cond_true] at hx
    cases k<;>first | exact hx | (simp [zT] at hx)
 have htouch:∀b,yk wr' nx nx1 b=true→wS wr nx nx1 b=true:=fun b hb=>by
  simp only [yk,wr',Bool.or_eq_true,Bool.and_eq_true,decide_eq_true_eq] at hb
  rw [zbR]
  rcases hb with hb | hb
  ·exact .inl hb.1
  ·exact .inr hb
 refine ⟨⟨o,true,den (rho ν V1) v,Qb tmv (vW ops o),Hp.only (uz vis) (zaj wr' (fun _=>false) G),wr',zw ν (Ur wr nx nx1 V1),nx,nx1⟩,⟨rfl,rfl,r3,rfl,?_,fun _=>⟨?_,?_⟩,fun b k hk=>?_,(fun h=>by cases h),fun b hb=>?_⟩,rfl,rfl,B.vn ν nx nx1 hv v1 r3,?_,?_,⟨rfl,rfl,rfl,fun x hx=>(zc9 (b:=x.1) (x:=x.2) hx).1,fun b hb=>?_⟩⟩
 ·rw [←zmq];exact hw
 ·refine ZM (zw8 o1 (fun φ K w g=>hvm.good g) fun φ K w g ts htr=>?_) (fun φ v' h=>h) (fun φ K w g=>g.sub hdrop)
  rw [zxe]
  exact (ht.keep (vW ops o)).rel htr
 ·refine zxh fun b x hx=>?_
  obtain ⟨h1,h2⟩:=zc9 hx
  obtain ⟨k,h3,h4⟩:=zmR h2
  exact zFY (zzv hc.1 h3 (htouch b h1)) h4
 ·dsimp only at hk ⊢
  rw [Hp.get_only] at hk
  split at hk
  ·rw [zfF,Option.map_eq_some_iff] at hk
   obtain ⟨k0,h1,rfl⟩:=hk
   exact ⟨k0,h1,rfl⟩
  ·cases hk
 ·simp only [wr',Bool.and_eq_true] at hb
  obtain ⟨k0,hk0⟩:=Option.isSome_iff_exists.1 hb.2
  refine ⟨uo wr' (fun _=>false) b k0,?_⟩
  rw [Hp.get_only,if_pos (hvis b hb.1),zfF,hk0];rfl
 ·exact (ht.mono (zgk ν B.reg)).put (gO ν V1) (B.rho ν) o.dst v
 ·simp only [if_true]
  intro b x hx
  have hstouch:Stp.touch ⟨o,true,den (rho ν V1) v,Qb tmv (vW ops o),Hp.only (uz vis) (zaj wr' (fun _=>false) G),wr',zw ν (Ur wr nx nx1 V1),nx,nx1⟩ b=yk wr' nx nx1 b:=rfl
  rw [zd3,hstouch]
  rw [zF,hg b] at hx
  cases htb:wS wr nx nx1 b with
  |false=>
   have h0:yk wr' nx nx1 b=false:=by
    cases h0:yk wr' nx nx1 b with
    |false=>rfl
    |true=>rw [htouch b h0] at htb;cases htb
   rw [htb,cond_false,Option.bind_eq_some_iff] at hx
   obtain ⟨k,hk,hx⟩:=hx
   obtain ⟨y,h1,h2⟩:=zxd (gO ν H) (zgk ν B.reg) hx
   obtain ⟨z,h3,h4⟩:=hm b y (by rw [zF,hk];exact h1)
   rw [h0]
   exact ⟨z,h3,h4.trans h2⟩
  |true=>
   rw [htb,cond_true,Option.bind_eq_some_iff] at hx
   obtain ⟨k,hk,hx⟩:=hx
   have hr:rho ν (Ur wr nx nx1 V1)=rho ν V1:=yx (fun c=>by rw [YX,zgn]) ν
   obtain ⟨y,h1,h2⟩:=zxd (gO ν V1) (B.rho ν) hx
   have hy:(zw ν (Ur wr nx nx1 V1)).get b=some y:=by rw [zF,hk,hr];exact h1
   cases h0:yk wr' nx nx1 b with
   |true=>exact ⟨y,by simpa using hy,h2⟩
   |false=>
    exfalso
    have hbw:uz wr b=true:=by
     rcases zbR.1 htb with h | h
     ·exact h
     ·simp only [yk,Bool.or_eq_false_iff,Bool.and_eq_false_iff,decide_eq_false_iff_not] at h0
      omega
    have hGn:G.get b=none:=by
     simp only [yk,wr',Bool.or_eq_false_iff,hbw,Bool.true_and] at h0
     cases hG:G.get b with
     |none=>rfl
     |some z=>rw [hG] at h0;simp at h0
    obtain ⟨k0,hk0,hng,hna⟩:=zzw hc.2.2 hbw
    have hdn:zT (rho ν H) (ν b) k0=none:=by
     cases hd:zT (rho ν H) (ν b) k0 with
     |none=>rfl
     |some z=>
      obtain ⟨z0,h5,_⟩:=hm b z (by rw [zF,hk0];exact hd)
      rw [hGn] at h5;cases h5
    have hnil:∃n,reg (some k0)=some (n,0):=by
     cases k0 with
     |gone s n=>exact absurd rfl (hng s n)
     |abs=>exact absurd rfl hna
     |arr nn t l=>cases hn:jP nn l with
      |true=>exact ⟨l.length,by simp [reg,rsz,hn]⟩
      |false=>simp [zT,hn] at hdn
     |roa nn t l=>cases hn:jP nn l with
      |true=>exact ⟨l.length,by simp [reg,rsz,hn]⟩
      |false=>simp [zT,hn] at hdn
     |fro nn t l=>cases hn:jP nn l with
      |true=>exact ⟨l.length,by simp [reg,rsz,hn]⟩
      |false=>simp [zT,hn] at hdn
     |_=>simp [zT] at hdn
    obtain ⟨n0,hy0⟩:=hnil
    have h6:=r1 b (n0,0) (by rw [YW,zje,hk0];exact hy0)
    rw [YX,Option.map_eq_some_iff] at hk
    obtain ⟨k1,hk1,hk2⟩:=hk
    rw [hk1] at h6
    have h7:reg (some k)=some (n0,0):=by
     rw [←h6,←hk2]
     exact zgn wr nx nx1 b (some k1)
    rw [zD5 h7] at h1
    cases h1
 ·simp only [wr',Bool.and_eq_true] at hb;exact hb.1
def zxi (t:Ym):List Nat→Bool
 |[]=>false
 |x::r=>wS t.wr t.lo t.hi x||zxi t r
def ztr (ms:List Nat) (t:Ym) (j:Nat):Nat→List Ym→Bool
 |_,[]=>true
 |i,s::r=>(Nat.beq i j||(zmw ms i j||!zxi t s.vis))&&ztr ms t j (i+1) r
def zts (ms:List Nat) (all:List Ym):Nat→List Ym→Bool
 |_,[]=>true
 |j,t::r=>(!t.ran||(zkr t.wr t.lo t.hi||ztr ms t j 0 all))&&zts ms all (j+1) r
theorem zxj {t:Ym} {x:Nat}:∀{l:List Nat},zxi t l=false→uz l x=true→wS t.wr t.lo t.hi x=false
 |[],_,h=>by cases h
 |y::r,hh,h=>by
  simp only [zxi,Bool.or_eq_false_iff] at hh
  have h:(bif Nat.beq y x then true else uz r x)=true:=h
  cases hb:Nat.beq y x with
  |true=>have:=Nat.eq_of_beq_eq_true hb;subst this;exact hh.1
  |false=>rw [hb] at h;exact zxj hh.2 h
theorem zzx {ms:List Nat} {t:Ym} {j:Nat}:∀{l:List Ym} {i m:Nat} {s:Ym},ztr ms t j i l=true→l[m]?=some s→i+m=j∨zmw ms (i+m) j=true∨zxi t s.vis=false
 |[],_,_,_,_,h=>by simp at h
 |x::r,i,0,s,hf,h=>by
  simp at h
  subst h
  simp only [ztr,Bool.and_eq_true,Bool.or_eq_true,Bool.not_eq_true'] at hf
  rcases hf.1 with h1 | h1 | h1
  ·exact .inl (Nat.eq_of_beq_eq_true h1)
  ·exact .inr (.inl h1)
  ·exact .inr (.inr h1)
 |x::r,i,m+1,s,hf,h=>by
  simp only [ztr,Bool.and_eq_true] at hf
  have:=zzx (m:=m) hf.2 (by simpa using h)
  rwa [show i+1+m=i+(m+1) by omega] at this
theorem zzy {ms:List Nat} {all:List Ym}:∀{l:List Ym} {j m:Nat} {t:Ym},zts ms all j l=true→l[m]?=some t→t.ran=false∨zkr t.wr t.lo t.hi=true∨ztr ms t (j+m) 0 all=true
 |[],_,_,_,_,h=>by simp at h
 |x::r,j,0,t,hf,h=>by
  simp at h
  subst h
  simp only [zts,Bool.and_eq_true,Bool.or_eq_true,Bool.not_eq_true'] at hf
  exact hf.1
 |x::r,j,m+1,t,hf,h=>by
  simp only [zts,Bool.and_eq_true] at hf
  have:=zzy (m:=m) hf.2 (by simpa using h)
  rwa [show j+1+m=j+(m+1) by omega] at this
theorem zD7 {ms:List Nat} {ss:List Stp} {sl:List Ym} (hl:sl.length=ss.length) (hfit:∀(j:Nat) s t,ss[j]?=some s→sl[j]?=some t→zD6 s t) (h:zts ms sl 0 sl=true):zkd ms ss=true:=by
 unfold zkd
 rw [List.all_eq_true]
 rintro ⟨t,j⟩ ht
 rw [List.mem_zipIdx_iff_getElem?] at ht
 dsimp only at ht ⊢
 have hj:j < ss.length:=(List.getElem?_eq_some_iff.1 ht).1
 have ht':sl[j]?=some sl[j]:=by simp [hl,hj]
 have ft:=hfit j t _ ht ht'
 have htouch:∀x,t.touch x=true→wS sl[j].wr sl[j].lo sl[j].hi x=true:=fun x hx=>by
  simp only [Stp.touch,yk,Bool.or_eq_true,Bool.and_eq_true,decide_eq_true_eq] at hx
  rw [zbR]
  rcases hx with hx | hx
  ·exact .inl (ft.wr x hx)
  ·exact .inr (by rw [←ft.lo,←ft.hi];exact hx)
 rcases zzy h ht' with h1 | h1 | h1
 ·rw [ft.ran,h1];rfl
 ·have hq:=zpt h1
  have h2:Nat.beq t.lo t.hi=true:=by
   unfold zkr at h1
   simp only [Bool.and_eq_true] at h1
   rw [ft.lo,ft.hi];exact h1.2
  have h3:(t.V.all fun x=>!t.wr x.1)=true:=by
   rw [List.all_eq_true]
   intro x _
   cases hw:t.wr x.1 with
   |false=>rfl
   |true=>
    have:=hq x.1
    have h5:wS sl[j].wr sl[j].lo sl[j].hi x.1=true:=zbR.2 (.inl (ft.wr _ hw))
    rw [this] at h5;cases h5
  rw [h2,h3];simp
 ·rw [Nat.zero_add] at h1
  simp only [Bool.or_eq_true]
  right
  rw [List.all_eq_true]
  rintro ⟨s,i⟩ hs
  rw [List.mem_zipIdx_iff_getElem?] at hs
  dsimp only at hs ⊢
  have hi:i < ss.length:=(List.getElem?_eq_some_iff.1 hs).1
  have hs':sl[i]?=some sl[i]:=by simp [hl,hi]
  have fs:=hfit i s _ hs hs'
  have:=zzx h1 hs'
  rw [Nat.zero_add] at this
  rcases this with h2 | h2 | h2
  ·simp [h2]
  ·have:Gw ms i j=true:=by
    unfold zmw at h2
    rw [zc5,zc5] at h2
    exact h2
   simp [this]
  ·simp only [Bool.or_eq_true]
   right
   rw [List.all_eq_true]
   intro x hx
   have h3:=zxj h2 (fs.vis x hx)
   cases ht:t.touch x.1 with
   |false=>rfl
   |true=>rw [htouch _ ht] at h3;cases h3
theorem zp8 {op:List SV→SH→Nat→Oper→KO R→Option R} {rd:Option Nat} (hop:OpS P rd op) {ops:Array Oper} {cut:Nat→List SV→SH→List Ym→Option (List Nat×List Nat)} :
  ∀
   {l:List Oper} {i:Nat} {done:List Ym} {tm:List SV} {H:SH} {nx:Nat} {k:List Ym→List SV→SH→Nat→Option R} {r:R},zow op ops cut i done l tm H nx k=some r→
   ∃
    (sl:List Ym) (tm':List SV) (H':SH) (nx':Nat),sl.length=l.length∧k (done.reverse++sl) tm' H' nx'=some r∧wN H H'∧wT H H'∧JJ (Uh l) tm tm'∧nx≤nx'∧
    ∀
     ν,VN ν nx H→VN ν nx' H'∧∀(tmv:List Value) (G:Hp),XU ν H tmv tm→Mix G (zw ν H)→
     ∃
      ss:List Stp,ss.length=l.length∧(∀(j:Nat) o s,l[j]?=some o→ss[j]?=some s→zv5 P rd ops o (tmR (ss.take j) tmv) (hpR (ss.take j) G) (nxR (ss.take j) nx) s)∧nxR ss nx=nx'∧
      XU ν H' (tmR ss tmv) tm'∧Mix (hpR ss G) (zw ν H')∧∀(j:Nat) s t,ss[j]?=some s→sl[j]?=some t→zD6 s t
 |[],i,done,tm,H,nx,k,r,h=>by
  simp only [zow] at h
  refine ⟨[],tm,H,nx,rfl,by simpa using h,wN.refl H,wT.refl H,JJ.refl _ _,Nat.le_refl _,fun ν hv=>⟨hv,fun tmv G ht hm=>⟨[],rfl,fun j o s hj=>by simp at hj,rfl,ht,hm,fun j s t hj=>by simp at hj⟩⟩⟩
 |o::l,i,done,tm,H,nx,k,r,h=>by
  have hin1:∀i∈o.dst.toList,i∈Uh (o::l):=fun i hi=>by
   show i∈(match o.dst with | some d=>d::Uh l | none=>Uh l)
   cases hd:o.dst with
   |none=>rw [hd] at hi;cases hi
   |some d=>rw [hd] at hi;simp at hi;subst hi;simp
  have hin2:∀i∈Uh l,i∈Uh (o::l):=fun i hi=>by
   show i∈(match o.dst with | some d=>d::Uh l | none=>Uh l)
   cases o.dst with
   |none=>exact hi
   |some d=>exact List.mem_cons_of_mem _ hi
  simp only [zow] at h
  rcases zxb h with ⟨hw,h1⟩ | ⟨hw,h1⟩
  ·split at h1
   case h_2=>cases h1
   rename_i wr vis hcut
   have h6:=zx h1
   clear h1
   obtain ⟨hsub,h1⟩:=h6
   have hvis:∀b,uz wr b=true→uz vis b=true:=fun b hb=>zxg hsub hb
   obtain ⟨v,V1,nx1,hs,h2⟩:=hop h1
   dsimp only at h2
   split at h2
   case h_2=>cases h2
   rename_i H2 hb
   obtain ⟨sl,tm',H',nx',e1,e2,e3,e4,e5,e6,e7⟩:=zp8 hop h2
   have B:=zuU hs.1 hs.2.1 hvis hb
   refine ⟨⟨true,vis,wr,nx,nx1⟩::sl,tm',H',nx',by simp [e1],by simpa using e2,B.reg.trans e3,B.keep.trans e4,(zhR tm o.dst v).trans e5 hin1 hin2,Nat.le_trans hs.2.2.1 e6,fun ν hv=>?_⟩
   have hvn:VN ν nx1 H2:=B.vn ν nx nx1 hv (hs.2.2.2 ν (zzt hv)).1 hs.2.2.1
   obtain ⟨f1,f2⟩:=e7 ν hvn
   refine ⟨f1,fun tmv G ht hm=>?_⟩
   obtain ⟨s,g1,g2,g3,_,g5,g6,g7⟩:=zFZ (op:=op) hs hvis hb hv ht hm (hw tmv ht.any)
   obtain ⟨ss,q1,q2,q3,q4,q5,q6⟩:=f2 _ _ g5 g6
   have hhd:Qj tmv s.o.dst s.v=Qj tmv o.dst s.v:=by rw [g2]
   refine ⟨s::ss,by simp [q1],fun j o' s' ho' hs'=>?_,?_,?_,?_,fun j s' t' hs' ht'=>?_⟩
   ·cases j with
    |zero=>simp at ho' hs';subst ho';subst hs';exact g1
    |succ j=>
     simp only [List.getElem?_cons_succ] at ho' hs'
     have:=q2 j o' s' ho' hs'
     simp only [List.take_succ_cons,tmR,hpR,nxR,g3,hhd]
     exact this
   ·simp only [nxR,g3];exact q3
   ·simp only [tmR,hhd];exact q4
   ·simp only [hpR];exact q5
   ·cases j with
    |zero=>simp at hs' ht';subst hs';subst ht';exact g7
    |succ j=>simp at hs' ht';exact q6 j s' t' hs' ht'
  ·obtain ⟨sl,tm',H',nx',e1,e2,e3,e4,e5,e6,e7⟩:=zp8 hop h1
   refine ⟨⟨false,[],[],nx,nx⟩::sl,tm',H',nx',by simp [e1],by simpa using e2,e3,e4,(zhR tm o.dst _).trans e5 hin1 hin2,e6,fun ν hv=>?_⟩
   obtain ⟨f1,f2⟩:=e7 ν hv
   refine ⟨f1,fun tmv G ht hm=>?_⟩
   have hu:undef=den (rho ν H) (.tup []):=by simp [den,zp,undef]
   obtain ⟨ss,q1,q2,q3,q4,q5,q6⟩:=f2 (Qj tmv o.dst undef) G (by rw [hu];exact ht.put (gO ν H) (RLe.refl _) o.dst _) hm
   refine ⟨⟨o,false,undef,Qb tmv (vW ops o),[],fun _=>false,[],nx,nx⟩::ss,by simp [q1],fun j o' s' ho' hs'=>?_,?_,?_,?_,fun j s' t' hs' ht'=>?_⟩
   ·cases j with
    |zero=>
     simp at ho' hs'
     subst ho';subst hs'
     refine ⟨rfl,rfl,Nat.le_refl _,rfl,?_,(fun h=>by cases h),(fun b k hb=>by simp [Hp.get_nil] at hb),fun _=>⟨rfl,fun b=>by simp [Stp.touch,yk]⟩,fun b hb=>by cases hb⟩
     show uP ops (Qb tmv (vW ops o)) o=some false
     rw [←zmq]
     exact hw tmv ht.any
    |succ j=>
     simp only [List.getElem?_cons_succ] at ho' hs'
     exact q2 j o' s' ho' hs'
   ·exact q3
   ·exact q4
   ·simp only [hpR,Bool.false_eq_true,if_false];exact q5
   ·cases j with
    |zero=>
     simp at hs' ht'
     subst hs';subst ht'
     exact ⟨rfl,rfl,rfl,(fun x hx=>by cases hx),(fun b hb=>by cases hb)⟩
    |succ j=>simp at hs' ht';exact q6 j s' t' hs' ht'
theorem zis {r:Option Nat} {c:Code} {tm:List Value} {ds:List Nat} {H:Hp} {nx:Nat} {R R2:Res} (h:jO P r c tm ds H nx R) (he:R2.e=R.e) (hd:R2.ds=R.ds) (hn:R2.nx=R.nx) (hH:∀φ K w,zA φ R.H K w→zA φ R2.H K w) (ht:∀φ ts,qY φ R.tm ts→qY φ R2.tm ts):jO P r c tm ds H nx R2:=by
 obtain ⟨e,t,d,H',n⟩:=R2
 dsimp only at he hd hn hH ht
 subst he;subst hd;subst hn
 refine ⟨h.1,fun φ w K a rc g hf htm hds hr=>wpIn_mono (h.2 φ w K a rc g hf htm hds hr) ?_⟩
 rintro e a1 w1 ⟨rfl,φ1,k1,k2,k3,k4,k5⟩
 exact ⟨rfl,φ1,k1,hH _ _ _ k2,ht _ _ k3,k4,k5⟩
def zD8 (tm:List SV) (x:Operand):List Nat:=match x with
 |.tmp t=>match gl tm t with
  |some (.ptr b _)=>[b]
  |some (.elp b _ _ _)=>[b]
  |some (.own b)=>[b]
  |_=>[]
 |_=>[]
def zit (tm:List SV) (x:Operand):List Nat:=match x with
 |.tmp t=>match gl tm t with
  |some (.own b)=>[b]
  |_=>[]
 |_=>[]
def mpS (tm:List SV) (x:Operand):List Nat:=match x with
 |.tmp t=>match gl tm t with
  |some (.mp b)=>[b]
  |_=>[]
 |_=>[]
def zG3 (tm:List SV) (o:Oper):Option (List Nat):=match o.op with
 |.load _ a=>some (zD8 tm a)
 |.store _ a x=>some (zD8 tm a++zit tm x)
 |.indexAddr _ x _=>some (zit tm x)
 |.slice _ x _ _ _=>some (zit tm x)
 |.buildSlice _ _ ps=>some (ps.toList.flatMap fun p=>zit tm p.2)
 |.call {callee:=.builtin _,args:=args,argTypes:=_}=>some (args.toList.flatMap (zit tm))
 |.lookup _ m _ _=>some (mpS tm m)
 |.mapUpdate _ m _ _=>some (mpS tm m)
 |.insert _ m _ _=>some (mpS tm m)
 |.call _=>none
 |_=>some []
def zxk (tm:List SV) (o:Oper):List Nat:=match o.op with
 |.store _ a x=>zD8 tm a++zit tm x
 |.slice _ x _ _ _=>zit tm x
 |.buildSlice _ _ ps=>ps.toList.flatMap fun p=>zit tm p.2
 |.lookup _ m _ _=>mpS tm m
 |.mapUpdate _ m _ _=>mpS tm m
 |.insert _ m _ _=>mpS tm m
 |.call {callee:=.builtin .append,args:=args,argTypes:=_}=>match args.toList with
  |s::_=>zit tm s
  |_=>[]
 |.call {callee:=.builtin .copy,args:=args,argTypes:=_}=>match args.toList with
  |s::_=>zit tm s
  |_=>[]
 |_=>[]
def zD9 (H:SH) (b:Nat):Bool:=match zk H b with
 |some (.vars _)=>true
 |some (.arr _ _ _)=>true
 |some (.loop _)=>true
 |some .defd=>true
 |some (.mpb _ _ _ _)=>true
 |_=>false
def qS:SH→List Nat
 |[]=>[]
 |(b,_)::r=>b::qS r
def zd7 (H:SH):List Nat→List Nat
 |[]=>[]
 |b::r=>bif zD9 H b then b::zd7 H r else zd7 H r
def zAK:List SV→List Nat
 |[]=>[]
 |.own b::r=>b::zAK r
 |_::r=>zAK r
def zxl (tm:List SV):List Operand→List Nat
 |[]=>[]
 |.tmp t::r=>(match gl tm t with
  |some (.own b)=>[b]
  |some (.agg cs)=>zAK cs
  |_=>[])++zxl tm r
 |_::r=>zxl tm r
def zEa (o:Oper):List Operand:=match o.op with
 |.call {callee:=.value _,args:=args,argTypes:=_}=>args.toList
 |_=>[]
def zIa (ops:Array Oper) (ms:List Nat) (est:List (List Nat)) (i:Nat) (tm:List SV) (H:SH) (done:List Ym):Option (List Nat×List Nat):=
 match gl ops.toList i with
 |none=>none
 |some o=>match zG3 tm o with
  |some bs=>some (zd7 H (zxk tm o),bs)
  |none=>match (List.range ops.size).filter fun j=>j != i&&!zmw ms i j with
   |[]=>some (zd7 H (qS H),qS H)
   |others=>match others.flatMap (fun j=>est.getD j []++(match ops[j]? with | some p=>zxk tm p | none=>[])),others.filterMap fun j=>if j < i then (match (done.reverse)[j]? with | some s=>if s.lo < s.hi then some (s.lo,s.hi) else none | none=>none) else none with
    |mask,rs=>some (zd7 H ((zxl tm (zEa o)).filter fun b=>!(mask.contains b||ztg rs b)),(qS H).filter fun b=>!(mask.contains b||ztg rs b))
def zCb (P:Program) (ops:Array Oper) (H:SH):List Oper→List SV→List (List Nat)
 |[],_=>[]
 |o::l,tm=>zxk tm o::zCb P ops H l (zbQ tm o.dst (match zAt P tm H 0 o with
  |some (v,_,_)=>v
  |none=>.junk))
def zmS (H:SH) (tm:List SV):List Operand→SH
 |[]=>H
 |x::r=>match x with
  |.tmp t=>match gl tm t with
   |some (.own b)=>match zk H b with
    |some (.arr nn ty l)=>zmS (jW H b (.fro nn ty l)) tm r
    |_=>zmS H tm r
   |_=>zmS H tm r
  |_=>zmS H tm r
def zCc (o:Oper):List Operand:=match o.op with
 |.call {callee:=.value _,args:=args,argTypes:=_}=>args.toList
 |.slice _ x _ _ _=>[x]
 |_=>[]
def mvS (tm:List SV) (o:Oper):List SV:=match o.op with
 |.move (.tmp t)=>match gl tm t with
  |some (.own b)=>zbQ tm o.dst (.own b)
  |_=>tm
 |_=>tm
def plT:Ty→Bool
 |.list _=>false
 |.pair a b=>plT a&&plT b
 |_=>true
def zG4 (P:Program) (o:Oper):Bool:=match o.op with
 |.call {callee:=.value (.func f),args:=_,argTypes:=_}=>match zwj P f with
  |some fn=>!(fn.resultTypes.toList.all fun t=>match zmH P 30 t with
   |some ty=>plT ty
   |none=>true)
  |none=>false
 |_=>false
def zxm (P:Program) (H:SH) (tm0 tm:List SV):List Oper→SH
 |[]=>H
 |o::l=>zxm P (zmS (zmS H tm0 (zCc o)) (bif zG4 P o then tm else tm0) (zCc o)) tm0 (mvS tm o) l
theorem Gx (tm:List SV):∀(xs:List Operand) (H:SH),vy H (zmS H tm xs)
 |[],H=>vy.refl H
 |x::r,H=>by
  unfold zmS
  split
  ·split
   ·split
    ·rename_i hb;exact (zbO hb).trans (Gx tm r _)
    ·exact Gx tm r _
   ·exact Gx tm r _
  ·exact Gx tm r _
theorem zrC (tm0:List SV):∀(l:List Oper) (tm:List SV) (H:SH),vy H (zxm P H tm0 tm l)
 |[],tm,H=>vy.refl H
 |o::l,tm,H=>((Gx tm0 _ H).trans (Gx _ _ _)).trans (zrC tm0 l _ _)
def zAL (P:Program) (op:List SV→SH→Nat→Oper→KO R→Option R) (ops:Array Oper) (tm:List SV) (H:SH) (nx:Nat) (k:List SV→SH→Nat→Option R):Option R:=
 match zmt ops.toList 0 [] with
 |ms=>match zxm P H tm tm ops.toList with
  |H1=>match (bif ops.toList.any zwz then zCb P ops H1 ops.toList tm else []) with
   |est=>zow op ops (zIa ops ms est) 0 [] ops.toList tm H1 nx fun sl tm' H' nx'=>bif ztj ms ops&&(zts ms sl 0 sl&&P.follows .mixedOrders) then k tm' H' nx' else none
theorem zxn {r:Option Nat} {c:Code} {tm:List Value} {ds:List Nat} {H H1:SH} {nx:Nat} {R:Res} {ν:Nat→Bool} (hg:vy H H1) (h:jO P r c tm ds (zw ν H1) nx R):jO P r c tm ds (zw ν H) nx R:=
 ⟨h.1,fun φ w K a rc g hf ht hd hr=>by
  obtain ⟨φ1,e1,g1⟩:=hg.2 ν φ K w g
  have hle:=(e1 0).1
  refine wpIn_mono (h.2 φ1 w K a rc g1 (zhN (mid:=0) hf e1) (ht.mono hle) (hd.mono hle) (hr.mono hle)) ?_
  rintro e a1 w1 ⟨rfl,φ2,k1,k2,k3,k4,k5⟩
  exact ⟨rfl,φ2,(e1 nx).trans k1 (Nat.le_refl _) h.1,k2,k3,k4,k5⟩⟩
theorem zEb {op:List SV→SH→Nat→Oper→KO R→Option R} {rd:Option Nat} (hop:OpS P rd op) {id:Nat} {ops:Array Oper} {tm:List SV} {ds:List Nat} {H:SH} {nx:Nat} {k:List SV→SH→Nat→Option R} {r:R} (h:zAL P op ops tm H nx k=some r) :
  ∃tm' H' nx',Ya P rd (.region id ops true) tm ds H nx ⟨.normal,tm',ds,H',nx'⟩∧k tm' H' nx'=some r:=by
 unfold zAL at h
 dsimp only at h
 obtain ⟨sl,tm',H',nx',e1,e2,e3,e4,e5,e6,e7⟩:=zp8 hop h
 have h6:=zx e2
 obtain ⟨hc,h2⟩:=h6
 simp only [Bool.and_eq_true,ztj] at hc
 obtain ⟨⟨c1,c2⟩,c3,c4⟩:=hc
 have c1:=zmv c1
 have c2:=zBN c2
 have hg:=zrC (P:=P) tm ops.toList tm H
 refine ⟨tm',H',nx',⟨hg.1.regLe.trans e3,hg.1.lkeep.trans e4,e5,e6,fun ν hv=>?_⟩,h2⟩
 obtain ⟨f1,f2⟩:=e7 ν (hg.1.vn hv)
 refine ⟨f1,zxn hg ?_⟩
 obtain ⟨ss,q1,q2,q3,q4,q5,q6⟩:=f2 _ _ (XU.refl ν _ tm) (Mix.refl _)
 have hvf:=zD7 (ms:=zmt ops.toList 0 []) (by rw [e1,q1]) q6 (by simpa using c3)
 obtain ⟨D,hs,ht⟩:=zBM (ms:=zmt ops.toList 0 []) ⟨q1,q2⟩ c1 c2 hvf
 have:=zyV (id:=id) (ds:=ds) c4 D (HF:=hpR ss (zw ν (zxm P H tm tm ops.toList))) (fun b k hb=>by rw [hs];exact hb)
 rw [ht,q3] at this
 rw [show rho ν H=rho ν (zxm P H tm tm ops.toList) from (hg.1.rho ν).symm]
 exact zis this rfl rfl rfl (fun φ K w g=>q5.good g) (fun φ ts ht=>q4.rel ht)
def zhS (P:Program) (f:FuncId) (args:List SV) (H:SH) (nx:Nat) (v:SV) (H':SH) (nx':Nat):Prop:=
 (∃fn,P.funcs[f]?=some fn∧fn.body.isSome=true)∧wN H H'∧wT H H'∧nx≤nx'∧∀ν,VN ν nx H→VN ν nx' H'∧gN P f (zp (rho ν H) args) (zw ν H) nx (den (rho ν H') v) (zw ν H') nx'
def zrD (P:Program) (rd:Option Nat) (c:Code) (tm:List SV) (ds:List Nat) (H:SH) (nx:Nat) (R:Ug):Prop:=
 wN H R.H∧wT H R.H∧JJ (asg c) tm R.tm∧nx≤R.nx∧∀ν,VN ν nx H→VN ν R.nx R.H∧zi5 P rd c (zp (rho ν H) tm) ds (zw ν H) nx (zc8 ν R)
def zEc (P:Program) (c x:Code) (tm:List SV) (ds:List Nat) (H:SH) (nx:Nat) (R:Ug):Prop:=
 wN H R.H∧wT H R.H∧JJ (asg c) tm R.tm∧nx≤R.nx∧∀ν,VN ν nx H→VN ν R.nx R.H∧zol P c x (zp (rho ν H) tm) ds (zw ν H) nx (zc8 ν R)
structure EvS (R:Type) where
 call:FuncId→List SV→SH→Nat→KO R→Option R
 code:Option Nat→Code→List SV→List Nat→SH→Nat→KC R→Option R
 loop:Option Nat→Code→List SV→List Nat→SH→Nat→KC R→Option R
 scp:Code→Nat→Code→List SV→List Nat→SH→Nat→KC R→Option R
 join:Option Nat→Code→List SV→List Nat→SH→Nat→KC R→Option R
 code0:Option Nat→Code→List SV→List Nat→SH→Nat→KC R→Option R
 jq:Code→Nat→Bool
structure EvS.Ok (P:Program) (E:EvS R):Prop where
 call:∀{f args H nx k r},E.call f args H nx k=some r→∃v H' nx',zhS P f args H nx v H' nx'∧k v H' nx'=some r
 code:∀{rd c tm ds H nx k r},E.code rd c tm ds H nx k=some r→∃S,Ya P rd c tm ds H nx S∧k S=some r
 loop:∀{rd c tm ds H nx k r},E.loop rd c tm ds H nx k=some r→∃S,zrD P rd c tm ds H nx S∧k S=some r
 scp:∀{c l x tm ds H nx k r},findLabel c l=some x→(∀i∈asg x,i∈asg c)→E.scp c l x tm ds H nx k=some r→∃S,zEc P c x tm ds H nx S∧k S=some r
 join:∀{rd c tm ds H nx k r},E.join rd c tm ds H nx k=some r→∃S,Ya P rd c tm ds H nx S∧k S=some r
 code0:∀{rd c tm ds H nx k r},E.code0 rd c tm ds H nx k=some r→∃S,Ya P rd c tm ds H nx S∧k S=some r
theorem zAM {r:Option Nat} {c:Code} {tm tm0:List Value} {ds:List Nat} {H H0:Hp} {nx:Nat} {R:Res} (h:jO P r c tm0 ds H0 nx R) (hH:∀φ K w,zA φ H K w→zA φ H0 K w) (hT:∀φ ts,qY φ tm ts→qY φ tm0 ts):jO P r c tm ds H nx R:=
 ⟨h.1,fun φ w K a rc g hf ht hd hr=>h.2 φ w K a rc (hH _ _ _ g) hf (hT _ _ ht) hd hr⟩
theorem zda {H:SH} {l:Nat} {L L':SL} (hl:zk H l=some (.loop L)) (c:Nat):reg (zk (jW H l (.loop L')) c)=reg (zk H c):=by
 rw [qE]
 by_cases h:c=l
 ·subst h;simp [hl,reg]
 ·rw [if_neg h]
theorem zzz {H:SH} {l:Nat} {L L':SL} (hl:zk H l=some (.loop L)) (c:Nat) (h:jc (zk (jW H l (.loop L')) c)=true):jc (zk H c)=true:=by
 rw [qE] at h
 by_cases hc:c=l
 ·subst hc;simp [hl,jc] at h
 ·rwa [if_neg hc] at h
theorem zxo {ν:Nat→Bool} {H:SH} {l:Nat} {L L':SL} (hl:zk H l=some (.loop L)) (c:Nat):(zw ν (jW H l (.loop L'))).get c=((zw ν H).set l (.loop (xf (rho ν H) L'))).get c:=by
 rw [zF,qE,yx (zda hl),Hp.get_set,zF]
 by_cases hc:c=l
 ·subst hc;simp [hl,zT]
 ·rw [if_neg hc,if_neg hc,zF]
theorem zrE {H:SH} {l:Nat} {L:SL} (hl:zk H l=some (.loop L)) (s:LoopState) (p:Option Code):wT H (jW H l (.loop {L with st:=s,pend:=p})):=fun m M hm=>by
 rw [qE]
 by_cases h:m=l
 ·subst h
  rw [hl] at hm;cases hm
  exact ⟨s,p,by simp [hl]⟩
 ·rw [if_neg h];exact ⟨M.st,M.pend,hm⟩
def ztt:List Tmp→List SV→List SV→List SV
 |t::ts,v::vs,tm=>ztt ts vs (lsS tm t v)
 |_,_,tm=>tm
theorem zxp (ρ:Nat→Value):∀(ps:List Tmp) (vs tm:List SV),zp ρ (ztt ps vs tm)=ZL ps (zp ρ vs) (zp ρ tm)
 |[],vs,tm=>by simp [ztt,ZL]
 |p::ps,[],tm=>by simp [ztt,ZL,zp]
 |p::ps,v::vs,tm=>by
  simp only [ztt,zp,ZL,Qg]
  rw [zxp ρ ps vs]
  congr 1
  simp [qA,List.map_set]
def zxq (E:EvS R) (l:Nat) (vs:List SV) (H:SH) (nx:Nat) (k:KO R):Option R:=match zk H l with
 |some (.loop L)=>bif zp2 vs L.params.size then E.code (some l) L.assign (ztt L.params.toList vs L.tm) [] H nx fun R1=>match R1.e,R1.ds,zk R1.H l with
   |.normal,[],some (.loop L1)=>match L1.st with
    |.ready=>E.code (some l) L.body R1.tm [] (jW R1.H l (.loop {L1 with st:=.busy})) R1.nx fun R2=>match zk R2.H l,zj9 R2.e with
     |some (.loop L2),some (b,s,p)=>k (.bool b) (jW R2.H l (.loop {L2 with st:=s,pend:=p})) R2.nx
     |_,_=>none
    |_=>none
   |_,_,_=>none
  else none
 |_=>none
theorem zCd {E:EvS R} (hE:E.Ok P) {rd:Option Nat} {o:Oper} {tm:List SV} {H:SH} {nx:Nat} {k:KO R} {r:R} {cf:Operand} {args:Array Operand} {ats:Array TypeId} (ho:o.op=.call {callee:=.value cf,args:=args,argTypes:=ats})
  {l:Nat} {vs:List SV} (hcf:jX tm H cf=some (.yld l)) (hvs:zfK tm H args.toList=some vs) (h:zxq E l vs H nx k=some r):gI P rd o tm H nx k r:=by
 unfold zxq at h
 split at h
 case h_2=>cases h
 rename_i L hl
 have h6:=zx h
 clear h
 obtain ⟨hn,h⟩:=h6
 have hn:=zf5 hn
 obtain ⟨R1,⟨a1,a2,a3,a4,a5⟩,h1⟩:=hE.code h
 split at h1
 case h_2=>cases h1
 rename_i he1 hd1 hl1
 rename_i L1
 split at h1
 case h_2=>cases h1
 rename_i hst
 obtain ⟨R2,⟨b1,b2,b3,b4,b5⟩,h2⟩:=hE.code h1
 split at h2
 case h_2=>cases h2
 rename_i L2 b s p hl2 he2
 have hpl:L1.pend=L1.pend:=rfl
 refine uw (v:=.bool b) ⟨?_,?_,Nat.le_trans a4 b4,fun ν hv=>?_⟩ h2
 ·exact fun c x hx=>by rw [zda hl2];exact b1 c x (by rw [zda hl1];exact a1 c x hx)
 ·exact ((a2.trans (zrE hl1 .busy L1.pend)).trans b2).trans (zrE hl2 s p)
 ·obtain ⟨v1,o1⟩:=a5 ν hv
  have v1':VN ν R1.nx (jW R1.H l (.loop {L1 with st:=.busy})):=gQ (zda hl1) (zzz hl1) v1
  obtain ⟨v2,o2⟩:=b5 ν v1'
  refine ⟨gQ (zda hl2) (zzz hl2) v2,?_⟩
  have hcf':=zV hcf ν
  simp only [den] at hcf'
  have hlv:(zw ν H).get l=some (.loop (xf (rho ν H) L)):=by rw [zF,hl];rfl
  have key:=zAf (P:=P) (r:=rd) (o:=o) ho (R1:=zc8 ν R1) (R2:=zc8 ν R2) (L1:=xf (rho ν R1.H) L1) (L2:=xf (rho ν R2.H) L2) (b:=b) (s:=s) (p:=p) hcf' (zbg ν hvs) hlv (by rw [wU];exact hn)
   (by have:=o1;rw [zxp] at this;simpa [xf] using this) he1 hd1 (by show (zw ν R1.H).get l=_;rw [zF,hl1];rfl) hst
   (zAM o2 (fun φ K w g=>g.sub fun c x hx=>by rw [zxo hl1] at hx;exact hx) (fun φ ts ht=>by rw [yx (zda hl1)];exact ht))
   (by show (zw ν R2.H).get l=_;rw [zF,hl2];rfl) he2
  refine ZM key (fun φ v' hv=>by simpa only [den] using hv) (fun φ K w g=>g.sub fun c x hx=>?_)
  rw [zxo hl2] at hx
  exact hx
def opE (P:Program) (E:EvS R) (tm:List SV) (H:SH) (nx:Nat) (o:Oper) (k:KO R):Option R:=match o.op with
 |.call {callee:=.value cf,args:=args,argTypes:=_}=>match jX tm H cf,zfK tm H args.toList with
  |some (.fn f fs cs),some vs=>E.call f (fs++(vs++cs)) H nx k
  |some (.yld l),some vs=>zxq E l vs H nx k
  |_,_=>none
 |_=>zD0 P tm H nx o k
theorem zG5 {E:EvS R} (hE:E.Ok P) (hs:vZ P) {rd:Option Nat}:OpS P rd (opE P E):=by
 intro tm H nx o k r h
 unfold opE at h
 split at h
 ·rename_i cf args ats ho
  split at h
  ·rename_i f fs cs vs hcf hvs
   obtain ⟨v,H',nx',⟨⟨fn,hfn,hb⟩,a1,a2,a3,a4⟩,h2⟩:=hE.call h
   refine uw ⟨a1,a2,a3,fun ν hv=>?_⟩ h2
   obtain ⟨v1,o1⟩:=a4 ν hv
   refine ⟨v1,zBG ho hs hfn hb (f:=f) (fs:=(zp (rho ν H) fs).toArray) (cs:=(zp (rho ν H) cs).toArray) ?_ (zbg ν hvs) ?_⟩
   ·have:=zV hcf ν;simpa only [den] using this
   ·have:zp (rho ν H) (fs++(vs++cs))=zp (rho ν H) fs++zp (rho ν H) vs++zp (rho ν H) cs:=by simp [qA]
    rw [this] at o1
    exact o1
  ·rename_i l vs hcf hvs
   exact zCd hE ho hcf hvs h
  ·cases h
 ·exact zFW h
def opX (P:Program) (E:EvS R) (tm:List SV) (H:SH) (nx:Nat) (o:Oper) (k:KO R):Option R:=opE P E tm H nx o k
theorem zCe {E:EvS R} (hE:E.Ok P) (hs:vZ P) {rd:Option Nat}:OpS P rd (opX P E):=by
 intro tm H nx o k r h
 obtain ⟨v,H',nx',h1,h2⟩:=zG5 hE hs h
 exact ⟨v,H',nx',h1,h2⟩
def zrF:LoopState→Option Code→Option Exit
 |.busy,_=>none
 |_,none=>some .normal
 |_,some .ret=>some .ret
 |_,some (.exit i)=>some (.exit i)
 |_,some (.goto i)=>some (.goto i)
 |_,_=>none
theorem zpv {L:Loop} {tm:List Value} {ds:List Nat} {H:Hp} {nx:Nat} {e:Exit} (h:zrF L.state L.pending=some e):QP L tm ds H nx=some ⟨e,tm,ds,H,nx⟩:=by
 unfold zrF at h
 unfold QP
 split at h<;>first | (cases h;done) | skip
 all_goals (cases h;rename_i h1 h2;first
  |(rename_i h3;rw [h2];cases hs:L.state<;>first | rfl | (exact absurd hs h1) | (simp_all))
  |(cases hs:L.state<;>simp_all))
def zxr (E:EvS R) (rd:Option Nat) (g:Operand) (ps:Array Tmp) (assign body:Code) (tm:List SV) (ds:List Nat) (H:SH) (nx:Nat) (k:KC R):Option R:=match jX tm H g with
 |some (.fn f fs cs)=>match rd with
  |none=>match Wy H nx .defd with
   |some H1=>match Wy H1 (nx+1) (.loop ⟨tm,ps,assign,body,.ready,none,nx⟩) with
    |some H2=>E.call f (fs++(.yld (nx+1)::cs)) H2 (nx+2) fun _ H3 nx3=>match zk H3 (nx+1) with
     |some (.loop L)=>match zrF L.st L.pend with
      |some e=>k ⟨e,tm,nx::ds,jW H3 (nx+1) .abs,nx3⟩
      |none=>none
     |_=>none
    |none=>none
   |none=>none
  |some l0=>match zk H l0 with
   |some (.loop L0)=>match Wy H nx (.loop ⟨tm,ps,assign,body,.ready,none,L0.dfr⟩) with
    |some H2=>E.call f (fs++(.yld nx::cs)) H2 (nx+1) fun _ H3 nx3=>match zk H3 nx with
     |some (.loop L)=>match zrF L.st L.pend with
      |some e=>k ⟨e,tm,ds,jW H3 nx .abs,nx3⟩
      |none=>none
     |_=>none
    |none=>none
   |_=>none
 |_=>none
theorem zdb {H:SH} {l:Nat} {L:SL} (hl:zk H l=some (.loop L)) (c:Nat):reg (zk (jW H l .abs) c)=reg (zk H c):=by
 rw [qE]
 by_cases h:c=l
 ·subst h;simp [hl,reg]
 ·rw [if_neg h]
theorem zCf {H:SH} {l:Nat} {L:SL} (hl:zk H l=some (.loop L)) (c:Nat) (h:jc (zk (jW H l .abs) c)=true):jc (zk H c)=true:=by
 rw [qE] at h
 by_cases hc:c=l
 ·subst hc;simp [hl,jc] at h
 ·rwa [if_neg hc] at h
theorem zzA {ν:Nat→Bool} {H:SH} {l:Nat} {L:SL} (hl:zk H l=some (.loop L)) (c:Nat) (x:Blk) (h:(zw ν (jW H l .abs)).get c=some x):((zw ν H).del l).get c=some x:=by
 rw [zF,qE,yx (zdb hl)] at h
 rw [Hp.get_del]
 by_cases hc:c=l
 ·subst hc;simp [hl,zT] at h
 ·rw [if_neg hc] at h ⊢
  rw [zF];exact h
theorem zox {H:SH} {nx:Nat} {k:SB} (h:zk H nx=none) (hk:reg (some k)=none) (ν:Nat→Bool):rho ν ((nx,k)::H)=rho ν H:=yx (fun c=>by
 rw [zG]
 by_cases hc:nx=c
 ·subst hc;rw [if_pos rfl,hk,h];rfl
 ·rw [if_neg hc]) ν
theorem ztu {H:SH} {nx:Nat} {k:SB} (h:zk H nx=none) (hk:reg (some k)=none) {ν:Nat→Bool} {x:Blk} (hx:zT (rho ν H) (ν nx) k=some x):zw ν ((nx,k)::H)=(nx,x)::zw ν H:=by
 unfold zw
 rw [zox h hk]
 simp only [kG,hx]
theorem zCg {E:EvS R} (hE:E.Ok P) (hs:vZ P) {rd:Option Nat} {g:Operand} {ps:Array Tmp} {assign body:Code} {tm:List SV} {ds:List Nat} {H:SH} {nx:Nat} {k:KC R} {r:R} (h:zxr E rd g ps assign body tm ds H nx k=some r) :
  ∃S,Ya P rd (.rangeFunc g ps assign body) tm ds H nx S∧k S=some r:=by
 unfold zxr at h
 split at h
 case h_2=>cases h
 rename_i f fs cs hg
 split at h
 ·split at h
  case h_2=>cases h
  rename_i H1 hn1
  split at h
  case h_2=>cases h
  rename_i H2 hn2
  obtain ⟨q1,rfl⟩:=uv hn1
  obtain ⟨q2,rfl⟩:=uv hn2
  obtain ⟨v,H3,nx3,⟨⟨fn,hfn,hb⟩,a1,a2,a3,a4⟩,h2⟩:=hE.call h
  split at h2
  case h_2=>cases h2
  rename_i L hl
  split at h2
  case h_2=>cases h2
  rename_i e he
  have hq2:zk H (nx+1)=none:=by
   rw [zG,if_neg (by omega)] at q2;exact q2
  refine ⟨_,⟨?_,?_,JJ.refl _ _,?_,fun ν hv=>?_⟩,h2⟩
  ·exact fun c x hx=>by
    rw [zdb hl]
    exact a1 c x (kn q2 c x (kn q1 c x hx))
  ·intro m M hm
   have hne:m≠nx+1:=fun e=>by subst e;rw [hq2] at hm;cases hm
   obtain ⟨s,p,h3⟩:=((kY q1).trans (kY q2)).trans a2 m M hm
   exact ⟨s,p,by rw [qE,if_neg hne];exact h3⟩
  ·exact Nat.le_trans (by omega) a3
  ·have v2:VN ν (nx+2) ((nx+1,.loop ⟨tm,ps,assign,body,.ready,none,nx⟩)::(nx,.defd)::H):=YV (YV hv)
   obtain ⟨v3,o3⟩:=a4 ν v2
   refine ⟨gQ (zdb hl) (zCf hl) v3,?_⟩
   have hρ1:rho ν ((nx,SB.defd)::H)=rho ν H:=zox q1 rfl ν
   have hρ2:rho ν ((nx+1,SB.loop ⟨tm,ps,assign,body,.ready,none,nx⟩)::(nx,.defd)::H)=rho ν H:=(zox q2 rfl ν).trans hρ1
   have hd:zw ν ((nx+1,SB.loop ⟨tm,ps,assign,body,.ready,none,nx⟩)::(nx,.defd)::H)=(nx+1,.loop (KY (zp (rho ν H) tm) ps assign body nx))::(nx,.defd)::zw ν H:=by
    rw [ztu q2 rfl (x:=.loop (xf (rho ν H) ⟨tm,ps,assign,body,.ready,none,nx⟩)) (by simp only [zT,hρ1]),ztu q1 rfl (x:=.defd) rfl]
    rfl
   rw [hρ2,hd] at o3
   have hg':=zV hg ν
   simp only [den] at hg'
   have hargs:zp (rho ν H) (fs++(.yld (nx+1)::cs))=zp (rho ν H) fs++[.func (.yield (nx+1)) #[] #[]]++zp (rho ν H) cs:=by simp [qA,den]
   rw [hargs] at o3
   have key:=zpP (P:=P) (g:=g) (ps:=ps) (assign:=assign) (body:=body) (tm:=zp (rho ν H) tm) (ds:=ds) (nx:=nx) hs hfn hb hg' (by simpa using o3) (by rw [zF,hl];rfl) (zpv (L:=xf (rho ν H3) L) he)
   refine zis key rfl rfl rfl (fun φ K w g=>g.sub fun c x hx=>zzA hl c x hx) (fun φ ts ht=>?_)
   refine zpV ν (fun c x hx=>?_) ht
   rw [zdb hl]
   exact a1 c x (kn q2 c x (kn q1 c x hx))
 ·rename_i l0
  split at h
  case h_2=>cases h
  rename_i L0 hl0
  split at h
  case h_2=>cases h
  rename_i H2 hn2
  obtain ⟨q2,rfl⟩:=uv hn2
  obtain ⟨v,H3,nx3,⟨⟨fn,hfn,hb⟩,a1,a2,a3,a4⟩,h2⟩:=hE.call h
  split at h2
  case h_2=>cases h2
  rename_i L hl
  split at h2
  case h_2=>cases h2
  rename_i e he
  refine ⟨_,⟨?_,?_,JJ.refl _ _,?_,fun ν hv=>?_⟩,h2⟩
  ·exact fun c x hx=>by
    rw [zdb hl]
    exact a1 c x (kn q2 c x hx)
  ·intro m M hm
   have hne:m≠nx:=fun e=>by subst e;rw [q2] at hm;cases hm
   obtain ⟨s,p,h3⟩:=(kY q2).trans a2 m M hm
   exact ⟨s,p,by rw [qE,if_neg hne];exact h3⟩
  ·exact Nat.le_trans (by omega) a3
  ·have v2:VN ν (nx+1) ((nx,.loop ⟨tm,ps,assign,body,.ready,none,L0.dfr⟩)::H):=YV hv
   obtain ⟨v3,o3⟩:=a4 ν v2
   refine ⟨gQ (zdb hl) (zCf hl) v3,?_⟩
   have hρ2:rho ν ((nx,SB.loop ⟨tm,ps,assign,body,.ready,none,L0.dfr⟩)::H)=rho ν H:=zox q2 rfl ν
   have hd:zw ν ((nx,SB.loop ⟨tm,ps,assign,body,.ready,none,L0.dfr⟩)::H)=(nx,.loop (KY (zp (rho ν H) tm) ps assign body L0.dfr))::zw ν H:=by
    rw [ztu q2 rfl (x:=.loop (xf (rho ν H) ⟨tm,ps,assign,body,.ready,none,L0.dfr⟩)) rfl]
    rfl
   rw [hρ2,hd] at o3
   have hg':=zV hg ν
   simp only [den] at hg'
   have hargs:zp (rho ν H) (fs++(.yld nx::cs))=zp (rho ν H) fs++[.func (.yield nx) #[] #[]]++zp (rho ν H) cs:=by simp [qA,den]
   rw [hargs] at o3
   have key:=zlL (P:=P) (l0:=l0) (g:=g) (ps:=ps) (assign:=assign) (body:=body) (tm:=zp (rho ν H) tm) (ds:=ds) (nx:=nx) (L0:=xf (rho ν H) L0) hs hfn hb hg' (by rw [zF,hl0];rfl) (by simpa [xf] using o3) (by rw [zF,hl];rfl) (zpv (L:=xf (rho ν H3) L) he)
   refine zis key rfl rfl rfl (fun φ K w g=>g.sub fun c x hx=>zzA hl c x hx) (fun φ ts ht=>?_)
   refine zpV ν (fun c x hx=>?_) ht
   rw [zdb hl]
   exact a1 c x (kn q2 c x hx)
def zhT:List Nat→SH→Option SH
 |[],H=>some H
 |d::ds,H=>match zk H d with
  |some .defd=>zhT ds (jW H d .abs)
  |_=>none
theorem zxs {H:SH} {d:Nat} (hd:zk H d=some .defd) (c:Nat):reg (zk (jW H d .abs) c)=reg (zk H c):=by
 rw [qE]
 by_cases h:c=d
 ·subst h;simp [hd,reg]
 ·rw [if_neg h]
theorem zF0 {H:SH} {d:Nat} (hd:zk H d=some .defd) (c:Nat) (h:jc (zk (jW H d .abs) c)=true):jc (zk H c)=true:=by
 rw [qE] at h
 by_cases hc:c=d
 ·subst hc;simp [hd,jc] at h
 ·rwa [if_neg hc] at h
theorem zxt {ν:Nat→Bool}:∀{ds:List Nat} {H H1:SH} {Hd:Hp},(∀b,Hd.get b=(zw ν H).get b)→zhT ds H=some H1→∃Hd1,zd2 ds Hd=some Hd1∧(∀b,Hd1.get b=(zw ν H1).get b)
 |[],H,H1,Hd,hg,h=>by simp only [zhT,Option.some.injEq] at h;subst h;exact ⟨Hd,rfl,hg⟩
 |d::ds,H,H1,Hd,hg,h=>by
  simp only [zhT] at h
  split at h
  case h_2=>cases h
  rename_i hd
  have h1:Hd.get d=some .defd:=by rw [hg,zF,hd];rfl
  simp only [zd2,h1]
  refine zxt (fun b=>?_) h
  rw [Hp.get_del,zF,qE,yx (zxs hd)]
  by_cases hb:b=d
  ·subst hb;simp [hd,zT]
  ·rw [if_neg hb,if_neg hb,hg,zF]
theorem zuW:∀{ds:List Nat} {H H1:SH},zhT ds H=some H1→(∀c,reg (zk H1 c)=reg (zk H c))∧(∀c,jc (zk H1 c)=true→jc (zk H c)=true)∧wT H H1
 |[],H,H1,h=>by simp only [zhT,Option.some.injEq] at h;subst h;exact ⟨fun _=>rfl,fun _ h=>h,wT.refl _⟩
 |d::ds,H,H1,h=>by
  simp only [zhT] at h
  split at h
  case h_2=>cases h
  rename_i hd
  obtain ⟨h1,h2,h3⟩:=zuW h
  exact ⟨fun c=>(h1 c).trans (zxs hd c),fun c hc=>zF0 hd c (h2 c hc),(YU hd (fun L=>by simp)).trans h3⟩
def zp9 (P:Program) (H:SH) (tm:List SV):List ResultVar→Option (List SV)
 |[]=>some []
 |.tmp t::rs=>match jX tm H (.tmp t),zp9 P H tm rs with
  |some v,some vs=>some (v::vs)
  |_,_=>none
 |.cell a t::rs=>match jX tm H (.tmp a),zp9 P H tm rs with
  |some (.ptr b o),some vs=>match zv9 P H t (.ptr b o) with
   |some v=>some (v::vs)
   |none=>none
  |_,_=>none
theorem zEd {Hd Hd2:Hp} (h:∀b,Hd.get b=Hd2.get b) (t:TypeId) (v:Value):Qf P Hd t v=Qf P Hd2 t v:=by
 unfold Qf
 split
 ·rw [h]
 ·rfl
theorem ztv {ν:Nat→Bool} {H0 H:SH} {Hd:Hp} (hg:∀b,Hd.get b=(zw ν H).get b) {tm:List SV} (hr:rho ν H0=rho ν H):∀{rs:List ResultVar} {vs:List SV},zp9 P H tm rs=some vs→zeJ P Hd (zp (rho ν H0) tm) rs=some (zp (rho ν H) vs)
 |[],vs,h=>by simp only [zp9,Option.some.injEq] at h;subst h;simp [zeJ,zp]
 |.tmp t::rs,vs,h=>by
  simp only [zp9] at h
  split at h
  ·rename_i v us h1 h2
   cases h
   have e1:=zV h1 ν
   simp only [zeJ,ztv hg hr h2,zp]
   rw [hr,e1]
  ·cases h
 |.cell a t::rs,vs,h=>by
  simp only [zp9] at h
  split at h
  ·rename_i b o us h1 h2
   split at h
   case h_2=>cases h
   rename_i v hv
   cases h
   have e1:=zV h1 ν
   have e2:=zuL (ν:=ν) hv
   have e3:Qf P (zw ν H) t (den (rho ν H) (.ptr b o))=some (den (rho ν H) v):=by
    cases hd:Qf P (zw ν H) t (den (rho ν H) (.ptr b o)) with
    |some u=>rw [hd] at e2;exact e2
    |none=>rw [hd] at e2;simp [den,zgc,zpM] at e2
   simp only [zeJ,ztv hg hr h2,zp]
   rw [hr,e1,Option.bind_some,zEd hg,e3]
  ·cases h
def zaN:List SV→SV
 |[v]=>v
 |vs=>.tup vs
theorem UO (ρ:Nat→Value):∀vs:List SV,den ρ (zaN vs)=XT (zp ρ vs)
 |[]=>by simp [zaN,den,zp,XT]
 |[v]=>by simp [zaN,zp,XT]
 |_::_::_=>by simp [zaN,den,zp,XT]
def zFh:Exit→Bool
 |.normal=>true
 |.ret=>true
 |_=>false
def zrG (P:Program) (E:EvS R) (f:FuncId) (args:List SV) (H:SH) (nx:Nat) (k:KO R):Option R:=match zwj P f with
 |some fn=>match fn.body with
  |some c=>E.code none c (args++List.replicate (fn.ntmps - args.length) (.tup [])) [] H nx fun S=>bif zFh S.e then match zhT S.ds S.H with
   |some H1=>match zp9 P H1 S.tm fn.results.toList with
    |some vs=>k (zaN vs) H1 S.nx
    |none=>none
   |none=>none
   else none
  |none=>none
 |none=>none
theorem ztw (ρ:Nat→Value) (n:Nat):zp ρ (List.replicate n (.tup []))=List.replicate n undef:=by
 simp [qA,den,undef,zp]
theorem zqa {E:EvS R} (hE:E.Ok P) {f:FuncId} {args:List SV} {H:SH} {nx:Nat} {k:KO R} {r:R} (h:zrG P E f args H nx k=some r):∃v H' nx',zhS P f args H nx v H' nx'∧k v H' nx'=some r:=by
 unfold zrG at h
 split at h
 case h_2=>cases h
 rename_i fn hfn
 rw [zs6] at hfn
 split at h
 case h_2=>cases h
 rename_i c hb
 obtain ⟨S,⟨a1,a2,a3,a4,a5⟩,h1⟩:=hE.code h
 have h6:=zx h1
 clear h1
 obtain ⟨he,h1⟩:=h6
 split at h1
 case h_2=>cases h1
 rename_i H1 hk
 split at h1
 case h_2=>cases h1
 rename_i vs hv
 obtain ⟨k1,k2,k3⟩:=zuW hk
 refine ⟨_,_,_,⟨⟨fn,hfn,by rw [hb];rfl⟩,fun c x hx=>by rw [k1 c];exact a1 c x hx,a2.trans k3,a4,fun ν hv2=>?_⟩,h1⟩
 obtain ⟨v1,o1⟩:=a5 ν hv2
 refine ⟨gQ k1 k2 v1,?_⟩
 obtain ⟨Hd1,e1,e2⟩:=zxt (ν:=ν) (fun _=>rfl) hk
 have hr:=ztv (P:=P) (ν:=ν) (H0:=S.H) e2 (yx k1 ν).symm hv
 have hlen:(zp (rho ν H) args).length=args.length:=wU _ _
 have o1':jO P none c (zp (rho ν H) args++List.replicate (fn.ntmps - (zp (rho ν H) args).length) undef) [] (zw ν H) nx (zc8 ν S):=by
  rw [hlen,←ztw (rho ν H),qA,qA,←List.map_append,←qA]
  exact o1
 have key:=zBJ (P:=P) (f:=f) (R:=zc8 ν S) (H2:=Hd1) hfn hb o1' (by
  unfold zFh at he
  show S.e=.normal∨S.e=.ret
  split at he<;>simp_all) e1 hr (fun _ _ h=>h)
 rw [UO]
 exact zAm key fun b x hx=>by rw [e2];exact hx
theorem ZN {φ φ0:Ren} (hF:∀b L,φ (FZ+b)=some L→φ0 (FZ+b)=some L):∀(t:Ty) (x:T t) (c:Value),c∈qn t x→∀v',zo φ c v'→zo φ0 c v'
 |.unit,x,c,hc,v',h=>by simp [qn] at hc
 |.bool,x,c,hc,v',h=>by
  simp only [qn,List.mem_singleton] at hc
  subst hc;cases h;exact .bool _
 |.int k,x,c,hc,v',h=>by
  simp only [qn,List.mem_singleton] at hc
  subst hc;cases h;exact .int _ _
 |.str,x,c,hc,v',h=>by
  simp only [qn,List.mem_singleton] at hc
  subst hc;cases h;exact .str _
 |.list t,l,c,hc,v',h=>by
  simp only [qn,List.mem_singleton] at hc
  subst hc
  unfold fzV at h ⊢
  simp only [cond_false] at h ⊢
  generalize hs:sz t=s at h ⊢
  generalize he:(List.map (fun x=>Value.agg (qn t x).toArray) l).toArray=es at h ⊢
  cases h with
  |fz _ _ b o c L hL hn ho hc hsz h=>
   refine .fz _ _ b o c L (hF b L hL) hn ho hc hsz fun j k e u u' h1 h2 h3=>?_
   rw [←he] at h1
   simp only [List.getElem?_toArray,List.getElem?_map,Option.map_eq_some_iff] at h1
   obtain ⟨x,hx,rfl⟩:=h1
   refine ZN hF t x u ?_ u' (h j k (Value.agg (qn t x).toArray) u u' (by rw [←he];simp [hx]) h2 h3)
   simp only [Value.cells,List.getElem?_toArray] at h2
   exact List.mem_of_getElem? h2
  |fz0 _ a c=>exact .fz0 _ _ _
 |.pair a b,x,c,hc,v',h=>by
  simp only [qn,List.mem_append] at hc
  rcases hc with hc | hc
  ·exact ZN hF a x.1 c hc v' h
  ·exact ZN hF b x.2 c hc v' h
theorem zfP {φ φ0:Ren} (hF:∀b L,φ (FZ+b)=some L→φ0 (FZ+b)=some L) {t:Ty} {x:T t} {us:List Value} (h:zy φ (qn t x) us):zy φ0 (qn t x) us:=by
 refine zy.of_get h.length fun i v v' hv hv'=>?_
 obtain ⟨u,h1,h2⟩:=h.get hv
 rw [hv'] at h1;cases h1
 exact ZN hF t x v (List.mem_of_getElem? hv) _ h2
theorem zuX {φ φ0:Ren} (hF:∀b L,φ (FZ+b)=some L→φ0 (FZ+b)=some L) {ρ:Nat→Value} (t:VT) (x:T t.ty) {v':Value} (h:zo φ (den ρ (mkV t x)) v'):zo φ0 (den ρ (mkV t x)) v':=by
 obtain ⟨ag,ty⟩:=t
 cases ag with
 |true=>
  simp only [mkV,cond_true,den] at h ⊢
  obtain ⟨ys,rfl,hl⟩:=h.agg_inv
  refine .agg' ?_
  rw [qA,yH] at hl ⊢
  simp only at hl ⊢
  exact zfP hF (by simpa using hl)
 |false=>
  simp only [mkV,cond_false] at h ⊢
  have h2:=yH ρ ty x
  match he:wJ ty x with
  |[v]=>
   rw [he] at h h2
   simp only [mk1,List.map_cons,List.map_nil] at h h2 ⊢
   exact ZN hF ty x _ (by rw [←h2];simp) _ h
  |[]=>rw [he] at h;simp [mk1,den] at h;exact (UE h).elim
  |_::_::_=>rw [he] at h;simp [mk1,den] at h;exact (UE h).elim
@[reducible] def zJ (l:List VT):Ty:=List.rec (motive:=fun _=>Ty) .unit (fun a _ ih=>.pair a.ty ih) l
def XV:(l:List VT)→List SV→SH→Option (T (zJ l)×SH)
 |[],[],H=>some ((),H)
 |a::r,v::vs,H=>match cvV a v H with
  |some (x,H1)=>match XV r vs H1 with
   |some (y,H2)=>some ((x,y),H2)
   |none=>none
  |none=>none
 |_,_,_=>none
def wa:(l:List VT)→T (zJ l)→List SV
 |[],_=>[]
 |a::r,x=>mkV a (p1 x)::wa r (p2 x)
theorem zd8:∀{l:List VT} {vs:List SV} {H H':SH} {x:T (zJ l)},XV l vs H=some (x,H')→
  vy H H'∧∀ν G,GLe H' G→∀(φ:Ren) (K:Nat→Prop) (w:World) (nx:Nat) (us:List Value),zA φ (zw ν G) K w→VN ν nx G→zy φ (zp (rho ν H) vs) us→∀ρ,zy φ (zp ρ (wa l x)) us
 |[],[],H,H',x,h=>by
  simp only [XV] at h
  cases h
  exact ⟨vy.refl _,fun ν G hG φ K w nx us g hv hr ρ=>by simpa [zp,wa] using hr⟩
 |a::r,v::vs,H,H',x,h=>by
  simp only [XV] at h
  split at h
  case h_2=>cases h
  rename_i x1 H1 h1
  split at h
  case h_2=>cases h
  rename_i y H2 h2
  cases h
  obtain ⟨g1,r1⟩:=zrn h1
  obtain ⟨g2,r2⟩:=zd8 h2
  refine ⟨g1.trans g2,fun ν G hG φ K w nx us g hv hr ρ=>?_⟩
  match us,hr with
  |[],hr=>simp [zp,zy] at hr
  |u::us,hr=>
   simp only [zp,zy,wa] at hr ⊢
   refine ⟨r1 ν G (g2.1.trans hG) φ K w nx u g hv hr.1 ρ,r2 ν G hG φ K w nx us g hv ?_ ρ⟩
   rw [g1.1.rho ν];exact hr.2
 |[],_::_,_,_,_,h=>by simp [XV] at h
 |_::_,[],_,_,_,h=>by simp [XV] at h
theorem UP {φ φ0:Ren} (hF:∀b L,φ (FZ+b)=some L→φ0 (FZ+b)=some L) {ρ:Nat→Value}:∀(l:List VT) (x:T (zJ l)) {us:List Value},zy φ (zp ρ (wa l x)) us→zy φ0 (zp ρ (wa l x)) us
 |[],x,[],h=>trivial
 |[],x,_::_,h=>by simp [wa,zp,zy] at h
 |a::r,x,[],h=>by simp [wa,zp,zy] at h
 |a::r,x,u::us,h=>by
  simp only [wa,zp,zy] at h ⊢
  exact ⟨zuX hF a x.1 h.1,UP hF r x.2 h.2⟩
theorem zrH {φ φ0:Ren} (hF:∀b L,φ (FZ+b)=some L→φ0 (FZ+b)=some L) {ρ:Nat→Value} (l:List VT) (x:T (zJ l)) {v':Value} (h:zo φ (den ρ (zaN (wa l x))) v'):zo φ0 (den ρ (zaN (wa l x))) v':=by
 rw [UO] at h ⊢
 have key:=fun (us:List Value) (hr:zy φ (zp ρ (wa l x)) us)=>UP hF l x hr
 generalize zp ρ (wa l x)=vs at h key
 match vs,h,key with
 |[],h,key=>
  simp only [XT] at h ⊢
  obtain ⟨ys,rfl,hl⟩:=h.tuple_inv
  exact .tuple' (key _ hl)
 |[v],h,key=>
  simp only [XT] at h ⊢
  exact (key [v'] ⟨h,trivial⟩).1
 |a::b::r,h,key=>
  simp only [XT] at h ⊢
  obtain ⟨ys,rfl,hl⟩:=h.tuple_inv
  exact .tuple' (key _ hl)
structure Con where
 args:List VT
 res:List VT
 F:T (zJ args)→Option (T (zJ res))
def Con.Ok (P:Program) (f:FuncId) (c:Con):Prop:=(∃fn,P.funcs[f]?=some fn∧fn.body.isSome=true)∧
 ∀x r,c.F x=some r→∃Hd nx',nx'≤FZ∧gN P f (zp (fun _=>bad) (wa c.args x)) [] 0 (den (fun _=>bad) (zaN (wa c.res r))) Hd nx'
theorem zCh {f:FuncId} {args:List Value} {Hd:Hp} {nx':Nat} {v:Value} (hz:nx'≤FZ) (h:gN P f args [] 0 v Hd nx') (ha:∀φ φ0:Ren,(∀b L,φ (FZ+b)=some L→φ0 (FZ+b)=some L)→∀us,zy φ args us→zy φ0 args us)
  (hv:∀φ φ0:Ren,(∀b L,φ (FZ+b)=some L→φ0 (FZ+b)=some L)→∀v',zo φ v v'→zo φ0 v v') (H:Hp) (nx:Nat):gN P f args H nx v H nx:=by
 refine ⟨Nat.le_refl _,fun φ w K us g hf hl=>?_⟩
 let φ0:Ren:=fun b=>if FZ≤b then φ b else none
 have e0:∀b,φ0 (FZ+b)=φ (FZ+b):=fun b=>by simp only [φ0,show FZ≤FZ+b by omega,if_true]
 have g0:zA φ0 [] (fun c=>c < w.heap.size) w:=⟨fun b k hb=>by simp [Hp.get_nil] at hb,fun b c k k' L L' hb=>by simp [Hp.get_nil] at hb,fun b k L hb=>by simp [Hp.get_nil] at hb,fun c hc=>hc,fun b L hL=>g.fz b L (by rw [←e0];exact hL),fun b k L c M hb=>by simp [Hp.get_nil] at hb⟩
 refine Calls.mono (h.2 φ0 w (fun c=>c < w.heap.size) us g0 ⟨hz,fun b _ hb=>by simp only [φ0,show ¬FZ≤b by omega,if_false]⟩ (ha φ φ0 (fun b L hL=>by rw [e0];exact hL) us hl)) ?_
 rintro e w' ⟨v',φ',rfl,x1,x2,x3,x4⟩
 let φ2:Ren:=fun b=>if FZ≤b then φ' b else φ b
 have e2:∀b,φ2 (FZ+b)=φ' (FZ+b):=fun b=>by simp only [φ2,show FZ≤FZ+b by omega,if_true]
 have e3:∀b,b < FZ→φ2 b=φ b:=fun b hb=>by simp only [φ2,show ¬FZ≤b by omega,if_false]
 have hle:φ.le φ2:=fun b L hb=>by
  by_cases hz:FZ≤b
  ·simp only [φ2,hz,if_true]
   exact x2.1 b L (by simp only [φ0,hz,if_true];exact hb)
  ·simp only [φ2,hz,if_false];exact hb
 have hnew:∀b L,φ2 (FZ+b)=some L→φ (FZ+b)=some L∨¬b < w.heap.size:=fun b L hL=>by
  rw [e2] at hL
  rcases x2.2.2 b L hL with h1 | h1
  ·rw [e0] at h1;exact .inl h1
  ·exact .inr h1
 have hname:∀b k,H.get b=some k→b < FZ∨∃L,φ b=some L:=fun b k hb=>by
  obtain ⟨L,hL,_⟩:=g.rel b k hb
  exact .inr ⟨L,hL⟩
 have hφ2:∀b k L,H.get b=some k→φ2 b=some L→φ b=some L:=fun b k L hb hL=>by
  obtain ⟨M,hM,_⟩:=g.rel b k hb
  have:=hle b M hM
  rw [hL] at this;cases this;exact hM
 refine ⟨v',φ2,rfl,hv φ' φ2 (fun b L hL=>by rw [e2];exact hL) v' x1,⟨hle,fun b hz _=>e3 b hz,fun b L hL=>(hnew b L hL).imp id fun h1 h2=>h1 (g.kin b h2)⟩,?_,⟨x4.os,x4.tape,x4.output,x4.size,fun c hc=>x4.kept c (g.kin c hc)⟩⟩
 refine ⟨fun b k hb=>?_,fun b c k k' L L' hb hc hne hkr hL hL'=>g.sep b c k k' L L' hb hc hne hkr (hφ2 b k L hb hL) (hφ2 c k' L' hc hL'),fun b k L hb hkr hL=>g.prot b k L hb hkr (hφ2 b k L hb hL),fun c hc=>Nat.lt_of_lt_of_le (g.kin c hc) x4.size,fun b L hL=>x3.fz b L (by rw [←e2];exact hL),fun b k L c M hb hkr hL hM=>?_⟩
 ·obtain ⟨L,hL,hB⟩:=g.rel b k hb
  exact ⟨L,hle b L hL,(hB.congr (x4.kept L.blk hB.lt)).mono hle⟩
 ·have hL1:=hφ2 b k L hb hL
  rcases hnew c M hM with h1 | h1
  ·exact g.fsep b k L c M hb hkr hL1 h1
  ·have:=(g.at hb hL1).lt
   omega
def zjf:Ty→Bool
 |.list _=>false
 |.pair a b=>zjf a&&zjf b
 |_=>true
def zmT:List VT→Bool
 |[]=>true
 |a::r=>zjf a.ty&&zmT r
theorem zhU {φ φ0:Ren}:∀(t:Ty) (x:T t) (_:zjf t=true) (c:Value),c∈qn t x→∀v',zo φ c v'→zo φ0 c v'
 |.unit,x,_,c,hc,v',h=>by simp [qn] at hc
 |.bool,x,_,c,hc,v',h=>by
  simp only [qn,List.mem_singleton] at hc
  subst hc;cases h;exact .bool _
 |.int k,x,_,c,hc,v',h=>by
  simp only [qn,List.mem_singleton] at hc
  subst hc;cases h;exact .int _ _
 |.str,x,_,c,hc,v',h=>by
  simp only [qn,List.mem_singleton] at hc
  subst hc;cases h;exact .str _
 |.list t,l,hp,c,hc,v',h=>by cases hp
 |.pair a b,x,hp,c,hc,v',h=>by
  simp only [zjf,Bool.and_eq_true] at hp
  simp only [qn,List.mem_append] at hc
  rcases hc with hc | hc
  ·exact zhU a x.1 hp.1 c hc v' h
  ·exact zhU b x.2 hp.2 c hc v' h
theorem zCi {φ φ0:Ren} {ρ:Nat→Value} (t:VT) (x:T t.ty) (hp:zjf t.ty=true) {v':Value} (h:zo φ (den ρ (mkV t x)) v'):zo φ0 (den ρ (mkV t x)) v':=by
 obtain ⟨ag,ty⟩:=t
 cases ag with
 |true=>
  simp only [mkV,cond_true,den] at h ⊢
  obtain ⟨ys,rfl,hl⟩:=h.agg_inv
  refine .agg' ?_
  rw [qA,yH] at hl ⊢
  simp only at hl ⊢
  have hl:zy φ (qn ty x) ys.toList:=by simpa using hl
  refine zy.of_get hl.length fun i v v' hv hv'=>?_
  obtain ⟨u,h1,h2⟩:=hl.get hv
  rw [hv'] at h1;cases h1
  exact zhU ty x hp v (List.mem_of_getElem? hv) _ h2
 |false=>
  simp only [mkV,cond_false] at h ⊢
  have h2:=yH ρ ty x
  match he:wJ ty x with
  |[v]=>
   rw [he] at h h2
   simp only [mk1,List.map_cons,List.map_nil] at h h2 ⊢
   exact zhU ty x hp _ (by rw [←h2];simp) _ h
  |[]=>rw [he] at h;simp [mk1,den] at h;exact (UE h).elim
  |_::_::_=>rw [he] at h;simp [mk1,den] at h;exact (UE h).elim
theorem zmU {φ φ0:Ren} {ρ:Nat→Value}:∀(l:List VT) (x:T (zJ l)) (_:zmT l=true) {us:List Value},zy φ (zp ρ (wa l x)) us→zy φ0 (zp ρ (wa l x)) us
 |[],x,_,[],h=>trivial
 |[],x,_,_::_,h=>by simp [wa,zp,zy] at h
 |a::r,x,_,[],h=>by simp [wa,zp,zy] at h
 |a::r,x,hp,u::us,h=>by
  simp only [zmT,Bool.and_eq_true] at hp
  simp only [wa,zp,zy] at h ⊢
  exact ⟨zCi a x.1 hp.1 h.1,zmU r x.2 hp.2 h.2⟩
theorem zAN {φ φ0:Ren} {ρ:Nat→Value} (l:List VT) (x:T (zJ l)) (hp:zmT l=true) {v':Value} (h:zo φ (den ρ (zaN (wa l x))) v'):zo φ0 (den ρ (zaN (wa l x))) v':=by
 rw [UO] at h ⊢
 have key:=fun (us:List Value) (hr:zy φ (zp ρ (wa l x)) us)=>zmU (φ0:=φ0) l x hp hr
 generalize zp ρ (wa l x)=vs at h key
 match vs,h,key with
 |[],h,key=>
  simp only [XT] at h ⊢
  obtain ⟨ys,rfl,hl⟩:=h.tuple_inv
  exact .tuple' (key _ hl)
 |[v],h,key=>
  simp only [XT] at h ⊢
  exact (key [v'] ⟨h,trivial⟩).1
 |a::b::r,h,key=>
  simp only [XT] at h ⊢
  obtain ⟨ys,rfl,hl⟩:=h.tuple_inv
  exact .tuple' (key _ hl)
theorem zAO {f:FuncId} {args:List Value} {Hd:Hp} {nx':Nat} {v:Value} (hz:nx'≤FZ) (h:gN P f args [] 0 v Hd nx') (ha:∀φ φ0:Ren,(∀b L,φ (FZ+b)=some L→φ0 (FZ+b)=some L)→∀us,zy φ args us→zy φ0 args us)
  (hv:∀(φ φ0:Ren) v',zo φ v v'→zo φ0 v v') {φ φ1:Ren} {H:Hp} {K:Nat→Prop} {w:World} {us:List Value} (g:zA φ H K w) (g1:∀b L,φ1 (FZ+b)=some L→zpJ w b L) (hl:zy φ1 args us) :
  Calls P f us.toArray w fun e w'=>∃v',e=.returned v'∧zo φ v v'∧zA φ H K w'∧qC K w w':=by
 let φ0:Ren:=fun b=>if FZ≤b then φ1 b else none
 have e0:∀b,φ0 (FZ+b)=φ1 (FZ+b):=fun b=>by simp only [φ0,show FZ≤FZ+b by omega,if_true]
 have g0:zA φ0 [] (fun c=>c < w.heap.size) w:=⟨fun b k hb=>by simp [Hp.get_nil] at hb,fun b c k k' L L' hb=>by simp [Hp.get_nil] at hb,fun b k L hb=>by simp [Hp.get_nil] at hb,fun c hc=>hc,fun b L hL=>g1 b L (by rw [←e0];exact hL),fun b k L c M hb=>by simp [Hp.get_nil] at hb⟩
 refine Calls.mono (h.2 φ0 w (fun c=>c < w.heap.size) us g0 ⟨hz,fun b _ hb=>by simp only [φ0,show ¬FZ≤b by omega,if_false]⟩ (ha φ1 φ0 (fun b L hL=>by rw [e0];exact hL) us hl)) ?_
 rintro e w' ⟨v',φ',rfl,x1,x2,x3,x4⟩
 refine ⟨v',rfl,hv φ' φ v' x1,⟨fun b k hb=>?_,g.sep,g.prot,fun c hc=>Nat.lt_of_lt_of_le (g.kin c hc) x4.size,fun b L hL=>?_,g.fsep⟩,⟨x4.os,x4.tape,x4.output,x4.size,fun c hc=>x4.kept c (g.kin c hc)⟩⟩
 ·obtain ⟨L,hL,hB⟩:=g.rel b k hb
  exact ⟨L,hL,hB.congr (x4.kept L.blk hB.lt)⟩
 ·obtain ⟨h1,h2,a,el,fr,h3,h4⟩:=g.fz b L hL
  refine ⟨h1,h2,a,el,fr,?_,h4⟩
  rw [x4.kept b (by
   have:=(Array.getElem?_eq_some_iff.1 h3).1
   exact this)]
  exact h3
def zEe (c:Con) (args:List SV) (H:SH) (nx:Nat) (k:KO R):Option R:=match XV c.args args H with
 |some (x,H1)=>bif zmT c.res then opt (c.F x) fun r=>k (zaN (wa c.res r)) H nx else opt (c.F x) fun r=>k (zaN (wa c.res r)) H1 nx
 |none=>none
theorem zgo (l:List VT) (x:T (zJ l)) (ρ ρ':Nat→Value):zp ρ (wa l x)=zp ρ' (wa l x):=by
 have hc:∀(t:Ty) (y:T t),zp ρ (wJ t y)=zp ρ' (wJ t y):=fun t y=>by rw [qA,qA,yH,yH]
 have hv:∀(t:VT) (y:T t.ty),den ρ (mkV t y)=den ρ' (mkV t y):=fun t y=>by
  obtain ⟨ag,ty⟩:=t
  cases ag with
  |true=>simp only [mkV,cond_true,den];rw [hc ty y]
  |false=>
   simp only [mkV,cond_false]
   have:=hc ty y
   match he:wJ ty y with
   |[v]=>rw [he] at this;simpa [mk1,zp] using this
   |[]=>simp [mk1,den]
   |_::_::_=>simp [mk1,den]
 induction l with
 |nil=>rfl
 |cons a r ih=>simp only [wa,zp,hv a x.1,ih x.2]
theorem zF1 {f:FuncId} {c:Con} (hc:c.Ok P f) {args:List SV} {H:SH} {nx:Nat} {k:KO R} {r:R} (h:zEe c args H nx k=some r):∃v H' nx',zhS P f args H nx v H' nx'∧k v H' nx'=some r:=by
 unfold zEe at h
 split at h
 case h_2=>cases h
 rename_i x H1 hx
 obtain ⟨hg,hr⟩:=zd8 hx
 rcases vB h with ⟨hp,h⟩ | ⟨_,h⟩
 ·obtain ⟨y,hy,h2⟩:=JI h
  obtain ⟨Hd,n1,hz,hcall⟩:=hc.2 x y hy
  refine ⟨_,_,_,⟨hc.1,wN.refl H,wT.refl H,Nat.le_refl _,fun ν hv=>⟨hv,Nat.le_refl _,fun φ w K us g hf hl=>?_⟩⟩,h2⟩
  obtain ⟨φ1,e1,g1⟩:=hg.2 ν φ K w g
  have hl1:=hr ν H1 (GLe.refl _) φ1 K w nx us g1 (hg.1.vn hv) (hl.mono (e1 0).1) (fun _=>bad)
  refine Calls.mono (zAO hz hcall (fun φ φ0 hF us h=>UP hF c.args x h) (fun φ φ0 v' h=>zAN c.res y hp h) g g1.fz hl1) ?_
  rintro e w' ⟨v',rfl,x1,x3,x4⟩
  refine ⟨v',φ,rfl,?_,Ext.refl _ _ _ _,x3,x4⟩
  rw [UO] at x1 ⊢
  rwa [zgo c.res y (rho ν H) (fun _=>bad)]
 obtain ⟨y,hy,h2⟩:=JI h
 obtain ⟨Hd,n1,hz,hcall⟩:=hc.2 x y hy
 refine ⟨_,_,_,⟨hc.1,hg.1.regLe,hg.1.lkeep,Nat.le_refl _,fun ν hv=>⟨hg.1.vn hv,Nat.le_refl _,fun φ w K us g hf hl=>?_⟩⟩,h2⟩
 obtain ⟨φ1,e1,g1⟩:=hg.2 ν φ K w g
 have hl1:=hr ν H1 (GLe.refl _) φ1 K w nx us g1 (hg.1.vn hv) (hl.mono (e1 0).1) (fun _=>bad)
 have hd:=zCh hz hcall (fun φ φ0 hF us h=>UP hF c.args x h) (fun φ φ0 hF v' h=>zrH hF c.res y h) (zw ν H1) nx
 refine Calls.mono (hd.2 φ1 w K us g1 (zhN (mid:=0) hf e1) hl1) ?_
 rintro e w' ⟨v',φ',rfl,x1,x2,x3,x4⟩
 refine ⟨v',φ',rfl,?_,(e1 nx).comp x2,x3,x4⟩
 rw [UO] at x1 ⊢
 rwa [zgo c.res y (rho ν H1) (fun _=>bad)]
end Go.Fz.Sy
end
