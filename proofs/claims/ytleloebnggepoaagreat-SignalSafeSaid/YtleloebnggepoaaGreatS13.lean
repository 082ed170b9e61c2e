/- Parts of a proof, joined. -/
import Derived.IntWalk
import Derived.Test.YtleloebnggepoaaGreatS12
set_option linter.unusedSectionVars false
set_option linter.unusedVariables false
set_option linter.unusedSimpArgs false
set_option maxHeartbeats 0
set_option maxRecDepth 100000
noncomputable section
namespace Go.Fz.Sy
variable {P:Program} {φ:Ren} {K:Nat→Prop} {w:World} {R:Type}
def hiI (n:Nat):Option Int→Option Nat
 |none=>some n
 |some (.ofNat q)=>bif Nat.ble q n then some q else none
 |some (.negSucc _)=>none
def loI (h:Nat):Option Int→Option Nat
 |none=>some 0
 |some (.ofNat p)=>bif Nat.ble p h then some p else none
 |some (.negSucc _)=>none
def mxI (h:Nat):Option Int→Bool
 |none=>true
 |some (.ofNat m)=>Nat.beq m h
 |some (.negSucc _)=>false
def ue {α:Type} (l:List α) (lo hi mx:Option Int):Option (List α):=match hiI l.length hi with
 |some h=>match loI h lo with
  |some p=>bif mxI h mx then some ((l.take h).drop p) else none
  |none=>none
 |none=>none
def zav:Option SV→Option (Option Int)
 |none=>some none
 |some (.int _ z)=>some (some z)
 |_=>none
theorem zFb {n h:Nat} {v:Option SV} {z:Option Int} {ρ:Nat→Value} (hz:zav v=some z) (h1:hiI n z=some h):zq1 (v.map (den ρ)) n n=some h∧h≤n∧∀u,v=some u→∀m,h≤m→bnd (den ρ u) m=some h:=by
 unfold zav at hz
 split at hz
 ·cases hz
  simp only [hiI,Option.some.injEq] at h1
  subst h1
  exact ⟨by simp [zq1],Nat.le_refl _,fun u hu=>by cases hu⟩
 ·rename_i k z
  cases hz
  unfold hiI at h1
  split at h1
  ·rename_i he;cases he
  ·rename_i q he
   cases he
   obtain ⟨h2,h3⟩:=zw h1
   cases h3
   have h2:=Nat.le_of_ble_eq_true h2
   refine ⟨?_,h2,fun u hu m hm=>?_⟩
   ·simp [zq1,den,bnd,h2]
   ·cases hu
    simp [den,bnd,hm]
  ·cases h1
 ·cases hz
theorem zFc {h p:Nat} {v:Option SV} {z:Option Int} {ρ:Nat→Value} (hz:zav v=some z) (h1:loI h z=some p):zsV (v.map (den ρ)) h=some p∧p≤h:=by
 unfold zav at hz
 split at hz
 ·cases hz
  simp only [loI,Option.some.injEq] at h1
  subst h1
  exact ⟨rfl,Nat.zero_le _⟩
 ·rename_i k z
  cases hz
  unfold loI at h1
  split at h1
  ·rename_i he;cases he
  ·rename_i q he
   cases he
   obtain ⟨h2,h3⟩:=zw h1
   cases h3
   have h2:=Nat.le_of_ble_eq_true h2
   exact ⟨by simp [zsV,den,bnd,h2],h2⟩
  ·cases h1
 ·cases hz
theorem zBC {α:Type} {l l':List α} {lo hi mx:Option SV} {a b c:Option Int} {ρ:Nat→Value} (ha:zav lo=some a) (hb:zav hi=some b) (hc:zav mx=some c) (hhi:mx.isSome=true→hi.isSome=true) (h:ue l a b c=some l') :
  ∃p q,zf1 l.length l.length (lo.map (den ρ)) (hi.map (den ρ)) (mx.map (den ρ))=some (p,q,mx.map fun _=>q)∧p≤q∧q≤l.length∧l'=(l.take q).drop p∧(hi=none→q=l.length):=by
 unfold ue at h
 split at h
 case h_2=>cases h
 rename_i q hq
 split at h
 case h_2=>cases h
 rename_i p hp
 obtain ⟨h1,h2⟩:=zw h
 cases h2
 obtain ⟨e1,e2,e3⟩:=zFb (ρ:=ρ) hb hq
 obtain ⟨f1,f2⟩:=zFc (ρ:=ρ) ha hp
 refine ⟨p,q,?_,f2,e2,rfl,fun hn=>?_⟩
 ·cases mx with
  |none=>
   simp only [Option.map_none,zf1,e1,f1,Option.bind_some]
  |some m=>
   cases hi with
   |none=>simp at hhi
   |some hv=>
    have hm:bnd (den ρ m) l.length=some q:=by
     unfold zav at hc
     split at hc
     ·rename_i he;cases he
     ·rename_i k z he
      cases he
      cases hc
      unfold mxI at h1
      split at h1
      ·rename_i he;cases he
      ·rename_i y he
       cases he
       have:=Nat.eq_of_beq_eq_true h1
       subst this
       simp [den,bnd,e2]
      ·cases h1
     ·cases hc
    simp only [Option.map_some,zf1,hm,Option.bind_some,e3 hv rfl q (Nat.le_refl _),f1]
 ·subst hn
  simp only [zav,Option.some.injEq] at hb
  subst hb
  simp only [hiI,Option.some.injEq] at hq
  exact hq.symm
theorem zuB {s:Nat} {full:Bool} {es:List Value} {v':Value} (h:zo φ (fzV s full es) v'):zo φ (fzV s false es) v':=by
 cases full with
 |false=>exact h
 |true=>
  unfold fzV at h ⊢
  simp only [cond_true,cond_false] at h ⊢
  generalize es.toArray=a at h ⊢
  cases h with
  |fq _ _ b o L hL hn ho hs h=>exact .fz _ _ b o _ L hL hn ho (Nat.le_refl _) hs h
  |fq0 _ a=>exact .fz0 _ _ _
theorem zuC {t e:TypeId} {ie:TypeInfo} {ty:Ty} {l l':List (T ty)} {full:Bool} {lo hi mx:Option SV} {a b c:Option Int} {ρ:Nat→Value} (hu:jw P t=some (.slice e)) (hie:jC P e=some ie) (hsz:ie.size=sz ty) (ha:zav lo=some a) (hb:zav hi=some b)
  (hc:zav mx=some c) (hhi:mx.isSome=true→hi.isSome=true) (h:ue l a b c=some l') {x':Value} {lo' hi' mx':Option Value} (hx:zo φ (fzV (sz ty) full (l.map (yC ty))) x') (h1:Uj φ (lo.map (den ρ)) lo') (h2:Uj φ (hi.map (den ρ)) hi') (h3:Uj φ (mx.map (den ρ)) mx') (w:World) :
  ∃v',(Instr.sliceAt t x' lo' hi' mx').run P w=.ok v' w∧zo φ (fzV (sz ty) (mx.isSome||(full&&hi.isNone)) (l'.map (yC ty))) v':=by
 obtain ⟨p,q,e1,e2,e3,e4,e5⟩:=zBC (ρ:=ρ) ha hb hc hhi h
 have hlen:((l.map (yC ty)).toArray).size=l.length:=by simp
 have hext:((l.map (yC ty)).toArray).extract p q=(l'.map (yC ty)).toArray:=by
  apply Array.ext'
  rw [e4]
  simp [List.drop_take,List.map_drop,List.map_take]
 have hes:ZL (fzV (sz ty) full (l.map (yC ty)))=some (sz ty,(l.map (yC ty)).toArray,full):=by cases full<;>simp [fzV,ZL]
 have key:∃f2,ziT P t (fzV (sz ty) full (l.map (yC ty))) (lo.map (den ρ)) (hi.map (den ρ)) (mx.map (den ρ))=some (fzV (sz ty) f2 (l'.map (yC ty)))∧((mx.isSome||(full&&hi.isNone))=true→f2=true):=by
  unfold ziT
  simp only [hes,hu,hie,hlen,e1,hsz,if_true]
  cases mx with
  |some m=>exact ⟨true,by simp [Nat.beq_refl,hext,fzV],fun _=>rfl⟩
  |none=>
   simp only [Option.map_none,Option.isSome_none,Bool.false_or]
   cases hf:(full&&Nat.beq q l.length) with
   |true=>exact ⟨true,by simp only [if_true];simp only [hext,fzV,cond_true],fun _=>rfl⟩
   |false=>
    refine ⟨false,by simp only [Bool.false_eq_true,if_false];simp only [hext,fzV,cond_false],fun h=>?_⟩
    simp only [Bool.and_eq_true] at h
    obtain ⟨h4,h5⟩:=h
    have:hi=none:=by cases hi<;>simp at h5 ⊢
    rw [h4,e5 this,Nat.beq_refl] at hf
    cases hf
 obtain ⟨f2,h4,h5⟩:=key
 obtain ⟨v',r1,r2⟩:=zq2 h4 hx h1 h2 h3 w
 refine ⟨v',r1,?_⟩
 cases hcase:(mx.isSome||(full&&hi.isNone)) with
 |true=>rw [h5 hcase] at r2;exact r2
 |false=>exact zuB r2
def zwJ (P:Program) (tm:List SV) (H:SH) (nx:Nat) (t:TypeId) (x:Operand) (lo hi mx:Option Operand) (k:KO R):Option R:=
 match jW tm H x,zob tm H lo,zob tm H hi,zob tm H mx with
 |some v,some lo,some hi,some mx=>match jw P t,zav lo,zav hi,zav mx with
  |some (.slice e),some a,some b,some c=>bif (!mx.isSome||hi.isSome) then match v with
   |.lst ty l full=>bif Up P e (sz ty) then opt (ue l a b c) fun l'=>k (.lst ty l' (mx.isSome||(full&&hi.isNone))) H nx else none
   |.own bl=>match zk H bl with
    |some (.arr nn ty l)=>bif Up P e (sz ty)&&Nat.blt 0 (sz ty) then opt (ue l a b c) fun l'=>k (.lst ty l' mx.isSome) (jV H bl (.fro nn ty l)) nx else none
    |_=>none
   |_=>none
   else none
  |_,_,_,_=>none
 |_,_,_,_=>none
theorem zBD {rd:Option Nat} {o:Oper} {tm:List SV} {H:SH} {nx:Nat} {k:KO R} {r:R} {t:TypeId} {x:Operand} {lo hi mx:Option Operand} (ho:o.op=.slice t x lo hi mx) (h:zwJ P tm H nx t x lo hi mx k=some r):gu P rd o tm H nx k r:=by
 unfold zwJ at h
 split at h
 case h_2=>cases h
 rename_i v lo1 hi1 mx1 hx hlo hhi hmx
 split at h
 case h_2=>cases h
 rename_i e a b c hu ha hb hc
 have h6:=zw h
 clear h
 obtain ⟨hh,h⟩:=h6
 have hhi2:mx1.isSome=true→hi1.isSome=true:=fun h1=>by simpa [h1] using hh
 split at h
 ·rename_i ty l full
  obtain ⟨h1,h⟩:=zw h
  obtain ⟨l',hl,h⟩:=Jn h
  obtain ⟨ie,hie,hsz⟩:=YJ h1
  refine ur ⟨wN.refl H,wS.refl H,Nat.le_refl _,fun ν hv=>⟨hv,?_⟩⟩ h
  refine VJ (Nat.le_refl _) (fun c hc=>by rw [ho] at hc;cases hc) fun φ w K ac g hf ht=>?_
  have hxr:=qd ht (zP hx ν)
  simp only [den] at hxr
  obtain ⟨v',r1,r2⟩:=zuC hu hie hsz ha hb hc hhi2 hl hxr (Jm ht (za4 hlo ν)) (Jm ht (za4 hhi ν)) (Jm ht (za4 hmx ν)) w
  unfold execOp
  simp only [ho]
  exact Ran.op (Ran.same g ⟨v',r1,by simpa only [den] using r2⟩)
 ·rename_i bl
  split at h
  case h_2=>cases h
  rename_i nn ty l hbl
  obtain ⟨h1,h⟩:=zw h
  simp only [Bool.and_eq_true] at h1
  obtain ⟨l',hl,h⟩:=Jn h
  obtain ⟨ie,hie,hsz⟩:=YJ h1.1
  have hg:=zbA hbl
  refine ur ⟨hg.1.regLe,hg.1.lkeep,Nat.le_refl _,fun ν hv=>⟨hg.1.vn hv,zkh hg ?_⟩⟩ h
  refine VJ (Nat.le_refl _) (fun c hc=>by rw [ho] at hc;cases hc) fun φ w K ac g hf ht=>?_
  have hxr:=qd ht (zP hx ν)
  simp only [den] at hxr
  rw [←hg.1.rho ν] at hxr
  have hb2:zk (jV H bl (.fro nn ty l)) bl=some (.fro nn ty l):=by rw [qH,if_pos rfl,hbl];rfl
  have hxr:=zi4 g (hg.1.vn hv) hb2 (zs7 h1.2) hxr
  obtain ⟨v',r1,r2⟩:=zuC hu hie hsz ha hb hc hhi2 hl hxr (Jm ht (za4 hlo ν)) (Jm ht (za4 hhi ν)) (Jm ht (za4 hmx ν)) w
  unfold execOp
  simp only [ho]
  exact Ran.op (Ran.same g ⟨v',r1,by simpa only [den,Bool.false_and,Bool.or_false] using r2⟩)
 ·cases h
def zDh (P:Program) (tm:List SV) (H:SH) (nx:Nat) (t:TypeId) (x:Operand) (k:KO R):Option R:=match jW tm H x,jw P t with
 |some (.own b),some (.slice _)=>match reg (zk H b) with
  |some (n,_)=>k (.int .i64 n) H (nx+1)
  |none=>none
 |_,_=>none
theorem zFd {rd:Option Nat} {o:Oper} {tm:List SV} {H:SH} {nx:Nat} {k:KO R} {r:R} {t:TypeId} {x:Operand} (ho:o.op=.call {callee:=.builtin .len,args:=#[x],argTypes:=#[t]}) (h:zDh P tm H nx t x k=some r):gu P rd o tm H nx k r:=by
 unfold zDh at h
 split at h
 case h_2=>cases h
 rename_i b e hx hu
 split at h
 case h_2=>cases h
 rename_i n s hr
 refine ur ⟨wN.refl H,wS.refl H,Nat.le_succ _,fun ν hv=>⟨hv.later (Nat.le_succ _),vU ?_⟩⟩ h
 have h1:=zP hx ν
 unfold wP
 simp only [ho,zbu,h1,Option.bind_some]
 have hlen:zbw P t (den (rho ν H) (.own b))=some (goInt n):=by
  simp only [den,rho,hr]
  cases s with
  |succ s=>simp [zbw,hu]
  |zero=>
   have:=hv.empty b n hr
   subst this
   simp [zbw,hu]
 simp only [JB,hlen]
 simp [un1,den,goInt]
def zGf {α:Type}:List α→Bool
 |[]=>false
 |_::_=>true
def zy8 (tm:List SV) (H:SH) (x y:Operand):Bool:=match jW tm H x,jW tm H y with
 |some (.lst _ _ _),some .nils=>true
 |_,_=>false
def zAb (P:Program) (tm:List SV) (H:SH) (nx:Nat) (op:BinOp) (t:TypeId) (x y:Operand) (k:KO R):Option R:=match jW tm H x,jW tm H y,jw P t with
 |some (.lst ty l full),some .nils,some (.slice _)=>bif zGf l then (match op with
   |.eql=>k (.bool false) H (nx+1)
   |.neq=>k (.bool true) H (nx+1)
   |_=>none)
  else none
 |_,_,_=>none
theorem zDi {rd:Option Nat} {o:Oper} {tm:List SV} {H:SH} {nx:Nat} {k:KO R} {r:R} {op:BinOp} {t u:TypeId} {x y:Operand} (ho:o.op=.binOp op t x y u) (h:zAb P tm H nx op t x y k=some r):gu P rd o tm H nx k r:=by
 unfold zAb at h
 split at h
 case h_2=>cases h
 rename_i ty l full e hx hy hu
 obtain ⟨hc,h⟩:=zw h
 have key:∀b,(op=.eql∧b=false∨op=.neq∧b=true)→k (.bool b) H (nx+1)=some r→gu P rd o tm H nx k r:=by
  intro b hb h
  refine ur ⟨wN.refl H,wS.refl H,Nat.le_succ _,fun ν hv=>⟨hv.later (Nat.le_succ _),?_⟩⟩ h
  refine VJ (Nat.le_succ _) (fun c hc=>by rw [ho] at hc;cases hc) fun φ w K ac g hf ht=>?_
  have hxr:=qd ht (zP hx ν)
  have hyr:=qd ht (zP hy ν)
  simp only [den] at hxr hyr
  generalize hx':ac.eval x=x' at *
  generalize hy':ac.eval y=y' at *
  cases hyr
  obtain ⟨sa,c,e1,e2⟩:=zaZ (s:=sz ty) (es:=(l.map (yC ty)).toArray) (full:=full) (by unfold fzV ZL;cases full<;>rfl) hxr
  cases l with
  |nil=>cases hc
  |cons z l=>
  obtain ⟨b0,o0,L,rfl,_⟩:=e2.some_ (by simp)
  subst e1
  have he:=zq0 (P:=P) (t:=t) (d:=.slice e) (a:=.slice (some ⟨b0,o0,none⟩) ((z::l).map (yC ty)).toArray.size c) (b:=.slice none 0 0) (r:=false) (by rw [←wb];exact hu) rfl rfl w
  unfold execOp
  simp only [ho]
  rw [hx',hy']
  generalize ((z::l).map (yC ty)).toArray.size=m at he ⊢
  refine Ran.op (Ran.same1 g ⟨.bool b,?_,by simp only [den];exact .bool b⟩)
  rcases hb with ⟨rfl,rfl⟩ | ⟨rfl,rfl⟩
  ·simp [eqGuard,binOp,he]
  ·simp [eqGuard,binOp,he]
 split at h
 ·exact key _ (.inl ⟨rfl,rfl⟩) h
 ·exact key _ (.inr ⟨rfl,rfl⟩) h
 ·cases h
def zae:(t:Ty)→T t
 |.unit=>()
 |.bool=>false
 |.int _=>0
 |.str=>ByteArray.empty
 |.list _=>[]
 |.pair a b=>(zae a,zae b)
def GQ:(t:Ty)→List Value→Option (List Value)
 |.unit,cs=>some cs
 |.bool,cs=>match cs with
  |.bool false::r=>some r
  |_=>none
 |.int k,cs=>match cs with
  |.int k' z::r=>bif JT k k'&&zj z 0 then some r else none
  |_=>none
 |.str,cs=>match cs with
  |.string s::r=>bif Nat.beq s.size 0 then some r else none
  |_=>none
 |.list _,cs=>match cs with
  |.slice none 0 0::r=>some r
  |_=>none
 |.pair a b,cs=>match GQ a cs with
  |some r=>GQ b r
  |none=>none
theorem zmB:∀(t:Ty) {cs r:List Value},GQ t cs=some r→∃c,cs=c++r∧c.length=sz t∧avL c=true∧∀(φ:Ren) us,zx φ c us→zx φ (qm t (zae t)) us
 |.unit,cs,r,h=>by
  simp only [GQ,Option.some.injEq] at h
  subst h
  exact ⟨[],rfl,rfl,rfl,fun φ us h=>h⟩
 |.bool,cs,r,h=>by
  simp only [GQ] at h
  split at h
  ·cases h;exact ⟨[.bool false],rfl,rfl,rfl,fun φ us h=>h⟩
  ·cases h
 |.int k,cs,r,h=>by
  simp only [GQ] at h
  split at h
  ·obtain ⟨h1,h2⟩:=zw h
   cases h2
   simp only [Bool.and_eq_true] at h1
   have e1:=QO h1.1
   have e2:=h1.2
   rw [wo] at e2
   simp only [beq_iff_eq] at e2
   subst e1;subst e2
   exact ⟨[.int k 0],rfl,rfl,rfl,fun φ us h=>h⟩
  ·cases h
 |.str,cs,r,h=>by
  simp only [GQ] at h
  split at h
  ·rename_i s r'
   obtain ⟨h1,h2⟩:=zw h
   cases h2
   have e1:=Nat.eq_of_beq_eq_true h1
   have:s=ByteArray.empty:=by
    obtain ⟨d⟩:=s
    have:d=#[]:=Array.eq_empty_of_size_eq_zero e1
    subst this;rfl
   subst this
   exact ⟨[.string ByteArray.empty],rfl,rfl,rfl,fun φ us h=>h⟩
  ·cases h
 |.list t,cs,r,h=>by
  simp only [GQ] at h
  split at h
  ·cases h
   refine ⟨[.slice none 0 0],rfl,rfl,rfl,fun φ us h=>?_⟩
   match us,h with
   |[],h=>exact h.elim
   |u::us,h=>
    refine ⟨?_,h.2⟩
    have h1:=h.1
    cases h1
    exact .fz0 _ _ _
  ·cases h
 |.pair a b,cs,r,h=>by
  simp only [GQ] at h
  split at h
  case h_2=>cases h
  rename_i r1 h1
  obtain ⟨c1,rfl,l1,a1,z1⟩:=zmB a h1
  obtain ⟨c2,rfl,l2,a2,z2⟩:=zmB b h
  have happ:∀(a b:List Value),avL a=true→avL b=true→avL (a++b)=true:=by
   intro a b h2 h3
   induction a with
   |nil=>exact h3
   |cons x a ih=>simp only [avL,List.cons_append,Bool.and_eq_true] at h2 ⊢;exact ⟨h2.1,ih h2.2⟩
  refine ⟨c1++c2,by simp,by simp [sz,l1,l2],happ _ _ a1 a2,fun φ us h=>?_⟩
  have hlen:=h.length
  rw [List.length_append] at hlen
  have h3:=h.take c1.length
  have h4:=h.drop c1.length
  rw [List.take_left] at h3
  rw [List.drop_left] at h4
  have:=(z1 φ _ h3).append (z2 φ _ h4)
  rw [List.take_append_drop] at this
  exact this
def zfF (P:Program) (e:TypeId) (ty:Ty):Bool:=match jC P e with
 |some i=>match i.zero with
  |some z=>match GQ ty z.cells.toList with
   |some []=>Nat.blt 0 i.size&&Nat.beq (sz ty) i.size
   |_=>false
  |none=>false
 |none=>false
theorem zkj {e:TypeId} {ty:Ty} (h:zfF P e ty=true):∃i z,P.info? e=some i∧i.zero=some z∧z.cells.size=i.size∧0 < i.size∧sz ty=i.size∧avL z.cells.toList=true∧∀(φ:Ren) us,zx φ z.cells.toList us→zx φ (qm ty (zae ty)) us:=by
 unfold zfF at h
 split at h
 case h_2=>cases h
 rename_i i hi
 split at h
 case h_2=>cases h
 rename_i z hz
 split at h
 case h_2=>cases h
 rename_i hc
 simp only [Bool.and_eq_true] at h
 have e2:=zdW h.1
 have e3:=Nat.eq_of_beq_eq_true h.2
 rw [jN] at hi
 obtain ⟨c,h1,h2,h3,h4⟩:=zmB ty hc
 rw [List.append_nil] at h1
 refine ⟨i,z,hi,hz,?_,e2,e3,by rw [h1];exact h3,fun φ us h=>h4 φ us (by rw [←h1];exact h)⟩
 have:=congrArg List.length h1
 rw [h2,e3] at this
 simpa using this
def zmC (P:Program):Nat→TypeId→Option Ty
 |0,_=>none
 |n+1,t=>match jw P t with
  |some .bool=>some .bool
  |some (.int k)=>some (.int k)
  |some .string=>some .str
  |some (.slice e)=>match zmC P n e with
   |some a=>some (.list a)
   |none=>none
  |some (.struct fields)=>fields.toList.foldr (fun f acc=>match zmC P n f.type,acc with
   |some a,some b=>some (match b with | .unit=>a | b=>.pair a b)
   |_,_=>none) (some .unit)
  |some (.array m e)=>match zmC P n e with
   |some a=>(List.replicate m a).foldr (fun a acc=>match acc with
    |some b=>some (match b with | .unit=>a | b=>.pair a b)
    |none=>none) (some .unit)
   |none=>none
  |_=>none
theorem zmD {ν:Nat→Bool} {H:SH} {nx:Nat} {k:SB} (hn:zk H nx=none) (hx:zN (rho ν ((nx,k)::H)) (ν nx) k=none) (g:zA φ (zv ν H) K w):zA φ (zv ν ((nx,k)::H)) K w:=by
 have h1:RLe (rho ν H) (rho ν ((nx,k)::H)):=zga ν (uZ hn)
 have g1:zA φ (ku ν (rho ν ((nx,k)::H)) H) K w:=zwz (gF ν H) h1 g
 refine g1.sub fun c x hc=>?_
 rw [zF,zI] at hc
 by_cases hb:nx=c
 ·subst hb
  rw [if_pos rfl] at hc
  simp only [Option.bind_some] at hc
  rw [hx] at hc;cases hc
 ·rw [if_neg hb] at hc
  rw [uo];exact hc
theorem GR {ν:Nat→Bool} {H:SH} {nx:Nat} {nn:Bool} {ty:Ty} {l:List (T ty)} (hn:zk H nx=none) (hv:VN ν nx H) (g:zA φ ((nx,.cells (zR ty l) false)::zv ν H) K w):zA φ (zv ν ((nx,.arr nn ty l)::H)) K w:=by
 cases h:jS nn l with
 |false=>exact Uo hn (x:=.cells (zR ty l) false) (by simp [zN,h]) g
 |true=>
  refine zmD hn (by simp [zN,h]) (g.sub fun c k hc=>?_)
  have:(nx == c)=false:=by
   rw [beq_eq_false_iff_ne]
   rintro rfl
   rw [zF,hn] at hc;cases hc
  simp [Hp.get_cons,this,hc]
theorem zbB {ν:Nat→Bool} {H:SH} {nx:Nat} {nn:Bool} {ty:Ty} {l:List (T ty)} (hv:VN ν nx H) (hl:jS nn l=false):rho ν ((nx,.arr nn ty l)::H) nx=.slice (some ⟨nx,0,none⟩) l.length (qb+sz ty):=by
 rw [QA ν (nn:=nn) (t:=ty) (l:=l) (by rw [zI,if_pos rfl];rfl),hl]
 rfl
theorem zrh {ν:Nat→Bool} {H:SH} {nx:Nat} {nn:Bool} {ty:Ty} {l:List (T ty)} (hl:jS nn l=true):rho ν ((nx,.arr nn ty l)::H) nx=.slice none 0 0:=by
 rw [QA ν (nn:=nn) (t:=ty) (l:=l) (by rw [zI,if_pos rfl];rfl),hl]
 rfl
theorem zyM {H:Hp} {b:Nat} {cs ds:List Value} (g:zA φ ((b,.cells cs false)::H) K w) (h:∀us,zx φ cs us→zx φ ds us) (hl:ds.length=cs.length):zA φ ((b,.cells ds false)::H) K w:=by
 have hget:∀c k,Hp.get ((b,Blk.cells ds false)::H) c=some k→(c=b∧k=.cells ds false∧Hp.get ((b,Blk.cells cs false)::H) c=some (.cells cs false))∨(c≠b∧Hp.get ((b,Blk.cells cs false)::H) c=some k):=by
  intro c k hc
  by_cases hcb:b=c
  ·subst hcb;simp [Hp.get_cons] at hc;exact .inl ⟨rfl,hc.symm,by simp [Hp.get_cons]⟩
  ·simp [Hp.get_cons,hcb] at hc;exact .inr ⟨fun e=>hcb e.symm,by simp [Hp.get_cons,hcb,hc]⟩
 refine ⟨fun c k hc=>?_,fun c d k k' L L' hc hd hne hkr hL hL'=>?_,fun c k L hc hkr hL=>?_,g.kin,g.fz,fun c k L e M hc hkr hL hM=>?_⟩
 ·rcases hget c k hc with ⟨rfl,rfl,h1⟩ | ⟨_,h1⟩
  ·obtain ⟨L,hL,arr,el,fr,e1,e2,e3⟩:=g.rel c _ h1
   have hex:∀j,j < cs.length→∃v',arr[L.off+j]?=some v':=fun j hj=>by
    obtain ⟨v',h2,_⟩:=e2 j cs[j] (by simp)
    exact ⟨v',h2⟩
   have hus:zx φ cs ((List.range cs.length).map fun j=>arr[L.off+j]?.getD undef):=by
    refine zx.of_get (by simp) fun i v v' hv hv'=>?_
    obtain ⟨u,h2,h3⟩:=e2 i v hv
    have hi:i < cs.length:=(List.getElem?_eq_some_iff.1 hv).1
    simp [hi,h2] at hv'
    subst hv';exact h3
   refine ⟨L,hL,arr,el,fr,e1,fun j v hv=>?_,e3⟩
   have hj:j < cs.length:=by have:=(List.getElem?_eq_some_iff.1 hv).1;omega
   obtain ⟨v',h2⟩:=hex j hj
   obtain ⟨u,h3,h4⟩:=(h _ hus).get hv
   simp [hj,h2] at h3
   subst h3
   exact ⟨_,h2,h4⟩
  ·exact g.rel c k h1
 ·rcases hget c k hc with ⟨rfl,rfl,h1⟩ | ⟨_,h1⟩
  ·rcases hget d k' hd with ⟨rfl,_⟩ | ⟨_,h2⟩
   ·exact absurd rfl hne
   ·exact g.sep c d _ k' L L' h1 h2 hne rfl hL hL'
  ·rcases hget d k' hd with ⟨rfl,rfl,h2⟩ | ⟨_,h2⟩
   ·exact g.sep c d k _ L L' h1 h2 hne hkr hL hL'
   ·exact g.sep c d k k' L L' h1 h2 hne hkr hL hL'
 ·rcases hget c k hc with ⟨rfl,rfl,h1⟩ | ⟨_,h1⟩
  ·exact g.prot c _ L h1 rfl hL
  ·exact g.prot c k L h1 hkr hL
 ·rcases hget c k hc with ⟨rfl,rfl,h1⟩ | ⟨_,h1⟩
  ·exact g.fsep c _ L e M h1 rfl hL hM
  ·exact g.fsep c k L e M h1 hkr hL hM
def zpU (zl zc:Int) (bytes:Nat):Bool:=!zt zl 0&&(!zt zc zl&&!zt 281474976710656 ((bytes:Int)*zc))
def zAc (P:Program) (tm:List SV) (H:SH) (nx:Nat) (t:TypeId) (l c:Operand) (k:KO R):Option R:=match jW tm H l,jW tm H c with
 |some (.int _ zl),some (.int _ zc)=>match jw P t with
  |some (.slice e)=>match jC P e,zmC P 20 e with
   |some ie,some ty=>bif zfF P e ty&&Nat.blt 0 ie.bytes then match JW H nx (.arr true ty (List.replicate zl.toNat (zae ty))) with
     |some H'=>bif zpU zl zc ie.bytes then k (.own nx) H' (nx+1) else none
     |none=>none
    else none
   |_,_=>none
  |_=>none
 |_,_=>none
theorem zri (ty:Ty) (x:T ty) (n:Nat):zR ty (List.replicate n x)=(List.replicate n (qm ty x)).flatten:=by
 induction n with
 |zero=>rfl
 |succ n ih=>
  rw [List.replicate_succ,List.replicate_succ,List.flatten_cons,←ih];rfl
theorem zi6 {a b:List Value} (h:∀us,zx φ a us→zx φ b us) (hl:b.length=a.length):∀(n:Nat) us,zx φ (List.replicate n a).flatten us→zx φ (List.replicate n b).flatten us
 |0,us,hr=>hr
 |n+1,us,hr=>by
  rw [List.replicate_succ,List.flatten_cons] at hr ⊢
  have h3:=hr.take a.length
  have h4:=hr.drop a.length
  rw [List.take_left] at h3
  rw [List.drop_left] at h4
  have:=(h _ h3).append (zi6 h hl n _ h4)
  rw [List.take_append_drop] at this
  exact this
theorem zDj {rd:Option Nat} {o:Oper} {tm:List SV} {H:SH} {nx:Nat} {k:KO R} {r:R} {t:TypeId} {l c:Operand} (ho:o.op=.makeSlice t l c) (h:zAc P tm H nx t l c k=some r):gu P rd o tm H nx k r:=by
 unfold zAc at h
 split at h
 case h_2=>cases h
 rename_i kl zl kc zc hl hc
 split at h
 case h_2=>cases h
 rename_i e hu
 split at h
 case h_2=>cases h
 rename_i ie ty hie hty
 have h6:=zw h
 clear h
 obtain ⟨hh,h⟩:=h6
 simp only [Bool.and_eq_true] at hh
 split at h
 case h_2=>cases h
 rename_i H1 hn
 have h6:=zw h
 clear h
 obtain ⟨hm,h⟩:=h6
 obtain ⟨hn1,rfl⟩:=uq hn
 obtain ⟨ie',z,e1,e2,e3,e4,e5,e6,e7⟩:=zkj hh.1
 rw [jN] at hie
 rw [wb] at hu
 rw [hie] at e1;cases e1
 have hbp:=zdW hh.2
 simp only [zpU,Bool.and_eq_true,Bool.not_eq_true',uY,decide_eq_false_iff_not,Int.not_lt] at hm
 obtain ⟨m1,m2,m3⟩:=hm
 have hzc:zc≤281474976710656:=by
  have:(1:Int)*zc≤(ie.bytes:Int)*zc:=Int.mul_le_mul_of_nonneg_right (by omega) (by omega)
  omega
 refine ur ⟨uZ hn1,kR hn1,Nat.le_succ _,fun ν hv=>⟨Ys hv,?_⟩⟩ h
 refine VJ (Nat.le_succ _) (fun c hc=>by rw [ho] at hc;cases hc) fun φ w K a g hf ht=>?_
 have hl':=qd ht (zP hl ν)
 have hc':=qd ht (zP hc ν)
 simp only [den] at hl' hc'
 unfold execOp
 simp only [ho]
 generalize a.eval l=ul at hl'
 generalize a.eval c=uc at hc'
 cases hl'
 cases hc'
 have hfr:=hf.at (Nat.le_refl nx) (Nat.lt_succ_self nx)
 obtain ⟨v',w',φ',r1,r2,r3,r4,r5⟩:=zyL (P:=P) (kl:=kl) (kc:=kc) g hfr.1 hfr.2 hu hie e2 (Go.IntWalk.i64_in _ (by omega)) (Go.IntWalk.i64_in _ (by omega)) m1 m2 m3 (by omega) e3 e6 rfl
 refine Ran.op ⟨v',w',φ',r1,?_,r3,?_,r5,Nat.le_succ _⟩
 ·simp only [den]
  rw [zbB hv rfl,List.length_replicate,e5]
  exact r2
 ·refine GR hn1 hv ?_
  refine zyM r4 ?_ ?_
  ·rw [zri]
   exact zi6 (e7 φ') (by rw [wC,e5,Array.length_toList,e3]) _
  ·rw [Yp,List.length_replicate,e5]
   simp [e3]
theorem zwK {s:Nat}:∀(us:List Value) (j:Nat) (arr:Array Value),(∀u∈us,u.cells.size=s)→arr.size=(j+us.length)*s→
  Instr.fill (fun i=>some (i*s,s)) arr ((us.zipIdx j).map fun p=>(p.2,p.1))=some (arr.toList.take (j*s)++us.flatMap fun u=>u.cells.toList).toArray
 |[],j,arr,_,hl=>by
  simp only [List.zipIdx_nil,List.map_nil,Instr.fill,List.flatMap_nil,List.append_nil,Option.some.injEq]
  apply Array.ext'
  rw [List.take_of_length_le (by simp at hl ⊢;omega)]
 |u::us,j,arr,hu,hl=>by
  have h1:=hu u (by simp)
  have hl2:arr.size=j*s+s+us.length*s:=by
   rw [hl,List.length_cons,Nat.add_mul,Nat.add_mul];omega
  simp only [List.zipIdx_cons,List.map_cons,Instr.fill]
  rw [if_neg (by simp [h1];omega)]
  have hf:=zmz u.cells.toList 0 (j*s) arr (by simp [h1];omega)
  rw [←Array.foldl_toList,Array.toList_zipIdx]
  rw [zwK us (j+1) _ (fun x hx=>hu x (by simp [hx])) (by
   have:=congrArg List.length hf
   rw [zzG _ _ _ (by simp [h1];omega)] at this
   simp only [Array.length_toList] at this
   rw [this,hl2,Nat.add_mul,Nat.add_mul];omega)]
  rw [hf,List.flatMap_cons,←List.append_assoc]
  congr 3
  unfold spl
  have e1:(j+1)*s=j*s+s:=by rw [Nat.add_mul,Nat.one_mul]
  rw [List.take_left' (by simp [h1];omega),Nat.add_zero]
def zwL (vt:VT):List (Nat×SV)→Nat→SH→Option (List (T vt.ty)×SH)
 |[],_,H=>some ([],H)
 |(j,v)::r,i,H=>bif Nat.beq i j then match cvV vt v H with
  |some (x,H1)=>match zwL vt r (i+1) H1 with
   |some (xs,H2)=>some (x::xs,H2)
   |none=>none
  |none=>none
  else none
theorem zy9 {vt:VT}:∀{ps:List (Nat×SV)} {i:Nat} {H H':SH} {xs:List (T vt.ty)},zwL vt ps i H=some (xs,H')→vp H H'∧xs.length=ps.length∧
  ∀
   ν G,GLe H' G→∀(φ:Ren) (K:Nat→Prop) (w:World) (nx:Nat) (qs:List (Nat×Value)),zA φ (zv ν G) K w→VN ν nx G→zpD φ (ps.map fun p=>(p.1,den (rho ν H) p.2)) qs→
   ∃us:List Value,qs=(us.zipIdx i).map (fun p=>(p.2,p.1))∧us.length=xs.length∧∀(j:Nat) u x,us[j]?=some u→xs[j]?=some x→zo φ (den (fun _=>bad) (mkV vt x)) u
 |[],i,H,H',xs,h=>by
  simp only [zwL,Option.some.injEq,Prod.mk.injEq] at h
  obtain ⟨rfl,rfl⟩:=h
  refine ⟨vp.refl _,rfl,fun ν G hG φ K w nx qs g hv hp=>?_⟩
  cases qs with
  |nil=>exact ⟨[],rfl,rfl,fun j u x h=>by simp at h⟩
  |cons q qs=>exact hp.elim
 |(j0,v)::r,i,H,H',xs,h=>by
  simp only [zwL] at h
  have h6:=zw h
  clear h
  obtain ⟨hb,h⟩:=h6
  have hj:=Nat.eq_of_beq_eq_true hb
  clear hb
  subst hj
  split at h
  case h_2=>cases h
  rename_i x H1 h1
  split at h
  case h_2=>cases h
  rename_i ys H2 h2
  cases h
  obtain ⟨g1,r1⟩:=zrb h1
  obtain ⟨g2,l2,r2⟩:=zy9 h2
  refine ⟨g1.trans g2,by simp [l2],fun ν G hG φ K w nx qs g hv hp=>?_⟩
  cases qs with
  |nil=>exact hp.elim
  |cons q qs=>
   obtain ⟨e1,e2,e3⟩:=hp
   obtain ⟨q1,q2⟩:=q
   dsimp only at e1 e2
   subst e1
   rw [←g1.1.rho ν] at e3
   obtain ⟨us,f1,f2,f3⟩:=r2 ν G hG φ K w nx qs g hv e3
   have f4:=r1 ν G (g2.1.trans hG) φ K w nx q2 g hv e2 (fun _=>bad)
   refine ⟨q2::us,by simp [f1],by simp [f2],fun j u y hu hy=>?_⟩
   cases j with
   |zero=>simp at hu hy;subst hu;subst hy;exact f4
   |succ j=>simp at hu hy;exact f3 j u y hu hy
theorem zBE {vt:VT} {x:T vt.ty} {u:Value} (hagg:vt.agg=false→sz vt.ty=1) (h:zo φ (den (fun _=>bad) (mkV vt x)) u):zx φ (qm vt.ty x) u.cells.toList:=by
 obtain ⟨ag,ty⟩:=vt
 cases ag with
 |true=>
  simp only [mkV,cond_true,den] at h
  obtain ⟨ys,rfl,hl⟩:=h.agg_inv
  simpa [qz,yH,Value.cells] using hl
 |false=>
  simp only [mkV,cond_false] at h
  have h1:=VG ty x
  rw [hagg rfl] at h1
  have h2:=yH (fun _=>bad) ty x
  match he:wJ ty x,h1 with
  |[v],_=>
   rw [he] at h h2
   simp only [mk1,List.map_cons,List.map_nil] at h h2
   rw [←h2]
   have h3:=h.one
   have h4:(den (fun _=>bad) v).oneCell'=true:=by
    have:∀(t:Ty) (y:T t) (c:Value),c∈qm t y→c.oneCell'=true:=by
     intro t
     induction t with
     |unit=>intro y c hc;simp [qm] at hc
     |bool=>intro y c hc;simp [qm] at hc;subst hc;rfl
     |int k=>intro y c hc;simp [qm] at hc;subst hc;rfl
     |str=>intro y c hc;simp [qm] at hc;subst hc;rfl
     |list t ih=>intro y c hc;simp [qm] at hc;subst hc;rfl
     |pair a b iha ihb=>
      intro y c hc
      simp only [qm,List.mem_append] at hc
      rcases hc with hc | hc
      ·exact iha _ _ hc
      ·exact ihb _ _ hc
    refine this ty x _ ?_
    rw [←h2];simp
   rw [zmd (by rw [h3];exact h4)]
   exact ⟨h,trivial⟩
theorem zuD {ty:Ty}:∀{xs:List (T ty)} {us:List Value},us.length=xs.length→(∀(j:Nat) u x,us[j]?=some u→xs[j]?=some x→zx φ (qm ty x) u.cells.toList)→zx φ (zR ty xs) (us.flatMap fun u=>u.cells.toList)
 |[],[],_,_=>trivial
 |x::xs,u::us,hl,h=>by
  have h1:=h 0 u x rfl rfl
  have h2:=zuD (xs:=xs) (us:=us) (by simpa using hl) fun j u x hu hx=>h (j+1) u x (by simpa using hu) (by simpa using hx)
  simp only [List.flatMap_cons]
  exact h1.append h2
 |[],_::_,hl,_=>by simp at hl
 |_::_,[],hl,_=>by simp at hl
def zDk (P:Program) (tm:List SV) (H:SH) (nx:Nat) (t:TypeId) (n:Nat) (ps:List (Nat×Operand)) (k:KO R):Option R:=match zdY tm H ps,jw P t with
 |some vs,some (.slice e)=>match jC P e,zmC P 20 e,jw P e with
  |some ie,some ty,some d=>bif Nat.beq n vs.length&&(Nat.ble (n*ie.size) 16777216&&(zfF P e ty&&(WI d||Nat.beq (sz ty) 1))) then
    match zwL ⟨WI d,ty⟩ vs 0 H with
    |some (xs,H1)=>match JW H1 nx (.arr true ty xs) with
     |some H2=>k (.own nx) H2 (nx+1)
     |none=>none
    |none=>none
   else none
  |_,_,_=>none
 |_,_=>none
theorem zAd {tm:List SV} {H:SH} {ν:Nat→Bool} {a:Act} (ht:jd φ (zq (rho ν H) tm) a.tmps) {ps:List (Nat×Operand)} {vs:List (Nat×SV)} (h:zdY tm H ps=some vs):zpD φ (vs.map fun p=>(p.1,den (rho ν H) p.2)) (ps.map fun p=>(p.1,a.eval p.2)):=
 zft ht (zfD ν h)
theorem zFe {rd:Option Nat} {o:Oper} {tm:List SV} {H:SH} {nx:Nat} {k:KO R} {r:R} {t:TypeId} {n:Nat} {ps:Array (Nat×Operand)} (ho:o.op=.buildSlice t n ps) (h:zDk P tm H nx t n ps.toList k=some r):gu P rd o tm H nx k r:=by
 unfold zDk at h
 split at h
 case h_2=>cases h
 rename_i vs e hvs hu
 split at h
 case h_2=>cases h
 rename_i ie ty d hie hty hd
 have h6:=zw h
 clear h
 obtain ⟨hh,h⟩:=h6
 simp only [Bool.and_eq_true,Bool.or_eq_true] at hh
 obtain ⟨c1,c2,c3,c4⟩:=hh
 have c1:=Nat.eq_of_beq_eq_true c1
 have c2:=Nat.le_of_ble_eq_true c2
 split at h
 case h_2=>cases h
 rename_i xs H1 hl
 split at h
 case h_2=>cases h
 rename_i H2 hn
 obtain ⟨hn1,rfl⟩:=uq hn
 obtain ⟨hg,hxl,hrel⟩:=zy9 hl
 obtain ⟨ie',z,e1,e2,e3,e4,e5,e6,e7⟩:=zkj c3
 rw [jN] at hie
 rw [wb] at hu
 rw [hie] at e1;cases e1
 have hxn:xs.length=n:=by rw [hxl,c1]
 refine ur ⟨hg.1.regLe.trans (uZ hn1),hg.1.lkeep.trans (kR hn1),Nat.le_succ _,fun ν hv=>⟨Ys (hg.1.vn hv),zkh hg ?_⟩⟩ h
 have hv1:=hg.1.vn hv
 refine VJ (Nat.le_succ _) (fun c hc=>by rw [ho] at hc;cases hc) fun φ w K a g hf ht=>?_
 have hp:=zAd ht hvs
 obtain ⟨us,f1,f2,f3⟩:=hrel ν H1 (GLe.refl _) φ K w nx _ g hv1 hp
 have hcell:∀(j:Nat) u x,us[j]?=some u→xs[j]?=some x→zx φ (qm ty x) u.cells.toList:=fun j u x hu hx=>zBE (vt:=⟨WI d,ty⟩) (fun hagg=>by
  dsimp only at hagg
  rw [hagg] at c4
  rcases c4 with c4 | c4
  ·cases c4
  ·exact Nat.eq_of_beq_eq_true c4) (f3 j u x hu hx)
 have hsize:∀u∈us,u.cells.size=ie.size:=fun u hu=>by
  obtain ⟨j,hj⟩:=List.getElem?_of_mem hu
  have hjl:j < xs.length:=by have:=(List.getElem?_eq_some_iff.1 hj).1;omega
  have:=(hcell j u xs[j] hj (by simp)).length
  rw [wC,e5] at this
  simpa using this.symm
 have hfr:=hf.at (Nat.le_refl nx) (Nat.lt_succ_self nx)
 have hrl:=zuD f2 hcell
 have hlim:(us.flatMap fun u=>u.cells.toList).length=n*ie.size:=by
  rw [←hrl.length,Yp,hxn,e5]
 have hg2:=g.make hfr.1 hfr.2 hrl e (n*ie.size) [] (by rw [hlim];omega)
 simp only [List.append_nil] at hg2
 unfold execOp
 simp only [ho]
 refine Ran.op ⟨.slice (some ⟨w.heap.size,0,none⟩) n n,w.alloc (.cells (us.flatMap fun u=>u.cells.toList).toArray e),φ.put nx ⟨w.heap.size,0,n*ie.size,#[]⟩,?_,?_,Ext.put hfr.1 hfr.2 _,GR hn1 hv1 hg2,qG.alloc g _,Nat.le_succ _⟩
 ·have hq:ps.toList.map (fun p=>(p.1,a.eval p.2))=us.zipIdx.map fun p=>(p.2,p.1):=f1
  have hfill:∀arr:Array Value,arr.size=n*ie.size→Instr.fill (fun i=>some (i*ie.size,ie.size)) arr (us.zipIdx.map fun p=>(p.2,p.1))=some (us.flatMap fun u=>u.cells.toList).toArray:=fun arr ha=>by
   have:=zwK us 0 arr hsize (by rw [ha,Nat.zero_add,f2,hxn])
   simpa using this
  have h24:¬(n*ie.size > 2 ^ 24):=by omega
  by_cases h0:n*ie.size=0
  ·have:=hfill #[] (by simp [h0])
   simp [Instr.buildSlice,run_underlying hu,qP hie,h0,zme,hq,this,newRow]
  ·have:=hfill ((Array.range (n*ie.size)).map (z.cells[· % z.cells.size]!)) (by simp)
   simp [Instr.buildSlice,run_underlying hu,qP hie,h0,uG hie e2,hq,newRow] at this h24 ⊢
   simp [h24,this]
 ·simp only [den]
  rw [zbB hv1 rfl,hxn,e5]
  have:=zo.slO (φ:=φ.put nx ⟨w.heap.size,0,n*ie.size,#[]⟩) nx 0 n (qb+ie.size) n _ (Ren.put_same _ _ _) (by omega) (Nat.le_refl _) (by simp)
  simpa using this
theorem zwM:∀(t:Ty) {l:List SV} {H:SH} {x:T t} {r:List SV} {H':SH},cvC t l H=some (x,r,H')→l.length=sz t+r.length∧(∀j,j+sz t < l.length→r[j]?=l[j+sz t]?)∧∀(y:T t) j,j < sz t→l[j]?=(wJ t y)[j]?→(qm t x)[j]?=(qm t y)[j]?
 |.unit,l,H,x,r,H',h=>by
  simp only [cvC] at h
  cases h
  exact ⟨by simp [sz],fun j _=>by simp [sz],fun y j hj=>by simp [sz] at hj⟩
 |.bool,l,H,x,r,H',h=>by
  simp only [cvC] at h
  split at h
  ·cases h
   refine ⟨by simp [sz];omega,fun j _=>by simp [sz],fun y j hj hl=>?_⟩
   simp only [sz,Nat.lt_one_iff] at hj
   subst hj
   simp only [wJ,List.getElem?_cons_zero,Option.some.injEq,SV.bool.injEq] at hl
   subst hl;rfl
  ·cases h
 |.int k,l,H,x,r,H',h=>by
  simp only [cvC] at h
  split at h
  ·obtain ⟨h1,h2⟩:=zw h
   cases h2
   refine ⟨by simp [sz];omega,fun j _=>by simp [sz],fun y j hj hl=>?_⟩
   simp only [sz,Nat.lt_one_iff] at hj
   subst hj
   simp only [wJ,List.getElem?_cons_zero,Option.some.injEq,SV.int.injEq] at hl
   obtain ⟨_,rfl⟩:=hl;rfl
  ·cases h
 |.str,l,H,x,r,H',h=>by
  simp only [cvC] at h
  split at h
  ·cases h
   refine ⟨by simp [sz];omega,fun j _=>by simp [sz],fun y j hj hl=>?_⟩
   simp only [sz,Nat.lt_one_iff] at hj
   subst hj
   simp only [wJ,List.getElem?_cons_zero,Option.some.injEq,SV.str.injEq] at hl
   subst hl;rfl
  ·cases h
 |.list t,l,H,x,r,H',h=>by
  simp only [cvC] at h
  split at h
  ·rename_i t' y0 full r'
   split at h
   ·rename_i ht
    subst ht
    cases h
    refine ⟨by simp [sz];omega,fun j _=>by simp [sz],fun y j hj hl=>?_⟩
    simp only [sz,Nat.lt_one_iff] at hj
    subst hj
    simp only [wJ,List.getElem?_cons_zero,Option.some.injEq,SV.lst.injEq] at hl
    obtain ⟨_,h3,_⟩:=hl
    have:=eq_of_heq h3
    subst this
    rfl
   ·cases h
  ·cases h
   refine ⟨by simp [sz];omega,fun j _=>by simp [sz],fun y j hj hl=>?_⟩
   simp only [sz,Nat.lt_one_iff] at hj
   subst hj
   simp [wJ] at hl
  ·split at h
   ·split at h
    ·obtain ⟨_,h2⟩:=zw h
     cases h2
     refine ⟨by simp [sz];omega,fun j _=>by simp [sz],fun y j hj hl=>?_⟩
     simp only [sz,Nat.lt_one_iff] at hj
     subst hj
     simp [wJ] at hl
    ·cases h
   ·split at h
    ·obtain ⟨_,h2⟩:=zw h
     cases h2
     refine ⟨by simp [sz];omega,fun j _=>by simp [sz],fun y j hj hl=>?_⟩
     simp only [sz,Nat.lt_one_iff] at hj
     subst hj
     simp [wJ] at hl
    ·cases h
   ·cases h
  ·cases h
 |.pair a b,l,H,x,r,H',h=>by
  simp only [cvC] at h
  split at h
  case h_2=>cases h
  rename_i x1 l1 H1 h1
  split at h
  case h_2=>cases h
  rename_i y l2 H2 h2
  cases h
  obtain ⟨e1,e2,e3⟩:=zwM a h1
  obtain ⟨f1,f2,f3⟩:=zwM b h2
  refine ⟨by simp only [sz];omega,fun j hj=>?_,fun y' j hj hl=>?_⟩
  ·simp only [sz] at hj ⊢
   rw [f2 j (by omega),e2 (j+sz b) (by omega)]
   congr 1;omega
  ·simp only [wJ] at hl
   simp only [qm]
   by_cases hja:j < sz a
   ·rw [List.getElem?_append_left (by rw [VG];exact hja)] at hl
    rw [List.getElem?_append_left (by rw [wC];exact hja),List.getElem?_append_left (by rw [wC];exact hja)]
    exact e3 y'.1 j hja hl
   ·rw [List.getElem?_append_right (by rw [VG];omega),VG] at hl
    rw [List.getElem?_append_right (by rw [wC];omega),List.getElem?_append_right (by rw [wC];omega),wC,wC]
    simp only [sz] at hj
    refine f3 y'.2 (j - sz a) (by omega) ?_
    rw [e2 (j - sz a) (by omega)]
    rw [show j - sz a+sz a=j by omega]
    exact hl
def zAe (P:Program) (tm:List SV) (H:SH) (nx:Nat) (t:TypeId) (a x:Operand) (k:KO R):Option R:=match jW tm H a,jW tm H x with
 |some (.elp b s i off),some v=>match zk H b,jC P t with
  |some (.arr nn ty l),some inf=>bif Nat.beq s (sz ty)&&(zhJ v&&(zpS (Un v) inf.size&&(zwA (Un v)&&(Nat.ble (off+inf.size) (sz ty)&&Nat.blt 0 inf.size)))) then
    opt (gl l i) fun y=>match cvC ty (zmx (wJ ty y) off (Un v)) H with
     |some (y',[],H1)=>match zk H1 b with
      |some (.arr _ _ _)=>k (.tup []) (jV H1 b (.arr nn ty (l.set i y'))) nx
      |_=>none
     |_=>none
   else none
  |_,_=>none
 |_,_=>none
theorem zwN (cs:List SV) (o:Nat) (vs:List SV) (h:o+vs.length≤cs.length) (j:Nat) (hj:j < o∨o+vs.length≤j):(zmx cs o vs)[j]?=cs[j]?:=by
 unfold zmx
 have hm:(cs.take o).length=o:=by simp;omega
 rcases hj with hj | hj
 ·rw [List.append_assoc,List.getElem?_append_left (by omega),List.getElem?_take,if_pos hj]
 ·rw [List.getElem?_append_right (by simp;omega),List.getElem?_drop]
  congr 1;simp;omega
theorem zpV:∀(t:Ty) (y:T t) (c:Value),c∈qm t y→c.oneCell'=true:=by
 intro t
 induction t with
 |unit=>intro y c hc;simp [qm] at hc
 |bool=>intro y c hc;simp [qm] at hc;subst hc;rfl
 |int k=>intro y c hc;simp [qm] at hc;subst hc;rfl
 |str=>intro y c hc;simp [qm] at hc;subst hc;rfl
 |list t ih=>intro y c hc;simp [qm] at hc;subst hc;rfl
 |pair a b iha ihb=>
  intro y c hc
  simp only [qm,List.mem_append] at hc
  rcases hc with hc | hc
  ·exact iha _ _ hc
  ·exact ihb _ _ hc
theorem zof:∀{l:List Value},(∀c∈l,c.oneCell'=true)→YH l=true
 |[],_=>rfl
 |x::l,h=>by simp only [YH,h x (by simp),zof (l:=l) fun c hc=>h c (by simp [hc]),Bool.and_self]
theorem zFf {cs us:List Value} {o:Nat} {vs ys:List Value} (h:zx φ cs us) (hv:zx φ vs ys):zx φ (spl cs o vs) (spl us o ys):=by
 unfold spl
 rw [←hv.length]
 exact ((h.take o).append hv).append (h.drop _)
theorem zDl {rd:Option Nat} {o:Oper} {tm:List SV} {H:SH} {nx:Nat} {k:KO R} {r:R} {t:TypeId} {ao xo:Operand} (ho:o.op=.store t ao xo) (h:zAe P tm H nx t ao xo k=some r):gu P rd o tm H nx k r:=by
 unfold zAe at h
 split at h
 case h_2=>cases h
 rename_i b s i off v ha hx
 split at h
 case h_2=>cases h
 rename_i nn ty l inf hb hi
 have h6:=zw h
 clear h
 obtain ⟨hh,h⟩:=h6
 simp only [Bool.and_eq_true] at hh
 obtain ⟨c1,c2,c3,c4,c5,c6⟩:=hh
 have c1:=Nat.eq_of_beq_eq_true c1
 have c3:=zfX c3
 have c5:=Nat.le_of_ble_eq_true c5
 have c6:=zdW c6
 subst c1
 have h6:=Jn h
 clear h
 obtain ⟨y,hy,h⟩:=h6
 rw [uT] at hy
 split at h
 case h_2=>cases h
 rename_i y' H1 hcv
 split at h
 case h_2=>cases h
 rename_i nn1 ty1 l1 hb1
 obtain ⟨cs0,he0,hg,hcr⟩:=GP ty hcv
 simp only [List.append_nil] at he0
 have hb1':zk H1 b=some (.arr nn ty l):=by
  rcases hg.1 b with h1 | ⟨nn2,t2,l2,h1,h2⟩
  ·rw [h1,hb]
  ·rw [h2] at hb1;cases hb1
 have hlt:i < l.length:=(List.getElem?_eq_some_iff.1 hy).1
 have hreg:∀c,reg (zk (jV H1 b (.arr nn ty (l.set i y'))) c)=reg (zk H1 c):=fun c=>by
  rw [qH]
  by_cases hc:c=b
  ·subst hc;simp [hb1',reg,rsz,zwt]
  ·rw [if_neg hc]
 have hnn:∀c,ji (zk (jV H1 b (.arr nn ty (l.set i y'))) c)=true→ji (zk H1 c)=true:=fun c hc=>by
  rw [qH] at hc
  by_cases hcb:c=b
  ·subst hcb;simpa [hb1',ji] using hc
  ·rwa [if_neg hcb] at hc
 refine ur ⟨hg.1.regLe.trans (fun c z hz=>by rw [hreg c];exact hz),hg.1.lkeep.trans (Yr hb1' (fun L=>by simp)),Nat.le_refl _,fun ν hv=>⟨gH hreg hnn (hg.1.vn hv),zkh hg ?_⟩⟩ h
 have hv1:=hg.1.vn hv
 have hn:jS nn l=false:=zi3 (fun h=>by subst h;simp at hlt)
 have hd:(zv ν H1).get b=some (.cells (zR ty l) false):=by rw [zF,hb1'];simp [zN,hn]
 refine VJ (Nat.le_refl _) (fun c hc=>by rw [ho] at hc;cases hc) fun φ w K a' g hf ht=>?_
 have har:=qd ht (zP ha ν)
 have hxr:=qd ht (zP hx ν)
 simp only [den] at har
 generalize hx':a'.eval xo=x' at hxr
 obtain ⟨s1,s2⟩:=VH (ν:=ν) (H:=H) c2
 have hcells:=hxr.cells' s2
 rw [s1] at hcells
 have hlen0:off+(Un v).length≤(wJ ty y).length:=by rw [VG,c3];exact c5
 obtain ⟨L,hL⟩:=g.named hd
 obtain ⟨p1,p2⟩:=zfB ty l (k:=0) (n:=sz ty) hy (by omega)
 rw [Nat.add_zero] at p1 p2
 have p3:(qm ty y).take (sz ty)=qm ty y:=List.take_of_length_le (by rw [wC];omega)
 rw [List.drop_zero,p3] at p2
 obtain ⟨uy,hul,_,hur⟩:=g.read hd hL (i*sz ty) (sz ty) p1
 rw [p2] at hur
 have hxl:x'.cells.toList.length=inf.size:=by rw [←hcells.length,wT,c3]
 have hnew:zx φ (qm ty y') (spl uy off x'.cells.toList):=by
  refine hcr ν H1 (GLe.refl _) φ K w nx _ g hv1 ?_
  rw [←he0,zpR]
  refine zFf ?_ hcells
  rw [qz,yH];exact hur
 have hvs:zx φ (((qm ty y').drop off).take inf.size) x'.cells.toList:=by
  have h1:=(hnew.drop off).take inf.size
  have h2:((spl uy off x'.cells.toList).drop off).take inf.size=x'.cells.toList:=by
   unfold spl
   have e1:(uy.take off).length=off:=by simp;omega
   rw [List.append_assoc,List.drop_left' e1,List.take_left' hxl]
  rwa [h2] at h1
 have hvl:(((qm ty y').drop off).take inf.size).length=inf.size:=by rw [hvs.length,hxl]
 have hone:YH (((qm ty y').drop off).take inf.size)=true:=zof fun c hc=>zpV ty y' c (List.mem_of_mem_drop (List.mem_of_mem_take hc))
 have hy2:qm ty y'=spl (qm ty y) off (((qm ty y').drop off).take inf.size):=by
  apply List.ext_getElem?
  intro j
  rw [zfV _ _ _ (by rw [hvl,wC];exact c5),hvl]
  obtain ⟨q1,_,q3⟩:=zwM ty hcv
  by_cases h1:j < off
  ·rw [if_pos h1]
   refine q3 y j (by omega) ?_
   exact zwN _ _ _ hlen0 j (.inl h1)
  ·rw [if_neg h1]
   by_cases h2:j < off+inf.size
   ·rw [if_pos h2,List.getElem?_take,if_pos (by omega),List.getElem?_drop]
    congr 1;omega
   ·rw [if_neg h2]
    by_cases h3:j < sz ty
    ·refine q3 y j h3 ?_
     exact zwN _ _ _ hlen0 j (.inr (by omega))
    ·rw [List.getElem?_eq_none (by rw [wC];omega),List.getElem?_eq_none (by rw [wC];omega)]
 have hset:=zBr ty l (k:=off) hy (by rw [hvl];exact c5) hy2
 obtain ⟨w',hst,hg2,hw2⟩:=g.write P hd hL (i*sz ty+off) (by rw [hvl];have:=(zfB ty l (k:=off) (n:=inf.size) hy c5).1;omega) hone hvs (by intro h0;rw [h0] at hvl;simp at hvl;omega)
 rw [hset] at hg2
 rw [jN] at hi
 unfold execOp
 simp only [ho]
 generalize a'.eval ao=ua at har
 cases har with
 |ptr _ _ L2 hL2=>
  rw [hL] at hL2;cases hL2
  refine zfu ⟨w',?_,?_,hw2⟩
  ·simp only [Instr.storeAt,Instr.sureAddr,storeVar]
   have hsz:x'.cells.size=inf.size:=by simpa using hxl
   rw [hx']
   simp [qP hi,hsz]
   exact hst
  ·refine hg2.sub fun c k hc=>?_
   rw [zF,qH,yy hreg] at hc
   rw [Hp.get_set]
   by_cases hcb:c=b
   ·subst hcb
    simp [hb1',zN,zwt,hn] at hc
    rw [if_pos rfl,hd]
    simp [hc]
   ·rw [if_neg hcb] at hc ⊢
    rw [zF];exact hc
theorem zDm {rd:Option Nat} {o:Oper} {tm:List SV} {H:SH} {nx:Nat} {cs:List SV} {v:SV} (hn:zk H nx=none)
  (h:∀ν,wP P (zq (rho ν H) tm) (zv ν H) nx o=some (den (rho ν ((nx,.vars cs)::H)) v,(nx,.cells (zq (rho ν H) cs) false)::zv ν H,nx+1)):SOp P rd o tm H nx v ((nx,.vars cs)::H) (nx+1):=by
 refine ⟨uZ hn,kR hn,Nat.le_succ _,fun ν hv=>⟨Ys hv,Zw (vU (h ν)) (fun φ v' hv=>hv) (fun φ K w g=>?_)⟩⟩
 have hr:rho ν ((nx,.vars cs)::H)=rho ν H:=yy (fun c=>by
  rw [zI]
  by_cases hc:nx=c
  ·subst hc;simp [hn,reg]
  ·rw [if_neg hc]) ν
 refine Uo hn (x:=.cells (zq (rho ν H) cs) false) ?_ g
 simp [zN,hr]
def isNone {α:Type}:Option α→Bool
 |none=>true
 |some _=>false
def zDn (P:Program) (tm:List SV) (H:SH) (nx:Nat) (t:TypeId) (n:Nat) (ps:List (Nat×Operand)):Option (SV×SH):=match zdY tm H ps,jw P t with
 |some vs,some (.slice e)=>match jC P e with
  |some ie=>match ie.zero with
   |some z=>match zpM z with
    |some zs=>bif isNone (zmC P 20 e)&&(Nat.beq ie.size 1&&Nat.ble n 1000) then match zki (fun i=>some (i*ie.size,ie.size)) (List.replicate n zs) vs with
     |some cs=>match JW H nx (.vars cs) with
      |some H'=>some (.slv nx n,H')
      |none=>none
     |none=>none
     else none
    |none=>none
   |none=>none
  |none=>none
 |_,_=>none
theorem zFg {rd:Option Nat} {o:Oper} {tm:List SV} {H H':SH} {nx:Nat} {v:SV} {t:TypeId} {n:Nat} {ps:Array (Nat×Operand)} (ho:o.op=.buildSlice t n ps) (h:zDn P tm H nx t n ps.toList=some (v,H')):SOp P rd o tm H nx v H' (nx+1):=by
 unfold zDn at h
 split at h
 case h_2=>cases h
 rename_i vs e hvs hu
 split at h
 case h_2=>cases h
 rename_i ie hie
 split at h
 case h_2=>cases h
 rename_i z hz
 split at h
 case h_2=>cases h
 rename_i zs hzs
 have h6:=zw h
 clear h
 obtain ⟨hc,h⟩:=h6
 simp only [Bool.and_eq_true] at hc
 have hs1:=Nat.eq_of_beq_eq_true hc.2.1
 have hn:=Nat.le_of_ble_eq_true hc.2.2
 split at h
 case h_2=>cases h
 rename_i cs hcs
 split at h
 case h_2=>cases h
 rename_i H2 hnew
 cases h
 obtain ⟨hn1,rfl⟩:=uq hnew
 refine zDm hn1 fun ν=>?_
 obtain ⟨e1,e2⟩:=zpN (ρ:=rho ν H) hzs
 obtain ⟨f1,f2⟩:=zhK (ν:=ν) (H:=H) _ hcs
 have hzc:z.cells=#[z]:=by
  unfold zpM at hzs
  split at hzs<;>first | rfl | cases hzs
 have hrep:((Array.range (n*ie.size)).map (z.cells[· % z.cells.size]!))=(zq (rho ν H) (List.replicate n zs)).toArray:=by
  rw [hs1,hzc]
  apply Array.ext'
  rw [qz,List.map_replicate,e1]
  apply List.ext_getElem?
  intro i
  simp only [Nat.mul_one,Array.toList_map,Array.toList_range,List.getElem?_map,List.getElem?_replicate]
  by_cases hi:i < n
  ·simp [hi,Nat.mod_one]
  ·simp [hi]
 have hav:∀m,avL (List.replicate m z)=true:=fun m=>by
  induction m with
  |zero=>rfl
  |succ m ih=>simp [List.replicate_succ,avL,ih,e2]
 unfold wP
 simp only [ho,zfD ν hvs,Option.bind_some]
 unfold Xl
 simp only [hu,hie,hz]
 rw [if_pos]
 ·rw [hrep,f1]
  have:avL (zq (rho ν H) (List.replicate n zs)).toArray.toList=true:=by
   rw [qz,List.map_replicate,e1];exact hav n
  simp only [this,if_true,den]
 ·refine ⟨by rw [hs1];omega,by simp only [qb];omega,by rw [hzc];exact hav 1,f2,by rw [hzc];simp⟩
def zpW (H:SH) (ty:Ty):SV→Option (List (T ty))
 |.lst t l _=>if h:t=ty then some (Yo h l) else none
 |.own b=>match zk H b with
  |some (.arr _ t l)=>if h:t=ty then some (Yo h l) else none
  |some (.roa _ t l)=>if h:t=ty then some (Yo h l) else none
  |_=>none
 |.nils=>some []
 |_=>none
theorem zuE (ty:Ty) (l:List (T ty)):((l.map (yC ty)).flatMap fun e=>e.cells.toList)=zR ty l:=by
 induction l with
 |nil=>rfl
 |cons x l ih=>simp only [List.map_cons,List.flatMap_cons,ih];rfl
theorem zmE {ν:Nat→Bool} {nx:Nat} {H:SH} (hv:VN ν nx H) {b:Nat} {nn:Bool} {ty:Ty} {l:List (T ty)} {ro:Bool} (hr:reg (zk H b)=some (l.length,rsz nn ty l)) (hd:jS nn l=false→(zv ν H).get b=some (.cells (zR ty l) ro)) :
  gy (zv ν H) (sz ty) (rho ν H b)=some (l.length,zR ty l):=by
 rw [QA ν hr]
 cases hn:jS nn l with
 |true=>
  obtain ⟨_,rfl⟩:=za1 hn
  simp [gy,zR]
 |false=>
  simp only [cond_false,gy]
  by_cases h0:l.length=0
  ·have:l=[]:=List.length_eq_zero_iff.1 h0
   subst this
   simp [zR]
  ·rw [if_neg h0]
   simp only [hd hn,Yp,Nat.zero_add,Nat.le_refl,if_true,List.drop_zero]
   rw [List.take_of_length_le (by rw [Yp];omega)]
theorem zcY {ν:Nat→Bool} {nx:Nat} {H:SH} (hv:VN ν nx H) {ty:Ty} {x:SV} {l:List (T ty)} (h:zpW H ty x=some l):gy (zv ν H) (sz ty) (den (rho ν H) x)=some (l.length,zR ty l):=by
 unfold zpW at h
 split at h
 ·rename_i t l0 full
  split at h
  case isFalse=>cases h
  rename_i ht
  subst ht
  cases h
  have hes:ZL (den (rho ν H) (.lst t l0 full))=some (sz t,(l0.map (yC t)).toArray,full):=by cases full<;>simp [den,fzV,ZL]
  have:gy (zv ν H) (sz t) (den (rho ν H) (.lst t l0 full))=za0 (sz t) (den (rho ν H) (.lst t l0 full)):=by cases full<;>simp [den,fzV,gy]
  rw [this]
  unfold za0
  rw [hes]
  simp [zuE,Yo]
 ·rename_i b
  split at h
  ·rename_i nn t l0 hb
   split at h
   case isFalse=>cases h
   rename_i ht
   subst ht
   cases h
   exact zmE hv (ro:=false) (nn:=nn) (by rw [hb];rfl) fun hn=>by rw [zF,hb];have hn':jS nn l0=false:=hn;simp [zN,hn',Yo]
  ·rename_i nn t l0 hb
   split at h
   case isFalse=>cases h
   rename_i ht
   subst ht
   cases h
   exact zmE hv (ro:=true) (nn:=nn) (by rw [hb];rfl) fun hn=>by rw [zF,hb];have hn':jS nn l0=false:=hn;simp [zN,hn',Yo]
  ·cases h
 ·cases h
  simp [den,gy,zR]
 ·cases h
theorem zmF {o:Oper} {a:Act} {b:Builtin} {args:Array Operand} {ats:Array TypeId} (ho:o.op=.call {callee:=.builtin b,args:=args,argTypes:=ats}) :
  ∃cs,execOp a.eval o=builtin b ats o.type cs (args.map a.eval):=by
 refine ⟨args.map fun | .const _=>true | _=>false,?_⟩
 unfold execOp
 simp only [ho]
 show builtin b ats o.type _ _=_
 congr 1
def zog {α:Type} (l l2:List α):List α:=l2.take l.length++l.drop l2.length
def zAf (P:Program) (tm:List SV) (H:SH) (nx:Nat) (t:TypeId) (d x:Operand) (k:KO R):Option R:=match jW tm H d,jW tm H x with
 |some (.own b),some v=>match zk H b,jw P t with
  |some (.arr true ty l),some (.slice e)=>bif Up P e (sz ty)&&Nat.blt 0 (sz ty) then match zpW H ty v with
   |some l2=>k (.int .i64 (Nat.min l2.length l.length:Nat)) (jV H b (.arr true ty (zog l l2))) (nx+1)
   |none=>none
   else none
  |_,_=>none
 |_,_=>none
theorem zDo {rd:Option Nat} {o:Oper} {tm:List SV} {H:SH} {nx:Nat} {k:KO R} {r:R} {t u:TypeId} {d x:Operand} (ho:o.op=.call {callee:=.builtin .copy,args:=#[d,x],argTypes:=#[t,u]}) (h:zAf P tm H nx t d x k=some r):gu P rd o tm H nx k r:=by
 unfold zAf at h
 split at h
 case h_2=>cases h
 rename_i b v hd hx
 split at h
 case h_2=>cases h
 rename_i ty l e hb hu
 have h6:=zw h
 clear h
 obtain ⟨hh,h⟩:=h6
 simp only [Bool.and_eq_true] at hh
 obtain ⟨ie,hie,hsz⟩:=YJ hh.1
 have hpos:=zdW hh.2
 split at h
 case h_2=>cases h
 rename_i l2 hl2
 have hcl:(zog l l2).length=l.length:=by simp [zog];omega
 have hreg:∀c,reg (zk (jV H b (.arr true ty (zog l l2))) c)=reg (zk H c):=fun c=>by
  rw [qH]
  by_cases hc:c=b
  ·subst hc;simp [hb,reg,hcl,rsz,jS]
  ·rw [if_neg hc]
 have hnn:∀c,ji (zk (jV H b (.arr true ty (zog l l2))) c)=true→ji (zk H c)=true:=fun c hc=>by
  rw [qH] at hc
  by_cases hcb:c=b
  ·subst hcb;rw [hb];rfl
  ·rwa [if_neg hcb] at hc
 refine ur ⟨fun c z hz=>by rw [hreg c];exact hz,Yr hb (fun L=>by simp),Nat.le_succ _,fun ν hv=>⟨(gH hreg hnn hv).later (Nat.le_succ _),?_⟩⟩ h
 have hdb:(zv ν H).get b=some (.cells (zR ty l) false):=by rw [zF,hb];simp [zN,jS]
 refine VJ (Nat.le_succ _) (fun c hc=>by rw [ho] at hc;cases hc) fun φ w K a g hf ht=>?_
 have hdr:=qd ht (zP hd ν)
 have hxr:=qd ht (zP hx ν)
 have hρ:den (rho ν H) (.own b)=.slice (some ⟨b,0,none⟩) l.length (qb+sz ty):=by
  simp only [den]
  rw [QA ν (nn:=true) (t:=ty) (l:=l) (by rw [hb];rfl)]
  rfl
 rw [hρ] at hdr
 rw [wb] at hu
 rw [jN] at hie
 have hsrc:=zcY hv hl2
 rw [←hsz] at hsrc
 obtain ⟨w',r1,r2,r3⟩:=zBA (P:=P) (ts:=u) (ty:=o.type) g hu hie hdb hdr hsrc hxr (by rw [Yp,hsz]) (by omega) (zof fun c hc=>by
  simp only [zR,List.mem_flatMap] at hc
  obtain ⟨y,_,hc⟩:=hc
  exact zpV _ _ _ hc)
 obtain ⟨cs,he⟩:=zmF (a:=a) ho
 have hmap:(#[d,x]:Array Operand).map a.eval=#[a.eval d,a.eval x]:=by simp
 rw [he,hmap]
 show zn9 P φ K w nx (do pure (.value (←Builtin.copy_ #[t,u] o.type #[a.eval d,a.eval x])):Sem Next) _ _ _
 refine Ran.op (s:=Builtin.copy_ #[t,u] o.type #[a.eval d,a.eval x]) ⟨_,w',φ,r1,?_,Ext.refl _ _ _ _,?_,r3,Nat.le_succ _⟩
 ·simp only [den,goInt];exact .int _ _
 ·refine r2.sub fun c k hc=>?_
  rw [zF,qH,yy hreg] at hc
  rw [Hp.get_set]
  by_cases hcb:c=b
  ·subst hcb
   simp [hb,zN,jS] at hc
   rw [if_pos rfl,hdb]
   simp only [Option.map_some,Option.some.injEq]
   rw [←hc]
   congr 1
   unfold spl
   have e1:(zR ty l2).take (Nat.min l2.length l.length*ie.size)=zR ty (l2.take l.length):=by
    rw [hsz,zra]
    congr 1
    by_cases h0:l2.length≤l.length
    ·rw [show Nat.min l2.length l.length=l2.length from Nat.min_eq_left h0,List.take_of_length_le (Nat.le_refl _),List.take_of_length_le h0]
    ·rw [show Nat.min l2.length l.length=l.length from Nat.min_eq_right (by omega)]
   rw [e1,Yp,List.take_zero,List.nil_append,Nat.zero_add,zkc,zog,zf8]
   congr 2
   by_cases h0:l2.length≤l.length
   ·rw [List.take_of_length_le h0]
   ·rw [List.length_take,Nat.min_eq_left (by omega),List.drop_eq_nil_of_le (Nat.le_refl _),List.drop_eq_nil_of_le (by omega)]
  ·rw [if_neg hcb] at hc ⊢
   rw [zF];exact hc
def xj (n m bytes:Nat):Bool:=Nat.ble (n+m) maxLen&&Nat.ble ((n+m)*bytes) 140737488355328
def zwO (H0 H:SH) (nx:Nat) (ty:Ty) (bytes:Nat) (l l2:List (T ty)) (s:SV) (k:KO R):Option R:=match l2 with
 |[]=>k s H0 (nx+1)
 |y::ys=>match JW H nx (.arr true ty (l++y::ys)) with
  |some H'=>bif xj l.length (y::ys).length bytes then k (.own nx) H' (nx+1) else none
  |none=>none
def zGX:SV→Bool
 |.lst _ _ _=>true
 |_=>false
def tyS (H:SH):SV→Option Ty
 |.lst t _ _=>some t
 |.own b=>match zk H b with
  |some (.arr _ t _)=>some t
  |some (.roa _ t _)=>some t
  |_=>none
 |_=>none
def zDp (P:Program) (tm:List SV) (H:SH) (nx:Nat) (t:TypeId) (s x:Operand) (k:KO R):Option R:=match jW tm H s,jW tm H x with
 |some sv,some xv=>match jw P t with
  |some (.slice e)=>match jC P e with
   |some ie=>match sv with
    |.nils=>match tyS H xv with
     |some ty=>bif zfF P e ty then match zpW H ty xv with
      |some l2=>match JW H nx (.arr false ty l2) with
       |some H'=>bif xj 0 l2.length ie.bytes then k (.own nx) H' (nx+1) else none
       |none=>none
      |none=>none
      else none
     |none=>none
    |.own b=>match zk H b with
     |some (.arr nn ty l)=>bif zfF P e ty then match zpW H ty xv with
      |some l2=>match JW (jV H b (.gone (rsz nn ty l) l.length)) nx (.arr nn ty (l++l2)) with
        |some H'=>bif xj l.length l2.length ie.bytes then k (.own nx) H' (nx+1) else none
        |none=>none
      |none=>none
      else none
     |_=>none
    |.lst ty l true=>bif zfF P e ty then match zpW H ty xv with
     |some l2=>bif zGX xv then match JW H nx (.fro true ty (l++l2)) with
       |some _=>bif xj l.length l2.length ie.bytes then k (.lst ty (l++l2) false) H (nx+1) else none
       |none=>none
      else zwO H H nx ty ie.bytes l l2 (.lst ty l true) k
     |none=>none
     else none
    |_=>none
   |none=>none
  |_=>none
 |_,_=>none
theorem zgb {H:SH} {b:Nat} {nn:Bool} {ty:Ty} {l:List (T ty)} (hb:zk H b=some (.arr nn ty l)) (c:Nat):reg (zk (jV H b (.gone (rsz nn ty l) l.length)) c)=reg (zk H c):=by
 rw [qH]
 by_cases hc:c=b
 ·subst hc
  rw [if_pos rfl,hb]
  exact zf9 nn ty l
 ·rw [if_neg hc]
theorem zyN {H:SH} {b:Nat} {nn:Bool} {ty:Ty} {l:List (T ty)} (hb:zk H b=some (.arr nn ty l)) (c:Nat) (h:ji (zk (jV H b (.gone (rsz nn ty l) l.length)) c)=true):ji (zk H c)=true:=by
 rw [qH] at h
 by_cases hc:c=b
 ·subst hc;simp [hb,ji] at h
 ·rwa [if_neg hc] at h
theorem zle {ν:Nat→Bool} {H:SH} {b:Nat} {nn:Bool} {ty:Ty} {l:List (T ty)} (hb:zk H b=some (.arr nn ty l)) (c:Nat) (k:Blk) (h:(zv ν (jV H b (.gone (rsz nn ty l) l.length))).get c=some k):((zv ν H).del b).get c=some k:=by
 rw [zF,qH,yy (zgb hb)] at h
 rw [Hp.get_del]
 by_cases hc:c=b
 ·subst hc;simp [hb,zN] at h
 ·rw [if_neg hc] at h ⊢
  rw [zF];exact h
theorem zpi {o:Oper} {a:Act} {t:TypeId} {so xo:Operand} (ho:o.op=.call {callee:=.builtin .append,args:=#[so,xo],argTypes:=#[t,t]}) :
  execOp a.eval o=(do pure (.value (←Builtin.append_ #[t,t] o.type #[a.eval so,a.eval xo])):Sem Next):=by
 obtain ⟨cs,he⟩:=zmF (a:=a) ho
 have hmap:(#[so,xo]:Array Operand).map a.eval=#[a.eval so,a.eval xo]:=by simp
 rw [he,hmap];rfl
structure zpX (P:Program) (t e:TypeId) (ie:TypeInfo) (ty:Ty):Prop where
 hu:jw P t=some (.slice e)
 hie:jC P e=some ie
 hz:∃z,ie.zero=some z∧z.cells.size=ie.size∧0 < ie.size
 hsz:sz ty=ie.size
theorem zpX.of {t e:TypeId} {ie:TypeInfo} {ty:Ty} (hu:jw P t=some (.slice e)) (hie:jC P e=some ie) (h:zfF P e ty=true):zpX P t e ie ty:=by
 obtain ⟨i,z,e1,e2,e3,e4,e5,_⟩:=zkj h
 rw [←jN,hie] at e1
 cases e1
 exact ⟨hu,hie,⟨z,e2,e3,e4⟩,e5⟩
theorem zkk {n m bytes:Nat} (h:xj n m bytes=true):n+m≤maxLen∧(n+m)*bytes≤140737488355328:=by
 simp only [xj,Bool.and_eq_true] at h
 exact ⟨Nat.le_of_ble_eq_true h.1,Nat.le_of_ble_eq_true h.2⟩
theorem zDq {ν:Nat→Bool} {H:SH} (g:zA φ (zv ν H) K w) {t e:TypeId} {ie:TypeInfo} {ty:Ty} (hE:zpX P t e ie ty) {tt:TypeId} {x s' x':Value} {news:List Value} (hsrc:gy (zv ν H) ie.size x=some (0,news)) (hx:zo φ x x') (hs:∃a n c,s'=.slice a n c∧n≤c) :
  (Builtin.append_ #[t,t] tt #[s',x']).run P w=.ok s' w:=by
 obtain ⟨ax,cx,us,rfl,_⟩:=GM g hsrc hx
 obtain ⟨a,n,c,rfl,hn⟩:=hs
 have h1:=hE.hu
 have h2:=hE.hie
 rw [wb] at h1
 rw [jN] at h2
 exact QP h1 h2 a n c hn ax cx w
theorem zDr (ty:Ty) (l:List (T ty)):YH (zR ty l)=true:=zof fun c hc=>by
 simp only [zR,List.mem_flatMap] at hc
 obtain ⟨y,_,hc⟩:=hc
 exact zpV _ _ _ hc
theorem zFh {H:Hp} {b c:Nat} {k:Blk} (h:(H.del b).get c=some k):H.get c=some k:=by
 rw [Hp.get_del] at h
 by_cases hc:c=b
 ·rw [if_pos hc] at h;cases h
 ·rwa [if_neg hc] at h
theorem zFi {ν:Nat→Bool} {H:SH} {nx:Nat} {b:Nat} {nn:Bool} {ty:Ty} {l l2:List (T ty)} {t e:TypeId} {ie:TypeInfo} (hE:zpX P t e ie ty) (hb:zk H b=some (.arr nn ty l)) (hv:VN ν nx H) {xv:SV} (hsrc:zpW H ty xv=some l2) (hne:l2≠[])
  (hok:xj l.length l2.length ie.bytes=true):∃v Hd,gC P (zv ν H) nx t (rho ν H b) (den (rho ν H) xv)=some (v,Hd,nx+1)∧v=.slice (some ⟨nx,0,none⟩) (l.length+l2.length) (qb+ie.size)∧∀c k,Hp.get ((nx,.cells (zR ty (l++l2)) false)::(zv ν H).del b) c=some k→Hd.get c=some k:=by
 have hs:=zcY hv hsrc
 obtain ⟨h1,h2⟩:=zkk hok
 obtain ⟨z,z1,z2,z3⟩:=hE.hz
 have hm:l2.length≠0:=fun h0=>hne (List.length_eq_zero_iff.1 h0)
 have hr:reg (zk H b)=some (l.length,rsz nn ty l):=by rw [hb];rfl
 have hso:=zmE hv (b:=b) (ty:=ty) (l:=l) (ro:=false) hr (fun hn=>by rw [zF,hb];simp [zN,hn])
 rw [hE.hsz] at hs hso
 cases hn:jS nn l with
 |true=>
  obtain ⟨_,rfl⟩:=za1 hn
  have hρ:rho ν H b=.slice none 0 0:=by rw [QA ν hr,hn];rfl
  refine ⟨.slice (some ⟨nx,0,none⟩) l2.length (qb+ie.size),(nx,.cells (zR ty l2) false)::zv ν H,?_,by simp,fun c k hc=>?_⟩
  ·rw [hρ]
   unfold gC
   simp only [hE.hu,hE.hie,z1,hs,z2,z3,and_self,if_true,hm,if_false]
   simp only [List.length_nil,Nat.zero_add] at h1 h2
   rw [if_pos ⟨h1,h2⟩]
  ·simp only [List.nil_append] at hc
   exact zsY c k hc
 |false=>
  have hρ:rho ν H b=.slice (some ⟨b,0,none⟩) l.length (qb+sz ty):=by rw [QA ν hr,hn];rfl
  have hd:(zv ν H).get b=some (.cells (zR ty l) false):=by rw [zF,hb];simp [zN,hn]
  refine ⟨.slice (some ⟨nx,0,none⟩) (l.length+l2.length) (qb+ie.size),(nx,.cells (zR ty l++zR ty l2) false)::(zv ν H).del b,?_,rfl,fun c k hc=>by rwa [zf8] at hc⟩
  rw [hρ] at hso ⊢
  have c1:¬qb+sz ty < l.length+l2.length:=by simp only [maxLen,qb] at *;omega
  have c2:qb≤qb+sz ty:=Nat.le_add_right _ _
  have c3:qb+sz ty - qb=ie.size:=by rw [hE.hsz];omega
  unfold gC
  simp only [hE.hu,hE.hie,z1,hs,z2,z3,and_self,if_true,hm,if_false,hso,h1,h2,c1,c2,c3,hd,zDr,implies_true]
theorem zBF {ν:Nat→Bool} {H:SH} {b:Nat} {v':Value} {nn:Bool} {ty:Ty} {l:List (T ty)} (hb:zk H b=some (.arr nn ty l)) (h:zo φ (rho ν H b) v'):∃a n c,v'=.slice a n c∧n≤c:=by
 rw [QA ν (nn:=nn) (t:=ty) (l:=l) (by rw [hb];rfl)] at h
 cases hn:jS nn l with
 |true=>rw [hn] at h;cases h;exact ⟨_,_,_,rfl,Nat.le_refl _⟩
 |false=>
  rw [hn,cond_false] at h
  generalize hc0:qb+sz ty=c0 at h
  generalize hn0:l.length=n0 at h
  cases h with
  |sl _ _ _ _ L hL hc=>omega
  |slO _ _ _ _ c' L hL hc hnc hl=>exact ⟨_,_,_,rfl,hnc⟩
  |slE _ _ _ a' L hL hc=>exact ⟨_,_,_,rfl,Nat.le_refl _⟩
theorem zwP {H H2:SH} {nx:Nat} {b:Nat} {nn nn':Bool} {ty:Ty} {l l':List (T ty)} (hb:zk H b=some (.arr nn ty l)) (hn:JW (jV H b (.gone (rsz nn ty l) l.length)) nx (.arr nn' ty l')=some H2) :
  wN H H2∧wS H H2∧∀ν,VN ν nx H→VN ν (nx+1) H2∧(jS nn' l'=false→rho ν H2 nx=.slice (some ⟨nx,0,none⟩) l'.length (qb+sz ty))∧(∀φ K w,zA φ ((nx,.cells (zR ty l') false)::(zv ν H).del b) K w→zA φ (zv ν H2) K w)∧
   (jS nn' l'=true→rho ν H2 nx=.slice none 0 0∧∀φ K w,zA φ (zv ν H) K w→zA φ (zv ν H2) K w):=by
 obtain ⟨h1,rfl⟩:=uq hn
 have hr:wN H (jV H b (.gone (rsz nn ty l) l.length)):=fun c z hz=>by rw [zgb hb];exact hz
 refine ⟨hr.trans (uZ h1),(Yr hb (fun L=>by simp)).trans (kR h1),fun ν hv=>?_⟩
 have hv1:=gH (zgb hb) (zyN hb) hv
 refine ⟨Ys hv1,fun hl=>zbB hv1 hl,fun φ K w g=>GR h1 hv1 (g.sub fun c k hc=>?_),fun hl=>⟨zrh hl,fun φ K w g=>zmD h1 (by simp [zN,hl]) (g.sub fun c k hc=>zFh (zle hb c k hc))⟩⟩
 simp only [Hp.get_cons] at hc ⊢
 split at hc
 ·rename_i he;rw [if_pos he];exact hc
 ·rename_i he;rw [if_neg he];exact zle hb c k hc
theorem zBG {rd:Option Nat} {o:Oper} {tm:List SV} {H0 H:SH} {nx:Nat} {k:KO R} {r:R} {ty:Ty} {bytes:Nat} {l l2:List (T ty)} {s:SV} (h:zwO H0 H nx ty bytes l l2 s k=some r)
  (h0:l2=[]→SOp P rd o tm H0 nx s H0 (nx+1))
  (h1:∀H',l2≠[]→JW H nx (.arr true ty (l++l2))=some H'→xj l.length l2.length bytes=true→SOp P rd o tm H0 nx (.own nx) H' (nx+1)):gu P rd o tm H0 nx k r:=by
 unfold zwO at h
 split at h
 ·exact ur (h0 rfl) h
 ·split at h
  case h_2=>cases h
  rename_i y ys H' hn
  obtain ⟨hok,h2⟩:=zw h
  exact ur (h1 H' (by simp) hn hok) h2
theorem zFj {rd:Option Nat} {o:Oper} {tm:List SV} {H:SH} {nx:Nat} {k:KO R} {r:R} {t:TypeId} {so xo:Operand} (ho:o.op=.call {callee:=.builtin .append,args:=#[so,xo],argTypes:=#[t,t]}) (h:zDp P tm H nx t so xo k=some r):gu P rd o tm H nx k r:=by
 unfold zDp at h
 split at h
 case h_2=>cases h
 rename_i sv xv hs hx
 split at h
 case h_2=>cases h
 rename_i e hu
 split at h
 case h_2=>cases h
 rename_i ie hie
 have hnd:∀c,o.op≠.defer c:=fun c hc=>by rw [ho] at hc;cases hc
 have run:∀{ν:Nat→Bool} {H':SH} {v:SV} {vd:Value} {Hd:Hp},VN ν nx H→(∀φ K w,zA φ (zv ν H) K w→∀s',zo φ (den (rho ν H) sv) s'→∃sd,zo φ sd s'∧gC P (zv ν H) nx t sd (den (rho ν H) xv)=some (vd,Hd,nx+1))→
   (∀φ K w v',zA φ Hd K w→zo φ vd v'→∃φ',(∀n,Ext K φ φ' n n)∧zA φ' (zv ν H') K w∧zo φ' (den (rho ν H') v) v')→Gv P rd o (zq (rho ν H) tm) (zv ν H) nx (den (rho ν H') v) (zv ν H') (nx+1):=by
  intro ν H' v vd Hd hv h1 h2
  refine VJ (Nat.le_succ _) hnd fun φ w K a g hf ht=>?_
  have hsr:=qd ht (zP hs ν)
  have hxr:=qd ht (zP hx ν)
  have hfr:=hf.at (Nat.le_refl nx) (Nat.lt_succ_self nx)
  obtain ⟨sd,e1,e2⟩:=h1 φ K w g _ hsr
  obtain ⟨v',w',φ',r1,r2,r3,r4,r5,_⟩:=zpa (P:=P) (ty:=o.type) g hfr.1 hfr.2 e2 e1 hxr
  obtain ⟨φ2,f1,f2,f3⟩:=h2 φ' K w' v' r4 r2
  rw [zpi ho]
  exact Ran.op ⟨v',w',φ2,r1,f3,r3.trans (f1 (nx+1)) (Nat.le_succ _) (Nat.le_refl _),f2,r5,Nat.le_succ _⟩
 have idExt:∀(φ:Ren) (K:Nat→Prop),∀n,Ext K φ φ n n:=fun φ K n=>Ext.refl _ _ _ _
 split at h
 ·
  split at h
  case h_2=>cases h
  rename_i ty hty
  have h6:=zw h
  clear h
  obtain ⟨hz,h⟩:=h6
  have hE:=zpX.of hu hie hz
  obtain ⟨z,z1,z2,z3⟩:=hE.hz
  split at h
  case h_2=>cases h
  rename_i l2 hl2
  split at h
  case h_2=>cases h
  rename_i H' hnew
  have h7:=zw h
  clear h
  obtain ⟨hok,h⟩:=h7
  refine ur ?_ h
  obtain ⟨hn1,rfl⟩:=uq hnew
  refine ⟨uZ hn1,kR hn1,Nat.le_succ _,fun ν hv=>⟨Ys hv,?_⟩⟩
  have hsrc:=zcY hv hl2
  rw [hE.hsz] at hsrc
  cases hne:l2 with
  |nil=>
   subst hne
   refine run (v:=.own nx) (vd:=.slice none 0 0) (Hd:=zv ν H) hv (fun φ K w g s' hs'=>⟨.slice none 0 0,by simpa only [den] using hs',?_⟩) (fun φ K w v' g hv'=>⟨φ,idExt φ K,zmD hn1 rfl g,by simp only [den];rw [zrh rfl];exact hv'⟩)
   unfold gC
   simp [hE.hu,hE.hie,z1,hsrc,z2,z3]
  |cons y ys=>
   rw [←hne]
   have hnn:l2≠[]:=by rw [hne];simp
   have hm:l2.length≠0:=fun h0=>hnn (List.length_eq_zero_iff.1 h0)
   obtain ⟨b1,b2⟩:=zkk hok
   simp only [Nat.zero_add] at b1 b2
   refine run (v:=.own nx) (vd:=.slice (some ⟨nx,0,none⟩) l2.length (qb+ie.size)) (Hd:=(nx,.cells (zR ty l2) false)::zv ν H) hv (fun φ K w g s' hs'=>⟨.slice none 0 0,by simpa only [den] using hs',?_⟩) (fun φ K w v' g hv'=>⟨φ,idExt φ K,GR hn1 hv (by simpa using g),?_⟩)
   ·unfold gC
    simp [hE.hu,hE.hie,z1,hsrc,z2,z3,hm,b1,b2]
   ·simp only [den]
    rw [zbB hv (zi3 hnn),hE.hsz]
    simpa using hv'
 ·
  rename_i b
  split at h
  case h_2=>cases h
  rename_i nn ty l hb
  have h6:=zw h
  clear h
  obtain ⟨hz,h⟩:=h6
  have hE:=zpX.of hu hie hz
  obtain ⟨z,z1,z2,z3⟩:=hE.hz
  split at h
  case h_2=>cases h
  rename_i l2 hl2
  have more:∀{H2:SH},JW (jV H b (.gone (rsz nn ty l) l.length)) nx (.arr nn ty (l++l2))=some H2→l2≠[]→xj l.length l2.length ie.bytes=true→SOp P rd o tm H nx (.own nx) H2 (nx+1):=by
   intro H2 hnew hne hok
   obtain ⟨q1,q2,q3⟩:=zwP hb hnew
   refine ⟨q1,q2,Nat.le_succ _,fun ν hv=>?_⟩
   obtain ⟨q4,q5,q6,_⟩:=q3 ν hv
   obtain ⟨vd,Hd,e1,rfl,e3⟩:=zFi hE hb hv hl2 hne hok
   refine ⟨q4,run hv (fun φ K w g s' hs'=>⟨rho ν H b,by simpa only [den] using hs',e1⟩) (fun φ K w v' g hv'=>⟨φ,idExt φ K,q6 φ K w (g.sub e3),?_⟩)⟩
   simp only [den]
   rw [q5 (zi3 (by simp [hne])),hE.hsz,List.length_append]
   exact hv'
  split at h
  case h_2=>cases h
  rename_i H2 hnew
  have h7:=zw h
  clear h
  obtain ⟨hok,h⟩:=h7
  by_cases hne:l2=[]
  ·subst hne
   rw [List.append_nil] at hnew
   obtain ⟨q1,q2,q3⟩:=zwP hb hnew
   refine ur ⟨q1,q2,Nat.le_succ _,fun ν hv=>?_⟩ (by assumption)
   obtain ⟨q4,q5,q6,q7⟩:=q3 ν hv
   refine ⟨q4,VJ (Nat.le_succ _) hnd fun φ w K a g hf ht=>?_⟩
   have hsr:=qd ht (zP hs ν)
   have hxr:=qd ht (zP hx ν)
   simp only [den] at hsr
   have hfr:=hf.at (Nat.le_refl nx) (Nat.lt_succ_self nx)
   have hsrc:=zcY hv hl2
   rw [hE.hsz] at hsrc
   have hrun:=zDq (tt:=o.type) g hE hsrc hxr (zBF hb hsr)
   have hr:reg (zk H b)=some (l.length,rsz nn ty l):=by rw [hb];rfl
   rw [zpi ho]
   generalize a.eval so=us at hsr hrun ⊢
   rw [QA ν hr] at hsr
   cases hn:jS nn l with
   |true=>
    obtain ⟨e1,e2⟩:=q7 hn
    rw [hn] at hsr
    exact Ran.op ⟨us,w,φ,hrun,by simp only [den];rw [e1];exact hsr,Ext.refl _ _ _ _,e2 φ K w g,qG.refl _ _,Nat.le_succ _⟩
   |false=>
    have hd:(zv ν H).get b=some (.cells (zR ty l) false):=by rw [zF,hb];simp [zN,hn]
    obtain ⟨φ',f1,f2,f3⟩:=zmA g hfr.1 hfr.2 hd
    refine Ran.op ⟨us,w,φ',hrun,?_,f1,q6 φ' K w (by simpa using f2),qG.refl _ _,Nat.le_succ _⟩
    simp only [den]
    rw [q5 hn]
    rw [hn,cond_false] at hsr
    generalize qb+sz ty=c0 at hsr ⊢
    generalize l.length=n0 at hsr ⊢
    cases hsr with
    |sl _ _ _ _ L hL hc=>exact .sl _ _ _ _ L (f3 L hL) hc
    |slO _ _ _ _ c' L hL hc hnc hl=>exact .slO _ _ _ _ c' L (f3 L hL) hc hnc hl
    |slE _ _ _ a' L hL hc=>exact .slE _ _ _ a' L (f3 L hL) hc
  ·exact ur (more hnew hne hok) h
 ·
  rename_i ty l
  have h6:=zw h
  clear h
  obtain ⟨hz,h⟩:=h6
  have hE:=zpX.of hu hie hz
  obtain ⟨z,z1,z2,z3⟩:=hE.hz
  split at h
  case h_2=>cases h
  rename_i l2 hl2
  have hes:∀ν,ZL (den (rho ν H) (.lst ty l true))=some (sz ty,(l.map (yC ty)).toArray,true):=fun ν=>by simp [den,fzV,ZL]
  have happ:∀{ν},VN ν nx H→l2≠[]→xj l.length l2.length ie.bytes=true→gC P (zv ν H) nx t (den (rho ν H) (.lst ty l true)) (den (rho ν H) xv)=some (.slice (some ⟨nx,0,none⟩) (l.length+l2.length) (qb+ie.size),(nx,.cells (zR ty (l++l2)) false)::zv ν H,nx+1):=by
   intro ν hv hne hok
   have hsrc:=zcY hv hl2
   rw [hE.hsz] at hsrc
   have hm:l2.length≠0:=fun h0=>hne (List.length_eq_zero_iff.1 h0)
   obtain ⟨b1,b2⟩:=zkk hok
   have hfc:za0 ie.size (.iface (sz ty) (.agg (l.map (yC ty)).toArray))=some (l.length,zR ty l):=by
    unfold za0
    simp [ZL,hE.hsz,zuE]
   unfold gC
   simp only [hE.hu,hE.hie,z1,hsrc,z2,z3,and_self,if_true,den,fzV,cond_true,ZL,hm,if_false,hE.hsz]
   have hl0:((l.map (yC ty)).toArray).size=l.length:=by simp
   rw [hE.hsz] at hfc
   simp only [hl0,b1,b2,and_self,if_true,hfc,zf8]
  have stay:l2=[]→∀(v:SV),(∀ν φ v',zo φ (den (rho ν H) (.lst ty l true)) v'→zo φ (den (rho ν H) v) v')→SOp P rd o tm H nx v H (nx+1):=by
   intro hn v hvr
   subst hn
   refine ⟨wN.refl H,wS.refl H,Nat.le_succ _,fun ν hv=>⟨hv.later (Nat.le_succ _),?_⟩⟩
   have hsrc:=zcY hv hl2
   rw [hE.hsz] at hsrc
   refine run (v:=v) (vd:=den (rho ν H) (.lst ty l true)) (Hd:=zv ν H) hv (fun φ K w g s' hs'=>⟨_,hs',?_⟩) (fun φ K w v' g hv'=>⟨φ,idExt φ K,g,hvr ν φ v' hv'⟩)
   unfold gC
   simp [hE.hu,hE.hie,z1,hsrc,z2,z3,den,fzV,ZL]
  rcases vq h with ⟨_,h⟩ | ⟨_,h⟩
  ·split at h
   case h_2=>cases h
   rename_i H9 hnew
   obtain ⟨hn1,_⟩:=uq hnew
   have h6:=zw h
   clear h
   obtain ⟨hok,h⟩:=h6
   by_cases hne:l2=[]
   ·have:=stay hne (.lst ty (l++l2) false) (fun ν φ v' hv'=>by
     subst hne
     simp only [den,List.append_nil] at hv' ⊢
     exact zuB hv')
    exact ur this h
   ·refine ur ⟨wN.refl H,wS.refl H,Nat.le_succ _,fun ν hv=>⟨hv.later (Nat.le_succ _),?_⟩⟩ h
    refine run (v:=.lst ty (l++l2) false) (vd:=.slice (some ⟨nx,0,none⟩) (l.length+l2.length) (qb+ie.size)) (Hd:=(nx,.cells (zR ty (l++l2)) false)::zv ν H) hv (fun φ K w g s' hs'=>⟨_,hs',happ hv hne hok⟩) (fun φ K w v' g hv'=>?_)
    obtain ⟨φ',f1,f2⟩:=zwu g (b:=nx) (cs:=zR ty (l++l2)) (by simp [Hp.get_cons])
    have hnone:(zv ν H).get nx=none:=by rw [zF,hn1];rfl
    have hgo:∀c k,(zv ν H).get c=some k→c≠nx:=fun c k hc e=>by subst e;rw [hnone] at hc;cases hc
    have g1:zA φ' (zv ν H) K w:=f2 _ fun c k hc=>by
     have hne2:=hgo c k hc
     rw [if_neg hne2]
     have:(nx == c)=false:=by simpa using fun e:nx=c=>hne2 e.symm
     simp [Hp.get_cons,this,hc]
    have g2:zA φ' (zv ν ((nx,.fro true ty (l++l2))::H)) K w:=by
     refine Uo hn1 (x:=.fzc (zR ty (l++l2))) (by simp [zN,jS]) (f2 _ fun c k hc=>?_)
     by_cases hcn:c=nx
     ·subst hcn
      simp [Hp.get_cons] at hc
      simp [hc]
     ·rw [if_neg hcn]
      have:(nx == c)=false:=by simpa using fun e:nx=c=>hcn e.symm
      simp [Hp.get_cons,this] at hc ⊢
      exact hc
    refine ⟨φ',f1,g1,?_⟩
    simp only [den]
    refine zi4 g2 (Ys hv) (b:=nx) (by rw [zI,if_pos rfl]) (by rw [hE.hsz];exact z3) ?_
    have hρ:rho ν ((nx,.fro true ty (l++l2))::H) nx=.slice (some ⟨nx,0,none⟩) (l.length+l2.length) (qb+ie.size):=by
     rw [QA ν (nn:=true) (t:=ty) (l:=l++l2) (by rw [zI,if_pos rfl];rfl)]
     simp [jS,hE.hsz]
    rw [hρ]
    exact hv'.mono (f1 0).1
  ·refine zBG h (fun hn=>stay hn _ fun ν φ v' hv'=>hv') (fun H' hne hnew hok=>?_)
   obtain ⟨hn1,rfl⟩:=uq hnew
   refine ⟨uZ hn1,kR hn1,Nat.le_succ _,fun ν hv=>⟨Ys hv,?_⟩⟩
   refine run (v:=.own nx) (vd:=.slice (some ⟨nx,0,none⟩) (l.length+l2.length) (qb+ie.size)) (Hd:=(nx,.cells (zR ty (l++l2)) false)::zv ν H) hv (fun φ K w g s' hs'=>⟨_,hs',happ hv hne hok⟩) (fun φ K w v' g hv'=>⟨φ,idExt φ K,GR hn1 hv g,?_⟩)
   simp only [den]
   rw [zbB hv rfl,hE.hsz,List.length_append]
   exact hv'
 ·cases h
def mpD {α:Type} (l:List (Int×α)) (n:Int) (z:α):α:=match l with
 |[]=>z
 |p::r=>bif zj p.1 n then p.2 else mpD r n z
def mpH {α:Type} (l:List (Int×α)) (n:Int):Bool:=match l with
 |[]=>false
 |p::r=>bif zj p.1 n then true else mpH r n
def mpP {α:Type} (l:List (Int×α)) (n:Int) (x:α):List (Int×α):=match l with
 |[]=>[(n,x)]
 |p::r=>bif zj p.1 n then (n,x)::r else p::mpP r n x
def mpI {α:Type} (l:List (Int×α)) (n:Int):Option Nat:=match l with
 |[]=>none
 |p::r=>bif zj p.1 n then some 0 else (mpI r n).map (·+1)
theorem zmG {k:IntKind} {ag:Bool} {t:Ty} (n:Int) (d:IntKind):∀(l:List (Int×T t)) (i j:Nat),
  Instr.findNow (.int d) (.int k n) (zbt (ZN k ag t l i)) j=some ((mpI l n).map fun s=>(j+s,mvV ag t (mpD l n (zae t))))
 |[],_,_=>rfl
 |p::r,i,j=>by
  simp only [ZN,zbt,Instr.findNow,Instr.sameNow,if_true,mpI,mpD]
  cases h:zj p.1 n with
  |true=>
   have h1:=wo p.1 n
   rw [h] at h1
   have:p.1=n:=by simpa using h1.symm
   simp [this]
  |false=>
   have h1:=wo p.1 n
   rw [h] at h1
   have:¬n=p.1:=fun e=>by simp [e] at h1
   have hb:(n == p.1)=false:=by simpa using this
   rw [hb]
   dsimp only
   rw [zmG n d r (i+1) (j+1)]
   cases mpI r n with
   |none=>rfl
   |some s=>simp [Nat.add_assoc,Nat.add_comm 1 s]
theorem zEH {α:Type} (n:Int):∀l:List (Int×α),mpH l n=(mpI l n).isSome
 |[]=>rfl
 |p::r=>by
  simp only [mpH,mpI]
  cases zj p.1 n with
  |true=>rfl
  |false=>simp [zEH n r]
theorem zwQ {α:Type} (n:Int) (z:α):∀l:List (Int×α),mpI l n=none→mpD l n z=z
 |[],_=>rfl
 |p::r,h=>by
  simp only [mpI] at h
  simp only [mpD]
  cases hq:zj p.1 n with
  |true=>rw [hq] at h;cases h
  |false=>
   rw [hq] at h
   simp only [cond_false,Option.map_eq_none_iff] at h
   exact zwQ n z r h
theorem zmH {k:IntKind} {ag:Bool} {t:Ty} {n:Int} {x:T t}:∀(l:List (Int×T t)) (i:Nat),mpI l n=none→ZN k ag t (mpP l n x) i=ZN k ag t l i++[(.int k n,mvV ag t x,i+l.length)]∧(mpP l n x).length=l.length+1
 |[],i,_=>⟨rfl,rfl⟩
 |p::r,i,h=>by
  simp only [mpI] at h
  simp only [mpP]
  cases hq:zj p.1 n with
  |true=>rw [hq] at h;cases h
  |false=>
   rw [hq] at h
   simp only [cond_false,Option.map_eq_none_iff] at h
   obtain ⟨h1,h2⟩:=zmH (k:=k) (ag:=ag) (x:=x) r (i+1) h
   simp only [cond_false,ZN,h1,List.cons_append,List.length_cons,h2]
   refine ⟨?_,trivial⟩
   rw [show i+1+r.length=i+(r.length+1) by omega]
theorem zmI {k:IntKind} {ag:Bool} {t:Ty} {n:Int} {x:T t}:∀(l:List (Int×T t)) (i s:Nat),mpI l n=some s→
  ∃v b,(ZN k ag t l i)[s]?=some (.int k n,v,b)∧ZN k ag t (mpP l n x) i=(ZN k ag t l i).set s (.int k n,mvV ag t x,b)∧(mpP l n x).length=l.length
 |[],i,s,h=>by cases h
 |p::r,i,s,h=>by
  simp only [mpI] at h
  simp only [mpP]
  cases hq:zj p.1 n with
  |true=>
   have h1:=wo p.1 n
   rw [hq] at h1
   have h2:p.1=n:=by simpa using h1.symm
   rw [hq] at h
   simp only [cond_true,Option.some.injEq] at h
   subst h
   refine ⟨mvV ag t p.2,i,?_,rfl,rfl⟩
   simp [ZN,h2]
  |false=>
   rw [hq] at h
   simp only [cond_false,Option.map_eq_some_iff] at h
   obtain ⟨s',h1,rfl⟩:=h
   obtain ⟨v,b,e1,e2,e3⟩:=zmI (k:=k) (ag:=ag) (x:=x) r (i+1) s' h1
   exact ⟨v,b,by simpa [ZN] using e1,by simp [ZN,e2],by simp [e3]⟩
def exC:(t:Ty)→List SV→Option (T t×List SV)
 |.unit,l=>some ((),l)
 |.bool,l=>match l with
  |.bool b::r=>some (b,r)
  |_=>none
 |.int k,l=>match l with
  |.int k' n::r=>bif JT k k' then some (n,r) else none
  |_=>none
 |.str,l=>match l with
  |.str s::r=>some (s,r)
  |_=>none
 |.list t,l=>match l with
  |.lst t' x false::r=>if h:t'=t then some (Yo h x,r) else none
  |_=>none
 |.pair a b,l=>match exC a l with
  |some (x,l1)=>match exC b l1 with
   |some (y,l2)=>some ((x,y),l2)
   |none=>none
  |none=>none
theorem zrj:∀(t:Ty) {l r:List SV} {x:T t},exC t l=some (x,r)→l=wJ t x++r
 |.unit,l,r,x,h=>by simp only [exC] at h;cases h;rfl
 |.bool,l,r,x,h=>by
  simp only [exC] at h
  split at h
  ·cases h;rfl
  ·cases h
 |.int k,l,r,x,h=>by
  simp only [exC] at h
  split at h
  ·obtain ⟨hk,h2⟩:=zw h
   have:=QO hk
   subst this
   clear h
   cases h2
   rfl
  ·cases h
 |.str,l,r,x,h=>by
  simp only [exC] at h
  split at h
  ·cases h;rfl
  ·cases h
 |.list t,l,r,x,h=>by
  simp only [exC] at h
  split at h
  ·split at h
   ·rename_i ht
    subst ht
    cases h;rfl
   ·cases h
  ·cases h
 |.pair a b,l,r,x,h=>by
  simp only [exC] at h
  split at h
  case h_2=>cases h
  rename_i h1
  split at h
  case h_2=>cases h
  rename_i h2
  cases h
  rw [zrj a h1,zrj b h2]
  simp [wJ]
def exV (ag:Bool) (t:Ty) (v:SV):Option (T t):=match ag,v with
 |true,.agg cs=>match exC t cs with
  |some (x,[])=>some x
  |_=>none
 |false,.agg _=>none
 |false,v=>match exC t [v] with
  |some (x,[])=>some x
  |_=>none
 |_,_=>none
theorem zmJ (ρ:Nat→Value) {ag:Bool} {t:Ty} (h:(ag||Nat.beq (sz t) 1)=true) (x:T t):den ρ (mkV ⟨ag,t⟩ x)=mvV ag t x:=by
 cases ag with
 |true=>simp [mkV,mvV,yC,den,qz,yH]
 |false=>
  have h1:sz t=1:=Nat.eq_of_beq_eq_true (by simpa using h)
  have h2:=VG t x
  have h3:=yH ρ t x
  rw [h1] at h2
  match hl:wJ t x,h2 with
  |[v],_=>
   rw [hl] at h3
   simp [mkV,mvV,hl,mk1,←h3]
theorem zGg {ag:Bool} {t:Ty} {v:SV} {x:T t} (h:exV ag t v=some x) (ρ:Nat→Value) (hs:(ag||Nat.beq (sz t) 1)=true):den ρ v=mvV ag t x:=by
 rw [←zmJ ρ hs x]
 unfold exV at h
 split at h
 ·split at h
  ·rename_i h1
   cases h
   have:=zrj t h1
   rw [List.append_nil] at this
   subst this
   rfl
  ·cases h
 ·cases h
 ·split at h
  ·rename_i h1
   cases h
   have:=zrj t h1
   rw [List.append_nil] at this
   simp only [mkV,cond_false,←this]
   rfl
  ·cases h
 ·cases h
def vtT (P:Program) (et:TypeId):Option (Bool×Ty):=match jw P et,zmC P 30 et with
 |some d,some t=>some (WI d,t)
 |_,_=>none
def zrk:Value→Bool
 |.agg _=>true
 |_=>false
def zAg (P:Program) (et:TypeId) (ag:Bool) (t:Ty):Bool:=match jC P et with
 |some i=>match i.zero with
  |some z=>zfF P et t&&(av z&&(bif ag then zrk z else !zrk z&&Nat.beq (sz t) 1))
  |none=>false
 |none=>false
theorem zDs {et:TypeId} {ag:Bool} {t:Ty} (h:zAg P et ag t=true):∃i z,jC P et=some i∧i.zero=some z∧av z=true∧(ag||Nat.beq (sz t) 1)=true∧∀(φ:Ren) v',zo φ z v'→zo φ (mvV ag t (zae t)) v':=by
 unfold zAg at h
 split at h
 case h_2=>cases h
 rename_i i hi
 split at h
 case h_2=>cases h
 rename_i z hz
 simp only [Bool.and_eq_true] at h
 obtain ⟨h1,h2,h3⟩:=h
 obtain ⟨i',z',e1,e2,e3,e4,e5,e6,e7⟩:=zkj h1
 have hi2:P.info? et=some i:=by rw [←jN];exact hi
 rw [hi2] at e1;cases e1
 rw [hz] at e2;cases e2
 cases ag with
 |true=>
  simp only [cond_true] at h3
  refine ⟨i,z,hi,hz,h2,by simp,fun φ v' hv=>?_⟩
  cases z<;>simp [zrk] at h3
  rename_i cs
  obtain ⟨ys,rfl,hl⟩:=hv.agg_inv
  simp only [mvV,cond_true,yC]
  exact .agg' (by simpa using e7 φ ys.toList (by simpa [Value.cells] using hl))
 |false=>
  simp only [cond_false,Bool.and_eq_true,Bool.not_eq_true'] at h3
  refine ⟨i,z,hi,hz,h2,by simpa using h3.2,fun φ v' hv=>?_⟩
  have hs:sz t=1:=Nat.eq_of_beq_eq_true h3.2
  have hc:z.cells=#[z]:=by
   cases z<;>simp [zrk] at h3<;>rfl
  have h4:=e7 φ [v'] (by rw [hc];exact ⟨hv,trivial⟩)
  have h5:=wC t (zae t)
  rw [hs] at h5
  simp only [mvV,cond_false]
  match hl:qm t (zae t),h5 with
  |[u],_=>
   rw [hl] at h4
   exact h4.1
def zi7 (P:Program) (kt:TypeId):Bool:=match jw P kt with
 |some d=>Ym d
 |none=>false
theorem zdH {kt:TypeId} (h:zi7 P kt=true):∃d,jw P kt=some (.int d):=by
 unfold zi7 at h
 split at h
 ·rename_i d hd
  cases d<;>simp [Ym] at h
  exact ⟨_,hd⟩
 ·cases h
def zwR (P:Program) (H:SH) (nx:Nat) (t:TypeId) (k:KO R):Option R:=match jw P t with
 |some (.map kt et)=>match jw P kt,vtT P et with
  |some (.int kk),some (ag,ty)=>match JW H nx (.mpb kk ag ty []) with
   |some H'=>k (.mp nx) H' (nx+1)
   |none=>none
  |_,_=>none
 |_=>none
theorem zBH {rd:Option Nat} {o:Oper} {tm:List SV} {H:SH} {nx:Nat} {k:KO R} {r:R} {t:TypeId} (ho:o.op=.makeMap t none) (h:zwR P H nx t k=some r):gu P rd o tm H nx k r:=by
 unfold zwR at h
 split at h
 case h_2=>cases h
 split at h
 case h_2=>cases h
 rename_i kk ag ty _ _
 split at h
 case h_2=>cases h
 rename_i H' hn
 obtain ⟨e1,rfl⟩:=uq hn
 refine ur (nx':=nx+1) ⟨uZ e1,kR e1,Nat.le_succ _,fun ν hv=>⟨Ys hv,Zw (vU (v:=.map (some nx)) (H':=(nx,.mp [] 0)::zv ν H) (nx':=nx+1) (by unfold wP;simp only [ho])) (fun φ v' hv=>by simpa [den] using hv) (fun φ K w g=>?_)⟩⟩ h
 exact Uo e1 (x:=.mp [] 0) rfl g
def zAh (P:Program) (tm:List SV) (H:SH) (nx:Nat) (t:TypeId) (x j:Operand) (c:Bool) (k:KO R):Option R:=match jW tm H x,jW tm H j with
 |some (.mp b),some (.int k' n)=>match zk H b,jw P t with
  |some (.mpb kk ag ty l),some (.map kt et)=>bif JT kk k'&&(zi7 P kt&&zAg P et ag ty) then
    match mkV ⟨ag,ty⟩ (mpD l n (zae ty)) with
    |v=>k (bif c then .tup [v,.bool (mpH l n)] else v) H nx
   else none
  |_,_=>none
 |_,_=>none
theorem zDt {rd:Option Nat} {o:Oper} {tm:List SV} {H:SH} {nx:Nat} {k:KO R} {r:R} {t:TypeId} {x j:Operand} {c:Bool} (ho:o.op=.lookup t x j c) (h:zAh P tm H nx t x j c k=some r):gu P rd o tm H nx k r:=by
 unfold zAh at h
 split at h
 case h_2=>cases h
 rename_i b k' n hx hj
 split at h
 case h_2=>cases h
 rename_i kk ag ty l kt et hb hu
 have h6:=zw h
 clear h
 obtain ⟨hh,h⟩:=h6
 simp only [Bool.and_eq_true] at hh
 obtain ⟨h1,h2,h3⟩:=hh
 have:=QO h1
 subst this
 obtain ⟨d,hd⟩:=zdH h2
 obtain ⟨i,z,e1,e2,e3,e4,e5⟩:=zDs h3
 dsimp only at h
 refine ur ⟨wN.refl H,wS.refl H,Nat.le_refl _,fun ν hv=>⟨hv,?_⟩⟩ h
 have hg:(zv ν H).get b=some (.mp (ZN kk ag ty l 0) l.length):=by rw [zF,hb];rfl
 have hdl:∃v,zar P (zv ν H) t (.map (some b)) (.int kk n) c=some v∧∀φ v',zo φ v v'→zo φ (den (rho ν H) (bif c then .tup [mkV ⟨ag,ty⟩ (mpD l n (zae ty)),.bool (mpH l n)] else mkV ⟨ag,ty⟩ (mpD l n (zae ty)))) v':=by
  unfold zar
  simp only [hu,hd,e1,zvP,hg,e2,Ym,JU,e3,Bool.and_self,if_true,zmG]
  rw [zEH]
  cases hi:mpI l n with
  |none=>
   rw [zwQ n _ l hi]
   simp only [Option.map_none]
   refine ⟨_,rfl,fun φ v' hv=>?_⟩
   cases c with
   |false=>simpa only [Bool.false_eq_true,if_false,cond_false,zmJ _ e4] using e5 φ v' (by simpa using hv)
   |true=>
    simp only [if_true] at hv
    obtain ⟨ys,rfl,hl⟩:=hv.tuple_inv
    simp only [cond_true,den,zq,zmJ _ e4]
    refine .tuple' ?_
    match ys.toList,hl with
    |[a,b],hl=>exact ⟨e5 φ a hl.1,hl.2.1,trivial⟩
    |[],hl=>exact hl.elim
    |[_],hl=>exact hl.2.elim
    |_::_::_::_,hl=>exact hl.2.2.elim
  |some s=>
   simp only [Option.map_some]
   refine ⟨_,rfl,fun φ v' hv=>?_⟩
   cases c with
   |false=>simpa only [Bool.false_eq_true,if_false,cond_false,zmJ _ e4] using hv
   |true=>simpa only [if_true,cond_true,den,zq,zmJ _ e4,Option.isSome_some] using hv
 obtain ⟨v,f1,f2⟩:=hdl
 refine Zw (vU (v:=v) (H':=zv ν H) (nx':=nx) ?_) (fun φ v' hv=>f2 φ v' hv) (fun φ K w g=>g)
 unfold wP
 simp only [ho,zP hx ν,zP hj ν,Option.bind_some,den,f1]
 rfl
def zoh (P:Program) (tm:List SV) (H:SH) (nx:Nat) (t:TypeId) (m j x:Operand) (k:KO R):Option R:=match jW tm H m,jW tm H j,jW tm H x with
 |some (.mp b),some (.int k' n),some v=>match zk H b,jw P t with
  |some (.mpb kk ag ty l),some (.map kt et)=>bif JT kk k'&&(zi7 P kt&&(ag||Nat.beq (sz ty) 1)) then
    match exV ag ty v with
    |some y=>k (.tup []) (jV H b (.mpb kk ag ty (mpP l n y))) nx
    |none=>none
   else none
  |_,_=>none
 |_,_,_=>none
theorem zrl {rd:Option Nat} {o:Oper} {tm:List SV} {H:SH} {nx:Nat} {k:KO R} {r:R} {t:TypeId} {m j x:Operand} (ho:o.op=.mapUpdate t m j x∨o.op=.insert t m j x) (h:zoh P tm H nx t m j x k=some r):gu P rd o tm H nx k r:=by
 unfold zoh at h
 split at h
 case h_2=>cases h
 rename_i b k' n v hm hj hx
 split at h
 case h_2=>cases h
 rename_i kk ag ty l kt et hb hu
 have h6:=zw h
 clear h
 obtain ⟨hh,h⟩:=h6
 simp only [Bool.and_eq_true] at hh
 obtain ⟨h1,h2,h3⟩:=hh
 have:=QO h1
 subst this
 obtain ⟨d,hd⟩:=zdH h2
 split at h
 case h_2=>cases h
 rename_i y hy
 have hreg:∀c,reg (zk (jV H b (.mpb kk ag ty (mpP l n y))) c)=reg (zk H c):=fun c=>by
  rw [qH]
  by_cases hc:c=b
  ·subst hc;simp [hb,reg]
  ·rw [if_neg hc]
 have hnn:∀c,ji (zk (jV H b (.mpb kk ag ty (mpP l n y))) c)=true→ji (zk H c)=true:=fun c hc=>by
  rw [qH] at hc
  by_cases hcb:c=b
  ·subst hcb;simp [hb,ji] at hc
  ·rwa [if_neg hcb] at hc
 refine ur ⟨fun c z hz=>by rw [hreg c];exact hz,Yr hb (fun L=>by simp),Nat.le_refl _,fun ν hv=>⟨gH hreg hnn hv,?_⟩⟩ h
 have hg:(zv ν H).get b=some (.mp (ZN kk ag ty l 0) l.length):=by rw [zF,hb];rfl
 have hden:=zGg hy (rho ν H) h3
 have hup:Uk P (zv ν H) t (.map (some b)) (.int kk n) (den (rho ν H) v)=some ((zv ν H).set b (.mp (ZN kk ag ty (mpP l n y) 0) (mpP l n y).length)):=by
  unfold Uk
  simp only [hu,hd,hg,Ym,JU,Bool.and_self,if_true,zmG,hden]
  cases hi:mpI l n with
  |none=>
   obtain ⟨q1,q2⟩:=zmH (k:=kk) (ag:=ag) (x:=y) l 0 hi
   simp only [Option.map_none]
   rw [q1,q2,Nat.zero_add]
  |some s=>
   obtain ⟨u,b0,q1,q2,q3⟩:=zmI (k:=kk) (ag:=ag) (x:=y) l 0 s hi
   simp only [Option.map_some,Nat.zero_add,q1]
   rw [q2,q3]
   simp [zq6]
 refine Zw (vU (v:=undef) (H':=(zv ν H).set b (.mp (ZN kk ag ty (mpP l n y) 0) (mpP l n y).length)) (nx':=nx) ?_) (fun φ v' hv=>by simpa [den,zq,undef] using hv) (fun φ K w g=>g.sub fun c k' hc=>?_)
 ·unfold wP
  rcases ho with ho | ho<;>
  ·simp only [ho,zP hm ν,zP hj ν,zP hx ν,Option.bind_some,den,hup]
   rfl
 ·rw [zF,qH,yy hreg] at hc
  rw [Hp.get_set]
  by_cases hcb:c=b
  ·subst hcb
   simp [hb,zN] at hc
   rw [if_pos rfl,hg]
   simp [hc]
  ·rw [if_neg hcb] at hc ⊢
   rw [zF];exact hc
def fnD (l:List (Int×Nat)) (n:Int):Option Nat:=match l with
 |[]=>none
 |p::r=>bif zj p.1 n then some p.2 else fnD r n
def fnV:Option Nat→Value
 |some f=>.func (.func f) #[] #[]
 |none=>.nilFunc
def fnS:Option Nat→SV
 |some f=>.fn f [] []
 |none=>.nilf
theorem zFk (ρ:Nat→Value) (o:Option Nat):den ρ (fnS o)=fnV o:=by cases o<;>simp [fnS,fnV,den,zq]
theorem zkl {k:IntKind} (n:Int) (d:IntKind):∀(l:List (Int×Nat)) (i j:Nat),
  Instr.findNow (.int d) (.int k n) (zbt (Yq k l i)) j=some ((mpI l n).map fun s=>(j+s,fnV (fnD l n)))
 |[],_,_=>rfl
 |p::r,i,j=>by
  simp only [Yq,zbt,Instr.findNow,Instr.sameNow,if_true,mpI,fnD]
  cases h:zj p.1 n with
  |true=>
   have h1:=wo p.1 n
   rw [h] at h1
   have:p.1=n:=by simpa using h1.symm
   simp [this,fnV]
  |false=>
   have h1:=wo p.1 n
   rw [h] at h1
   have:¬n=p.1:=fun e=>by simp [e] at h1
   have hb:(n == p.1)=false:=by simpa using this
   rw [hb]
   dsimp only
   rw [zkl n d r (i+1) (j+1)]
   cases mpI r n with
   |none=>rfl
   |some s=>simp [Nat.add_assoc,Nat.add_comm 1 s,fnV]
theorem zlf {k:IntKind} {n:Int} {x:Nat}:∀(l:List (Int×Nat)) (i:Nat),mpI l n=none→Yq k (mpP l n x) i=Yq k l i++[(.int k n,Value.func (.func x) #[] #[],i+l.length)]∧(mpP l n x).length=l.length+1
 |[],i,_=>⟨rfl,rfl⟩
 |p::r,i,h=>by
  simp only [mpI] at h
  simp only [mpP]
  cases hq:zj p.1 n with
  |true=>rw [hq] at h;cases h
  |false=>
   rw [hq] at h
   simp only [cond_false,Option.map_eq_none_iff] at h
   obtain ⟨h1,h2⟩:=zlf (k:=k) (x:=x) r (i+1) h
   simp only [cond_false,Yq,h1,List.cons_append,List.length_cons,h2]
   refine ⟨?_,trivial⟩
   rw [show i+1+r.length=i+(r.length+1) by omega]
theorem zlg {k:IntKind} {n:Int} {x:Nat}:∀(l:List (Int×Nat)) (i s:Nat),mpI l n=some s→
  ∃v b,(Yq k l i)[s]?=some (.int k n,v,b)∧Yq k (mpP l n x) i=(Yq k l i).set s (.int k n,Value.func (.func x) #[] #[],b)∧(mpP l n x).length=l.length
 |[],i,s,h=>by cases h
 |p::r,i,s,h=>by
  simp only [mpI] at h
  simp only [mpP]
  cases hq:zj p.1 n with
  |true=>
   have h1:=wo p.1 n
   rw [hq] at h1
   have h2:p.1=n:=by simpa using h1.symm
   rw [hq] at h
   simp only [cond_true,Option.some.injEq] at h
   subst h
   refine ⟨Value.func (.func p.2) #[] #[],i,?_,rfl,rfl⟩
   simp [Yq,h2]
  |false=>
   rw [hq] at h
   simp only [cond_false,Option.map_eq_some_iff] at h
   obtain ⟨s',h1,rfl⟩:=h
   obtain ⟨v,b,e1,e2,e3⟩:=zlg (k:=k) (x:=x) r (i+1) s' h1
   exact ⟨v,b,by simpa [Yq] using e1,by simp [Yq,e2],by simp [e3]⟩
def zwS (P:Program) (et:TypeId):Bool:=match jC P et with
 |some i=>match i.zero with
  |some .nilFunc=>true
  |_=>false
 |none=>false
theorem zFl {et:TypeId} (h:zwS P et=true):∃i,jC P et=some i∧i.zero=some .nilFunc:=by
 unfold zwS at h
 split at h
 case h_2=>cases h
 rename_i i hi
 split at h
 case h_2=>cases h
 rename_i hz
 exact ⟨i,hi,hz⟩
def zhL (P:Program) (t:TypeId):Bool:=match jw P t with
 |some (.map _ et)=>zwS P et
 |_=>false
def zwT (P:Program) (H:SH) (nx:Nat) (t:TypeId) (k:KO R):Option R:=match jw P t with
 |some (.map kt et)=>match jw P kt,zwS P et with
  |some (.int kk),true=>match JW H nx (.mpf kk []) with
   |some H'=>k (.mp nx) H' (nx+1)
   |none=>none
  |_,_=>none
 |_=>none
theorem zBI {rd:Option Nat} {o:Oper} {tm:List SV} {H:SH} {nx:Nat} {k:KO R} {r:R} {t:TypeId} (ho:o.op=.makeMap t none) (h:zwT P H nx t k=some r):gu P rd o tm H nx k r:=by
 unfold zwT at h
 split at h
 case h_2=>cases h
 split at h
 case h_2=>cases h
 rename_i kk _ _
 split at h
 case h_2=>cases h
 rename_i H' hn
 obtain ⟨e1,rfl⟩:=uq hn
 refine ur (nx':=nx+1) ⟨uZ e1,kR e1,Nat.le_succ _,fun ν hv=>⟨Ys hv,Zw (vU (v:=.map (some nx)) (H':=(nx,.mp [] 0)::zv ν H) (nx':=nx+1) (by unfold wP;simp only [ho])) (fun φ v' hv=>by simpa [den] using hv) (fun φ K w g=>?_)⟩⟩ h
 exact Uo e1 (x:=.mp [] 0) rfl g
def zvY (n:Int) (l:List (Int×Nat)) (k:SV→Bool→Option R):Option R:=match l with
 |[]=>k .nilf false
 |p::r=>bif zj p.1 n then k (.fn p.2 [] []) true else zvY n r k
theorem zwU {n:Int} {k:SV→Bool→Option R}:∀l:List (Int×Nat),zvY n l k=k (fnS (fnD l n)) (mpI l n).isSome
 |[]=>rfl
 |p::r=>by
  simp only [zvY,fnD,mpI]
  cases zj p.1 n with
  |true=>rfl
  |false=>
   simp only [cond_false,zwU r]
   cases mpI r n<;>rfl
theorem zwV {n:Int}:∀l:List (Int×Nat),mpI l n=none→fnD l n=none
 |[],_=>rfl
 |p::r,h=>by
  simp only [mpI] at h
  simp only [fnD]
  cases hq:zj p.1 n with
  |true=>rw [hq] at h;cases h
  |false=>
   rw [hq] at h
   simp only [cond_false,Option.map_eq_none_iff] at h
   simp only [cond_false,zwV r h]
def zAi (P:Program) (tm:List SV) (H:SH) (nx:Nat) (t:TypeId) (x j:Operand) (c:Bool) (k:KO R):Option R:=match jW tm H x,jW tm H j with
 |some (.mp b),some (.int k' n)=>match zk H b,jw P t with
  |some (.mpf kk l),some (.map kt et)=>bif JT kk k'&&(zi7 P kt&&zwS P et) then zvY n l fun v ok=>k (bif c then .tup [v,.bool ok] else v) H nx
   else none
  |_,_=>none
 |_,_=>none
theorem zDu {rd:Option Nat} {o:Oper} {tm:List SV} {H:SH} {nx:Nat} {k:KO R} {r:R} {t:TypeId} {x j:Operand} {c:Bool} (ho:o.op=.lookup t x j c) (h:zAi P tm H nx t x j c k=some r):gu P rd o tm H nx k r:=by
 unfold zAi at h
 split at h
 case h_2=>cases h
 rename_i b k' n hx hj
 split at h
 case h_2=>cases h
 rename_i kk l kt et hb hu
 have h6:=zw h
 clear h
 obtain ⟨hh,h⟩:=h6
 simp only [Bool.and_eq_true] at hh
 obtain ⟨h1,h2,h3⟩:=hh
 have:=QO h1
 subst this
 obtain ⟨d,hd⟩:=zdH h2
 obtain ⟨i,e1,e2⟩:=zFl h3
 rw [zwU] at h
 refine ur ⟨wN.refl H,wS.refl H,Nat.le_refl _,fun ν hv=>⟨hv,?_⟩⟩ h
 have hg:(zv ν H).get b=some (.mp (Yq kk l 0) l.length):=by rw [zF,hb];rfl
 have hdl:zar P (zv ν H) t (.map (some b)) (.int kk n) c=some (den (rho ν H) (bif c then .tup [fnS (fnD l n),.bool (mpI l n).isSome] else fnS (fnD l n))):=by
  unfold zar
  simp only [hu,hd,e1,zvP,hg,e2,Ym,JU,show av .nilFunc=true from rfl,Bool.and_self,if_true,zkl]
  cases hi:mpI l n with
  |none=>
   rw [zwV l hi]
   cases c<;>simp [den,zq,fnS]
  |some s=>cases c<;>simp [den,zq,zFk]
 refine Zw (vU (v:=_) (H':=zv ν H) (nx':=nx) ?_) (fun φ v' hv=>hv) (fun φ K w g=>g)
 unfold wP
 simp only [ho,zP hx ν,zP hj ν,Option.bind_some]
 rw [show den (rho ν H) (.mp b)=.map (some b) from rfl,show den (rho ν H) (.int kk n)=.int kk n from rfl,hdl]
 rfl
def kEq:Int→Int→Bool
 |.ofNat m,.ofNat n=>Nat.beq m n
 |.negSucc m,.negSucc n=>Nat.beq m n
 |_,_=>false
theorem zGh (a b:Int):kEq a b=zj a b:=by
 cases a<;>cases b<;>rfl
def mpN:List (Int×Nat)→Int→Nat→List (Int×Nat)
 |[],n,x=>[(n,x)]
 |p::r,n,x=>bif kEq p.1 n then (n,x)::r else p::mpN r n x
theorem zBJ (n:Int) (x:Nat):∀l:List (Int×Nat),mpN l n x=mpP l n x
 |[]=>rfl
 |p::r=>by simp only [mpN,mpP,zBJ n x r,zGh]
def zoi (P:Program) (tm:List SV) (H:SH) (nx:Nat) (t:TypeId) (m j x:Operand) (k:KO R):Option R:=match jW tm H m,jW tm H j,jW tm H x with
 |some (.mp b),some (.int k' n),some (.fn y [] [])=>match zk H b,jw P t with
  |some (.mpf kk l),some (.map kt et)=>bif JT kk k'&&zi7 P kt then k (.tup []) (jV H b (.mpf kk (mpN l n y))) nx
   else none
  |_,_=>none
 |_,_,_=>none
theorem zrm {rd:Option Nat} {o:Oper} {tm:List SV} {H:SH} {nx:Nat} {k:KO R} {r:R} {t:TypeId} {m j x:Operand} (ho:o.op=.mapUpdate t m j x∨o.op=.insert t m j x) (h:zoi P tm H nx t m j x k=some r):gu P rd o tm H nx k r:=by
 unfold zoi at h
 split at h
 case h_2=>cases h
 rename_i b k' n y hm hj hx
 split at h
 case h_2=>cases h
 rename_i kk l kt et hb hu
 have h6:=zw h
 clear h
 obtain ⟨hh,h⟩:=h6
 simp only [Bool.and_eq_true] at hh
 obtain ⟨h1,h2⟩:=hh
 rw [zBJ] at h
 have:=QO h1
 subst this
 obtain ⟨d,hd⟩:=zdH h2
 have hreg:∀c,reg (zk (jV H b (.mpf kk (mpP l n y))) c)=reg (zk H c):=fun c=>by
  rw [qH]
  by_cases hc:c=b
  ·subst hc;simp [hb,reg]
  ·rw [if_neg hc]
 have hnn:∀c,ji (zk (jV H b (.mpf kk (mpP l n y))) c)=true→ji (zk H c)=true:=fun c hc=>by
  rw [qH] at hc
  by_cases hcb:c=b
  ·subst hcb;simp [hb,ji] at hc
  ·rwa [if_neg hcb] at hc
 refine ur ⟨fun c z hz=>by rw [hreg c];exact hz,Yr hb (fun L=>by simp),Nat.le_refl _,fun ν hv=>⟨gH hreg hnn hv,?_⟩⟩ h
 have hg:(zv ν H).get b=some (.mp (Yq kk l 0) l.length):=by rw [zF,hb];rfl
 have hden:den (rho ν H) (.fn y [] [])=.func (.func y) #[] #[]:=by simp [den,zq]
 have hup:Uk P (zv ν H) t (.map (some b)) (.int kk n) (den (rho ν H) (.fn y [] []))=some ((zv ν H).set b (.mp (Yq kk (mpP l n y) 0) (mpP l n y).length)):=by
  unfold Uk
  simp only [hu,hd,hg,Ym,JU,Bool.and_self,if_true,zkl,hden]
  cases hi:mpI l n with
  |none=>
   obtain ⟨q1,q2⟩:=zlf (k:=kk) (x:=y) l 0 hi
   simp only [Option.map_none]
   rw [q1,q2,Nat.zero_add]
  |some s=>
   obtain ⟨u,b0,q1,q2,q3⟩:=zlg (k:=kk) (x:=y) l 0 s hi
   simp only [Option.map_some,Nat.zero_add,q1]
   rw [q2,q3]
   simp [zq6]
 refine Zw (vU (v:=undef) (H':=(zv ν H).set b (.mp (Yq kk (mpP l n y) 0) (mpP l n y).length)) (nx':=nx) ?_) (fun φ v' hv=>by simpa [den,zq,undef] using hv) (fun φ K w g=>g.sub fun c k' hc=>?_)
 ·unfold wP
  rcases ho with ho | ho<;>
  ·simp only [ho,zP hm ν,zP hj ν,zP hx ν,Option.bind_some]
   rw [show den (rho ν H) (.mp b)=.map (some b) from rfl,show den (rho ν H) (.int kk n)=.int kk n from rfl,hup]
   rfl
 ·rw [zF,qH,yy hreg] at hc
  rw [Hp.get_set]
  by_cases hcb:c=b
  ·subst hcb
   simp [hb,zN] at hc
   rw [if_pos rfl,hg]
   simp [hc]
  ·rw [if_neg hcb] at hc ⊢
   rw [zF];exact hc
def lsS (l:List SV) (i:Nat) (v:SV):List SV:=List.rec (motive:=fun _=>Nat→List SV) (fun _=>[]) (fun x r ih i=>Nat.rec (motive:=fun _=>List SV) (v::r) (fun m _=>x::ih m) i) l i
theorem ZR (v:SV):∀(l:List SV) (i:Nat),lsS l i v=l.set i v
 |[],_=>by simp [lsS]
 |x::l,0=>rfl
 |x::l,i+1=>by
  show x::lsS l i v=_
  rw [ZR v l i];simp
def zbC (tm:List SV) (d:Option Tmp) (v:SV):List SV:=match d with
 |some d=>lsS tm d v
 |none=>tm
def zDv (H:SH) (tm:List SV):Operand→List SV
 |.tmp t=>match gl tm t with
  |some (.own b)=>match zk H b with
   |some (.fro _ ty l)=>bif Nat.blt 0 (sz ty) then lsS tm t (.lst ty l false) else tm
   |_=>tm
  |_=>tm
 |_=>tm
def zmK (H:SH) (tm:List SV):List Operand→List SV
 |[]=>tm
 |x::r=>zmK H (zDv H tm x) r
theorem zDw {ν:Nat→Bool} {nx:Nat} {H:SH} (hv:VN ν nx H) (g:zA φ (zv ν H) K w) {tm:List SV} {x:Operand} {ts:Array Value} (ht:jd φ (zq (rho ν H) tm) ts):jd φ (zq (rho ν H) (zDv H tm x)) ts:=by
 unfold zDv
 split
 case h_2=>exact ht
 rename_i t
 split
 case h_2=>exact ht
 rename_i b hb
 split
 case h_2=>exact ht
 rename_i ty l hf
 cases hs:Nat.blt 0 (sz ty) with
 |false=>exact ht
 |true=>
  rw [cond_true,ZR]
  rw [uT] at hb
  refine ⟨by rw [←ht.1,wT,wT,List.length_set],fun i v hv2=>?_⟩
  rw [yI,Option.map_eq_some_iff] at hv2
  obtain ⟨u,hu,rfl⟩:=hv2
  rw [List.getElem?_set] at hu
  by_cases hti:t=i
  ·subst hti
   have hlt:=(List.getElem?_eq_some_iff.1 hb).1
   simp [hlt] at hu
   subst hu
   rcases ht.2 t (den (rho ν H) (.own b)) (by rw [yI,hb];rfl) with h0 | ⟨v',h1,h2⟩
   ·simp only [den] at h0
    exact absurd h0 (gF ν H b)
   ·right
    refine ⟨v',h1,?_⟩
    simp only [den] at h2 ⊢
    exact zi4 g hv hf (zdW hs) h2
  ·rw [if_neg hti] at hu
   exact ht.2 i _ (by rw [yI,hu];rfl)
theorem zwW {ν:Nat→Bool} {nx:Nat} {H:SH} (hv:VN ν nx H) (g:zA φ (zv ν H) K w):∀{xs:List Operand} {tm:List SV} {ts:Array Value},jd φ (zq (rho ν H) tm) ts→jd φ (zq (rho ν H) (zmK H tm xs)) ts
 |[],_,_,ht=>ht
 |x::r,tm,ts,ht=>zwW hv g (xs:=r) (zDw hv g ht)
theorem zwX {r:Option Nat} {o:Oper} {tm tm2:List Value} {H H2 H':Hp} {nx nx':Nat} {v:Value} (h:Gv P r o tm2 H2 nx v H' nx') (hg:∀φ K w,zA φ H K w→zA φ H2 K w) (ht:∀φ K w,zA φ H K w→∀ts,jd φ tm ts→jd φ tm2 ts):Gv P r o tm H nx v H' nx':=
 ⟨h.1,fun φ w K a rc next Q g hf htm hr hk=>h.2 φ w K a rc next Q (hg _ _ _ g) hf (ht _ _ _ g _ htm) hr hk⟩
theorem zFm {rd:Option Nat} {o:Oper} {tm:List SV} {H H':SH} {nx nx':Nat} {v:SV} {xs:List Operand} (h:SOp P rd o (zmK H tm xs) H nx v H' nx'):SOp P rd o tm H nx v H' nx':=by
 obtain ⟨h1,h2,h3,h4⟩:=h
 refine ⟨h1,h2,h3,fun ν hv=>?_⟩
 obtain ⟨e1,e2⟩:=h4 ν hv
 exact ⟨e1,zwX e2 (fun _ _ _ g=>g) fun φ K w g ts ht=>zwW hv g ht⟩
theorem zkm {rd:Option Nat} {o:Oper} {tm:List SV} {H:SH} {nx:Nat} {k:KO R} {r:R} {xs:List Operand} (h:gu P rd o (zmK H tm xs) H nx k r):gu P rd o tm H nx k r:=by
 obtain ⟨v,H',nx',h1,h2⟩:=h
 exact ⟨v,H',nx',zFm h1,h2⟩
def zwY (P:Program) (tm:List SV) (H:SH) (nx:Nat) (b:Builtin) (args:Array Operand) (ats:Array TypeId) (k:KO R):Option R:=match b,args,ats with
 |.len,⟨[x]⟩,⟨[t]⟩=>zDh P tm H nx t x k
 |.append,⟨[s,x]⟩,⟨[t,u]⟩=>bif Nat.beq t u then zDp P (zmK H tm [s,x]) H nx t s x k else none
 |.copy,⟨[d,x]⟩,⟨[t,_]⟩=>zAf P (zmK H tm [x]) H nx t d x k
 |_,_,_=>none
def zEI (P:Program) (tm:List SV) (H:SH) (nx:Nat) (o:Oper) (k:KO R):Option R:=match o.op with
 |.pick c a b=>zz7 tm H nx c a b k
 |.binOp op t x y _=>bif zy8 tm H x y then zAb P tm H nx op t x y k else zDf tm H nx op x y k
 |.indexAddr t x i=>ztb P (zmK H tm [x]) H nx t x i k
 |.index t x i=>zwI P tm H nx t x i k
 |.load t a=>zz9 P tm H nx t a k
 |.store t a x=>zAe P tm H nx t a x k
 |.slice t x lo hi mx=>zwJ P (zmK H tm [x]) H nx t x lo hi mx k
 |.makeSlice t l c=>zAc P tm H nx t l c k
 |.buildSlice t n ps=>match zDn P tm H nx t n ps.toList with
  |some (v,H')=>k v H' (nx+1)
  |none=>zDk P tm H nx t n ps.toList k
 |.call {callee:=.builtin b,args,argTypes}=>zwY P tm H nx b args argTypes k
 |.makeMap t none=>bif zhL P t then zwT P H nx t k else zwR P H nx t k
 |.lookup t x i c=>bif zhL P t then zAi P tm H nx t x i c k else zAh P tm H nx t x i c k
 |.mapUpdate t m i x=>bif zhL P t then zoi P tm H nx t m i x k else zoh P tm H nx t m i x k
 |.insert t m i x=>bif zhL P t then zoi P tm H nx t m i x k else zoh P tm H nx t m i x k
 |_=>none
def zDx (P:Program) (tm:List SV) (H:SH) (nx:Nat) (o:Oper) (k:KO R):Option R:=match zz6 P tm H nx o with
 |some (v,H',nx')=>k v H' nx'
 |none=>zEI P tm H nx o k
theorem zFn {rd:Option Nat} {o:Oper} {tm:List SV} {H:SH} {nx:Nat} {k:KO R} {r:R} (h:zDx P tm H nx o k=some r):gu P rd o tm H nx k r:=by
 unfold zDx at h
 split at h
 ·rename_i v H' nx' h0
  exact ur (zE5 h0) h
 ·unfold zEI at h
  split at h
  ·rename_i ho;exact zDe ho h
  ·rename_i op t x y u ho
   cases hq:zy8 tm H x y with
   |true=>rw [hq] at h;exact zDi ho h
   |false=>rw [hq] at h;exact zFa ho h
  ·rename_i ho;exact zkm (zz8 ho h)
  ·rename_i ho;exact zBB ho h
  ·rename_i ho;exact zDg ho h
  ·rename_i ho;exact zDl ho h
  ·rename_i ho;exact zkm (zBD ho h)
  ·rename_i ho;exact zDj ho h
  ·rename_i ho
   split at h
   ·rename_i v H' hl;exact ur (zFg ho hl) h
   ·exact zFe ho h
  ·rename_i b args ats ho
   unfold zwY at h
   split at h
   ·exact zFd ho h
   ·have h6:=zw h
    obtain ⟨h7,h8⟩:=h6
    have:=Nat.eq_of_beq_eq_true h7
    subst this
    exact zkm (zFj ho h8)
   ·exact zkm (zDo ho h)
   ·cases h
  ·rename_i t ho
   cases hq:zhL P t with
   |true=>rw [hq] at h;exact zBI ho h
   |false=>rw [hq] at h;exact zBH ho h
  ·rename_i t x i c ho
   cases hq:zhL P t with
   |true=>rw [hq] at h;exact zDu ho h
   |false=>rw [hq] at h;exact zDt ho h
  ·rename_i t m i x ho
   cases hq:zhL P t with
   |true=>rw [hq] at h;exact zrm (.inl ho) h
   |false=>rw [hq] at h;exact zrl (.inl ho) h
  ·rename_i t m i x ho
   cases hq:zhL P t with
   |true=>rw [hq] at h;exact zrm (.inr ho) h
   |false=>rw [hq] at h;exact zrl (.inr ho) h
  ·cases h
structure KE where
 e:Exit
 tm:List SV
 ds:List Nat
 H:SH
 nx:Nat
abbrev KC (R:Type):=KE→Option R
def KF:List Oper→List Nat
 |[]=>[]
 |o::r=>match o.dst with
  |some d=>d::KF r
  |none=>KF r
def asg:Code→List Nat
 |.region _ ops _=>KF ops.toList
 |.seq a b=>asg a++asg b
 |.cond _ a b=>asg a++asg b
 |.block _ c=>asg c
 |.loop c=>asg c
 |.scope c=>asg c
 |_=>[]
def Jo (a:List Nat) (tm tm':List SV):Prop:=tm'.length=tm.length∧∀i,i∉a→tm'[i]?=tm[i]?
theorem Jo.refl (a:List Nat) (tm:List SV):Jo a tm tm:=⟨rfl,fun _ _=>rfl⟩
theorem Jo.trans {a b c:List Nat} {t t' t'':List SV} (h:Jo a t t') (k:Jo b t' t'') (ha:∀i∈a,i∈c) (hb:∀i∈b,i∈c):Jo c t t'':=
 ⟨k.1.trans h.1,fun i hi=>(k.2 i fun e=>hi (hb i e)).trans (h.2 i fun e=>hi (ha i e))⟩
theorem Jo.mono {a b:List Nat} {t t':List SV} (h:Jo a t t') (ha:∀i∈a,i∈b):Jo b t t':=⟨h.1,fun i hi=>h.2 i fun e=>hi (ha i e)⟩
def zcZ (ν:Nat→Bool) (R:KE):Res:=⟨R.e,zq (rho ν R.H) R.tm,R.ds,zv ν R.H,R.nx⟩
def Wz (P:Program) (rd:Option Nat) (c:Code) (tm:List SV) (ds:List Nat) (H:SH) (nx:Nat) (R:KE):Prop:=
 wN H R.H∧wS H R.H∧Jo (asg c) tm R.tm∧nx≤R.nx∧∀ν,VN ν nx H→VN ν R.nx R.H∧jR P rd c (zq (rho ν H) tm) ds (zv ν H) nx (zcZ ν R)
def zHd (P:Program) (rd:Option Nat) (ops:Array Oper) (l:List Nat) (zHn:List Nat) (tm:List SV) (H:SH) (nx:Nat) (tm':List SV) (H':SH) (nx':Nat):Prop:=
 wN H H'∧wS H H'∧Jo zHn tm tm'∧nx≤nx'∧∀ν,VN ν nx H→VN ν nx' H'∧zfw P rd ops l (zq (rho ν H) tm) (zv ν H) nx (zq (rho ν H') tm') (zv ν H') nx'
theorem zwZ (ρ:Nat→Value) (tm:List SV) (d:Option Tmp) (v:SV):zq ρ (zbC tm d v)=ZS (zq ρ tm) d (den ρ v):=by
 cases d with
 |none=>rfl
 |some d=>rw [zdT];simp only [zbC,ZR,qz,List.map_set]
theorem zDy {ν:Nat→Bool} {H H1:SH} (hr:wN H H1) {tm:List SV} {d:Option Tmp} {v:SV} {ts:Array Value} (h:jd φ (ZS (zq (rho ν H) tm) d (den (rho ν H1) v)) ts):jd φ (zq (rho ν H1) (zbC tm d v)) ts:=by
 cases d with
 |none=>exact zpL ν hr h
 |some d=>
  rw [zdT] at h
  rw [zwZ,zdT]
  refine ⟨by simpa [wT] using h.1,fun i u hu=>?_⟩
  rw [List.getElem?_set] at hu
  by_cases hdi:d=i
  ·subst hdi
   rw [if_pos rfl] at hu
   split at hu
   ·cases hu
    rename_i hlt
    refine h.2 d _ ?_
    rw [List.getElem?_set,if_pos rfl,if_pos (by simpa [wT] using hlt)]
   ·cases hu
  ·rw [if_neg hdi] at hu
   rw [yI,Option.map_eq_some_iff] at hu
   obtain ⟨x,hx,rfl⟩:=hu
   rcases h.2 i (den (rho ν H) x) (by rw [List.getElem?_set,if_neg hdi,yI,hx];rfl) with h0 | ⟨v',h1,h2⟩
   ·exact .inl (zkd (gF ν H) h0)
   ·exact .inr ⟨v',h1,zcX (zga ν hr) x v' h2⟩
theorem zhM (tm:List SV) (d:Option Tmp) (v:SV):Jo d.toList tm (zbC tm d v):=by
 cases d with
 |none=>exact Jo.refl _ _
 |some d=>
  simp only [zbC,ZR]
  refine ⟨by simp,fun i hi=>?_⟩
  rw [List.getElem?_set,if_neg]
  simpa using fun e:d=i=>hi (by simp [e])
theorem zBK {r:Option Nat} {ops:Array Oper} {l:List Nat} {tm tm2 tm':List Value} {H H':Hp} {nx nx':Nat} (h:zfw P r ops l tm2 H nx tm' H' nx') (ht:∀φ ts,jd φ tm ts→jd φ tm2 ts):zfw P r ops l tm H nx tm' H' nx':=
 ⟨h.1,fun φ w K a rc Q g hf htm hr hk=>h.2 φ w K a rc Q g hf (ht _ _ htm) hr hk⟩
def zrn (ops:Array Oper) (tm:List SV) (o:Oper) (y n:List SV→Option R):Option R:=match o.guard with
 |none=>y tm
 |some (j,want)=>match gl ops.toList j with
  |some p=>match p.dst with
   |some d=>match gl tm d with
    |some (.bool b)=>bif b then (bif want then y (lsS tm d (.bool true)) else n (lsS tm d (.bool true))) else (bif want then n (lsS tm d (.bool false)) else y (lsS tm d (.bool false)))
    |some (.tup _)=>n tm
    |_=>none
   |none=>none
  |none=>none
theorem zDz {tm:List SV} {d:Nat} {v:SV} (h:tm[d]?=some v):lsS tm d v=tm:=by
 rw [ZR]
 obtain ⟨h1,h2⟩:=List.getElem?_eq_some_iff.1 h
 rw [←h2];exact List.set_getElem_self h1
theorem zw0 {ops:Array Oper} {tm:List SV} {o:Oper} {y n:List SV→Option R} {r:R} (h:zrn ops tm o y n=some r) :
  ((∀tmv:List Value,(∀(i:Nat) u,tm[i]?=some u→∃ρ,tmv[i]?=some (den ρ u))→uH ops tmv o=some true)∧y tm=some r)∨((∀tmv:List Value,(∀(i:Nat) u,tm[i]?=some u→∃ρ,tmv[i]?=some (den ρ u))→uH ops tmv o=some false)∧n tm=some r):=by
 unfold zrn at h
 unfold uH
 split at h
 ·rename_i hg
  exact .inl ⟨fun tmv _=>by simp only [hg],h⟩
 ·rename_i j want hg
  split at h
  case h_2=>cases h
  rename_i p hp
  split at h
  case h_2=>cases h
  rename_i d hd
  rw [uT,Array.getElem?_toList] at hp
  have hj:(ops[j]?).bind (·.dst)=some d:=by rw [hp];exact hd
  split at h
  ·rename_i b hb
   rw [uT] at hb
   have h1:∀tmv:List Value,(∀(i:Nat) u,tm[i]?=some u→∃ρ,tmv[i]?=some (den ρ u))→tmv[d]?=some (.bool b):=fun tmv hm=>by
    obtain ⟨ρ,h2⟩:=hm d _ hb
    rw [h2];simp [den]
   cases b<;>simp only [cond_true,cond_false] at h<;>rw [zDz hb] at h<;>cases want<;>simp only [cond_true,cond_false] at h<;>first
    |exact .inl ⟨fun tmv hm=>by simp only [hg,hj,Option.bind_some,zfr,h1 tmv hm];rfl,h⟩
    |exact .inr ⟨fun tmv hm=>by simp only [hg,hj,Option.bind_some,zfr,h1 tmv hm];rfl,h⟩
  ·rename_i vs hb
   rw [uT] at hb
   refine .inr ⟨fun tmv hm=>?_,h⟩
   obtain ⟨ρ,h2⟩:=hm d _ hb
   simp only [hg,hj,Option.bind_some,zfr,h2,den]
  ·cases h
theorem zAj {ops:Array Oper} {tm:List SV} {o:Oper} {y n:List SV→Option R} {r:R} (h:zrn ops tm o y n=some r):((∀ρ,uH ops (zq ρ tm) o=some true)∧y tm=some r)∨((∀ρ,uH ops (zq ρ tm) o=some false)∧n tm=some r):=by
 have hd:∀(ρ:Nat→Value) (i:Nat) (u:SV),tm[i]?=some u→∃ρ',(zq ρ tm)[i]?=some (den ρ' u):=fun ρ i u hu=>⟨ρ,by rw [yI,hu];rfl⟩
 rcases zw0 h with ⟨h1,h2⟩ | ⟨h1,h2⟩
 ·exact .inl ⟨fun ρ=>h1 _ (hd ρ),h2⟩
 ·exact .inr ⟨fun ρ=>h1 _ (hd ρ),h2⟩
def zw1 (op:List SV→SH→Nat→Oper→KO R→Option R) (ops:Array Oper):List Oper→List SV→SH→Nat→(List SV→SH→Nat→Option R)→Option R
 |[],tm,H,nx,k=>k tm H nx
 |o::l,tm,H,nx,k=>zrn ops tm o
  (fun tm=>op tm H nx o fun v H1 nx1=>zw1 op ops l (zbC tm o.dst v) H1 nx1 k)
  (fun tm=>zw1 op ops l (zbC tm o.dst (.tup [])) H nx k)
def OpS (P:Program) (rd:Option Nat) (op:List SV→SH→Nat→Oper→KO R→Option R):Prop:=∀{tm H nx o k r},op tm H nx o k=some r→gu P rd o tm H nx k r
theorem ztc {op:List SV→SH→Nat→Oper→KO R→Option R} {rd:Option Nat} (hop:OpS P rd op) {ops:Array Oper}:∀{l:List Oper} {j:Nat} {tm:List SV} {H:SH} {nx:Nat} {k:List SV→SH→Nat→Option R} {r:R},(∀i:Nat,l[i]?=ops[j+i]?)→zw1 op ops l tm H nx k=some r→
  ∃tm' H' nx',zHd P rd ops (List.range' j l.length) (KF l) tm H nx tm' H' nx'∧k tm' H' nx'=some r
 |[],j,tm,H,nx,k,r,_,h=>⟨tm,H,nx,⟨wN.refl H,wS.refl H,Jo.refl _ _,Nat.le_refl _,fun ν hv=>⟨hv,zBh⟩⟩,h⟩
 |o::l,j,tm,H,nx,k,r,hl,h=>by
  have h0:ops[j]?=some o:=by simpa using (hl 0).symm
  have hl':∀i:Nat,l[i]?=ops[j+1+i]?:=fun i=>by have:=hl (i+1);simpa [Nat.add_assoc,Nat.add_comm 1 i] using this
  have hin1:∀i∈o.dst.toList,i∈KF (o::l):=fun i hi=>by
   unfold KF
   cases hd:o.dst with
   |none=>rw [hd] at hi;cases hi
   |some d=>rw [hd] at hi;simp at hi;subst hi;simp
  have hin2:∀i∈KF l,i∈KF (o::l):=fun i hi=>by
   show i∈(match o.dst with | some d=>d::KF l | none=>KF l)
   cases o.dst with
   |none=>exact hi
   |some d=>exact List.mem_cons_of_mem _ hi
  simp only [zw1] at h
  rw [List.length_cons,List.range'_succ]
  rcases zAj h with ⟨hw,h1⟩ | ⟨hw,h1⟩
  ·obtain ⟨v,H1,nx1,⟨s1,s2,s3,s4⟩,h2⟩:=hop h1
   obtain ⟨tm',H',nx',⟨t1,t2,t3,t4,t5⟩,h3⟩:=ztc hop hl' h2
   refine ⟨tm',H',nx',⟨s1.trans t1,s2.trans t2,(zhM tm o.dst v).trans t3 hin1 hin2,Nat.le_trans s3 t4,fun ν hv=>?_⟩,h3⟩
   obtain ⟨v1,o1⟩:=s4 ν hv
   obtain ⟨v2,o2⟩:=t5 ν v1
   exact ⟨v2,zzT h0 (hw _) o1 (zBK o2 fun φ ts ht=>zDy s1 ht)⟩
  ·obtain ⟨tm',H',nx',⟨t1,t2,t3,t4,t5⟩,h3⟩:=ztc hop hl' h1
   refine ⟨tm',H',nx',⟨t1,t2,(zhM tm o.dst _).trans t3 hin1 hin2,t4,fun ν hv=>?_⟩,h3⟩
   obtain ⟨v2,o2⟩:=t5 ν hv
   exact ⟨v2,zzU h0 (hw _) (by rw [zwZ] at o2;simpa [den,zq,undef] using o2)⟩
def QB (x0 x:Blk):Prop:=match x0,x with
 |.cells ds r,.cells cs r'=>r=r'∧∀(j:Nat) v,cs[j]?=some v→∃u,ds[j]?=some u∧∀φ v',zo φ u v'→zo φ v v'
 |.loop A,.loop B=>B.state=A.state∧B.pending=A.pending∧B.params=A.params∧B.assign=A.assign∧B.body=A.body∧B.defers=A.defers∧∀φ ts,jd φ A.tmps.toList ts→jd φ B.tmps.toList ts
 |a,b=>a=b
theorem QB.refl (x:Blk):QB x x:=by
 cases x with
 |cells cs r=>exact ⟨rfl,fun j v hv=>⟨v,hv,fun _ _ h=>h⟩⟩
 |loop A=>exact ⟨rfl,rfl,rfl,rfl,rfl,rfl,fun _ _ h=>h⟩
 |_=>rfl
theorem QB.rel {x0 x:Blk} (h:QB x0 x) {L:Loc} (hb:jQ φ w L x0):jQ φ w L x:=by
 unfold QB at h
 split at h
 ·obtain ⟨rfl,h⟩:=h
  obtain ⟨arr,el,fr,e1,e2,e3⟩:=hb
  refine ⟨arr,el,fr,e1,fun j v hv=>?_,e3⟩
  obtain ⟨u,h1,h2⟩:=h j v hv
  obtain ⟨v',h3,h4⟩:=e2 j u h1
  exact ⟨v',h3,h2 φ v' h4⟩
 ·obtain ⟨h1,h2,h3,h4,h5,h6,h7⟩:=h
  obtain ⟨l',e1,e2,e3,e4,e5,e6,e7,D,e8,e9⟩:=hb
  exact ⟨l',e1,e2.trans h1.symm,e3.trans h2.symm,h7 _ _ e4,e5.trans h3.symm,e6.trans h4.symm,e7.trans h5.symm,D,by rw [h6];exact e8,e9⟩
 ·subst h;exact hb
theorem QB.rw {x0 x:Blk} (h:QB x0 x):x.rw=x0.rw:=by
 unfold QB at h
 split at h
 ·obtain ⟨rfl,_⟩:=h;rfl
 ·rfl
 ·subst h;rfl
theorem QB.seen {x0 x:Blk} (h:QB x0 x) (wr:Nat→Bool) (b:Nat):QB (uj wr (fun _=>false) b x0) (uj wr (fun _=>false) b x):=by
 unfold uj
 cases wr b with
 |true=>simpa using h
 |false=>
  simp only [Bool.false_eq_true,if_false]
  unfold QB at h
  split at h
  ·exact ⟨rfl,h.2⟩
  ·rfl
  ·subst h
   exact QB.refl _
theorem QB.trans {x y z:Blk} (h:QB x y) (k:QB y z):QB x z:=by
 cases x<;>cases y<;>simp only [QB] at h<;>first | (cases h;done) | (cases h;exact k) | exact k | skip
 ·cases z<;>simp only [QB] at k ⊢<;>first | (cases k;done) | skip
  obtain ⟨rfl,h⟩:=h
  obtain ⟨rfl,k⟩:=k
  refine ⟨rfl,fun j v hv=>?_⟩
  obtain ⟨u,h1,h2⟩:=k j v hv
  obtain ⟨t,h3,h4⟩:=h j u h1
  exact ⟨t,h3,fun φ v' hr=>h2 φ v' (h4 φ v' hr)⟩
 ·cases z<;>simp only [QB] at k ⊢<;>first | (cases k;done) | skip
  obtain ⟨h1,h2,h3,h4,h5,h6,h7⟩:=h
  obtain ⟨k1,k2,k3,k4,k5,k6,k7⟩:=k
  exact ⟨k1.trans h1,k2.trans h2,k3.trans h3,k4.trans h4,k5.trans h5,k6.trans h6,fun φ ts ht=>k7 φ ts (h7 φ ts ht)⟩
theorem zw2 {ρ ρ':Nat→Value} (hρ:∀b,ρ b≠Fz.junk) (h:RLe ρ ρ') {nil:Bool} {k:SB} {x':Blk} (hx:zN ρ' nil k=some x'):∃x,zN ρ nil k=some x∧QB x x':=by
 have key:∀(cs:List SV) (ro:Bool),QB (.cells (zq ρ cs) ro) (.cells (zq ρ' cs) ro):=fun cs ro=>⟨rfl,fun j v hv=>by
  rw [yI,Option.map_eq_some_iff] at hv
  obtain ⟨u,hu,rfl⟩:=hv
  exact ⟨den ρ u,by rw [yI,hu];rfl,fun φ v' hr=>zcX h u v' hr⟩⟩
 cases k with
 |vars cs=>simp only [zN,Option.some.injEq] at hx;subst hx;exact ⟨_,rfl,key cs false⟩
 |ro cs=>simp only [zN,Option.some.injEq] at hx;subst hx;exact ⟨_,rfl,key cs true⟩
 |loop L=>
  simp only [zN,Option.some.injEq] at hx;subst hx
  exact ⟨_,rfl,rfl,rfl,rfl,rfl,rfl,rfl,fun φ ts ht=>by simpa [yY] using zmt hρ h (by simpa [yY] using ht)⟩
 |_=>exact ⟨x',hx,QB.refl _⟩
def Mix (G H:Hp):Prop:=∀b x,H.get b=some x→∃x0,G.get b=some x0∧QB x0 x
theorem Mix.refl (H:Hp):Mix H H:=fun b x h=>⟨x,h,QB.refl x⟩
theorem Mix.trans {F G H:Hp} (h:Mix F G) (k:Mix G H):Mix F H:=fun b x hx=>by
 obtain ⟨y,h1,h2⟩:=k b x hx
 obtain ⟨z,h3,h4⟩:=h b y h1
 exact ⟨z,h3,h4.trans h2⟩
theorem Mix.good {G H:Hp} (h:Mix G H) (g:zA φ G K w):zA φ H K w:=by
 refine ⟨fun b k hb=>?_,fun b c k k' L L' hb hc hne hkr hL hL'=>?_,fun b k L hb hkr hL=>?_,g.kin,g.fz,fun b k L c M hb hkr hL hM=>?_⟩
 ·obtain ⟨x,h1,h2⟩:=h b k hb
  obtain ⟨L,hL,hB⟩:=g.rel b x h1
  exact ⟨L,hL,h2.rel hB⟩
 ·obtain ⟨x,h1,h2⟩:=h b k hb
  obtain ⟨y,h3,_⟩:=h c k' hc
  exact g.sep b c x y L L' h1 h3 hne (by rw [←h2.rw];exact hkr) hL hL'
 ·obtain ⟨x,h1,h2⟩:=h b k hb
  exact g.prot b x L h1 (by rw [←h2.rw];exact hkr) hL
 ·obtain ⟨x,h1,h2⟩:=h b k hb
  exact g.fsep b x L c M h1 (by rw [←h2.rw];exact hkr) hL hM
def roS:SB→SB
 |.vars cs=>.ro cs
 |.arr nn t l=>.roa nn t l
 |.loop _=>.hid
 |.defd=>.hid
 |.mpb _ _ _ _=>.hid
 |.mpf _ _=>.hid
 |k=>k
def zDA:SB→SB
 |.arr nn t l=>.gone (rsz nn t l) l.length
 |.roa nn t l=>.gone (rsz nn t l) l.length
 |.fro nn t l=>.gone (rsz nn t l) l.length
 |.gone s n=>.gone s n
 |_=>.abs
def uu (l:List Nat) (b:Nat):Bool:=List.rec (motive:=fun _=>Bool) false (fun x _ ih=>bif Nat.beq x b then true else ih) l
def zmL (vis wr:List Nat) (b:Nat) (k:SB):SB:=bif uu vis b then (bif uu wr b then k else roS k) else zDA k
def zdI (vis wr:List Nat):SH→SH
 |[]=>[]
 |(b,k)::r=>(b,zmL vis wr b k)::zdI vis wr r
theorem Yt (vis wr:List Nat) (n:Nat):∀H:SH,zk (zdI vis wr H) n=(zk H n).map (zmL vis wr n)
 |[]=>rfl
 |(b,k)::r=>by
  simp only [zdI,zI]
  by_cases hb:b=n
  ·subst hb;simp
  ·rw [if_neg hb,if_neg hb];exact Yt vis wr n r
theorem zi8 (vis wr:List Nat) (b:Nat) (k:Option SB):reg (k.map (zmL vis wr b))=reg k:=by
 cases k with
 |none=>rfl
 |some k=>
  simp only [Option.map_some,zmL]
  cases uu vis b<;>cases uu wr b<;>cases k<;>first | rfl | exact zf9 _ _ _
theorem zAk (vis wr:List Nat) (b:Nat) (k:Option SB) (h:ji (k.map (zmL vis wr b))=true):ji k=true:=by
 cases k with
 |none=>exact h
 |some k=>
  simp only [Option.map_some,zmL] at h
  cases hv:uu vis b<;>cases hw:uu wr b<;>rw [hv,hw] at h<;>cases k<;>simp_all [ji,zDA,roS]
theorem zw3 (ν:Nat→Bool) (vis wr:List Nat) (H:SH):rho ν (zdI vis wr H)=rho ν H:=yy (fun c=>by rw [Yt,zi8]) ν
theorem zza {ν:Nat→Bool} {nx:Nat} {vis wr:List Nat} {H:SH} (h:VN ν nx H):VN ν nx (zdI vis wr H):=gH (fun c=>by rw [Yt,zi8]) (fun c hc=>zAk vis wr c _ (by rw [←Yt];exact hc)) h
theorem zDB {ν:Nat→Bool} {vis wr:List Nat} {H:SH} {G:Hp} (hm:Mix G (zv ν H)) (wr':Nat→Bool) (hw:∀b,wr' b=(uu wr b&&(G.get b).isSome)) :
  Mix (Hp.only (uu vis) (GO wr' (fun _=>false) G)) (zv ν (zdI vis wr H)):=fun b x hx=>by
 rw [zF,Yt,zw3] at hx
 cases hk:zk H b with
 |none=>rw [hk] at hx;cases hx
 |some k=>
  rw [hk] at hx
  simp only [Option.map_some,Option.bind_some,zmL] at hx
  cases hv:uu vis b with
  |false=>
   rw [hv,cond_false] at hx
   cases k<;>simp [zDA,zN] at hx
  |true=>
   rw [hv,cond_true] at hx
   have hget:(Hp.only (uu vis) (GO wr' (fun _=>false) G)).get b=(G.get b).map (uj wr' (fun _=>false) b):=by
    rw [Hp.get_only,hv,if_pos rfl,zfx]
   have hH:∀y,zN (rho ν H) (ν b) k=some y→∃y0,G.get b=some y0∧QB y0 y:=fun y hy=>hm b y (by rw [zF,hk];exact hy)
   cases hwb:uu wr b with
   |true=>
    rw [hwb,cond_true] at hx
    obtain ⟨y0,h1,h2⟩:=hH x hx
    refine ⟨y0,?_,h2⟩
    rw [hget,h1]
    have:wr' b=true:=by rw [hw b,hwb,h1];rfl
    simp [uj,this]
   |false=>
    rw [hwb,cond_false] at hx
    have hwf:wr' b=false:=by rw [hw b,hwb];rfl
    have hs:∃y,zN (rho ν H) (ν b) k=some y∧uj wr' (fun _=>false) b y=x:=by
     cases k with
     |vars cs=>simp only [roS,zN,Option.some.injEq] at hx;exact ⟨_,rfl,by subst hx;simp [uj,hwf]⟩
     |ro cs=>simp only [roS,zN,Option.some.injEq] at hx;exact ⟨_,rfl,by subst hx;simp [uj,hwf]⟩
     |arr nn t l=>
      simp only [roS,zN] at hx ⊢
      cases hnb:jS nn l with
      |true=>rw [hnb] at hx;cases hx
      |false=>rw [hnb] at hx;simp only [cond_false,Option.some.injEq] at hx;exact ⟨_,rfl,by subst hx;simp [uj,hwf]⟩
     |roa nn t l=>
      simp only [roS,zN] at hx ⊢
      cases hnb:jS nn l with
      |true=>rw [hnb] at hx;cases hx
      |false=>rw [hnb] at hx;simp only [cond_false,Option.some.injEq] at hx;exact ⟨_,rfl,by subst hx;simp [uj,hwf]⟩
     |fro nn t l=>
      simp only [roS,zN] at hx ⊢
      cases hnb:jS nn l with
      |true=>rw [hnb] at hx;cases hx
      |false=>rw [hnb] at hx;simp only [cond_false,Option.some.injEq] at hx;exact ⟨_,rfl,by subst hx;simp [uj,hwf]⟩
     |gone s n=>simp [roS,zN] at hx
     |loop L=>simp only [roS,zN,Option.some.injEq] at hx;exact ⟨_,rfl,by subst hx;simp [uj,hwf]⟩
     |defd=>simp only [roS,zN,Option.some.injEq] at hx;exact ⟨_,rfl,by subst hx;simp [uj,hwf]⟩
     |hid=>simp only [roS,zN,Option.some.injEq] at hx;exact ⟨_,rfl,by subst hx;simp [uj,hwf]⟩
     |mpb k ag t l=>simp only [roS,zN,Option.some.injEq] at hx;exact ⟨_,rfl,by subst hx;simp [uj,hwf]⟩
     |mpf k l=>simp only [roS,zN,Option.some.injEq] at hx;exact ⟨_,rfl,by subst hx;simp [uj,hwf]⟩
     |abs=>simp [roS,zN] at hx
    obtain ⟨y,h1,h2⟩:=hs
    obtain ⟨y0,h3,h4⟩:=hH y h1
    refine ⟨uj wr' (fun _=>false) b y0,by rw [hget,h3];rfl,?_⟩
    rw [←h2]
    exact h4.seen wr' b
structure WL where
 ran:Bool
 vis:List Nat
 wr:List Nat
 lo:Nat
 hi:Nat
def gj (tm:List SV) (s:Nat):SV:=match gl tm s with
 |some v=>v
 |none=>.junk
def zfG (tm:List SV):List Nat→List SV→List SV
 |[],t=>t
 |s::r,t=>zfG tm r (lsS t s (gj tm s))
def wR (wr:List Nat) (lo hi:Nat) (b:Nat):Bool:=uu wr b||(Nat.ble lo b&&Nat.blt b hi)
def KS (wr:List Nat) (lo hi:Nat):SH→SH
 |[]=>[]
 |(b,k)::r=>(b,bif wR wr lo hi b then (match k with | .fro nn t l=>.gone (rsz nn t l) l.length | k=>k) else k)::KS wr lo hi r
def zoj (wr:List Nat) (lo hi:Nat):SH→SH
 |[]=>[]
 |(b,k)::r=>bif wR wr lo hi b then (b,k)::zoj wr lo hi r else zoj wr lo hi r
def zok (wr:List Nat) (lo hi:Nat):SH→SH
 |[]=>[]
 |(b,k)::r=>bif wR wr lo hi b then zok wr lo hi r else (b,k)::zok wr lo hi r
def zw4 (wr:List Nat) (lo hi:Nat) (H1 H:SH):SH:=zoj wr lo hi H1++zok wr lo hi H
def rwK:SB→Bool
 |.ro _=>false
 |.roa _ _ _=>false
 |.fro _ _ _=>false
 |.hid=>false
 |_=>true
def okT (wr:List Nat) (lo hi:Nat) (H:SH):SH→Bool
 |[]=>true
 |(b,k)::r=>(bif wR wr lo hi b then rwK k else match reg (some k) with | none=>true | some _=>(reg (zk H b)).isSome)&&okT wr lo hi H r
def zro (lo hi:Nat):SH→Bool
 |[]=>true
 |(b,_)::r=>!(Nat.ble lo b&&Nat.blt b hi)&&zro lo hi r
def okW (H:SH):List Nat→Bool
 |[]=>true
 |b::r=>(match zk H b with
  |some (.gone _ _)=>false
  |some .abs=>false
  |none=>false
  |_=>true)&&okW H r
def zkn (wr:List Nat) (lo hi:Nat):Bool:=(match wr with | []=>true | _=>false)&&Nat.beq lo hi
def zgc (wr:List Nat) (lo hi:Nat) (H1 H:SH):Option SH:=match KS wr lo hi H1 with
 |H2=>bif okT wr lo hi H H2&&(zro lo hi H&&okW H wr) then some (bif zkn wr lo hi then H else zw4 wr lo hi H2 H) else none
def zAl (vis:List Nat):List Nat→Bool
 |[]=>true
 |b::r=>uu vis b&&zAl vis r
theorem zw5 {vis:List Nat} {b:Nat}:∀{wr:List Nat},zAl vis wr=true→uu wr b=true→uu vis b=true
 |[],_,h=>by cases h
 |c::r,hs,h=>by
  simp only [zAl,Bool.and_eq_true] at hs
  have h:(bif Nat.beq c b then true else uu r b)=true:=h
  cases hb:Nat.beq c b with
  |true=>have:=Nat.eq_of_beq_eq_true hb;subst this;exact hs.1
  |false=>rw [hb] at h;exact zw5 hs.2 h
def zol (op:List SV→SH→Nat→Oper→KO R→Option R) (ops:Array Oper) (cut:Nat→List SV→SH→List WL→Option (List Nat×List Nat)):Nat→List WL→List Oper→List SV→SH→Nat→(List WL→List SV→SH→Nat→Option R)→Option R
 |_,done,[],tm,H,nx,k=>k done.reverse tm H nx
 |i,done,o::l,tm,H,nx,k=>zrn ops tm o
  (fun tm=>match cut i tm H done with
   |some (wr,vis)=>bif zAl vis wr then op (zfG tm (vO ops o) (List.replicate tm.length .junk)) (zdI vis wr H) nx o fun v H1 nx1=>match zgc wr nx nx1 H1 H with
    |some H2=>zol op ops cut (i+1) (⟨true,vis,wr,nx,nx1⟩::done) l (zbC tm o.dst v) H2 nx1 k
    |none=>none
    else none
   |none=>none)
  (fun tm=>zol op ops cut (i+1) (⟨false,[],[],nx,nx⟩::done) l (zbC tm o.dst (.tup [])) H nx k)
theorem Yu (wr:List Nat) (lo hi n:Nat):∀H:SH,zk (KS wr lo hi H) n=(zk H n).map fun k=>bif wR wr lo hi n then (match k with | .fro nn t l=>.gone (rsz nn t l) l.length | k=>k) else k
 |[]=>rfl
 |(b,k)::r=>by
  simp only [KS,zI]
  by_cases hb:b=n
  ·subst hb;simp
  ·rw [if_neg hb,if_neg hb];exact Yu wr lo hi n r
theorem zuF (wr:List Nat) (lo hi n:Nat):∀H:SH,zk (zoj wr lo hi H) n=bif wR wr lo hi n then zk H n else none
 |[]=>by simp [zoj,Um]
 |(b,k)::r=>by
  have ih:=zuF wr lo hi n r
  simp only [zoj,zI]
  cases hb:wR wr lo hi b with
  |true=>
   simp only [cond_true,zI]
   by_cases h:b=n
   ·subst h;simp [hb]
   ·simp only [h,if_false];exact ih
  |false=>
   simp only [cond_false]
   by_cases h:b=n
   ·subst h;rw [hb] at ih ⊢;simpa using ih
   ·simp only [h,if_false];exact ih
theorem zuG (wr:List Nat) (lo hi n:Nat):∀H:SH,zk (zok wr lo hi H) n=bif wR wr lo hi n then none else zk H n
 |[]=>by simp [zok,Um]
 |(b,k)::r=>by
  have ih:=zuG wr lo hi n r
  simp only [zok,zI]
  cases hb:wR wr lo hi b with
  |true=>
   simp only [cond_true]
   by_cases h:b=n
   ·subst h;rw [hb] at ih ⊢;simpa using ih
   ·simp only [h,if_false];exact ih
  |false=>
   simp only [cond_false,zI]
   by_cases h:b=n
   ·subst h;simp [hb]
   ·simp only [h,if_false];exact ih
theorem zO (n:Nat):∀H G:SH,zk (H++G) n=(match zk H n with | some k=>some k | none=>zk G n)
 |[],G=>by simp [Um]
 |(b,k)::r,G=>by
  have ih:=zO n r G
  simp only [List.cons_append,zI]
  by_cases h:b=n
  ·subst h;simp
  ·simp only [h,if_false];exact ih
theorem zAm (wr:List Nat) (lo hi n:Nat) (H1 H:SH):zk (zw4 wr lo hi H1 H) n=bif wR wr lo hi n then zk H1 n else zk H n:=by
 unfold zw4
 rw [zO,zuF,zuG]
 cases wR wr lo hi n with
 |true=>simp only [cond_true];cases zk H1 n<;>rfl
 |false=>simp
theorem zpj {wr:List Nat} {lo hi:Nat} (h:zkn wr lo hi=true) (b:Nat):wR wr lo hi b=false:=by
 unfold zkn at h
 simp only [Bool.and_eq_true] at h
 obtain ⟨h1,h2⟩:=h
 have h2:=Nat.eq_of_beq_eq_true h2
 subst h2
 cases wr with
 |nil=>
  simp only [wR,uu,Bool.false_or,Bool.and_eq_false_iff]
  by_cases hb:lo≤b
  ·right
   rw [zfW];simp;omega
  ·left
   cases hc:Nat.ble lo b with
   |false=>rfl
   |true=>exact absurd (Nat.le_of_ble_eq_true hc) hb
 |cons x r=>cases h1
theorem zrp {wr:List Nat} {lo hi:Nat} {H1 H H2:SH} (h:zgc wr lo hi H1 H=some H2) (n:Nat):zk H2 n=bif wR wr lo hi n then zk (KS wr lo hi H1) n else zk H n:=by
 unfold zgc at h
 dsimp only at h
 obtain ⟨_,h2⟩:=zw h
 cases h2
 cases hq:zkn wr lo hi with
 |true=>simp [zpj hq n]
 |false=>simp only [cond_false];exact zAm ..
theorem zpk {wr:List Nat} {lo hi:Nat} {H1 H H2:SH} (h:zgc wr lo hi H1 H=some H2):okT wr lo hi H (KS wr lo hi H1)=true∧zro lo hi H=true∧okW H wr=true:=by
 unfold zgc at h
 dsimp only at h
 obtain ⟨h1,_⟩:=zw h
 simpa using h1
theorem zzb {wr:List Nat} {lo hi:Nat} {H:SH} {b:Nat} {k:SB}:∀{H1:SH},okT wr lo hi H H1=true→zk H1 b=some k→(wR wr lo hi b=true→rwK k=true)∧(wR wr lo hi b=false→(reg (some k)).isSome=true→(reg (zk H b)).isSome=true)
 |[],_,h=>by cases h
 |(c,x)::r,ho,h=>by
  simp only [okT,Bool.and_eq_true] at ho
  rw [zI] at h
  by_cases hc:c=b
  ·subst hc
   rw [if_pos rfl] at h
   cases h
   have h1:=ho.1
   constructor
   ·intro ht;rw [ht] at h1;exact h1
   ·intro ht hr
    rw [ht,cond_false] at h1
    split at h1
    ·rename_i hn;rw [hn] at hr;cases hr
    ·exact h1
  ·rw [if_neg hc] at h
   exact zzb ho.2 h
theorem zuH {lo hi b:Nat} {k:SB}:∀{H:SH},zro lo hi H=true→zk H b=some k→¬(lo≤b∧b < hi)
 |[],_,h=>by cases h
 |(c,x)::r,hf,h=>by
  simp only [zro,Bool.and_eq_true,Bool.not_eq_true',Bool.and_eq_false_iff] at hf
  rw [zI] at h
  by_cases hc:c=b
  ·subst hc
   rintro ⟨h1,h2⟩
   rcases hf.1 with h3 | h3
   ·have:=Nat.ble_eq_true_of_le h1;rw [h3] at this;cases this
   ·rw [zfW,decide_eq_false_iff_not] at h3;exact h3 h2
  ·rw [if_neg hc] at h
   exact zuH hf.2 h
theorem zbD {wr:List Nat} {lo hi b:Nat}:wR wr lo hi b=true↔uu wr b=true∨(lo≤b∧b < hi):=by
 simp only [wR,Bool.or_eq_true,Bool.and_eq_true,zfW,decide_eq_true_eq,Nat.ble_eq]
theorem zgd (wr:List Nat) (lo hi b:Nat) (k:Option SB):reg (k.map fun k=>bif wR wr lo hi b then (match k with | .fro nn t l=>.gone (rsz nn t l) l.length | k=>k) else k)=reg k:=by
 cases k with
 |none=>rfl
 |some k=>simp only [Option.map_some];cases wR wr lo hi b<;>cases k<;>first | rfl | exact zf9 _ _ _
theorem zFo (wr:List Nat) (lo hi b:Nat) (k:Option SB):ji (k.map fun k=>bif wR wr lo hi b then (match k with | .fro nn t l=>.gone (rsz nn t l) l.length | k=>k) else k)=ji k:=by
 cases k with
 |none=>rfl
 |some k=>simp only [Option.map_some];cases wR wr lo hi b<;>cases k<;>rfl
structure zGi (vis wr:List Nat) (lo hi:Nat) (V1 H H2:SH):Prop where
 reg:wN H H2
 keep:wS H H2
 vn:∀ν nx nx',VN ν nx H→VN ν nx' V1→nx≤nx'→VN ν nx' H2
 rho:∀ν,RLe (Sy.rho ν V1) (Sy.rho ν H2)
theorem zuI {vis wr:List Nat} {lo hi:Nat} {V1 H H2:SH} (hr:wN (zdI vis wr H) V1) (hk:wS (zdI vis wr H) V1) (hvis:∀b,uu wr b=true→uu vis b=true) (h:zgc wr lo hi V1 H=some H2):zGi vis wr lo hi V1 H H2:=by
 have hg:=fun n=>zrp h n
 have hc:=zpk h
 have hreg2:∀b,wR wr lo hi b=true→Sy.reg (zk H2 b)=Sy.reg (zk V1 b):=fun b hb=>by rw [hg b,hb,cond_true,Yu,zgd]
 have hregH:wN H H2:=fun b x hx=>by
  cases ht:wR wr lo hi b with
  |false=>rw [hg b,ht];exact hx
  |true=>rw [hreg2 b ht];exact hr b x (by rw [Yt,zi8];exact hx)
 refine ⟨hregH,fun l L hl=>?_,fun ν nx nx' hv hv1 hle=>⟨fun b n hb=>?_,hv1.old,fun b hb=>?_⟩,fun ν b=>?_⟩
 ·cases ht:wR wr lo hi l with
  |false=>exact ⟨L.st,L.pend,by rw [hg l,ht];exact hl⟩
  |true=>
   have hw:uu wr l=true:=by
    rcases zbD.1 ht with h1 | h1
    ·exact h1
    ·exact absurd h1 (zuH hc.2.1 hl)
   obtain ⟨s,p,h1⟩:=hk l L (by rw [Yt,hl];simp [zmL,hw,hvis l hw])
   exact ⟨s,p,by rw [hg l,ht,cond_true,Yu,h1,ht];rfl⟩
 ·cases ht:wR wr lo hi b with
  |false=>rw [hg b,ht] at hb;exact hv.empty b n hb
  |true=>rw [hreg2 b ht] at hb;exact hv1.empty b n hb
 ·cases ht:wR wr lo hi b with
  |false=>rw [hg b,ht] at hb;exact hv.nn b hb
  |true=>rw [hg b,ht,cond_true,Yu,zFo] at hb;exact hv1.nn b hb
 ·unfold Sy.rho
  cases hx:Sy.reg (zk V1 b) with
  |none=>exact .inl rfl
  |some x=>
   right
   cases ht:wR wr lo hi b with
   |true=>rw [hreg2 b ht,hx]
   |false=>
    have h1:Sy.reg (zk (KS wr lo hi V1) b)=some x:=by rw [Yu,zgd];exact hx
    cases hd:zk (KS wr lo hi V1) b with
    |none=>rw [hd] at h1;cases h1
    |some k=>
     have h2:=(zzb hc.1 hd).2 ht (by rw [←hd,h1];rfl)
     obtain ⟨y,hy⟩:=Option.isSome_iff_exists.1 h2
     have h3:=hr b y (by rw [Yt,zi8];exact hy)
     rw [hx] at h3
     cases h3
     rw [hregH b _ hy]
theorem RLe.trans {a b c:Nat→Value} (h:RLe a b) (k:RLe b c):RLe a c:=fun n=>by
 rcases h n with h1 | h1
 ·exact .inl h1
 ·rcases k n with k1 | k1
  ·exact .inl (h1▸k1)
  ·exact .inr (k1.trans h1)
def Xo (ν:Nat→Bool) (H:SH) (tmv:List Value) (tm:List SV):Prop:=tmv.length=tm.length∧∀(i:Nat) u,tm[i]?=some u→∃ρ,(∀b,ρ b≠Fz.junk)∧RLe ρ (rho ν H)∧tmv[i]?=some (den ρ u)
theorem Xo.refl (ν:Nat→Bool) (H:SH) (tm:List SV):Xo ν H (zq (rho ν H) tm) tm:=⟨wT _ _,fun i u hu=>⟨rho ν H,gF ν H,RLe.refl _,by rw [yI,hu];rfl⟩⟩
theorem Xo.mono {ν:Nat→Bool} {H H2:SH} {tmv:List Value} {tm:List SV} (h:Xo ν H tmv tm) (hr:RLe (rho ν H) (rho ν H2)):Xo ν H2 tmv tm:=⟨h.1,fun i u hu=>by
 obtain ⟨ρ,h1,h2,h3⟩:=h.2 i u hu
 exact ⟨ρ,h1,h2.trans hr,h3⟩⟩
theorem Xo.put {ν:Nat→Bool} {H:SH} {tmv:List Value} {tm:List SV} (h:Xo ν H tmv tm) {ρ:Nat→Value} (hj:∀b,ρ b≠Fz.junk) (hr:RLe ρ (rho ν H)) (d:Option Tmp) (v:SV):Xo ν H (ZS tmv d (den ρ v)) (zbC tm d v):=by
 cases d with
 |none=>exact h
 |some d=>
  rw [zdT]
  simp only [zbC,ZR]
  refine ⟨by simp [h.1],fun i u hu=>?_⟩
  rw [List.getElem?_set] at hu ⊢
  by_cases hdi:d=i
  ·subst hdi
   rw [if_pos rfl] at hu ⊢
   split at hu
   ·rename_i hlt
    cases hu
    exact ⟨ρ,hj,hr,by rw [if_pos (by rw [h.1];exact hlt)]⟩
   ·cases hu
  ·rw [if_neg hdi] at hu ⊢
   exact h.2 i u hu
theorem Xo.rel {ν:Nat→Bool} {H:SH} {tmv:List Value} {tm:List SV} (h:Xo ν H tmv tm) {ts:Array Value} (ht:jd φ tmv ts):jd φ (zq (rho ν H) tm) ts:=by
 refine ⟨by rw [wT,←h.1];exact ht.1,fun i v hv=>?_⟩
 rw [yI,Option.map_eq_some_iff] at hv
 obtain ⟨u,hu,rfl⟩:=hv
 obtain ⟨ρ,h1,h2,h3⟩:=h.2 i u hu
 rcases ht.2 i _ h3 with h0 | ⟨v',e1,e2⟩
 ·exact .inl (zkd h1 h0)
 ·exact .inr ⟨v',e1,zcX h2 u v' e2⟩
theorem zuJ (tm:List SV):∀(sl:List Nat) (t:List SV),(zfG tm sl t).length=t.length∧∀(i:Nat),t.length=tm.length→((i∈sl→(zfG tm sl t)[i]?=tm[i]?)∧(i∉sl→(zfG tm sl t)[i]?=t[i]?)∧(t[i]?=tm[i]?→(zfG tm sl t)[i]?=tm[i]?))
 |[],t=>⟨rfl,fun i _=>⟨(fun h=>by cases h),fun _=>rfl,fun h=>h⟩⟩
 |s::r,t=>by
  obtain ⟨h1,h2⟩:=zuJ tm r (lsS t s (gj tm s))
  rw [ZR] at h1 h2
  simp only [zfG,ZR]
  refine ⟨by rw [h1];simp,fun i hl=>?_⟩
  obtain ⟨e1,e2,e3⟩:=h2 i (by simpa using hl)
  have hs:(t.set s (gj tm s))[s]?=tm[s]?:=by
   unfold gj
   rw [uT,List.getElem?_set]
   by_cases hlt:s < t.length
   ·rw [if_pos rfl,if_pos hlt]
    have:s < tm.length:=by omega
    simp [this]
   ·rw [if_pos rfl,if_neg hlt]
    rw [List.getElem?_eq_none (by omega)]
  have hst:t[i]?=tm[i]?→(t.set s (gj tm s))[i]?=tm[i]?:=fun h=>by
   by_cases hsi:s=i
   ·subst hsi;exact hs
   ·rw [List.getElem?_set,if_neg hsi];exact h
  refine ⟨fun hi=>?_,fun hi=>?_,fun h=>e3 (hst h)⟩
  ·rcases List.mem_cons.1 hi with rfl | hi
   ·exact e3 hs
   ·exact e1 hi
  ·simp only [List.mem_cons,not_or] at hi
   rw [e2 hi.2,List.getElem?_set,if_neg (fun e=>hi.1 e.symm)]
theorem Xo.keep {ν:Nat→Bool} {H:SH} {tmv:List Value} {tm:List SV} (h:Xo ν H tmv tm) (sl:List Nat):Xo ν H (ZM tmv sl) (zfG tm sl (List.replicate tm.length .junk)):=by
 obtain ⟨k1,k2⟩:=zuJ tm sl (List.replicate tm.length .junk)
 have k3:=(zhA (tm:=tmv) (slots:=sl)).1
 refine ⟨by rw [k3,k1,h.1];simp,fun i u hu=>?_⟩
 obtain ⟨e1,e2,_⟩:=k2 i (by simp)
 by_cases hi:i∈sl
 ·rw [e1 hi] at hu
  rw [zpG hi]
  exact h.2 i u hu
 ·rw [e2 hi,List.getElem?_replicate] at hu
  split at hu
  ·rename_i hlt
   cases hu
   refine ⟨rho ν H,gF ν H,RLe.refl _,?_⟩
   have hl:i < (ZM tmv sl).length:=by rw [k3,h.1];exact hlt
   have hx:(ZM tmv sl)[i]?=some (ZM tmv sl)[i]:=by simp [hl]
   rcases (zhA (tm:=tmv) (slots:=sl)).2 i _ hx with h0 | ⟨h0,_⟩
   ·rw [hx,h0];simp [den]
   ·exact absurd h0 hi
  ·cases hu
theorem Xo.any {ν:Nat→Bool} {H:SH} {tmv:List Value} {tm:List SV} (h:Xo ν H tmv tm):∀(i:Nat) u,tm[i]?=some u→∃ρ,tmv[i]?=some (den ρ u):=fun i u hu=>by
 obtain ⟨ρ,_,_,h3⟩:=h.2 i u hu
 exact ⟨ρ,h3⟩
theorem zmM {ν:Nat→Bool} {ρ:Nat→Value} {b:Nat} {x:Blk}:∀{H:SH},(b,x)∈ku ν ρ H→∃k,(b,k)∈H∧zN ρ (ν b) k=some x
 |[],h=>by cases h
 |(c,k)::r,h=>by
  have hdel:∀(G:Hp) (y:Nat×Blk),y∈G.del c→y∈G:=by
   intro G y hy
   induction G with
   |nil=>cases hy
   |cons z G ih=>
    obtain ⟨d,u⟩:=z
    simp only [Hp.del] at hy
    split at hy
    ·exact List.mem_cons_of_mem _ (ih hy)
    ·rcases List.mem_cons.1 hy with rfl | hy
     ·simp
     ·exact List.mem_cons_of_mem _ (ih hy)
  simp only [ku] at h
  split at h
  ·rename_i y hy
   rcases List.mem_cons.1 h with h | h
   ·cases h;exact ⟨k,by simp,hy⟩
   ·obtain ⟨k',h1,h2⟩:=zmM h
    exact ⟨k',List.mem_cons_of_mem _ h1,h2⟩
  ·obtain ⟨k',h1,h2⟩:=zmM (hdel _ _ h)
   exact ⟨k',List.mem_cons_of_mem _ h1,h2⟩
theorem zzc {wr:List Nat} {lo hi:Nat} {H:SH} {b:Nat} {k:SB}:∀{H1:SH},okT wr lo hi H H1=true→(b,k)∈H1→wR wr lo hi b=true→rwK k=true
 |[],_,h,_=>by cases h
 |(c,x)::r,ho,h,ht=>by
  simp only [okT,Bool.and_eq_true] at ho
  rcases List.mem_cons.1 h with h | h
  ·cases h;have h1:=ho.1;rw [ht] at h1;exact h1
  ·exact zzc ho.2 h ht
theorem zw6:∀{H:Hp},(∀b x,(b,x)∈H→x.rw=true)→zfy H=true
 |[],_=>rfl
 |(b,x)::r,h=>by
  simp only [zfy,h b x (by simp),Bool.true_and]
  exact zw6 fun c y hy=>h c y (List.mem_cons_of_mem _ hy)
theorem zc0 {p:Nat→Bool} {b:Nat} {x:Blk}:∀{H:Hp},(b,x)∈Hp.only p H→p b=true∧(b,x)∈H
 |[],h=>by cases h
 |(c,y)::r,h=>by
  simp only [Hp.only] at h
  split at h
  ·rename_i hp
   rcases List.mem_cons.1 h with h | h
   ·cases h;exact ⟨hp,by simp⟩
   ·exact ⟨(zc0 h).1,List.mem_cons_of_mem _ (zc0 h).2⟩
  ·exact ⟨(zc0 h).1,List.mem_cons_of_mem _ (zc0 h).2⟩
theorem zFp {ρ:Nat→Value} {nil:Bool} {k:SB} {x:Blk} (h:rwK k=true) (hx:zN ρ nil k=some x):x.rw=true:=by
 cases k with
 |arr nn t l=>
  simp only [zN] at hx
  cases hn:jS nn l<;>rw [hn] at hx<;>cases hx
  rfl
 |_=>simp [rwK] at h<;>simp only [zN,Option.some.injEq,reduceCtorEq] at hx<;>(subst hx;rfl)
theorem zDC {ρ:Nat→Value} {nil:Bool} {k:SB} {n:Nat} (h:reg (some k)=some (n,0)):zN ρ nil k=none:=by
 have key:∀(nn:Bool) (t:Ty) (l:List (T t)),some (l.length,rsz nn t l)=some (n,0)→jS nn l=true:=fun nn t l h=>by
  unfold rsz at h
  cases hn:jS nn l with
  |true=>rfl
  |false=>rw [hn] at h;simp at h
 cases k with
 |arr nn t l=>simp [zN,key nn t l h]
 |roa nn t l=>simp [zN,key nn t l h]
 |fro nn t l=>simp [zN,key nn t l h]
 |gone s m=>rfl
 |_=>simp [reg] at h
theorem zzd {H:SH} {b:Nat}:∀{wr:List Nat},okW H wr=true→uu wr b=true→∃k,zk H b=some k∧(∀s n,k≠.gone s n)∧k≠.abs
 |[],_,h=>by cases h
 |c::r,ho,h=>by
  simp only [okW,Bool.and_eq_true] at ho
  have h:(bif Nat.beq c b then true else uu r b)=true:=h
  by_cases hc:c=b
  ·subst hc
   have h1:=ho.1
   cases hk:zk H c with
   |none=>rw [hk] at h1;cases h1
   |some k=>
    refine ⟨k,rfl,fun s n e=>?_,fun e=>?_⟩<;>subst e<;>rw [hk] at h1<;>cases h1
  ·have:Nat.beq c b=false:=by
    cases hb:Nat.beq c b with
    |false=>rfl
    |true=>exact absurd (Nat.eq_of_beq_eq_true hb) hc
   rw [this] at h
   exact zzd ho.2 h
structure zDD (s:Stp) (t:WL):Prop where
 ran:s.ran=t.ran
 lo:s.lo=t.lo
 hi:s.hi=t.hi
 vis:∀x∈s.V,uu t.vis x.1=true
 wr:∀b,s.wr b=true→uu t.wr b=true
theorem zFq {op:List SV→SH→Nat→Oper→KO R→Option R} {rd:Option Nat} {ops:Array Oper} {o:Oper} {vis wr:List Nat} {tm:List SV} {H V1 H2:SH} {nx nx1:Nat} {v:SV}
  (hop:SOp P rd o (zfG tm (vO ops o) (List.replicate tm.length .junk)) (zdI vis wr H) nx v V1 nx1) (hvis:∀b,uu wr b=true→uu vis b=true) (hb:zgc wr nx nx1 V1 H=some H2)
  {ν:Nat→Bool} (hv:VN ν nx H) {tmv:List Value} {G:Hp} (ht:Xo ν H tmv tm) (hm:Mix G (zv ν H)) (hw:uH ops tmv o=some true) :
  ∃s:Stp,zvS P rd ops o tmv G nx s∧s.o=o∧s.hi=nx1∧VN ν nx1 H2∧Xo ν H2 (ZS tmv o.dst s.v) (zbC tm o.dst v)∧Mix (if s.ran then zbz s.touch s.H' G else G) (zv ν H2)∧zDD s ⟨true,vis,wr,nx,nx1⟩:=by
 obtain ⟨r1,r2,r3,r4⟩:=hop
 obtain ⟨v1,o1⟩:=r4 ν (zza hv)
 have B:=zuI r1 r2 hvis hb
 have hc:=zpk hb
 have hg:=fun n=>zrp hb n
 let wr':Nat→Bool:=fun b=>uu wr b&&(G.get b).isSome
 have hvm:=zDB (vis:=vis) (wr:=wr) hm wr' (fun _=>rfl)
 have hdrop:∀b x,(zv ν (KS wr nx nx1 V1)).get b=some x→(zv ν V1).get b=some x:=fun b x hx=>by
  have hr:rho ν (KS wr nx nx1 V1)=rho ν V1:=yy (fun c=>by rw [Yu,zgd]) ν
  rw [zF,Yu,hr] at hx
  rw [zF]
  cases hk:zk V1 b with
  |none=>rw [hk] at hx;cases hx
  |some k=>
   rw [hk] at hx
   simp only [Option.map_some,Option.bind_some] at hx ⊢
   cases htb:wR wr nx nx1 b with
   |false=>rw [htb] at hx;exact hx
   |true=>
    rw [htb,cond_true] at hx
    cases k<;>first | exact hx | (simp [zN] at hx)
 have htouch:∀b,ym wr' nx nx1 b=true→wR wr nx nx1 b=true:=fun b hb=>by
  simp only [ym,wr',Bool.or_eq_true,Bool.and_eq_true,decide_eq_true_eq] at hb
  rw [zbD]
  rcases hb with hb | hb
  ·exact .inl hb.1
  ·exact .inr hb
 refine ⟨⟨o,true,den (rho ν V1) v,ZM tmv (vO ops o),Hp.only (uu vis) (GO wr' (fun _=>false) G),wr',zv ν (KS wr nx nx1 V1),nx,nx1⟩,⟨rfl,rfl,r3,rfl,?_,fun _=>⟨?_,?_⟩,fun b k hk=>?_,(fun h=>by cases h),fun b hb=>?_⟩,rfl,rfl,B.vn ν nx nx1 hv v1 r3,?_,?_,⟨rfl,rfl,rfl,fun x hx=>(zc0 (b:=x.1) (x:=x.2) hx).1,fun b hb=>?_⟩⟩
 ·rw [←zml];exact hw
 ·refine Zw (zwX o1 (fun φ K w g=>hvm.good g) fun φ K w g ts htr=>?_) (fun φ v' h=>h) (fun φ K w g=>g.sub hdrop)
  rw [zw3]
  exact (ht.keep (vO ops o)).rel htr
 ·refine zw6 fun b x hx=>?_
  obtain ⟨h1,h2⟩:=zc0 hx
  obtain ⟨k,h3,h4⟩:=zmM h2
  exact zFp (zzc hc.1 h3 (htouch b h1)) h4
 ·dsimp only at hk ⊢
  rw [Hp.get_only] at hk
  split at hk
  ·rw [zfx,Option.map_eq_some_iff] at hk
   obtain ⟨k0,h1,rfl⟩:=hk
   exact ⟨k0,h1,rfl⟩
  ·cases hk
 ·simp only [wr',Bool.and_eq_true] at hb
  obtain ⟨k0,hk0⟩:=Option.isSome_iff_exists.1 hb.2
  refine ⟨uj wr' (fun _=>false) b k0,?_⟩
  rw [Hp.get_only,if_pos (hvis b hb.1),zfx,hk0];rfl
 ·exact (ht.mono (zga ν B.reg)).put (gF ν V1) (B.rho ν) o.dst v
 ·simp only [if_true]
  intro b x hx
  have hstouch:Stp.touch ⟨o,true,den (rho ν V1) v,ZM tmv (vO ops o),Hp.only (uu vis) (GO wr' (fun _=>false) G),wr',zv ν (KS wr nx nx1 V1),nx,nx1⟩ b=ym wr' nx nx1 b:=rfl
  rw [zdV,hstouch]
  rw [zF,hg b] at hx
  cases htb:wR wr nx nx1 b with
  |false=>
   have h0:ym wr' nx nx1 b=false:=by
    cases h0:ym wr' nx nx1 b with
    |false=>rfl
    |true=>rw [htouch b h0] at htb;cases htb
   rw [htb,cond_false,Option.bind_eq_some_iff] at hx
   obtain ⟨k,hk,hx⟩:=hx
   obtain ⟨y,h1,h2⟩:=zw2 (gF ν H) (zga ν B.reg) hx
   obtain ⟨z,h3,h4⟩:=hm b y (by rw [zF,hk];exact h1)
   rw [h0]
   exact ⟨z,h3,h4.trans h2⟩
  |true=>
   rw [htb,cond_true,Option.bind_eq_some_iff] at hx
   obtain ⟨k,hk,hx⟩:=hx
   have hr:rho ν (KS wr nx nx1 V1)=rho ν V1:=yy (fun c=>by rw [Yu,zgd]) ν
   obtain ⟨y,h1,h2⟩:=zw2 (gF ν V1) (B.rho ν) hx
   have hy:(zv ν (KS wr nx nx1 V1)).get b=some y:=by rw [zF,hk,hr];exact h1
   cases h0:ym wr' nx nx1 b with
   |true=>exact ⟨y,by simpa using hy,h2⟩
   |false=>
    exfalso
    have hbw:uu wr b=true:=by
     rcases zbD.1 htb with h | h
     ·exact h
     ·simp only [ym,Bool.or_eq_false_iff,Bool.and_eq_false_iff,decide_eq_false_iff_not] at h0
      omega
    have hGn:G.get b=none:=by
     simp only [ym,wr',Bool.or_eq_false_iff,hbw,Bool.true_and] at h0
     cases hG:G.get b with
     |none=>rfl
     |some z=>rw [hG] at h0;simp at h0
    obtain ⟨k0,hk0,hng,hna⟩:=zzd hc.2.2 hbw
    have hdn:zN (rho ν H) (ν b) k0=none:=by
     cases hd:zN (rho ν H) (ν b) k0 with
     |none=>rfl
     |some z=>
      obtain ⟨z0,h5,_⟩:=hm b z (by rw [zF,hk0];exact hd)
      rw [hGn] at h5;cases h5
    have hnil:∃n,reg (some k0)=some (n,0):=by
     cases k0 with
     |gone s n=>exact absurd rfl (hng s n)
     |abs=>exact absurd rfl hna
     |arr nn t l=>cases hn:jS nn l with
      |true=>exact ⟨l.length,by simp [reg,rsz,hn]⟩
      |false=>simp [zN,hn] at hdn
     |roa nn t l=>cases hn:jS nn l with
      |true=>exact ⟨l.length,by simp [reg,rsz,hn]⟩
      |false=>simp [zN,hn] at hdn
     |fro nn t l=>cases hn:jS nn l with
      |true=>exact ⟨l.length,by simp [reg,rsz,hn]⟩
      |false=>simp [zN,hn] at hdn
     |_=>simp [zN] at hdn
    obtain ⟨n0,hy0⟩:=hnil
    have h6:=r1 b (n0,0) (by rw [Yt,zi8,hk0];exact hy0)
    rw [Yu,Option.map_eq_some_iff] at hk
    obtain ⟨k1,hk1,hk2⟩:=hk
    rw [hk1] at h6
    have h7:reg (some k)=some (n0,0):=by
     rw [←h6,←hk2]
     exact zgd wr nx nx1 b (some k1)
    rw [zDC h7] at h1
    cases h1
 ·simp only [wr',Bool.and_eq_true] at hb;exact hb.1
def zw7 (t:WL):List Nat→Bool
 |[]=>false
 |x::r=>wR t.wr t.lo t.hi x||zw7 t r
def ztd (ms:List Nat) (t:WL) (j:Nat):Nat→List WL→Bool
 |_,[]=>true
 |i,s::r=>(Nat.beq i j||(zmr ms i j||!zw7 t s.vis))&&ztd ms t j (i+1) r
def zte (ms:List Nat) (all:List WL):Nat→List WL→Bool
 |_,[]=>true
 |j,t::r=>(!t.ran||(zkn t.wr t.lo t.hi||ztd ms t j 0 all))&&zte ms all (j+1) r
theorem zw8 {t:WL} {x:Nat}:∀{l:List Nat},zw7 t l=false→uu l x=true→wR t.wr t.lo t.hi x=false
 |[],_,h=>by cases h
 |y::r,hh,h=>by
  simp only [zw7,Bool.or_eq_false_iff] at hh
  have h:(bif Nat.beq y x then true else uu r x)=true:=h
  cases hb:Nat.beq y x with
  |true=>have:=Nat.eq_of_beq_eq_true hb;subst this;exact hh.1
  |false=>rw [hb] at h;exact zw8 hh.2 h
theorem zze {ms:List Nat} {t:WL} {j:Nat}:∀{l:List WL} {i m:Nat} {s:WL},ztd ms t j i l=true→l[m]?=some s→i+m=j∨zmr ms (i+m) j=true∨zw7 t s.vis=false
 |[],_,_,_,_,h=>by simp at h
 |x::r,i,0,s,hf,h=>by
  simp at h
  subst h
  simp only [ztd,Bool.and_eq_true,Bool.or_eq_true,Bool.not_eq_true'] at hf
  rcases hf.1 with h1 | h1 | h1
  ·exact .inl (Nat.eq_of_beq_eq_true h1)
  ·exact .inr (.inl h1)
  ·exact .inr (.inr h1)
 |x::r,i,m+1,s,hf,h=>by
  simp only [ztd,Bool.and_eq_true] at hf
  have:=zze (m:=m) hf.2 (by simpa using h)
  rwa [show i+1+m=i+(m+1) by omega] at this
theorem zzf {ms:List Nat} {all:List WL}:∀{l:List WL} {j m:Nat} {t:WL},zte ms all j l=true→l[m]?=some t→t.ran=false∨zkn t.wr t.lo t.hi=true∨ztd ms t (j+m) 0 all=true
 |[],_,_,_,_,h=>by simp at h
 |x::r,j,0,t,hf,h=>by
  simp at h
  subst h
  simp only [zte,Bool.and_eq_true,Bool.or_eq_true,Bool.not_eq_true'] at hf
  exact hf.1
 |x::r,j,m+1,t,hf,h=>by
  simp only [zte,Bool.and_eq_true] at hf
  have:=zzf (m:=m) hf.2 (by simpa using h)
  rwa [show j+1+m=j+(m+1) by omega] at this
theorem zDE {ms:List Nat} {ss:List Stp} {sl:List WL} (hl:sl.length=ss.length) (hfit:∀(j:Nat) s t,ss[j]?=some s→sl[j]?=some t→zDD s t) (h:zte ms sl 0 sl=true):zj9 ms ss=true:=by
 unfold zj9
 rw [List.all_eq_true]
 rintro ⟨t,j⟩ ht
 rw [List.mem_zipIdx_iff_getElem?] at ht
 dsimp only at ht ⊢
 have hj:j < ss.length:=(List.getElem?_eq_some_iff.1 ht).1
 have ht':sl[j]?=some sl[j]:=by simp [hl,hj]
 have ft:=hfit j t _ ht ht'
 have htouch:∀x,t.touch x=true→wR sl[j].wr sl[j].lo sl[j].hi x=true:=fun x hx=>by
  simp only [Stp.touch,ym,Bool.or_eq_true,Bool.and_eq_true,decide_eq_true_eq] at hx
  rw [zbD]
  rcases hx with hx | hx
  ·exact .inl (ft.wr x hx)
  ·exact .inr (by rw [←ft.lo,←ft.hi];exact hx)
 rcases zzf h ht' with h1 | h1 | h1
 ·rw [ft.ran,h1];rfl
 ·have hq:=zpj h1
  have h2:Nat.beq t.lo t.hi=true:=by
   unfold zkn at h1
   simp only [Bool.and_eq_true] at h1
   rw [ft.lo,ft.hi];exact h1.2
  have h3:(t.V.all fun x=>!t.wr x.1)=true:=by
   rw [List.all_eq_true]
   intro x _
   cases hw:t.wr x.1 with
   |false=>rfl
   |true=>
    have:=hq x.1
    have h5:wR sl[j].wr sl[j].lo sl[j].hi x.1=true:=zbD.2 (.inl (ft.wr _ hw))
    rw [this] at h5;cases h5
  rw [h2,h3];simp
 ·rw [Nat.zero_add] at h1
  simp only [Bool.or_eq_true]
  right
  rw [List.all_eq_true]
  rintro ⟨s,i⟩ hs
  rw [List.mem_zipIdx_iff_getElem?] at hs
  dsimp only at hs ⊢
  have hi:i < ss.length:=(List.getElem?_eq_some_iff.1 hs).1
  have hs':sl[i]?=some sl[i]:=by simp [hl,hi]
  have fs:=hfit i s _ hs hs'
  have:=zze h1 hs'
  rw [Nat.zero_add] at this
  rcases this with h2 | h2 | h2
  ·simp [h2]
  ·have:UW ms i j=true:=by
    unfold zmr at h2
    rw [zcW,zcW] at h2
    exact h2
   simp [this]
  ·simp only [Bool.or_eq_true]
   right
   rw [List.all_eq_true]
   intro x hx
   have h3:=zw8 h2 (fs.vis x hx)
   cases ht:t.touch x.1 with
   |false=>rfl
   |true=>rw [htouch _ ht] at h3;cases h3
theorem zpY {op:List SV→SH→Nat→Oper→KO R→Option R} {rd:Option Nat} (hop:OpS P rd op) {ops:Array Oper} {cut:Nat→List SV→SH→List WL→Option (List Nat×List Nat)} :
  ∀
   {l:List Oper} {i:Nat} {done:List WL} {tm:List SV} {H:SH} {nx:Nat} {k:List WL→List SV→SH→Nat→Option R} {r:R},zol op ops cut i done l tm H nx k=some r→
   ∃
    (sl:List WL) (tm':List SV) (H':SH) (nx':Nat),sl.length=l.length∧k (done.reverse++sl) tm' H' nx'=some r∧wN H H'∧wS H H'∧Jo (KF l) tm tm'∧nx≤nx'∧
    ∀
     ν,VN ν nx H→VN ν nx' H'∧∀(tmv:List Value) (G:Hp),Xo ν H tmv tm→Mix G (zv ν H)→
     ∃
      ss:List Stp,ss.length=l.length∧(∀(j:Nat) o s,l[j]?=some o→ss[j]?=some s→zvS P rd ops o (tmR (ss.take j) tmv) (hpR (ss.take j) G) (nxR (ss.take j) nx) s)∧nxR ss nx=nx'∧
      Xo ν H' (tmR ss tmv) tm'∧Mix (hpR ss G) (zv ν H')∧∀(j:Nat) s t,ss[j]?=some s→sl[j]?=some t→zDD s t
 |[],i,done,tm,H,nx,k,r,h=>by
  simp only [zol] at h
  refine ⟨[],tm,H,nx,rfl,by simpa using h,wN.refl H,wS.refl H,Jo.refl _ _,Nat.le_refl _,fun ν hv=>⟨hv,fun tmv G ht hm=>⟨[],rfl,fun j o s hj=>by simp at hj,rfl,ht,hm,fun j s t hj=>by simp at hj⟩⟩⟩
 |o::l,i,done,tm,H,nx,k,r,h=>by
  have hin1:∀i∈o.dst.toList,i∈KF (o::l):=fun i hi=>by
   show i∈(match o.dst with | some d=>d::KF l | none=>KF l)
   cases hd:o.dst with
   |none=>rw [hd] at hi;cases hi
   |some d=>rw [hd] at hi;simp at hi;subst hi;simp
  have hin2:∀i∈KF l,i∈KF (o::l):=fun i hi=>by
   show i∈(match o.dst with | some d=>d::KF l | none=>KF l)
   cases o.dst with
   |none=>exact hi
   |some d=>exact List.mem_cons_of_mem _ hi
  simp only [zol] at h
  rcases zw0 h with ⟨hw,h1⟩ | ⟨hw,h1⟩
  ·split at h1
   case h_2=>cases h1
   rename_i wr vis hcut
   have h6:=zw h1
   clear h1
   obtain ⟨hsub,h1⟩:=h6
   have hvis:∀b,uu wr b=true→uu vis b=true:=fun b hb=>zw5 hsub hb
   obtain ⟨v,V1,nx1,hs,h2⟩:=hop h1
   dsimp only at h2
   split at h2
   case h_2=>cases h2
   rename_i H2 hb
   obtain ⟨sl,tm',H',nx',e1,e2,e3,e4,e5,e6,e7⟩:=zpY hop h2
   have B:=zuI hs.1 hs.2.1 hvis hb
   refine ⟨⟨true,vis,wr,nx,nx1⟩::sl,tm',H',nx',by simp [e1],by simpa using e2,B.reg.trans e3,B.keep.trans e4,(zhM tm o.dst v).trans e5 hin1 hin2,Nat.le_trans hs.2.2.1 e6,fun ν hv=>?_⟩
   have hvn:VN ν nx1 H2:=B.vn ν nx nx1 hv (hs.2.2.2 ν (zza hv)).1 hs.2.2.1
   obtain ⟨f1,f2⟩:=e7 ν hvn
   refine ⟨f1,fun tmv G ht hm=>?_⟩
   obtain ⟨s,g1,g2,g3,_,g5,g6,g7⟩:=zFq (op:=op) hs hvis hb hv ht hm (hw tmv ht.any)
   obtain ⟨ss,q1,q2,q3,q4,q5,q6⟩:=f2 _ _ g5 g6
   have hhd:ZS tmv s.o.dst s.v=ZS tmv o.dst s.v:=by rw [g2]
   refine ⟨s::ss,by simp [q1],fun j o' s' ho' hs'=>?_,?_,?_,?_,fun j s' t' hs' ht'=>?_⟩
   ·cases j with
    |zero=>simp at ho' hs';subst ho';subst hs';exact g1
    |succ j=>
     simp only [List.getElem?_cons_succ] at ho' hs'
     have:=q2 j o' s' ho' hs'
     simp only [List.take_succ_cons,tmR,hpR,nxR,g3,hhd]
     exact this
   ·simp only [nxR,g3];exact q3
   ·simp only [tmR,hhd];exact q4
   ·simp only [hpR];exact q5
   ·cases j with
    |zero=>simp at hs' ht';subst hs';subst ht';exact g7
    |succ j=>simp at hs' ht';exact q6 j s' t' hs' ht'
  ·obtain ⟨sl,tm',H',nx',e1,e2,e3,e4,e5,e6,e7⟩:=zpY hop h1
   refine ⟨⟨false,[],[],nx,nx⟩::sl,tm',H',nx',by simp [e1],by simpa using e2,e3,e4,(zhM tm o.dst _).trans e5 hin1 hin2,e6,fun ν hv=>?_⟩
   obtain ⟨f1,f2⟩:=e7 ν hv
   refine ⟨f1,fun tmv G ht hm=>?_⟩
   have hu:undef=den (rho ν H) (.tup []):=by simp [den,zq,undef]
   obtain ⟨ss,q1,q2,q3,q4,q5,q6⟩:=f2 (ZS tmv o.dst undef) G (by rw [hu];exact ht.put (gF ν H) (RLe.refl _) o.dst _) hm
   refine ⟨⟨o,false,undef,ZM tmv (vO ops o),[],fun _=>false,[],nx,nx⟩::ss,by simp [q1],fun j o' s' ho' hs'=>?_,?_,?_,?_,fun j s' t' hs' ht'=>?_⟩
   ·cases j with
    |zero=>
     simp at ho' hs'
     subst ho';subst hs'
     refine ⟨rfl,rfl,Nat.le_refl _,rfl,?_,(fun h=>by cases h),(fun b k hb=>by simp [Hp.get_nil] at hb),fun _=>⟨rfl,fun b=>by simp [Stp.touch,ym]⟩,fun b hb=>by cases hb⟩
     show uH ops (ZM tmv (vO ops o)) o=some false
     rw [←zml]
     exact hw tmv ht.any
    |succ j=>
     simp only [List.getElem?_cons_succ] at ho' hs'
     exact q2 j o' s' ho' hs'
   ·exact q3
   ·exact q4
   ·simp only [hpR,Bool.false_eq_true,if_false];exact q5
   ·cases j with
    |zero=>
     simp at hs' ht'
     subst hs';subst ht'
     exact ⟨rfl,rfl,rfl,(fun x hx=>by cases hx),(fun b hb=>by cases hb)⟩
    |succ j=>simp at hs' ht';exact q6 j s' t' hs' ht'
theorem zii {r:Option Nat} {c:Code} {tm:List Value} {ds:List Nat} {H:Hp} {nx:Nat} {R R2:Res} (h:jR P r c tm ds H nx R) (he:R2.e=R.e) (hd:R2.ds=R.ds) (hn:R2.nx=R.nx) (hH:∀φ K w,zA φ R.H K w→zA φ R2.H K w) (ht:∀φ ts,jd φ R.tm ts→jd φ R2.tm ts):jR P r c tm ds H nx R2:=by
 obtain ⟨e,t,d,H',n⟩:=R2
 dsimp only at he hd hn hH ht
 subst he;subst hd;subst hn
 refine ⟨h.1,fun φ w K a rc g hf htm hds hr=>wpIn_mono (h.2 φ w K a rc g hf htm hds hr) ?_⟩
 rintro e a1 w1 ⟨rfl,φ1,k1,k2,k3,k4,k5⟩
 exact ⟨rfl,φ1,k1,hH _ _ _ k2,ht _ _ k3,k4,k5⟩
def zDF (tm:List SV) (x:Operand):List Nat:=match x with
 |.tmp t=>match gl tm t with
  |some (.ptr b _)=>[b]
  |some (.elp b _ _ _)=>[b]
  |some (.own b)=>[b]
  |_=>[]
 |_=>[]
def zij (tm:List SV) (x:Operand):List Nat:=match x with
 |.tmp t=>match gl tm t with
  |some (.own b)=>[b]
  |_=>[]
 |_=>[]
def mpS (tm:List SV) (x:Operand):List Nat:=match x with
 |.tmp t=>match gl tm t with
  |some (.mp b)=>[b]
  |_=>[]
 |_=>[]
def zGj (tm:List SV) (o:Oper):Option (List Nat):=match o.op with
 |.load _ a=>some (zDF tm a)
 |.store _ a x=>some (zDF tm a++zij tm x)
 |.indexAddr _ x _=>some (zij tm x)
 |.slice _ x _ _ _=>some (zij tm x)
 |.buildSlice _ _ ps=>some (ps.toList.flatMap fun p=>zij tm p.2)
 |.call {callee:=.builtin _,args:=args,argTypes:=_}=>some (args.toList.flatMap (zij tm))
 |.lookup _ m _ _=>some (mpS tm m)
 |.mapUpdate _ m _ _=>some (mpS tm m)
 |.insert _ m _ _=>some (mpS tm m)
 |.call _=>none
 |_=>some []
def zw9 (tm:List SV) (o:Oper):List Nat:=match o.op with
 |.store _ a x=>zDF tm a++zij tm x
 |.slice _ x _ _ _=>zij tm x
 |.buildSlice _ _ ps=>ps.toList.flatMap fun p=>zij tm p.2
 |.lookup _ m _ _=>mpS tm m
 |.mapUpdate _ m _ _=>mpS tm m
 |.insert _ m _ _=>mpS tm m
 |.call {callee:=.builtin .append,args:=args,argTypes:=_}=>match args.toList with
  |s::_=>zij tm s
  |_=>[]
 |.call {callee:=.builtin .copy,args:=args,argTypes:=_}=>match args.toList with
  |s::_=>zij tm s
  |_=>[]
 |_=>[]
def zDG (H:SH) (b:Nat):Bool:=match zk H b with
 |some (.vars _)=>true
 |some (.arr _ _ _)=>true
 |some (.loop _)=>true
 |some .defd=>true
 |some (.mpb _ _ _ _)=>true
 |_=>false
def qV:SH→List Nat
 |[]=>[]
 |(b,_)::r=>b::qV r
def zdZ (H:SH):List Nat→List Nat
 |[]=>[]
 |b::r=>bif zDG H b then b::zdZ H r else zdZ H r
def zAn:List SV→List Nat
 |[]=>[]
 |.own b::r=>b::zAn r
 |_::r=>zAn r
def zxa (tm:List SV):List Operand→List Nat
 |[]=>[]
 |.tmp t::r=>(match gl tm t with
  |some (.own b)=>[b]
  |some (.agg cs)=>zAn cs
  |_=>[])++zxa tm r
 |_::r=>zxa tm r
def zDH (o:Oper):List Operand:=match o.op with
 |.call {callee:=.value _,args:=args,argTypes:=_}=>args.toList
 |_=>[]
def zHe (ops:Array Oper) (ms:List Nat) (est:List (List Nat)) (i:Nat) (tm:List SV) (H:SH) (done:List WL):Option (List Nat×List Nat):=
 match gl ops.toList i with
 |none=>none
 |some o=>match zGj tm o with
  |some bs=>some (zdZ H (zw9 tm o),bs)
  |none=>match (List.range ops.size).filter fun j=>j != i&&!zmr ms i j with
   |[]=>some (zdZ H (qV H),qV H)
   |others=>match others.flatMap (fun j=>est.getD j []++(match ops[j]? with | some p=>zw9 tm p | none=>[])),others.filterMap fun j=>if j < i then (match (done.reverse)[j]? with | some s=>if s.lo < s.hi then some (s.lo,s.hi) else none | none=>none) else none with
    |mask,rs=>some (zdZ H ((zxa tm (zDH o)).filter fun b=>!(mask.contains b||zs2 rs b)),(qV H).filter fun b=>!(mask.contains b||zs2 rs b))
def zBL (P:Program) (ops:Array Oper) (H:SH):List Oper→List SV→List (List Nat)
 |[],_=>[]
 |o::l,tm=>zw9 tm o::zBL P ops H l (zbC tm o.dst (match zz6 P tm H 0 o with
  |some (v,_,_)=>v
  |none=>.junk))
def zmN (H:SH) (tm:List SV):List Operand→SH
 |[]=>H
 |x::r=>match x with
  |.tmp t=>match gl tm t with
   |some (.own b)=>match zk H b with
    |some (.arr nn ty l)=>zmN (jV H b (.fro nn ty l)) tm r
    |_=>zmN H tm r
   |_=>zmN H tm r
  |_=>zmN H tm r
def zBM (o:Oper):List Operand:=match o.op with
 |.call {callee:=.value _,args:=args,argTypes:=_}=>args.toList
 |.slice _ x _ _ _=>[x]
 |_=>[]
def mvS (tm:List SV) (o:Oper):List SV:=match o.op with
 |.move (.tmp t)=>match gl tm t with
  |some (.own b)=>zbC tm o.dst (.own b)
  |_=>tm
 |_=>tm
def plT:Ty→Bool
 |.list _=>false
 |.pair a b=>plT a&&plT b
 |_=>true
def zGk (P:Program) (o:Oper):Bool:=match o.op with
 |.call {callee:=.value (.func f),args:=_,argTypes:=_}=>match zv7 P f with
  |some fn=>!(fn.resultTypes.toList.all fun t=>match zmC P 30 t with
   |some ty=>plT ty
   |none=>true)
  |none=>false
 |_=>false
def zxb (P:Program) (H:SH) (tm0 tm:List SV):List Oper→SH
 |[]=>H
 |o::l=>zxb P (zmN (zmN H tm0 (zBM o)) (bif zGk P o then tm else tm0) (zBM o)) tm0 (mvS tm o) l
theorem UX (tm:List SV):∀(xs:List Operand) (H:SH),vp H (zmN H tm xs)
 |[],H=>vp.refl H
 |x::r,H=>by
  unfold zmN
  split
  ·split
   ·split
    ·rename_i hb;exact (zbA hb).trans (UX tm r _)
    ·exact UX tm r _
   ·exact UX tm r _
  ·exact UX tm r _
theorem zrq (tm0:List SV):∀(l:List Oper) (tm:List SV) (H:SH),vp H (zxb P H tm0 tm l)
 |[],tm,H=>vp.refl H
 |o::l,tm,H=>((UX tm0 _ H).trans (UX _ _ _)).trans (zrq tm0 l _ _)
def zAo (P:Program) (op:List SV→SH→Nat→Oper→KO R→Option R) (ops:Array Oper) (tm:List SV) (H:SH) (nx:Nat) (k:List SV→SH→Nat→Option R):Option R:=
 match zmo ops.toList 0 [] with
 |ms=>match zxb P H tm tm ops.toList with
  |H1=>match (bif ops.toList.any zwo then zBL P ops H1 ops.toList tm else []) with
   |est=>zol op ops (zHe ops ms est) 0 [] ops.toList tm H1 nx fun sl tm' H' nx'=>bif zs5 ms ops&&(zte ms sl 0 sl&&P.follows .mixedOrders) then k tm' H' nx' else none
theorem zxc {r:Option Nat} {c:Code} {tm:List Value} {ds:List Nat} {H H1:SH} {nx:Nat} {R:Res} {ν:Nat→Bool} (hg:vp H H1) (h:jR P r c tm ds (zv ν H1) nx R):jR P r c tm ds (zv ν H) nx R:=
 ⟨h.1,fun φ w K a rc g hf ht hd hr=>by
  obtain ⟨φ1,e1,g1⟩:=hg.2 ν φ K w g
  have hle:=(e1 0).1
  refine wpIn_mono (h.2 φ1 w K a rc g1 (zhI (mid:=0) hf e1) (ht.mono hle) (hd.mono hle) (hr.mono hle)) ?_
  rintro e a1 w1 ⟨rfl,φ2,k1,k2,k3,k4,k5⟩
  exact ⟨rfl,φ2,(e1 nx).trans k1 (Nat.le_refl _) h.1,k2,k3,k4,k5⟩⟩
theorem zDI {op:List SV→SH→Nat→Oper→KO R→Option R} {rd:Option Nat} (hop:OpS P rd op) {id:Nat} {ops:Array Oper} {tm:List SV} {ds:List Nat} {H:SH} {nx:Nat} {k:List SV→SH→Nat→Option R} {r:R} (h:zAo P op ops tm H nx k=some r) :
  ∃tm' H' nx',Wz P rd (.region id ops true) tm ds H nx ⟨.normal,tm',ds,H',nx'⟩∧k tm' H' nx'=some r:=by
 unfold zAo at h
 dsimp only at h
 obtain ⟨sl,tm',H',nx',e1,e2,e3,e4,e5,e6,e7⟩:=zpY hop h
 have h6:=zw e2
 obtain ⟨hc,h2⟩:=h6
 simp only [Bool.and_eq_true,zs5] at hc
 obtain ⟨⟨c1,c2⟩,c3,c4⟩:=hc
 have c1:=zmq c1
 have c2:=zBn c2
 have hg:=zrq (P:=P) tm ops.toList tm H
 refine ⟨tm',H',nx',⟨hg.1.regLe.trans e3,hg.1.lkeep.trans e4,e5,e6,fun ν hv=>?_⟩,h2⟩
 obtain ⟨f1,f2⟩:=e7 ν (hg.1.vn hv)
 refine ⟨f1,zxc hg ?_⟩
 obtain ⟨ss,q1,q2,q3,q4,q5,q6⟩:=f2 _ _ (Xo.refl ν _ tm) (Mix.refl _)
 have hvf:=zDE (ms:=zmo ops.toList 0 []) (by rw [e1,q1]) q6 (by simpa using c3)
 obtain ⟨D,hs,ht⟩:=zBm (ms:=zmo ops.toList 0 []) ⟨q1,q2⟩ c1 c2 hvf
 have:=zyI (id:=id) (ds:=ds) c4 D (HF:=hpR ss (zv ν (zxb P H tm tm ops.toList))) (fun b k hb=>by rw [hs];exact hb)
 rw [ht,q3] at this
 rw [show rho ν H=rho ν (zxb P H tm tm ops.toList) from (hg.1.rho ν).symm]
 exact zii this rfl rfl rfl (fun φ K w g=>q5.good g) (fun φ ts ht=>q4.rel ht)
def zhN (P:Program) (f:FuncId) (args:List SV) (H:SH) (nx:Nat) (v:SV) (H':SH) (nx':Nat):Prop:=
 (∃fn,P.funcs[f]?=some fn∧fn.body.isSome=true)∧wN H H'∧wS H H'∧nx≤nx'∧∀ν,VN ν nx H→VN ν nx' H'∧gD P f (zq (rho ν H) args) (zv ν H) nx (den (rho ν H') v) (zv ν H') nx'
def zrr (P:Program) (rd:Option Nat) (c:Code) (tm:List SV) (ds:List Nat) (H:SH) (nx:Nat) (R:KE):Prop:=
 wN H R.H∧wS H R.H∧Jo (asg c) tm R.tm∧nx≤R.nx∧∀ν,VN ν nx H→VN ν R.nx R.H∧ziZ P rd c (zq (rho ν H) tm) ds (zv ν H) nx (zcZ ν R)
def zDJ (P:Program) (c x:Code) (tm:List SV) (ds:List Nat) (H:SH) (nx:Nat) (R:KE):Prop:=
 wN H R.H∧wS H R.H∧Jo (asg c) tm R.tm∧nx≤R.nx∧∀ν,VN ν nx H→VN ν R.nx R.H∧zoa P c x (zq (rho ν H) tm) ds (zv ν H) nx (zcZ ν R)
structure EvS (R:Type) where
 call:FuncId→List SV→SH→Nat→KO R→Option R
 code:Option Nat→Code→List SV→List Nat→SH→Nat→KC R→Option R
 loop:Option Nat→Code→List SV→List Nat→SH→Nat→KC R→Option R
 scp:Code→Nat→Code→List SV→List Nat→SH→Nat→KC R→Option R
 join:Option Nat→Code→List SV→List Nat→SH→Nat→KC R→Option R
 code0:Option Nat→Code→List SV→List Nat→SH→Nat→KC R→Option R
 jq:Code→Nat→Bool
structure EvS.Ok (P:Program) (E:EvS R):Prop where
 call:∀{f args H nx k r},E.call f args H nx k=some r→∃v H' nx',zhN P f args H nx v H' nx'∧k v H' nx'=some r
 code:∀{rd c tm ds H nx k r},E.code rd c tm ds H nx k=some r→∃S,Wz P rd c tm ds H nx S∧k S=some r
 loop:∀{rd c tm ds H nx k r},E.loop rd c tm ds H nx k=some r→∃S,zrr P rd c tm ds H nx S∧k S=some r
 scp:∀{c l x tm ds H nx k r},findLabel c l=some x→(∀i∈asg x,i∈asg c)→E.scp c l x tm ds H nx k=some r→∃S,zDJ P c x tm ds H nx S∧k S=some r
 join:∀{rd c tm ds H nx k r},E.join rd c tm ds H nx k=some r→∃S,Wz P rd c tm ds H nx S∧k S=some r
 code0:∀{rd c tm ds H nx k r},E.code0 rd c tm ds H nx k=some r→∃S,Wz P rd c tm ds H nx S∧k S=some r
theorem zAp {r:Option Nat} {c:Code} {tm tm0:List Value} {ds:List Nat} {H H0:Hp} {nx:Nat} {R:Res} (h:jR P r c tm0 ds H0 nx R) (hH:∀φ K w,zA φ H K w→zA φ H0 K w) (hT:∀φ ts,jd φ tm ts→jd φ tm0 ts):jR P r c tm ds H nx R:=
 ⟨h.1,fun φ w K a rc g hf ht hd hr=>h.2 φ w K a rc (hH _ _ _ g) hf (hT _ _ ht) hd hr⟩
theorem zc1 {H:SH} {l:Nat} {L L':SL} (hl:zk H l=some (.loop L)) (c:Nat):reg (zk (jV H l (.loop L')) c)=reg (zk H c):=by
 rw [qH]
 by_cases h:c=l
 ·subst h;simp [hl,reg]
 ·rw [if_neg h]
theorem zzg {H:SH} {l:Nat} {L L':SL} (hl:zk H l=some (.loop L)) (c:Nat) (h:ji (zk (jV H l (.loop L')) c)=true):ji (zk H c)=true:=by
 rw [qH] at h
 by_cases hc:c=l
 ·subst hc;simp [hl,ji] at h
 ·rwa [if_neg hc] at h
theorem zxd {ν:Nat→Bool} {H:SH} {l:Nat} {L L':SL} (hl:zk H l=some (.loop L)) (c:Nat):(zv ν (jV H l (.loop L'))).get c=((zv ν H).set l (.loop (yY (rho ν H) L'))).get c:=by
 rw [zF,qH,yy (zc1 hl),Hp.get_set,zF]
 by_cases hc:c=l
 ·subst hc;simp [hl,zN]
 ·rw [if_neg hc,if_neg hc,zF]
theorem zrs {H:SH} {l:Nat} {L:SL} (hl:zk H l=some (.loop L)) (s:LoopState) (p:Option Code):wS H (jV H l (.loop {L with st:=s,pend:=p})):=fun m M hm=>by
 rw [qH]
 by_cases h:m=l
 ·subst h
  rw [hl] at hm;cases hm
  exact ⟨s,p,by simp [hl]⟩
 ·rw [if_neg h];exact ⟨M.st,M.pend,hm⟩
def ztf:List Tmp→List SV→List SV→List SV
 |t::ts,v::vs,tm=>ztf ts vs (lsS tm t v)
 |_,_,tm=>tm
theorem zxe (ρ:Nat→Value):∀(ps:List Tmp) (vs tm:List SV),zq ρ (ztf ps vs tm)=Zv ps (zq ρ vs) (zq ρ tm)
 |[],vs,tm=>by simp [ztf,Zv]
 |p::ps,[],tm=>by simp [ztf,Zv,zq]
 |p::ps,v::vs,tm=>by
  simp only [ztf,zq,Zv,ZR]
  rw [zxe ρ ps vs]
  congr 1
  simp [qz,List.map_set]
def zxf (E:EvS R) (l:Nat) (vs:List SV) (H:SH) (nx:Nat) (k:KO R):Option R:=match zk H l with
 |some (.loop L)=>bif zpS vs L.params.size then E.code (some l) L.assign (ztf L.params.toList vs L.tm) [] H nx fun R1=>match R1.e,R1.ds,zk R1.H l with
   |.normal,[],some (.loop L1)=>match L1.st with
    |.ready=>E.code (some l) L.body R1.tm [] (jV R1.H l (.loop {L1 with st:=.busy})) R1.nx fun R2=>match zk R2.H l,zj5 R2.e with
     |some (.loop L2),some (b,s,p)=>k (.bool b) (jV R2.H l (.loop {L2 with st:=s,pend:=p})) R2.nx
     |_,_=>none
    |_=>none
   |_,_,_=>none
  else none
 |_=>none
theorem zBN {E:EvS R} (hE:E.Ok P) {rd:Option Nat} {o:Oper} {tm:List SV} {H:SH} {nx:Nat} {k:KO R} {r:R} {cf:Operand} {args:Array Operand} {ats:Array TypeId} (ho:o.op=.call {callee:=.value cf,args:=args,argTypes:=ats})
  {l:Nat} {vs:List SV} (hcf:jW tm H cf=some (.yld l)) (hvs:zfC tm H args.toList=some vs) (h:zxf E l vs H nx k=some r):gu P rd o tm H nx k r:=by
 unfold zxf at h
 split at h
 case h_2=>cases h
 rename_i L hl
 have h6:=zw h
 clear h
 obtain ⟨hn,h⟩:=h6
 have hn:=zfX hn
 obtain ⟨R1,⟨a1,a2,a3,a4,a5⟩,h1⟩:=hE.code h
 split at h1
 case h_2=>cases h1
 rename_i he1 hd1 hl1
 rename_i L1
 split at h1
 case h_2=>cases h1
 rename_i hst
 obtain ⟨R2,⟨b1,b2,b3,b4,b5⟩,h2⟩:=hE.code h1
 split at h2
 case h_2=>cases h2
 rename_i L2 b s p hl2 he2
 have hpl:L1.pend=L1.pend:=rfl
 refine ur (v:=.bool b) ⟨?_,?_,Nat.le_trans a4 b4,fun ν hv=>?_⟩ h2
 ·exact fun c x hx=>by rw [zc1 hl2];exact b1 c x (by rw [zc1 hl1];exact a1 c x hx)
 ·exact ((a2.trans (zrs hl1 .busy L1.pend)).trans b2).trans (zrs hl2 s p)
 ·obtain ⟨v1,o1⟩:=a5 ν hv
  have v1':VN ν R1.nx (jV R1.H l (.loop {L1 with st:=.busy})):=gH (zc1 hl1) (zzg hl1) v1
  obtain ⟨v2,o2⟩:=b5 ν v1'
  refine ⟨gH (zc1 hl2) (zzg hl2) v2,?_⟩
  have hcf':=zP hcf ν
  simp only [den] at hcf'
  have hlv:(zv ν H).get l=some (.loop (yY (rho ν H) L)):=by rw [zF,hl];rfl
  have key:=zzS (P:=P) (r:=rd) (o:=o) ho (R1:=zcZ ν R1) (R2:=zcZ ν R2) (L1:=yY (rho ν R1.H) L1) (L2:=yY (rho ν R2.H) L2) (b:=b) (s:=s) (p:=p) hcf' (za3 ν hvs) hlv (by rw [wT];exact hn)
   (by have:=o1;rw [zxe] at this;simpa [yY] using this) he1 hd1 (by show (zv ν R1.H).get l=_;rw [zF,hl1];rfl) hst
   (zAp o2 (fun φ K w g=>g.sub fun c x hx=>by rw [zxd hl1] at hx;exact hx) (fun φ ts ht=>by rw [yy (zc1 hl1)];exact ht))
   (by show (zv ν R2.H).get l=_;rw [zF,hl2];rfl) he2
  refine Zw key (fun φ v' hv=>by simpa only [den] using hv) (fun φ K w g=>g.sub fun c x hx=>?_)
  rw [zxd hl2] at hx
  exact hx
def opE (P:Program) (E:EvS R) (tm:List SV) (H:SH) (nx:Nat) (o:Oper) (k:KO R):Option R:=match o.op with
 |.call {callee:=.value cf,args:=args,argTypes:=_}=>match jW tm H cf,zfC tm H args.toList with
  |some (.fn f fs cs),some vs=>E.call f (fs++(vs++cs)) H nx k
  |some (.yld l),some vs=>zxf E l vs H nx k
  |_,_=>none
 |_=>zDx P tm H nx o k
theorem zGl {E:EvS R} (hE:E.Ok P) (hs:vS P) {rd:Option Nat}:OpS P rd (opE P E):=by
 intro tm H nx o k r h
 unfold opE at h
 split at h
 ·rename_i cf args ats ho
  split at h
  ·rename_i f fs cs vs hcf hvs
   obtain ⟨v,H',nx',⟨⟨fn,hfn,hb⟩,a1,a2,a3,a4⟩,h2⟩:=hE.call h
   refine ur ⟨a1,a2,a3,fun ν hv=>?_⟩ h2
   obtain ⟨v1,o1⟩:=a4 ν hv
   refine ⟨v1,zBg ho hs hfn hb (f:=f) (fs:=(zq (rho ν H) fs).toArray) (cs:=(zq (rho ν H) cs).toArray) ?_ (za3 ν hvs) ?_⟩
   ·have:=zP hcf ν;simpa only [den] using this
   ·have:zq (rho ν H) (fs++(vs++cs))=zq (rho ν H) fs++zq (rho ν H) vs++zq (rho ν H) cs:=by simp [qz]
    rw [this] at o1
    exact o1
  ·rename_i l vs hcf hvs
   exact zBN hE ho hcf hvs h
  ·cases h
 ·exact zFn h
def opX (P:Program) (E:EvS R) (tm:List SV) (H:SH) (nx:Nat) (o:Oper) (k:KO R):Option R:=opE P E tm H nx o k
theorem zBO {E:EvS R} (hE:E.Ok P) (hs:vS P) {rd:Option Nat}:OpS P rd (opX P E):=by
 intro tm H nx o k r h
 obtain ⟨v,H',nx',h1,h2⟩:=zGl hE hs h
 exact ⟨v,H',nx',h1,h2⟩
def zrt:LoopState→Option Code→Option Exit
 |.busy,_=>none
 |_,none=>some .normal
 |_,some .ret=>some .ret
 |_,some (.exit i)=>some (.exit i)
 |_,some (.goto i)=>some (.goto i)
 |_,_=>none
theorem zpl {L:Loop} {tm:List Value} {ds:List Nat} {H:Hp} {nx:Nat} {e:Exit} (h:zrt L.state L.pending=some e):Qz L tm ds H nx=some ⟨e,tm,ds,H,nx⟩:=by
 unfold zrt at h
 unfold Qz
 split at h<;>first | (cases h;done) | skip
 all_goals (cases h;rename_i h1 h2;first
  |(rename_i h3;rw [h2];cases hs:L.state<;>first | rfl | (exact absurd hs h1) | (simp_all))
  |(cases hs:L.state<;>simp_all))
def zxg (E:EvS R) (rd:Option Nat) (g:Operand) (ps:Array Tmp) (assign body:Code) (tm:List SV) (ds:List Nat) (H:SH) (nx:Nat) (k:KC R):Option R:=match jW tm H g with
 |some (.fn f fs cs)=>match rd with
  |none=>match JW H nx .defd with
   |some H1=>match JW H1 (nx+1) (.loop ⟨tm,ps,assign,body,.ready,none,nx⟩) with
    |some H2=>E.call f (fs++(.yld (nx+1)::cs)) H2 (nx+2) fun _ H3 nx3=>match zk H3 (nx+1) with
     |some (.loop L)=>match zrt L.st L.pend with
      |some e=>k ⟨e,tm,nx::ds,jV H3 (nx+1) .abs,nx3⟩
      |none=>none
     |_=>none
    |none=>none
   |none=>none
  |some l0=>match zk H l0 with
   |some (.loop L0)=>match JW H nx (.loop ⟨tm,ps,assign,body,.ready,none,L0.dfr⟩) with
    |some H2=>E.call f (fs++(.yld nx::cs)) H2 (nx+1) fun _ H3 nx3=>match zk H3 nx with
     |some (.loop L)=>match zrt L.st L.pend with
      |some e=>k ⟨e,tm,ds,jV H3 nx .abs,nx3⟩
      |none=>none
     |_=>none
    |none=>none
   |_=>none
 |_=>none
theorem zc2 {H:SH} {l:Nat} {L:SL} (hl:zk H l=some (.loop L)) (c:Nat):reg (zk (jV H l .abs) c)=reg (zk H c):=by
 rw [qH]
 by_cases h:c=l
 ·subst h;simp [hl,reg]
 ·rw [if_neg h]
theorem zBP {H:SH} {l:Nat} {L:SL} (hl:zk H l=some (.loop L)) (c:Nat) (h:ji (zk (jV H l .abs) c)=true):ji (zk H c)=true:=by
 rw [qH] at h
 by_cases hc:c=l
 ·subst hc;simp [hl,ji] at h
 ·rwa [if_neg hc] at h
theorem zzh {ν:Nat→Bool} {H:SH} {l:Nat} {L:SL} (hl:zk H l=some (.loop L)) (c:Nat) (x:Blk) (h:(zv ν (jV H l .abs)).get c=some x):((zv ν H).del l).get c=some x:=by
 rw [zF,qH,yy (zc2 hl)] at h
 rw [Hp.get_del]
 by_cases hc:c=l
 ·subst hc;simp [hl,zN] at h
 ·rw [if_neg hc] at h ⊢
  rw [zF];exact h
theorem zom {H:SH} {nx:Nat} {k:SB} (h:zk H nx=none) (hk:reg (some k)=none) (ν:Nat→Bool):rho ν ((nx,k)::H)=rho ν H:=yy (fun c=>by
 rw [zI]
 by_cases hc:nx=c
 ·subst hc;rw [if_pos rfl,hk,h];rfl
 ·rw [if_neg hc]) ν
theorem ztg {H:SH} {nx:Nat} {k:SB} (h:zk H nx=none) (hk:reg (some k)=none) {ν:Nat→Bool} {x:Blk} (hx:zN (rho ν H) (ν nx) k=some x):zv ν ((nx,k)::H)=(nx,x)::zv ν H:=by
 unfold zv
 rw [zom h hk]
 simp only [ku,hx]
theorem zBQ {E:EvS R} (hE:E.Ok P) (hs:vS P) {rd:Option Nat} {g:Operand} {ps:Array Tmp} {assign body:Code} {tm:List SV} {ds:List Nat} {H:SH} {nx:Nat} {k:KC R} {r:R} (h:zxg E rd g ps assign body tm ds H nx k=some r) :
  ∃S,Wz P rd (.rangeFunc g ps assign body) tm ds H nx S∧k S=some r:=by
 unfold zxg at h
 split at h
 case h_2=>cases h
 rename_i f fs cs hg
 split at h
 ·split at h
  case h_2=>cases h
  rename_i H1 hn1
  split at h
  case h_2=>cases h
  rename_i H2 hn2
  obtain ⟨q1,rfl⟩:=uq hn1
  obtain ⟨q2,rfl⟩:=uq hn2
  obtain ⟨v,H3,nx3,⟨⟨fn,hfn,hb⟩,a1,a2,a3,a4⟩,h2⟩:=hE.call h
  split at h2
  case h_2=>cases h2
  rename_i L hl
  split at h2
  case h_2=>cases h2
  rename_i e he
  have hq2:zk H (nx+1)=none:=by
   rw [zI,if_neg (by omega)] at q2;exact q2
  refine ⟨_,⟨?_,?_,Jo.refl _ _,?_,fun ν hv=>?_⟩,h2⟩
  ·exact fun c x hx=>by
    rw [zc2 hl]
    exact a1 c x (uZ q2 c x (uZ q1 c x hx))
  ·intro m M hm
   have hne:m≠nx+1:=fun e=>by subst e;rw [hq2] at hm;cases hm
   obtain ⟨s,p,h3⟩:=((kR q1).trans (kR q2)).trans a2 m M hm
   exact ⟨s,p,by rw [qH,if_neg hne];exact h3⟩
  ·exact Nat.le_trans (by omega) a3
  ·have v2:VN ν (nx+2) ((nx+1,.loop ⟨tm,ps,assign,body,.ready,none,nx⟩)::(nx,.defd)::H):=Ys (Ys hv)
   obtain ⟨v3,o3⟩:=a4 ν v2
   refine ⟨gH (zc2 hl) (zBP hl) v3,?_⟩
   have hρ1:rho ν ((nx,SB.defd)::H)=rho ν H:=zom q1 rfl ν
   have hρ2:rho ν ((nx+1,SB.loop ⟨tm,ps,assign,body,.ready,none,nx⟩)::(nx,.defd)::H)=rho ν H:=(zom q2 rfl ν).trans hρ1
   have hd:zv ν ((nx+1,SB.loop ⟨tm,ps,assign,body,.ready,none,nx⟩)::(nx,.defd)::H)=(nx+1,.loop (Kt (zq (rho ν H) tm) ps assign body nx))::(nx,.defd)::zv ν H:=by
    rw [ztg q2 rfl (x:=.loop (yY (rho ν H) ⟨tm,ps,assign,body,.ready,none,nx⟩)) (by simp only [zN,hρ1]),ztg q1 rfl (x:=.defd) rfl]
    rfl
   rw [hρ2,hd] at o3
   have hg':=zP hg ν
   simp only [den] at hg'
   have hargs:zq (rho ν H) (fs++(.yld (nx+1)::cs))=zq (rho ν H) fs++[.func (.yield (nx+1)) #[] #[]]++zq (rho ν H) cs:=by simp [qz,den]
   rw [hargs] at o3
   have key:=zpF (P:=P) (g:=g) (ps:=ps) (assign:=assign) (body:=body) (tm:=zq (rho ν H) tm) (ds:=ds) (nx:=nx) hs hfn hb hg' (by simpa using o3) (by rw [zF,hl];rfl) (zpl (L:=yY (rho ν H3) L) he)
   refine zii key rfl rfl rfl (fun φ K w g=>g.sub fun c x hx=>zzh hl c x hx) (fun φ ts ht=>?_)
   refine zpL ν (fun c x hx=>?_) ht
   rw [zc2 hl]
   exact a1 c x (uZ q2 c x (uZ q1 c x hx))
 ·rename_i l0
  split at h
  case h_2=>cases h
  rename_i L0 hl0
  split at h
  case h_2=>cases h
  rename_i H2 hn2
  obtain ⟨q2,rfl⟩:=uq hn2
  obtain ⟨v,H3,nx3,⟨⟨fn,hfn,hb⟩,a1,a2,a3,a4⟩,h2⟩:=hE.call h
  split at h2
  case h_2=>cases h2
  rename_i L hl
  split at h2
  case h_2=>cases h2
  rename_i e he
  refine ⟨_,⟨?_,?_,Jo.refl _ _,?_,fun ν hv=>?_⟩,h2⟩
  ·exact fun c x hx=>by
    rw [zc2 hl]
    exact a1 c x (uZ q2 c x hx)
  ·intro m M hm
   have hne:m≠nx:=fun e=>by subst e;rw [q2] at hm;cases hm
   obtain ⟨s,p,h3⟩:=(kR q2).trans a2 m M hm
   exact ⟨s,p,by rw [qH,if_neg hne];exact h3⟩
  ·exact Nat.le_trans (by omega) a3
  ·have v2:VN ν (nx+1) ((nx,.loop ⟨tm,ps,assign,body,.ready,none,L0.dfr⟩)::H):=Ys hv
   obtain ⟨v3,o3⟩:=a4 ν v2
   refine ⟨gH (zc2 hl) (zBP hl) v3,?_⟩
   have hρ2:rho ν ((nx,SB.loop ⟨tm,ps,assign,body,.ready,none,L0.dfr⟩)::H)=rho ν H:=zom q2 rfl ν
   have hd:zv ν ((nx,SB.loop ⟨tm,ps,assign,body,.ready,none,L0.dfr⟩)::H)=(nx,.loop (Kt (zq (rho ν H) tm) ps assign body L0.dfr))::zv ν H:=by
    rw [ztg q2 rfl (x:=.loop (yY (rho ν H) ⟨tm,ps,assign,body,.ready,none,L0.dfr⟩)) rfl]
    rfl
   rw [hρ2,hd] at o3
   have hg':=zP hg ν
   simp only [den] at hg'
   have hargs:zq (rho ν H) (fs++(.yld nx::cs))=zq (rho ν H) fs++[.func (.yield nx) #[] #[]]++zq (rho ν H) cs:=by simp [qz,den]
   rw [hargs] at o3
   have key:=zlE (P:=P) (l0:=l0) (g:=g) (ps:=ps) (assign:=assign) (body:=body) (tm:=zq (rho ν H) tm) (ds:=ds) (nx:=nx) (L0:=yY (rho ν H) L0) hs hfn hb hg' (by rw [zF,hl0];rfl) (by simpa [yY] using o3) (by rw [zF,hl];rfl) (zpl (L:=yY (rho ν H3) L) he)
   refine zii key rfl rfl rfl (fun φ K w g=>g.sub fun c x hx=>zzh hl c x hx) (fun φ ts ht=>?_)
   refine zpL ν (fun c x hx=>?_) ht
   rw [zc2 hl]
   exact a1 c x (uZ q2 c x hx)
def zhO:List Nat→SH→Option SH
 |[],H=>some H
 |d::ds,H=>match zk H d with
  |some .defd=>zhO ds (jV H d .abs)
  |_=>none
theorem zxh {H:SH} {d:Nat} (hd:zk H d=some .defd) (c:Nat):reg (zk (jV H d .abs) c)=reg (zk H c):=by
 rw [qH]
 by_cases h:c=d
 ·subst h;simp [hd,reg]
 ·rw [if_neg h]
theorem zFr {H:SH} {d:Nat} (hd:zk H d=some .defd) (c:Nat) (h:ji (zk (jV H d .abs) c)=true):ji (zk H c)=true:=by
 rw [qH] at h
 by_cases hc:c=d
 ·subst hc;simp [hd,ji] at h
 ·rwa [if_neg hc] at h
theorem zxi {ν:Nat→Bool}:∀{ds:List Nat} {H H1:SH} {Hd:Hp},(∀b,Hd.get b=(zv ν H).get b)→zhO ds H=some H1→∃Hd1,zdU ds Hd=some Hd1∧(∀b,Hd1.get b=(zv ν H1).get b)
 |[],H,H1,Hd,hg,h=>by simp only [zhO,Option.some.injEq] at h;subst h;exact ⟨Hd,rfl,hg⟩
 |d::ds,H,H1,Hd,hg,h=>by
  simp only [zhO] at h
  split at h
  case h_2=>cases h
  rename_i hd
  have h1:Hd.get d=some .defd:=by rw [hg,zF,hd];rfl
  simp only [zdU,h1]
  refine zxi (fun b=>?_) h
  rw [Hp.get_del,zF,qH,yy (zxh hd)]
  by_cases hb:b=d
  ·subst hb;simp [hd,zN]
  ·rw [if_neg hb,if_neg hb,hg,zF]
theorem zuK:∀{ds:List Nat} {H H1:SH},zhO ds H=some H1→(∀c,reg (zk H1 c)=reg (zk H c))∧(∀c,ji (zk H1 c)=true→ji (zk H c)=true)∧wS H H1
 |[],H,H1,h=>by simp only [zhO,Option.some.injEq] at h;subst h;exact ⟨fun _=>rfl,fun _ h=>h,wS.refl _⟩
 |d::ds,H,H1,h=>by
  simp only [zhO] at h
  split at h
  case h_2=>cases h
  rename_i hd
  obtain ⟨h1,h2,h3⟩:=zuK h
  exact ⟨fun c=>(h1 c).trans (zxh hd c),fun c hc=>zFr hd c (h2 c hc),(Yr hd (fun L=>by simp)).trans h3⟩
def zpZ (P:Program) (H:SH) (tm:List SV):List ResultVar→Option (List SV)
 |[]=>some []
 |.tmp t::rs=>match jW tm H (.tmp t),zpZ P H tm rs with
  |some v,some vs=>some (v::vs)
  |_,_=>none
 |.cell a t::rs=>match jW tm H (.tmp a),zpZ P H tm rs with
  |some (.ptr b o),some vs=>match zvW P H t (.ptr b o) with
   |some v=>some (v::vs)
   |none=>none
  |_,_=>none
theorem zDK {Hd Hd2:Hp} (h:∀b,Hd.get b=Hd2.get b) (t:TypeId) (v:Value):ZQ P Hd t v=ZQ P Hd2 t v:=by
 unfold ZQ
 split
 ·rw [h]
 ·rfl
theorem zth {ν:Nat→Bool} {H0 H:SH} {Hd:Hp} (hg:∀b,Hd.get b=(zv ν H).get b) {tm:List SV} (hr:rho ν H0=rho ν H):∀{rs:List ResultVar} {vs:List SV},zpZ P H tm rs=some vs→zez P Hd (zq (rho ν H0) tm) rs=some (zq (rho ν H) vs)
 |[],vs,h=>by simp only [zpZ,Option.some.injEq] at h;subst h;simp [zez,zq]
 |.tmp t::rs,vs,h=>by
  simp only [zpZ] at h
  split at h
  ·rename_i v us h1 h2
   cases h
   have e1:=zP h1 ν
   simp only [zez,zth hg hr h2,zq]
   rw [hr,e1]
  ·cases h
 |.cell a t::rs,vs,h=>by
  simp only [zpZ] at h
  split at h
  ·rename_i b o us h1 h2
   split at h
   case h_2=>cases h
   rename_i v hv
   cases h
   have e1:=zP h1 ν
   have e2:=zuz (ν:=ν) hv
   have e3:ZQ P (zv ν H) t (den (rho ν H) (.ptr b o))=some (den (rho ν H) v):=by
    cases hd:ZQ P (zv ν H) t (den (rho ν H) (.ptr b o)) with
    |some u=>rw [hd] at e2;exact e2
    |none=>rw [hd] at e2;simp [den,zf2,zpC] at e2
   simp only [zez,zth hg hr h2,zq]
   rw [hr,e1,Option.bind_some,zDK hg,e3]
  ·cases h
def zaw:List SV→SV
 |[v]=>v
 |vs=>.tup vs
theorem Uq (ρ:Nat→Value):∀vs:List SV,den ρ (zaw vs)=Xn (zq ρ vs)
 |[]=>by simp [zaw,den,zq,Xn]
 |[v]=>by simp [zaw,zq,Xn]
 |_::_::_=>by simp [zaw,den,zq,Xn]
def zEJ:Exit→Bool
 |.normal=>true
 |.ret=>true
 |_=>false
def zru (P:Program) (E:EvS R) (f:FuncId) (args:List SV) (H:SH) (nx:Nat) (k:KO R):Option R:=match zv7 P f with
 |some fn=>match fn.body with
  |some c=>E.code none c (args++List.replicate (fn.ntmps - args.length) (.tup [])) [] H nx fun S=>bif zEJ S.e then match zhO S.ds S.H with
   |some H1=>match zpZ P H1 S.tm fn.results.toList with
    |some vs=>k (zaw vs) H1 S.nx
    |none=>none
   |none=>none
   else none
  |none=>none
 |none=>none
theorem zti (ρ:Nat→Value) (n:Nat):zq ρ (List.replicate n (.tup []))=List.replicate n undef:=by
 simp [qz,den,undef,zq]
theorem zp0 {E:EvS R} (hE:E.Ok P) {f:FuncId} {args:List SV} {H:SH} {nx:Nat} {k:KO R} {r:R} (h:zru P E f args H nx k=some r):∃v H' nx',zhN P f args H nx v H' nx'∧k v H' nx'=some r:=by
 unfold zru at h
 split at h
 case h_2=>cases h
 rename_i fn hfn
 rw [zsS] at hfn
 split at h
 case h_2=>cases h
 rename_i c hb
 obtain ⟨S,⟨a1,a2,a3,a4,a5⟩,h1⟩:=hE.code h
 have h6:=zw h1
 clear h1
 obtain ⟨he,h1⟩:=h6
 split at h1
 case h_2=>cases h1
 rename_i H1 hk
 split at h1
 case h_2=>cases h1
 rename_i vs hv
 obtain ⟨k1,k2,k3⟩:=zuK hk
 refine ⟨_,_,_,⟨⟨fn,hfn,by rw [hb];rfl⟩,fun c x hx=>by rw [k1 c];exact a1 c x hx,a2.trans k3,a4,fun ν hv2=>?_⟩,h1⟩
 obtain ⟨v1,o1⟩:=a5 ν hv2
 refine ⟨gH k1 k2 v1,?_⟩
 obtain ⟨Hd1,e1,e2⟩:=zxi (ν:=ν) (fun _=>rfl) hk
 have hr:=zth (P:=P) (ν:=ν) (H0:=S.H) e2 (yy k1 ν).symm hv
 have hlen:(zq (rho ν H) args).length=args.length:=wT _ _
 have o1':jR P none c (zq (rho ν H) args++List.replicate (fn.ntmps - (zq (rho ν H) args).length) undef) [] (zv ν H) nx (zcZ ν S):=by
  rw [hlen,←zti (rho ν H),qz,qz,←List.map_append,←qz]
  exact o1
 have key:=zBj (P:=P) (f:=f) (R:=zcZ ν S) (H2:=Hd1) hfn hb o1' (by
  unfold zEJ at he
  show S.e=.normal∨S.e=.ret
  split at he<;>simp_all) e1 hr (fun _ _ h=>h)
 rw [Uq]
 exact zzZ key fun b x hx=>by rw [e2];exact hx
theorem Zx {φ φ0:Ren} (hF:∀b L,φ (FZ+b)=some L→φ0 (FZ+b)=some L):∀(t:Ty) (x:T t) (c:Value),c∈qm t x→∀v',zo φ c v'→zo φ0 c v'
 |.unit,x,c,hc,v',h=>by simp [qm] at hc
 |.bool,x,c,hc,v',h=>by
  simp only [qm,List.mem_singleton] at hc
  subst hc;cases h;exact .bool _
 |.int k,x,c,hc,v',h=>by
  simp only [qm,List.mem_singleton] at hc
  subst hc;cases h;exact .int _ _
 |.str,x,c,hc,v',h=>by
  simp only [qm,List.mem_singleton] at hc
  subst hc;cases h;exact .str _
 |.list t,l,c,hc,v',h=>by
  simp only [qm,List.mem_singleton] at hc
  subst hc
  unfold fzV at h ⊢
  simp only [cond_false] at h ⊢
  generalize hs:sz t=s at h ⊢
  generalize he:(List.map (fun x=>Value.agg (qm t x).toArray) l).toArray=es at h ⊢
  cases h with
  |fz _ _ b o c L hL hn ho hc hsz h=>
   refine .fz _ _ b o c L (hF b L hL) hn ho hc hsz fun j k e u u' h1 h2 h3=>?_
   rw [←he] at h1
   simp only [List.getElem?_toArray,List.getElem?_map,Option.map_eq_some_iff] at h1
   obtain ⟨x,hx,rfl⟩:=h1
   refine Zx hF t x u ?_ u' (h j k (Value.agg (qm t x).toArray) u u' (by rw [←he];simp [hx]) h2 h3)
   simp only [Value.cells,List.getElem?_toArray] at h2
   exact List.mem_of_getElem? h2
  |fz0 _ a c=>exact .fz0 _ _ _
 |.pair a b,x,c,hc,v',h=>by
  simp only [qm,List.mem_append] at hc
  rcases hc with hc | hc
  ·exact Zx hF a x.1 c hc v' h
  ·exact Zx hF b x.2 c hc v' h
theorem zfH {φ φ0:Ren} (hF:∀b L,φ (FZ+b)=some L→φ0 (FZ+b)=some L) {t:Ty} {x:T t} {us:List Value} (h:zx φ (qm t x) us):zx φ0 (qm t x) us:=by
 refine zx.of_get h.length fun i v v' hv hv'=>?_
 obtain ⟨u,h1,h2⟩:=h.get hv
 rw [hv'] at h1;cases h1
 exact Zx hF t x v (List.mem_of_getElem? hv) _ h2
theorem zuL {φ φ0:Ren} (hF:∀b L,φ (FZ+b)=some L→φ0 (FZ+b)=some L) {ρ:Nat→Value} (t:VT) (x:T t.ty) {v':Value} (h:zo φ (den ρ (mkV t x)) v'):zo φ0 (den ρ (mkV t x)) v':=by
 obtain ⟨ag,ty⟩:=t
 cases ag with
 |true=>
  simp only [mkV,cond_true,den] at h ⊢
  obtain ⟨ys,rfl,hl⟩:=h.agg_inv
  refine .agg' ?_
  rw [qz,yH] at hl ⊢
  simp only at hl ⊢
  exact zfH hF (by simpa using hl)
 |false=>
  simp only [mkV,cond_false] at h ⊢
  have h2:=yH ρ ty x
  match he:wJ ty x with
  |[v]=>
   rw [he] at h h2
   simp only [mk1,List.map_cons,List.map_nil] at h h2 ⊢
   exact Zx hF ty x _ (by rw [←h2];simp) _ h
  |[]=>rw [he] at h;simp [mk1,den] at h;exact (Uh h).elim
  |_::_::_=>rw [he] at h;simp [mk1,den] at h;exact (Uh h).elim
@[reducible] def ql (l:List VT):Ty:=List.rec (motive:=fun _=>Ty) .unit (fun a _ ih=>.pair a.ty ih) l
def Xp:(l:List VT)→List SV→SH→Option (T (ql l)×SH)
 |[],[],H=>some ((),H)
 |a::r,v::vs,H=>match cvV a v H with
  |some (x,H1)=>match Xp r vs H1 with
   |some (y,H2)=>some ((x,y),H2)
   |none=>none
  |none=>none
 |_,_,_=>none
def wa:(l:List VT)→T (ql l)→List SV
 |[],_=>[]
 |a::r,x=>mkV a (p1 x)::wa r (p2 x)
theorem zd0:∀{l:List VT} {vs:List SV} {H H':SH} {x:T (ql l)},Xp l vs H=some (x,H')→
  vp H H'∧∀ν G,GLe H' G→∀(φ:Ren) (K:Nat→Prop) (w:World) (nx:Nat) (us:List Value),zA φ (zv ν G) K w→VN ν nx G→zx φ (zq (rho ν H) vs) us→∀ρ,zx φ (zq ρ (wa l x)) us
 |[],[],H,H',x,h=>by
  simp only [Xp] at h
  cases h
  exact ⟨vp.refl _,fun ν G hG φ K w nx us g hv hr ρ=>by simpa [zq,wa] using hr⟩
 |a::r,v::vs,H,H',x,h=>by
  simp only [Xp] at h
  split at h
  case h_2=>cases h
  rename_i x1 H1 h1
  split at h
  case h_2=>cases h
  rename_i y H2 h2
  cases h
  obtain ⟨g1,r1⟩:=zrb h1
  obtain ⟨g2,r2⟩:=zd0 h2
  refine ⟨g1.trans g2,fun ν G hG φ K w nx us g hv hr ρ=>?_⟩
  match us,hr with
  |[],hr=>simp [zq,zx] at hr
  |u::us,hr=>
   simp only [zq,zx,wa] at hr ⊢
   refine ⟨r1 ν G (g2.1.trans hG) φ K w nx u g hv hr.1 ρ,r2 ν G hG φ K w nx us g hv ?_ ρ⟩
   rw [g1.1.rho ν];exact hr.2
 |[],_::_,_,_,_,h=>by simp [Xp] at h
 |_::_,[],_,_,_,h=>by simp [Xp] at h
theorem Ur {φ φ0:Ren} (hF:∀b L,φ (FZ+b)=some L→φ0 (FZ+b)=some L) {ρ:Nat→Value}:∀(l:List VT) (x:T (ql l)) {us:List Value},zx φ (zq ρ (wa l x)) us→zx φ0 (zq ρ (wa l x)) us
 |[],x,[],h=>trivial
 |[],x,_::_,h=>by simp [wa,zq,zx] at h
 |a::r,x,[],h=>by simp [wa,zq,zx] at h
 |a::r,x,u::us,h=>by
  simp only [wa,zq,zx] at h ⊢
  exact ⟨zuL hF a x.1 h.1,Ur hF r x.2 h.2⟩
theorem zrv {φ φ0:Ren} (hF:∀b L,φ (FZ+b)=some L→φ0 (FZ+b)=some L) {ρ:Nat→Value} (l:List VT) (x:T (ql l)) {v':Value} (h:zo φ (den ρ (zaw (wa l x))) v'):zo φ0 (den ρ (zaw (wa l x))) v':=by
 rw [Uq] at h ⊢
 have key:=fun (us:List Value) (hr:zx φ (zq ρ (wa l x)) us)=>Ur hF l x hr
 generalize zq ρ (wa l x)=vs at h key
 match vs,h,key with
 |[],h,key=>
  simp only [Xn] at h ⊢
  obtain ⟨ys,rfl,hl⟩:=h.tuple_inv
  exact .tuple' (key _ hl)
 |[v],h,key=>
  simp only [Xn] at h ⊢
  exact (key [v'] ⟨h,trivial⟩).1
 |a::b::r,h,key=>
  simp only [Xn] at h ⊢
  obtain ⟨ys,rfl,hl⟩:=h.tuple_inv
  exact .tuple' (key _ hl)
structure Con where
 args:List VT
 res:List VT
 F:T (ql args)→Option (T (ql res))
def Con.Ok (P:Program) (f:FuncId) (c:Con):Prop:=(∃fn,P.funcs[f]?=some fn∧fn.body.isSome=true)∧
 ∀x r,c.F x=some r→∃Hd nx',nx'≤FZ∧gD P f (zq (fun _=>bad) (wa c.args x)) [] 0 (den (fun _=>bad) (zaw (wa c.res r))) Hd nx'
theorem zBR {f:FuncId} {args:List Value} {Hd:Hp} {nx':Nat} {v:Value} (hz:nx'≤FZ) (h:gD P f args [] 0 v Hd nx') (ha:∀φ φ0:Ren,(∀b L,φ (FZ+b)=some L→φ0 (FZ+b)=some L)→∀us,zx φ args us→zx φ0 args us)
  (hv:∀φ φ0:Ren,(∀b L,φ (FZ+b)=some L→φ0 (FZ+b)=some L)→∀v',zo φ v v'→zo φ0 v v') (H:Hp) (nx:Nat):gD P f args H nx v H nx:=by
 refine ⟨Nat.le_refl _,fun φ w K us g hf hl=>?_⟩
 let φ0:Ren:=fun b=>if FZ≤b then φ b else none
 have e0:∀b,φ0 (FZ+b)=φ (FZ+b):=fun b=>by simp only [φ0,show FZ≤FZ+b by omega,if_true]
 have g0:zA φ0 [] (fun c=>c < w.heap.size) w:=⟨fun b k hb=>by simp [Hp.get_nil] at hb,fun b c k k' L L' hb=>by simp [Hp.get_nil] at hb,fun b k L hb=>by simp [Hp.get_nil] at hb,fun c hc=>hc,fun b L hL=>g.fz b L (by rw [←e0];exact hL),fun b k L c M hb=>by simp [Hp.get_nil] at hb⟩
 refine Calls.mono (h.2 φ0 w (fun c=>c < w.heap.size) us g0 ⟨hz,fun b _ hb=>by simp only [φ0,show ¬FZ≤b by omega,if_false]⟩ (ha φ φ0 (fun b L hL=>by rw [e0];exact hL) us hl)) ?_
 rintro e w' ⟨v',φ',rfl,x1,x2,x3,x4⟩
 let φ2:Ren:=fun b=>if FZ≤b then φ' b else φ b
 have e2:∀b,φ2 (FZ+b)=φ' (FZ+b):=fun b=>by simp only [φ2,show FZ≤FZ+b by omega,if_true]
 have e3:∀b,b < FZ→φ2 b=φ b:=fun b hb=>by simp only [φ2,show ¬FZ≤b by omega,if_false]
 have hle:φ.le φ2:=fun b L hb=>by
  by_cases hz:FZ≤b
  ·simp only [φ2,hz,if_true]
   exact x2.1 b L (by simp only [φ0,hz,if_true];exact hb)
  ·simp only [φ2,hz,if_false];exact hb
 have hnew:∀b L,φ2 (FZ+b)=some L→φ (FZ+b)=some L∨¬b < w.heap.size:=fun b L hL=>by
  rw [e2] at hL
  rcases x2.2.2 b L hL with h1 | h1
  ·rw [e0] at h1;exact .inl h1
  ·exact .inr h1
 have hname:∀b k,H.get b=some k→b < FZ∨∃L,φ b=some L:=fun b k hb=>by
  obtain ⟨L,hL,_⟩:=g.rel b k hb
  exact .inr ⟨L,hL⟩
 have hφ2:∀b k L,H.get b=some k→φ2 b=some L→φ b=some L:=fun b k L hb hL=>by
  obtain ⟨M,hM,_⟩:=g.rel b k hb
  have:=hle b M hM
  rw [hL] at this;cases this;exact hM
 refine ⟨v',φ2,rfl,hv φ' φ2 (fun b L hL=>by rw [e2];exact hL) v' x1,⟨hle,fun b hz _=>e3 b hz,fun b L hL=>(hnew b L hL).imp id fun h1 h2=>h1 (g.kin b h2)⟩,?_,⟨x4.os,x4.tape,x4.output,x4.size,fun c hc=>x4.kept c (g.kin c hc)⟩⟩
 refine ⟨fun b k hb=>?_,fun b c k k' L L' hb hc hne hkr hL hL'=>g.sep b c k k' L L' hb hc hne hkr (hφ2 b k L hb hL) (hφ2 c k' L' hc hL'),fun b k L hb hkr hL=>g.prot b k L hb hkr (hφ2 b k L hb hL),fun c hc=>Nat.lt_of_lt_of_le (g.kin c hc) x4.size,fun b L hL=>x3.fz b L (by rw [←e2];exact hL),fun b k L c M hb hkr hL hM=>?_⟩
 ·obtain ⟨L,hL,hB⟩:=g.rel b k hb
  exact ⟨L,hle b L hL,(hB.congr (x4.kept L.blk hB.lt)).mono hle⟩
 ·have hL1:=hφ2 b k L hb hL
  rcases hnew c M hM with h1 | h1
  ·exact g.fsep b k L c M hb hkr hL1 h1
  ·have:=(g.at hb hL1).lt
   omega
def zi9:Ty→Bool
 |.list _=>false
 |.pair a b=>zi9 a&&zi9 b
 |_=>true
def zmO:List VT→Bool
 |[]=>true
 |a::r=>zi9 a.ty&&zmO r
theorem zhP {φ φ0:Ren}:∀(t:Ty) (x:T t) (_:zi9 t=true) (c:Value),c∈qm t x→∀v',zo φ c v'→zo φ0 c v'
 |.unit,x,_,c,hc,v',h=>by simp [qm] at hc
 |.bool,x,_,c,hc,v',h=>by
  simp only [qm,List.mem_singleton] at hc
  subst hc;cases h;exact .bool _
 |.int k,x,_,c,hc,v',h=>by
  simp only [qm,List.mem_singleton] at hc
  subst hc;cases h;exact .int _ _
 |.str,x,_,c,hc,v',h=>by
  simp only [qm,List.mem_singleton] at hc
  subst hc;cases h;exact .str _
 |.list t,l,hp,c,hc,v',h=>by cases hp
 |.pair a b,x,hp,c,hc,v',h=>by
  simp only [zi9,Bool.and_eq_true] at hp
  simp only [qm,List.mem_append] at hc
  rcases hc with hc | hc
  ·exact zhP a x.1 hp.1 c hc v' h
  ·exact zhP b x.2 hp.2 c hc v' h
theorem zBS {φ φ0:Ren} {ρ:Nat→Value} (t:VT) (x:T t.ty) (hp:zi9 t.ty=true) {v':Value} (h:zo φ (den ρ (mkV t x)) v'):zo φ0 (den ρ (mkV t x)) v':=by
 obtain ⟨ag,ty⟩:=t
 cases ag with
 |true=>
  simp only [mkV,cond_true,den] at h ⊢
  obtain ⟨ys,rfl,hl⟩:=h.agg_inv
  refine .agg' ?_
  rw [qz,yH] at hl ⊢
  simp only at hl ⊢
  have hl:zx φ (qm ty x) ys.toList:=by simpa using hl
  refine zx.of_get hl.length fun i v v' hv hv'=>?_
  obtain ⟨u,h1,h2⟩:=hl.get hv
  rw [hv'] at h1;cases h1
  exact zhP ty x hp v (List.mem_of_getElem? hv) _ h2
 |false=>
  simp only [mkV,cond_false] at h ⊢
  have h2:=yH ρ ty x
  match he:wJ ty x with
  |[v]=>
   rw [he] at h h2
   simp only [mk1,List.map_cons,List.map_nil] at h h2 ⊢
   exact zhP ty x hp _ (by rw [←h2];simp) _ h
  |[]=>rw [he] at h;simp [mk1,den] at h;exact (Uh h).elim
  |_::_::_=>rw [he] at h;simp [mk1,den] at h;exact (Uh h).elim
theorem zmP {φ φ0:Ren} {ρ:Nat→Value}:∀(l:List VT) (x:T (ql l)) (_:zmO l=true) {us:List Value},zx φ (zq ρ (wa l x)) us→zx φ0 (zq ρ (wa l x)) us
 |[],x,_,[],h=>trivial
 |[],x,_,_::_,h=>by simp [wa,zq,zx] at h
 |a::r,x,_,[],h=>by simp [wa,zq,zx] at h
 |a::r,x,hp,u::us,h=>by
  simp only [zmO,Bool.and_eq_true] at hp
  simp only [wa,zq,zx] at h ⊢
  exact ⟨zBS a x.1 hp.1 h.1,zmP r x.2 hp.2 h.2⟩
theorem zAq {φ φ0:Ren} {ρ:Nat→Value} (l:List VT) (x:T (ql l)) (hp:zmO l=true) {v':Value} (h:zo φ (den ρ (zaw (wa l x))) v'):zo φ0 (den ρ (zaw (wa l x))) v':=by
 rw [Uq] at h ⊢
 have key:=fun (us:List Value) (hr:zx φ (zq ρ (wa l x)) us)=>zmP (φ0:=φ0) l x hp hr
 generalize zq ρ (wa l x)=vs at h key
 match vs,h,key with
 |[],h,key=>
  simp only [Xn] at h ⊢
  obtain ⟨ys,rfl,hl⟩:=h.tuple_inv
  exact .tuple' (key _ hl)
 |[v],h,key=>
  simp only [Xn] at h ⊢
  exact (key [v'] ⟨h,trivial⟩).1
 |a::b::r,h,key=>
  simp only [Xn] at h ⊢
  obtain ⟨ys,rfl,hl⟩:=h.tuple_inv
  exact .tuple' (key _ hl)
theorem zAr {f:FuncId} {args:List Value} {Hd:Hp} {nx':Nat} {v:Value} (hz:nx'≤FZ) (h:gD P f args [] 0 v Hd nx') (ha:∀φ φ0:Ren,(∀b L,φ (FZ+b)=some L→φ0 (FZ+b)=some L)→∀us,zx φ args us→zx φ0 args us)
  (hv:∀(φ φ0:Ren) v',zo φ v v'→zo φ0 v v') {φ φ1:Ren} {H:Hp} {K:Nat→Prop} {w:World} {us:List Value} (g:zA φ H K w) (g1:∀b L,φ1 (FZ+b)=some L→zpz w b L) (hl:zx φ1 args us) :
  Calls P f us.toArray w fun e w'=>∃v',e=.returned v'∧zo φ v v'∧zA φ H K w'∧qG K w w':=by
 let φ0:Ren:=fun b=>if FZ≤b then φ1 b else none
 have e0:∀b,φ0 (FZ+b)=φ1 (FZ+b):=fun b=>by simp only [φ0,show FZ≤FZ+b by omega,if_true]
 have g0:zA φ0 [] (fun c=>c < w.heap.size) w:=⟨fun b k hb=>by simp [Hp.get_nil] at hb,fun b c k k' L L' hb=>by simp [Hp.get_nil] at hb,fun b k L hb=>by simp [Hp.get_nil] at hb,fun c hc=>hc,fun b L hL=>g1 b L (by rw [←e0];exact hL),fun b k L c M hb=>by simp [Hp.get_nil] at hb⟩
 refine Calls.mono (h.2 φ0 w (fun c=>c < w.heap.size) us g0 ⟨hz,fun b _ hb=>by simp only [φ0,show ¬FZ≤b by omega,if_false]⟩ (ha φ1 φ0 (fun b L hL=>by rw [e0];exact hL) us hl)) ?_
 rintro e w' ⟨v',φ',rfl,x1,x2,x3,x4⟩
 refine ⟨v',rfl,hv φ' φ v' x1,⟨fun b k hb=>?_,g.sep,g.prot,fun c hc=>Nat.lt_of_lt_of_le (g.kin c hc) x4.size,fun b L hL=>?_,g.fsep⟩,⟨x4.os,x4.tape,x4.output,x4.size,fun c hc=>x4.kept c (g.kin c hc)⟩⟩
 ·obtain ⟨L,hL,hB⟩:=g.rel b k hb
  exact ⟨L,hL,hB.congr (x4.kept L.blk hB.lt)⟩
 ·obtain ⟨h1,h2,a,el,fr,h3,h4⟩:=g.fz b L hL
  refine ⟨h1,h2,a,el,fr,?_,h4⟩
  rw [x4.kept b (by
   have:=(Array.getElem?_eq_some_iff.1 h3).1
   exact this)]
  exact h3
def zDL (c:Con) (args:List SV) (H:SH) (nx:Nat) (k:KO R):Option R:=match Xp c.args args H with
 |some (x,H1)=>bif zmO c.res then opt (c.F x) fun r=>k (zaw (wa c.res r)) H nx else opt (c.F x) fun r=>k (zaw (wa c.res r)) H1 nx
 |none=>none
theorem zge (l:List VT) (x:T (ql l)) (ρ ρ':Nat→Value):zq ρ (wa l x)=zq ρ' (wa l x):=by
 have hc:∀(t:Ty) (y:T t),zq ρ (wJ t y)=zq ρ' (wJ t y):=fun t y=>by rw [qz,qz,yH,yH]
 have hv:∀(t:VT) (y:T t.ty),den ρ (mkV t y)=den ρ' (mkV t y):=fun t y=>by
  obtain ⟨ag,ty⟩:=t
  cases ag with
  |true=>simp only [mkV,cond_true,den];rw [hc ty y]
  |false=>
   simp only [mkV,cond_false]
   have:=hc ty y
   match he:wJ ty y with
   |[v]=>rw [he] at this;simpa [mk1,zq] using this
   |[]=>simp [mk1,den]
   |_::_::_=>simp [mk1,den]
 induction l with
 |nil=>rfl
 |cons a r ih=>simp only [wa,zq,hv a x.1,ih x.2]
theorem zFs {f:FuncId} {c:Con} (hc:c.Ok P f) {args:List SV} {H:SH} {nx:Nat} {k:KO R} {r:R} (h:zDL c args H nx k=some r):∃v H' nx',zhN P f args H nx v H' nx'∧k v H' nx'=some r:=by
 unfold zDL at h
 split at h
 case h_2=>cases h
 rename_i x H1 hx
 obtain ⟨hg,hr⟩:=zd0 hx
 rcases vq h with ⟨hp,h⟩ | ⟨_,h⟩
 ·obtain ⟨y,hy,h2⟩:=Jn h
  obtain ⟨Hd,n1,hz,hcall⟩:=hc.2 x y hy
  refine ⟨_,_,_,⟨hc.1,wN.refl H,wS.refl H,Nat.le_refl _,fun ν hv=>⟨hv,Nat.le_refl _,fun φ w K us g hf hl=>?_⟩⟩,h2⟩
  obtain ⟨φ1,e1,g1⟩:=hg.2 ν φ K w g
  have hl1:=hr ν H1 (GLe.refl _) φ1 K w nx us g1 (hg.1.vn hv) (hl.mono (e1 0).1) (fun _=>bad)
  refine Calls.mono (zAr hz hcall (fun φ φ0 hF us h=>Ur hF c.args x h) (fun φ φ0 v' h=>zAq c.res y hp h) g g1.fz hl1) ?_
  rintro e w' ⟨v',rfl,x1,x3,x4⟩
  refine ⟨v',φ,rfl,?_,Ext.refl _ _ _ _,x3,x4⟩
  rw [Uq] at x1 ⊢
  rwa [zge c.res y (rho ν H) (fun _=>bad)]
 obtain ⟨y,hy,h2⟩:=Jn h
 obtain ⟨Hd,n1,hz,hcall⟩:=hc.2 x y hy
 refine ⟨_,_,_,⟨hc.1,hg.1.regLe,hg.1.lkeep,Nat.le_refl _,fun ν hv=>⟨hg.1.vn hv,Nat.le_refl _,fun φ w K us g hf hl=>?_⟩⟩,h2⟩
 obtain ⟨φ1,e1,g1⟩:=hg.2 ν φ K w g
 have hl1:=hr ν H1 (GLe.refl _) φ1 K w nx us g1 (hg.1.vn hv) (hl.mono (e1 0).1) (fun _=>bad)
 have hd:=zBR hz hcall (fun φ φ0 hF us h=>Ur hF c.args x h) (fun φ φ0 hF v' h=>zrv hF c.res y h) (zv ν H1) nx
 refine Calls.mono (hd.2 φ1 w K us g1 (zhI (mid:=0) hf e1) hl1) ?_
 rintro e w' ⟨v',φ',rfl,x1,x2,x3,x4⟩
 refine ⟨v',φ',rfl,?_,(e1 nx).comp x2,x3,x4⟩
 rw [Uq] at x1 ⊢
 rwa [zge c.res y (rho ν H1) (fun _=>bad)]
end Go.Fz.Sy
end
