/- Parts of a proof, joined. -/
import Derived.IntWalk
import Derived.Test.YtplhphmbkmpocaaGreatE62
set_option linter.unusedSectionVars false
set_option linter.unusedVariables false
set_option linter.unusedSimpArgs false
set_option maxHeartbeats 0
set_option maxRecDepth 100000
noncomputable section
namespace Go.Fz.Sy
variable {P:Program} {φ:Ren} {K:Nat→Prop} {w:World} {R:Type}
def hiI (n:Nat):Option Int→Option Nat
 |none=>some n
 |some (.ofNat q)=>bif Nat.ble q n then some q else none
 |some (.negSucc _)=>none
def loI (h:Nat):Option Int→Option Nat
 |none=>some 0
 |some (.ofNat p)=>bif Nat.ble p h then some p else none
 |some (.negSucc _)=>none
def mxI (h:Nat):Option Int→Bool
 |none=>true
 |some (.ofNat m)=>Nat.beq m h
 |some (.negSucc _)=>false
def QG {α:Type} (l:List α) (lo hi mx:Option Int):Option (List α):=match hiI l.length hi with
 |some h=>match loI h lo with
  |some p=>bif mxI h mx then some ((l.take h).drop p) else none
  |none=>none
 |none=>none
def zae:Option SV→Option (Option Int)
 |none=>some none
 |some (.int _ z)=>some (some z)
 |_=>none
theorem zHm {n h:Nat} {v:Option SV} {z:Option Int} {ρ:Nat→Value} (hz:zae v=some z) (h1:hiI n z=some h):zsx (v.map (den ρ)) n n=some h∧h≤n∧∀u,v=some u→∀m,h≤m→bnd (den ρ u) m=some h:=by
 unfold zae at hz
 split at hz
 ·cases hz
  simp only [hiI,Option.some.injEq] at h1
  subst h1
  exact ⟨by simp [zsx],Nat.le_refl _,fun u hu=>by cases hu⟩
 ·rename_i k z
  cases hz
  unfold hiI at h1
  split at h1
  ·rename_i he;cases he
  ·rename_i q he
   cases he
   obtain ⟨h2,h3⟩:=zE h1
   cases h3
   have h2:=Nat.le_of_ble_eq_true h2
   refine ⟨?_,h2,fun u hu m hm=>?_⟩
   ·simp [zsx,den,bnd,h2]
   ·cases hu
    simp [den,bnd,hm]
  ·cases h1
 ·cases hz
theorem zHn {h p:Nat} {v:Option SV} {z:Option Int} {ρ:Nat→Value} (hz:zae v=some z) (h1:loI h z=some p):zuU (v.map (den ρ)) h=some p∧p≤h:=by
 unfold zae at hz
 split at hz
 ·cases hz
  simp only [loI,Option.some.injEq] at h1
  subst h1
  exact ⟨rfl,Nat.zero_le _⟩
 ·rename_i k z
  cases hz
  unfold loI at h1
  split at h1
  ·rename_i he;cases he
  ·rename_i q he
   cases he
   obtain ⟨h2,h3⟩:=zE h1
   cases h3
   have h2:=Nat.le_of_ble_eq_true h2
   exact ⟨by simp [zuU,den,bnd,h2],h2⟩
  ·cases h1
 ·cases hz
theorem zEf {α:Type} {l l':List α} {lo hi mx:Option SV} {a b c:Option Int} {ρ:Nat→Value} (ha:zae lo=some a) (hb:zae hi=some b) (hc:zae mx=some c) (hhi:mx.isSome=true→hi.isSome=true) (h:QG l a b c=some l') :
  ∃p q,zf3 l.length l.length (lo.map (den ρ)) (hi.map (den ρ)) (mx.map (den ρ))=some (p,q,mx.map fun _=>q)∧p≤q∧q≤l.length∧l'=(l.take q).drop p∧(hi=none→q=l.length):=by
 unfold QG at h
 split at h
 case h_2=>cases h
 rename_i q hq
 split at h
 case h_2=>cases h
 rename_i p hp
 obtain ⟨h1,h2⟩:=zE h
 cases h2
 obtain ⟨e1,e2,e3⟩:=zHm (ρ:=ρ) hb hq
 obtain ⟨f1,f2⟩:=zHn (ρ:=ρ) ha hp
 refine ⟨p,q,?_,f2,e2,rfl,fun hn=>?_⟩
 ·cases mx with
  |none=>
   simp only [Option.map_none,zf3,e1,f1,Option.bind_some]
  |some m=>
   cases hi with
   |none=>simp at hhi
   |some hv=>
    have hm:bnd (den ρ m) l.length=some q:=by
     unfold zae at hc
     split at hc
     ·rename_i he;cases he
     ·rename_i k z he
      cases he
      cases hc
      unfold mxI at h1
      split at h1
      ·rename_i he;cases he
      ·rename_i y he
       cases he
       have:=Nat.eq_of_beq_eq_true h1
       subst this
       simp [den,bnd,e2]
      ·cases h1
     ·cases hc
    simp only [Option.map_some,zf3,hm,Option.bind_some,e3 hv rfl q (Nat.le_refl _),f1]
 ·subst hn
  simp only [zae,Option.some.injEq] at hb
  subst hb
  simp only [hiI,Option.some.injEq] at hq
  exact hq.symm
theorem zwQ {s:Nat} {full:Bool} {es:List Value} {v':Value} (h:zt φ (fzV s full es) v'):zt φ (fzV s false es) v':=by
 cases full with
 |false=>exact h
 |true=>
  unfold fzV at h ⊢
  simp only [cond_true,cond_false] at h ⊢
  generalize es.toArray=a at h ⊢
  cases h with
  |fq _ _ b o L hL hn ho hs h=>exact .fz _ _ b o _ L hL hn ho (Nat.le_refl _) hs h
  |fq0 _ a=>exact .fz0 _ _ _
theorem zwR {t e:TypeId} {ie:TypeInfo} {ty:Ty} {l l':List (T ty)} {full:Bool} {lo hi mx:Option SV} {a b c:Option Int} {ρ:Nat→Value} (hu:ja P t=some (.slice e)) (hie:jd P e=some ie) (hsz:ie.size=sz ty) (ha:zae lo=some a) (hb:zae hi=some b)
  (hc:zae mx=some c) (hhi:mx.isSome=true→hi.isSome=true) (h:QG l a b c=some l') {x':Value} {lo' hi' mx':Option Value} (hx:zt φ (fzV (sz ty) full (l.map (wu ty))) x') (h1:Kw φ (lo.map (den ρ)) lo') (h2:Kw φ (hi.map (den ρ)) hi') (h3:Kw φ (mx.map (den ρ)) mx') (w:World) :
  ∃v',(Instr.sliceAt t x' lo' hi' mx').run P w=.ok v' w∧zt φ (fzV (sz ty) (mx.isSome||(full&&hi.isNone)) (l'.map (wu ty))) v':=by
 obtain ⟨p,q,e1,e2,e3,e4,e5⟩:=zEf (ρ:=ρ) ha hb hc hhi h
 have hlen:((l.map (wu ty)).toArray).size=l.length:=by simp
 have hext:((l.map (wu ty)).toArray).extract p q=(l'.map (wu ty)).toArray:=by
  apply Array.ext'
  rw [e4]
  simp [List.drop_take,List.map_drop,List.map_take]
 have hes:gY (fzV (sz ty) full (l.map (wu ty)))=some (sz ty,(l.map (wu ty)).toArray,full):=by cases full<;>simp [fzV,gY]
 have key:∃f2,zi8 P t (fzV (sz ty) full (l.map (wu ty))) (lo.map (den ρ)) (hi.map (den ρ)) (mx.map (den ρ))=some (fzV (sz ty) f2 (l'.map (wu ty)))∧((mx.isSome||(full&&hi.isNone))=true→f2=true):=by
  unfold zi8
  simp only [hes,hu,hie,hlen,e1,hsz,if_true]
  cases mx with
  |some m=>exact ⟨true,by simp [Nat.beq_refl,hext,fzV],fun _=>rfl⟩
  |none=>
   simp only [Option.map_none,Option.isSome_none,Bool.false_or]
   cases hf:(full&&Nat.beq q l.length) with
   |true=>exact ⟨true,by simp only [if_true];simp only [hext,fzV,cond_true],fun _=>rfl⟩
   |false=>
    refine ⟨false,by simp only [Bool.false_eq_true,if_false];simp only [hext,fzV,cond_false],fun h=>?_⟩
    simp only [Bool.and_eq_true] at h
    obtain ⟨h4,h5⟩:=h
    have:hi=none:=by cases hi<;>simp at h5 ⊢
    rw [h4,e5 this,Nat.beq_refl] at hf
    cases hf
 obtain ⟨f2,h4,h5⟩:=key
 obtain ⟨v',r1,r2⟩:=zsy h4 hx h1 h2 h3 w
 refine ⟨v',r1,?_⟩
 cases hcase:(mx.isSome||(full&&hi.isNone)) with
 |true=>rw [h5 hcase] at r2;exact r2
 |false=>exact zwQ r2
def zzy (P:Program) (tm:List SV) (H:SH) (nx:Nat) (t:TypeId) (x:Operand) (lo hi mx:Option Operand) (k:KO R):Option R:=
 match jI tm H x,zoX tm H lo,zoX tm H hi,zoX tm H mx with
 |some v,some lo,some hi,some mx=>match ja P t,zae lo,zae hi,zae mx with
  |some (.slice e),some a,some b,some c=>bif (!mx.isSome||hi.isSome) then match v with
   |.lst ty l full=>bif KB P e (sz ty) then opt (QG l a b c) fun l'=>k (.lst ty l' (mx.isSome||(full&&hi.isNone))) H nx else none
   |.own bl=>match zn H bl with
    |some (.arr nn ty l)=>bif KB P e (sz ty)&&Nat.blt 0 (sz ty) then opt (QG l a b c) fun l'=>k (.lst ty l' mx.isSome) (wK H bl (.fro nn ty l)) nx else none
    |_=>none
   |_=>none
   else none
  |_,_,_,_=>none
 |_,_,_,_=>none
theorem zEg {rd:Option Nat} {o:Oper} {tm:List SV} {H:SH} {nx:Nat} {k:KO R} {r:R} {t:TypeId} {x:Operand} {lo hi mx:Option Operand} (ho:o.op=.slice t x lo hi mx) (h:zzy P tm H nx t x lo hi mx k=some r):Zi P rd o tm H nx k r:=by
 unfold zzy at h
 split at h
 case h_2=>cases h
 rename_i v lo1 hi1 mx1 hx hlo hhi hmx
 split at h
 case h_2=>cases h
 rename_i e a b c hu ha hb hc
 have h6:=zE h
 clear h
 obtain ⟨hh,h⟩:=h6
 have hhi2:mx1.isSome=true→hi1.isSome=true:=fun h1=>by simpa [h1] using hh
 split at h
 ·rename_i ty l full
  obtain ⟨h1,h⟩:=zE h
  obtain ⟨l',hl,h⟩:=Jh h
  obtain ⟨ie,hie,hsz⟩:=Yj h1
  refine uD ⟨wc.refl H,wq.refl H,Nat.le_refl _,fun ν hv=>⟨hv,?_⟩⟩ h
  refine XP (Nat.le_refl _) (fun c hc=>by rw [ho] at hc;cases hc) fun φ w K ac g hf ht=>?_
  have hxr:=qd ht (qb hx ν)
  simp only [den] at hxr
  obtain ⟨v',r1,r2⟩:=zwR hu hie hsz ha hb hc hhi2 hl hxr (Qm ht (zaO hlo ν)) (Qm ht (zaO hhi ν)) (Qm ht (zaO hmx ν)) w
  unfold execOp
  simp only [ho]
  exact Ran.op (Ran.same g ⟨v',r1,by simpa only [den] using r2⟩)
 ·rename_i bl
  split at h
  case h_2=>cases h
  rename_i nn ty l hbl
  obtain ⟨h1,h⟩:=zE h
  simp only [Bool.and_eq_true] at h1
  obtain ⟨l',hl,h⟩:=Jh h
  obtain ⟨ie,hie,hsz⟩:=Yj h1.1
  have hg:=zbc hbl
  refine uD ⟨hg.1.regLe,hg.1.lkeep,Nat.le_refl _,fun ν hv=>⟨hg.1.vn hv,zkq hg ?_⟩⟩ h
  refine XP (Nat.le_refl _) (fun c hc=>by rw [ho] at hc;cases hc) fun φ w K ac g hf ht=>?_
  have hxr:=qd ht (qb hx ν)
  simp only [den] at hxr
  rw [←hg.1.rho ν] at hxr
  have hb2:zn (wK H bl (.fro nn ty l)) bl=some (.fro nn ty l):=by rw [qQ,if_pos rfl,hbl];rfl
  have hxr:=zjj g (hg.1.vn hv) hb2 (zu6 h1.2) hxr
  obtain ⟨v',r1,r2⟩:=zwR hu hie hsz ha hb hc hhi2 hl hxr (Qm ht (zaO hlo ν)) (Qm ht (zaO hhi ν)) (Qm ht (zaO hmx ν)) w
  unfold execOp
  simp only [ho]
  exact Ran.op (Ran.same g ⟨v',r1,by simpa only [den,Bool.false_and,Bool.or_false] using r2⟩)
 ·cases h
def zFI (P:Program) (tm:List SV) (H:SH) (nx:Nat) (t:TypeId) (x:Operand) (k:KO R):Option R:=match jI tm H x,ja P t with
 |some (.own b),some (.slice _)=>match reg (zn H b) with
  |some (n,_)=>k (.int .i64 n) H (nx+1)
  |none=>none
 |_,_=>none
theorem zHo {rd:Option Nat} {o:Oper} {tm:List SV} {H:SH} {nx:Nat} {k:KO R} {r:R} {t:TypeId} {x:Operand} (ho:o.op=.call {callee:=.builtin .len,args:=#[x],argTypes:=#[t]}) (h:zFI P tm H nx t x k=some r):Zi P rd o tm H nx k r:=by
 unfold zFI at h
 split at h
 case h_2=>cases h
 rename_i b e hx hu
 split at h
 case h_2=>cases h
 rename_i n s hr
 refine uD ⟨wc.refl H,wq.refl H,Nat.le_succ _,fun ν hv=>⟨hv.later (Nat.le_succ _),kT ?_⟩⟩ h
 have h1:=qb hx ν
 unfold jZ
 simp only [ho,za6,h1,Option.bind_some]
 have hlen:za8 P t (den (rho ν H) (.own b))=some (goInt n):=by
  simp only [den,rho,hr]
  cases s with
  |succ s=>simp [za8,hu]
  |zero=>
   have:=hv.empty b n hr
   subst this
   simp [za8,hu]
 simp only [QM,hlen]
 simp [un1,den,goInt]
def zsM {α:Type}:List α→Bool
 |[]=>false
 |_::_=>true
def zBV (tm:List SV) (H:SH) (x y:Operand):Bool:=match jI tm H x,jI tm H y with
 |some (.lst _ _ _),some .nils=>true
 |_,_=>false
def zCX (P:Program) (tm:List SV) (H:SH) (nx:Nat) (op:BinOp) (t:TypeId) (x y:Operand) (k:KO R):Option R:=match jI tm H x,jI tm H y,ja P t with
 |some (.lst ty l full),some .nils,some (.slice _)=>bif zsM l then (match op with
   |.eql=>k (.bool false) H (nx+1)
   |.neq=>k (.bool true) H (nx+1)
   |_=>none)
  else none
 |_,_,_=>none
theorem zFJ {rd:Option Nat} {o:Oper} {tm:List SV} {H:SH} {nx:Nat} {k:KO R} {r:R} {op:BinOp} {t u:TypeId} {x y:Operand} (ho:o.op=.binOp op t x y u) (h:zCX P tm H nx op t x y k=some r):Zi P rd o tm H nx k r:=by
 unfold zCX at h
 split at h
 case h_2=>cases h
 rename_i ty l full e hx hy hu
 obtain ⟨hc,h⟩:=zE h
 have key:∀b,(op=.eql∧b=false∨op=.neq∧b=true)→k (.bool b) H (nx+1)=some r→Zi P rd o tm H nx k r:=by
  intro b hb h
  refine uD ⟨wc.refl H,wq.refl H,Nat.le_succ _,fun ν hv=>⟨hv.later (Nat.le_succ _),?_⟩⟩ h
  refine XP (Nat.le_succ _) (fun c hc=>by rw [ho] at hc;cases hc) fun φ w K ac g hf ht=>?_
  have hxr:=qd ht (qb hx ν)
  have hyr:=qd ht (qb hy ν)
  simp only [den] at hxr hyr
  generalize hx':ac.eval x=x' at *
  generalize hy':ac.eval y=y' at *
  cases hyr
  obtain ⟨sa,c,e1,e2⟩:=zaJ (s:=sz ty) (es:=(l.map (wu ty)).toArray) (full:=full) (by unfold fzV gY;cases full<;>rfl) hxr
  cases l with
  |nil=>cases hc
  |cons z l=>
  obtain ⟨b0,o0,L,rfl,_⟩:=e2.some_ (by simp)
  subst e1
  have he:=zsw (P:=P) (t:=t) (d:=.slice e) (a:=.slice (some ⟨b0,o0,none⟩) ((z::l).map (wu ty)).toArray.size c) (b:=.slice none 0 0) (r:=false) (by rw [←jr];exact hu) rfl rfl w
  unfold execOp
  simp only [ho]
  rw [hx',hy']
  generalize ((z::l).map (wu ty)).toArray.size=m at he ⊢
  refine Ran.op (Ran.same1 g ⟨.bool b,?_,by simp only [den];exact .bool b⟩)
  rcases hb with ⟨rfl,rfl⟩ | ⟨rfl,rfl⟩
  ·simp [eqGuard,binOp,he]
  ·simp [eqGuard,binOp,he]
 split at h
 ·exact key _ (.inl ⟨rfl,rfl⟩) h
 ·exact key _ (.inr ⟨rfl,rfl⟩) h
 ·cases h
def Gg:(t:Ty)→T t
 |.unit=>()
 |.bool=>false
 |.int _=>0
 |.str=>ByteArray.empty
 |.list _=>[]
 |.pair a b=>(Gg a,Gg b)
def UW:(t:Ty)→List Value→Option (List Value)
 |.unit,cs=>some cs
 |.bool,cs=>match cs with
  |.bool false::r=>some r
  |_=>none
 |.int k,cs=>match cs with
  |.int k' z::r=>bif Yh k k'&&zh z 0 then some r else none
  |_=>none
 |.str,cs=>match cs with
  |.string s::r=>bif Nat.beq s.size 0 then some r else none
  |_=>none
 |.list _,cs=>match cs with
  |.slice none 0 0::r=>some r
  |_=>none
 |.pair a b,cs=>match UW a cs with
  |some r=>UW b r
  |none=>none
theorem zm6:∀(t:Ty) {cs r:List Value},UW t cs=some r→∃c,cs=c++r∧c.length=sz t∧avL c=true∧∀(φ:Ren) us,zC φ c us→zC φ (qq t (Gg t)) us
 |.unit,cs,r,h=>by
  simp only [UW,Option.some.injEq] at h
  subst h
  exact ⟨[],rfl,rfl,rfl,fun φ us h=>h⟩
 |.bool,cs,r,h=>by
  simp only [UW] at h
  split at h
  ·cases h;exact ⟨[.bool false],rfl,rfl,rfl,fun φ us h=>h⟩
  ·cases h
 |.int k,cs,r,h=>by
  simp only [UW] at h
  split at h
  ·obtain ⟨h1,h2⟩:=zE h
   cases h2
   simp only [Bool.and_eq_true] at h1
   have e1:=JZ h1.1
   have e2:=h1.2
   rw [jF] at e2
   simp only [beq_iff_eq] at e2
   subst e1;subst e2
   exact ⟨[.int k 0],rfl,rfl,rfl,fun φ us h=>h⟩
  ·cases h
 |.str,cs,r,h=>by
  simp only [UW] at h
  split at h
  ·rename_i s r'
   obtain ⟨h1,h2⟩:=zE h
   cases h2
   have e1:=Nat.eq_of_beq_eq_true h1
   have:s=ByteArray.empty:=by
    obtain ⟨d⟩:=s
    have:d=#[]:=Array.eq_empty_of_size_eq_zero e1
    subst this;rfl
   subst this
   exact ⟨[.string ByteArray.empty],rfl,rfl,rfl,fun φ us h=>h⟩
  ·cases h
 |.list t,cs,r,h=>by
  simp only [UW] at h
  split at h
  ·cases h
   refine ⟨[.slice none 0 0],rfl,rfl,rfl,fun φ us h=>?_⟩
   match us,h with
   |[],h=>exact h.elim
   |u::us,h=>
    refine ⟨?_,h.2⟩
    have h1:=h.1
    cases h1
    exact .fz0 _ _ _
  ·cases h
 |.pair a b,cs,r,h=>by
  simp only [UW] at h
  split at h
  case h_2=>cases h
  rename_i r1 h1
  obtain ⟨c1,rfl,l1,a1,z1⟩:=zm6 a h1
  obtain ⟨c2,rfl,l2,a2,z2⟩:=zm6 b h
  have happ:∀(a b:List Value),avL a=true→avL b=true→avL (a++b)=true:=by
   intro a b h2 h3
   induction a with
   |nil=>exact h3
   |cons x a ih=>simp only [avL,List.cons_append,Bool.and_eq_true] at h2 ⊢;exact ⟨h2.1,ih h2.2⟩
  refine ⟨c1++c2,by simp,by simp [sz,l1,l2],happ _ _ a1 a2,fun φ us h=>?_⟩
  have hlen:=h.length
  rw [List.length_append] at hlen
  have h3:=h.take c1.length
  have h4:=h.drop c1.length
  rw [List.take_left] at h3
  rw [List.drop_left] at h4
  have:=(z1 φ _ h3).append (z2 φ _ h4)
  rw [List.take_append_drop] at this
  exact this
def zfP (P:Program) (e:TypeId) (ty:Ty):Bool:=match jd P e with
 |some i=>match i.zero with
  |some z=>match UW ty z.cells.toList with
   |some []=>Nat.blt 0 i.size&&Nat.beq (sz ty) i.size
   |_=>false
  |none=>false
 |none=>false
theorem zks {e:TypeId} {ty:Ty} (h:zfP P e ty=true):∃i z,P.info? e=some i∧i.zero=some z∧z.cells.size=i.size∧0 < i.size∧sz ty=i.size∧avL z.cells.toList=true∧∀(φ:Ren) us,zC φ z.cells.toList us→zC φ (qq ty (Gg ty)) us:=by
 unfold zfP at h
 split at h
 case h_2=>cases h
 rename_i i hi
 split at h
 case h_2=>cases h
 rename_i z hz
 split at h
 case h_2=>cases h
 rename_i hc
 simp only [Bool.and_eq_true] at h
 have e2:=zdW h.1
 have e3:=Nat.eq_of_beq_eq_true h.2
 rw [jh] at hi
 obtain ⟨c,h1,h2,h3,h4⟩:=zm6 ty hc
 rw [List.append_nil] at h1
 refine ⟨i,z,hi,hz,?_,e2,e3,by rw [h1];exact h3,fun φ us h=>h4 φ us (by rw [←h1];exact h)⟩
 have:=congrArg List.length h1
 rw [h2,e3] at this
 simpa using this
def zm7 (P:Program):Nat→TypeId→Option Ty
 |0,_=>none
 |n+1,t=>match ja P t with
  |some .bool=>some .bool
  |some (.int k)=>some (.int k)
  |some .string=>some .str
  |some (.slice e)=>match zm7 P n e with
   |some a=>some (.list a)
   |none=>none
  |some (.struct fields)=>fields.toList.foldr (fun f acc=>match zm7 P n f.type,acc with
   |some a,some b=>some (match b with | .unit=>a | b=>.pair a b)
   |_,_=>none) (some .unit)
  |some (.array m e)=>match zm7 P n e with
   |some a=>(List.replicate m a).foldr (fun a acc=>match acc with
    |some b=>some (match b with | .unit=>a | b=>.pair a b)
    |none=>none) (some .unit)
   |none=>none
  |_=>none
theorem zm8 {ν:Nat→Bool} {H:SH} {nx:Nat} {k:SB} (hn:zn H nx=none) (hx:zZ (rho ν ((nx,k)::H)) (ν nx) k=none) (g:zI φ (zG ν H) K w):zI φ (zG ν ((nx,k)::H)) K w:=by
 have h1:RLe (rho ν H) (rho ν ((nx,k)::H)):=zgd ν (kG hn)
 have g1:zI φ (uG ν (rho ν ((nx,k)::H)) H) K w:=zzn (kU ν H) h1 g
 refine g1.sub fun c x hc=>?_
 rw [zS,zJ] at hc
 by_cases hb:nx=c
 ·subst hb
  rw [if_pos rfl] at hc
  simp only [Option.bind_some] at hc
  rw [hx] at hc;cases hc
 ·rw [if_neg hb] at hc
  rw [vj];exact hc
theorem UX {ν:Nat→Bool} {H:SH} {nx:Nat} {nn:Bool} {ty:Ty} {l:List (T ty)} (hn:zn H nx=none) (hv:VN ν nx H) (g:zI φ ((nx,.cells (qa ty l) false)::zG ν H) K w):zI φ (zG ν ((nx,.arr nn ty l)::H)) K w:=by
 cases h:jN nn l with
 |false=>exact zaQ hn (x:=.cells (qa ty l) false) (by simp [zZ,h]) g
 |true=>
  refine zm8 hn (by simp [zZ,h]) (g.sub fun c k hc=>?_)
  have:(nx == c)=false:=by
   rw [beq_eq_false_iff_ne]
   rintro rfl
   rw [zS,hn] at hc;cases hc
  simp [Hp.get_cons,this,hc]
theorem zbe {ν:Nat→Bool} {H:SH} {nx:Nat} {nn:Bool} {ty:Ty} {l:List (T ty)} (hv:VN ν nx H) (hl:jN nn l=false):rho ν ((nx,.arr nn ty l)::H) nx=.slice (some ⟨nx,0,none⟩) l.length (ql+sz ty):=by
 rw [YK ν (nn:=nn) (t:=ty) (l:=l) (by rw [zJ,if_pos rfl];rfl),hl]
 rfl
theorem zsN {ν:Nat→Bool} {H:SH} {nx:Nat} {nn:Bool} {ty:Ty} {l:List (T ty)} (hl:jN nn l=true):rho ν ((nx,.arr nn ty l)::H) nx=.slice none 0 0:=by
 rw [YK ν (nn:=nn) (t:=ty) (l:=l) (by rw [zJ,if_pos rfl];rfl),hl]
 rfl
theorem zBr {H:Hp} {b:Nat} {cs ds:List Value} (g:zI φ ((b,.cells cs false)::H) K w) (h:∀us,zC φ cs us→zC φ ds us) (hl:ds.length=cs.length):zI φ ((b,.cells ds false)::H) K w:=by
 have hget:∀c k,Hp.get ((b,Blk.cells ds false)::H) c=some k→(c=b∧k=.cells ds false∧Hp.get ((b,Blk.cells cs false)::H) c=some (.cells cs false))∨(c≠b∧Hp.get ((b,Blk.cells cs false)::H) c=some k):=by
  intro c k hc
  by_cases hcb:b=c
  ·subst hcb;simp [Hp.get_cons] at hc;exact .inl ⟨rfl,hc.symm,by simp [Hp.get_cons]⟩
  ·simp [Hp.get_cons,hcb] at hc;exact .inr ⟨fun e=>hcb e.symm,by simp [Hp.get_cons,hcb,hc]⟩
 refine ⟨fun c k hc=>?_,fun c d k k' L L' hc hd hne hkr hL hL'=>?_,fun c k L hc hkr hL=>?_,g.kin,g.fz,fun c k L e M hc hkr hL hM=>?_⟩
 ·rcases hget c k hc with ⟨rfl,rfl,h1⟩ | ⟨_,h1⟩
  ·obtain ⟨L,hL,arr,el,fr,e1,e2,e3⟩:=g.rel c _ h1
   have hex:∀j,j < cs.length→∃v',arr[L.off+j]?=some v':=fun j hj=>by
    obtain ⟨v',h2,_⟩:=e2 j cs[j] (by simp)
    exact ⟨v',h2⟩
   have hus:zC φ cs ((List.range cs.length).map fun j=>arr[L.off+j]?.getD undef):=by
    refine zC.of_get (by simp) fun i v v' hv hv'=>?_
    obtain ⟨u,h2,h3⟩:=e2 i v hv
    have hi:i < cs.length:=(List.getElem?_eq_some_iff.1 hv).1
    simp [hi,h2] at hv'
    subst hv';exact h3
   refine ⟨L,hL,arr,el,fr,e1,fun j v hv=>?_,e3⟩
   have hj:j < cs.length:=by have:=(List.getElem?_eq_some_iff.1 hv).1;omega
   obtain ⟨v',h2⟩:=hex j hj
   obtain ⟨u,h3,h4⟩:=(h _ hus).get hv
   simp [hj,h2] at h3
   subst h3
   exact ⟨_,h2,h4⟩
  ·exact g.rel c k h1
 ·rcases hget c k hc with ⟨rfl,rfl,h1⟩ | ⟨_,h1⟩
  ·rcases hget d k' hd with ⟨rfl,_⟩ | ⟨_,h2⟩
   ·exact absurd rfl hne
   ·exact g.sep c d _ k' L L' h1 h2 hne rfl hL hL'
  ·rcases hget d k' hd with ⟨rfl,rfl,h2⟩ | ⟨_,h2⟩
   ·exact g.sep c d k _ L L' h1 h2 hne hkr hL hL'
   ·exact g.sep c d k k' L L' h1 h2 hne hkr hL hL'
 ·rcases hget c k hc with ⟨rfl,rfl,h1⟩ | ⟨_,h1⟩
  ·exact g.prot c _ L h1 rfl hL
  ·exact g.prot c k L h1 hkr hL
 ·rcases hget c k hc with ⟨rfl,rfl,h1⟩ | ⟨_,h1⟩
  ·exact g.fsep c _ L e M h1 rfl hL hM
  ·exact g.fsep c k L e M h1 hkr hL hM
def ziA (zl zc:Int) (bytes:Nat):Bool:=!zj zl 0&&(!zj zc zl&&!zj 281474976710656 ((bytes:Int)*zc))
def zCY (P:Program) (tm:List SV) (H:SH) (nx:Nat) (t:TypeId) (l c:Operand) (k:KO R):Option R:=match jI tm H l,jI tm H c with
 |some (.int _ zl),some (.int _ zc)=>match ja P t with
  |some (.slice e)=>match jd P e,zm7 P 20 e with
   |some ie,some ty=>bif zfP P e ty&&Nat.blt 0 ie.bytes then match YL H nx (.arr true ty (List.replicate zl.toNat (Gg ty))) with
     |some H'=>bif ziA zl zc ie.bytes then k (.own nx) H' (nx+1) else none
     |none=>none
    else none
   |_,_=>none
  |_=>none
 |_,_=>none
theorem zsO (ty:Ty) (x:T ty) (n:Nat):qa ty (List.replicate n x)=(List.replicate n (qq ty x)).flatten:=by
 induction n with
 |zero=>rfl
 |succ n ih=>
  rw [List.replicate_succ,List.replicate_succ,List.flatten_cons,←ih];rfl
theorem zjl {a b:List Value} (h:∀us,zC φ a us→zC φ b us) (hl:b.length=a.length):∀(n:Nat) us,zC φ (List.replicate n a).flatten us→zC φ (List.replicate n b).flatten us
 |0,us,hr=>hr
 |n+1,us,hr=>by
  rw [List.replicate_succ,List.flatten_cons] at hr ⊢
  have h3:=hr.take a.length
  have h4:=hr.drop a.length
  rw [List.take_left] at h3
  rw [List.drop_left] at h4
  have:=(h _ h3).append (zjl h hl n _ h4)
  rw [List.take_append_drop] at this
  exact this
theorem zFK {rd:Option Nat} {o:Oper} {tm:List SV} {H:SH} {nx:Nat} {k:KO R} {r:R} {t:TypeId} {l c:Operand} (ho:o.op=.makeSlice t l c) (h:zCY P tm H nx t l c k=some r):Zi P rd o tm H nx k r:=by
 unfold zCY at h
 split at h
 case h_2=>cases h
 rename_i kl zl kc zc hl hc
 split at h
 case h_2=>cases h
 rename_i e hu
 split at h
 case h_2=>cases h
 rename_i ie ty hie hty
 have h6:=zE h
 clear h
 obtain ⟨hh,h⟩:=h6
 simp only [Bool.and_eq_true] at hh
 split at h
 case h_2=>cases h
 rename_i H1 hn
 have h6:=zE h
 clear h
 obtain ⟨hm,h⟩:=h6
 obtain ⟨hn1,rfl⟩:=um hn
 obtain ⟨ie',z,e1,e2,e3,e4,e5,e6,e7⟩:=zks hh.1
 rw [jh] at hie
 rw [jr] at hu
 rw [hie] at e1;cases e1
 have hbp:=zdW hh.2
 simp only [ziA,Bool.and_eq_true,Bool.not_eq_true',xl,decide_eq_false_iff_not,Int.not_lt] at hm
 obtain ⟨m1,m2,m3⟩:=hm
 have hzc:zc≤281474976710656:=by
  have:(1:Int)*zc≤(ie.bytes:Int)*zc:=Int.mul_le_mul_of_nonneg_right (by omega) (by omega)
  omega
 refine uD ⟨kG hn1,gP hn1,Nat.le_succ _,fun ν hv=>⟨YM hv,?_⟩⟩ h
 refine XP (Nat.le_succ _) (fun c hc=>by rw [ho] at hc;cases hc) fun φ w K a g hf ht=>?_
 have hl':=qd ht (qb hl ν)
 have hc':=qd ht (qb hc ν)
 simp only [den] at hl' hc'
 unfold execOp
 simp only [ho]
 generalize a.eval l=ul at hl'
 generalize a.eval c=uc at hc'
 cases hl'
 cases hc'
 have hfr:=hf.at (Nat.le_refl nx) (Nat.lt_succ_self nx)
 obtain ⟨v',w',φ',r1,r2,r3,r4,r5⟩:=zBq (P:=P) (kl:=kl) (kc:=kc) g hfr.1 hfr.2 hu hie e2 (Go.IntWalk.i64_in _ (by omega)) (Go.IntWalk.i64_in _ (by omega)) m1 m2 m3 (by omega) e3 e6 rfl
 refine Ran.op ⟨v',w',φ',r1,?_,r3,?_,r5,Nat.le_succ _⟩
 ·simp only [den]
  rw [zbe hv rfl,List.length_replicate,e5]
  exact r2
 ·refine UX hn1 hv ?_
  refine zBr r4 ?_ ?_
  ·rw [zsO]
   exact zjl (e7 φ') (by rw [jB,e5,Array.length_toList,e3]) _
  ·rw [WQ,List.length_replicate,e5]
   simp [e3]
theorem zzz {s:Nat}:∀(us:List Value) (j:Nat) (arr:Array Value),(∀u∈us,u.cells.size=s)→arr.size=(j+us.length)*s→
  Instr.fill (fun i=>some (i*s,s)) arr ((us.zipIdx j).map fun p=>(p.2,p.1))=some (arr.toList.take (j*s)++us.flatMap fun u=>u.cells.toList).toArray
 |[],j,arr,_,hl=>by
  simp only [List.zipIdx_nil,List.map_nil,Instr.fill,List.flatMap_nil,List.append_nil,Option.some.injEq]
  apply Array.ext'
  rw [List.take_of_length_le (by simp at hl ⊢;omega)]
 |u::us,j,arr,hu,hl=>by
  have h1:=hu u (by simp)
  have hl2:arr.size=j*s+s+us.length*s:=by
   rw [hl,List.length_cons,Nat.add_mul,Nat.add_mul];omega
  simp only [List.zipIdx_cons,List.map_cons,Instr.fill]
  rw [if_neg (by simp [h1];omega)]
  have hf:=zm5 u.cells.toList 0 (j*s) arr (by simp [h1];omega)
  rw [←Array.foldl_toList,Array.toList_zipIdx]
  rw [zzz us (j+1) _ (fun x hx=>hu x (by simp [hx])) (by
   have:=congrArg List.length hf
   rw [zCr _ _ _ (by simp [h1];omega)] at this
   simp only [Array.length_toList] at this
   rw [this,hl2,Nat.add_mul,Nat.add_mul];omega)]
  rw [hf,List.flatMap_cons,←List.append_assoc]
  congr 3
  unfold spl
  have e1:(j+1)*s=j*s+s:=by rw [Nat.add_mul,Nat.one_mul]
  rw [List.take_left' (by simp [h1];omega),Nat.add_zero]
def zzA (vt:VT):List (Nat×SV)→Nat→SH→Option (List (T vt.ty)×SH)
 |[],_,H=>some ([],H)
 |(j,v)::r,i,H=>bif Nat.beq i j then match cvV vt v H with
  |some (x,H1)=>match zzA vt r (i+1) H1 with
   |some (xs,H2)=>some (x::xs,H2)
   |none=>none
  |none=>none
  else none
theorem zBW {vt:VT}:∀{ps:List (Nat×SV)} {i:Nat} {H H':SH} {xs:List (T vt.ty)},zzA vt ps i H=some (xs,H')→xn H H'∧xs.length=ps.length∧
  ∀
   ν G,GLe H' G→∀(φ:Ren) (K:Nat→Prop) (w:World) (nx:Nat) (qs:List (Nat×Value)),zI φ (zG ν G) K w→VN ν nx G→zqC φ (ps.map fun p=>(p.1,den (rho ν H) p.2)) qs→
   ∃us:List Value,qs=(us.zipIdx i).map (fun p=>(p.2,p.1))∧us.length=xs.length∧∀(j:Nat) u x,us[j]?=some u→xs[j]?=some x→zt φ (den (fun _=>bad) (mkV vt x)) u
 |[],i,H,H',xs,h=>by
  simp only [zzA,Option.some.injEq,Prod.mk.injEq] at h
  obtain ⟨rfl,rfl⟩:=h
  refine ⟨xn.refl _,rfl,fun ν G hG φ K w nx qs g hv hp=>?_⟩
  cases qs with
  |nil=>exact ⟨[],rfl,rfl,fun j u x h=>by simp at h⟩
  |cons q qs=>exact hp.elim
 |(j0,v)::r,i,H,H',xs,h=>by
  simp only [zzA] at h
  have h6:=zE h
  clear h
  obtain ⟨hb,h⟩:=h6
  have hj:=Nat.eq_of_beq_eq_true hb
  clear hb
  subst hj
  split at h
  case h_2=>cases h
  rename_i x H1 h1
  split at h
  case h_2=>cases h
  rename_i ys H2 h2
  cases h
  obtain ⟨g1,r1⟩:=zsG h1
  obtain ⟨g2,l2,r2⟩:=zBW h2
  refine ⟨g1.trans g2,by simp [l2],fun ν G hG φ K w nx qs g hv hp=>?_⟩
  cases qs with
  |nil=>exact hp.elim
  |cons q qs=>
   obtain ⟨e1,e2,e3⟩:=hp
   obtain ⟨q1,q2⟩:=q
   dsimp only at e1 e2
   subst e1
   rw [←g1.1.rho ν] at e3
   obtain ⟨us,f1,f2,f3⟩:=r2 ν G hG φ K w nx qs g hv e3
   have f4:=r1 ν G (g2.1.trans hG) φ K w nx q2 g hv e2 (fun _=>bad)
   refine ⟨q2::us,by simp [f1],by simp [f2],fun j u y hu hy=>?_⟩
   cases j with
   |zero=>simp at hu hy;subst hu;subst hy;exact f4
   |succ j=>simp at hu hy;exact f3 j u y hu hy
theorem zEh {vt:VT} {x:T vt.ty} {u:Value} (hagg:vt.agg=false→sz vt.ty=1) (h:zt φ (den (fun _=>bad) (mkV vt x)) u):zC φ (qq vt.ty x) u.cells.toList:=by
 obtain ⟨ag,ty⟩:=vt
 cases ag with
 |true=>
  simp only [mkV,cond_true,den] at h
  obtain ⟨ys,rfl,hl⟩:=h.agg_inv
  simpa [qw,yi,Value.cells] using hl
 |false=>
  simp only [mkV,cond_false] at h
  have h1:=XN ty x
  rw [hagg rfl] at h1
  have h2:=yi (fun _=>bad) ty x
  match he:yw ty x,h1 with
  |[v],_=>
   rw [he] at h h2
   simp only [mk1,List.map_cons,List.map_nil] at h h2
   rw [←h2]
   have h3:=h.one
   have h4:(den (fun _=>bad) v).oneCell'=true:=by
    have:∀(t:Ty) (y:T t) (c:Value),c∈qq t y→c.oneCell'=true:=by
     intro t
     induction t with
     |unit=>intro y c hc;simp [qq] at hc
     |bool=>intro y c hc;simp [qq] at hc;subst hc;rfl
     |int k=>intro y c hc;simp [qq] at hc;subst hc;rfl
     |str=>intro y c hc;simp [qq] at hc;subst hc;rfl
     |list t ih=>intro y c hc;simp [qq] at hc;subst hc;rfl
     |pair a b iha ihb=>
      intro y c hc
      simp only [qq,List.mem_append] at hc
      rcases hc with hc | hc
      ·exact iha _ _ hc
      ·exact ihb _ _ hc
    refine this ty x _ ?_
    rw [←h2];simp
   rw [zmJ (by rw [h3];exact h4)]
   exact ⟨h,trivial⟩
theorem zwS {ty:Ty}:∀{xs:List (T ty)} {us:List Value},us.length=xs.length→(∀(j:Nat) u x,us[j]?=some u→xs[j]?=some x→zC φ (qq ty x) u.cells.toList)→zC φ (qa ty xs) (us.flatMap fun u=>u.cells.toList)
 |[],[],_,_=>trivial
 |x::xs,u::us,hl,h=>by
  have h1:=h 0 u x rfl rfl
  have h2:=zwS (xs:=xs) (us:=us) (by simpa using hl) fun j u x hu hx=>h (j+1) u x (by simpa using hu) (by simpa using hx)
  simp only [List.flatMap_cons]
  exact h1.append h2
 |[],_::_,hl,_=>by simp at hl
 |_::_,[],hl,_=>by simp at hl
def zFL (P:Program) (tm:List SV) (H:SH) (nx:Nat) (t:TypeId) (n:Nat) (ps:List (Nat×Operand)) (k:KO R):Option R:=match zdY tm H ps,ja P t with
 |some vs,some (.slice e)=>match jd P e,zm7 P 20 e,ja P e with
  |some ie,some ty,some d=>bif Nat.beq n vs.length&&(Nat.ble (n*ie.size) 16777216&&(zfP P e ty&&(JV d||Nat.beq (sz ty) 1))) then
    match zzA ⟨JV d,ty⟩ vs 0 H with
    |some (xs,H1)=>match YL H1 nx (.arr true ty xs) with
     |some H2=>k (.own nx) H2 (nx+1)
     |none=>none
    |none=>none
   else none
  |_,_,_=>none
 |_,_=>none
theorem zCZ {tm:List SV} {H:SH} {ν:Nat→Bool} {a:Act} (ht:qO φ (zu (rho ν H) tm) a.tmps) {ps:List (Nat×Operand)} {vs:List (Nat×SV)} (h:zdY tm H ps=some vs):zqC φ (vs.map fun p=>(p.1,den (rho ν H) p.2)) (ps.map fun p=>(p.1,a.eval p.2)):=
 zfD ht (zfN ν h)
theorem zHp {rd:Option Nat} {o:Oper} {tm:List SV} {H:SH} {nx:Nat} {k:KO R} {r:R} {t:TypeId} {n:Nat} {ps:Array (Nat×Operand)} (ho:o.op=.buildSlice t n ps) (h:zFL P tm H nx t n ps.toList k=some r):Zi P rd o tm H nx k r:=by
 unfold zFL at h
 split at h
 case h_2=>cases h
 rename_i vs e hvs hu
 split at h
 case h_2=>cases h
 rename_i ie ty d hie hty hd
 have h6:=zE h
 clear h
 obtain ⟨hh,h⟩:=h6
 simp only [Bool.and_eq_true,Bool.or_eq_true] at hh
 obtain ⟨c1,c2,c3,c4⟩:=hh
 have c1:=Nat.eq_of_beq_eq_true c1
 have c2:=Nat.le_of_ble_eq_true c2
 split at h
 case h_2=>cases h
 rename_i xs H1 hl
 split at h
 case h_2=>cases h
 rename_i H2 hn
 obtain ⟨hn1,rfl⟩:=um hn
 obtain ⟨hg,hxl,hrel⟩:=zBW hl
 obtain ⟨ie',z,e1,e2,e3,e4,e5,e6,e7⟩:=zks c3
 rw [jh] at hie
 rw [jr] at hu
 rw [hie] at e1;cases e1
 have hxn:xs.length=n:=by rw [hxl,c1]
 refine uD ⟨hg.1.regLe.trans (kG hn1),hg.1.lkeep.trans (gP hn1),Nat.le_succ _,fun ν hv=>⟨YM (hg.1.vn hv),zkq hg ?_⟩⟩ h
 have hv1:=hg.1.vn hv
 refine XP (Nat.le_succ _) (fun c hc=>by rw [ho] at hc;cases hc) fun φ w K a g hf ht=>?_
 have hp:=zCZ ht hvs
 obtain ⟨us,f1,f2,f3⟩:=hrel ν H1 (GLe.refl _) φ K w nx _ g hv1 hp
 have hcell:∀(j:Nat) u x,us[j]?=some u→xs[j]?=some x→zC φ (qq ty x) u.cells.toList:=fun j u x hu hx=>zEh (vt:=⟨JV d,ty⟩) (fun hagg=>by
  dsimp only at hagg
  rw [hagg] at c4
  rcases c4 with c4 | c4
  ·cases c4
  ·exact Nat.eq_of_beq_eq_true c4) (f3 j u x hu hx)
 have hsize:∀u∈us,u.cells.size=ie.size:=fun u hu=>by
  obtain ⟨j,hj⟩:=List.getElem?_of_mem hu
  have hjl:j < xs.length:=by have:=(List.getElem?_eq_some_iff.1 hj).1;omega
  have:=(hcell j u xs[j] hj (by simp)).length
  rw [jB,e5] at this
  simpa using this.symm
 have hfr:=hf.at (Nat.le_refl nx) (Nat.lt_succ_self nx)
 have hrl:=zwS f2 hcell
 have hlim:(us.flatMap fun u=>u.cells.toList).length=n*ie.size:=by
  rw [←hrl.length,WQ,hxn,e5]
 have hg2:=g.make hfr.1 hfr.2 hrl e (n*ie.size) [] (by rw [hlim];omega)
 simp only [List.append_nil] at hg2
 unfold execOp
 simp only [ho]
 refine Ran.op ⟨.slice (some ⟨w.heap.size,0,none⟩) n n,w.alloc (.cells (us.flatMap fun u=>u.cells.toList).toArray e),φ.put nx ⟨w.heap.size,0,n*ie.size,#[]⟩,?_,?_,Ext.put hfr.1 hfr.2 _,UX hn1 hv1 hg2,qz.alloc g _,Nat.le_succ _⟩
 ·have hq:ps.toList.map (fun p=>(p.1,a.eval p.2))=us.zipIdx.map fun p=>(p.2,p.1):=f1
  have hfill:∀arr:Array Value,arr.size=n*ie.size→Instr.fill (fun i=>some (i*ie.size,ie.size)) arr (us.zipIdx.map fun p=>(p.2,p.1))=some (us.flatMap fun u=>u.cells.toList).toArray:=fun arr ha=>by
   have:=zzz us 0 arr hsize (by rw [ha,Nat.zero_add,f2,hxn])
   simpa using this
  have h24:¬(n*ie.size > 2 ^ 24):=by omega
  by_cases h0:n*ie.size=0
  ·have:=hfill #[] (by simp [h0])
   simp [Instr.buildSlice,run_underlying hu,qA hie,h0,zmK,hq,this,newRow]
  ·have:=hfill ((Array.range (n*ie.size)).map (z.cells[· % z.cells.size]!)) (by simp)
   simp [Instr.buildSlice,run_underlying hu,qA hie,h0,vH hie e2,hq,newRow] at this h24 ⊢
   simp [h24,this]
 ·simp only [den]
  rw [zbe hv1 rfl,hxn,e5]
  have:=zt.slO (φ:=φ.put nx ⟨w.heap.size,0,n*ie.size,#[]⟩) nx 0 n (ql+ie.size) n _ (Ren.put_same _ _ _) (by omega) (Nat.le_refl _) (by simp)
  simpa using this
theorem zzB:∀(t:Ty) {l:List SV} {H:SH} {x:T t} {r:List SV} {H':SH},cvC t l H=some (x,r,H')→l.length=sz t+r.length∧(∀j,j+sz t < l.length→r[j]?=l[j+sz t]?)∧∀(y:T t) j,j < sz t→l[j]?=(yw t y)[j]?→(qq t x)[j]?=(qq t y)[j]?
 |.unit,l,H,x,r,H',h=>by
  simp only [cvC] at h
  cases h
  exact ⟨by simp [sz],fun j _=>by simp [sz],fun y j hj=>by simp [sz] at hj⟩
 |.bool,l,H,x,r,H',h=>by
  simp only [cvC] at h
  split at h
  ·cases h
   refine ⟨by simp [sz];omega,fun j _=>by simp [sz],fun y j hj hl=>?_⟩
   simp only [sz,Nat.lt_one_iff] at hj
   subst hj
   simp only [yw,List.getElem?_cons_zero,Option.some.injEq,SV.bool.injEq] at hl
   subst hl;rfl
  ·cases h
 |.int k,l,H,x,r,H',h=>by
  simp only [cvC] at h
  split at h
  ·obtain ⟨h1,h2⟩:=zE h
   cases h2
   refine ⟨by simp [sz];omega,fun j _=>by simp [sz],fun y j hj hl=>?_⟩
   simp only [sz,Nat.lt_one_iff] at hj
   subst hj
   simp only [yw,List.getElem?_cons_zero,Option.some.injEq,SV.int.injEq] at hl
   obtain ⟨_,rfl⟩:=hl;rfl
  ·cases h
 |.str,l,H,x,r,H',h=>by
  simp only [cvC] at h
  split at h
  ·cases h
   refine ⟨by simp [sz];omega,fun j _=>by simp [sz],fun y j hj hl=>?_⟩
   simp only [sz,Nat.lt_one_iff] at hj
   subst hj
   simp only [yw,List.getElem?_cons_zero,Option.some.injEq,SV.str.injEq] at hl
   subst hl;rfl
  ·cases h
 |.list t,l,H,x,r,H',h=>by
  simp only [cvC] at h
  split at h
  ·rename_i t' y0 full r'
   split at h
   ·rename_i ht
    subst ht
    cases h
    refine ⟨by simp [sz];omega,fun j _=>by simp [sz],fun y j hj hl=>?_⟩
    simp only [sz,Nat.lt_one_iff] at hj
    subst hj
    simp only [yw,List.getElem?_cons_zero,Option.some.injEq,SV.lst.injEq] at hl
    obtain ⟨_,h3,_⟩:=hl
    have:=eq_of_heq h3
    subst this
    rfl
   ·cases h
  ·cases h
   refine ⟨by simp [sz];omega,fun j _=>by simp [sz],fun y j hj hl=>?_⟩
   simp only [sz,Nat.lt_one_iff] at hj
   subst hj
   simp [yw] at hl
  ·split at h
   ·split at h
    ·obtain ⟨_,h2⟩:=zE h
     cases h2
     refine ⟨by simp [sz];omega,fun j _=>by simp [sz],fun y j hj hl=>?_⟩
     simp only [sz,Nat.lt_one_iff] at hj
     subst hj
     simp [yw] at hl
    ·cases h
   ·split at h
    ·obtain ⟨_,h2⟩:=zE h
     cases h2
     refine ⟨by simp [sz];omega,fun j _=>by simp [sz],fun y j hj hl=>?_⟩
     simp only [sz,Nat.lt_one_iff] at hj
     subst hj
     simp [yw] at hl
    ·cases h
   ·cases h
  ·cases h
 |.pair a b,l,H,x,r,H',h=>by
  simp only [cvC] at h
  split at h
  case h_2=>cases h
  rename_i x1 l1 H1 h1
  split at h
  case h_2=>cases h
  rename_i y l2 H2 h2
  cases h
  obtain ⟨e1,e2,e3⟩:=zzB a h1
  obtain ⟨f1,f2,f3⟩:=zzB b h2
  refine ⟨by simp only [sz];omega,fun j hj=>?_,fun y' j hj hl=>?_⟩
  ·simp only [sz] at hj ⊢
   rw [f2 j (by omega),e2 (j+sz b) (by omega)]
   congr 1;omega
  ·simp only [yw] at hl
   simp only [qq]
   by_cases hja:j < sz a
   ·rw [List.getElem?_append_left (by rw [XN];exact hja)] at hl
    rw [List.getElem?_append_left (by rw [jB];exact hja),List.getElem?_append_left (by rw [jB];exact hja)]
    exact e3 y'.1 j hja hl
   ·rw [List.getElem?_append_right (by rw [XN];omega),XN] at hl
    rw [List.getElem?_append_right (by rw [jB];omega),List.getElem?_append_right (by rw [jB];omega),jB,jB]
    simp only [sz] at hj
    refine f3 y'.2 (j - sz a) (by omega) ?_
    rw [e2 (j - sz a) (by omega)]
    rw [show j - sz a+sz a=j by omega]
    exact hl
def zC0 (P:Program) (tm:List SV) (H:SH) (nx:Nat) (t:TypeId) (a x:Operand) (k:KO R):Option R:=match jI tm H a,jI tm H x with
 |some (.elp b s i off),some v=>match zn H b,jd P t with
  |some (.arr nn ty l),some inf=>bif Nat.beq s (sz ty)&&(zhX v&&(zqR (Kz v) inf.size&&(zzp (Kz v)&&(Nat.ble (off+inf.size) (sz ty)&&Nat.blt 0 inf.size)))) then
    opt (gl l i) fun y=>match cvC ty (zm3 (yw ty y) off (Kz v)) H with
     |some (y',[],H1)=>match zn H1 b with
      |some (.arr _ _ _)=>k (.tup []) (wK H1 b (.arr nn ty (l.set i y'))) nx
      |_=>none
     |_=>none
   else none
  |_,_=>none
 |_,_=>none
theorem zzC (cs:List SV) (o:Nat) (vs:List SV) (h:o+vs.length≤cs.length) (j:Nat) (hj:j < o∨o+vs.length≤j):(zm3 cs o vs)[j]?=cs[j]?:=by
 unfold zm3
 have hm:(cs.take o).length=o:=by simp;omega
 rcases hj with hj | hj
 ·rw [List.append_assoc,List.getElem?_append_left (by omega),List.getElem?_take,if_pos hj]
 ·rw [List.getElem?_append_right (by simp;omega),List.getElem?_drop]
  congr 1;simp;omega
theorem zqT:∀(t:Ty) (y:T t) (c:Value),c∈qq t y→c.oneCell'=true:=by
 intro t
 induction t with
 |unit=>intro y c hc;simp [qq] at hc
 |bool=>intro y c hc;simp [qq] at hc;subst hc;rfl
 |int k=>intro y c hc;simp [qq] at hc;subst hc;rfl
 |str=>intro y c hc;simp [qq] at hc;subst hc;rfl
 |list t ih=>intro y c hc;simp [qq] at hc;subst hc;rfl
 |pair a b iha ihb=>
  intro y c hc
  simp only [qq,List.mem_append] at hc
  rcases hc with hc | hc
  ·exact iha _ _ hc
  ·exact ihb _ _ hc
theorem zo1:∀{l:List Value},(∀c∈l,c.oneCell'=true)→Yg l=true
 |[],_=>rfl
 |x::l,h=>by simp only [Yg,h x (by simp),zo1 (l:=l) fun c hc=>h c (by simp [hc]),Bool.and_self]
theorem zHq {cs us:List Value} {o:Nat} {vs ys:List Value} (h:zC φ cs us) (hv:zC φ vs ys):zC φ (spl cs o vs) (spl us o ys):=by
 unfold spl
 rw [←hv.length]
 exact ((h.take o).append hv).append (h.drop _)
theorem zFM {rd:Option Nat} {o:Oper} {tm:List SV} {H:SH} {nx:Nat} {k:KO R} {r:R} {t:TypeId} {ao xo:Operand} (ho:o.op=.store t ao xo) (h:zC0 P tm H nx t ao xo k=some r):Zi P rd o tm H nx k r:=by
 unfold zC0 at h
 split at h
 case h_2=>cases h
 rename_i b s i off v ha hx
 split at h
 case h_2=>cases h
 rename_i nn ty l inf hb hi
 have h6:=zE h
 clear h
 obtain ⟨hh,h⟩:=h6
 simp only [Bool.and_eq_true] at hh
 obtain ⟨c1,c2,c3,c4,c5,c6⟩:=hh
 have c1:=Nat.eq_of_beq_eq_true c1
 have c3:=zf1 c3
 have c5:=Nat.le_of_ble_eq_true c5
 have c6:=zdW c6
 subst c1
 have h6:=Jh h
 clear h
 obtain ⟨y,hy,h⟩:=h6
 rw [xm] at hy
 split at h
 case h_2=>cases h
 rename_i y' H1 hcv
 split at h
 case h_2=>cases h
 rename_i nn1 ty1 l1 hb1
 obtain ⟨cs0,he0,hg,hcr⟩:=zbd ty hcv
 simp only [List.append_nil] at he0
 have hb1':zn H1 b=some (.arr nn ty l):=by
  rcases hg.1 b with h1 | ⟨nn2,t2,l2,h1,h2⟩
  ·rw [h1,hb]
  ·rw [h2] at hb1;cases hb1
 have hlt:i < l.length:=(List.getElem?_eq_some_iff.1 hy).1
 have hreg:∀c,reg (zn (wK H1 b (.arr nn ty (l.set i y'))) c)=reg (zn H1 c):=fun c=>by
  rw [qQ]
  by_cases hc:c=b
  ·subst hc;simp [hb1',reg,rsz,zzh]
  ·rw [if_neg hc]
 have hnn:∀c,jg (zn (wK H1 b (.arr nn ty (l.set i y'))) c)=true→jg (zn H1 c)=true:=fun c hc=>by
  rw [qQ] at hc
  by_cases hcb:c=b
  ·subst hcb;simpa [hb1',jg] using hc
  ·rwa [if_neg hcb] at hc
 refine uD ⟨hg.1.regLe.trans (fun c z hz=>by rw [hreg c];exact hz),hg.1.lkeep.trans (zaP hb1' (fun L=>by simp)),Nat.le_refl _,fun ν hv=>⟨Je hreg hnn (hg.1.vn hv),zkq hg ?_⟩⟩ h
 have hv1:=hg.1.vn hv
 have hn:jN nn l=false:=zji (fun h=>by subst h;simp at hlt)
 have hd:(zG ν H1).get b=some (.cells (qa ty l) false):=by rw [zS,hb1'];simp [zZ,hn]
 refine XP (Nat.le_refl _) (fun c hc=>by rw [ho] at hc;cases hc) fun φ w K a' g hf ht=>?_
 have har:=qd ht (qb ha ν)
 have hxr:=qd ht (qb hx ν)
 simp only [den] at har
 generalize hx':a'.eval xo=x' at hxr
 obtain ⟨s1,s2⟩:=XO (ν:=ν) (H:=H) c2
 have hcells:=hxr.cells' s2
 rw [s1] at hcells
 have hlen0:off+(Kz v).length≤(yw ty y).length:=by rw [XN,c3];exact c5
 obtain ⟨L,hL⟩:=g.named hd
 obtain ⟨p1,p2⟩:=zfL ty l (k:=0) (n:=sz ty) hy (by omega)
 rw [Nat.add_zero] at p1 p2
 have p3:(qq ty y).take (sz ty)=qq ty y:=List.take_of_length_le (by rw [jB];omega)
 rw [List.drop_zero,p3] at p2
 obtain ⟨uy,hul,_,hur⟩:=g.read hd hL (i*sz ty) (sz ty) p1
 rw [p2] at hur
 have hxl:x'.cells.toList.length=inf.size:=by rw [←hcells.length,wh,c3]
 have hnew:zC φ (qq ty y') (spl uy off x'.cells.toList):=by
  refine hcr ν H1 (GLe.refl _) φ K w nx _ g hv1 ?_
  rw [←he0,zqQ]
  refine zHq ?_ hcells
  rw [qw,yi];exact hur
 have hvs:zC φ (((qq ty y').drop off).take inf.size) x'.cells.toList:=by
  have h1:=(hnew.drop off).take inf.size
  have h2:((spl uy off x'.cells.toList).drop off).take inf.size=x'.cells.toList:=by
   unfold spl
   have e1:(uy.take off).length=off:=by simp;omega
   rw [List.append_assoc,List.drop_left' e1,List.take_left' hxl]
  rwa [h2] at h1
 have hvl:(((qq ty y').drop off).take inf.size).length=inf.size:=by rw [hvs.length,hxl]
 have hone:Yg (((qq ty y').drop off).take inf.size)=true:=zo1 fun c hc=>zqT ty y' c (List.mem_of_mem_drop (List.mem_of_mem_take hc))
 have hy2:qq ty y'=spl (qq ty y) off (((qq ty y').drop off).take inf.size):=by
  apply List.ext_getElem?
  intro j
  rw [zfZ _ _ _ (by rw [hvl,jB];exact c5),hvl]
  obtain ⟨q1,_,q3⟩:=zzB ty hcv
  by_cases h1:j < off
  ·rw [if_pos h1]
   refine q3 y j (by omega) ?_
   exact zzC _ _ _ hlen0 j (.inl h1)
  ·rw [if_neg h1]
   by_cases h2:j < off+inf.size
   ·rw [if_pos h2,List.getElem?_take,if_pos (by omega),List.getElem?_drop]
    congr 1;omega
   ·rw [if_neg h2]
    by_cases h3:j < sz ty
    ·refine q3 y j h3 ?_
     exact zzC _ _ _ hlen0 j (.inr (by omega))
    ·rw [List.getElem?_eq_none (by rw [jB];omega),List.getElem?_eq_none (by rw [jB];omega)]
 have hset:=zD3 ty l (k:=off) hy (by rw [hvl];exact c5) hy2
 obtain ⟨w',hst,hg2,hw2⟩:=g.write P hd hL (i*sz ty+off) (by rw [hvl];have:=(zfL ty l (k:=off) (n:=inf.size) hy c5).1;omega) hone hvs (by intro h0;rw [h0] at hvl;simp at hvl;omega)
 rw [hset] at hg2
 rw [jh] at hi
 unfold execOp
 simp only [ho]
 generalize a'.eval ao=ua at har
 cases har with
 |ptr _ _ L2 hL2=>
  rw [hL] at hL2;cases hL2
  refine zfE ⟨w',?_,?_,hw2⟩
  ·simp only [Instr.storeAt,Instr.sureAddr,storeVar]
   have hsz:x'.cells.size=inf.size:=by simpa using hxl
   rw [hx']
   simp [qA hi,hsz]
   exact hst
  ·refine hg2.sub fun c k hc=>?_
   rw [zS,qQ,xg hreg] at hc
   rw [Hp.get_set]
   by_cases hcb:c=b
   ·subst hcb
    simp [hb1',zZ,zzh,hn] at hc
    rw [if_pos rfl,hd]
    simp [hc]
   ·rw [if_neg hcb] at hc ⊢
    rw [zS];exact hc
theorem zFN {rd:Option Nat} {o:Oper} {tm:List SV} {H:SH} {nx:Nat} {cs:List SV} {v:SV} (hn:zn H nx=none)
  (h:∀ν,jZ P (zu (rho ν H) tm) (zG ν H) nx o=some (den (rho ν ((nx,.vars cs)::H)) v,(nx,.cells (zu (rho ν H) cs) false)::zG ν H,nx+1)):SOp P rd o tm H nx v ((nx,.vars cs)::H) (nx+1):=by
 refine ⟨kG hn,gP hn,Nat.le_succ _,fun ν hv=>⟨YM hv,WR (kT (h ν)) (fun φ v' hv=>hv) (fun φ K w g=>?_)⟩⟩
 have hr:rho ν ((nx,.vars cs)::H)=rho ν H:=xg (fun c=>by
  rw [zJ]
  by_cases hc:nx=c
  ·subst hc;simp [hn,reg]
  ·rw [if_neg hc]) ν
 refine zaQ hn (x:=.cells (zu (rho ν H) cs) false) ?_ g
 simp [zZ,hr]
def isNone {α:Type}:Option α→Bool
 |none=>true
 |some _=>false
def zFO (P:Program) (tm:List SV) (H:SH) (nx:Nat) (t:TypeId) (n:Nat) (ps:List (Nat×Operand)):Option (SV×SH):=match zdY tm H ps,ja P t with
 |some vs,some (.slice e)=>match jd P e with
  |some ie=>match ie.zero with
   |some z=>match zqL z with
    |some zs=>bif isNone (zm7 P 20 e)&&(Nat.beq ie.size 1&&Nat.ble n 1000) then match zkr (fun i=>some (i*ie.size,ie.size)) (List.replicate n zs) vs with
     |some cs=>match YL H nx (.vars cs) with
      |some H'=>some (.slv nx n,H')
      |none=>none
     |none=>none
     else none
    |none=>none
   |none=>none
  |none=>none
 |_,_=>none
theorem zHr {rd:Option Nat} {o:Oper} {tm:List SV} {H H':SH} {nx:Nat} {v:SV} {t:TypeId} {n:Nat} {ps:Array (Nat×Operand)} (ho:o.op=.buildSlice t n ps) (h:zFO P tm H nx t n ps.toList=some (v,H')):SOp P rd o tm H nx v H' (nx+1):=by
 unfold zFO at h
 split at h
 case h_2=>cases h
 rename_i vs e hvs hu
 split at h
 case h_2=>cases h
 rename_i ie hie
 split at h
 case h_2=>cases h
 rename_i z hz
 split at h
 case h_2=>cases h
 rename_i zs hzs
 have h6:=zE h
 clear h
 obtain ⟨hc,h⟩:=h6
 simp only [Bool.and_eq_true] at hc
 have hs1:=Nat.eq_of_beq_eq_true hc.2.1
 have hn:=Nat.le_of_ble_eq_true hc.2.2
 split at h
 case h_2=>cases h
 rename_i cs hcs
 split at h
 case h_2=>cases h
 rename_i H2 hnew
 cases h
 obtain ⟨hn1,rfl⟩:=um hnew
 refine zFN hn1 fun ν=>?_
 obtain ⟨e1,e2⟩:=zqM (ρ:=rho ν H) hzs
 obtain ⟨f1,f2⟩:=zhY (ν:=ν) (H:=H) _ hcs
 have hzc:z.cells=#[z]:=by
  unfold zqL at hzs
  split at hzs<;>first | rfl | cases hzs
 have hrep:((Array.range (n*ie.size)).map (z.cells[· % z.cells.size]!))=(zu (rho ν H) (List.replicate n zs)).toArray:=by
  rw [hs1,hzc]
  apply Array.ext'
  rw [qw,List.map_replicate,e1]
  apply List.ext_getElem?
  intro i
  simp only [Nat.mul_one,Array.toList_map,Array.toList_range,List.getElem?_map,List.getElem?_replicate]
  by_cases hi:i < n
  ·simp [hi,Nat.mod_one]
  ·simp [hi]
 have hav:∀m,avL (List.replicate m z)=true:=fun m=>by
  induction m with
  |zero=>rfl
  |succ m ih=>simp [List.replicate_succ,avL,ih,e2]
 unfold jZ
 simp only [ho,zfN ν hvs,Option.bind_some]
 unfold YG
 simp only [hu,hie,hz]
 rw [if_pos]
 ·rw [hrep,f1]
  have:avL (zu (rho ν H) (List.replicate n zs)).toArray.toList=true:=by
   rw [qw,List.map_replicate,e1];exact hav n
  simp only [this,if_true,den]
 ·refine ⟨by rw [hs1];omega,by simp only [ql];omega,by rw [hzc];exact hav 1,f2,by rw [hzc];simp⟩
def zqU (H:SH) (ty:Ty):SV→Option (List (T ty))
 |.lst t l _=>if h:t=ty then some (WO h l) else none
 |.own b=>match zn H b with
  |some (.arr _ t l)=>if h:t=ty then some (WO h l) else none
  |some (.roa _ t l)=>if h:t=ty then some (WO h l) else none
  |_=>none
 |.nils=>some []
 |_=>none
theorem zwT (ty:Ty) (l:List (T ty)):((l.map (wu ty)).flatMap fun e=>e.cells.toList)=qa ty l:=by
 induction l with
 |nil=>rfl
 |cons x l ih=>simp only [List.map_cons,List.flatMap_cons,ih];rfl
theorem zm9 {ν:Nat→Bool} {nx:Nat} {H:SH} (hv:VN ν nx H) {b:Nat} {nn:Bool} {ty:Ty} {l:List (T ty)} {ro:Bool} (hr:reg (zn H b)=some (l.length,rsz nn ty l)) (hd:jN nn l=false→(zG ν H).get b=some (.cells (qa ty l) ro)) :
  kQ (zG ν H) (sz ty) (rho ν H b)=some (l.length,qa ty l):=by
 rw [YK ν hr]
 cases hn:jN nn l with
 |true=>
  obtain ⟨_,rfl⟩:=zaL hn
  simp [kQ,qa]
 |false=>
  simp only [cond_false,kQ]
  by_cases h0:l.length=0
  ·have:l=[]:=List.length_eq_zero_iff.1 h0
   subst this
   simp [qa]
  ·rw [if_neg h0]
   simp only [hd hn,WQ,Nat.zero_add,Nat.le_refl,if_true,List.drop_zero]
   rw [List.take_of_length_le (by rw [WQ];omega)]
theorem zcV {ν:Nat→Bool} {nx:Nat} {H:SH} (hv:VN ν nx H) {ty:Ty} {x:SV} {l:List (T ty)} (h:zqU H ty x=some l):kQ (zG ν H) (sz ty) (den (rho ν H) x)=some (l.length,qa ty l):=by
 unfold zqU at h
 split at h
 ·rename_i t l0 full
  split at h
  case isFalse=>cases h
  rename_i ht
  subst ht
  cases h
  have hes:gY (den (rho ν H) (.lst t l0 full))=some (sz t,(l0.map (wu t)).toArray,full):=by cases full<;>simp [den,fzV,gY]
  have:kQ (zG ν H) (sz t) (den (rho ν H) (.lst t l0 full))=zaK (sz t) (den (rho ν H) (.lst t l0 full)):=by cases full<;>simp [den,fzV,kQ]
  rw [this]
  unfold zaK
  rw [hes]
  simp [zwT,WO]
 ·rename_i b
  split at h
  ·rename_i nn t l0 hb
   split at h
   case isFalse=>cases h
   rename_i ht
   subst ht
   cases h
   exact zm9 hv (ro:=false) (nn:=nn) (by rw [hb];rfl) fun hn=>by rw [zS,hb];have hn':jN nn l0=false:=hn;simp [zZ,hn',WO]
  ·rename_i nn t l0 hb
   split at h
   case isFalse=>cases h
   rename_i ht
   subst ht
   cases h
   exact zm9 hv (ro:=true) (nn:=nn) (by rw [hb];rfl) fun hn=>by rw [zS,hb];have hn':jN nn l0=false:=hn;simp [zZ,hn',WO]
  ·cases h
 ·cases h
  simp [den,kQ,qa]
 ·cases h
theorem zna {o:Oper} {a:Act} {b:Builtin} {args:Array Operand} {ats:Array TypeId} (ho:o.op=.call {callee:=.builtin b,args:=args,argTypes:=ats}) :
  ∃cs,execOp a.eval o=builtin b ats o.type cs (args.map a.eval):=by
 refine ⟨args.map fun | .const _=>true | _=>false,?_⟩
 unfold execOp
 simp only [ho]
 show builtin b ats o.type _ _=_
 congr 1
def zo2 {α:Type} (l l2:List α):List α:=l2.take l.length++l.drop l2.length
def zC1 (P:Program) (tm:List SV) (H:SH) (nx:Nat) (t:TypeId) (d x:Operand) (k:KO R):Option R:=match jI tm H d,jI tm H x with
 |some (.own b),some v=>match zn H b,ja P t with
  |some (.arr true ty l),some (.slice e)=>bif KB P e (sz ty)&&Nat.blt 0 (sz ty) then match zqU H ty v with
   |some l2=>k (.int .i64 (Nat.min l2.length l.length:Nat)) (wK H b (.arr true ty (zo2 l l2))) (nx+1)
   |none=>none
   else none
  |_,_=>none
 |_,_=>none
theorem zFP {rd:Option Nat} {o:Oper} {tm:List SV} {H:SH} {nx:Nat} {k:KO R} {r:R} {t u:TypeId} {d x:Operand} (ho:o.op=.call {callee:=.builtin .copy,args:=#[d,x],argTypes:=#[t,u]}) (h:zC1 P tm H nx t d x k=some r):Zi P rd o tm H nx k r:=by
 unfold zC1 at h
 split at h
 case h_2=>cases h
 rename_i b v hd hx
 split at h
 case h_2=>cases h
 rename_i ty l e hb hu
 have h6:=zE h
 clear h
 obtain ⟨hh,h⟩:=h6
 simp only [Bool.and_eq_true] at hh
 obtain ⟨ie,hie,hsz⟩:=Yj hh.1
 have hpos:=zdW hh.2
 split at h
 case h_2=>cases h
 rename_i l2 hl2
 have hcl:(zo2 l l2).length=l.length:=by simp [zo2];omega
 have hreg:∀c,reg (zn (wK H b (.arr true ty (zo2 l l2))) c)=reg (zn H c):=fun c=>by
  rw [qQ]
  by_cases hc:c=b
  ·subst hc;simp [hb,reg,hcl,rsz,jN]
  ·rw [if_neg hc]
 have hnn:∀c,jg (zn (wK H b (.arr true ty (zo2 l l2))) c)=true→jg (zn H c)=true:=fun c hc=>by
  rw [qQ] at hc
  by_cases hcb:c=b
  ·subst hcb;rw [hb];rfl
  ·rwa [if_neg hcb] at hc
 refine uD ⟨fun c z hz=>by rw [hreg c];exact hz,zaP hb (fun L=>by simp),Nat.le_succ _,fun ν hv=>⟨(Je hreg hnn hv).later (Nat.le_succ _),?_⟩⟩ h
 have hdb:(zG ν H).get b=some (.cells (qa ty l) false):=by rw [zS,hb];simp [zZ,jN]
 refine XP (Nat.le_succ _) (fun c hc=>by rw [ho] at hc;cases hc) fun φ w K a g hf ht=>?_
 have hdr:=qd ht (qb hd ν)
 have hxr:=qd ht (qb hx ν)
 have hρ:den (rho ν H) (.own b)=.slice (some ⟨b,0,none⟩) l.length (ql+sz ty):=by
  simp only [den]
  rw [YK ν (nn:=true) (t:=ty) (l:=l) (by rw [hb];rfl)]
  rfl
 rw [hρ] at hdr
 rw [jr] at hu
 rw [jh] at hie
 have hsrc:=zcV hv hl2
 rw [←hsz] at hsrc
 obtain ⟨w',r1,r2,r3⟩:=zEd (P:=P) (ts:=u) (ty:=o.type) g hu hie hdb hdr hsrc hxr (by rw [WQ,hsz]) (by omega) (zo1 fun c hc=>by
  simp only [qa,List.mem_flatMap] at hc
  obtain ⟨y,_,hc⟩:=hc
  exact zqT _ _ _ hc)
 obtain ⟨cs,he⟩:=zna (a:=a) ho
 have hmap:(#[d,x]:Array Operand).map a.eval=#[a.eval d,a.eval x]:=by simp
 rw [he,hmap]
 show zoV P φ K w nx (do pure (.value (←Builtin.copy_ #[t,u] o.type #[a.eval d,a.eval x])):Sem Next) _ _ _
 refine Ran.op (s:=Builtin.copy_ #[t,u] o.type #[a.eval d,a.eval x]) ⟨_,w',φ,r1,?_,Ext.refl _ _ _ _,?_,r3,Nat.le_succ _⟩
 ·simp only [den,goInt];exact .int _ _
 ·refine r2.sub fun c k hc=>?_
  rw [zS,qQ,xg hreg] at hc
  rw [Hp.get_set]
  by_cases hcb:c=b
  ·subst hcb
   simp [hb,zZ,jN] at hc
   rw [if_pos rfl,hdb]
   simp only [Option.map_some,Option.some.injEq]
   rw [←hc]
   congr 1
   unfold spl
   have e1:(qa ty l2).take (Nat.min l2.length l.length*ie.size)=qa ty (l2.take l.length):=by
    rw [hsz,zsF]
    congr 1
    by_cases h0:l2.length≤l.length
    ·rw [show Nat.min l2.length l.length=l2.length from Nat.min_eq_left h0,List.take_of_length_le (Nat.le_refl _),List.take_of_length_le h0]
    ·rw [show Nat.min l2.length l.length=l.length from Nat.min_eq_right (by omega)]
   rw [e1,WQ,List.take_zero,List.nil_append,Nat.zero_add,zkl,zo2,zgb]
   congr 2
   by_cases h0:l2.length≤l.length
   ·rw [List.take_of_length_le h0]
   ·rw [List.length_take,Nat.min_eq_left (by omega),List.drop_eq_nil_of_le (Nat.le_refl _),List.drop_eq_nil_of_le (by omega)]
  ·rw [if_neg hcb] at hc ⊢
   rw [zS];exact hc
def qK (n m bytes:Nat):Bool:=Nat.ble (n+m) maxLen&&Nat.ble ((n+m)*bytes) 140737488355328
def zzD (H0 H:SH) (nx:Nat) (ty:Ty) (bytes:Nat) (l l2:List (T ty)) (s:SV) (k:KO R):Option R:=match l2 with
 |[]=>k s H0 (nx+1)
 |y::ys=>match YL H nx (.arr true ty (l++y::ys)) with
  |some H'=>bif qK l.length (y::ys).length bytes then k (.own nx) H' (nx+1) else none
  |none=>none
def zIs:SV→Bool
 |.lst _ _ _=>true
 |_=>false
def tyS (H:SH):SV→Option Ty
 |.lst t _ _=>some t
 |.own b=>match zn H b with
  |some (.arr _ t _)=>some t
  |some (.roa _ t _)=>some t
  |_=>none
 |_=>none
def zFQ (P:Program) (tm:List SV) (H:SH) (nx:Nat) (t:TypeId) (s x:Operand) (k:KO R):Option R:=match jI tm H s,jI tm H x with
 |some sv,some xv=>match ja P t with
  |some (.slice e)=>match jd P e with
   |some ie=>match sv with
    |.nils=>match tyS H xv with
     |some ty=>bif zfP P e ty then match zqU H ty xv with
      |some l2=>match YL H nx (.arr false ty l2) with
       |some H'=>bif qK 0 l2.length ie.bytes then k (.own nx) H' (nx+1) else none
       |none=>none
      |none=>none
      else none
     |none=>none
    |.own b=>match zn H b with
     |some (.arr nn ty l)=>bif zfP P e ty then match zqU H ty xv with
      |some l2=>match YL (wK H b (.gone (rsz nn ty l) l.length)) nx (.arr nn ty (l++l2)) with
        |some H'=>bif qK l.length l2.length ie.bytes then k (.own nx) H' (nx+1) else none
        |none=>none
      |none=>none
      else none
     |_=>none
    |.lst ty l true=>bif zfP P e ty then match zqU H ty xv with
     |some l2=>bif zIs xv then match YL H nx (.fro true ty (l++l2)) with
       |some _=>bif qK l.length l2.length ie.bytes then k (.lst ty (l++l2) false) H (nx+1) else none
       |none=>none
      else zzD H H nx ty ie.bytes l l2 (.lst ty l true) k
     |none=>none
     else none
    |_=>none
   |none=>none
  |_=>none
 |_,_=>none
theorem zge {H:SH} {b:Nat} {nn:Bool} {ty:Ty} {l:List (T ty)} (hb:zn H b=some (.arr nn ty l)) (c:Nat):reg (zn (wK H b (.gone (rsz nn ty l) l.length)) c)=reg (zn H c):=by
 rw [qQ]
 by_cases hc:c=b
 ·subst hc
  rw [if_pos rfl,hb]
  exact zgc nn ty l
 ·rw [if_neg hc]
theorem zBs {H:SH} {b:Nat} {nn:Bool} {ty:Ty} {l:List (T ty)} (hb:zn H b=some (.arr nn ty l)) (c:Nat) (h:jg (zn (wK H b (.gone (rsz nn ty l) l.length)) c)=true):jg (zn H c)=true:=by
 rw [qQ] at h
 by_cases hc:c=b
 ·subst hc;simp [hb,jg] at h
 ·rwa [if_neg hc] at h
theorem zlp {ν:Nat→Bool} {H:SH} {b:Nat} {nn:Bool} {ty:Ty} {l:List (T ty)} (hb:zn H b=some (.arr nn ty l)) (c:Nat) (k:Blk) (h:(zG ν (wK H b (.gone (rsz nn ty l) l.length))).get c=some k):((zG ν H).del b).get c=some k:=by
 rw [zS,qQ,xg (zge hb)] at h
 rw [Hp.get_del]
 by_cases hc:c=b
 ·subst hc;simp [hb,zZ] at h
 ·rw [if_neg hc] at h ⊢
  rw [zS];exact h
theorem zqc {o:Oper} {a:Act} {t:TypeId} {so xo:Operand} (ho:o.op=.call {callee:=.builtin .append,args:=#[so,xo],argTypes:=#[t,t]}) :
  execOp a.eval o=(do pure (.value (←Builtin.append_ #[t,t] o.type #[a.eval so,a.eval xo])):Sem Next):=by
 obtain ⟨cs,he⟩:=zna (a:=a) ho
 have hmap:(#[so,xo]:Array Operand).map a.eval=#[a.eval so,a.eval xo]:=by simp
 rw [he,hmap];rfl
structure zqV (P:Program) (t e:TypeId) (ie:TypeInfo) (ty:Ty):Prop where
 hu:ja P t=some (.slice e)
 hie:jd P e=some ie
 hz:∃z,ie.zero=some z∧z.cells.size=ie.size∧0 < ie.size
 hsz:sz ty=ie.size
theorem zqV.of {t e:TypeId} {ie:TypeInfo} {ty:Ty} (hu:ja P t=some (.slice e)) (hie:jd P e=some ie) (h:zfP P e ty=true):zqV P t e ie ty:=by
 obtain ⟨i,z,e1,e2,e3,e4,e5,_⟩:=zks h
 rw [←jh,hie] at e1
 cases e1
 exact ⟨hu,hie,⟨z,e2,e3,e4⟩,e5⟩
theorem zkt {n m bytes:Nat} (h:qK n m bytes=true):n+m≤maxLen∧(n+m)*bytes≤140737488355328:=by
 simp only [qK,Bool.and_eq_true] at h
 exact ⟨Nat.le_of_ble_eq_true h.1,Nat.le_of_ble_eq_true h.2⟩
theorem zFR {ν:Nat→Bool} {H:SH} (g:zI φ (zG ν H) K w) {t e:TypeId} {ie:TypeInfo} {ty:Ty} (hE:zqV P t e ie ty) {tt:TypeId} {x s' x':Value} {news:List Value} (hsrc:kQ (zG ν H) ie.size x=some (0,news)) (hx:zt φ x x') (hs:∃a n c,s'=.slice a n c∧n≤c) :
  (Builtin.append_ #[t,t] tt #[s',x']).run P w=.ok s' w:=by
 obtain ⟨ax,cx,us,rfl,_⟩:=US g hsrc hx
 obtain ⟨a,n,c,rfl,hn⟩:=hs
 have h1:=hE.hu
 have h2:=hE.hie
 rw [jr] at h1
 rw [jh] at h2
 exact ZV h1 h2 a n c hn ax cx w
theorem zFS (ty:Ty) (l:List (T ty)):Yg (qa ty l)=true:=zo1 fun c hc=>by
 simp only [qa,List.mem_flatMap] at hc
 obtain ⟨y,_,hc⟩:=hc
 exact zqT _ _ _ hc
theorem zHs {H:Hp} {b c:Nat} {k:Blk} (h:(H.del b).get c=some k):H.get c=some k:=by
 rw [Hp.get_del] at h
 by_cases hc:c=b
 ·rw [if_pos hc] at h;cases h
 ·rwa [if_neg hc] at h
theorem zHt {ν:Nat→Bool} {H:SH} {nx:Nat} {b:Nat} {nn:Bool} {ty:Ty} {l l2:List (T ty)} {t e:TypeId} {ie:TypeInfo} (hE:zqV P t e ie ty) (hb:zn H b=some (.arr nn ty l)) (hv:VN ν nx H) {xv:SV} (hsrc:zqU H ty xv=some l2) (hne:l2≠[])
  (hok:qK l.length l2.length ie.bytes=true):∃v Hd,kR P (zG ν H) nx t (rho ν H b) (den (rho ν H) xv)=some (v,Hd,nx+1)∧v=.slice (some ⟨nx,0,none⟩) (l.length+l2.length) (ql+ie.size)∧∀c k,Hp.get ((nx,.cells (qa ty (l++l2)) false)::(zG ν H).del b) c=some k→Hd.get c=some k:=by
 have hs:=zcV hv hsrc
 obtain ⟨h1,h2⟩:=zkt hok
 obtain ⟨z,z1,z2,z3⟩:=hE.hz
 have hm:l2.length≠0:=fun h0=>hne (List.length_eq_zero_iff.1 h0)
 have hr:reg (zn H b)=some (l.length,rsz nn ty l):=by rw [hb];rfl
 have hso:=zm9 hv (b:=b) (ty:=ty) (l:=l) (ro:=false) hr (fun hn=>by rw [zS,hb];simp [zZ,hn])
 rw [hE.hsz] at hs hso
 cases hn:jN nn l with
 |true=>
  obtain ⟨_,rfl⟩:=zaL hn
  have hρ:rho ν H b=.slice none 0 0:=by rw [YK ν hr,hn];rfl
  refine ⟨.slice (some ⟨nx,0,none⟩) l2.length (ql+ie.size),(nx,.cells (qa ty l2) false)::zG ν H,?_,by simp,fun c k hc=>?_⟩
  ·rw [hρ]
   unfold kR
   simp only [hE.hu,hE.hie,z1,hs,z2,z3,and_self,if_true,hm,if_false]
   simp only [List.length_nil,Nat.zero_add] at h1 h2
   rw [if_pos ⟨h1,h2⟩]
  ·simp only [List.nil_append] at hc
   exact zuX c k hc
 |false=>
  have hρ:rho ν H b=.slice (some ⟨b,0,none⟩) l.length (ql+sz ty):=by rw [YK ν hr,hn];rfl
  have hd:(zG ν H).get b=some (.cells (qa ty l) false):=by rw [zS,hb];simp [zZ,hn]
  refine ⟨.slice (some ⟨nx,0,none⟩) (l.length+l2.length) (ql+ie.size),(nx,.cells (qa ty l++qa ty l2) false)::(zG ν H).del b,?_,rfl,fun c k hc=>by rwa [zgb] at hc⟩
  rw [hρ] at hso ⊢
  have c1:¬ql+sz ty < l.length+l2.length:=by simp only [maxLen,ql] at *;omega
  have c2:ql≤ql+sz ty:=Nat.le_add_right _ _
  have c3:ql+sz ty - ql=ie.size:=by rw [hE.hsz];omega
  unfold kR
  simp only [hE.hu,hE.hie,z1,hs,z2,z3,and_self,if_true,hm,if_false,hso,h1,h2,c1,c2,c3,hd,zFS,implies_true]
theorem zEi {ν:Nat→Bool} {H:SH} {b:Nat} {v':Value} {nn:Bool} {ty:Ty} {l:List (T ty)} (hb:zn H b=some (.arr nn ty l)) (h:zt φ (rho ν H b) v'):∃a n c,v'=.slice a n c∧n≤c:=by
 rw [YK ν (nn:=nn) (t:=ty) (l:=l) (by rw [hb];rfl)] at h
 cases hn:jN nn l with
 |true=>rw [hn] at h;cases h;exact ⟨_,_,_,rfl,Nat.le_refl _⟩
 |false=>
  rw [hn,cond_false] at h
  generalize hc0:ql+sz ty=c0 at h
  generalize hn0:l.length=n0 at h
  cases h with
  |sl _ _ _ _ L hL hc=>omega
  |slO _ _ _ _ c' L hL hc hnc hl=>exact ⟨_,_,_,rfl,hnc⟩
  |slE _ _ _ a' L hL hc=>exact ⟨_,_,_,rfl,Nat.le_refl _⟩
theorem zEj {H H2:SH} {nx:Nat} {b:Nat} {nn nn':Bool} {ty:Ty} {l l':List (T ty)} (hb:zn H b=some (.arr nn ty l)) (hn:YL (wK H b (.gone (rsz nn ty l) l.length)) nx (.arr nn' ty l')=some H2) :
  wc H H2∧wq H H2∧∀ν,VN ν nx H→VN ν (nx+1) H2∧(jN nn' l'=false→rho ν H2 nx=.slice (some ⟨nx,0,none⟩) l'.length (ql+sz ty))∧(∀φ K w,zI φ ((nx,.cells (qa ty l') false)::(zG ν H).del b) K w→zI φ (zG ν H2) K w)∧
   (jN nn' l'=true→rho ν H2 nx=.slice none 0 0∧∀φ K w,zI φ (zG ν H) K w→zI φ (zG ν H2) K w):=by
 obtain ⟨h1,rfl⟩:=um hn
 have hr:wc H (wK H b (.gone (rsz nn ty l) l.length)):=fun c z hz=>by rw [zge hb];exact hz
 refine ⟨hr.trans (kG h1),(zaP hb (fun L=>by simp)).trans (gP h1),fun ν hv=>?_⟩
 have hv1:=Je (zge hb) (zBs hb) hv
 refine ⟨YM hv1,fun hl=>zbe hv1 hl,fun φ K w g=>UX h1 hv1 (g.sub fun c k hc=>?_),fun hl=>⟨zsN hl,fun φ K w g=>zm8 h1 (by simp [zZ,hl]) (g.sub fun c k hc=>zHs (zlp hb c k hc))⟩⟩
 simp only [Hp.get_cons] at hc ⊢
 split at hc
 ·rename_i he;rw [if_pos he];exact hc
 ·rename_i he;rw [if_neg he];exact zlp hb c k hc
theorem zEk {rd:Option Nat} {o:Oper} {tm:List SV} {H0 H:SH} {nx:Nat} {k:KO R} {r:R} {ty:Ty} {bytes:Nat} {l l2:List (T ty)} {s:SV} (h:zzD H0 H nx ty bytes l l2 s k=some r)
  (h0:l2=[]→SOp P rd o tm H0 nx s H0 (nx+1))
  (h1:∀H',l2≠[]→YL H nx (.arr true ty (l++l2))=some H'→qK l.length l2.length bytes=true→SOp P rd o tm H0 nx (.own nx) H' (nx+1)):Zi P rd o tm H0 nx k r:=by
 unfold zzD at h
 split at h
 ·exact uD (h0 rfl) h
 ·split at h
  case h_2=>cases h
  rename_i y ys H' hn
  obtain ⟨hok,h2⟩:=zE h
  exact uD (h1 H' (by simp) hn hok) h2
theorem zHu {rd:Option Nat} {o:Oper} {tm:List SV} {H:SH} {nx:Nat} {k:KO R} {r:R} {t:TypeId} {so xo:Operand} (ho:o.op=.call {callee:=.builtin .append,args:=#[so,xo],argTypes:=#[t,t]}) (h:zFQ P tm H nx t so xo k=some r):Zi P rd o tm H nx k r:=by
 unfold zFQ at h
 split at h
 case h_2=>cases h
 rename_i sv xv hs hx
 split at h
 case h_2=>cases h
 rename_i e hu
 split at h
 case h_2=>cases h
 rename_i ie hie
 have hnd:∀c,o.op≠.defer c:=fun c hc=>by rw [ho] at hc;cases hc
 have run:∀{ν:Nat→Bool} {H':SH} {v:SV} {vd:Value} {Hd:Hp},VN ν nx H→(∀φ K w,zI φ (zG ν H) K w→∀s',zt φ (den (rho ν H) sv) s'→∃sd,zt φ sd s'∧kR P (zG ν H) nx t sd (den (rho ν H) xv)=some (vd,Hd,nx+1))→
   (∀φ K w v',zI φ Hd K w→zt φ vd v'→∃φ',(∀n,Ext K φ φ' n n)∧zI φ' (zG ν H') K w∧zt φ' (den (rho ν H') v) v')→UE P rd o (zu (rho ν H) tm) (zG ν H) nx (den (rho ν H') v) (zG ν H') (nx+1):=by
  intro ν H' v vd Hd hv h1 h2
  refine XP (Nat.le_succ _) hnd fun φ w K a g hf ht=>?_
  have hsr:=qd ht (qb hs ν)
  have hxr:=qd ht (qb hx ν)
  have hfr:=hf.at (Nat.le_refl nx) (Nat.lt_succ_self nx)
  obtain ⟨sd,e1,e2⟩:=h1 φ K w g _ hsr
  obtain ⟨v',w',φ',r1,r2,r3,r4,r5,_⟩:=zp4 (P:=P) (ty:=o.type) g hfr.1 hfr.2 e2 e1 hxr
  obtain ⟨φ2,f1,f2,f3⟩:=h2 φ' K w' v' r4 r2
  rw [zqc ho]
  exact Ran.op ⟨v',w',φ2,r1,f3,r3.trans (f1 (nx+1)) (Nat.le_succ _) (Nat.le_refl _),f2,r5,Nat.le_succ _⟩
 have idExt:∀(φ:Ren) (K:Nat→Prop),∀n,Ext K φ φ n n:=fun φ K n=>Ext.refl _ _ _ _
 split at h
 ·
  split at h
  case h_2=>cases h
  rename_i ty hty
  have h6:=zE h
  clear h
  obtain ⟨hz,h⟩:=h6
  have hE:=zqV.of hu hie hz
  obtain ⟨z,z1,z2,z3⟩:=hE.hz
  split at h
  case h_2=>cases h
  rename_i l2 hl2
  split at h
  case h_2=>cases h
  rename_i H' hnew
  have h7:=zE h
  clear h
  obtain ⟨hok,h⟩:=h7
  refine uD ?_ h
  obtain ⟨hn1,rfl⟩:=um hnew
  refine ⟨kG hn1,gP hn1,Nat.le_succ _,fun ν hv=>⟨YM hv,?_⟩⟩
  have hsrc:=zcV hv hl2
  rw [hE.hsz] at hsrc
  cases hne:l2 with
  |nil=>
   subst hne
   refine run (v:=.own nx) (vd:=.slice none 0 0) (Hd:=zG ν H) hv (fun φ K w g s' hs'=>⟨.slice none 0 0,by simpa only [den] using hs',?_⟩) (fun φ K w v' g hv'=>⟨φ,idExt φ K,zm8 hn1 rfl g,by simp only [den];rw [zsN rfl];exact hv'⟩)
   unfold kR
   simp [hE.hu,hE.hie,z1,hsrc,z2,z3]
  |cons y ys=>
   rw [←hne]
   have hnn:l2≠[]:=by rw [hne];simp
   have hm:l2.length≠0:=fun h0=>hnn (List.length_eq_zero_iff.1 h0)
   obtain ⟨b1,b2⟩:=zkt hok
   simp only [Nat.zero_add] at b1 b2
   refine run (v:=.own nx) (vd:=.slice (some ⟨nx,0,none⟩) l2.length (ql+ie.size)) (Hd:=(nx,.cells (qa ty l2) false)::zG ν H) hv (fun φ K w g s' hs'=>⟨.slice none 0 0,by simpa only [den] using hs',?_⟩) (fun φ K w v' g hv'=>⟨φ,idExt φ K,UX hn1 hv (by simpa using g),?_⟩)
   ·unfold kR
    simp [hE.hu,hE.hie,z1,hsrc,z2,z3,hm,b1,b2]
   ·simp only [den]
    rw [zbe hv (zji hnn),hE.hsz]
    simpa using hv'
 ·
  rename_i b
  split at h
  case h_2=>cases h
  rename_i nn ty l hb
  have h6:=zE h
  clear h
  obtain ⟨hz,h⟩:=h6
  have hE:=zqV.of hu hie hz
  obtain ⟨z,z1,z2,z3⟩:=hE.hz
  split at h
  case h_2=>cases h
  rename_i l2 hl2
  have more:∀{H2:SH},YL (wK H b (.gone (rsz nn ty l) l.length)) nx (.arr nn ty (l++l2))=some H2→l2≠[]→qK l.length l2.length ie.bytes=true→SOp P rd o tm H nx (.own nx) H2 (nx+1):=by
   intro H2 hnew hne hok
   obtain ⟨q1,q2,q3⟩:=zEj hb hnew
   refine ⟨q1,q2,Nat.le_succ _,fun ν hv=>?_⟩
   obtain ⟨q4,q5,q6,_⟩:=q3 ν hv
   obtain ⟨vd,Hd,e1,rfl,e3⟩:=zHt hE hb hv hl2 hne hok
   refine ⟨q4,run hv (fun φ K w g s' hs'=>⟨rho ν H b,by simpa only [den] using hs',e1⟩) (fun φ K w v' g hv'=>⟨φ,idExt φ K,q6 φ K w (g.sub e3),?_⟩)⟩
   simp only [den]
   rw [q5 (zji (by simp [hne])),hE.hsz,List.length_append]
   exact hv'
  split at h
  case h_2=>cases h
  rename_i H2 hnew
  have h7:=zE h
  clear h
  obtain ⟨hok,h⟩:=h7
  by_cases hne:l2=[]
  ·subst hne
   rw [List.append_nil] at hnew
   obtain ⟨q1,q2,q3⟩:=zEj hb hnew
   refine uD ⟨q1,q2,Nat.le_succ _,fun ν hv=>?_⟩ (by assumption)
   obtain ⟨q4,q5,q6,q7⟩:=q3 ν hv
   refine ⟨q4,XP (Nat.le_succ _) hnd fun φ w K a g hf ht=>?_⟩
   have hsr:=qd ht (qb hs ν)
   have hxr:=qd ht (qb hx ν)
   simp only [den] at hsr
   have hfr:=hf.at (Nat.le_refl nx) (Nat.lt_succ_self nx)
   have hsrc:=zcV hv hl2
   rw [hE.hsz] at hsrc
   have hrun:=zFR (tt:=o.type) g hE hsrc hxr (zEi hb hsr)
   have hr:reg (zn H b)=some (l.length,rsz nn ty l):=by rw [hb];rfl
   rw [zqc ho]
   generalize a.eval so=us at hsr hrun ⊢
   rw [YK ν hr] at hsr
   cases hn:jN nn l with
   |true=>
    obtain ⟨e1,e2⟩:=q7 hn
    rw [hn] at hsr
    exact Ran.op ⟨us,w,φ,hrun,by simp only [den];rw [e1];exact hsr,Ext.refl _ _ _ _,e2 φ K w g,qz.refl _ _,Nat.le_succ _⟩
   |false=>
    have hd:(zG ν H).get b=some (.cells (qa ty l) false):=by rw [zS,hb];simp [zZ,hn]
    obtain ⟨φ',f1,f2,f3⟩:=zEc g hfr.1 hfr.2 hd
    refine Ran.op ⟨us,w,φ',hrun,?_,f1,q6 φ' K w (by simpa using f2),qz.refl _ _,Nat.le_succ _⟩
    simp only [den]
    rw [q5 hn]
    rw [hn,cond_false] at hsr
    generalize ql+sz ty=c0 at hsr ⊢
    generalize l.length=n0 at hsr ⊢
    cases hsr with
    |sl _ _ _ _ L hL hc=>exact .sl _ _ _ _ L (f3 L hL) hc
    |slO _ _ _ _ c' L hL hc hnc hl=>exact .slO _ _ _ _ c' L (f3 L hL) hc hnc hl
    |slE _ _ _ a' L hL hc=>exact .slE _ _ _ a' L (f3 L hL) hc
  ·exact uD (more hnew hne hok) h
 ·
  rename_i ty l
  have h6:=zE h
  clear h
  obtain ⟨hz,h⟩:=h6
  have hE:=zqV.of hu hie hz
  obtain ⟨z,z1,z2,z3⟩:=hE.hz
  split at h
  case h_2=>cases h
  rename_i l2 hl2
  have hes:∀ν,gY (den (rho ν H) (.lst ty l true))=some (sz ty,(l.map (wu ty)).toArray,true):=fun ν=>by simp [den,fzV,gY]
  have happ:∀{ν},VN ν nx H→l2≠[]→qK l.length l2.length ie.bytes=true→kR P (zG ν H) nx t (den (rho ν H) (.lst ty l true)) (den (rho ν H) xv)=some (.slice (some ⟨nx,0,none⟩) (l.length+l2.length) (ql+ie.size),(nx,.cells (qa ty (l++l2)) false)::zG ν H,nx+1):=by
   intro ν hv hne hok
   have hsrc:=zcV hv hl2
   rw [hE.hsz] at hsrc
   have hm:l2.length≠0:=fun h0=>hne (List.length_eq_zero_iff.1 h0)
   obtain ⟨b1,b2⟩:=zkt hok
   have hfc:zaK ie.size (.iface (sz ty) (.agg (l.map (wu ty)).toArray))=some (l.length,qa ty l):=by
    unfold zaK
    simp [gY,hE.hsz,zwT]
   unfold kR
   simp only [hE.hu,hE.hie,z1,hsrc,z2,z3,and_self,if_true,den,fzV,cond_true,gY,hm,if_false,hE.hsz]
   have hl0:((l.map (wu ty)).toArray).size=l.length:=by simp
   rw [hE.hsz] at hfc
   simp only [hl0,b1,b2,and_self,if_true,hfc,zgb]
  have stay:l2=[]→∀(v:SV),(∀ν φ v',zt φ (den (rho ν H) (.lst ty l true)) v'→zt φ (den (rho ν H) v) v')→SOp P rd o tm H nx v H (nx+1):=by
   intro hn v hvr
   subst hn
   refine ⟨wc.refl H,wq.refl H,Nat.le_succ _,fun ν hv=>⟨hv.later (Nat.le_succ _),?_⟩⟩
   have hsrc:=zcV hv hl2
   rw [hE.hsz] at hsrc
   refine run (v:=v) (vd:=den (rho ν H) (.lst ty l true)) (Hd:=zG ν H) hv (fun φ K w g s' hs'=>⟨_,hs',?_⟩) (fun φ K w v' g hv'=>⟨φ,idExt φ K,g,hvr ν φ v' hv'⟩)
   unfold kR
   simp [hE.hu,hE.hie,z1,hsrc,z2,z3,den,fzV,gY]
  rcases xh h with ⟨_,h⟩ | ⟨_,h⟩
  ·split at h
   case h_2=>cases h
   rename_i H9 hnew
   obtain ⟨hn1,_⟩:=um hnew
   have h6:=zE h
   clear h
   obtain ⟨hok,h⟩:=h6
   by_cases hne:l2=[]
   ·have:=stay hne (.lst ty (l++l2) false) (fun ν φ v' hv'=>by
     subst hne
     simp only [den,List.append_nil] at hv' ⊢
     exact zwQ hv')
    exact uD this h
   ·refine uD ⟨wc.refl H,wq.refl H,Nat.le_succ _,fun ν hv=>⟨hv.later (Nat.le_succ _),?_⟩⟩ h
    refine run (v:=.lst ty (l++l2) false) (vd:=.slice (some ⟨nx,0,none⟩) (l.length+l2.length) (ql+ie.size)) (Hd:=(nx,.cells (qa ty (l++l2)) false)::zG ν H) hv (fun φ K w g s' hs'=>⟨_,hs',happ hv hne hok⟩) (fun φ K w v' g hv'=>?_)
    obtain ⟨φ',f1,f2⟩:=zzi g (b:=nx) (cs:=qa ty (l++l2)) (by simp [Hp.get_cons])
    have hnone:(zG ν H).get nx=none:=by rw [zS,hn1];rfl
    have hgo:∀c k,(zG ν H).get c=some k→c≠nx:=fun c k hc e=>by subst e;rw [hnone] at hc;cases hc
    have g1:zI φ' (zG ν H) K w:=f2 _ fun c k hc=>by
     have hne2:=hgo c k hc
     rw [if_neg hne2]
     have:(nx == c)=false:=by simpa using fun e:nx=c=>hne2 e.symm
     simp [Hp.get_cons,this,hc]
    have g2:zI φ' (zG ν ((nx,.fro true ty (l++l2))::H)) K w:=by
     refine zaQ hn1 (x:=.fzc (qa ty (l++l2))) (by simp [zZ,jN]) (f2 _ fun c k hc=>?_)
     by_cases hcn:c=nx
     ·subst hcn
      simp [Hp.get_cons] at hc
      simp [hc]
     ·rw [if_neg hcn]
      have:(nx == c)=false:=by simpa using fun e:nx=c=>hcn e.symm
      simp [Hp.get_cons,this] at hc ⊢
      exact hc
    refine ⟨φ',f1,g1,?_⟩
    simp only [den]
    refine zjj g2 (YM hv) (b:=nx) (by rw [zJ,if_pos rfl]) (by rw [hE.hsz];exact z3) ?_
    have hρ:rho ν ((nx,.fro true ty (l++l2))::H) nx=.slice (some ⟨nx,0,none⟩) (l.length+l2.length) (ql+ie.size):=by
     rw [YK ν (nn:=true) (t:=ty) (l:=l++l2) (by rw [zJ,if_pos rfl];rfl)]
     simp [jN,hE.hsz]
    rw [hρ]
    exact hv'.mono (f1 0).1
  ·refine zEk h (fun hn=>stay hn _ fun ν φ v' hv'=>hv') (fun H' hne hnew hok=>?_)
   obtain ⟨hn1,rfl⟩:=um hnew
   refine ⟨kG hn1,gP hn1,Nat.le_succ _,fun ν hv=>⟨YM hv,?_⟩⟩
   refine run (v:=.own nx) (vd:=.slice (some ⟨nx,0,none⟩) (l.length+l2.length) (ql+ie.size)) (Hd:=(nx,.cells (qa ty (l++l2)) false)::zG ν H) hv (fun φ K w g s' hs'=>⟨_,hs',happ hv hne hok⟩) (fun φ K w v' g hv'=>⟨φ,idExt φ K,UX hn1 hv g,?_⟩)
   simp only [den]
   rw [zbe hv rfl,hE.hsz,List.length_append]
   exact hv'
 ·cases h
def mpD {α:Type} (l:List (Int×α)) (n:Int) (z:α):α:=match l with
 |[]=>z
 |p::r=>bif zh p.1 n then p.2 else mpD r n z
def mpH {α:Type} (l:List (Int×α)) (n:Int):Bool:=match l with
 |[]=>false
 |p::r=>bif zh p.1 n then true else mpH r n
def mpP {α:Type} (l:List (Int×α)) (n:Int) (x:α):List (Int×α):=match l with
 |[]=>[(n,x)]
 |p::r=>bif zh p.1 n then (n,x)::r else p::mpP r n x
def mpI {α:Type} (l:List (Int×α)) (n:Int):Option Nat:=match l with
 |[]=>none
 |p::r=>bif zh p.1 n then some 0 else (mpI r n).map (·+1)
theorem znb {k:IntKind} {ag:Bool} {t:Ty} (n:Int) (d:IntKind):∀(l:List (Int×T t)) (i j:Nat),
  Instr.findNow (.int d) (.int k n) (zei (Za k ag t l i)) j=some ((mpI l n).map fun s=>(j+s,mvV ag t (mpD l n (Gg t))))
 |[],_,_=>rfl
 |p::r,i,j=>by
  simp only [Za,zei,Instr.findNow,Instr.sameNow,if_true,mpI,mpD]
  cases h:zh p.1 n with
  |true=>
   have h1:=jF p.1 n
   rw [h] at h1
   have:p.1=n:=by simpa using h1.symm
   simp [this]
  |false=>
   have h1:=jF p.1 n
   rw [h] at h1
   have:¬n=p.1:=fun e=>by simp [e] at h1
   have hb:(n == p.1)=false:=by simpa using this
   rw [hb]
   dsimp only
   rw [znb n d r (i+1) (j+1)]
   cases mpI r n with
   |none=>rfl
   |some s=>simp [Nat.add_assoc,Nat.add_comm 1 s]
theorem zGQ {α:Type} (n:Int):∀l:List (Int×α),mpH l n=(mpI l n).isSome
 |[]=>rfl
 |p::r=>by
  simp only [mpH,mpI]
  cases zh p.1 n with
  |true=>rfl
  |false=>simp [zGQ n r]
theorem zzE {α:Type} (n:Int) (z:α):∀l:List (Int×α),mpI l n=none→mpD l n z=z
 |[],_=>rfl
 |p::r,h=>by
  simp only [mpI] at h
  simp only [mpD]
  cases hq:zh p.1 n with
  |true=>rw [hq] at h;cases h
  |false=>
   rw [hq] at h
   simp only [cond_false,Option.map_eq_none_iff] at h
   exact zzE n z r h
theorem znc {k:IntKind} {ag:Bool} {t:Ty} {n:Int} {x:T t}:∀(l:List (Int×T t)) (i:Nat),mpI l n=none→Za k ag t (mpP l n x) i=Za k ag t l i++[(.int k n,mvV ag t x,i+l.length)]∧(mpP l n x).length=l.length+1
 |[],i,_=>⟨rfl,rfl⟩
 |p::r,i,h=>by
  simp only [mpI] at h
  simp only [mpP]
  cases hq:zh p.1 n with
  |true=>rw [hq] at h;cases h
  |false=>
   rw [hq] at h
   simp only [cond_false,Option.map_eq_none_iff] at h
   obtain ⟨h1,h2⟩:=znc (k:=k) (ag:=ag) (x:=x) r (i+1) h
   simp only [cond_false,Za,h1,List.cons_append,List.length_cons,h2]
   refine ⟨?_,trivial⟩
   rw [show i+1+r.length=i+(r.length+1) by omega]
theorem znd {k:IntKind} {ag:Bool} {t:Ty} {n:Int} {x:T t}:∀(l:List (Int×T t)) (i s:Nat),mpI l n=some s→
  ∃v b,(Za k ag t l i)[s]?=some (.int k n,v,b)∧Za k ag t (mpP l n x) i=(Za k ag t l i).set s (.int k n,mvV ag t x,b)∧(mpP l n x).length=l.length
 |[],i,s,h=>by cases h
 |p::r,i,s,h=>by
  simp only [mpI] at h
  simp only [mpP]
  cases hq:zh p.1 n with
  |true=>
   have h1:=jF p.1 n
   rw [hq] at h1
   have h2:p.1=n:=by simpa using h1.symm
   rw [hq] at h
   simp only [cond_true,Option.some.injEq] at h
   subst h
   refine ⟨mvV ag t p.2,i,?_,rfl,rfl⟩
   simp [Za,h2]
  |false=>
   rw [hq] at h
   simp only [cond_false,Option.map_eq_some_iff] at h
   obtain ⟨s',h1,rfl⟩:=h
   obtain ⟨v,b,e1,e2,e3⟩:=znd (k:=k) (ag:=ag) (x:=x) r (i+1) s' h1
   exact ⟨v,b,by simpa [Za] using e1,by simp [Za,e2],by simp [e3]⟩
def exC:(t:Ty)→List SV→Option (T t×List SV)
 |.unit,l=>some ((),l)
 |.bool,l=>match l with
  |.bool b::r=>some (b,r)
  |_=>none
 |.int k,l=>match l with
  |.int k' n::r=>bif Yh k k' then some (n,r) else none
  |_=>none
 |.str,l=>match l with
  |.str s::r=>some (s,r)
  |_=>none
 |.list t,l=>match l with
  |.lst t' x false::r=>if h:t'=t then some (WO h x,r) else none
  |_=>none
 |.pair a b,l=>match exC a l with
  |some (x,l1)=>match exC b l1 with
   |some (y,l2)=>some ((x,y),l2)
   |none=>none
  |none=>none
theorem zsP:∀(t:Ty) {l r:List SV} {x:T t},exC t l=some (x,r)→l=yw t x++r
 |.unit,l,r,x,h=>by simp only [exC] at h;cases h;rfl
 |.bool,l,r,x,h=>by
  simp only [exC] at h
  split at h
  ·cases h;rfl
  ·cases h
 |.int k,l,r,x,h=>by
  simp only [exC] at h
  split at h
  ·obtain ⟨hk,h2⟩:=zE h
   have:=JZ hk
   subst this
   clear h
   cases h2
   rfl
  ·cases h
 |.str,l,r,x,h=>by
  simp only [exC] at h
  split at h
  ·cases h;rfl
  ·cases h
 |.list t,l,r,x,h=>by
  simp only [exC] at h
  split at h
  ·split at h
   ·rename_i ht
    subst ht
    cases h;rfl
   ·cases h
  ·cases h
 |.pair a b,l,r,x,h=>by
  simp only [exC] at h
  split at h
  case h_2=>cases h
  rename_i h1
  split at h
  case h_2=>cases h
  rename_i h2
  cases h
  rw [zsP a h1,zsP b h2]
  simp [yw]
def exV (ag:Bool) (t:Ty) (v:SV):Option (T t):=match ag,v with
 |true,.agg cs=>match exC t cs with
  |some (x,[])=>some x
  |_=>none
 |false,.agg _=>none
 |false,v=>match exC t [v] with
  |some (x,[])=>some x
  |_=>none
 |_,_=>none
theorem zne (ρ:Nat→Value) {ag:Bool} {t:Ty} (h:(ag||Nat.beq (sz t) 1)=true) (x:T t):den ρ (mkV ⟨ag,t⟩ x)=mvV ag t x:=by
 cases ag with
 |true=>simp [mkV,mvV,wu,den,qw,yi]
 |false=>
  have h1:sz t=1:=Nat.eq_of_beq_eq_true (by simpa using h)
  have h2:=XN t x
  have h3:=yi ρ t x
  rw [h1] at h2
  match hl:yw t x,h2 with
  |[v],_=>
   rw [hl] at h3
   simp [mkV,mvV,hl,mk1,←h3]
theorem zH3 {ag:Bool} {t:Ty} {v:SV} {x:T t} (h:exV ag t v=some x) (ρ:Nat→Value) (hs:(ag||Nat.beq (sz t) 1)=true):den ρ v=mvV ag t x:=by
 rw [←zne ρ hs x]
 unfold exV at h
 split at h
 ·split at h
  ·rename_i h1
   cases h
   have:=zsP t h1
   rw [List.append_nil] at this
   subst this
   rfl
  ·cases h
 ·cases h
 ·split at h
  ·rename_i h1
   cases h
   have:=zsP t h1
   rw [List.append_nil] at this
   simp only [mkV,cond_false,←this]
   rfl
  ·cases h
 ·cases h
def vtT (P:Program) (et:TypeId):Option (Bool×Ty):=match ja P et,zm7 P 30 et with
 |some d,some t=>some (JV d,t)
 |_,_=>none
def zsQ:Value→Bool
 |.agg _=>true
 |_=>false
def zC2 (P:Program) (et:TypeId) (ag:Bool) (t:Ty):Bool:=match jd P et with
 |some i=>match i.zero with
  |some z=>zfP P et t&&(av z&&(bif ag then zsQ z else !zsQ z&&Nat.beq (sz t) 1))
  |none=>false
 |none=>false
theorem zFT {et:TypeId} {ag:Bool} {t:Ty} (h:zC2 P et ag t=true):∃i z,jd P et=some i∧i.zero=some z∧av z=true∧(ag||Nat.beq (sz t) 1)=true∧∀(φ:Ren) v',zt φ z v'→zt φ (mvV ag t (Gg t)) v':=by
 unfold zC2 at h
 split at h
 case h_2=>cases h
 rename_i i hi
 split at h
 case h_2=>cases h
 rename_i z hz
 simp only [Bool.and_eq_true] at h
 obtain ⟨h1,h2,h3⟩:=h
 obtain ⟨i',z',e1,e2,e3,e4,e5,e6,e7⟩:=zks h1
 have hi2:P.info? et=some i:=by rw [←jh];exact hi
 rw [hi2] at e1;cases e1
 rw [hz] at e2;cases e2
 cases ag with
 |true=>
  simp only [cond_true] at h3
  refine ⟨i,z,hi,hz,h2,by simp,fun φ v' hv=>?_⟩
  cases z<;>simp [zsQ] at h3
  rename_i cs
  obtain ⟨ys,rfl,hl⟩:=hv.agg_inv
  simp only [mvV,cond_true,wu]
  exact .agg' (by simpa using e7 φ ys.toList (by simpa [Value.cells] using hl))
 |false=>
  simp only [cond_false,Bool.and_eq_true,Bool.not_eq_true'] at h3
  refine ⟨i,z,hi,hz,h2,by simpa using h3.2,fun φ v' hv=>?_⟩
  have hs:sz t=1:=Nat.eq_of_beq_eq_true h3.2
  have hc:z.cells=#[z]:=by
   cases z<;>simp [zsQ] at h3<;>rfl
  have h4:=e7 φ [v'] (by rw [hc];exact ⟨hv,trivial⟩)
  have h5:=jB t (Gg t)
  rw [hs] at h5
  simp only [mvV,cond_false]
  match hl:qq t (Gg t),h5 with
  |[u],_=>
   rw [hl] at h4
   exact h4.1
def zsR (P:Program) (kt:TypeId):Bool:=match ja P kt with
 |some d=>Vs d
 |none=>false
theorem zqd {kt:TypeId} (h:zsR P kt=true):∃d,ja P kt=some (.int d):=by
 unfold zsR at h
 split at h
 ·rename_i d hd
  cases d<;>simp [Vs] at h
  exact ⟨_,hd⟩
 ·cases h
def zzF (P:Program) (H:SH) (nx:Nat) (t:TypeId) (k:KO R):Option R:=match ja P t with
 |some (.map kt et)=>match ja P kt,vtT P et with
  |some (.int kk),some (ag,ty)=>match YL H nx (.mpb kk ag ty []) with
   |some H'=>k (.mp nx) H' (nx+1)
   |none=>none
  |_,_=>none
 |_=>none
theorem zEl {rd:Option Nat} {o:Oper} {tm:List SV} {H:SH} {nx:Nat} {k:KO R} {r:R} {t:TypeId} (ho:o.op=.makeMap t none) (h:zzF P H nx t k=some r):Zi P rd o tm H nx k r:=by
 unfold zzF at h
 split at h
 case h_2=>cases h
 split at h
 case h_2=>cases h
 rename_i kk ag ty _ _
 split at h
 case h_2=>cases h
 rename_i H' hn
 obtain ⟨e1,rfl⟩:=um hn
 refine uD (nx':=nx+1) ⟨kG e1,gP e1,Nat.le_succ _,fun ν hv=>⟨YM hv,WR (kT (v:=.map (some nx)) (H':=(nx,.mp [] 0)::zG ν H) (nx':=nx+1) (by unfold jZ;simp only [ho])) (fun φ v' hv=>by simpa [den] using hv) (fun φ K w g=>?_)⟩⟩ h
 exact zaQ e1 (x:=.mp [] 0) rfl g
def zC3 (P:Program) (tm:List SV) (H:SH) (nx:Nat) (t:TypeId) (x j:Operand) (c:Bool) (k:KO R):Option R:=match jI tm H x,jI tm H j with
 |some (.mp b),some (.int k' n)=>match zn H b,ja P t with
  |some (.mpb kk ag ty l),some (.map kt et)=>bif Yh kk k'&&(zsR P kt&&zC2 P et ag ty) then
    match mkV ⟨ag,ty⟩ (mpD l n (Gg ty)) with
    |v=>k (bif c then .tup [v,.bool (mpH l n)] else v) H nx
   else none
  |_,_=>none
 |_,_=>none
theorem zFU {rd:Option Nat} {o:Oper} {tm:List SV} {H:SH} {nx:Nat} {k:KO R} {r:R} {t:TypeId} {x j:Operand} {c:Bool} (ho:o.op=.lookup t x j c) (h:zC3 P tm H nx t x j c k=some r):Zi P rd o tm H nx k r:=by
 unfold zC3 at h
 split at h
 case h_2=>cases h
 rename_i b k' n hx hj
 split at h
 case h_2=>cases h
 rename_i kk ag ty l kt et hb hu
 have h6:=zE h
 clear h
 obtain ⟨hh,h⟩:=h6
 simp only [Bool.and_eq_true] at hh
 obtain ⟨h1,h2,h3⟩:=hh
 have:=JZ h1
 subst this
 obtain ⟨d,hd⟩:=zqd h2
 obtain ⟨i,z,e1,e2,e3,e4,e5⟩:=zFT h3
 dsimp only at h
 refine uD ⟨wc.refl H,wq.refl H,Nat.le_refl _,fun ν hv=>⟨hv,?_⟩⟩ h
 have hg:(zG ν H).get b=some (.mp (Za kk ag ty l 0) l.length):=by rw [zS,hb];rfl
 have hdl:∃v,zf7 P (zG ν H) t (.map (some b)) (.int kk n) c=some v∧∀φ v',zt φ v v'→zt φ (den (rho ν H) (bif c then .tup [mkV ⟨ag,ty⟩ (mpD l n (Gg ty)),.bool (mpH l n)] else mkV ⟨ag,ty⟩ (mpD l n (Gg ty)))) v':=by
  unfold zf7
  simp only [hu,hd,e1,zCz,hg,e2,Vs,YH,e3,Bool.and_self,if_true,znb]
  rw [zGQ]
  cases hi:mpI l n with
  |none=>
   rw [zzE n _ l hi]
   simp only [Option.map_none]
   refine ⟨_,rfl,fun φ v' hv=>?_⟩
   cases c with
   |false=>simpa only [Bool.false_eq_true,if_false,cond_false,zne _ e4] using e5 φ v' (by simpa using hv)
   |true=>
    simp only [if_true] at hv
    obtain ⟨ys,rfl,hl⟩:=hv.tuple_inv
    simp only [cond_true,den,zu,zne _ e4]
    refine .tuple' ?_
    match ys.toList,hl with
    |[a,b],hl=>exact ⟨e5 φ a hl.1,hl.2.1,trivial⟩
    |[],hl=>exact hl.elim
    |[_],hl=>exact hl.2.elim
    |_::_::_::_,hl=>exact hl.2.2.elim
  |some s=>
   simp only [Option.map_some]
   refine ⟨_,rfl,fun φ v' hv=>?_⟩
   cases c with
   |false=>simpa only [Bool.false_eq_true,if_false,cond_false,zne _ e4] using hv
   |true=>simpa only [if_true,cond_true,den,zu,zne _ e4,Option.isSome_some] using hv
 obtain ⟨v,f1,f2⟩:=hdl
 refine WR (kT (v:=v) (H':=zG ν H) (nx':=nx) ?_) (fun φ v' hv=>f2 φ v' hv) (fun φ K w g=>g)
 unfold jZ
 simp only [ho,qb hx ν,qb hj ν,Option.bind_some,den,f1]
 rfl
def zo3 (P:Program) (tm:List SV) (H:SH) (nx:Nat) (t:TypeId) (m j x:Operand) (k:KO R):Option R:=match jI tm H m,jI tm H j,jI tm H x with
 |some (.mp b),some (.int k' n),some v=>match zn H b,ja P t with
  |some (.mpb kk ag ty l),some (.map kt et)=>bif Yh kk k'&&(zsR P kt&&(ag||Nat.beq (sz ty) 1)) then
    match exV ag ty v with
    |some y=>k (.tup []) (wK H b (.mpb kk ag ty (mpP l n y))) nx
    |none=>none
   else none
  |_,_=>none
 |_,_,_=>none
theorem zsS {rd:Option Nat} {o:Oper} {tm:List SV} {H:SH} {nx:Nat} {k:KO R} {r:R} {t:TypeId} {m j x:Operand} (ho:o.op=.mapUpdate t m j x∨o.op=.insert t m j x) (h:zo3 P tm H nx t m j x k=some r):Zi P rd o tm H nx k r:=by
 unfold zo3 at h
 split at h
 case h_2=>cases h
 rename_i b k' n v hm hj hx
 split at h
 case h_2=>cases h
 rename_i kk ag ty l kt et hb hu
 have h6:=zE h
 clear h
 obtain ⟨hh,h⟩:=h6
 simp only [Bool.and_eq_true] at hh
 obtain ⟨h1,h2,h3⟩:=hh
 have:=JZ h1
 subst this
 obtain ⟨d,hd⟩:=zqd h2
 split at h
 case h_2=>cases h
 rename_i y hy
 have hreg:∀c,reg (zn (wK H b (.mpb kk ag ty (mpP l n y))) c)=reg (zn H c):=fun c=>by
  rw [qQ]
  by_cases hc:c=b
  ·subst hc;simp [hb,reg]
  ·rw [if_neg hc]
 have hnn:∀c,jg (zn (wK H b (.mpb kk ag ty (mpP l n y))) c)=true→jg (zn H c)=true:=fun c hc=>by
  rw [qQ] at hc
  by_cases hcb:c=b
  ·subst hcb;simp [hb,jg] at hc
  ·rwa [if_neg hcb] at hc
 refine uD ⟨fun c z hz=>by rw [hreg c];exact hz,zaP hb (fun L=>by simp),Nat.le_refl _,fun ν hv=>⟨Je hreg hnn hv,?_⟩⟩ h
 have hg:(zG ν H).get b=some (.mp (Za kk ag ty l 0) l.length):=by rw [zS,hb];rfl
 have hden:=zH3 hy (rho ν H) h3
 have hup:zcP P (zG ν H) t (.map (some b)) (.int kk n) (den (rho ν H) v)=some ((zG ν H).set b (.mp (Za kk ag ty (mpP l n y) 0) (mpP l n y).length)):=by
  unfold zcP
  simp only [hu,hd,hg,Vs,YH,Bool.and_self,if_true,znb,hden]
  cases hi:mpI l n with
  |none=>
   obtain ⟨q1,q2⟩:=znc (k:=kk) (ag:=ag) (x:=y) l 0 hi
   simp only [Option.map_none]
   rw [q1,q2,Nat.zero_add]
  |some s=>
   obtain ⟨u,b0,q1,q2,q3⟩:=znd (k:=kk) (ag:=ag) (x:=y) l 0 s hi
   simp only [Option.map_some,Nat.zero_add,q1]
   rw [q2,q3]
   simp [zyE]
 refine WR (kT (v:=undef) (H':=(zG ν H).set b (.mp (Za kk ag ty (mpP l n y) 0) (mpP l n y).length)) (nx':=nx) ?_) (fun φ v' hv=>by simpa [den,zu,undef] using hv) (fun φ K w g=>g.sub fun c k' hc=>?_)
 ·unfold jZ
  rcases ho with ho | ho<;>
  ·simp only [ho,qb hm ν,qb hj ν,qb hx ν,Option.bind_some,den,hup]
   rfl
 ·rw [zS,qQ,xg hreg] at hc
  rw [Hp.get_set]
  by_cases hcb:c=b
  ·subst hcb
   simp [hb,zZ] at hc
   rw [if_pos rfl,hg]
   simp [hc]
  ·rw [if_neg hcb] at hc ⊢
   rw [zS];exact hc
def lsS (l:List SV) (i:Nat) (v:SV):List SV:=List.rec (motive:=fun _=>Nat→List SV) (fun _=>[]) (fun x r ih i=>Nat.rec (motive:=fun _=>List SV) (v::r) (fun m _=>x::ih m) i) l i
theorem Ze (v:SV):∀(l:List SV) (i:Nat),lsS l i v=l.set i v
 |[],_=>by simp [lsS]
 |x::l,0=>rfl
 |x::l,i+1=>by
  show x::lsS l i v=_
  rw [Ze v l i];simp
def zbf (tm:List SV) (d:Option Tmp) (v:SV):List SV:=match d with
 |some d=>lsS tm d v
 |none=>tm
def zFV (H:SH) (tm:List SV):Operand→List SV
 |.tmp t=>match gl tm t with
  |some (.own b)=>match zn H b with
   |some (.fro _ ty l)=>bif Nat.blt 0 (sz ty) then lsS tm t (.lst ty l false) else tm
   |_=>tm
  |_=>tm
 |_=>tm
def znf (H:SH) (tm:List SV):List Operand→List SV
 |[]=>tm
 |x::r=>znf H (zFV H tm x) r
theorem zFW {ν:Nat→Bool} {nx:Nat} {H:SH} (hv:VN ν nx H) (g:zI φ (zG ν H) K w) {tm:List SV} {x:Operand} {ts:Array Value} (ht:qO φ (zu (rho ν H) tm) ts):qO φ (zu (rho ν H) (zFV H tm x)) ts:=by
 unfold zFV
 split
 case h_2=>exact ht
 rename_i t
 split
 case h_2=>exact ht
 rename_i b hb
 split
 case h_2=>exact ht
 rename_i ty l hf
 cases hs:Nat.blt 0 (sz ty) with
 |false=>exact ht
 |true=>
  rw [cond_true,Ze]
  rw [xm] at hb
  refine ⟨by rw [←ht.1,wh,wh,List.length_set],fun i v hv2=>?_⟩
  rw [wF,Option.map_eq_some_iff] at hv2
  obtain ⟨u,hu,rfl⟩:=hv2
  rw [List.getElem?_set] at hu
  by_cases hti:t=i
  ·subst hti
   have hlt:=(List.getElem?_eq_some_iff.1 hb).1
   simp [hlt] at hu
   subst hu
   rcases ht.2 t (den (rho ν H) (.own b)) (by rw [wF,hb];rfl) with h0 | ⟨v',h1,h2⟩
   ·simp only [den] at h0
    exact absurd h0 (kU ν H b)
   ·right
    refine ⟨v',h1,?_⟩
    simp only [den] at h2 ⊢
    exact zjj g hv hf (zdW hs) h2
  ·rw [if_neg hti] at hu
   exact ht.2 i _ (by rw [wF,hu];rfl)
theorem zzG {ν:Nat→Bool} {nx:Nat} {H:SH} (hv:VN ν nx H) (g:zI φ (zG ν H) K w):∀{xs:List Operand} {tm:List SV} {ts:Array Value},qO φ (zu (rho ν H) tm) ts→qO φ (zu (rho ν H) (znf H tm xs)) ts
 |[],_,_,ht=>ht
 |x::r,tm,ts,ht=>zzG hv g (xs:=r) (zFW hv g ht)
theorem zzH {r:Option Nat} {o:Oper} {tm tm2:List Value} {H H2 H':Hp} {nx nx':Nat} {v:Value} (h:UE P r o tm2 H2 nx v H' nx') (hg:∀φ K w,zI φ H K w→zI φ H2 K w) (ht:∀φ K w,zI φ H K w→∀ts,qO φ tm ts→qO φ tm2 ts):UE P r o tm H nx v H' nx':=
 ⟨h.1,fun φ w K a rc next Q g hf htm hr hk=>h.2 φ w K a rc next Q (hg _ _ _ g) hf (ht _ _ _ g _ htm) hr hk⟩
theorem zHv {rd:Option Nat} {o:Oper} {tm:List SV} {H H':SH} {nx nx':Nat} {v:SV} {xs:List Operand} (h:SOp P rd o (znf H tm xs) H nx v H' nx'):SOp P rd o tm H nx v H' nx':=by
 obtain ⟨h1,h2,h3,h4⟩:=h
 refine ⟨h1,h2,h3,fun ν hv=>?_⟩
 obtain ⟨e1,e2⟩:=h4 ν hv
 exact ⟨e1,zzH e2 (fun _ _ _ g=>g) fun φ K w g ts ht=>zzG hv g ht⟩
theorem zku {rd:Option Nat} {o:Oper} {tm:List SV} {H:SH} {nx:Nat} {k:KO R} {r:R} {xs:List Operand} (h:Zi P rd o (znf H tm xs) H nx k r):Zi P rd o tm H nx k r:=by
 obtain ⟨v,H',nx',h1,h2⟩:=h
 exact ⟨v,H',nx',zHv h1,h2⟩
def zzI (P:Program) (tm:List SV) (H:SH) (nx:Nat) (b:Builtin) (args:Array Operand) (ats:Array TypeId) (k:KO R):Option R:=match b,args,ats with
 |.len,⟨[x]⟩,⟨[t]⟩=>zFI P tm H nx t x k
 |.append,⟨[s,x]⟩,⟨[t,u]⟩=>bif Nat.beq t u then zFQ P (znf H tm [s,x]) H nx t s x k else none
 |.copy,⟨[d,x]⟩,⟨[t,_]⟩=>zC1 P (znf H tm [x]) H nx t d x k
 |_,_,_=>none
def zGR (P:Program) (tm:List SV) (H:SH) (nx:Nat) (o:Oper) (k:KO R):Option R:=match o.op with
 |.pick c a b=>zCT tm H nx c a b k
 |.binOp op t x y _=>bif zBV tm H x y then zCX P tm H nx op t x y k else zFG tm H nx op x y k
 |.indexAddr t x i=>zva P (znf H tm [x]) H nx t x i k
 |.index t x i=>zzx P tm H nx t x i k
 |.load t a=>zCV P tm H nx t a k
 |.store t a x=>zC0 P tm H nx t a x k
 |.slice t x lo hi mx=>zzy P (znf H tm [x]) H nx t x lo hi mx k
 |.makeSlice t l c=>zCY P tm H nx t l c k
 |.buildSlice t n ps=>match zFO P tm H nx t n ps.toList with
  |some (v,H')=>k v H' (nx+1)
  |none=>zFL P tm H nx t n ps.toList k
 |.call {callee:=.builtin b,args,argTypes}=>zzI P tm H nx b args argTypes k
 |.makeMap t none=>zzF P H nx t k
 |.lookup t x i c=>zC3 P tm H nx t x i c k
 |.mapUpdate t m i x=>zo3 P tm H nx t m i x k
 |.insert t m i x=>zo3 P tm H nx t m i x k
 |_=>none
def zFX (P:Program) (tm:List SV) (H:SH) (nx:Nat) (o:Oper) (k:KO R):Option R:=match zCS P tm H nx o with
 |some (v,H',nx')=>k v H' nx'
 |none=>zGR P tm H nx o k
theorem zHw {rd:Option Nat} {o:Oper} {tm:List SV} {H:SH} {nx:Nat} {k:KO R} {r:R} (h:zFX P tm H nx o k=some r):Zi P rd o tm H nx k r:=by
 unfold zFX at h
 split at h
 ·rename_i v H' nx' h0
  exact uD (zHg h0) h
 ·unfold zGR at h
  split at h
  ·rename_i ho;exact zFF ho h
  ·rename_i op t x y u ho
   cases hq:zBV tm H x y with
   |true=>rw [hq] at h;exact zFJ ho h
   |false=>rw [hq] at h;exact zHl ho h
  ·rename_i ho;exact zku (zCU ho h)
  ·rename_i ho;exact zEe ho h
  ·rename_i ho;exact zFH ho h
  ·rename_i ho;exact zFM ho h
  ·rename_i ho;exact zku (zEg ho h)
  ·rename_i ho;exact zFK ho h
  ·rename_i ho
   split at h
   ·rename_i v H' hl;exact uD (zHr ho hl) h
   ·exact zHp ho h
  ·rename_i b args ats ho
   unfold zzI at h
   split at h
   ·exact zHo ho h
   ·have h6:=zE h
    obtain ⟨h7,h8⟩:=h6
    have:=Nat.eq_of_beq_eq_true h7
    subst this
    exact zku (zHu ho h8)
   ·exact zku (zFP ho h)
   ·cases h
  ·rename_i ho;exact zEl ho h
  ·rename_i ho;exact zFU ho h
  ·rename_i ho;exact zsS (.inl ho) h
  ·rename_i ho;exact zsS (.inr ho) h
  ·cases h
structure VR where
 e:Exit
 tm:List SV
 ds:List Nat
 H:SH
 nx:Nat
abbrev KC (R:Type):=VR→Option R
def VS:List Oper→List Nat
 |[]=>[]
 |o::r=>match o.dst with
  |some d=>d::VS r
  |none=>VS r
def asg:Code→List Nat
 |.region _ ops _=>VS ops.toList
 |.seq a b=>asg a++asg b
 |.cond _ a b=>asg a++asg b
 |.block _ c=>asg c
 |.loop c=>asg c
 |.scope c=>asg c
 |_=>[]
def Qn (a:List Nat) (tm tm':List SV):Prop:=tm'.length=tm.length∧∀i,i∉a→tm'[i]?=tm[i]?
theorem Qn.refl (a:List Nat) (tm:List SV):Qn a tm tm:=⟨rfl,fun _ _=>rfl⟩
theorem Qn.trans {a b c:List Nat} {t t' t'':List SV} (h:Qn a t t') (k:Qn b t' t'') (ha:∀i∈a,i∈c) (hb:∀i∈b,i∈c):Qn c t t'':=
 ⟨k.1.trans h.1,fun i hi=>(k.2 i fun e=>hi (hb i e)).trans (h.2 i fun e=>hi (ha i e))⟩
theorem Qn.mono {a b:List Nat} {t t':List SV} (h:Qn a t t') (ha:∀i∈a,i∈b):Qn b t t':=⟨h.1,fun i hi=>h.2 i fun e=>hi (ha i e)⟩
def zcW (ν:Nat→Bool) (R:VR):Res:=⟨R.e,zu (rho ν R.H) R.tm,R.ds,zG ν R.H,R.nx⟩
def JM (P:Program) (rd:Option Nat) (c:Code) (tm:List SV) (ds:List Nat) (H:SH) (nx:Nat) (R:VR):Prop:=
 wc H R.H∧wq H R.H∧Qn (asg c) tm R.tm∧nx≤R.nx∧∀ν,VN ν nx H→VN ν R.nx R.H∧jj P rd c (zu (rho ν H) tm) ds (zG ν H) nx (zcW ν R)
def zIG (P:Program) (rd:Option Nat) (ops:Array Oper) (l:List Nat) (zIO:List Nat) (tm:List SV) (H:SH) (nx:Nat) (tm':List SV) (H':SH) (nx':Nat):Prop:=
 wc H H'∧wq H H'∧Qn zIO tm tm'∧nx≤nx'∧∀ν,VN ν nx H→VN ν nx' H'∧zfG P rd ops l (zu (rho ν H) tm) (zG ν H) nx (zu (rho ν H') tm') (zG ν H') nx'
theorem zzJ (ρ:Nat→Value) (tm:List SV) (d:Option Tmp) (v:SV):zu ρ (zbf tm d v)=Zh (zu ρ tm) d (den ρ v):=by
 cases d with
 |none=>rfl
 |some d=>rw [zdT];simp only [zbf,Ze,qw,List.map_set]
theorem zFY {ν:Nat→Bool} {H H1:SH} (hr:wc H H1) {tm:List SV} {d:Option Tmp} {v:SV} {ts:Array Value} (h:qO φ (Zh (zu (rho ν H) tm) d (den (rho ν H1) v)) ts):qO φ (zu (rho ν H1) (zbf tm d v)) ts:=by
 cases d with
 |none=>exact zqK ν hr h
 |some d=>
  rw [zdT] at h
  rw [zzJ,zdT]
  refine ⟨by simpa [wh] using h.1,fun i u hu=>?_⟩
  rw [List.getElem?_set] at hu
  by_cases hdi:d=i
  ·subst hdi
   rw [if_pos rfl] at hu
   split at hu
   ·cases hu
    rename_i hlt
    refine h.2 d _ ?_
    rw [List.getElem?_set,if_pos rfl,if_pos (by simpa [wh] using hlt)]
   ·cases hu
  ·rw [if_neg hdi] at hu
   rw [wF,Option.map_eq_some_iff] at hu
   obtain ⟨x,hx,rfl⟩:=hu
   rcases h.2 i (den (rho ν H) x) (by rw [List.getElem?_set,if_neg hdi,wF,hx];rfl) with h0 | ⟨v',h1,h2⟩
   ·exact .inl (zkm (kU ν H) h0)
   ·exact .inr ⟨v',h1,zcU (zgd ν hr) x v' h2⟩
theorem zhZ (tm:List SV) (d:Option Tmp) (v:SV):Qn d.toList tm (zbf tm d v):=by
 cases d with
 |none=>exact Qn.refl _ _
 |some d=>
  simp only [zbf,Ze]
  refine ⟨by simp,fun i hi=>?_⟩
  rw [List.getElem?_set,if_neg]
  simpa using fun e:d=i=>hi (by simp [e])
theorem zEm {r:Option Nat} {ops:Array Oper} {l:List Nat} {tm tm2 tm':List Value} {H H':Hp} {nx nx':Nat} (h:zfG P r ops l tm2 H nx tm' H' nx') (ht:∀φ ts,qO φ tm ts→qO φ tm2 ts):zfG P r ops l tm H nx tm' H' nx':=
 ⟨h.1,fun φ w K a rc Q g hf htm hr hk=>h.2 φ w K a rc Q g hf (ht _ _ htm) hr hk⟩
def zsT (ops:Array Oper) (tm:List SV) (o:Oper) (y n:List SV→Option R):Option R:=match o.guard with
 |none=>y tm
 |some (j,want)=>match gl ops.toList j with
  |some p=>match p.dst with
   |some d=>match gl tm d with
    |some (.bool b)=>bif b then (bif want then y (lsS tm d (.bool true)) else n (lsS tm d (.bool true))) else (bif want then n (lsS tm d (.bool false)) else y (lsS tm d (.bool false)))
    |some (.tup _)=>n tm
    |_=>none
   |none=>none
  |none=>none
theorem zFZ {tm:List SV} {d:Nat} {v:SV} (h:tm[d]?=some v):lsS tm d v=tm:=by
 rw [Ze]
 obtain ⟨h1,h2⟩:=List.getElem?_eq_some_iff.1 h
 rw [←h2];exact List.set_getElem_self h1
theorem zzK {ops:Array Oper} {tm:List SV} {o:Oper} {y n:List SV→Option R} {r:R} (h:zsT ops tm o y n=some r) :
  ((∀tmv:List Value,(∀(i:Nat) u,tm[i]?=some u→∃ρ,tmv[i]?=some (den ρ u))→vI ops tmv o=some true)∧y tm=some r)∨((∀tmv:List Value,(∀(i:Nat) u,tm[i]?=some u→∃ρ,tmv[i]?=some (den ρ u))→vI ops tmv o=some false)∧n tm=some r):=by
 unfold zsT at h
 unfold vI
 split at h
 ·rename_i hg
  exact .inl ⟨fun tmv _=>by simp only [hg],h⟩
 ·rename_i j want hg
  split at h
  case h_2=>cases h
  rename_i p hp
  split at h
  case h_2=>cases h
  rename_i d hd
  rw [xm,Array.getElem?_toList] at hp
  have hj:(ops[j]?).bind (·.dst)=some d:=by rw [hp];exact hd
  split at h
  ·rename_i b hb
   rw [xm] at hb
   have h1:∀tmv:List Value,(∀(i:Nat) u,tm[i]?=some u→∃ρ,tmv[i]?=some (den ρ u))→tmv[d]?=some (.bool b):=fun tmv hm=>by
    obtain ⟨ρ,h2⟩:=hm d _ hb
    rw [h2];simp [den]
   cases b<;>simp only [cond_true,cond_false] at h<;>rw [zFZ hb] at h<;>cases want<;>simp only [cond_true,cond_false] at h<;>first
    |exact .inl ⟨fun tmv hm=>by simp only [hg,hj,Option.bind_some,zfB,h1 tmv hm];rfl,h⟩
    |exact .inr ⟨fun tmv hm=>by simp only [hg,hj,Option.bind_some,zfB,h1 tmv hm];rfl,h⟩
  ·rename_i vs hb
   rw [xm] at hb
   refine .inr ⟨fun tmv hm=>?_,h⟩
   obtain ⟨ρ,h2⟩:=hm d _ hb
   simp only [hg,hj,Option.bind_some,zfB,h2,den]
  ·cases h
theorem zC4 {ops:Array Oper} {tm:List SV} {o:Oper} {y n:List SV→Option R} {r:R} (h:zsT ops tm o y n=some r):((∀ρ,vI ops (zu ρ tm) o=some true)∧y tm=some r)∨((∀ρ,vI ops (zu ρ tm) o=some false)∧n tm=some r):=by
 have hd:∀(ρ:Nat→Value) (i:Nat) (u:SV),tm[i]?=some u→∃ρ',(zu ρ tm)[i]?=some (den ρ' u):=fun ρ i u hu=>⟨ρ,by rw [wF,hu];rfl⟩
 rcases zzK h with ⟨h1,h2⟩ | ⟨h1,h2⟩
 ·exact .inl ⟨fun ρ=>h1 _ (hd ρ),h2⟩
 ·exact .inr ⟨fun ρ=>h1 _ (hd ρ),h2⟩
def zzL (op:List SV→SH→Nat→Oper→KO R→Option R) (ops:Array Oper):List Oper→List SV→SH→Nat→(List SV→SH→Nat→Option R)→Option R
 |[],tm,H,nx,k=>k tm H nx
 |o::l,tm,H,nx,k=>zsT ops tm o
  (fun tm=>op tm H nx o fun v H1 nx1=>zzL op ops l (zbf tm o.dst v) H1 nx1 k)
  (fun tm=>zzL op ops l (zbf tm o.dst (.tup [])) H nx k)
def OpS (P:Program) (rd:Option Nat) (op:List SV→SH→Nat→Oper→KO R→Option R):Prop:=∀{tm H nx o k r},op tm H nx o k=some r→Zi P rd o tm H nx k r
theorem zvb {op:List SV→SH→Nat→Oper→KO R→Option R} {rd:Option Nat} (hop:OpS P rd op) {ops:Array Oper}:∀{l:List Oper} {j:Nat} {tm:List SV} {H:SH} {nx:Nat} {k:List SV→SH→Nat→Option R} {r:R},(∀i:Nat,l[i]?=ops[j+i]?)→zzL op ops l tm H nx k=some r→
  ∃tm' H' nx',zIG P rd ops (List.range' j l.length) (VS l) tm H nx tm' H' nx'∧k tm' H' nx'=some r
 |[],j,tm,H,nx,k,r,_,h=>⟨tm,H,nx,⟨wc.refl H,wq.refl H,Qn.refl _ _,Nat.le_refl _,fun ν hv=>⟨hv,zDT⟩⟩,h⟩
 |o::l,j,tm,H,nx,k,r,hl,h=>by
  have h0:ops[j]?=some o:=by simpa using (hl 0).symm
  have hl':∀i:Nat,l[i]?=ops[j+1+i]?:=fun i=>by have:=hl (i+1);simpa [Nat.add_assoc,Nat.add_comm 1 i] using this
  have hin1:∀i∈o.dst.toList,i∈VS (o::l):=fun i hi=>by
   unfold VS
   cases hd:o.dst with
   |none=>rw [hd] at hi;cases hi
   |some d=>rw [hd] at hi;simp at hi;subst hi;simp
  have hin2:∀i∈VS l,i∈VS (o::l):=fun i hi=>by
   show i∈(match o.dst with | some d=>d::VS l | none=>VS l)
   cases o.dst with
   |none=>exact hi
   |some d=>exact List.mem_cons_of_mem _ hi
  simp only [zzL] at h
  rw [List.length_cons,List.range'_succ]
  rcases zC4 h with ⟨hw,h1⟩ | ⟨hw,h1⟩
  ·obtain ⟨v,H1,nx1,⟨s1,s2,s3,s4⟩,h2⟩:=hop h1
   obtain ⟨tm',H',nx',⟨t1,t2,t3,t4,t5⟩,h3⟩:=zvb hop hl' h2
   refine ⟨tm',H',nx',⟨s1.trans t1,s2.trans t2,(zhZ tm o.dst v).trans t3 hin1 hin2,Nat.le_trans s3 t4,fun ν hv=>?_⟩,h3⟩
   obtain ⟨v1,o1⟩:=s4 ν hv
   obtain ⟨v2,o2⟩:=t5 ν v1
   exact ⟨v2,zCF h0 (hw _) o1 (zEm o2 fun φ ts ht=>zFY s1 ht)⟩
  ·obtain ⟨tm',H',nx',⟨t1,t2,t3,t4,t5⟩,h3⟩:=zvb hop hl' h1
   refine ⟨tm',H',nx',⟨t1,t2,(zhZ tm o.dst _).trans t3 hin1 hin2,t4,fun ν hv=>?_⟩,h3⟩
   obtain ⟨v2,o2⟩:=t5 ν hv
   exact ⟨v2,zCG h0 (hw _) (by rw [zzJ] at o2;simpa [den,zu,undef] using o2)⟩
def ZN (x0 x:Blk):Prop:=match x0,x with
 |.cells ds r,.cells cs r'=>r=r'∧∀(j:Nat) v,cs[j]?=some v→∃u,ds[j]?=some u∧∀φ v',zt φ u v'→zt φ v v'
 |.loop A,.loop B=>B.state=A.state∧B.pending=A.pending∧B.params=A.params∧B.assign=A.assign∧B.body=A.body∧B.defers=A.defers∧∀φ ts,qO φ A.tmps.toList ts→qO φ B.tmps.toList ts
 |a,b=>a=b
theorem ZN.refl (x:Blk):ZN x x:=by
 cases x with
 |cells cs r=>exact ⟨rfl,fun j v hv=>⟨v,hv,fun _ _ h=>h⟩⟩
 |loop A=>exact ⟨rfl,rfl,rfl,rfl,rfl,rfl,fun _ _ h=>h⟩
 |_=>rfl
theorem ZN.rel {x0 x:Blk} (h:ZN x0 x) {L:Loc} (hb:jA φ w L x0):jA φ w L x:=by
 unfold ZN at h
 split at h
 ·obtain ⟨rfl,h⟩:=h
  obtain ⟨arr,el,fr,e1,e2,e3⟩:=hb
  refine ⟨arr,el,fr,e1,fun j v hv=>?_,e3⟩
  obtain ⟨u,h1,h2⟩:=h j v hv
  obtain ⟨v',h3,h4⟩:=e2 j u h1
  exact ⟨v',h3,h2 φ v' h4⟩
 ·obtain ⟨h1,h2,h3,h4,h5,h6,h7⟩:=h
  obtain ⟨l',e1,e2,e3,e4,e5,e6,e7,D,e8,e9⟩:=hb
  exact ⟨l',e1,e2.trans h1.symm,e3.trans h2.symm,h7 _ _ e4,e5.trans h3.symm,e6.trans h4.symm,e7.trans h5.symm,D,by rw [h6];exact e8,e9⟩
 ·subst h;exact hb
theorem ZN.rw {x0 x:Blk} (h:ZN x0 x):x.rw=x0.rw:=by
 unfold ZN at h
 split at h
 ·obtain ⟨rfl,_⟩:=h;rfl
 ·rfl
 ·subst h;rfl
theorem ZN.seen {x0 x:Blk} (h:ZN x0 x) (wr:Nat→Bool) (b:Nat):ZN (vJ wr (fun _=>false) b x0) (vJ wr (fun _=>false) b x):=by
 unfold vJ
 cases wr b with
 |true=>simpa using h
 |false=>
  simp only [Bool.false_eq_true,if_false]
  unfold ZN at h
  split at h
  ·exact ⟨rfl,h.2⟩
  ·rfl
  ·subst h
   exact ZN.refl _
theorem ZN.trans {x y z:Blk} (h:ZN x y) (k:ZN y z):ZN x z:=by
 cases x<;>cases y<;>simp only [ZN] at h<;>first | (cases h;done) | (cases h;exact k) | exact k | skip
 ·cases z<;>simp only [ZN] at k ⊢<;>first | (cases k;done) | skip
  obtain ⟨rfl,h⟩:=h
  obtain ⟨rfl,k⟩:=k
  refine ⟨rfl,fun j v hv=>?_⟩
  obtain ⟨u,h1,h2⟩:=k j v hv
  obtain ⟨t,h3,h4⟩:=h j u h1
  exact ⟨t,h3,fun φ v' hr=>h2 φ v' (h4 φ v' hr)⟩
 ·cases z<;>simp only [ZN] at k ⊢<;>first | (cases k;done) | skip
  obtain ⟨h1,h2,h3,h4,h5,h6,h7⟩:=h
  obtain ⟨k1,k2,k3,k4,k5,k6,k7⟩:=k
  exact ⟨k1.trans h1,k2.trans h2,k3.trans h3,k4.trans h4,k5.trans h5,k6.trans h6,fun φ ts ht=>k7 φ ts (h7 φ ts ht)⟩
theorem zzM {ρ ρ':Nat→Value} (hρ:∀b,ρ b≠Fz.junk) (h:RLe ρ ρ') {nil:Bool} {k:SB} {x':Blk} (hx:zZ ρ' nil k=some x'):∃x,zZ ρ nil k=some x∧ZN x x':=by
 have key:∀(cs:List SV) (ro:Bool),ZN (.cells (zu ρ cs) ro) (.cells (zu ρ' cs) ro):=fun cs ro=>⟨rfl,fun j v hv=>by
  rw [wF,Option.map_eq_some_iff] at hv
  obtain ⟨u,hu,rfl⟩:=hv
  exact ⟨den ρ u,by rw [wF,hu];rfl,fun φ v' hr=>zcU h u v' hr⟩⟩
 cases k with
 |vars cs=>simp only [zZ,Option.some.injEq] at hx;subst hx;exact ⟨_,rfl,key cs false⟩
 |ro cs=>simp only [zZ,Option.some.injEq] at hx;subst hx;exact ⟨_,rfl,key cs true⟩
 |loop L=>
  simp only [zZ,Option.some.injEq] at hx;subst hx
  exact ⟨_,rfl,rfl,rfl,rfl,rfl,rfl,rfl,fun φ ts ht=>by simpa [yd] using zmZ hρ h (by simpa [yd] using ht)⟩
 |_=>exact ⟨x',hx,ZN.refl _⟩
def Mix (G H:Hp):Prop:=∀b x,H.get b=some x→∃x0,G.get b=some x0∧ZN x0 x
theorem Mix.refl (H:Hp):Mix H H:=fun b x h=>⟨x,h,ZN.refl x⟩
theorem Mix.trans {F G H:Hp} (h:Mix F G) (k:Mix G H):Mix F H:=fun b x hx=>by
 obtain ⟨y,h1,h2⟩:=k b x hx
 obtain ⟨z,h3,h4⟩:=h b y h1
 exact ⟨z,h3,h4.trans h2⟩
theorem Mix.good {G H:Hp} (h:Mix G H) (g:zI φ G K w):zI φ H K w:=by
 refine ⟨fun b k hb=>?_,fun b c k k' L L' hb hc hne hkr hL hL'=>?_,fun b k L hb hkr hL=>?_,g.kin,g.fz,fun b k L c M hb hkr hL hM=>?_⟩
 ·obtain ⟨x,h1,h2⟩:=h b k hb
  obtain ⟨L,hL,hB⟩:=g.rel b x h1
  exact ⟨L,hL,h2.rel hB⟩
 ·obtain ⟨x,h1,h2⟩:=h b k hb
  obtain ⟨y,h3,_⟩:=h c k' hc
  exact g.sep b c x y L L' h1 h3 hne (by rw [←h2.rw];exact hkr) hL hL'
 ·obtain ⟨x,h1,h2⟩:=h b k hb
  exact g.prot b x L h1 (by rw [←h2.rw];exact hkr) hL
 ·obtain ⟨x,h1,h2⟩:=h b k hb
  exact g.fsep b x L c M h1 (by rw [←h2.rw];exact hkr) hL hM
def roS:SB→SB
 |.vars cs=>.ro cs
 |.arr nn t l=>.roa nn t l
 |.loop _=>.hid
 |.defd=>.hid
 |.mpb _ _ _ _=>.hid
 |k=>k
def zF0:SB→SB
 |.arr nn t l=>.gone (rsz nn t l) l.length
 |.roa nn t l=>.gone (rsz nn t l) l.length
 |.fro nn t l=>.gone (rsz nn t l) l.length
 |.gone s n=>.gone s n
 |_=>.abs
def vl (l:List Nat) (b:Nat):Bool:=List.rec (motive:=fun _=>Bool) false (fun x _ ih=>bif Nat.beq x b then true else ih) l
def zng (vis wr:List Nat) (b:Nat) (k:SB):SB:=bif vl vis b then (bif vl wr b then k else roS k) else zF0 k
def zdD (vis wr:List Nat):SH→SH
 |[]=>[]
 |(b,k)::r=>(b,zng vis wr b k)::zdD vis wr r
theorem WS (vis wr:List Nat) (n:Nat):∀H:SH,zn (zdD vis wr H) n=(zn H n).map (zng vis wr n)
 |[]=>rfl
 |(b,k)::r=>by
  simp only [zdD,zJ]
  by_cases hb:b=n
  ·subst hb;simp
  ·rw [if_neg hb,if_neg hb];exact WS vis wr n r
theorem zjm (vis wr:List Nat) (b:Nat) (k:Option SB):reg (k.map (zng vis wr b))=reg k:=by
 cases k with
 |none=>rfl
 |some k=>
  simp only [Option.map_some,zng]
  cases vl vis b<;>cases vl wr b<;>cases k<;>first | rfl | exact zgc _ _ _
theorem zC5 (vis wr:List Nat) (b:Nat) (k:Option SB) (h:jg (k.map (zng vis wr b))=true):jg k=true:=by
 cases k with
 |none=>exact h
 |some k=>
  simp only [Option.map_some,zng] at h
  cases hv:vl vis b<;>cases hw:vl wr b<;>rw [hv,hw] at h<;>cases k<;>simp_all [jg,zF0,roS]
theorem zzN (ν:Nat→Bool) (vis wr:List Nat) (H:SH):rho ν (zdD vis wr H)=rho ν H:=xg (fun c=>by rw [WS,zjm]) ν
theorem zBX {ν:Nat→Bool} {nx:Nat} {vis wr:List Nat} {H:SH} (h:VN ν nx H):VN ν nx (zdD vis wr H):=Je (fun c=>by rw [WS,zjm]) (fun c hc=>zC5 vis wr c _ (by rw [←WS];exact hc)) h
theorem zF1 {ν:Nat→Bool} {vis wr:List Nat} {H:SH} {G:Hp} (hm:Mix G (zG ν H)) (wr':Nat→Bool) (hw:∀b,wr' b=(vl wr b&&(G.get b).isSome)) :
  Mix (Hp.only (vl vis) (UU wr' (fun _=>false) G)) (zG ν (zdD vis wr H)):=fun b x hx=>by
 rw [zS,WS,zzN] at hx
 cases hk:zn H b with
 |none=>rw [hk] at hx;cases hx
 |some k=>
  rw [hk] at hx
  simp only [Option.map_some,Option.bind_some,zng] at hx
  cases hv:vl vis b with
  |false=>
   rw [hv,cond_false] at hx
   cases k<;>simp [zF0,zZ] at hx
  |true=>
   rw [hv,cond_true] at hx
   have hget:(Hp.only (vl vis) (UU wr' (fun _=>false) G)).get b=(G.get b).map (vJ wr' (fun _=>false) b):=by
    rw [Hp.get_only,hv,if_pos rfl,zfH]
   have hH:∀y,zZ (rho ν H) (ν b) k=some y→∃y0,G.get b=some y0∧ZN y0 y:=fun y hy=>hm b y (by rw [zS,hk];exact hy)
   cases hwb:vl wr b with
   |true=>
    rw [hwb,cond_true] at hx
    obtain ⟨y0,h1,h2⟩:=hH x hx
    refine ⟨y0,?_,h2⟩
    rw [hget,h1]
    have:wr' b=true:=by rw [hw b,hwb,h1];rfl
    simp [vJ,this]
   |false=>
    rw [hwb,cond_false] at hx
    have hwf:wr' b=false:=by rw [hw b,hwb];rfl
    have hs:∃y,zZ (rho ν H) (ν b) k=some y∧vJ wr' (fun _=>false) b y=x:=by
     cases k with
     |vars cs=>simp only [roS,zZ,Option.some.injEq] at hx;exact ⟨_,rfl,by subst hx;simp [vJ,hwf]⟩
     |ro cs=>simp only [roS,zZ,Option.some.injEq] at hx;exact ⟨_,rfl,by subst hx;simp [vJ,hwf]⟩
     |arr nn t l=>
      simp only [roS,zZ] at hx ⊢
      cases hnb:jN nn l with
      |true=>rw [hnb] at hx;cases hx
      |false=>rw [hnb] at hx;simp only [cond_false,Option.some.injEq] at hx;exact ⟨_,rfl,by subst hx;simp [vJ,hwf]⟩
     |roa nn t l=>
      simp only [roS,zZ] at hx ⊢
      cases hnb:jN nn l with
      |true=>rw [hnb] at hx;cases hx
      |false=>rw [hnb] at hx;simp only [cond_false,Option.some.injEq] at hx;exact ⟨_,rfl,by subst hx;simp [vJ,hwf]⟩
     |fro nn t l=>
      simp only [roS,zZ] at hx ⊢
      cases hnb:jN nn l with
      |true=>rw [hnb] at hx;cases hx
      |false=>rw [hnb] at hx;simp only [cond_false,Option.some.injEq] at hx;exact ⟨_,rfl,by subst hx;simp [vJ,hwf]⟩
     |gone s n=>simp [roS,zZ] at hx
     |loop L=>simp only [roS,zZ,Option.some.injEq] at hx;exact ⟨_,rfl,by subst hx;simp [vJ,hwf]⟩
     |defd=>simp only [roS,zZ,Option.some.injEq] at hx;exact ⟨_,rfl,by subst hx;simp [vJ,hwf]⟩
     |hid=>simp only [roS,zZ,Option.some.injEq] at hx;exact ⟨_,rfl,by subst hx;simp [vJ,hwf]⟩
     |mpb k ag t l=>simp only [roS,zZ,Option.some.injEq] at hx;exact ⟨_,rfl,by subst hx;simp [vJ,hwf]⟩
     |abs=>simp [roS,zZ] at hx
    obtain ⟨y,h1,h2⟩:=hs
    obtain ⟨y0,h3,h4⟩:=hH y h1
    refine ⟨vJ wr' (fun _=>false) b y0,by rw [hget,h3];rfl,?_⟩
    rw [←h2]
    exact h4.seen wr' b
structure JX where
 ran:Bool
 vis:List Nat
 wr:List Nat
 lo:Nat
 hi:Nat
def gj (tm:List SV) (s:Nat):SV:=match gl tm s with
 |some v=>v
 |none=>.junk
def zfQ (tm:List SV):List Nat→List SV→List SV
 |[],t=>t
 |s::r,t=>zfQ tm r (lsS t s (gj tm s))
def jS (wr:List Nat) (lo hi:Nat) (b:Nat):Bool:=vl wr b||(Nat.ble lo b&&Nat.blt b hi)
def Kc (wr:List Nat) (lo hi:Nat):SH→SH
 |[]=>[]
 |(b,k)::r=>(b,bif jS wr lo hi b then (match k with | .fro nn t l=>.gone (rsz nn t l) l.length | k=>k) else k)::Kc wr lo hi r
def zo4 (wr:List Nat) (lo hi:Nat):SH→SH
 |[]=>[]
 |(b,k)::r=>bif jS wr lo hi b then (b,k)::zo4 wr lo hi r else zo4 wr lo hi r
def zo5 (wr:List Nat) (lo hi:Nat):SH→SH
 |[]=>[]
 |(b,k)::r=>bif jS wr lo hi b then zo5 wr lo hi r else (b,k)::zo5 wr lo hi r
def zzO (wr:List Nat) (lo hi:Nat) (H1 H:SH):SH:=zo4 wr lo hi H1++zo5 wr lo hi H
def rwK:SB→Bool
 |.ro _=>false
 |.roa _ _ _=>false
 |.fro _ _ _=>false
 |.hid=>false
 |_=>true
def okT (wr:List Nat) (lo hi:Nat) (H:SH):SH→Bool
 |[]=>true
 |(b,k)::r=>(bif jS wr lo hi b then rwK k else match reg (some k) with | none=>true | some _=>(reg (zn H b)).isSome)&&okT wr lo hi H r
def zsU (lo hi:Nat):SH→Bool
 |[]=>true
 |(b,_)::r=>!(Nat.ble lo b&&Nat.blt b hi)&&zsU lo hi r
def okW (H:SH):List Nat→Bool
 |[]=>true
 |b::r=>(match zn H b with
  |some (.gone _ _)=>false
  |some .abs=>false
  |none=>false
  |_=>true)&&okW H r
def zkv (wr:List Nat) (lo hi:Nat):Bool:=(match wr with | []=>true | _=>false)&&Nat.beq lo hi
def zgf (wr:List Nat) (lo hi:Nat) (H1 H:SH):Option SH:=match Kc wr lo hi H1 with
 |H2=>bif okT wr lo hi H H2&&(zsU lo hi H&&okW H wr) then some (bif zkv wr lo hi then H else zzO wr lo hi H2 H) else none
def zC6 (vis:List Nat):List Nat→Bool
 |[]=>true
 |b::r=>vl vis b&&zC6 vis r
theorem zzP {vis:List Nat} {b:Nat}:∀{wr:List Nat},zC6 vis wr=true→vl wr b=true→vl vis b=true
 |[],_,h=>by cases h
 |c::r,hs,h=>by
  simp only [zC6,Bool.and_eq_true] at hs
  have h:(bif Nat.beq c b then true else vl r b)=true:=h
  cases hb:Nat.beq c b with
  |true=>have:=Nat.eq_of_beq_eq_true hb;subst this;exact hs.1
  |false=>rw [hb] at h;exact zzP hs.2 h
def zo6 (op:List SV→SH→Nat→Oper→KO R→Option R) (ops:Array Oper) (cut:Nat→List SV→SH→List JX→Option (List Nat×List Nat)):Nat→List JX→List Oper→List SV→SH→Nat→(List JX→List SV→SH→Nat→Option R)→Option R
 |_,done,[],tm,H,nx,k=>k done.reverse tm H nx
 |i,done,o::l,tm,H,nx,k=>zsT ops tm o
  (fun tm=>match cut i tm H done with
   |some (wr,vis)=>bif zC6 vis wr then op (zfQ tm (xI ops o) (List.replicate tm.length .junk)) (zdD vis wr H) nx o fun v H1 nx1=>match zgf wr nx nx1 H1 H with
    |some H2=>zo6 op ops cut (i+1) (⟨true,vis,wr,nx,nx1⟩::done) l (zbf tm o.dst v) H2 nx1 k
    |none=>none
    else none
   |none=>none)
  (fun tm=>zo6 op ops cut (i+1) (⟨false,[],[],nx,nx⟩::done) l (zbf tm o.dst (.tup [])) H nx k)
theorem WT (wr:List Nat) (lo hi n:Nat):∀H:SH,zn (Kc wr lo hi H) n=(zn H n).map fun k=>bif jS wr lo hi n then (match k with | .fro nn t l=>.gone (rsz nn t l) l.length | k=>k) else k
 |[]=>rfl
 |(b,k)::r=>by
  simp only [Kc,zJ]
  by_cases hb:b=n
  ·subst hb;simp
  ·rw [if_neg hb,if_neg hb];exact WT wr lo hi n r
theorem zwU (wr:List Nat) (lo hi n:Nat):∀H:SH,zn (zo4 wr lo hi H) n=bif jS wr lo hi n then zn H n else none
 |[]=>by simp [zo4,Ky]
 |(b,k)::r=>by
  have ih:=zwU wr lo hi n r
  simp only [zo4,zJ]
  cases hb:jS wr lo hi b with
  |true=>
   simp only [cond_true,zJ]
   by_cases h:b=n
   ·subst h;simp [hb]
   ·simp only [h,if_false];exact ih
  |false=>
   simp only [cond_false]
   by_cases h:b=n
   ·subst h;rw [hb] at ih ⊢;simpa using ih
   ·simp only [h,if_false];exact ih
theorem zwV (wr:List Nat) (lo hi n:Nat):∀H:SH,zn (zo5 wr lo hi H) n=bif jS wr lo hi n then none else zn H n
 |[]=>by simp [zo5,Ky]
 |(b,k)::r=>by
  have ih:=zwV wr lo hi n r
  simp only [zo5,zJ]
  cases hb:jS wr lo hi b with
  |true=>
   simp only [cond_true]
   by_cases h:b=n
   ·subst h;rw [hb] at ih ⊢;simpa using ih
   ·simp only [h,if_false];exact ih
  |false=>
   simp only [cond_false,zJ]
   by_cases h:b=n
   ·subst h;simp [hb]
   ·simp only [h,if_false];exact ih
theorem zV (n:Nat):∀H G:SH,zn (H++G) n=(match zn H n with | some k=>some k | none=>zn G n)
 |[],G=>by simp [Ky]
 |(b,k)::r,G=>by
  have ih:=zV n r G
  simp only [List.cons_append,zJ]
  by_cases h:b=n
  ·subst h;simp
  ·simp only [h,if_false];exact ih
theorem zC7 (wr:List Nat) (lo hi n:Nat) (H1 H:SH):zn (zzO wr lo hi H1 H) n=bif jS wr lo hi n then zn H1 n else zn H n:=by
 unfold zzO
 rw [zV,zwU,zwV]
 cases jS wr lo hi n with
 |true=>simp only [cond_true];cases zn H1 n<;>rfl
 |false=>simp
theorem zqe {wr:List Nat} {lo hi:Nat} (h:zkv wr lo hi=true) (b:Nat):jS wr lo hi b=false:=by
 unfold zkv at h
 simp only [Bool.and_eq_true] at h
 obtain ⟨h1,h2⟩:=h
 have h2:=Nat.eq_of_beq_eq_true h2
 subst h2
 cases wr with
 |nil=>
  simp only [jS,vl,Bool.false_or,Bool.and_eq_false_iff]
  by_cases hb:lo≤b
  ·right
   rw [zf0];simp;omega
  ·left
   cases hc:Nat.ble lo b with
   |false=>rfl
   |true=>exact absurd (Nat.le_of_ble_eq_true hc) hb
 |cons x r=>cases h1
theorem zsV {wr:List Nat} {lo hi:Nat} {H1 H H2:SH} (h:zgf wr lo hi H1 H=some H2) (n:Nat):zn H2 n=bif jS wr lo hi n then zn (Kc wr lo hi H1) n else zn H n:=by
 unfold zgf at h
 dsimp only at h
 obtain ⟨_,h2⟩:=zE h
 cases h2
 cases hq:zkv wr lo hi with
 |true=>simp [zqe hq n]
 |false=>simp only [cond_false];exact zC7 ..
theorem zqf {wr:List Nat} {lo hi:Nat} {H1 H H2:SH} (h:zgf wr lo hi H1 H=some H2):okT wr lo hi H (Kc wr lo hi H1)=true∧zsU lo hi H=true∧okW H wr=true:=by
 unfold zgf at h
 dsimp only at h
 obtain ⟨h1,_⟩:=zE h
 simpa using h1
theorem zBY {wr:List Nat} {lo hi:Nat} {H:SH} {b:Nat} {k:SB}:∀{H1:SH},okT wr lo hi H H1=true→zn H1 b=some k→(jS wr lo hi b=true→rwK k=true)∧(jS wr lo hi b=false→(reg (some k)).isSome=true→(reg (zn H b)).isSome=true)
 |[],_,h=>by cases h
 |(c,x)::r,ho,h=>by
  simp only [okT,Bool.and_eq_true] at ho
  rw [zJ] at h
  by_cases hc:c=b
  ·subst hc
   rw [if_pos rfl] at h
   cases h
   have h1:=ho.1
   constructor
   ·intro ht;rw [ht] at h1;exact h1
   ·intro ht hr
    rw [ht,cond_false] at h1
    split at h1
    ·rename_i hn;rw [hn] at hr;cases hr
    ·exact h1
  ·rw [if_neg hc] at h
   exact zBY ho.2 h
theorem zwW {lo hi b:Nat} {k:SB}:∀{H:SH},zsU lo hi H=true→zn H b=some k→¬(lo≤b∧b < hi)
 |[],_,h=>by cases h
 |(c,x)::r,hf,h=>by
  simp only [zsU,Bool.and_eq_true,Bool.not_eq_true',Bool.and_eq_false_iff] at hf
  rw [zJ] at h
  by_cases hc:c=b
  ·subst hc
   rintro ⟨h1,h2⟩
   rcases hf.1 with h3 | h3
   ·have:=Nat.ble_eq_true_of_le h1;rw [h3] at this;cases this
   ·rw [zf0,decide_eq_false_iff_not] at h3;exact h3 h2
  ·rw [if_neg hc] at h
   exact zwW hf.2 h
theorem zbg {wr:List Nat} {lo hi b:Nat}:jS wr lo hi b=true↔vl wr b=true∨(lo≤b∧b < hi):=by
 simp only [jS,Bool.or_eq_true,Bool.and_eq_true,zf0,decide_eq_true_eq,Nat.ble_eq]
theorem zgg (wr:List Nat) (lo hi b:Nat) (k:Option SB):reg (k.map fun k=>bif jS wr lo hi b then (match k with | .fro nn t l=>.gone (rsz nn t l) l.length | k=>k) else k)=reg k:=by
 cases k with
 |none=>rfl
 |some k=>simp only [Option.map_some];cases jS wr lo hi b<;>cases k<;>first | rfl | exact zgc _ _ _
theorem zHx (wr:List Nat) (lo hi b:Nat) (k:Option SB):jg (k.map fun k=>bif jS wr lo hi b then (match k with | .fro nn t l=>.gone (rsz nn t l) l.length | k=>k) else k)=jg k:=by
 cases k with
 |none=>rfl
 |some k=>simp only [Option.map_some];cases jS wr lo hi b<;>cases k<;>rfl
structure zH4 (vis wr:List Nat) (lo hi:Nat) (V1 H H2:SH):Prop where
 reg:wc H H2
 keep:wq H H2
 vn:∀ν nx nx',VN ν nx H→VN ν nx' V1→nx≤nx'→VN ν nx' H2
 rho:∀ν,RLe (Sy.rho ν V1) (Sy.rho ν H2)
theorem zwX {vis wr:List Nat} {lo hi:Nat} {V1 H H2:SH} (hr:wc (zdD vis wr H) V1) (hk:wq (zdD vis wr H) V1) (hvis:∀b,vl wr b=true→vl vis b=true) (h:zgf wr lo hi V1 H=some H2):zH4 vis wr lo hi V1 H H2:=by
 have hg:=fun n=>zsV h n
 have hc:=zqf h
 have hreg2:∀b,jS wr lo hi b=true→Sy.reg (zn H2 b)=Sy.reg (zn V1 b):=fun b hb=>by rw [hg b,hb,cond_true,WT,zgg]
 have hregH:wc H H2:=fun b x hx=>by
  cases ht:jS wr lo hi b with
  |false=>rw [hg b,ht];exact hx
  |true=>rw [hreg2 b ht];exact hr b x (by rw [WS,zjm];exact hx)
 refine ⟨hregH,fun l L hl=>?_,fun ν nx nx' hv hv1 hle=>⟨fun b n hb=>?_,hv1.old,fun b hb=>?_⟩,fun ν b=>?_⟩
 ·cases ht:jS wr lo hi l with
  |false=>exact ⟨L.st,L.pend,by rw [hg l,ht];exact hl⟩
  |true=>
   have hw:vl wr l=true:=by
    rcases zbg.1 ht with h1 | h1
    ·exact h1
    ·exact absurd h1 (zwW hc.2.1 hl)
   obtain ⟨s,p,h1⟩:=hk l L (by rw [WS,hl];simp [zng,hw,hvis l hw])
   exact ⟨s,p,by rw [hg l,ht,cond_true,WT,h1,ht];rfl⟩
 ·cases ht:jS wr lo hi b with
  |false=>rw [hg b,ht] at hb;exact hv.empty b n hb
  |true=>rw [hreg2 b ht] at hb;exact hv1.empty b n hb
 ·cases ht:jS wr lo hi b with
  |false=>rw [hg b,ht] at hb;exact hv.nn b hb
  |true=>rw [hg b,ht,cond_true,WT,zHx] at hb;exact hv1.nn b hb
 ·unfold Sy.rho
  cases hx:Sy.reg (zn V1 b) with
  |none=>exact .inl rfl
  |some x=>
   right
   cases ht:jS wr lo hi b with
   |true=>rw [hreg2 b ht,hx]
   |false=>
    have h1:Sy.reg (zn (Kc wr lo hi V1) b)=some x:=by rw [WT,zgg];exact hx
    cases hd:zn (Kc wr lo hi V1) b with
    |none=>rw [hd] at h1;cases h1
    |some k=>
     have h2:=(zBY hc.1 hd).2 ht (by rw [←hd,h1];rfl)
     obtain ⟨y,hy⟩:=Option.isSome_iff_exists.1 h2
     have h3:=hr b y (by rw [WS,zjm];exact hy)
     rw [hx] at h3
     cases h3
     rw [hregH b _ hy]
theorem RLe.trans {a b c:Nat→Value} (h:RLe a b) (k:RLe b c):RLe a c:=fun n=>by
 rcases h n with h1 | h1
 ·exact .inl h1
 ·rcases k n with k1 | k1
  ·exact .inl (h1▸k1)
  ·exact .inr (k1.trans h1)
def YN (ν:Nat→Bool) (H:SH) (tmv:List Value) (tm:List SV):Prop:=tmv.length=tm.length∧∀(i:Nat) u,tm[i]?=some u→∃ρ,(∀b,ρ b≠Fz.junk)∧RLe ρ (rho ν H)∧tmv[i]?=some (den ρ u)
theorem YN.refl (ν:Nat→Bool) (H:SH) (tm:List SV):YN ν H (zu (rho ν H) tm) tm:=⟨wh _ _,fun i u hu=>⟨rho ν H,kU ν H,RLe.refl _,by rw [wF,hu];rfl⟩⟩
theorem YN.mono {ν:Nat→Bool} {H H2:SH} {tmv:List Value} {tm:List SV} (h:YN ν H tmv tm) (hr:RLe (rho ν H) (rho ν H2)):YN ν H2 tmv tm:=⟨h.1,fun i u hu=>by
 obtain ⟨ρ,h1,h2,h3⟩:=h.2 i u hu
 exact ⟨ρ,h1,h2.trans hr,h3⟩⟩
theorem YN.put {ν:Nat→Bool} {H:SH} {tmv:List Value} {tm:List SV} (h:YN ν H tmv tm) {ρ:Nat→Value} (hj:∀b,ρ b≠Fz.junk) (hr:RLe ρ (rho ν H)) (d:Option Tmp) (v:SV):YN ν H (Zh tmv d (den ρ v)) (zbf tm d v):=by
 cases d with
 |none=>exact h
 |some d=>
  rw [zdT]
  simp only [zbf,Ze]
  refine ⟨by simp [h.1],fun i u hu=>?_⟩
  rw [List.getElem?_set] at hu ⊢
  by_cases hdi:d=i
  ·subst hdi
   rw [if_pos rfl] at hu ⊢
   split at hu
   ·rename_i hlt
    cases hu
    exact ⟨ρ,hj,hr,by rw [if_pos (by rw [h.1];exact hlt)]⟩
   ·cases hu
  ·rw [if_neg hdi] at hu ⊢
   exact h.2 i u hu
theorem YN.rel {ν:Nat→Bool} {H:SH} {tmv:List Value} {tm:List SV} (h:YN ν H tmv tm) {ts:Array Value} (ht:qO φ tmv ts):qO φ (zu (rho ν H) tm) ts:=by
 refine ⟨by rw [wh,←h.1];exact ht.1,fun i v hv=>?_⟩
 rw [wF,Option.map_eq_some_iff] at hv
 obtain ⟨u,hu,rfl⟩:=hv
 obtain ⟨ρ,h1,h2,h3⟩:=h.2 i u hu
 rcases ht.2 i _ h3 with h0 | ⟨v',e1,e2⟩
 ·exact .inl (zkm h1 h0)
 ·exact .inr ⟨v',e1,zcU h2 u v' e2⟩
theorem zwY (tm:List SV):∀(sl:List Nat) (t:List SV),(zfQ tm sl t).length=t.length∧∀(i:Nat),t.length=tm.length→((i∈sl→(zfQ tm sl t)[i]?=tm[i]?)∧(i∉sl→(zfQ tm sl t)[i]?=t[i]?)∧(t[i]?=tm[i]?→(zfQ tm sl t)[i]?=tm[i]?))
 |[],t=>⟨rfl,fun i _=>⟨(fun h=>by cases h),fun _=>rfl,fun h=>h⟩⟩
 |s::r,t=>by
  obtain ⟨h1,h2⟩:=zwY tm r (lsS t s (gj tm s))
  rw [Ze] at h1 h2
  simp only [zfQ,Ze]
  refine ⟨by rw [h1];simp,fun i hl=>?_⟩
  obtain ⟨e1,e2,e3⟩:=h2 i (by simpa using hl)
  have hs:(t.set s (gj tm s))[s]?=tm[s]?:=by
   unfold gj
   rw [xm,List.getElem?_set]
   by_cases hlt:s < t.length
   ·rw [if_pos rfl,if_pos hlt]
    have:s < tm.length:=by omega
    simp [this]
   ·rw [if_pos rfl,if_neg hlt]
    rw [List.getElem?_eq_none (by omega)]
  have hst:t[i]?=tm[i]?→(t.set s (gj tm s))[i]?=tm[i]?:=fun h=>by
   by_cases hsi:s=i
   ·subst hsi;exact hs
   ·rw [List.getElem?_set,if_neg hsi];exact h
  refine ⟨fun hi=>?_,fun hi=>?_,fun h=>e3 (hst h)⟩
  ·rcases List.mem_cons.1 hi with rfl | hi
   ·exact e3 hs
   ·exact e1 hi
  ·simp only [List.mem_cons,not_or] at hi
   rw [e2 hi.2,List.getElem?_set,if_neg (fun e=>hi.1 e.symm)]
theorem YN.keep {ν:Nat→Bool} {H:SH} {tmv:List Value} {tm:List SV} (h:YN ν H tmv tm) (sl:List Nat):YN ν H (gZ tmv sl) (zfQ tm sl (List.replicate tm.length .junk)):=by
 obtain ⟨k1,k2⟩:=zwY tm sl (List.replicate tm.length .junk)
 have k3:=(zhP (tm:=tmv) (slots:=sl)).1
 refine ⟨by rw [k3,k1,h.1];simp,fun i u hu=>?_⟩
 obtain ⟨e1,e2,_⟩:=k2 i (by simp)
 by_cases hi:i∈sl
 ·rw [e1 hi] at hu
  rw [zqF hi]
  exact h.2 i u hu
 ·rw [e2 hi,List.getElem?_replicate] at hu
  split at hu
  ·rename_i hlt
   cases hu
   refine ⟨rho ν H,kU ν H,RLe.refl _,?_⟩
   have hl:i < (gZ tmv sl).length:=by rw [k3,h.1];exact hlt
   have hx:(gZ tmv sl)[i]?=some (gZ tmv sl)[i]:=by simp [hl]
   rcases (zhP (tm:=tmv) (slots:=sl)).2 i _ hx with h0 | ⟨h0,_⟩
   ·rw [hx,h0];simp [den]
   ·exact absurd h0 hi
  ·cases hu
theorem YN.any {ν:Nat→Bool} {H:SH} {tmv:List Value} {tm:List SV} (h:YN ν H tmv tm):∀(i:Nat) u,tm[i]?=some u→∃ρ,tmv[i]?=some (den ρ u):=fun i u hu=>by
 obtain ⟨ρ,_,_,h3⟩:=h.2 i u hu
 exact ⟨ρ,h3⟩
theorem znh {ν:Nat→Bool} {ρ:Nat→Value} {b:Nat} {x:Blk}:∀{H:SH},(b,x)∈uG ν ρ H→∃k,(b,k)∈H∧zZ ρ (ν b) k=some x
 |[],h=>by cases h
 |(c,k)::r,h=>by
  have hdel:∀(G:Hp) (y:Nat×Blk),y∈G.del c→y∈G:=by
   intro G y hy
   induction G with
   |nil=>cases hy
   |cons z G ih=>
    obtain ⟨d,u⟩:=z
    simp only [Hp.del] at hy
    split at hy
    ·exact List.mem_cons_of_mem _ (ih hy)
    ·rcases List.mem_cons.1 hy with rfl | hy
     ·simp
     ·exact List.mem_cons_of_mem _ (ih hy)
  simp only [uG] at h
  split at h
  ·rename_i y hy
   rcases List.mem_cons.1 h with h | h
   ·cases h;exact ⟨k,by simp,hy⟩
   ·obtain ⟨k',h1,h2⟩:=znh h
    exact ⟨k',List.mem_cons_of_mem _ h1,h2⟩
  ·obtain ⟨k',h1,h2⟩:=znh (hdel _ _ h)
   exact ⟨k',List.mem_cons_of_mem _ h1,h2⟩
theorem zBZ {wr:List Nat} {lo hi:Nat} {H:SH} {b:Nat} {k:SB}:∀{H1:SH},okT wr lo hi H H1=true→(b,k)∈H1→jS wr lo hi b=true→rwK k=true
 |[],_,h,_=>by cases h
 |(c,x)::r,ho,h,ht=>by
  simp only [okT,Bool.and_eq_true] at ho
  rcases List.mem_cons.1 h with h | h
  ·cases h;have h1:=ho.1;rw [ht] at h1;exact h1
  ·exact zBZ ho.2 h ht
theorem zzQ:∀{H:Hp},(∀b x,(b,x)∈H→x.rw=true)→zfI H=true
 |[],_=>rfl
 |(b,x)::r,h=>by
  simp only [zfI,h b x (by simp),Bool.true_and]
  exact zzQ fun c y hy=>h c y (List.mem_cons_of_mem _ hy)
theorem zcX {p:Nat→Bool} {b:Nat} {x:Blk}:∀{H:Hp},(b,x)∈Hp.only p H→p b=true∧(b,x)∈H
 |[],h=>by cases h
 |(c,y)::r,h=>by
  simp only [Hp.only] at h
  split at h
  ·rename_i hp
   rcases List.mem_cons.1 h with h | h
   ·cases h;exact ⟨hp,by simp⟩
   ·exact ⟨(zcX h).1,List.mem_cons_of_mem _ (zcX h).2⟩
  ·exact ⟨(zcX h).1,List.mem_cons_of_mem _ (zcX h).2⟩
theorem zHy {ρ:Nat→Value} {nil:Bool} {k:SB} {x:Blk} (h:rwK k=true) (hx:zZ ρ nil k=some x):x.rw=true:=by
 cases k with
 |arr nn t l=>
  simp only [zZ] at hx
  cases hn:jN nn l<;>rw [hn] at hx<;>cases hx
  rfl
 |_=>simp [rwK] at h<;>simp only [zZ,Option.some.injEq,reduceCtorEq] at hx<;>(subst hx;rfl)
theorem zF2 {ρ:Nat→Value} {nil:Bool} {k:SB} {n:Nat} (h:reg (some k)=some (n,0)):zZ ρ nil k=none:=by
 have key:∀(nn:Bool) (t:Ty) (l:List (T t)),some (l.length,rsz nn t l)=some (n,0)→jN nn l=true:=fun nn t l h=>by
  unfold rsz at h
  cases hn:jN nn l with
  |true=>rfl
  |false=>rw [hn] at h;simp at h
 cases k with
 |arr nn t l=>simp [zZ,key nn t l h]
 |roa nn t l=>simp [zZ,key nn t l h]
 |fro nn t l=>simp [zZ,key nn t l h]
 |gone s m=>rfl
 |_=>simp [reg] at h
theorem zB0 {H:SH} {b:Nat}:∀{wr:List Nat},okW H wr=true→vl wr b=true→∃k,zn H b=some k∧(∀s n,k≠.gone s n)∧k≠.abs
 |[],_,h=>by cases h
 |c::r,ho,h=>by
  simp only [okW,Bool.and_eq_true] at ho
  have h:(bif Nat.beq c b then true else vl r b)=true:=h
  by_cases hc:c=b
  ·subst hc
   have h1:=ho.1
   cases hk:zn H c with
   |none=>rw [hk] at h1;cases h1
   |some k=>
    refine ⟨k,rfl,fun s n e=>?_,fun e=>?_⟩<;>subst e<;>rw [hk] at h1<;>cases h1
  ·have:Nat.beq c b=false:=by
    cases hb:Nat.beq c b with
    |false=>rfl
    |true=>exact absurd (Nat.eq_of_beq_eq_true hb) hc
   rw [this] at h
   exact zB0 ho.2 h
structure zF3 (s:Stp) (t:JX):Prop where
 ran:s.ran=t.ran
 lo:s.lo=t.lo
 hi:s.hi=t.hi
 vis:∀x∈s.V,vl t.vis x.1=true
 wr:∀b,s.wr b=true→vl t.wr b=true
theorem zHz {op:List SV→SH→Nat→Oper→KO R→Option R} {rd:Option Nat} {ops:Array Oper} {o:Oper} {vis wr:List Nat} {tm:List SV} {H V1 H2:SH} {nx nx1:Nat} {v:SV}
  (hop:SOp P rd o (zfQ tm (xI ops o) (List.replicate tm.length .junk)) (zdD vis wr H) nx v V1 nx1) (hvis:∀b,vl wr b=true→vl vis b=true) (hb:zgf wr nx nx1 V1 H=some H2)
  {ν:Nat→Bool} (hv:VN ν nx H) {tmv:List Value} {G:Hp} (ht:YN ν H tmv tm) (hm:Mix G (zG ν H)) (hw:vI ops tmv o=some true) :
  ∃s:Stp,zyH P rd ops o tmv G nx s∧s.o=o∧s.hi=nx1∧VN ν nx1 H2∧YN ν H2 (Zh tmv o.dst s.v) (zbf tm o.dst v)∧Mix (if s.ran then zbb s.touch s.H' G else G) (zG ν H2)∧zF3 s ⟨true,vis,wr,nx,nx1⟩:=by
 obtain ⟨r1,r2,r3,r4⟩:=hop
 obtain ⟨v1,o1⟩:=r4 ν (zBX hv)
 have B:=zwX r1 r2 hvis hb
 have hc:=zqf hb
 have hg:=fun n=>zsV hb n
 let wr':Nat→Bool:=fun b=>vl wr b&&(G.get b).isSome
 have hvm:=zF1 (vis:=vis) (wr:=wr) hm wr' (fun _=>rfl)
 have hdrop:∀b x,(zG ν (Kc wr nx nx1 V1)).get b=some x→(zG ν V1).get b=some x:=fun b x hx=>by
  have hr:rho ν (Kc wr nx nx1 V1)=rho ν V1:=xg (fun c=>by rw [WT,zgg]) ν
  rw [zS,WT,hr] at hx
  rw [zS]
  cases hk:zn V1 b with
  |none=>rw [hk] at hx;cases hx
  |some k=>
   rw [hk] at hx
   simp only [Option.map_some,Option.bind_some] at hx ⊢
   cases htb:jS wr nx nx1 b with
   |false=>rw [htb] at hx;exact hx
   |true=>
    rw [htb,cond_true] at hx
    cases k<;>first | exact hx | (simp [zZ] at hx)
 have htouch:∀b,wb wr' nx nx1 b=true→jS wr nx nx1 b=true:=fun b hb=>by
  simp only [wb,wr',Bool.or_eq_true,Bool.and_eq_true,decide_eq_true_eq] at hb
  rw [zbg]
  rcases hb with hb | hb
  ·exact .inl hb.1
  ·exact .inr hb
 refine ⟨⟨o,true,den (rho ν V1) v,gZ tmv (xI ops o),Hp.only (vl vis) (UU wr' (fun _=>false) G),wr',zG ν (Kc wr nx nx1 V1),nx,nx1⟩,⟨rfl,rfl,r3,rfl,?_,fun _=>⟨?_,?_⟩,fun b k hk=>?_,(fun h=>by cases h),fun b hb=>?_⟩,rfl,rfl,B.vn ν nx nx1 hv v1 r3,?_,?_,⟨rfl,rfl,rfl,fun x hx=>(zcX (b:=x.1) (x:=x.2) hx).1,fun b hb=>?_⟩⟩
 ·rw [←zmR];exact hw
 ·refine WR (zzH o1 (fun φ K w g=>hvm.good g) fun φ K w g ts htr=>?_) (fun φ v' h=>h) (fun φ K w g=>g.sub hdrop)
  rw [zzN]
  exact (ht.keep (xI ops o)).rel htr
 ·refine zzQ fun b x hx=>?_
  obtain ⟨h1,h2⟩:=zcX hx
  obtain ⟨k,h3,h4⟩:=znh h2
  exact zHy (zBZ hc.1 h3 (htouch b h1)) h4
 ·dsimp only at hk ⊢
  rw [Hp.get_only] at hk
  split at hk
  ·rw [zfH,Option.map_eq_some_iff] at hk
   obtain ⟨k0,h1,rfl⟩:=hk
   exact ⟨k0,h1,rfl⟩
  ·cases hk
 ·simp only [wr',Bool.and_eq_true] at hb
  obtain ⟨k0,hk0⟩:=Option.isSome_iff_exists.1 hb.2
  refine ⟨vJ wr' (fun _=>false) b k0,?_⟩
  rw [Hp.get_only,if_pos (hvis b hb.1),zfH,hk0];rfl
 ·exact (ht.mono (zgd ν B.reg)).put (kU ν V1) (B.rho ν) o.dst v
 ·simp only [if_true]
  intro b x hx
  have hstouch:Stp.touch ⟨o,true,den (rho ν V1) v,gZ tmv (xI ops o),Hp.only (vl vis) (UU wr' (fun _=>false) G),wr',zG ν (Kc wr nx nx1 V1),nx,nx1⟩ b=wb wr' nx nx1 b:=rfl
  rw [zdV,hstouch]
  rw [zS,hg b] at hx
  cases htb:jS wr nx nx1 b with
  |false=>
   have h0:wb wr' nx nx1 b=false:=by
    cases h0:wb wr' nx nx1 b with
    |false=>rfl
    |true=>rw [htouch b h0] at htb;cases htb
   rw [htb,cond_false,Option.bind_eq_some_iff] at hx
   obtain ⟨k,hk,hx⟩:=hx
   obtain ⟨y,h1,h2⟩:=zzM (kU ν H) (zgd ν B.reg) hx
   obtain ⟨z,h3,h4⟩:=hm b y (by rw [zS,hk];exact h1)
   rw [h0]
   exact ⟨z,h3,h4.trans h2⟩
  |true=>
   rw [htb,cond_true,Option.bind_eq_some_iff] at hx
   obtain ⟨k,hk,hx⟩:=hx
   have hr:rho ν (Kc wr nx nx1 V1)=rho ν V1:=xg (fun c=>by rw [WT,zgg]) ν
   obtain ⟨y,h1,h2⟩:=zzM (kU ν V1) (B.rho ν) hx
   have hy:(zG ν (Kc wr nx nx1 V1)).get b=some y:=by rw [zS,hk,hr];exact h1
   cases h0:wb wr' nx nx1 b with
   |true=>exact ⟨y,by simpa using hy,h2⟩
   |false=>
    exfalso
    have hbw:vl wr b=true:=by
     rcases zbg.1 htb with h | h
     ·exact h
     ·simp only [wb,Bool.or_eq_false_iff,Bool.and_eq_false_iff,decide_eq_false_iff_not] at h0
      omega
    have hGn:G.get b=none:=by
     simp only [wb,wr',Bool.or_eq_false_iff,hbw,Bool.true_and] at h0
     cases hG:G.get b with
     |none=>rfl
     |some z=>rw [hG] at h0;simp at h0
    obtain ⟨k0,hk0,hng,hna⟩:=zB0 hc.2.2 hbw
    have hdn:zZ (rho ν H) (ν b) k0=none:=by
     cases hd:zZ (rho ν H) (ν b) k0 with
     |none=>rfl
     |some z=>
      obtain ⟨z0,h5,_⟩:=hm b z (by rw [zS,hk0];exact hd)
      rw [hGn] at h5;cases h5
    have hnil:∃n,reg (some k0)=some (n,0):=by
     cases k0 with
     |gone s n=>exact absurd rfl (hng s n)
     |abs=>exact absurd rfl hna
     |arr nn t l=>cases hn:jN nn l with
      |true=>exact ⟨l.length,by simp [reg,rsz,hn]⟩
      |false=>simp [zZ,hn] at hdn
     |roa nn t l=>cases hn:jN nn l with
      |true=>exact ⟨l.length,by simp [reg,rsz,hn]⟩
      |false=>simp [zZ,hn] at hdn
     |fro nn t l=>cases hn:jN nn l with
      |true=>exact ⟨l.length,by simp [reg,rsz,hn]⟩
      |false=>simp [zZ,hn] at hdn
     |_=>simp [zZ] at hdn
    obtain ⟨n0,hy0⟩:=hnil
    have h6:=r1 b (n0,0) (by rw [WS,zjm,hk0];exact hy0)
    rw [WT,Option.map_eq_some_iff] at hk
    obtain ⟨k1,hk1,hk2⟩:=hk
    rw [hk1] at h6
    have h7:reg (some k)=some (n0,0):=by
     rw [←h6,←hk2]
     exact zgg wr nx nx1 b (some k1)
    rw [zF2 h7] at h1
    cases h1
 ·simp only [wr',Bool.and_eq_true] at hb;exact hb.1
def zzR (t:JX):List Nat→Bool
 |[]=>false
 |x::r=>jS t.wr t.lo t.hi x||zzR t r
def zvc (ms:List Nat) (t:JX) (j:Nat):Nat→List JX→Bool
 |_,[]=>true
 |i,s::r=>(Nat.beq i j||(zmX ms i j||!zzR t s.vis))&&zvc ms t j (i+1) r
def zvd (ms:List Nat) (all:List JX):Nat→List JX→Bool
 |_,[]=>true
 |j,t::r=>(!t.ran||(zkv t.wr t.lo t.hi||zvc ms t j 0 all))&&zvd ms all (j+1) r
theorem zzS {t:JX} {x:Nat}:∀{l:List Nat},zzR t l=false→vl l x=true→jS t.wr t.lo t.hi x=false
 |[],_,h=>by cases h
 |y::r,hh,h=>by
  simp only [zzR,Bool.or_eq_false_iff] at hh
  have h:(bif Nat.beq y x then true else vl r x)=true:=h
  cases hb:Nat.beq y x with
  |true=>have:=Nat.eq_of_beq_eq_true hb;subst this;exact hh.1
  |false=>rw [hb] at h;exact zzS hh.2 h
theorem zB1 {ms:List Nat} {t:JX} {j:Nat}:∀{l:List JX} {i m:Nat} {s:JX},zvc ms t j i l=true→l[m]?=some s→i+m=j∨zmX ms (i+m) j=true∨zzR t s.vis=false
 |[],_,_,_,_,h=>by simp at h
 |x::r,i,0,s,hf,h=>by
  simp at h
  subst h
  simp only [zvc,Bool.and_eq_true,Bool.or_eq_true,Bool.not_eq_true'] at hf
  rcases hf.1 with h1 | h1 | h1
  ·exact .inl (Nat.eq_of_beq_eq_true h1)
  ·exact .inr (.inl h1)
  ·exact .inr (.inr h1)
 |x::r,i,m+1,s,hf,h=>by
  simp only [zvc,Bool.and_eq_true] at hf
  have:=zB1 (m:=m) hf.2 (by simpa using h)
  rwa [show i+1+m=i+(m+1) by omega] at this
theorem zB2 {ms:List Nat} {all:List JX}:∀{l:List JX} {j m:Nat} {t:JX},zvd ms all j l=true→l[m]?=some t→t.ran=false∨zkv t.wr t.lo t.hi=true∨zvc ms t (j+m) 0 all=true
 |[],_,_,_,_,h=>by simp at h
 |x::r,j,0,t,hf,h=>by
  simp at h
  subst h
  simp only [zvd,Bool.and_eq_true,Bool.or_eq_true,Bool.not_eq_true'] at hf
  exact hf.1
 |x::r,j,m+1,t,hf,h=>by
  simp only [zvd,Bool.and_eq_true] at hf
  have:=zB2 (m:=m) hf.2 (by simpa using h)
  rwa [show j+1+m=j+(m+1) by omega] at this
theorem zF4 {ms:List Nat} {ss:List Stp} {sl:List JX} (hl:sl.length=ss.length) (hfit:∀(j:Nat) s t,ss[j]?=some s→sl[j]?=some t→zF3 s t) (h:zvd ms sl 0 sl=true):zki ms ss=true:=by
 unfold zki
 rw [List.all_eq_true]
 rintro ⟨t,j⟩ ht
 rw [List.mem_zipIdx_iff_getElem?] at ht
 dsimp only at ht ⊢
 have hj:j < ss.length:=(List.getElem?_eq_some_iff.1 ht).1
 have ht':sl[j]?=some sl[j]:=by simp [hl,hj]
 have ft:=hfit j t _ ht ht'
 have htouch:∀x,t.touch x=true→jS sl[j].wr sl[j].lo sl[j].hi x=true:=fun x hx=>by
  simp only [Stp.touch,wb,Bool.or_eq_true,Bool.and_eq_true,decide_eq_true_eq] at hx
  rw [zbg]
  rcases hx with hx | hx
  ·exact .inl (ft.wr x hx)
  ·exact .inr (by rw [←ft.lo,←ft.hi];exact hx)
 rcases zB2 h ht' with h1 | h1 | h1
 ·rw [ft.ran,h1];rfl
 ·have hq:=zqe h1
  have h2:Nat.beq t.lo t.hi=true:=by
   unfold zkv at h1
   simp only [Bool.and_eq_true] at h1
   rw [ft.lo,ft.hi];exact h1.2
  have h3:(t.V.all fun x=>!t.wr x.1)=true:=by
   rw [List.all_eq_true]
   intro x _
   cases hw:t.wr x.1 with
   |false=>rfl
   |true=>
    have:=hq x.1
    have h5:jS sl[j].wr sl[j].lo sl[j].hi x.1=true:=zbg.2 (.inl (ft.wr _ hw))
    rw [this] at h5;cases h5
  rw [h2,h3];simp
 ·rw [Nat.zero_add] at h1
  simp only [Bool.or_eq_true]
  right
  rw [List.all_eq_true]
  rintro ⟨s,i⟩ hs
  rw [List.mem_zipIdx_iff_getElem?] at hs
  dsimp only at hs ⊢
  have hi:i < ss.length:=(List.getElem?_eq_some_iff.1 hs).1
  have hs':sl[i]?=some sl[i]:=by simp [hl,hi]
  have fs:=hfit i s _ hs hs'
  have:=zB1 h1 hs'
  rw [Nat.zero_add] at this
  rcases this with h2 | h2 | h2
  ·simp [h2]
  ·have:Uh ms i j=true:=by
    unfold zmX at h2
    rw [zcT,zcT] at h2
    exact h2
   simp [this]
  ·simp only [Bool.or_eq_true]
   right
   rw [List.all_eq_true]
   intro x hx
   have h3:=zzS h2 (fs.vis x hx)
   cases ht:t.touch x.1 with
   |false=>rfl
   |true=>rw [htouch _ ht] at h3;cases h3
theorem zqW {op:List SV→SH→Nat→Oper→KO R→Option R} {rd:Option Nat} (hop:OpS P rd op) {ops:Array Oper} {cut:Nat→List SV→SH→List JX→Option (List Nat×List Nat)} :
  ∀
   {l:List Oper} {i:Nat} {done:List JX} {tm:List SV} {H:SH} {nx:Nat} {k:List JX→List SV→SH→Nat→Option R} {r:R},zo6 op ops cut i done l tm H nx k=some r→
   ∃
    (sl:List JX) (tm':List SV) (H':SH) (nx':Nat),sl.length=l.length∧k (done.reverse++sl) tm' H' nx'=some r∧wc H H'∧wq H H'∧Qn (VS l) tm tm'∧nx≤nx'∧
    ∀
     ν,VN ν nx H→VN ν nx' H'∧∀(tmv:List Value) (G:Hp),YN ν H tmv tm→Mix G (zG ν H)→
     ∃
      ss:List Stp,ss.length=l.length∧(∀(j:Nat) o s,l[j]?=some o→ss[j]?=some s→zyH P rd ops o (tmR (ss.take j) tmv) (hpR (ss.take j) G) (nxR (ss.take j) nx) s)∧nxR ss nx=nx'∧
      YN ν H' (tmR ss tmv) tm'∧Mix (hpR ss G) (zG ν H')∧∀(j:Nat) s t,ss[j]?=some s→sl[j]?=some t→zF3 s t
 |[],i,done,tm,H,nx,k,r,h=>by
  simp only [zo6] at h
  refine ⟨[],tm,H,nx,rfl,by simpa using h,wc.refl H,wq.refl H,Qn.refl _ _,Nat.le_refl _,fun ν hv=>⟨hv,fun tmv G ht hm=>⟨[],rfl,fun j o s hj=>by simp at hj,rfl,ht,hm,fun j s t hj=>by simp at hj⟩⟩⟩
 |o::l,i,done,tm,H,nx,k,r,h=>by
  have hin1:∀i∈o.dst.toList,i∈VS (o::l):=fun i hi=>by
   show i∈(match o.dst with | some d=>d::VS l | none=>VS l)
   cases hd:o.dst with
   |none=>rw [hd] at hi;cases hi
   |some d=>rw [hd] at hi;simp at hi;subst hi;simp
  have hin2:∀i∈VS l,i∈VS (o::l):=fun i hi=>by
   show i∈(match o.dst with | some d=>d::VS l | none=>VS l)
   cases o.dst with
   |none=>exact hi
   |some d=>exact List.mem_cons_of_mem _ hi
  simp only [zo6] at h
  rcases zzK h with ⟨hw,h1⟩ | ⟨hw,h1⟩
  ·split at h1
   case h_2=>cases h1
   rename_i wr vis hcut
   have h6:=zE h1
   clear h1
   obtain ⟨hsub,h1⟩:=h6
   have hvis:∀b,vl wr b=true→vl vis b=true:=fun b hb=>zzP hsub hb
   obtain ⟨v,V1,nx1,hs,h2⟩:=hop h1
   dsimp only at h2
   split at h2
   case h_2=>cases h2
   rename_i H2 hb
   obtain ⟨sl,tm',H',nx',e1,e2,e3,e4,e5,e6,e7⟩:=zqW hop h2
   have B:=zwX hs.1 hs.2.1 hvis hb
   refine ⟨⟨true,vis,wr,nx,nx1⟩::sl,tm',H',nx',by simp [e1],by simpa using e2,B.reg.trans e3,B.keep.trans e4,(zhZ tm o.dst v).trans e5 hin1 hin2,Nat.le_trans hs.2.2.1 e6,fun ν hv=>?_⟩
   have hvn:VN ν nx1 H2:=B.vn ν nx nx1 hv (hs.2.2.2 ν (zBX hv)).1 hs.2.2.1
   obtain ⟨f1,f2⟩:=e7 ν hvn
   refine ⟨f1,fun tmv G ht hm=>?_⟩
   obtain ⟨s,g1,g2,g3,_,g5,g6,g7⟩:=zHz (op:=op) hs hvis hb hv ht hm (hw tmv ht.any)
   obtain ⟨ss,q1,q2,q3,q4,q5,q6⟩:=f2 _ _ g5 g6
   have hhd:Zh tmv s.o.dst s.v=Zh tmv o.dst s.v:=by rw [g2]
   refine ⟨s::ss,by simp [q1],fun j o' s' ho' hs'=>?_,?_,?_,?_,fun j s' t' hs' ht'=>?_⟩
   ·cases j with
    |zero=>simp at ho' hs';subst ho';subst hs';exact g1
    |succ j=>
     simp only [List.getElem?_cons_succ] at ho' hs'
     have:=q2 j o' s' ho' hs'
     simp only [List.take_succ_cons,tmR,hpR,nxR,g3,hhd]
     exact this
   ·simp only [nxR,g3];exact q3
   ·simp only [tmR,hhd];exact q4
   ·simp only [hpR];exact q5
   ·cases j with
    |zero=>simp at hs' ht';subst hs';subst ht';exact g7
    |succ j=>simp at hs' ht';exact q6 j s' t' hs' ht'
  ·obtain ⟨sl,tm',H',nx',e1,e2,e3,e4,e5,e6,e7⟩:=zqW hop h1
   refine ⟨⟨false,[],[],nx,nx⟩::sl,tm',H',nx',by simp [e1],by simpa using e2,e3,e4,(zhZ tm o.dst _).trans e5 hin1 hin2,e6,fun ν hv=>?_⟩
   obtain ⟨f1,f2⟩:=e7 ν hv
   refine ⟨f1,fun tmv G ht hm=>?_⟩
   have hu:undef=den (rho ν H) (.tup []):=by simp [den,zu,undef]
   obtain ⟨ss,q1,q2,q3,q4,q5,q6⟩:=f2 (Zh tmv o.dst undef) G (by rw [hu];exact ht.put (kU ν H) (RLe.refl _) o.dst _) hm
   refine ⟨⟨o,false,undef,gZ tmv (xI ops o),[],fun _=>false,[],nx,nx⟩::ss,by simp [q1],fun j o' s' ho' hs'=>?_,?_,?_,?_,fun j s' t' hs' ht'=>?_⟩
   ·cases j with
    |zero=>
     simp at ho' hs'
     subst ho';subst hs'
     refine ⟨rfl,rfl,Nat.le_refl _,rfl,?_,(fun h=>by cases h),(fun b k hb=>by simp [Hp.get_nil] at hb),fun _=>⟨rfl,fun b=>by simp [Stp.touch,wb]⟩,fun b hb=>by cases hb⟩
     show vI ops (gZ tmv (xI ops o)) o=some false
     rw [←zmR]
     exact hw tmv ht.any
    |succ j=>
     simp only [List.getElem?_cons_succ] at ho' hs'
     exact q2 j o' s' ho' hs'
   ·exact q3
   ·exact q4
   ·simp only [hpR,Bool.false_eq_true,if_false];exact q5
   ·cases j with
    |zero=>
     simp at hs' ht'
     subst hs';subst ht'
     exact ⟨rfl,rfl,rfl,(fun x hx=>by cases hx),(fun b hb=>by cases hb)⟩
    |succ j=>simp at hs' ht';exact q6 j s' t' hs' ht'
theorem ziB {r:Option Nat} {c:Code} {tm:List Value} {ds:List Nat} {H:Hp} {nx:Nat} {R R2:Res} (h:jj P r c tm ds H nx R) (he:R2.e=R.e) (hd:R2.ds=R.ds) (hn:R2.nx=R.nx) (hH:∀φ K w,zI φ R.H K w→zI φ R2.H K w) (ht:∀φ ts,qO φ R.tm ts→qO φ R2.tm ts):jj P r c tm ds H nx R2:=by
 obtain ⟨e,t,d,H',n⟩:=R2
 dsimp only at he hd hn hH ht
 subst he;subst hd;subst hn
 refine ⟨h.1,fun φ w K a rc g hf htm hds hr=>wpIn_mono (h.2 φ w K a rc g hf htm hds hr) ?_⟩
 rintro e a1 w1 ⟨rfl,φ1,k1,k2,k3,k4,k5⟩
 exact ⟨rfl,φ1,k1,hH _ _ _ k2,ht _ _ k3,k4,k5⟩
def zF5 (tm:List SV) (x:Operand):List Nat:=match x with
 |.tmp t=>match gl tm t with
  |some (.ptr b _)=>[b]
  |some (.elp b _ _ _)=>[b]
  |some (.own b)=>[b]
  |_=>[]
 |_=>[]
def ziC (tm:List SV) (x:Operand):List Nat:=match x with
 |.tmp t=>match gl tm t with
  |some (.own b)=>[b]
  |_=>[]
 |_=>[]
def mpS (tm:List SV) (x:Operand):List Nat:=match x with
 |.tmp t=>match gl tm t with
  |some (.mp b)=>[b]
  |_=>[]
 |_=>[]
def zH5 (tm:List SV) (o:Oper):Option (List Nat):=match o.op with
 |.load _ a=>some (zF5 tm a)
 |.store _ a x=>some (zF5 tm a++ziC tm x)
 |.indexAddr _ x _=>some (ziC tm x)
 |.slice _ x _ _ _=>some (ziC tm x)
 |.buildSlice _ _ ps=>some (ps.toList.flatMap fun p=>ziC tm p.2)
 |.call {callee:=.builtin _,args:=args,argTypes:=_}=>some (args.toList.flatMap (ziC tm))
 |.lookup _ m _ _=>some (mpS tm m)
 |.mapUpdate _ m _ _=>some (mpS tm m)
 |.insert _ m _ _=>some (mpS tm m)
 |.call _=>none
 |_=>some []
def zzT (tm:List SV) (o:Oper):List Nat:=match o.op with
 |.store _ a x=>zF5 tm a++ziC tm x
 |.slice _ x _ _ _=>ziC tm x
 |.buildSlice _ _ ps=>ps.toList.flatMap fun p=>ziC tm p.2
 |.lookup _ m _ _=>mpS tm m
 |.mapUpdate _ m _ _=>mpS tm m
 |.insert _ m _ _=>mpS tm m
 |.call {callee:=.builtin .append,args:=args,argTypes:=_}=>match args.toList with
  |s::_=>ziC tm s
  |_=>[]
 |.call {callee:=.builtin .copy,args:=args,argTypes:=_}=>match args.toList with
  |s::_=>ziC tm s
  |_=>[]
 |_=>[]
def zF6 (H:SH) (b:Nat):Bool:=match zn H b with
 |some (.vars _)=>true
 |some (.arr _ _ _)=>true
 |some (.loop _)=>true
 |some .defd=>true
 |some (.mpb _ _ _ _)=>true
 |_=>false
def qG:SH→List Nat
 |[]=>[]
 |(b,_)::r=>b::qG r
def zdZ (H:SH):List Nat→List Nat
 |[]=>[]
 |b::r=>bif zF6 H b then b::zdZ H r else zdZ H r
def zC8:List SV→List Nat
 |[]=>[]
 |.own b::r=>b::zC8 r
 |_::r=>zC8 r
def zzU (tm:List SV):List Operand→List Nat
 |[]=>[]
 |.tmp t::r=>(match gl tm t with
  |some (.own b)=>[b]
  |some (.agg cs)=>zC8 cs
  |_=>[])++zzU tm r
 |_::r=>zzU tm r
def zF7 (o:Oper):List Operand:=match o.op with
 |.call {callee:=.value _,args:=args,argTypes:=_}=>args.toList
 |_=>[]
def zIH (ops:Array Oper) (ms:List Nat) (est:List (List Nat)) (i:Nat) (tm:List SV) (H:SH) (done:List JX):Option (List Nat×List Nat):=
 match gl ops.toList i with
 |none=>none
 |some o=>match zH5 tm o with
  |some bs=>some (zdZ H (zzT tm o),bs)
  |none=>match (List.range ops.size).filter fun j=>j != i&&!zmX ms i j with
   |[]=>some (zdZ H (qG H),qG H)
   |others=>match others.flatMap (fun j=>est.getD j []++(match ops[j]? with | some p=>zzT tm p | none=>[])),others.filterMap fun j=>if j < i then (match (done.reverse)[j]? with | some s=>if s.lo < s.hi then some (s.lo,s.hi) else none | none=>none) else none with
    |mask,rs=>some (zdZ H ((zzU tm (zF7 o)).filter fun b=>!(mask.contains b||zu1 rs b)),(qG H).filter fun b=>!(mask.contains b||zu1 rs b))
def zEn (P:Program) (ops:Array Oper) (H:SH):List Oper→List SV→List (List Nat)
 |[],_=>[]
 |o::l,tm=>zzT tm o::zEn P ops H l (zbf tm o.dst (match zCS P tm H 0 o with
  |some (v,_,_)=>v
  |none=>.junk))
def zni (H:SH) (tm:List SV):List Operand→SH
 |[]=>H
 |x::r=>match x with
  |.tmp t=>match gl tm t with
   |some (.own b)=>match zn H b with
    |some (.arr nn ty l)=>zni (wK H b (.fro nn ty l)) tm r
    |_=>zni H tm r
   |_=>zni H tm r
  |_=>zni H tm r
def zEo (o:Oper):List Operand:=match o.op with
 |.call {callee:=.value _,args:=args,argTypes:=_}=>args.toList
 |.slice _ x _ _ _=>[x]
 |_=>[]
def mvS (tm:List SV) (o:Oper):List SV:=match o.op with
 |.move (.tmp t)=>match gl tm t with
  |some (.own b)=>zbf tm o.dst (.own b)
  |_=>tm
 |_=>tm
def plT:Ty→Bool
 |.list _=>false
 |.pair a b=>plT a&&plT b
 |_=>true
def zH6 (P:Program) (o:Oper):Bool:=match o.op with
 |.call {callee:=.value (.func f),args:=_,argTypes:=_}=>match zyV P f with
  |some fn=>!(fn.resultTypes.toList.all fun t=>match zm7 P 30 t with
   |some ty=>plT ty
   |none=>true)
  |none=>false
 |_=>false
def zzV (P:Program) (H:SH) (tm0 tm:List SV):List Oper→SH
 |[]=>H
 |o::l=>zzV P (zni (zni H tm0 (zEo o)) (bif zH6 P o then tm else tm0) (zEo o)) tm0 (mvS tm o) l
theorem Ui (tm:List SV):∀(xs:List Operand) (H:SH),xn H (zni H tm xs)
 |[],H=>xn.refl H
 |x::r,H=>by
  unfold zni
  split
  ·split
   ·split
    ·rename_i hb;exact (zbc hb).trans (Ui tm r _)
    ·exact Ui tm r _
   ·exact Ui tm r _
  ·exact Ui tm r _
theorem zsW (tm0:List SV):∀(l:List Oper) (tm:List SV) (H:SH),xn H (zzV P H tm0 tm l)
 |[],tm,H=>xn.refl H
 |o::l,tm,H=>((Ui tm0 _ H).trans (Ui _ _ _)).trans (zsW tm0 l _ _)
def zC9 (P:Program) (op:List SV→SH→Nat→Oper→KO R→Option R) (ops:Array Oper) (tm:List SV) (H:SH) (nx:Nat) (k:List SV→SH→Nat→Option R):Option R:=
 match zmU ops.toList 0 [] with
 |ms=>match zzV P H tm tm ops.toList with
  |H1=>match (bif ops.toList.any zzc then zEn P ops H1 ops.toList tm else []) with
   |est=>zo6 op ops (zIH ops ms est) 0 [] ops.toList tm H1 nx fun sl tm' H' nx'=>bif zu4 ms ops&&(zvd ms sl 0 sl&&P.follows .mixedOrders) then k tm' H' nx' else none
theorem zzW {r:Option Nat} {c:Code} {tm:List Value} {ds:List Nat} {H H1:SH} {nx:Nat} {R:Res} {ν:Nat→Bool} (hg:xn H H1) (h:jj P r c tm ds (zG ν H1) nx R):jj P r c tm ds (zG ν H) nx R:=
 ⟨h.1,fun φ w K a rc g hf ht hd hr=>by
  obtain ⟨φ1,e1,g1⟩:=hg.2 ν φ K w g
  have hle:=(e1 0).1
  refine wpIn_mono (h.2 φ1 w K a rc g1 (zm2 (mid:=0) hf e1) (ht.mono hle) (hd.mono hle) (hr.mono hle)) ?_
  rintro e a1 w1 ⟨rfl,φ2,k1,k2,k3,k4,k5⟩
  exact ⟨rfl,φ2,(e1 nx).trans k1 (Nat.le_refl _) h.1,k2,k3,k4,k5⟩⟩
theorem zF8 {op:List SV→SH→Nat→Oper→KO R→Option R} {rd:Option Nat} (hop:OpS P rd op) {id:Nat} {ops:Array Oper} {tm:List SV} {ds:List Nat} {H:SH} {nx:Nat} {k:List SV→SH→Nat→Option R} {r:R} (h:zC9 P op ops tm H nx k=some r) :
  ∃tm' H' nx',JM P rd (.region id ops true) tm ds H nx ⟨.normal,tm',ds,H',nx'⟩∧k tm' H' nx'=some r:=by
 unfold zC9 at h
 dsimp only at h
 obtain ⟨sl,tm',H',nx',e1,e2,e3,e4,e5,e6,e7⟩:=zqW hop h
 have h6:=zE e2
 obtain ⟨hc,h2⟩:=h6
 simp only [Bool.and_eq_true,zu4] at hc
 obtain ⟨⟨c1,c2⟩,c3,c4⟩:=hc
 have c1:=zmW c1
 have c2:=zDZ c2
 have hg:=zsW (P:=P) tm ops.toList tm H
 refine ⟨tm',H',nx',⟨hg.1.regLe.trans e3,hg.1.lkeep.trans e4,e5,e6,fun ν hv=>?_⟩,h2⟩
 obtain ⟨f1,f2⟩:=e7 ν (hg.1.vn hv)
 refine ⟨f1,zzW hg ?_⟩
 obtain ⟨ss,q1,q2,q3,q4,q5,q6⟩:=f2 _ _ (YN.refl ν _ tm) (Mix.refl _)
 have hvf:=zF4 (ms:=zmU ops.toList 0 []) (by rw [e1,q1]) q6 (by simpa using c3)
 obtain ⟨D,hs,ht⟩:=zDY (ms:=zmU ops.toList 0 []) ⟨q1,q2⟩ c1 c2 hvf
 have:=zBn (id:=id) (ds:=ds) c4 D (HF:=hpR ss (zG ν (zzV P H tm tm ops.toList))) (fun b k hb=>by rw [hs];exact hb)
 rw [ht,q3] at this
 rw [show rho ν H=rho ν (zzV P H tm tm ops.toList) from (hg.1.rho ν).symm]
 exact ziB this rfl rfl rfl (fun φ K w g=>q5.good g) (fun φ ts ht=>q4.rel ht)
def zDa (P:Program) (f:FuncId) (args:List SV) (H:SH) (nx:Nat) (v:SV) (H':SH) (nx':Nat):Prop:=
 (∃fn,P.funcs[f]?=some fn∧fn.body.isSome=true)∧wc H H'∧wq H H'∧nx≤nx'∧∀ν,VN ν nx H→VN ν nx' H'∧Jc P f (zu (rho ν H) args) (zG ν H) nx (den (rho ν H') v) (zG ν H') nx'
def zsX (P:Program) (rd:Option Nat) (c:Code) (tm:List SV) (ds:List Nat) (H:SH) (nx:Nat) (R:VR):Prop:=
 wc H R.H∧wq H R.H∧Qn (asg c) tm R.tm∧nx≤R.nx∧∀ν,VN ν nx H→VN ν R.nx R.H∧zje P rd c (zu (rho ν H) tm) ds (zG ν H) nx (zcW ν R)
def zF9 (P:Program) (c x:Code) (tm:List SV) (ds:List Nat) (H:SH) (nx:Nat) (R:VR):Prop:=
 wc H R.H∧wq H R.H∧Qn (asg c) tm R.tm∧nx≤R.nx∧∀ν,VN ν nx H→VN ν R.nx R.H∧zoW P c x (zu (rho ν H) tm) ds (zG ν H) nx (zcW ν R)
structure EvS (R:Type) where
 call:FuncId→List SV→SH→Nat→KO R→Option R
 code:Option Nat→Code→List SV→List Nat→SH→Nat→KC R→Option R
 loop:Option Nat→Code→List SV→List Nat→SH→Nat→KC R→Option R
 scp:Code→Nat→Code→List SV→List Nat→SH→Nat→KC R→Option R
 join:Option Nat→Code→List SV→List Nat→SH→Nat→KC R→Option R
 code0:Option Nat→Code→List SV→List Nat→SH→Nat→KC R→Option R
 jq:Code→Nat→Bool
structure EvS.Ok (P:Program) (E:EvS R):Prop where
 call:∀{f args H nx k r},E.call f args H nx k=some r→∃v H' nx',zDa P f args H nx v H' nx'∧k v H' nx'=some r
 code:∀{rd c tm ds H nx k r},E.code rd c tm ds H nx k=some r→∃S,JM P rd c tm ds H nx S∧k S=some r
 loop:∀{rd c tm ds H nx k r},E.loop rd c tm ds H nx k=some r→∃S,zsX P rd c tm ds H nx S∧k S=some r
 scp:∀{c l x tm ds H nx k r},findLabel c l=some x→(∀i∈asg x,i∈asg c)→E.scp c l x tm ds H nx k=some r→∃S,zF9 P c x tm ds H nx S∧k S=some r
 join:∀{rd c tm ds H nx k r},E.join rd c tm ds H nx k=some r→∃S,JM P rd c tm ds H nx S∧k S=some r
 code0:∀{rd c tm ds H nx k r},E.code0 rd c tm ds H nx k=some r→∃S,JM P rd c tm ds H nx S∧k S=some r
theorem zDb {r:Option Nat} {c:Code} {tm tm0:List Value} {ds:List Nat} {H H0:Hp} {nx:Nat} {R:Res} (h:jj P r c tm0 ds H0 nx R) (hH:∀φ K w,zI φ H K w→zI φ H0 K w) (hT:∀φ ts,qO φ tm ts→qO φ tm0 ts):jj P r c tm ds H nx R:=
 ⟨h.1,fun φ w K a rc g hf ht hd hr=>h.2 φ w K a rc (hH _ _ _ g) hf (hT _ _ ht) hd hr⟩
theorem zcY {H:SH} {l:Nat} {L L':SL} (hl:zn H l=some (.loop L)) (c:Nat):reg (zn (wK H l (.loop L')) c)=reg (zn H c):=by
 rw [qQ]
 by_cases h:c=l
 ·subst h;simp [hl,reg]
 ·rw [if_neg h]
theorem zB3 {H:SH} {l:Nat} {L L':SL} (hl:zn H l=some (.loop L)) (c:Nat) (h:jg (zn (wK H l (.loop L')) c)=true):jg (zn H c)=true:=by
 rw [qQ] at h
 by_cases hc:c=l
 ·subst hc;simp [hl,jg] at h
 ·rwa [if_neg hc] at h
theorem zzX {ν:Nat→Bool} {H:SH} {l:Nat} {L L':SL} (hl:zn H l=some (.loop L)) (c:Nat):(zG ν (wK H l (.loop L'))).get c=((zG ν H).set l (.loop (yd (rho ν H) L'))).get c:=by
 rw [zS,qQ,xg (zcY hl),Hp.get_set,zS]
 by_cases hc:c=l
 ·subst hc;simp [hl,zZ]
 ·rw [if_neg hc,if_neg hc,zS]
theorem zsY {H:SH} {l:Nat} {L:SL} (hl:zn H l=some (.loop L)) (s:LoopState) (p:Option Code):wq H (wK H l (.loop {L with st:=s,pend:=p})):=fun m M hm=>by
 rw [qQ]
 by_cases h:m=l
 ·subst h
  rw [hl] at hm;cases hm
  exact ⟨s,p,by simp [hl]⟩
 ·rw [if_neg h];exact ⟨M.st,M.pend,hm⟩
def zve:List Tmp→List SV→List SV→List SV
 |t::ts,v::vs,tm=>zve ts vs (lsS tm t v)
 |_,_,tm=>tm
theorem zzY (ρ:Nat→Value):∀(ps:List Tmp) (vs tm:List SV),zu ρ (zve ps vs tm)=gO ps (zu ρ vs) (zu ρ tm)
 |[],vs,tm=>by simp [zve,gO]
 |p::ps,[],tm=>by simp [zve,gO,zu]
 |p::ps,v::vs,tm=>by
  simp only [zve,zu,gO,Ze]
  rw [zzY ρ ps vs]
  congr 1
  simp [qw,List.map_set]
def zzZ (E:EvS R) (l:Nat) (vs:List SV) (H:SH) (nx:Nat) (k:KO R):Option R:=match zn H l with
 |some (.loop L)=>bif zqR vs L.params.size then E.code (some l) L.assign (zve L.params.toList vs L.tm) [] H nx fun R1=>match R1.e,R1.ds,zn R1.H l with
   |.normal,[],some (.loop L1)=>match L1.st with
    |.ready=>E.code (some l) L.body R1.tm [] (wK R1.H l (.loop {L1 with st:=.busy})) R1.nx fun R2=>match zn R2.H l,zke R2.e with
     |some (.loop L2),some (b,s,p)=>k (.bool b) (wK R2.H l (.loop {L2 with st:=s,pend:=p})) R2.nx
     |_,_=>none
    |_=>none
   |_,_,_=>none
  else none
 |_=>none
theorem zEp {E:EvS R} (hE:E.Ok P) {rd:Option Nat} {o:Oper} {tm:List SV} {H:SH} {nx:Nat} {k:KO R} {r:R} {cf:Operand} {args:Array Operand} {ats:Array TypeId} (ho:o.op=.call {callee:=.value cf,args:=args,argTypes:=ats})
  {l:Nat} {vs:List SV} (hcf:jI tm H cf=some (.yld l)) (hvs:zfM tm H args.toList=some vs) (h:zzZ E l vs H nx k=some r):Zi P rd o tm H nx k r:=by
 unfold zzZ at h
 split at h
 case h_2=>cases h
 rename_i L hl
 have h6:=zE h
 clear h
 obtain ⟨hn,h⟩:=h6
 have hn:=zf1 hn
 obtain ⟨R1,⟨a1,a2,a3,a4,a5⟩,h1⟩:=hE.code h
 split at h1
 case h_2=>cases h1
 rename_i he1 hd1 hl1
 rename_i L1
 split at h1
 case h_2=>cases h1
 rename_i hst
 obtain ⟨R2,⟨b1,b2,b3,b4,b5⟩,h2⟩:=hE.code h1
 split at h2
 case h_2=>cases h2
 rename_i L2 b s p hl2 he2
 have hpl:L1.pend=L1.pend:=rfl
 refine uD (v:=.bool b) ⟨?_,?_,Nat.le_trans a4 b4,fun ν hv=>?_⟩ h2
 ·exact fun c x hx=>by rw [zcY hl2];exact b1 c x (by rw [zcY hl1];exact a1 c x hx)
 ·exact ((a2.trans (zsY hl1 .busy L1.pend)).trans b2).trans (zsY hl2 s p)
 ·obtain ⟨v1,o1⟩:=a5 ν hv
  have v1':VN ν R1.nx (wK R1.H l (.loop {L1 with st:=.busy})):=Je (zcY hl1) (zB3 hl1) v1
  obtain ⟨v2,o2⟩:=b5 ν v1'
  refine ⟨Je (zcY hl2) (zB3 hl2) v2,?_⟩
  have hcf':=qb hcf ν
  simp only [den] at hcf'
  have hlv:(zG ν H).get l=some (.loop (yd (rho ν H) L)):=by rw [zS,hl];rfl
  have key:=zCE (P:=P) (r:=rd) (o:=o) ho (R1:=zcW ν R1) (R2:=zcW ν R2) (L1:=yd (rho ν R1.H) L1) (L2:=yd (rho ν R2.H) L2) (b:=b) (s:=s) (p:=p) hcf' (zaN ν hvs) hlv (by rw [wh];exact hn)
   (by have:=o1;rw [zzY] at this;simpa [yd] using this) he1 hd1 (by show (zG ν R1.H).get l=_;rw [zS,hl1];rfl) hst
   (zDb o2 (fun φ K w g=>g.sub fun c x hx=>by rw [zzX hl1] at hx;exact hx) (fun φ ts ht=>by rw [xg (zcY hl1)];exact ht))
   (by show (zG ν R2.H).get l=_;rw [zS,hl2];rfl) he2
  refine WR key (fun φ v' hv=>by simpa only [den] using hv) (fun φ K w g=>g.sub fun c x hx=>?_)
  rw [zzX hl2] at hx
  exact hx
def opE (P:Program) (E:EvS R) (tm:List SV) (H:SH) (nx:Nat) (o:Oper) (k:KO R):Option R:=match o.op with
 |.call {callee:=.value cf,args:=args,argTypes:=_}=>match jI tm H cf,zfM tm H args.toList with
  |some (.fn f fs cs),some vs=>E.call f (fs++(vs++cs)) H nx k
  |some (.yld l),some vs=>zzZ E l vs H nx k
  |_,_=>none
 |_=>zFX P tm H nx o k
theorem zH7 {E:EvS R} (hE:E.Ok P) (hs:uk P) {rd:Option Nat}:OpS P rd (opE P E):=by
 intro tm H nx o k r h
 unfold opE at h
 split at h
 ·rename_i cf args ats ho
  split at h
  ·rename_i f fs cs vs hcf hvs
   obtain ⟨v,H',nx',⟨⟨fn,hfn,hb⟩,a1,a2,a3,a4⟩,h2⟩:=hE.call h
   refine uD ⟨a1,a2,a3,fun ν hv=>?_⟩ h2
   obtain ⟨v1,o1⟩:=a4 ν hv
   refine ⟨v1,zDS ho hs hfn hb (f:=f) (fs:=(zu (rho ν H) fs).toArray) (cs:=(zu (rho ν H) cs).toArray) ?_ (zaN ν hvs) ?_⟩
   ·have:=qb hcf ν;simpa only [den] using this
   ·have:zu (rho ν H) (fs++(vs++cs))=zu (rho ν H) fs++zu (rho ν H) vs++zu (rho ν H) cs:=by simp [qw]
    rw [this] at o1
    exact o1
  ·rename_i l vs hcf hvs
   exact zEp hE ho hcf hvs h
  ·cases h
 ·exact zHw h
def opX (P:Program) (E:EvS R) (tm:List SV) (H:SH) (nx:Nat) (o:Oper) (k:KO R):Option R:=opE P E tm H nx o k
theorem zEq {E:EvS R} (hE:E.Ok P) (hs:uk P) {rd:Option Nat}:OpS P rd (opX P E):=by
 intro tm H nx o k r h
 obtain ⟨v,H',nx',h1,h2⟩:=zH7 hE hs h
 exact ⟨v,H',nx',h1,h2⟩
def zsZ:LoopState→Option Code→Option Exit
 |.busy,_=>none
 |_,none=>some .normal
 |_,some .ret=>some .ret
 |_,some (.exit i)=>some (.exit i)
 |_,some (.goto i)=>some (.goto i)
 |_,_=>none
theorem zqg {L:Loop} {tm:List Value} {ds:List Nat} {H:Hp} {nx:Nat} {e:Exit} (h:zsZ L.state L.pending=some e):ZM L tm ds H nx=some ⟨e,tm,ds,H,nx⟩:=by
 unfold zsZ at h
 unfold ZM
 split at h<;>first | (cases h;done) | skip
 all_goals (cases h;rename_i h1 h2;first
  |(rename_i h3;rw [h2];cases hs:L.state<;>first | rfl | (exact absurd hs h1) | (simp_all))
  |(cases hs:L.state<;>simp_all))
def zz0 (E:EvS R) (rd:Option Nat) (g:Operand) (ps:Array Tmp) (assign body:Code) (tm:List SV) (ds:List Nat) (H:SH) (nx:Nat) (k:KC R):Option R:=match jI tm H g with
 |some (.fn f fs cs)=>match rd with
  |none=>match YL H nx .defd with
   |some H1=>match YL H1 (nx+1) (.loop ⟨tm,ps,assign,body,.ready,none,nx⟩) with
    |some H2=>E.call f (fs++(.yld (nx+1)::cs)) H2 (nx+2) fun _ H3 nx3=>match zn H3 (nx+1) with
     |some (.loop L)=>match zsZ L.st L.pend with
      |some e=>k ⟨e,tm,nx::ds,wK H3 (nx+1) .abs,nx3⟩
      |none=>none
     |_=>none
    |none=>none
   |none=>none
  |some l0=>match zn H l0 with
   |some (.loop L0)=>match YL H nx (.loop ⟨tm,ps,assign,body,.ready,none,L0.dfr⟩) with
    |some H2=>E.call f (fs++(.yld nx::cs)) H2 (nx+1) fun _ H3 nx3=>match zn H3 nx with
     |some (.loop L)=>match zsZ L.st L.pend with
      |some e=>k ⟨e,tm,ds,wK H3 nx .abs,nx3⟩
      |none=>none
     |_=>none
    |none=>none
   |_=>none
 |_=>none
theorem zcZ {H:SH} {l:Nat} {L:SL} (hl:zn H l=some (.loop L)) (c:Nat):reg (zn (wK H l .abs) c)=reg (zn H c):=by
 rw [qQ]
 by_cases h:c=l
 ·subst h;simp [hl,reg]
 ·rw [if_neg h]
theorem zEr {H:SH} {l:Nat} {L:SL} (hl:zn H l=some (.loop L)) (c:Nat) (h:jg (zn (wK H l .abs) c)=true):jg (zn H c)=true:=by
 rw [qQ] at h
 by_cases hc:c=l
 ·subst hc;simp [hl,jg] at h
 ·rwa [if_neg hc] at h
theorem zB4 {ν:Nat→Bool} {H:SH} {l:Nat} {L:SL} (hl:zn H l=some (.loop L)) (c:Nat) (x:Blk) (h:(zG ν (wK H l .abs)).get c=some x):((zG ν H).del l).get c=some x:=by
 rw [zS,qQ,xg (zcZ hl)] at h
 rw [Hp.get_del]
 by_cases hc:c=l
 ·subst hc;simp [hl,zZ] at h
 ·rw [if_neg hc] at h ⊢
  rw [zS];exact h
theorem zo7 {H:SH} {nx:Nat} {k:SB} (h:zn H nx=none) (hk:reg (some k)=none) (ν:Nat→Bool):rho ν ((nx,k)::H)=rho ν H:=xg (fun c=>by
 rw [zJ]
 by_cases hc:nx=c
 ·subst hc;rw [if_pos rfl,hk,h];rfl
 ·rw [if_neg hc]) ν
theorem zvf {H:SH} {nx:Nat} {k:SB} (h:zn H nx=none) (hk:reg (some k)=none) {ν:Nat→Bool} {x:Blk} (hx:zZ (rho ν H) (ν nx) k=some x):zG ν ((nx,k)::H)=(nx,x)::zG ν H:=by
 unfold zG
 rw [zo7 h hk]
 simp only [uG,hx]
theorem zEs {E:EvS R} (hE:E.Ok P) (hs:uk P) {rd:Option Nat} {g:Operand} {ps:Array Tmp} {assign body:Code} {tm:List SV} {ds:List Nat} {H:SH} {nx:Nat} {k:KC R} {r:R} (h:zz0 E rd g ps assign body tm ds H nx k=some r) :
  ∃S,JM P rd (.rangeFunc g ps assign body) tm ds H nx S∧k S=some r:=by
 unfold zz0 at h
 split at h
 case h_2=>cases h
 rename_i f fs cs hg
 split at h
 ·split at h
  case h_2=>cases h
  rename_i H1 hn1
  split at h
  case h_2=>cases h
  rename_i H2 hn2
  obtain ⟨q1,rfl⟩:=um hn1
  obtain ⟨q2,rfl⟩:=um hn2
  obtain ⟨v,H3,nx3,⟨⟨fn,hfn,hb⟩,a1,a2,a3,a4⟩,h2⟩:=hE.call h
  split at h2
  case h_2=>cases h2
  rename_i L hl
  split at h2
  case h_2=>cases h2
  rename_i e he
  have hq2:zn H (nx+1)=none:=by
   rw [zJ,if_neg (by omega)] at q2;exact q2
  refine ⟨_,⟨?_,?_,Qn.refl _ _,?_,fun ν hv=>?_⟩,h2⟩
  ·exact fun c x hx=>by
    rw [zcZ hl]
    exact a1 c x (kG q2 c x (kG q1 c x hx))
  ·intro m M hm
   have hne:m≠nx+1:=fun e=>by subst e;rw [hq2] at hm;cases hm
   obtain ⟨s,p,h3⟩:=((gP q1).trans (gP q2)).trans a2 m M hm
   exact ⟨s,p,by rw [qQ,if_neg hne];exact h3⟩
  ·exact Nat.le_trans (by omega) a3
  ·have v2:VN ν (nx+2) ((nx+1,.loop ⟨tm,ps,assign,body,.ready,none,nx⟩)::(nx,.defd)::H):=YM (YM hv)
   obtain ⟨v3,o3⟩:=a4 ν v2
   refine ⟨Je (zcZ hl) (zEr hl) v3,?_⟩
   have hρ1:rho ν ((nx,SB.defd)::H)=rho ν H:=zo7 q1 rfl ν
   have hρ2:rho ν ((nx+1,SB.loop ⟨tm,ps,assign,body,.ready,none,nx⟩)::(nx,.defd)::H)=rho ν H:=(zo7 q2 rfl ν).trans hρ1
   have hd:zG ν ((nx+1,SB.loop ⟨tm,ps,assign,body,.ready,none,nx⟩)::(nx,.defd)::H)=(nx+1,.loop (VD (zu (rho ν H) tm) ps assign body nx))::(nx,.defd)::zG ν H:=by
    rw [zvf q2 rfl (x:=.loop (yd (rho ν H) ⟨tm,ps,assign,body,.ready,none,nx⟩)) (by simp only [zZ,hρ1]),zvf q1 rfl (x:=.defd) rfl]
    rfl
   rw [hρ2,hd] at o3
   have hg':=qb hg ν
   simp only [den] at hg'
   have hargs:zu (rho ν H) (fs++(.yld (nx+1)::cs))=zu (rho ν H) fs++[.func (.yield (nx+1)) #[] #[]]++zu (rho ν H) cs:=by simp [qw,den]
   rw [hargs] at o3
   have key:=zqE (P:=P) (g:=g) (ps:=ps) (assign:=assign) (body:=body) (tm:=zu (rho ν H) tm) (ds:=ds) (nx:=nx) hs hfn hb hg' (by simpa using o3) (by rw [zS,hl];rfl) (zqg (L:=yd (rho ν H3) L) he)
   refine ziB key rfl rfl rfl (fun φ K w g=>g.sub fun c x hx=>zB4 hl c x hx) (fun φ ts ht=>?_)
   refine zqK ν (fun c x hx=>?_) ht
   rw [zcZ hl]
   exact a1 c x (kG q2 c x (kG q1 c x hx))
 ·rename_i l0
  split at h
  case h_2=>cases h
  rename_i L0 hl0
  split at h
  case h_2=>cases h
  rename_i H2 hn2
  obtain ⟨q2,rfl⟩:=um hn2
  obtain ⟨v,H3,nx3,⟨⟨fn,hfn,hb⟩,a1,a2,a3,a4⟩,h2⟩:=hE.call h
  split at h2
  case h_2=>cases h2
  rename_i L hl
  split at h2
  case h_2=>cases h2
  rename_i e he
  refine ⟨_,⟨?_,?_,Qn.refl _ _,?_,fun ν hv=>?_⟩,h2⟩
  ·exact fun c x hx=>by
    rw [zcZ hl]
    exact a1 c x (kG q2 c x hx)
  ·intro m M hm
   have hne:m≠nx:=fun e=>by subst e;rw [q2] at hm;cases hm
   obtain ⟨s,p,h3⟩:=(gP q2).trans a2 m M hm
   exact ⟨s,p,by rw [qQ,if_neg hne];exact h3⟩
  ·exact Nat.le_trans (by omega) a3
  ·have v2:VN ν (nx+1) ((nx,.loop ⟨tm,ps,assign,body,.ready,none,L0.dfr⟩)::H):=YM hv
   obtain ⟨v3,o3⟩:=a4 ν v2
   refine ⟨Je (zcZ hl) (zEr hl) v3,?_⟩
   have hρ2:rho ν ((nx,SB.loop ⟨tm,ps,assign,body,.ready,none,L0.dfr⟩)::H)=rho ν H:=zo7 q2 rfl ν
   have hd:zG ν ((nx,SB.loop ⟨tm,ps,assign,body,.ready,none,L0.dfr⟩)::H)=(nx,.loop (VD (zu (rho ν H) tm) ps assign body L0.dfr))::zG ν H:=by
    rw [zvf q2 rfl (x:=.loop (yd (rho ν H) ⟨tm,ps,assign,body,.ready,none,L0.dfr⟩)) rfl]
    rfl
   rw [hρ2,hd] at o3
   have hg':=qb hg ν
   simp only [den] at hg'
   have hargs:zu (rho ν H) (fs++(.yld nx::cs))=zu (rho ν H) fs++[.func (.yield nx) #[] #[]]++zu (rho ν H) cs:=by simp [qw,den]
   rw [hargs] at o3
   have key:=zl8 (P:=P) (l0:=l0) (g:=g) (ps:=ps) (assign:=assign) (body:=body) (tm:=zu (rho ν H) tm) (ds:=ds) (nx:=nx) (L0:=yd (rho ν H) L0) hs hfn hb hg' (by rw [zS,hl0];rfl) (by simpa [yd] using o3) (by rw [zS,hl];rfl) (zqg (L:=yd (rho ν H3) L) he)
   refine ziB key rfl rfl rfl (fun φ K w g=>g.sub fun c x hx=>zB4 hl c x hx) (fun φ ts ht=>?_)
   refine zqK ν (fun c x hx=>?_) ht
   rw [zcZ hl]
   exact a1 c x (kG q2 c x hx)
def zh0:List Nat→SH→Option SH
 |[],H=>some H
 |d::ds,H=>match zn H d with
  |some .defd=>zh0 ds (wK H d .abs)
  |_=>none
theorem zz1 {H:SH} {d:Nat} (hd:zn H d=some .defd) (c:Nat):reg (zn (wK H d .abs) c)=reg (zn H c):=by
 rw [qQ]
 by_cases h:c=d
 ·subst h;simp [hd,reg]
 ·rw [if_neg h]
theorem zHA {H:SH} {d:Nat} (hd:zn H d=some .defd) (c:Nat) (h:jg (zn (wK H d .abs) c)=true):jg (zn H c)=true:=by
 rw [qQ] at h
 by_cases hc:c=d
 ·subst hc;simp [hd,jg] at h
 ·rwa [if_neg hc] at h
theorem zz2 {ν:Nat→Bool}:∀{ds:List Nat} {H H1:SH} {Hd:Hp},(∀b,Hd.get b=(zG ν H).get b)→zh0 ds H=some H1→∃Hd1,zdU ds Hd=some Hd1∧(∀b,Hd1.get b=(zG ν H1).get b)
 |[],H,H1,Hd,hg,h=>by simp only [zh0,Option.some.injEq] at h;subst h;exact ⟨Hd,rfl,hg⟩
 |d::ds,H,H1,Hd,hg,h=>by
  simp only [zh0] at h
  split at h
  case h_2=>cases h
  rename_i hd
  have h1:Hd.get d=some .defd:=by rw [hg,zS,hd];rfl
  simp only [zdU,h1]
  refine zz2 (fun b=>?_) h
  rw [Hp.get_del,zS,qQ,xg (zz1 hd)]
  by_cases hb:b=d
  ·subst hb;simp [hd,zZ]
  ·rw [if_neg hb,if_neg hb,hg,zS]
theorem zwZ:∀{ds:List Nat} {H H1:SH},zh0 ds H=some H1→(∀c,reg (zn H1 c)=reg (zn H c))∧(∀c,jg (zn H1 c)=true→jg (zn H c)=true)∧wq H H1
 |[],H,H1,h=>by simp only [zh0,Option.some.injEq] at h;subst h;exact ⟨fun _=>rfl,fun _ h=>h,wq.refl _⟩
 |d::ds,H,H1,h=>by
  simp only [zh0] at h
  split at h
  case h_2=>cases h
  rename_i hd
  obtain ⟨h1,h2,h3⟩:=zwZ h
  exact ⟨fun c=>(h1 c).trans (zz1 hd c),fun c hc=>zHA hd c (h2 c hc),(zaP hd (fun L=>by simp)).trans h3⟩
def zqX (P:Program) (H:SH) (tm:List SV):List ResultVar→Option (List SV)
 |[]=>some []
 |.tmp t::rs=>match jI tm H (.tmp t),zqX P H tm rs with
  |some v,some vs=>some (v::vs)
  |_,_=>none
 |.cell a t::rs=>match jI tm H (.tmp a),zqX P H tm rs with
  |some (.ptr b o),some vs=>match zyL P H t (.ptr b o) with
   |some v=>some (v::vs)
   |none=>none
  |_,_=>none
theorem zGa {Hd Hd2:Hp} (h:∀b,Hd.get b=Hd2.get b) (t:TypeId) (v:Value):Zd P Hd t v=Zd P Hd2 t v:=by
 unfold Zd
 split
 ·rw [h]
 ·rfl
theorem zvg {ν:Nat→Bool} {H0 H:SH} {Hd:Hp} (hg:∀b,Hd.get b=(zG ν H).get b) {tm:List SV} (hr:rho ν H0=rho ν H):∀{rs:List ResultVar} {vs:List SV},zqX P H tm rs=some vs→zej P Hd (zu (rho ν H0) tm) rs=some (zu (rho ν H) vs)
 |[],vs,h=>by simp only [zqX,Option.some.injEq] at h;subst h;simp [zej,zu]
 |.tmp t::rs,vs,h=>by
  simp only [zqX] at h
  split at h
  ·rename_i v us h1 h2
   cases h
   have e1:=qb h1 ν
   simp only [zej,zvg hg hr h2,zu]
   rw [hr,e1]
  ·cases h
 |.cell a t::rs,vs,h=>by
  simp only [zqX] at h
  split at h
  ·rename_i b o us h1 h2
   split at h
   case h_2=>cases h
   rename_i v hv
   cases h
   have e1:=qb h1 ν
   have e2:=zwO (ν:=ν) hv
   have e3:Zd P (zG ν H) t (den (rho ν H) (.ptr b o))=some (den (rho ν H) v):=by
    cases hd:Zd P (zG ν H) t (den (rho ν H) (.ptr b o)) with
    |some u=>rw [hd] at e2;exact e2
    |none=>rw [hd] at e2;simp [den,zf4,zqB] at e2
   simp only [zej,zvg hg hr h2,zu]
   rw [hr,e1,Option.bind_some,zGa hg,e3]
  ·cases h
def zel:List SV→SV
 |[v]=>v
 |vs=>.tup vs
theorem zc0 (ρ:Nat→Value):∀vs:List SV,den ρ (zel vs)=YJ (zu ρ vs)
 |[]=>by simp [zel,den,zu,YJ]
 |[v]=>by simp [zel,zu,YJ]
 |_::_::_=>by simp [zel,den,zu,YJ]
def zGS:Exit→Bool
 |.normal=>true
 |.ret=>true
 |_=>false
def zyN (P:Program) (E:EvS R) (f:FuncId) (args:List SV) (H:SH) (nx:Nat) (k:KO R):Option R:=match zyV P f with
 |some fn=>match fn.body with
  |some c=>E.code none c (args++List.replicate (fn.ntmps - args.length) (.tup [])) [] H nx fun S=>bif zGS S.e then match zh0 S.ds S.H with
   |some H1=>match zqX P H1 S.tm fn.results.toList with
    |some vs=>k (zel vs) H1 S.nx
    |none=>none
   |none=>none
   else none
  |none=>none
 |none=>none
theorem zvh (ρ:Nat→Value) (n:Nat):zu ρ (List.replicate n (.tup []))=List.replicate n undef:=by
 simp [qw,den,undef,zu]
theorem zz3 {E:EvS R} (hE:E.Ok P) {f:FuncId} {args:List SV} {H:SH} {nx:Nat} {k:KO R} {r:R} (h:zyN P E f args H nx k=some r):∃v H' nx',zDa P f args H nx v H' nx'∧k v H' nx'=some r:=by
 unfold zyN at h
 split at h
 case h_2=>cases h
 rename_i fn hfn
 rw [zBO] at hfn
 split at h
 case h_2=>cases h
 rename_i c hb
 obtain ⟨S,⟨a1,a2,a3,a4,a5⟩,h1⟩:=hE.code h
 have h6:=zE h1
 clear h1
 obtain ⟨he,h1⟩:=h6
 split at h1
 case h_2=>cases h1
 rename_i H1 hk
 split at h1
 case h_2=>cases h1
 rename_i vs hv
 obtain ⟨k1,k2,k3⟩:=zwZ hk
 refine ⟨_,_,_,⟨⟨fn,hfn,by rw [hb];rfl⟩,fun c x hx=>by rw [k1 c];exact a1 c x hx,a2.trans k3,a4,fun ν hv2=>?_⟩,h1⟩
 obtain ⟨v1,o1⟩:=a5 ν hv2
 refine ⟨Je k1 k2 v1,?_⟩
 obtain ⟨Hd1,e1,e2⟩:=zz2 (ν:=ν) (fun _=>rfl) hk
 have hr:=zvg (P:=P) (ν:=ν) (H0:=S.H) e2 (xg k1 ν).symm hv
 have hlen:(zu (rho ν H) args).length=args.length:=wh _ _
 have o1':jj P none c (zu (rho ν H) args++List.replicate (fn.ntmps - (zu (rho ν H) args).length) undef) [] (zG ν H) nx (zcW ν S):=by
  rw [hlen,←zvh (rho ν H),qw,qw,←List.map_append,←qw]
  exact o1
 have key:=zDV (P:=P) (f:=f) (R:=zcW ν S) (H2:=Hd1) hfn hb o1' (by
  unfold zGS at he
  show S.e=.normal∨S.e=.ret
  split at he<;>simp_all) e1 hr (fun _ _ h=>h)
 rw [zc0]
 exact zCL key fun b x hx=>by rw [e2];exact hx
theorem QN {φ φ0:Ren} (hF:∀b L,φ (FZ+b)=some L→φ0 (FZ+b)=some L):∀(t:Ty) (x:T t) (c:Value),c∈qq t x→∀v',zt φ c v'→zt φ0 c v'
 |.unit,x,c,hc,v',h=>by simp [qq] at hc
 |.bool,x,c,hc,v',h=>by
  simp only [qq,List.mem_singleton] at hc
  subst hc;cases h;exact .bool _
 |.int k,x,c,hc,v',h=>by
  simp only [qq,List.mem_singleton] at hc
  subst hc;cases h;exact .int _ _
 |.str,x,c,hc,v',h=>by
  simp only [qq,List.mem_singleton] at hc
  subst hc;cases h;exact .str _
 |.list t,l,c,hc,v',h=>by
  simp only [qq,List.mem_singleton] at hc
  subst hc
  unfold fzV at h ⊢
  simp only [cond_false] at h ⊢
  generalize hs:sz t=s at h ⊢
  generalize he:(List.map (fun x=>Value.agg (qq t x).toArray) l).toArray=es at h ⊢
  cases h with
  |fz _ _ b o c L hL hn ho hc hsz h=>
   refine .fz _ _ b o c L (hF b L hL) hn ho hc hsz fun j k e u u' h1 h2 h3=>?_
   rw [←he] at h1
   simp only [List.getElem?_toArray,List.getElem?_map,Option.map_eq_some_iff] at h1
   obtain ⟨x,hx,rfl⟩:=h1
   refine QN hF t x u ?_ u' (h j k (Value.agg (qq t x).toArray) u u' (by rw [←he];simp [hx]) h2 h3)
   simp only [Value.cells,List.getElem?_toArray] at h2
   exact List.mem_of_getElem? h2
  |fz0 _ a c=>exact .fz0 _ _ _
 |.pair a b,x,c,hc,v',h=>by
  simp only [qq,List.mem_append] at hc
  rcases hc with hc | hc
  ·exact QN hF a x.1 c hc v' h
  ·exact QN hF b x.2 c hc v' h
theorem zfR {φ φ0:Ren} (hF:∀b L,φ (FZ+b)=some L→φ0 (FZ+b)=some L) {t:Ty} {x:T t} {us:List Value} (h:zC φ (qq t x) us):zC φ0 (qq t x) us:=by
 refine zC.of_get h.length fun i v v' hv hv'=>?_
 obtain ⟨u,h1,h2⟩:=h.get hv
 rw [hv'] at h1;cases h1
 exact QN hF t x v (List.mem_of_getElem? hv) _ h2
theorem zw0 {φ φ0:Ren} (hF:∀b L,φ (FZ+b)=some L→φ0 (FZ+b)=some L) {ρ:Nat→Value} (t:VT) (x:T t.ty) {v':Value} (h:zt φ (den ρ (mkV t x)) v'):zt φ0 (den ρ (mkV t x)) v':=by
 obtain ⟨ag,ty⟩:=t
 cases ag with
 |true=>
  simp only [mkV,cond_true,den] at h ⊢
  obtain ⟨ys,rfl,hl⟩:=h.agg_inv
  refine .agg' ?_
  rw [qw,yi] at hl ⊢
  simp only at hl ⊢
  exact zfR hF (by simpa using hl)
 |false=>
  simp only [mkV,cond_false] at h ⊢
  have h2:=yi ρ ty x
  match he:yw ty x with
  |[v]=>
   rw [he] at h h2
   simp only [mk1,List.map_cons,List.map_nil] at h h2 ⊢
   exact QN hF ty x _ (by rw [←h2];simp) _ h
  |[]=>rw [he] at h;simp [mk1,den] at h;exact (Ku h).elim
  |_::_::_=>rw [he] at h;simp [mk1,den] at h;exact (Ku h).elim
@[reducible] def zq (l:List VT):Ty:=List.rec (motive:=fun _=>Ty) .unit (fun a _ ih=>.pair a.ty ih) l
def KD:(l:List VT)→List SV→SH→Option (T (zq l)×SH)
 |[],[],H=>some ((),H)
 |a::r,v::vs,H=>match cvV a v H with
  |some (x,H1)=>match KD r vs H1 with
   |some (y,H2)=>some ((x,y),H2)
   |none=>none
  |none=>none
 |_,_,_=>none
def wv:(l:List VT)→T (zq l)→List SV
 |[],_=>[]
 |a::r,x=>mkV a (p1 x)::wv r (p2 x)
theorem znj:∀{l:List VT} {vs:List SV} {H H':SH} {x:T (zq l)},KD l vs H=some (x,H')→
  xn H H'∧∀ν G,GLe H' G→∀(φ:Ren) (K:Nat→Prop) (w:World) (nx:Nat) (us:List Value),zI φ (zG ν G) K w→VN ν nx G→zC φ (zu (rho ν H) vs) us→∀ρ,zC φ (zu ρ (wv l x)) us
 |[],[],H,H',x,h=>by
  simp only [KD] at h
  cases h
  exact ⟨xn.refl _,fun ν G hG φ K w nx us g hv hr ρ=>by simpa [zu,wv] using hr⟩
 |a::r,v::vs,H,H',x,h=>by
  simp only [KD] at h
  split at h
  case h_2=>cases h
  rename_i x1 H1 h1
  split at h
  case h_2=>cases h
  rename_i y H2 h2
  cases h
  obtain ⟨g1,r1⟩:=zsG h1
  obtain ⟨g2,r2⟩:=znj h2
  refine ⟨g1.trans g2,fun ν G hG φ K w nx us g hv hr ρ=>?_⟩
  match us,hr with
  |[],hr=>simp [zu,zC] at hr
  |u::us,hr=>
   simp only [zu,zC,wv] at hr ⊢
   refine ⟨r1 ν G (g2.1.trans hG) φ K w nx u g hv hr.1 ρ,r2 ν G hG φ K w nx us g hv ?_ ρ⟩
   rw [g1.1.rho ν];exact hr.2
 |[],_::_,_,_,_,h=>by simp [KD] at h
 |_::_,[],_,_,_,h=>by simp [KD] at h
theorem zbh {φ φ0:Ren} (hF:∀b L,φ (FZ+b)=some L→φ0 (FZ+b)=some L) {ρ:Nat→Value}:∀(l:List VT) (x:T (zq l)) {us:List Value},zC φ (zu ρ (wv l x)) us→zC φ0 (zu ρ (wv l x)) us
 |[],x,[],h=>trivial
 |[],x,_::_,h=>by simp [wv,zu,zC] at h
 |a::r,x,[],h=>by simp [wv,zu,zC] at h
 |a::r,x,u::us,h=>by
  simp only [wv,zu,zC] at h ⊢
  exact ⟨zw0 hF a x.1 h.1,zbh hF r x.2 h.2⟩
theorem zDc {φ φ0:Ren} (hF:∀b L,φ (FZ+b)=some L→φ0 (FZ+b)=some L) {ρ:Nat→Value} (l:List VT) (x:T (zq l)) {v':Value} (h:zt φ (den ρ (zel (wv l x))) v'):zt φ0 (den ρ (zel (wv l x))) v':=by
 rw [zc0] at h ⊢
 have key:=fun (us:List Value) (hr:zC φ (zu ρ (wv l x)) us)=>zbh hF l x hr
 generalize zu ρ (wv l x)=vs at h key
 match vs,h,key with
 |[],h,key=>
  simp only [YJ] at h ⊢
  obtain ⟨ys,rfl,hl⟩:=h.tuple_inv
  exact .tuple' (key _ hl)
 |[v],h,key=>
  simp only [YJ] at h ⊢
  exact (key [v'] ⟨h,trivial⟩).1
 |a::b::r,h,key=>
  simp only [YJ] at h ⊢
  obtain ⟨ys,rfl,hl⟩:=h.tuple_inv
  exact .tuple' (key _ hl)
structure Con where
 args:List VT
 res:List VT
 F:T (zq args)→Option (T (zq res))
def Con.Ok (P:Program) (f:FuncId) (c:Con):Prop:=(∃fn,P.funcs[f]?=some fn∧fn.body.isSome=true)∧
 ∀x r,c.F x=some r→∃Hd nx',nx'≤FZ∧Jc P f (zu (fun _=>bad) (wv c.args x)) [] 0 (den (fun _=>bad) (zel (wv c.res r))) Hd nx'
theorem zEt {f:FuncId} {args:List Value} {Hd:Hp} {nx':Nat} {v:Value} (hz:nx'≤FZ) (h:Jc P f args [] 0 v Hd nx') (ha:∀φ φ0:Ren,(∀b L,φ (FZ+b)=some L→φ0 (FZ+b)=some L)→∀us,zC φ args us→zC φ0 args us)
  (hv:∀φ φ0:Ren,(∀b L,φ (FZ+b)=some L→φ0 (FZ+b)=some L)→∀v',zt φ v v'→zt φ0 v v') (H:Hp) (nx:Nat):Jc P f args H nx v H nx:=by
 refine ⟨Nat.le_refl _,fun φ w K us g hf hl=>?_⟩
 let φ0:Ren:=fun b=>if FZ≤b then φ b else none
 have e0:∀b,φ0 (FZ+b)=φ (FZ+b):=fun b=>by simp only [φ0,show FZ≤FZ+b by omega,if_true]
 have g0:zI φ0 [] (fun c=>c < w.heap.size) w:=⟨fun b k hb=>by simp [Hp.get_nil] at hb,fun b c k k' L L' hb=>by simp [Hp.get_nil] at hb,fun b k L hb=>by simp [Hp.get_nil] at hb,fun c hc=>hc,fun b L hL=>g.fz b L (by rw [←e0];exact hL),fun b k L c M hb=>by simp [Hp.get_nil] at hb⟩
 refine Calls.mono (h.2 φ0 w (fun c=>c < w.heap.size) us g0 ⟨hz,fun b _ hb=>by simp only [φ0,show ¬FZ≤b by omega,if_false]⟩ (ha φ φ0 (fun b L hL=>by rw [e0];exact hL) us hl)) ?_
 rintro e w' ⟨v',φ',rfl,x1,x2,x3,x4⟩
 let φ2:Ren:=fun b=>if FZ≤b then φ' b else φ b
 have e2:∀b,φ2 (FZ+b)=φ' (FZ+b):=fun b=>by simp only [φ2,show FZ≤FZ+b by omega,if_true]
 have e3:∀b,b < FZ→φ2 b=φ b:=fun b hb=>by simp only [φ2,show ¬FZ≤b by omega,if_false]
 have hle:φ.le φ2:=fun b L hb=>by
  by_cases hz:FZ≤b
  ·simp only [φ2,hz,if_true]
   exact x2.1 b L (by simp only [φ0,hz,if_true];exact hb)
  ·simp only [φ2,hz,if_false];exact hb
 have hnew:∀b L,φ2 (FZ+b)=some L→φ (FZ+b)=some L∨¬b < w.heap.size:=fun b L hL=>by
  rw [e2] at hL
  rcases x2.2.2 b L hL with h1 | h1
  ·rw [e0] at h1;exact .inl h1
  ·exact .inr h1
 have hname:∀b k,H.get b=some k→b < FZ∨∃L,φ b=some L:=fun b k hb=>by
  obtain ⟨L,hL,_⟩:=g.rel b k hb
  exact .inr ⟨L,hL⟩
 have hφ2:∀b k L,H.get b=some k→φ2 b=some L→φ b=some L:=fun b k L hb hL=>by
  obtain ⟨M,hM,_⟩:=g.rel b k hb
  have:=hle b M hM
  rw [hL] at this;cases this;exact hM
 refine ⟨v',φ2,rfl,hv φ' φ2 (fun b L hL=>by rw [e2];exact hL) v' x1,⟨hle,fun b hz _=>e3 b hz,fun b L hL=>(hnew b L hL).imp id fun h1 h2=>h1 (g.kin b h2)⟩,?_,⟨x4.os,x4.tape,x4.output,x4.size,fun c hc=>x4.kept c (g.kin c hc)⟩⟩
 refine ⟨fun b k hb=>?_,fun b c k k' L L' hb hc hne hkr hL hL'=>g.sep b c k k' L L' hb hc hne hkr (hφ2 b k L hb hL) (hφ2 c k' L' hc hL'),fun b k L hb hkr hL=>g.prot b k L hb hkr (hφ2 b k L hb hL),fun c hc=>Nat.lt_of_lt_of_le (g.kin c hc) x4.size,fun b L hL=>x3.fz b L (by rw [←e2];exact hL),fun b k L c M hb hkr hL hM=>?_⟩
 ·obtain ⟨L,hL,hB⟩:=g.rel b k hb
  exact ⟨L,hle b L hL,(hB.congr (x4.kept L.blk hB.lt)).mono hle⟩
 ·have hL1:=hφ2 b k L hb hL
  rcases hnew c M hM with h1 | h1
  ·exact g.fsep b k L c M hb hkr hL1 h1
  ·have:=(g.at hb hL1).lt
   omega
def zjn:Ty→Bool
 |.list _=>false
 |.pair a b=>zjn a&&zjn b
 |_=>true
def znk:List VT→Bool
 |[]=>true
 |a::r=>zjn a.ty&&znk r
theorem zh1 {φ φ0:Ren}:∀(t:Ty) (x:T t) (_:zjn t=true) (c:Value),c∈qq t x→∀v',zt φ c v'→zt φ0 c v'
 |.unit,x,_,c,hc,v',h=>by simp [qq] at hc
 |.bool,x,_,c,hc,v',h=>by
  simp only [qq,List.mem_singleton] at hc
  subst hc;cases h;exact .bool _
 |.int k,x,_,c,hc,v',h=>by
  simp only [qq,List.mem_singleton] at hc
  subst hc;cases h;exact .int _ _
 |.str,x,_,c,hc,v',h=>by
  simp only [qq,List.mem_singleton] at hc
  subst hc;cases h;exact .str _
 |.list t,l,hp,c,hc,v',h=>by cases hp
 |.pair a b,x,hp,c,hc,v',h=>by
  simp only [zjn,Bool.and_eq_true] at hp
  simp only [qq,List.mem_append] at hc
  rcases hc with hc | hc
  ·exact zh1 a x.1 hp.1 c hc v' h
  ·exact zh1 b x.2 hp.2 c hc v' h
theorem zEu {φ φ0:Ren} {ρ:Nat→Value} (t:VT) (x:T t.ty) (hp:zjn t.ty=true) {v':Value} (h:zt φ (den ρ (mkV t x)) v'):zt φ0 (den ρ (mkV t x)) v':=by
 obtain ⟨ag,ty⟩:=t
 cases ag with
 |true=>
  simp only [mkV,cond_true,den] at h ⊢
  obtain ⟨ys,rfl,hl⟩:=h.agg_inv
  refine .agg' ?_
  rw [qw,yi] at hl ⊢
  simp only at hl ⊢
  have hl:zC φ (qq ty x) ys.toList:=by simpa using hl
  refine zC.of_get hl.length fun i v v' hv hv'=>?_
  obtain ⟨u,h1,h2⟩:=hl.get hv
  rw [hv'] at h1;cases h1
  exact zh1 ty x hp v (List.mem_of_getElem? hv) _ h2
 |false=>
  simp only [mkV,cond_false] at h ⊢
  have h2:=yi ρ ty x
  match he:yw ty x with
  |[v]=>
   rw [he] at h h2
   simp only [mk1,List.map_cons,List.map_nil] at h h2 ⊢
   exact zh1 ty x hp _ (by rw [←h2];simp) _ h
  |[]=>rw [he] at h;simp [mk1,den] at h;exact (Ku h).elim
  |_::_::_=>rw [he] at h;simp [mk1,den] at h;exact (Ku h).elim
theorem znl {φ φ0:Ren} {ρ:Nat→Value}:∀(l:List VT) (x:T (zq l)) (_:znk l=true) {us:List Value},zC φ (zu ρ (wv l x)) us→zC φ0 (zu ρ (wv l x)) us
 |[],x,_,[],h=>trivial
 |[],x,_,_::_,h=>by simp [wv,zu,zC] at h
 |a::r,x,_,[],h=>by simp [wv,zu,zC] at h
 |a::r,x,hp,u::us,h=>by
  simp only [znk,Bool.and_eq_true] at hp
  simp only [wv,zu,zC] at h ⊢
  exact ⟨zEu a x.1 hp.1 h.1,znl r x.2 hp.2 h.2⟩
theorem zDd {φ φ0:Ren} {ρ:Nat→Value} (l:List VT) (x:T (zq l)) (hp:znk l=true) {v':Value} (h:zt φ (den ρ (zel (wv l x))) v'):zt φ0 (den ρ (zel (wv l x))) v':=by
 rw [zc0] at h ⊢
 have key:=fun (us:List Value) (hr:zC φ (zu ρ (wv l x)) us)=>znl (φ0:=φ0) l x hp hr
 generalize zu ρ (wv l x)=vs at h key
 match vs,h,key with
 |[],h,key=>
  simp only [YJ] at h ⊢
  obtain ⟨ys,rfl,hl⟩:=h.tuple_inv
  exact .tuple' (key _ hl)
 |[v],h,key=>
  simp only [YJ] at h ⊢
  exact (key [v'] ⟨h,trivial⟩).1
 |a::b::r,h,key=>
  simp only [YJ] at h ⊢
  obtain ⟨ys,rfl,hl⟩:=h.tuple_inv
  exact .tuple' (key _ hl)
theorem zDe {f:FuncId} {args:List Value} {Hd:Hp} {nx':Nat} {v:Value} (hz:nx'≤FZ) (h:Jc P f args [] 0 v Hd nx') (ha:∀φ φ0:Ren,(∀b L,φ (FZ+b)=some L→φ0 (FZ+b)=some L)→∀us,zC φ args us→zC φ0 args us)
  (hv:∀(φ φ0:Ren) v',zt φ v v'→zt φ0 v v') {φ φ1:Ren} {H:Hp} {K:Nat→Prop} {w:World} {us:List Value} (g:zI φ H K w) (g1:∀b L,φ1 (FZ+b)=some L→zqy w b L) (hl:zC φ1 args us) :
  Calls P f us.toArray w fun e w'=>∃v',e=.returned v'∧zt φ v v'∧zI φ H K w'∧qz K w w':=by
 let φ0:Ren:=fun b=>if FZ≤b then φ1 b else none
 have e0:∀b,φ0 (FZ+b)=φ1 (FZ+b):=fun b=>by simp only [φ0,show FZ≤FZ+b by omega,if_true]
 have g0:zI φ0 [] (fun c=>c < w.heap.size) w:=⟨fun b k hb=>by simp [Hp.get_nil] at hb,fun b c k k' L L' hb=>by simp [Hp.get_nil] at hb,fun b k L hb=>by simp [Hp.get_nil] at hb,fun c hc=>hc,fun b L hL=>g1 b L (by rw [←e0];exact hL),fun b k L c M hb=>by simp [Hp.get_nil] at hb⟩
 refine Calls.mono (h.2 φ0 w (fun c=>c < w.heap.size) us g0 ⟨hz,fun b _ hb=>by simp only [φ0,show ¬FZ≤b by omega,if_false]⟩ (ha φ1 φ0 (fun b L hL=>by rw [e0];exact hL) us hl)) ?_
 rintro e w' ⟨v',φ',rfl,x1,x2,x3,x4⟩
 refine ⟨v',rfl,hv φ' φ v' x1,⟨fun b k hb=>?_,g.sep,g.prot,fun c hc=>Nat.lt_of_lt_of_le (g.kin c hc) x4.size,fun b L hL=>?_,g.fsep⟩,⟨x4.os,x4.tape,x4.output,x4.size,fun c hc=>x4.kept c (g.kin c hc)⟩⟩
 ·obtain ⟨L,hL,hB⟩:=g.rel b k hb
  exact ⟨L,hL,hB.congr (x4.kept L.blk hB.lt)⟩
 ·obtain ⟨h1,h2,a,el,fr,h3,h4⟩:=g.fz b L hL
  refine ⟨h1,h2,a,el,fr,?_,h4⟩
  rw [x4.kept b (by
   have:=(Array.getElem?_eq_some_iff.1 h3).1
   exact this)]
  exact h3
def zGb (c:Con) (args:List SV) (H:SH) (nx:Nat) (k:KO R):Option R:=match KD c.args args H with
 |some (x,H1)=>bif znk c.res then opt (c.F x) fun r=>k (zel (wv c.res r)) H nx else opt (c.F x) fun r=>k (zel (wv c.res r)) H1 nx
 |none=>none
theorem zqY (l:List VT) (x:T (zq l)) (ρ ρ':Nat→Value):zu ρ (wv l x)=zu ρ' (wv l x):=by
 have hc:∀(t:Ty) (y:T t),zu ρ (yw t y)=zu ρ' (yw t y):=fun t y=>by rw [qw,qw,yi,yi]
 have hv:∀(t:VT) (y:T t.ty),den ρ (mkV t y)=den ρ' (mkV t y):=fun t y=>by
  obtain ⟨ag,ty⟩:=t
  cases ag with
  |true=>simp only [mkV,cond_true,den];rw [hc ty y]
  |false=>
   simp only [mkV,cond_false]
   have:=hc ty y
   match he:yw ty y with
   |[v]=>rw [he] at this;simpa [mk1,zu] using this
   |[]=>simp [mk1,den]
   |_::_::_=>simp [mk1,den]
 induction l with
 |nil=>rfl
 |cons a r ih=>simp only [wv,zu,hv a x.1,ih x.2]
theorem zHB {f:FuncId} {c:Con} (hc:c.Ok P f) {args:List SV} {H:SH} {nx:Nat} {k:KO R} {r:R} (h:zGb c args H nx k=some r):∃v H' nx',zDa P f args H nx v H' nx'∧k v H' nx'=some r:=by
 unfold zGb at h
 split at h
 case h_2=>cases h
 rename_i x H1 hx
 obtain ⟨hg,hr⟩:=znj hx
 rcases xh h with ⟨hp,h⟩ | ⟨_,h⟩
 ·obtain ⟨y,hy,h2⟩:=Jh h
  obtain ⟨Hd,n1,hz,hcall⟩:=hc.2 x y hy
  refine ⟨_,_,_,⟨hc.1,wc.refl H,wq.refl H,Nat.le_refl _,fun ν hv=>⟨hv,Nat.le_refl _,fun φ w K us g hf hl=>?_⟩⟩,h2⟩
  obtain ⟨φ1,e1,g1⟩:=hg.2 ν φ K w g
  have hl1:=hr ν H1 (GLe.refl _) φ1 K w nx us g1 (hg.1.vn hv) (hl.mono (e1 0).1) (fun _=>bad)
  refine Calls.mono (zDe hz hcall (fun φ φ0 hF us h=>zbh hF c.args x h) (fun φ φ0 v' h=>zDd c.res y hp h) g g1.fz hl1) ?_
  rintro e w' ⟨v',rfl,x1,x3,x4⟩
  refine ⟨v',φ,rfl,?_,Ext.refl _ _ _ _,x3,x4⟩
  rw [zc0] at x1 ⊢
  rwa [zqY c.res y (rho ν H) (fun _=>bad)]
 obtain ⟨y,hy,h2⟩:=Jh h
 obtain ⟨Hd,n1,hz,hcall⟩:=hc.2 x y hy
 refine ⟨_,_,_,⟨hc.1,hg.1.regLe,hg.1.lkeep,Nat.le_refl _,fun ν hv=>⟨hg.1.vn hv,Nat.le_refl _,fun φ w K us g hf hl=>?_⟩⟩,h2⟩
 obtain ⟨φ1,e1,g1⟩:=hg.2 ν φ K w g
 have hl1:=hr ν H1 (GLe.refl _) φ1 K w nx us g1 (hg.1.vn hv) (hl.mono (e1 0).1) (fun _=>bad)
 have hd:=zEt hz hcall (fun φ φ0 hF us h=>zbh hF c.args x h) (fun φ φ0 hF v' h=>zDc hF c.res y h) (zG ν H1) nx
 refine Calls.mono (hd.2 φ1 w K us g1 (zm2 (mid:=0) hf e1) hl1) ?_
 rintro e w' ⟨v',φ',rfl,x1,x2,x3,x4⟩
 refine ⟨v',φ',rfl,?_,(e1 nx).comp x2,x3,x4⟩
 rw [zc0] at x1 ⊢
 rwa [zqY c.res y (rho ν H1) (fun _=>bad)]
def zD {X S:Type} (B:S→Option (X ⊕ S)) (n:Nat):S→Option X:=
 Nat.rec (motive:=fun _=>S→Option X) (fun _=>none) (fun _ ih s=>match B s with
  |some (.inl x)=>some x
  |some (.inr s')=>ih s'
  |none=>none) n
theorem XQ {X S:Type} (B:S→Option (X ⊕ S)) (n:Nat) (s:S):zD B (n+1) s=match B s with
  |some (.inl x)=>some x
  |some (.inr s')=>zD B n s'
  |none=>none:=rfl
theorem zqh {X S:Type} {B:S→Option (X ⊕ S)} {c:Code} {F:Fence} {Inv:S→Act→World→Prop} {Fin:X→Exit→Act→World→Prop}
  (h:∀s r,B s=some r→∀a w,Inv s a w→c.wpIn F 0 P (fun e a' w'=>match r with | .inl x=>e≠.normal∧Fin x e a' w' | .inr s'=>e=.normal∧Inv s' a' w') a w) :
  ∀(N:Nat) (s:S) (x:X),zD B N s=some x→∀a w,Inv s a w→Code.roundsIn F 0 P c (Fin x) N a w
 |0,s,x,hi,a,w,hI=>by cases hi
 |N+1,s,x,hi,a,w,hI=>by
  rw [XQ] at hi
  rw [roundsIn_succ]
  split at hi
  ·rename_i y hB
   cases hi
   refine wpIn_mono (h s _ hB a w hI) ?_
   intro e a' w' hq
   obtain ⟨he,hf⟩:=hq
   cases e<;>first | exact absurd rfl he | exact hf
  ·rename_i s' hB
   refine wpIn_mono (h s _ hB a w hI) ?_
   intro e a' w' hq
   obtain ⟨rfl,hI'⟩:=hq
   exact zqh h N s' x hi a' w' hI'
  ·cases hi
theorem zEv {φ2 φ3:Ren} {Hs Ht:Hp} (g:zI φ2 Hs K w) (src:Nat→Nat)
  (h:∀b k,Ht.get b=some k→(∃k',Hs.get (src b)=some k'∧φ3 b=φ2 (src b)∧k'.rw=true∧∀L,jA φ2 w L k'→jA φ3 w L k)∨(k.rw=false∧∃L,φ3 b=some L∧jA φ3 w L k∧K L.blk))
  (hi:∀b c k k',Ht.get b=some k→Ht.get c=some k'→k.rw=true→k'.rw=true→b≠c→src b≠src c)
  (hrw:∀b k,Ht.get b=some k→k.rw=false→(∃L,φ3 b=some L∧jA φ3 w L k∧K L.blk))
  (hf:∀b,φ3 (FZ+b)=φ2 (FZ+b)):zI φ3 Ht K w:=by
 have hT:∀b k,Ht.get b=some k→k.rw=true→∃k',Hs.get (src b)=some k'∧φ3 b=φ2 (src b)∧k'.rw=true∧∀L,jA φ2 w L k'→jA φ3 w L k:=fun b k hb hk=>by
  rcases h b k hb with h1 | ⟨h1,_⟩
  ·exact h1
  ·rw [hk] at h1;cases h1
 refine ⟨fun b k hb=>?_,fun b c k k' L L' hb hc hne hk hL hL'=>?_,fun b k L hb hk hL=>?_,g.kin,fun b L hL=>g.fz b L (by rw [←hf];exact hL),fun b k L c M hb hk hL hM=>?_⟩
 ·rcases h b k hb with ⟨k',h1,h2,h3,h4⟩ | ⟨_,L,h1,h2,_⟩
  ·obtain ⟨L,hL,hB⟩:=g.rel _ _ h1
   exact ⟨L,by rw [h2];exact hL,h4 L hB⟩
  ·exact ⟨L,h1,h2⟩
 ·obtain ⟨kb,b1,b2,b3,b4⟩:=hT b k hb hk
  cases hk':k'.rw with
  |true=>
   obtain ⟨kc,c1,c2,c3,c4⟩:=hT c k' hc hk'
   exact g.sep _ _ _ _ L L' b1 c1 (hi b c k k' hb hc hk hk' hne) b3 (by rw [←b2];exact hL) (by rw [←c2];exact hL')
  |false=>
   obtain ⟨M,m1,m2,m3⟩:=hrw c k' hc hk'
   rw [hL'] at m1;cases m1
   intro e
   exact g.prot _ _ L b1 b3 (by rw [←b2];exact hL) (by rw [e];exact m3)
 ·obtain ⟨kb,b1,b2,b3,b4⟩:=hT b k hb hk
  exact g.prot _ _ L b1 b3 (by rw [←b2];exact hL)
 ·obtain ⟨kb,b1,b2,b3,b4⟩:=hT b k hb hk
  exact g.fsep _ _ L c M b1 b3 (by rw [←b2];exact hL) (by rw [←hf];exact hM)
def KX (K:Nat→Prop) (φE:Ren) (HR:Hp) (n:Nat):Prop:=K n∨∃b k L,HR.get b=some k∧φE b=some L∧L.blk=n
theorem zz4 {φE φ1:Ren} {HE HR H1 H2:Hp} {wE:World} (gE:zI φE HE K wE) (hle:φE.le φ1) (hfz:∀b L,φ1 (FZ+b)=some L→φE (FZ+b)=some L∨¬KX K φE HR b)
  (hw:qz (KX K φE HR) wE w) (g:zI φ1 H1 (KX K φE HR) w)
  (h:∀b k,H2.get b=some k→(H1.get b=some k∧k.rw=true)∨(HE.get b=some k∧∃k',HR.get b=some k')):zI φ1 H2 K w:=by
 have hE:∀b k,HE.get b=some k→(∃k',HR.get b=some k')→∃L,φE b=some L∧φ1 b=some L∧jA φ1 w L k∧KX K φE HR L.blk:=fun b k hb hr=>by
  obtain ⟨k',hr⟩:=hr
  obtain ⟨L,hL,hB⟩:=gE.rel b k hb
  have hK:KX K φE HR L.blk:=.inr ⟨b,k',L,hr,hL,rfl⟩
  exact ⟨L,hL,hle b L hL,(jA.congr (hw.kept _ hK) hB).mono hle,hK⟩
 refine ⟨fun b k hb=>?_,fun b c k k' L L' hb hc hne hk hL hL'=>?_,fun b k L hb hk hL=>?_,fun c hc=>g.kin c (.inl hc),g.fz,fun b k L c M hb hk hL hM=>?_⟩
 ·rcases h b k hb with ⟨h1,_⟩ | ⟨h1,h2⟩
  ·exact g.rel b k h1
  ·obtain ⟨L,e1,e2,e3,e4⟩:=hE b k h1 h2
   exact ⟨L,e2,e3⟩
 ·rcases h b k hb with ⟨h1,hk1⟩ | ⟨h1,h2⟩
  ·rcases h c k' hc with ⟨c1,_⟩ | ⟨c1,c2⟩
   ·exact g.sep b c k k' L L' h1 c1 hne hk hL hL'
   ·obtain ⟨M,e1,e2,e3,e4⟩:=hE c k' c1 c2
    rw [hL'] at e2;cases e2
    intro e
    exact g.prot b k L h1 hk hL (by rw [e];exact e4)
  ·obtain ⟨M,e1,e2,e3,e4⟩:=hE b k h1 h2
   rw [hL] at e2;cases e2
   rcases h c k' hc with ⟨c1,ck⟩ | ⟨c1,c2⟩
   ·intro e
    exact g.prot c k' L' c1 ck hL' (by rw [←e];exact e4)
   ·obtain ⟨M',e1',e2',_,_⟩:=hE c k' c1 c2
    rw [hL'] at e2';cases e2'
    exact gE.sep b c k k' L L' h1 c1 hne hk e1 e1'
 ·rcases h b k hb with ⟨h1,_⟩ | ⟨h1,h2⟩
  ·exact fun hK=>g.prot b k L h1 hk hL (.inl hK)
  ·obtain ⟨M,e1,e2,e3,e4⟩:=hE b k h1 h2
   rw [hL] at e2;cases e2
   exact gE.prot b k L h1 hk e1
 ·rcases h b k hb with ⟨h1,_⟩ | ⟨h1,h2⟩
  ·exact g.fsep b k L c M h1 hk hL hM
  ·obtain ⟨M',e1,e2,e3,e4⟩:=hE b k h1 h2
   rw [hL] at e2;cases e2
   rcases hfz c M hM with h3 | h3
   ·exact gE.fsep b k L c M h1 hk e1 h3
   ·intro e;exact h3 (by rw [←e];exact e4)
def yU (l:List Nat) (n:Nat):Bool:=List.rec (motive:=fun _=>Bool) false (fun x _ ih=>bif Nat.beq x n then true else ih) l
theorem zEw (x:Nat) (l:List Nat) (n:Nat):yU (x::l) n=if x=n then true else yU l n:=by
 show (bif Nat.beq x n then true else yU l n)=_
 rw [zmY]
theorem kq (n:Nat):∀l:List Nat,yU l n=true↔n∈l
 |[]=>by simp [yU]
 |x::l=>by
  rw [zEw]
  by_cases h:x=n
  ·simp [h]
  ·rw [if_neg h,kq n l]
   simp [Ne.symm h]
mutual
def zaf (ns:List Nat) (lo:Nat):SV→Bool
 |.agg cs=>xY ns lo cs
 |.tup cs=>xY ns lo cs
 |.ptr b _=>Nat.blt b lo
 |.own b=>yU ns b
 |.elp b _ _ _=>Nat.blt b lo
 |.fn _ fs cs=>xY ns lo fs&&xY ns lo cs
 |.yld l=>Nat.blt l lo
 |.mp b=>Nat.blt b lo
 |.slv b _=>Nat.blt b lo
 |_=>true
def xY (ns:List Nat) (lo:Nat):List SV→Bool
 |[]=>true
 |v::r=>zaf ns lo v&&xY ns lo r
end
theorem zEx {φ φ0:Ren} (hF:∀b L,φ (FZ+b)=some L→φ0 (FZ+b)=some L) (t:Ty) (l:List (T t)) (full:Bool) {v':Value} (h:zt φ (fzV (sz t) full (l.map (wu t))) v'):zt φ0 (fzV (sz t) full (l.map (wu t))) v':=by
 cases full with
 |false=>exact QN hF (.list t) l _ (by simp [qq,wu,fzV]) v' h
 |true=>
  unfold fzV at h ⊢
  simp only [cond_true] at h ⊢
  generalize hs:sz t=s at h ⊢
  generalize he:(List.map (wu t) l).toArray=es at h ⊢
  cases h with
  |fq _ _ b o L hL hn ho hsz h=>
   refine .fq _ _ b o L (hF b L hL) hn ho hsz fun j k e u u' h1 h2 h3=>?_
   rw [←he] at h1
   simp only [List.getElem?_toArray,List.getElem?_map,Option.map_eq_some_iff] at h1
   obtain ⟨x,hx,rfl⟩:=h1
   refine QN hF t x u ?_ u' (h j k (wu t x) u u' (by rw [←he];simp [hx]) h2 h3)
   simp only [wu,Value.cells,List.getElem?_toArray] at h2
   exact List.mem_of_getElem? h2
  |fq0 _ a=>exact .fq0 _ _
theorem zEy {φ φ0:Ren} (hF:∀b L,φ (FZ+b)=some L→φ0 (FZ+b)=some L) (t:Ty) (x:T t) (k:Nat) {v':Value} (h:zt φ (.iface k (.iface 0 (wu t x))) v'):zt φ0 (.iface k (.iface 0 (wu t x))) v':=by
 generalize he:wu t x=e at h ⊢
 cases h with
 |fp _ _ b o L hL ho h=>
  refine .fp _ _ b o L (hF b L hL) ho fun j u u' h1 h2=>?_
  subst he
  refine QN hF t x u ?_ u' (h j u u' h1 h2)
  simp only [wu,Value.cells,List.getElem?_toArray] at h1
  exact List.mem_of_getElem? h1
theorem zw1 {φ2 φ3:Ren} {b o n c:Nat} (h:φ3 b=φ2 b) {v':Value} (hv:zt φ2 (.slice (some ⟨b,o,none⟩) n c) v'):zt φ3 (.slice (some ⟨b,o,none⟩) n c) v':=by
 cases hv with
 |sl _ _ _ _ L hL hc=>exact .sl _ _ _ _ L (by rw [h];exact hL) hc
 |slO _ _ _ _ c' L hL hc hn hl=>exact .slO _ _ _ _ c' L (by rw [h];exact hL) hc hn hl
 |slE _ _ _ a' L hL hc=>exact .slE _ _ _ a' L (by rw [h];exact hL) hc
theorem zHC {φ2 φ3:Ren} {ν:Nat→Bool} {H:SH} {b:Nat} (h:φ3 b=φ2 b) {v':Value} (hv:zt φ2 (rho ν H b) v'):zt φ3 (rho ν H b) v':=by
 unfold rho at hv ⊢
 split at hv
 ·cases hv;exact .slN _ _
 ·exact zw1 h hv
 ·exact (zqa hv).elim
section
variable {φ2 φ3:Ren} {ν:Nat→Bool} {H2 H3:SH} {ns:List Nat} {lo:Nat}
 (hφ:∀b,b < lo→φ3 b=φ2 b) (hF:∀b L,φ2 (FZ+b)=some L→φ3 (FZ+b)=some L)
 (hns:∀b∈ns,b < lo) (hr:∀b∈ns,reg (zn H3 b)=reg (zn H2 b))
include hφ hF hns hr
mutual
theorem zo8:∀(v:SV) (v':Value),zaf ns lo v=true→zt φ2 (den (rho ν H2) v) v'→zt φ3 (den (rho ν H3) v) v'
 |.bool _,_,_,hv=>by simp only [den] at hv ⊢;cases hv;exact .bool _
 |.int _ _,_,_,hv=>by simp only [den] at hv ⊢;cases hv;exact .int _ _
 |.str _,_,_,hv=>by simp only [den] at hv ⊢;cases hv;exact .str _
 |.agg cs,v',hl,hv=>by
  simp only [den] at hv ⊢
  simp only [zaf] at hl
  obtain ⟨ys,rfl,hq⟩:=hv.agg_inv
  exact .agg' (by simpa using zc1 cs ys.toList hl (by simpa using hq))
 |.tup cs,v',hl,hv=>by
  simp only [den] at hv ⊢
  simp only [zaf] at hl
  obtain ⟨ys,rfl,hq⟩:=hv.tuple_inv
  exact .tuple' (by simpa using zc1 cs ys.toList hl (by simpa using hq))
 |.ptr b o,_,hl,hv=>by
  simp only [den] at hv ⊢
  simp only [zaf,Nat.blt_eq] at hl
  cases hv with
  |ptr _ _ L hL=>exact .ptr _ _ L (by rw [hφ b hl];exact hL)
 |.nilp,_,_,hv=>by simp only [den] at hv ⊢;cases hv;exact .ptrN
 |.lst t l f,_,_,hv=>by simp only [den] at hv ⊢;exact zEx hF t l f hv
 |.own b,_,hl,hv=>by
  simp only [den] at hv ⊢
  simp only [zaf] at hl
  have hb:=(kq _ _).1 hl
  have:rho ν H3 b=rho ν H2 b:=by unfold rho;rw [hr b hb]
  rw [this]
  exact zHC (hφ b (hns b hb)) hv
 |.nils,_,_,hv=>by simp only [den] at hv ⊢;cases hv;exact .slN _ _
 |.elp b s i k,_,hl,hv=>by
  simp only [den] at hv ⊢
  simp only [zaf,Nat.blt_eq] at hl
  cases hv with
  |ptr _ _ L hL=>exact .ptr _ _ L (by rw [hφ b hl];exact hL)
 |.fel t x k,_,_,hv=>by simp only [den] at hv ⊢;exact zEy hF t x k hv
 |.fn f fs cs,v',hl,hv=>by
  simp only [den] at hv ⊢
  simp only [zaf,Bool.and_eq_true] at hl
  obtain ⟨fn',ys,us,rfl,hf,h1,h2⟩:=hv.func_inv
  refine .func' ?_ (by simpa using zc1 fs ys.toList hl.1 (by simpa using h1)) (by simpa using zc1 cs us.toList hl.2 (by simpa using h2))
  cases hf;exact .func _
 |.yld l,_,hl,hv=>by
  simp only [den] at hv ⊢
  simp only [zaf,Nat.blt_eq] at hl
  obtain ⟨fn',ys,us,rfl,hf,h1,h2⟩:=hv.func_inv
  cases hf with
  |yield _ L hL=>exact .func' (.yield _ L (by rw [hφ l hl];exact hL)) (by have:=h1.length;simp at this;simp [List.eq_nil_of_length_eq_zero this.symm,zC]) (by have:=h2.length;simp at this;simp [List.eq_nil_of_length_eq_zero this.symm,zC])
 |.nilf,_,_,hv=>by simp only [den] at hv ⊢;cases hv;exact .nilFunc
 |.nilm,_,_,hv=>by simp only [den] at hv ⊢;cases hv;exact .mapN
 |.mp b,_,hl,hv=>by
  simp only [den] at hv ⊢
  simp only [zaf,Nat.blt_eq] at hl
  cases hv with
  |map _ L hL=>exact .map _ L (by rw [hφ b hl];exact hL)
 |.slv b n,_,hl,hv=>by
  simp only [den] at hv ⊢
  simp only [zaf,Nat.blt_eq] at hl
  exact zw1 (hφ b hl) hv
 |.junk,_,_,hv=>by simp only [den] at hv;exact (Ku hv).elim
theorem zc1:∀(vs:List SV) (us:List Value),xY ns lo vs=true→zC φ2 (zu (rho ν H2) vs) us→zC φ3 (zu (rho ν H3) vs) us
 |[],[],_,hr=>trivial
 |[],_::_,_,hr=>by simp [zu,zC] at hr
 |v::vs,[],_,hr=>by simp [zu,zC] at hr
 |v::vs,u::us,hl,hr=>by
  simp only [xY,Bool.and_eq_true] at hl
  simp only [zu,zC] at hr ⊢
  exact ⟨zo8 v u hl.1 hr.1,zc1 vs us hl.2 hr.2⟩
end
end
theorem zfS {ν:Nat→Bool} {H:SH} {v:SV} (h:den (rho ν H) v=Fz.junk):v=.junk:=by
 cases v<;>simp only [den,Fz.junk,reduceCtorEq] at h
 ·simp [fzV] at h
 ·exact absurd h (kU ν H _)
 ·rfl
end Go.Fz.Sy
end
