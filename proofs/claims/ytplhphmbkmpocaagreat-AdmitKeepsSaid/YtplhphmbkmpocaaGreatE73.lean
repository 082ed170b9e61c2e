/- Parts of a proof, joined. -/
import Derived.IntWalk
import Derived.Test.YtplhphmbkmpocaaGreatE72
set_option linter.unusedSectionVars false
set_option linter.unusedVariables false
set_option linter.unusedSimpArgs false
set_option maxHeartbeats 0
set_option maxRecDepth 100000
noncomputable section
namespace Go.Fz.Sy
variable {P:Program} {φ:Ren} {K:Nat→Prop} {w:World} {R:Type}
def hiI (n:Nat):Option Int→Option Nat
 |none=>some n
 |some (.ofNat q)=>bif Nat.ble q n then some q else none
 |some (.negSucc _)=>none
def loI (h:Nat):Option Int→Option Nat
 |none=>some 0
 |some (.ofNat p)=>bif Nat.ble p h then some p else none
 |some (.negSucc _)=>none
def mxI (h:Nat):Option Int→Bool
 |none=>true
 |some (.ofNat m)=>Nat.beq m h
 |some (.negSucc _)=>false
def XO {α:Type} (l:List α) (lo hi mx:Option Int):Option (List α):=match hiI l.length hi with
 |some h=>match loI h lo with
  |some p=>bif mxI h mx then some ((l.take h).drop p) else none
  |none=>none
 |none=>none
def GG:Option SV→Option (Option Int)
 |none=>some none
 |some (.int _ z)=>some (some z)
 |_=>none
theorem zGF {n h:Nat} {v:Option SV} {z:Option Int} {ρ:Nat→Value} (hz:GG v=some z) (h1:hiI n z=some h):zrQ (v.map (den ρ)) n n=some h∧h≤n∧∀u,v=some u→∀m,h≤m→bnd (den ρ u) m=some h:=by
 unfold GG at hz
 split at hz
 ·cases hz
  simp only [hiI,Option.some.injEq] at h1
  subst h1
  exact ⟨by simp [zrQ],Nat.le_refl _,fun u hu=>by cases hu⟩
 ·rename_i k z
  cases hz
  unfold hiI at h1
  split at h1
  ·rename_i he;cases he
  ·rename_i q he
   cases he
   obtain ⟨h2,h3⟩:=zE h1
   cases h3
   have h2:=Nat.le_of_ble_eq_true h2
   refine ⟨?_,h2,fun u hu m hm=>?_⟩
   ·simp [zrQ,den,bnd,h2]
   ·cases hu
    simp [den,bnd,hm]
  ·cases h1
 ·cases hz
theorem zGG {h p:Nat} {v:Option SV} {z:Option Int} {ρ:Nat→Value} (hz:GG v=some z) (h1:loI h z=some p):zt6 (v.map (den ρ)) h=some p∧p≤h:=by
 unfold GG at hz
 split at hz
 ·cases hz
  simp only [loI,Option.some.injEq] at h1
  subst h1
  exact ⟨rfl,Nat.zero_le _⟩
 ·rename_i k z
  cases hz
  unfold loI at h1
  split at h1
  ·rename_i he;cases he
  ·rename_i q he
   cases he
   obtain ⟨h2,h3⟩:=zE h1
   cases h3
   have h2:=Nat.le_of_ble_eq_true h2
   exact ⟨by simp [zt6,den,bnd,h2],h2⟩
  ·cases h1
 ·cases hz
theorem zDs {α:Type} {l l':List α} {lo hi mx:Option SV} {a b c:Option Int} {ρ:Nat→Value} (ha:GG lo=some a) (hb:GG hi=some b) (hc:GG mx=some c) (hhi:mx.isSome=true→hi.isSome=true) (h:XO l a b c=some l') :
  ∃p q,zff l.length l.length (lo.map (den ρ)) (hi.map (den ρ)) (mx.map (den ρ))=some (p,q,mx.map fun _=>q)∧p≤q∧q≤l.length∧l'=(l.take q).drop p∧(hi=none→q=l.length):=by
 unfold XO at h
 split at h
 case h_2=>cases h
 rename_i q hq
 split at h
 case h_2=>cases h
 rename_i p hp
 obtain ⟨h1,h2⟩:=zE h
 cases h2
 obtain ⟨e1,e2,e3⟩:=zGF (ρ:=ρ) hb hq
 obtain ⟨f1,f2⟩:=zGG (ρ:=ρ) ha hp
 refine ⟨p,q,?_,f2,e2,rfl,fun hn=>?_⟩
 ·cases mx with
  |none=>
   simp only [Option.map_none,zff,e1,f1,Option.bind_some]
  |some m=>
   cases hi with
   |none=>simp at hhi
   |some hv=>
    have hm:bnd (den ρ m) l.length=some q:=by
     unfold GG at hc
     split at hc
     ·rename_i he;cases he
     ·rename_i k z he
      cases he
      cases hc
      unfold mxI at h1
      split at h1
      ·rename_i he;cases he
      ·rename_i y he
       cases he
       have:=Nat.eq_of_beq_eq_true h1
       subst this
       simp [den,bnd,e2]
      ·cases h1
     ·cases hc
    simp only [Option.map_some,zff,hm,Option.bind_some,e3 hv rfl q (Nat.le_refl _),f1]
 ·subst hn
  simp only [GG,Option.some.injEq] at hb
  subst hb
  simp only [hiI,Option.some.injEq] at hq
  exact hq.symm
theorem zvX {s:Nat} {full:Bool} {es:List Value} {v':Value} (h:zt φ (fzV s full es) v'):zt φ (fzV s false es) v':=by
 cases full with
 |false=>exact h
 |true=>
  unfold fzV at h ⊢
  simp only [cond_true,cond_false] at h ⊢
  generalize es.toArray=a at h ⊢
  cases h with
  |fq _ _ b o L hL hn ho hs h=>exact .fz _ _ b o _ L hL hn ho (Nat.le_refl _) hs h
  |fq0 _ a=>exact .fz0 _ _ _
theorem zvY {t e:TypeId} {ie:TypeInfo} {ty:Ty} {l l':List (T ty)} {full:Bool} {lo hi mx:Option SV} {a b c:Option Int} {ρ:Nat→Value} (hu:jl P t=some (.slice e)) (hie:jo P e=some ie) (hsz:ie.size=sz ty) (ha:GG lo=some a) (hb:GG hi=some b)
  (hc:GG mx=some c) (hhi:mx.isSome=true→hi.isSome=true) (h:XO l a b c=some l') {x':Value} {lo' hi' mx':Option Value} (hx:zt φ (fzV (sz ty) full (l.map (wS ty))) x') (h1:Km φ (lo.map (den ρ)) lo') (h2:Km φ (hi.map (den ρ)) hi') (h3:Km φ (mx.map (den ρ)) mx') (w:World) :
  ∃v',(Instr.sliceAt t x' lo' hi' mx').run P w=.ok v' w∧zt φ (fzV (sz ty) (mx.isSome||(full&&hi.isNone)) (l'.map (wS ty))) v':=by
 obtain ⟨p,q,e1,e2,e3,e4,e5⟩:=zDs (ρ:=ρ) ha hb hc hhi h
 have hlen:((l.map (wS ty)).toArray).size=l.length:=by simp
 have hext:((l.map (wS ty)).toArray).extract p q=(l'.map (wS ty)).toArray:=by
  apply Array.ext'
  rw [e4]
  simp [List.drop_take,List.map_drop,List.map_take]
 have hes:Zi (fzV (sz ty) full (l.map (wS ty)))=some (sz ty,(l.map (wS ty)).toArray,full):=by cases full<;>simp [fzV,Zi]
 have key:∃f2,zim P t (fzV (sz ty) full (l.map (wS ty))) (lo.map (den ρ)) (hi.map (den ρ)) (mx.map (den ρ))=some (fzV (sz ty) f2 (l'.map (wS ty)))∧((mx.isSome||(full&&hi.isNone))=true→f2=true):=by
  unfold zim
  simp only [hes,hu,hie,hlen,e1,hsz,if_true]
  cases mx with
  |some m=>exact ⟨true,by simp [Nat.beq_refl,hext,fzV],fun _=>rfl⟩
  |none=>
   simp only [Option.map_none,Option.isSome_none,Bool.false_or]
   cases hf:(full&&Nat.beq q l.length) with
   |true=>exact ⟨true,by simp only [if_true];simp only [hext,fzV,cond_true],fun _=>rfl⟩
   |false=>
    refine ⟨false,by simp only [Bool.false_eq_true,if_false];simp only [hext,fzV,cond_false],fun h=>?_⟩
    simp only [Bool.and_eq_true] at h
    obtain ⟨h4,h5⟩:=h
    have:hi=none:=by cases hi<;>simp at h5 ⊢
    rw [h4,e5 this,Nat.beq_refl] at hf
    cases hf
 obtain ⟨f2,h4,h5⟩:=key
 obtain ⟨v',r1,r2⟩:=zrR h4 hx h1 h2 h3 w
 refine ⟨v',r1,?_⟩
 cases hcase:(mx.isSome||(full&&hi.isNone)) with
 |true=>rw [h5 hcase] at r2;exact r2
 |false=>exact zvX r2
def zyE (P:Program) (tm:List SV) (H:SH) (nx:Nat) (t:TypeId) (x:Operand) (lo hi mx:Option Operand) (k:KO R):Option R:=
 match jY tm H x,zoo tm H lo,zoo tm H hi,zoo tm H mx with
 |some v,some lo,some hi,some mx=>match jl P t,GG lo,GG hi,GG mx with
  |some (.slice e),some a,some b,some c=>bif (!mx.isSome||hi.isSome) then match v with
   |.lst ty l full=>bif Kq P e (sz ty) then opt (XO l a b c) fun l'=>k (.lst ty l' (mx.isSome||(full&&hi.isNone))) H nx else none
   |.own bl=>match zn H bl with
    |some (.arr nn ty l)=>bif Kq P e (sz ty)&&Nat.blt 0 (sz ty) then opt (XO l a b c) fun l'=>k (.lst ty l' mx.isSome) (yd H bl (.fro nn ty l)) nx else none
    |_=>none
   |_=>none
   else none
  |_,_,_,_=>none
 |_,_,_,_=>none
theorem zDt {rd:Option Nat} {o:Oper} {tm:List SV} {H:SH} {nx:Nat} {k:KO R} {r:R} {t:TypeId} {x:Operand} {lo hi mx:Option Operand} (ho:o.op=.slice t x lo hi mx) (h:zyE P tm H nx t x lo hi mx k=some r):Zr P rd o tm H nx k r:=by
 unfold zyE at h
 split at h
 case h_2=>cases h
 rename_i v lo1 hi1 mx1 hx hlo hhi hmx
 split at h
 case h_2=>cases h
 rename_i e a b c hu ha hb hc
 have h6:=zE h
 clear h
 obtain ⟨hh,h⟩:=h6
 have hhi2:mx1.isSome=true→hi1.isSome=true:=fun h1=>by simpa [h1] using hh
 split at h
 ·rename_i ty l full
  obtain ⟨h1,h⟩:=zE h
  obtain ⟨l',hl,h⟩:=Jk h
  obtain ⟨ie,hie,hsz⟩:=Yk h1
  refine uT ⟨wJ.refl H,wR.refl H,Nat.le_refl _,fun ν hv=>⟨hv,?_⟩⟩ h
  refine XN (Nat.le_refl _) (fun c hc=>by rw [ho] at hc;cases hc) fun φ w K ac g hf ht=>?_
  have hxr:=qf ht (qc hx ν)
  simp only [den] at hxr
  obtain ⟨v',r1,r2⟩:=zvY hu hie hsz ha hb hc hhi2 hl hxr (Qt ht (zan hlo ν)) (Qt ht (zan hhi ν)) (Qt ht (zan hmx ν)) w
  unfold execOp
  simp only [ho]
  exact Ran.op (Ran.same g ⟨v',r1,by simpa only [den] using r2⟩)
 ·rename_i bl
  split at h
  case h_2=>cases h
  rename_i nn ty l hbl
  obtain ⟨h1,h⟩:=zE h
  simp only [Bool.and_eq_true] at h1
  obtain ⟨l',hl,h⟩:=Jk h
  obtain ⟨ie,hie,hsz⟩:=Yk h1.1
  have hg:=zaL hbl
  refine uT ⟨hg.1.regLe,hg.1.lkeep,Nat.le_refl _,fun ν hv=>⟨hg.1.vn hv,zjF hg ?_⟩⟩ h
  refine XN (Nat.le_refl _) (fun c hc=>by rw [ho] at hc;cases hc) fun φ w K ac g hf ht=>?_
  have hxr:=qf ht (qc hx ν)
  simp only [den] at hxr
  rw [←hg.1.rho ν] at hxr
  have hb2:zn (yd H bl (.fro nn ty l)) bl=some (.fro nn ty l):=by rw [qZ,if_pos rfl,hbl];rfl
  have hxr:=ziy g (hg.1.vn hv) hb2 (zui h1.2) hxr
  obtain ⟨v',r1,r2⟩:=zvY hu hie hsz ha hb hc hhi2 hl hxr (Qt ht (zan hlo ν)) (Qt ht (zan hhi ν)) (Qt ht (zan hmx ν)) w
  unfold execOp
  simp only [ho]
  exact Ran.op (Ran.same g ⟨v',r1,by simpa only [den,Bool.false_and,Bool.or_false] using r2⟩)
 ·cases h
def zEY (P:Program) (tm:List SV) (H:SH) (nx:Nat) (t:TypeId) (x:Operand) (k:KO R):Option R:=match jY tm H x,jl P t with
 |some (.own b),some (.slice _)=>match reg (zn H b) with
  |some (n,_)=>k (.int .i64 n) H (nx+1)
  |none=>none
 |_,_=>none
theorem zGH {rd:Option Nat} {o:Oper} {tm:List SV} {H:SH} {nx:Nat} {k:KO R} {r:R} {t:TypeId} {x:Operand} (ho:o.op=.call {callee:=.builtin .len,args:=#[x],argTypes:=#[t]}) (h:zEY P tm H nx t x k=some r):Zr P rd o tm H nx k r:=by
 unfold zEY at h
 split at h
 case h_2=>cases h
 rename_i b e hx hu
 split at h
 case h_2=>cases h
 rename_i n s hr
 refine uT ⟨wJ.refl H,wR.refl H,Nat.le_succ _,fun ν hv=>⟨hv.later (Nat.le_succ _),gm ?_⟩⟩ h
 have h1:=qc hx ν
 unfold wG
 simp only [ho,zaF,h1,Option.bind_some]
 have hlen:zaH P t (den (rho ν H) (.own b))=some (goInt n):=by
  simp only [den,rho,hr]
  cases s with
  |succ s=>simp [zaH,hu]
  |zero=>
   have:=hv.empty b n hr
   subst this
   simp [zaH,hu]
 simp only [QP,hlen]
 simp [un1,den,goInt]
def zr5 {α:Type}:List α→Bool
 |[]=>false
 |_::_=>true
def zA8 (tm:List SV) (H:SH) (x y:Operand):Bool:=match jY tm H x,jY tm H y with
 |some (.lst _ _ _),some .nils=>true
 |_,_=>false
def zB8 (P:Program) (tm:List SV) (H:SH) (nx:Nat) (op:BinOp) (t:TypeId) (x y:Operand) (k:KO R):Option R:=match jY tm H x,jY tm H y,jl P t with
 |some (.lst ty l full),some .nils,some (.slice _)=>bif zr5 l then (match op with
   |.eql=>k (.bool false) H (nx+1)
   |.neq=>k (.bool true) H (nx+1)
   |_=>none)
  else none
 |_,_,_=>none
theorem zEZ {rd:Option Nat} {o:Oper} {tm:List SV} {H:SH} {nx:Nat} {k:KO R} {r:R} {op:BinOp} {t u:TypeId} {x y:Operand} (ho:o.op=.binOp op t x y u) (h:zB8 P tm H nx op t x y k=some r):Zr P rd o tm H nx k r:=by
 unfold zB8 at h
 split at h
 case h_2=>cases h
 rename_i ty l full e hx hy hu
 obtain ⟨hc,h⟩:=zE h
 have key:∀b,(op=.eql∧b=false∨op=.neq∧b=true)→k (.bool b) H (nx+1)=some r→Zr P rd o tm H nx k r:=by
  intro b hb h
  refine uT ⟨wJ.refl H,wR.refl H,Nat.le_succ _,fun ν hv=>⟨hv.later (Nat.le_succ _),?_⟩⟩ h
  refine XN (Nat.le_succ _) (fun c hc=>by rw [ho] at hc;cases hc) fun φ w K ac g hf ht=>?_
  have hxr:=qf ht (qc hx ν)
  have hyr:=qf ht (qc hy ν)
  simp only [den] at hxr hyr
  generalize hx':ac.eval x=x' at *
  generalize hy':ac.eval y=y' at *
  cases hyr
  obtain ⟨sa,c,e1,e2⟩:=zai (s:=sz ty) (es:=(l.map (wS ty)).toArray) (full:=full) (by unfold fzV Zi;cases full<;>rfl) hxr
  cases l with
  |nil=>cases hc
  |cons z l=>
  obtain ⟨b0,o0,L,rfl,_⟩:=e2.some_ (by simp)
  subst e1
  have he:=zrP (P:=P) (t:=t) (d:=.slice e) (a:=.slice (some ⟨b0,o0,none⟩) ((z::l).map (wS ty)).toArray.size c) (b:=.slice none 0 0) (r:=false) (by rw [←jD];exact hu) rfl rfl w
  unfold execOp
  simp only [ho]
  rw [hx',hy']
  generalize ((z::l).map (wS ty)).toArray.size=m at he ⊢
  refine Ran.op (Ran.same1 g ⟨.bool b,?_,by simp only [den];exact .bool b⟩)
  rcases hb with ⟨rfl,rfl⟩ | ⟨rfl,rfl⟩
  ·simp [eqGuard,binOp,he]
  ·simp [eqGuard,binOp,he]
 split at h
 ·exact key _ (.inl ⟨rfl,rfl⟩) h
 ·exact key _ (.inr ⟨rfl,rfl⟩) h
 ·cases h
def UU:(t:Ty)→T t
 |.unit=>()
 |.bool=>false
 |.int _=>0
 |.str=>ByteArray.empty
 |.list _=>[]
 |.pair a b=>(UU a,UU b)
def UK:(t:Ty)→List Value→Option (List Value)
 |.unit,cs=>some cs
 |.bool,cs=>match cs with
  |.bool false::r=>some r
  |_=>none
 |.int k,cs=>match cs with
  |.int k' z::r=>bif Yi k k'&&zi z 0 then some r else none
  |_=>none
 |.str,cs=>match cs with
  |.string s::r=>bif Nat.beq s.size 0 then some r else none
  |_=>none
 |.list _,cs=>match cs with
  |.slice none 0 0::r=>some r
  |_=>none
 |.pair a b,cs=>match UK a cs with
  |some r=>UK b r
  |none=>none
theorem zmt:∀(t:Ty) {cs r:List Value},UK t cs=some r→∃c,cs=c++r∧c.length=sz t∧avL c=true∧∀(φ:Ren) us,zD φ c us→zD φ (qv t (UU t)) us
 |.unit,cs,r,h=>by
  simp only [UK,Option.some.injEq] at h
  subst h
  exact ⟨[],rfl,rfl,rfl,fun φ us h=>h⟩
 |.bool,cs,r,h=>by
  simp only [UK] at h
  split at h
  ·cases h;exact ⟨[.bool false],rfl,rfl,rfl,fun φ us h=>h⟩
  ·cases h
 |.int k,cs,r,h=>by
  simp only [UK] at h
  split at h
  ·obtain ⟨h1,h2⟩:=zE h
   cases h2
   simp only [Bool.and_eq_true] at h1
   have e1:=Wd h1.1
   have e2:=h1.2
   rw [jT] at e2
   simp only [beq_iff_eq] at e2
   subst e1;subst e2
   exact ⟨[.int k 0],rfl,rfl,rfl,fun φ us h=>h⟩
  ·cases h
 |.str,cs,r,h=>by
  simp only [UK] at h
  split at h
  ·rename_i s r'
   obtain ⟨h1,h2⟩:=zE h
   cases h2
   have e1:=Nat.eq_of_beq_eq_true h1
   have:s=ByteArray.empty:=by
    obtain ⟨d⟩:=s
    have:d=#[]:=Array.eq_empty_of_size_eq_zero e1
    subst this;rfl
   subst this
   exact ⟨[.string ByteArray.empty],rfl,rfl,rfl,fun φ us h=>h⟩
  ·cases h
 |.list t,cs,r,h=>by
  simp only [UK] at h
  split at h
  ·cases h
   refine ⟨[.slice none 0 0],rfl,rfl,rfl,fun φ us h=>?_⟩
   match us,h with
   |[],h=>exact h.elim
   |u::us,h=>
    refine ⟨?_,h.2⟩
    have h1:=h.1
    cases h1
    exact .fz0 _ _ _
  ·cases h
 |.pair a b,cs,r,h=>by
  simp only [UK] at h
  split at h
  case h_2=>cases h
  rename_i r1 h1
  obtain ⟨c1,rfl,l1,a1,z1⟩:=zmt a h1
  obtain ⟨c2,rfl,l2,a2,z2⟩:=zmt b h
  have happ:∀(a b:List Value),avL a=true→avL b=true→avL (a++b)=true:=by
   intro a b h2 h3
   induction a with
   |nil=>exact h3
   |cons x a ih=>simp only [avL,List.cons_append,Bool.and_eq_true] at h2 ⊢;exact ⟨h2.1,ih h2.2⟩
  refine ⟨c1++c2,by simp,by simp [sz,l1,l2],happ _ _ a1 a2,fun φ us h=>?_⟩
  have hlen:=h.length
  rw [List.length_append] at hlen
  have h3:=h.take c1.length
  have h4:=h.drop c1.length
  rw [List.take_left] at h3
  rw [List.drop_left] at h4
  have:=(z1 φ _ h3).append (z2 φ _ h4)
  rw [List.take_append_drop] at this
  exact this
def ze2 (P:Program) (e:TypeId) (ty:Ty):Bool:=match jo P e with
 |some i=>match i.zero with
  |some z=>match UK ty z.cells.toList with
   |some []=>Nat.blt 0 i.size&&Nat.beq (sz ty) i.size
   |_=>false
  |none=>false
 |none=>false
theorem zjH {e:TypeId} {ty:Ty} (h:ze2 P e ty=true):∃i z,P.info? e=some i∧i.zero=some z∧z.cells.size=i.size∧0 < i.size∧sz ty=i.size∧avL z.cells.toList=true∧∀(φ:Ren) us,zD φ z.cells.toList us→zD φ (qv ty (UU ty)) us:=by
 unfold ze2 at h
 split at h
 case h_2=>cases h
 rename_i i hi
 split at h
 case h_2=>cases h
 rename_i z hz
 split at h
 case h_2=>cases h
 rename_i hc
 simp only [Bool.and_eq_true] at h
 have e2:=zdh h.1
 have e3:=Nat.eq_of_beq_eq_true h.2
 rw [jw] at hi
 obtain ⟨c,h1,h2,h3,h4⟩:=zmt ty hc
 rw [List.append_nil] at h1
 refine ⟨i,z,hi,hz,?_,e2,e3,by rw [h1];exact h3,fun φ us h=>h4 φ us (by rw [←h1];exact h)⟩
 have:=congrArg List.length h1
 rw [h2,e3] at this
 simpa using this
def zmu (P:Program):Nat→TypeId→Option Ty
 |0,_=>none
 |n+1,t=>match jl P t with
  |some .bool=>some .bool
  |some (.int k)=>some (.int k)
  |some .string=>some .str
  |some (.slice e)=>match zmu P n e with
   |some a=>some (.list a)
   |none=>none
  |some (.struct fields)=>fields.toList.foldr (fun f acc=>match zmu P n f.type,acc with
   |some a,some b=>some (match b with | .unit=>a | b=>.pair a b)
   |_,_=>none) (some .unit)
  |some (.array m e)=>match zmu P n e with
   |some a=>(List.replicate m a).foldr (fun a acc=>match acc with
    |some b=>some (match b with | .unit=>a | b=>.pair a b)
    |none=>none) (some .unit)
   |none=>none
  |_=>none
theorem zmv {ν:Nat→Bool} {H:SH} {nx:Nat} {k:SB} (hn:zn H nx=none) (hx:qa (rho ν ((nx,k)::H)) (ν nx) k=none) (g:zI φ (zH ν H) K w):zI φ (zH ν ((nx,k)::H)) K w:=by
 have h1:RLe (rho ν H) (rho ν ((nx,k)::H)):=zfp ν (kR hn)
 have g1:zI φ (ka ν (rho ν ((nx,k)::H)) H) K w:=zyt (gn ν H) h1 g
 refine g1.sub fun c x hc=>?_
 rw [zU,zK] at hc
 by_cases hb:nx=c
 ·subst hb
  rw [if_pos rfl] at hc
  simp only [Option.bind_some] at hc
  rw [hx] at hc;cases hc
 ·rw [if_neg hb] at hc
  rw [vK];exact hc
theorem UL {ν:Nat→Bool} {H:SH} {nx:Nat} {nn:Bool} {ty:Ty} {l:List (T ty)} (hn:zn H nx=none) (hv:VN ν nx H) (g:zI φ ((nx,.cells (qb ty l) false)::zH ν H) K w):zI φ (zH ν ((nx,.arr nn ty l)::H)) K w:=by
 cases h:wb nn l with
 |false=>exact zap hn (x:=.cells (qb ty l) false) (by simp [qa,h]) g
 |true=>
  refine zmv hn (by simp [qa,h]) (g.sub fun c k hc=>?_)
  have:(nx == c)=false:=by
   rw [beq_eq_false_iff_ne]
   rintro rfl
   rw [zU,hn] at hc;cases hc
  simp [Hp.get_cons,this,hc]
theorem zaN {ν:Nat→Bool} {H:SH} {nx:Nat} {nn:Bool} {ty:Ty} {l:List (T ty)} (hv:VN ν nx H) (hl:wb nn l=false):rho ν ((nx,.arr nn ty l)::H) nx=.slice (some ⟨nx,0,none⟩) l.length (ql+sz ty):=by
 rw [YM ν (nn:=nn) (t:=ty) (l:=l) (by rw [zK,if_pos rfl];rfl),hl]
 rfl
theorem zr6 {ν:Nat→Bool} {H:SH} {nx:Nat} {nn:Bool} {ty:Ty} {l:List (T ty)} (hl:wb nn l=true):rho ν ((nx,.arr nn ty l)::H) nx=.slice none 0 0:=by
 rw [YM ν (nn:=nn) (t:=ty) (l:=l) (by rw [zK,if_pos rfl];rfl),hl]
 rfl
theorem zAD {H:Hp} {b:Nat} {cs ds:List Value} (g:zI φ ((b,.cells cs false)::H) K w) (h:∀us,zD φ cs us→zD φ ds us) (hl:ds.length=cs.length):zI φ ((b,.cells ds false)::H) K w:=by
 have hget:∀c k,Hp.get ((b,Blk.cells ds false)::H) c=some k→(c=b∧k=.cells ds false∧Hp.get ((b,Blk.cells cs false)::H) c=some (.cells cs false))∨(c≠b∧Hp.get ((b,Blk.cells cs false)::H) c=some k):=by
  intro c k hc
  by_cases hcb:b=c
  ·subst hcb;simp [Hp.get_cons] at hc;exact .inl ⟨rfl,hc.symm,by simp [Hp.get_cons]⟩
  ·simp [Hp.get_cons,hcb] at hc;exact .inr ⟨fun e=>hcb e.symm,by simp [Hp.get_cons,hcb,hc]⟩
 refine ⟨fun c k hc=>?_,fun c d k k' L L' hc hd hne hkr hL hL'=>?_,fun c k L hc hkr hL=>?_,g.kin,g.fz,fun c k L e M hc hkr hL hM=>?_⟩
 ·rcases hget c k hc with ⟨rfl,rfl,h1⟩ | ⟨_,h1⟩
  ·obtain ⟨L,hL,arr,el,fr,e1,e2,e3⟩:=g.rel c _ h1
   have hex:∀j,j < cs.length→∃v',arr[L.off+j]?=some v':=fun j hj=>by
    obtain ⟨v',h2,_⟩:=e2 j cs[j] (by simp)
    exact ⟨v',h2⟩
   have hus:zD φ cs ((List.range cs.length).map fun j=>arr[L.off+j]?.getD undef):=by
    refine zD.of_get (by simp) fun i v v' hv hv'=>?_
    obtain ⟨u,h2,h3⟩:=e2 i v hv
    have hi:i < cs.length:=(List.getElem?_eq_some_iff.1 hv).1
    simp [hi,h2] at hv'
    subst hv';exact h3
   refine ⟨L,hL,arr,el,fr,e1,fun j v hv=>?_,e3⟩
   have hj:j < cs.length:=by have:=(List.getElem?_eq_some_iff.1 hv).1;omega
   obtain ⟨v',h2⟩:=hex j hj
   obtain ⟨u,h3,h4⟩:=(h _ hus).get hv
   simp [hj,h2] at h3
   subst h3
   exact ⟨_,h2,h4⟩
  ·exact g.rel c k h1
 ·rcases hget c k hc with ⟨rfl,rfl,h1⟩ | ⟨_,h1⟩
  ·rcases hget d k' hd with ⟨rfl,_⟩ | ⟨_,h2⟩
   ·exact absurd rfl hne
   ·exact g.sep c d _ k' L L' h1 h2 hne rfl hL hL'
  ·rcases hget d k' hd with ⟨rfl,rfl,h2⟩ | ⟨_,h2⟩
   ·exact g.sep c d k _ L L' h1 h2 hne hkr hL hL'
   ·exact g.sep c d k k' L L' h1 h2 hne hkr hL hL'
 ·rcases hget c k hc with ⟨rfl,rfl,h1⟩ | ⟨_,h1⟩
  ·exact g.prot c _ L h1 rfl hL
  ·exact g.prot c k L h1 hkr hL
 ·rcases hget c k hc with ⟨rfl,rfl,h1⟩ | ⟨_,h1⟩
  ·exact g.fsep c _ L e M h1 rfl hL hM
  ·exact g.fsep c k L e M h1 hkr hL hM
def zhM (zl zc:Int) (bytes:Nat):Bool:=!zh zl 0&&(!zh zc zl&&!zh 281474976710656 ((bytes:Int)*zc))
def zB9 (P:Program) (tm:List SV) (H:SH) (nx:Nat) (t:TypeId) (l c:Operand) (k:KO R):Option R:=match jY tm H l,jY tm H c with
 |some (.int _ zl),some (.int _ zc)=>match jl P t with
  |some (.slice e)=>match jo P e,zmu P 20 e with
   |some ie,some ty=>bif ze2 P e ty&&Nat.blt 0 ie.bytes then match YN H nx (.arr true ty (List.replicate zl.toNat (UU ty))) with
     |some H'=>bif zhM zl zc ie.bytes then k (.own nx) H' (nx+1) else none
     |none=>none
    else none
   |_,_=>none
  |_=>none
 |_,_=>none
theorem zr7 (ty:Ty) (x:T ty) (n:Nat):qb ty (List.replicate n x)=(List.replicate n (qv ty x)).flatten:=by
 induction n with
 |zero=>rfl
 |succ n ih=>
  rw [List.replicate_succ,List.replicate_succ,List.flatten_cons,←ih];rfl
theorem ziA {a b:List Value} (h:∀us,zD φ a us→zD φ b us) (hl:b.length=a.length):∀(n:Nat) us,zD φ (List.replicate n a).flatten us→zD φ (List.replicate n b).flatten us
 |0,us,hr=>hr
 |n+1,us,hr=>by
  rw [List.replicate_succ,List.flatten_cons] at hr ⊢
  have h3:=hr.take a.length
  have h4:=hr.drop a.length
  rw [List.take_left] at h3
  rw [List.drop_left] at h4
  have:=(h _ h3).append (ziA h hl n _ h4)
  rw [List.take_append_drop] at this
  exact this
theorem zE0 {rd:Option Nat} {o:Oper} {tm:List SV} {H:SH} {nx:Nat} {k:KO R} {r:R} {t:TypeId} {l c:Operand} (ho:o.op=.makeSlice t l c) (h:zB9 P tm H nx t l c k=some r):Zr P rd o tm H nx k r:=by
 unfold zB9 at h
 split at h
 case h_2=>cases h
 rename_i kl zl kc zc hl hc
 split at h
 case h_2=>cases h
 rename_i e hu
 split at h
 case h_2=>cases h
 rename_i ie ty hie hty
 have h6:=zE h
 clear h
 obtain ⟨hh,h⟩:=h6
 simp only [Bool.and_eq_true] at hh
 split at h
 case h_2=>cases h
 rename_i H1 hn
 have h6:=zE h
 clear h
 obtain ⟨hm,h⟩:=h6
 obtain ⟨hn1,rfl⟩:=uK hn
 obtain ⟨ie',z,e1,e2,e3,e4,e5,e6,e7⟩:=zjH hh.1
 rw [jw] at hie
 rw [jD] at hu
 rw [hie] at e1;cases e1
 have hbp:=zdh hh.2
 simp only [zhM,Bool.and_eq_true,Bool.not_eq_true',xO,decide_eq_false_iff_not,Int.not_lt] at hm
 obtain ⟨m1,m2,m3⟩:=hm
 have hzc:zc≤281474976710656:=by
  have:(1:Int)*zc≤(ie.bytes:Int)*zc:=Int.mul_le_mul_of_nonneg_right (by omega) (by omega)
  omega
 refine uT ⟨kR hn1,gX hn1,Nat.le_succ _,fun ν hv=>⟨YO hv,?_⟩⟩ h
 refine XN (Nat.le_succ _) (fun c hc=>by rw [ho] at hc;cases hc) fun φ w K a g hf ht=>?_
 have hl':=qf ht (qc hl ν)
 have hc':=qf ht (qc hc ν)
 simp only [den] at hl' hc'
 unfold execOp
 simp only [ho]
 generalize a.eval l=ul at hl'
 generalize a.eval c=uc at hc'
 cases hl'
 cases hc'
 have hfr:=hf.at (Nat.le_refl nx) (Nat.lt_succ_self nx)
 obtain ⟨v',w',φ',r1,r2,r3,r4,r5⟩:=zAC (P:=P) (kl:=kl) (kc:=kc) g hfr.1 hfr.2 hu hie e2 (Go.IntWalk.i64_in _ (by omega)) (Go.IntWalk.i64_in _ (by omega)) m1 m2 m3 (by omega) e3 e6 rfl
 refine Ran.op ⟨v',w',φ',r1,?_,r3,?_,r5,Nat.le_succ _⟩
 ·simp only [den]
  rw [zaN hv rfl,List.length_replicate,e5]
  exact r2
 ·refine UL hn1 hv ?_
  refine zAD r4 ?_ ?_
  ·rw [zr7]
   exact ziA (e7 φ') (by rw [jP,e5,Array.length_toList,e3]) _
  ·rw [WM,List.length_replicate,e5]
   simp [e3]
theorem zyF {s:Nat}:∀(us:List Value) (j:Nat) (arr:Array Value),(∀u∈us,u.cells.size=s)→arr.size=(j+us.length)*s→
  Instr.fill (fun i=>some (i*s,s)) arr ((us.zipIdx j).map fun p=>(p.2,p.1))=some (arr.toList.take (j*s)++us.flatMap fun u=>u.cells.toList).toArray
 |[],j,arr,_,hl=>by
  simp only [List.zipIdx_nil,List.map_nil,Instr.fill,List.flatMap_nil,List.append_nil,Option.some.injEq]
  apply Array.ext'
  rw [List.take_of_length_le (by simp at hl ⊢;omega)]
 |u::us,j,arr,hu,hl=>by
  have h1:=hu u (by simp)
  have hl2:arr.size=j*s+s+us.length*s:=by
   rw [hl,List.length_cons,Nat.add_mul,Nat.add_mul];omega
  simp only [List.zipIdx_cons,List.map_cons,Instr.fill]
  rw [if_neg (by simp [h1];omega)]
  have hf:=zms u.cells.toList 0 (j*s) arr (by simp [h1];omega)
  rw [←Array.foldl_toList,Array.toList_zipIdx]
  rw [zyF us (j+1) _ (fun x hx=>hu x (by simp [hx])) (by
   have:=congrArg List.length hf
   rw [zBC _ _ _ (by simp [h1];omega)] at this
   simp only [Array.length_toList] at this
   rw [this,hl2,Nat.add_mul,Nat.add_mul];omega)]
  rw [hf,List.flatMap_cons,←List.append_assoc]
  congr 3
  unfold spl
  have e1:(j+1)*s=j*s+s:=by rw [Nat.add_mul,Nat.one_mul]
  rw [List.take_left' (by simp [h1];omega),Nat.add_zero]
def zyG (vt:VT):List (Nat×SV)→Nat→SH→Option (List (T vt.ty)×SH)
 |[],_,H=>some ([],H)
 |(j,v)::r,i,H=>bif Nat.beq i j then match cvV vt v H with
  |some (x,H1)=>match zyG vt r (i+1) H1 with
   |some (xs,H2)=>some (x::xs,H2)
   |none=>none
  |none=>none
  else none
theorem zA9 {vt:VT}:∀{ps:List (Nat×SV)} {i:Nat} {H H':SH} {xs:List (T vt.ty)},zyG vt ps i H=some (xs,H')→xR H H'∧xs.length=ps.length∧
  ∀
   ν G,GLe H' G→∀(φ:Ren) (K:Nat→Prop) (w:World) (nx:Nat) (qs:List (Nat×Value)),zI φ (zH ν G) K w→VN ν nx G→zp5 φ (ps.map fun p=>(p.1,den (rho ν H) p.2)) qs→
   ∃us:List Value,qs=(us.zipIdx i).map (fun p=>(p.2,p.1))∧us.length=xs.length∧∀(j:Nat) u x,us[j]?=some u→xs[j]?=some x→zt φ (den (fun _=>bad) (mkV vt x)) u
 |[],i,H,H',xs,h=>by
  simp only [zyG,Option.some.injEq,Prod.mk.injEq] at h
  obtain ⟨rfl,rfl⟩:=h
  refine ⟨xR.refl _,rfl,fun ν G hG φ K w nx qs g hv hp=>?_⟩
  cases qs with
  |nil=>exact ⟨[],rfl,rfl,fun j u x h=>by simp at h⟩
  |cons q qs=>exact hp.elim
 |(j0,v)::r,i,H,H',xs,h=>by
  simp only [zyG] at h
  have h6:=zE h
  clear h
  obtain ⟨hb,h⟩:=h6
  have hj:=Nat.eq_of_beq_eq_true hb
  clear hb
  subst hj
  split at h
  case h_2=>cases h
  rename_i x H1 h1
  split at h
  case h_2=>cases h
  rename_i ys H2 h2
  cases h
  obtain ⟨g1,r1⟩:=zrZ h1
  obtain ⟨g2,l2,r2⟩:=zA9 h2
  refine ⟨g1.trans g2,by simp [l2],fun ν G hG φ K w nx qs g hv hp=>?_⟩
  cases qs with
  |nil=>exact hp.elim
  |cons q qs=>
   obtain ⟨e1,e2,e3⟩:=hp
   obtain ⟨q1,q2⟩:=q
   dsimp only at e1 e2
   subst e1
   rw [←g1.1.rho ν] at e3
   obtain ⟨us,f1,f2,f3⟩:=r2 ν G hG φ K w nx qs g hv e3
   have f4:=r1 ν G (g2.1.trans hG) φ K w nx q2 g hv e2 (fun _=>bad)
   refine ⟨q2::us,by simp [f1],by simp [f2],fun j u y hu hy=>?_⟩
   cases j with
   |zero=>simp at hu hy;subst hu;subst hy;exact f4
   |succ j=>simp at hu hy;exact f3 j u y hu hy
theorem zDu {vt:VT} {x:T vt.ty} {u:Value} (hagg:vt.agg=false→sz vt.ty=1) (h:zt φ (den (fun _=>bad) (mkV vt x)) u):zD φ (qv vt.ty x) u.cells.toList:=by
 obtain ⟨ag,ty⟩:=vt
 cases ag with
 |true=>
  simp only [mkV,cond_true,den] at h
  obtain ⟨ys,rfl,hl⟩:=h.agg_inv
  simpa [qD,yC,Value.cells] using hl
 |false=>
  simp only [mkV,cond_false] at h
  have h1:=XL ty x
  rw [hagg rfl] at h1
  have h2:=yC (fun _=>bad) ty x
  match he:yR ty x,h1 with
  |[v],_=>
   rw [he] at h h2
   simp only [mk1,List.map_cons,List.map_nil] at h h2
   rw [←h2]
   have h3:=h.one
   have h4:(den (fun _=>bad) v).oneCell'=true:=by
    have:∀(t:Ty) (y:T t) (c:Value),c∈qv t y→c.oneCell'=true:=by
     intro t
     induction t with
     |unit=>intro y c hc;simp [qv] at hc
     |bool=>intro y c hc;simp [qv] at hc;subst hc;rfl
     |int k=>intro y c hc;simp [qv] at hc;subst hc;rfl
     |str=>intro y c hc;simp [qv] at hc;subst hc;rfl
     |list t ih=>intro y c hc;simp [qv] at hc;subst hc;rfl
     |pair a b iha ihb=>
      intro y c hc
      simp only [qv,List.mem_append] at hc
      rcases hc with hc | hc
      ·exact iha _ _ hc
      ·exact ihb _ _ hc
    refine this ty x _ ?_
    rw [←h2];simp
   rw [zl6 (by rw [h3];exact h4)]
   exact ⟨h,trivial⟩
theorem zvZ {ty:Ty}:∀{xs:List (T ty)} {us:List Value},us.length=xs.length→(∀(j:Nat) u x,us[j]?=some u→xs[j]?=some x→zD φ (qv ty x) u.cells.toList)→zD φ (qb ty xs) (us.flatMap fun u=>u.cells.toList)
 |[],[],_,_=>trivial
 |x::xs,u::us,hl,h=>by
  have h1:=h 0 u x rfl rfl
  have h2:=zvZ (xs:=xs) (us:=us) (by simpa using hl) fun j u x hu hx=>h (j+1) u x (by simpa using hu) (by simpa using hx)
  simp only [List.flatMap_cons]
  exact h1.append h2
 |[],_::_,hl,_=>by simp at hl
 |_::_,[],hl,_=>by simp at hl
def zE1 (P:Program) (tm:List SV) (H:SH) (nx:Nat) (t:TypeId) (n:Nat) (ps:List (Nat×Operand)) (k:KO R):Option R:=match zdj tm H ps,jl P t with
 |some vs,some (.slice e)=>match jo P e,zmu P 20 e,jl P e with
  |some ie,some ty,some d=>bif Nat.beq n vs.length&&(Nat.ble (n*ie.size) 16777216&&(ze2 P e ty&&(JZ d||Nat.beq (sz ty) 1))) then
    match zyG ⟨JZ d,ty⟩ vs 0 H with
    |some (xs,H1)=>match YN H1 nx (.arr true ty xs) with
     |some H2=>k (.own nx) H2 (nx+1)
     |none=>none
    |none=>none
   else none
  |_,_,_=>none
 |_,_=>none
theorem zCa {tm:List SV} {H:SH} {ν:Nat→Bool} {a:Act} (ht:qX φ (zu (rho ν H) tm) a.tmps) {ps:List (Nat×Operand)} {vs:List (Nat×SV)} (h:zdj tm H ps=some vs):zp5 φ (vs.map fun p=>(p.1,den (rho ν H) p.2)) (ps.map fun p=>(p.1,a.eval p.2)):=
 zeQ ht (ze0 ν h)
theorem zGI {rd:Option Nat} {o:Oper} {tm:List SV} {H:SH} {nx:Nat} {k:KO R} {r:R} {t:TypeId} {n:Nat} {ps:Array (Nat×Operand)} (ho:o.op=.buildSlice t n ps) (h:zE1 P tm H nx t n ps.toList k=some r):Zr P rd o tm H nx k r:=by
 unfold zE1 at h
 split at h
 case h_2=>cases h
 rename_i vs e hvs hu
 split at h
 case h_2=>cases h
 rename_i ie ty d hie hty hd
 have h6:=zE h
 clear h
 obtain ⟨hh,h⟩:=h6
 simp only [Bool.and_eq_true,Bool.or_eq_true] at hh
 obtain ⟨c1,c2,c3,c4⟩:=hh
 have c1:=Nat.eq_of_beq_eq_true c1
 have c2:=Nat.le_of_ble_eq_true c2
 split at h
 case h_2=>cases h
 rename_i xs H1 hl
 split at h
 case h_2=>cases h
 rename_i H2 hn
 obtain ⟨hn1,rfl⟩:=uK hn
 obtain ⟨hg,hxl,hrel⟩:=zA9 hl
 obtain ⟨ie',z,e1,e2,e3,e4,e5,e6,e7⟩:=zjH c3
 rw [jw] at hie
 rw [jD] at hu
 rw [hie] at e1;cases e1
 have hxn:xs.length=n:=by rw [hxl,c1]
 refine uT ⟨hg.1.regLe.trans (kR hn1),hg.1.lkeep.trans (gX hn1),Nat.le_succ _,fun ν hv=>⟨YO (hg.1.vn hv),zjF hg ?_⟩⟩ h
 have hv1:=hg.1.vn hv
 refine XN (Nat.le_succ _) (fun c hc=>by rw [ho] at hc;cases hc) fun φ w K a g hf ht=>?_
 have hp:=zCa ht hvs
 obtain ⟨us,f1,f2,f3⟩:=hrel ν H1 (GLe.refl _) φ K w nx _ g hv1 hp
 have hcell:∀(j:Nat) u x,us[j]?=some u→xs[j]?=some x→zD φ (qv ty x) u.cells.toList:=fun j u x hu hx=>zDu (vt:=⟨JZ d,ty⟩) (fun hagg=>by
  dsimp only at hagg
  rw [hagg] at c4
  rcases c4 with c4 | c4
  ·cases c4
  ·exact Nat.eq_of_beq_eq_true c4) (f3 j u x hu hx)
 have hsize:∀u∈us,u.cells.size=ie.size:=fun u hu=>by
  obtain ⟨j,hj⟩:=List.getElem?_of_mem hu
  have hjl:j < xs.length:=by have:=(List.getElem?_eq_some_iff.1 hj).1;omega
  have:=(hcell j u xs[j] hj (by simp)).length
  rw [jP,e5] at this
  simpa using this.symm
 have hfr:=hf.at (Nat.le_refl nx) (Nat.lt_succ_self nx)
 have hrl:=zvZ f2 hcell
 have hlim:(us.flatMap fun u=>u.cells.toList).length=n*ie.size:=by
  rw [←hrl.length,WM,hxn,e5]
 have hg2:=g.make hfr.1 hfr.2 hrl e (n*ie.size) [] (by rw [hlim];omega)
 simp only [List.append_nil] at hg2
 unfold execOp
 simp only [ho]
 refine Ran.op ⟨.slice (some ⟨w.heap.size,0,none⟩) n n,w.alloc (.cells (us.flatMap fun u=>u.cells.toList).toArray e),φ.put nx ⟨w.heap.size,0,n*ie.size,#[]⟩,?_,?_,Ext.put hfr.1 hfr.2 _,UL hn1 hv1 hg2,qJ.alloc g _,Nat.le_succ _⟩
 ·have hq:ps.toList.map (fun p=>(p.1,a.eval p.2))=us.zipIdx.map fun p=>(p.2,p.1):=f1
  have hfill:∀arr:Array Value,arr.size=n*ie.size→Instr.fill (fun i=>some (i*ie.size,ie.size)) arr (us.zipIdx.map fun p=>(p.2,p.1))=some (us.flatMap fun u=>u.cells.toList).toArray:=fun arr ha=>by
   have:=zyF us 0 arr hsize (by rw [ha,Nat.zero_add,f2,hxn])
   simpa using this
  have h24:¬(n*ie.size > 2 ^ 24):=by omega
  by_cases h0:n*ie.size=0
  ·have:=hfill #[] (by simp [h0])
   simp [Instr.buildSlice,run_underlying hu,qK hie,h0,zl7,hq,this,newRow]
  ·have:=hfill ((Array.range (n*ie.size)).map (z.cells[· % z.cells.size]!)) (by simp)
   simp [Instr.buildSlice,run_underlying hu,qK hie,h0,ud hie e2,hq,newRow] at this h24 ⊢
   simp [h24,this]
 ·simp only [den]
  rw [zaN hv1 rfl,hxn,e5]
  have:=zt.slO (φ:=φ.put nx ⟨w.heap.size,0,n*ie.size,#[]⟩) nx 0 n (ql+ie.size) n _ (Ren.put_same _ _ _) (by omega) (Nat.le_refl _) (by simp)
  simpa using this
theorem zyH:∀(t:Ty) {l:List SV} {H:SH} {x:T t} {r:List SV} {H':SH},cvC t l H=some (x,r,H')→l.length=sz t+r.length∧(∀j,j+sz t < l.length→r[j]?=l[j+sz t]?)∧∀(y:T t) j,j < sz t→l[j]?=(yR t y)[j]?→(qv t x)[j]?=(qv t y)[j]?
 |.unit,l,H,x,r,H',h=>by
  simp only [cvC] at h
  cases h
  exact ⟨by simp [sz],fun j _=>by simp [sz],fun y j hj=>by simp [sz] at hj⟩
 |.bool,l,H,x,r,H',h=>by
  simp only [cvC] at h
  split at h
  ·cases h
   refine ⟨by simp [sz];omega,fun j _=>by simp [sz],fun y j hj hl=>?_⟩
   simp only [sz,Nat.lt_one_iff] at hj
   subst hj
   simp only [yR,List.getElem?_cons_zero,Option.some.injEq,SV.bool.injEq] at hl
   subst hl;rfl
  ·cases h
 |.int k,l,H,x,r,H',h=>by
  simp only [cvC] at h
  split at h
  ·obtain ⟨h1,h2⟩:=zE h
   cases h2
   refine ⟨by simp [sz];omega,fun j _=>by simp [sz],fun y j hj hl=>?_⟩
   simp only [sz,Nat.lt_one_iff] at hj
   subst hj
   simp only [yR,List.getElem?_cons_zero,Option.some.injEq,SV.int.injEq] at hl
   obtain ⟨_,rfl⟩:=hl;rfl
  ·cases h
 |.str,l,H,x,r,H',h=>by
  simp only [cvC] at h
  split at h
  ·cases h
   refine ⟨by simp [sz];omega,fun j _=>by simp [sz],fun y j hj hl=>?_⟩
   simp only [sz,Nat.lt_one_iff] at hj
   subst hj
   simp only [yR,List.getElem?_cons_zero,Option.some.injEq,SV.str.injEq] at hl
   subst hl;rfl
  ·cases h
 |.list t,l,H,x,r,H',h=>by
  simp only [cvC] at h
  split at h
  ·rename_i t' y0 full r'
   split at h
   ·rename_i ht
    subst ht
    cases h
    refine ⟨by simp [sz];omega,fun j _=>by simp [sz],fun y j hj hl=>?_⟩
    simp only [sz,Nat.lt_one_iff] at hj
    subst hj
    simp only [yR,List.getElem?_cons_zero,Option.some.injEq,SV.lst.injEq] at hl
    obtain ⟨_,h3,_⟩:=hl
    have:=eq_of_heq h3
    subst this
    rfl
   ·cases h
  ·cases h
   refine ⟨by simp [sz];omega,fun j _=>by simp [sz],fun y j hj hl=>?_⟩
   simp only [sz,Nat.lt_one_iff] at hj
   subst hj
   simp [yR] at hl
  ·split at h
   ·split at h
    ·obtain ⟨_,h2⟩:=zE h
     cases h2
     refine ⟨by simp [sz];omega,fun j _=>by simp [sz],fun y j hj hl=>?_⟩
     simp only [sz,Nat.lt_one_iff] at hj
     subst hj
     simp [yR] at hl
    ·cases h
   ·split at h
    ·obtain ⟨_,h2⟩:=zE h
     cases h2
     refine ⟨by simp [sz];omega,fun j _=>by simp [sz],fun y j hj hl=>?_⟩
     simp only [sz,Nat.lt_one_iff] at hj
     subst hj
     simp [yR] at hl
    ·cases h
   ·cases h
  ·cases h
 |.pair a b,l,H,x,r,H',h=>by
  simp only [cvC] at h
  split at h
  case h_2=>cases h
  rename_i x1 l1 H1 h1
  split at h
  case h_2=>cases h
  rename_i y l2 H2 h2
  cases h
  obtain ⟨e1,e2,e3⟩:=zyH a h1
  obtain ⟨f1,f2,f3⟩:=zyH b h2
  refine ⟨by simp only [sz];omega,fun j hj=>?_,fun y' j hj hl=>?_⟩
  ·simp only [sz] at hj ⊢
   rw [f2 j (by omega),e2 (j+sz b) (by omega)]
   congr 1;omega
  ·simp only [yR] at hl
   simp only [qv]
   by_cases hja:j < sz a
   ·rw [List.getElem?_append_left (by rw [XL];exact hja)] at hl
    rw [List.getElem?_append_left (by rw [jP];exact hja),List.getElem?_append_left (by rw [jP];exact hja)]
    exact e3 y'.1 j hja hl
   ·rw [List.getElem?_append_right (by rw [XL];omega),XL] at hl
    rw [List.getElem?_append_right (by rw [jP];omega),List.getElem?_append_right (by rw [jP];omega),jP,jP]
    simp only [sz] at hj
    refine f3 y'.2 (j - sz a) (by omega) ?_
    rw [e2 (j - sz a) (by omega)]
    rw [show j - sz a+sz a=j by omega]
    exact hl
def zCb (P:Program) (tm:List SV) (H:SH) (nx:Nat) (t:TypeId) (a x:Operand) (k:KO R):Option R:=match jY tm H a,jY tm H x with
 |some (.elp b s i off),some v=>match zn H b,jo P t with
  |some (.arr nn ty l),some inf=>bif Nat.beq s (sz ty)&&(zg6 v&&(zqk (Kp v) inf.size&&(zyv (Kp v)&&(Nat.ble (off+inf.size) (sz ty)&&Nat.blt 0 inf.size)))) then
    opt (gl l i) fun y=>match cvC ty (zmq (yR ty y) off (Kp v)) H with
     |some (y',[],H1)=>match zn H1 b with
      |some (.arr _ _ _)=>k (.tup []) (yd H1 b (.arr nn ty (l.set i y'))) nx
      |_=>none
     |_=>none
   else none
  |_,_=>none
 |_,_=>none
theorem zyI (cs:List SV) (o:Nat) (vs:List SV) (h:o+vs.length≤cs.length) (j:Nat) (hj:j < o∨o+vs.length≤j):(zmq cs o vs)[j]?=cs[j]?:=by
 unfold zmq
 have hm:(cs.take o).length=o:=by simp;omega
 rcases hj with hj | hj
 ·rw [List.append_assoc,List.getElem?_append_left (by omega),List.getElem?_take,if_pos hj]
 ·rw [List.getElem?_append_right (by simp;omega),List.getElem?_drop]
  congr 1;simp;omega
theorem zqm:∀(t:Ty) (y:T t) (c:Value),c∈qv t y→c.oneCell'=true:=by
 intro t
 induction t with
 |unit=>intro y c hc;simp [qv] at hc
 |bool=>intro y c hc;simp [qv] at hc;subst hc;rfl
 |int k=>intro y c hc;simp [qv] at hc;subst hc;rfl
 |str=>intro y c hc;simp [qv] at hc;subst hc;rfl
 |list t ih=>intro y c hc;simp [qv] at hc;subst hc;rfl
 |pair a b iha ihb=>
  intro y c hc
  simp only [qv,List.mem_append] at hc
  rcases hc with hc | hc
  ·exact iha _ _ hc
  ·exact ihb _ _ hc
theorem zos:∀{l:List Value},(∀c∈l,c.oneCell'=true)→Yh l=true
 |[],_=>rfl
 |x::l,h=>by simp only [Yh,h x (by simp),zos (l:=l) fun c hc=>h c (by simp [hc]),Bool.and_self]
theorem zGJ {cs us:List Value} {o:Nat} {vs ys:List Value} (h:zD φ cs us) (hv:zD φ vs ys):zD φ (spl cs o vs) (spl us o ys):=by
 unfold spl
 rw [←hv.length]
 exact ((h.take o).append hv).append (h.drop _)
theorem zE2 {rd:Option Nat} {o:Oper} {tm:List SV} {H:SH} {nx:Nat} {k:KO R} {r:R} {t:TypeId} {ao xo:Operand} (ho:o.op=.store t ao xo) (h:zCb P tm H nx t ao xo k=some r):Zr P rd o tm H nx k r:=by
 unfold zCb at h
 split at h
 case h_2=>cases h
 rename_i b s i off v ha hx
 split at h
 case h_2=>cases h
 rename_i nn ty l inf hb hi
 have h6:=zE h
 clear h
 obtain ⟨hh,h⟩:=h6
 simp only [Bool.and_eq_true] at hh
 obtain ⟨c1,c2,c3,c4,c5,c6⟩:=hh
 have c1:=Nat.eq_of_beq_eq_true c1
 have c3:=zfc c3
 have c5:=Nat.le_of_ble_eq_true c5
 have c6:=zdh c6
 subst c1
 have h6:=Jk h
 clear h
 obtain ⟨y,hy,h⟩:=h6
 rw [xQ] at hy
 split at h
 case h_2=>cases h
 rename_i y' H1 hcv
 split at h
 case h_2=>cases h
 rename_i nn1 ty1 l1 hb1
 obtain ⟨cs0,he0,hg,hcr⟩:=zaM ty hcv
 simp only [List.append_nil] at he0
 have hb1':zn H1 b=some (.arr nn ty l):=by
  rcases hg.1 b with h1 | ⟨nn2,t2,l2,h1,h2⟩
  ·rw [h1,hb]
  ·rw [h2] at hb1;cases hb1
 have hlt:i < l.length:=(List.getElem?_eq_some_iff.1 hy).1
 have hreg:∀c,reg (zn (yd H1 b (.arr nn ty (l.set i y'))) c)=reg (zn H1 c):=fun c=>by
  rw [qZ]
  by_cases hc:c=b
  ·subst hc;simp [hb1',reg,rsz,zyn]
  ·rw [if_neg hc]
 have hnn:∀c,jv (zn (yd H1 b (.arr nn ty (l.set i y'))) c)=true→jv (zn H1 c)=true:=fun c hc=>by
  rw [qZ] at hc
  by_cases hcb:c=b
  ·subst hcb;simpa [hb1',jv] using hc
  ·rwa [if_neg hcb] at hc
 refine uT ⟨hg.1.regLe.trans (fun c z hz=>by rw [hreg c];exact hz),hg.1.lkeep.trans (zao hb1' (fun L=>by simp)),Nat.le_refl _,fun ν hv=>⟨Jh hreg hnn (hg.1.vn hv),zjF hg ?_⟩⟩ h
 have hv1:=hg.1.vn hv
 have hn:wb nn l=false:=zix (fun h=>by subst h;simp at hlt)
 have hd:(zH ν H1).get b=some (.cells (qb ty l) false):=by rw [zU,hb1'];simp [qa,hn]
 refine XN (Nat.le_refl _) (fun c hc=>by rw [ho] at hc;cases hc) fun φ w K a' g hf ht=>?_
 have har:=qf ht (qc ha ν)
 have hxr:=qf ht (qc hx ν)
 simp only [den] at har
 generalize hx':a'.eval xo=x' at hxr
 obtain ⟨s1,s2⟩:=XM (ν:=ν) (H:=H) c2
 have hcells:=hxr.cells' s2
 rw [s1] at hcells
 have hlen0:off+(Kp v).length≤(yR ty y).length:=by rw [XL,c3];exact c5
 obtain ⟨L,hL⟩:=g.named hd
 obtain ⟨p1,p2⟩:=zeY ty l (k:=0) (n:=sz ty) hy (by omega)
 rw [Nat.add_zero] at p1 p2
 have p3:(qv ty y).take (sz ty)=qv ty y:=List.take_of_length_le (by rw [jP];omega)
 rw [List.drop_zero,p3] at p2
 obtain ⟨uy,hul,_,hur⟩:=g.read hd hL (i*sz ty) (sz ty) p1
 rw [p2] at hur
 have hxl:x'.cells.toList.length=inf.size:=by rw [←hcells.length,wL,c3]
 have hnew:zD φ (qv ty y') (spl uy off x'.cells.toList):=by
  refine hcr ν H1 (GLe.refl _) φ K w nx _ g hv1 ?_
  rw [←he0,zqj]
  refine zGJ ?_ hcells
  rw [qD,yC];exact hur
 have hvs:zD φ (((qv ty y').drop off).take inf.size) x'.cells.toList:=by
  have h1:=(hnew.drop off).take inf.size
  have h2:((spl uy off x'.cells.toList).drop off).take inf.size=x'.cells.toList:=by
   unfold spl
   have e1:(uy.take off).length=off:=by simp;omega
   rw [List.append_assoc,List.drop_left' e1,List.take_left' hxl]
  rwa [h2] at h1
 have hvl:(((qv ty y').drop off).take inf.size).length=inf.size:=by rw [hvs.length,hxl]
 have hone:Yh (((qv ty y').drop off).take inf.size)=true:=zos fun c hc=>zqm ty y' c (List.mem_of_mem_drop (List.mem_of_mem_take hc))
 have hy2:qv ty y'=spl (qv ty y) off (((qv ty y').drop off).take inf.size):=by
  apply List.ext_getElem?
  intro j
  rw [zfa _ _ _ (by rw [hvl,jP];exact c5),hvl]
  obtain ⟨q1,_,q3⟩:=zyH ty hcv
  by_cases h1:j < off
  ·rw [if_pos h1]
   refine q3 y j (by omega) ?_
   exact zyI _ _ _ hlen0 j (.inl h1)
  ·rw [if_neg h1]
   by_cases h2:j < off+inf.size
   ·rw [if_pos h2,List.getElem?_take,if_pos (by omega),List.getElem?_drop]
    congr 1;omega
   ·rw [if_neg h2]
    by_cases h3:j < sz ty
    ·refine q3 y j h3 ?_
     exact zyI _ _ _ hlen0 j (.inr (by omega))
    ·rw [List.getElem?_eq_none (by rw [jP];omega),List.getElem?_eq_none (by rw [jP];omega)]
 have hset:=zDg ty l (k:=off) hy (by rw [hvl];exact c5) hy2
 obtain ⟨w',hst,hg2,hw2⟩:=g.write P hd hL (i*sz ty+off) (by rw [hvl];have:=(zeY ty l (k:=off) (n:=inf.size) hy c5).1;omega) hone hvs (by intro h0;rw [h0] at hvl;simp at hvl;omega)
 rw [hset] at hg2
 rw [jw] at hi
 unfold execOp
 simp only [ho]
 generalize a'.eval ao=ua at har
 cases har with
 |ptr _ _ L2 hL2=>
  rw [hL] at hL2;cases hL2
  refine zeR ⟨w',?_,?_,hw2⟩
  ·simp only [Instr.storeAt,Instr.sureAddr,storeVar]
   have hsz:x'.cells.size=inf.size:=by simpa using hxl
   rw [hx']
   simp [qK hi,hsz]
   exact hst
  ·refine hg2.sub fun c k hc=>?_
   rw [zU,qZ,xL hreg] at hc
   rw [Hp.get_set]
   by_cases hcb:c=b
   ·subst hcb
    simp [hb1',qa,zyn,hn] at hc
    rw [if_pos rfl,hd]
    simp [hc]
   ·rw [if_neg hcb] at hc ⊢
    rw [zU];exact hc
theorem zE3 {rd:Option Nat} {o:Oper} {tm:List SV} {H:SH} {nx:Nat} {cs:List SV} {v:SV} (hn:zn H nx=none)
  (h:∀ν,wG P (zu (rho ν H) tm) (zH ν H) nx o=some (den (rho ν ((nx,.vars cs)::H)) v,(nx,.cells (zu (rho ν H) cs) false)::zH ν H,nx+1)):SOp P rd o tm H nx v ((nx,.vars cs)::H) (nx+1):=by
 refine ⟨kR hn,gX hn,Nat.le_succ _,fun ν hv=>⟨YO hv,WN (gm (h ν)) (fun φ v' hv=>hv) (fun φ K w g=>?_)⟩⟩
 have hr:rho ν ((nx,.vars cs)::H)=rho ν H:=xL (fun c=>by
  rw [zK]
  by_cases hc:nx=c
  ·subst hc;simp [hn,reg]
  ·rw [if_neg hc]) ν
 refine zap hn (x:=.cells (zu (rho ν H) cs) false) ?_ g
 simp [qa,hr]
def isNone {α:Type}:Option α→Bool
 |none=>true
 |some _=>false
def zE4 (P:Program) (tm:List SV) (H:SH) (nx:Nat) (t:TypeId) (n:Nat) (ps:List (Nat×Operand)):Option (SV×SH):=match zdj tm H ps,jl P t with
 |some vs,some (.slice e)=>match jo P e with
  |some ie=>match ie.zero with
   |some z=>match zqe z with
    |some zs=>bif isNone (zmu P 20 e)&&(Nat.beq ie.size 1&&Nat.ble n 1000) then match zjG (fun i=>some (i*ie.size,ie.size)) (List.replicate n zs) vs with
     |some cs=>match YN H nx (.vars cs) with
      |some H'=>some (.slv nx n,H')
      |none=>none
     |none=>none
     else none
    |none=>none
   |none=>none
  |none=>none
 |_,_=>none
theorem zGK {rd:Option Nat} {o:Oper} {tm:List SV} {H H':SH} {nx:Nat} {v:SV} {t:TypeId} {n:Nat} {ps:Array (Nat×Operand)} (ho:o.op=.buildSlice t n ps) (h:zE4 P tm H nx t n ps.toList=some (v,H')):SOp P rd o tm H nx v H' (nx+1):=by
 unfold zE4 at h
 split at h
 case h_2=>cases h
 rename_i vs e hvs hu
 split at h
 case h_2=>cases h
 rename_i ie hie
 split at h
 case h_2=>cases h
 rename_i z hz
 split at h
 case h_2=>cases h
 rename_i zs hzs
 have h6:=zE h
 clear h
 obtain ⟨hc,h⟩:=h6
 simp only [Bool.and_eq_true] at hc
 have hs1:=Nat.eq_of_beq_eq_true hc.2.1
 have hn:=Nat.le_of_ble_eq_true hc.2.2
 split at h
 case h_2=>cases h
 rename_i cs hcs
 split at h
 case h_2=>cases h
 rename_i H2 hnew
 cases h
 obtain ⟨hn1,rfl⟩:=uK hnew
 refine zE3 hn1 fun ν=>?_
 obtain ⟨e1,e2⟩:=zqf (ρ:=rho ν H) hzs
 obtain ⟨f1,f2⟩:=zg7 (ν:=ν) (H:=H) _ hcs
 have hzc:z.cells=#[z]:=by
  unfold zqe at hzs
  split at hzs<;>first | rfl | cases hzs
 have hrep:((Array.range (n*ie.size)).map (z.cells[· % z.cells.size]!))=(zu (rho ν H) (List.replicate n zs)).toArray:=by
  rw [hs1,hzc]
  apply Array.ext'
  rw [qD,List.map_replicate,e1]
  apply List.ext_getElem?
  intro i
  simp only [Nat.mul_one,Array.toList_map,Array.toList_range,List.getElem?_map,List.getElem?_replicate]
  by_cases hi:i < n
  ·simp [hi,Nat.mod_one]
  ·simp [hi]
 have hav:∀m,avL (List.replicate m z)=true:=fun m=>by
  induction m with
  |zero=>rfl
  |succ m ih=>simp [List.replicate_succ,avL,ih,e2]
 unfold wG
 simp only [ho,ze0 ν hvs,Option.bind_some]
 unfold YI
 simp only [hu,hie,hz]
 rw [if_pos]
 ·rw [hrep,f1]
  have:avL (zu (rho ν H) (List.replicate n zs)).toArray.toList=true:=by
   rw [qD,List.map_replicate,e1];exact hav n
  simp only [this,if_true,den]
 ·refine ⟨by rw [hs1];omega,by simp only [ql];omega,by rw [hzc];exact hav 1,f2,by rw [hzc];simp⟩
def zqn (H:SH) (ty:Ty):SV→Option (List (T ty))
 |.lst t l _=>if h:t=ty then some (WL h l) else none
 |.own b=>match zn H b with
  |some (.arr _ t l)=>if h:t=ty then some (WL h l) else none
  |some (.roa _ t l)=>if h:t=ty then some (WL h l) else none
  |_=>none
 |.nils=>some []
 |_=>none
theorem zv0 (ty:Ty) (l:List (T ty)):((l.map (wS ty)).flatMap fun e=>e.cells.toList)=qb ty l:=by
 induction l with
 |nil=>rfl
 |cons x l ih=>simp only [List.map_cons,List.flatMap_cons,ih];rfl
theorem zmw {ν:Nat→Bool} {nx:Nat} {H:SH} (hv:VN ν nx H) {b:Nat} {nn:Bool} {ty:Ty} {l:List (T ty)} {ro:Bool} (hr:reg (zn H b)=some (l.length,rsz nn ty l)) (hd:wb nn l=false→(zH ν H).get b=some (.cells (qb ty l) ro)) :
  gi (zH ν H) (sz ty) (rho ν H b)=some (l.length,qb ty l):=by
 rw [YM ν hr]
 cases hn:wb nn l with
 |true=>
  obtain ⟨_,rfl⟩:=zak hn
  simp [gi,qb]
 |false=>
  simp only [cond_false,gi]
  by_cases h0:l.length=0
  ·have:l=[]:=List.length_eq_zero_iff.1 h0
   subst this
   simp [qb]
  ·rw [if_neg h0]
   simp only [hd hn,WM,Nat.zero_add,Nat.le_refl,if_true,List.drop_zero]
   rw [List.take_of_length_le (by rw [WM];omega)]
theorem zcl {ν:Nat→Bool} {nx:Nat} {H:SH} (hv:VN ν nx H) {ty:Ty} {x:SV} {l:List (T ty)} (h:zqn H ty x=some l):gi (zH ν H) (sz ty) (den (rho ν H) x)=some (l.length,qb ty l):=by
 unfold zqn at h
 split at h
 ·rename_i t l0 full
  split at h
  case isFalse=>cases h
  rename_i ht
  subst ht
  cases h
  have hes:Zi (den (rho ν H) (.lst t l0 full))=some (sz t,(l0.map (wS t)).toArray,full):=by cases full<;>simp [den,fzV,Zi]
  have:gi (zH ν H) (sz t) (den (rho ν H) (.lst t l0 full))=zaj (sz t) (den (rho ν H) (.lst t l0 full)):=by cases full<;>simp [den,fzV,gi]
  rw [this]
  unfold zaj
  rw [hes]
  simp [zv0,WL]
 ·rename_i b
  split at h
  ·rename_i nn t l0 hb
   split at h
   case isFalse=>cases h
   rename_i ht
   subst ht
   cases h
   exact zmw hv (ro:=false) (nn:=nn) (by rw [hb];rfl) fun hn=>by rw [zU,hb];have hn':wb nn l0=false:=hn;simp [qa,hn',WL]
  ·rename_i nn t l0 hb
   split at h
   case isFalse=>cases h
   rename_i ht
   subst ht
   cases h
   exact zmw hv (ro:=true) (nn:=nn) (by rw [hb];rfl) fun hn=>by rw [zU,hb];have hn':wb nn l0=false:=hn;simp [qa,hn',WL]
  ·cases h
 ·cases h
  simp [den,gi,qb]
 ·cases h
theorem zmx {o:Oper} {a:Act} {b:Builtin} {args:Array Operand} {ats:Array TypeId} (ho:o.op=.call {callee:=.builtin b,args:=args,argTypes:=ats}) :
  ∃cs,execOp a.eval o=builtin b ats o.type cs (args.map a.eval):=by
 refine ⟨args.map fun | .const _=>true | _=>false,?_⟩
 unfold execOp
 simp only [ho]
 show builtin b ats o.type _ _=_
 congr 1
def zot {α:Type} (l l2:List α):List α:=l2.take l.length++l.drop l2.length
def zCc (P:Program) (tm:List SV) (H:SH) (nx:Nat) (t:TypeId) (d x:Operand) (k:KO R):Option R:=match jY tm H d,jY tm H x with
 |some (.own b),some v=>match zn H b,jl P t with
  |some (.arr true ty l),some (.slice e)=>bif Kq P e (sz ty)&&Nat.blt 0 (sz ty) then match zqn H ty v with
   |some l2=>k (.int .i64 (Nat.min l2.length l.length:Nat)) (yd H b (.arr true ty (zot l l2))) (nx+1)
   |none=>none
   else none
  |_,_=>none
 |_,_=>none
theorem zE5 {rd:Option Nat} {o:Oper} {tm:List SV} {H:SH} {nx:Nat} {k:KO R} {r:R} {t u:TypeId} {d x:Operand} (ho:o.op=.call {callee:=.builtin .copy,args:=#[d,x],argTypes:=#[t,u]}) (h:zCc P tm H nx t d x k=some r):Zr P rd o tm H nx k r:=by
 unfold zCc at h
 split at h
 case h_2=>cases h
 rename_i b v hd hx
 split at h
 case h_2=>cases h
 rename_i ty l e hb hu
 have h6:=zE h
 clear h
 obtain ⟨hh,h⟩:=h6
 simp only [Bool.and_eq_true] at hh
 obtain ⟨ie,hie,hsz⟩:=Yk hh.1
 have hpos:=zdh hh.2
 split at h
 case h_2=>cases h
 rename_i l2 hl2
 have hcl:(zot l l2).length=l.length:=by simp [zot];omega
 have hreg:∀c,reg (zn (yd H b (.arr true ty (zot l l2))) c)=reg (zn H c):=fun c=>by
  rw [qZ]
  by_cases hc:c=b
  ·subst hc;simp [hb,reg,hcl,rsz,wb]
  ·rw [if_neg hc]
 have hnn:∀c,jv (zn (yd H b (.arr true ty (zot l l2))) c)=true→jv (zn H c)=true:=fun c hc=>by
  rw [qZ] at hc
  by_cases hcb:c=b
  ·subst hcb;rw [hb];rfl
  ·rwa [if_neg hcb] at hc
 refine uT ⟨fun c z hz=>by rw [hreg c];exact hz,zao hb (fun L=>by simp),Nat.le_succ _,fun ν hv=>⟨(Jh hreg hnn hv).later (Nat.le_succ _),?_⟩⟩ h
 have hdb:(zH ν H).get b=some (.cells (qb ty l) false):=by rw [zU,hb];simp [qa,wb]
 refine XN (Nat.le_succ _) (fun c hc=>by rw [ho] at hc;cases hc) fun φ w K a g hf ht=>?_
 have hdr:=qf ht (qc hd ν)
 have hxr:=qf ht (qc hx ν)
 have hρ:den (rho ν H) (.own b)=.slice (some ⟨b,0,none⟩) l.length (ql+sz ty):=by
  simp only [den]
  rw [YM ν (nn:=true) (t:=ty) (l:=l) (by rw [hb];rfl)]
  rfl
 rw [hρ] at hdr
 rw [jD] at hu
 rw [jw] at hie
 have hsrc:=zcl hv hl2
 rw [←hsz] at hsrc
 obtain ⟨w',r1,r2,r3⟩:=zDq (P:=P) (ts:=u) (ty:=o.type) g hu hie hdb hdr hsrc hxr (by rw [WM,hsz]) (by omega) (zos fun c hc=>by
  simp only [qb,List.mem_flatMap] at hc
  obtain ⟨y,_,hc⟩:=hc
  exact zqm _ _ _ hc)
 obtain ⟨cs,he⟩:=zmx (a:=a) ho
 have hmap:(#[d,x]:Array Operand).map a.eval=#[a.eval d,a.eval x]:=by simp
 rw [he,hmap]
 show zom P φ K w nx (do pure (.value (←Builtin.copy_ #[t,u] o.type #[a.eval d,a.eval x])):Sem Next) _ _ _
 refine Ran.op (s:=Builtin.copy_ #[t,u] o.type #[a.eval d,a.eval x]) ⟨_,w',φ,r1,?_,Ext.refl _ _ _ _,?_,r3,Nat.le_succ _⟩
 ·simp only [den,goInt];exact .int _ _
 ·refine r2.sub fun c k hc=>?_
  rw [zU,qZ,xL hreg] at hc
  rw [Hp.get_set]
  by_cases hcb:c=b
  ·subst hcb
   simp [hb,qa,wb] at hc
   rw [if_pos rfl,hdb]
   simp only [Option.map_some,Option.some.injEq]
   rw [←hc]
   congr 1
   unfold spl
   have e1:(qb ty l2).take (Nat.min l2.length l.length*ie.size)=qb ty (l2.take l.length):=by
    rw [hsz,zrY]
    congr 1
    by_cases h0:l2.length≤l.length
    ·rw [show Nat.min l2.length l.length=l2.length from Nat.min_eq_left h0,List.take_of_length_le (Nat.le_refl _),List.take_of_length_le h0]
    ·rw [show Nat.min l2.length l.length=l.length from Nat.min_eq_right (by omega)]
   rw [e1,WM,List.take_zero,List.nil_append,Nat.zero_add,zjA,zot,zfn]
   congr 2
   by_cases h0:l2.length≤l.length
   ·rw [List.take_of_length_le h0]
   ·rw [List.length_take,Nat.min_eq_left (by omega),List.drop_eq_nil_of_le (Nat.le_refl _),List.drop_eq_nil_of_le (by omega)]
  ·rw [if_neg hcb] at hc ⊢
   rw [zU];exact hc
def jb (n m bytes:Nat):Bool:=Nat.ble (n+m) maxLen&&Nat.ble ((n+m)*bytes) 140737488355328
def zyJ (H0 H:SH) (nx:Nat) (ty:Ty) (bytes:Nat) (l l2:List (T ty)) (s:SV) (k:KO R):Option R:=match l2 with
 |[]=>k s H0 (nx+1)
 |y::ys=>match YN H nx (.arr true ty (l++y::ys)) with
  |some H'=>bif jb l.length (y::ys).length bytes then k (.own nx) H' (nx+1) else none
  |none=>none
def zHM:SV→Bool
 |.lst _ _ _=>true
 |_=>false
def tyS (H:SH):SV→Option Ty
 |.lst t _ _=>some t
 |.own b=>match zn H b with
  |some (.arr _ t _)=>some t
  |some (.roa _ t _)=>some t
  |_=>none
 |_=>none
def zE6 (P:Program) (tm:List SV) (H:SH) (nx:Nat) (t:TypeId) (s x:Operand) (k:KO R):Option R:=match jY tm H s,jY tm H x with
 |some sv,some xv=>match jl P t with
  |some (.slice e)=>match jo P e with
   |some ie=>match sv with
    |.nils=>match tyS H xv with
     |some ty=>bif ze2 P e ty then match zqn H ty xv with
      |some l2=>match YN H nx (.arr false ty l2) with
       |some H'=>bif jb 0 l2.length ie.bytes then k (.own nx) H' (nx+1) else none
       |none=>none
      |none=>none
      else none
     |none=>none
    |.own b=>match zn H b with
     |some (.arr nn ty l)=>bif ze2 P e ty then match zqn H ty xv with
      |some l2=>match YN (yd H b (.gone (rsz nn ty l) l.length)) nx (.arr nn ty (l++l2)) with
        |some H'=>bif jb l.length l2.length ie.bytes then k (.own nx) H' (nx+1) else none
        |none=>none
      |none=>none
      else none
     |_=>none
    |.lst ty l true=>bif ze2 P e ty then match zqn H ty xv with
     |some l2=>bif zHM xv then match YN H nx (.fro true ty (l++l2)) with
       |some _=>bif jb l.length l2.length ie.bytes then k (.lst ty (l++l2) false) H (nx+1) else none
       |none=>none
      else zyJ H H nx ty ie.bytes l l2 (.lst ty l true) k
     |none=>none
     else none
    |_=>none
   |none=>none
  |_=>none
 |_,_=>none
theorem zfq {H:SH} {b:Nat} {nn:Bool} {ty:Ty} {l:List (T ty)} (hb:zn H b=some (.arr nn ty l)) (c:Nat):reg (zn (yd H b (.gone (rsz nn ty l) l.length)) c)=reg (zn H c):=by
 rw [qZ]
 by_cases hc:c=b
 ·subst hc
  rw [if_pos rfl,hb]
  exact zfo nn ty l
 ·rw [if_neg hc]
theorem zAE {H:SH} {b:Nat} {nn:Bool} {ty:Ty} {l:List (T ty)} (hb:zn H b=some (.arr nn ty l)) (c:Nat) (h:jv (zn (yd H b (.gone (rsz nn ty l) l.length)) c)=true):jv (zn H c)=true:=by
 rw [qZ] at h
 by_cases hc:c=b
 ·subst hc;simp [hb,jv] at h
 ·rwa [if_neg hc] at h
theorem zkz {ν:Nat→Bool} {H:SH} {b:Nat} {nn:Bool} {ty:Ty} {l:List (T ty)} (hb:zn H b=some (.arr nn ty l)) (c:Nat) (k:Blk) (h:(zH ν (yd H b (.gone (rsz nn ty l) l.length))).get c=some k):((zH ν H).del b).get c=some k:=by
 rw [zU,qZ,xL (zfq hb)] at h
 rw [Hp.get_del]
 by_cases hc:c=b
 ·subst hc;simp [hb,qa] at h
 ·rw [if_neg hc] at h ⊢
  rw [zU];exact h
theorem zpz {o:Oper} {a:Act} {t:TypeId} {so xo:Operand} (ho:o.op=.call {callee:=.builtin .append,args:=#[so,xo],argTypes:=#[t,t]}) :
  execOp a.eval o=(do pure (.value (←Builtin.append_ #[t,t] o.type #[a.eval so,a.eval xo])):Sem Next):=by
 obtain ⟨cs,he⟩:=zmx (a:=a) ho
 have hmap:(#[so,xo]:Array Operand).map a.eval=#[a.eval so,a.eval xo]:=by simp
 rw [he,hmap];rfl
structure zqo (P:Program) (t e:TypeId) (ie:TypeInfo) (ty:Ty):Prop where
 hu:jl P t=some (.slice e)
 hie:jo P e=some ie
 hz:∃z,ie.zero=some z∧z.cells.size=ie.size∧0 < ie.size
 hsz:sz ty=ie.size
theorem zqo.of {t e:TypeId} {ie:TypeInfo} {ty:Ty} (hu:jl P t=some (.slice e)) (hie:jo P e=some ie) (h:ze2 P e ty=true):zqo P t e ie ty:=by
 obtain ⟨i,z,e1,e2,e3,e4,e5,_⟩:=zjH h
 rw [←jw,hie] at e1
 cases e1
 exact ⟨hu,hie,⟨z,e2,e3,e4⟩,e5⟩
theorem zjI {n m bytes:Nat} (h:jb n m bytes=true):n+m≤maxLen∧(n+m)*bytes≤140737488355328:=by
 simp only [jb,Bool.and_eq_true] at h
 exact ⟨Nat.le_of_ble_eq_true h.1,Nat.le_of_ble_eq_true h.2⟩
theorem zE7 {ν:Nat→Bool} {H:SH} (g:zI φ (zH ν H) K w) {t e:TypeId} {ie:TypeInfo} {ty:Ty} (hE:zqo P t e ie ty) {tt:TypeId} {x s' x':Value} {news:List Value} (hsrc:gi (zH ν H) ie.size x=some (0,news)) (hx:zt φ x x') (hs:∃a n c,s'=.slice a n c∧n≤c) :
  (Builtin.append_ #[t,t] tt #[s',x']).run P w=.ok s' w:=by
 obtain ⟨ax,cx,us,rfl,_⟩:=UH g hsrc hx
 obtain ⟨a,n,c,rfl,hn⟩:=hs
 have h1:=hE.hu
 have h2:=hE.hie
 rw [jD] at h1
 rw [jw] at h2
 exact Qd h1 h2 a n c hn ax cx w
theorem zE8 (ty:Ty) (l:List (T ty)):Yh (qb ty l)=true:=zos fun c hc=>by
 simp only [qb,List.mem_flatMap] at hc
 obtain ⟨y,_,hc⟩:=hc
 exact zqm _ _ _ hc
theorem zGL {H:Hp} {b c:Nat} {k:Blk} (h:(H.del b).get c=some k):H.get c=some k:=by
 rw [Hp.get_del] at h
 by_cases hc:c=b
 ·rw [if_pos hc] at h;cases h
 ·rwa [if_neg hc] at h
theorem zGM {ν:Nat→Bool} {H:SH} {nx:Nat} {b:Nat} {nn:Bool} {ty:Ty} {l l2:List (T ty)} {t e:TypeId} {ie:TypeInfo} (hE:zqo P t e ie ty) (hb:zn H b=some (.arr nn ty l)) (hv:VN ν nx H) {xv:SV} (hsrc:zqn H ty xv=some l2) (hne:l2≠[])
  (hok:jb l.length l2.length ie.bytes=true):∃v Hd,gk P (zH ν H) nx t (rho ν H b) (den (rho ν H) xv)=some (v,Hd,nx+1)∧v=.slice (some ⟨nx,0,none⟩) (l.length+l2.length) (ql+ie.size)∧∀c k,Hp.get ((nx,.cells (qb ty (l++l2)) false)::(zH ν H).del b) c=some k→Hd.get c=some k:=by
 have hs:=zcl hv hsrc
 obtain ⟨h1,h2⟩:=zjI hok
 obtain ⟨z,z1,z2,z3⟩:=hE.hz
 have hm:l2.length≠0:=fun h0=>hne (List.length_eq_zero_iff.1 h0)
 have hr:reg (zn H b)=some (l.length,rsz nn ty l):=by rw [hb];rfl
 have hso:=zmw hv (b:=b) (ty:=ty) (l:=l) (ro:=false) hr (fun hn=>by rw [zU,hb];simp [qa,hn])
 rw [hE.hsz] at hs hso
 cases hn:wb nn l with
 |true=>
  obtain ⟨_,rfl⟩:=zak hn
  have hρ:rho ν H b=.slice none 0 0:=by rw [YM ν hr,hn];rfl
  refine ⟨.slice (some ⟨nx,0,none⟩) l2.length (ql+ie.size),(nx,.cells (qb ty l2) false)::zH ν H,?_,by simp,fun c k hc=>?_⟩
  ·rw [hρ]
   unfold gk
   simp only [hE.hu,hE.hie,z1,hs,z2,z3,and_self,if_true,hm,if_false]
   simp only [List.length_nil,Nat.zero_add] at h1 h2
   rw [if_pos ⟨h1,h2⟩]
  ·simp only [List.nil_append] at hc
   exact zt9 c k hc
 |false=>
  have hρ:rho ν H b=.slice (some ⟨b,0,none⟩) l.length (ql+sz ty):=by rw [YM ν hr,hn];rfl
  have hd:(zH ν H).get b=some (.cells (qb ty l) false):=by rw [zU,hb];simp [qa,hn]
  refine ⟨.slice (some ⟨nx,0,none⟩) (l.length+l2.length) (ql+ie.size),(nx,.cells (qb ty l++qb ty l2) false)::(zH ν H).del b,?_,rfl,fun c k hc=>by rwa [zfn] at hc⟩
  rw [hρ] at hso ⊢
  have c1:¬ql+sz ty < l.length+l2.length:=by simp only [maxLen,ql] at *;omega
  have c2:ql≤ql+sz ty:=Nat.le_add_right _ _
  have c3:ql+sz ty - ql=ie.size:=by rw [hE.hsz];omega
  unfold gk
  simp only [hE.hu,hE.hie,z1,hs,z2,z3,and_self,if_true,hm,if_false,hso,h1,h2,c1,c2,c3,hd,zE8,implies_true]
theorem zDv {ν:Nat→Bool} {H:SH} {b:Nat} {v':Value} {nn:Bool} {ty:Ty} {l:List (T ty)} (hb:zn H b=some (.arr nn ty l)) (h:zt φ (rho ν H b) v'):∃a n c,v'=.slice a n c∧n≤c:=by
 rw [YM ν (nn:=nn) (t:=ty) (l:=l) (by rw [hb];rfl)] at h
 cases hn:wb nn l with
 |true=>rw [hn] at h;cases h;exact ⟨_,_,_,rfl,Nat.le_refl _⟩
 |false=>
  rw [hn,cond_false] at h
  generalize hc0:ql+sz ty=c0 at h
  generalize hn0:l.length=n0 at h
  cases h with
  |sl _ _ _ _ L hL hc=>omega
  |slO _ _ _ _ c' L hL hc hnc hl=>exact ⟨_,_,_,rfl,hnc⟩
  |slE _ _ _ a' L hL hc=>exact ⟨_,_,_,rfl,Nat.le_refl _⟩
theorem zDw {H H2:SH} {nx:Nat} {b:Nat} {nn nn':Bool} {ty:Ty} {l l':List (T ty)} (hb:zn H b=some (.arr nn ty l)) (hn:YN (yd H b (.gone (rsz nn ty l) l.length)) nx (.arr nn' ty l')=some H2) :
  wJ H H2∧wR H H2∧∀ν,VN ν nx H→VN ν (nx+1) H2∧(wb nn' l'=false→rho ν H2 nx=.slice (some ⟨nx,0,none⟩) l'.length (ql+sz ty))∧(∀φ K w,zI φ ((nx,.cells (qb ty l') false)::(zH ν H).del b) K w→zI φ (zH ν H2) K w)∧
   (wb nn' l'=true→rho ν H2 nx=.slice none 0 0∧∀φ K w,zI φ (zH ν H) K w→zI φ (zH ν H2) K w):=by
 obtain ⟨h1,rfl⟩:=uK hn
 have hr:wJ H (yd H b (.gone (rsz nn ty l) l.length)):=fun c z hz=>by rw [zfq hb];exact hz
 refine ⟨hr.trans (kR h1),(zao hb (fun L=>by simp)).trans (gX h1),fun ν hv=>?_⟩
 have hv1:=Jh (zfq hb) (zAE hb) hv
 refine ⟨YO hv1,fun hl=>zaN hv1 hl,fun φ K w g=>UL h1 hv1 (g.sub fun c k hc=>?_),fun hl=>⟨zr6 hl,fun φ K w g=>zmv h1 (by simp [qa,hl]) (g.sub fun c k hc=>zGL (zkz hb c k hc))⟩⟩
 simp only [Hp.get_cons] at hc ⊢
 split at hc
 ·rename_i he;rw [if_pos he];exact hc
 ·rename_i he;rw [if_neg he];exact zkz hb c k hc
theorem zDx {rd:Option Nat} {o:Oper} {tm:List SV} {H0 H:SH} {nx:Nat} {k:KO R} {r:R} {ty:Ty} {bytes:Nat} {l l2:List (T ty)} {s:SV} (h:zyJ H0 H nx ty bytes l l2 s k=some r)
  (h0:l2=[]→SOp P rd o tm H0 nx s H0 (nx+1))
  (h1:∀H',l2≠[]→YN H nx (.arr true ty (l++l2))=some H'→jb l.length l2.length bytes=true→SOp P rd o tm H0 nx (.own nx) H' (nx+1)):Zr P rd o tm H0 nx k r:=by
 unfold zyJ at h
 split at h
 ·exact uT (h0 rfl) h
 ·split at h
  case h_2=>cases h
  rename_i y ys H' hn
  obtain ⟨hok,h2⟩:=zE h
  exact uT (h1 H' (by simp) hn hok) h2
theorem zGN {rd:Option Nat} {o:Oper} {tm:List SV} {H:SH} {nx:Nat} {k:KO R} {r:R} {t:TypeId} {so xo:Operand} (ho:o.op=.call {callee:=.builtin .append,args:=#[so,xo],argTypes:=#[t,t]}) (h:zE6 P tm H nx t so xo k=some r):Zr P rd o tm H nx k r:=by
 unfold zE6 at h
 split at h
 case h_2=>cases h
 rename_i sv xv hs hx
 split at h
 case h_2=>cases h
 rename_i e hu
 split at h
 case h_2=>cases h
 rename_i ie hie
 have hnd:∀c,o.op≠.defer c:=fun c hc=>by rw [ho] at hc;cases hc
 have run:∀{ν:Nat→Bool} {H':SH} {v:SV} {vd:Value} {Hd:Hp},VN ν nx H→(∀φ K w,zI φ (zH ν H) K w→∀s',zt φ (den (rho ν H) sv) s'→∃sd,zt φ sd s'∧gk P (zH ν H) nx t sd (den (rho ν H) xv)=some (vd,Hd,nx+1))→
   (∀φ K w v',zI φ Hd K w→zt φ vd v'→∃φ',(∀n,Ext K φ φ' n n)∧zI φ' (zH ν H') K w∧zt φ' (den (rho ν H') v) v')→Uw P rd o (zu (rho ν H) tm) (zH ν H) nx (den (rho ν H') v) (zH ν H') (nx+1):=by
  intro ν H' v vd Hd hv h1 h2
  refine XN (Nat.le_succ _) hnd fun φ w K a g hf ht=>?_
  have hsr:=qf ht (qc hs ν)
  have hxr:=qf ht (qc hx ν)
  have hfr:=hf.at (Nat.le_refl nx) (Nat.lt_succ_self nx)
  obtain ⟨sd,e1,e2⟩:=h1 φ K w g _ hsr
  obtain ⟨v',w',φ',r1,r2,r3,r4,r5,_⟩:=zpr (P:=P) (ty:=o.type) g hfr.1 hfr.2 e2 e1 hxr
  obtain ⟨φ2,f1,f2,f3⟩:=h2 φ' K w' v' r4 r2
  rw [zpz ho]
  exact Ran.op ⟨v',w',φ2,r1,f3,r3.trans (f1 (nx+1)) (Nat.le_succ _) (Nat.le_refl _),f2,r5,Nat.le_succ _⟩
 have idExt:∀(φ:Ren) (K:Nat→Prop),∀n,Ext K φ φ n n:=fun φ K n=>Ext.refl _ _ _ _
 split at h
 ·
  split at h
  case h_2=>cases h
  rename_i ty hty
  have h6:=zE h
  clear h
  obtain ⟨hz,h⟩:=h6
  have hE:=zqo.of hu hie hz
  obtain ⟨z,z1,z2,z3⟩:=hE.hz
  split at h
  case h_2=>cases h
  rename_i l2 hl2
  split at h
  case h_2=>cases h
  rename_i H' hnew
  have h7:=zE h
  clear h
  obtain ⟨hok,h⟩:=h7
  refine uT ?_ h
  obtain ⟨hn1,rfl⟩:=uK hnew
  refine ⟨kR hn1,gX hn1,Nat.le_succ _,fun ν hv=>⟨YO hv,?_⟩⟩
  have hsrc:=zcl hv hl2
  rw [hE.hsz] at hsrc
  cases hne:l2 with
  |nil=>
   subst hne
   refine run (v:=.own nx) (vd:=.slice none 0 0) (Hd:=zH ν H) hv (fun φ K w g s' hs'=>⟨.slice none 0 0,by simpa only [den] using hs',?_⟩) (fun φ K w v' g hv'=>⟨φ,idExt φ K,zmv hn1 rfl g,by simp only [den];rw [zr6 rfl];exact hv'⟩)
   unfold gk
   simp [hE.hu,hE.hie,z1,hsrc,z2,z3]
  |cons y ys=>
   rw [←hne]
   have hnn:l2≠[]:=by rw [hne];simp
   have hm:l2.length≠0:=fun h0=>hnn (List.length_eq_zero_iff.1 h0)
   obtain ⟨b1,b2⟩:=zjI hok
   simp only [Nat.zero_add] at b1 b2
   refine run (v:=.own nx) (vd:=.slice (some ⟨nx,0,none⟩) l2.length (ql+ie.size)) (Hd:=(nx,.cells (qb ty l2) false)::zH ν H) hv (fun φ K w g s' hs'=>⟨.slice none 0 0,by simpa only [den] using hs',?_⟩) (fun φ K w v' g hv'=>⟨φ,idExt φ K,UL hn1 hv (by simpa using g),?_⟩)
   ·unfold gk
    simp [hE.hu,hE.hie,z1,hsrc,z2,z3,hm,b1,b2]
   ·simp only [den]
    rw [zaN hv (zix hnn),hE.hsz]
    simpa using hv'
 ·
  rename_i b
  split at h
  case h_2=>cases h
  rename_i nn ty l hb
  have h6:=zE h
  clear h
  obtain ⟨hz,h⟩:=h6
  have hE:=zqo.of hu hie hz
  obtain ⟨z,z1,z2,z3⟩:=hE.hz
  split at h
  case h_2=>cases h
  rename_i l2 hl2
  have more:∀{H2:SH},YN (yd H b (.gone (rsz nn ty l) l.length)) nx (.arr nn ty (l++l2))=some H2→l2≠[]→jb l.length l2.length ie.bytes=true→SOp P rd o tm H nx (.own nx) H2 (nx+1):=by
   intro H2 hnew hne hok
   obtain ⟨q1,q2,q3⟩:=zDw hb hnew
   refine ⟨q1,q2,Nat.le_succ _,fun ν hv=>?_⟩
   obtain ⟨q4,q5,q6,_⟩:=q3 ν hv
   obtain ⟨vd,Hd,e1,rfl,e3⟩:=zGM hE hb hv hl2 hne hok
   refine ⟨q4,run hv (fun φ K w g s' hs'=>⟨rho ν H b,by simpa only [den] using hs',e1⟩) (fun φ K w v' g hv'=>⟨φ,idExt φ K,q6 φ K w (g.sub e3),?_⟩)⟩
   simp only [den]
   rw [q5 (zix (by simp [hne])),hE.hsz,List.length_append]
   exact hv'
  split at h
  case h_2=>cases h
  rename_i H2 hnew
  have h7:=zE h
  clear h
  obtain ⟨hok,h⟩:=h7
  by_cases hne:l2=[]
  ·subst hne
   rw [List.append_nil] at hnew
   obtain ⟨q1,q2,q3⟩:=zDw hb hnew
   refine uT ⟨q1,q2,Nat.le_succ _,fun ν hv=>?_⟩ (by assumption)
   obtain ⟨q4,q5,q6,q7⟩:=q3 ν hv
   refine ⟨q4,XN (Nat.le_succ _) hnd fun φ w K a g hf ht=>?_⟩
   have hsr:=qf ht (qc hs ν)
   have hxr:=qf ht (qc hx ν)
   simp only [den] at hsr
   have hfr:=hf.at (Nat.le_refl nx) (Nat.lt_succ_self nx)
   have hsrc:=zcl hv hl2
   rw [hE.hsz] at hsrc
   have hrun:=zE7 (tt:=o.type) g hE hsrc hxr (zDv hb hsr)
   have hr:reg (zn H b)=some (l.length,rsz nn ty l):=by rw [hb];rfl
   rw [zpz ho]
   generalize a.eval so=us at hsr hrun ⊢
   rw [YM ν hr] at hsr
   cases hn:wb nn l with
   |true=>
    obtain ⟨e1,e2⟩:=q7 hn
    rw [hn] at hsr
    exact Ran.op ⟨us,w,φ,hrun,by simp only [den];rw [e1];exact hsr,Ext.refl _ _ _ _,e2 φ K w g,qJ.refl _ _,Nat.le_succ _⟩
   |false=>
    have hd:(zH ν H).get b=some (.cells (qb ty l) false):=by rw [zU,hb];simp [qa,hn]
    obtain ⟨φ',f1,f2,f3⟩:=zDp g hfr.1 hfr.2 hd
    refine Ran.op ⟨us,w,φ',hrun,?_,f1,q6 φ' K w (by simpa using f2),qJ.refl _ _,Nat.le_succ _⟩
    simp only [den]
    rw [q5 hn]
    rw [hn,cond_false] at hsr
    generalize ql+sz ty=c0 at hsr ⊢
    generalize l.length=n0 at hsr ⊢
    cases hsr with
    |sl _ _ _ _ L hL hc=>exact .sl _ _ _ _ L (f3 L hL) hc
    |slO _ _ _ _ c' L hL hc hnc hl=>exact .slO _ _ _ _ c' L (f3 L hL) hc hnc hl
    |slE _ _ _ a' L hL hc=>exact .slE _ _ _ a' L (f3 L hL) hc
  ·exact uT (more hnew hne hok) h
 ·
  rename_i ty l
  have h6:=zE h
  clear h
  obtain ⟨hz,h⟩:=h6
  have hE:=zqo.of hu hie hz
  obtain ⟨z,z1,z2,z3⟩:=hE.hz
  split at h
  case h_2=>cases h
  rename_i l2 hl2
  have hes:∀ν,Zi (den (rho ν H) (.lst ty l true))=some (sz ty,(l.map (wS ty)).toArray,true):=fun ν=>by simp [den,fzV,Zi]
  have happ:∀{ν},VN ν nx H→l2≠[]→jb l.length l2.length ie.bytes=true→gk P (zH ν H) nx t (den (rho ν H) (.lst ty l true)) (den (rho ν H) xv)=some (.slice (some ⟨nx,0,none⟩) (l.length+l2.length) (ql+ie.size),(nx,.cells (qb ty (l++l2)) false)::zH ν H,nx+1):=by
   intro ν hv hne hok
   have hsrc:=zcl hv hl2
   rw [hE.hsz] at hsrc
   have hm:l2.length≠0:=fun h0=>hne (List.length_eq_zero_iff.1 h0)
   obtain ⟨b1,b2⟩:=zjI hok
   have hfc:zaj ie.size (.iface (sz ty) (.agg (l.map (wS ty)).toArray))=some (l.length,qb ty l):=by
    unfold zaj
    simp [Zi,hE.hsz,zv0]
   unfold gk
   simp only [hE.hu,hE.hie,z1,hsrc,z2,z3,and_self,if_true,den,fzV,cond_true,Zi,hm,if_false,hE.hsz]
   have hl0:((l.map (wS ty)).toArray).size=l.length:=by simp
   rw [hE.hsz] at hfc
   simp only [hl0,b1,b2,and_self,if_true,hfc,zfn]
  have stay:l2=[]→∀(v:SV),(∀ν φ v',zt φ (den (rho ν H) (.lst ty l true)) v'→zt φ (den (rho ν H) v) v')→SOp P rd o tm H nx v H (nx+1):=by
   intro hn v hvr
   subst hn
   refine ⟨wJ.refl H,wR.refl H,Nat.le_succ _,fun ν hv=>⟨hv.later (Nat.le_succ _),?_⟩⟩
   have hsrc:=zcl hv hl2
   rw [hE.hsz] at hsrc
   refine run (v:=v) (vd:=den (rho ν H) (.lst ty l true)) (Hd:=zH ν H) hv (fun φ K w g s' hs'=>⟨_,hs',?_⟩) (fun φ K w v' g hv'=>⟨φ,idExt φ K,g,hvr ν φ v' hv'⟩)
   unfold gk
   simp [hE.hu,hE.hie,z1,hsrc,z2,z3,den,fzV,Zi]
  rcases xM h with ⟨_,h⟩ | ⟨_,h⟩
  ·split at h
   case h_2=>cases h
   rename_i H9 hnew
   obtain ⟨hn1,_⟩:=uK hnew
   have h6:=zE h
   clear h
   obtain ⟨hok,h⟩:=h6
   by_cases hne:l2=[]
   ·have:=stay hne (.lst ty (l++l2) false) (fun ν φ v' hv'=>by
     subst hne
     simp only [den,List.append_nil] at hv' ⊢
     exact zvX hv')
    exact uT this h
   ·refine uT ⟨wJ.refl H,wR.refl H,Nat.le_succ _,fun ν hv=>⟨hv.later (Nat.le_succ _),?_⟩⟩ h
    refine run (v:=.lst ty (l++l2) false) (vd:=.slice (some ⟨nx,0,none⟩) (l.length+l2.length) (ql+ie.size)) (Hd:=(nx,.cells (qb ty (l++l2)) false)::zH ν H) hv (fun φ K w g s' hs'=>⟨_,hs',happ hv hne hok⟩) (fun φ K w v' g hv'=>?_)
    obtain ⟨φ',f1,f2⟩:=zyo g (b:=nx) (cs:=qb ty (l++l2)) (by simp [Hp.get_cons])
    have hnone:(zH ν H).get nx=none:=by rw [zU,hn1];rfl
    have hgo:∀c k,(zH ν H).get c=some k→c≠nx:=fun c k hc e=>by subst e;rw [hnone] at hc;cases hc
    have g1:zI φ' (zH ν H) K w:=f2 _ fun c k hc=>by
     have hne2:=hgo c k hc
     rw [if_neg hne2]
     have:(nx == c)=false:=by simpa using fun e:nx=c=>hne2 e.symm
     simp [Hp.get_cons,this,hc]
    have g2:zI φ' (zH ν ((nx,.fro true ty (l++l2))::H)) K w:=by
     refine zap hn1 (x:=.fzc (qb ty (l++l2))) (by simp [qa,wb]) (f2 _ fun c k hc=>?_)
     by_cases hcn:c=nx
     ·subst hcn
      simp [Hp.get_cons] at hc
      simp [hc]
     ·rw [if_neg hcn]
      have:(nx == c)=false:=by simpa using fun e:nx=c=>hcn e.symm
      simp [Hp.get_cons,this] at hc ⊢
      exact hc
    refine ⟨φ',f1,g1,?_⟩
    simp only [den]
    refine ziy g2 (YO hv) (b:=nx) (by rw [zK,if_pos rfl]) (by rw [hE.hsz];exact z3) ?_
    have hρ:rho ν ((nx,.fro true ty (l++l2))::H) nx=.slice (some ⟨nx,0,none⟩) (l.length+l2.length) (ql+ie.size):=by
     rw [YM ν (nn:=true) (t:=ty) (l:=l++l2) (by rw [zK,if_pos rfl];rfl)]
     simp [wb,hE.hsz]
    rw [hρ]
    exact hv'.mono (f1 0).1
  ·refine zDx h (fun hn=>stay hn _ fun ν φ v' hv'=>hv') (fun H' hne hnew hok=>?_)
   obtain ⟨hn1,rfl⟩:=uK hnew
   refine ⟨kR hn1,gX hn1,Nat.le_succ _,fun ν hv=>⟨YO hv,?_⟩⟩
   refine run (v:=.own nx) (vd:=.slice (some ⟨nx,0,none⟩) (l.length+l2.length) (ql+ie.size)) (Hd:=(nx,.cells (qb ty (l++l2)) false)::zH ν H) hv (fun φ K w g s' hs'=>⟨_,hs',happ hv hne hok⟩) (fun φ K w v' g hv'=>⟨φ,idExt φ K,UL hn1 hv g,?_⟩)
   simp only [den]
   rw [zaN hv rfl,hE.hsz,List.length_append]
   exact hv'
 ·cases h
def mpD {α:Type} (l:List (Int×α)) (n:Int) (z:α):α:=match l with
 |[]=>z
 |p::r=>bif zi p.1 n then p.2 else mpD r n z
def mpH {α:Type} (l:List (Int×α)) (n:Int):Bool:=match l with
 |[]=>false
 |p::r=>bif zi p.1 n then true else mpH r n
def mpP {α:Type} (l:List (Int×α)) (n:Int) (x:α):List (Int×α):=match l with
 |[]=>[(n,x)]
 |p::r=>bif zi p.1 n then (n,x)::r else p::mpP r n x
def mpI {α:Type} (l:List (Int×α)) (n:Int):Option Nat:=match l with
 |[]=>none
 |p::r=>bif zi p.1 n then some 0 else (mpI r n).map (·+1)
theorem zmy {k:IntKind} {ag:Bool} {t:Ty} (n:Int) (d:IntKind):∀(l:List (Int×T t)) (i j:Nat),
  Instr.findNow (.int d) (.int k n) (zdC (Zk k ag t l i)) j=some ((mpI l n).map fun s=>(j+s,mvV ag t (mpD l n (UU t))))
 |[],_,_=>rfl
 |p::r,i,j=>by
  simp only [Zk,zdC,Instr.findNow,Instr.sameNow,if_true,mpI,mpD]
  cases h:zi p.1 n with
  |true=>
   have h1:=jT p.1 n
   rw [h] at h1
   have:p.1=n:=by simpa using h1.symm
   simp [this]
  |false=>
   have h1:=jT p.1 n
   rw [h] at h1
   have:¬n=p.1:=fun e=>by simp [e] at h1
   have hb:(n == p.1)=false:=by simpa using this
   rw [hb]
   dsimp only
   rw [zmy n d r (i+1) (j+1)]
   cases mpI r n with
   |none=>rfl
   |some s=>simp [Nat.add_assoc,Nat.add_comm 1 s]
theorem zF8 {α:Type} (n:Int):∀l:List (Int×α),mpH l n=(mpI l n).isSome
 |[]=>rfl
 |p::r=>by
  simp only [mpH,mpI]
  cases zi p.1 n with
  |true=>rfl
  |false=>simp [zF8 n r]
theorem zyK {α:Type} (n:Int) (z:α):∀l:List (Int×α),mpI l n=none→mpD l n z=z
 |[],_=>rfl
 |p::r,h=>by
  simp only [mpI] at h
  simp only [mpD]
  cases hq:zi p.1 n with
  |true=>rw [hq] at h;cases h
  |false=>
   rw [hq] at h
   simp only [cond_false,Option.map_eq_none_iff] at h
   exact zyK n z r h
theorem zmz {k:IntKind} {ag:Bool} {t:Ty} {n:Int} {x:T t}:∀(l:List (Int×T t)) (i:Nat),mpI l n=none→Zk k ag t (mpP l n x) i=Zk k ag t l i++[(.int k n,mvV ag t x,i+l.length)]∧(mpP l n x).length=l.length+1
 |[],i,_=>⟨rfl,rfl⟩
 |p::r,i,h=>by
  simp only [mpI] at h
  simp only [mpP]
  cases hq:zi p.1 n with
  |true=>rw [hq] at h;cases h
  |false=>
   rw [hq] at h
   simp only [cond_false,Option.map_eq_none_iff] at h
   obtain ⟨h1,h2⟩:=zmz (k:=k) (ag:=ag) (x:=x) r (i+1) h
   simp only [cond_false,Zk,h1,List.cons_append,List.length_cons,h2]
   refine ⟨?_,trivial⟩
   rw [show i+1+r.length=i+(r.length+1) by omega]
theorem zmA {k:IntKind} {ag:Bool} {t:Ty} {n:Int} {x:T t}:∀(l:List (Int×T t)) (i s:Nat),mpI l n=some s→
  ∃v b,(Zk k ag t l i)[s]?=some (.int k n,v,b)∧Zk k ag t (mpP l n x) i=(Zk k ag t l i).set s (.int k n,mvV ag t x,b)∧(mpP l n x).length=l.length
 |[],i,s,h=>by cases h
 |p::r,i,s,h=>by
  simp only [mpI] at h
  simp only [mpP]
  cases hq:zi p.1 n with
  |true=>
   have h1:=jT p.1 n
   rw [hq] at h1
   have h2:p.1=n:=by simpa using h1.symm
   rw [hq] at h
   simp only [cond_true,Option.some.injEq] at h
   subst h
   refine ⟨mvV ag t p.2,i,?_,rfl,rfl⟩
   simp [Zk,h2]
  |false=>
   rw [hq] at h
   simp only [cond_false,Option.map_eq_some_iff] at h
   obtain ⟨s',h1,rfl⟩:=h
   obtain ⟨v,b,e1,e2,e3⟩:=zmA (k:=k) (ag:=ag) (x:=x) r (i+1) s' h1
   exact ⟨v,b,by simpa [Zk] using e1,by simp [Zk,e2],by simp [e3]⟩
def exC:(t:Ty)→List SV→Option (T t×List SV)
 |.unit,l=>some ((),l)
 |.bool,l=>match l with
  |.bool b::r=>some (b,r)
  |_=>none
 |.int k,l=>match l with
  |.int k' n::r=>bif Yi k k' then some (n,r) else none
  |_=>none
 |.str,l=>match l with
  |.str s::r=>some (s,r)
  |_=>none
 |.list t,l=>match l with
  |.lst t' x false::r=>if h:t'=t then some (WL h x,r) else none
  |_=>none
 |.pair a b,l=>match exC a l with
  |some (x,l1)=>match exC b l1 with
   |some (y,l2)=>some ((x,y),l2)
   |none=>none
  |none=>none
theorem zr8:∀(t:Ty) {l r:List SV} {x:T t},exC t l=some (x,r)→l=yR t x++r
 |.unit,l,r,x,h=>by simp only [exC] at h;cases h;rfl
 |.bool,l,r,x,h=>by
  simp only [exC] at h
  split at h
  ·cases h;rfl
  ·cases h
 |.int k,l,r,x,h=>by
  simp only [exC] at h
  split at h
  ·obtain ⟨hk,h2⟩:=zE h
   have:=Wd hk
   subst this
   clear h
   cases h2
   rfl
  ·cases h
 |.str,l,r,x,h=>by
  simp only [exC] at h
  split at h
  ·cases h;rfl
  ·cases h
 |.list t,l,r,x,h=>by
  simp only [exC] at h
  split at h
  ·split at h
   ·rename_i ht
    subst ht
    cases h;rfl
   ·cases h
  ·cases h
 |.pair a b,l,r,x,h=>by
  simp only [exC] at h
  split at h
  case h_2=>cases h
  rename_i h1
  split at h
  case h_2=>cases h
  rename_i h2
  cases h
  rw [zr8 a h1,zr8 b h2]
  simp [yR]
def exV (ag:Bool) (t:Ty) (v:SV):Option (T t):=match ag,v with
 |true,.agg cs=>match exC t cs with
  |some (x,[])=>some x
  |_=>none
 |false,.agg _=>none
 |false,v=>match exC t [v] with
  |some (x,[])=>some x
  |_=>none
 |_,_=>none
theorem zmB (ρ:Nat→Value) {ag:Bool} {t:Ty} (h:(ag||Nat.beq (sz t) 1)=true) (x:T t):den ρ (mkV ⟨ag,t⟩ x)=mvV ag t x:=by
 cases ag with
 |true=>simp [mkV,mvV,wS,den,qD,yC]
 |false=>
  have h1:sz t=1:=Nat.eq_of_beq_eq_true (by simpa using h)
  have h2:=XL t x
  have h3:=yC ρ t x
  rw [h1] at h2
  match hl:yR t x,h2 with
  |[v],_=>
   rw [hl] at h3
   simp [mkV,mvV,hl,mk1,←h3]
theorem zHn {ag:Bool} {t:Ty} {v:SV} {x:T t} (h:exV ag t v=some x) (ρ:Nat→Value) (hs:(ag||Nat.beq (sz t) 1)=true):den ρ v=mvV ag t x:=by
 rw [←zmB ρ hs x]
 unfold exV at h
 split at h
 ·split at h
  ·rename_i h1
   cases h
   have:=zr8 t h1
   rw [List.append_nil] at this
   subst this
   rfl
  ·cases h
 ·cases h
 ·split at h
  ·rename_i h1
   cases h
   have:=zr8 t h1
   rw [List.append_nil] at this
   simp only [mkV,cond_false,←this]
   rfl
  ·cases h
 ·cases h
def vtT (P:Program) (et:TypeId):Option (Bool×Ty):=match jl P et,zmu P 30 et with
 |some d,some t=>some (JZ d,t)
 |_,_=>none
def zr9:Value→Bool
 |.agg _=>true
 |_=>false
def zCd (P:Program) (et:TypeId) (ag:Bool) (t:Ty):Bool:=match jo P et with
 |some i=>match i.zero with
  |some z=>ze2 P et t&&(av z&&(bif ag then zr9 z else !zr9 z&&Nat.beq (sz t) 1))
  |none=>false
 |none=>false
theorem zE9 {et:TypeId} {ag:Bool} {t:Ty} (h:zCd P et ag t=true):∃i z,jo P et=some i∧i.zero=some z∧av z=true∧(ag||Nat.beq (sz t) 1)=true∧∀(φ:Ren) v',zt φ z v'→zt φ (mvV ag t (UU t)) v':=by
 unfold zCd at h
 split at h
 case h_2=>cases h
 rename_i i hi
 split at h
 case h_2=>cases h
 rename_i z hz
 simp only [Bool.and_eq_true] at h
 obtain ⟨h1,h2,h3⟩:=h
 obtain ⟨i',z',e1,e2,e3,e4,e5,e6,e7⟩:=zjH h1
 have hi2:P.info? et=some i:=by rw [←jw];exact hi
 rw [hi2] at e1;cases e1
 rw [hz] at e2;cases e2
 cases ag with
 |true=>
  simp only [cond_true] at h3
  refine ⟨i,z,hi,hz,h2,by simp,fun φ v' hv=>?_⟩
  cases z<;>simp [zr9] at h3
  rename_i cs
  obtain ⟨ys,rfl,hl⟩:=hv.agg_inv
  simp only [mvV,cond_true,wS]
  exact .agg' (by simpa using e7 φ ys.toList (by simpa [Value.cells] using hl))
 |false=>
  simp only [cond_false,Bool.and_eq_true,Bool.not_eq_true'] at h3
  refine ⟨i,z,hi,hz,h2,by simpa using h3.2,fun φ v' hv=>?_⟩
  have hs:sz t=1:=Nat.eq_of_beq_eq_true h3.2
  have hc:z.cells=#[z]:=by
   cases z<;>simp [zr9] at h3<;>rfl
  have h4:=e7 φ [v'] (by rw [hc];exact ⟨hv,trivial⟩)
  have h5:=jP t (UU t)
  rw [hs] at h5
  simp only [mvV,cond_false]
  match hl:qv t (UU t),h5 with
  |[u],_=>
   rw [hl] at h4
   exact h4.1
def zsa (P:Program) (kt:TypeId):Bool:=match jl P kt with
 |some d=>Vp d
 |none=>false
theorem zpA {kt:TypeId} (h:zsa P kt=true):∃d,jl P kt=some (.int d):=by
 unfold zsa at h
 split at h
 ·rename_i d hd
  cases d<;>simp [Vp] at h
  exact ⟨_,hd⟩
 ·cases h
def zyL (P:Program) (H:SH) (nx:Nat) (t:TypeId) (k:KO R):Option R:=match jl P t with
 |some (.map kt et)=>match jl P kt,vtT P et with
  |some (.int kk),some (ag,ty)=>match YN H nx (.mpb kk ag ty []) with
   |some H'=>k (.mp nx) H' (nx+1)
   |none=>none
  |_,_=>none
 |_=>none
theorem zDy {rd:Option Nat} {o:Oper} {tm:List SV} {H:SH} {nx:Nat} {k:KO R} {r:R} {t:TypeId} (ho:o.op=.makeMap t none) (h:zyL P H nx t k=some r):Zr P rd o tm H nx k r:=by
 unfold zyL at h
 split at h
 case h_2=>cases h
 split at h
 case h_2=>cases h
 rename_i kk ag ty _ _
 split at h
 case h_2=>cases h
 rename_i H' hn
 obtain ⟨e1,rfl⟩:=uK hn
 refine uT (nx':=nx+1) ⟨kR e1,gX e1,Nat.le_succ _,fun ν hv=>⟨YO hv,WN (gm (v:=.map (some nx)) (H':=(nx,.mp [] 0)::zH ν H) (nx':=nx+1) (by unfold wG;simp only [ho])) (fun φ v' hv=>by simpa [den] using hv) (fun φ K w g=>?_)⟩⟩ h
 exact zap e1 (x:=.mp [] 0) rfl g
def zCe (P:Program) (tm:List SV) (H:SH) (nx:Nat) (t:TypeId) (x j:Operand) (c:Bool) (k:KO R):Option R:=match jY tm H x,jY tm H j with
 |some (.mp b),some (.int k' n)=>match zn H b,jl P t with
  |some (.mpb kk ag ty l),some (.map kt et)=>bif Yi kk k'&&(zsa P kt&&zCd P et ag ty) then
    match mkV ⟨ag,ty⟩ (mpD l n (UU ty)) with
    |v=>k (bif c then .tup [v,.bool (mpH l n)] else v) H nx
   else none
  |_,_=>none
 |_,_=>none
theorem zFa {rd:Option Nat} {o:Oper} {tm:List SV} {H:SH} {nx:Nat} {k:KO R} {r:R} {t:TypeId} {x j:Operand} {c:Bool} (ho:o.op=.lookup t x j c) (h:zCe P tm H nx t x j c k=some r):Zr P rd o tm H nx k r:=by
 unfold zCe at h
 split at h
 case h_2=>cases h
 rename_i b k' n hx hj
 split at h
 case h_2=>cases h
 rename_i kk ag ty l kt et hb hu
 have h6:=zE h
 clear h
 obtain ⟨hh,h⟩:=h6
 simp only [Bool.and_eq_true] at hh
 obtain ⟨h1,h2,h3⟩:=hh
 have:=Wd h1
 subst this
 obtain ⟨d,hd⟩:=zpA h2
 obtain ⟨i,z,e1,e2,e3,e4,e5⟩:=zE9 h3
 dsimp only at h
 refine uT ⟨wJ.refl H,wR.refl H,Nat.le_refl _,fun ν hv=>⟨hv,?_⟩⟩ h
 have hg:(zH ν H).get b=some (.mp (Zk kk ag ty l 0) l.length):=by rw [zU,hb];rfl
 have hdl:∃v,zfj P (zH ν H) t (.map (some b)) (.int kk n) c=some v∧∀φ v',zt φ v v'→zt φ (den (rho ν H) (bif c then .tup [mkV ⟨ag,ty⟩ (mpD l n (UU ty)),.bool (mpH l n)] else mkV ⟨ag,ty⟩ (mpD l n (UU ty)))) v':=by
  unfold zfj
  simp only [hu,hd,e1,zBK,hg,e2,Vp,YJ,e3,Bool.and_self,if_true,zmy]
  rw [zF8]
  cases hi:mpI l n with
  |none=>
   rw [zyK n _ l hi]
   simp only [Option.map_none]
   refine ⟨_,rfl,fun φ v' hv=>?_⟩
   cases c with
   |false=>simpa only [Bool.false_eq_true,if_false,cond_false,zmB _ e4] using e5 φ v' (by simpa using hv)
   |true=>
    simp only [if_true] at hv
    obtain ⟨ys,rfl,hl⟩:=hv.tuple_inv
    simp only [cond_true,den,zu,zmB _ e4]
    refine .tuple' ?_
    match ys.toList,hl with
    |[a,b],hl=>exact ⟨e5 φ a hl.1,hl.2.1,trivial⟩
    |[],hl=>exact hl.elim
    |[_],hl=>exact hl.2.elim
    |_::_::_::_,hl=>exact hl.2.2.elim
  |some s=>
   simp only [Option.map_some]
   refine ⟨_,rfl,fun φ v' hv=>?_⟩
   cases c with
   |false=>simpa only [Bool.false_eq_true,if_false,cond_false,zmB _ e4] using hv
   |true=>simpa only [if_true,cond_true,den,zu,zmB _ e4,Option.isSome_some] using hv
 obtain ⟨v,f1,f2⟩:=hdl
 refine WN (gm (v:=v) (H':=zH ν H) (nx':=nx) ?_) (fun φ v' hv=>f2 φ v' hv) (fun φ K w g=>g)
 unfold wG
 simp only [ho,qc hx ν,qc hj ν,Option.bind_some,den,f1]
 rfl
def zou (P:Program) (tm:List SV) (H:SH) (nx:Nat) (t:TypeId) (m j x:Operand) (k:KO R):Option R:=match jY tm H m,jY tm H j,jY tm H x with
 |some (.mp b),some (.int k' n),some v=>match zn H b,jl P t with
  |some (.mpb kk ag ty l),some (.map kt et)=>bif Yi kk k'&&(zsa P kt&&(ag||Nat.beq (sz ty) 1)) then
    match exV ag ty v with
    |some y=>k (.tup []) (yd H b (.mpb kk ag ty (mpP l n y))) nx
    |none=>none
   else none
  |_,_=>none
 |_,_,_=>none
theorem zsb {rd:Option Nat} {o:Oper} {tm:List SV} {H:SH} {nx:Nat} {k:KO R} {r:R} {t:TypeId} {m j x:Operand} (ho:o.op=.mapUpdate t m j x∨o.op=.insert t m j x) (h:zou P tm H nx t m j x k=some r):Zr P rd o tm H nx k r:=by
 unfold zou at h
 split at h
 case h_2=>cases h
 rename_i b k' n v hm hj hx
 split at h
 case h_2=>cases h
 rename_i kk ag ty l kt et hb hu
 have h6:=zE h
 clear h
 obtain ⟨hh,h⟩:=h6
 simp only [Bool.and_eq_true] at hh
 obtain ⟨h1,h2,h3⟩:=hh
 have:=Wd h1
 subst this
 obtain ⟨d,hd⟩:=zpA h2
 split at h
 case h_2=>cases h
 rename_i y hy
 have hreg:∀c,reg (zn (yd H b (.mpb kk ag ty (mpP l n y))) c)=reg (zn H c):=fun c=>by
  rw [qZ]
  by_cases hc:c=b
  ·subst hc;simp [hb,reg]
  ·rw [if_neg hc]
 have hnn:∀c,jv (zn (yd H b (.mpb kk ag ty (mpP l n y))) c)=true→jv (zn H c)=true:=fun c hc=>by
  rw [qZ] at hc
  by_cases hcb:c=b
  ·subst hcb;simp [hb,jv] at hc
  ·rwa [if_neg hcb] at hc
 refine uT ⟨fun c z hz=>by rw [hreg c];exact hz,zao hb (fun L=>by simp),Nat.le_refl _,fun ν hv=>⟨Jh hreg hnn hv,?_⟩⟩ h
 have hg:(zH ν H).get b=some (.mp (Zk kk ag ty l 0) l.length):=by rw [zU,hb];rfl
 have hden:=zHn hy (rho ν H) h3
 have hup:zcf P (zH ν H) t (.map (some b)) (.int kk n) (den (rho ν H) v)=some ((zH ν H).set b (.mp (Zk kk ag ty (mpP l n y) 0) (mpP l n y).length)):=by
  unfold zcf
  simp only [hu,hd,hg,Vp,YJ,Bool.and_self,if_true,zmy,hden]
  cases hi:mpI l n with
  |none=>
   obtain ⟨q1,q2⟩:=zmz (k:=kk) (ag:=ag) (x:=y) l 0 hi
   simp only [Option.map_none]
   rw [q1,q2,Nat.zero_add]
  |some s=>
   obtain ⟨u,b0,q1,q2,q3⟩:=zmA (k:=kk) (ag:=ag) (x:=y) l 0 s hi
   simp only [Option.map_some,Nat.zero_add,q1]
   rw [q2,q3]
   simp [zxK]
 refine WN (gm (v:=undef) (H':=(zH ν H).set b (.mp (Zk kk ag ty (mpP l n y) 0) (mpP l n y).length)) (nx':=nx) ?_) (fun φ v' hv=>by simpa [den,zu,undef] using hv) (fun φ K w g=>g.sub fun c k' hc=>?_)
 ·unfold wG
  rcases ho with ho | ho<;>
  ·simp only [ho,qc hm ν,qc hj ν,qc hx ν,Option.bind_some,den,hup]
   rfl
 ·rw [zU,qZ,xL hreg] at hc
  rw [Hp.get_set]
  by_cases hcb:c=b
  ·subst hcb
   simp [hb,qa] at hc
   rw [if_pos rfl,hg]
   simp [hc]
  ·rw [if_neg hcb] at hc ⊢
   rw [zU];exact hc
def lsS (l:List SV) (i:Nat) (v:SV):List SV:=List.rec (motive:=fun _=>Nat→List SV) (fun _=>[]) (fun x r ih i=>Nat.rec (motive:=fun _=>List SV) (v::r) (fun m _=>x::ih m) i) l i
theorem Zm (v:SV):∀(l:List SV) (i:Nat),lsS l i v=l.set i v
 |[],_=>by simp [lsS]
 |x::l,0=>rfl
 |x::l,i+1=>by
  show x::lsS l i v=_
  rw [Zm v l i];simp
def zaO (tm:List SV) (d:Option Tmp) (v:SV):List SV:=match d with
 |some d=>lsS tm d v
 |none=>tm
def zFb (H:SH) (tm:List SV):Operand→List SV
 |.tmp t=>match gl tm t with
  |some (.own b)=>match zn H b with
   |some (.fro _ ty l)=>bif Nat.blt 0 (sz ty) then lsS tm t (.lst ty l false) else tm
   |_=>tm
  |_=>tm
 |_=>tm
def zmC (H:SH) (tm:List SV):List Operand→List SV
 |[]=>tm
 |x::r=>zmC H (zFb H tm x) r
theorem zFc {ν:Nat→Bool} {nx:Nat} {H:SH} (hv:VN ν nx H) (g:zI φ (zH ν H) K w) {tm:List SV} {x:Operand} {ts:Array Value} (ht:qX φ (zu (rho ν H) tm) ts):qX φ (zu (rho ν H) (zFb H tm x)) ts:=by
 unfold zFb
 split
 case h_2=>exact ht
 rename_i t
 split
 case h_2=>exact ht
 rename_i b hb
 split
 case h_2=>exact ht
 rename_i ty l hf
 cases hs:Nat.blt 0 (sz ty) with
 |false=>exact ht
 |true=>
  rw [cond_true,Zm]
  rw [xQ] at hb
  refine ⟨by rw [←ht.1,wL,wL,List.length_set],fun i v hv2=>?_⟩
  rw [wZ,Option.map_eq_some_iff] at hv2
  obtain ⟨u,hu,rfl⟩:=hv2
  rw [List.getElem?_set] at hu
  by_cases hti:t=i
  ·subst hti
   have hlt:=(List.getElem?_eq_some_iff.1 hb).1
   simp [hlt] at hu
   subst hu
   rcases ht.2 t (den (rho ν H) (.own b)) (by rw [wZ,hb];rfl) with h0 | ⟨v',h1,h2⟩
   ·simp only [den] at h0
    exact absurd h0 (gn ν H b)
   ·right
    refine ⟨v',h1,?_⟩
    simp only [den] at h2 ⊢
    exact ziy g hv hf (zdh hs) h2
  ·rw [if_neg hti] at hu
   exact ht.2 i _ (by rw [wZ,hu];rfl)
theorem zyM {ν:Nat→Bool} {nx:Nat} {H:SH} (hv:VN ν nx H) (g:zI φ (zH ν H) K w):∀{xs:List Operand} {tm:List SV} {ts:Array Value},qX φ (zu (rho ν H) tm) ts→qX φ (zu (rho ν H) (zmC H tm xs)) ts
 |[],_,_,ht=>ht
 |x::r,tm,ts,ht=>zyM hv g (xs:=r) (zFc hv g ht)
theorem zyN {r:Option Nat} {o:Oper} {tm tm2:List Value} {H H2 H':Hp} {nx nx':Nat} {v:Value} (h:Uw P r o tm2 H2 nx v H' nx') (hg:∀φ K w,zI φ H K w→zI φ H2 K w) (ht:∀φ K w,zI φ H K w→∀ts,qX φ tm ts→qX φ tm2 ts):Uw P r o tm H nx v H' nx':=
 ⟨h.1,fun φ w K a rc next Q g hf htm hr hk=>h.2 φ w K a rc next Q (hg _ _ _ g) hf (ht _ _ _ g _ htm) hr hk⟩
theorem zGO {rd:Option Nat} {o:Oper} {tm:List SV} {H H':SH} {nx nx':Nat} {v:SV} {xs:List Operand} (h:SOp P rd o (zmC H tm xs) H nx v H' nx'):SOp P rd o tm H nx v H' nx':=by
 obtain ⟨h1,h2,h3,h4⟩:=h
 refine ⟨h1,h2,h3,fun ν hv=>?_⟩
 obtain ⟨e1,e2⟩:=h4 ν hv
 exact ⟨e1,zyN e2 (fun _ _ _ g=>g) fun φ K w g ts ht=>zyM hv g ht⟩
theorem zjJ {rd:Option Nat} {o:Oper} {tm:List SV} {H:SH} {nx:Nat} {k:KO R} {r:R} {xs:List Operand} (h:Zr P rd o (zmC H tm xs) H nx k r):Zr P rd o tm H nx k r:=by
 obtain ⟨v,H',nx',h1,h2⟩:=h
 exact ⟨v,H',nx',zGO h1,h2⟩
def zyO (P:Program) (tm:List SV) (H:SH) (nx:Nat) (b:Builtin) (args:Array Operand) (ats:Array TypeId) (k:KO R):Option R:=match b,args,ats with
 |.len,⟨[x]⟩,⟨[t]⟩=>zEY P tm H nx t x k
 |.append,⟨[s,x]⟩,⟨[t,u]⟩=>bif Nat.beq t u then zE6 P (zmC H tm [s,x]) H nx t s x k else none
 |.copy,⟨[d,x]⟩,⟨[t,_]⟩=>zCc P (zmC H tm [x]) H nx t d x k
 |_,_,_=>none
def zF9 (P:Program) (tm:List SV) (H:SH) (nx:Nat) (o:Oper) (k:KO R):Option R:=match o.op with
 |.pick c a b=>zB4 tm H nx c a b k
 |.binOp op t x y _=>bif zA8 tm H x y then zB8 P tm H nx op t x y k else zEW tm H nx op x y k
 |.indexAddr t x i=>zum P (zmC H tm [x]) H nx t x i k
 |.index t x i=>zyD P tm H nx t x i k
 |.load t a=>zB6 P tm H nx t a k
 |.store t a x=>zCb P tm H nx t a x k
 |.slice t x lo hi mx=>zyE P (zmC H tm [x]) H nx t x lo hi mx k
 |.makeSlice t l c=>zB9 P tm H nx t l c k
 |.buildSlice t n ps=>match zE4 P tm H nx t n ps.toList with
  |some (v,H')=>k v H' (nx+1)
  |none=>zE1 P tm H nx t n ps.toList k
 |.call {callee:=.builtin b,args,argTypes}=>zyO P tm H nx b args argTypes k
 |.makeMap t none=>zyL P H nx t k
 |.lookup t x i c=>zCe P tm H nx t x i c k
 |.mapUpdate t m i x=>zou P tm H nx t m i x k
 |.insert t m i x=>zou P tm H nx t m i x k
 |_=>none
def zFd (P:Program) (tm:List SV) (H:SH) (nx:Nat) (o:Oper) (k:KO R):Option R:=match zB3 P tm H nx o with
 |some (v,H',nx')=>k v H' nx'
 |none=>zF9 P tm H nx o k
theorem zGP {rd:Option Nat} {o:Oper} {tm:List SV} {H:SH} {nx:Nat} {k:KO R} {r:R} (h:zFd P tm H nx o k=some r):Zr P rd o tm H nx k r:=by
 unfold zFd at h
 split at h
 ·rename_i v H' nx' h0
  exact uT (zGz h0) h
 ·unfold zF9 at h
  split at h
  ·rename_i ho;exact zEV ho h
  ·rename_i op t x y u ho
   cases hq:zA8 tm H x y with
   |true=>rw [hq] at h;exact zEZ ho h
   |false=>rw [hq] at h;exact zGE ho h
  ·rename_i ho;exact zjJ (zB5 ho h)
  ·rename_i ho;exact zDr ho h
  ·rename_i ho;exact zEX ho h
  ·rename_i ho;exact zE2 ho h
  ·rename_i ho;exact zjJ (zDt ho h)
  ·rename_i ho;exact zE0 ho h
  ·rename_i ho
   split at h
   ·rename_i v H' hl;exact uT (zGK ho hl) h
   ·exact zGI ho h
  ·rename_i b args ats ho
   unfold zyO at h
   split at h
   ·exact zGH ho h
   ·have h6:=zE h
    obtain ⟨h7,h8⟩:=h6
    have:=Nat.eq_of_beq_eq_true h7
    subst this
    exact zjJ (zGN ho h8)
   ·exact zjJ (zE5 ho h)
   ·cases h
  ·rename_i ho;exact zDy ho h
  ·rename_i ho;exact zFa ho h
  ·rename_i ho;exact zsb (.inl ho) h
  ·rename_i ho;exact zsb (.inr ho) h
  ·cases h
structure VL where
 e:Exit
 tm:List SV
 ds:List Nat
 H:SH
 nx:Nat
abbrev KC (R:Type):=VL→Option R
def VM:List Oper→List Nat
 |[]=>[]
 |o::r=>match o.dst with
  |some d=>d::VM r
  |none=>VM r
def asg:Code→List Nat
 |.region _ ops _=>VM ops.toList
 |.seq a b=>asg a++asg b
 |.cond _ a b=>asg a++asg b
 |.block _ c=>asg c
 |.loop c=>asg c
 |.scope c=>asg c
 |_=>[]
def Qu (a:List Nat) (tm tm':List SV):Prop:=tm'.length=tm.length∧∀i,i∉a→tm'[i]?=tm[i]?
theorem Qu.refl (a:List Nat) (tm:List SV):Qu a tm tm:=⟨rfl,fun _ _=>rfl⟩
theorem Qu.trans {a b c:List Nat} {t t' t'':List SV} (h:Qu a t t') (k:Qu b t' t'') (ha:∀i∈a,i∈c) (hb:∀i∈b,i∈c):Qu c t t'':=
 ⟨k.1.trans h.1,fun i hi=>(k.2 i fun e=>hi (hb i e)).trans (h.2 i fun e=>hi (ha i e))⟩
theorem Qu.mono {a b:List Nat} {t t':List SV} (h:Qu a t t') (ha:∀i∈a,i∈b):Qu b t t':=⟨h.1,fun i hi=>h.2 i fun e=>hi (ha i e)⟩
def zcm (ν:Nat→Bool) (R:VL):Res:=⟨R.e,zu (rho ν R.H) R.tm,R.ds,zH ν R.H,R.nx⟩
def JQ (P:Program) (rd:Option Nat) (c:Code) (tm:List SV) (ds:List Nat) (H:SH) (nx:Nat) (R:VL):Prop:=
 wJ H R.H∧wR H R.H∧Qu (asg c) tm R.tm∧nx≤R.nx∧∀ν,VN ν nx H→VN ν R.nx R.H∧jy P rd c (zu (rho ν H) tm) ds (zH ν H) nx (zcm ν R)
def zHZ (P:Program) (rd:Option Nat) (ops:Array Oper) (l:List Nat) (zH7:List Nat) (tm:List SV) (H:SH) (nx:Nat) (tm':List SV) (H':SH) (nx':Nat):Prop:=
 wJ H H'∧wR H H'∧Qu zH7 tm tm'∧nx≤nx'∧∀ν,VN ν nx H→VN ν nx' H'∧zeT P rd ops l (zu (rho ν H) tm) (zH ν H) nx (zu (rho ν H') tm') (zH ν H') nx'
theorem zyP (ρ:Nat→Value) (tm:List SV) (d:Option Tmp) (v:SV):zu ρ (zaO tm d v)=Zq (zu ρ tm) d (den ρ v):=by
 cases d with
 |none=>rfl
 |some d=>rw [zde];simp only [zaO,Zm,qD,List.map_set]
theorem zFe {ν:Nat→Bool} {H H1:SH} (hr:wJ H H1) {tm:List SV} {d:Option Tmp} {v:SV} {ts:Array Value} (h:qX φ (Zq (zu (rho ν H) tm) d (den (rho ν H1) v)) ts):qX φ (zu (rho ν H1) (zaO tm d v)) ts:=by
 cases d with
 |none=>exact zqd ν hr h
 |some d=>
  rw [zde] at h
  rw [zyP,zde]
  refine ⟨by simpa [wL] using h.1,fun i u hu=>?_⟩
  rw [List.getElem?_set] at hu
  by_cases hdi:d=i
  ·subst hdi
   rw [if_pos rfl] at hu
   split at hu
   ·cases hu
    rename_i hlt
    refine h.2 d _ ?_
    rw [List.getElem?_set,if_pos rfl,if_pos (by simpa [wL] using hlt)]
   ·cases hu
  ·rw [if_neg hdi] at hu
   rw [wZ,Option.map_eq_some_iff] at hu
   obtain ⟨x,hx,rfl⟩:=hu
   rcases h.2 i (den (rho ν H) x) (by rw [List.getElem?_set,if_neg hdi,wZ,hx];rfl) with h0 | ⟨v',h1,h2⟩
   ·exact .inl (zjB (gn ν H) h0)
   ·exact .inr ⟨v',h1,zck (zfp ν hr) x v' h2⟩
theorem zg8 (tm:List SV) (d:Option Tmp) (v:SV):Qu d.toList tm (zaO tm d v):=by
 cases d with
 |none=>exact Qu.refl _ _
 |some d=>
  simp only [zaO,Zm]
  refine ⟨by simp,fun i hi=>?_⟩
  rw [List.getElem?_set,if_neg]
  simpa using fun e:d=i=>hi (by simp [e])
theorem zDz {r:Option Nat} {ops:Array Oper} {l:List Nat} {tm tm2 tm':List Value} {H H':Hp} {nx nx':Nat} (h:zeT P r ops l tm2 H nx tm' H' nx') (ht:∀φ ts,qX φ tm ts→qX φ tm2 ts):zeT P r ops l tm H nx tm' H' nx':=
 ⟨h.1,fun φ w K a rc Q g hf htm hr hk=>h.2 φ w K a rc Q g hf (ht _ _ htm) hr hk⟩
def zsc (ops:Array Oper) (tm:List SV) (o:Oper) (y n:List SV→Option R):Option R:=match o.guard with
 |none=>y tm
 |some (j,want)=>match gl ops.toList j with
  |some p=>match p.dst with
   |some d=>match gl tm d with
    |some (.bool b)=>bif b then (bif want then y (lsS tm d (.bool true)) else n (lsS tm d (.bool true))) else (bif want then n (lsS tm d (.bool false)) else y (lsS tm d (.bool false)))
    |some (.tup _)=>n tm
    |_=>none
   |none=>none
  |none=>none
theorem zFf {tm:List SV} {d:Nat} {v:SV} (h:tm[d]?=some v):lsS tm d v=tm:=by
 rw [Zm]
 obtain ⟨h1,h2⟩:=List.getElem?_eq_some_iff.1 h
 rw [←h2];exact List.set_getElem_self h1
theorem zyQ {ops:Array Oper} {tm:List SV} {o:Oper} {y n:List SV→Option R} {r:R} (h:zsc ops tm o y n=some r) :
  ((∀tmv:List Value,(∀(i:Nat) u,tm[i]?=some u→∃ρ,tmv[i]?=some (den ρ u))→ue ops tmv o=some true)∧y tm=some r)∨((∀tmv:List Value,(∀(i:Nat) u,tm[i]?=some u→∃ρ,tmv[i]?=some (den ρ u))→ue ops tmv o=some false)∧n tm=some r):=by
 unfold zsc at h
 unfold ue
 split at h
 ·rename_i hg
  exact .inl ⟨fun tmv _=>by simp only [hg],h⟩
 ·rename_i j want hg
  split at h
  case h_2=>cases h
  rename_i p hp
  split at h
  case h_2=>cases h
  rename_i d hd
  rw [xQ,Array.getElem?_toList] at hp
  have hj:(ops[j]?).bind (·.dst)=some d:=by rw [hp];exact hd
  split at h
  ·rename_i b hb
   rw [xQ] at hb
   have h1:∀tmv:List Value,(∀(i:Nat) u,tm[i]?=some u→∃ρ,tmv[i]?=some (den ρ u))→tmv[d]?=some (.bool b):=fun tmv hm=>by
    obtain ⟨ρ,h2⟩:=hm d _ hb
    rw [h2];simp [den]
   cases b<;>simp only [cond_true,cond_false] at h<;>rw [zFf hb] at h<;>cases want<;>simp only [cond_true,cond_false] at h<;>first
    |exact .inl ⟨fun tmv hm=>by simp only [hg,hj,Option.bind_some,zeO,h1 tmv hm];rfl,h⟩
    |exact .inr ⟨fun tmv hm=>by simp only [hg,hj,Option.bind_some,zeO,h1 tmv hm];rfl,h⟩
  ·rename_i vs hb
   rw [xQ] at hb
   refine .inr ⟨fun tmv hm=>?_,h⟩
   obtain ⟨ρ,h2⟩:=hm d _ hb
   simp only [hg,hj,Option.bind_some,zeO,h2,den]
  ·cases h
theorem zCf {ops:Array Oper} {tm:List SV} {o:Oper} {y n:List SV→Option R} {r:R} (h:zsc ops tm o y n=some r):((∀ρ,ue ops (zu ρ tm) o=some true)∧y tm=some r)∨((∀ρ,ue ops (zu ρ tm) o=some false)∧n tm=some r):=by
 have hd:∀(ρ:Nat→Value) (i:Nat) (u:SV),tm[i]?=some u→∃ρ',(zu ρ tm)[i]?=some (den ρ' u):=fun ρ i u hu=>⟨ρ,by rw [wZ,hu];rfl⟩
 rcases zyQ h with ⟨h1,h2⟩ | ⟨h1,h2⟩
 ·exact .inl ⟨fun ρ=>h1 _ (hd ρ),h2⟩
 ·exact .inr ⟨fun ρ=>h1 _ (hd ρ),h2⟩
def zyR (op:List SV→SH→Nat→Oper→KO R→Option R) (ops:Array Oper):List Oper→List SV→SH→Nat→(List SV→SH→Nat→Option R)→Option R
 |[],tm,H,nx,k=>k tm H nx
 |o::l,tm,H,nx,k=>zsc ops tm o
  (fun tm=>op tm H nx o fun v H1 nx1=>zyR op ops l (zaO tm o.dst v) H1 nx1 k)
  (fun tm=>zyR op ops l (zaO tm o.dst (.tup [])) H nx k)
def OpS (P:Program) (rd:Option Nat) (op:List SV→SH→Nat→Oper→KO R→Option R):Prop:=∀{tm H nx o k r},op tm H nx o k=some r→Zr P rd o tm H nx k r
theorem zun {op:List SV→SH→Nat→Oper→KO R→Option R} {rd:Option Nat} (hop:OpS P rd op) {ops:Array Oper}:∀{l:List Oper} {j:Nat} {tm:List SV} {H:SH} {nx:Nat} {k:List SV→SH→Nat→Option R} {r:R},(∀i:Nat,l[i]?=ops[j+i]?)→zyR op ops l tm H nx k=some r→
  ∃tm' H' nx',zHZ P rd ops (List.range' j l.length) (VM l) tm H nx tm' H' nx'∧k tm' H' nx'=some r
 |[],j,tm,H,nx,k,r,_,h=>⟨tm,H,nx,⟨wJ.refl H,wR.refl H,Qu.refl _ _,Nat.le_refl _,fun ν hv=>⟨hv,zC6⟩⟩,h⟩
 |o::l,j,tm,H,nx,k,r,hl,h=>by
  have h0:ops[j]?=some o:=by simpa using (hl 0).symm
  have hl':∀i:Nat,l[i]?=ops[j+1+i]?:=fun i=>by have:=hl (i+1);simpa [Nat.add_assoc,Nat.add_comm 1 i] using this
  have hin1:∀i∈o.dst.toList,i∈VM (o::l):=fun i hi=>by
   unfold VM
   cases hd:o.dst with
   |none=>rw [hd] at hi;cases hi
   |some d=>rw [hd] at hi;simp at hi;subst hi;simp
  have hin2:∀i∈VM l,i∈VM (o::l):=fun i hi=>by
   show i∈(match o.dst with | some d=>d::VM l | none=>VM l)
   cases o.dst with
   |none=>exact hi
   |some d=>exact List.mem_cons_of_mem _ hi
  simp only [zyR] at h
  rw [List.length_cons,List.range'_succ]
  rcases zCf h with ⟨hw,h1⟩ | ⟨hw,h1⟩
  ·obtain ⟨v,H1,nx1,⟨s1,s2,s3,s4⟩,h2⟩:=hop h1
   obtain ⟨tm',H',nx',⟨t1,t2,t3,t4,t5⟩,h3⟩:=zun hop hl' h2
   refine ⟨tm',H',nx',⟨s1.trans t1,s2.trans t2,(zg8 tm o.dst v).trans t3 hin1 hin2,Nat.le_trans s3 t4,fun ν hv=>?_⟩,h3⟩
   obtain ⟨v1,o1⟩:=s4 ν hv
   obtain ⟨v2,o2⟩:=t5 ν v1
   exact ⟨v2,zBQ h0 (hw _) o1 (zDz o2 fun φ ts ht=>zFe s1 ht)⟩
  ·obtain ⟨tm',H',nx',⟨t1,t2,t3,t4,t5⟩,h3⟩:=zun hop hl' h1
   refine ⟨tm',H',nx',⟨t1,t2,(zg8 tm o.dst _).trans t3 hin1 hin2,t4,fun ν hv=>?_⟩,h3⟩
   obtain ⟨v2,o2⟩:=t5 ν hv
   exact ⟨v2,zBR h0 (hw _) (by rw [zyP] at o2;simpa [den,zu,undef] using o2)⟩
def ZS (x0 x:Blk):Prop:=match x0,x with
 |.cells ds r,.cells cs r'=>r=r'∧∀(j:Nat) v,cs[j]?=some v→∃u,ds[j]?=some u∧∀φ v',zt φ u v'→zt φ v v'
 |.loop A,.loop B=>B.state=A.state∧B.pending=A.pending∧B.params=A.params∧B.assign=A.assign∧B.body=A.body∧B.defers=A.defers∧∀φ ts,qX φ A.tmps.toList ts→qX φ B.tmps.toList ts
 |a,b=>a=b
theorem ZS.refl (x:Blk):ZS x x:=by
 cases x with
 |cells cs r=>exact ⟨rfl,fun j v hv=>⟨v,hv,fun _ _ h=>h⟩⟩
 |loop A=>exact ⟨rfl,rfl,rfl,rfl,rfl,rfl,fun _ _ h=>h⟩
 |_=>rfl
theorem ZS.rel {x0 x:Blk} (h:ZS x0 x) {L:Loc} (hb:jO φ w L x0):jO φ w L x:=by
 unfold ZS at h
 split at h
 ·obtain ⟨rfl,h⟩:=h
  obtain ⟨arr,el,fr,e1,e2,e3⟩:=hb
  refine ⟨arr,el,fr,e1,fun j v hv=>?_,e3⟩
  obtain ⟨u,h1,h2⟩:=h j v hv
  obtain ⟨v',h3,h4⟩:=e2 j u h1
  exact ⟨v',h3,h2 φ v' h4⟩
 ·obtain ⟨h1,h2,h3,h4,h5,h6,h7⟩:=h
  obtain ⟨l',e1,e2,e3,e4,e5,e6,e7,D,e8,e9⟩:=hb
  exact ⟨l',e1,e2.trans h1.symm,e3.trans h2.symm,h7 _ _ e4,e5.trans h3.symm,e6.trans h4.symm,e7.trans h5.symm,D,by rw [h6];exact e8,e9⟩
 ·subst h;exact hb
theorem ZS.rw {x0 x:Blk} (h:ZS x0 x):x.rw=x0.rw:=by
 unfold ZS at h
 split at h
 ·obtain ⟨rfl,_⟩:=h;rfl
 ·rfl
 ·subst h;rfl
theorem ZS.seen {x0 x:Blk} (h:ZS x0 x) (wr:Nat→Bool) (b:Nat):ZS (uf wr (fun _=>false) b x0) (uf wr (fun _=>false) b x):=by
 unfold uf
 cases wr b with
 |true=>simpa using h
 |false=>
  simp only [Bool.false_eq_true,if_false]
  unfold ZS at h
  split at h
  ·exact ⟨rfl,h.2⟩
  ·rfl
  ·subst h
   exact ZS.refl _
theorem ZS.trans {x y z:Blk} (h:ZS x y) (k:ZS y z):ZS x z:=by
 cases x<;>cases y<;>simp only [ZS] at h<;>first | (cases h;done) | (cases h;exact k) | exact k | skip
 ·cases z<;>simp only [ZS] at k ⊢<;>first | (cases k;done) | skip
  obtain ⟨rfl,h⟩:=h
  obtain ⟨rfl,k⟩:=k
  refine ⟨rfl,fun j v hv=>?_⟩
  obtain ⟨u,h1,h2⟩:=k j v hv
  obtain ⟨t,h3,h4⟩:=h j u h1
  exact ⟨t,h3,fun φ v' hr=>h2 φ v' (h4 φ v' hr)⟩
 ·cases z<;>simp only [ZS] at k ⊢<;>first | (cases k;done) | skip
  obtain ⟨h1,h2,h3,h4,h5,h6,h7⟩:=h
  obtain ⟨k1,k2,k3,k4,k5,k6,k7⟩:=k
  exact ⟨k1.trans h1,k2.trans h2,k3.trans h3,k4.trans h4,k5.trans h5,k6.trans h6,fun φ ts ht=>k7 φ ts (h7 φ ts ht)⟩
theorem zyS {ρ ρ':Nat→Value} (hρ:∀b,ρ b≠Fz.junk) (h:RLe ρ ρ') {nil:Bool} {k:SB} {x':Blk} (hx:qa ρ' nil k=some x'):∃x,qa ρ nil k=some x∧ZS x x':=by
 have key:∀(cs:List SV) (ro:Bool),ZS (.cells (zu ρ cs) ro) (.cells (zu ρ' cs) ro):=fun cs ro=>⟨rfl,fun j v hv=>by
  rw [wZ,Option.map_eq_some_iff] at hv
  obtain ⟨u,hu,rfl⟩:=hv
  exact ⟨den ρ u,by rw [wZ,hu];rfl,fun φ v' hr=>zck h u v' hr⟩⟩
 cases k with
 |vars cs=>simp only [qa,Option.some.injEq] at hx;subst hx;exact ⟨_,rfl,key cs false⟩
 |ro cs=>simp only [qa,Option.some.injEq] at hx;subst hx;exact ⟨_,rfl,key cs true⟩
 |loop L=>
  simp only [qa,Option.some.injEq] at hx;subst hx
  exact ⟨_,rfl,rfl,rfl,rfl,rfl,rfl,rfl,fun φ ts ht=>by simpa [yx] using zmm hρ h (by simpa [yx] using ht)⟩
 |_=>exact ⟨x',hx,ZS.refl _⟩
def Mix (G H:Hp):Prop:=∀b x,H.get b=some x→∃x0,G.get b=some x0∧ZS x0 x
theorem Mix.refl (H:Hp):Mix H H:=fun b x h=>⟨x,h,ZS.refl x⟩
theorem Mix.trans {F G H:Hp} (h:Mix F G) (k:Mix G H):Mix F H:=fun b x hx=>by
 obtain ⟨y,h1,h2⟩:=k b x hx
 obtain ⟨z,h3,h4⟩:=h b y h1
 exact ⟨z,h3,h4.trans h2⟩
theorem Mix.good {G H:Hp} (h:Mix G H) (g:zI φ G K w):zI φ H K w:=by
 refine ⟨fun b k hb=>?_,fun b c k k' L L' hb hc hne hkr hL hL'=>?_,fun b k L hb hkr hL=>?_,g.kin,g.fz,fun b k L c M hb hkr hL hM=>?_⟩
 ·obtain ⟨x,h1,h2⟩:=h b k hb
  obtain ⟨L,hL,hB⟩:=g.rel b x h1
  exact ⟨L,hL,h2.rel hB⟩
 ·obtain ⟨x,h1,h2⟩:=h b k hb
  obtain ⟨y,h3,_⟩:=h c k' hc
  exact g.sep b c x y L L' h1 h3 hne (by rw [←h2.rw];exact hkr) hL hL'
 ·obtain ⟨x,h1,h2⟩:=h b k hb
  exact g.prot b x L h1 (by rw [←h2.rw];exact hkr) hL
 ·obtain ⟨x,h1,h2⟩:=h b k hb
  exact g.fsep b x L c M h1 (by rw [←h2.rw];exact hkr) hL hM
def roS:SB→SB
 |.vars cs=>.ro cs
 |.arr nn t l=>.roa nn t l
 |.loop _=>.hid
 |.defd=>.hid
 |.mpb _ _ _ _=>.hid
 |k=>k
def zFg:SB→SB
 |.arr nn t l=>.gone (rsz nn t l) l.length
 |.roa nn t l=>.gone (rsz nn t l) l.length
 |.fro nn t l=>.gone (rsz nn t l) l.length
 |.gone s n=>.gone s n
 |_=>.abs
def vL (l:List Nat) (b:Nat):Bool:=List.rec (motive:=fun _=>Bool) false (fun x _ ih=>bif Nat.beq x b then true else ih) l
def zmD (vis wr:List Nat) (b:Nat) (k:SB):SB:=bif vL vis b then (bif vL wr b then k else roS k) else zFg k
def zcZ (vis wr:List Nat):SH→SH
 |[]=>[]
 |(b,k)::r=>(b,zmD vis wr b k)::zcZ vis wr r
theorem WO (vis wr:List Nat) (n:Nat):∀H:SH,zn (zcZ vis wr H) n=(zn H n).map (zmD vis wr n)
 |[]=>rfl
 |(b,k)::r=>by
  simp only [zcZ,zK]
  by_cases hb:b=n
  ·subst hb;simp
  ·rw [if_neg hb,if_neg hb];exact WO vis wr n r
theorem ziB (vis wr:List Nat) (b:Nat) (k:Option SB):reg (k.map (zmD vis wr b))=reg k:=by
 cases k with
 |none=>rfl
 |some k=>
  simp only [Option.map_some,zmD]
  cases vL vis b<;>cases vL wr b<;>cases k<;>first | rfl | exact zfo _ _ _
theorem zCg (vis wr:List Nat) (b:Nat) (k:Option SB) (h:jv (k.map (zmD vis wr b))=true):jv k=true:=by
 cases k with
 |none=>exact h
 |some k=>
  simp only [Option.map_some,zmD] at h
  cases hv:vL vis b<;>cases hw:vL wr b<;>rw [hv,hw] at h<;>cases k<;>simp_all [jv,zFg,roS]
theorem zyT (ν:Nat→Bool) (vis wr:List Nat) (H:SH):rho ν (zcZ vis wr H)=rho ν H:=xL (fun c=>by rw [WO,ziB]) ν
theorem zBa {ν:Nat→Bool} {nx:Nat} {vis wr:List Nat} {H:SH} (h:VN ν nx H):VN ν nx (zcZ vis wr H):=Jh (fun c=>by rw [WO,ziB]) (fun c hc=>zCg vis wr c _ (by rw [←WO];exact hc)) h
theorem zFh {ν:Nat→Bool} {vis wr:List Nat} {H:SH} {G:Hp} (hm:Mix G (zH ν H)) (wr':Nat→Bool) (hw:∀b,wr' b=(vL wr b&&(G.get b).isSome)) :
  Mix (Hp.only (vL vis) (UJ wr' (fun _=>false) G)) (zH ν (zcZ vis wr H)):=fun b x hx=>by
 rw [zU,WO,zyT] at hx
 cases hk:zn H b with
 |none=>rw [hk] at hx;cases hx
 |some k=>
  rw [hk] at hx
  simp only [Option.map_some,Option.bind_some,zmD] at hx
  cases hv:vL vis b with
  |false=>
   rw [hv,cond_false] at hx
   cases k<;>simp [zFg,qa] at hx
  |true=>
   rw [hv,cond_true] at hx
   have hget:(Hp.only (vL vis) (UJ wr' (fun _=>false) G)).get b=(G.get b).map (uf wr' (fun _=>false) b):=by
    rw [Hp.get_only,hv,if_pos rfl,zeU]
   have hH:∀y,qa (rho ν H) (ν b) k=some y→∃y0,G.get b=some y0∧ZS y0 y:=fun y hy=>hm b y (by rw [zU,hk];exact hy)
   cases hwb:vL wr b with
   |true=>
    rw [hwb,cond_true] at hx
    obtain ⟨y0,h1,h2⟩:=hH x hx
    refine ⟨y0,?_,h2⟩
    rw [hget,h1]
    have:wr' b=true:=by rw [hw b,hwb,h1];rfl
    simp [uf,this]
   |false=>
    rw [hwb,cond_false] at hx
    have hwf:wr' b=false:=by rw [hw b,hwb];rfl
    have hs:∃y,qa (rho ν H) (ν b) k=some y∧uf wr' (fun _=>false) b y=x:=by
     cases k with
     |vars cs=>simp only [roS,qa,Option.some.injEq] at hx;exact ⟨_,rfl,by subst hx;simp [uf,hwf]⟩
     |ro cs=>simp only [roS,qa,Option.some.injEq] at hx;exact ⟨_,rfl,by subst hx;simp [uf,hwf]⟩
     |arr nn t l=>
      simp only [roS,qa] at hx ⊢
      cases hnb:wb nn l with
      |true=>rw [hnb] at hx;cases hx
      |false=>rw [hnb] at hx;simp only [cond_false,Option.some.injEq] at hx;exact ⟨_,rfl,by subst hx;simp [uf,hwf]⟩
     |roa nn t l=>
      simp only [roS,qa] at hx ⊢
      cases hnb:wb nn l with
      |true=>rw [hnb] at hx;cases hx
      |false=>rw [hnb] at hx;simp only [cond_false,Option.some.injEq] at hx;exact ⟨_,rfl,by subst hx;simp [uf,hwf]⟩
     |fro nn t l=>
      simp only [roS,qa] at hx ⊢
      cases hnb:wb nn l with
      |true=>rw [hnb] at hx;cases hx
      |false=>rw [hnb] at hx;simp only [cond_false,Option.some.injEq] at hx;exact ⟨_,rfl,by subst hx;simp [uf,hwf]⟩
     |gone s n=>simp [roS,qa] at hx
     |loop L=>simp only [roS,qa,Option.some.injEq] at hx;exact ⟨_,rfl,by subst hx;simp [uf,hwf]⟩
     |defd=>simp only [roS,qa,Option.some.injEq] at hx;exact ⟨_,rfl,by subst hx;simp [uf,hwf]⟩
     |hid=>simp only [roS,qa,Option.some.injEq] at hx;exact ⟨_,rfl,by subst hx;simp [uf,hwf]⟩
     |mpb k ag t l=>simp only [roS,qa,Option.some.injEq] at hx;exact ⟨_,rfl,by subst hx;simp [uf,hwf]⟩
     |abs=>simp [roS,qa] at hx
    obtain ⟨y,h1,h2⟩:=hs
    obtain ⟨y0,h3,h4⟩:=hH y h1
    refine ⟨uf wr' (fun _=>false) b y0,by rw [hget,h3];rfl,?_⟩
    rw [←h2]
    exact h4.seen wr' b
structure Wb where
 ran:Bool
 vis:List Nat
 wr:List Nat
 lo:Nat
 hi:Nat
def gj (tm:List SV) (s:Nat):SV:=match gl tm s with
 |some v=>v
 |none=>.junk
def ze3 (tm:List SV):List Nat→List SV→List SV
 |[],t=>t
 |s::r,t=>ze3 tm r (lsS t s (gj tm s))
def wk (wr:List Nat) (lo hi:Nat) (b:Nat):Bool:=vL wr b||(Nat.ble lo b&&Nat.blt b hi)
def VW (wr:List Nat) (lo hi:Nat):SH→SH
 |[]=>[]
 |(b,k)::r=>(b,bif wk wr lo hi b then (match k with | .fro nn t l=>.gone (rsz nn t l) l.length | k=>k) else k)::VW wr lo hi r
def zov (wr:List Nat) (lo hi:Nat):SH→SH
 |[]=>[]
 |(b,k)::r=>bif wk wr lo hi b then (b,k)::zov wr lo hi r else zov wr lo hi r
def zow (wr:List Nat) (lo hi:Nat):SH→SH
 |[]=>[]
 |(b,k)::r=>bif wk wr lo hi b then zow wr lo hi r else (b,k)::zow wr lo hi r
def zyU (wr:List Nat) (lo hi:Nat) (H1 H:SH):SH:=zov wr lo hi H1++zow wr lo hi H
def rwK:SB→Bool
 |.ro _=>false
 |.roa _ _ _=>false
 |.fro _ _ _=>false
 |.hid=>false
 |_=>true
def okT (wr:List Nat) (lo hi:Nat) (H:SH):SH→Bool
 |[]=>true
 |(b,k)::r=>(bif wk wr lo hi b then rwK k else match reg (some k) with | none=>true | some _=>(reg (zn H b)).isSome)&&okT wr lo hi H r
def zsd (lo hi:Nat):SH→Bool
 |[]=>true
 |(b,_)::r=>!(Nat.ble lo b&&Nat.blt b hi)&&zsd lo hi r
def okW (H:SH):List Nat→Bool
 |[]=>true
 |b::r=>(match zn H b with
  |some (.gone _ _)=>false
  |some .abs=>false
  |none=>false
  |_=>true)&&okW H r
def zjK (wr:List Nat) (lo hi:Nat):Bool:=(match wr with | []=>true | _=>false)&&Nat.beq lo hi
def zfr (wr:List Nat) (lo hi:Nat) (H1 H:SH):Option SH:=match VW wr lo hi H1 with
 |H2=>bif okT wr lo hi H H2&&(zsd lo hi H&&okW H wr) then some (bif zjK wr lo hi then H else zyU wr lo hi H2 H) else none
def zCh (vis:List Nat):List Nat→Bool
 |[]=>true
 |b::r=>vL vis b&&zCh vis r
theorem zyV {vis:List Nat} {b:Nat}:∀{wr:List Nat},zCh vis wr=true→vL wr b=true→vL vis b=true
 |[],_,h=>by cases h
 |c::r,hs,h=>by
  simp only [zCh,Bool.and_eq_true] at hs
  have h:(bif Nat.beq c b then true else vL r b)=true:=h
  cases hb:Nat.beq c b with
  |true=>have:=Nat.eq_of_beq_eq_true hb;subst this;exact hs.1
  |false=>rw [hb] at h;exact zyV hs.2 h
def zox (op:List SV→SH→Nat→Oper→KO R→Option R) (ops:Array Oper) (cut:Nat→List SV→SH→List Wb→Option (List Nat×List Nat)):Nat→List Wb→List Oper→List SV→SH→Nat→(List Wb→List SV→SH→Nat→Option R)→Option R
 |_,done,[],tm,H,nx,k=>k done.reverse tm H nx
 |i,done,o::l,tm,H,nx,k=>zsc ops tm o
  (fun tm=>match cut i tm H done with
   |some (wr,vis)=>bif zCh vis wr then op (ze3 tm (vl ops o) (List.replicate tm.length .junk)) (zcZ vis wr H) nx o fun v H1 nx1=>match zfr wr nx nx1 H1 H with
    |some H2=>zox op ops cut (i+1) (⟨true,vis,wr,nx,nx1⟩::done) l (zaO tm o.dst v) H2 nx1 k
    |none=>none
    else none
   |none=>none)
  (fun tm=>zox op ops cut (i+1) (⟨false,[],[],nx,nx⟩::done) l (zaO tm o.dst (.tup [])) H nx k)
theorem WQ (wr:List Nat) (lo hi n:Nat):∀H:SH,zn (VW wr lo hi H) n=(zn H n).map fun k=>bif wk wr lo hi n then (match k with | .fro nn t l=>.gone (rsz nn t l) l.length | k=>k) else k
 |[]=>rfl
 |(b,k)::r=>by
  simp only [VW,zK]
  by_cases hb:b=n
  ·subst hb;simp
  ·rw [if_neg hb,if_neg hb];exact WQ wr lo hi n r
theorem zv1 (wr:List Nat) (lo hi n:Nat):∀H:SH,zn (zov wr lo hi H) n=bif wk wr lo hi n then zn H n else none
 |[]=>by simp [zov,Ko]
 |(b,k)::r=>by
  have ih:=zv1 wr lo hi n r
  simp only [zov,zK]
  cases hb:wk wr lo hi b with
  |true=>
   simp only [cond_true,zK]
   by_cases h:b=n
   ·subst h;simp [hb]
   ·simp only [h,if_false];exact ih
  |false=>
   simp only [cond_false]
   by_cases h:b=n
   ·subst h;rw [hb] at ih ⊢;simpa using ih
   ·simp only [h,if_false];exact ih
theorem zv2 (wr:List Nat) (lo hi n:Nat):∀H:SH,zn (zow wr lo hi H) n=bif wk wr lo hi n then none else zn H n
 |[]=>by simp [zow,Ko]
 |(b,k)::r=>by
  have ih:=zv2 wr lo hi n r
  simp only [zow,zK]
  cases hb:wk wr lo hi b with
  |true=>
   simp only [cond_true]
   by_cases h:b=n
   ·subst h;rw [hb] at ih ⊢;simpa using ih
   ·simp only [h,if_false];exact ih
  |false=>
   simp only [cond_false,zK]
   by_cases h:b=n
   ·subst h;simp [hb]
   ·simp only [h,if_false];exact ih
theorem zX (n:Nat):∀H G:SH,zn (H++G) n=(match zn H n with | some k=>some k | none=>zn G n)
 |[],G=>by simp [Ko]
 |(b,k)::r,G=>by
  have ih:=zX n r G
  simp only [List.cons_append,zK]
  by_cases h:b=n
  ·subst h;simp
  ·simp only [h,if_false];exact ih
theorem zCi (wr:List Nat) (lo hi n:Nat) (H1 H:SH):zn (zyU wr lo hi H1 H) n=bif wk wr lo hi n then zn H1 n else zn H n:=by
 unfold zyU
 rw [zX,zv1,zv2]
 cases wk wr lo hi n with
 |true=>simp only [cond_true];cases zn H1 n<;>rfl
 |false=>simp
theorem zpB {wr:List Nat} {lo hi:Nat} (h:zjK wr lo hi=true) (b:Nat):wk wr lo hi b=false:=by
 unfold zjK at h
 simp only [Bool.and_eq_true] at h
 obtain ⟨h1,h2⟩:=h
 have h2:=Nat.eq_of_beq_eq_true h2
 subst h2
 cases wr with
 |nil=>
  simp only [wk,vL,Bool.false_or,Bool.and_eq_false_iff]
  by_cases hb:lo≤b
  ·right
   rw [zfb];simp;omega
  ·left
   cases hc:Nat.ble lo b with
   |false=>rfl
   |true=>exact absurd (Nat.le_of_ble_eq_true hc) hb
 |cons x r=>cases h1
theorem zse {wr:List Nat} {lo hi:Nat} {H1 H H2:SH} (h:zfr wr lo hi H1 H=some H2) (n:Nat):zn H2 n=bif wk wr lo hi n then zn (VW wr lo hi H1) n else zn H n:=by
 unfold zfr at h
 dsimp only at h
 obtain ⟨_,h2⟩:=zE h
 cases h2
 cases hq:zjK wr lo hi with
 |true=>simp [zpB hq n]
 |false=>simp only [cond_false];exact zCi ..
theorem zpC {wr:List Nat} {lo hi:Nat} {H1 H H2:SH} (h:zfr wr lo hi H1 H=some H2):okT wr lo hi H (VW wr lo hi H1)=true∧zsd lo hi H=true∧okW H wr=true:=by
 unfold zfr at h
 dsimp only at h
 obtain ⟨h1,_⟩:=zE h
 simpa using h1
theorem zBb {wr:List Nat} {lo hi:Nat} {H:SH} {b:Nat} {k:SB}:∀{H1:SH},okT wr lo hi H H1=true→zn H1 b=some k→(wk wr lo hi b=true→rwK k=true)∧(wk wr lo hi b=false→(reg (some k)).isSome=true→(reg (zn H b)).isSome=true)
 |[],_,h=>by cases h
 |(c,x)::r,ho,h=>by
  simp only [okT,Bool.and_eq_true] at ho
  rw [zK] at h
  by_cases hc:c=b
  ·subst hc
   rw [if_pos rfl] at h
   cases h
   have h1:=ho.1
   constructor
   ·intro ht;rw [ht] at h1;exact h1
   ·intro ht hr
    rw [ht,cond_false] at h1
    split at h1
    ·rename_i hn;rw [hn] at hr;cases hr
    ·exact h1
  ·rw [if_neg hc] at h
   exact zBb ho.2 h
theorem zv3 {lo hi b:Nat} {k:SB}:∀{H:SH},zsd lo hi H=true→zn H b=some k→¬(lo≤b∧b < hi)
 |[],_,h=>by cases h
 |(c,x)::r,hf,h=>by
  simp only [zsd,Bool.and_eq_true,Bool.not_eq_true',Bool.and_eq_false_iff] at hf
  rw [zK] at h
  by_cases hc:c=b
  ·subst hc
   rintro ⟨h1,h2⟩
   rcases hf.1 with h3 | h3
   ·have:=Nat.ble_eq_true_of_le h1;rw [h3] at this;cases this
   ·rw [zfb,decide_eq_false_iff_not] at h3;exact h3 h2
  ·rw [if_neg hc] at h
   exact zv3 hf.2 h
theorem zaP {wr:List Nat} {lo hi b:Nat}:wk wr lo hi b=true↔vL wr b=true∨(lo≤b∧b < hi):=by
 simp only [wk,Bool.or_eq_true,Bool.and_eq_true,zfb,decide_eq_true_eq,Nat.ble_eq]
theorem zfs (wr:List Nat) (lo hi b:Nat) (k:Option SB):reg (k.map fun k=>bif wk wr lo hi b then (match k with | .fro nn t l=>.gone (rsz nn t l) l.length | k=>k) else k)=reg k:=by
 cases k with
 |none=>rfl
 |some k=>simp only [Option.map_some];cases wk wr lo hi b<;>cases k<;>first | rfl | exact zfo _ _ _
theorem zGQ (wr:List Nat) (lo hi b:Nat) (k:Option SB):jv (k.map fun k=>bif wk wr lo hi b then (match k with | .fro nn t l=>.gone (rsz nn t l) l.length | k=>k) else k)=jv k:=by
 cases k with
 |none=>rfl
 |some k=>simp only [Option.map_some];cases wk wr lo hi b<;>cases k<;>rfl
structure zHo (vis wr:List Nat) (lo hi:Nat) (V1 H H2:SH):Prop where
 reg:wJ H H2
 keep:wR H H2
 vn:∀ν nx nx',VN ν nx H→VN ν nx' V1→nx≤nx'→VN ν nx' H2
 rho:∀ν,RLe (Sy.rho ν V1) (Sy.rho ν H2)
theorem zv4 {vis wr:List Nat} {lo hi:Nat} {V1 H H2:SH} (hr:wJ (zcZ vis wr H) V1) (hk:wR (zcZ vis wr H) V1) (hvis:∀b,vL wr b=true→vL vis b=true) (h:zfr wr lo hi V1 H=some H2):zHo vis wr lo hi V1 H H2:=by
 have hg:=fun n=>zse h n
 have hc:=zpC h
 have hreg2:∀b,wk wr lo hi b=true→Sy.reg (zn H2 b)=Sy.reg (zn V1 b):=fun b hb=>by rw [hg b,hb,cond_true,WQ,zfs]
 have hregH:wJ H H2:=fun b x hx=>by
  cases ht:wk wr lo hi b with
  |false=>rw [hg b,ht];exact hx
  |true=>rw [hreg2 b ht];exact hr b x (by rw [WO,ziB];exact hx)
 refine ⟨hregH,fun l L hl=>?_,fun ν nx nx' hv hv1 hle=>⟨fun b n hb=>?_,hv1.old,fun b hb=>?_⟩,fun ν b=>?_⟩
 ·cases ht:wk wr lo hi l with
  |false=>exact ⟨L.st,L.pend,by rw [hg l,ht];exact hl⟩
  |true=>
   have hw:vL wr l=true:=by
    rcases zaP.1 ht with h1 | h1
    ·exact h1
    ·exact absurd h1 (zv3 hc.2.1 hl)
   obtain ⟨s,p,h1⟩:=hk l L (by rw [WO,hl];simp [zmD,hw,hvis l hw])
   exact ⟨s,p,by rw [hg l,ht,cond_true,WQ,h1,ht];rfl⟩
 ·cases ht:wk wr lo hi b with
  |false=>rw [hg b,ht] at hb;exact hv.empty b n hb
  |true=>rw [hreg2 b ht] at hb;exact hv1.empty b n hb
 ·cases ht:wk wr lo hi b with
  |false=>rw [hg b,ht] at hb;exact hv.nn b hb
  |true=>rw [hg b,ht,cond_true,WQ,zGQ] at hb;exact hv1.nn b hb
 ·unfold Sy.rho
  cases hx:Sy.reg (zn V1 b) with
  |none=>exact .inl rfl
  |some x=>
   right
   cases ht:wk wr lo hi b with
   |true=>rw [hreg2 b ht,hx]
   |false=>
    have h1:Sy.reg (zn (VW wr lo hi V1) b)=some x:=by rw [WQ,zfs];exact hx
    cases hd:zn (VW wr lo hi V1) b with
    |none=>rw [hd] at h1;cases h1
    |some k=>
     have h2:=(zBb hc.1 hd).2 ht (by rw [←hd,h1];rfl)
     obtain ⟨y,hy⟩:=Option.isSome_iff_exists.1 h2
     have h3:=hr b y (by rw [WO,ziB];exact hy)
     rw [hx] at h3
     cases h3
     rw [hregH b _ hy]
theorem RLe.trans {a b c:Nat→Value} (h:RLe a b) (k:RLe b c):RLe a c:=fun n=>by
 rcases h n with h1 | h1
 ·exact .inl h1
 ·rcases k n with k1 | k1
  ·exact .inl (h1▸k1)
  ·exact .inr (k1.trans h1)
def YP (ν:Nat→Bool) (H:SH) (tmv:List Value) (tm:List SV):Prop:=tmv.length=tm.length∧∀(i:Nat) u,tm[i]?=some u→∃ρ,(∀b,ρ b≠Fz.junk)∧RLe ρ (rho ν H)∧tmv[i]?=some (den ρ u)
theorem YP.refl (ν:Nat→Bool) (H:SH) (tm:List SV):YP ν H (zu (rho ν H) tm) tm:=⟨wL _ _,fun i u hu=>⟨rho ν H,gn ν H,RLe.refl _,by rw [wZ,hu];rfl⟩⟩
theorem YP.mono {ν:Nat→Bool} {H H2:SH} {tmv:List Value} {tm:List SV} (h:YP ν H tmv tm) (hr:RLe (rho ν H) (rho ν H2)):YP ν H2 tmv tm:=⟨h.1,fun i u hu=>by
 obtain ⟨ρ,h1,h2,h3⟩:=h.2 i u hu
 exact ⟨ρ,h1,h2.trans hr,h3⟩⟩
theorem YP.put {ν:Nat→Bool} {H:SH} {tmv:List Value} {tm:List SV} (h:YP ν H tmv tm) {ρ:Nat→Value} (hj:∀b,ρ b≠Fz.junk) (hr:RLe ρ (rho ν H)) (d:Option Tmp) (v:SV):YP ν H (Zq tmv d (den ρ v)) (zaO tm d v):=by
 cases d with
 |none=>exact h
 |some d=>
  rw [zde]
  simp only [zaO,Zm]
  refine ⟨by simp [h.1],fun i u hu=>?_⟩
  rw [List.getElem?_set] at hu ⊢
  by_cases hdi:d=i
  ·subst hdi
   rw [if_pos rfl] at hu ⊢
   split at hu
   ·rename_i hlt
    cases hu
    exact ⟨ρ,hj,hr,by rw [if_pos (by rw [h.1];exact hlt)]⟩
   ·cases hu
  ·rw [if_neg hdi] at hu ⊢
   exact h.2 i u hu
theorem YP.rel {ν:Nat→Bool} {H:SH} {tmv:List Value} {tm:List SV} (h:YP ν H tmv tm) {ts:Array Value} (ht:qX φ tmv ts):qX φ (zu (rho ν H) tm) ts:=by
 refine ⟨by rw [wL,←h.1];exact ht.1,fun i v hv=>?_⟩
 rw [wZ,Option.map_eq_some_iff] at hv
 obtain ⟨u,hu,rfl⟩:=hv
 obtain ⟨ρ,h1,h2,h3⟩:=h.2 i u hu
 rcases ht.2 i _ h3 with h0 | ⟨v',e1,e2⟩
 ·exact .inl (zjB h1 h0)
 ·exact .inr ⟨v',e1,zck h2 u v' e2⟩
theorem zv5 (tm:List SV):∀(sl:List Nat) (t:List SV),(ze3 tm sl t).length=t.length∧∀(i:Nat),t.length=tm.length→((i∈sl→(ze3 tm sl t)[i]?=tm[i]?)∧(i∉sl→(ze3 tm sl t)[i]?=t[i]?)∧(t[i]?=tm[i]?→(ze3 tm sl t)[i]?=tm[i]?))
 |[],t=>⟨rfl,fun i _=>⟨(fun h=>by cases h),fun _=>rfl,fun h=>h⟩⟩
 |s::r,t=>by
  obtain ⟨h1,h2⟩:=zv5 tm r (lsS t s (gj tm s))
  rw [Zm] at h1 h2
  simp only [ze3,Zm]
  refine ⟨by rw [h1];simp,fun i hl=>?_⟩
  obtain ⟨e1,e2,e3⟩:=h2 i (by simpa using hl)
  have hs:(t.set s (gj tm s))[s]?=tm[s]?:=by
   unfold gj
   rw [xQ,List.getElem?_set]
   by_cases hlt:s < t.length
   ·rw [if_pos rfl,if_pos hlt]
    have:s < tm.length:=by omega
    simp [this]
   ·rw [if_pos rfl,if_neg hlt]
    rw [List.getElem?_eq_none (by omega)]
  have hst:t[i]?=tm[i]?→(t.set s (gj tm s))[i]?=tm[i]?:=fun h=>by
   by_cases hsi:s=i
   ·subst hsi;exact hs
   ·rw [List.getElem?_set,if_neg hsi];exact h
  refine ⟨fun hi=>?_,fun hi=>?_,fun h=>e3 (hst h)⟩
  ·rcases List.mem_cons.1 hi with rfl | hi
   ·exact e3 hs
   ·exact e1 hi
  ·simp only [List.mem_cons,not_or] at hi
   rw [e2 hi.2,List.getElem?_set,if_neg (fun e=>hi.1 e.symm)]
theorem YP.keep {ν:Nat→Bool} {H:SH} {tmv:List Value} {tm:List SV} (h:YP ν H tmv tm) (sl:List Nat):YP ν H (Zj tmv sl) (ze3 tm sl (List.replicate tm.length .junk)):=by
 obtain ⟨k1,k2⟩:=zv5 tm sl (List.replicate tm.length .junk)
 have k3:=(zgY (tm:=tmv) (slots:=sl)).1
 refine ⟨by rw [k3,k1,h.1];simp,fun i u hu=>?_⟩
 obtain ⟨e1,e2,_⟩:=k2 i (by simp)
 by_cases hi:i∈sl
 ·rw [e1 hi] at hu
  rw [zp8 hi]
  exact h.2 i u hu
 ·rw [e2 hi,List.getElem?_replicate] at hu
  split at hu
  ·rename_i hlt
   cases hu
   refine ⟨rho ν H,gn ν H,RLe.refl _,?_⟩
   have hl:i < (Zj tmv sl).length:=by rw [k3,h.1];exact hlt
   have hx:(Zj tmv sl)[i]?=some (Zj tmv sl)[i]:=by simp [hl]
   rcases (zgY (tm:=tmv) (slots:=sl)).2 i _ hx with h0 | ⟨h0,_⟩
   ·rw [hx,h0];simp [den]
   ·exact absurd h0 hi
  ·cases hu
theorem YP.any {ν:Nat→Bool} {H:SH} {tmv:List Value} {tm:List SV} (h:YP ν H tmv tm):∀(i:Nat) u,tm[i]?=some u→∃ρ,tmv[i]?=some (den ρ u):=fun i u hu=>by
 obtain ⟨ρ,_,_,h3⟩:=h.2 i u hu
 exact ⟨ρ,h3⟩
theorem zmE {ν:Nat→Bool} {ρ:Nat→Value} {b:Nat} {x:Blk}:∀{H:SH},(b,x)∈ka ν ρ H→∃k,(b,k)∈H∧qa ρ (ν b) k=some x
 |[],h=>by cases h
 |(c,k)::r,h=>by
  have hdel:∀(G:Hp) (y:Nat×Blk),y∈G.del c→y∈G:=by
   intro G y hy
   induction G with
   |nil=>cases hy
   |cons z G ih=>
    obtain ⟨d,u⟩:=z
    simp only [Hp.del] at hy
    split at hy
    ·exact List.mem_cons_of_mem _ (ih hy)
    ·rcases List.mem_cons.1 hy with rfl | hy
     ·simp
     ·exact List.mem_cons_of_mem _ (ih hy)
  simp only [ka] at h
  split at h
  ·rename_i y hy
   rcases List.mem_cons.1 h with h | h
   ·cases h;exact ⟨k,by simp,hy⟩
   ·obtain ⟨k',h1,h2⟩:=zmE h
    exact ⟨k',List.mem_cons_of_mem _ h1,h2⟩
  ·obtain ⟨k',h1,h2⟩:=zmE (hdel _ _ h)
   exact ⟨k',List.mem_cons_of_mem _ h1,h2⟩
theorem zBc {wr:List Nat} {lo hi:Nat} {H:SH} {b:Nat} {k:SB}:∀{H1:SH},okT wr lo hi H H1=true→(b,k)∈H1→wk wr lo hi b=true→rwK k=true
 |[],_,h,_=>by cases h
 |(c,x)::r,ho,h,ht=>by
  simp only [okT,Bool.and_eq_true] at ho
  rcases List.mem_cons.1 h with h | h
  ·cases h;have h1:=ho.1;rw [ht] at h1;exact h1
  ·exact zBc ho.2 h ht
theorem zyW:∀{H:Hp},(∀b x,(b,x)∈H→x.rw=true)→zeV H=true
 |[],_=>rfl
 |(b,x)::r,h=>by
  simp only [zeV,h b x (by simp),Bool.true_and]
  exact zyW fun c y hy=>h c y (List.mem_cons_of_mem _ hy)
theorem zcn {p:Nat→Bool} {b:Nat} {x:Blk}:∀{H:Hp},(b,x)∈Hp.only p H→p b=true∧(b,x)∈H
 |[],h=>by cases h
 |(c,y)::r,h=>by
  simp only [Hp.only] at h
  split at h
  ·rename_i hp
   rcases List.mem_cons.1 h with h | h
   ·cases h;exact ⟨hp,by simp⟩
   ·exact ⟨(zcn h).1,List.mem_cons_of_mem _ (zcn h).2⟩
  ·exact ⟨(zcn h).1,List.mem_cons_of_mem _ (zcn h).2⟩
theorem zGR {ρ:Nat→Value} {nil:Bool} {k:SB} {x:Blk} (h:rwK k=true) (hx:qa ρ nil k=some x):x.rw=true:=by
 cases k with
 |arr nn t l=>
  simp only [qa] at hx
  cases hn:wb nn l<;>rw [hn] at hx<;>cases hx
  rfl
 |_=>simp [rwK] at h<;>simp only [qa,Option.some.injEq,reduceCtorEq] at hx<;>(subst hx;rfl)
theorem zFi {ρ:Nat→Value} {nil:Bool} {k:SB} {n:Nat} (h:reg (some k)=some (n,0)):qa ρ nil k=none:=by
 have key:∀(nn:Bool) (t:Ty) (l:List (T t)),some (l.length,rsz nn t l)=some (n,0)→wb nn l=true:=fun nn t l h=>by
  unfold rsz at h
  cases hn:wb nn l with
  |true=>rfl
  |false=>rw [hn] at h;simp at h
 cases k with
 |arr nn t l=>simp [qa,key nn t l h]
 |roa nn t l=>simp [qa,key nn t l h]
 |fro nn t l=>simp [qa,key nn t l h]
 |gone s m=>rfl
 |_=>simp [reg] at h
theorem zBd {H:SH} {b:Nat}:∀{wr:List Nat},okW H wr=true→vL wr b=true→∃k,zn H b=some k∧(∀s n,k≠.gone s n)∧k≠.abs
 |[],_,h=>by cases h
 |c::r,ho,h=>by
  simp only [okW,Bool.and_eq_true] at ho
  have h:(bif Nat.beq c b then true else vL r b)=true:=h
  by_cases hc:c=b
  ·subst hc
   have h1:=ho.1
   cases hk:zn H c with
   |none=>rw [hk] at h1;cases h1
   |some k=>
    refine ⟨k,rfl,fun s n e=>?_,fun e=>?_⟩<;>subst e<;>rw [hk] at h1<;>cases h1
  ·have:Nat.beq c b=false:=by
    cases hb:Nat.beq c b with
    |false=>rfl
    |true=>exact absurd (Nat.eq_of_beq_eq_true hb) hc
   rw [this] at h
   exact zBd ho.2 h
structure zFj (s:Stp) (t:Wb):Prop where
 ran:s.ran=t.ran
 lo:s.lo=t.lo
 hi:s.hi=t.hi
 vis:∀x∈s.V,vL t.vis x.1=true
 wr:∀b,s.wr b=true→vL t.wr b=true
theorem zGS {op:List SV→SH→Nat→Oper→KO R→Option R} {rd:Option Nat} {ops:Array Oper} {o:Oper} {vis wr:List Nat} {tm:List SV} {H V1 H2:SH} {nx nx1:Nat} {v:SV}
  (hop:SOp P rd o (ze3 tm (vl ops o) (List.replicate tm.length .junk)) (zcZ vis wr H) nx v V1 nx1) (hvis:∀b,vL wr b=true→vL vis b=true) (hb:zfr wr nx nx1 V1 H=some H2)
  {ν:Nat→Bool} (hv:VN ν nx H) {tmv:List Value} {G:Hp} (ht:YP ν H tmv tm) (hm:Mix G (zH ν H)) (hw:ue ops tmv o=some true) :
  ∃s:Stp,zxN P rd ops o tmv G nx s∧s.o=o∧s.hi=nx1∧VN ν nx1 H2∧YP ν H2 (Zq tmv o.dst s.v) (zaO tm o.dst v)∧Mix (if s.ran then zaK s.touch s.H' G else G) (zH ν H2)∧zFj s ⟨true,vis,wr,nx,nx1⟩:=by
 obtain ⟨r1,r2,r3,r4⟩:=hop
 obtain ⟨v1,o1⟩:=r4 ν (zBa hv)
 have B:=zv4 r1 r2 hvis hb
 have hc:=zpC hb
 have hg:=fun n=>zse hb n
 let wr':Nat→Bool:=fun b=>vL wr b&&(G.get b).isSome
 have hvm:=zFh (vis:=vis) (wr:=wr) hm wr' (fun _=>rfl)
 have hdrop:∀b x,(zH ν (VW wr nx nx1 V1)).get b=some x→(zH ν V1).get b=some x:=fun b x hx=>by
  have hr:rho ν (VW wr nx nx1 V1)=rho ν V1:=xL (fun c=>by rw [WQ,zfs]) ν
  rw [zU,WQ,hr] at hx
  rw [zU]
  cases hk:zn V1 b with
  |none=>rw [hk] at hx;cases hx
  |some k=>
   rw [hk] at hx
   simp only [Option.map_some,Option.bind_some] at hx ⊢
   cases htb:wk wr nx nx1 b with
   |false=>rw [htb] at hx;exact hx
   |true=>
    rw [htb,cond_true] at hx
    cases k<;>first | exact hx | (simp [qa] at hx)
 have htouch:∀b,wI wr' nx nx1 b=true→wk wr nx nx1 b=true:=fun b hb=>by
  simp only [wI,wr',Bool.or_eq_true,Bool.and_eq_true,decide_eq_true_eq] at hb
  rw [zaP]
  rcases hb with hb | hb
  ·exact .inl hb.1
  ·exact .inr hb
 refine ⟨⟨o,true,den (rho ν V1) v,Zj tmv (vl ops o),Hp.only (vL vis) (UJ wr' (fun _=>false) G),wr',zH ν (VW wr nx nx1 V1),nx,nx1⟩,⟨rfl,rfl,r3,rfl,?_,fun _=>⟨?_,?_⟩,fun b k hk=>?_,(fun h=>by cases h),fun b hb=>?_⟩,rfl,rfl,B.vn ν nx nx1 hv v1 r3,?_,?_,⟨rfl,rfl,rfl,fun x hx=>(zcn (b:=x.1) (x:=x.2) hx).1,fun b hb=>?_⟩⟩
 ·rw [←zme];exact hw
 ·refine WN (zyN o1 (fun φ K w g=>hvm.good g) fun φ K w g ts htr=>?_) (fun φ v' h=>h) (fun φ K w g=>g.sub hdrop)
  rw [zyT]
  exact (ht.keep (vl ops o)).rel htr
 ·refine zyW fun b x hx=>?_
  obtain ⟨h1,h2⟩:=zcn hx
  obtain ⟨k,h3,h4⟩:=zmE h2
  exact zGR (zBc hc.1 h3 (htouch b h1)) h4
 ·dsimp only at hk ⊢
  rw [Hp.get_only] at hk
  split at hk
  ·rw [zeU,Option.map_eq_some_iff] at hk
   obtain ⟨k0,h1,rfl⟩:=hk
   exact ⟨k0,h1,rfl⟩
  ·cases hk
 ·simp only [wr',Bool.and_eq_true] at hb
  obtain ⟨k0,hk0⟩:=Option.isSome_iff_exists.1 hb.2
  refine ⟨uf wr' (fun _=>false) b k0,?_⟩
  rw [Hp.get_only,if_pos (hvis b hb.1),zeU,hk0];rfl
 ·exact (ht.mono (zfp ν B.reg)).put (gn ν V1) (B.rho ν) o.dst v
 ·simp only [if_true]
  intro b x hx
  have hstouch:Stp.touch ⟨o,true,den (rho ν V1) v,Zj tmv (vl ops o),Hp.only (vL vis) (UJ wr' (fun _=>false) G),wr',zH ν (VW wr nx nx1 V1),nx,nx1⟩ b=wI wr' nx nx1 b:=rfl
  rw [zdg,hstouch]
  rw [zU,hg b] at hx
  cases htb:wk wr nx nx1 b with
  |false=>
   have h0:wI wr' nx nx1 b=false:=by
    cases h0:wI wr' nx nx1 b with
    |false=>rfl
    |true=>rw [htouch b h0] at htb;cases htb
   rw [htb,cond_false,Option.bind_eq_some_iff] at hx
   obtain ⟨k,hk,hx⟩:=hx
   obtain ⟨y,h1,h2⟩:=zyS (gn ν H) (zfp ν B.reg) hx
   obtain ⟨z,h3,h4⟩:=hm b y (by rw [zU,hk];exact h1)
   rw [h0]
   exact ⟨z,h3,h4.trans h2⟩
  |true=>
   rw [htb,cond_true,Option.bind_eq_some_iff] at hx
   obtain ⟨k,hk,hx⟩:=hx
   have hr:rho ν (VW wr nx nx1 V1)=rho ν V1:=xL (fun c=>by rw [WQ,zfs]) ν
   obtain ⟨y,h1,h2⟩:=zyS (gn ν V1) (B.rho ν) hx
   have hy:(zH ν (VW wr nx nx1 V1)).get b=some y:=by rw [zU,hk,hr];exact h1
   cases h0:wI wr' nx nx1 b with
   |true=>exact ⟨y,by simpa using hy,h2⟩
   |false=>
    exfalso
    have hbw:vL wr b=true:=by
     rcases zaP.1 htb with h | h
     ·exact h
     ·simp only [wI,Bool.or_eq_false_iff,Bool.and_eq_false_iff,decide_eq_false_iff_not] at h0
      omega
    have hGn:G.get b=none:=by
     simp only [wI,wr',Bool.or_eq_false_iff,hbw,Bool.true_and] at h0
     cases hG:G.get b with
     |none=>rfl
     |some z=>rw [hG] at h0;simp at h0
    obtain ⟨k0,hk0,hng,hna⟩:=zBd hc.2.2 hbw
    have hdn:qa (rho ν H) (ν b) k0=none:=by
     cases hd:qa (rho ν H) (ν b) k0 with
     |none=>rfl
     |some z=>
      obtain ⟨z0,h5,_⟩:=hm b z (by rw [zU,hk0];exact hd)
      rw [hGn] at h5;cases h5
    have hnil:∃n,reg (some k0)=some (n,0):=by
     cases k0 with
     |gone s n=>exact absurd rfl (hng s n)
     |abs=>exact absurd rfl hna
     |arr nn t l=>cases hn:wb nn l with
      |true=>exact ⟨l.length,by simp [reg,rsz,hn]⟩
      |false=>simp [qa,hn] at hdn
     |roa nn t l=>cases hn:wb nn l with
      |true=>exact ⟨l.length,by simp [reg,rsz,hn]⟩
      |false=>simp [qa,hn] at hdn
     |fro nn t l=>cases hn:wb nn l with
      |true=>exact ⟨l.length,by simp [reg,rsz,hn]⟩
      |false=>simp [qa,hn] at hdn
     |_=>simp [qa] at hdn
    obtain ⟨n0,hy0⟩:=hnil
    have h6:=r1 b (n0,0) (by rw [WO,ziB,hk0];exact hy0)
    rw [WQ,Option.map_eq_some_iff] at hk
    obtain ⟨k1,hk1,hk2⟩:=hk
    rw [hk1] at h6
    have h7:reg (some k)=some (n0,0):=by
     rw [←h6,←hk2]
     exact zfs wr nx nx1 b (some k1)
    rw [zFi h7] at h1
    cases h1
 ·simp only [wr',Bool.and_eq_true] at hb;exact hb.1
def zyX (t:Wb):List Nat→Bool
 |[]=>false
 |x::r=>wk t.wr t.lo t.hi x||zyX t r
def zuo (ms:List Nat) (t:Wb) (j:Nat):Nat→List Wb→Bool
 |_,[]=>true
 |i,s::r=>(Nat.beq i j||(zmk ms i j||!zyX t s.vis))&&zuo ms t j (i+1) r
def zup (ms:List Nat) (all:List Wb):Nat→List Wb→Bool
 |_,[]=>true
 |j,t::r=>(!t.ran||(zjK t.wr t.lo t.hi||zuo ms t j 0 all))&&zup ms all (j+1) r
theorem zyY {t:Wb} {x:Nat}:∀{l:List Nat},zyX t l=false→vL l x=true→wk t.wr t.lo t.hi x=false
 |[],_,h=>by cases h
 |y::r,hh,h=>by
  simp only [zyX,Bool.or_eq_false_iff] at hh
  have h:(bif Nat.beq y x then true else vL r x)=true:=h
  cases hb:Nat.beq y x with
  |true=>have:=Nat.eq_of_beq_eq_true hb;subst this;exact hh.1
  |false=>rw [hb] at h;exact zyY hh.2 h
theorem zBe {ms:List Nat} {t:Wb} {j:Nat}:∀{l:List Wb} {i m:Nat} {s:Wb},zuo ms t j i l=true→l[m]?=some s→i+m=j∨zmk ms (i+m) j=true∨zyX t s.vis=false
 |[],_,_,_,_,h=>by simp at h
 |x::r,i,0,s,hf,h=>by
  simp at h
  subst h
  simp only [zuo,Bool.and_eq_true,Bool.or_eq_true,Bool.not_eq_true'] at hf
  rcases hf.1 with h1 | h1 | h1
  ·exact .inl (Nat.eq_of_beq_eq_true h1)
  ·exact .inr (.inl h1)
  ·exact .inr (.inr h1)
 |x::r,i,m+1,s,hf,h=>by
  simp only [zuo,Bool.and_eq_true] at hf
  have:=zBe (m:=m) hf.2 (by simpa using h)
  rwa [show i+1+m=i+(m+1) by omega] at this
theorem zBf {ms:List Nat} {all:List Wb}:∀{l:List Wb} {j m:Nat} {t:Wb},zup ms all j l=true→l[m]?=some t→t.ran=false∨zjK t.wr t.lo t.hi=true∨zuo ms t (j+m) 0 all=true
 |[],_,_,_,_,h=>by simp at h
 |x::r,j,0,t,hf,h=>by
  simp at h
  subst h
  simp only [zup,Bool.and_eq_true,Bool.or_eq_true,Bool.not_eq_true'] at hf
  exact hf.1
 |x::r,j,m+1,t,hf,h=>by
  simp only [zup,Bool.and_eq_true] at hf
  have:=zBf (m:=m) hf.2 (by simpa using h)
  rwa [show j+1+m=j+(m+1) by omega] at this
theorem zFk {ms:List Nat} {ss:List Stp} {sl:List Wb} (hl:sl.length=ss.length) (hfit:∀(j:Nat) s t,ss[j]?=some s→sl[j]?=some t→zFj s t) (h:zup ms sl 0 sl=true):zjx ms ss=true:=by
 unfold zjx
 rw [List.all_eq_true]
 rintro ⟨t,j⟩ ht
 rw [List.mem_zipIdx_iff_getElem?] at ht
 dsimp only at ht ⊢
 have hj:j < ss.length:=(List.getElem?_eq_some_iff.1 ht).1
 have ht':sl[j]?=some sl[j]:=by simp [hl,hj]
 have ft:=hfit j t _ ht ht'
 have htouch:∀x,t.touch x=true→wk sl[j].wr sl[j].lo sl[j].hi x=true:=fun x hx=>by
  simp only [Stp.touch,wI,Bool.or_eq_true,Bool.and_eq_true,decide_eq_true_eq] at hx
  rw [zaP]
  rcases hx with hx | hx
  ·exact .inl (ft.wr x hx)
  ·exact .inr (by rw [←ft.lo,←ft.hi];exact hx)
 rcases zBf h ht' with h1 | h1 | h1
 ·rw [ft.ran,h1];rfl
 ·have hq:=zpB h1
  have h2:Nat.beq t.lo t.hi=true:=by
   unfold zjK at h1
   simp only [Bool.and_eq_true] at h1
   rw [ft.lo,ft.hi];exact h1.2
  have h3:(t.V.all fun x=>!t.wr x.1)=true:=by
   rw [List.all_eq_true]
   intro x _
   cases hw:t.wr x.1 with
   |false=>rfl
   |true=>
    have:=hq x.1
    have h5:wk sl[j].wr sl[j].lo sl[j].hi x.1=true:=zaP.2 (.inl (ft.wr _ hw))
    rw [this] at h5;cases h5
  rw [h2,h3];simp
 ·rw [Nat.zero_add] at h1
  simp only [Bool.or_eq_true]
  right
  rw [List.all_eq_true]
  rintro ⟨s,i⟩ hs
  rw [List.mem_zipIdx_iff_getElem?] at hs
  dsimp only at hs ⊢
  have hi:i < ss.length:=(List.getElem?_eq_some_iff.1 hs).1
  have hs':sl[i]?=some sl[i]:=by simp [hl,hi]
  have fs:=hfit i s _ hs hs'
  have:=zBe h1 hs'
  rw [Nat.zero_add] at this
  rcases this with h2 | h2 | h2
  ·simp [h2]
  ·have:KY ms i j=true:=by
    unfold zmk at h2
    rw [zcj,zcj] at h2
    exact h2
   simp [this]
  ·simp only [Bool.or_eq_true]
   right
   rw [List.all_eq_true]
   intro x hx
   have h3:=zyY h2 (fs.vis x hx)
   cases ht:t.touch x.1 with
   |false=>rfl
   |true=>rw [htouch _ ht] at h3;cases h3
theorem zqp {op:List SV→SH→Nat→Oper→KO R→Option R} {rd:Option Nat} (hop:OpS P rd op) {ops:Array Oper} {cut:Nat→List SV→SH→List Wb→Option (List Nat×List Nat)} :
  ∀
   {l:List Oper} {i:Nat} {done:List Wb} {tm:List SV} {H:SH} {nx:Nat} {k:List Wb→List SV→SH→Nat→Option R} {r:R},zox op ops cut i done l tm H nx k=some r→
   ∃
    (sl:List Wb) (tm':List SV) (H':SH) (nx':Nat),sl.length=l.length∧k (done.reverse++sl) tm' H' nx'=some r∧wJ H H'∧wR H H'∧Qu (VM l) tm tm'∧nx≤nx'∧
    ∀
     ν,VN ν nx H→VN ν nx' H'∧∀(tmv:List Value) (G:Hp),YP ν H tmv tm→Mix G (zH ν H)→
     ∃
      ss:List Stp,ss.length=l.length∧(∀(j:Nat) o s,l[j]?=some o→ss[j]?=some s→zxN P rd ops o (tmR (ss.take j) tmv) (hpR (ss.take j) G) (nxR (ss.take j) nx) s)∧nxR ss nx=nx'∧
      YP ν H' (tmR ss tmv) tm'∧Mix (hpR ss G) (zH ν H')∧∀(j:Nat) s t,ss[j]?=some s→sl[j]?=some t→zFj s t
 |[],i,done,tm,H,nx,k,r,h=>by
  simp only [zox] at h
  refine ⟨[],tm,H,nx,rfl,by simpa using h,wJ.refl H,wR.refl H,Qu.refl _ _,Nat.le_refl _,fun ν hv=>⟨hv,fun tmv G ht hm=>⟨[],rfl,fun j o s hj=>by simp at hj,rfl,ht,hm,fun j s t hj=>by simp at hj⟩⟩⟩
 |o::l,i,done,tm,H,nx,k,r,h=>by
  have hin1:∀i∈o.dst.toList,i∈VM (o::l):=fun i hi=>by
   show i∈(match o.dst with | some d=>d::VM l | none=>VM l)
   cases hd:o.dst with
   |none=>rw [hd] at hi;cases hi
   |some d=>rw [hd] at hi;simp at hi;subst hi;simp
  have hin2:∀i∈VM l,i∈VM (o::l):=fun i hi=>by
   show i∈(match o.dst with | some d=>d::VM l | none=>VM l)
   cases o.dst with
   |none=>exact hi
   |some d=>exact List.mem_cons_of_mem _ hi
  simp only [zox] at h
  rcases zyQ h with ⟨hw,h1⟩ | ⟨hw,h1⟩
  ·split at h1
   case h_2=>cases h1
   rename_i wr vis hcut
   have h6:=zE h1
   clear h1
   obtain ⟨hsub,h1⟩:=h6
   have hvis:∀b,vL wr b=true→vL vis b=true:=fun b hb=>zyV hsub hb
   obtain ⟨v,V1,nx1,hs,h2⟩:=hop h1
   dsimp only at h2
   split at h2
   case h_2=>cases h2
   rename_i H2 hb
   obtain ⟨sl,tm',H',nx',e1,e2,e3,e4,e5,e6,e7⟩:=zqp hop h2
   have B:=zv4 hs.1 hs.2.1 hvis hb
   refine ⟨⟨true,vis,wr,nx,nx1⟩::sl,tm',H',nx',by simp [e1],by simpa using e2,B.reg.trans e3,B.keep.trans e4,(zg8 tm o.dst v).trans e5 hin1 hin2,Nat.le_trans hs.2.2.1 e6,fun ν hv=>?_⟩
   have hvn:VN ν nx1 H2:=B.vn ν nx nx1 hv (hs.2.2.2 ν (zBa hv)).1 hs.2.2.1
   obtain ⟨f1,f2⟩:=e7 ν hvn
   refine ⟨f1,fun tmv G ht hm=>?_⟩
   obtain ⟨s,g1,g2,g3,_,g5,g6,g7⟩:=zGS (op:=op) hs hvis hb hv ht hm (hw tmv ht.any)
   obtain ⟨ss,q1,q2,q3,q4,q5,q6⟩:=f2 _ _ g5 g6
   have hhd:Zq tmv s.o.dst s.v=Zq tmv o.dst s.v:=by rw [g2]
   refine ⟨s::ss,by simp [q1],fun j o' s' ho' hs'=>?_,?_,?_,?_,fun j s' t' hs' ht'=>?_⟩
   ·cases j with
    |zero=>simp at ho' hs';subst ho';subst hs';exact g1
    |succ j=>
     simp only [List.getElem?_cons_succ] at ho' hs'
     have:=q2 j o' s' ho' hs'
     simp only [List.take_succ_cons,tmR,hpR,nxR,g3,hhd]
     exact this
   ·simp only [nxR,g3];exact q3
   ·simp only [tmR,hhd];exact q4
   ·simp only [hpR];exact q5
   ·cases j with
    |zero=>simp at hs' ht';subst hs';subst ht';exact g7
    |succ j=>simp at hs' ht';exact q6 j s' t' hs' ht'
  ·obtain ⟨sl,tm',H',nx',e1,e2,e3,e4,e5,e6,e7⟩:=zqp hop h1
   refine ⟨⟨false,[],[],nx,nx⟩::sl,tm',H',nx',by simp [e1],by simpa using e2,e3,e4,(zg8 tm o.dst _).trans e5 hin1 hin2,e6,fun ν hv=>?_⟩
   obtain ⟨f1,f2⟩:=e7 ν hv
   refine ⟨f1,fun tmv G ht hm=>?_⟩
   have hu:undef=den (rho ν H) (.tup []):=by simp [den,zu,undef]
   obtain ⟨ss,q1,q2,q3,q4,q5,q6⟩:=f2 (Zq tmv o.dst undef) G (by rw [hu];exact ht.put (gn ν H) (RLe.refl _) o.dst _) hm
   refine ⟨⟨o,false,undef,Zj tmv (vl ops o),[],fun _=>false,[],nx,nx⟩::ss,by simp [q1],fun j o' s' ho' hs'=>?_,?_,?_,?_,fun j s' t' hs' ht'=>?_⟩
   ·cases j with
    |zero=>
     simp at ho' hs'
     subst ho';subst hs'
     refine ⟨rfl,rfl,Nat.le_refl _,rfl,?_,(fun h=>by cases h),(fun b k hb=>by simp [Hp.get_nil] at hb),fun _=>⟨rfl,fun b=>by simp [Stp.touch,wI]⟩,fun b hb=>by cases hb⟩
     show ue ops (Zj tmv (vl ops o)) o=some false
     rw [←zme]
     exact hw tmv ht.any
    |succ j=>
     simp only [List.getElem?_cons_succ] at ho' hs'
     exact q2 j o' s' ho' hs'
   ·exact q3
   ·exact q4
   ·simp only [hpR,Bool.false_eq_true,if_false];exact q5
   ·cases j with
    |zero=>
     simp at hs' ht'
     subst hs';subst ht'
     exact ⟨rfl,rfl,rfl,(fun x hx=>by cases hx),(fun b hb=>by cases hb)⟩
    |succ j=>simp at hs' ht';exact q6 j s' t' hs' ht'
theorem zhN {r:Option Nat} {c:Code} {tm:List Value} {ds:List Nat} {H:Hp} {nx:Nat} {R R2:Res} (h:jy P r c tm ds H nx R) (he:R2.e=R.e) (hd:R2.ds=R.ds) (hn:R2.nx=R.nx) (hH:∀φ K w,zI φ R.H K w→zI φ R2.H K w) (ht:∀φ ts,qX φ R.tm ts→qX φ R2.tm ts):jy P r c tm ds H nx R2:=by
 obtain ⟨e,t,d,H',n⟩:=R2
 dsimp only at he hd hn hH ht
 subst he;subst hd;subst hn
 refine ⟨h.1,fun φ w K a rc g hf htm hds hr=>wpIn_mono (h.2 φ w K a rc g hf htm hds hr) ?_⟩
 rintro e a1 w1 ⟨rfl,φ1,k1,k2,k3,k4,k5⟩
 exact ⟨rfl,φ1,k1,hH _ _ _ k2,ht _ _ k3,k4,k5⟩
def zFl (tm:List SV) (x:Operand):List Nat:=match x with
 |.tmp t=>match gl tm t with
  |some (.ptr b _)=>[b]
  |some (.elp b _ _ _)=>[b]
  |some (.own b)=>[b]
  |_=>[]
 |_=>[]
def zhO (tm:List SV) (x:Operand):List Nat:=match x with
 |.tmp t=>match gl tm t with
  |some (.own b)=>[b]
  |_=>[]
 |_=>[]
def mpS (tm:List SV) (x:Operand):List Nat:=match x with
 |.tmp t=>match gl tm t with
  |some (.mp b)=>[b]
  |_=>[]
 |_=>[]
def zHp (tm:List SV) (o:Oper):Option (List Nat):=match o.op with
 |.load _ a=>some (zFl tm a)
 |.store _ a x=>some (zFl tm a++zhO tm x)
 |.indexAddr _ x _=>some (zhO tm x)
 |.slice _ x _ _ _=>some (zhO tm x)
 |.buildSlice _ _ ps=>some (ps.toList.flatMap fun p=>zhO tm p.2)
 |.call {callee:=.builtin _,args:=args,argTypes:=_}=>some (args.toList.flatMap (zhO tm))
 |.lookup _ m _ _=>some (mpS tm m)
 |.mapUpdate _ m _ _=>some (mpS tm m)
 |.insert _ m _ _=>some (mpS tm m)
 |.call _=>none
 |_=>some []
def zyZ (tm:List SV) (o:Oper):List Nat:=match o.op with
 |.store _ a x=>zFl tm a++zhO tm x
 |.slice _ x _ _ _=>zhO tm x
 |.buildSlice _ _ ps=>ps.toList.flatMap fun p=>zhO tm p.2
 |.lookup _ m _ _=>mpS tm m
 |.mapUpdate _ m _ _=>mpS tm m
 |.insert _ m _ _=>mpS tm m
 |.call {callee:=.builtin .append,args:=args,argTypes:=_}=>match args.toList with
  |s::_=>zhO tm s
  |_=>[]
 |.call {callee:=.builtin .copy,args:=args,argTypes:=_}=>match args.toList with
  |s::_=>zhO tm s
  |_=>[]
 |_=>[]
def zFm (H:SH) (b:Nat):Bool:=match zn H b with
 |some (.vars _)=>true
 |some (.arr _ _ _)=>true
 |some (.loop _)=>true
 |some .defd=>true
 |some (.mpb _ _ _ _)=>true
 |_=>false
def qQ:SH→List Nat
 |[]=>[]
 |(b,_)::r=>b::qQ r
def zdk (H:SH):List Nat→List Nat
 |[]=>[]
 |b::r=>bif zFm H b then b::zdk H r else zdk H r
def zCj:List SV→List Nat
 |[]=>[]
 |.own b::r=>b::zCj r
 |_::r=>zCj r
def zy0 (tm:List SV):List Operand→List Nat
 |[]=>[]
 |.tmp t::r=>(match gl tm t with
  |some (.own b)=>[b]
  |some (.agg cs)=>zCj cs
  |_=>[])++zy0 tm r
 |_::r=>zy0 tm r
def zFn (o:Oper):List Operand:=match o.op with
 |.call {callee:=.value _,args:=args,argTypes:=_}=>args.toList
 |_=>[]
def zH0 (ops:Array Oper) (ms:List Nat) (est:List (List Nat)) (i:Nat) (tm:List SV) (H:SH) (done:List Wb):Option (List Nat×List Nat):=
 match gl ops.toList i with
 |none=>none
 |some o=>match zHp tm o with
  |some bs=>some (zdk H (zyZ tm o),bs)
  |none=>match (List.range ops.size).filter fun j=>j != i&&!zmk ms i j with
   |[]=>some (zdk H (qQ H),qQ H)
   |others=>match others.flatMap (fun j=>est.getD j []++(match ops[j]? with | some p=>zyZ tm p | none=>[])),others.filterMap fun j=>if j < i then (match (done.reverse)[j]? with | some s=>if s.lo < s.hi then some (s.lo,s.hi) else none | none=>none) else none with
    |mask,rs=>some (zdk H ((zy0 tm (zFn o)).filter fun b=>!(mask.contains b||zud rs b)),(qQ H).filter fun b=>!(mask.contains b||zud rs b))
def zDA (P:Program) (ops:Array Oper) (H:SH):List Oper→List SV→List (List Nat)
 |[],_=>[]
 |o::l,tm=>zyZ tm o::zDA P ops H l (zaO tm o.dst (match zB3 P tm H 0 o with
  |some (v,_,_)=>v
  |none=>.junk))
def zmF (H:SH) (tm:List SV):List Operand→SH
 |[]=>H
 |x::r=>match x with
  |.tmp t=>match gl tm t with
   |some (.own b)=>match zn H b with
    |some (.arr nn ty l)=>zmF (yd H b (.fro nn ty l)) tm r
    |_=>zmF H tm r
   |_=>zmF H tm r
  |_=>zmF H tm r
def zDB (o:Oper):List Operand:=match o.op with
 |.call {callee:=.value _,args:=args,argTypes:=_}=>args.toList
 |.slice _ x _ _ _=>[x]
 |_=>[]
def mvS (tm:List SV) (o:Oper):List SV:=match o.op with
 |.move (.tmp t)=>match gl tm t with
  |some (.own b)=>zaO tm o.dst (.own b)
  |_=>tm
 |_=>tm
def plT:Ty→Bool
 |.list _=>false
 |.pair a b=>plT a&&plT b
 |_=>true
def zHq (P:Program) (o:Oper):Bool:=match o.op with
 |.call {callee:=.value (.func f),args:=_,argTypes:=_}=>match zx1 P f with
  |some fn=>!(fn.resultTypes.toList.all fun t=>match zmu P 30 t with
   |some ty=>plT ty
   |none=>true)
  |none=>false
 |_=>false
def zy1 (P:Program) (H:SH) (tm0 tm:List SV):List Oper→SH
 |[]=>H
 |o::l=>zy1 P (zmF (zmF H tm0 (zDB o)) (bif zHq P o then tm else tm0) (zDB o)) tm0 (mvS tm o) l
theorem KZ (tm:List SV):∀(xs:List Operand) (H:SH),xR H (zmF H tm xs)
 |[],H=>xR.refl H
 |x::r,H=>by
  unfold zmF
  split
  ·split
   ·split
    ·rename_i hb;exact (zaL hb).trans (KZ tm r _)
    ·exact KZ tm r _
   ·exact KZ tm r _
  ·exact KZ tm r _
theorem zsf (tm0:List SV):∀(l:List Oper) (tm:List SV) (H:SH),xR H (zy1 P H tm0 tm l)
 |[],tm,H=>xR.refl H
 |o::l,tm,H=>((KZ tm0 _ H).trans (KZ _ _ _)).trans (zsf tm0 l _ _)
def zCk (P:Program) (op:List SV→SH→Nat→Oper→KO R→Option R) (ops:Array Oper) (tm:List SV) (H:SH) (nx:Nat) (k:List SV→SH→Nat→Option R):Option R:=
 match zmh ops.toList 0 [] with
 |ms=>match zy1 P H tm tm ops.toList with
  |H1=>match (bif ops.toList.any zyi then zDA P ops H1 ops.toList tm else []) with
   |est=>zox op ops (zH0 ops ms est) 0 [] ops.toList tm H1 nx fun sl tm' H' nx'=>bif zug ms ops&&(zup ms sl 0 sl&&P.follows .mixedOrders) then k tm' H' nx' else none
theorem zy2 {r:Option Nat} {c:Code} {tm:List Value} {ds:List Nat} {H H1:SH} {nx:Nat} {R:Res} {ν:Nat→Bool} (hg:xR H H1) (h:jy P r c tm ds (zH ν H1) nx R):jy P r c tm ds (zH ν H) nx R:=
 ⟨h.1,fun φ w K a rc g hf ht hd hr=>by
  obtain ⟨φ1,e1,g1⟩:=hg.2 ν φ K w g
  have hle:=(e1 0).1
  refine wpIn_mono (h.2 φ1 w K a rc g1 (zmp (mid:=0) hf e1) (ht.mono hle) (hd.mono hle) (hr.mono hle)) ?_
  rintro e a1 w1 ⟨rfl,φ2,k1,k2,k3,k4,k5⟩
  exact ⟨rfl,φ2,(e1 nx).trans k1 (Nat.le_refl _) h.1,k2,k3,k4,k5⟩⟩
theorem zFo {op:List SV→SH→Nat→Oper→KO R→Option R} {rd:Option Nat} (hop:OpS P rd op) {id:Nat} {ops:Array Oper} {tm:List SV} {ds:List Nat} {H:SH} {nx:Nat} {k:List SV→SH→Nat→Option R} {r:R} (h:zCk P op ops tm H nx k=some r) :
  ∃tm' H' nx',JQ P rd (.region id ops true) tm ds H nx ⟨.normal,tm',ds,H',nx'⟩∧k tm' H' nx'=some r:=by
 unfold zCk at h
 dsimp only at h
 obtain ⟨sl,tm',H',nx',e1,e2,e3,e4,e5,e6,e7⟩:=zqp hop h
 have h6:=zE e2
 obtain ⟨hc,h2⟩:=h6
 simp only [Bool.and_eq_true,zug] at hc
 obtain ⟨⟨c1,c2⟩,c3,c4⟩:=hc
 have c1:=zmj c1
 have c2:=zDc c2
 have hg:=zsf (P:=P) tm ops.toList tm H
 refine ⟨tm',H',nx',⟨hg.1.regLe.trans e3,hg.1.lkeep.trans e4,e5,e6,fun ν hv=>?_⟩,h2⟩
 obtain ⟨f1,f2⟩:=e7 ν (hg.1.vn hv)
 refine ⟨f1,zy2 hg ?_⟩
 obtain ⟨ss,q1,q2,q3,q4,q5,q6⟩:=f2 _ _ (YP.refl ν _ tm) (Mix.refl _)
 have hvf:=zFk (ms:=zmh ops.toList 0 []) (by rw [e1,q1]) q6 (by simpa using c3)
 obtain ⟨D,hs,ht⟩:=zDb (ms:=zmh ops.toList 0 []) ⟨q1,q2⟩ c1 c2 hvf
 have:=zAz (id:=id) (ds:=ds) c4 D (HF:=hpR ss (zH ν (zy1 P H tm tm ops.toList))) (fun b k hb=>by rw [hs];exact hb)
 rw [ht,q3] at this
 rw [show rho ν H=rho ν (zy1 P H tm tm ops.toList) from (hg.1.rho ν).symm]
 exact zhN this rfl rfl rfl (fun φ K w g=>q5.good g) (fun φ ts ht=>q4.rel ht)
def zCl (P:Program) (f:FuncId) (args:List SV) (H:SH) (nx:Nat) (v:SV) (H':SH) (nx':Nat):Prop:=
 (∃fn,P.funcs[f]?=some fn∧fn.body.isSome=true)∧wJ H H'∧wR H H'∧nx≤nx'∧∀ν,VN ν nx H→VN ν nx' H'∧Jf P f (zu (rho ν H) args) (zH ν H) nx (den (rho ν H') v) (zH ν H') nx'
def zsg (P:Program) (rd:Option Nat) (c:Code) (tm:List SV) (ds:List Nat) (H:SH) (nx:Nat) (R:VL):Prop:=
 wJ H R.H∧wR H R.H∧Qu (asg c) tm R.tm∧nx≤R.nx∧∀ν,VN ν nx H→VN ν R.nx R.H∧zit P rd c (zu (rho ν H) tm) ds (zH ν H) nx (zcm ν R)
def zFp (P:Program) (c x:Code) (tm:List SV) (ds:List Nat) (H:SH) (nx:Nat) (R:VL):Prop:=
 wJ H R.H∧wR H R.H∧Qu (asg c) tm R.tm∧nx≤R.nx∧∀ν,VN ν nx H→VN ν R.nx R.H∧zon P c x (zu (rho ν H) tm) ds (zH ν H) nx (zcm ν R)
structure EvS (R:Type) where
 call:FuncId→List SV→SH→Nat→KO R→Option R
 code:Option Nat→Code→List SV→List Nat→SH→Nat→KC R→Option R
 loop:Option Nat→Code→List SV→List Nat→SH→Nat→KC R→Option R
 scp:Code→Nat→Code→List SV→List Nat→SH→Nat→KC R→Option R
 join:Option Nat→Code→List SV→List Nat→SH→Nat→KC R→Option R
 code0:Option Nat→Code→List SV→List Nat→SH→Nat→KC R→Option R
 jq:Code→Nat→Bool
structure EvS.Ok (P:Program) (E:EvS R):Prop where
 call:∀{f args H nx k r},E.call f args H nx k=some r→∃v H' nx',zCl P f args H nx v H' nx'∧k v H' nx'=some r
 code:∀{rd c tm ds H nx k r},E.code rd c tm ds H nx k=some r→∃S,JQ P rd c tm ds H nx S∧k S=some r
 loop:∀{rd c tm ds H nx k r},E.loop rd c tm ds H nx k=some r→∃S,zsg P rd c tm ds H nx S∧k S=some r
 scp:∀{c l x tm ds H nx k r},findLabel c l=some x→(∀i∈asg x,i∈asg c)→E.scp c l x tm ds H nx k=some r→∃S,zFp P c x tm ds H nx S∧k S=some r
 join:∀{rd c tm ds H nx k r},E.join rd c tm ds H nx k=some r→∃S,JQ P rd c tm ds H nx S∧k S=some r
 code0:∀{rd c tm ds H nx k r},E.code0 rd c tm ds H nx k=some r→∃S,JQ P rd c tm ds H nx S∧k S=some r
theorem zCm {r:Option Nat} {c:Code} {tm tm0:List Value} {ds:List Nat} {H H0:Hp} {nx:Nat} {R:Res} (h:jy P r c tm0 ds H0 nx R) (hH:∀φ K w,zI φ H K w→zI φ H0 K w) (hT:∀φ ts,qX φ tm ts→qX φ tm0 ts):jy P r c tm ds H nx R:=
 ⟨h.1,fun φ w K a rc g hf ht hd hr=>h.2 φ w K a rc (hH _ _ _ g) hf (hT _ _ ht) hd hr⟩
theorem zco {H:SH} {l:Nat} {L L':SL} (hl:zn H l=some (.loop L)) (c:Nat):reg (zn (yd H l (.loop L')) c)=reg (zn H c):=by
 rw [qZ]
 by_cases h:c=l
 ·subst h;simp [hl,reg]
 ·rw [if_neg h]
theorem zBg {H:SH} {l:Nat} {L L':SL} (hl:zn H l=some (.loop L)) (c:Nat) (h:jv (zn (yd H l (.loop L')) c)=true):jv (zn H c)=true:=by
 rw [qZ] at h
 by_cases hc:c=l
 ·subst hc;simp [hl,jv] at h
 ·rwa [if_neg hc] at h
theorem zy3 {ν:Nat→Bool} {H:SH} {l:Nat} {L L':SL} (hl:zn H l=some (.loop L)) (c:Nat):(zH ν (yd H l (.loop L'))).get c=((zH ν H).set l (.loop (yx (rho ν H) L'))).get c:=by
 rw [zU,qZ,xL (zco hl),Hp.get_set,zU]
 by_cases hc:c=l
 ·subst hc;simp [hl,qa]
 ·rw [if_neg hc,if_neg hc,zU]
theorem zsh {H:SH} {l:Nat} {L:SL} (hl:zn H l=some (.loop L)) (s:LoopState) (p:Option Code):wR H (yd H l (.loop {L with st:=s,pend:=p})):=fun m M hm=>by
 rw [qZ]
 by_cases h:m=l
 ·subst h
  rw [hl] at hm;cases hm
  exact ⟨s,p,by simp [hl]⟩
 ·rw [if_neg h];exact ⟨M.st,M.pend,hm⟩
def zuq:List Tmp→List SV→List SV→List SV
 |t::ts,v::vs,tm=>zuq ts vs (lsS tm t v)
 |_,_,tm=>tm
theorem zy4 (ρ:Nat→Value):∀(ps:List Tmp) (vs tm:List SV),zu ρ (zuq ps vs tm)=gW ps (zu ρ vs) (zu ρ tm)
 |[],vs,tm=>by simp [zuq,gW]
 |p::ps,[],tm=>by simp [zuq,gW,zu]
 |p::ps,v::vs,tm=>by
  simp only [zuq,zu,gW,Zm]
  rw [zy4 ρ ps vs]
  congr 1
  simp [qD,List.map_set]
def zy5 (E:EvS R) (l:Nat) (vs:List SV) (H:SH) (nx:Nat) (k:KO R):Option R:=match zn H l with
 |some (.loop L)=>bif zqk vs L.params.size then E.code (some l) L.assign (zuq L.params.toList vs L.tm) [] H nx fun R1=>match R1.e,R1.ds,zn R1.H l with
   |.normal,[],some (.loop L1)=>match L1.st with
    |.ready=>E.code (some l) L.body R1.tm [] (yd R1.H l (.loop {L1 with st:=.busy})) R1.nx fun R2=>match zn R2.H l,zjt R2.e with
     |some (.loop L2),some (b,s,p)=>k (.bool b) (yd R2.H l (.loop {L2 with st:=s,pend:=p})) R2.nx
     |_,_=>none
    |_=>none
   |_,_,_=>none
  else none
 |_=>none
theorem zDC {E:EvS R} (hE:E.Ok P) {rd:Option Nat} {o:Oper} {tm:List SV} {H:SH} {nx:Nat} {k:KO R} {r:R} {cf:Operand} {args:Array Operand} {ats:Array TypeId} (ho:o.op=.call {callee:=.value cf,args:=args,argTypes:=ats})
  {l:Nat} {vs:List SV} (hcf:jY tm H cf=some (.yld l)) (hvs:zeZ tm H args.toList=some vs) (h:zy5 E l vs H nx k=some r):Zr P rd o tm H nx k r:=by
 unfold zy5 at h
 split at h
 case h_2=>cases h
 rename_i L hl
 have h6:=zE h
 clear h
 obtain ⟨hn,h⟩:=h6
 have hn:=zfc hn
 obtain ⟨R1,⟨a1,a2,a3,a4,a5⟩,h1⟩:=hE.code h
 split at h1
 case h_2=>cases h1
 rename_i he1 hd1 hl1
 rename_i L1
 split at h1
 case h_2=>cases h1
 rename_i hst
 obtain ⟨R2,⟨b1,b2,b3,b4,b5⟩,h2⟩:=hE.code h1
 split at h2
 case h_2=>cases h2
 rename_i L2 b s p hl2 he2
 have hpl:L1.pend=L1.pend:=rfl
 refine uT (v:=.bool b) ⟨?_,?_,Nat.le_trans a4 b4,fun ν hv=>?_⟩ h2
 ·exact fun c x hx=>by rw [zco hl2];exact b1 c x (by rw [zco hl1];exact a1 c x hx)
 ·exact ((a2.trans (zsh hl1 .busy L1.pend)).trans b2).trans (zsh hl2 s p)
 ·obtain ⟨v1,o1⟩:=a5 ν hv
  have v1':VN ν R1.nx (yd R1.H l (.loop {L1 with st:=.busy})):=Jh (zco hl1) (zBg hl1) v1
  obtain ⟨v2,o2⟩:=b5 ν v1'
  refine ⟨Jh (zco hl2) (zBg hl2) v2,?_⟩
  have hcf':=qc hcf ν
  simp only [den] at hcf'
  have hlv:(zH ν H).get l=some (.loop (yx (rho ν H) L)):=by rw [zU,hl];rfl
  have key:=zBP (P:=P) (r:=rd) (o:=o) ho (R1:=zcm ν R1) (R2:=zcm ν R2) (L1:=yx (rho ν R1.H) L1) (L2:=yx (rho ν R2.H) L2) (b:=b) (s:=s) (p:=p) hcf' (zam ν hvs) hlv (by rw [wL];exact hn)
   (by have:=o1;rw [zy4] at this;simpa [yx] using this) he1 hd1 (by show (zH ν R1.H).get l=_;rw [zU,hl1];rfl) hst
   (zCm o2 (fun φ K w g=>g.sub fun c x hx=>by rw [zy3 hl1] at hx;exact hx) (fun φ ts ht=>by rw [xL (zco hl1)];exact ht))
   (by show (zH ν R2.H).get l=_;rw [zU,hl2];rfl) he2
  refine WN key (fun φ v' hv=>by simpa only [den] using hv) (fun φ K w g=>g.sub fun c x hx=>?_)
  rw [zy3 hl2] at hx
  exact hx
def opE (P:Program) (E:EvS R) (tm:List SV) (H:SH) (nx:Nat) (o:Oper) (k:KO R):Option R:=match o.op with
 |.call {callee:=.value cf,args:=args,argTypes:=_}=>match jY tm H cf,zeZ tm H args.toList with
  |some (.fn f fs cs),some vs=>E.call f (fs++(vs++cs)) H nx k
  |some (.yld l),some vs=>zy5 E l vs H nx k
  |_,_=>none
 |_=>zFd P tm H nx o k
theorem zHr {E:EvS R} (hE:E.Ok P) (hs:uJ P) {rd:Option Nat}:OpS P rd (opE P E):=by
 intro tm H nx o k r h
 unfold opE at h
 split at h
 ·rename_i cf args ats ho
  split at h
  ·rename_i f fs cs vs hcf hvs
   obtain ⟨v,H',nx',⟨⟨fn,hfn,hb⟩,a1,a2,a3,a4⟩,h2⟩:=hE.call h
   refine uT ⟨a1,a2,a3,fun ν hv=>?_⟩ h2
   obtain ⟨v1,o1⟩:=a4 ν hv
   refine ⟨v1,zC5 ho hs hfn hb (f:=f) (fs:=(zu (rho ν H) fs).toArray) (cs:=(zu (rho ν H) cs).toArray) ?_ (zam ν hvs) ?_⟩
   ·have:=qc hcf ν;simpa only [den] using this
   ·have:zu (rho ν H) (fs++(vs++cs))=zu (rho ν H) fs++zu (rho ν H) vs++zu (rho ν H) cs:=by simp [qD]
    rw [this] at o1
    exact o1
  ·rename_i l vs hcf hvs
   exact zDC hE ho hcf hvs h
  ·cases h
 ·exact zGP h
def opX (P:Program) (E:EvS R) (tm:List SV) (H:SH) (nx:Nat) (o:Oper) (k:KO R):Option R:=opE P E tm H nx o k
theorem zDD {E:EvS R} (hE:E.Ok P) (hs:uJ P) {rd:Option Nat}:OpS P rd (opX P E):=by
 intro tm H nx o k r h
 obtain ⟨v,H',nx',h1,h2⟩:=zHr hE hs h
 exact ⟨v,H',nx',h1,h2⟩
def zsi:LoopState→Option Code→Option Exit
 |.busy,_=>none
 |_,none=>some .normal
 |_,some .ret=>some .ret
 |_,some (.exit i)=>some (.exit i)
 |_,some (.goto i)=>some (.goto i)
 |_,_=>none
theorem zpD {L:Loop} {tm:List Value} {ds:List Nat} {H:Hp} {nx:Nat} {e:Exit} (h:zsi L.state L.pending=some e):ZR L tm ds H nx=some ⟨e,tm,ds,H,nx⟩:=by
 unfold zsi at h
 unfold ZR
 split at h<;>first | (cases h;done) | skip
 all_goals (cases h;rename_i h1 h2;first
  |(rename_i h3;rw [h2];cases hs:L.state<;>first | rfl | (exact absurd hs h1) | (simp_all))
  |(cases hs:L.state<;>simp_all))
def zy6 (E:EvS R) (rd:Option Nat) (g:Operand) (ps:Array Tmp) (assign body:Code) (tm:List SV) (ds:List Nat) (H:SH) (nx:Nat) (k:KC R):Option R:=match jY tm H g with
 |some (.fn f fs cs)=>match rd with
  |none=>match YN H nx .defd with
   |some H1=>match YN H1 (nx+1) (.loop ⟨tm,ps,assign,body,.ready,none,nx⟩) with
    |some H2=>E.call f (fs++(.yld (nx+1)::cs)) H2 (nx+2) fun _ H3 nx3=>match zn H3 (nx+1) with
     |some (.loop L)=>match zsi L.st L.pend with
      |some e=>k ⟨e,tm,nx::ds,yd H3 (nx+1) .abs,nx3⟩
      |none=>none
     |_=>none
    |none=>none
   |none=>none
  |some l0=>match zn H l0 with
   |some (.loop L0)=>match YN H nx (.loop ⟨tm,ps,assign,body,.ready,none,L0.dfr⟩) with
    |some H2=>E.call f (fs++(.yld nx::cs)) H2 (nx+1) fun _ H3 nx3=>match zn H3 nx with
     |some (.loop L)=>match zsi L.st L.pend with
      |some e=>k ⟨e,tm,ds,yd H3 nx .abs,nx3⟩
      |none=>none
     |_=>none
    |none=>none
   |_=>none
 |_=>none
theorem zcp {H:SH} {l:Nat} {L:SL} (hl:zn H l=some (.loop L)) (c:Nat):reg (zn (yd H l .abs) c)=reg (zn H c):=by
 rw [qZ]
 by_cases h:c=l
 ·subst h;simp [hl,reg]
 ·rw [if_neg h]
theorem zDE {H:SH} {l:Nat} {L:SL} (hl:zn H l=some (.loop L)) (c:Nat) (h:jv (zn (yd H l .abs) c)=true):jv (zn H c)=true:=by
 rw [qZ] at h
 by_cases hc:c=l
 ·subst hc;simp [hl,jv] at h
 ·rwa [if_neg hc] at h
theorem zBh {ν:Nat→Bool} {H:SH} {l:Nat} {L:SL} (hl:zn H l=some (.loop L)) (c:Nat) (x:Blk) (h:(zH ν (yd H l .abs)).get c=some x):((zH ν H).del l).get c=some x:=by
 rw [zU,qZ,xL (zcp hl)] at h
 rw [Hp.get_del]
 by_cases hc:c=l
 ·subst hc;simp [hl,qa] at h
 ·rw [if_neg hc] at h ⊢
  rw [zU];exact h
theorem zoy {H:SH} {nx:Nat} {k:SB} (h:zn H nx=none) (hk:reg (some k)=none) (ν:Nat→Bool):rho ν ((nx,k)::H)=rho ν H:=xL (fun c=>by
 rw [zK]
 by_cases hc:nx=c
 ·subst hc;rw [if_pos rfl,hk,h];rfl
 ·rw [if_neg hc]) ν
theorem zur {H:SH} {nx:Nat} {k:SB} (h:zn H nx=none) (hk:reg (some k)=none) {ν:Nat→Bool} {x:Blk} (hx:qa (rho ν H) (ν nx) k=some x):zH ν ((nx,k)::H)=(nx,x)::zH ν H:=by
 unfold zH
 rw [zoy h hk]
 simp only [ka,hx]
theorem zDF {E:EvS R} (hE:E.Ok P) (hs:uJ P) {rd:Option Nat} {g:Operand} {ps:Array Tmp} {assign body:Code} {tm:List SV} {ds:List Nat} {H:SH} {nx:Nat} {k:KC R} {r:R} (h:zy6 E rd g ps assign body tm ds H nx k=some r) :
  ∃S,JQ P rd (.rangeFunc g ps assign body) tm ds H nx S∧k S=some r:=by
 unfold zy6 at h
 split at h
 case h_2=>cases h
 rename_i f fs cs hg
 split at h
 ·split at h
  case h_2=>cases h
  rename_i H1 hn1
  split at h
  case h_2=>cases h
  rename_i H2 hn2
  obtain ⟨q1,rfl⟩:=uK hn1
  obtain ⟨q2,rfl⟩:=uK hn2
  obtain ⟨v,H3,nx3,⟨⟨fn,hfn,hb⟩,a1,a2,a3,a4⟩,h2⟩:=hE.call h
  split at h2
  case h_2=>cases h2
  rename_i L hl
  split at h2
  case h_2=>cases h2
  rename_i e he
  have hq2:zn H (nx+1)=none:=by
   rw [zK,if_neg (by omega)] at q2;exact q2
  refine ⟨_,⟨?_,?_,Qu.refl _ _,?_,fun ν hv=>?_⟩,h2⟩
  ·exact fun c x hx=>by
    rw [zcp hl]
    exact a1 c x (kR q2 c x (kR q1 c x hx))
  ·intro m M hm
   have hne:m≠nx+1:=fun e=>by subst e;rw [hq2] at hm;cases hm
   obtain ⟨s,p,h3⟩:=((gX q1).trans (gX q2)).trans a2 m M hm
   exact ⟨s,p,by rw [qZ,if_neg hne];exact h3⟩
  ·exact Nat.le_trans (by omega) a3
  ·have v2:VN ν (nx+2) ((nx+1,.loop ⟨tm,ps,assign,body,.ready,none,nx⟩)::(nx,.defd)::H):=YO (YO hv)
   obtain ⟨v3,o3⟩:=a4 ν v2
   refine ⟨Jh (zcp hl) (zDE hl) v3,?_⟩
   have hρ1:rho ν ((nx,SB.defd)::H)=rho ν H:=zoy q1 rfl ν
   have hρ2:rho ν ((nx+1,SB.loop ⟨tm,ps,assign,body,.ready,none,nx⟩)::(nx,.defd)::H)=rho ν H:=(zoy q2 rfl ν).trans hρ1
   have hd:zH ν ((nx+1,SB.loop ⟨tm,ps,assign,body,.ready,none,nx⟩)::(nx,.defd)::H)=(nx+1,.loop (VB (zu (rho ν H) tm) ps assign body nx))::(nx,.defd)::zH ν H:=by
    rw [zur q2 rfl (x:=.loop (yx (rho ν H) ⟨tm,ps,assign,body,.ready,none,nx⟩)) (by simp only [qa,hρ1]),zur q1 rfl (x:=.defd) rfl]
    rfl
   rw [hρ2,hd] at o3
   have hg':=qc hg ν
   simp only [den] at hg'
   have hargs:zu (rho ν H) (fs++(.yld (nx+1)::cs))=zu (rho ν H) fs++[.func (.yield (nx+1)) #[] #[]]++zu (rho ν H) cs:=by simp [qD,den]
   rw [hargs] at o3
   have key:=zp7 (P:=P) (g:=g) (ps:=ps) (assign:=assign) (body:=body) (tm:=zu (rho ν H) tm) (ds:=ds) (nx:=nx) hs hfn hb hg' (by simpa using o3) (by rw [zU,hl];rfl) (zpD (L:=yx (rho ν H3) L) he)
   refine zhN key rfl rfl rfl (fun φ K w g=>g.sub fun c x hx=>zBh hl c x hx) (fun φ ts ht=>?_)
   refine zqd ν (fun c x hx=>?_) ht
   rw [zcp hl]
   exact a1 c x (kR q2 c x (kR q1 c x hx))
 ·rename_i l0
  split at h
  case h_2=>cases h
  rename_i L0 hl0
  split at h
  case h_2=>cases h
  rename_i H2 hn2
  obtain ⟨q2,rfl⟩:=uK hn2
  obtain ⟨v,H3,nx3,⟨⟨fn,hfn,hb⟩,a1,a2,a3,a4⟩,h2⟩:=hE.call h
  split at h2
  case h_2=>cases h2
  rename_i L hl
  split at h2
  case h_2=>cases h2
  rename_i e he
  refine ⟨_,⟨?_,?_,Qu.refl _ _,?_,fun ν hv=>?_⟩,h2⟩
  ·exact fun c x hx=>by
    rw [zcp hl]
    exact a1 c x (kR q2 c x hx)
  ·intro m M hm
   have hne:m≠nx:=fun e=>by subst e;rw [q2] at hm;cases hm
   obtain ⟨s,p,h3⟩:=(gX q2).trans a2 m M hm
   exact ⟨s,p,by rw [qZ,if_neg hne];exact h3⟩
  ·exact Nat.le_trans (by omega) a3
  ·have v2:VN ν (nx+1) ((nx,.loop ⟨tm,ps,assign,body,.ready,none,L0.dfr⟩)::H):=YO hv
   obtain ⟨v3,o3⟩:=a4 ν v2
   refine ⟨Jh (zcp hl) (zDE hl) v3,?_⟩
   have hρ2:rho ν ((nx,SB.loop ⟨tm,ps,assign,body,.ready,none,L0.dfr⟩)::H)=rho ν H:=zoy q2 rfl ν
   have hd:zH ν ((nx,SB.loop ⟨tm,ps,assign,body,.ready,none,L0.dfr⟩)::H)=(nx,.loop (VB (zu (rho ν H) tm) ps assign body L0.dfr))::zH ν H:=by
    rw [zur q2 rfl (x:=.loop (yx (rho ν H) ⟨tm,ps,assign,body,.ready,none,L0.dfr⟩)) rfl]
    rfl
   rw [hρ2,hd] at o3
   have hg':=qc hg ν
   simp only [den] at hg'
   have hargs:zu (rho ν H) (fs++(.yld nx::cs))=zu (rho ν H) fs++[.func (.yield nx) #[] #[]]++zu (rho ν H) cs:=by simp [qD,den]
   rw [hargs] at o3
   have key:=zly (P:=P) (l0:=l0) (g:=g) (ps:=ps) (assign:=assign) (body:=body) (tm:=zu (rho ν H) tm) (ds:=ds) (nx:=nx) (L0:=yx (rho ν H) L0) hs hfn hb hg' (by rw [zU,hl0];rfl) (by simpa [yx] using o3) (by rw [zU,hl];rfl) (zpD (L:=yx (rho ν H3) L) he)
   refine zhN key rfl rfl rfl (fun φ K w g=>g.sub fun c x hx=>zBh hl c x hx) (fun φ ts ht=>?_)
   refine zqd ν (fun c x hx=>?_) ht
   rw [zcp hl]
   exact a1 c x (kR q2 c x hx)
def zg9:List Nat→SH→Option SH
 |[],H=>some H
 |d::ds,H=>match zn H d with
  |some .defd=>zg9 ds (yd H d .abs)
  |_=>none
theorem zy7 {H:SH} {d:Nat} (hd:zn H d=some .defd) (c:Nat):reg (zn (yd H d .abs) c)=reg (zn H c):=by
 rw [qZ]
 by_cases h:c=d
 ·subst h;simp [hd,reg]
 ·rw [if_neg h]
theorem zGT {H:SH} {d:Nat} (hd:zn H d=some .defd) (c:Nat) (h:jv (zn (yd H d .abs) c)=true):jv (zn H c)=true:=by
 rw [qZ] at h
 by_cases hc:c=d
 ·subst hc;simp [hd,jv] at h
 ·rwa [if_neg hc] at h
theorem zy8 {ν:Nat→Bool}:∀{ds:List Nat} {H H1:SH} {Hd:Hp},(∀b,Hd.get b=(zH ν H).get b)→zg9 ds H=some H1→∃Hd1,zdf ds Hd=some Hd1∧(∀b,Hd1.get b=(zH ν H1).get b)
 |[],H,H1,Hd,hg,h=>by simp only [zg9,Option.some.injEq] at h;subst h;exact ⟨Hd,rfl,hg⟩
 |d::ds,H,H1,Hd,hg,h=>by
  simp only [zg9] at h
  split at h
  case h_2=>cases h
  rename_i hd
  have h1:Hd.get d=some .defd:=by rw [hg,zU,hd];rfl
  simp only [zdf,h1]
  refine zy8 (fun b=>?_) h
  rw [Hp.get_del,zU,qZ,xL (zy7 hd)]
  by_cases hb:b=d
  ·subst hb;simp [hd,qa]
  ·rw [if_neg hb,if_neg hb,hg,zU]
theorem zv6:∀{ds:List Nat} {H H1:SH},zg9 ds H=some H1→(∀c,reg (zn H1 c)=reg (zn H c))∧(∀c,jv (zn H1 c)=true→jv (zn H c)=true)∧wR H H1
 |[],H,H1,h=>by simp only [zg9,Option.some.injEq] at h;subst h;exact ⟨fun _=>rfl,fun _ h=>h,wR.refl _⟩
 |d::ds,H,H1,h=>by
  simp only [zg9] at h
  split at h
  case h_2=>cases h
  rename_i hd
  obtain ⟨h1,h2,h3⟩:=zv6 h
  exact ⟨fun c=>(h1 c).trans (zy7 hd c),fun c hc=>zGT hd c (h2 c hc),(zao hd (fun L=>by simp)).trans h3⟩
def zqq (P:Program) (H:SH) (tm:List SV):List ResultVar→Option (List SV)
 |[]=>some []
 |.tmp t::rs=>match jY tm H (.tmp t),zqq P H tm rs with
  |some v,some vs=>some (v::vs)
  |_,_=>none
 |.cell a t::rs=>match jY tm H (.tmp a),zqq P H tm rs with
  |some (.ptr b o),some vs=>match zxR P H t (.ptr b o) with
   |some v=>some (v::vs)
   |none=>none
  |_,_=>none
theorem zFq {Hd Hd2:Hp} (h:∀b,Hd.get b=Hd2.get b) (t:TypeId) (v:Value):Zl P Hd t v=Zl P Hd2 t v:=by
 unfold Zl
 split
 ·rw [h]
 ·rfl
theorem zus {ν:Nat→Bool} {H0 H:SH} {Hd:Hp} (hg:∀b,Hd.get b=(zH ν H).get b) {tm:List SV} (hr:rho ν H0=rho ν H):∀{rs:List ResultVar} {vs:List SV},zqq P H tm rs=some vs→zdD P Hd (zu (rho ν H0) tm) rs=some (zu (rho ν H) vs)
 |[],vs,h=>by simp only [zqq,Option.some.injEq] at h;subst h;simp [zdD,zu]
 |.tmp t::rs,vs,h=>by
  simp only [zqq] at h
  split at h
  ·rename_i v us h1 h2
   cases h
   have e1:=qc h1 ν
   simp only [zdD,zus hg hr h2,zu]
   rw [hr,e1]
  ·cases h
 |.cell a t::rs,vs,h=>by
  simp only [zqq] at h
  split at h
  ·rename_i b o us h1 h2
   split at h
   case h_2=>cases h
   rename_i v hv
   cases h
   have e1:=qc h1 ν
   have e2:=zvV (ν:=ν) hv
   have e3:Zl P (zH ν H) t (den (rho ν H) (.ptr b o))=some (den (rho ν H) v):=by
    cases hd:Zl P (zH ν H) t (den (rho ν H) (.ptr b o)) with
    |some u=>rw [hd] at e2;exact e2
    |none=>rw [hd] at e2;simp [den,zfg,zp4] at e2
   simp only [zdD,zus hg hr h2,zu]
   rw [hr,e1,Option.bind_some,zFq hg,e3]
  ·cases h
def zdF:List SV→SV
 |[v]=>v
 |vs=>.tup vs
theorem zcq (ρ:Nat→Value):∀vs:List SV,den ρ (zdF vs)=YL (zu ρ vs)
 |[]=>by simp [zdF,den,zu,YL]
 |[v]=>by simp [zdF,zu,YL]
 |_::_::_=>by simp [zdF,den,zu,YL]
def zGa:Exit→Bool
 |.normal=>true
 |.ret=>true
 |_=>false
def zxT (P:Program) (E:EvS R) (f:FuncId) (args:List SV) (H:SH) (nx:Nat) (k:KO R):Option R:=match zx1 P f with
 |some fn=>match fn.body with
  |some c=>E.code none c (args++List.replicate (fn.ntmps - args.length) (.tup [])) [] H nx fun S=>bif zGa S.e then match zg9 S.ds S.H with
   |some H1=>match zqq P H1 S.tm fn.results.toList with
    |some vs=>k (zdF vs) H1 S.nx
    |none=>none
   |none=>none
   else none
  |none=>none
 |none=>none
theorem zut (ρ:Nat→Value) (n:Nat):zu ρ (List.replicate n (.tup []))=List.replicate n undef:=by
 simp [qD,den,undef,zu]
theorem zy9 {E:EvS R} (hE:E.Ok P) {f:FuncId} {args:List SV} {H:SH} {nx:Nat} {k:KO R} {r:R} (h:zxT P E f args H nx k=some r):∃v H' nx',zCl P f args H nx v H' nx'∧k v H' nx'=some r:=by
 unfold zxT at h
 split at h
 case h_2=>cases h
 rename_i fn hfn
 rw [zA1] at hfn
 split at h
 case h_2=>cases h
 rename_i c hb
 obtain ⟨S,⟨a1,a2,a3,a4,a5⟩,h1⟩:=hE.code h
 have h6:=zE h1
 clear h1
 obtain ⟨he,h1⟩:=h6
 split at h1
 case h_2=>cases h1
 rename_i H1 hk
 split at h1
 case h_2=>cases h1
 rename_i vs hv
 obtain ⟨k1,k2,k3⟩:=zv6 hk
 refine ⟨_,_,_,⟨⟨fn,hfn,by rw [hb];rfl⟩,fun c x hx=>by rw [k1 c];exact a1 c x hx,a2.trans k3,a4,fun ν hv2=>?_⟩,h1⟩
 obtain ⟨v1,o1⟩:=a5 ν hv2
 refine ⟨Jh k1 k2 v1,?_⟩
 obtain ⟨Hd1,e1,e2⟩:=zy8 (ν:=ν) (fun _=>rfl) hk
 have hr:=zus (P:=P) (ν:=ν) (H0:=S.H) e2 (xL k1 ν).symm hv
 have hlen:(zu (rho ν H) args).length=args.length:=wL _ _
 have o1':jy P none c (zu (rho ν H) args++List.replicate (fn.ntmps - (zu (rho ν H) args).length) undef) [] (zH ν H) nx (zcm ν S):=by
  rw [hlen,←zut (rho ν H),qD,qD,←List.map_append,←qD]
  exact o1
 have key:=zC8 (P:=P) (f:=f) (R:=zcm ν S) (H2:=Hd1) hfn hb o1' (by
  unfold zGa at he
  show S.e=.normal∨S.e=.ret
  split at he<;>simp_all) e1 hr (fun _ _ h=>h)
 rw [zcq]
 exact zBW key fun b x hx=>by rw [e2];exact hx
theorem QQ {φ φ0:Ren} (hF:∀b L,φ (FZ+b)=some L→φ0 (FZ+b)=some L):∀(t:Ty) (x:T t) (c:Value),c∈qv t x→∀v',zt φ c v'→zt φ0 c v'
 |.unit,x,c,hc,v',h=>by simp [qv] at hc
 |.bool,x,c,hc,v',h=>by
  simp only [qv,List.mem_singleton] at hc
  subst hc;cases h;exact .bool _
 |.int k,x,c,hc,v',h=>by
  simp only [qv,List.mem_singleton] at hc
  subst hc;cases h;exact .int _ _
 |.str,x,c,hc,v',h=>by
  simp only [qv,List.mem_singleton] at hc
  subst hc;cases h;exact .str _
 |.list t,l,c,hc,v',h=>by
  simp only [qv,List.mem_singleton] at hc
  subst hc
  unfold fzV at h ⊢
  simp only [cond_false] at h ⊢
  generalize hs:sz t=s at h ⊢
  generalize he:(List.map (fun x=>Value.agg (qv t x).toArray) l).toArray=es at h ⊢
  cases h with
  |fz _ _ b o c L hL hn ho hc hsz h=>
   refine .fz _ _ b o c L (hF b L hL) hn ho hc hsz fun j k e u u' h1 h2 h3=>?_
   rw [←he] at h1
   simp only [List.getElem?_toArray,List.getElem?_map,Option.map_eq_some_iff] at h1
   obtain ⟨x,hx,rfl⟩:=h1
   refine QQ hF t x u ?_ u' (h j k (Value.agg (qv t x).toArray) u u' (by rw [←he];simp [hx]) h2 h3)
   simp only [Value.cells,List.getElem?_toArray] at h2
   exact List.mem_of_getElem? h2
  |fz0 _ a c=>exact .fz0 _ _ _
 |.pair a b,x,c,hc,v',h=>by
  simp only [qv,List.mem_append] at hc
  rcases hc with hc | hc
  ·exact QQ hF a x.1 c hc v' h
  ·exact QQ hF b x.2 c hc v' h
theorem ze4 {φ φ0:Ren} (hF:∀b L,φ (FZ+b)=some L→φ0 (FZ+b)=some L) {t:Ty} {x:T t} {us:List Value} (h:zD φ (qv t x) us):zD φ0 (qv t x) us:=by
 refine zD.of_get h.length fun i v v' hv hv'=>?_
 obtain ⟨u,h1,h2⟩:=h.get hv
 rw [hv'] at h1;cases h1
 exact QQ hF t x v (List.mem_of_getElem? hv) _ h2
theorem zv7 {φ φ0:Ren} (hF:∀b L,φ (FZ+b)=some L→φ0 (FZ+b)=some L) {ρ:Nat→Value} (t:VT) (x:T t.ty) {v':Value} (h:zt φ (den ρ (mkV t x)) v'):zt φ0 (den ρ (mkV t x)) v':=by
 obtain ⟨ag,ty⟩:=t
 cases ag with
 |true=>
  simp only [mkV,cond_true,den] at h ⊢
  obtain ⟨ys,rfl,hl⟩:=h.agg_inv
  refine .agg' ?_
  rw [qD,yC] at hl ⊢
  simp only at hl ⊢
  exact ze4 hF (by simpa using hl)
 |false=>
  simp only [mkV,cond_false] at h ⊢
  have h2:=yC ρ ty x
  match he:yR ty x with
  |[v]=>
   rw [he] at h h2
   simp only [mk1,List.map_cons,List.map_nil] at h h2 ⊢
   exact QQ hF ty x _ (by rw [←h2];simp) _ h
  |[]=>rw [he] at h;simp [mk1,den] at h;exact (Kk h).elim
  |_::_::_=>rw [he] at h;simp [mk1,den] at h;exact (Kk h).elim
@[reducible] def zp (l:List VT):Ty:=List.rec (motive:=fun _=>Ty) .unit (fun a _ ih=>.pair a.ty ih) l
def Kr:(l:List VT)→List SV→SH→Option (T (zp l)×SH)
 |[],[],H=>some ((),H)
 |a::r,v::vs,H=>match cvV a v H with
  |some (x,H1)=>match Kr r vs H1 with
   |some (y,H2)=>some ((x,y),H2)
   |none=>none
  |none=>none
 |_,_,_=>none
def wT:(l:List VT)→T (zp l)→List SV
 |[],_=>[]
 |a::r,x=>mkV a (p1 x)::wT r (p2 x)
theorem zmG:∀{l:List VT} {vs:List SV} {H H':SH} {x:T (zp l)},Kr l vs H=some (x,H')→
  xR H H'∧∀ν G,GLe H' G→∀(φ:Ren) (K:Nat→Prop) (w:World) (nx:Nat) (us:List Value),zI φ (zH ν G) K w→VN ν nx G→zD φ (zu (rho ν H) vs) us→∀ρ,zD φ (zu ρ (wT l x)) us
 |[],[],H,H',x,h=>by
  simp only [Kr] at h
  cases h
  exact ⟨xR.refl _,fun ν G hG φ K w nx us g hv hr ρ=>by simpa [zu,wT] using hr⟩
 |a::r,v::vs,H,H',x,h=>by
  simp only [Kr] at h
  split at h
  case h_2=>cases h
  rename_i x1 H1 h1
  split at h
  case h_2=>cases h
  rename_i y H2 h2
  cases h
  obtain ⟨g1,r1⟩:=zrZ h1
  obtain ⟨g2,r2⟩:=zmG h2
  refine ⟨g1.trans g2,fun ν G hG φ K w nx us g hv hr ρ=>?_⟩
  match us,hr with
  |[],hr=>simp [zu,zD] at hr
  |u::us,hr=>
   simp only [zu,zD,wT] at hr ⊢
   refine ⟨r1 ν G (g2.1.trans hG) φ K w nx u g hv hr.1 ρ,r2 ν G hG φ K w nx us g hv ?_ ρ⟩
   rw [g1.1.rho ν];exact hr.2
 |[],_::_,_,_,_,h=>by simp [Kr] at h
 |_::_,[],_,_,_,h=>by simp [Kr] at h
theorem zaQ {φ φ0:Ren} (hF:∀b L,φ (FZ+b)=some L→φ0 (FZ+b)=some L) {ρ:Nat→Value}:∀(l:List VT) (x:T (zp l)) {us:List Value},zD φ (zu ρ (wT l x)) us→zD φ0 (zu ρ (wT l x)) us
 |[],x,[],h=>trivial
 |[],x,_::_,h=>by simp [wT,zu,zD] at h
 |a::r,x,[],h=>by simp [wT,zu,zD] at h
 |a::r,x,u::us,h=>by
  simp only [wT,zu,zD] at h ⊢
  exact ⟨zv7 hF a x.1 h.1,zaQ hF r x.2 h.2⟩
theorem zCn {φ φ0:Ren} (hF:∀b L,φ (FZ+b)=some L→φ0 (FZ+b)=some L) {ρ:Nat→Value} (l:List VT) (x:T (zp l)) {v':Value} (h:zt φ (den ρ (zdF (wT l x))) v'):zt φ0 (den ρ (zdF (wT l x))) v':=by
 rw [zcq] at h ⊢
 have key:=fun (us:List Value) (hr:zD φ (zu ρ (wT l x)) us)=>zaQ hF l x hr
 generalize zu ρ (wT l x)=vs at h key
 match vs,h,key with
 |[],h,key=>
  simp only [YL] at h ⊢
  obtain ⟨ys,rfl,hl⟩:=h.tuple_inv
  exact .tuple' (key _ hl)
 |[v],h,key=>
  simp only [YL] at h ⊢
  exact (key [v'] ⟨h,trivial⟩).1
 |a::b::r,h,key=>
  simp only [YL] at h ⊢
  obtain ⟨ys,rfl,hl⟩:=h.tuple_inv
  exact .tuple' (key _ hl)
structure Con where
 args:List VT
 res:List VT
 F:T (zp args)→Option (T (zp res))
def Con.Ok (P:Program) (f:FuncId) (c:Con):Prop:=(∃fn,P.funcs[f]?=some fn∧fn.body.isSome=true)∧
 ∀x r,c.F x=some r→∃Hd nx',nx'≤FZ∧Jf P f (zu (fun _=>bad) (wT c.args x)) [] 0 (den (fun _=>bad) (zdF (wT c.res r))) Hd nx'
theorem zDG {f:FuncId} {args:List Value} {Hd:Hp} {nx':Nat} {v:Value} (hz:nx'≤FZ) (h:Jf P f args [] 0 v Hd nx') (ha:∀φ φ0:Ren,(∀b L,φ (FZ+b)=some L→φ0 (FZ+b)=some L)→∀us,zD φ args us→zD φ0 args us)
  (hv:∀φ φ0:Ren,(∀b L,φ (FZ+b)=some L→φ0 (FZ+b)=some L)→∀v',zt φ v v'→zt φ0 v v') (H:Hp) (nx:Nat):Jf P f args H nx v H nx:=by
 refine ⟨Nat.le_refl _,fun φ w K us g hf hl=>?_⟩
 let φ0:Ren:=fun b=>if FZ≤b then φ b else none
 have e0:∀b,φ0 (FZ+b)=φ (FZ+b):=fun b=>by simp only [φ0,show FZ≤FZ+b by omega,if_true]
 have g0:zI φ0 [] (fun c=>c < w.heap.size) w:=⟨fun b k hb=>by simp [Hp.get_nil] at hb,fun b c k k' L L' hb=>by simp [Hp.get_nil] at hb,fun b k L hb=>by simp [Hp.get_nil] at hb,fun c hc=>hc,fun b L hL=>g.fz b L (by rw [←e0];exact hL),fun b k L c M hb=>by simp [Hp.get_nil] at hb⟩
 refine Calls.mono (h.2 φ0 w (fun c=>c < w.heap.size) us g0 ⟨hz,fun b _ hb=>by simp only [φ0,show ¬FZ≤b by omega,if_false]⟩ (ha φ φ0 (fun b L hL=>by rw [e0];exact hL) us hl)) ?_
 rintro e w' ⟨v',φ',rfl,x1,x2,x3,x4⟩
 let φ2:Ren:=fun b=>if FZ≤b then φ' b else φ b
 have e2:∀b,φ2 (FZ+b)=φ' (FZ+b):=fun b=>by simp only [φ2,show FZ≤FZ+b by omega,if_true]
 have e3:∀b,b < FZ→φ2 b=φ b:=fun b hb=>by simp only [φ2,show ¬FZ≤b by omega,if_false]
 have hle:φ.le φ2:=fun b L hb=>by
  by_cases hz:FZ≤b
  ·simp only [φ2,hz,if_true]
   exact x2.1 b L (by simp only [φ0,hz,if_true];exact hb)
  ·simp only [φ2,hz,if_false];exact hb
 have hnew:∀b L,φ2 (FZ+b)=some L→φ (FZ+b)=some L∨¬b < w.heap.size:=fun b L hL=>by
  rw [e2] at hL
  rcases x2.2.2 b L hL with h1 | h1
  ·rw [e0] at h1;exact .inl h1
  ·exact .inr h1
 have hname:∀b k,H.get b=some k→b < FZ∨∃L,φ b=some L:=fun b k hb=>by
  obtain ⟨L,hL,_⟩:=g.rel b k hb
  exact .inr ⟨L,hL⟩
 have hφ2:∀b k L,H.get b=some k→φ2 b=some L→φ b=some L:=fun b k L hb hL=>by
  obtain ⟨M,hM,_⟩:=g.rel b k hb
  have:=hle b M hM
  rw [hL] at this;cases this;exact hM
 refine ⟨v',φ2,rfl,hv φ' φ2 (fun b L hL=>by rw [e2];exact hL) v' x1,⟨hle,fun b hz _=>e3 b hz,fun b L hL=>(hnew b L hL).imp id fun h1 h2=>h1 (g.kin b h2)⟩,?_,⟨x4.os,x4.tape,x4.output,x4.size,fun c hc=>x4.kept c (g.kin c hc)⟩⟩
 refine ⟨fun b k hb=>?_,fun b c k k' L L' hb hc hne hkr hL hL'=>g.sep b c k k' L L' hb hc hne hkr (hφ2 b k L hb hL) (hφ2 c k' L' hc hL'),fun b k L hb hkr hL=>g.prot b k L hb hkr (hφ2 b k L hb hL),fun c hc=>Nat.lt_of_lt_of_le (g.kin c hc) x4.size,fun b L hL=>x3.fz b L (by rw [←e2];exact hL),fun b k L c M hb hkr hL hM=>?_⟩
 ·obtain ⟨L,hL,hB⟩:=g.rel b k hb
  exact ⟨L,hle b L hL,(hB.congr (x4.kept L.blk hB.lt)).mono hle⟩
 ·have hL1:=hφ2 b k L hb hL
  rcases hnew c M hM with h1 | h1
  ·exact g.fsep b k L c M hb hkr hL1 h1
  ·have:=(g.at hb hL1).lt
   omega
def ziC:Ty→Bool
 |.list _=>false
 |.pair a b=>ziC a&&ziC b
 |_=>true
def zmH:List VT→Bool
 |[]=>true
 |a::r=>ziC a.ty&&zmH r
theorem zha {φ φ0:Ren}:∀(t:Ty) (x:T t) (_:ziC t=true) (c:Value),c∈qv t x→∀v',zt φ c v'→zt φ0 c v'
 |.unit,x,_,c,hc,v',h=>by simp [qv] at hc
 |.bool,x,_,c,hc,v',h=>by
  simp only [qv,List.mem_singleton] at hc
  subst hc;cases h;exact .bool _
 |.int k,x,_,c,hc,v',h=>by
  simp only [qv,List.mem_singleton] at hc
  subst hc;cases h;exact .int _ _
 |.str,x,_,c,hc,v',h=>by
  simp only [qv,List.mem_singleton] at hc
  subst hc;cases h;exact .str _
 |.list t,l,hp,c,hc,v',h=>by cases hp
 |.pair a b,x,hp,c,hc,v',h=>by
  simp only [ziC,Bool.and_eq_true] at hp
  simp only [qv,List.mem_append] at hc
  rcases hc with hc | hc
  ·exact zha a x.1 hp.1 c hc v' h
  ·exact zha b x.2 hp.2 c hc v' h
theorem zDH {φ φ0:Ren} {ρ:Nat→Value} (t:VT) (x:T t.ty) (hp:ziC t.ty=true) {v':Value} (h:zt φ (den ρ (mkV t x)) v'):zt φ0 (den ρ (mkV t x)) v':=by
 obtain ⟨ag,ty⟩:=t
 cases ag with
 |true=>
  simp only [mkV,cond_true,den] at h ⊢
  obtain ⟨ys,rfl,hl⟩:=h.agg_inv
  refine .agg' ?_
  rw [qD,yC] at hl ⊢
  simp only at hl ⊢
  have hl:zD φ (qv ty x) ys.toList:=by simpa using hl
  refine zD.of_get hl.length fun i v v' hv hv'=>?_
  obtain ⟨u,h1,h2⟩:=hl.get hv
  rw [hv'] at h1;cases h1
  exact zha ty x hp v (List.mem_of_getElem? hv) _ h2
 |false=>
  simp only [mkV,cond_false] at h ⊢
  have h2:=yC ρ ty x
  match he:yR ty x with
  |[v]=>
   rw [he] at h h2
   simp only [mk1,List.map_cons,List.map_nil] at h h2 ⊢
   exact zha ty x hp _ (by rw [←h2];simp) _ h
  |[]=>rw [he] at h;simp [mk1,den] at h;exact (Kk h).elim
  |_::_::_=>rw [he] at h;simp [mk1,den] at h;exact (Kk h).elim
theorem zmI {φ φ0:Ren} {ρ:Nat→Value}:∀(l:List VT) (x:T (zp l)) (_:zmH l=true) {us:List Value},zD φ (zu ρ (wT l x)) us→zD φ0 (zu ρ (wT l x)) us
 |[],x,_,[],h=>trivial
 |[],x,_,_::_,h=>by simp [wT,zu,zD] at h
 |a::r,x,_,[],h=>by simp [wT,zu,zD] at h
 |a::r,x,hp,u::us,h=>by
  simp only [zmH,Bool.and_eq_true] at hp
  simp only [wT,zu,zD] at h ⊢
  exact ⟨zDH a x.1 hp.1 h.1,zmI r x.2 hp.2 h.2⟩
theorem zCo {φ φ0:Ren} {ρ:Nat→Value} (l:List VT) (x:T (zp l)) (hp:zmH l=true) {v':Value} (h:zt φ (den ρ (zdF (wT l x))) v'):zt φ0 (den ρ (zdF (wT l x))) v':=by
 rw [zcq] at h ⊢
 have key:=fun (us:List Value) (hr:zD φ (zu ρ (wT l x)) us)=>zmI (φ0:=φ0) l x hp hr
 generalize zu ρ (wT l x)=vs at h key
 match vs,h,key with
 |[],h,key=>
  simp only [YL] at h ⊢
  obtain ⟨ys,rfl,hl⟩:=h.tuple_inv
  exact .tuple' (key _ hl)
 |[v],h,key=>
  simp only [YL] at h ⊢
  exact (key [v'] ⟨h,trivial⟩).1
 |a::b::r,h,key=>
  simp only [YL] at h ⊢
  obtain ⟨ys,rfl,hl⟩:=h.tuple_inv
  exact .tuple' (key _ hl)
theorem zCp {f:FuncId} {args:List Value} {Hd:Hp} {nx':Nat} {v:Value} (hz:nx'≤FZ) (h:Jf P f args [] 0 v Hd nx') (ha:∀φ φ0:Ren,(∀b L,φ (FZ+b)=some L→φ0 (FZ+b)=some L)→∀us,zD φ args us→zD φ0 args us)
  (hv:∀(φ φ0:Ren) v',zt φ v v'→zt φ0 v v') {φ φ1:Ren} {H:Hp} {K:Nat→Prop} {w:World} {us:List Value} (g:zI φ H K w) (g1:∀b L,φ1 (FZ+b)=some L→zp1 w b L) (hl:zD φ1 args us) :
  Calls P f us.toArray w fun e w'=>∃v',e=.returned v'∧zt φ v v'∧zI φ H K w'∧qJ K w w':=by
 let φ0:Ren:=fun b=>if FZ≤b then φ1 b else none
 have e0:∀b,φ0 (FZ+b)=φ1 (FZ+b):=fun b=>by simp only [φ0,show FZ≤FZ+b by omega,if_true]
 have g0:zI φ0 [] (fun c=>c < w.heap.size) w:=⟨fun b k hb=>by simp [Hp.get_nil] at hb,fun b c k k' L L' hb=>by simp [Hp.get_nil] at hb,fun b k L hb=>by simp [Hp.get_nil] at hb,fun c hc=>hc,fun b L hL=>g1 b L (by rw [←e0];exact hL),fun b k L c M hb=>by simp [Hp.get_nil] at hb⟩
 refine Calls.mono (h.2 φ0 w (fun c=>c < w.heap.size) us g0 ⟨hz,fun b _ hb=>by simp only [φ0,show ¬FZ≤b by omega,if_false]⟩ (ha φ1 φ0 (fun b L hL=>by rw [e0];exact hL) us hl)) ?_
 rintro e w' ⟨v',φ',rfl,x1,x2,x3,x4⟩
 refine ⟨v',rfl,hv φ' φ v' x1,⟨fun b k hb=>?_,g.sep,g.prot,fun c hc=>Nat.lt_of_lt_of_le (g.kin c hc) x4.size,fun b L hL=>?_,g.fsep⟩,⟨x4.os,x4.tape,x4.output,x4.size,fun c hc=>x4.kept c (g.kin c hc)⟩⟩
 ·obtain ⟨L,hL,hB⟩:=g.rel b k hb
  exact ⟨L,hL,hB.congr (x4.kept L.blk hB.lt)⟩
 ·obtain ⟨h1,h2,a,el,fr,h3,h4⟩:=g.fz b L hL
  refine ⟨h1,h2,a,el,fr,?_,h4⟩
  rw [x4.kept b (by
   have:=(Array.getElem?_eq_some_iff.1 h3).1
   exact this)]
  exact h3
def zFr (c:Con) (args:List SV) (H:SH) (nx:Nat) (k:KO R):Option R:=match Kr c.args args H with
 |some (x,H1)=>bif zmH c.res then opt (c.F x) fun r=>k (zdF (wT c.res r)) H nx else opt (c.F x) fun r=>k (zdF (wT c.res r)) H1 nx
 |none=>none
theorem zqr (l:List VT) (x:T (zp l)) (ρ ρ':Nat→Value):zu ρ (wT l x)=zu ρ' (wT l x):=by
 have hc:∀(t:Ty) (y:T t),zu ρ (yR t y)=zu ρ' (yR t y):=fun t y=>by rw [qD,qD,yC,yC]
 have hv:∀(t:VT) (y:T t.ty),den ρ (mkV t y)=den ρ' (mkV t y):=fun t y=>by
  obtain ⟨ag,ty⟩:=t
  cases ag with
  |true=>simp only [mkV,cond_true,den];rw [hc ty y]
  |false=>
   simp only [mkV,cond_false]
   have:=hc ty y
   match he:yR ty y with
   |[v]=>rw [he] at this;simpa [mk1,zu] using this
   |[]=>simp [mk1,den]
   |_::_::_=>simp [mk1,den]
 induction l with
 |nil=>rfl
 |cons a r ih=>simp only [wT,zu,hv a x.1,ih x.2]
theorem zGU {f:FuncId} {c:Con} (hc:c.Ok P f) {args:List SV} {H:SH} {nx:Nat} {k:KO R} {r:R} (h:zFr c args H nx k=some r):∃v H' nx',zCl P f args H nx v H' nx'∧k v H' nx'=some r:=by
 unfold zFr at h
 split at h
 case h_2=>cases h
 rename_i x H1 hx
 obtain ⟨hg,hr⟩:=zmG hx
 rcases xM h with ⟨hp,h⟩ | ⟨_,h⟩
 ·obtain ⟨y,hy,h2⟩:=Jk h
  obtain ⟨Hd,n1,hz,hcall⟩:=hc.2 x y hy
  refine ⟨_,_,_,⟨hc.1,wJ.refl H,wR.refl H,Nat.le_refl _,fun ν hv=>⟨hv,Nat.le_refl _,fun φ w K us g hf hl=>?_⟩⟩,h2⟩
  obtain ⟨φ1,e1,g1⟩:=hg.2 ν φ K w g
  have hl1:=hr ν H1 (GLe.refl _) φ1 K w nx us g1 (hg.1.vn hv) (hl.mono (e1 0).1) (fun _=>bad)
  refine Calls.mono (zCp hz hcall (fun φ φ0 hF us h=>zaQ hF c.args x h) (fun φ φ0 v' h=>zCo c.res y hp h) g g1.fz hl1) ?_
  rintro e w' ⟨v',rfl,x1,x3,x4⟩
  refine ⟨v',φ,rfl,?_,Ext.refl _ _ _ _,x3,x4⟩
  rw [zcq] at x1 ⊢
  rwa [zqr c.res y (rho ν H) (fun _=>bad)]
 obtain ⟨y,hy,h2⟩:=Jk h
 obtain ⟨Hd,n1,hz,hcall⟩:=hc.2 x y hy
 refine ⟨_,_,_,⟨hc.1,hg.1.regLe,hg.1.lkeep,Nat.le_refl _,fun ν hv=>⟨hg.1.vn hv,Nat.le_refl _,fun φ w K us g hf hl=>?_⟩⟩,h2⟩
 obtain ⟨φ1,e1,g1⟩:=hg.2 ν φ K w g
 have hl1:=hr ν H1 (GLe.refl _) φ1 K w nx us g1 (hg.1.vn hv) (hl.mono (e1 0).1) (fun _=>bad)
 have hd:=zDG hz hcall (fun φ φ0 hF us h=>zaQ hF c.args x h) (fun φ φ0 hF v' h=>zCn hF c.res y h) (zH ν H1) nx
 refine Calls.mono (hd.2 φ1 w K us g1 (zmp (mid:=0) hf e1) hl1) ?_
 rintro e w' ⟨v',φ',rfl,x1,x2,x3,x4⟩
 refine ⟨v',φ',rfl,?_,(e1 nx).comp x2,x3,x4⟩
 rw [zcq] at x1 ⊢
 rwa [zqr c.res y (rho ν H1) (fun _=>bad)]
def zz {X S:Type} (B:S→Option (X ⊕ S)) (n:Nat):S→Option X:=
 Nat.rec (motive:=fun _=>S→Option X) (fun _=>none) (fun _ ih s=>match B s with
  |some (.inl x)=>some x
  |some (.inr s')=>ih s'
  |none=>none) n
theorem XP {X S:Type} (B:S→Option (X ⊕ S)) (n:Nat) (s:S):zz B (n+1) s=match B s with
  |some (.inl x)=>some x
  |some (.inr s')=>zz B n s'
  |none=>none:=rfl
theorem zpE {X S:Type} {B:S→Option (X ⊕ S)} {c:Code} {F:Fence} {Inv:S→Act→World→Prop} {Fin:X→Exit→Act→World→Prop}
  (h:∀s r,B s=some r→∀a w,Inv s a w→c.wpIn F 0 P (fun e a' w'=>match r with | .inl x=>e≠.normal∧Fin x e a' w' | .inr s'=>e=.normal∧Inv s' a' w') a w) :
  ∀(N:Nat) (s:S) (x:X),zz B N s=some x→∀a w,Inv s a w→Code.roundsIn F 0 P c (Fin x) N a w
 |0,s,x,hi,a,w,hI=>by cases hi
 |N+1,s,x,hi,a,w,hI=>by
  rw [XP] at hi
  rw [roundsIn_succ]
  split at hi
  ·rename_i y hB
   cases hi
   refine wpIn_mono (h s _ hB a w hI) ?_
   intro e a' w' hq
   obtain ⟨he,hf⟩:=hq
   cases e<;>first | exact absurd rfl he | exact hf
  ·rename_i s' hB
   refine wpIn_mono (h s _ hB a w hI) ?_
   intro e a' w' hq
   obtain ⟨rfl,hI'⟩:=hq
   exact zpE h N s' x hi a' w' hI'
  ·cases hi
theorem zDI {φ2 φ3:Ren} {Hs Ht:Hp} (g:zI φ2 Hs K w) (src:Nat→Nat)
  (h:∀b k,Ht.get b=some k→(∃k',Hs.get (src b)=some k'∧φ3 b=φ2 (src b)∧k'.rw=true∧∀L,jO φ2 w L k'→jO φ3 w L k)∨(k.rw=false∧∃L,φ3 b=some L∧jO φ3 w L k∧K L.blk))
  (hi:∀b c k k',Ht.get b=some k→Ht.get c=some k'→k.rw=true→k'.rw=true→b≠c→src b≠src c)
  (hrw:∀b k,Ht.get b=some k→k.rw=false→(∃L,φ3 b=some L∧jO φ3 w L k∧K L.blk))
  (hf:∀b,φ3 (FZ+b)=φ2 (FZ+b)):zI φ3 Ht K w:=by
 have hT:∀b k,Ht.get b=some k→k.rw=true→∃k',Hs.get (src b)=some k'∧φ3 b=φ2 (src b)∧k'.rw=true∧∀L,jO φ2 w L k'→jO φ3 w L k:=fun b k hb hk=>by
  rcases h b k hb with h1 | ⟨h1,_⟩
  ·exact h1
  ·rw [hk] at h1;cases h1
 refine ⟨fun b k hb=>?_,fun b c k k' L L' hb hc hne hk hL hL'=>?_,fun b k L hb hk hL=>?_,g.kin,fun b L hL=>g.fz b L (by rw [←hf];exact hL),fun b k L c M hb hk hL hM=>?_⟩
 ·rcases h b k hb with ⟨k',h1,h2,h3,h4⟩ | ⟨_,L,h1,h2,_⟩
  ·obtain ⟨L,hL,hB⟩:=g.rel _ _ h1
   exact ⟨L,by rw [h2];exact hL,h4 L hB⟩
  ·exact ⟨L,h1,h2⟩
 ·obtain ⟨kb,b1,b2,b3,b4⟩:=hT b k hb hk
  cases hk':k'.rw with
  |true=>
   obtain ⟨kc,c1,c2,c3,c4⟩:=hT c k' hc hk'
   exact g.sep _ _ _ _ L L' b1 c1 (hi b c k k' hb hc hk hk' hne) b3 (by rw [←b2];exact hL) (by rw [←c2];exact hL')
  |false=>
   obtain ⟨M,m1,m2,m3⟩:=hrw c k' hc hk'
   rw [hL'] at m1;cases m1
   intro e
   exact g.prot _ _ L b1 b3 (by rw [←b2];exact hL) (by rw [e];exact m3)
 ·obtain ⟨kb,b1,b2,b3,b4⟩:=hT b k hb hk
  exact g.prot _ _ L b1 b3 (by rw [←b2];exact hL)
 ·obtain ⟨kb,b1,b2,b3,b4⟩:=hT b k hb hk
  exact g.fsep _ _ L c M b1 b3 (by rw [←b2];exact hL) (by rw [←hf];exact hM)
def KX (K:Nat→Prop) (φE:Ren) (HR:Hp) (n:Nat):Prop:=K n∨∃b k L,HR.get b=some k∧φE b=some L∧L.blk=n
theorem zza {φE φ1:Ren} {HE HR H1 H2:Hp} {wE:World} (gE:zI φE HE K wE) (hle:φE.le φ1) (hfz:∀b L,φ1 (FZ+b)=some L→φE (FZ+b)=some L∨¬KX K φE HR b)
  (hw:qJ (KX K φE HR) wE w) (g:zI φ1 H1 (KX K φE HR) w)
  (h:∀b k,H2.get b=some k→(H1.get b=some k∧k.rw=true)∨(HE.get b=some k∧∃k',HR.get b=some k')):zI φ1 H2 K w:=by
 have hE:∀b k,HE.get b=some k→(∃k',HR.get b=some k')→∃L,φE b=some L∧φ1 b=some L∧jO φ1 w L k∧KX K φE HR L.blk:=fun b k hb hr=>by
  obtain ⟨k',hr⟩:=hr
  obtain ⟨L,hL,hB⟩:=gE.rel b k hb
  have hK:KX K φE HR L.blk:=.inr ⟨b,k',L,hr,hL,rfl⟩
  exact ⟨L,hL,hle b L hL,(jO.congr (hw.kept _ hK) hB).mono hle,hK⟩
 refine ⟨fun b k hb=>?_,fun b c k k' L L' hb hc hne hk hL hL'=>?_,fun b k L hb hk hL=>?_,fun c hc=>g.kin c (.inl hc),g.fz,fun b k L c M hb hk hL hM=>?_⟩
 ·rcases h b k hb with ⟨h1,_⟩ | ⟨h1,h2⟩
  ·exact g.rel b k h1
  ·obtain ⟨L,e1,e2,e3,e4⟩:=hE b k h1 h2
   exact ⟨L,e2,e3⟩
 ·rcases h b k hb with ⟨h1,hk1⟩ | ⟨h1,h2⟩
  ·rcases h c k' hc with ⟨c1,_⟩ | ⟨c1,c2⟩
   ·exact g.sep b c k k' L L' h1 c1 hne hk hL hL'
   ·obtain ⟨M,e1,e2,e3,e4⟩:=hE c k' c1 c2
    rw [hL'] at e2;cases e2
    intro e
    exact g.prot b k L h1 hk hL (by rw [e];exact e4)
  ·obtain ⟨M,e1,e2,e3,e4⟩:=hE b k h1 h2
   rw [hL] at e2;cases e2
   rcases h c k' hc with ⟨c1,ck⟩ | ⟨c1,c2⟩
   ·intro e
    exact g.prot c k' L' c1 ck hL' (by rw [←e];exact e4)
   ·obtain ⟨M',e1',e2',_,_⟩:=hE c k' c1 c2
    rw [hL'] at e2';cases e2'
    exact gE.sep b c k k' L L' h1 c1 hne hk e1 e1'
 ·rcases h b k hb with ⟨h1,_⟩ | ⟨h1,h2⟩
  ·exact fun hK=>g.prot b k L h1 hk hL (.inl hK)
  ·obtain ⟨M,e1,e2,e3,e4⟩:=hE b k h1 h2
   rw [hL] at e2;cases e2
   exact gE.prot b k L h1 hk e1
 ·rcases h b k hb with ⟨h1,_⟩ | ⟨h1,h2⟩
  ·exact g.fsep b k L c M h1 hk hL hM
  ·obtain ⟨M',e1,e2,e3,e4⟩:=hE b k h1 h2
   rw [hL] at e2;cases e2
   rcases hfz c M hM with h3 | h3
   ·exact gE.fsep b k L c M h1 hk e1 h3
   ·intro e;exact h3 (by rw [←e];exact e4)
def xr (l:List Nat) (n:Nat):Bool:=List.rec (motive:=fun _=>Bool) false (fun x _ ih=>bif Nat.beq x n then true else ih) l
theorem zDJ (x:Nat) (l:List Nat) (n:Nat):xr (x::l) n=if x=n then true else xr l n:=by
 show (bif Nat.beq x n then true else xr l n)=_
 rw [zml]
theorem kG (n:Nat):∀l:List Nat,xr l n=true↔n∈l
 |[]=>by simp [xr]
 |x::l=>by
  rw [zDJ]
  by_cases h:x=n
  ·simp [h]
  ·rw [if_neg h,kG n l]
   simp [Ne.symm h]
mutual
def GH (ns:List Nat) (lo:Nat):SV→Bool
 |.agg cs=>vC ns lo cs
 |.tup cs=>vC ns lo cs
 |.ptr b _=>Nat.blt b lo
 |.own b=>xr ns b
 |.elp b _ _ _=>Nat.blt b lo
 |.fn _ fs cs=>vC ns lo fs&&vC ns lo cs
 |.yld l=>Nat.blt l lo
 |.mp b=>Nat.blt b lo
 |.slv b _=>Nat.blt b lo
 |_=>true
def vC (ns:List Nat) (lo:Nat):List SV→Bool
 |[]=>true
 |v::r=>GH ns lo v&&vC ns lo r
end
theorem zDK {φ φ0:Ren} (hF:∀b L,φ (FZ+b)=some L→φ0 (FZ+b)=some L) (t:Ty) (l:List (T t)) (full:Bool) {v':Value} (h:zt φ (fzV (sz t) full (l.map (wS t))) v'):zt φ0 (fzV (sz t) full (l.map (wS t))) v':=by
 cases full with
 |false=>exact QQ hF (.list t) l _ (by simp [qv,wS,fzV]) v' h
 |true=>
  unfold fzV at h ⊢
  simp only [cond_true] at h ⊢
  generalize hs:sz t=s at h ⊢
  generalize he:(List.map (wS t) l).toArray=es at h ⊢
  cases h with
  |fq _ _ b o L hL hn ho hsz h=>
   refine .fq _ _ b o L (hF b L hL) hn ho hsz fun j k e u u' h1 h2 h3=>?_
   rw [←he] at h1
   simp only [List.getElem?_toArray,List.getElem?_map,Option.map_eq_some_iff] at h1
   obtain ⟨x,hx,rfl⟩:=h1
   refine QQ hF t x u ?_ u' (h j k (wS t x) u u' (by rw [←he];simp [hx]) h2 h3)
   simp only [wS,Value.cells,List.getElem?_toArray] at h2
   exact List.mem_of_getElem? h2
  |fq0 _ a=>exact .fq0 _ _
theorem zDL {φ φ0:Ren} (hF:∀b L,φ (FZ+b)=some L→φ0 (FZ+b)=some L) (t:Ty) (x:T t) (k:Nat) {v':Value} (h:zt φ (.iface k (.iface 0 (wS t x))) v'):zt φ0 (.iface k (.iface 0 (wS t x))) v':=by
 generalize he:wS t x=e at h ⊢
 cases h with
 |fp _ _ b o L hL ho h=>
  refine .fp _ _ b o L (hF b L hL) ho fun j u u' h1 h2=>?_
  subst he
  refine QQ hF t x u ?_ u' (h j u u' h1 h2)
  simp only [wS,Value.cells,List.getElem?_toArray] at h1
  exact List.mem_of_getElem? h1
theorem zv8 {φ2 φ3:Ren} {b o n c:Nat} (h:φ3 b=φ2 b) {v':Value} (hv:zt φ2 (.slice (some ⟨b,o,none⟩) n c) v'):zt φ3 (.slice (some ⟨b,o,none⟩) n c) v':=by
 cases hv with
 |sl _ _ _ _ L hL hc=>exact .sl _ _ _ _ L (by rw [h];exact hL) hc
 |slO _ _ _ _ c' L hL hc hn hl=>exact .slO _ _ _ _ c' L (by rw [h];exact hL) hc hn hl
 |slE _ _ _ a' L hL hc=>exact .slE _ _ _ a' L (by rw [h];exact hL) hc
theorem zGV {φ2 φ3:Ren} {ν:Nat→Bool} {H:SH} {b:Nat} (h:φ3 b=φ2 b) {v':Value} (hv:zt φ2 (rho ν H b) v'):zt φ3 (rho ν H b) v':=by
 unfold rho at hv ⊢
 split at hv
 ·cases hv;exact .slN _ _
 ·exact zv8 h hv
 ·exact (zpx hv).elim
section
variable {φ2 φ3:Ren} {ν:Nat→Bool} {H2 H3:SH} {ns:List Nat} {lo:Nat}
 (hφ:∀b,b < lo→φ3 b=φ2 b) (hF:∀b L,φ2 (FZ+b)=some L→φ3 (FZ+b)=some L)
 (hns:∀b∈ns,b < lo) (hr:∀b∈ns,reg (zn H3 b)=reg (zn H2 b))
include hφ hF hns hr
mutual
theorem zoz:∀(v:SV) (v':Value),GH ns lo v=true→zt φ2 (den (rho ν H2) v) v'→zt φ3 (den (rho ν H3) v) v'
 |.bool _,_,_,hv=>by simp only [den] at hv ⊢;cases hv;exact .bool _
 |.int _ _,_,_,hv=>by simp only [den] at hv ⊢;cases hv;exact .int _ _
 |.str _,_,_,hv=>by simp only [den] at hv ⊢;cases hv;exact .str _
 |.agg cs,v',hl,hv=>by
  simp only [den] at hv ⊢
  simp only [GH] at hl
  obtain ⟨ys,rfl,hq⟩:=hv.agg_inv
  exact .agg' (by simpa using zcr cs ys.toList hl (by simpa using hq))
 |.tup cs,v',hl,hv=>by
  simp only [den] at hv ⊢
  simp only [GH] at hl
  obtain ⟨ys,rfl,hq⟩:=hv.tuple_inv
  exact .tuple' (by simpa using zcr cs ys.toList hl (by simpa using hq))
 |.ptr b o,_,hl,hv=>by
  simp only [den] at hv ⊢
  simp only [GH,Nat.blt_eq] at hl
  cases hv with
  |ptr _ _ L hL=>exact .ptr _ _ L (by rw [hφ b hl];exact hL)
 |.nilp,_,_,hv=>by simp only [den] at hv ⊢;cases hv;exact .ptrN
 |.lst t l f,_,_,hv=>by simp only [den] at hv ⊢;exact zDK hF t l f hv
 |.own b,_,hl,hv=>by
  simp only [den] at hv ⊢
  simp only [GH] at hl
  have hb:=(kG _ _).1 hl
  have:rho ν H3 b=rho ν H2 b:=by unfold rho;rw [hr b hb]
  rw [this]
  exact zGV (hφ b (hns b hb)) hv
 |.nils,_,_,hv=>by simp only [den] at hv ⊢;cases hv;exact .slN _ _
 |.elp b s i k,_,hl,hv=>by
  simp only [den] at hv ⊢
  simp only [GH,Nat.blt_eq] at hl
  cases hv with
  |ptr _ _ L hL=>exact .ptr _ _ L (by rw [hφ b hl];exact hL)
 |.fel t x k,_,_,hv=>by simp only [den] at hv ⊢;exact zDL hF t x k hv
 |.fn f fs cs,v',hl,hv=>by
  simp only [den] at hv ⊢
  simp only [GH,Bool.and_eq_true] at hl
  obtain ⟨fn',ys,us,rfl,hf,h1,h2⟩:=hv.func_inv
  refine .func' ?_ (by simpa using zcr fs ys.toList hl.1 (by simpa using h1)) (by simpa using zcr cs us.toList hl.2 (by simpa using h2))
  cases hf;exact .func _
 |.yld l,_,hl,hv=>by
  simp only [den] at hv ⊢
  simp only [GH,Nat.blt_eq] at hl
  obtain ⟨fn',ys,us,rfl,hf,h1,h2⟩:=hv.func_inv
  cases hf with
  |yield _ L hL=>exact .func' (.yield _ L (by rw [hφ l hl];exact hL)) (by have:=h1.length;simp at this;simp [List.eq_nil_of_length_eq_zero this.symm,zD]) (by have:=h2.length;simp at this;simp [List.eq_nil_of_length_eq_zero this.symm,zD])
 |.nilf,_,_,hv=>by simp only [den] at hv ⊢;cases hv;exact .nilFunc
 |.nilm,_,_,hv=>by simp only [den] at hv ⊢;cases hv;exact .mapN
 |.mp b,_,hl,hv=>by
  simp only [den] at hv ⊢
  simp only [GH,Nat.blt_eq] at hl
  cases hv with
  |map _ L hL=>exact .map _ L (by rw [hφ b hl];exact hL)
 |.slv b n,_,hl,hv=>by
  simp only [den] at hv ⊢
  simp only [GH,Nat.blt_eq] at hl
  exact zv8 (hφ b hl) hv
 |.junk,_,_,hv=>by simp only [den] at hv;exact (Kk hv).elim
theorem zcr:∀(vs:List SV) (us:List Value),vC ns lo vs=true→zD φ2 (zu (rho ν H2) vs) us→zD φ3 (zu (rho ν H3) vs) us
 |[],[],_,hr=>trivial
 |[],_::_,_,hr=>by simp [zu,zD] at hr
 |v::vs,[],_,hr=>by simp [zu,zD] at hr
 |v::vs,u::us,hl,hr=>by
  simp only [vC,Bool.and_eq_true] at hl
  simp only [zu,zD] at hr ⊢
  exact ⟨zoz v u hl.1 hr.1,zcr vs us hl.2 hr.2⟩
end
end
theorem ze5 {ν:Nat→Bool} {H:SH} {v:SV} (h:den (rho ν H) v=Fz.junk):v=.junk:=by
 cases v<;>simp only [den,Fz.junk,reduceCtorEq] at h
 ·simp [fzV] at h
 ·exact absurd h (gn ν H _)
 ·rfl
end Go.Fz.Sy
end
