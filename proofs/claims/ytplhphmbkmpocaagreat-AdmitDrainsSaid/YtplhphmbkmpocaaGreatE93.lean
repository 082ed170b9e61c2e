/- Parts of a proof, joined. -/
import Derived.IntWalk
import Derived.Test.YtplhphmbkmpocaaGreatE92
set_option linter.unusedSectionVars false
set_option linter.unusedVariables false
set_option linter.unusedSimpArgs false
set_option maxHeartbeats 0
set_option maxRecDepth 100000
noncomputable section
namespace Go.Fz.Sy
variable {P:Program} {φ:Ren} {K:Nat→Prop} {w:World} {R:Type}
def hiI (n:Nat):Option Int→Option Nat
 |none=>some n
 |some (.ofNat q)=>bif Nat.ble q n then some q else none
 |some (.negSucc _)=>none
def loI (h:Nat):Option Int→Option Nat
 |none=>some 0
 |some (.ofNat p)=>bif Nat.ble p h then some p else none
 |some (.negSucc _)=>none
def mxI (h:Nat):Option Int→Bool
 |none=>true
 |some (.ofNat m)=>Nat.beq m h
 |some (.negSucc _)=>false
def zbp {α:Type} (l:List α) (lo hi mx:Option Int):Option (List α):=match hiI l.length hi with
 |some h=>match loI h lo with
  |some p=>bif mxI h mx then some ((l.take h).drop p) else none
  |none=>none
 |none=>none
def UB:Option SV→Option (Option Int)
 |none=>some none
 |some (.int _ z)=>some (some z)
 |_=>none
theorem zEb {n h:Nat} {v:Option SV} {z:Option Int} {ρ:Nat→Value} (hz:UB v=some z) (h1:hiI n z=some h):zpR (v.map (den ρ)) n n=some h∧h≤n∧∀u,v=some u→∀m,h≤m→bnd (den ρ u) m=some h:=by
 unfold UB at hz
 split at hz
 ·cases hz
  simp only [hiI,Option.some.injEq] at h1
  subst h1
  exact ⟨by simp [zpR],Nat.le_refl _,fun u hu=>by cases hu⟩
 ·rename_i k z
  cases hz
  unfold hiI at h1
  split at h1
  ·rename_i he;cases he
  ·rename_i q he
   cases he
   obtain ⟨h2,h3⟩:=zA h1
   cases h3
   have h2:=Nat.le_of_ble_eq_true h2
   refine ⟨?_,h2,fun u hu m hm=>?_⟩
   ·simp [zpR,den,bnd,h2]
   ·cases hu
    simp [den,bnd,hm]
  ·cases h1
 ·cases hz
theorem zEc {h p:Nat} {v:Option SV} {z:Option Int} {ρ:Nat→Value} (hz:UB v=some z) (h1:loI h z=some p):zr4 (v.map (den ρ)) h=some p∧p≤h:=by
 unfold UB at hz
 split at hz
 ·cases hz
  simp only [loI,Option.some.injEq] at h1
  subst h1
  exact ⟨rfl,Nat.zero_le _⟩
 ·rename_i k z
  cases hz
  unfold loI at h1
  split at h1
  ·rename_i he;cases he
  ·rename_i q he
   cases he
   obtain ⟨h2,h3⟩:=zA h1
   cases h3
   have h2:=Nat.le_of_ble_eq_true h2
   exact ⟨by simp [zr4,den,bnd,h2],h2⟩
  ·cases h1
 ·cases hz
theorem zBb {α:Type} {l l':List α} {lo hi mx:Option SV} {a b c:Option Int} {ρ:Nat→Value} (ha:UB lo=some a) (hb:UB hi=some b) (hc:UB mx=some c) (hhi:mx.isSome=true→hi.isSome=true) (h:zbp l a b c=some l') :
  ∃p q,zej l.length l.length (lo.map (den ρ)) (hi.map (den ρ)) (mx.map (den ρ))=some (p,q,mx.map fun _=>q)∧p≤q∧q≤l.length∧l'=(l.take q).drop p∧(hi=none→q=l.length):=by
 unfold zbp at h
 split at h
 case h_2=>cases h
 rename_i q hq
 split at h
 case h_2=>cases h
 rename_i p hp
 obtain ⟨h1,h2⟩:=zA h
 cases h2
 obtain ⟨e1,e2,e3⟩:=zEb (ρ:=ρ) hb hq
 obtain ⟨f1,f2⟩:=zEc (ρ:=ρ) ha hp
 refine ⟨p,q,?_,f2,e2,rfl,fun hn=>?_⟩
 ·cases mx with
  |none=>
   simp only [Option.map_none,zej,e1,f1,Option.bind_some]
  |some m=>
   cases hi with
   |none=>simp at hhi
   |some hv=>
    have hm:bnd (den ρ m) l.length=some q:=by
     unfold UB at hc
     split at hc
     ·rename_i he;cases he
     ·rename_i k z he
      cases he
      cases hc
      unfold mxI at h1
      split at h1
      ·rename_i he;cases he
      ·rename_i y he
       cases he
       have:=Nat.eq_of_beq_eq_true h1
       subst this
       simp [den,bnd,e2]
      ·cases h1
     ·cases hc
    simp only [Option.map_some,zej,hm,Option.bind_some,e3 hv rfl q (Nat.le_refl _),f1]
 ·subst hn
  simp only [UB,Option.some.injEq] at hb
  subst hb
  simp only [hiI,Option.some.injEq] at hq
  exact hq.symm
theorem ztT {s:Nat} {full:Bool} {es:List Value} {v':Value} (h:zr φ (fzV s full es) v'):zr φ (fzV s false es) v':=by
 cases full with
 |false=>exact h
 |true=>
  unfold fzV at h ⊢
  simp only [cond_true,cond_false] at h ⊢
  generalize es.toArray=a at h ⊢
  cases h with
  |fq _ _ b o L hL hn ho hs h=>exact .fz _ _ b o _ L hL hn ho (Nat.le_refl _) hs h
  |fq0 _ a=>exact .fz0 _ _ _
theorem ztU {t e:TypeId} {ie:TypeInfo} {ty:Ty} {l l':List (T ty)} {full:Bool} {lo hi mx:Option SV} {a b c:Option Int} {ρ:Nat→Value} (hu:qT P t=some (.slice e)) (hie:qW P e=some ie) (hsz:ie.size=sz ty) (ha:UB lo=some a) (hb:UB hi=some b)
  (hc:UB mx=some c) (hhi:mx.isSome=true→hi.isSome=true) (h:zbp l a b c=some l') {x':Value} {lo' hi' mx':Option Value} (hx:zr φ (fzV (sz ty) full (l.map (wo ty))) x') (h1:Vd φ (lo.map (den ρ)) lo') (h2:Vd φ (hi.map (den ρ)) hi') (h3:Vd φ (mx.map (den ρ)) mx') (w:World) :
  ∃v',(Instr.sliceAt t x' lo' hi' mx').run P w=.ok v' w∧zr φ (fzV (sz ty) (mx.isSome||(full&&hi.isNone)) (l'.map (wo ty))) v':=by
 obtain ⟨p,q,e1,e2,e3,e4,e5⟩:=zBb (ρ:=ρ) ha hb hc hhi h
 have hlen:((l.map (wo ty)).toArray).size=l.length:=by simp
 have hext:((l.map (wo ty)).toArray).extract p q=(l'.map (wo ty)).toArray:=by
  apply Array.ext'
  rw [e4]
  simp [List.drop_take,List.map_drop,List.map_take]
 have hes:gg (fzV (sz ty) full (l.map (wo ty)))=some (sz ty,(l.map (wo ty)).toArray,full):=by cases full<;>simp [fzV,gg]
 have key:∃f2,zg3 P t (fzV (sz ty) full (l.map (wo ty))) (lo.map (den ρ)) (hi.map (den ρ)) (mx.map (den ρ))=some (fzV (sz ty) f2 (l'.map (wo ty)))∧((mx.isSome||(full&&hi.isNone))=true→f2=true):=by
  unfold zg3
  simp only [hes,hu,hie,hlen,e1,hsz,if_true]
  cases mx with
  |some m=>exact ⟨true,by simp [Nat.beq_refl,hext,fzV],fun _=>rfl⟩
  |none=>
   simp only [Option.map_none,Option.isSome_none,Bool.false_or]
   cases hf:(full&&Nat.beq q l.length) with
   |true=>exact ⟨true,by simp only [if_true];simp only [hext,fzV,cond_true],fun _=>rfl⟩
   |false=>
    refine ⟨false,by simp only [Bool.false_eq_true,if_false];simp only [hext,fzV,cond_false],fun h=>?_⟩
    simp only [Bool.and_eq_true] at h
    obtain ⟨h4,h5⟩:=h
    have:hi=none:=by cases hi<;>simp at h5 ⊢
    rw [h4,e5 this,Nat.beq_refl] at hf
    cases hf
 obtain ⟨f2,h4,h5⟩:=key
 obtain ⟨v',r1,r2⟩:=zpS h4 hx h1 h2 h3 w
 refine ⟨v',r1,?_⟩
 cases hcase:(mx.isSome||(full&&hi.isNone)) with
 |true=>rw [h5 hcase] at r2;exact r2
 |false=>exact ztT r2
def zwl (P:Program) (tm:List SV) (H:SH) (nx:Nat) (t:TypeId) (x:Operand) (lo hi mx:Option Operand) (k:KO R):Option R:=
 match jy tm H x,zmy tm H lo,zmy tm H hi,zmy tm H mx with
 |some v,some lo,some hi,some mx=>match qT P t,UB lo,UB hi,UB mx with
  |some (.slice e),some a,some b,some c=>bif (!mx.isSome||hi.isSome) then match v with
   |.lst ty l full=>bif Vh P e (sz ty) then opt (zbp l a b c) fun l'=>k (.lst ty l' (mx.isSome||(full&&hi.isNone))) H nx else none
   |.own bl=>match zm H bl with
    |some (.arr nn ty l)=>bif Vh P e (sz ty)&&Nat.blt 0 (sz ty) then opt (zbp l a b c) fun l'=>k (.lst ty l' mx.isSome) (wF H bl (.fro nn ty l)) nx else none
    |_=>none
   |_=>none
   else none
  |_,_,_,_=>none
 |_,_,_,_=>none
theorem zBc {rd:Option Nat} {o:Oper} {tm:List SV} {H:SH} {nx:Nat} {k:KO R} {r:R} {t:TypeId} {x:Operand} {lo hi mx:Option Operand} (ho:o.op=.slice t x lo hi mx) (h:zwl P tm H nx t x lo hi mx k=some r):gq P rd o tm H nx k r:=by
 unfold zwl at h
 split at h
 case h_2=>cases h
 rename_i v lo1 hi1 mx1 hx hlo hhi hmx
 split at h
 case h_2=>cases h
 rename_i e a b c hu ha hb hc
 have h6:=zA h
 clear h
 obtain ⟨hh,h⟩:=h6
 have hhi2:mx1.isSome=true→hi1.isSome=true:=fun h1=>by simpa [h1] using hh
 split at h
 ·rename_i ty l full
  obtain ⟨h1,h⟩:=zA h
  obtain ⟨l',hl,h⟩:=Qo h
  obtain ⟨ie,hie,hsz⟩:=Wf h1
  refine vW ⟨jW.refl H,wk.refl H,Nat.le_refl _,fun ν hv=>⟨hv,?_⟩⟩ h
  refine YI (Nat.le_refl _) (fun c hc=>by rw [ho] at hc;cases hc) fun φ w K ac g hf ht=>?_
  have hxr:=qb ht (zY hx ν)
  simp only [den] at hxr
  obtain ⟨v',r1,r2⟩:=ztU hu hie hsz ha hb hc hhi2 hl hxr (Zq ht (Gj hlo ν)) (Zq ht (Gj hhi ν)) (Zq ht (Gj hmx ν)) w
  unfold execOp
  simp only [ho]
  exact Ran.op (Ran.same g ⟨v',r1,by simpa only [den] using r2⟩)
 ·rename_i bl
  split at h
  case h_2=>cases h
  rename_i nn ty l hbl
  obtain ⟨h1,h⟩:=zA h
  simp only [Bool.and_eq_true] at h1
  obtain ⟨l',hl,h⟩:=Qo h
  obtain ⟨ie,hie,hsz⟩:=Wf h1.1
  have hg:=GL hbl
  refine vW ⟨hg.1.regLe,hg.1.lkeep,Nat.le_refl _,fun ν hv=>⟨hg.1.vn hv,zif hg ?_⟩⟩ h
  refine YI (Nat.le_refl _) (fun c hc=>by rw [ho] at hc;cases hc) fun φ w K ac g hf ht=>?_
  have hxr:=qb ht (zY hx ν)
  simp only [den] at hxr
  rw [←hg.1.rho ν] at hxr
  have hb2:zm (wF H bl (.fro nn ty l)) bl=some (.fro nn ty l):=by rw [qJ,if_pos rfl,hbl];rfl
  have hxr:=zhe g (hg.1.vn hv) hb2 (zsg h1.2) hxr
  obtain ⟨v',r1,r2⟩:=ztU hu hie hsz ha hb hc hhi2 hl hxr (Zq ht (Gj hlo ν)) (Zq ht (Gj hhi ν)) (Zq ht (Gj hmx ν)) w
  unfold execOp
  simp only [ho]
  exact Ran.op (Ran.same g ⟨v',r1,by simpa only [den,Bool.false_and,Bool.or_false] using r2⟩)
 ·cases h
def zCy (P:Program) (tm:List SV) (H:SH) (nx:Nat) (t:TypeId) (x:Operand) (k:KO R):Option R:=match jy tm H x,qT P t with
 |some (.own b),some (.slice _)=>match reg (zm H b) with
  |some (n,_)=>k (.int .i64 n) H (nx+1)
  |none=>none
 |_,_=>none
theorem zEd {rd:Option Nat} {o:Oper} {tm:List SV} {H:SH} {nx:Nat} {k:KO R} {r:R} {t:TypeId} {x:Operand} (ho:o.op=.call {callee:=.builtin .len,args:=#[x],argTypes:=#[t]}) (h:zCy P tm H nx t x k=some r):gq P rd o tm H nx k r:=by
 unfold zCy at h
 split at h
 case h_2=>cases h
 rename_i b e hx hu
 split at h
 case h_2=>cases h
 rename_i n s hr
 refine vW ⟨jW.refl H,wk.refl H,Nat.le_succ _,fun ν hv=>⟨hv.later (Nat.le_succ _),ka ?_⟩⟩ h
 have h1:=zY hx ν
 unfold jT
 simp only [ho,GF,h1,Option.bind_some]
 have hlen:GH P t (den (rho ν H) (.own b))=some (goInt n):=by
  simp only [den,rho,hr]
  cases s with
  |succ s=>simp [GH,hu]
  |zero=>
   have:=hv.empty b n hr
   subst this
   simp [GH,hu]
 simp only [ZQ,hlen]
 simp [un1,den,goInt]
def zp6 {α:Type}:List α→Bool
 |[]=>false
 |_::_=>true
def zyJ (tm:List SV) (H:SH) (x y:Operand):Bool:=match jy tm H x,jy tm H y with
 |some (.lst _ _ _),some .nils=>true
 |_,_=>false
def zzO (P:Program) (tm:List SV) (H:SH) (nx:Nat) (op:BinOp) (t:TypeId) (x y:Operand) (k:KO R):Option R:=match jy tm H x,jy tm H y,qT P t with
 |some (.lst ty l full),some .nils,some (.slice _)=>bif zp6 l then (match op with
   |.eql=>k (.bool false) H (nx+1)
   |.neq=>k (.bool true) H (nx+1)
   |_=>none)
  else none
 |_,_,_=>none
theorem zCz {rd:Option Nat} {o:Oper} {tm:List SV} {H:SH} {nx:Nat} {k:KO R} {r:R} {op:BinOp} {t u:TypeId} {x y:Operand} (ho:o.op=.binOp op t x y u) (h:zzO P tm H nx op t x y k=some r):gq P rd o tm H nx k r:=by
 unfold zzO at h
 split at h
 case h_2=>cases h
 rename_i ty l full e hx hy hu
 obtain ⟨hc,h⟩:=zA h
 have key:∀b,(op=.eql∧b=false∨op=.neq∧b=true)→k (.bool b) H (nx+1)=some r→gq P rd o tm H nx k r:=by
  intro b hb h
  refine vW ⟨jW.refl H,wk.refl H,Nat.le_succ _,fun ν hv=>⟨hv.later (Nat.le_succ _),?_⟩⟩ h
  refine YI (Nat.le_succ _) (fun c hc=>by rw [ho] at hc;cases hc) fun φ w K ac g hf ht=>?_
  have hxr:=qb ht (zY hx ν)
  have hyr:=qb ht (zY hy ν)
  simp only [den] at hxr hyr
  generalize hx':ac.eval x=x' at *
  generalize hy':ac.eval y=y' at *
  cases hyr
  obtain ⟨sa,c,e1,e2⟩:=Ge (s:=sz ty) (es:=(l.map (wo ty)).toArray) (full:=full) (by unfold fzV gg;cases full<;>rfl) hxr
  cases l with
  |nil=>cases hc
  |cons z l=>
  obtain ⟨b0,o0,L,rfl,_⟩:=e2.some_ (by simp)
  subst e1
  have he:=zpQ (P:=P) (t:=t) (d:=.slice e) (a:=.slice (some ⟨b0,o0,none⟩) ((z::l).map (wo ty)).toArray.size c) (b:=.slice none 0 0) (r:=false) (by rw [←jg];exact hu) rfl rfl w
  unfold execOp
  simp only [ho]
  rw [hx',hy']
  generalize ((z::l).map (wo ty)).toArray.size=m at he ⊢
  refine Ran.op (Ran.same1 g ⟨.bool b,?_,by simp only [den];exact .bool b⟩)
  rcases hb with ⟨rfl,rfl⟩ | ⟨rfl,rfl⟩
  ·simp [eqGuard,binOp,he]
  ·simp [eqGuard,binOp,he]
 split at h
 ·exact key _ (.inl ⟨rfl,rfl⟩) h
 ·exact key _ (.inr ⟨rfl,rfl⟩) h
 ·cases h
def KT:(t:Ty)→T t
 |.unit=>()
 |.bool=>false
 |.int _=>0
 |.str=>ByteArray.empty
 |.list _=>[]
 |.pair a b=>(KT a,KT b)
def KF:(t:Ty)→List Value→Option (List Value)
 |.unit,cs=>some cs
 |.bool,cs=>match cs with
  |.bool false::r=>some r
  |_=>none
 |.int k,cs=>match cs with
  |.int k' z::r=>bif Wd k k'&&zo z 0 then some r else none
  |_=>none
 |.str,cs=>match cs with
  |.string s::r=>bif Nat.beq s.size 0 then some r else none
  |_=>none
 |.list _,cs=>match cs with
  |.slice none 0 0::r=>some r
  |_=>none
 |.pair a b,cs=>match KF a cs with
  |some r=>KF b r
  |none=>none
theorem zkR:∀(t:Ty) {cs r:List Value},KF t cs=some r→∃c,cs=c++r∧c.length=sz t∧avL c=true∧∀(φ:Ren) us,zw φ c us→zw φ (ql t (KT t)) us
 |.unit,cs,r,h=>by
  simp only [KF,Option.some.injEq] at h
  subst h
  exact ⟨[],rfl,rfl,rfl,fun φ us h=>h⟩
 |.bool,cs,r,h=>by
  simp only [KF] at h
  split at h
  ·cases h;exact ⟨[.bool false],rfl,rfl,rfl,fun φ us h=>h⟩
  ·cases h
 |.int k,cs,r,h=>by
  simp only [KF] at h
  split at h
  ·obtain ⟨h1,h2⟩:=zA h
   cases h2
   simp only [Bool.and_eq_true] at h1
   have e1:=Jh h1.1
   have e2:=h1.2
   rw [ju] at e2
   simp only [beq_iff_eq] at e2
   subst e1;subst e2
   exact ⟨[.int k 0],rfl,rfl,rfl,fun φ us h=>h⟩
  ·cases h
 |.str,cs,r,h=>by
  simp only [KF] at h
  split at h
  ·rename_i s r'
   obtain ⟨h1,h2⟩:=zA h
   cases h2
   have e1:=Nat.eq_of_beq_eq_true h1
   have:s=ByteArray.empty:=by
    obtain ⟨d⟩:=s
    have:d=#[]:=Array.eq_empty_of_size_eq_zero e1
    subst this;rfl
   subst this
   exact ⟨[.string ByteArray.empty],rfl,rfl,rfl,fun φ us h=>h⟩
  ·cases h
 |.list t,cs,r,h=>by
  simp only [KF] at h
  split at h
  ·cases h
   refine ⟨[.slice none 0 0],rfl,rfl,rfl,fun φ us h=>?_⟩
   match us,h with
   |[],h=>exact h.elim
   |u::us,h=>
    refine ⟨?_,h.2⟩
    have h1:=h.1
    cases h1
    exact .fz0 _ _ _
  ·cases h
 |.pair a b,cs,r,h=>by
  simp only [KF] at h
  split at h
  case h_2=>cases h
  rename_i r1 h1
  obtain ⟨c1,rfl,l1,a1,z1⟩:=zkR a h1
  obtain ⟨c2,rfl,l2,a2,z2⟩:=zkR b h
  have happ:∀(a b:List Value),avL a=true→avL b=true→avL (a++b)=true:=by
   intro a b h2 h3
   induction a with
   |nil=>exact h3
   |cons x a ih=>simp only [avL,List.cons_append,Bool.and_eq_true] at h2 ⊢;exact ⟨h2.1,ih h2.2⟩
  refine ⟨c1++c2,by simp,by simp [sz,l1,l2],happ _ _ a1 a2,fun φ us h=>?_⟩
  have hlen:=h.length
  rw [List.length_append] at hlen
  have h3:=h.take c1.length
  have h4:=h.drop c1.length
  rw [List.take_left] at h3
  rw [List.drop_left] at h4
  have:=(z1 φ _ h3).append (z2 φ _ h4)
  rw [List.take_append_drop] at this
  exact this
def zd2 (P:Program) (e:TypeId) (ty:Ty):Bool:=match qW P e with
 |some i=>match i.zero with
  |some z=>match KF ty z.cells.toList with
   |some []=>Nat.blt 0 i.size&&Nat.beq (sz ty) i.size
   |_=>false
  |none=>false
 |none=>false
theorem zih {e:TypeId} {ty:Ty} (h:zd2 P e ty=true):∃i z,P.info? e=some i∧i.zero=some z∧z.cells.size=i.size∧0 < i.size∧sz ty=i.size∧avL z.cells.toList=true∧∀(φ:Ren) us,zw φ z.cells.toList us→zw φ (ql ty (KT ty)) us:=by
 unfold zd2 at h
 split at h
 case h_2=>cases h
 rename_i i hi
 split at h
 case h_2=>cases h
 rename_i z hz
 split at h
 case h_2=>cases h
 rename_i hc
 simp only [Bool.and_eq_true] at h
 have e2:=zco h.1
 have e3:=Nat.eq_of_beq_eq_true h.2
 rw [qZ] at hi
 obtain ⟨c,h1,h2,h3,h4⟩:=zkR ty hc
 rw [List.append_nil] at h1
 refine ⟨i,z,hi,hz,?_,e2,e3,by rw [h1];exact h3,fun φ us h=>h4 φ us (by rw [←h1];exact h)⟩
 have:=congrArg List.length h1
 rw [h2,e3] at this
 simpa using this
def zkS (P:Program):Nat→TypeId→Option Ty
 |0,_=>none
 |n+1,t=>match qT P t with
  |some .bool=>some .bool
  |some (.int k)=>some (.int k)
  |some .string=>some .str
  |some (.slice e)=>match zkS P n e with
   |some a=>some (.list a)
   |none=>none
  |some (.struct fields)=>fields.toList.foldr (fun f acc=>match zkS P n f.type,acc with
   |some a,some b=>some (match b with | .unit=>a | b=>.pair a b)
   |_,_=>none) (some .unit)
  |some (.array m e)=>match zkS P n e with
   |some a=>(List.replicate m a).foldr (fun a acc=>match acc with
    |some b=>some (match b with | .unit=>a | b=>.pair a b)
    |none=>none) (some .unit)
   |none=>none
  |_=>none
theorem zkT {ν:Nat→Bool} {H:SH} {nx:Nat} {k:SB} (hn:zm H nx=none) (hx:zU (rho ν ((nx,k)::H)) (ν nx) k=none) (g:zF φ (zE ν H) K w):zF φ (zE ν ((nx,k)::H)) K w:=by
 have h1:RLe (rho ν H) (rho ν ((nx,k)::H)):=zet ν (uL hn)
 have g1:zF φ (uf ν (rho ν ((nx,k)::H)) H) K w:=zwa (ke ν H) h1 g
 refine g1.sub fun c x hc=>?_
 rw [zL,zH] at hc
 by_cases hb:nx=c
 ·subst hb
  rw [if_pos rfl] at hc
  simp only [Option.bind_some] at hc
  rw [hx] at hc;cases hc
 ·rw [if_neg hb] at hc
  rw [xL];exact hc
theorem KG {ν:Nat→Bool} {H:SH} {nx:Nat} {nn:Bool} {ty:Ty} {l:List (T ty)} (hn:zm H nx=none) (hv:VN ν nx H) (g:zF φ ((nx,.cells (zV ty l) false)::zE ν H) K w):zF φ (zE ν ((nx,.arr nn ty l)::H)) K w:=by
 cases h:jD nn l with
 |false=>exact Gl hn (x:=.cells (zV ty l) false) (by simp [zU,h]) g
 |true=>
  refine zkT hn (by simp [zU,h]) (g.sub fun c k hc=>?_)
  have:(nx == c)=false:=by
   rw [beq_eq_false_iff_ne]
   rintro rfl
   rw [zL,hn] at hc;cases hc
  simp [Hp.get_cons,this,hc]
theorem GN {ν:Nat→Bool} {H:SH} {nx:Nat} {nn:Bool} {ty:Ty} {l:List (T ty)} (hv:VN ν nx H) (hl:jD nn l=false):rho ν ((nx,.arr nn ty l)::H) nx=.slice (some ⟨nx,0,none⟩) l.length (qg+sz ty):=by
 rw [WH ν (nn:=nn) (t:=ty) (l:=l) (by rw [zH,if_pos rfl];rfl),hl]
 rfl
theorem zp7 {ν:Nat→Bool} {H:SH} {nx:Nat} {nn:Bool} {ty:Ty} {l:List (T ty)} (hl:jD nn l=true):rho ν ((nx,.arr nn ty l)::H) nx=.slice none 0 0:=by
 rw [WH ν (nn:=nn) (t:=ty) (l:=l) (by rw [zH,if_pos rfl];rfl),hl]
 rfl
theorem zya {H:Hp} {b:Nat} {cs ds:List Value} (g:zF φ ((b,.cells cs false)::H) K w) (h:∀us,zw φ cs us→zw φ ds us) (hl:ds.length=cs.length):zF φ ((b,.cells ds false)::H) K w:=by
 have hget:∀c k,Hp.get ((b,Blk.cells ds false)::H) c=some k→(c=b∧k=.cells ds false∧Hp.get ((b,Blk.cells cs false)::H) c=some (.cells cs false))∨(c≠b∧Hp.get ((b,Blk.cells cs false)::H) c=some k):=by
  intro c k hc
  by_cases hcb:b=c
  ·subst hcb;simp [Hp.get_cons] at hc;exact .inl ⟨rfl,hc.symm,by simp [Hp.get_cons]⟩
  ·simp [Hp.get_cons,hcb] at hc;exact .inr ⟨fun e=>hcb e.symm,by simp [Hp.get_cons,hcb,hc]⟩
 refine ⟨fun c k hc=>?_,fun c d k k' L L' hc hd hne hkr hL hL'=>?_,fun c k L hc hkr hL=>?_,g.kin,g.fz,fun c k L e M hc hkr hL hM=>?_⟩
 ·rcases hget c k hc with ⟨rfl,rfl,h1⟩ | ⟨_,h1⟩
  ·obtain ⟨L,hL,arr,el,fr,e1,e2,e3⟩:=g.rel c _ h1
   have hex:∀j,j < cs.length→∃v',arr[L.off+j]?=some v':=fun j hj=>by
    obtain ⟨v',h2,_⟩:=e2 j cs[j] (by simp)
    exact ⟨v',h2⟩
   have hus:zw φ cs ((List.range cs.length).map fun j=>arr[L.off+j]?.getD undef):=by
    refine zw.of_get (by simp) fun i v v' hv hv'=>?_
    obtain ⟨u,h2,h3⟩:=e2 i v hv
    have hi:i < cs.length:=(List.getElem?_eq_some_iff.1 hv).1
    simp [hi,h2] at hv'
    subst hv';exact h3
   refine ⟨L,hL,arr,el,fr,e1,fun j v hv=>?_,e3⟩
   have hj:j < cs.length:=by have:=(List.getElem?_eq_some_iff.1 hv).1;omega
   obtain ⟨v',h2⟩:=hex j hj
   obtain ⟨u,h3,h4⟩:=(h _ hus).get hv
   simp [hj,h2] at h3
   subst h3
   exact ⟨_,h2,h4⟩
  ·exact g.rel c k h1
 ·rcases hget c k hc with ⟨rfl,rfl,h1⟩ | ⟨_,h1⟩
  ·rcases hget d k' hd with ⟨rfl,_⟩ | ⟨_,h2⟩
   ·exact absurd rfl hne
   ·exact g.sep c d _ k' L L' h1 h2 hne rfl hL hL'
  ·rcases hget d k' hd with ⟨rfl,rfl,h2⟩ | ⟨_,h2⟩
   ·exact g.sep c d k _ L L' h1 h2 hne hkr hL hL'
   ·exact g.sep c d k k' L L' h1 h2 hne hkr hL hL'
 ·rcases hget c k hc with ⟨rfl,rfl,h1⟩ | ⟨_,h1⟩
  ·exact g.prot c _ L h1 rfl hL
  ·exact g.prot c k L h1 hkr hL
 ·rcases hget c k hc with ⟨rfl,rfl,h1⟩ | ⟨_,h1⟩
  ·exact g.fsep c _ L e M h1 rfl hL hM
  ·exact g.fsep c k L e M h1 hkr hL hM
def zeu (zl zc:Int) (bytes:Nat):Bool:=!zi zl 0&&(!zi zc zl&&!zi 281474976710656 ((bytes:Int)*zc))
def zzP (P:Program) (tm:List SV) (H:SH) (nx:Nat) (t:TypeId) (l c:Operand) (k:KO R):Option R:=match jy tm H l,jy tm H c with
 |some (.int _ zl),some (.int _ zc)=>match qT P t with
  |some (.slice e)=>match qW P e,zkS P 20 e with
   |some ie,some ty=>bif zd2 P e ty&&Nat.blt 0 ie.bytes then match WI H nx (.arr true ty (List.replicate zl.toNat (KT ty))) with
     |some H'=>bif zeu zl zc ie.bytes then k (.own nx) H' (nx+1) else none
     |none=>none
    else none
   |_,_=>none
  |_=>none
 |_,_=>none
theorem zp8 (ty:Ty) (x:T ty) (n:Nat):zV ty (List.replicate n x)=(List.replicate n (ql ty x)).flatten:=by
 induction n with
 |zero=>rfl
 |succ n ih=>
  rw [List.replicate_succ,List.replicate_succ,List.flatten_cons,←ih];rfl
theorem zhg {a b:List Value} (h:∀us,zw φ a us→zw φ b us) (hl:b.length=a.length):∀(n:Nat) us,zw φ (List.replicate n a).flatten us→zw φ (List.replicate n b).flatten us
 |0,us,hr=>hr
 |n+1,us,hr=>by
  rw [List.replicate_succ,List.flatten_cons] at hr ⊢
  have h3:=hr.take a.length
  have h4:=hr.drop a.length
  rw [List.take_left] at h3
  rw [List.drop_left] at h4
  have:=(h _ h3).append (zhg h hl n _ h4)
  rw [List.take_append_drop] at this
  exact this
theorem zCA {rd:Option Nat} {o:Oper} {tm:List SV} {H:SH} {nx:Nat} {k:KO R} {r:R} {t:TypeId} {l c:Operand} (ho:o.op=.makeSlice t l c) (h:zzP P tm H nx t l c k=some r):gq P rd o tm H nx k r:=by
 unfold zzP at h
 split at h
 case h_2=>cases h
 rename_i kl zl kc zc hl hc
 split at h
 case h_2=>cases h
 rename_i e hu
 split at h
 case h_2=>cases h
 rename_i ie ty hie hty
 have h6:=zA h
 clear h
 obtain ⟨hh,h⟩:=h6
 simp only [Bool.and_eq_true] at hh
 split at h
 case h_2=>cases h
 rename_i H1 hn
 have h6:=zA h
 clear h
 obtain ⟨hm,h⟩:=h6
 obtain ⟨hn1,rfl⟩:=vL hn
 obtain ⟨ie',z,e1,e2,e3,e4,e5,e6,e7⟩:=zih hh.1
 rw [qZ] at hie
 rw [jg] at hu
 rw [hie] at e1;cases e1
 have hbp:=zco hh.2
 simp only [zeu,Bool.and_eq_true,Bool.not_eq_true',xb,decide_eq_false_iff_not,Int.not_lt] at hm
 obtain ⟨m1,m2,m3⟩:=hm
 have hzc:zc≤281474976710656:=by
  have:(1:Int)*zc≤(ie.bytes:Int)*zc:=Int.mul_le_mul_of_nonneg_right (by omega) (by omega)
  omega
 refine vW ⟨uL hn1,kT hn1,Nat.le_succ _,fun ν hv=>⟨WJ hv,?_⟩⟩ h
 refine YI (Nat.le_succ _) (fun c hc=>by rw [ho] at hc;cases hc) fun φ w K a g hf ht=>?_
 have hl':=qb ht (zY hl ν)
 have hc':=qb ht (zY hc ν)
 simp only [den] at hl' hc'
 unfold execOp
 simp only [ho]
 generalize a.eval l=ul at hl'
 generalize a.eval c=uc at hc'
 cases hl'
 cases hc'
 have hfr:=hf.at (Nat.le_refl nx) (Nat.lt_succ_self nx)
 obtain ⟨v',w',φ',r1,r2,r3,r4,r5⟩:=zx9 (P:=P) (kl:=kl) (kc:=kc) g hfr.1 hfr.2 hu hie e2 (Go.IntWalk.i64_in _ (by omega)) (Go.IntWalk.i64_in _ (by omega)) m1 m2 m3 (by omega) e3 e6 rfl
 refine Ran.op ⟨v',w',φ',r1,?_,r3,?_,r5,Nat.le_succ _⟩
 ·simp only [den]
  rw [GN hv rfl,List.length_replicate,e5]
  exact r2
 ·refine KG hn1 hv ?_
  refine zya r4 ?_ ?_
  ·rw [zp8]
   exact zhg (e7 φ') (by rw [jr,e5,Array.length_toList,e3]) _
  ·rw [JL,List.length_replicate,e5]
   simp [e3]
theorem zwm {s:Nat}:∀(us:List Value) (j:Nat) (arr:Array Value),(∀u∈us,u.cells.size=s)→arr.size=(j+us.length)*s→
  Instr.fill (fun i=>some (i*s,s)) arr ((us.zipIdx j).map fun p=>(p.2,p.1))=some (arr.toList.take (j*s)++us.flatMap fun u=>u.cells.toList).toArray
 |[],j,arr,_,hl=>by
  simp only [List.zipIdx_nil,List.map_nil,Instr.fill,List.flatMap_nil,List.append_nil,Option.some.injEq]
  apply Array.ext'
  rw [List.take_of_length_le (by simp at hl ⊢;omega)]
 |u::us,j,arr,hu,hl=>by
  have h1:=hu u (by simp)
  have hl2:arr.size=j*s+s+us.length*s:=by
   rw [hl,List.length_cons,Nat.add_mul,Nat.add_mul];omega
  simp only [List.zipIdx_cons,List.map_cons,Instr.fill]
  rw [if_neg (by simp [h1];omega)]
  have hf:=zkQ u.cells.toList 0 (j*s) arr (by simp [h1];omega)
  rw [←Array.foldl_toList,Array.toList_zipIdx]
  rw [zwm us (j+1) _ (fun x hx=>hu x (by simp [hx])) (by
   have:=congrArg List.length hf
   rw [zzi _ _ _ (by simp [h1];omega)] at this
   simp only [Array.length_toList] at this
   rw [this,hl2,Nat.add_mul,Nat.add_mul];omega)]
  rw [hf,List.flatMap_cons,←List.append_assoc]
  congr 3
  unfold spl
  have e1:(j+1)*s=j*s+s:=by rw [Nat.add_mul,Nat.one_mul]
  rw [List.take_left' (by simp [h1];omega),Nat.add_zero]
def zwn (vt:VT):List (Nat×SV)→Nat→SH→Option (List (T vt.ty)×SH)
 |[],_,H=>some ([],H)
 |(j,v)::r,i,H=>bif Nat.beq i j then match cvV vt v H with
  |some (x,H1)=>match zwn vt r (i+1) H1 with
   |some (xs,H2)=>some (x::xs,H2)
   |none=>none
  |none=>none
  else none
theorem zyK {vt:VT}:∀{ps:List (Nat×SV)} {i:Nat} {H H':SH} {xs:List (T vt.ty)},zwn vt ps i H=some (xs,H')→xc H H'∧xs.length=ps.length∧
  ∀
   ν G,GLe H' G→∀(φ:Ren) (K:Nat→Prop) (w:World) (nx:Nat) (qs:List (Nat×Value)),zF φ (zE ν G) K w→VN ν nx G→zoe φ (ps.map fun p=>(p.1,den (rho ν H) p.2)) qs→
   ∃us:List Value,qs=(us.zipIdx i).map (fun p=>(p.2,p.1))∧us.length=xs.length∧∀(j:Nat) u x,us[j]?=some u→xs[j]?=some x→zr φ (den (fun _=>bad) (mkV vt x)) u
 |[],i,H,H',xs,h=>by
  simp only [zwn,Option.some.injEq,Prod.mk.injEq] at h
  obtain ⟨rfl,rfl⟩:=h
  refine ⟨xc.refl _,rfl,fun ν G hG φ K w nx qs g hv hp=>?_⟩
  cases qs with
  |nil=>exact ⟨[],rfl,rfl,fun j u x h=>by simp at h⟩
  |cons q qs=>exact hp.elim
 |(j0,v)::r,i,H,H',xs,h=>by
  simp only [zwn] at h
  have h6:=zA h
  clear h
  obtain ⟨hb,h⟩:=h6
  have hj:=Nat.eq_of_beq_eq_true hb
  clear hb
  subst hj
  split at h
  case h_2=>cases h
  rename_i x H1 h1
  split at h
  case h_2=>cases h
  rename_i ys H2 h2
  cases h
  obtain ⟨g1,r1⟩:=zp0 h1
  obtain ⟨g2,l2,r2⟩:=zyK h2
  refine ⟨g1.trans g2,by simp [l2],fun ν G hG φ K w nx qs g hv hp=>?_⟩
  cases qs with
  |nil=>exact hp.elim
  |cons q qs=>
   obtain ⟨e1,e2,e3⟩:=hp
   obtain ⟨q1,q2⟩:=q
   dsimp only at e1 e2
   subst e1
   rw [←g1.1.rho ν] at e3
   obtain ⟨us,f1,f2,f3⟩:=r2 ν G hG φ K w nx qs g hv e3
   have f4:=r1 ν G (g2.1.trans hG) φ K w nx q2 g hv e2 (fun _=>bad)
   refine ⟨q2::us,by simp [f1],by simp [f2],fun j u y hu hy=>?_⟩
   cases j with
   |zero=>simp at hu hy;subst hu;subst hy;exact f4
   |succ j=>simp at hu hy;exact f3 j u y hu hy
theorem zBd {vt:VT} {x:T vt.ty} {u:Value} (hagg:vt.agg=false→sz vt.ty=1) (h:zr φ (den (fun _=>bad) (mkV vt x)) u):zw φ (ql vt.ty x) u.cells.toList:=by
 obtain ⟨ag,ty⟩:=vt
 cases ag with
 |true=>
  simp only [mkV,cond_true,den] at h
  obtain ⟨ys,rfl,hl⟩:=h.agg_inv
  simpa [qt,yc,Value.cells] using hl
 |false=>
  simp only [mkV,cond_false] at h
  have h1:=YG ty x
  rw [hagg rfl] at h1
  have h2:=yc (fun _=>bad) ty x
  match he:yp ty x,h1 with
  |[v],_=>
   rw [he] at h h2
   simp only [mk1,List.map_cons,List.map_nil] at h h2
   rw [←h2]
   have h3:=h.one
   have h4:(den (fun _=>bad) v).oneCell'=true:=by
    have:∀(t:Ty) (y:T t) (c:Value),c∈ql t y→c.oneCell'=true:=by
     intro t
     induction t with
     |unit=>intro y c hc;simp [ql] at hc
     |bool=>intro y c hc;simp [ql] at hc;subst hc;rfl
     |int k=>intro y c hc;simp [ql] at hc;subst hc;rfl
     |str=>intro y c hc;simp [ql] at hc;subst hc;rfl
     |list t ih=>intro y c hc;simp [ql] at hc;subst hc;rfl
     |pair a b iha ihb=>
      intro y c hc
      simp only [ql,List.mem_append] at hc
      rcases hc with hc | hc
      ·exact iha _ _ hc
      ·exact ihb _ _ hc
    refine this ty x _ ?_
    rw [←h2];simp
   rw [zku (by rw [h3];exact h4)]
   exact ⟨h,trivial⟩
theorem ztV {ty:Ty}:∀{xs:List (T ty)} {us:List Value},us.length=xs.length→(∀(j:Nat) u x,us[j]?=some u→xs[j]?=some x→zw φ (ql ty x) u.cells.toList)→zw φ (zV ty xs) (us.flatMap fun u=>u.cells.toList)
 |[],[],_,_=>trivial
 |x::xs,u::us,hl,h=>by
  have h1:=h 0 u x rfl rfl
  have h2:=ztV (xs:=xs) (us:=us) (by simpa using hl) fun j u x hu hx=>h (j+1) u x (by simpa using hu) (by simpa using hx)
  simp only [List.flatMap_cons]
  exact h1.append h2
 |[],_::_,hl,_=>by simp at hl
 |_::_,[],hl,_=>by simp at hl
def zCB (P:Program) (tm:List SV) (H:SH) (nx:Nat) (t:TypeId) (n:Nat) (ps:List (Nat×Operand)) (k:KO R):Option R:=match zcq tm H ps,qT P t with
 |some vs,some (.slice e)=>match qW P e,zkS P 20 e,qT P e with
  |some ie,some ty,some d=>bif Nat.beq n vs.length&&(Nat.ble (n*ie.size) 16777216&&(zd2 P e ty&&(Jd d||Nat.beq (sz ty) 1))) then
    match zwn ⟨Jd d,ty⟩ vs 0 H with
    |some (xs,H1)=>match WI H1 nx (.arr true ty xs) with
     |some H2=>k (.own nx) H2 (nx+1)
     |none=>none
    |none=>none
   else none
  |_,_,_=>none
 |_,_=>none
theorem zzQ {tm:List SV} {H:SH} {ν:Nat→Bool} {a:Act} (ht:qI φ (zt (rho ν H) tm) a.tmps) {ps:List (Nat×Operand)} {vs:List (Nat×SV)} (h:zcq tm H ps=some vs):zoe φ (vs.map fun p=>(p.1,den (rho ν H) p.2)) (ps.map fun p=>(p.1,a.eval p.2)):=
 zdQ ht (zd0 ν h)
theorem zEe {rd:Option Nat} {o:Oper} {tm:List SV} {H:SH} {nx:Nat} {k:KO R} {r:R} {t:TypeId} {n:Nat} {ps:Array (Nat×Operand)} (ho:o.op=.buildSlice t n ps) (h:zCB P tm H nx t n ps.toList k=some r):gq P rd o tm H nx k r:=by
 unfold zCB at h
 split at h
 case h_2=>cases h
 rename_i vs e hvs hu
 split at h
 case h_2=>cases h
 rename_i ie ty d hie hty hd
 have h6:=zA h
 clear h
 obtain ⟨hh,h⟩:=h6
 simp only [Bool.and_eq_true,Bool.or_eq_true] at hh
 obtain ⟨c1,c2,c3,c4⟩:=hh
 have c1:=Nat.eq_of_beq_eq_true c1
 have c2:=Nat.le_of_ble_eq_true c2
 split at h
 case h_2=>cases h
 rename_i xs H1 hl
 split at h
 case h_2=>cases h
 rename_i H2 hn
 obtain ⟨hn1,rfl⟩:=vL hn
 obtain ⟨hg,hxl,hrel⟩:=zyK hl
 obtain ⟨ie',z,e1,e2,e3,e4,e5,e6,e7⟩:=zih c3
 rw [qZ] at hie
 rw [jg] at hu
 rw [hie] at e1;cases e1
 have hxn:xs.length=n:=by rw [hxl,c1]
 refine vW ⟨hg.1.regLe.trans (uL hn1),hg.1.lkeep.trans (kT hn1),Nat.le_succ _,fun ν hv=>⟨WJ (hg.1.vn hv),zif hg ?_⟩⟩ h
 have hv1:=hg.1.vn hv
 refine YI (Nat.le_succ _) (fun c hc=>by rw [ho] at hc;cases hc) fun φ w K a g hf ht=>?_
 have hp:=zzQ ht hvs
 obtain ⟨us,f1,f2,f3⟩:=hrel ν H1 (GLe.refl _) φ K w nx _ g hv1 hp
 have hcell:∀(j:Nat) u x,us[j]?=some u→xs[j]?=some x→zw φ (ql ty x) u.cells.toList:=fun j u x hu hx=>zBd (vt:=⟨Jd d,ty⟩) (fun hagg=>by
  dsimp only at hagg
  rw [hagg] at c4
  rcases c4 with c4 | c4
  ·cases c4
  ·exact Nat.eq_of_beq_eq_true c4) (f3 j u x hu hx)
 have hsize:∀u∈us,u.cells.size=ie.size:=fun u hu=>by
  obtain ⟨j,hj⟩:=List.getElem?_of_mem hu
  have hjl:j < xs.length:=by have:=(List.getElem?_eq_some_iff.1 hj).1;omega
  have:=(hcell j u xs[j] hj (by simp)).length
  rw [jr,e5] at this
  simpa using this.symm
 have hfr:=hf.at (Nat.le_refl nx) (Nat.lt_succ_self nx)
 have hrl:=ztV f2 hcell
 have hlim:(us.flatMap fun u=>u.cells.toList).length=n*ie.size:=by
  rw [←hrl.length,JL,hxn,e5]
 have hg2:=g.make hfr.1 hfr.2 hrl e (n*ie.size) [] (by rw [hlim];omega)
 simp only [List.append_nil] at hg2
 unfold execOp
 simp only [ho]
 refine Ran.op ⟨.slice (some ⟨w.heap.size,0,none⟩) n n,w.alloc (.cells (us.flatMap fun u=>u.cells.toList).toArray e),φ.put nx ⟨w.heap.size,0,n*ie.size,#[]⟩,?_,?_,Ext.put hfr.1 hfr.2 _,KG hn1 hv1 hg2,qw.alloc g _,Nat.le_succ _⟩
 ·have hq:ps.toList.map (fun p=>(p.1,a.eval p.2))=us.zipIdx.map fun p=>(p.2,p.1):=f1
  have hfill:∀arr:Array Value,arr.size=n*ie.size→Instr.fill (fun i=>some (i*ie.size,ie.size)) arr (us.zipIdx.map fun p=>(p.2,p.1))=some (us.flatMap fun u=>u.cells.toList).toArray:=fun arr ha=>by
   have:=zwm us 0 arr hsize (by rw [ha,Nat.zero_add,f2,hxn])
   simpa using this
  have h24:¬(n*ie.size > 2 ^ 24):=by omega
  by_cases h0:n*ie.size=0
  ·have:=hfill #[] (by simp [h0])
   simp [Instr.buildSlice,run_underlying hu,qx hie,h0,zkv,hq,this,newRow]
  ·have:=hfill ((Array.range (n*ie.size)).map (z.cells[· % z.cells.size]!)) (by simp)
   simp [Instr.buildSlice,run_underlying hu,qx hie,h0,vg hie e2,hq,newRow] at this h24 ⊢
   simp [h24,this]
 ·simp only [den]
  rw [GN hv1 rfl,hxn,e5]
  have:=zr.slO (φ:=φ.put nx ⟨w.heap.size,0,n*ie.size,#[]⟩) nx 0 n (qg+ie.size) n _ (Ren.put_same _ _ _) (by omega) (Nat.le_refl _) (by simp)
  simpa using this
theorem zwo:∀(t:Ty) {l:List SV} {H:SH} {x:T t} {r:List SV} {H':SH},cvC t l H=some (x,r,H')→l.length=sz t+r.length∧(∀j,j+sz t < l.length→r[j]?=l[j+sz t]?)∧∀(y:T t) j,j < sz t→l[j]?=(yp t y)[j]?→(ql t x)[j]?=(ql t y)[j]?
 |.unit,l,H,x,r,H',h=>by
  simp only [cvC] at h
  cases h
  exact ⟨by simp [sz],fun j _=>by simp [sz],fun y j hj=>by simp [sz] at hj⟩
 |.bool,l,H,x,r,H',h=>by
  simp only [cvC] at h
  split at h
  ·cases h
   refine ⟨by simp [sz];omega,fun j _=>by simp [sz],fun y j hj hl=>?_⟩
   simp only [sz,Nat.lt_one_iff] at hj
   subst hj
   simp only [yp,List.getElem?_cons_zero,Option.some.injEq,SV.bool.injEq] at hl
   subst hl;rfl
  ·cases h
 |.int k,l,H,x,r,H',h=>by
  simp only [cvC] at h
  split at h
  ·obtain ⟨h1,h2⟩:=zA h
   cases h2
   refine ⟨by simp [sz];omega,fun j _=>by simp [sz],fun y j hj hl=>?_⟩
   simp only [sz,Nat.lt_one_iff] at hj
   subst hj
   simp only [yp,List.getElem?_cons_zero,Option.some.injEq,SV.int.injEq] at hl
   obtain ⟨_,rfl⟩:=hl;rfl
  ·cases h
 |.str,l,H,x,r,H',h=>by
  simp only [cvC] at h
  split at h
  ·cases h
   refine ⟨by simp [sz];omega,fun j _=>by simp [sz],fun y j hj hl=>?_⟩
   simp only [sz,Nat.lt_one_iff] at hj
   subst hj
   simp only [yp,List.getElem?_cons_zero,Option.some.injEq,SV.str.injEq] at hl
   subst hl;rfl
  ·cases h
 |.list t,l,H,x,r,H',h=>by
  simp only [cvC] at h
  split at h
  ·rename_i t' y0 full r'
   split at h
   ·rename_i ht
    subst ht
    cases h
    refine ⟨by simp [sz];omega,fun j _=>by simp [sz],fun y j hj hl=>?_⟩
    simp only [sz,Nat.lt_one_iff] at hj
    subst hj
    simp only [yp,List.getElem?_cons_zero,Option.some.injEq,SV.lst.injEq] at hl
    obtain ⟨_,h3,_⟩:=hl
    have:=eq_of_heq h3
    subst this
    rfl
   ·cases h
  ·cases h
   refine ⟨by simp [sz];omega,fun j _=>by simp [sz],fun y j hj hl=>?_⟩
   simp only [sz,Nat.lt_one_iff] at hj
   subst hj
   simp [yp] at hl
  ·split at h
   ·split at h
    ·obtain ⟨_,h2⟩:=zA h
     cases h2
     refine ⟨by simp [sz];omega,fun j _=>by simp [sz],fun y j hj hl=>?_⟩
     simp only [sz,Nat.lt_one_iff] at hj
     subst hj
     simp [yp] at hl
    ·cases h
   ·split at h
    ·obtain ⟨_,h2⟩:=zA h
     cases h2
     refine ⟨by simp [sz];omega,fun j _=>by simp [sz],fun y j hj hl=>?_⟩
     simp only [sz,Nat.lt_one_iff] at hj
     subst hj
     simp [yp] at hl
    ·cases h
   ·cases h
  ·cases h
 |.pair a b,l,H,x,r,H',h=>by
  simp only [cvC] at h
  split at h
  case h_2=>cases h
  rename_i x1 l1 H1 h1
  split at h
  case h_2=>cases h
  rename_i y l2 H2 h2
  cases h
  obtain ⟨e1,e2,e3⟩:=zwo a h1
  obtain ⟨f1,f2,f3⟩:=zwo b h2
  refine ⟨by simp only [sz];omega,fun j hj=>?_,fun y' j hj hl=>?_⟩
  ·simp only [sz] at hj ⊢
   rw [f2 j (by omega),e2 (j+sz b) (by omega)]
   congr 1;omega
  ·simp only [yp] at hl
   simp only [ql]
   by_cases hja:j < sz a
   ·rw [List.getElem?_append_left (by rw [YG];exact hja)] at hl
    rw [List.getElem?_append_left (by rw [jr];exact hja),List.getElem?_append_left (by rw [jr];exact hja)]
    exact e3 y'.1 j hja hl
   ·rw [List.getElem?_append_right (by rw [YG];omega),YG] at hl
    rw [List.getElem?_append_right (by rw [jr];omega),List.getElem?_append_right (by rw [jr];omega),jr,jr]
    simp only [sz] at hj
    refine f3 y'.2 (j - sz a) (by omega) ?_
    rw [e2 (j - sz a) (by omega)]
    rw [show j - sz a+sz a=j by omega]
    exact hl
def zzR (P:Program) (tm:List SV) (H:SH) (nx:Nat) (t:TypeId) (a x:Operand) (k:KO R):Option R:=match jy tm H a,jy tm H x with
 |some (.elp b s i off),some v=>match zm H b,qW P t with
  |some (.arr nn ty l),some inf=>bif Nat.beq s (sz ty)&&(zfY v&&(zot (Vg v) inf.size&&(zwc (Vg v)&&(Nat.ble (off+inf.size) (sz ty)&&Nat.blt 0 inf.size)))) then
    opt (gl l i) fun y=>match cvC ty (zkO (yp ty y) off (Vg v)) H with
     |some (y',[],H1)=>match zm H1 b with
      |some (.arr _ _ _)=>k (.tup []) (wF H1 b (.arr nn ty (l.set i y'))) nx
      |_=>none
     |_=>none
   else none
  |_,_=>none
 |_,_=>none
theorem zwp (cs:List SV) (o:Nat) (vs:List SV) (h:o+vs.length≤cs.length) (j:Nat) (hj:j < o∨o+vs.length≤j):(zkO cs o vs)[j]?=cs[j]?:=by
 unfold zkO
 have hm:(cs.take o).length=o:=by simp;omega
 rcases hj with hj | hj
 ·rw [List.append_assoc,List.getElem?_append_left (by omega),List.getElem?_take,if_pos hj]
 ·rw [List.getElem?_append_right (by simp;omega),List.getElem?_drop]
  congr 1;simp;omega
theorem zov:∀(t:Ty) (y:T t) (c:Value),c∈ql t y→c.oneCell'=true:=by
 intro t
 induction t with
 |unit=>intro y c hc;simp [ql] at hc
 |bool=>intro y c hc;simp [ql] at hc;subst hc;rfl
 |int k=>intro y c hc;simp [ql] at hc;subst hc;rfl
 |str=>intro y c hc;simp [ql] at hc;subst hc;rfl
 |list t ih=>intro y c hc;simp [ql] at hc;subst hc;rfl
 |pair a b iha ihb=>
  intro y c hc
  simp only [ql,List.mem_append] at hc
  rcases hc with hc | hc
  ·exact iha _ _ hc
  ·exact ihb _ _ hc
theorem zmC:∀{l:List Value},(∀c∈l,c.oneCell'=true)→Wc l=true
 |[],_=>rfl
 |x::l,h=>by simp only [Wc,h x (by simp),zmC (l:=l) fun c hc=>h c (by simp [hc]),Bool.and_self]
theorem zEf {cs us:List Value} {o:Nat} {vs ys:List Value} (h:zw φ cs us) (hv:zw φ vs ys):zw φ (spl cs o vs) (spl us o ys):=by
 unfold spl
 rw [←hv.length]
 exact ((h.take o).append hv).append (h.drop _)
theorem zCC {rd:Option Nat} {o:Oper} {tm:List SV} {H:SH} {nx:Nat} {k:KO R} {r:R} {t:TypeId} {ao xo:Operand} (ho:o.op=.store t ao xo) (h:zzR P tm H nx t ao xo k=some r):gq P rd o tm H nx k r:=by
 unfold zzR at h
 split at h
 case h_2=>cases h
 rename_i b s i off v ha hx
 split at h
 case h_2=>cases h
 rename_i nn ty l inf hb hi
 have h6:=zA h
 clear h
 obtain ⟨hh,h⟩:=h6
 simp only [Bool.and_eq_true] at hh
 obtain ⟨c1,c2,c3,c4,c5,c6⟩:=hh
 have c1:=Nat.eq_of_beq_eq_true c1
 have c3:=zeh c3
 have c5:=Nat.le_of_ble_eq_true c5
 have c6:=zco c6
 subst c1
 have h6:=Qo h
 clear h
 obtain ⟨y,hy,h⟩:=h6
 rw [yJ] at hy
 split at h
 case h_2=>cases h
 rename_i y' H1 hcv
 split at h
 case h_2=>cases h
 rename_i nn1 ty1 l1 hb1
 obtain ⟨cs0,he0,hg,hcr⟩:=GM ty hcv
 simp only [List.append_nil] at he0
 have hb1':zm H1 b=some (.arr nn ty l):=by
  rcases hg.1 b with h1 | ⟨nn2,t2,l2,h1,h2⟩
  ·rw [h1,hb]
  ·rw [h2] at hb1;cases hb1
 have hlt:i < l.length:=(List.getElem?_eq_some_iff.1 hy).1
 have hreg:∀c,reg (zm (wF H1 b (.arr nn ty (l.set i y'))) c)=reg (zm H1 c):=fun c=>by
  rw [qJ]
  by_cases hc:c=b
  ·subst hc;simp [hb1',reg,rsz,zv4]
  ·rw [if_neg hc]
 have hnn:∀c,qY (zm (wF H1 b (.arr nn ty (l.set i y'))) c)=true→qY (zm H1 c)=true:=fun c hc=>by
  rw [qJ] at hc
  by_cases hcb:c=b
  ·subst hcb;simpa [hb1',qY] using hc
  ·rwa [if_neg hcb] at hc
 refine vW ⟨hg.1.regLe.trans (fun c z hz=>by rw [hreg c];exact hz),hg.1.lkeep.trans (Gk hb1' (fun L=>by simp)),Nat.le_refl _,fun ν hv=>⟨Ql hreg hnn (hg.1.vn hv),zif hg ?_⟩⟩ h
 have hv1:=hg.1.vn hv
 have hn:jD nn l=false:=zhd (fun h=>by subst h;simp at hlt)
 have hd:(zE ν H1).get b=some (.cells (zV ty l) false):=by rw [zL,hb1'];simp [zU,hn]
 refine YI (Nat.le_refl _) (fun c hc=>by rw [ho] at hc;cases hc) fun φ w K a' g hf ht=>?_
 have har:=qb ht (zY ha ν)
 have hxr:=qb ht (zY hx ν)
 simp only [den] at har
 generalize hx':a'.eval xo=x' at hxr
 obtain ⟨s1,s2⟩:=YH (ν:=ν) (H:=H) c2
 have hcells:=hxr.cells' s2
 rw [s1] at hcells
 have hlen0:off+(Vg v).length≤(yp ty y).length:=by rw [YG,c3];exact c5
 obtain ⟨L,hL⟩:=g.named hd
 obtain ⟨p1,p2⟩:=zdY ty l (k:=0) (n:=sz ty) hy (by omega)
 rw [Nat.add_zero] at p1 p2
 have p3:(ql ty y).take (sz ty)=ql ty y:=List.take_of_length_le (by rw [jr];omega)
 rw [List.drop_zero,p3] at p2
 obtain ⟨uy,hul,_,hur⟩:=g.read hd hL (i*sz ty) (sz ty) p1
 rw [p2] at hur
 have hxl:x'.cells.toList.length=inf.size:=by rw [←hcells.length,wa,c3]
 have hnew:zw φ (ql ty y') (spl uy off x'.cells.toList):=by
  refine hcr ν H1 (GLe.refl _) φ K w nx _ g hv1 ?_
  rw [←he0,zos]
  refine zEf ?_ hcells
  rw [qt,yc];exact hur
 have hvs:zw φ (((ql ty y').drop off).take inf.size) x'.cells.toList:=by
  have h1:=(hnew.drop off).take inf.size
  have h2:((spl uy off x'.cells.toList).drop off).take inf.size=x'.cells.toList:=by
   unfold spl
   have e1:(uy.take off).length=off:=by simp;omega
   rw [List.append_assoc,List.drop_left' e1,List.take_left' hxl]
  rwa [h2] at h1
 have hvl:(((ql ty y').drop off).take inf.size).length=inf.size:=by rw [hvs.length,hxl]
 have hone:Wc (((ql ty y').drop off).take inf.size)=true:=zmC fun c hc=>zov ty y' c (List.mem_of_mem_drop (List.mem_of_mem_take hc))
 have hy2:ql ty y'=spl (ql ty y) off (((ql ty y').drop off).take inf.size):=by
  apply List.ext_getElem?
  intro j
  rw [zef _ _ _ (by rw [hvl,jr];exact c5),hvl]
  obtain ⟨q1,_,q3⟩:=zwo ty hcv
  by_cases h1:j < off
  ·rw [if_pos h1]
   refine q3 y j (by omega) ?_
   exact zwp _ _ _ hlen0 j (.inl h1)
  ·rw [if_neg h1]
   by_cases h2:j < off+inf.size
   ·rw [if_pos h2,List.getElem?_take,if_pos (by omega),List.getElem?_drop]
    congr 1;omega
   ·rw [if_neg h2]
    by_cases h3:j < sz ty
    ·refine q3 y j h3 ?_
     exact zwp _ _ _ hlen0 j (.inr (by omega))
    ·rw [List.getElem?_eq_none (by rw [jr];omega),List.getElem?_eq_none (by rw [jr];omega)]
 have hset:=zAZ ty l (k:=off) hy (by rw [hvl];exact c5) hy2
 obtain ⟨w',hst,hg2,hw2⟩:=g.write P hd hL (i*sz ty+off) (by rw [hvl];have:=(zdY ty l (k:=off) (n:=inf.size) hy c5).1;omega) hone hvs (by intro h0;rw [h0] at hvl;simp at hvl;omega)
 rw [hset] at hg2
 rw [qZ] at hi
 unfold execOp
 simp only [ho]
 generalize a'.eval ao=ua at har
 cases har with
 |ptr _ _ L2 hL2=>
  rw [hL] at hL2;cases hL2
  refine zdR ⟨w',?_,?_,hw2⟩
  ·simp only [Instr.storeAt,Instr.sureAddr,storeVar]
   have hsz:x'.cells.size=inf.size:=by simpa using hxl
   rw [hx']
   simp [qx hi,hsz]
   exact hst
  ·refine hg2.sub fun c k hc=>?_
   rw [zL,qJ,yY hreg] at hc
   rw [Hp.get_set]
   by_cases hcb:c=b
   ·subst hcb
    simp [hb1',zU,zv4,hn] at hc
    rw [if_pos rfl,hd]
    simp [hc]
   ·rw [if_neg hcb] at hc ⊢
    rw [zL];exact hc
theorem zCD {rd:Option Nat} {o:Oper} {tm:List SV} {H:SH} {nx:Nat} {cs:List SV} {v:SV} (hn:zm H nx=none)
  (h:∀ν,jT P (zt (rho ν H) tm) (zE ν H) nx o=some (den (rho ν ((nx,.vars cs)::H)) v,(nx,.cells (zt (rho ν H) cs) false)::zE ν H,nx+1)):SOp P rd o tm H nx v ((nx,.vars cs)::H) (nx+1):=by
 refine ⟨uL hn,kT hn,Nat.le_succ _,fun ν hv=>⟨WJ hv,JM (ka (h ν)) (fun φ v' hv=>hv) (fun φ K w g=>?_)⟩⟩
 have hr:rho ν ((nx,.vars cs)::H)=rho ν H:=yY (fun c=>by
  rw [zH]
  by_cases hc:nx=c
  ·subst hc;simp [hn,reg]
  ·rw [if_neg hc]) ν
 refine Gl hn (x:=.cells (zt (rho ν H) cs) false) ?_ g
 simp [zU,hr]
def isNone {α:Type}:Option α→Bool
 |none=>true
 |some _=>false
def zCE (P:Program) (tm:List SV) (H:SH) (nx:Nat) (t:TypeId) (n:Nat) (ps:List (Nat×Operand)):Option (SV×SH):=match zcq tm H ps,qT P t with
 |some vs,some (.slice e)=>match qW P e with
  |some ie=>match ie.zero with
   |some z=>match zon z with
    |some zs=>bif isNone (zkS P 20 e)&&(Nat.beq ie.size 1&&Nat.ble n 1000) then match zig (fun i=>some (i*ie.size,ie.size)) (List.replicate n zs) vs with
     |some cs=>match WI H nx (.vars cs) with
      |some H'=>some (.slv nx n,H')
      |none=>none
     |none=>none
     else none
    |none=>none
   |none=>none
  |none=>none
 |_,_=>none
theorem zEg {rd:Option Nat} {o:Oper} {tm:List SV} {H H':SH} {nx:Nat} {v:SV} {t:TypeId} {n:Nat} {ps:Array (Nat×Operand)} (ho:o.op=.buildSlice t n ps) (h:zCE P tm H nx t n ps.toList=some (v,H')):SOp P rd o tm H nx v H' (nx+1):=by
 unfold zCE at h
 split at h
 case h_2=>cases h
 rename_i vs e hvs hu
 split at h
 case h_2=>cases h
 rename_i ie hie
 split at h
 case h_2=>cases h
 rename_i z hz
 split at h
 case h_2=>cases h
 rename_i zs hzs
 have h6:=zA h
 clear h
 obtain ⟨hc,h⟩:=h6
 simp only [Bool.and_eq_true] at hc
 have hs1:=Nat.eq_of_beq_eq_true hc.2.1
 have hn:=Nat.le_of_ble_eq_true hc.2.2
 split at h
 case h_2=>cases h
 rename_i cs hcs
 split at h
 case h_2=>cases h
 rename_i H2 hnew
 cases h
 obtain ⟨hn1,rfl⟩:=vL hnew
 refine zCD hn1 fun ν=>?_
 obtain ⟨e1,e2⟩:=zoo (ρ:=rho ν H) hzs
 obtain ⟨f1,f2⟩:=zfZ (ν:=ν) (H:=H) _ hcs
 have hzc:z.cells=#[z]:=by
  unfold zon at hzs
  split at hzs<;>first | rfl | cases hzs
 have hrep:((Array.range (n*ie.size)).map (z.cells[· % z.cells.size]!))=(zt (rho ν H) (List.replicate n zs)).toArray:=by
  rw [hs1,hzc]
  apply Array.ext'
  rw [qt,List.map_replicate,e1]
  apply List.ext_getElem?
  intro i
  simp only [Nat.mul_one,Array.toList_map,Array.toList_range,List.getElem?_map,List.getElem?_replicate]
  by_cases hi:i < n
  ·simp [hi,Nat.mod_one]
  ·simp [hi]
 have hav:∀m,avL (List.replicate m z)=true:=fun m=>by
  induction m with
  |zero=>rfl
  |succ m ih=>simp [List.replicate_succ,avL,ih,e2]
 unfold jT
 simp only [ho,zd0 ν hvs,Option.bind_some]
 unfold WC
 simp only [hu,hie,hz]
 rw [if_pos]
 ·rw [hrep,f1]
  have:avL (zt (rho ν H) (List.replicate n zs)).toArray.toList=true:=by
   rw [qt,List.map_replicate,e1];exact hav n
  simp only [this,if_true,den]
 ·refine ⟨by rw [hs1];omega,by simp only [qg];omega,by rw [hzc];exact hav 1,f2,by rw [hzc];simp⟩
def zow (H:SH) (ty:Ty):SV→Option (List (T ty))
 |.lst t l _=>if h:t=ty then some (JK h l) else none
 |.own b=>match zm H b with
  |some (.arr _ t l)=>if h:t=ty then some (JK h l) else none
  |some (.roa _ t l)=>if h:t=ty then some (JK h l) else none
  |_=>none
 |.nils=>some []
 |_=>none
theorem ztW (ty:Ty) (l:List (T ty)):((l.map (wo ty)).flatMap fun e=>e.cells.toList)=zV ty l:=by
 induction l with
 |nil=>rfl
 |cons x l ih=>simp only [List.map_cons,List.flatMap_cons,ih];rfl
theorem zkU {ν:Nat→Bool} {nx:Nat} {H:SH} (hv:VN ν nx H) {b:Nat} {nn:Bool} {ty:Ty} {l:List (T ty)} {ro:Bool} (hr:reg (zm H b)=some (l.length,rsz nn ty l)) (hd:jD nn l=false→(zE ν H).get b=some (.cells (zV ty l) ro)) :
  uY (zE ν H) (sz ty) (rho ν H b)=some (l.length,zV ty l):=by
 rw [WH ν hr]
 cases hn:jD nn l with
 |true=>
  obtain ⟨_,rfl⟩:=Gg hn
  simp [uY,zV]
 |false=>
  simp only [cond_false,uY]
  by_cases h0:l.length=0
  ·have:l=[]:=List.length_eq_zero_iff.1 h0
   subst this
   simp [zV]
  ·rw [if_neg h0]
   simp only [hd hn,JL,Nat.zero_add,Nat.le_refl,if_true,List.drop_zero]
   rw [List.take_of_length_le (by rw [JL];omega)]
theorem zbq {ν:Nat→Bool} {nx:Nat} {H:SH} (hv:VN ν nx H) {ty:Ty} {x:SV} {l:List (T ty)} (h:zow H ty x=some l):uY (zE ν H) (sz ty) (den (rho ν H) x)=some (l.length,zV ty l):=by
 unfold zow at h
 split at h
 ·rename_i t l0 full
  split at h
  case isFalse=>cases h
  rename_i ht
  subst ht
  cases h
  have hes:gg (den (rho ν H) (.lst t l0 full))=some (sz t,(l0.map (wo t)).toArray,full):=by cases full<;>simp [den,fzV,gg]
  have:uY (zE ν H) (sz t) (den (rho ν H) (.lst t l0 full))=Gf (sz t) (den (rho ν H) (.lst t l0 full)):=by cases full<;>simp [den,fzV,uY]
  rw [this]
  unfold Gf
  rw [hes]
  simp [ztW,JK]
 ·rename_i b
  split at h
  ·rename_i nn t l0 hb
   split at h
   case isFalse=>cases h
   rename_i ht
   subst ht
   cases h
   exact zkU hv (ro:=false) (nn:=nn) (by rw [hb];rfl) fun hn=>by rw [zL,hb];have hn':jD nn l0=false:=hn;simp [zU,hn',JK]
  ·rename_i nn t l0 hb
   split at h
   case isFalse=>cases h
   rename_i ht
   subst ht
   cases h
   exact zkU hv (ro:=true) (nn:=nn) (by rw [hb];rfl) fun hn=>by rw [zL,hb];have hn':jD nn l0=false:=hn;simp [zU,hn',JK]
  ·cases h
 ·cases h
  simp [den,uY,zV]
 ·cases h
theorem zkV {o:Oper} {a:Act} {b:Builtin} {args:Array Operand} {ats:Array TypeId} (ho:o.op=.call {callee:=.builtin b,args:=args,argTypes:=ats}) :
  ∃cs,execOp a.eval o=builtin b ats o.type cs (args.map a.eval):=by
 refine ⟨args.map fun | .const _=>true | _=>false,?_⟩
 unfold execOp
 simp only [ho]
 show builtin b ats o.type _ _=_
 congr 1
def zmD {α:Type} (l l2:List α):List α:=l2.take l.length++l.drop l2.length
def zzS (P:Program) (tm:List SV) (H:SH) (nx:Nat) (t:TypeId) (d x:Operand) (k:KO R):Option R:=match jy tm H d,jy tm H x with
 |some (.own b),some v=>match zm H b,qT P t with
  |some (.arr true ty l),some (.slice e)=>bif Vh P e (sz ty)&&Nat.blt 0 (sz ty) then match zow H ty v with
   |some l2=>k (.int .i64 (Nat.min l2.length l.length:Nat)) (wF H b (.arr true ty (zmD l l2))) (nx+1)
   |none=>none
   else none
  |_,_=>none
 |_,_=>none
theorem zCF {rd:Option Nat} {o:Oper} {tm:List SV} {H:SH} {nx:Nat} {k:KO R} {r:R} {t u:TypeId} {d x:Operand} (ho:o.op=.call {callee:=.builtin .copy,args:=#[d,x],argTypes:=#[t,u]}) (h:zzS P tm H nx t d x k=some r):gq P rd o tm H nx k r:=by
 unfold zzS at h
 split at h
 case h_2=>cases h
 rename_i b v hd hx
 split at h
 case h_2=>cases h
 rename_i ty l e hb hu
 have h6:=zA h
 clear h
 obtain ⟨hh,h⟩:=h6
 simp only [Bool.and_eq_true] at hh
 obtain ⟨ie,hie,hsz⟩:=Wf hh.1
 have hpos:=zco hh.2
 split at h
 case h_2=>cases h
 rename_i l2 hl2
 have hcl:(zmD l l2).length=l.length:=by simp [zmD];omega
 have hreg:∀c,reg (zm (wF H b (.arr true ty (zmD l l2))) c)=reg (zm H c):=fun c=>by
  rw [qJ]
  by_cases hc:c=b
  ·subst hc;simp [hb,reg,hcl,rsz,jD]
  ·rw [if_neg hc]
 have hnn:∀c,qY (zm (wF H b (.arr true ty (zmD l l2))) c)=true→qY (zm H c)=true:=fun c hc=>by
  rw [qJ] at hc
  by_cases hcb:c=b
  ·subst hcb;rw [hb];rfl
  ·rwa [if_neg hcb] at hc
 refine vW ⟨fun c z hz=>by rw [hreg c];exact hz,Gk hb (fun L=>by simp),Nat.le_succ _,fun ν hv=>⟨(Ql hreg hnn hv).later (Nat.le_succ _),?_⟩⟩ h
 have hdb:(zE ν H).get b=some (.cells (zV ty l) false):=by rw [zL,hb];simp [zU,jD]
 refine YI (Nat.le_succ _) (fun c hc=>by rw [ho] at hc;cases hc) fun φ w K a g hf ht=>?_
 have hdr:=qb ht (zY hd ν)
 have hxr:=qb ht (zY hx ν)
 have hρ:den (rho ν H) (.own b)=.slice (some ⟨b,0,none⟩) l.length (qg+sz ty):=by
  simp only [den]
  rw [WH ν (nn:=true) (t:=ty) (l:=l) (by rw [hb];rfl)]
  rfl
 rw [hρ] at hdr
 rw [jg] at hu
 rw [qZ] at hie
 have hsrc:=zbq hv hl2
 rw [←hsz] at hsrc
 obtain ⟨w',r1,r2,r3⟩:=zA9 (P:=P) (ts:=u) (ty:=o.type) g hu hie hdb hdr hsrc hxr (by rw [JL,hsz]) (by omega) (zmC fun c hc=>by
  simp only [zV,List.mem_flatMap] at hc
  obtain ⟨y,_,hc⟩:=hc
  exact zov _ _ _ hc)
 obtain ⟨cs,he⟩:=zkV (a:=a) ho
 have hmap:(#[d,x]:Array Operand).map a.eval=#[a.eval d,a.eval x]:=by simp
 rw [he,hmap]
 show zmw P φ K w nx (do pure (.value (←Builtin.copy_ #[t,u] o.type #[a.eval d,a.eval x])):Sem Next) _ _ _
 refine Ran.op (s:=Builtin.copy_ #[t,u] o.type #[a.eval d,a.eval x]) ⟨_,w',φ,r1,?_,Ext.refl _ _ _ _,?_,r3,Nat.le_succ _⟩
 ·simp only [den,goInt];exact .int _ _
 ·refine r2.sub fun c k hc=>?_
  rw [zL,qJ,yY hreg] at hc
  rw [Hp.get_set]
  by_cases hcb:c=b
  ·subst hcb
   simp [hb,zU,jD] at hc
   rw [if_pos rfl,hdb]
   simp only [Option.map_some,Option.some.injEq]
   rw [←hc]
   congr 1
   unfold spl
   have e1:(zV ty l2).take (Nat.min l2.length l.length*ie.size)=zV ty (l2.take l.length):=by
    rw [hsz,zpZ]
    congr 1
    by_cases h0:l2.length≤l.length
    ·rw [show Nat.min l2.length l.length=l2.length from Nat.min_eq_left h0,List.take_of_length_le (Nat.le_refl _),List.take_of_length_le h0]
    ·rw [show Nat.min l2.length l.length=l.length from Nat.min_eq_right (by omega)]
   rw [e1,JL,List.take_zero,List.nil_append,Nat.zero_add,zia,zmD,zer]
   congr 2
   by_cases h0:l2.length≤l.length
   ·rw [List.take_of_length_le h0]
   ·rw [List.length_take,Nat.min_eq_left (by omega),List.drop_eq_nil_of_le (Nat.le_refl _),List.drop_eq_nil_of_le (by omega)]
  ·rw [if_neg hcb] at hc ⊢
   rw [zL];exact hc
def qE (n m bytes:Nat):Bool:=Nat.ble (n+m) maxLen&&Nat.ble ((n+m)*bytes) 140737488355328
def zwq (H0 H:SH) (nx:Nat) (ty:Ty) (bytes:Nat) (l l2:List (T ty)) (s:SV) (k:KO R):Option R:=match l2 with
 |[]=>k s H0 (nx+1)
 |y::ys=>match WI H nx (.arr true ty (l++y::ys)) with
  |some H'=>bif qE l.length (y::ys).length bytes then k (.own nx) H' (nx+1) else none
  |none=>none
def zFr:SV→Bool
 |.lst _ _ _=>true
 |_=>false
def tyS (H:SH):SV→Option Ty
 |.lst t _ _=>some t
 |.own b=>match zm H b with
  |some (.arr _ t _)=>some t
  |some (.roa _ t _)=>some t
  |_=>none
 |_=>none
def zCG (P:Program) (tm:List SV) (H:SH) (nx:Nat) (t:TypeId) (s x:Operand) (k:KO R):Option R:=match jy tm H s,jy tm H x with
 |some sv,some xv=>match qT P t with
  |some (.slice e)=>match qW P e with
   |some ie=>match sv with
    |.nils=>match tyS H xv with
     |some ty=>bif zd2 P e ty then match zow H ty xv with
      |some l2=>match WI H nx (.arr false ty l2) with
       |some H'=>bif qE 0 l2.length ie.bytes then k (.own nx) H' (nx+1) else none
       |none=>none
      |none=>none
      else none
     |none=>none
    |.own b=>match zm H b with
     |some (.arr nn ty l)=>bif zd2 P e ty then match zow H ty xv with
      |some l2=>match WI (wF H b (.gone (rsz nn ty l) l.length)) nx (.arr nn ty (l++l2)) with
        |some H'=>bif qE l.length l2.length ie.bytes then k (.own nx) H' (nx+1) else none
        |none=>none
      |none=>none
      else none
     |_=>none
    |.lst ty l true=>bif zd2 P e ty then match zow H ty xv with
     |some l2=>bif zFr xv then match WI H nx (.fro true ty (l++l2)) with
       |some _=>bif qE l.length l2.length ie.bytes then k (.lst ty (l++l2) false) H (nx+1) else none
       |none=>none
      else zwq H H nx ty ie.bytes l l2 (.lst ty l true) k
     |none=>none
     else none
    |_=>none
   |none=>none
  |_=>none
 |_,_=>none
theorem zev {H:SH} {b:Nat} {nn:Bool} {ty:Ty} {l:List (T ty)} (hb:zm H b=some (.arr nn ty l)) (c:Nat):reg (zm (wF H b (.gone (rsz nn ty l) l.length)) c)=reg (zm H c):=by
 rw [qJ]
 by_cases hc:c=b
 ·subst hc
  rw [if_pos rfl,hb]
  exact zes nn ty l
 ·rw [if_neg hc]
theorem zyb {H:SH} {b:Nat} {nn:Bool} {ty:Ty} {l:List (T ty)} (hb:zm H b=some (.arr nn ty l)) (c:Nat) (h:qY (zm (wF H b (.gone (rsz nn ty l) l.length)) c)=true):qY (zm H c)=true:=by
 rw [qJ] at h
 by_cases hc:c=b
 ·subst hc;simp [hb,qY] at h
 ·rwa [if_neg hc] at h
theorem zjd {ν:Nat→Bool} {H:SH} {b:Nat} {nn:Bool} {ty:Ty} {l:List (T ty)} (hb:zm H b=some (.arr nn ty l)) (c:Nat) (k:Blk) (h:(zE ν (wF H b (.gone (rsz nn ty l) l.length))).get c=some k):((zE ν H).del b).get c=some k:=by
 rw [zL,qJ,yY (zev hb)] at h
 rw [Hp.get_del]
 by_cases hc:c=b
 ·subst hc;simp [hb,zU] at h
 ·rw [if_neg hc] at h ⊢
  rw [zL];exact h
theorem znJ {o:Oper} {a:Act} {t:TypeId} {so xo:Operand} (ho:o.op=.call {callee:=.builtin .append,args:=#[so,xo],argTypes:=#[t,t]}) :
  execOp a.eval o=(do pure (.value (←Builtin.append_ #[t,t] o.type #[a.eval so,a.eval xo])):Sem Next):=by
 obtain ⟨cs,he⟩:=zkV (a:=a) ho
 have hmap:(#[so,xo]:Array Operand).map a.eval=#[a.eval so,a.eval xo]:=by simp
 rw [he,hmap];rfl
structure zox (P:Program) (t e:TypeId) (ie:TypeInfo) (ty:Ty):Prop where
 hu:qT P t=some (.slice e)
 hie:qW P e=some ie
 hz:∃z,ie.zero=some z∧z.cells.size=ie.size∧0 < ie.size
 hsz:sz ty=ie.size
theorem zox.of {t e:TypeId} {ie:TypeInfo} {ty:Ty} (hu:qT P t=some (.slice e)) (hie:qW P e=some ie) (h:zd2 P e ty=true):zox P t e ie ty:=by
 obtain ⟨i,z,e1,e2,e3,e4,e5,_⟩:=zih h
 rw [←qZ,hie] at e1
 cases e1
 exact ⟨hu,hie,⟨z,e2,e3,e4⟩,e5⟩
theorem zii {n m bytes:Nat} (h:qE n m bytes=true):n+m≤maxLen∧(n+m)*bytes≤140737488355328:=by
 simp only [qE,Bool.and_eq_true] at h
 exact ⟨Nat.le_of_ble_eq_true h.1,Nat.le_of_ble_eq_true h.2⟩
theorem zCH {ν:Nat→Bool} {H:SH} (g:zF φ (zE ν H) K w) {t e:TypeId} {ie:TypeInfo} {ty:Ty} (hE:zox P t e ie ty) {tt:TypeId} {x s' x':Value} {news:List Value} (hsrc:uY (zE ν H) ie.size x=some (0,news)) (hx:zr φ x x') (hs:∃a n c,s'=.slice a n c∧n≤c) :
  (Builtin.append_ #[t,t] tt #[s',x']).run P w=.ok s' w:=by
 obtain ⟨ax,cx,us,rfl,_⟩:=KB g hsrc hx
 obtain ⟨a,n,c,rfl,hn⟩:=hs
 have h1:=hE.hu
 have h2:=hE.hie
 rw [jg] at h1
 rw [qZ] at h2
 exact gZ h1 h2 a n c hn ax cx w
theorem zCI (ty:Ty) (l:List (T ty)):Wc (zV ty l)=true:=zmC fun c hc=>by
 simp only [zV,List.mem_flatMap] at hc
 obtain ⟨y,_,hc⟩:=hc
 exact zov _ _ _ hc
theorem zEh {H:Hp} {b c:Nat} {k:Blk} (h:(H.del b).get c=some k):H.get c=some k:=by
 rw [Hp.get_del] at h
 by_cases hc:c=b
 ·rw [if_pos hc] at h;cases h
 ·rwa [if_neg hc] at h
theorem zEi {ν:Nat→Bool} {H:SH} {nx:Nat} {b:Nat} {nn:Bool} {ty:Ty} {l l2:List (T ty)} {t e:TypeId} {ie:TypeInfo} (hE:zox P t e ie ty) (hb:zm H b=some (.arr nn ty l)) (hv:VN ν nx H) {xv:SV} (hsrc:zow H ty xv=some l2) (hne:l2≠[])
  (hok:qE l.length l2.length ie.bytes=true):∃v Hd,uZ P (zE ν H) nx t (rho ν H b) (den (rho ν H) xv)=some (v,Hd,nx+1)∧v=.slice (some ⟨nx,0,none⟩) (l.length+l2.length) (qg+ie.size)∧∀c k,Hp.get ((nx,.cells (zV ty (l++l2)) false)::(zE ν H).del b) c=some k→Hd.get c=some k:=by
 have hs:=zbq hv hsrc
 obtain ⟨h1,h2⟩:=zii hok
 obtain ⟨z,z1,z2,z3⟩:=hE.hz
 have hm:l2.length≠0:=fun h0=>hne (List.length_eq_zero_iff.1 h0)
 have hr:reg (zm H b)=some (l.length,rsz nn ty l):=by rw [hb];rfl
 have hso:=zkU hv (b:=b) (ty:=ty) (l:=l) (ro:=false) hr (fun hn=>by rw [zL,hb];simp [zU,hn])
 rw [hE.hsz] at hs hso
 cases hn:jD nn l with
 |true=>
  obtain ⟨_,rfl⟩:=Gg hn
  have hρ:rho ν H b=.slice none 0 0:=by rw [WH ν hr,hn];rfl
  refine ⟨.slice (some ⟨nx,0,none⟩) l2.length (qg+ie.size),(nx,.cells (zV ty l2) false)::zE ν H,?_,by simp,fun c k hc=>?_⟩
  ·rw [hρ]
   unfold uZ
   simp only [hE.hu,hE.hie,z1,hs,z2,z3,and_self,if_true,hm,if_false]
   simp only [List.length_nil,Nat.zero_add] at h1 h2
   rw [if_pos ⟨h1,h2⟩]
  ·simp only [List.nil_append] at hc
   exact zr7 c k hc
 |false=>
  have hρ:rho ν H b=.slice (some ⟨b,0,none⟩) l.length (qg+sz ty):=by rw [WH ν hr,hn];rfl
  have hd:(zE ν H).get b=some (.cells (zV ty l) false):=by rw [zL,hb];simp [zU,hn]
  refine ⟨.slice (some ⟨nx,0,none⟩) (l.length+l2.length) (qg+ie.size),(nx,.cells (zV ty l++zV ty l2) false)::(zE ν H).del b,?_,rfl,fun c k hc=>by rwa [zer] at hc⟩
  rw [hρ] at hso ⊢
  have c1:¬qg+sz ty < l.length+l2.length:=by simp only [maxLen,qg] at *;omega
  have c2:qg≤qg+sz ty:=Nat.le_add_right _ _
  have c3:qg+sz ty - qg=ie.size:=by rw [hE.hsz];omega
  unfold uZ
  simp only [hE.hu,hE.hie,z1,hs,z2,z3,and_self,if_true,hm,if_false,hso,h1,h2,c1,c2,c3,hd,zCI,implies_true]
theorem zBe {ν:Nat→Bool} {H:SH} {b:Nat} {v':Value} {nn:Bool} {ty:Ty} {l:List (T ty)} (hb:zm H b=some (.arr nn ty l)) (h:zr φ (rho ν H b) v'):∃a n c,v'=.slice a n c∧n≤c:=by
 rw [WH ν (nn:=nn) (t:=ty) (l:=l) (by rw [hb];rfl)] at h
 cases hn:jD nn l with
 |true=>rw [hn] at h;cases h;exact ⟨_,_,_,rfl,Nat.le_refl _⟩
 |false=>
  rw [hn,cond_false] at h
  generalize hc0:qg+sz ty=c0 at h
  generalize hn0:l.length=n0 at h
  cases h with
  |sl _ _ _ _ L hL hc=>omega
  |slO _ _ _ _ c' L hL hc hnc hl=>exact ⟨_,_,_,rfl,hnc⟩
  |slE _ _ _ a' L hL hc=>exact ⟨_,_,_,rfl,Nat.le_refl _⟩
theorem zBf {H H2:SH} {nx:Nat} {b:Nat} {nn nn':Bool} {ty:Ty} {l l':List (T ty)} (hb:zm H b=some (.arr nn ty l)) (hn:WI (wF H b (.gone (rsz nn ty l) l.length)) nx (.arr nn' ty l')=some H2) :
  jW H H2∧wk H H2∧∀ν,VN ν nx H→VN ν (nx+1) H2∧(jD nn' l'=false→rho ν H2 nx=.slice (some ⟨nx,0,none⟩) l'.length (qg+sz ty))∧(∀φ K w,zF φ ((nx,.cells (zV ty l') false)::(zE ν H).del b) K w→zF φ (zE ν H2) K w)∧
   (jD nn' l'=true→rho ν H2 nx=.slice none 0 0∧∀φ K w,zF φ (zE ν H) K w→zF φ (zE ν H2) K w):=by
 obtain ⟨h1,rfl⟩:=vL hn
 have hr:jW H (wF H b (.gone (rsz nn ty l) l.length)):=fun c z hz=>by rw [zev hb];exact hz
 refine ⟨hr.trans (uL h1),(Gk hb (fun L=>by simp)).trans (kT h1),fun ν hv=>?_⟩
 have hv1:=Ql (zev hb) (zyb hb) hv
 refine ⟨WJ hv1,fun hl=>GN hv1 hl,fun φ K w g=>KG h1 hv1 (g.sub fun c k hc=>?_),fun hl=>⟨zp7 hl,fun φ K w g=>zkT h1 (by simp [zU,hl]) (g.sub fun c k hc=>zEh (zjd hb c k hc))⟩⟩
 simp only [Hp.get_cons] at hc ⊢
 split at hc
 ·rename_i he;rw [if_pos he];exact hc
 ·rename_i he;rw [if_neg he];exact zjd hb c k hc
theorem zBg {rd:Option Nat} {o:Oper} {tm:List SV} {H0 H:SH} {nx:Nat} {k:KO R} {r:R} {ty:Ty} {bytes:Nat} {l l2:List (T ty)} {s:SV} (h:zwq H0 H nx ty bytes l l2 s k=some r)
  (h0:l2=[]→SOp P rd o tm H0 nx s H0 (nx+1))
  (h1:∀H',l2≠[]→WI H nx (.arr true ty (l++l2))=some H'→qE l.length l2.length bytes=true→SOp P rd o tm H0 nx (.own nx) H' (nx+1)):gq P rd o tm H0 nx k r:=by
 unfold zwq at h
 split at h
 ·exact vW (h0 rfl) h
 ·split at h
  case h_2=>cases h
  rename_i y ys H' hn
  obtain ⟨hok,h2⟩:=zA h
  exact vW (h1 H' (by simp) hn hok) h2
theorem zEj {rd:Option Nat} {o:Oper} {tm:List SV} {H:SH} {nx:Nat} {k:KO R} {r:R} {t:TypeId} {so xo:Operand} (ho:o.op=.call {callee:=.builtin .append,args:=#[so,xo],argTypes:=#[t,t]}) (h:zCG P tm H nx t so xo k=some r):gq P rd o tm H nx k r:=by
 unfold zCG at h
 split at h
 case h_2=>cases h
 rename_i sv xv hs hx
 split at h
 case h_2=>cases h
 rename_i e hu
 split at h
 case h_2=>cases h
 rename_i ie hie
 have hnd:∀c,o.op≠.defer c:=fun c hc=>by rw [ho] at hc;cases hc
 have run:∀{ν:Nat→Bool} {H':SH} {v:SV} {vd:Value} {Hd:Hp},VN ν nx H→(∀φ K w,zF φ (zE ν H) K w→∀s',zr φ (den (rho ν H) sv) s'→∃sd,zr φ sd s'∧uZ P (zE ν H) nx t sd (den (rho ν H) xv)=some (vd,Hd,nx+1))→
   (∀φ K w v',zF φ Hd K w→zr φ vd v'→∃φ',(∀n,Ext K φ φ' n n)∧zF φ' (zE ν H') K w∧zr φ' (den (rho ν H') v) v')→Kn P rd o (zt (rho ν H) tm) (zE ν H) nx (den (rho ν H') v) (zE ν H') (nx+1):=by
  intro ν H' v vd Hd hv h1 h2
  refine YI (Nat.le_succ _) hnd fun φ w K a g hf ht=>?_
  have hsr:=qb ht (zY hs ν)
  have hxr:=qb ht (zY hx ν)
  have hfr:=hf.at (Nat.le_refl nx) (Nat.lt_succ_self nx)
  obtain ⟨sd,e1,e2⟩:=h1 φ K w g _ hsr
  obtain ⟨v',w',φ',r1,r2,r3,r4,r5,_⟩:=znB (P:=P) (ty:=o.type) g hfr.1 hfr.2 e2 e1 hxr
  obtain ⟨φ2,f1,f2,f3⟩:=h2 φ' K w' v' r4 r2
  rw [znJ ho]
  exact Ran.op ⟨v',w',φ2,r1,f3,r3.trans (f1 (nx+1)) (Nat.le_succ _) (Nat.le_refl _),f2,r5,Nat.le_succ _⟩
 have idExt:∀(φ:Ren) (K:Nat→Prop),∀n,Ext K φ φ n n:=fun φ K n=>Ext.refl _ _ _ _
 split at h
 ·
  split at h
  case h_2=>cases h
  rename_i ty hty
  have h6:=zA h
  clear h
  obtain ⟨hz,h⟩:=h6
  have hE:=zox.of hu hie hz
  obtain ⟨z,z1,z2,z3⟩:=hE.hz
  split at h
  case h_2=>cases h
  rename_i l2 hl2
  split at h
  case h_2=>cases h
  rename_i H' hnew
  have h7:=zA h
  clear h
  obtain ⟨hok,h⟩:=h7
  refine vW ?_ h
  obtain ⟨hn1,rfl⟩:=vL hnew
  refine ⟨uL hn1,kT hn1,Nat.le_succ _,fun ν hv=>⟨WJ hv,?_⟩⟩
  have hsrc:=zbq hv hl2
  rw [hE.hsz] at hsrc
  cases hne:l2 with
  |nil=>
   subst hne
   refine run (v:=.own nx) (vd:=.slice none 0 0) (Hd:=zE ν H) hv (fun φ K w g s' hs'=>⟨.slice none 0 0,by simpa only [den] using hs',?_⟩) (fun φ K w v' g hv'=>⟨φ,idExt φ K,zkT hn1 rfl g,by simp only [den];rw [zp7 rfl];exact hv'⟩)
   unfold uZ
   simp [hE.hu,hE.hie,z1,hsrc,z2,z3]
  |cons y ys=>
   rw [←hne]
   have hnn:l2≠[]:=by rw [hne];simp
   have hm:l2.length≠0:=fun h0=>hnn (List.length_eq_zero_iff.1 h0)
   obtain ⟨b1,b2⟩:=zii hok
   simp only [Nat.zero_add] at b1 b2
   refine run (v:=.own nx) (vd:=.slice (some ⟨nx,0,none⟩) l2.length (qg+ie.size)) (Hd:=(nx,.cells (zV ty l2) false)::zE ν H) hv (fun φ K w g s' hs'=>⟨.slice none 0 0,by simpa only [den] using hs',?_⟩) (fun φ K w v' g hv'=>⟨φ,idExt φ K,KG hn1 hv (by simpa using g),?_⟩)
   ·unfold uZ
    simp [hE.hu,hE.hie,z1,hsrc,z2,z3,hm,b1,b2]
   ·simp only [den]
    rw [GN hv (zhd hnn),hE.hsz]
    simpa using hv'
 ·
  rename_i b
  split at h
  case h_2=>cases h
  rename_i nn ty l hb
  have h6:=zA h
  clear h
  obtain ⟨hz,h⟩:=h6
  have hE:=zox.of hu hie hz
  obtain ⟨z,z1,z2,z3⟩:=hE.hz
  split at h
  case h_2=>cases h
  rename_i l2 hl2
  have more:∀{H2:SH},WI (wF H b (.gone (rsz nn ty l) l.length)) nx (.arr nn ty (l++l2))=some H2→l2≠[]→qE l.length l2.length ie.bytes=true→SOp P rd o tm H nx (.own nx) H2 (nx+1):=by
   intro H2 hnew hne hok
   obtain ⟨q1,q2,q3⟩:=zBf hb hnew
   refine ⟨q1,q2,Nat.le_succ _,fun ν hv=>?_⟩
   obtain ⟨q4,q5,q6,_⟩:=q3 ν hv
   obtain ⟨vd,Hd,e1,rfl,e3⟩:=zEi hE hb hv hl2 hne hok
   refine ⟨q4,run hv (fun φ K w g s' hs'=>⟨rho ν H b,by simpa only [den] using hs',e1⟩) (fun φ K w v' g hv'=>⟨φ,idExt φ K,q6 φ K w (g.sub e3),?_⟩)⟩
   simp only [den]
   rw [q5 (zhd (by simp [hne])),hE.hsz,List.length_append]
   exact hv'
  split at h
  case h_2=>cases h
  rename_i H2 hnew
  have h7:=zA h
  clear h
  obtain ⟨hok,h⟩:=h7
  by_cases hne:l2=[]
  ·subst hne
   rw [List.append_nil] at hnew
   obtain ⟨q1,q2,q3⟩:=zBf hb hnew
   refine vW ⟨q1,q2,Nat.le_succ _,fun ν hv=>?_⟩ (by assumption)
   obtain ⟨q4,q5,q6,q7⟩:=q3 ν hv
   refine ⟨q4,YI (Nat.le_succ _) hnd fun φ w K a g hf ht=>?_⟩
   have hsr:=qb ht (zY hs ν)
   have hxr:=qb ht (zY hx ν)
   simp only [den] at hsr
   have hfr:=hf.at (Nat.le_refl nx) (Nat.lt_succ_self nx)
   have hsrc:=zbq hv hl2
   rw [hE.hsz] at hsrc
   have hrun:=zCH (tt:=o.type) g hE hsrc hxr (zBe hb hsr)
   have hr:reg (zm H b)=some (l.length,rsz nn ty l):=by rw [hb];rfl
   rw [znJ ho]
   generalize a.eval so=us at hsr hrun ⊢
   rw [WH ν hr] at hsr
   cases hn:jD nn l with
   |true=>
    obtain ⟨e1,e2⟩:=q7 hn
    rw [hn] at hsr
    exact Ran.op ⟨us,w,φ,hrun,by simp only [den];rw [e1];exact hsr,Ext.refl _ _ _ _,e2 φ K w g,qw.refl _ _,Nat.le_succ _⟩
   |false=>
    have hd:(zE ν H).get b=some (.cells (zV ty l) false):=by rw [zL,hb];simp [zU,hn]
    obtain ⟨φ',f1,f2,f3⟩:=zA8 g hfr.1 hfr.2 hd
    refine Ran.op ⟨us,w,φ',hrun,?_,f1,q6 φ' K w (by simpa using f2),qw.refl _ _,Nat.le_succ _⟩
    simp only [den]
    rw [q5 hn]
    rw [hn,cond_false] at hsr
    generalize qg+sz ty=c0 at hsr ⊢
    generalize l.length=n0 at hsr ⊢
    cases hsr with
    |sl _ _ _ _ L hL hc=>exact .sl _ _ _ _ L (f3 L hL) hc
    |slO _ _ _ _ c' L hL hc hnc hl=>exact .slO _ _ _ _ c' L (f3 L hL) hc hnc hl
    |slE _ _ _ a' L hL hc=>exact .slE _ _ _ a' L (f3 L hL) hc
  ·exact vW (more hnew hne hok) h
 ·
  rename_i ty l
  have h6:=zA h
  clear h
  obtain ⟨hz,h⟩:=h6
  have hE:=zox.of hu hie hz
  obtain ⟨z,z1,z2,z3⟩:=hE.hz
  split at h
  case h_2=>cases h
  rename_i l2 hl2
  have hes:∀ν,gg (den (rho ν H) (.lst ty l true))=some (sz ty,(l.map (wo ty)).toArray,true):=fun ν=>by simp [den,fzV,gg]
  have happ:∀{ν},VN ν nx H→l2≠[]→qE l.length l2.length ie.bytes=true→uZ P (zE ν H) nx t (den (rho ν H) (.lst ty l true)) (den (rho ν H) xv)=some (.slice (some ⟨nx,0,none⟩) (l.length+l2.length) (qg+ie.size),(nx,.cells (zV ty (l++l2)) false)::zE ν H,nx+1):=by
   intro ν hv hne hok
   have hsrc:=zbq hv hl2
   rw [hE.hsz] at hsrc
   have hm:l2.length≠0:=fun h0=>hne (List.length_eq_zero_iff.1 h0)
   obtain ⟨b1,b2⟩:=zii hok
   have hfc:Gf ie.size (.iface (sz ty) (.agg (l.map (wo ty)).toArray))=some (l.length,zV ty l):=by
    unfold Gf
    simp [gg,hE.hsz,ztW]
   unfold uZ
   simp only [hE.hu,hE.hie,z1,hsrc,z2,z3,and_self,if_true,den,fzV,cond_true,gg,hm,if_false,hE.hsz]
   have hl0:((l.map (wo ty)).toArray).size=l.length:=by simp
   rw [hE.hsz] at hfc
   simp only [hl0,b1,b2,and_self,if_true,hfc,zer]
  have stay:l2=[]→∀(v:SV),(∀ν φ v',zr φ (den (rho ν H) (.lst ty l true)) v'→zr φ (den (rho ν H) v) v')→SOp P rd o tm H nx v H (nx+1):=by
   intro hn v hvr
   subst hn
   refine ⟨jW.refl H,wk.refl H,Nat.le_succ _,fun ν hv=>⟨hv.later (Nat.le_succ _),?_⟩⟩
   have hsrc:=zbq hv hl2
   rw [hE.hsz] at hsrc
   refine run (v:=v) (vd:=den (rho ν H) (.lst ty l true)) (Hd:=zE ν H) hv (fun φ K w g s' hs'=>⟨_,hs',?_⟩) (fun φ K w v' g hv'=>⟨φ,idExt φ K,g,hvr ν φ v' hv'⟩)
   unfold uZ
   simp [hE.hu,hE.hie,z1,hsrc,z2,z3,den,fzV,gg]
  rcases yZ h with ⟨_,h⟩ | ⟨_,h⟩
  ·split at h
   case h_2=>cases h
   rename_i H9 hnew
   obtain ⟨hn1,_⟩:=vL hnew
   have h6:=zA h
   clear h
   obtain ⟨hok,h⟩:=h6
   by_cases hne:l2=[]
   ·have:=stay hne (.lst ty (l++l2) false) (fun ν φ v' hv'=>by
     subst hne
     simp only [den,List.append_nil] at hv' ⊢
     exact ztT hv')
    exact vW this h
   ·refine vW ⟨jW.refl H,wk.refl H,Nat.le_succ _,fun ν hv=>⟨hv.later (Nat.le_succ _),?_⟩⟩ h
    refine run (v:=.lst ty (l++l2) false) (vd:=.slice (some ⟨nx,0,none⟩) (l.length+l2.length) (qg+ie.size)) (Hd:=(nx,.cells (zV ty (l++l2)) false)::zE ν H) hv (fun φ K w g s' hs'=>⟨_,hs',happ hv hne hok⟩) (fun φ K w v' g hv'=>?_)
    obtain ⟨φ',f1,f2⟩:=zv5 g (b:=nx) (cs:=zV ty (l++l2)) (by simp [Hp.get_cons])
    have hnone:(zE ν H).get nx=none:=by rw [zL,hn1];rfl
    have hgo:∀c k,(zE ν H).get c=some k→c≠nx:=fun c k hc e=>by subst e;rw [hnone] at hc;cases hc
    have g1:zF φ' (zE ν H) K w:=f2 _ fun c k hc=>by
     have hne2:=hgo c k hc
     rw [if_neg hne2]
     have:(nx == c)=false:=by simpa using fun e:nx=c=>hne2 e.symm
     simp [Hp.get_cons,this,hc]
    have g2:zF φ' (zE ν ((nx,.fro true ty (l++l2))::H)) K w:=by
     refine Gl hn1 (x:=.fzc (zV ty (l++l2))) (by simp [zU,jD]) (f2 _ fun c k hc=>?_)
     by_cases hcn:c=nx
     ·subst hcn
      simp [Hp.get_cons] at hc
      simp [hc]
     ·rw [if_neg hcn]
      have:(nx == c)=false:=by simpa using fun e:nx=c=>hcn e.symm
      simp [Hp.get_cons,this] at hc ⊢
      exact hc
    refine ⟨φ',f1,g1,?_⟩
    simp only [den]
    refine zhe g2 (WJ hv) (b:=nx) (by rw [zH,if_pos rfl]) (by rw [hE.hsz];exact z3) ?_
    have hρ:rho ν ((nx,.fro true ty (l++l2))::H) nx=.slice (some ⟨nx,0,none⟩) (l.length+l2.length) (qg+ie.size):=by
     rw [WH ν (nn:=true) (t:=ty) (l:=l++l2) (by rw [zH,if_pos rfl];rfl)]
     simp [jD,hE.hsz]
    rw [hρ]
    exact hv'.mono (f1 0).1
  ·refine zBg h (fun hn=>stay hn _ fun ν φ v' hv'=>hv') (fun H' hne hnew hok=>?_)
   obtain ⟨hn1,rfl⟩:=vL hnew
   refine ⟨uL hn1,kT hn1,Nat.le_succ _,fun ν hv=>⟨WJ hv,?_⟩⟩
   refine run (v:=.own nx) (vd:=.slice (some ⟨nx,0,none⟩) (l.length+l2.length) (qg+ie.size)) (Hd:=(nx,.cells (zV ty (l++l2)) false)::zE ν H) hv (fun φ K w g s' hs'=>⟨_,hs',happ hv hne hok⟩) (fun φ K w v' g hv'=>⟨φ,idExt φ K,KG hn1 hv g,?_⟩)
   simp only [den]
   rw [GN hv rfl,hE.hsz,List.length_append]
   exact hv'
 ·cases h
def mpD {α:Type} (l:List (Int×α)) (n:Int) (z:α):α:=match l with
 |[]=>z
 |p::r=>bif zo p.1 n then p.2 else mpD r n z
def mpH {α:Type} (l:List (Int×α)) (n:Int):Bool:=match l with
 |[]=>false
 |p::r=>bif zo p.1 n then true else mpH r n
def mpP {α:Type} (l:List (Int×α)) (n:Int) (x:α):List (Int×α):=match l with
 |[]=>[(n,x)]
 |p::r=>bif zo p.1 n then (n,x)::r else p::mpP r n x
def mpI {α:Type} (l:List (Int×α)) (n:Int):Option Nat:=match l with
 |[]=>none
 |p::r=>bif zo p.1 n then some 0 else (mpI r n).map (·+1)
theorem zkW {k:IntKind} {ag:Bool} {t:Ty} (n:Int) (d:IntKind):∀(l:List (Int×T t)) (i j:Nat),
  Instr.findNow (.int d) (.int k n) (zcJ (gi k ag t l i)) j=some ((mpI l n).map fun s=>(j+s,mvV ag t (mpD l n (KT t))))
 |[],_,_=>rfl
 |p::r,i,j=>by
  simp only [gi,zcJ,Instr.findNow,Instr.sameNow,if_true,mpI,mpD]
  cases h:zo p.1 n with
  |true=>
   have h1:=ju p.1 n
   rw [h] at h1
   have:p.1=n:=by simpa using h1.symm
   simp [this]
  |false=>
   have h1:=ju p.1 n
   rw [h] at h1
   have:¬n=p.1:=fun e=>by simp [e] at h1
   have hb:(n == p.1)=false:=by simpa using this
   rw [hb]
   dsimp only
   rw [zkW n d r (i+1) (j+1)]
   cases mpI r n with
   |none=>rfl
   |some s=>simp [Nat.add_assoc,Nat.add_comm 1 s]
theorem zDH {α:Type} (n:Int):∀l:List (Int×α),mpH l n=(mpI l n).isSome
 |[]=>rfl
 |p::r=>by
  simp only [mpH,mpI]
  cases zo p.1 n with
  |true=>rfl
  |false=>simp [zDH n r]
theorem zwr {α:Type} (n:Int) (z:α):∀l:List (Int×α),mpI l n=none→mpD l n z=z
 |[],_=>rfl
 |p::r,h=>by
  simp only [mpI] at h
  simp only [mpD]
  cases hq:zo p.1 n with
  |true=>rw [hq] at h;cases h
  |false=>
   rw [hq] at h
   simp only [cond_false,Option.map_eq_none_iff] at h
   exact zwr n z r h
theorem zkX {k:IntKind} {ag:Bool} {t:Ty} {n:Int} {x:T t}:∀(l:List (Int×T t)) (i:Nat),mpI l n=none→gi k ag t (mpP l n x) i=gi k ag t l i++[(.int k n,mvV ag t x,i+l.length)]∧(mpP l n x).length=l.length+1
 |[],i,_=>⟨rfl,rfl⟩
 |p::r,i,h=>by
  simp only [mpI] at h
  simp only [mpP]
  cases hq:zo p.1 n with
  |true=>rw [hq] at h;cases h
  |false=>
   rw [hq] at h
   simp only [cond_false,Option.map_eq_none_iff] at h
   obtain ⟨h1,h2⟩:=zkX (k:=k) (ag:=ag) (x:=x) r (i+1) h
   simp only [cond_false,gi,h1,List.cons_append,List.length_cons,h2]
   refine ⟨?_,trivial⟩
   rw [show i+1+r.length=i+(r.length+1) by omega]
theorem zkY {k:IntKind} {ag:Bool} {t:Ty} {n:Int} {x:T t}:∀(l:List (Int×T t)) (i s:Nat),mpI l n=some s→
  ∃v b,(gi k ag t l i)[s]?=some (.int k n,v,b)∧gi k ag t (mpP l n x) i=(gi k ag t l i).set s (.int k n,mvV ag t x,b)∧(mpP l n x).length=l.length
 |[],i,s,h=>by cases h
 |p::r,i,s,h=>by
  simp only [mpI] at h
  simp only [mpP]
  cases hq:zo p.1 n with
  |true=>
   have h1:=ju p.1 n
   rw [hq] at h1
   have h2:p.1=n:=by simpa using h1.symm
   rw [hq] at h
   simp only [cond_true,Option.some.injEq] at h
   subst h
   refine ⟨mvV ag t p.2,i,?_,rfl,rfl⟩
   simp [gi,h2]
  |false=>
   rw [hq] at h
   simp only [cond_false,Option.map_eq_some_iff] at h
   obtain ⟨s',h1,rfl⟩:=h
   obtain ⟨v,b,e1,e2,e3⟩:=zkY (k:=k) (ag:=ag) (x:=x) r (i+1) s' h1
   exact ⟨v,b,by simpa [gi] using e1,by simp [gi,e2],by simp [e3]⟩
def exC:(t:Ty)→List SV→Option (T t×List SV)
 |.unit,l=>some ((),l)
 |.bool,l=>match l with
  |.bool b::r=>some (b,r)
  |_=>none
 |.int k,l=>match l with
  |.int k' n::r=>bif Wd k k' then some (n,r) else none
  |_=>none
 |.str,l=>match l with
  |.str s::r=>some (s,r)
  |_=>none
 |.list t,l=>match l with
  |.lst t' x false::r=>if h:t'=t then some (JK h x,r) else none
  |_=>none
 |.pair a b,l=>match exC a l with
  |some (x,l1)=>match exC b l1 with
   |some (y,l2)=>some ((x,y),l2)
   |none=>none
  |none=>none
theorem zp9:∀(t:Ty) {l r:List SV} {x:T t},exC t l=some (x,r)→l=yp t x++r
 |.unit,l,r,x,h=>by simp only [exC] at h;cases h;rfl
 |.bool,l,r,x,h=>by
  simp only [exC] at h
  split at h
  ·cases h;rfl
  ·cases h
 |.int k,l,r,x,h=>by
  simp only [exC] at h
  split at h
  ·obtain ⟨hk,h2⟩:=zA h
   have:=Jh hk
   subst this
   clear h
   cases h2
   rfl
  ·cases h
 |.str,l,r,x,h=>by
  simp only [exC] at h
  split at h
  ·cases h;rfl
  ·cases h
 |.list t,l,r,x,h=>by
  simp only [exC] at h
  split at h
  ·split at h
   ·rename_i ht
    subst ht
    cases h;rfl
   ·cases h
  ·cases h
 |.pair a b,l,r,x,h=>by
  simp only [exC] at h
  split at h
  case h_2=>cases h
  rename_i h1
  split at h
  case h_2=>cases h
  rename_i h2
  cases h
  rw [zp9 a h1,zp9 b h2]
  simp [yp]
def exV (ag:Bool) (t:Ty) (v:SV):Option (T t):=match ag,v with
 |true,.agg cs=>match exC t cs with
  |some (x,[])=>some x
  |_=>none
 |false,.agg _=>none
 |false,v=>match exC t [v] with
  |some (x,[])=>some x
  |_=>none
 |_,_=>none
theorem zkZ (ρ:Nat→Value) {ag:Bool} {t:Ty} (h:(ag||Nat.beq (sz t) 1)=true) (x:T t):den ρ (mkV ⟨ag,t⟩ x)=mvV ag t x:=by
 cases ag with
 |true=>simp [mkV,mvV,wo,den,qt,yc]
 |false=>
  have h1:sz t=1:=Nat.eq_of_beq_eq_true (by simpa using h)
  have h2:=YG t x
  have h3:=yc ρ t x
  rw [h1] at h2
  match hl:yp t x,h2 with
  |[v],_=>
   rw [hl] at h3
   simp [mkV,mvV,hl,mk1,←h3]
theorem zEV {ag:Bool} {t:Ty} {v:SV} {x:T t} (h:exV ag t v=some x) (ρ:Nat→Value) (hs:(ag||Nat.beq (sz t) 1)=true):den ρ v=mvV ag t x:=by
 rw [←zkZ ρ hs x]
 unfold exV at h
 split at h
 ·split at h
  ·rename_i h1
   cases h
   have:=zp9 t h1
   rw [List.append_nil] at this
   subst this
   rfl
  ·cases h
 ·cases h
 ·split at h
  ·rename_i h1
   cases h
   have:=zp9 t h1
   rw [List.append_nil] at this
   simp only [mkV,cond_false,←this]
   rfl
  ·cases h
 ·cases h
def vtT (P:Program) (et:TypeId):Option (Bool×Ty):=match qT P et,zkS P 30 et with
 |some d,some t=>some (Jd d,t)
 |_,_=>none
def zqa:Value→Bool
 |.agg _=>true
 |_=>false
def zzT (P:Program) (et:TypeId) (ag:Bool) (t:Ty):Bool:=match qW P et with
 |some i=>match i.zero with
  |some z=>zd2 P et t&&(av z&&(bif ag then zqa z else !zqa z&&Nat.beq (sz t) 1))
  |none=>false
 |none=>false
theorem zCJ {et:TypeId} {ag:Bool} {t:Ty} (h:zzT P et ag t=true):∃i z,qW P et=some i∧i.zero=some z∧av z=true∧(ag||Nat.beq (sz t) 1)=true∧∀(φ:Ren) v',zr φ z v'→zr φ (mvV ag t (KT t)) v':=by
 unfold zzT at h
 split at h
 case h_2=>cases h
 rename_i i hi
 split at h
 case h_2=>cases h
 rename_i z hz
 simp only [Bool.and_eq_true] at h
 obtain ⟨h1,h2,h3⟩:=h
 obtain ⟨i',z',e1,e2,e3,e4,e5,e6,e7⟩:=zih h1
 have hi2:P.info? et=some i:=by rw [←qZ];exact hi
 rw [hi2] at e1;cases e1
 rw [hz] at e2;cases e2
 cases ag with
 |true=>
  simp only [cond_true] at h3
  refine ⟨i,z,hi,hz,h2,by simp,fun φ v' hv=>?_⟩
  cases z<;>simp [zqa] at h3
  rename_i cs
  obtain ⟨ys,rfl,hl⟩:=hv.agg_inv
  simp only [mvV,cond_true,wo]
  exact .agg' (by simpa using e7 φ ys.toList (by simpa [Value.cells] using hl))
 |false=>
  simp only [cond_false,Bool.and_eq_true,Bool.not_eq_true'] at h3
  refine ⟨i,z,hi,hz,h2,by simpa using h3.2,fun φ v' hv=>?_⟩
  have hs:sz t=1:=Nat.eq_of_beq_eq_true h3.2
  have hc:z.cells=#[z]:=by
   cases z<;>simp [zqa] at h3<;>rfl
  have h4:=e7 φ [v'] (by rw [hc];exact ⟨hv,trivial⟩)
  have h5:=jr t (KT t)
  rw [hs] at h5
  simp only [mvV,cond_false]
  match hl:ql t (KT t),h5 with
  |[u],_=>
   rw [hl] at h4
   exact h4.1
def zqb (P:Program) (kt:TypeId):Bool:=match qT P kt with
 |some d=>Xk d
 |none=>false
theorem znK {kt:TypeId} (h:zqb P kt=true):∃d,qT P kt=some (.int d):=by
 unfold zqb at h
 split at h
 ·rename_i d hd
  cases d<;>simp [Xk] at h
  exact ⟨_,hd⟩
 ·cases h
def zws (P:Program) (H:SH) (nx:Nat) (t:TypeId) (k:KO R):Option R:=match qT P t with
 |some (.map kt et)=>match qT P kt,vtT P et with
  |some (.int kk),some (ag,ty)=>match WI H nx (.mpb kk ag ty []) with
   |some H'=>k (.mp nx) H' (nx+1)
   |none=>none
  |_,_=>none
 |_=>none
theorem zBh {rd:Option Nat} {o:Oper} {tm:List SV} {H:SH} {nx:Nat} {k:KO R} {r:R} {t:TypeId} (ho:o.op=.makeMap t none) (h:zws P H nx t k=some r):gq P rd o tm H nx k r:=by
 unfold zws at h
 split at h
 case h_2=>cases h
 split at h
 case h_2=>cases h
 rename_i kk ag ty _ _
 split at h
 case h_2=>cases h
 rename_i H' hn
 obtain ⟨e1,rfl⟩:=vL hn
 refine vW (nx':=nx+1) ⟨uL e1,kT e1,Nat.le_succ _,fun ν hv=>⟨WJ hv,JM (ka (v:=.map (some nx)) (H':=(nx,.mp [] 0)::zE ν H) (nx':=nx+1) (by unfold jT;simp only [ho])) (fun φ v' hv=>by simpa [den] using hv) (fun φ K w g=>?_)⟩⟩ h
 exact Gl e1 (x:=.mp [] 0) rfl g
def zzU (P:Program) (tm:List SV) (H:SH) (nx:Nat) (t:TypeId) (x j:Operand) (c:Bool) (k:KO R):Option R:=match jy tm H x,jy tm H j with
 |some (.mp b),some (.int k' n)=>match zm H b,qT P t with
  |some (.mpb kk ag ty l),some (.map kt et)=>bif Wd kk k'&&(zqb P kt&&zzT P et ag ty) then
    match mkV ⟨ag,ty⟩ (mpD l n (KT ty)) with
    |v=>k (bif c then .tup [v,.bool (mpH l n)] else v) H nx
   else none
  |_,_=>none
 |_,_=>none
theorem zCK {rd:Option Nat} {o:Oper} {tm:List SV} {H:SH} {nx:Nat} {k:KO R} {r:R} {t:TypeId} {x j:Operand} {c:Bool} (ho:o.op=.lookup t x j c) (h:zzU P tm H nx t x j c k=some r):gq P rd o tm H nx k r:=by
 unfold zzU at h
 split at h
 case h_2=>cases h
 rename_i b k' n hx hj
 split at h
 case h_2=>cases h
 rename_i kk ag ty l kt et hb hu
 have h6:=zA h
 clear h
 obtain ⟨hh,h⟩:=h6
 simp only [Bool.and_eq_true] at hh
 obtain ⟨h1,h2,h3⟩:=hh
 have:=Jh h1
 subst this
 obtain ⟨d,hd⟩:=znK h2
 obtain ⟨i,z,e1,e2,e3,e4,e5⟩:=zCJ h3
 dsimp only at h
 refine vW ⟨jW.refl H,wk.refl H,Nat.le_refl _,fun ν hv=>⟨hv,?_⟩⟩ h
 have hg:(zE ν H).get b=some (.mp (gi kk ag ty l 0) l.length):=by rw [zL,hb];rfl
 have hdl:∃v,zen P (zE ν H) t (.map (some b)) (.int kk n) c=some v∧∀φ v',zr φ v v'→zr φ (den (rho ν H) (bif c then .tup [mkV ⟨ag,ty⟩ (mpD l n (KT ty)),.bool (mpH l n)] else mkV ⟨ag,ty⟩ (mpD l n (KT ty)))) v':=by
  unfold zen
  simp only [hu,hd,e1,zzq,hg,e2,Xk,WD,e3,Bool.and_self,if_true,zkW]
  rw [zDH]
  cases hi:mpI l n with
  |none=>
   rw [zwr n _ l hi]
   simp only [Option.map_none]
   refine ⟨_,rfl,fun φ v' hv=>?_⟩
   cases c with
   |false=>simpa only [Bool.false_eq_true,if_false,cond_false,zkZ _ e4] using e5 φ v' (by simpa using hv)
   |true=>
    simp only [if_true] at hv
    obtain ⟨ys,rfl,hl⟩:=hv.tuple_inv
    simp only [cond_true,den,zt,zkZ _ e4]
    refine .tuple' ?_
    match ys.toList,hl with
    |[a,b],hl=>exact ⟨e5 φ a hl.1,hl.2.1,trivial⟩
    |[],hl=>exact hl.elim
    |[_],hl=>exact hl.2.elim
    |_::_::_::_,hl=>exact hl.2.2.elim
  |some s=>
   simp only [Option.map_some]
   refine ⟨_,rfl,fun φ v' hv=>?_⟩
   cases c with
   |false=>simpa only [Bool.false_eq_true,if_false,cond_false,zkZ _ e4] using hv
   |true=>simpa only [if_true,cond_true,den,zt,zkZ _ e4,Option.isSome_some] using hv
 obtain ⟨v,f1,f2⟩:=hdl
 refine JM (ka (v:=v) (H':=zE ν H) (nx':=nx) ?_) (fun φ v' hv=>f2 φ v' hv) (fun φ K w g=>g)
 unfold jT
 simp only [ho,zY hx ν,zY hj ν,Option.bind_some,den,f1]
 rfl
def zmE (P:Program) (tm:List SV) (H:SH) (nx:Nat) (t:TypeId) (m j x:Operand) (k:KO R):Option R:=match jy tm H m,jy tm H j,jy tm H x with
 |some (.mp b),some (.int k' n),some v=>match zm H b,qT P t with
  |some (.mpb kk ag ty l),some (.map kt et)=>bif Wd kk k'&&(zqb P kt&&(ag||Nat.beq (sz ty) 1)) then
    match exV ag ty v with
    |some y=>k (.tup []) (wF H b (.mpb kk ag ty (mpP l n y))) nx
    |none=>none
   else none
  |_,_=>none
 |_,_,_=>none
theorem zqc {rd:Option Nat} {o:Oper} {tm:List SV} {H:SH} {nx:Nat} {k:KO R} {r:R} {t:TypeId} {m j x:Operand} (ho:o.op=.mapUpdate t m j x∨o.op=.insert t m j x) (h:zmE P tm H nx t m j x k=some r):gq P rd o tm H nx k r:=by
 unfold zmE at h
 split at h
 case h_2=>cases h
 rename_i b k' n v hm hj hx
 split at h
 case h_2=>cases h
 rename_i kk ag ty l kt et hb hu
 have h6:=zA h
 clear h
 obtain ⟨hh,h⟩:=h6
 simp only [Bool.and_eq_true] at hh
 obtain ⟨h1,h2,h3⟩:=hh
 have:=Jh h1
 subst this
 obtain ⟨d,hd⟩:=znK h2
 split at h
 case h_2=>cases h
 rename_i y hy
 have hreg:∀c,reg (zm (wF H b (.mpb kk ag ty (mpP l n y))) c)=reg (zm H c):=fun c=>by
  rw [qJ]
  by_cases hc:c=b
  ·subst hc;simp [hb,reg]
  ·rw [if_neg hc]
 have hnn:∀c,qY (zm (wF H b (.mpb kk ag ty (mpP l n y))) c)=true→qY (zm H c)=true:=fun c hc=>by
  rw [qJ] at hc
  by_cases hcb:c=b
  ·subst hcb;simp [hb,qY] at hc
  ·rwa [if_neg hcb] at hc
 refine vW ⟨fun c z hz=>by rw [hreg c];exact hz,Gk hb (fun L=>by simp),Nat.le_refl _,fun ν hv=>⟨Ql hreg hnn hv,?_⟩⟩ h
 have hg:(zE ν H).get b=some (.mp (gi kk ag ty l 0) l.length):=by rw [zL,hb];rfl
 have hden:=zEV hy (rho ν H) h3
 have hup:zbj P (zE ν H) t (.map (some b)) (.int kk n) (den (rho ν H) v)=some ((zE ν H).set b (.mp (gi kk ag ty (mpP l n y) 0) (mpP l n y).length)):=by
  unfold zbj
  simp only [hu,hd,hg,Xk,WD,Bool.and_self,if_true,zkW,hden]
  cases hi:mpI l n with
  |none=>
   obtain ⟨q1,q2⟩:=zkX (k:=kk) (ag:=ag) (x:=y) l 0 hi
   simp only [Option.map_none]
   rw [q1,q2,Nat.zero_add]
  |some s=>
   obtain ⟨u,b0,q1,q2,q3⟩:=zkY (k:=kk) (ag:=ag) (x:=y) l 0 s hi
   simp only [Option.map_some,Nat.zero_add,q1]
   rw [q2,q3]
   simp [zvs]
 refine JM (ka (v:=undef) (H':=(zE ν H).set b (.mp (gi kk ag ty (mpP l n y) 0) (mpP l n y).length)) (nx':=nx) ?_) (fun φ v' hv=>by simpa [den,zt,undef] using hv) (fun φ K w g=>g.sub fun c k' hc=>?_)
 ·unfold jT
  rcases ho with ho | ho<;>
  ·simp only [ho,zY hm ν,zY hj ν,zY hx ν,Option.bind_some,den,hup]
   rfl
 ·rw [zL,qJ,yY hreg] at hc
  rw [Hp.get_set]
  by_cases hcb:c=b
  ·subst hcb
   simp [hb,zU] at hc
   rw [if_pos rfl,hg]
   simp [hc]
  ·rw [if_neg hcb] at hc ⊢
   rw [zL];exact hc
def lsS (l:List SV) (i:Nat) (v:SV):List SV:=List.rec (motive:=fun _=>Nat→List SV) (fun _=>[]) (fun x r ih i=>Nat.rec (motive:=fun _=>List SV) (v::r) (fun m _=>x::ih m) i) l i
theorem gm (v:SV):∀(l:List SV) (i:Nat),lsS l i v=l.set i v
 |[],_=>by simp [lsS]
 |x::l,0=>rfl
 |x::l,i+1=>by
  show x::lsS l i v=_
  rw [gm v l i];simp
def GO (tm:List SV) (d:Option Tmp) (v:SV):List SV:=match d with
 |some d=>lsS tm d v
 |none=>tm
def zCL (H:SH) (tm:List SV):Operand→List SV
 |.tmp t=>match gl tm t with
  |some (.own b)=>match zm H b with
   |some (.fro _ ty l)=>bif Nat.blt 0 (sz ty) then lsS tm t (.lst ty l false) else tm
   |_=>tm
  |_=>tm
 |_=>tm
def zk0 (H:SH) (tm:List SV):List Operand→List SV
 |[]=>tm
 |x::r=>zk0 H (zCL H tm x) r
theorem zCM {ν:Nat→Bool} {nx:Nat} {H:SH} (hv:VN ν nx H) (g:zF φ (zE ν H) K w) {tm:List SV} {x:Operand} {ts:Array Value} (ht:qI φ (zt (rho ν H) tm) ts):qI φ (zt (rho ν H) (zCL H tm x)) ts:=by
 unfold zCL
 split
 case h_2=>exact ht
 rename_i t
 split
 case h_2=>exact ht
 rename_i b hb
 split
 case h_2=>exact ht
 rename_i ty l hf
 cases hs:Nat.blt 0 (sz ty) with
 |false=>exact ht
 |true=>
  rw [cond_true,gm]
  rw [yJ] at hb
  refine ⟨by rw [←ht.1,wa,wa,List.length_set],fun i v hv2=>?_⟩
  rw [wB,Option.map_eq_some_iff] at hv2
  obtain ⟨u,hu,rfl⟩:=hv2
  rw [List.getElem?_set] at hu
  by_cases hti:t=i
  ·subst hti
   have hlt:=(List.getElem?_eq_some_iff.1 hb).1
   simp [hlt] at hu
   subst hu
   rcases ht.2 t (den (rho ν H) (.own b)) (by rw [wB,hb];rfl) with h0 | ⟨v',h1,h2⟩
   ·simp only [den] at h0
    exact absurd h0 (ke ν H b)
   ·right
    refine ⟨v',h1,?_⟩
    simp only [den] at h2 ⊢
    exact zhe g hv hf (zco hs) h2
  ·rw [if_neg hti] at hu
   exact ht.2 i _ (by rw [wB,hu];rfl)
theorem zwt {ν:Nat→Bool} {nx:Nat} {H:SH} (hv:VN ν nx H) (g:zF φ (zE ν H) K w):∀{xs:List Operand} {tm:List SV} {ts:Array Value},qI φ (zt (rho ν H) tm) ts→qI φ (zt (rho ν H) (zk0 H tm xs)) ts
 |[],_,_,ht=>ht
 |x::r,tm,ts,ht=>zwt hv g (xs:=r) (zCM hv g ht)
theorem zwu {r:Option Nat} {o:Oper} {tm tm2:List Value} {H H2 H':Hp} {nx nx':Nat} {v:Value} (h:Kn P r o tm2 H2 nx v H' nx') (hg:∀φ K w,zF φ H K w→zF φ H2 K w) (ht:∀φ K w,zF φ H K w→∀ts,qI φ tm ts→qI φ tm2 ts):Kn P r o tm H nx v H' nx':=
 ⟨h.1,fun φ w K a rc next Q g hf htm hr hk=>h.2 φ w K a rc next Q (hg _ _ _ g) hf (ht _ _ _ g _ htm) hr hk⟩
theorem zEk {rd:Option Nat} {o:Oper} {tm:List SV} {H H':SH} {nx nx':Nat} {v:SV} {xs:List Operand} (h:SOp P rd o (zk0 H tm xs) H nx v H' nx'):SOp P rd o tm H nx v H' nx':=by
 obtain ⟨h1,h2,h3,h4⟩:=h
 refine ⟨h1,h2,h3,fun ν hv=>?_⟩
 obtain ⟨e1,e2⟩:=h4 ν hv
 exact ⟨e1,zwu e2 (fun _ _ _ g=>g) fun φ K w g ts ht=>zwt hv g ht⟩
theorem zij {rd:Option Nat} {o:Oper} {tm:List SV} {H:SH} {nx:Nat} {k:KO R} {r:R} {xs:List Operand} (h:gq P rd o (zk0 H tm xs) H nx k r):gq P rd o tm H nx k r:=by
 obtain ⟨v,H',nx',h1,h2⟩:=h
 exact ⟨v,H',nx',zEk h1,h2⟩
def zwv (P:Program) (tm:List SV) (H:SH) (nx:Nat) (b:Builtin) (args:Array Operand) (ats:Array TypeId) (k:KO R):Option R:=match b,args,ats with
 |.len,⟨[x]⟩,⟨[t]⟩=>zCy P tm H nx t x k
 |.append,⟨[s,x]⟩,⟨[t,u]⟩=>bif Nat.beq t u then zCG P (zk0 H tm [s,x]) H nx t s x k else none
 |.copy,⟨[d,x]⟩,⟨[t,_]⟩=>zzS P (zk0 H tm [x]) H nx t d x k
 |_,_,_=>none
def zDI (P:Program) (tm:List SV) (H:SH) (nx:Nat) (o:Oper) (k:KO R):Option R:=match o.op with
 |.pick c a b=>zzK tm H nx c a b k
 |.binOp op t x y _=>bif zyJ tm H x y then zzO P tm H nx op t x y k else zCw tm H nx op x y k
 |.indexAddr t x i=>zsk P (zk0 H tm [x]) H nx t x i k
 |.index t x i=>zwk P tm H nx t x i k
 |.load t a=>zzM P tm H nx t a k
 |.store t a x=>zzR P tm H nx t a x k
 |.slice t x lo hi mx=>zwl P (zk0 H tm [x]) H nx t x lo hi mx k
 |.makeSlice t l c=>zzP P tm H nx t l c k
 |.buildSlice t n ps=>match zCE P tm H nx t n ps.toList with
  |some (v,H')=>k v H' (nx+1)
  |none=>zCB P tm H nx t n ps.toList k
 |.call {callee:=.builtin b,args,argTypes}=>zwv P tm H nx b args argTypes k
 |.makeMap t none=>zws P H nx t k
 |.lookup t x i c=>zzU P tm H nx t x i c k
 |.mapUpdate t m i x=>zmE P tm H nx t m i x k
 |.insert t m i x=>zmE P tm H nx t m i x k
 |_=>none
def zCN (P:Program) (tm:List SV) (H:SH) (nx:Nat) (o:Oper) (k:KO R):Option R:=match zzJ P tm H nx o with
 |some (v,H',nx')=>k v H' nx'
 |none=>zDI P tm H nx o k
theorem zEl {rd:Option Nat} {o:Oper} {tm:List SV} {H:SH} {nx:Nat} {k:KO R} {r:R} (h:zCN P tm H nx o k=some r):gq P rd o tm H nx k r:=by
 unfold zCN at h
 split at h
 ·rename_i v H' nx' h0
  exact vW (zD5 h0) h
 ·unfold zDI at h
  split at h
  ·rename_i ho;exact zCv ho h
  ·rename_i op t x y u ho
   cases hq:zyJ tm H x y with
   |true=>rw [hq] at h;exact zCz ho h
   |false=>rw [hq] at h;exact zEa ho h
  ·rename_i ho;exact zij (zzL ho h)
  ·rename_i ho;exact zBa ho h
  ·rename_i ho;exact zCx ho h
  ·rename_i ho;exact zCC ho h
  ·rename_i ho;exact zij (zBc ho h)
  ·rename_i ho;exact zCA ho h
  ·rename_i ho
   split at h
   ·rename_i v H' hl;exact vW (zEg ho hl) h
   ·exact zEe ho h
  ·rename_i b args ats ho
   unfold zwv at h
   split at h
   ·exact zEd ho h
   ·have h6:=zA h
    obtain ⟨h7,h8⟩:=h6
    have:=Nat.eq_of_beq_eq_true h7
    subst this
    exact zij (zEj ho h8)
   ·exact zij (zCF ho h)
   ·cases h
  ·rename_i ho;exact zBh ho h
  ·rename_i ho;exact zCK ho h
  ·rename_i ho;exact zqc (.inl ho) h
  ·rename_i ho;exact zqc (.inr ho) h
  ·cases h
structure XF where
 e:Exit
 tm:List SV
 ds:List Nat
 H:SH
 nx:Nat
abbrev KC (R:Type):=XF→Option R
def XG:List Oper→List Nat
 |[]=>[]
 |o::r=>match o.dst with
  |some d=>d::XG r
  |none=>XG r
def asg:Code→List Nat
 |.region _ ops _=>XG ops.toList
 |.seq a b=>asg a++asg b
 |.cond _ a b=>asg a++asg b
 |.block _ c=>asg c
 |.loop c=>asg c
 |.scope c=>asg c
 |_=>[]
def Zr (a:List Nat) (tm tm':List SV):Prop:=tm'.length=tm.length∧∀i,i∉a→tm'[i]?=tm[i]?
theorem Zr.refl (a:List Nat) (tm:List SV):Zr a tm tm:=⟨rfl,fun _ _=>rfl⟩
theorem Zr.trans {a b c:List Nat} {t t' t'':List SV} (h:Zr a t t') (k:Zr b t' t'') (ha:∀i∈a,i∈c) (hb:∀i∈b,i∈c):Zr c t t'':=
 ⟨k.1.trans h.1,fun i hi=>(k.2 i fun e=>hi (hb i e)).trans (h.2 i fun e=>hi (ha i e))⟩
theorem Zr.mono {a b:List Nat} {t t':List SV} (h:Zr a t t') (ha:∀i∈a,i∈b):Zr b t t':=⟨h.1,fun i hi=>h.2 i fun e=>hi (ha i e)⟩
def zbr (ν:Nat→Bool) (R:XF):Res:=⟨R.e,zt (rho ν R.H) R.tm,R.ds,zE ν R.H,R.nx⟩
def QS (P:Program) (rd:Option Nat) (c:Code) (tm:List SV) (ds:List Nat) (H:SH) (nx:Nat) (R:XF):Prop:=
 jW H R.H∧wk H R.H∧Zr (asg c) tm R.tm∧nx≤R.nx∧∀ν,VN ν nx H→VN ν R.nx R.H∧jb P rd c (zt (rho ν H) tm) ds (zE ν H) nx (zbr ν R)
def zFE (P:Program) (rd:Option Nat) (ops:Array Oper) (l:List Nat) (zFL:List Nat) (tm:List SV) (H:SH) (nx:Nat) (tm':List SV) (H':SH) (nx':Nat):Prop:=
 jW H H'∧wk H H'∧Zr zFL tm tm'∧nx≤nx'∧∀ν,VN ν nx H→VN ν nx' H'∧zdT P rd ops l (zt (rho ν H) tm) (zE ν H) nx (zt (rho ν H') tm') (zE ν H') nx'
theorem zww (ρ:Nat→Value) (tm:List SV) (d:Option Tmp) (v:SV):zt ρ (GO tm d v)=gp (zt ρ tm) d (den ρ v):=by
 cases d with
 |none=>rfl
 |some d=>rw [zcl];simp only [GO,gm,qt,List.map_set]
theorem zCO {ν:Nat→Bool} {H H1:SH} (hr:jW H H1) {tm:List SV} {d:Option Tmp} {v:SV} {ts:Array Value} (h:qI φ (gp (zt (rho ν H) tm) d (den (rho ν H1) v)) ts):qI φ (zt (rho ν H1) (GO tm d v)) ts:=by
 cases d with
 |none=>exact zom ν hr h
 |some d=>
  rw [zcl] at h
  rw [zww,zcl]
  refine ⟨by simpa [wa] using h.1,fun i u hu=>?_⟩
  rw [List.getElem?_set] at hu
  by_cases hdi:d=i
  ·subst hdi
   rw [if_pos rfl] at hu
   split at hu
   ·cases hu
    rename_i hlt
    refine h.2 d _ ?_
    rw [List.getElem?_set,if_pos rfl,if_pos (by simpa [wa] using hlt)]
   ·cases hu
  ·rw [if_neg hdi] at hu
   rw [wB,Option.map_eq_some_iff] at hu
   obtain ⟨x,hx,rfl⟩:=hu
   rcases h.2 i (den (rho ν H) x) (by rw [List.getElem?_set,if_neg hdi,wB,hx];rfl) with h0 | ⟨v',h1,h2⟩
   ·exact .inl (zib (ke ν H) h0)
   ·exact .inr ⟨v',h1,zbo (zet ν hr) x v' h2⟩
theorem zf0 (tm:List SV) (d:Option Tmp) (v:SV):Zr d.toList tm (GO tm d v):=by
 cases d with
 |none=>exact Zr.refl _ _
 |some d=>
  simp only [GO,gm]
  refine ⟨by simp,fun i hi=>?_⟩
  rw [List.getElem?_set,if_neg]
  simpa using fun e:d=i=>hi (by simp [e])
theorem zBi {r:Option Nat} {ops:Array Oper} {l:List Nat} {tm tm2 tm':List Value} {H H':Hp} {nx nx':Nat} (h:zdT P r ops l tm2 H nx tm' H' nx') (ht:∀φ ts,qI φ tm ts→qI φ tm2 ts):zdT P r ops l tm H nx tm' H' nx':=
 ⟨h.1,fun φ w K a rc Q g hf htm hr hk=>h.2 φ w K a rc Q g hf (ht _ _ htm) hr hk⟩
def zqd (ops:Array Oper) (tm:List SV) (o:Oper) (y n:List SV→Option R):Option R:=match o.guard with
 |none=>y tm
 |some (j,want)=>match gl ops.toList j with
  |some p=>match p.dst with
   |some d=>match gl tm d with
    |some (.bool b)=>bif b then (bif want then y (lsS tm d (.bool true)) else n (lsS tm d (.bool true))) else (bif want then n (lsS tm d (.bool false)) else y (lsS tm d (.bool false)))
    |some (.tup _)=>n tm
    |_=>none
   |none=>none
  |none=>none
theorem zCP {tm:List SV} {d:Nat} {v:SV} (h:tm[d]?=some v):lsS tm d v=tm:=by
 rw [gm]
 obtain ⟨h1,h2⟩:=List.getElem?_eq_some_iff.1 h
 rw [←h2];exact List.set_getElem_self h1
theorem zwx {ops:Array Oper} {tm:List SV} {o:Oper} {y n:List SV→Option R} {r:R} (h:zqd ops tm o y n=some r) :
  ((∀tmv:List Value,(∀(i:Nat) u,tm[i]?=some u→∃ρ,tmv[i]?=some (den ρ u))→vh ops tmv o=some true)∧y tm=some r)∨((∀tmv:List Value,(∀(i:Nat) u,tm[i]?=some u→∃ρ,tmv[i]?=some (den ρ u))→vh ops tmv o=some false)∧n tm=some r):=by
 unfold zqd at h
 unfold vh
 split at h
 ·rename_i hg
  exact .inl ⟨fun tmv _=>by simp only [hg],h⟩
 ·rename_i j want hg
  split at h
  case h_2=>cases h
  rename_i p hp
  split at h
  case h_2=>cases h
  rename_i d hd
  rw [yJ,Array.getElem?_toList] at hp
  have hj:(ops[j]?).bind (·.dst)=some d:=by rw [hp];exact hd
  split at h
  ·rename_i b hb
   rw [yJ] at hb
   have h1:∀tmv:List Value,(∀(i:Nat) u,tm[i]?=some u→∃ρ,tmv[i]?=some (den ρ u))→tmv[d]?=some (.bool b):=fun tmv hm=>by
    obtain ⟨ρ,h2⟩:=hm d _ hb
    rw [h2];simp [den]
   cases b<;>simp only [cond_true,cond_false] at h<;>rw [zCP hb] at h<;>cases want<;>simp only [cond_true,cond_false] at h<;>first
    |exact .inl ⟨fun tmv hm=>by simp only [hg,hj,Option.bind_some,zdO,h1 tmv hm];rfl,h⟩
    |exact .inr ⟨fun tmv hm=>by simp only [hg,hj,Option.bind_some,zdO,h1 tmv hm];rfl,h⟩
  ·rename_i vs hb
   rw [yJ] at hb
   refine .inr ⟨fun tmv hm=>?_,h⟩
   obtain ⟨ρ,h2⟩:=hm d _ hb
   simp only [hg,hj,Option.bind_some,zdO,h2,den]
  ·cases h
theorem zzV {ops:Array Oper} {tm:List SV} {o:Oper} {y n:List SV→Option R} {r:R} (h:zqd ops tm o y n=some r):((∀ρ,vh ops (zt ρ tm) o=some true)∧y tm=some r)∨((∀ρ,vh ops (zt ρ tm) o=some false)∧n tm=some r):=by
 have hd:∀(ρ:Nat→Value) (i:Nat) (u:SV),tm[i]?=some u→∃ρ',(zt ρ tm)[i]?=some (den ρ' u):=fun ρ i u hu=>⟨ρ,by rw [wB,hu];rfl⟩
 rcases zwx h with ⟨h1,h2⟩ | ⟨h1,h2⟩
 ·exact .inl ⟨fun ρ=>h1 _ (hd ρ),h2⟩
 ·exact .inr ⟨fun ρ=>h1 _ (hd ρ),h2⟩
def zwy (op:List SV→SH→Nat→Oper→KO R→Option R) (ops:Array Oper):List Oper→List SV→SH→Nat→(List SV→SH→Nat→Option R)→Option R
 |[],tm,H,nx,k=>k tm H nx
 |o::l,tm,H,nx,k=>zqd ops tm o
  (fun tm=>op tm H nx o fun v H1 nx1=>zwy op ops l (GO tm o.dst v) H1 nx1 k)
  (fun tm=>zwy op ops l (GO tm o.dst (.tup [])) H nx k)
def OpS (P:Program) (rd:Option Nat) (op:List SV→SH→Nat→Oper→KO R→Option R):Prop:=∀{tm H nx o k r},op tm H nx o k=some r→gq P rd o tm H nx k r
theorem zsl {op:List SV→SH→Nat→Oper→KO R→Option R} {rd:Option Nat} (hop:OpS P rd op) {ops:Array Oper}:∀{l:List Oper} {j:Nat} {tm:List SV} {H:SH} {nx:Nat} {k:List SV→SH→Nat→Option R} {r:R},(∀i:Nat,l[i]?=ops[j+i]?)→zwy op ops l tm H nx k=some r→
  ∃tm' H' nx',zFE P rd ops (List.range' j l.length) (XG l) tm H nx tm' H' nx'∧k tm' H' nx'=some r
 |[],j,tm,H,nx,k,r,_,h=>⟨tm,H,nx,⟨jW.refl H,wk.refl H,Zr.refl _ _,Nat.le_refl _,fun ν hv=>⟨hv,zAP⟩⟩,h⟩
 |o::l,j,tm,H,nx,k,r,hl,h=>by
  have h0:ops[j]?=some o:=by simpa using (hl 0).symm
  have hl':∀i:Nat,l[i]?=ops[j+1+i]?:=fun i=>by have:=hl (i+1);simpa [Nat.add_assoc,Nat.add_comm 1 i] using this
  have hin1:∀i∈o.dst.toList,i∈XG (o::l):=fun i hi=>by
   unfold XG
   cases hd:o.dst with
   |none=>rw [hd] at hi;cases hi
   |some d=>rw [hd] at hi;simp at hi;subst hi;simp
  have hin2:∀i∈XG l,i∈XG (o::l):=fun i hi=>by
   show i∈(match o.dst with | some d=>d::XG l | none=>XG l)
   cases o.dst with
   |none=>exact hi
   |some d=>exact List.mem_cons_of_mem _ hi
  simp only [zwy] at h
  rw [List.length_cons,List.range'_succ]
  rcases zzV h with ⟨hw,h1⟩ | ⟨hw,h1⟩
  ·obtain ⟨v,H1,nx1,⟨s1,s2,s3,s4⟩,h2⟩:=hop h1
   obtain ⟨tm',H',nx',⟨t1,t2,t3,t4,t5⟩,h3⟩:=zsl hop hl' h2
   refine ⟨tm',H',nx',⟨s1.trans t1,s2.trans t2,(zf0 tm o.dst v).trans t3 hin1 hin2,Nat.le_trans s3 t4,fun ν hv=>?_⟩,h3⟩
   obtain ⟨v1,o1⟩:=s4 ν hv
   obtain ⟨v2,o2⟩:=t5 ν v1
   exact ⟨v2,zzw h0 (hw _) o1 (zBi o2 fun φ ts ht=>zCO s1 ht)⟩
  ·obtain ⟨tm',H',nx',⟨t1,t2,t3,t4,t5⟩,h3⟩:=zsl hop hl' h1
   refine ⟨tm',H',nx',⟨t1,t2,(zf0 tm o.dst _).trans t3 hin1 hin2,t4,fun ν hv=>?_⟩,h3⟩
   obtain ⟨v2,o2⟩:=t5 ν hv
   exact ⟨v2,zzx h0 (hw _) (by rw [zww] at o2;simpa [den,zt,undef] using o2)⟩
def gT (x0 x:Blk):Prop:=match x0,x with
 |.cells ds r,.cells cs r'=>r=r'∧∀(j:Nat) v,cs[j]?=some v→∃u,ds[j]?=some u∧∀φ v',zr φ u v'→zr φ v v'
 |.loop A,.loop B=>B.state=A.state∧B.pending=A.pending∧B.params=A.params∧B.assign=A.assign∧B.body=A.body∧B.defers=A.defers∧∀φ ts,qI φ A.tmps.toList ts→qI φ B.tmps.toList ts
 |a,b=>a=b
theorem gT.refl (x:Blk):gT x x:=by
 cases x with
 |cells cs r=>exact ⟨rfl,fun j v hv=>⟨v,hv,fun _ _ h=>h⟩⟩
 |loop A=>exact ⟨rfl,rfl,rfl,rfl,rfl,rfl,fun _ _ h=>h⟩
 |_=>rfl
theorem gT.rel {x0 x:Blk} (h:gT x0 x) {L:Loc} (hb:jo φ w L x0):jo φ w L x:=by
 unfold gT at h
 split at h
 ·obtain ⟨rfl,h⟩:=h
  obtain ⟨arr,el,fr,e1,e2,e3⟩:=hb
  refine ⟨arr,el,fr,e1,fun j v hv=>?_,e3⟩
  obtain ⟨u,h1,h2⟩:=h j v hv
  obtain ⟨v',h3,h4⟩:=e2 j u h1
  exact ⟨v',h3,h2 φ v' h4⟩
 ·obtain ⟨h1,h2,h3,h4,h5,h6,h7⟩:=h
  obtain ⟨l',e1,e2,e3,e4,e5,e6,e7,D,e8,e9⟩:=hb
  exact ⟨l',e1,e2.trans h1.symm,e3.trans h2.symm,h7 _ _ e4,e5.trans h3.symm,e6.trans h4.symm,e7.trans h5.symm,D,by rw [h6];exact e8,e9⟩
 ·subst h;exact hb
theorem gT.rw {x0 x:Blk} (h:gT x0 x):x.rw=x0.rw:=by
 unfold gT at h
 split at h
 ·obtain ⟨rfl,_⟩:=h;rfl
 ·rfl
 ·subst h;rfl
theorem gT.seen {x0 x:Blk} (h:gT x0 x) (wr:Nat→Bool) (b:Nat):gT (vi wr (fun _=>false) b x0) (vi wr (fun _=>false) b x):=by
 unfold vi
 cases wr b with
 |true=>simpa using h
 |false=>
  simp only [Bool.false_eq_true,if_false]
  unfold gT at h
  split at h
  ·exact ⟨rfl,h.2⟩
  ·rfl
  ·subst h
   exact gT.refl _
theorem gT.trans {x y z:Blk} (h:gT x y) (k:gT y z):gT x z:=by
 cases x<;>cases y<;>simp only [gT] at h<;>first | (cases h;done) | (cases h;exact k) | exact k | skip
 ·cases z<;>simp only [gT] at k ⊢<;>first | (cases k;done) | skip
  obtain ⟨rfl,h⟩:=h
  obtain ⟨rfl,k⟩:=k
  refine ⟨rfl,fun j v hv=>?_⟩
  obtain ⟨u,h1,h2⟩:=k j v hv
  obtain ⟨t,h3,h4⟩:=h j u h1
  exact ⟨t,h3,fun φ v' hr=>h2 φ v' (h4 φ v' hr)⟩
 ·cases z<;>simp only [gT] at k ⊢<;>first | (cases k;done) | skip
  obtain ⟨h1,h2,h3,h4,h5,h6,h7⟩:=h
  obtain ⟨k1,k2,k3,k4,k5,k6,k7⟩:=k
  exact ⟨k1.trans h1,k2.trans h2,k3.trans h3,k4.trans h4,k5.trans h5,k6.trans h6,fun φ ts ht=>k7 φ ts (h7 φ ts ht)⟩
theorem zwz {ρ ρ':Nat→Value} (hρ:∀b,ρ b≠Fz.junk) (h:RLe ρ ρ') {nil:Bool} {k:SB} {x':Blk} (hx:zU ρ' nil k=some x'):∃x,zU ρ nil k=some x∧gT x x':=by
 have key:∀(cs:List SV) (ro:Bool),gT (.cells (zt ρ cs) ro) (.cells (zt ρ' cs) ro):=fun cs ro=>⟨rfl,fun j v hv=>by
  rw [wB,Option.map_eq_some_iff] at hv
  obtain ⟨u,hu,rfl⟩:=hv
  exact ⟨den ρ u,by rw [wB,hu];rfl,fun φ v' hr=>zbo h u v' hr⟩⟩
 cases k with
 |vars cs=>simp only [zU,Option.some.injEq] at hx;subst hx;exact ⟨_,rfl,key cs false⟩
 |ro cs=>simp only [zU,Option.some.injEq] at hx;subst hx;exact ⟨_,rfl,key cs true⟩
 |loop L=>
  simp only [zU,Option.some.injEq] at hx;subst hx
  exact ⟨_,rfl,rfl,rfl,rfl,rfl,rfl,rfl,fun φ ts ht=>by simpa [wX] using zkK hρ h (by simpa [wX] using ht)⟩
 |_=>exact ⟨x',hx,gT.refl _⟩
def Mix (G H:Hp):Prop:=∀b x,H.get b=some x→∃x0,G.get b=some x0∧gT x0 x
theorem Mix.refl (H:Hp):Mix H H:=fun b x h=>⟨x,h,gT.refl x⟩
theorem Mix.trans {F G H:Hp} (h:Mix F G) (k:Mix G H):Mix F H:=fun b x hx=>by
 obtain ⟨y,h1,h2⟩:=k b x hx
 obtain ⟨z,h3,h4⟩:=h b y h1
 exact ⟨z,h3,h4.trans h2⟩
theorem Mix.good {G H:Hp} (h:Mix G H) (g:zF φ G K w):zF φ H K w:=by
 refine ⟨fun b k hb=>?_,fun b c k k' L L' hb hc hne hkr hL hL'=>?_,fun b k L hb hkr hL=>?_,g.kin,g.fz,fun b k L c M hb hkr hL hM=>?_⟩
 ·obtain ⟨x,h1,h2⟩:=h b k hb
  obtain ⟨L,hL,hB⟩:=g.rel b x h1
  exact ⟨L,hL,h2.rel hB⟩
 ·obtain ⟨x,h1,h2⟩:=h b k hb
  obtain ⟨y,h3,_⟩:=h c k' hc
  exact g.sep b c x y L L' h1 h3 hne (by rw [←h2.rw];exact hkr) hL hL'
 ·obtain ⟨x,h1,h2⟩:=h b k hb
  exact g.prot b x L h1 (by rw [←h2.rw];exact hkr) hL
 ·obtain ⟨x,h1,h2⟩:=h b k hb
  exact g.fsep b x L c M h1 (by rw [←h2.rw];exact hkr) hL hM
def roS:SB→SB
 |.vars cs=>.ro cs
 |.arr nn t l=>.roa nn t l
 |.loop _=>.hid
 |.defd=>.hid
 |.mpb _ _ _ _=>.hid
 |k=>k
def zCQ:SB→SB
 |.arr nn t l=>.gone (rsz nn t l) l.length
 |.roa nn t l=>.gone (rsz nn t l) l.length
 |.fro nn t l=>.gone (rsz nn t l) l.length
 |.gone s n=>.gone s n
 |_=>.abs
def xM (l:List Nat) (b:Nat):Bool:=List.rec (motive:=fun _=>Bool) false (fun x _ ih=>bif Nat.beq x b then true else ih) l
def zk1 (vis wr:List Nat) (b:Nat) (k:SB):SB:=bif xM vis b then (bif xM wr b then k else roS k) else zCQ k
def zb7 (vis wr:List Nat):SH→SH
 |[]=>[]
 |(b,k)::r=>(b,zk1 vis wr b k)::zb7 vis wr r
theorem JN (vis wr:List Nat) (n:Nat):∀H:SH,zm (zb7 vis wr H) n=(zm H n).map (zk1 vis wr n)
 |[]=>rfl
 |(b,k)::r=>by
  simp only [zb7,zH]
  by_cases hb:b=n
  ·subst hb;simp
  ·rw [if_neg hb,if_neg hb];exact JN vis wr n r
theorem zhh (vis wr:List Nat) (b:Nat) (k:Option SB):reg (k.map (zk1 vis wr b))=reg k:=by
 cases k with
 |none=>rfl
 |some k=>
  simp only [Option.map_some,zk1]
  cases xM vis b<;>cases xM wr b<;>cases k<;>first | rfl | exact zes _ _ _
theorem zzW (vis wr:List Nat) (b:Nat) (k:Option SB) (h:qY (k.map (zk1 vis wr b))=true):qY k=true:=by
 cases k with
 |none=>exact h
 |some k=>
  simp only [Option.map_some,zk1] at h
  cases hv:xM vis b<;>cases hw:xM wr b<;>rw [hv,hw] at h<;>cases k<;>simp_all [qY,zCQ,roS]
theorem zwA (ν:Nat→Bool) (vis wr:List Nat) (H:SH):rho ν (zb7 vis wr H)=rho ν H:=yY (fun c=>by rw [JN,zhh]) ν
theorem zyL {ν:Nat→Bool} {nx:Nat} {vis wr:List Nat} {H:SH} (h:VN ν nx H):VN ν nx (zb7 vis wr H):=Ql (fun c=>by rw [JN,zhh]) (fun c hc=>zzW vis wr c _ (by rw [←JN];exact hc)) h
theorem zCR {ν:Nat→Bool} {vis wr:List Nat} {H:SH} {G:Hp} (hm:Mix G (zE ν H)) (wr':Nat→Bool) (hw:∀b,wr' b=(xM wr b&&(G.get b).isSome)) :
  Mix (Hp.only (xM vis) (KE wr' (fun _=>false) G)) (zE ν (zb7 vis wr H)):=fun b x hx=>by
 rw [zL,JN,zwA] at hx
 cases hk:zm H b with
 |none=>rw [hk] at hx;cases hx
 |some k=>
  rw [hk] at hx
  simp only [Option.map_some,Option.bind_some,zk1] at hx
  cases hv:xM vis b with
  |false=>
   rw [hv,cond_false] at hx
   cases k<;>simp [zCQ,zU] at hx
  |true=>
   rw [hv,cond_true] at hx
   have hget:(Hp.only (xM vis) (KE wr' (fun _=>false) G)).get b=(G.get b).map (vi wr' (fun _=>false) b):=by
    rw [Hp.get_only,hv,if_pos rfl,zdU]
   have hH:∀y,zU (rho ν H) (ν b) k=some y→∃y0,G.get b=some y0∧gT y0 y:=fun y hy=>hm b y (by rw [zL,hk];exact hy)
   cases hwb:xM wr b with
   |true=>
    rw [hwb,cond_true] at hx
    obtain ⟨y0,h1,h2⟩:=hH x hx
    refine ⟨y0,?_,h2⟩
    rw [hget,h1]
    have:wr' b=true:=by rw [hw b,hwb,h1];rfl
    simp [vi,this]
   |false=>
    rw [hwb,cond_false] at hx
    have hwf:wr' b=false:=by rw [hw b,hwb];rfl
    have hs:∃y,zU (rho ν H) (ν b) k=some y∧vi wr' (fun _=>false) b y=x:=by
     cases k with
     |vars cs=>simp only [roS,zU,Option.some.injEq] at hx;exact ⟨_,rfl,by subst hx;simp [vi,hwf]⟩
     |ro cs=>simp only [roS,zU,Option.some.injEq] at hx;exact ⟨_,rfl,by subst hx;simp [vi,hwf]⟩
     |arr nn t l=>
      simp only [roS,zU] at hx ⊢
      cases hnb:jD nn l with
      |true=>rw [hnb] at hx;cases hx
      |false=>rw [hnb] at hx;simp only [cond_false,Option.some.injEq] at hx;exact ⟨_,rfl,by subst hx;simp [vi,hwf]⟩
     |roa nn t l=>
      simp only [roS,zU] at hx ⊢
      cases hnb:jD nn l with
      |true=>rw [hnb] at hx;cases hx
      |false=>rw [hnb] at hx;simp only [cond_false,Option.some.injEq] at hx;exact ⟨_,rfl,by subst hx;simp [vi,hwf]⟩
     |fro nn t l=>
      simp only [roS,zU] at hx ⊢
      cases hnb:jD nn l with
      |true=>rw [hnb] at hx;cases hx
      |false=>rw [hnb] at hx;simp only [cond_false,Option.some.injEq] at hx;exact ⟨_,rfl,by subst hx;simp [vi,hwf]⟩
     |gone s n=>simp [roS,zU] at hx
     |loop L=>simp only [roS,zU,Option.some.injEq] at hx;exact ⟨_,rfl,by subst hx;simp [vi,hwf]⟩
     |defd=>simp only [roS,zU,Option.some.injEq] at hx;exact ⟨_,rfl,by subst hx;simp [vi,hwf]⟩
     |hid=>simp only [roS,zU,Option.some.injEq] at hx;exact ⟨_,rfl,by subst hx;simp [vi,hwf]⟩
     |mpb k ag t l=>simp only [roS,zU,Option.some.injEq] at hx;exact ⟨_,rfl,by subst hx;simp [vi,hwf]⟩
     |abs=>simp [roS,zU] at hx
    obtain ⟨y,h1,h2⟩:=hs
    obtain ⟨y0,h3,h4⟩:=hH y h1
    refine ⟨vi wr' (fun _=>false) b y0,by rw [hget,h3];rfl,?_⟩
    rw [←h2]
    exact h4.seen wr' b
structure Jf where
 ran:Bool
 vis:List Nat
 wr:List Nat
 lo:Nat
 hi:Nat
def gj (tm:List SV) (s:Nat):SV:=match gl tm s with
 |some v=>v
 |none=>.junk
def zd3 (tm:List SV):List Nat→List SV→List SV
 |[],t=>t
 |s::r,t=>zd3 tm r (lsS t s (gj tm s))
def jI (wr:List Nat) (lo hi:Nat) (b:Nat):Bool:=xM wr b||(Nat.ble lo b&&Nat.blt b hi)
def XP (wr:List Nat) (lo hi:Nat):SH→SH
 |[]=>[]
 |(b,k)::r=>(b,bif jI wr lo hi b then (match k with | .fro nn t l=>.gone (rsz nn t l) l.length | k=>k) else k)::XP wr lo hi r
def zmF (wr:List Nat) (lo hi:Nat):SH→SH
 |[]=>[]
 |(b,k)::r=>bif jI wr lo hi b then (b,k)::zmF wr lo hi r else zmF wr lo hi r
def zmG (wr:List Nat) (lo hi:Nat):SH→SH
 |[]=>[]
 |(b,k)::r=>bif jI wr lo hi b then zmG wr lo hi r else (b,k)::zmG wr lo hi r
def zwB (wr:List Nat) (lo hi:Nat) (H1 H:SH):SH:=zmF wr lo hi H1++zmG wr lo hi H
def rwK:SB→Bool
 |.ro _=>false
 |.roa _ _ _=>false
 |.fro _ _ _=>false
 |.hid=>false
 |_=>true
def okT (wr:List Nat) (lo hi:Nat) (H:SH):SH→Bool
 |[]=>true
 |(b,k)::r=>(bif jI wr lo hi b then rwK k else match reg (some k) with | none=>true | some _=>(reg (zm H b)).isSome)&&okT wr lo hi H r
def zqe (lo hi:Nat):SH→Bool
 |[]=>true
 |(b,_)::r=>!(Nat.ble lo b&&Nat.blt b hi)&&zqe lo hi r
def okW (H:SH):List Nat→Bool
 |[]=>true
 |b::r=>(match zm H b with
  |some (.gone _ _)=>false
  |some .abs=>false
  |none=>false
  |_=>true)&&okW H r
def zik (wr:List Nat) (lo hi:Nat):Bool:=(match wr with | []=>true | _=>false)&&Nat.beq lo hi
def zew (wr:List Nat) (lo hi:Nat) (H1 H:SH):Option SH:=match XP wr lo hi H1 with
 |H2=>bif okT wr lo hi H H2&&(zqe lo hi H&&okW H wr) then some (bif zik wr lo hi then H else zwB wr lo hi H2 H) else none
def zzX (vis:List Nat):List Nat→Bool
 |[]=>true
 |b::r=>xM vis b&&zzX vis r
theorem zwC {vis:List Nat} {b:Nat}:∀{wr:List Nat},zzX vis wr=true→xM wr b=true→xM vis b=true
 |[],_,h=>by cases h
 |c::r,hs,h=>by
  simp only [zzX,Bool.and_eq_true] at hs
  have h:(bif Nat.beq c b then true else xM r b)=true:=h
  cases hb:Nat.beq c b with
  |true=>have:=Nat.eq_of_beq_eq_true hb;subst this;exact hs.1
  |false=>rw [hb] at h;exact zwC hs.2 h
def zmH (op:List SV→SH→Nat→Oper→KO R→Option R) (ops:Array Oper) (cut:Nat→List SV→SH→List Jf→Option (List Nat×List Nat)):Nat→List Jf→List Oper→List SV→SH→Nat→(List Jf→List SV→SH→Nat→Option R)→Option R
 |_,done,[],tm,H,nx,k=>k done.reverse tm H nx
 |i,done,o::l,tm,H,nx,k=>zqd ops tm o
  (fun tm=>match cut i tm H done with
   |some (wr,vis)=>bif zzX vis wr then op (zd3 tm (xw ops o) (List.replicate tm.length .junk)) (zb7 vis wr H) nx o fun v H1 nx1=>match zew wr nx nx1 H1 H with
    |some H2=>zmH op ops cut (i+1) (⟨true,vis,wr,nx,nx1⟩::done) l (GO tm o.dst v) H2 nx1 k
    |none=>none
    else none
   |none=>none)
  (fun tm=>zmH op ops cut (i+1) (⟨false,[],[],nx,nx⟩::done) l (GO tm o.dst (.tup [])) H nx k)
theorem JO (wr:List Nat) (lo hi n:Nat):∀H:SH,zm (XP wr lo hi H) n=(zm H n).map fun k=>bif jI wr lo hi n then (match k with | .fro nn t l=>.gone (rsz nn t l) l.length | k=>k) else k
 |[]=>rfl
 |(b,k)::r=>by
  simp only [XP,zH]
  by_cases hb:b=n
  ·subst hb;simp
  ·rw [if_neg hb,if_neg hb];exact JO wr lo hi n r
theorem ztX (wr:List Nat) (lo hi n:Nat):∀H:SH,zm (zmF wr lo hi H) n=bif jI wr lo hi n then zm H n else none
 |[]=>by simp [zmF,Vf]
 |(b,k)::r=>by
  have ih:=ztX wr lo hi n r
  simp only [zmF,zH]
  cases hb:jI wr lo hi b with
  |true=>
   simp only [cond_true,zH]
   by_cases h:b=n
   ·subst h;simp [hb]
   ·simp only [h,if_false];exact ih
  |false=>
   simp only [cond_false]
   by_cases h:b=n
   ·subst h;rw [hb] at ih ⊢;simpa using ih
   ·simp only [h,if_false];exact ih
theorem ztY (wr:List Nat) (lo hi n:Nat):∀H:SH,zm (zmG wr lo hi H) n=bif jI wr lo hi n then none else zm H n
 |[]=>by simp [zmG,Vf]
 |(b,k)::r=>by
  have ih:=ztY wr lo hi n r
  simp only [zmG,zH]
  cases hb:jI wr lo hi b with
  |true=>
   simp only [cond_true]
   by_cases h:b=n
   ·subst h;rw [hb] at ih ⊢;simpa using ih
   ·simp only [h,if_false];exact ih
  |false=>
   simp only [cond_false,zH]
   by_cases h:b=n
   ·subst h;simp [hb]
   ·simp only [h,if_false];exact ih
theorem zP (n:Nat):∀H G:SH,zm (H++G) n=(match zm H n with | some k=>some k | none=>zm G n)
 |[],G=>by simp [Vf]
 |(b,k)::r,G=>by
  have ih:=zP n r G
  simp only [List.cons_append,zH]
  by_cases h:b=n
  ·subst h;simp
  ·simp only [h,if_false];exact ih
theorem zzY (wr:List Nat) (lo hi n:Nat) (H1 H:SH):zm (zwB wr lo hi H1 H) n=bif jI wr lo hi n then zm H1 n else zm H n:=by
 unfold zwB
 rw [zP,ztX,ztY]
 cases jI wr lo hi n with
 |true=>simp only [cond_true];cases zm H1 n<;>rfl
 |false=>simp
theorem znL {wr:List Nat} {lo hi:Nat} (h:zik wr lo hi=true) (b:Nat):jI wr lo hi b=false:=by
 unfold zik at h
 simp only [Bool.and_eq_true] at h
 obtain ⟨h1,h2⟩:=h
 have h2:=Nat.eq_of_beq_eq_true h2
 subst h2
 cases wr with
 |nil=>
  simp only [jI,xM,Bool.false_or,Bool.and_eq_false_iff]
  by_cases hb:lo≤b
  ·right
   rw [zeg];simp;omega
  ·left
   cases hc:Nat.ble lo b with
   |false=>rfl
   |true=>exact absurd (Nat.le_of_ble_eq_true hc) hb
 |cons x r=>cases h1
theorem zqf {wr:List Nat} {lo hi:Nat} {H1 H H2:SH} (h:zew wr lo hi H1 H=some H2) (n:Nat):zm H2 n=bif jI wr lo hi n then zm (XP wr lo hi H1) n else zm H n:=by
 unfold zew at h
 dsimp only at h
 obtain ⟨_,h2⟩:=zA h
 cases h2
 cases hq:zik wr lo hi with
 |true=>simp [znL hq n]
 |false=>simp only [cond_false];exact zzY ..
theorem znM {wr:List Nat} {lo hi:Nat} {H1 H H2:SH} (h:zew wr lo hi H1 H=some H2):okT wr lo hi H (XP wr lo hi H1)=true∧zqe lo hi H=true∧okW H wr=true:=by
 unfold zew at h
 dsimp only at h
 obtain ⟨h1,_⟩:=zA h
 simpa using h1
theorem zyM {wr:List Nat} {lo hi:Nat} {H:SH} {b:Nat} {k:SB}:∀{H1:SH},okT wr lo hi H H1=true→zm H1 b=some k→(jI wr lo hi b=true→rwK k=true)∧(jI wr lo hi b=false→(reg (some k)).isSome=true→(reg (zm H b)).isSome=true)
 |[],_,h=>by cases h
 |(c,x)::r,ho,h=>by
  simp only [okT,Bool.and_eq_true] at ho
  rw [zH] at h
  by_cases hc:c=b
  ·subst hc
   rw [if_pos rfl] at h
   cases h
   have h1:=ho.1
   constructor
   ·intro ht;rw [ht] at h1;exact h1
   ·intro ht hr
    rw [ht,cond_false] at h1
    split at h1
    ·rename_i hn;rw [hn] at hr;cases hr
    ·exact h1
  ·rw [if_neg hc] at h
   exact zyM ho.2 h
theorem ztZ {lo hi b:Nat} {k:SB}:∀{H:SH},zqe lo hi H=true→zm H b=some k→¬(lo≤b∧b < hi)
 |[],_,h=>by cases h
 |(c,x)::r,hf,h=>by
  simp only [zqe,Bool.and_eq_true,Bool.not_eq_true',Bool.and_eq_false_iff] at hf
  rw [zH] at h
  by_cases hc:c=b
  ·subst hc
   rintro ⟨h1,h2⟩
   rcases hf.1 with h3 | h3
   ·have:=Nat.ble_eq_true_of_le h1;rw [h3] at this;cases this
   ·rw [zeg,decide_eq_false_iff_not] at h3;exact h3 h2
  ·rw [if_neg hc] at h
   exact ztZ hf.2 h
theorem GP {wr:List Nat} {lo hi b:Nat}:jI wr lo hi b=true↔xM wr b=true∨(lo≤b∧b < hi):=by
 simp only [jI,Bool.or_eq_true,Bool.and_eq_true,zeg,decide_eq_true_eq,Nat.ble_eq]
theorem zex (wr:List Nat) (lo hi b:Nat) (k:Option SB):reg (k.map fun k=>bif jI wr lo hi b then (match k with | .fro nn t l=>.gone (rsz nn t l) l.length | k=>k) else k)=reg k:=by
 cases k with
 |none=>rfl
 |some k=>simp only [Option.map_some];cases jI wr lo hi b<;>cases k<;>first | rfl | exact zes _ _ _
theorem zEm (wr:List Nat) (lo hi b:Nat) (k:Option SB):qY (k.map fun k=>bif jI wr lo hi b then (match k with | .fro nn t l=>.gone (rsz nn t l) l.length | k=>k) else k)=qY k:=by
 cases k with
 |none=>rfl
 |some k=>simp only [Option.map_some];cases jI wr lo hi b<;>cases k<;>rfl
structure zEW (vis wr:List Nat) (lo hi:Nat) (V1 H H2:SH):Prop where
 reg:jW H H2
 keep:wk H H2
 vn:∀ν nx nx',VN ν nx H→VN ν nx' V1→nx≤nx'→VN ν nx' H2
 rho:∀ν,RLe (Sy.rho ν V1) (Sy.rho ν H2)
theorem zt0 {vis wr:List Nat} {lo hi:Nat} {V1 H H2:SH} (hr:jW (zb7 vis wr H) V1) (hk:wk (zb7 vis wr H) V1) (hvis:∀b,xM wr b=true→xM vis b=true) (h:zew wr lo hi V1 H=some H2):zEW vis wr lo hi V1 H H2:=by
 have hg:=fun n=>zqf h n
 have hc:=znM h
 have hreg2:∀b,jI wr lo hi b=true→Sy.reg (zm H2 b)=Sy.reg (zm V1 b):=fun b hb=>by rw [hg b,hb,cond_true,JO,zex]
 have hregH:jW H H2:=fun b x hx=>by
  cases ht:jI wr lo hi b with
  |false=>rw [hg b,ht];exact hx
  |true=>rw [hreg2 b ht];exact hr b x (by rw [JN,zhh];exact hx)
 refine ⟨hregH,fun l L hl=>?_,fun ν nx nx' hv hv1 hle=>⟨fun b n hb=>?_,hv1.old,fun b hb=>?_⟩,fun ν b=>?_⟩
 ·cases ht:jI wr lo hi l with
  |false=>exact ⟨L.st,L.pend,by rw [hg l,ht];exact hl⟩
  |true=>
   have hw:xM wr l=true:=by
    rcases GP.1 ht with h1 | h1
    ·exact h1
    ·exact absurd h1 (ztZ hc.2.1 hl)
   obtain ⟨s,p,h1⟩:=hk l L (by rw [JN,hl];simp [zk1,hw,hvis l hw])
   exact ⟨s,p,by rw [hg l,ht,cond_true,JO,h1,ht];rfl⟩
 ·cases ht:jI wr lo hi b with
  |false=>rw [hg b,ht] at hb;exact hv.empty b n hb
  |true=>rw [hreg2 b ht] at hb;exact hv1.empty b n hb
 ·cases ht:jI wr lo hi b with
  |false=>rw [hg b,ht] at hb;exact hv.nn b hb
  |true=>rw [hg b,ht,cond_true,JO,zEm] at hb;exact hv1.nn b hb
 ·unfold Sy.rho
  cases hx:Sy.reg (zm V1 b) with
  |none=>exact .inl rfl
  |some x=>
   right
   cases ht:jI wr lo hi b with
   |true=>rw [hreg2 b ht,hx]
   |false=>
    have h1:Sy.reg (zm (XP wr lo hi V1) b)=some x:=by rw [JO,zex];exact hx
    cases hd:zm (XP wr lo hi V1) b with
    |none=>rw [hd] at h1;cases h1
    |some k=>
     have h2:=(zyM hc.1 hd).2 ht (by rw [←hd,h1];rfl)
     obtain ⟨y,hy⟩:=Option.isSome_iff_exists.1 h2
     have h3:=hr b y (by rw [JN,zhh];exact hy)
     rw [hx] at h3
     cases h3
     rw [hregH b _ hy]
theorem RLe.trans {a b c:Nat→Value} (h:RLe a b) (k:RLe b c):RLe a c:=fun n=>by
 rcases h n with h1 | h1
 ·exact .inl h1
 ·rcases k n with k1 | k1
  ·exact .inl (h1▸k1)
  ·exact .inr (k1.trans h1)
def WK (ν:Nat→Bool) (H:SH) (tmv:List Value) (tm:List SV):Prop:=tmv.length=tm.length∧∀(i:Nat) u,tm[i]?=some u→∃ρ,(∀b,ρ b≠Fz.junk)∧RLe ρ (rho ν H)∧tmv[i]?=some (den ρ u)
theorem WK.refl (ν:Nat→Bool) (H:SH) (tm:List SV):WK ν H (zt (rho ν H) tm) tm:=⟨wa _ _,fun i u hu=>⟨rho ν H,ke ν H,RLe.refl _,by rw [wB,hu];rfl⟩⟩
theorem WK.mono {ν:Nat→Bool} {H H2:SH} {tmv:List Value} {tm:List SV} (h:WK ν H tmv tm) (hr:RLe (rho ν H) (rho ν H2)):WK ν H2 tmv tm:=⟨h.1,fun i u hu=>by
 obtain ⟨ρ,h1,h2,h3⟩:=h.2 i u hu
 exact ⟨ρ,h1,h2.trans hr,h3⟩⟩
theorem WK.put {ν:Nat→Bool} {H:SH} {tmv:List Value} {tm:List SV} (h:WK ν H tmv tm) {ρ:Nat→Value} (hj:∀b,ρ b≠Fz.junk) (hr:RLe ρ (rho ν H)) (d:Option Tmp) (v:SV):WK ν H (gp tmv d (den ρ v)) (GO tm d v):=by
 cases d with
 |none=>exact h
 |some d=>
  rw [zcl]
  simp only [GO,gm]
  refine ⟨by simp [h.1],fun i u hu=>?_⟩
  rw [List.getElem?_set] at hu ⊢
  by_cases hdi:d=i
  ·subst hdi
   rw [if_pos rfl] at hu ⊢
   split at hu
   ·rename_i hlt
    cases hu
    exact ⟨ρ,hj,hr,by rw [if_pos (by rw [h.1];exact hlt)]⟩
   ·cases hu
  ·rw [if_neg hdi] at hu ⊢
   exact h.2 i u hu
theorem WK.rel {ν:Nat→Bool} {H:SH} {tmv:List Value} {tm:List SV} (h:WK ν H tmv tm) {ts:Array Value} (ht:qI φ tmv ts):qI φ (zt (rho ν H) tm) ts:=by
 refine ⟨by rw [wa,←h.1];exact ht.1,fun i v hv=>?_⟩
 rw [wB,Option.map_eq_some_iff] at hv
 obtain ⟨u,hu,rfl⟩:=hv
 obtain ⟨ρ,h1,h2,h3⟩:=h.2 i u hu
 rcases ht.2 i _ h3 with h0 | ⟨v',e1,e2⟩
 ·exact .inl (zib h1 h0)
 ·exact .inr ⟨v',e1,zbo h2 u v' e2⟩
theorem zt1 (tm:List SV):∀(sl:List Nat) (t:List SV),(zd3 tm sl t).length=t.length∧∀(i:Nat),t.length=tm.length→((i∈sl→(zd3 tm sl t)[i]?=tm[i]?)∧(i∉sl→(zd3 tm sl t)[i]?=t[i]?)∧(t[i]?=tm[i]?→(zd3 tm sl t)[i]?=tm[i]?))
 |[],t=>⟨rfl,fun i _=>⟨(fun h=>by cases h),fun _=>rfl,fun h=>h⟩⟩
 |s::r,t=>by
  obtain ⟨h1,h2⟩:=zt1 tm r (lsS t s (gj tm s))
  rw [gm] at h1 h2
  simp only [zd3,gm]
  refine ⟨by rw [h1];simp,fun i hl=>?_⟩
  obtain ⟨e1,e2,e3⟩:=h2 i (by simpa using hl)
  have hs:(t.set s (gj tm s))[s]?=tm[s]?:=by
   unfold gj
   rw [yJ,List.getElem?_set]
   by_cases hlt:s < t.length
   ·rw [if_pos rfl,if_pos hlt]
    have:s < tm.length:=by omega
    simp [this]
   ·rw [if_pos rfl,if_neg hlt]
    rw [List.getElem?_eq_none (by omega)]
  have hst:t[i]?=tm[i]?→(t.set s (gj tm s))[i]?=tm[i]?:=fun h=>by
   by_cases hsi:s=i
   ·subst hsi;exact hs
   ·rw [List.getElem?_set,if_neg hsi];exact h
  refine ⟨fun hi=>?_,fun hi=>?_,fun h=>e3 (hst h)⟩
  ·rcases List.mem_cons.1 hi with rfl | hi
   ·exact e3 hs
   ·exact e1 hi
  ·simp only [List.mem_cons,not_or] at hi
   rw [e2 hi.2,List.getElem?_set,if_neg (fun e=>hi.1 e.symm)]
theorem WK.keep {ν:Nat→Bool} {H:SH} {tmv:List Value} {tm:List SV} (h:WK ν H tmv tm) (sl:List Nat):WK ν H (gh tmv sl) (zd3 tm sl (List.replicate tm.length .junk)):=by
 obtain ⟨k1,k2⟩:=zt1 tm sl (List.replicate tm.length .junk)
 have k3:=(zfQ (tm:=tmv) (slots:=sl)).1
 refine ⟨by rw [k3,k1,h.1];simp,fun i u hu=>?_⟩
 obtain ⟨e1,e2,_⟩:=k2 i (by simp)
 by_cases hi:i∈sl
 ·rw [e1 hi] at hu
  rw [zoh hi]
  exact h.2 i u hu
 ·rw [e2 hi,List.getElem?_replicate] at hu
  split at hu
  ·rename_i hlt
   cases hu
   refine ⟨rho ν H,ke ν H,RLe.refl _,?_⟩
   have hl:i < (gh tmv sl).length:=by rw [k3,h.1];exact hlt
   have hx:(gh tmv sl)[i]?=some (gh tmv sl)[i]:=by simp [hl]
   rcases (zfQ (tm:=tmv) (slots:=sl)).2 i _ hx with h0 | ⟨h0,_⟩
   ·rw [hx,h0];simp [den]
   ·exact absurd h0 hi
  ·cases hu
theorem WK.any {ν:Nat→Bool} {H:SH} {tmv:List Value} {tm:List SV} (h:WK ν H tmv tm):∀(i:Nat) u,tm[i]?=some u→∃ρ,tmv[i]?=some (den ρ u):=fun i u hu=>by
 obtain ⟨ρ,_,_,h3⟩:=h.2 i u hu
 exact ⟨ρ,h3⟩
theorem zk2 {ν:Nat→Bool} {ρ:Nat→Value} {b:Nat} {x:Blk}:∀{H:SH},(b,x)∈uf ν ρ H→∃k,(b,k)∈H∧zU ρ (ν b) k=some x
 |[],h=>by cases h
 |(c,k)::r,h=>by
  have hdel:∀(G:Hp) (y:Nat×Blk),y∈G.del c→y∈G:=by
   intro G y hy
   induction G with
   |nil=>cases hy
   |cons z G ih=>
    obtain ⟨d,u⟩:=z
    simp only [Hp.del] at hy
    split at hy
    ·exact List.mem_cons_of_mem _ (ih hy)
    ·rcases List.mem_cons.1 hy with rfl | hy
     ·simp
     ·exact List.mem_cons_of_mem _ (ih hy)
  simp only [uf] at h
  split at h
  ·rename_i y hy
   rcases List.mem_cons.1 h with h | h
   ·cases h;exact ⟨k,by simp,hy⟩
   ·obtain ⟨k',h1,h2⟩:=zk2 h
    exact ⟨k',List.mem_cons_of_mem _ h1,h2⟩
  ·obtain ⟨k',h1,h2⟩:=zk2 (hdel _ _ h)
   exact ⟨k',List.mem_cons_of_mem _ h1,h2⟩
theorem zyN {wr:List Nat} {lo hi:Nat} {H:SH} {b:Nat} {k:SB}:∀{H1:SH},okT wr lo hi H H1=true→(b,k)∈H1→jI wr lo hi b=true→rwK k=true
 |[],_,h,_=>by cases h
 |(c,x)::r,ho,h,ht=>by
  simp only [okT,Bool.and_eq_true] at ho
  rcases List.mem_cons.1 h with h | h
  ·cases h;have h1:=ho.1;rw [ht] at h1;exact h1
  ·exact zyN ho.2 h ht
theorem zwD:∀{H:Hp},(∀b x,(b,x)∈H→x.rw=true)→zdV H=true
 |[],_=>rfl
 |(b,x)::r,h=>by
  simp only [zdV,h b x (by simp),Bool.true_and]
  exact zwD fun c y hy=>h c y (List.mem_cons_of_mem _ hy)
theorem zbt {p:Nat→Bool} {b:Nat} {x:Blk}:∀{H:Hp},(b,x)∈Hp.only p H→p b=true∧(b,x)∈H
 |[],h=>by cases h
 |(c,y)::r,h=>by
  simp only [Hp.only] at h
  split at h
  ·rename_i hp
   rcases List.mem_cons.1 h with h | h
   ·cases h;exact ⟨hp,by simp⟩
   ·exact ⟨(zbt h).1,List.mem_cons_of_mem _ (zbt h).2⟩
  ·exact ⟨(zbt h).1,List.mem_cons_of_mem _ (zbt h).2⟩
theorem zEn {ρ:Nat→Value} {nil:Bool} {k:SB} {x:Blk} (h:rwK k=true) (hx:zU ρ nil k=some x):x.rw=true:=by
 cases k with
 |arr nn t l=>
  simp only [zU] at hx
  cases hn:jD nn l<;>rw [hn] at hx<;>cases hx
  rfl
 |_=>simp [rwK] at h<;>simp only [zU,Option.some.injEq,reduceCtorEq] at hx<;>(subst hx;rfl)
theorem zCS {ρ:Nat→Value} {nil:Bool} {k:SB} {n:Nat} (h:reg (some k)=some (n,0)):zU ρ nil k=none:=by
 have key:∀(nn:Bool) (t:Ty) (l:List (T t)),some (l.length,rsz nn t l)=some (n,0)→jD nn l=true:=fun nn t l h=>by
  unfold rsz at h
  cases hn:jD nn l with
  |true=>rfl
  |false=>rw [hn] at h;simp at h
 cases k with
 |arr nn t l=>simp [zU,key nn t l h]
 |roa nn t l=>simp [zU,key nn t l h]
 |fro nn t l=>simp [zU,key nn t l h]
 |gone s m=>rfl
 |_=>simp [reg] at h
theorem zyO {H:SH} {b:Nat}:∀{wr:List Nat},okW H wr=true→xM wr b=true→∃k,zm H b=some k∧(∀s n,k≠.gone s n)∧k≠.abs
 |[],_,h=>by cases h
 |c::r,ho,h=>by
  simp only [okW,Bool.and_eq_true] at ho
  have h:(bif Nat.beq c b then true else xM r b)=true:=h
  by_cases hc:c=b
  ·subst hc
   have h1:=ho.1
   cases hk:zm H c with
   |none=>rw [hk] at h1;cases h1
   |some k=>
    refine ⟨k,rfl,fun s n e=>?_,fun e=>?_⟩<;>subst e<;>rw [hk] at h1<;>cases h1
  ·have:Nat.beq c b=false:=by
    cases hb:Nat.beq c b with
    |false=>rfl
    |true=>exact absurd (Nat.eq_of_beq_eq_true hb) hc
   rw [this] at h
   exact zyO ho.2 h
structure zCT (s:Stp) (t:Jf):Prop where
 ran:s.ran=t.ran
 lo:s.lo=t.lo
 hi:s.hi=t.hi
 vis:∀x∈s.V,xM t.vis x.1=true
 wr:∀b,s.wr b=true→xM t.wr b=true
theorem zEo {op:List SV→SH→Nat→Oper→KO R→Option R} {rd:Option Nat} {ops:Array Oper} {o:Oper} {vis wr:List Nat} {tm:List SV} {H V1 H2:SH} {nx nx1:Nat} {v:SV}
  (hop:SOp P rd o (zd3 tm (xw ops o) (List.replicate tm.length .junk)) (zb7 vis wr H) nx v V1 nx1) (hvis:∀b,xM wr b=true→xM vis b=true) (hb:zew wr nx nx1 V1 H=some H2)
  {ν:Nat→Bool} (hv:VN ν nx H) {tmv:List Value} {G:Hp} (ht:WK ν H tmv tm) (hm:Mix G (zE ν H)) (hw:vh ops tmv o=some true) :
  ∃s:Stp,zvv P rd ops o tmv G nx s∧s.o=o∧s.hi=nx1∧VN ν nx1 H2∧WK ν H2 (gp tmv o.dst s.v) (GO tm o.dst v)∧Mix (if s.ran then GK s.touch s.H' G else G) (zE ν H2)∧zCT s ⟨true,vis,wr,nx,nx1⟩:=by
 obtain ⟨r1,r2,r3,r4⟩:=hop
 obtain ⟨v1,o1⟩:=r4 ν (zyL hv)
 have B:=zt0 r1 r2 hvis hb
 have hc:=znM hb
 have hg:=fun n=>zqf hb n
 let wr':Nat→Bool:=fun b=>xM wr b&&(G.get b).isSome
 have hvm:=zCR (vis:=vis) (wr:=wr) hm wr' (fun _=>rfl)
 have hdrop:∀b x,(zE ν (XP wr nx nx1 V1)).get b=some x→(zE ν V1).get b=some x:=fun b x hx=>by
  have hr:rho ν (XP wr nx nx1 V1)=rho ν V1:=yY (fun c=>by rw [JO,zex]) ν
  rw [zL,JO,hr] at hx
  rw [zL]
  cases hk:zm V1 b with
  |none=>rw [hk] at hx;cases hx
  |some k=>
   rw [hk] at hx
   simp only [Option.map_some,Option.bind_some] at hx ⊢
   cases htb:jI wr nx nx1 b with
   |false=>rw [htb] at hx;exact hx
   |true=>
    rw [htb,cond_true] at hx
    cases k<;>first | exact hx | (simp [zU] at hx)
 have htouch:∀b,jV wr' nx nx1 b=true→jI wr nx nx1 b=true:=fun b hb=>by
  simp only [jV,wr',Bool.or_eq_true,Bool.and_eq_true,decide_eq_true_eq] at hb
  rw [GP]
  rcases hb with hb | hb
  ·exact .inl hb.1
  ·exact .inr hb
 refine ⟨⟨o,true,den (rho ν V1) v,gh tmv (xw ops o),Hp.only (xM vis) (KE wr' (fun _=>false) G),wr',zE ν (XP wr nx nx1 V1),nx,nx1⟩,⟨rfl,rfl,r3,rfl,?_,fun _=>⟨?_,?_⟩,fun b k hk=>?_,(fun h=>by cases h),fun b hb=>?_⟩,rfl,rfl,B.vn ν nx nx1 hv v1 r3,?_,?_,⟨rfl,rfl,rfl,fun x hx=>(zbt (b:=x.1) (x:=x.2) hx).1,fun b hb=>?_⟩⟩
 ·rw [←zkC];exact hw
 ·refine JM (zwu o1 (fun φ K w g=>hvm.good g) fun φ K w g ts htr=>?_) (fun φ v' h=>h) (fun φ K w g=>g.sub hdrop)
  rw [zwA]
  exact (ht.keep (xw ops o)).rel htr
 ·refine zwD fun b x hx=>?_
  obtain ⟨h1,h2⟩:=zbt hx
  obtain ⟨k,h3,h4⟩:=zk2 h2
  exact zEn (zyN hc.1 h3 (htouch b h1)) h4
 ·dsimp only at hk ⊢
  rw [Hp.get_only] at hk
  split at hk
  ·rw [zdU,Option.map_eq_some_iff] at hk
   obtain ⟨k0,h1,rfl⟩:=hk
   exact ⟨k0,h1,rfl⟩
  ·cases hk
 ·simp only [wr',Bool.and_eq_true] at hb
  obtain ⟨k0,hk0⟩:=Option.isSome_iff_exists.1 hb.2
  refine ⟨vi wr' (fun _=>false) b k0,?_⟩
  rw [Hp.get_only,if_pos (hvis b hb.1),zdU,hk0];rfl
 ·exact (ht.mono (zet ν B.reg)).put (ke ν V1) (B.rho ν) o.dst v
 ·simp only [if_true]
  intro b x hx
  have hstouch:Stp.touch ⟨o,true,den (rho ν V1) v,gh tmv (xw ops o),Hp.only (xM vis) (KE wr' (fun _=>false) G),wr',zE ν (XP wr nx nx1 V1),nx,nx1⟩ b=jV wr' nx nx1 b:=rfl
  rw [zcn,hstouch]
  rw [zL,hg b] at hx
  cases htb:jI wr nx nx1 b with
  |false=>
   have h0:jV wr' nx nx1 b=false:=by
    cases h0:jV wr' nx nx1 b with
    |false=>rfl
    |true=>rw [htouch b h0] at htb;cases htb
   rw [htb,cond_false,Option.bind_eq_some_iff] at hx
   obtain ⟨k,hk,hx⟩:=hx
   obtain ⟨y,h1,h2⟩:=zwz (ke ν H) (zet ν B.reg) hx
   obtain ⟨z,h3,h4⟩:=hm b y (by rw [zL,hk];exact h1)
   rw [h0]
   exact ⟨z,h3,h4.trans h2⟩
  |true=>
   rw [htb,cond_true,Option.bind_eq_some_iff] at hx
   obtain ⟨k,hk,hx⟩:=hx
   have hr:rho ν (XP wr nx nx1 V1)=rho ν V1:=yY (fun c=>by rw [JO,zex]) ν
   obtain ⟨y,h1,h2⟩:=zwz (ke ν V1) (B.rho ν) hx
   have hy:(zE ν (XP wr nx nx1 V1)).get b=some y:=by rw [zL,hk,hr];exact h1
   cases h0:jV wr' nx nx1 b with
   |true=>exact ⟨y,by simpa using hy,h2⟩
   |false=>
    exfalso
    have hbw:xM wr b=true:=by
     rcases GP.1 htb with h | h
     ·exact h
     ·simp only [jV,Bool.or_eq_false_iff,Bool.and_eq_false_iff,decide_eq_false_iff_not] at h0
      omega
    have hGn:G.get b=none:=by
     simp only [jV,wr',Bool.or_eq_false_iff,hbw,Bool.true_and] at h0
     cases hG:G.get b with
     |none=>rfl
     |some z=>rw [hG] at h0;simp at h0
    obtain ⟨k0,hk0,hng,hna⟩:=zyO hc.2.2 hbw
    have hdn:zU (rho ν H) (ν b) k0=none:=by
     cases hd:zU (rho ν H) (ν b) k0 with
     |none=>rfl
     |some z=>
      obtain ⟨z0,h5,_⟩:=hm b z (by rw [zL,hk0];exact hd)
      rw [hGn] at h5;cases h5
    have hnil:∃n,reg (some k0)=some (n,0):=by
     cases k0 with
     |gone s n=>exact absurd rfl (hng s n)
     |abs=>exact absurd rfl hna
     |arr nn t l=>cases hn:jD nn l with
      |true=>exact ⟨l.length,by simp [reg,rsz,hn]⟩
      |false=>simp [zU,hn] at hdn
     |roa nn t l=>cases hn:jD nn l with
      |true=>exact ⟨l.length,by simp [reg,rsz,hn]⟩
      |false=>simp [zU,hn] at hdn
     |fro nn t l=>cases hn:jD nn l with
      |true=>exact ⟨l.length,by simp [reg,rsz,hn]⟩
      |false=>simp [zU,hn] at hdn
     |_=>simp [zU] at hdn
    obtain ⟨n0,hy0⟩:=hnil
    have h6:=r1 b (n0,0) (by rw [JN,zhh,hk0];exact hy0)
    rw [JO,Option.map_eq_some_iff] at hk
    obtain ⟨k1,hk1,hk2⟩:=hk
    rw [hk1] at h6
    have h7:reg (some k)=some (n0,0):=by
     rw [←h6,←hk2]
     exact zex wr nx nx1 b (some k1)
    rw [zCS h7] at h1
    cases h1
 ·simp only [wr',Bool.and_eq_true] at hb;exact hb.1
def zwE (t:Jf):List Nat→Bool
 |[]=>false
 |x::r=>jI t.wr t.lo t.hi x||zwE t r
def zsm (ms:List Nat) (t:Jf) (j:Nat):Nat→List Jf→Bool
 |_,[]=>true
 |i,s::r=>(Nat.beq i j||(zkI ms i j||!zwE t s.vis))&&zsm ms t j (i+1) r
def zsn (ms:List Nat) (all:List Jf):Nat→List Jf→Bool
 |_,[]=>true
 |j,t::r=>(!t.ran||(zik t.wr t.lo t.hi||zsm ms t j 0 all))&&zsn ms all (j+1) r
theorem zwF {t:Jf} {x:Nat}:∀{l:List Nat},zwE t l=false→xM l x=true→jI t.wr t.lo t.hi x=false
 |[],_,h=>by cases h
 |y::r,hh,h=>by
  simp only [zwE,Bool.or_eq_false_iff] at hh
  have h:(bif Nat.beq y x then true else xM r x)=true:=h
  cases hb:Nat.beq y x with
  |true=>have:=Nat.eq_of_beq_eq_true hb;subst this;exact hh.1
  |false=>rw [hb] at h;exact zwF hh.2 h
theorem zyP {ms:List Nat} {t:Jf} {j:Nat}:∀{l:List Jf} {i m:Nat} {s:Jf},zsm ms t j i l=true→l[m]?=some s→i+m=j∨zkI ms (i+m) j=true∨zwE t s.vis=false
 |[],_,_,_,_,h=>by simp at h
 |x::r,i,0,s,hf,h=>by
  simp at h
  subst h
  simp only [zsm,Bool.and_eq_true,Bool.or_eq_true,Bool.not_eq_true'] at hf
  rcases hf.1 with h1 | h1 | h1
  ·exact .inl (Nat.eq_of_beq_eq_true h1)
  ·exact .inr (.inl h1)
  ·exact .inr (.inr h1)
 |x::r,i,m+1,s,hf,h=>by
  simp only [zsm,Bool.and_eq_true] at hf
  have:=zyP (m:=m) hf.2 (by simpa using h)
  rwa [show i+1+m=i+(m+1) by omega] at this
theorem zyQ {ms:List Nat} {all:List Jf}:∀{l:List Jf} {j m:Nat} {t:Jf},zsn ms all j l=true→l[m]?=some t→t.ran=false∨zik t.wr t.lo t.hi=true∨zsm ms t (j+m) 0 all=true
 |[],_,_,_,_,h=>by simp at h
 |x::r,j,0,t,hf,h=>by
  simp at h
  subst h
  simp only [zsn,Bool.and_eq_true,Bool.or_eq_true,Bool.not_eq_true'] at hf
  exact hf.1
 |x::r,j,m+1,t,hf,h=>by
  simp only [zsn,Bool.and_eq_true] at hf
  have:=zyQ (m:=m) hf.2 (by simpa using h)
  rwa [show j+1+m=j+(m+1) by omega] at this
theorem zCU {ms:List Nat} {ss:List Stp} {sl:List Jf} (hl:sl.length=ss.length) (hfit:∀(j:Nat) s t,ss[j]?=some s→sl[j]?=some t→zCT s t) (h:zsn ms sl 0 sl=true):zh7 ms ss=true:=by
 unfold zh7
 rw [List.all_eq_true]
 rintro ⟨t,j⟩ ht
 rw [List.mem_zipIdx_iff_getElem?] at ht
 dsimp only at ht ⊢
 have hj:j < ss.length:=(List.getElem?_eq_some_iff.1 ht).1
 have ht':sl[j]?=some sl[j]:=by simp [hl,hj]
 have ft:=hfit j t _ ht ht'
 have htouch:∀x,t.touch x=true→jI sl[j].wr sl[j].lo sl[j].hi x=true:=fun x hx=>by
  simp only [Stp.touch,jV,Bool.or_eq_true,Bool.and_eq_true,decide_eq_true_eq] at hx
  rw [GP]
  rcases hx with hx | hx
  ·exact .inl (ft.wr x hx)
  ·exact .inr (by rw [←ft.lo,←ft.hi];exact hx)
 rcases zyQ h ht' with h1 | h1 | h1
 ·rw [ft.ran,h1];rfl
 ·have hq:=znL h1
  have h2:Nat.beq t.lo t.hi=true:=by
   unfold zik at h1
   simp only [Bool.and_eq_true] at h1
   rw [ft.lo,ft.hi];exact h1.2
  have h3:(t.V.all fun x=>!t.wr x.1)=true:=by
   rw [List.all_eq_true]
   intro x _
   cases hw:t.wr x.1 with
   |false=>rfl
   |true=>
    have:=hq x.1
    have h5:jI sl[j].wr sl[j].lo sl[j].hi x.1=true:=GP.2 (.inl (ft.wr _ hw))
    rw [this] at h5;cases h5
  rw [h2,h3];simp
 ·rw [Nat.zero_add] at h1
  simp only [Bool.or_eq_true]
  right
  rw [List.all_eq_true]
  rintro ⟨s,i⟩ hs
  rw [List.mem_zipIdx_iff_getElem?] at hs
  dsimp only at hs ⊢
  have hi:i < ss.length:=(List.getElem?_eq_some_iff.1 hs).1
  have hs':sl[i]?=some sl[i]:=by simp [hl,hi]
  have fs:=hfit i s _ hs hs'
  have:=zyP h1 hs'
  rw [Nat.zero_add] at this
  rcases this with h2 | h2 | h2
  ·simp [h2]
  ·have:VK ms i j=true:=by
    unfold zkI at h2
    rw [zbn,zbn] at h2
    exact h2
   simp [this]
  ·simp only [Bool.or_eq_true]
   right
   rw [List.all_eq_true]
   intro x hx
   have h3:=zwF h2 (fs.vis x hx)
   cases ht:t.touch x.1 with
   |false=>rfl
   |true=>rw [htouch _ ht] at h3;cases h3
theorem zoy {op:List SV→SH→Nat→Oper→KO R→Option R} {rd:Option Nat} (hop:OpS P rd op) {ops:Array Oper} {cut:Nat→List SV→SH→List Jf→Option (List Nat×List Nat)} :
  ∀
   {l:List Oper} {i:Nat} {done:List Jf} {tm:List SV} {H:SH} {nx:Nat} {k:List Jf→List SV→SH→Nat→Option R} {r:R},zmH op ops cut i done l tm H nx k=some r→
   ∃
    (sl:List Jf) (tm':List SV) (H':SH) (nx':Nat),sl.length=l.length∧k (done.reverse++sl) tm' H' nx'=some r∧jW H H'∧wk H H'∧Zr (XG l) tm tm'∧nx≤nx'∧
    ∀
     ν,VN ν nx H→VN ν nx' H'∧∀(tmv:List Value) (G:Hp),WK ν H tmv tm→Mix G (zE ν H)→
     ∃
      ss:List Stp,ss.length=l.length∧(∀(j:Nat) o s,l[j]?=some o→ss[j]?=some s→zvv P rd ops o (tmR (ss.take j) tmv) (hpR (ss.take j) G) (nxR (ss.take j) nx) s)∧nxR ss nx=nx'∧
      WK ν H' (tmR ss tmv) tm'∧Mix (hpR ss G) (zE ν H')∧∀(j:Nat) s t,ss[j]?=some s→sl[j]?=some t→zCT s t
 |[],i,done,tm,H,nx,k,r,h=>by
  simp only [zmH] at h
  refine ⟨[],tm,H,nx,rfl,by simpa using h,jW.refl H,wk.refl H,Zr.refl _ _,Nat.le_refl _,fun ν hv=>⟨hv,fun tmv G ht hm=>⟨[],rfl,fun j o s hj=>by simp at hj,rfl,ht,hm,fun j s t hj=>by simp at hj⟩⟩⟩
 |o::l,i,done,tm,H,nx,k,r,h=>by
  have hin1:∀i∈o.dst.toList,i∈XG (o::l):=fun i hi=>by
   show i∈(match o.dst with | some d=>d::XG l | none=>XG l)
   cases hd:o.dst with
   |none=>rw [hd] at hi;cases hi
   |some d=>rw [hd] at hi;simp at hi;subst hi;simp
  have hin2:∀i∈XG l,i∈XG (o::l):=fun i hi=>by
   show i∈(match o.dst with | some d=>d::XG l | none=>XG l)
   cases o.dst with
   |none=>exact hi
   |some d=>exact List.mem_cons_of_mem _ hi
  simp only [zmH] at h
  rcases zwx h with ⟨hw,h1⟩ | ⟨hw,h1⟩
  ·split at h1
   case h_2=>cases h1
   rename_i wr vis hcut
   have h6:=zA h1
   clear h1
   obtain ⟨hsub,h1⟩:=h6
   have hvis:∀b,xM wr b=true→xM vis b=true:=fun b hb=>zwC hsub hb
   obtain ⟨v,V1,nx1,hs,h2⟩:=hop h1
   dsimp only at h2
   split at h2
   case h_2=>cases h2
   rename_i H2 hb
   obtain ⟨sl,tm',H',nx',e1,e2,e3,e4,e5,e6,e7⟩:=zoy hop h2
   have B:=zt0 hs.1 hs.2.1 hvis hb
   refine ⟨⟨true,vis,wr,nx,nx1⟩::sl,tm',H',nx',by simp [e1],by simpa using e2,B.reg.trans e3,B.keep.trans e4,(zf0 tm o.dst v).trans e5 hin1 hin2,Nat.le_trans hs.2.2.1 e6,fun ν hv=>?_⟩
   have hvn:VN ν nx1 H2:=B.vn ν nx nx1 hv (hs.2.2.2 ν (zyL hv)).1 hs.2.2.1
   obtain ⟨f1,f2⟩:=e7 ν hvn
   refine ⟨f1,fun tmv G ht hm=>?_⟩
   obtain ⟨s,g1,g2,g3,_,g5,g6,g7⟩:=zEo (op:=op) hs hvis hb hv ht hm (hw tmv ht.any)
   obtain ⟨ss,q1,q2,q3,q4,q5,q6⟩:=f2 _ _ g5 g6
   have hhd:gp tmv s.o.dst s.v=gp tmv o.dst s.v:=by rw [g2]
   refine ⟨s::ss,by simp [q1],fun j o' s' ho' hs'=>?_,?_,?_,?_,fun j s' t' hs' ht'=>?_⟩
   ·cases j with
    |zero=>simp at ho' hs';subst ho';subst hs';exact g1
    |succ j=>
     simp only [List.getElem?_cons_succ] at ho' hs'
     have:=q2 j o' s' ho' hs'
     simp only [List.take_succ_cons,tmR,hpR,nxR,g3,hhd]
     exact this
   ·simp only [nxR,g3];exact q3
   ·simp only [tmR,hhd];exact q4
   ·simp only [hpR];exact q5
   ·cases j with
    |zero=>simp at hs' ht';subst hs';subst ht';exact g7
    |succ j=>simp at hs' ht';exact q6 j s' t' hs' ht'
  ·obtain ⟨sl,tm',H',nx',e1,e2,e3,e4,e5,e6,e7⟩:=zoy hop h1
   refine ⟨⟨false,[],[],nx,nx⟩::sl,tm',H',nx',by simp [e1],by simpa using e2,e3,e4,(zf0 tm o.dst _).trans e5 hin1 hin2,e6,fun ν hv=>?_⟩
   obtain ⟨f1,f2⟩:=e7 ν hv
   refine ⟨f1,fun tmv G ht hm=>?_⟩
   have hu:undef=den (rho ν H) (.tup []):=by simp [den,zt,undef]
   obtain ⟨ss,q1,q2,q3,q4,q5,q6⟩:=f2 (gp tmv o.dst undef) G (by rw [hu];exact ht.put (ke ν H) (RLe.refl _) o.dst _) hm
   refine ⟨⟨o,false,undef,gh tmv (xw ops o),[],fun _=>false,[],nx,nx⟩::ss,by simp [q1],fun j o' s' ho' hs'=>?_,?_,?_,?_,fun j s' t' hs' ht'=>?_⟩
   ·cases j with
    |zero=>
     simp at ho' hs'
     subst ho';subst hs'
     refine ⟨rfl,rfl,Nat.le_refl _,rfl,?_,(fun h=>by cases h),(fun b k hb=>by simp [Hp.get_nil] at hb),fun _=>⟨rfl,fun b=>by simp [Stp.touch,jV]⟩,fun b hb=>by cases hb⟩
     show vh ops (gh tmv (xw ops o)) o=some false
     rw [←zkC]
     exact hw tmv ht.any
    |succ j=>
     simp only [List.getElem?_cons_succ] at ho' hs'
     exact q2 j o' s' ho' hs'
   ·exact q3
   ·exact q4
   ·simp only [hpR,Bool.false_eq_true,if_false];exact q5
   ·cases j with
    |zero=>
     simp at hs' ht'
     subst hs';subst ht'
     exact ⟨rfl,rfl,rfl,(fun x hx=>by cases hx),(fun b hb=>by cases hb)⟩
    |succ j=>simp at hs' ht';exact q6 j s' t' hs' ht'
theorem zgw {r:Option Nat} {c:Code} {tm:List Value} {ds:List Nat} {H:Hp} {nx:Nat} {R R2:Res} (h:jb P r c tm ds H nx R) (he:R2.e=R.e) (hd:R2.ds=R.ds) (hn:R2.nx=R.nx) (hH:∀φ K w,zF φ R.H K w→zF φ R2.H K w) (ht:∀φ ts,qI φ R.tm ts→qI φ R2.tm ts):jb P r c tm ds H nx R2:=by
 obtain ⟨e,t,d,H',n⟩:=R2
 dsimp only at he hd hn hH ht
 subst he;subst hd;subst hn
 refine ⟨h.1,fun φ w K a rc g hf htm hds hr=>wpIn_mono (h.2 φ w K a rc g hf htm hds hr) ?_⟩
 rintro e a1 w1 ⟨rfl,φ1,k1,k2,k3,k4,k5⟩
 exact ⟨rfl,φ1,k1,hH _ _ _ k2,ht _ _ k3,k4,k5⟩
def zCV (tm:List SV) (x:Operand):List Nat:=match x with
 |.tmp t=>match gl tm t with
  |some (.ptr b _)=>[b]
  |some (.elp b _ _ _)=>[b]
  |some (.own b)=>[b]
  |_=>[]
 |_=>[]
def zgx (tm:List SV) (x:Operand):List Nat:=match x with
 |.tmp t=>match gl tm t with
  |some (.own b)=>[b]
  |_=>[]
 |_=>[]
def mpS (tm:List SV) (x:Operand):List Nat:=match x with
 |.tmp t=>match gl tm t with
  |some (.mp b)=>[b]
  |_=>[]
 |_=>[]
def zEX (tm:List SV) (o:Oper):Option (List Nat):=match o.op with
 |.load _ a=>some (zCV tm a)
 |.store _ a x=>some (zCV tm a++zgx tm x)
 |.indexAddr _ x _=>some (zgx tm x)
 |.slice _ x _ _ _=>some (zgx tm x)
 |.buildSlice _ _ ps=>some (ps.toList.flatMap fun p=>zgx tm p.2)
 |.call {callee:=.builtin _,args:=args,argTypes:=_}=>some (args.toList.flatMap (zgx tm))
 |.lookup _ m _ _=>some (mpS tm m)
 |.mapUpdate _ m _ _=>some (mpS tm m)
 |.insert _ m _ _=>some (mpS tm m)
 |.call _=>none
 |_=>some []
def zwG (tm:List SV) (o:Oper):List Nat:=match o.op with
 |.store _ a x=>zCV tm a++zgx tm x
 |.slice _ x _ _ _=>zgx tm x
 |.buildSlice _ _ ps=>ps.toList.flatMap fun p=>zgx tm p.2
 |.lookup _ m _ _=>mpS tm m
 |.mapUpdate _ m _ _=>mpS tm m
 |.insert _ m _ _=>mpS tm m
 |.call {callee:=.builtin .append,args:=args,argTypes:=_}=>match args.toList with
  |s::_=>zgx tm s
  |_=>[]
 |.call {callee:=.builtin .copy,args:=args,argTypes:=_}=>match args.toList with
  |s::_=>zgx tm s
  |_=>[]
 |_=>[]
def zCW (H:SH) (b:Nat):Bool:=match zm H b with
 |some (.vars _)=>true
 |some (.arr _ _ _)=>true
 |some (.loop _)=>true
 |some .defd=>true
 |some (.mpb _ _ _ _)=>true
 |_=>false
def qB:SH→List Nat
 |[]=>[]
 |(b,_)::r=>b::qB r
def zcr (H:SH):List Nat→List Nat
 |[]=>[]
 |b::r=>bif zCW H b then b::zcr H r else zcr H r
def zzZ:List SV→List Nat
 |[]=>[]
 |.own b::r=>b::zzZ r
 |_::r=>zzZ r
def zwH (tm:List SV):List Operand→List Nat
 |[]=>[]
 |.tmp t::r=>(match gl tm t with
  |some (.own b)=>[b]
  |some (.agg cs)=>zzZ cs
  |_=>[])++zwH tm r
 |_::r=>zwH tm r
def zCX (o:Oper):List Operand:=match o.op with
 |.call {callee:=.value _,args:=args,argTypes:=_}=>args.toList
 |_=>[]
def zFF (ops:Array Oper) (ms:List Nat) (est:List (List Nat)) (i:Nat) (tm:List SV) (H:SH) (done:List Jf):Option (List Nat×List Nat):=
 match gl ops.toList i with
 |none=>none
 |some o=>match zEX tm o with
  |some bs=>some (zcr H (zwG tm o),bs)
  |none=>match (List.range ops.size).filter fun j=>j != i&&!zkI ms i j with
   |[]=>some (zcr H (qB H),qB H)
   |others=>match others.flatMap (fun j=>est.getD j []++(match ops[j]? with | some p=>zwG tm p | none=>[])),others.filterMap fun j=>if j < i then (match (done.reverse)[j]? with | some s=>if s.lo < s.hi then some (s.lo,s.hi) else none | none=>none) else none with
    |mask,rs=>some (zcr H ((zwH tm (zCX o)).filter fun b=>!(mask.contains b||zsb rs b)),(qB H).filter fun b=>!(mask.contains b||zsb rs b))
def zBj (P:Program) (ops:Array Oper) (H:SH):List Oper→List SV→List (List Nat)
 |[],_=>[]
 |o::l,tm=>zwG tm o::zBj P ops H l (GO tm o.dst (match zzJ P tm H 0 o with
  |some (v,_,_)=>v
  |none=>.junk))
def zk3 (H:SH) (tm:List SV):List Operand→SH
 |[]=>H
 |x::r=>match x with
  |.tmp t=>match gl tm t with
   |some (.own b)=>match zm H b with
    |some (.arr nn ty l)=>zk3 (wF H b (.fro nn ty l)) tm r
    |_=>zk3 H tm r
   |_=>zk3 H tm r
  |_=>zk3 H tm r
def zBk (o:Oper):List Operand:=match o.op with
 |.call {callee:=.value _,args:=args,argTypes:=_}=>args.toList
 |.slice _ x _ _ _=>[x]
 |_=>[]
def mvS (tm:List SV) (o:Oper):List SV:=match o.op with
 |.move (.tmp t)=>match gl tm t with
  |some (.own b)=>GO tm o.dst (.own b)
  |_=>tm
 |_=>tm
def plT:Ty→Bool
 |.list _=>false
 |.pair a b=>plT a&&plT b
 |_=>true
def zEY (P:Program) (o:Oper):Bool:=match o.op with
 |.call {callee:=.value (.func f),args:=_,argTypes:=_}=>match zvI P f with
  |some fn=>!(fn.resultTypes.toList.all fun t=>match zkS P 30 t with
   |some ty=>plT ty
   |none=>true)
  |none=>false
 |_=>false
def zwI (P:Program) (H:SH) (tm0 tm:List SV):List Oper→SH
 |[]=>H
 |o::l=>zwI P (zk3 (zk3 H tm0 (zBk o)) (bif zEY P o then tm else tm0) (zBk o)) tm0 (mvS tm o) l
theorem VL (tm:List SV):∀(xs:List Operand) (H:SH),xc H (zk3 H tm xs)
 |[],H=>xc.refl H
 |x::r,H=>by
  unfold zk3
  split
  ·split
   ·split
    ·rename_i hb;exact (GL hb).trans (VL tm r _)
    ·exact VL tm r _
   ·exact VL tm r _
  ·exact VL tm r _
theorem zqg (tm0:List SV):∀(l:List Oper) (tm:List SV) (H:SH),xc H (zwI P H tm0 tm l)
 |[],tm,H=>xc.refl H
 |o::l,tm,H=>((VL tm0 _ H).trans (VL _ _ _)).trans (zqg tm0 l _ _)
def zz0 (P:Program) (op:List SV→SH→Nat→Oper→KO R→Option R) (ops:Array Oper) (tm:List SV) (H:SH) (nx:Nat) (k:List SV→SH→Nat→Option R):Option R:=
 match zkF ops.toList 0 [] with
 |ms=>match zwI P H tm tm ops.toList with
  |H1=>match (bif ops.toList.any zvZ then zBj P ops H1 ops.toList tm else []) with
   |est=>zmH op ops (zFF ops ms est) 0 [] ops.toList tm H1 nx fun sl tm' H' nx'=>bif zse ms ops&&(zsn ms sl 0 sl&&P.follows .mixedOrders) then k tm' H' nx' else none
theorem zwJ {r:Option Nat} {c:Code} {tm:List Value} {ds:List Nat} {H H1:SH} {nx:Nat} {R:Res} {ν:Nat→Bool} (hg:xc H H1) (h:jb P r c tm ds (zE ν H1) nx R):jb P r c tm ds (zE ν H) nx R:=
 ⟨h.1,fun φ w K a rc g hf ht hd hr=>by
  obtain ⟨φ1,e1,g1⟩:=hg.2 ν φ K w g
  have hle:=(e1 0).1
  refine wpIn_mono (h.2 φ1 w K a rc g1 (zkN (mid:=0) hf e1) (ht.mono hle) (hd.mono hle) (hr.mono hle)) ?_
  rintro e a1 w1 ⟨rfl,φ2,k1,k2,k3,k4,k5⟩
  exact ⟨rfl,φ2,(e1 nx).trans k1 (Nat.le_refl _) h.1,k2,k3,k4,k5⟩⟩
theorem zCY {op:List SV→SH→Nat→Oper→KO R→Option R} {rd:Option Nat} (hop:OpS P rd op) {id:Nat} {ops:Array Oper} {tm:List SV} {ds:List Nat} {H:SH} {nx:Nat} {k:List SV→SH→Nat→Option R} {r:R} (h:zz0 P op ops tm H nx k=some r) :
  ∃tm' H' nx',QS P rd (.region id ops true) tm ds H nx ⟨.normal,tm',ds,H',nx'⟩∧k tm' H' nx'=some r:=by
 unfold zz0 at h
 dsimp only at h
 obtain ⟨sl,tm',H',nx',e1,e2,e3,e4,e5,e6,e7⟩:=zoy hop h
 have h6:=zA e2
 obtain ⟨hc,h2⟩:=h6
 simp only [Bool.and_eq_true,zse] at hc
 obtain ⟨⟨c1,c2⟩,c3,c4⟩:=hc
 have c1:=zkH c1
 have c2:=zAV c2
 have hg:=zqg (P:=P) tm ops.toList tm H
 refine ⟨tm',H',nx',⟨hg.1.regLe.trans e3,hg.1.lkeep.trans e4,e5,e6,fun ν hv=>?_⟩,h2⟩
 obtain ⟨f1,f2⟩:=e7 ν (hg.1.vn hv)
 refine ⟨f1,zwJ hg ?_⟩
 obtain ⟨ss,q1,q2,q3,q4,q5,q6⟩:=f2 _ _ (WK.refl ν _ tm) (Mix.refl _)
 have hvf:=zCU (ms:=zkF ops.toList 0 []) (by rw [e1,q1]) q6 (by simpa using c3)
 obtain ⟨D,hs,ht⟩:=zAU (ms:=zkF ops.toList 0 []) ⟨q1,q2⟩ c1 c2 hvf
 have:=zx6 (id:=id) (ds:=ds) c4 D (HF:=hpR ss (zE ν (zwI P H tm tm ops.toList))) (fun b k hb=>by rw [hs];exact hb)
 rw [ht,q3] at this
 rw [show rho ν H=rho ν (zwI P H tm tm ops.toList) from (hg.1.rho ν).symm]
 exact zgw this rfl rfl rfl (fun φ K w g=>q5.good g) (fun φ ts ht=>q4.rel ht)
def zz1 (P:Program) (f:FuncId) (args:List SV) (H:SH) (nx:Nat) (v:SV) (H':SH) (nx':Nat):Prop:=
 (∃fn,P.funcs[f]?=some fn∧fn.body.isSome=true)∧jW H H'∧wk H H'∧nx≤nx'∧∀ν,VN ν nx H→VN ν nx' H'∧Qj P f (zt (rho ν H) args) (zE ν H) nx (den (rho ν H') v) (zE ν H') nx'
def zqh (P:Program) (rd:Option Nat) (c:Code) (tm:List SV) (ds:List Nat) (H:SH) (nx:Nat) (R:XF):Prop:=
 jW H R.H∧wk H R.H∧Zr (asg c) tm R.tm∧nx≤R.nx∧∀ν,VN ν nx H→VN ν R.nx R.H∧zg9 P rd c (zt (rho ν H) tm) ds (zE ν H) nx (zbr ν R)
def zCZ (P:Program) (c x:Code) (tm:List SV) (ds:List Nat) (H:SH) (nx:Nat) (R:XF):Prop:=
 jW H R.H∧wk H R.H∧Zr (asg c) tm R.tm∧nx≤R.nx∧∀ν,VN ν nx H→VN ν R.nx R.H∧zmx P c x (zt (rho ν H) tm) ds (zE ν H) nx (zbr ν R)
structure EvS (R:Type) where
 call:FuncId→List SV→SH→Nat→KO R→Option R
 code:Option Nat→Code→List SV→List Nat→SH→Nat→KC R→Option R
 loop:Option Nat→Code→List SV→List Nat→SH→Nat→KC R→Option R
 scp:Code→Nat→Code→List SV→List Nat→SH→Nat→KC R→Option R
 join:Option Nat→Code→List SV→List Nat→SH→Nat→KC R→Option R
 code0:Option Nat→Code→List SV→List Nat→SH→Nat→KC R→Option R
 jq:Code→Nat→Bool
structure EvS.Ok (P:Program) (E:EvS R):Prop where
 call:∀{f args H nx k r},E.call f args H nx k=some r→∃v H' nx',zz1 P f args H nx v H' nx'∧k v H' nx'=some r
 code:∀{rd c tm ds H nx k r},E.code rd c tm ds H nx k=some r→∃S,QS P rd c tm ds H nx S∧k S=some r
 loop:∀{rd c tm ds H nx k r},E.loop rd c tm ds H nx k=some r→∃S,zqh P rd c tm ds H nx S∧k S=some r
 scp:∀{c l x tm ds H nx k r},findLabel c l=some x→(∀i∈asg x,i∈asg c)→E.scp c l x tm ds H nx k=some r→∃S,zCZ P c x tm ds H nx S∧k S=some r
 join:∀{rd c tm ds H nx k r},E.join rd c tm ds H nx k=some r→∃S,QS P rd c tm ds H nx S∧k S=some r
 code0:∀{rd c tm ds H nx k r},E.code0 rd c tm ds H nx k=some r→∃S,QS P rd c tm ds H nx S∧k S=some r
theorem zz2 {r:Option Nat} {c:Code} {tm tm0:List Value} {ds:List Nat} {H H0:Hp} {nx:Nat} {R:Res} (h:jb P r c tm0 ds H0 nx R) (hH:∀φ K w,zF φ H K w→zF φ H0 K w) (hT:∀φ ts,qI φ tm ts→qI φ tm0 ts):jb P r c tm ds H nx R:=
 ⟨h.1,fun φ w K a rc g hf ht hd hr=>h.2 φ w K a rc (hH _ _ _ g) hf (hT _ _ ht) hd hr⟩
theorem zbu {H:SH} {l:Nat} {L L':SL} (hl:zm H l=some (.loop L)) (c:Nat):reg (zm (wF H l (.loop L')) c)=reg (zm H c):=by
 rw [qJ]
 by_cases h:c=l
 ·subst h;simp [hl,reg]
 ·rw [if_neg h]
theorem zyR {H:SH} {l:Nat} {L L':SL} (hl:zm H l=some (.loop L)) (c:Nat) (h:qY (zm (wF H l (.loop L')) c)=true):qY (zm H c)=true:=by
 rw [qJ] at h
 by_cases hc:c=l
 ·subst hc;simp [hl,qY] at h
 ·rwa [if_neg hc] at h
theorem zwK {ν:Nat→Bool} {H:SH} {l:Nat} {L L':SL} (hl:zm H l=some (.loop L)) (c:Nat):(zE ν (wF H l (.loop L'))).get c=((zE ν H).set l (.loop (wX (rho ν H) L'))).get c:=by
 rw [zL,qJ,yY (zbu hl),Hp.get_set,zL]
 by_cases hc:c=l
 ·subst hc;simp [hl,zU]
 ·rw [if_neg hc,if_neg hc,zL]
theorem zqi {H:SH} {l:Nat} {L:SL} (hl:zm H l=some (.loop L)) (s:LoopState) (p:Option Code):wk H (wF H l (.loop {L with st:=s,pend:=p})):=fun m M hm=>by
 rw [qJ]
 by_cases h:m=l
 ·subst h
  rw [hl] at hm;cases hm
  exact ⟨s,p,by simp [hl]⟩
 ·rw [if_neg h];exact ⟨M.st,M.pend,hm⟩
def zso:List Tmp→List SV→List SV→List SV
 |t::ts,v::vs,tm=>zso ts vs (lsS tm t v)
 |_,_,tm=>tm
theorem zwL (ρ:Nat→Value):∀(ps:List Tmp) (vs tm:List SV),zt ρ (zso ps vs tm)=kR ps (zt ρ vs) (zt ρ tm)
 |[],vs,tm=>by simp [zso,kR]
 |p::ps,[],tm=>by simp [zso,kR,zt]
 |p::ps,v::vs,tm=>by
  simp only [zso,zt,kR,gm]
  rw [zwL ρ ps vs]
  congr 1
  simp [qt,List.map_set]
def zwM (E:EvS R) (l:Nat) (vs:List SV) (H:SH) (nx:Nat) (k:KO R):Option R:=match zm H l with
 |some (.loop L)=>bif zot vs L.params.size then E.code (some l) L.assign (zso L.params.toList vs L.tm) [] H nx fun R1=>match R1.e,R1.ds,zm R1.H l with
   |.normal,[],some (.loop L1)=>match L1.st with
    |.ready=>E.code (some l) L.body R1.tm [] (wF R1.H l (.loop {L1 with st:=.busy})) R1.nx fun R2=>match zm R2.H l,zh3 R2.e with
     |some (.loop L2),some (b,s,p)=>k (.bool b) (wF R2.H l (.loop {L2 with st:=s,pend:=p})) R2.nx
     |_,_=>none
    |_=>none
   |_,_,_=>none
  else none
 |_=>none
theorem zBl {E:EvS R} (hE:E.Ok P) {rd:Option Nat} {o:Oper} {tm:List SV} {H:SH} {nx:Nat} {k:KO R} {r:R} {cf:Operand} {args:Array Operand} {ats:Array TypeId} (ho:o.op=.call {callee:=.value cf,args:=args,argTypes:=ats})
  {l:Nat} {vs:List SV} (hcf:jy tm H cf=some (.yld l)) (hvs:zdZ tm H args.toList=some vs) (h:zwM E l vs H nx k=some r):gq P rd o tm H nx k r:=by
 unfold zwM at h
 split at h
 case h_2=>cases h
 rename_i L hl
 have h6:=zA h
 clear h
 obtain ⟨hn,h⟩:=h6
 have hn:=zeh hn
 obtain ⟨R1,⟨a1,a2,a3,a4,a5⟩,h1⟩:=hE.code h
 split at h1
 case h_2=>cases h1
 rename_i he1 hd1 hl1
 rename_i L1
 split at h1
 case h_2=>cases h1
 rename_i hst
 obtain ⟨R2,⟨b1,b2,b3,b4,b5⟩,h2⟩:=hE.code h1
 split at h2
 case h_2=>cases h2
 rename_i L2 b s p hl2 he2
 have hpl:L1.pend=L1.pend:=rfl
 refine vW (v:=.bool b) ⟨?_,?_,Nat.le_trans a4 b4,fun ν hv=>?_⟩ h2
 ·exact fun c x hx=>by rw [zbu hl2];exact b1 c x (by rw [zbu hl1];exact a1 c x hx)
 ·exact ((a2.trans (zqi hl1 .busy L1.pend)).trans b2).trans (zqi hl2 s p)
 ·obtain ⟨v1,o1⟩:=a5 ν hv
  have v1':VN ν R1.nx (wF R1.H l (.loop {L1 with st:=.busy})):=Ql (zbu hl1) (zyR hl1) v1
  obtain ⟨v2,o2⟩:=b5 ν v1'
  refine ⟨Ql (zbu hl2) (zyR hl2) v2,?_⟩
  have hcf':=zY hcf ν
  simp only [den] at hcf'
  have hlv:(zE ν H).get l=some (.loop (wX (rho ν H) L)):=by rw [zL,hl];rfl
  have key:=zzv (P:=P) (r:=rd) (o:=o) ho (R1:=zbr ν R1) (R2:=zbr ν R2) (L1:=wX (rho ν R1.H) L1) (L2:=wX (rho ν R2.H) L2) (b:=b) (s:=s) (p:=p) hcf' (Gi ν hvs) hlv (by rw [wa];exact hn)
   (by have:=o1;rw [zwL] at this;simpa [wX] using this) he1 hd1 (by show (zE ν R1.H).get l=_;rw [zL,hl1];rfl) hst
   (zz2 o2 (fun φ K w g=>g.sub fun c x hx=>by rw [zwK hl1] at hx;exact hx) (fun φ ts ht=>by rw [yY (zbu hl1)];exact ht))
   (by show (zE ν R2.H).get l=_;rw [zL,hl2];rfl) he2
  refine JM key (fun φ v' hv=>by simpa only [den] using hv) (fun φ K w g=>g.sub fun c x hx=>?_)
  rw [zwK hl2] at hx
  exact hx
def opE (P:Program) (E:EvS R) (tm:List SV) (H:SH) (nx:Nat) (o:Oper) (k:KO R):Option R:=match o.op with
 |.call {callee:=.value cf,args:=args,argTypes:=_}=>match jy tm H cf,zdZ tm H args.toList with
  |some (.fn f fs cs),some vs=>E.call f (fs++(vs++cs)) H nx k
  |some (.yld l),some vs=>zwM E l vs H nx k
  |_,_=>none
 |_=>zCN P tm H nx o k
theorem zEZ {E:EvS R} (hE:E.Ok P) (hs:vK P) {rd:Option Nat}:OpS P rd (opE P E):=by
 intro tm H nx o k r h
 unfold opE at h
 split at h
 ·rename_i cf args ats ho
  split at h
  ·rename_i f fs cs vs hcf hvs
   obtain ⟨v,H',nx',⟨⟨fn,hfn,hb⟩,a1,a2,a3,a4⟩,h2⟩:=hE.call h
   refine vW ⟨a1,a2,a3,fun ν hv=>?_⟩ h2
   obtain ⟨v1,o1⟩:=a4 ν hv
   refine ⟨v1,zAO ho hs hfn hb (f:=f) (fs:=(zt (rho ν H) fs).toArray) (cs:=(zt (rho ν H) cs).toArray) ?_ (Gi ν hvs) ?_⟩
   ·have:=zY hcf ν;simpa only [den] using this
   ·have:zt (rho ν H) (fs++(vs++cs))=zt (rho ν H) fs++zt (rho ν H) vs++zt (rho ν H) cs:=by simp [qt]
    rw [this] at o1
    exact o1
  ·rename_i l vs hcf hvs
   exact zBl hE ho hcf hvs h
  ·cases h
 ·exact zEl h
def opX (P:Program) (E:EvS R) (tm:List SV) (H:SH) (nx:Nat) (o:Oper) (k:KO R):Option R:=opE P E tm H nx o k
theorem zBm {E:EvS R} (hE:E.Ok P) (hs:vK P) {rd:Option Nat}:OpS P rd (opX P E):=by
 intro tm H nx o k r h
 obtain ⟨v,H',nx',h1,h2⟩:=zEZ hE hs h
 exact ⟨v,H',nx',h1,h2⟩
def zqj:LoopState→Option Code→Option Exit
 |.busy,_=>none
 |_,none=>some .normal
 |_,some .ret=>some .ret
 |_,some (.exit i)=>some (.exit i)
 |_,some (.goto i)=>some (.goto i)
 |_,_=>none
theorem znN {L:Loop} {tm:List Value} {ds:List Nat} {H:Hp} {nx:Nat} {e:Exit} (h:zqj L.state L.pending=some e):gS L tm ds H nx=some ⟨e,tm,ds,H,nx⟩:=by
 unfold zqj at h
 unfold gS
 split at h<;>first | (cases h;done) | skip
 all_goals (cases h;rename_i h1 h2;first
  |(rename_i h3;rw [h2];cases hs:L.state<;>first | rfl | (exact absurd hs h1) | (simp_all))
  |(cases hs:L.state<;>simp_all))
def zwN (E:EvS R) (rd:Option Nat) (g:Operand) (ps:Array Tmp) (assign body:Code) (tm:List SV) (ds:List Nat) (H:SH) (nx:Nat) (k:KC R):Option R:=match jy tm H g with
 |some (.fn f fs cs)=>match rd with
  |none=>match WI H nx .defd with
   |some H1=>match WI H1 (nx+1) (.loop ⟨tm,ps,assign,body,.ready,none,nx⟩) with
    |some H2=>E.call f (fs++(.yld (nx+1)::cs)) H2 (nx+2) fun _ H3 nx3=>match zm H3 (nx+1) with
     |some (.loop L)=>match zqj L.st L.pend with
      |some e=>k ⟨e,tm,nx::ds,wF H3 (nx+1) .abs,nx3⟩
      |none=>none
     |_=>none
    |none=>none
   |none=>none
  |some l0=>match zm H l0 with
   |some (.loop L0)=>match WI H nx (.loop ⟨tm,ps,assign,body,.ready,none,L0.dfr⟩) with
    |some H2=>E.call f (fs++(.yld nx::cs)) H2 (nx+1) fun _ H3 nx3=>match zm H3 nx with
     |some (.loop L)=>match zqj L.st L.pend with
      |some e=>k ⟨e,tm,ds,wF H3 nx .abs,nx3⟩
      |none=>none
     |_=>none
    |none=>none
   |_=>none
 |_=>none
theorem zbv {H:SH} {l:Nat} {L:SL} (hl:zm H l=some (.loop L)) (c:Nat):reg (zm (wF H l .abs) c)=reg (zm H c):=by
 rw [qJ]
 by_cases h:c=l
 ·subst h;simp [hl,reg]
 ·rw [if_neg h]
theorem zBn {H:SH} {l:Nat} {L:SL} (hl:zm H l=some (.loop L)) (c:Nat) (h:qY (zm (wF H l .abs) c)=true):qY (zm H c)=true:=by
 rw [qJ] at h
 by_cases hc:c=l
 ·subst hc;simp [hl,qY] at h
 ·rwa [if_neg hc] at h
theorem zyS {ν:Nat→Bool} {H:SH} {l:Nat} {L:SL} (hl:zm H l=some (.loop L)) (c:Nat) (x:Blk) (h:(zE ν (wF H l .abs)).get c=some x):((zE ν H).del l).get c=some x:=by
 rw [zL,qJ,yY (zbv hl)] at h
 rw [Hp.get_del]
 by_cases hc:c=l
 ·subst hc;simp [hl,zU] at h
 ·rw [if_neg hc] at h ⊢
  rw [zL];exact h
theorem zmI {H:SH} {nx:Nat} {k:SB} (h:zm H nx=none) (hk:reg (some k)=none) (ν:Nat→Bool):rho ν ((nx,k)::H)=rho ν H:=yY (fun c=>by
 rw [zH]
 by_cases hc:nx=c
 ·subst hc;rw [if_pos rfl,hk,h];rfl
 ·rw [if_neg hc]) ν
theorem zsp {H:SH} {nx:Nat} {k:SB} (h:zm H nx=none) (hk:reg (some k)=none) {ν:Nat→Bool} {x:Blk} (hx:zU (rho ν H) (ν nx) k=some x):zE ν ((nx,k)::H)=(nx,x)::zE ν H:=by
 unfold zE
 rw [zmI h hk]
 simp only [uf,hx]
theorem zBo {E:EvS R} (hE:E.Ok P) (hs:vK P) {rd:Option Nat} {g:Operand} {ps:Array Tmp} {assign body:Code} {tm:List SV} {ds:List Nat} {H:SH} {nx:Nat} {k:KC R} {r:R} (h:zwN E rd g ps assign body tm ds H nx k=some r) :
  ∃S,QS P rd (.rangeFunc g ps assign body) tm ds H nx S∧k S=some r:=by
 unfold zwN at h
 split at h
 case h_2=>cases h
 rename_i f fs cs hg
 split at h
 ·split at h
  case h_2=>cases h
  rename_i H1 hn1
  split at h
  case h_2=>cases h
  rename_i H2 hn2
  obtain ⟨q1,rfl⟩:=vL hn1
  obtain ⟨q2,rfl⟩:=vL hn2
  obtain ⟨v,H3,nx3,⟨⟨fn,hfn,hb⟩,a1,a2,a3,a4⟩,h2⟩:=hE.call h
  split at h2
  case h_2=>cases h2
  rename_i L hl
  split at h2
  case h_2=>cases h2
  rename_i e he
  have hq2:zm H (nx+1)=none:=by
   rw [zH,if_neg (by omega)] at q2;exact q2
  refine ⟨_,⟨?_,?_,Zr.refl _ _,?_,fun ν hv=>?_⟩,h2⟩
  ·exact fun c x hx=>by
    rw [zbv hl]
    exact a1 c x (uL q2 c x (uL q1 c x hx))
  ·intro m M hm
   have hne:m≠nx+1:=fun e=>by subst e;rw [hq2] at hm;cases hm
   obtain ⟨s,p,h3⟩:=((kT q1).trans (kT q2)).trans a2 m M hm
   exact ⟨s,p,by rw [qJ,if_neg hne];exact h3⟩
  ·exact Nat.le_trans (by omega) a3
  ·have v2:VN ν (nx+2) ((nx+1,.loop ⟨tm,ps,assign,body,.ready,none,nx⟩)::(nx,.defd)::H):=WJ (WJ hv)
   obtain ⟨v3,o3⟩:=a4 ν v2
   refine ⟨Ql (zbv hl) (zBn hl) v3,?_⟩
   have hρ1:rho ν ((nx,SB.defd)::H)=rho ν H:=zmI q1 rfl ν
   have hρ2:rho ν ((nx+1,SB.loop ⟨tm,ps,assign,body,.ready,none,nx⟩)::(nx,.defd)::H)=rho ν H:=(zmI q2 rfl ν).trans hρ1
   have hd:zE ν ((nx+1,SB.loop ⟨tm,ps,assign,body,.ready,none,nx⟩)::(nx,.defd)::H)=(nx+1,.loop (Xw (zt (rho ν H) tm) ps assign body nx))::(nx,.defd)::zE ν H:=by
    rw [zsp q2 rfl (x:=.loop (wX (rho ν H) ⟨tm,ps,assign,body,.ready,none,nx⟩)) (by simp only [zU,hρ1]),zsp q1 rfl (x:=.defd) rfl]
    rfl
   rw [hρ2,hd] at o3
   have hg':=zY hg ν
   simp only [den] at hg'
   have hargs:zt (rho ν H) (fs++(.yld (nx+1)::cs))=zt (rho ν H) fs++[.func (.yield (nx+1)) #[] #[]]++zt (rho ν H) cs:=by simp [qt,den]
   rw [hargs] at o3
   have key:=zog (P:=P) (g:=g) (ps:=ps) (assign:=assign) (body:=body) (tm:=zt (rho ν H) tm) (ds:=ds) (nx:=nx) hs hfn hb hg' (by simpa using o3) (by rw [zL,hl];rfl) (znN (L:=wX (rho ν H3) L) he)
   refine zgw key rfl rfl rfl (fun φ K w g=>g.sub fun c x hx=>zyS hl c x hx) (fun φ ts ht=>?_)
   refine zom ν (fun c x hx=>?_) ht
   rw [zbv hl]
   exact a1 c x (uL q2 c x (uL q1 c x hx))
 ·rename_i l0
  split at h
  case h_2=>cases h
  rename_i L0 hl0
  split at h
  case h_2=>cases h
  rename_i H2 hn2
  obtain ⟨q2,rfl⟩:=vL hn2
  obtain ⟨v,H3,nx3,⟨⟨fn,hfn,hb⟩,a1,a2,a3,a4⟩,h2⟩:=hE.call h
  split at h2
  case h_2=>cases h2
  rename_i L hl
  split at h2
  case h_2=>cases h2
  rename_i e he
  refine ⟨_,⟨?_,?_,Zr.refl _ _,?_,fun ν hv=>?_⟩,h2⟩
  ·exact fun c x hx=>by
    rw [zbv hl]
    exact a1 c x (uL q2 c x hx)
  ·intro m M hm
   have hne:m≠nx:=fun e=>by subst e;rw [q2] at hm;cases hm
   obtain ⟨s,p,h3⟩:=(kT q2).trans a2 m M hm
   exact ⟨s,p,by rw [qJ,if_neg hne];exact h3⟩
  ·exact Nat.le_trans (by omega) a3
  ·have v2:VN ν (nx+1) ((nx,.loop ⟨tm,ps,assign,body,.ready,none,L0.dfr⟩)::H):=WJ hv
   obtain ⟨v3,o3⟩:=a4 ν v2
   refine ⟨Ql (zbv hl) (zBn hl) v3,?_⟩
   have hρ2:rho ν ((nx,SB.loop ⟨tm,ps,assign,body,.ready,none,L0.dfr⟩)::H)=rho ν H:=zmI q2 rfl ν
   have hd:zE ν ((nx,SB.loop ⟨tm,ps,assign,body,.ready,none,L0.dfr⟩)::H)=(nx,.loop (Xw (zt (rho ν H) tm) ps assign body L0.dfr))::zE ν H:=by
    rw [zsp q2 rfl (x:=.loop (wX (rho ν H) ⟨tm,ps,assign,body,.ready,none,L0.dfr⟩)) rfl]
    rfl
   rw [hρ2,hd] at o3
   have hg':=zY hg ν
   simp only [den] at hg'
   have hargs:zt (rho ν H) (fs++(.yld nx::cs))=zt (rho ν H) fs++[.func (.yield nx) #[] #[]]++zt (rho ν H) cs:=by simp [qt,den]
   rw [hargs] at o3
   have key:=zjU (P:=P) (l0:=l0) (g:=g) (ps:=ps) (assign:=assign) (body:=body) (tm:=zt (rho ν H) tm) (ds:=ds) (nx:=nx) (L0:=wX (rho ν H) L0) hs hfn hb hg' (by rw [zL,hl0];rfl) (by simpa [wX] using o3) (by rw [zL,hl];rfl) (znN (L:=wX (rho ν H3) L) he)
   refine zgw key rfl rfl rfl (fun φ K w g=>g.sub fun c x hx=>zyS hl c x hx) (fun φ ts ht=>?_)
   refine zom ν (fun c x hx=>?_) ht
   rw [zbv hl]
   exact a1 c x (uL q2 c x hx)
def zf1:List Nat→SH→Option SH
 |[],H=>some H
 |d::ds,H=>match zm H d with
  |some .defd=>zf1 ds (wF H d .abs)
  |_=>none
theorem zwO {H:SH} {d:Nat} (hd:zm H d=some .defd) (c:Nat):reg (zm (wF H d .abs) c)=reg (zm H c):=by
 rw [qJ]
 by_cases h:c=d
 ·subst h;simp [hd,reg]
 ·rw [if_neg h]
theorem zEp {H:SH} {d:Nat} (hd:zm H d=some .defd) (c:Nat) (h:qY (zm (wF H d .abs) c)=true):qY (zm H c)=true:=by
 rw [qJ] at h
 by_cases hc:c=d
 ·subst hc;simp [hd,qY] at h
 ·rwa [if_neg hc] at h
theorem zwP {ν:Nat→Bool}:∀{ds:List Nat} {H H1:SH} {Hd:Hp},(∀b,Hd.get b=(zE ν H).get b)→zf1 ds H=some H1→∃Hd1,zcm ds Hd=some Hd1∧(∀b,Hd1.get b=(zE ν H1).get b)
 |[],H,H1,Hd,hg,h=>by simp only [zf1,Option.some.injEq] at h;subst h;exact ⟨Hd,rfl,hg⟩
 |d::ds,H,H1,Hd,hg,h=>by
  simp only [zf1] at h
  split at h
  case h_2=>cases h
  rename_i hd
  have h1:Hd.get d=some .defd:=by rw [hg,zL,hd];rfl
  simp only [zcm,h1]
  refine zwP (fun b=>?_) h
  rw [Hp.get_del,zL,qJ,yY (zwO hd)]
  by_cases hb:b=d
  ·subst hb;simp [hd,zU]
  ·rw [if_neg hb,if_neg hb,hg,zL]
theorem zt2:∀{ds:List Nat} {H H1:SH},zf1 ds H=some H1→(∀c,reg (zm H1 c)=reg (zm H c))∧(∀c,qY (zm H1 c)=true→qY (zm H c)=true)∧wk H H1
 |[],H,H1,h=>by simp only [zf1,Option.some.injEq] at h;subst h;exact ⟨fun _=>rfl,fun _ h=>h,wk.refl _⟩
 |d::ds,H,H1,h=>by
  simp only [zf1] at h
  split at h
  case h_2=>cases h
  rename_i hd
  obtain ⟨h1,h2,h3⟩:=zt2 h
  exact ⟨fun c=>(h1 c).trans (zwO hd c),fun c hc=>zEp hd c (h2 c hc),(Gk hd (fun L=>by simp)).trans h3⟩
def zoz (P:Program) (H:SH) (tm:List SV):List ResultVar→Option (List SV)
 |[]=>some []
 |.tmp t::rs=>match jy tm H (.tmp t),zoz P H tm rs with
  |some v,some vs=>some (v::vs)
  |_,_=>none
 |.cell a t::rs=>match jy tm H (.tmp a),zoz P H tm rs with
  |some (.ptr b o),some vs=>match zvz P H t (.ptr b o) with
   |some v=>some (v::vs)
   |none=>none
  |_,_=>none
theorem zC0 {Hd Hd2:Hp} (h:∀b,Hd.get b=Hd2.get b) (t:TypeId) (v:Value):gk P Hd t v=gk P Hd2 t v:=by
 unfold gk
 split
 ·rw [h]
 ·rfl
theorem zsq {ν:Nat→Bool} {H0 H:SH} {Hd:Hp} (hg:∀b,Hd.get b=(zE ν H).get b) {tm:List SV} (hr:rho ν H0=rho ν H):∀{rs:List ResultVar} {vs:List SV},zoz P H tm rs=some vs→zcK P Hd (zt (rho ν H0) tm) rs=some (zt (rho ν H) vs)
 |[],vs,h=>by simp only [zoz,Option.some.injEq] at h;subst h;simp [zcK,zt]
 |.tmp t::rs,vs,h=>by
  simp only [zoz] at h
  split at h
  ·rename_i v us h1 h2
   cases h
   have e1:=zY h1 ν
   simp only [zcK,zsq hg hr h2,zt]
   rw [hr,e1]
  ·cases h
 |.cell a t::rs,vs,h=>by
  simp only [zoz] at h
  split at h
  ·rename_i b o us h1 h2
   split at h
   case h_2=>cases h
   rename_i v hv
   cases h
   have e1:=zY h1 ν
   have e2:=ztR (ν:=ν) hv
   have e3:gk P (zE ν H) t (den (rho ν H) (.ptr b o))=some (den (rho ν H) v):=by
    cases hd:gk P (zE ν H) t (den (rho ν H) (.ptr b o)) with
    |some u=>rw [hd] at e2;exact e2
    |none=>rw [hd] at e2;simp [den,zek,zod] at e2
   simp only [zcK,zsq hg hr h2,zt]
   rw [hr,e1,Option.bind_some,zC0 hg,e3]
  ·cases h
def zcM:List SV→SV
 |[v]=>v
 |vs=>.tup vs
theorem zbw (ρ:Nat→Value):∀vs:List SV,den ρ (zcM vs)=WG (zt ρ vs)
 |[]=>by simp [zcM,den,zt,WG]
 |[v]=>by simp [zcM,zt,WG]
 |_::_::_=>by simp [zcM,den,zt,WG]
def zDJ:Exit→Bool
 |.normal=>true
 |.ret=>true
 |_=>false
def zvB (P:Program) (E:EvS R) (f:FuncId) (args:List SV) (H:SH) (nx:Nat) (k:KO R):Option R:=match zvI P f with
 |some fn=>match fn.body with
  |some c=>E.code none c (args++List.replicate (fn.ntmps - args.length) (.tup [])) [] H nx fun S=>bif zDJ S.e then match zf1 S.ds S.H with
   |some H1=>match zoz P H1 S.tm fn.results.toList with
    |some vs=>k (zcM vs) H1 S.nx
    |none=>none
   |none=>none
   else none
  |none=>none
 |none=>none
theorem zsr (ρ:Nat→Value) (n:Nat):zt ρ (List.replicate n (.tup []))=List.replicate n undef:=by
 simp [qt,den,undef,zt]
theorem zwQ {E:EvS R} (hE:E.Ok P) {f:FuncId} {args:List SV} {H:SH} {nx:Nat} {k:KO R} {r:R} (h:zvB P E f args H nx k=some r):∃v H' nx',zz1 P f args H nx v H' nx'∧k v H' nx'=some r:=by
 unfold zvB at h
 split at h
 case h_2=>cases h
 rename_i fn hfn
 rw [zyC] at hfn
 split at h
 case h_2=>cases h
 rename_i c hb
 obtain ⟨S,⟨a1,a2,a3,a4,a5⟩,h1⟩:=hE.code h
 have h6:=zA h1
 clear h1
 obtain ⟨he,h1⟩:=h6
 split at h1
 case h_2=>cases h1
 rename_i H1 hk
 split at h1
 case h_2=>cases h1
 rename_i vs hv
 obtain ⟨k1,k2,k3⟩:=zt2 hk
 refine ⟨_,_,_,⟨⟨fn,hfn,by rw [hb];rfl⟩,fun c x hx=>by rw [k1 c];exact a1 c x hx,a2.trans k3,a4,fun ν hv2=>?_⟩,h1⟩
 obtain ⟨v1,o1⟩:=a5 ν hv2
 refine ⟨Ql k1 k2 v1,?_⟩
 obtain ⟨Hd1,e1,e2⟩:=zwP (ν:=ν) (fun _=>rfl) hk
 have hr:=zsq (P:=P) (ν:=ν) (H0:=S.H) e2 (yY k1 ν).symm hv
 have hlen:(zt (rho ν H) args).length=args.length:=wa _ _
 have o1':jb P none c (zt (rho ν H) args++List.replicate (fn.ntmps - (zt (rho ν H) args).length) undef) [] (zE ν H) nx (zbr ν S):=by
  rw [hlen,←zsr (rho ν H),qt,qt,←List.map_append,←qt]
  exact o1
 have key:=zAR (P:=P) (f:=f) (R:=zbr ν S) (H2:=Hd1) hfn hb o1' (by
  unfold zDJ at he
  show S.e=.normal∨S.e=.ret
  split at he<;>simp_all) e1 hr (fun _ _ h=>h)
 rw [zbw]
 exact zzC key fun b x hx=>by rw [e2];exact hx
theorem ZR {φ φ0:Ren} (hF:∀b L,φ (FZ+b)=some L→φ0 (FZ+b)=some L):∀(t:Ty) (x:T t) (c:Value),c∈ql t x→∀v',zr φ c v'→zr φ0 c v'
 |.unit,x,c,hc,v',h=>by simp [ql] at hc
 |.bool,x,c,hc,v',h=>by
  simp only [ql,List.mem_singleton] at hc
  subst hc;cases h;exact .bool _
 |.int k,x,c,hc,v',h=>by
  simp only [ql,List.mem_singleton] at hc
  subst hc;cases h;exact .int _ _
 |.str,x,c,hc,v',h=>by
  simp only [ql,List.mem_singleton] at hc
  subst hc;cases h;exact .str _
 |.list t,l,c,hc,v',h=>by
  simp only [ql,List.mem_singleton] at hc
  subst hc
  unfold fzV at h ⊢
  simp only [cond_false] at h ⊢
  generalize hs:sz t=s at h ⊢
  generalize he:(List.map (fun x=>Value.agg (ql t x).toArray) l).toArray=es at h ⊢
  cases h with
  |fz _ _ b o c L hL hn ho hc hsz h=>
   refine .fz _ _ b o c L (hF b L hL) hn ho hc hsz fun j k e u u' h1 h2 h3=>?_
   rw [←he] at h1
   simp only [List.getElem?_toArray,List.getElem?_map,Option.map_eq_some_iff] at h1
   obtain ⟨x,hx,rfl⟩:=h1
   refine ZR hF t x u ?_ u' (h j k (Value.agg (ql t x).toArray) u u' (by rw [←he];simp [hx]) h2 h3)
   simp only [Value.cells,List.getElem?_toArray] at h2
   exact List.mem_of_getElem? h2
  |fz0 _ a c=>exact .fz0 _ _ _
 |.pair a b,x,c,hc,v',h=>by
  simp only [ql,List.mem_append] at hc
  rcases hc with hc | hc
  ·exact ZR hF a x.1 c hc v' h
  ·exact ZR hF b x.2 c hc v' h
theorem zd4 {φ φ0:Ren} (hF:∀b L,φ (FZ+b)=some L→φ0 (FZ+b)=some L) {t:Ty} {x:T t} {us:List Value} (h:zw φ (ql t x) us):zw φ0 (ql t x) us:=by
 refine zw.of_get h.length fun i v v' hv hv'=>?_
 obtain ⟨u,h1,h2⟩:=h.get hv
 rw [hv'] at h1;cases h1
 exact ZR hF t x v (List.mem_of_getElem? hv) _ h2
theorem zt3 {φ φ0:Ren} (hF:∀b L,φ (FZ+b)=some L→φ0 (FZ+b)=some L) {ρ:Nat→Value} (t:VT) (x:T t.ty) {v':Value} (h:zr φ (den ρ (mkV t x)) v'):zr φ0 (den ρ (mkV t x)) v':=by
 obtain ⟨ag,ty⟩:=t
 cases ag with
 |true=>
  simp only [mkV,cond_true,den] at h ⊢
  obtain ⟨ys,rfl,hl⟩:=h.agg_inv
  refine .agg' ?_
  rw [qt,yc] at hl ⊢
  simp only at hl ⊢
  exact zd4 hF (by simpa using hl)
 |false=>
  simp only [mkV,cond_false] at h ⊢
  have h2:=yc ρ ty x
  match he:yp ty x with
  |[v]=>
   rw [he] at h h2
   simp only [mk1,List.map_cons,List.map_nil] at h h2 ⊢
   exact ZR hF ty x _ (by rw [←h2];simp) _ h
  |[]=>rw [he] at h;simp [mk1,den] at h;exact (Vb h).elim
  |_::_::_=>rw [he] at h;simp [mk1,den] at h;exact (Vb h).elim
@[reducible] def zp (l:List VT):Ty:=List.rec (motive:=fun _=>Ty) .unit (fun a _ ih=>.pair a.ty ih) l
def Vi:(l:List VT)→List SV→SH→Option (T (zp l)×SH)
 |[],[],H=>some ((),H)
 |a::r,v::vs,H=>match cvV a v H with
  |some (x,H1)=>match Vi r vs H1 with
   |some (y,H2)=>some ((x,y),H2)
   |none=>none
  |none=>none
 |_,_,_=>none
def wq:(l:List VT)→T (zp l)→List SV
 |[],_=>[]
 |a::r,x=>mkV a (p1 x)::wq r (p2 x)
theorem zk4:∀{l:List VT} {vs:List SV} {H H':SH} {x:T (zp l)},Vi l vs H=some (x,H')→
  xc H H'∧∀ν G,GLe H' G→∀(φ:Ren) (K:Nat→Prop) (w:World) (nx:Nat) (us:List Value),zF φ (zE ν G) K w→VN ν nx G→zw φ (zt (rho ν H) vs) us→∀ρ,zw φ (zt ρ (wq l x)) us
 |[],[],H,H',x,h=>by
  simp only [Vi] at h
  cases h
  exact ⟨xc.refl _,fun ν G hG φ K w nx us g hv hr ρ=>by simpa [zt,wq] using hr⟩
 |a::r,v::vs,H,H',x,h=>by
  simp only [Vi] at h
  split at h
  case h_2=>cases h
  rename_i x1 H1 h1
  split at h
  case h_2=>cases h
  rename_i y H2 h2
  cases h
  obtain ⟨g1,r1⟩:=zp0 h1
  obtain ⟨g2,r2⟩:=zk4 h2
  refine ⟨g1.trans g2,fun ν G hG φ K w nx us g hv hr ρ=>?_⟩
  match us,hr with
  |[],hr=>simp [zt,zw] at hr
  |u::us,hr=>
   simp only [zt,zw,wq] at hr ⊢
   refine ⟨r1 ν G (g2.1.trans hG) φ K w nx u g hv hr.1 ρ,r2 ν G hG φ K w nx us g hv ?_ ρ⟩
   rw [g1.1.rho ν];exact hr.2
 |[],_::_,_,_,_,h=>by simp [Vi] at h
 |_::_,[],_,_,_,h=>by simp [Vi] at h
theorem GQ {φ φ0:Ren} (hF:∀b L,φ (FZ+b)=some L→φ0 (FZ+b)=some L) {ρ:Nat→Value}:∀(l:List VT) (x:T (zp l)) {us:List Value},zw φ (zt ρ (wq l x)) us→zw φ0 (zt ρ (wq l x)) us
 |[],x,[],h=>trivial
 |[],x,_::_,h=>by simp [wq,zt,zw] at h
 |a::r,x,[],h=>by simp [wq,zt,zw] at h
 |a::r,x,u::us,h=>by
  simp only [wq,zt,zw] at h ⊢
  exact ⟨zt3 hF a x.1 h.1,GQ hF r x.2 h.2⟩
theorem zz3 {φ φ0:Ren} (hF:∀b L,φ (FZ+b)=some L→φ0 (FZ+b)=some L) {ρ:Nat→Value} (l:List VT) (x:T (zp l)) {v':Value} (h:zr φ (den ρ (zcM (wq l x))) v'):zr φ0 (den ρ (zcM (wq l x))) v':=by
 rw [zbw] at h ⊢
 have key:=fun (us:List Value) (hr:zw φ (zt ρ (wq l x)) us)=>GQ hF l x hr
 generalize zt ρ (wq l x)=vs at h key
 match vs,h,key with
 |[],h,key=>
  simp only [WG] at h ⊢
  obtain ⟨ys,rfl,hl⟩:=h.tuple_inv
  exact .tuple' (key _ hl)
 |[v],h,key=>
  simp only [WG] at h ⊢
  exact (key [v'] ⟨h,trivial⟩).1
 |a::b::r,h,key=>
  simp only [WG] at h ⊢
  obtain ⟨ys,rfl,hl⟩:=h.tuple_inv
  exact .tuple' (key _ hl)
structure Con where
 args:List VT
 res:List VT
 F:T (zp args)→Option (T (zp res))
def Con.Ok (P:Program) (f:FuncId) (c:Con):Prop:=(∃fn,P.funcs[f]?=some fn∧fn.body.isSome=true)∧
 ∀x r,c.F x=some r→∃Hd nx',nx'≤FZ∧Qj P f (zt (fun _=>bad) (wq c.args x)) [] 0 (den (fun _=>bad) (zcM (wq c.res r))) Hd nx'
theorem zBp {f:FuncId} {args:List Value} {Hd:Hp} {nx':Nat} {v:Value} (hz:nx'≤FZ) (h:Qj P f args [] 0 v Hd nx') (ha:∀φ φ0:Ren,(∀b L,φ (FZ+b)=some L→φ0 (FZ+b)=some L)→∀us,zw φ args us→zw φ0 args us)
  (hv:∀φ φ0:Ren,(∀b L,φ (FZ+b)=some L→φ0 (FZ+b)=some L)→∀v',zr φ v v'→zr φ0 v v') (H:Hp) (nx:Nat):Qj P f args H nx v H nx:=by
 refine ⟨Nat.le_refl _,fun φ w K us g hf hl=>?_⟩
 let φ0:Ren:=fun b=>if FZ≤b then φ b else none
 have e0:∀b,φ0 (FZ+b)=φ (FZ+b):=fun b=>by simp only [φ0,show FZ≤FZ+b by omega,if_true]
 have g0:zF φ0 [] (fun c=>c < w.heap.size) w:=⟨fun b k hb=>by simp [Hp.get_nil] at hb,fun b c k k' L L' hb=>by simp [Hp.get_nil] at hb,fun b k L hb=>by simp [Hp.get_nil] at hb,fun c hc=>hc,fun b L hL=>g.fz b L (by rw [←e0];exact hL),fun b k L c M hb=>by simp [Hp.get_nil] at hb⟩
 refine Calls.mono (h.2 φ0 w (fun c=>c < w.heap.size) us g0 ⟨hz,fun b _ hb=>by simp only [φ0,show ¬FZ≤b by omega,if_false]⟩ (ha φ φ0 (fun b L hL=>by rw [e0];exact hL) us hl)) ?_
 rintro e w' ⟨v',φ',rfl,x1,x2,x3,x4⟩
 let φ2:Ren:=fun b=>if FZ≤b then φ' b else φ b
 have e2:∀b,φ2 (FZ+b)=φ' (FZ+b):=fun b=>by simp only [φ2,show FZ≤FZ+b by omega,if_true]
 have e3:∀b,b < FZ→φ2 b=φ b:=fun b hb=>by simp only [φ2,show ¬FZ≤b by omega,if_false]
 have hle:φ.le φ2:=fun b L hb=>by
  by_cases hz:FZ≤b
  ·simp only [φ2,hz,if_true]
   exact x2.1 b L (by simp only [φ0,hz,if_true];exact hb)
  ·simp only [φ2,hz,if_false];exact hb
 have hnew:∀b L,φ2 (FZ+b)=some L→φ (FZ+b)=some L∨¬b < w.heap.size:=fun b L hL=>by
  rw [e2] at hL
  rcases x2.2.2 b L hL with h1 | h1
  ·rw [e0] at h1;exact .inl h1
  ·exact .inr h1
 have hname:∀b k,H.get b=some k→b < FZ∨∃L,φ b=some L:=fun b k hb=>by
  obtain ⟨L,hL,_⟩:=g.rel b k hb
  exact .inr ⟨L,hL⟩
 have hφ2:∀b k L,H.get b=some k→φ2 b=some L→φ b=some L:=fun b k L hb hL=>by
  obtain ⟨M,hM,_⟩:=g.rel b k hb
  have:=hle b M hM
  rw [hL] at this;cases this;exact hM
 refine ⟨v',φ2,rfl,hv φ' φ2 (fun b L hL=>by rw [e2];exact hL) v' x1,⟨hle,fun b hz _=>e3 b hz,fun b L hL=>(hnew b L hL).imp id fun h1 h2=>h1 (g.kin b h2)⟩,?_,⟨x4.os,x4.tape,x4.output,x4.size,fun c hc=>x4.kept c (g.kin c hc)⟩⟩
 refine ⟨fun b k hb=>?_,fun b c k k' L L' hb hc hne hkr hL hL'=>g.sep b c k k' L L' hb hc hne hkr (hφ2 b k L hb hL) (hφ2 c k' L' hc hL'),fun b k L hb hkr hL=>g.prot b k L hb hkr (hφ2 b k L hb hL),fun c hc=>Nat.lt_of_lt_of_le (g.kin c hc) x4.size,fun b L hL=>x3.fz b L (by rw [←e2];exact hL),fun b k L c M hb hkr hL hM=>?_⟩
 ·obtain ⟨L,hL,hB⟩:=g.rel b k hb
  exact ⟨L,hle b L hL,(hB.congr (x4.kept L.blk hB.lt)).mono hle⟩
 ·have hL1:=hφ2 b k L hb hL
  rcases hnew c M hM with h1 | h1
  ·exact g.fsep b k L c M hb hkr hL1 h1
  ·have:=(g.at hb hL1).lt
   omega
def zhi:Ty→Bool
 |.list _=>false
 |.pair a b=>zhi a&&zhi b
 |_=>true
def zk5:List VT→Bool
 |[]=>true
 |a::r=>zhi a.ty&&zk5 r
theorem zf2 {φ φ0:Ren}:∀(t:Ty) (x:T t) (_:zhi t=true) (c:Value),c∈ql t x→∀v',zr φ c v'→zr φ0 c v'
 |.unit,x,_,c,hc,v',h=>by simp [ql] at hc
 |.bool,x,_,c,hc,v',h=>by
  simp only [ql,List.mem_singleton] at hc
  subst hc;cases h;exact .bool _
 |.int k,x,_,c,hc,v',h=>by
  simp only [ql,List.mem_singleton] at hc
  subst hc;cases h;exact .int _ _
 |.str,x,_,c,hc,v',h=>by
  simp only [ql,List.mem_singleton] at hc
  subst hc;cases h;exact .str _
 |.list t,l,hp,c,hc,v',h=>by cases hp
 |.pair a b,x,hp,c,hc,v',h=>by
  simp only [zhi,Bool.and_eq_true] at hp
  simp only [ql,List.mem_append] at hc
  rcases hc with hc | hc
  ·exact zf2 a x.1 hp.1 c hc v' h
  ·exact zf2 b x.2 hp.2 c hc v' h
theorem zBq {φ φ0:Ren} {ρ:Nat→Value} (t:VT) (x:T t.ty) (hp:zhi t.ty=true) {v':Value} (h:zr φ (den ρ (mkV t x)) v'):zr φ0 (den ρ (mkV t x)) v':=by
 obtain ⟨ag,ty⟩:=t
 cases ag with
 |true=>
  simp only [mkV,cond_true,den] at h ⊢
  obtain ⟨ys,rfl,hl⟩:=h.agg_inv
  refine .agg' ?_
  rw [qt,yc] at hl ⊢
  simp only at hl ⊢
  have hl:zw φ (ql ty x) ys.toList:=by simpa using hl
  refine zw.of_get hl.length fun i v v' hv hv'=>?_
  obtain ⟨u,h1,h2⟩:=hl.get hv
  rw [hv'] at h1;cases h1
  exact zf2 ty x hp v (List.mem_of_getElem? hv) _ h2
 |false=>
  simp only [mkV,cond_false] at h ⊢
  have h2:=yc ρ ty x
  match he:yp ty x with
  |[v]=>
   rw [he] at h h2
   simp only [mk1,List.map_cons,List.map_nil] at h h2 ⊢
   exact zf2 ty x hp _ (by rw [←h2];simp) _ h
  |[]=>rw [he] at h;simp [mk1,den] at h;exact (Vb h).elim
  |_::_::_=>rw [he] at h;simp [mk1,den] at h;exact (Vb h).elim
theorem zk6 {φ φ0:Ren} {ρ:Nat→Value}:∀(l:List VT) (x:T (zp l)) (_:zk5 l=true) {us:List Value},zw φ (zt ρ (wq l x)) us→zw φ0 (zt ρ (wq l x)) us
 |[],x,_,[],h=>trivial
 |[],x,_,_::_,h=>by simp [wq,zt,zw] at h
 |a::r,x,_,[],h=>by simp [wq,zt,zw] at h
 |a::r,x,hp,u::us,h=>by
  simp only [zk5,Bool.and_eq_true] at hp
  simp only [wq,zt,zw] at h ⊢
  exact ⟨zBq a x.1 hp.1 h.1,zk6 r x.2 hp.2 h.2⟩
theorem zz4 {φ φ0:Ren} {ρ:Nat→Value} (l:List VT) (x:T (zp l)) (hp:zk5 l=true) {v':Value} (h:zr φ (den ρ (zcM (wq l x))) v'):zr φ0 (den ρ (zcM (wq l x))) v':=by
 rw [zbw] at h ⊢
 have key:=fun (us:List Value) (hr:zw φ (zt ρ (wq l x)) us)=>zk6 (φ0:=φ0) l x hp hr
 generalize zt ρ (wq l x)=vs at h key
 match vs,h,key with
 |[],h,key=>
  simp only [WG] at h ⊢
  obtain ⟨ys,rfl,hl⟩:=h.tuple_inv
  exact .tuple' (key _ hl)
 |[v],h,key=>
  simp only [WG] at h ⊢
  exact (key [v'] ⟨h,trivial⟩).1
 |a::b::r,h,key=>
  simp only [WG] at h ⊢
  obtain ⟨ys,rfl,hl⟩:=h.tuple_inv
  exact .tuple' (key _ hl)
theorem zz5 {f:FuncId} {args:List Value} {Hd:Hp} {nx':Nat} {v:Value} (hz:nx'≤FZ) (h:Qj P f args [] 0 v Hd nx') (ha:∀φ φ0:Ren,(∀b L,φ (FZ+b)=some L→φ0 (FZ+b)=some L)→∀us,zw φ args us→zw φ0 args us)
  (hv:∀(φ φ0:Ren) v',zr φ v v'→zr φ0 v v') {φ φ1:Ren} {H:Hp} {K:Nat→Prop} {w:World} {us:List Value} (g:zF φ H K w) (g1:∀b L,φ1 (FZ+b)=some L→zoa w b L) (hl:zw φ1 args us) :
  Calls P f us.toArray w fun e w'=>∃v',e=.returned v'∧zr φ v v'∧zF φ H K w'∧qw K w w':=by
 let φ0:Ren:=fun b=>if FZ≤b then φ1 b else none
 have e0:∀b,φ0 (FZ+b)=φ1 (FZ+b):=fun b=>by simp only [φ0,show FZ≤FZ+b by omega,if_true]
 have g0:zF φ0 [] (fun c=>c < w.heap.size) w:=⟨fun b k hb=>by simp [Hp.get_nil] at hb,fun b c k k' L L' hb=>by simp [Hp.get_nil] at hb,fun b k L hb=>by simp [Hp.get_nil] at hb,fun c hc=>hc,fun b L hL=>g1 b L (by rw [←e0];exact hL),fun b k L c M hb=>by simp [Hp.get_nil] at hb⟩
 refine Calls.mono (h.2 φ0 w (fun c=>c < w.heap.size) us g0 ⟨hz,fun b _ hb=>by simp only [φ0,show ¬FZ≤b by omega,if_false]⟩ (ha φ1 φ0 (fun b L hL=>by rw [e0];exact hL) us hl)) ?_
 rintro e w' ⟨v',φ',rfl,x1,x2,x3,x4⟩
 refine ⟨v',rfl,hv φ' φ v' x1,⟨fun b k hb=>?_,g.sep,g.prot,fun c hc=>Nat.lt_of_lt_of_le (g.kin c hc) x4.size,fun b L hL=>?_,g.fsep⟩,⟨x4.os,x4.tape,x4.output,x4.size,fun c hc=>x4.kept c (g.kin c hc)⟩⟩
 ·obtain ⟨L,hL,hB⟩:=g.rel b k hb
  exact ⟨L,hL,hB.congr (x4.kept L.blk hB.lt)⟩
 ·obtain ⟨h1,h2,a,el,fr,h3,h4⟩:=g.fz b L hL
  refine ⟨h1,h2,a,el,fr,?_,h4⟩
  rw [x4.kept b (by
   have:=(Array.getElem?_eq_some_iff.1 h3).1
   exact this)]
  exact h3
def zC1 (c:Con) (args:List SV) (H:SH) (nx:Nat) (k:KO R):Option R:=match Vi c.args args H with
 |some (x,H1)=>bif zk5 c.res then opt (c.F x) fun r=>k (zcM (wq c.res r)) H nx else opt (c.F x) fun r=>k (zcM (wq c.res r)) H1 nx
 |none=>none
theorem zoA (l:List VT) (x:T (zp l)) (ρ ρ':Nat→Value):zt ρ (wq l x)=zt ρ' (wq l x):=by
 have hc:∀(t:Ty) (y:T t),zt ρ (yp t y)=zt ρ' (yp t y):=fun t y=>by rw [qt,qt,yc,yc]
 have hv:∀(t:VT) (y:T t.ty),den ρ (mkV t y)=den ρ' (mkV t y):=fun t y=>by
  obtain ⟨ag,ty⟩:=t
  cases ag with
  |true=>simp only [mkV,cond_true,den];rw [hc ty y]
  |false=>
   simp only [mkV,cond_false]
   have:=hc ty y
   match he:yp ty y with
   |[v]=>rw [he] at this;simpa [mk1,zt] using this
   |[]=>simp [mk1,den]
   |_::_::_=>simp [mk1,den]
 induction l with
 |nil=>rfl
 |cons a r ih=>simp only [wq,zt,hv a x.1,ih x.2]
theorem zEq {f:FuncId} {c:Con} (hc:c.Ok P f) {args:List SV} {H:SH} {nx:Nat} {k:KO R} {r:R} (h:zC1 c args H nx k=some r):∃v H' nx',zz1 P f args H nx v H' nx'∧k v H' nx'=some r:=by
 unfold zC1 at h
 split at h
 case h_2=>cases h
 rename_i x H1 hx
 obtain ⟨hg,hr⟩:=zk4 hx
 rcases yZ h with ⟨hp,h⟩ | ⟨_,h⟩
 ·obtain ⟨y,hy,h2⟩:=Qo h
  obtain ⟨Hd,n1,hz,hcall⟩:=hc.2 x y hy
  refine ⟨_,_,_,⟨hc.1,jW.refl H,wk.refl H,Nat.le_refl _,fun ν hv=>⟨hv,Nat.le_refl _,fun φ w K us g hf hl=>?_⟩⟩,h2⟩
  obtain ⟨φ1,e1,g1⟩:=hg.2 ν φ K w g
  have hl1:=hr ν H1 (GLe.refl _) φ1 K w nx us g1 (hg.1.vn hv) (hl.mono (e1 0).1) (fun _=>bad)
  refine Calls.mono (zz5 hz hcall (fun φ φ0 hF us h=>GQ hF c.args x h) (fun φ φ0 v' h=>zz4 c.res y hp h) g g1.fz hl1) ?_
  rintro e w' ⟨v',rfl,x1,x3,x4⟩
  refine ⟨v',φ,rfl,?_,Ext.refl _ _ _ _,x3,x4⟩
  rw [zbw] at x1 ⊢
  rwa [zoA c.res y (rho ν H) (fun _=>bad)]
 obtain ⟨y,hy,h2⟩:=Qo h
 obtain ⟨Hd,n1,hz,hcall⟩:=hc.2 x y hy
 refine ⟨_,_,_,⟨hc.1,hg.1.regLe,hg.1.lkeep,Nat.le_refl _,fun ν hv=>⟨hg.1.vn hv,Nat.le_refl _,fun φ w K us g hf hl=>?_⟩⟩,h2⟩
 obtain ⟨φ1,e1,g1⟩:=hg.2 ν φ K w g
 have hl1:=hr ν H1 (GLe.refl _) φ1 K w nx us g1 (hg.1.vn hv) (hl.mono (e1 0).1) (fun _=>bad)
 have hd:=zBp hz hcall (fun φ φ0 hF us h=>GQ hF c.args x h) (fun φ φ0 hF v' h=>zz3 hF c.res y h) (zE ν H1) nx
 refine Calls.mono (hd.2 φ1 w K us g1 (zkN (mid:=0) hf e1) hl1) ?_
 rintro e w' ⟨v',φ',rfl,x1,x2,x3,x4⟩
 refine ⟨v',φ',rfl,?_,(e1 nx).comp x2,x3,x4⟩
 rw [zbw] at x1 ⊢
 rwa [zoA c.res y (rho ν H1) (fun _=>bad)]
def zI {X S:Type} (B:S→Option (X ⊕ S)) (n:Nat):S→Option X:=
 Nat.rec (motive:=fun _=>S→Option X) (fun _=>none) (fun _ ih s=>match B s with
  |some (.inl x)=>some x
  |some (.inr s')=>ih s'
  |none=>none) n
theorem YJ {X S:Type} (B:S→Option (X ⊕ S)) (n:Nat) (s:S):zI B (n+1) s=match B s with
  |some (.inl x)=>some x
  |some (.inr s')=>zI B n s'
  |none=>none:=rfl
theorem znO {X S:Type} {B:S→Option (X ⊕ S)} {c:Code} {F:Fence} {Inv:S→Act→World→Prop} {Fin:X→Exit→Act→World→Prop}
  (h:∀s r,B s=some r→∀a w,Inv s a w→c.wpIn F 0 P (fun e a' w'=>match r with | .inl x=>e≠.normal∧Fin x e a' w' | .inr s'=>e=.normal∧Inv s' a' w') a w) :
  ∀(N:Nat) (s:S) (x:X),zI B N s=some x→∀a w,Inv s a w→Code.roundsIn F 0 P c (Fin x) N a w
 |0,s,x,hi,a,w,hI=>by cases hi
 |N+1,s,x,hi,a,w,hI=>by
  rw [YJ] at hi
  rw [roundsIn_succ]
  split at hi
  ·rename_i y hB
   cases hi
   refine wpIn_mono (h s _ hB a w hI) ?_
   intro e a' w' hq
   obtain ⟨he,hf⟩:=hq
   cases e<;>first | exact absurd rfl he | exact hf
  ·rename_i s' hB
   refine wpIn_mono (h s _ hB a w hI) ?_
   intro e a' w' hq
   obtain ⟨rfl,hI'⟩:=hq
   exact znO h N s' x hi a' w' hI'
  ·cases hi
theorem zBr {φ2 φ3:Ren} {Hs Ht:Hp} (g:zF φ2 Hs K w) (src:Nat→Nat)
  (h:∀b k,Ht.get b=some k→(∃k',Hs.get (src b)=some k'∧φ3 b=φ2 (src b)∧k'.rw=true∧∀L,jo φ2 w L k'→jo φ3 w L k)∨(k.rw=false∧∃L,φ3 b=some L∧jo φ3 w L k∧K L.blk))
  (hi:∀b c k k',Ht.get b=some k→Ht.get c=some k'→k.rw=true→k'.rw=true→b≠c→src b≠src c)
  (hrw:∀b k,Ht.get b=some k→k.rw=false→(∃L,φ3 b=some L∧jo φ3 w L k∧K L.blk))
  (hf:∀b,φ3 (FZ+b)=φ2 (FZ+b)):zF φ3 Ht K w:=by
 have hT:∀b k,Ht.get b=some k→k.rw=true→∃k',Hs.get (src b)=some k'∧φ3 b=φ2 (src b)∧k'.rw=true∧∀L,jo φ2 w L k'→jo φ3 w L k:=fun b k hb hk=>by
  rcases h b k hb with h1 | ⟨h1,_⟩
  ·exact h1
  ·rw [hk] at h1;cases h1
 refine ⟨fun b k hb=>?_,fun b c k k' L L' hb hc hne hk hL hL'=>?_,fun b k L hb hk hL=>?_,g.kin,fun b L hL=>g.fz b L (by rw [←hf];exact hL),fun b k L c M hb hk hL hM=>?_⟩
 ·rcases h b k hb with ⟨k',h1,h2,h3,h4⟩ | ⟨_,L,h1,h2,_⟩
  ·obtain ⟨L,hL,hB⟩:=g.rel _ _ h1
   exact ⟨L,by rw [h2];exact hL,h4 L hB⟩
  ·exact ⟨L,h1,h2⟩
 ·obtain ⟨kb,b1,b2,b3,b4⟩:=hT b k hb hk
  cases hk':k'.rw with
  |true=>
   obtain ⟨kc,c1,c2,c3,c4⟩:=hT c k' hc hk'
   exact g.sep _ _ _ _ L L' b1 c1 (hi b c k k' hb hc hk hk' hne) b3 (by rw [←b2];exact hL) (by rw [←c2];exact hL')
  |false=>
   obtain ⟨M,m1,m2,m3⟩:=hrw c k' hc hk'
   rw [hL'] at m1;cases m1
   intro e
   exact g.prot _ _ L b1 b3 (by rw [←b2];exact hL) (by rw [e];exact m3)
 ·obtain ⟨kb,b1,b2,b3,b4⟩:=hT b k hb hk
  exact g.prot _ _ L b1 b3 (by rw [←b2];exact hL)
 ·obtain ⟨kb,b1,b2,b3,b4⟩:=hT b k hb hk
  exact g.fsep _ _ L c M b1 b3 (by rw [←b2];exact hL) (by rw [←hf];exact hM)
def KX (K:Nat→Prop) (φE:Ren) (HR:Hp) (n:Nat):Prop:=K n∨∃b k L,HR.get b=some k∧φE b=some L∧L.blk=n
theorem zwR {φE φ1:Ren} {HE HR H1 H2:Hp} {wE:World} (gE:zF φE HE K wE) (hle:φE.le φ1) (hfz:∀b L,φ1 (FZ+b)=some L→φE (FZ+b)=some L∨¬KX K φE HR b)
  (hw:qw (KX K φE HR) wE w) (g:zF φ1 H1 (KX K φE HR) w)
  (h:∀b k,H2.get b=some k→(H1.get b=some k∧k.rw=true)∨(HE.get b=some k∧∃k',HR.get b=some k')):zF φ1 H2 K w:=by
 have hE:∀b k,HE.get b=some k→(∃k',HR.get b=some k')→∃L,φE b=some L∧φ1 b=some L∧jo φ1 w L k∧KX K φE HR L.blk:=fun b k hb hr=>by
  obtain ⟨k',hr⟩:=hr
  obtain ⟨L,hL,hB⟩:=gE.rel b k hb
  have hK:KX K φE HR L.blk:=.inr ⟨b,k',L,hr,hL,rfl⟩
  exact ⟨L,hL,hle b L hL,(jo.congr (hw.kept _ hK) hB).mono hle,hK⟩
 refine ⟨fun b k hb=>?_,fun b c k k' L L' hb hc hne hk hL hL'=>?_,fun b k L hb hk hL=>?_,fun c hc=>g.kin c (.inl hc),g.fz,fun b k L c M hb hk hL hM=>?_⟩
 ·rcases h b k hb with ⟨h1,_⟩ | ⟨h1,h2⟩
  ·exact g.rel b k h1
  ·obtain ⟨L,e1,e2,e3,e4⟩:=hE b k h1 h2
   exact ⟨L,e2,e3⟩
 ·rcases h b k hb with ⟨h1,hk1⟩ | ⟨h1,h2⟩
  ·rcases h c k' hc with ⟨c1,_⟩ | ⟨c1,c2⟩
   ·exact g.sep b c k k' L L' h1 c1 hne hk hL hL'
   ·obtain ⟨M,e1,e2,e3,e4⟩:=hE c k' c1 c2
    rw [hL'] at e2;cases e2
    intro e
    exact g.prot b k L h1 hk hL (by rw [e];exact e4)
  ·obtain ⟨M,e1,e2,e3,e4⟩:=hE b k h1 h2
   rw [hL] at e2;cases e2
   rcases h c k' hc with ⟨c1,ck⟩ | ⟨c1,c2⟩
   ·intro e
    exact g.prot c k' L' c1 ck hL' (by rw [←e];exact e4)
   ·obtain ⟨M',e1',e2',_,_⟩:=hE c k' c1 c2
    rw [hL'] at e2';cases e2'
    exact gE.sep b c k k' L L' h1 c1 hne hk e1 e1'
 ·rcases h b k hb with ⟨h1,_⟩ | ⟨h1,h2⟩
  ·exact fun hK=>g.prot b k L h1 hk hL (.inl hK)
  ·obtain ⟨M,e1,e2,e3,e4⟩:=hE b k h1 h2
   rw [hL] at e2;cases e2
   exact gE.prot b k L h1 hk e1
 ·rcases h b k hb with ⟨h1,_⟩ | ⟨h1,h2⟩
  ·exact g.fsep b k L c M h1 hk hL hM
  ·obtain ⟨M',e1,e2,e3,e4⟩:=hE b k h1 h2
   rw [hL] at e2;cases e2
   rcases hfz c M hM with h3 | h3
   ·exact gE.fsep b k L c M h1 hk e1 h3
   ·intro e;exact h3 (by rw [←e];exact e4)
def yP (l:List Nat) (n:Nat):Bool:=List.rec (motive:=fun _=>Bool) false (fun x _ ih=>bif Nat.beq x n then true else ih) l
theorem zBs (x:Nat) (l:List Nat) (n:Nat):yP (x::l) n=if x=n then true else yP l n:=by
 show (bif Nat.beq x n then true else yP l n)=_
 rw [zkJ]
theorem uD (n:Nat):∀l:List Nat,yP l n=true↔n∈l
 |[]=>by simp [yP]
 |x::l=>by
  rw [zBs]
  by_cases h:x=n
  ·simp [h]
  ·rw [if_neg h,uD n l]
   simp [Ne.symm h]
mutual
def UC (ns:List Nat) (lo:Nat):SV→Bool
 |.agg cs=>xG ns lo cs
 |.tup cs=>xG ns lo cs
 |.ptr b _=>Nat.blt b lo
 |.own b=>yP ns b
 |.elp b _ _ _=>Nat.blt b lo
 |.fn _ fs cs=>xG ns lo fs&&xG ns lo cs
 |.yld l=>Nat.blt l lo
 |.mp b=>Nat.blt b lo
 |.slv b _=>Nat.blt b lo
 |_=>true
def xG (ns:List Nat) (lo:Nat):List SV→Bool
 |[]=>true
 |v::r=>UC ns lo v&&xG ns lo r
end
theorem zBt {φ φ0:Ren} (hF:∀b L,φ (FZ+b)=some L→φ0 (FZ+b)=some L) (t:Ty) (l:List (T t)) (full:Bool) {v':Value} (h:zr φ (fzV (sz t) full (l.map (wo t))) v'):zr φ0 (fzV (sz t) full (l.map (wo t))) v':=by
 cases full with
 |false=>exact ZR hF (.list t) l _ (by simp [ql,wo,fzV]) v' h
 |true=>
  unfold fzV at h ⊢
  simp only [cond_true] at h ⊢
  generalize hs:sz t=s at h ⊢
  generalize he:(List.map (wo t) l).toArray=es at h ⊢
  cases h with
  |fq _ _ b o L hL hn ho hsz h=>
   refine .fq _ _ b o L (hF b L hL) hn ho hsz fun j k e u u' h1 h2 h3=>?_
   rw [←he] at h1
   simp only [List.getElem?_toArray,List.getElem?_map,Option.map_eq_some_iff] at h1
   obtain ⟨x,hx,rfl⟩:=h1
   refine ZR hF t x u ?_ u' (h j k (wo t x) u u' (by rw [←he];simp [hx]) h2 h3)
   simp only [wo,Value.cells,List.getElem?_toArray] at h2
   exact List.mem_of_getElem? h2
  |fq0 _ a=>exact .fq0 _ _
theorem zBu {φ φ0:Ren} (hF:∀b L,φ (FZ+b)=some L→φ0 (FZ+b)=some L) (t:Ty) (x:T t) (k:Nat) {v':Value} (h:zr φ (.iface k (.iface 0 (wo t x))) v'):zr φ0 (.iface k (.iface 0 (wo t x))) v':=by
 generalize he:wo t x=e at h ⊢
 cases h with
 |fp _ _ b o L hL ho h=>
  refine .fp _ _ b o L (hF b L hL) ho fun j u u' h1 h2=>?_
  subst he
  refine ZR hF t x u ?_ u' (h j u u' h1 h2)
  simp only [wo,Value.cells,List.getElem?_toArray] at h1
  exact List.mem_of_getElem? h1
theorem zt4 {φ2 φ3:Ren} {b o n c:Nat} (h:φ3 b=φ2 b) {v':Value} (hv:zr φ2 (.slice (some ⟨b,o,none⟩) n c) v'):zr φ3 (.slice (some ⟨b,o,none⟩) n c) v':=by
 cases hv with
 |sl _ _ _ _ L hL hc=>exact .sl _ _ _ _ L (by rw [h];exact hL) hc
 |slO _ _ _ _ c' L hL hc hn hl=>exact .slO _ _ _ _ c' L (by rw [h];exact hL) hc hn hl
 |slE _ _ _ a' L hL hc=>exact .slE _ _ _ a' L (by rw [h];exact hL) hc
theorem zEr {φ2 φ3:Ren} {ν:Nat→Bool} {H:SH} {b:Nat} (h:φ3 b=φ2 b) {v':Value} (hv:zr φ2 (rho ν H b) v'):zr φ3 (rho ν H b) v':=by
 unfold rho at hv ⊢
 split at hv
 ·cases hv;exact .slN _ _
 ·exact zt4 h hv
 ·exact (znH hv).elim
section
variable {φ2 φ3:Ren} {ν:Nat→Bool} {H2 H3:SH} {ns:List Nat} {lo:Nat}
 (hφ:∀b,b < lo→φ3 b=φ2 b) (hF:∀b L,φ2 (FZ+b)=some L→φ3 (FZ+b)=some L)
 (hns:∀b∈ns,b < lo) (hr:∀b∈ns,reg (zm H3 b)=reg (zm H2 b))
include hφ hF hns hr
mutual
theorem zmJ:∀(v:SV) (v':Value),UC ns lo v=true→zr φ2 (den (rho ν H2) v) v'→zr φ3 (den (rho ν H3) v) v'
 |.bool _,_,_,hv=>by simp only [den] at hv ⊢;cases hv;exact .bool _
 |.int _ _,_,_,hv=>by simp only [den] at hv ⊢;cases hv;exact .int _ _
 |.str _,_,_,hv=>by simp only [den] at hv ⊢;cases hv;exact .str _
 |.agg cs,v',hl,hv=>by
  simp only [den] at hv ⊢
  simp only [UC] at hl
  obtain ⟨ys,rfl,hq⟩:=hv.agg_inv
  exact .agg' (by simpa using zbx cs ys.toList hl (by simpa using hq))
 |.tup cs,v',hl,hv=>by
  simp only [den] at hv ⊢
  simp only [UC] at hl
  obtain ⟨ys,rfl,hq⟩:=hv.tuple_inv
  exact .tuple' (by simpa using zbx cs ys.toList hl (by simpa using hq))
 |.ptr b o,_,hl,hv=>by
  simp only [den] at hv ⊢
  simp only [UC,Nat.blt_eq] at hl
  cases hv with
  |ptr _ _ L hL=>exact .ptr _ _ L (by rw [hφ b hl];exact hL)
 |.nilp,_,_,hv=>by simp only [den] at hv ⊢;cases hv;exact .ptrN
 |.lst t l f,_,_,hv=>by simp only [den] at hv ⊢;exact zBt hF t l f hv
 |.own b,_,hl,hv=>by
  simp only [den] at hv ⊢
  simp only [UC] at hl
  have hb:=(uD _ _).1 hl
  have:rho ν H3 b=rho ν H2 b:=by unfold rho;rw [hr b hb]
  rw [this]
  exact zEr (hφ b (hns b hb)) hv
 |.nils,_,_,hv=>by simp only [den] at hv ⊢;cases hv;exact .slN _ _
 |.elp b s i k,_,hl,hv=>by
  simp only [den] at hv ⊢
  simp only [UC,Nat.blt_eq] at hl
  cases hv with
  |ptr _ _ L hL=>exact .ptr _ _ L (by rw [hφ b hl];exact hL)
 |.fel t x k,_,_,hv=>by simp only [den] at hv ⊢;exact zBu hF t x k hv
 |.fn f fs cs,v',hl,hv=>by
  simp only [den] at hv ⊢
  simp only [UC,Bool.and_eq_true] at hl
  obtain ⟨fn',ys,us,rfl,hf,h1,h2⟩:=hv.func_inv
  refine .func' ?_ (by simpa using zbx fs ys.toList hl.1 (by simpa using h1)) (by simpa using zbx cs us.toList hl.2 (by simpa using h2))
  cases hf;exact .func _
 |.yld l,_,hl,hv=>by
  simp only [den] at hv ⊢
  simp only [UC,Nat.blt_eq] at hl
  obtain ⟨fn',ys,us,rfl,hf,h1,h2⟩:=hv.func_inv
  cases hf with
  |yield _ L hL=>exact .func' (.yield _ L (by rw [hφ l hl];exact hL)) (by have:=h1.length;simp at this;simp [List.eq_nil_of_length_eq_zero this.symm,zw]) (by have:=h2.length;simp at this;simp [List.eq_nil_of_length_eq_zero this.symm,zw])
 |.nilf,_,_,hv=>by simp only [den] at hv ⊢;cases hv;exact .nilFunc
 |.nilm,_,_,hv=>by simp only [den] at hv ⊢;cases hv;exact .mapN
 |.mp b,_,hl,hv=>by
  simp only [den] at hv ⊢
  simp only [UC,Nat.blt_eq] at hl
  cases hv with
  |map _ L hL=>exact .map _ L (by rw [hφ b hl];exact hL)
 |.slv b n,_,hl,hv=>by
  simp only [den] at hv ⊢
  simp only [UC,Nat.blt_eq] at hl
  exact zt4 (hφ b hl) hv
 |.junk,_,_,hv=>by simp only [den] at hv;exact (Vb hv).elim
theorem zbx:∀(vs:List SV) (us:List Value),xG ns lo vs=true→zw φ2 (zt (rho ν H2) vs) us→zw φ3 (zt (rho ν H3) vs) us
 |[],[],_,hr=>trivial
 |[],_::_,_,hr=>by simp [zt,zw] at hr
 |v::vs,[],_,hr=>by simp [zt,zw] at hr
 |v::vs,u::us,hl,hr=>by
  simp only [xG,Bool.and_eq_true] at hl
  simp only [zt,zw] at hr ⊢
  exact ⟨zmJ v u hl.1 hr.1,zbx vs us hl.2 hr.2⟩
end
end
theorem zd5 {ν:Nat→Bool} {H:SH} {v:SV} (h:den (rho ν H) v=Fz.junk):v=.junk:=by
 cases v<;>simp only [den,Fz.junk,reduceCtorEq] at h
 ·simp [fzV] at h
 ·exact absurd h (ke ν H _)
 ·rfl
end Go.Fz.Sy
end
